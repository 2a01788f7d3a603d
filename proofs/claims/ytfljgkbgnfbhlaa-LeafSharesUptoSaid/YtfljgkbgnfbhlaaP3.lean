import Derived.Test.YtfljgkbgnfbhlaaP2
set_option linter.unusedSimpArgs false
namespace Go.Sh
open Go Go.Proofs

theorem chain_mem {b : Bool} : ∀ {l : List Cell} {p : Option ByteArray}, chain b p l = true → ∀ c ∈ l, cellOk b c = true
  | [], _, _, c, hc => by cases hc
  | d :: l, p, h, c, hc => by
    simp only [chain, Bool.and_eq_true] at h
    rcases List.mem_cons.1 hc with rfl | hc
    · exact h.1.1
    · exact chain_mem h.2 c hc
theorem right_chain {n : Nd} (h : rightB n = true) : chain n.1 none n.2.2.1 = true := by
  unfold rightB at h; simp only [Bool.and_eq_true] at h; exact h.2
theorem right_len {n : Nd} (h : rightB n = true) : n.2.2.1.length ≤ 255 := by
  unfold rightB at h; simp only [Bool.and_eq_true, decide_eq_true_eq] at h; exact h.1.1
theorem right_first {n : Nd} (h : rightB n = true) (hb : n.1 = true) : 1 ≤ n.2.1 ∧ n.2.1 < 4294967296 := by
  unfold rightB at h; rw [hb] at h; simp only [Bool.and_eq_true, decide_eq_true_eq, cond_true] at h; exact h.1.2
theorem right_first0 {n : Nd} (h : rightB n = true) (hb : n.1 = false) : n.2.1 = 0 := by
  unfold rightB at h; rw [hb] at h; simp only [Bool.and_eq_true, decide_eq_true_eq, cond_false] at h; exact h.1.2
theorem cellOk_key {b : Bool} {c : Cell} (h : cellOk b c = true) : 0 < c.1.size ∧ c.1.size ≤ 32 := by
  unfold cellOk at h; simp only [Bool.and_eq_true, decide_eq_true_eq] at h; omega
theorem cellOk_val4 {c : Cell} (h : cellOk true c = true) : c.2.1.size = 4 ∧ num4 c.2.1 ≠ 0 := by
  unfold cellOk at h; simp only [Bool.and_eq_true, decide_eq_true_eq, cond_true] at h; exact h.2
theorem cellOk_val {b : Bool} {c : Cell} (h : cellOk b c = true) : c.2.1.size ≤ 48 := by
  cases b
  · unfold cellOk at h; simp only [Bool.and_eq_true, decide_eq_true_eq, cond_false] at h; exact h.2
  · have := cellOk_val4 h; omega

/-- how many keys, from the front, are not above -/
def cnt (key : ByteArray) : List Cell → Nat
  | [] => 0
  | c :: l => bif sless key c.1 then 0 else cnt key l + 1
def dflt : Cell := (ByteArray.mk #[], ByteArray.mk #[], ())
def pageOf (f : Int) (l : List Cell) (i : Nat) : Int := if i = 0 then f else (num4 (l.getD (i - 1) dflt).2.1 : Int)
def childB (n : Nd) (key : ByteArray) : Int × Int × Int × Unit :=
  bif rightB n then (bif n.1 then (Int.ofNat (cnt key n.2.2.1), pageOf n.2.1 n.2.2.1 (cnt key n.2.2.1), 0, ()) else (0, 0, 1, ())) else (0, 0, 2, ())
theorem cnt_le (key : ByteArray) : ∀ (l : List Cell), cnt key l ≤ l.length
  | [] => Nat.le_refl _
  | c :: l => by
    have := cnt_le key l
    simp only [cnt, List.length_cons]
    cases sless key c.1 <;> simp <;> omega

theorem f11_loop (k : Nat) (hk : 4 < k) (key : ByteArray) (f : Int) (l : List Cell) (hl : l.length ≤ 255) (hc : ∀ c ∈ l, c.2.1.size = 4) : ∀ (d m j : Nat), l.length - j = d → j ≤ l.length → d < m →
    iter (fun L1 => f11_raw1 k L1) m (Int.ofNat j, key, true, f, l) = some ((Int.ofNat (j + cnt key (l.drop j)), pageOf f l (j + cnt key (l.drop j)), 0, ()), ()) := by
  have out : ∀ (j : Nat), j ≤ l.length → (bif Int.ofNat j == (0 : Int) then some ((OfNat.ofNat (0 : Nat), f, OfNat.ofNat (0 : Nat), ()), ()) else bif decide ((0 : Int) ≤ IntKind.i64.wrap (Int.ofNat j - (1 : Int)) ∧ IntKind.i64.wrap (Int.ofNat j - (1 : Int)) < Int.ofNat l.length) then
      (f26_F k (((l.getD (IntKind.i64.wrap (Int.ofNat j - (1 : Int))).toNat (ByteArray.mk #[], ByteArray.mk #[], ())).1, (l.getD (IntKind.i64.wrap (Int.ofNat j - (1 : Int))).toNat (ByteArray.mk #[], ByteArray.mk #[], ())).2.1, ()), ())).bind fun y => some ((Int.ofNat j, y.1, OfNat.ofNat (0 : Nat), ()), ()) else none) = (some ((Int.ofNat j, pageOf f l j, 0, ()), ()) : Option ((Int × Int × Int × Unit) × Unit)) := by
    intro j hj
    cases j with
    | zero => simp [pageOf]
    | succ i =>
      have hi : i < l.length := by omega
      have e2 : IntKind.i64.wrap (Int.ofNat (i + 1) - 1) = Int.ofNat i := by rw [w64 (by simp only [Int.ofNat_eq_natCast]; omega)]; simp only [Int.ofNat_eq_natCast]; omega
      have e4 : decide ((0 : Int) ≤ Int.ofNat i ∧ Int.ofNat i < Int.ofNat l.length) = true := decide_eq_true (by simp only [Int.ofNat_eq_natCast]; omega)
      have e5 : l.getD (Int.ofNat i).toNat (ByteArray.mk #[], ByteArray.mk #[], ()) = l[i] := getD_of hi
      have e6 : (Int.ofNat (i + 1) == (0 : Int)) = false := by rw [int_beq]; exact decide_eq_false (by simp only [Int.ofNat_eq_natCast]; omega)
      have h26 := f26_ok k (l[i].1, l[i].2.1, ()) hk (by have := hc l[i] (List.getElem_mem hi); simp only; omega)
      rw [e6, e2, e4, e5, h26]
      simp only [cond_false, cond_true, Option.bind_some, pageOf, Nat.add_sub_cancel]
      rw [getD_of hi]
      simp
  intro d
  induction d with
  | zero =>
    intro m j hd hj hm
    obtain ⟨m, rfl⟩ := pos_of_lt hm
    obtain rfl : j = l.length := by omega
    simp only [iter_succ, f11_raw1]
    rw [cneg (by simp only [Int.ofNat_eq_natCast]; omega)]
    refine (out l.length hj).trans ?_
    simp [cnt]
  | succ d ih =>
    intro m j hd hj hm
    obtain ⟨m, rfl⟩ := pos_of_lt hm
    have hlt : j < l.length := by omega
    have h0 := ih m (j + 1) (by omega) (by omega) (by omega)
    have e1 : IntKind.i64.wrap (Int.ofNat j + 1) = Int.ofNat (j + 1) := by rw [w64 (by simp only [Int.ofNat_eq_natCast]; omega)]; rfl
    simp only [iter_succ, f11_raw1, e1, h0]
    rw [cpos (by simp only [Int.ofNat_eq_natCast]; omega), cpos (by simp only [Int.ofNat_eq_natCast]; omega), show l.getD (Int.ofNat j).toNat (ByteArray.mk #[], ByteArray.mk #[], ()) = l[j] from getD_of hlt, notle, List.drop_eq_getElem_cons hlt]
    simp only [cnt]
    cases sless key l[j].1 with
    | true => exact out j hj
    | false =>
      simp only [Bool.not_false, cond_true, cond_false]
      rw [show j + (cnt key (l.drop (j + 1)) + 1) = j + 1 + cnt key (l.drop (j + 1)) by omega]

theorem f11_ok (k : Nat) (hk : 256 < k) (n : Nd) (key : ByteArray) : f11_F k (n, key, ()) = some (childB n key, ()) := by
  obtain ⟨b, f, l, u⟩ := n
  unfold f11_F
  simp only [f11_raw0]
  rw [f25_ok k _ hk]
  unfold childB
  cases hr : rightB (b, f, l, ()) with
  | false => simp
  | true =>
    cases b with
    | false => simp
    | true =>
      have h := f11_loop k (by omega) key f l (right_len hr) (fun c hc => (cellOk_val4 (chain_mem (right_chain hr) c hc)).1) l.length k 0 (by omega) (by omega) (by have := right_len hr; simp only at this; omega)
      simp only [Option.bind_some, Bool.not_true, cond_false, cond_true]
      simp only [List.drop_zero, Nat.zero_add] at h
      exact h

theorem f10_loop (k : Nat) (key : ByteArray) (f : Int) (l : List Cell) (hl : l.length ≤ 255) (hc : ∀ c ∈ l, c.2.1.size = 4) : ∀ (d m j : Nat), l.length - j = d → j ≤ l.length → d < m →
    iter (fun L1 => f10_raw1 k L1) m (Int.ofNat j, key, pageOf f l j, true, f, l) = some ((Int.ofNat (j + cnt key (l.drop j)), pageOf f l (j + cnt key (l.drop j)), 0, ()), ()) := by
  intro d
  induction d with
  | zero =>
    intro m j hd hj hm
    obtain ⟨m, rfl⟩ := pos_of_lt hm
    obtain rfl : j = l.length := by omega
    simp only [iter_succ, f10_raw1]
    rw [cneg (by simp only [Int.ofNat_eq_natCast]; omega)]
    simp [cnt]
  | succ d ih =>
    intro m j hd hj hm
    obtain ⟨m, rfl⟩ := pos_of_lt hm
    have hlt : j < l.length := by omega
    have h0 := ih m (j + 1) (by omega) (by omega) (by omega)
    have e1 : IntKind.i64.wrap (Int.ofNat j + 1) = Int.ofNat (j + 1) := by rw [w64 (by simp only [Int.ofNat_eq_natCast]; omega)]; rfl
    have hp : pageOf f l (j + 1) = (num4 l[j].2.1 : Int) := by
      simp only [pageOf, Nat.add_sub_cancel, getD_of hlt]; simp
    simp only [iter_succ, f10_raw1, e1]
    have e5 : l.getD (Int.ofNat j).toNat (ByteArray.mk #[], ByteArray.mk #[], ()) = l[j] := getD_of hlt
    have h24 := f24_ok k l[j].2.1 (by have := hc l[j] (List.getElem_mem hlt); omega)
    rw [cpos (by simp only [Int.ofNat_eq_natCast]; omega), cpos (by simp only [Int.ofNat_eq_natCast]; omega), e5, cpos (by simp only [Int.ofNat_eq_natCast]; omega), h24, notle, List.drop_eq_getElem_cons hlt]
    simp only [Option.bind_some]
    rw [← hp, h0]
    simp only [cnt]
    cases sless key l[j].1 with
    | true => simp
    | false =>
      simp only [Bool.not_false, cond_true, cond_false]
      rw [show j + (cnt key (l.drop (j + 1)) + 1) = j + 1 + cnt key (l.drop (j + 1)) by omega]

theorem f10_ok (k : Nat) (hk : 256 < k) (n : Nd) (key : ByteArray) : f10_F k (n, key, ()) = some (childB n key, ()) := by
  obtain ⟨b, f, l, u⟩ := n
  unfold f10_F
  simp only [f10_raw0]
  rw [f22_ok k _ hk]
  unfold childB
  cases hr : rightB (b, f, l, ()) with
  | false => simp
  | true =>
    cases b with
    | false => simp
    | true =>
      have h := f10_loop k key f l (right_len hr) (fun c hc => (cellOk_val4 (chain_mem (right_chain hr) c hc)).1) l.length k 0 (by omega) (by omega) (by have := right_len hr; simp only at this; omega)
      simp only [Option.bind_some, Bool.not_true, cond_false, cond_true]
      simp only [List.drop_zero, Nat.zero_add] at h
      exact h

theorem f12_ok (k : Nat) (n : Nd) (h : n.2.2.1.length < 1073741824) : f12_F k (n, ()) = some (n, ()) := by
  obtain ⟨b, f, l, u⟩ := n
  simp only at h
  unfold f12_F
  simp only [f12_raw0]
  rw [show IntKind.i64.wrap (Int.ofNat l.length + 2) = Int.ofNat l.length + 2 from w64 (by simp only [Int.ofNat_eq_natCast]; omega)]
  rw [cpos (by simp only [Int.ofNat_eq_natCast]; omega), cpos (by omega)]
  rfl
theorem f18_ok (k : Nat) (n : Nd) : f18_F k (n, ()) = some (n, ()) := rfl
end Go.Sh
