import Derived.Test.YtfljgkbgnfbhlaaP8
set_option linter.unusedSimpArgs false
namespace Go.Sh
open Go Go.Proofs

theorem fourB_num4 {v : ByteArray} (h : v.size = 4) : fourB (num4 v : Int) = v := by
  obtain ⟨a, b, c, d, rfl⟩ := len4 h
  have hn : num4 ⟨#[a, b, c, d]⟩ = ((a.toNat * 256 + b.toNat) * 256 + c.toNat) * 256 + d.toNat := rfl
  have ha := UInt8.toNat_lt a
  have hb := UInt8.toNat_lt b
  have hc := UInt8.toNat_lt c
  have hd := UInt8.toNat_lt d
  rw [hn]
  generalize hm : ((a.toNat * 256 + b.toNat) * 256 + c.toNat) * 256 + d.toNat = m
  have e : ∀ (m : Nat) (x : UInt8), m % 256 = x.toNat → UInt8.ofNat (IntKind.u8.wrap (m : Int)).toNat = x := by
    intro m x hx
    have : IntKind.u8.wrap (m : Int) = (x.toNat : Int) := by rw [IntKind.wrap_u8]; omega
    rw [this, Int.toNat_natCast]
    exact UInt8.ofNat_toNat
  have dv : ∀ q : Nat, 0 < q → ((m : Int)).fdiv (q : Int) = ((m / q : Nat) : Int) := by
    intro q hq
    rw [Int.fdiv_eq_ediv_of_nonneg _ (by omega)]; rfl
  have d1 := dv 16777216 (by omega)
  have d2 := dv 65536 (by omega)
  have d3 := dv 256 (by omega)
  unfold fourB
  rw [show ((16777216 : Int)) = ((16777216 : Nat) : Int) from rfl, show ((65536 : Int)) = ((65536 : Nat) : Int) from rfl, show ((256 : Int)) = ((256 : Nat) : Int) from rfl, d1, d2, d3,
    e _ a (by omega), e _ b (by omega), e _ c (by omega), e _ d (by omega)]

theorem chain_weak {b : Bool} {l : List Cell} {p : Option ByteArray} (h : chain b p l = true) : chain b none l = true := by
  cases l with
  | nil => rfl
  | cons c l =>
    simp only [chain, Bool.and_eq_true] at h ⊢
    exact ⟨⟨h.1.1, trivial⟩, h.2⟩
theorem chain_take {b : Bool} : ∀ {l : List Cell} {p : Option ByteArray} (i : Nat), chain b p l = true → chain b p (l.take i) = true
  | [], _, i, _ => by simp [chain]
  | c :: l, p, 0, h => rfl
  | c :: l, p, i + 1, h => by
    simp only [List.take_succ_cons, chain, Bool.and_eq_true] at h ⊢
    exact ⟨h.1, chain_take i h.2⟩
theorem chain_drop {b : Bool} : ∀ {l : List Cell} {p : Option ByteArray} (i : Nat), chain b p l = true → chain b none (l.drop i) = true
  | [], _, i, _ => by simp [chain]
  | c :: l, p, 0, h => chain_weak h
  | c :: l, p, i + 1, h => by
    simp only [chain, Bool.and_eq_true] at h
    exact chain_drop i h.2
theorem chain_above {b : Bool} : ∀ {l : List Cell} {q : ByteArray}, chain b (some q) l = true → ∀ c ∈ l, sless q c.1 = true
  | [], _, _, c, hc => by cases hc
  | d :: l, q, h, c, hc => by
    simp only [chain, Bool.and_eq_true] at h
    rcases List.mem_cons.1 hc with rfl | hc
    · exact h.1.2
    · exact sless_trans h.1.2 (chain_above h.2 c hc)
theorem chain_sorted {b : Bool} : ∀ {l : List Cell} {p : Option ByteArray}, chain b p l = true → ∀ (i j : Nat) (hi : i < l.length) (hj : j < l.length), i < j → sless l[i].1 l[j].1 = true
  | [], _, _, i, _, hi, _, _ => by simp at hi
  | c :: l, p, h, 0, j + 1, hi, hj, _ => by
    simp only [chain, Bool.and_eq_true] at h
    simp only [List.getElem_cons_zero, List.getElem_cons_succ]
    exact chain_above h.2 _ (List.getElem_mem _)
  | c :: l, p, h, i + 1, j + 1, hi, hj, hij => by
    simp only [chain, Bool.and_eq_true] at h
    simp only [List.getElem_cons_succ]
    exact chain_sorted h.2 i j (by simpa using hi) (by simpa using hj) (by omega)

theorem split_pieces (l : List Cell) (i : Nat) (h : i < l.length) : l.take i ++ [l[i]] ++ l.drop (i + 1) = l := by
  rw [← List.take_succ_eq_append_getElem h, List.take_append_drop]

theorem right_take {n : Nd} (h : rightB n = true) (i : Nat) : rightB (n.1, n.2.1, n.2.2.1.take i, ()) = true := by
  have hl := right_len h
  have hc := chain_take i (right_chain h)
  unfold rightB at h ⊢
  simp only [Bool.and_eq_true, decide_eq_true_eq] at h ⊢
  exact ⟨⟨by rw [List.length_take]; omega, h.1.2⟩, hc⟩
theorem right_drop {n : Nd} (h : rightB n = true) (hb : n.1 = false) (i : Nat) : rightB (false, 0, n.2.2.1.drop i, ()) = true := by
  have hl := right_len h
  have hc := chain_drop i (right_chain h)
  rw [hb] at hc
  unfold rightB
  simp only [Bool.and_eq_true, decide_eq_true_eq, cond_false]
  exact ⟨⟨by rw [List.length_drop]; omega, trivial⟩, hc⟩
theorem right_dropb {n : Nd} (h : rightB n = true) (hb : n.1 = true) (i : Nat) (f : Int) (h1 : 1 ≤ f) (h2 : f < 4294967296) : rightB (true, f, n.2.2.1.drop i, ()) = true := by
  have hl := right_len h
  have hc := chain_drop i (right_chain h)
  rw [hb] at hc
  unfold rightB
  simp only [Bool.and_eq_true, decide_eq_true_eq, cond_true]
  exact ⟨⟨by rw [List.length_drop]; omega, ⟨h1, h2⟩⟩, hc⟩

/-- merged they are the node again -/
theorem merge_split {n : Nd} (hr : rightB n = true) (i : Nat) (hi : i < n.2.2.1.length) : mergeB (splitRes n i).1 (splitRes n i).2.1 (splitRes n i).2.2.1 = (n, 0, ()) := by
  obtain ⟨b, f, l, u⟩ := n
  simp only at hi
  have e5 : l.getD i dflt = l[i] := getD_of hi
  cases b with
  | false =>
    simp only [splitRes, cond_false, mergeB, decide_true, cond_true, List.append_nil]
    rw [right_take hr i, right_drop hr rfl i]
    simp only [Bool.and_self, cond_true, List.take_append_drop]
    rw [show rightB (false, f, l, ()) = true from hr]
    rfl
  | true =>
    have hv := vals4 hr rfl l[i] (List.getElem_mem hi)
    have hz := (cellOk_val4 (chain_mem (right_chain hr) l[i] (List.getElem_mem hi))).2
    have hlt := num4_lt l[i].2.1
    simp only [splitRes, cond_true, mergeB, decide_true, e5, fourB_num4 hv]
    rw [right_take hr i, right_dropb hr rfl (i + 1) _ (by omega) (by omega)]
    have hp := split_pieces l i hi
    simp only [Bool.and_self, cond_true]
    rw [show [(l[i].1, l[i].2.1, ())] = [l[i]] from rfl, hp, show rightB (true, f, l, ()) = true from hr]
    rfl

theorem f6_loop2 (k : Nat) (key : ByteArray) (b1 : Bool) (f1 : Int) (l : List Cell) (b : Bool) (f : Int) (l0 : List Cell) (hl : l.length ≤ 1048576) (h1 : ∀ c ∈ l, sless c.1 key = false) (h2 : b = true → ∀ c ∈ l, c.1 ≠ key) : ∀ (d m j : Nat), l.length - j = d → j ≤ l.length → d < m →
    iter (fun L2 => f6_raw2 k L2) m (Int.ofNat j, key, b1, f1, l, b, f, l0) = some (true, ()) := by
  intro d
  induction d with
  | zero =>
    intro m j hd hj hm
    obtain ⟨m, rfl⟩ := pos_of_lt hm
    simp only [iter_succ, f6_raw2]
    rw [cneg (by simp only [Int.ofNat_eq_natCast]; omega)]
  | succ d ih =>
    intro m j hd hj hm
    obtain ⟨m, rfl⟩ := pos_of_lt hm
    have hlt : j < l.length := by omega
    have h0 := ih m (j + 1) (by omega) (by omega) (by omega)
    have e1 : IntKind.i64.wrap (Int.ofNat j + 1) = Int.ofNat (j + 1) := by rw [w64 (by simp only [Int.ofNat_eq_natCast]; omega)]; rfl
    have e5 : l.getD (Int.ofNat j).toNat (ByteArray.mk #[], ByteArray.mk #[], ()) = l[j] := getD_of hlt
    have g1 : Op.bytesLess l[j].1.toList key.toList = false := h1 _ (List.getElem_mem hlt)
    simp only [iter_succ, f6_raw2, e1]
    rw [cpos (by simp only [Int.ofNat_eq_natCast]; omega), cpos (by simp only [Int.ofNat_eq_natCast]; omega), e5, g1, h0, ba_beq]
    cases b with
    | false => rfl
    | true =>
      have := h2 rfl _ (List.getElem_mem hlt)
      simp only [cond_true, cond_false]
      rw [cpos (by simp only [Int.ofNat_eq_natCast]; omega), cneg this]

theorem f6_loop1 (k : Nat) (key : ByteArray) (b1 : Bool) (f1 : Int) (l : List Cell) (b2 : Bool) (f2 : Int) (l2 : List Cell) (b : Bool) (f : Int) (l0 : List Cell) (hl : l.length ≤ 1048576) (h1 : ∀ c ∈ l, sless c.1 key = true)
    (L2 : Int × ByteArray × Bool × Int × List Cell × Bool × Int × List Cell → Option (Bool × Unit)) (h2 : L2 (0, key, b2, f2, l2, b, f, l0) = some (true, ())) : ∀ (d m j : Nat), l.length - j = d → j ≤ l.length → d < m →
    iter (fun L1 => f6_raw1 k L2 L1) m (Int.ofNat j, key, b1, f1, l, b2, f2, l2, b, f, l0) = some (true, ()) := by
  intro d
  induction d with
  | zero =>
    intro m j hd hj hm
    obtain ⟨m, rfl⟩ := pos_of_lt hm
    simp only [iter_succ, f6_raw1]
    rw [cneg (by simp only [Int.ofNat_eq_natCast]; omega)]
    exact h2
  | succ d ih =>
    intro m j hd hj hm
    obtain ⟨m, rfl⟩ := pos_of_lt hm
    have hlt : j < l.length := by omega
    have h0 := ih m (j + 1) (by omega) (by omega) (by omega)
    have e1 : IntKind.i64.wrap (Int.ofNat j + 1) = Int.ofNat (j + 1) := by rw [w64 (by simp only [Int.ofNat_eq_natCast]; omega)]; rfl
    have e5 : l.getD (Int.ofNat j).toNat (ByteArray.mk #[], ByteArray.mk #[], ()) = l[j] := getD_of hlt
    have g1 : Op.bytesLess l[j].1.toList key.toList = true := h1 _ (List.getElem_mem hlt)
    simp only [iter_succ, f6_raw1, e1]
    rw [cpos (by simp only [Int.ofNat_eq_natCast]; omega), cpos (by simp only [Int.ofNat_eq_natCast]; omega), e5, g1, h0]
    rfl
end Go.Sh
