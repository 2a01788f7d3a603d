import Derived.Test.YtfljgkbgnfbhlaaDoorDP3
set_option linter.unusedSimpArgs false
namespace Go.Sh
open Go Go.Proofs

/-- the bytes of a cell in a page -/
def encCell (c : Cell) : List Int := [Int.ofNat c.1.size, Int.ofNat c.2.1.size] ++ numsOf c.1 ++ numsOf c.2.1
def pageHead (n : Nd) : List Int := [bif n.1 then 2 else 1, Int.ofNat n.2.2.1.length] ++ (bif n.1 then numsOf (fourB n.2.1) else [])
def pageBody (n : Nd) : List Int := pageHead n ++ n.2.2.1.flatMap encCell
def pageInts (n : Nd) : List Int := pageBody n ++ List.replicate (256 - (pageBody n).length) 0

theorem numsOf_len (s : ByteArray) : (numsOf s).length = s.size := by simp [numsOf]
theorem encCell_len (c : Cell) : (encCell c).length = cellSz c := by simp [encCell, numsOf_len, cellSz]; omega
theorem flat_len : ∀ (l : List Cell), (l.flatMap encCell).length = allSz l
  | [] => rfl
  | c :: l => by rw [List.flatMap_cons, List.length_append, encCell_len, flat_len l, allSz_cons]
theorem head_len (n : Nd) : (pageHead n).length = headSz n.1 := by
  unfold pageHead headSz
  cases n.1 <;> simp [numsOf_len, fourB_size]
theorem body_len (n : Nd) : (pageBody n).length = nodeSz n := by
  unfold pageBody nodeSz
  rw [List.length_append, head_len, flat_len]

theorem f33_ok (k : Nat) (xs : List Int) (c : Int) (h : xs.length < 1000000) : f33_F k (xs, c, ()) = some (Value.nilIface, xs ++ [c], ()) := by
  unfold f33_F
  simp only [f33_raw0, f39_F, Option.bind_some]
  rw [cpos (by simp; omega)]
theorem f34_ok (k : Nat) (xs : List Int) (s : ByteArray) (h : xs.length + s.size < 1000000) : f34_F k (xs, s, ()) = some ((Int.ofNat s.size, Value.nilIface, ()), xs ++ numsOf s, ()) := by
  unfold f34_F
  simp only [f34_raw0, f39_F, Option.bind_some]
  rw [cpos (by simp; omega)]
  rfl
theorem f35_ok (k : Nat) (xs ys : List Int) (h : xs.length + ys.length < 1000000) : f35_F k (xs, ys, ()) = some ((Int.ofNat ys.length, Value.nilIface, ()), xs ++ ys, ()) := by
  unfold f35_F
  simp only [f35_raw0, f39_F, Option.bind_some]
  rw [cpos (by omega)]

theorem numsOf_byte {s : ByteArray} : ∀ n ∈ numsOf s, 0 ≤ n ∧ n < 256 := by
  intro n hn
  simp only [numsOf, List.mem_map] at hn
  obtain ⟨b, _, rfl⟩ := hn
  have := UInt8.toNat_lt b
  omega
theorem encCell_byte {c : Cell} (h1 : c.1.size < 256) (h2 : c.2.1.size < 256) : ∀ n ∈ encCell c, 0 ≤ n ∧ n < 256 := by
  intro n hn
  simp only [encCell, List.mem_append, List.mem_cons, List.not_mem_nil, or_false] at hn
  rcases hn with ((rfl | rfl) | hn) | hn
  · simp only [Int.ofNat_eq_natCast]; omega
  · simp only [Int.ofNat_eq_natCast]; omega
  · exact numsOf_byte n hn
  · exact numsOf_byte n hn
theorem body_byte {n : Nd} (h : rightB n = true) : ∀ x ∈ pageBody n, 0 ≤ x ∧ x < 256 := by
  intro x hx
  have hl := right_len h
  simp only [pageBody, pageHead, List.mem_append, List.mem_cons, List.not_mem_nil, or_false, List.mem_flatMap] at hx
  rcases hx with ((rfl | rfl) | hx) | ⟨c, hc, hx⟩
  · cases n.1 <;> simp
  · simp only [Int.ofNat_eq_natCast]; omega
  · cases hb : n.1 with
    | true => rw [hb] at hx; exact numsOf_byte x hx
    | false => rw [hb] at hx; simp at hx
  · have hok := chain_mem (right_chain h) c hc
    exact encCell_byte (by have := cellOk_key hok; omega) (by have := cellOk_val hok; omega) x hx
theorem page_byte {n : Nd} (h : rightB n = true) : ∀ x ∈ pageInts n, 0 ≤ x ∧ x < 256 := by
  intro x hx
  simp only [pageInts, List.mem_append, List.mem_replicate] at hx
  rcases hx with hx | ⟨_, rfl⟩
  · exact body_byte h x hx
  · simp

def encB (n : Nd) : ByteArray × Int × Unit := bif rightB n then (bif decide (256 < nodeSz n) then (ByteArray.mk #[], 14, ()) else (bytesOf (pageInts n), 0, ())) else (ByteArray.mk #[], 2, ())

theorem f23_loop (k : Nat) (l : List Cell) (pre : List Int) (hl : l.length ≤ 255) (hb : pre.length + allSz l ≤ 256) (hp : ∀ x ∈ pre, 0 ≤ x ∧ x < 256) (hc : ∀ c ∈ l, c.1.size ≤ 32 ∧ c.2.1.size ≤ 48) :
    ∀ (d m j : Nat), l.length - j = d → j ≤ l.length → d < m →
    iter (fun L1 => f23_raw1 k L1) m (Int.ofNat l.length, Int.ofNat j, l, pre ++ (l.take j).flatMap encCell) =
      some ((bytesOf (pre ++ l.flatMap encCell ++ List.replicate (256 - (pre ++ l.flatMap encCell).length) 0), 0, ()), ()) := by
  intro d
  induction d with
  | zero =>
    intro m j hd hj hm
    obtain ⟨m, rfl⟩ := pos_of_lt hm
    obtain rfl : j = l.length := by omega
    simp only [iter_succ, f23_raw1, List.take_length]
    have hlen : (pre ++ l.flatMap encCell).length = pre.length + allSz l := by rw [List.length_append, flat_len]
    generalize hq : pre ++ l.flatMap encCell = q at *
    have e : IntKind.i64.wrap ((256 : Int) - Int.ofNat q.length) = Int.ofNat (256 - q.length) := by rw [w64 (by simp only [Int.ofNat_eq_natCast]; omega)]; simp only [Int.ofNat_eq_natCast]; omega
    rw [cneg (by simp only [Int.ofNat_eq_natCast]; omega)]
    have h36 : f36_F k (q, ()) = some (Int.ofNat q.length, q, ()) := rfl
    rw [h36]
    simp only [Option.bind_some, e]
    rw [cpos (by simp only [Int.ofNat_eq_natCast]; omega)]
    rw [show (Int.ofNat (256 - q.length)).toNat = 256 - q.length from rfl, f35_ok _ _ _ (by simp; omega)]
    simp only [Option.bind_some]
    have h37 : f37_F k (q ++ List.replicate (256 - q.length) 0, ()) = some (bytesOf (q ++ List.replicate (256 - q.length) 0), ()) := by
      unfold f37_F strF
      have : (decide ((q ++ List.replicate (256 - q.length) (0 : Int)).length < 1099511627776) && (q ++ List.replicate (256 - q.length) (0 : Int)).all (fun n => decide (0 ≤ n ∧ n < 256))) = true := by
        rw [Bool.and_eq_true]
        refine ⟨decide_eq_true (by simp; omega), List.all_eq_true.2 fun x hx => decide_eq_true ?_⟩
        rcases List.mem_append.1 hx with hx | hx
        · rw [← hq] at hx
          rcases List.mem_append.1 hx with hx | hx
          · exact hp x hx
          · obtain ⟨c, hcm, hx⟩ := List.mem_flatMap.1 hx
            have := hc c hcm
            exact encCell_byte (by omega) (by omega) x hx
        · rw [(List.mem_replicate.1 hx).2]; omega
      simp only [this, cond_true]
    rw [h37]
    rfl
  | succ d ih =>
    intro m j hd hj hm
    obtain ⟨m, rfl⟩ := pos_of_lt hm
    have hlt : j < l.length := by omega
    have h0 := ih m (j + 1) (by omega) (by omega) (by omega)
    have e1 : IntKind.i64.wrap (Int.ofNat j + 1) = Int.ofNat (j + 1) := by rw [w64 (by simp only [Int.ofNat_eq_natCast]; omega)]; rfl
    simp only [iter_succ, f23_raw1, e1]
    have e5 : l.getD (Int.ofNat j).toNat (ByteArray.mk #[], ByteArray.mk #[], ()) = l[j] := getD_of hlt
    have hcj := hc l[j] (List.getElem_mem hlt)
    have hts := allSz_take_succ hlt
    have htl := allSz_take_le l (j + 1)
    have hpl : (pre ++ (l.take j).flatMap encCell).length = pre.length + allSz (l.take j) := by rw [List.length_append, flat_len]
    have hcs : cellSz l[j] = 2 + l[j].1.size + l[j].2.1.size := rfl
    rw [cpos (by simp only [Int.ofNat_eq_natCast]; omega), cpos (by simp only [Int.ofNat_eq_natCast]; omega), e5]
    rw [wu8 (n := Int.ofNat l[j].1.size) (by simp only [Int.ofNat_eq_natCast]; omega), wu8 (n := Int.ofNat l[j].2.1.size) (by simp only [Int.ofNat_eq_natCast]; omega)]
    rw [f33_ok _ _ _ (by omega)]
    simp only [Option.bind_some]
    rw [f33_ok _ _ _ (by simp only [List.length_append, List.length_singleton] at hpl ⊢; omega)]
    simp only [Option.bind_some]
    rw [f34_ok _ _ _ (by simp only [List.length_append, List.length_singleton] at hpl ⊢; omega)]
    simp only [Option.bind_some]
    rw [f34_ok _ _ _ (by simp only [List.length_append, List.length_singleton, numsOf_len] at hpl ⊢; omega)]
    simp only [Option.bind_some]
    have e6 : pre ++ (l.take j).flatMap encCell ++ [Int.ofNat l[j].1.size] ++ [Int.ofNat l[j].2.1.size] ++ numsOf l[j].1 ++ numsOf l[j].2.1 = pre ++ (l.take (j + 1)).flatMap encCell := by
      rw [List.take_succ_eq_append_getElem hlt, List.flatMap_append]
      simp [encCell]
    rw [e6]
    exact h0

theorem f23_ok (k : Nat) (hk : 256 < k) (n : Nd) (hb : allSz n.2.2.1 ≤ 1099511627776) (hn : n.2.2.1.length < k) : f23_F k (n, ()) = some (encB n, ()) := by
  obtain ⟨b, f, l, u⟩ := n
  simp only at hb hn
  unfold f23_F
  simp only [f23_raw0]
  rw [f25_ok k _ hk]
  unfold encB
  cases hr : rightB (b, f, l, ()) with
  | false => simp
  | true =>
    simp only [Option.bind_some, Bool.not_true, cond_false, cond_true]
    rw [f19_ok k (b, f, l, ()) hn hb]
    simp only [Option.bind_some]
    by_cases hs : 256 < nodeSz (b, f, l, ())
    · rw [cpos (by omega), cpos (by omega)]
    · have hs2 : nodeSz (b, f, l, ()) = headSz b + allSz l := rfl
      have hl := right_len hr
      simp only at hl
      have hok : ∀ c ∈ l, c.1.size ≤ 32 ∧ c.2.1.size ≤ 48 := fun c hc => ⟨(cellOk_key (chain_mem (right_chain hr) c hc)).2, cellOk_val (chain_mem (right_chain hr) c hc)⟩
      rw [cneg (by omega), cneg (by omega)]
      rw [f33_ok _ _ _ (by simp), f33_ok _ _ _ (by simp)]
      simp only [Option.bind_some]
      rw [f33_ok _ _ _ (by simp), f33_ok _ _ _ (by simp)]
      simp only [Option.bind_some]
      rw [wu8 (n := Int.ofNat l.length) (by simp only [Int.ofNat_eq_natCast]; omega)]
      cases b with
      | true =>
        simp only [cond_true]
        rw [f27_ok]
        simp only [Option.bind_some]
        rw [f34_ok _ _ _ (by simp [fourB_size])]
        simp only [Option.bind_some]
        have h := f23_loop k l (pageHead (true, f, l, ())) hl (by rw [head_len]; show headSz true + allSz l ≤ 256; omega) (fun x hx => body_byte hr x (by unfold pageBody; exact List.mem_append_left _ hx)) hok l.length k 0 (by omega) (by omega) (by omega)
        simp only [List.take_zero, List.flatMap_nil, List.append_nil] at h
        exact h
      | false =>
        simp only [cond_false]
        have h := f23_loop k l (pageHead (false, f, l, ())) hl (by rw [head_len]; show headSz false + allSz l ≤ 256; omega) (fun x hx => body_byte hr x (by unfold pageBody; exact List.mem_append_left _ hx)) hok l.length k 0 (by omega) (by omega) (by omega)
        simp only [List.take_zero, List.flatMap_nil, List.append_nil] at h
        exact h

theorem f9_ok (k : Nat) (hk : 256 < k) : f9_F k () = some (true, ()) := by
  unfold f9_F
  simp only [f9_raw0]
  rw [f23_ok k hk (false, 0, [(ByteArray.mk #[OfNat.ofNat (97 : Nat)], ByteArray.mk #[OfNat.ofNat (49 : Nat)], ())], ()) (by decide) (by simp; omega)]
  kernel_rfl
end Go.Sh
