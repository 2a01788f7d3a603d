import Derived.Test.YtfljgkbgnfbhlaaDoorDP11
set_option linter.unusedSimpArgs false
namespace Go.Sh
open Go Go.Proofs

theorem toList_extract (s : ByteArray) (a b : Nat) : (s.extract a b).data.toList = (s.data.toList.take b).drop a := by
  rw [ByteArray.data_extract, Array.toList_extract, List.extract_eq_take_drop, List.drop_take]
theorem numsOf_extract (s : ByteArray) (a b : Nat) : numsOf (s.extract a b) = ((numsOf s).take b).drop a := by
  unfold numsOf
  rw [toList_extract, List.map_drop, List.map_take]
theorem bytesOf_numsOf (s : ByteArray) : bytesOf (numsOf s) = s := by
  apply ba_ext
  show (List.map (fun n : Int => UInt8.ofNat n.toNat) (numsOf s)).toArray.toList = s.data.toList
  unfold numsOf
  rw [List.toList_toArray, List.map_map]
  conv => rhs; rw [← List.map_id s.data.toList]
  apply List.map_congr_left
  intro b _
  simp
theorem numsOf_bytesOf {l : List Int} (h : ∀ x ∈ l, 0 ≤ x ∧ x < 256) : numsOf (bytesOf l) = l := by
  unfold numsOf
  show List.map _ (List.map (fun n : Int => UInt8.ofNat n.toNat) l).toArray.toList = l
  rw [List.toList_toArray, List.map_map]
  conv => rhs; rw [← List.map_id l]
  apply List.map_congr_left
  intro x hx
  have := h x hx
  have e : (UInt8.ofNat x.toNat).toNat = x.toNat := UInt8.toNat_ofNat_of_lt' (show x.toNat < UInt8.size by have : UInt8.size = 256 := rfl; omega)
  simp only [Function.comp, e, id]
  omega
theorem numsOf_inj {a b : ByteArray} (h : numsOf a = numsOf b) : a = b := by
  rw [← bytesOf_numsOf a, h, bytesOf_numsOf]
theorem byteAt_nums (s : ByteArray) (i : Nat) : (byteAt s i : Int) = (numsOf s).getD i 0 := by
  unfold byteAt numsOf
  simp only [List.getD_eq_getElem?_getD, List.getElem?_map]
  cases s.data.toList[i]? <;> rfl
theorem size_extract (s : ByteArray) (a b : Nat) : (s.extract a b).size = min b s.size - a := by
  rw [← numsOf_len, numsOf_extract, List.length_drop, List.length_take, numsOf_len]

def parse : Nat → ByteArray → Option (List Cell × ByteArray)
  | 0, s => some ([], s)
  | c + 1, s => if s.size < 2 ∨ s.size < 2 + byteAt s 0 + byteAt s 1 then none
    else (parse c (s.extract (2 + byteAt s 0 + byteAt s 1) s.size)).map fun x => ((s.extract 2 (2 + byteAt s 0), s.extract (2 + byteAt s 0) (2 + byteAt s 0 + byteAt s 1), ()) :: x.1, x.2)

theorem nums_cut (s : ByteArray) (x y : Nat) (hx : byteAt s 0 = x) (hy : byteAt s 1 = y) (h : 2 + x + y ≤ s.size) :
    numsOf s = [(x : Int), (y : Int)] ++ numsOf (s.extract 2 (2 + x)) ++ numsOf (s.extract (2 + x) (2 + x + y)) ++ numsOf (s.extract (2 + x + y) s.size) := by
  have hl := numsOf_len s
  have h0 := byteAt_nums s 0
  have h1 := byteAt_nums s 1
  rw [hx] at h0
  rw [hy] at h1
  rw [numsOf_extract, numsOf_extract, numsOf_extract, h0, h1]
  generalize numsOf s = L at *
  match L, hl with
  | [], hl => simp at hl; omega
  | [a], hl => simp at hl; omega
  | a :: b :: L, hl =>
    simp only [List.length_cons] at hl
    simp only [List.getD_cons_zero, List.getD_cons_succ]
    rw [show s.size = L.length + 2 by omega]
    rw [show (List.take (L.length + 2) (a :: b :: L)) = a :: b :: L from List.take_of_length_le (by simp)]
    rw [show 2 + x = x + 2 by omega, show x + 2 + y = x + y + 2 by omega]
    simp only [List.take_succ_cons, List.drop_succ_cons, List.drop_zero, List.cons_append, List.nil_append, List.append_assoc]
    congr 2
    conv => lhs; rw [← List.take_append_drop x L, ← List.take_append_drop y (L.drop x)]
    rw [List.drop_drop, List.drop_take, Nat.add_sub_cancel_left]

theorem parse_nums : ∀ (c : Nat) (s : ByteArray) (l : List Cell) (r : ByteArray), parse c s = some (l, r) → numsOf s = l.flatMap encCell ++ numsOf r ∧ l.length = c
  | 0, s, l, r, h => by
    simp only [parse, Option.some.injEq, Prod.mk.injEq] at h
    obtain ⟨rfl, rfl⟩ := h
    exact ⟨rfl, rfl⟩
  | c + 1, s, l, r, h => by
    simp only [parse] at h
    split at h
    · cases h
    · rename_i hs
      simp only [Option.map_eq_some_iff, Prod.mk.injEq] at h
      obtain ⟨⟨l', r'⟩, h1, rfl, rfl⟩ := h
      obtain ⟨e1, e2⟩ := parse_nums c _ _ _ h1
      refine ⟨?_, by simp [e2]⟩
      rw [nums_cut s _ _ rfl rfl (by omega), e1, List.flatMap_cons, encCell]
      simp only [size_extract]
      rw [show min (2 + byteAt s 0) s.size - 2 = byteAt s 0 by omega, show min (2 + byteAt s 0 + byteAt s 1) s.size - (2 + byteAt s 0) = byteAt s 1 by omega]
      simp

theorem parse_enc : ∀ (l : List Cell) (z : List Int), (∀ c ∈ l, c.1.size < 256 ∧ c.2.1.size < 256) → (∀ x ∈ z, 0 ≤ x ∧ x < 256) → parse l.length (bytesOf (l.flatMap encCell ++ z)) = some (l, bytesOf z)
  | [], z, _, _ => rfl
  | c :: l, z, hc, hz => by
    obtain ⟨h1, h2⟩ := hc c (List.mem_cons_self ..)
    have hl := fun c' h => hc c' (List.mem_cons_of_mem _ h)
    have ih := parse_enc l z hl hz
    have hby : ∀ x ∈ (c :: l).flatMap encCell ++ z, 0 ≤ x ∧ x < 256 := by
      intro x hx
      rcases List.mem_append.1 hx with hx | hx
      · obtain ⟨d, hd, hx⟩ := List.mem_flatMap.1 hx
        exact encCell_byte (hc d hd).1 (hc d hd).2 x hx
      · exact hz x hx
    have hby2 : ∀ x ∈ l.flatMap encCell ++ z, 0 ≤ x ∧ x < 256 := by
      intro x hx
      apply hby
      rw [List.flatMap_cons, List.append_assoc]
      exact List.mem_append_right _ hx
    have hn := numsOf_bytesOf hby
    have hs := bytesOf_size ((c :: l).flatMap encCell ++ z)
    generalize bytesOf ((c :: l).flatMap encCell ++ z) = s at *
    rw [List.flatMap_cons, List.append_assoc] at hn hs
    have b0 : byteAt s 0 = c.1.size := by
      have := byteAt_nums s 0
      rw [hn] at this
      simp [encCell] at this
      omega
    have b1 : byteAt s 1 = c.2.1.size := by
      have := byteAt_nums s 1
      rw [hn] at this
      simp [encCell] at this
      omega
    rw [List.length_append, encCell_len] at hs
    unfold cellSz at hs
    have e0 : s.extract 2 (2 + c.1.size) = c.1 := by
      apply numsOf_inj
      rw [numsOf_extract, hn, encCell]
      simp only [List.cons_append, List.nil_append, List.append_assoc]
      rw [show 2 + c.1.size = c.1.size + 2 by omega]
      simp only [List.take_succ_cons, List.drop_succ_cons, List.drop_zero]
      rw [← numsOf_len c.1, List.take_left]
    have e1 : s.extract (2 + c.1.size) (2 + c.1.size + c.2.1.size) = c.2.1 := by
      apply numsOf_inj
      rw [numsOf_extract, hn, encCell]
      simp only [List.cons_append, List.nil_append, List.append_assoc]
      rw [show 2 + c.1.size + c.2.1.size = c.1.size + c.2.1.size + 2 by omega, show 2 + c.1.size = c.1.size + 2 by omega]
      simp only [List.take_succ_cons, List.drop_succ_cons]
      rw [List.drop_take, Nat.add_sub_cancel_left, ← numsOf_len c.1, List.drop_left, ← numsOf_len c.2.1, List.take_left]
    have e2 : s.extract (2 + c.1.size + c.2.1.size) s.size = bytesOf (l.flatMap encCell ++ z) := by
      apply numsOf_inj
      rw [numsOf_bytesOf hby2, numsOf_extract, ← numsOf_len s, List.take_length, hn, encCell]
      simp only [List.cons_append, List.nil_append, List.append_assoc]
      rw [show 2 + c.1.size + c.2.1.size = c.1.size + c.2.1.size + 2 by omega]
      simp only [List.drop_succ_cons]
      rw [← List.drop_drop, ← numsOf_len c.1, List.drop_left, ← numsOf_len c.2.1, List.drop_left]
    rw [List.length_cons]
    simp only [parse, b0, b1]
    rw [if_neg (by omega), e0, e1, e2, ih]
    rfl
end Go.Sh
