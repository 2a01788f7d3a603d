/-
  Plain words of wav: Head.
-/
import Derived.Test.YtlbgcegonmbddaaDoorWP13
set_option linter.unusedSimpArgs false
set_option linter.unusedVariables false
namespace Go.Sh
open Go Go.Proofs

theorem fileL_pre (c d r : Int) (tags : List ByteArray) (D : List Int) : fileL c d r tags D = (mRiff ++ (low ((bodyL c d r tags D).length : Int) 4 ++ (mWave ++ (partL mFmt (formL c d r) ++ (tagsPartL tags ++ (mData ++ (low (D.length : Int) 4 ++ D))))))) ++ padL D := by
  have hp : partL mData D = mData ++ low (D.length : Int) 4 ++ D ++ padL D := rfl
  unfold fileL
  have hb : bodyL c d r tags D = mWave ++ partL mFmt (formL c d r) ++ tagsPartL tags ++ (mData ++ low (D.length : Int) 4 ++ D ++ padL D) := by rw [← hp]; rfl
  conv => lhs; arg 2; rw [hb]
  simp only [List.append_assoc]
theorem pre_len (N : Int) (c d r : Int) (tags : List ByteArray) (D : List Int) : (mRiff ++ (low N 4 ++ (mWave ++ (partL mFmt (formL c d r) ++ (tagsPartL tags ++ (mData ++ (low (D.length : Int) 4 ++ D))))))).length = 44 + (tagsPartL tags).length + D.length := by
  have hf : (partL mFmt (formL c d r)).length = 24 := by rw [partL_len, formL_len]; rfl
  simp only [List.length_append, hf, low_len]
  have e1 : mRiff.length = 4 := rfl
  have e2 : mWave.length = 4 := rfl
  have e3 : mData.length = 4 := rfl
  omega
theorem fileL_len (c d r : Int) (tags : List ByteArray) (D : List Int) : (fileL c d r tags D).length = 44 + (tagsPartL tags).length + D.length + D.length % 2 := by
  rw [fileL_pre, List.length_append, pre_len, padL_len]
theorem bodyL_len' (c d r : Int) (tags : List ByteArray) (D : List Int) : (bodyL c d r tags D).length = 36 + (tagsPartL tags).length + D.length + D.length % 2 := bodyL_len c d r tags D

theorem isFile_of {B : List Int} {c d r : Int} {tags : List ByteArray} {D : List Int} (hs : shapeB c d r = true) (ht : Tagv tags) (h1 : (D.length : Int) % (c * wideI d) = 0) (h2 : (D.length : Int) / (c * wideI d) ≤ 4096)
    (h3 : (fileL c d r tags D).length = B.length) (h4 : (fileL c d r tags D).take (44 + (tagsPartL tags).length + D.length) = B.take (44 + (tagsPartL tags).length + D.length)) : IsFile B c d r tags D := by
  refine ⟨hs, ht, h1, h2, B.drop (44 + (tagsPartL tags).length + D.length), ?_, ?_⟩
  · rw [List.length_drop, ← h3, fileL_len]; omega
  · have hN : (B.length : Int) - 8 = ((bodyL c d r tags D).length : Int) := by rw [← h3, fileL_len, bodyL_len']; omega
    rw [hN]
    rw [fileL_pre, take_len (pre_len _ _ _ _ _ _)] at h4
    conv => lhs; rw [← List.take_append_drop (44 + (tagsPartL tags).length + D.length) B, ← h4]
    simp only [List.append_assoc]
theorem IsFile.conds {B : List Int} {c d r : Int} {tags : List ByteArray} {D : List Int} (h : IsFile B c d r tags D) :
    (fileL c d r tags D).length = B.length ∧ (fileL c d r tags D).take (44 + (tagsPartL tags).length + D.length) = B.take (44 + (tagsPartL tags).length + D.length) ∧ 44 + (tagsPartL tags).length + D.length ≤ B.length ∧
    (B.drop (40 + (tagsPartL tags).length)).take 4 = low (D.length : Int) 4 ∧ (B.drop (44 + (tagsPartL tags).length)).take D.length = D := by
  obtain ⟨e, he, hB⟩ := h.eq
  have hB2 : B = (mRiff ++ (low ((B.length : Int) - 8) 4 ++ (mWave ++ (partL mFmt (formL c d r) ++ (tagsPartL tags ++ (mData ++ (low (D.length : Int) 4 ++ D))))))) ++ e := by
    conv => lhs; rw [hB]
    simp only [List.append_assoc]
  have hlen : B.length = 44 + (tagsPartL tags).length + D.length + D.length % 2 := by
    conv => lhs; rw [hB2, List.length_append, pre_len, he]
  obtain ⟨_, _, _, _, _, e', he', hdr⟩ := h.walk
  have hl4 : (low (D.length : Int) 4).length = 4 := low_len _ _
  refine ⟨by rw [fileL_len, hlen], ?_, by omega, ?_, ?_⟩
  · have hN : (B.length : Int) - 8 = ((bodyL c d r tags D).length : Int) := by rw [hlen, bodyL_len']; omega
    rw [fileL_pre, take_len (pre_len _ _ _ _ _ _)]
    conv => rhs; rw [hB2, hN]
    rw [take_len (pre_len _ _ _ _ _ _)]
  · rw [show 40 + (tagsPartL tags).length = 36 + ((tagsPartL tags).length + 4) by omega, ← List.drop_drop, hdr, ← List.drop_drop, drop_len rfl, drop_len (show mData.length = 4 from rfl), take_len hl4]
  · rw [show 44 + (tagsPartL tags).length = 36 + ((tagsPartL tags).length + (4 + 4)) by omega, ← List.drop_drop, hdr, ← List.drop_drop, drop_len rfl, ← List.drop_drop, drop_len (show mData.length = 4 from rfl), drop_len hl4, take_len rfl]

/-- behind the tags -/
def headK (k : Nat) (s : ByteArray) (n : Nat) (c d r : Int) (tags : List ByteArray) : Option HeadT :=
  bif decide (Int.ofNat s.size < ((44 + n + n % 2 + 8 : Nat) : Int)) then some headErr else tailE k s ((44 + n + n % 2 + 4 : Nat) : Int) ((44 + n + n % 2 + 8 : Nat) : Int) ((s.size : Int) - (44 + n + n % 2 : Nat) - 8) c d r tags

theorem f35_1 {k : Nat} (hk : 16777216 ≤ k) (s : ByteArray) (hs : s.size ≤ 1048576) (n : Nat) (hn : n ≤ 1048576) (c d r : Int) : ∀ (m : Nat) (x : List Int) (acc : List ByteArray), x.length < m → x.length ≤ 1048576 → Byt x → Tagv acc →
    (∃ new, x = tagsL new ∧ Tagv (acc ++ new) ∧ iter (fun L1 => f35_raw1 k L1) m (bytesOf x, 36, (n : Int), s, acc, 0, 0, 0, 0, 0, 0, c, d, r) = headK k s n c d r (acc ++ new)) ∨
    ((∀ new, x = tagsL new → ¬ Tagv (acc ++ new)) ∧ iter (fun L1 => f35_raw1 k L1) m (bytesOf x, 36, (n : Int), s, acc, 0, 0, 0, 0, 0, 0, c, d, r) = some headErr)
  | 0, x, acc, hm, _, _, _ => by omega
  | m + 1, x, acc, hm, hxl, hB, hacc => by
    rw [iter_succ]
    simp only [f35_raw1]
    rw [empty_eq, show bstr [] = bytesOf [] from rfl, ba_beq, cnot]
    cases x with
    | nil =>
      rw [cpos rfl]
      left
      refine ⟨[], rfl, by rw [List.append_nil]; exact hacc, ?_⟩
      rw [List.append_nil]
      have e1 : IntKind.i64.wrap (IntKind.i64.wrap (IntKind.i64.wrap ((36 : Int) + (8 : Int)) + (n : Int)) + Int.tmod (n : Int) 2) = ((44 + n + n % 2 : Nat) : Int) := by
        have t : Int.tmod (n : Int) 2 = ((n % 2 : Nat) : Int) := rfl
        rw [t, w64 (n := (36 : Int) + 8) (by omega), w64 (n := (36 : Int) + 8 + (n : Int)) (by omega), w64 (by omega)]
        omega
      rw [e1]
      have e2 : IntKind.i64.wrap (((44 + n + n % 2 : Nat) : Int) + (8 : Int)) = ((44 + n + n % 2 + 8 : Nat) : Int) := by rw [w64 (by omega)]; omega
      have e3 : IntKind.i64.wrap (((44 + n + n % 2 : Nat) : Int) + (4 : Int)) = ((44 + n + n % 2 + 4 : Nat) : Int) := by rw [w64 (by omega)]; omega
      have e4 : IntKind.i64.wrap (IntKind.i64.wrap (Int.ofNat s.size - ((44 + n + n % 2 : Nat) : Int)) - (8 : Int)) = (s.size : Int) - ((44 + n + n % 2 : Nat) : Int) - 8 := by
        rw [w64 (n := Int.ofNat s.size - ((44 + n + n % 2 : Nat) : Int)) (by simp only [Int.ofNat_eq_natCast]; omega), w64 (by simp only [Int.ofNat_eq_natCast]; omega)]; rfl
      rw [e2, e3, e4]
      rfl
    | cons y x =>
      have hy := hB y (by simp)
      have hBx : Byt x := fun z hz => hB z (by simp [hz])
      simp only [List.length_cons] at hm hxl
      rw [cneg (by
        intro h
        have := congrArg ByteArray.size h
        rw [bytesOf_size, bytesOf_size] at this
        simp at this)]
      obtain ⟨q, rfl⟩ : ∃ q : Nat, y = (q : Int) := ⟨y.toNat, by omega⟩
      have hg : Int.ofNat ((bytesOf ((q : Int) :: x)).data.toList.getD 0 (OfNat.ofNat (0 : Nat))).toNat = (q : Int) := getD_bytesOf (B := (q : Int) :: x) hB (by simp)
      simp only [hg, bytesOf_size, List.length_cons]
      have w1 : IntKind.i64.wrap (q : Int) = (q : Int) := w64 (by omega)
      have w2 : IntKind.i64.wrap ((1 : Int) + (q : Int)) = ((1 + q : Nat) : Int) := by rw [w64 (by omega)]; omega
      have w3 : IntKind.i64.wrap (Int.ofNat (x.length + 1) - (1 : Int)) = (x.length : Int) := by rw [w64 (by simp only [Int.ofNat_eq_natCast]; omega)]; simp only [Int.ofNat_eq_natCast]; omega
      rw [w1, w2, w3, cpos (by simp only [Int.ofNat_eq_natCast]; omega)]
      have e1 : (((1 + q : Nat) : Int)).toNat = 1 + q := by omega
      have e2 : (Int.ofNat (x.length + 1)).toNat = x.length + 1 := rfl
      rw [e1, e2]
      have bad : ¬ (∃ t l, tagV t = true ∧ q = t.size ∧ x.take q = numsOf t ∧ q ≤ x.length ∧ tagB t ++ tagsL l = (q : Int) :: x ∧ x.drop q = tagsL l ∧ bytesOf (x.take q) = t) → ∀ new, (q : Int) :: x = tagsL new → ¬ Tagv (acc ++ new) := by
        intro hno new hx htv
        cases new with
        | nil => simp [tagsL] at hx
        | cons t l =>
          have htt := htv.2 t (by simp)
          have hts := tagV_size htt
          have hx0 := hx
          rw [tagsL_cons, tagB_eq (by omega), List.cons_append] at hx
          obtain ⟨hn1, hx⟩ := List.cons.inj hx
          have hnt : q = t.size := by omega
          have htl : (numsOf t).length = t.size := numsOf_len' t
          have g1 : x.take q = numsOf t := by rw [hx, hnt, ← htl, List.take_left]
          have g2 : x.drop q = tagsL l := by rw [hx, hnt, ← htl, List.drop_left]
          have g4 : q ≤ x.length := by rw [hx, List.length_append]; omega
          exact hno ⟨t, l, htt, hnt, g1, g4, hx0.symm, g2, by rw [g1, bytesOf_numsOf']⟩
      by_cases hq : x.length < q
      · rw [cpos (by omega)]
        right
        exact ⟨bad (by rintro ⟨t, l, _, _, _, h, _⟩; omega), rfl⟩
      · rw [cneg (by omega), cpos (by simp only [Int.ofNat_eq_natCast]; omega), extract_bytesOf]
        have e3 : (List.take (1 + q) ((q : Int) :: x)).drop 1 = x.take q := by rw [Nat.add_comm]; simp
        have hl : (x.take q).length = q := by rw [List.length_take]; omega
        rw [e3, f44_spec k _ (by omega), Option.bind_some]
        simp only
        rw [cnot]
        cases hV : tagV (bytesOf (x.take q)) with
        | false =>
          right
          refine ⟨bad ?_, rfl⟩
          rintro ⟨t, l, h1, _, _, _, _, _, h2⟩
          rw [h2, h1] at hV; cases hV
        | true =>
          simp only [cond_true]
          rw [int_beq]
          have hsz : (bytesOf (x.take q)).size = q := by rw [bytesOf_size, hl]
          have hts := tagV_size hV
          have htb : tagB (bytesOf (x.take q)) ++ x.drop q = (q : Int) :: x := by
            rw [tagB_eq (by omega), hsz, numsOf_bytesOf' (byt_take hBx q), List.cons_append, List.take_append_drop]
          have ha8 := hacc.1
          by_cases h8 : acc.length = 8
          · rw [cpos (by rw [h8]; rfl)]
            right
            refine ⟨fun new hx htv => ?_, rfl⟩
            cases new with
            | nil => simp [tagsL] at hx
            | cons t l =>
              have := htv.1
              simp at this
              omega
          · rw [cneg (by simp only [Int.ofNat_eq_natCast]; omega), cpos (by simp only [Int.ofNat_eq_natCast]; omega), cpos (by simp; omega), cpos (by simp only [Int.ofNat_eq_natCast]; omega), extract_bytesOf]
            have e4 : (List.take (x.length + 1) ((q : Int) :: x)).drop (1 + q) = x.drop q := by rw [Nat.add_comm 1 q]; simp
            rw [e4]
            have hacc' : Tagv (acc ++ [bytesOf (x.take q)]) := by
              refine ⟨by simp; omega, fun t ht => ?_⟩
              rcases List.mem_append.1 ht with h | h
              · exact hacc.2 t h
              · simp at h; rw [h]; exact hV
            rcases f35_1 hk s hs n hn c d r m (x.drop q) (acc ++ [bytesOf (x.take q)]) (by rw [List.length_drop]; omega) (by rw [List.length_drop]; omega) (byt_drop hBx q) hacc' with ⟨new, h1, h2, h3⟩ | ⟨h1, h2⟩
            · left
              refine ⟨bytesOf (x.take q) :: new, ?_, ?_, ?_⟩
              · rw [tagsL_cons, ← h1, htb]
              · simpa using h2
              · rw [h3]; simp
            · right
              refine ⟨fun new hx htv => ?_, h2⟩
              cases new with
              | nil => simp [tagsL] at hx
              | cons t l =>
                have htt := htv.2 t (by simp)
                have hts := tagV_size htt
                rw [tagsL_cons, tagB_eq (by omega), List.cons_append] at hx
                obtain ⟨hn1, hx⟩ := List.cons.inj hx
                have hnt : q = t.size := by omega
                have htl : (numsOf t).length = t.size := numsOf_len' t
                have g1 : x.take q = numsOf t := by rw [hx, hnt, ← htl, List.take_left]
                have g2 : x.drop q = tagsL l := by rw [hx, hnt, ← htl, List.drop_left]
                have g3 : bytesOf (x.take q) = t := by rw [g1, bytesOf_numsOf']
                refine h1 l g2 ?_
                rw [g3]
                simpa using htv
end Go.Sh
