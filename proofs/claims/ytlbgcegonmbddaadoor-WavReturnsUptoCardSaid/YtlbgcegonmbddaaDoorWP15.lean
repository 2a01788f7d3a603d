/-
  Plain words of wav: Head.
-/
import Derived.Test.YtlbgcegonmbddaaDoorWP14
set_option linter.unusedSimpArgs false
set_option linter.unusedVariables false
namespace Go.Sh
open Go Go.Proofs

theorem f35_spec {k : Nat} (hk : 16777216 ≤ k) (B : List Int) (hb : B.length ≤ 524288) (hB : Byt B) :
    (∃ c d r tags D, IsFile B c d r tags D ∧ f35_F k (bytesOf B, ()) = some (headOk c d r tags D)) ∨ ((∀ c d r tags D, ¬ IsFile B c d r tags D) ∧ f35_F k (bytesOf B, ()) = some headErr) := by
  have hf : f35_F k (bytesOf B, ()) = f35_raw0 k (f35_L1 k) (bytesOf B, ()) := rfl
  rw [hf]
  simp only [f35_raw0, bytesOf_size]
  have w4 : (2 : Int) ^ (8 * 4) = 4294967296 := rfl
  have w2 : (2 : Int) ^ (8 * 2) = 65536 := rfl
  by_cases h44 : B.length < 44
  · rw [cpos (by simp only [Int.ofNat_eq_natCast]; omega)]
    right
    refine ⟨fun c d r tags D hI => ?_, rfl⟩
    have := hI.walk.1
    omega
  rw [cneg (by simp only [Int.ofNat_eq_natCast]; omega), cpos (by simp only [Int.ofNat_eq_natCast]; omega)]
  have sl : ∀ a n : Nat, (B.take (a + n)).drop a = (B.drop a).take n := by intro a n; rw [List.drop_take]; congr 1; omega
  have sll : ∀ a n : Nat, a + n ≤ B.length → ((B.drop a).take n).length = n := by intro a n h; rw [List.length_take, List.length_drop]; omega
  rw [extract_bytesOf, sl 22 2, f40_spec hk _ (by rw [sll 22 2 (by omega)]; omega) (byt_take (byt_drop hB _) _), Option.bind_some]
  simp only
  rw [cpos (by simp only [Int.ofNat_eq_natCast]; omega), extract_bytesOf, sl 24 4, f40_spec hk _ (by rw [sll 24 4 (by omega)]; omega) (byt_take (byt_drop hB _) _), Option.bind_some]
  simp only
  rw [cpos (by simp only [Int.ofNat_eq_natCast]; omega), extract_bytesOf, sl 34 2, f40_spec hk _ (by rw [sll 34 2 (by omega)]; omega) (byt_take (byt_drop hB _) _), Option.bind_some]
  simp only
  have isnum : ∀ c d r tags D, IsFile B c d r tags D → numL ((B.drop 22).take 2) = c ∧ numL ((B.drop 34).take 2) = d ∧ numL ((B.drop 24).take 4) = r := by
    intro c d r tags D hI
    obtain ⟨_, _, _, _, p, _⟩ := hI.walk
    obtain ⟨_, _, _, a1, a2, _, _, a3⟩ := form_parts.1 p
    simp only [List.drop_drop] at a1 a2 a3
    have hc := shape_c hI.shape; have hd := shape_d hI.shape; have hr := shape_r hI.shape
    exact ⟨by rw [a1, numL_low 2 c (by omega) (by omega)], by rw [a3, numL_low 2 d (by omega) (by omega)], by rw [a2, numL_low 4 r (by omega) (by omega)]⟩
  generalize numL ((B.drop 22).take 2) = c at isnum ⊢
  generalize numL ((B.drop 34).take 2) = d at isnum ⊢
  generalize numL ((B.drop 24).take 4) = r at isnum ⊢
  rw [f43_spec, Option.bind_some]
  simp only
  rw [cnot]
  cases hs : shapeB c d r with
  | false =>
    right
    refine ⟨fun c0 d0 r0 tags D hI => ?_, rfl⟩
    obtain ⟨rfl, rfl, rfl⟩ := isnum c0 d0 r0 tags D hI
    have := hI.shape
    rw [hs] at this; cases this
  | true =>
    simp only [cond_true]
    rw [cpos (by simp only [Int.ofNat_eq_natCast]; omega)]
    have e0 : (ByteArray.mk #[OfNat.ofNat (116 : Nat), OfNat.ofNat (97 : Nat), OfNat.ofNat (103 : Nat), OfNat.ofNat (115 : Nat)]) = bytesOf mTags := rfl
    rw [e0, extract_bytesOf, sl 36 4, ba_beq]
    have hsame : (bytesOf ((B.drop 36).take 4) = bytesOf mTags) ↔ (B.drop 36).take 4 = mTags := ⟨fun h => bytesOf_inj (byt_take (byt_drop hB _) _) (by intro x hx; simp [mTags] at hx; omega) h, fun h => by rw [h]⟩
    by_cases htg : (B.drop 36).take 4 = mTags
    · rw [cpos (hsame.2 htg), cpos (by simp only [Int.ofNat_eq_natCast]; omega), extract_bytesOf, sl 40 4, f40_spec hk _ (by rw [sll 40 4 (by omega)]; omega) (byt_take (byt_drop hB _) _), Option.bind_some]
      simp only
      have hn := numL_bound _ (byt_take (byt_drop hB 40) 4)
      rw [sll 40 4 (by omega), w4] at hn
      obtain ⟨n, hn'⟩ : ∃ n : Nat, numL ((B.drop 40).take 4) = (n : Int) := ⟨(numL ((B.drop 40).take 4)).toNat, by omega⟩
      have hlow : (B.drop 40).take 4 = low (n : Int) 4 := by
        have := low_numL _ (byt_take (byt_drop hB 40) 4)
        rw [sll 40 4 (by omega), hn'] at this
        exact this.symm
      rw [hn'] at hn ⊢
      -- a file has these tags
      have istags : ∀ tags D, IsFile B c d r tags D → tags ≠ [] ∧ n = (tagsL tags).length ∧ 44 + n ≤ B.length ∧ (B.drop 44).take n = tagsL tags ∧ (tagsPartL tags).length = 8 + n + n % 2 := by
        intro tags D hI
        obtain ⟨_, _, _, _, _, e, he, hdr⟩ := hI.walk
        have hne : tags ≠ [] := by
          rintro rfl
          rw [hdr] at htg
          exact absurd (show mData = mTags from (take_len (a := mData) rfl).symm.trans htg) (by decide)
        have hl := hI.tv.len
        have hp : tagsPartL tags = mTags ++ (low ((tagsL tags).length : Int) 4 ++ (tagsL tags ++ padL (tagsL tags))) := by
          unfold tagsPartL; rw [if_neg hne]; simp [partL]
        have hl4 : (low ((tagsL tags).length : Int) 4).length = 4 := low_len _ _
        rw [hp] at hdr
        simp only [List.append_assoc] at hdr
        have d40 : B.drop 40 = low ((tagsL tags).length : Int) 4 ++ (tagsL tags ++ (padL (tagsL tags) ++ (mData ++ (low (D.length : Int) 4 ++ (D ++ e))))) := by
          rw [show 40 = 36 + 4 from rfl, ← List.drop_drop, hdr]; exact drop_len rfl
        have d44 : B.drop 44 = tagsL tags ++ (padL (tagsL tags) ++ (mData ++ (low (D.length : Int) 4 ++ (D ++ e)))) := by
          rw [show 44 = 40 + 4 from rfl, ← List.drop_drop, d40]; exact drop_len hl4
        have hnn : n = (tagsL tags).length := by
          rw [d40, take_len hl4] at hlow
          have := low_inj (s := 4) (n := ((tagsL tags).length : Int)) (m := (n : Int)) (by omega) (by omega) hlow
          omega
        refine ⟨hne, hnn, ?_, by rw [d44, take_len hnn.symm], ?_⟩
        · have := congrArg List.length d44
          rw [List.length_drop, List.length_append] at this
          omega
        · rw [hp]
          simp only [List.length_append, hl4, padL_len]
          have e1 : mTags.length = 4 := rfl
          omega
      have e1 : IntKind.i64.wrap (IntKind.i64.wrap (Int.ofNat B.length - (36 : Int)) - (8 : Int)) = (B.length : Int) - 44 := by
        rw [w64 (n := Int.ofNat B.length - 36) (by simp only [Int.ofNat_eq_natCast]; omega), w64 (by simp only [Int.ofNat_eq_natCast]; omega)]; simp only [Int.ofNat_eq_natCast]; omega
      rw [e1]
      by_cases hE : (B.length : Int) - 44 < (n : Int)
      · rw [cpos hE]
        right
        refine ⟨fun c0 d0 r0 tags D hI => ?_, rfl⟩
        obtain ⟨rfl, rfl, rfl⟩ := isnum c0 d0 r0 tags D hI
        have := (istags tags D hI).2.2.1
        omega
      rw [cneg hE]
      have e2 : IntKind.i64.wrap ((44 : Int) + (n : Int)) = ((44 + n : Nat) : Int) := by rw [w64 (by omega)]; omega
      have e3 : (((44 + n : Nat) : Int)).toNat = 44 + n := by omega
      rw [e2, cpos (by simp only [Int.ofNat_eq_natCast]; omega), e3, extract_bytesOf, sl 44 n]
      generalize hx : (B.drop 44).take n = x
      have hxl : x.length = n := by rw [← hx]; exact sll 44 n (by omega)
      have hBx : Byt x := by rw [← hx]; exact byt_take (byt_drop hB _) _
      have hL : f35_L1 k (bytesOf x, 36, (n : Int), bytesOf B, [], 0, 0, 0, 0, 0, 0, c, d, r) = iter (fun L1 => f35_raw1 k L1) k (bytesOf x, 36, (n : Int), bytesOf B, [], 0, 0, 0, 0, 0, 0, c, d, r) := rfl
      rw [hL]
      rcases f35_1 hk (bytesOf B) (by rw [bytesOf_size]; omega) n (by omega) c d r k x [] (by omega) (by omega) hBx ⟨by simp, by simp⟩ with ⟨new, h1, h2, h3⟩ | ⟨h1, h2⟩
      · rw [List.nil_append] at h2 h3
        rw [h3]
        unfold headK
        rw [bytesOf_size]
        -- the tags are these
        have hinj : ∀ tags D, IsFile B c d r tags D → tagsL tags = tagsL new := by
          intro tags D hI
          obtain ⟨_, _, _, q, _⟩ := istags tags D hI
          rw [← q, hx, h1]
        have inj : ∀ (a b : List ByteArray), (∀ t ∈ a, tagV t = true) → (∀ t ∈ b, tagV t = true) → tagsL a = tagsL b → a = b := by
          intro a
          induction a with
          | nil =>
            intro b _ _ h
            cases b with
            | nil => rfl
            | cons t l => rw [tagsL_cons] at h; simp [tagsL, tagB] at h
          | cons t l ih =>
            intro b ha hb' h
            cases b with
            | nil => rw [tagsL_cons] at h; simp [tagsL, tagB] at h
            | cons t' l' =>
              have h1 := tagV_size (ha t (by simp))
              have h2 := tagV_size (hb' t' (by simp))
              rw [tagsL_cons, tagsL_cons, tagB_eq (by omega), tagB_eq (by omega), List.cons_append, List.cons_append] at h
              obtain ⟨h3, h4⟩ := List.cons.inj h
              have hlen : (numsOf t).length = (numsOf t').length := by rw [numsOf_len', numsOf_len']; omega
              obtain ⟨h5, h6⟩ := List.append_inj h4 hlen
              have : t = t' := by rw [← bytesOf_numsOf' t, h5, bytesOf_numsOf']
              rw [this, ih l' (fun t ht => ha t (by simp [ht])) (fun t ht => hb' t (by simp [ht])) h6]
        by_cases hlen : B.length < 44 + n + n % 2 + 8
        · rw [cpos (by simp only [Int.ofNat_eq_natCast]; omega)]
          right
          refine ⟨fun c0 d0 r0 tags D hI => ?_, rfl⟩
          obtain ⟨rfl, rfl, rfl⟩ := isnum c0 d0 r0 tags D hI
          have h5 := hI.conds.2.2.1
          have h6 := (istags tags D hI).2.2.2.2
          omega
        rw [cneg (by simp only [Int.ofNat_eq_natCast]; omega)]
        have htail := tail_spec hk B (by omega) hB (44 + n + n % 2) (by omega) hs h2
        rcases htail with ⟨q1, q2⟩ | ⟨D, q1, q2, q3, q4, q5, q6, q7, q8⟩
        · rw [q1]
          right
          refine ⟨fun c0 d0 r0 tags D hI => ?_, rfl⟩
          obtain ⟨rfl, rfl, rfl⟩ := isnum c0 d0 r0 tags D hI
          have g1 := istags tags D hI
          have g2 := hI.conds
          have g3 : tags = new := inj tags new hI.tv.2 h2.2 (hinj tags D hI)
          subst g3
          apply q2 D
          have ea : 44 + n + n % 2 + 4 = 40 + (tagsPartL tags).length := by omega
          have eb : 44 + n + n % 2 + 8 = 44 + (tagsPartL tags).length := by omega
          rw [ea, eb]
          exact ⟨hI.blk, hI.cnt, g2.2.2.2.1, g2.2.2.2.2, g2.1, g2.2.2.1, g2.2.1⟩
        · rw [q1]
          by_cases hnew : new = []
          · -- no tags, but a mark: no file
            exfalso
            subst hnew
            have hn0 : n = 0 := by rw [← hxl, h1]; rfl
            rw [hn0] at q8
            have := congrArg (fun l => (List.drop 36 l).take 4) q8
            rw [List.drop_take, List.drop_take, List.take_take, List.take_take, Nat.min_eq_left (by omega), htg] at this
            have hfd : (fileL c d r [] D).drop 36 = mData ++ (low (D.length : Int) 4 ++ (D ++ padL D)) := by
              rw [fileL_pre]
              have hf24 : (partL mFmt (formL c d r)).length = 24 := by rw [partL_len, formL_len]; rfl
              rw [show tagsPartL [] = [] from rfl, List.nil_append]
              have : (mRiff ++ (low ((bodyL c d r [] D).length : Int) 4 ++ (mWave ++ partL mFmt (formL c d r)))).length = 36 := by
                simp only [List.length_append, hf24, low_len]; rfl
              have e : mRiff ++ (low ((bodyL c d r [] D).length : Int) 4 ++ (mWave ++ (partL mFmt (formL c d r) ++ (mData ++ (low (D.length : Int) 4 ++ D))))) ++ padL D = (mRiff ++ (low ((bodyL c d r [] D).length : Int) 4 ++ (mWave ++ partL mFmt (formL c d r)))) ++ (mData ++ (low (D.length : Int) 4 ++ (D ++ padL D))) := by simp
              rw [e, drop_len this]
            rw [hfd, take_len (show mData.length = 4 from rfl)] at this
            exact absurd this (by decide)
          · left
            have hp : (tagsPartL new).length = 8 + n + n % 2 := by
              unfold tagsPartL
              rw [if_neg hnew, partL_len, ← h1, hxl]
              have e1 : mTags.length = 4 := rfl
              omega
            have eb : 44 + n + n % 2 + 8 + D.length = 44 + (tagsPartL new).length + D.length := by omega
            rw [eb] at q8
            exact ⟨c, d, r, new, D, isFile_of hs h2 q2 q3 q6 q8, rfl⟩
      · rw [h2]
        right
        refine ⟨fun c0 d0 r0 tags D hI => ?_, rfl⟩
        obtain ⟨rfl, rfl, rfl⟩ := isnum c0 d0 r0 tags D hI
        obtain ⟨_, _, _, q, _⟩ := istags tags D hI
        exact h1 tags (by rw [← hx, q]) (by simpa using hI.tv)
    · rw [cneg (fun h => htg (hsame.1 h)), cneg (by simp only [Int.ofNat_eq_natCast]; omega)]
      have e1 : IntKind.i64.wrap (IntKind.i64.wrap (Int.ofNat B.length - (36 : Int)) - (8 : Int)) = (B.length : Int) - (36 : Nat) - 8 := by
        rw [w64 (n := Int.ofNat B.length - 36) (by simp only [Int.ofNat_eq_natCast]; omega), w64 (by simp only [Int.ofNat_eq_natCast]; omega)]; simp only [Int.ofNat_eq_natCast]; omega
      rw [e1]
      have htail := tail_spec hk B (by omega) hB 36 (by omega) hs (tags := []) ⟨by simp, by simp⟩
      have notags : ∀ tags D, IsFile B c d r tags D → tags = [] := by
        intro tags D hI
        apply Classical.byContradiction
        intro hne
        obtain ⟨_, _, _, _, _, e, he, hdr⟩ := hI.walk
        apply htg
        rw [hdr]
        unfold tagsPartL
        rw [if_neg hne]
        simp only [partL, List.append_assoc]
        exact take_len rfl
      have shape : tailE k (bytesOf B) ((36 + 4 : Nat) : Int) ((36 + 8 : Nat) : Int) ((B.length : Int) - (36 : Nat) - 8) c d r [] = tailE k (bytesOf B) (40 : Int) (44 : Int) ((B.length : Int) - (36 : Nat) - 8) c d r [] := rfl
      rw [shape] at htail
      unfold tailE at htail
      simp only [bytesOf_size] at htail
      rcases htail with ⟨q1, q2⟩ | ⟨D, q1, q2, q3, q4, q5, q6, q7, q8⟩
      · right
        refine ⟨fun c0 d0 r0 tags D hI => ?_, q1⟩
        obtain ⟨rfl, rfl, rfl⟩ := isnum c0 d0 r0 tags D hI
        have g3 := notags tags D hI
        subst g3
        have g2 := hI.conds
        exact q2 D ⟨hI.blk, hI.cnt, g2.2.2.2.1, g2.2.2.2.2, g2.1, g2.2.2.1, g2.2.1⟩
      · left
        exact ⟨c, d, r, [], D, isFile_of hs ⟨by simp, by simp⟩ q2 q3 q6 q8, q1⟩
end Go.Sh
