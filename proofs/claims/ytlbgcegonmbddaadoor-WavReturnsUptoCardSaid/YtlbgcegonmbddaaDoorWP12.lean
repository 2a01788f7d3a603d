/-
  Plain words of wav: look.
-/
import Derived.Test.YtlbgcegonmbddaaDoorWP11
set_option linter.unusedSimpArgs false
set_option linter.unusedVariables false
namespace Go.Sh
open Go Go.Proofs

/-- these bytes are the file of these samples -/
structure IsFile (B : List Int) (c d r : Int) (tags : List ByteArray) (D : List Int) : Prop where
  shape : shapeB c d r = true
  tv : Tagv tags
  blk : (D.length : Int) % (c * wideI d) = 0
  cnt : (D.length : Int) / (c * wideI d) ≤ 4096
  eq : ∃ e, e.length = D.length % 2 ∧ B = mRiff ++ (low ((B.length : Int) - 8) 4 ++ (mWave ++ (partL mFmt (formL c d r) ++ (tagsPartL tags ++ (mData ++ (low (D.length : Int) 4 ++ (D ++ e)))))))

theorem shape_c {c d r : Int} (h : shapeB c d r = true) : 1 ≤ c ∧ c ≤ 2 := by have := of_decide_eq_true h; exact ⟨this.1, this.2.1⟩
theorem shape_d {c d r : Int} (h : shapeB c d r = true) : 4 ≤ d ∧ d ≤ 24 := by have := of_decide_eq_true h; exact ⟨this.2.2.1, this.2.2.2.1⟩
theorem shape_r {c d r : Int} (h : shapeB c d r = true) : 1 ≤ r ∧ r ≤ 655350 := by have := of_decide_eq_true h; exact this.2.2.2.2
theorem shape_b {c d r : Int} (h : shapeB c d r = true) : 1 ≤ c * wideI d ∧ c * wideI d ≤ 6 := block_ok (shape_c h) (shape_d h)
theorem shape_rb {c d r : Int} (h : shapeB c d r = true) : 0 ≤ r * (c * wideI d) ∧ r * (c * wideI d) ≤ 3932100 := by
  have h1 := shape_b h
  have h2 := shape_r h
  exact ⟨Int.mul_nonneg (by omega) (by omega), Int.mul_le_mul h2.2 h1.2 (by omega) (by omega)⟩

theorem form_inj {c d r c0 d0 r0 : Int} (h : shapeB c d r = true) (h0 : shapeB c0 d0 r0 = true) (he : partL mFmt (formL c d r) = partL mFmt (formL c0 d0 r0)) : c = c0 ∧ d = d0 ∧ r = r0 := by
  have hl : (partL mFmt (formL c d r)).length = 24 := by rw [partL_len, formL_len]; rfl
  have e1 : (partL mFmt (formL c d r)).take 24 = partL mFmt (formL c d r) := List.take_of_length_le (by omega)
  obtain ⟨_, _, _, a1, a2, _, _, a3⟩ := form_parts.1 e1
  obtain ⟨_, _, _, b1, b2, _, _, b3⟩ := form_parts.1 (e1.trans he)
  have hc := shape_c h; have hd := shape_d h; have hr := shape_r h
  have hc0 := shape_c h0; have hd0 := shape_d h0; have hr0 := shape_r h0
  have w4 : (2 : Int) ^ (8 * 4) = 4294967296 := rfl
  have w2 : (2 : Int) ^ (8 * 2) = 65536 := rfl
  exact ⟨low_inj (s := 2) (by omega) (by omega) (a1.symm.trans b1), low_inj (s := 2) (by omega) (by omega) (a3.symm.trans b3), low_inj (s := 4) (by omega) (by omega) (a2.symm.trans b2)⟩

theorem IsFile.D_len {B : List Int} {c d r : Int} {tags : List ByteArray} {D : List Int} (h : IsFile B c d r tags D) : (D.length : Int) ≤ 24576 + 6 := by
  have hb := shape_b h.shape
  have h1 := h.cnt
  have h2 := Int.mul_ediv_add_emod (D.length : Int) (c * wideI d)
  have h3 := h.blk
  generalize (D.length : Int) = n at *
  generalize c * wideI d = m at *
  have h4 : m * (n / m) ≤ 6 * 4096 := by
    rcases Int.lt_or_le (n / m) 0 with h | h
    · have : m * (n / m) ≤ 0 := Int.mul_nonpos_of_nonneg_of_nonpos (by omega) (by omega)
      omega
    · exact Int.mul_le_mul hb.2 h1 h (by omega)
  omega

/-- what stands where -/
theorem IsFile.walk {B : List Int} {c d r : Int} {tags : List ByteArray} {D : List Int} (h : IsFile B c d r tags D) :
    44 ≤ B.length ∧ B.take 4 = mRiff ∧ (B.drop 4).take 4 = low ((B.length : Int) - 8) 4 ∧ (B.drop 8).take 4 = mWave ∧ (B.drop 12).take 24 = partL mFmt (formL c d r) ∧ ∃ e, e.length = D.length % 2 ∧ B.drop 36 = tagsPartL tags ++ (mData ++ (low (D.length : Int) 4 ++ (D ++ e))) := by
  obtain ⟨e, he, hB⟩ := h.eq
  have hf : (partL mFmt (formL c d r)).length = 24 := by rw [partL_len, formL_len]; rfl
  have hl : (low ((B.length : Int) - 8) 4).length = 4 := low_len _ _
  have hl2 : (low (D.length : Int) 4).length = 4 := low_len _ _
  have hlen : 44 ≤ B.length := by
    have := congrArg List.length hB
    simp only [List.length_append, hf, hl, hl2] at this
    have e1 : mRiff.length = 4 := rfl
    have e2 : mWave.length = 4 := rfl
    have e3 : mData.length = 4 := rfl
    omega
  have d4 : B.drop 4 = low ((B.length : Int) - 8) 4 ++ (mWave ++ (partL mFmt (formL c d r) ++ (tagsPartL tags ++ (mData ++ (low (D.length : Int) 4 ++ (D ++ e)))))) := by
    conv => lhs; rw [hB]
    exact drop_len rfl
  have d8 : B.drop 8 = mWave ++ (partL mFmt (formL c d r) ++ (tagsPartL tags ++ (mData ++ (low (D.length : Int) 4 ++ (D ++ e))))) := by
    rw [show 8 = 4 + 4 from rfl, ← List.drop_drop, d4]; exact drop_len hl
  have d12 : B.drop 12 = partL mFmt (formL c d r) ++ (tagsPartL tags ++ (mData ++ (low (D.length : Int) 4 ++ (D ++ e)))) := by
    rw [show 12 = 8 + 4 from rfl, ← List.drop_drop, d8]; exact drop_len rfl
  have d36 : B.drop 36 = tagsPartL tags ++ (mData ++ (low (D.length : Int) 4 ++ (D ++ e))) := by
    rw [show 36 = 12 + 24 from rfl, ← List.drop_drop, d12]; exact drop_len hf
  refine ⟨hlen, ?_, ?_, ?_, ?_, e, he, d36⟩
  · conv => lhs; rw [hB]
    exact take_len rfl
  · rw [d4]; exact take_len hl
  · rw [d8]; exact take_len rfl
  · rw [d12]; exact take_len hf

def lookErr : (((Int × Int × Int × Unit) × List ByteArray × List Int × Unit) × Int × Unit) × Unit := ((((0, 0, 0, ()), [], [], ()), 2, ()), ())

theorem f55_y {k : Nat} (hk : 16777216 ≤ k) (b : List Int) (bad : Bool) (n : Int) (s : Nat) (hs : s ≤ 4) (hn : bad = false → s ≤ b.length ∨ n ≠ 0) (hb : b.length ≤ 1073741824) (hB : Byt b) :
    ∃ b' bad', f55_F k ((b, bad, ()), n, Int.ofNat s, ()) = some ((), (b', bad', ()), ()) ∧ Byt b' ∧ b'.length ≤ b.length ∧ (bad' = false → bad = false ∧ s ≤ b.length ∧ numL (b.take s) = n ∧ b' = b.drop s) ∧ (bad = false → s ≤ b.length → numL (b.take s) = n → bad' = false) := by
  cases bad with
  | true => exact ⟨_, _, f55_bad k b _ _, hB, Nat.le_refl _, by simp, by simp⟩
  | false => exact f55_x hk b false n s hs (hn rfl) hb hB

theorem f33_spec {k : Nat} (hk : 16777216 ≤ k) (B : List Int) (hb : B.length ≤ 1048576) (hB : Byt B) :
    (∃ c d r tags D, IsFile B c d r tags D ∧ f33_F k (B, ()) = some ((((c, d, r, ()), tags, D, ()), 0, ()), ())) ∨ ((∀ c d r tags D, ¬ IsFile B c d r tags D) ∧ f33_F k (B, ()) = some lookErr) := by
  have hf : f33_F k (B, ()) = f33_raw0 k (B, ()) := rfl
  rw [hf]
  simp only [f33_raw0]
  have e0 : (ByteArray.mk #[OfNat.ofNat (82 : Nat), OfNat.ofNat (73 : Nat), OfNat.ofNat (70 : Nat), OfNat.ofNat (70 : Nat)]) = bytesOf mRiff := rfl
  have e1 : (ByteArray.mk #[OfNat.ofNat (87 : Nat), OfNat.ofNat (65 : Nat), OfNat.ofNat (86 : Nat), OfNat.ofNat (69 : Nat)]) = bytesOf mWave := rfl
  have e2 : (ByteArray.mk #[OfNat.ofNat (100 : Nat), OfNat.ofNat (97 : Nat), OfNat.ofNat (116 : Nat), OfNat.ofNat (97 : Nat)]) = bytesOf mData := rfl
  have o4 : (OfNat.ofNat (4 : Nat) : Int) = Int.ofNat 4 := rfl
  have o2 : (OfNat.ofNat (2 : Nat) : Int) = 2 := rfl
  have w4 : (2 : Int) ^ (8 * 4) = 4294967296 := rfl
  rw [e0, e1, e2, o4]
  obtain ⟨b1, d1, h1, B1, l1, t1, u1⟩ := f54_x k B mRiff false rfl (by intro x hx; simp [mRiff] at hx; omega) (by decide) (by omega) hB
  rw [h1, Option.bind_some]
  simp only
  rw [w64 (n := Int.ofNat B.length - 8) (by simp only [Int.ofNat_eq_natCast]; omega)]
  obtain ⟨b2, d2, h2, B2, l2, t2, u2⟩ := f55_y hk b1 d1 (Int.ofNat B.length - 8) 4 (by omega) (fun e => by
    obtain ⟨_, p, s1⟩ := t1 e
    have := congrArg List.length p
    rw [List.length_take] at this
    have e5 : mRiff.length = 4 := rfl
    rw [s1, List.length_drop]
    simp only [Int.ofNat_eq_natCast]
    omega) (by omega) B1
  rw [h2, Option.bind_some]
  simp only
  obtain ⟨b3, d3, h3, B3, l3, t3, u3⟩ := f54_x k b2 mWave d2 rfl (by intro x hx; simp [mWave] at hx; omega) (by decide) (by omega) B2
  rw [h3, Option.bind_some]
  simp only
  obtain ⟨c, d, r, b4, d4, h4, B4, l4, t4, u4⟩ := f56_x hk b3 d3 (by omega) B3
  rw [h4, Option.bind_some]
  simp only
  -- if it is a file, the head is read
  have back4 : ∀ c0 d0 r0 tags0 D0, IsFile B c0 d0 r0 tags0 D0 → d4 = false ∧ c = c0 ∧ d = d0 ∧ r = r0 ∧ b4 = B.drop 36 := by
    intro c0 d0 r0 tags0 D0 hI
    obtain ⟨hlen, p1, p2, p3, p4, _⟩ := hI.walk
    have g1 := u1 rfl p1
    obtain ⟨_, _, s1⟩ := t1 g1
    have g2 := u2 g1 (by rw [s1, List.length_drop]; omega) (by
      rw [s1, p2, numL_low 4 _ (by omega) (by omega)]; rfl)
    obtain ⟨_, _, _, s2⟩ := t2 g2
    have hs2 : b2 = B.drop 8 := by rw [s2, s1, List.drop_drop]
    have g3 := u3 g2 (by rw [hs2]; exact p3)
    obtain ⟨_, _, s3⟩ := t3 g3
    have hs3 : b3 = B.drop 12 := by rw [s3, hs2, List.drop_drop]
    have g4 := u4 g3 c0 d0 r0 hI.shape (by rw [hs3]; exact p4)
    obtain ⟨_, q1, q2, q3⟩ := t4 g4
    rw [hs3, p4] at q2
    obtain ⟨rfl, rfl, rfl⟩ := form_inj q1 hI.shape q2.symm
    exact ⟨g4, rfl, rfl, rfl, by rw [q3, hs3, List.drop_drop]⟩
  cases hd4 : d4 with
  | true =>
    right
    refine ⟨fun c0 d0 r0 tags0 D0 hI => ?_, ?_⟩
    · have := (back4 c0 d0 r0 tags0 D0 hI).1
      rw [hd4] at this; cases this
    · simp only [Bool.not_true, cond_false]
      rw [f54_bad, Option.bind_some]
      simp only
      obtain ⟨v, b5, d5, h5, _, _, _, t5, _⟩ := f38_x hk b4 true 4 (by omega) (by omega) B4
      rw [h5, Option.bind_some]
      cases d5 with
      | true => rfl
      | false => exact absurd (t5 rfl).1 (by simp)
  | false =>
    simp only [Bool.not_false, cond_true]
    obtain ⟨g3, hshape, hform, hb4⟩ := t4 hd4
    obtain ⟨g2, hwave, hb3⟩ := t3 g3
    obtain ⟨g1, hl4, hnum, hb2⟩ := t2 g2
    obtain ⟨_, hriff, hb1⟩ := t1 g1
    have hlow := take_low B1 hl4 hnum
    obtain ⟨tags, b5, d5, h5, B5, l5, t5, u5⟩ := f57_x hk b4 (by omega) B4
    rw [h5, Option.bind_some]
    simp only
    obtain ⟨b6, d6, h6, B6, l6, t6, u6⟩ := f54_x k b5 mData d5 rfl (by intro x hx; simp [mData] at hx; omega) (by decide) (by omega) B5
    rw [h6, Option.bind_some]
    simp only
    obtain ⟨n, b7, d7, h7, B7, l7, n7, t7, u7⟩ := f38_x hk b6 d6 4 (by omega) (by omega) B6
    rw [h7, Option.bind_some]
    simp only
    have back7 : ∀ c0 d0 r0 tags0 D0, IsFile B c0 d0 r0 tags0 D0 → d7 = false ∧ c = c0 ∧ d = d0 ∧ r = r0 ∧ tags = tags0 ∧ n = D0.length ∧ ∃ e, e.length = D0.length % 2 ∧ b7 = D0 ++ e := by
      intro c0 d0 r0 tags0 D0 hI
      obtain ⟨_, q1, q2, q3, q4⟩ := back4 c0 d0 r0 tags0 D0 hI
      obtain ⟨_, _, _, _, _, e, he, hdr⟩ := hI.walk
      rw [← q4] at hdr
      have hl0 := hI.D_len
      obtain ⟨g5, q5, q6⟩ := u5 tags0 _ hdr (fun _ => take_len rfl) hI.tv
      have g6 := u6 g5 (by rw [q6]; exact take_len rfl)
      obtain ⟨_, _, s6⟩ := t6 g6
      have hs6 : b6 = low (D0.length : Int) 4 ++ (D0 ++ e) := by rw [s6, q6]; exact drop_len rfl
      have hll : (low (D0.length : Int) 4).length = 4 := low_len _ _
      have g7 := u7 g6 (by rw [hs6, List.length_append, hll]; omega)
      obtain ⟨_, _, v7, s7⟩ := t7 g7
      refine ⟨g7, q1, q2, q3, q5, ?_, e, he, ?_⟩
      · rw [v7, hs6, take_len hll, numL_low 4 _ (by omega) (by omega)]
      · rw [s7, hs6, drop_len hll]
    cases hd7 : d7 with
    | true =>
      right
      refine ⟨fun c0 d0 r0 tags0 D0 hI => ?_, rfl⟩
      have := (back7 c0 d0 r0 tags0 D0 hI).1
      rw [hd7] at this; cases this
    | false =>
      simp only [cond_false]
      obtain ⟨g6, hl6, hv7, hb7⟩ := t7 hd7
      obtain ⟨g5, hdata, hb6⟩ := t6 g6
      obtain ⟨htags, hparts⟩ := t5 g5
      have hb5 : b4 = tagsPartL tags ++ b5 := by
        rcases hparts with h | h
        · rw [h] at hdata; exact absurd hdata (by decide)
        · exact h
      have hbl := shape_b hshape
      rw [f37_spec k (shape_c hshape) (shape_d hshape), Option.bind_some]
      simp only
      rw [cpos (show ¬ c * wideI d = 0 by omega), Int.tmod_eq_emod_of_nonneg n7, int_bne]
      by_cases hz : n % (c * wideI d) = 0
      · rw [cneg (fun h => h hz), Option.bind_some, cpos (show ¬ c * wideI d = 0 by omega), Int.tdiv_eq_ediv_of_nonneg n7]
        have hn32 : n < 4294967296 := by
          rw [hv7]
          have := (numL_bound _ (byt_take B6 4)).2
          rw [List.length_take, Nat.min_eq_left hl6, w4] at this
          exact this
        have hq0 : 0 ≤ n / (c * wideI d) := Int.ediv_nonneg n7 (by omega)
        have hq1 : n / (c * wideI d) ≤ n := Int.ediv_le_self _ n7
        rw [w64 (n := n / (c * wideI d)) (by omega)]
        by_cases hc : 4096 < n / (c * wideI d)
        · rw [cpos hc]
          right
          refine ⟨fun c0 d0 r0 tags0 D0 hI => ?_, rfl⟩
          obtain ⟨_, rfl, rfl, rfl, rfl, hn, _⟩ := back7 c0 d0 r0 tags0 D0 hI
          have := hI.cnt
          rw [← hn] at this
          omega
        · rw [cneg hc]
          obtain ⟨D, b8, d8, h8, BD, B8, l8, lD, t8, u8⟩ := f58_x k b7 false n n7 (by omega) B7
          rw [h8, Option.bind_some]
          simp only
          have hmod : 0 ≤ Int.tmod n 2 := by rw [Int.tmod_eq_emod_of_nonneg n7]; omega
          obtain ⟨P, b9, d9, h9, BP, B9, l9, lP, t9, u9⟩ := f58_x k b8 d8 (Int.tmod n 2) hmod (by omega) B8
          rw [h9, Option.bind_some]
          simp only
          have back9 : ∀ c0 d0 r0 tags0 D0, IsFile B c0 d0 r0 tags0 D0 → d9 = false ∧ b9 = [] := by
            intro c0 d0 r0 tags0 D0 hI
            obtain ⟨_, _, _, _, _, hn, e, he, hb7⟩ := back7 c0 d0 r0 tags0 D0 hI
            have g8 := u8 rfl (by rw [hb7, hn, List.length_append]; omega)
            obtain ⟨_, _, _, s8⟩ := t8 g8
            have hs8 : b8 = e := by rw [s8, hb7, hn, Int.toNat_natCast]; exact drop_len rfl
            have hm : Int.tmod n 2 = (e.length : Int) := by rw [Int.tmod_eq_emod_of_nonneg n7, hn, he]; omega
            have g9 := u9 g8 (by rw [hs8, hm]; omega)
            obtain ⟨_, _, _, s9⟩ := t9 g9
            exact ⟨g9, by rw [s9, hs8, hm, Int.toNat_natCast, List.drop_length]⟩
          cases hd9 : d9 with
          | true =>
            right
            refine ⟨fun c0 d0 r0 tags0 D0 hI => ?_, rfl⟩
            have := (back9 c0 d0 r0 tags0 D0 hI).1
            rw [hd9] at this; cases this
          | false =>
            simp only [cond_false]
            by_cases h9z : b9 = []
            · rw [h9z, cneg (by simp)]
              left
              obtain ⟨g8, q1, q2, q3⟩ := t9 hd9
              obtain ⟨_, q4, q5, q6⟩ := t8 g8
              have hDl : (D.length : Int) = n := by rw [q5, List.length_take]; omega
              refine ⟨c, d, r, tags, D, ⟨hshape, htags, by rw [hDl]; exact hz, by rw [hDl]; omega, b8, ?_, ?_⟩, rfl⟩
              · have h3 : b8.length ≤ (Int.tmod n 2).toNat := by
                  have := congrArg List.length q3
                  rw [h9z, List.length_drop] at this
                  simp at this
                  omega
                rw [Int.tmod_eq_emod_of_nonneg n7] at h3 q1
                omega
              · have e7 : b7 = D ++ b8 := by rw [q5, q6, List.take_append_drop]
                have e6 : b6 = low (D.length : Int) 4 ++ b7 := by
                  rw [hDl, ← take_low B6 hl6 hv7.symm, hb7, List.take_append_drop]
                have e5 : b5 = mData ++ b6 := by rw [← hdata, hb6, List.take_append_drop]
                have e3 : b3 = partL mFmt (formL c d r) ++ b4 := by rw [← hform, hb4, List.take_append_drop]
                have e2' : b2 = mWave ++ b3 := by rw [← hwave, hb3, List.take_append_drop]
                have e1' : b1 = low ((B.length : Int) - 8) 4 ++ b2 := by rw [← List.take_append_drop 4 b1, hlow, hb2]; rfl
                have e0' : B = mRiff ++ b1 := by rw [← hriff, hb1, List.take_append_drop]
                rw [← e7, ← e6, ← e5, ← hb5, ← e3, ← e2', ← e1']
                exact e0'
            · rw [cpos (by
                have := List.length_pos_iff.2 h9z
                simp only [Int.ofNat_eq_natCast]; omega)]
              right
              refine ⟨fun c0 d0 r0 tags0 D0 hI => h9z (back9 c0 d0 r0 tags0 D0 hI).2, rfl⟩
      · rw [cpos hz]
        right
        refine ⟨fun c0 d0 r0 tags0 D0 hI => ?_, rfl⟩
        obtain ⟨_, rfl, rfl, rfl, rfl, hn, _⟩ := back7 c0 d0 r0 tags0 D0 hI
        have := hI.blk
        rw [← hn] at this
        exact hz this
end Go.Sh
