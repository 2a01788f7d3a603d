/-
  Plain words of wav: the head of a file.
-/
import Derived.Test.YtlbgcegonmbddaaDoorWP8
set_option linter.unusedSimpArgs false
set_option linter.unusedVariables false
namespace Go.Sh
open Go Go.Proofs

theorem f38_x {k : Nat} (hk : 16777216 ≤ k) (b : List Int) (bad : Bool) (n : Nat) (h4 : n ≤ 4) (hb : b.length ≤ 1073741824) (hB : Byt b) :
    ∃ v b' bad', f38_F k ((b, bad, ()), Int.ofNat n, ()) = some (v, (b', bad', ()), ()) ∧ Byt b' ∧ b'.length ≤ b.length ∧ 0 ≤ v ∧
      (bad' = false → bad = false ∧ n ≤ b.length ∧ v = numL (b.take n) ∧ b' = b.drop n) ∧ (bad = false → n ≤ b.length → bad' = false) := by
  by_cases h : b.length < n
  · exact ⟨_, _, _, f38_bad hk b bad n h h4, hB, Nat.le_refl _, Int.le_refl _, by simp, fun _ _ => by omega⟩
  · exact ⟨_, _, _, f38_ok hk b bad n (by omega) h4 hb hB, byt_drop hB n, by simp, (numL_bound _ (byt_take hB n)).1, fun e => ⟨e, by omega, rfl, rfl⟩, fun e _ => e⟩
theorem f54_x (k : Nat) (b m : List Int) (bad : Bool) (hm : m.length = 4) (hmB : Byt m) (h0 : m ≠ List.replicate 4 0) (hb : b.length ≤ 1073741824) (hB : Byt b) :
    ∃ b' bad', f54_F k ((b, bad, ()), bytesOf m, ()) = some ((), (b', bad', ()), ()) ∧ Byt b' ∧ b'.length ≤ b.length ∧ (bad' = false → bad = false ∧ b.take 4 = m ∧ b' = b.drop 4) ∧ (bad = false → b.take 4 = m → bad' = false) := by
  cases bad with
  | true => exact ⟨_, _, f54_bad k b _, hB, Nat.le_refl _, by simp, by simp⟩
  | false =>
    rcases f54_ok k b m hm hmB h0 hb hB with ⟨h1, h2⟩ | ⟨h1, b', h2, h3, h4⟩
    · exact ⟨_, _, h2, byt_drop hB 4, by simp, fun _ => ⟨rfl, h1, rfl⟩, fun _ _ => rfl⟩
    · exact ⟨_, _, h2, h3, h4, by simp, fun _ e => absurd e h1⟩
theorem f55_x {k : Nat} (hk : 16777216 ≤ k) (b : List Int) (bad : Bool) (n : Int) (s : Nat) (hs : s ≤ 4) (hn : s ≤ b.length ∨ n ≠ 0) (hb : b.length ≤ 1073741824) (hB : Byt b) :
    ∃ b' bad', f55_F k ((b, bad, ()), n, Int.ofNat s, ()) = some ((), (b', bad', ()), ()) ∧ Byt b' ∧ b'.length ≤ b.length ∧ (bad' = false → bad = false ∧ s ≤ b.length ∧ numL (b.take s) = n ∧ b' = b.drop s) ∧ (bad = false → s ≤ b.length → numL (b.take s) = n → bad' = false) := by
  cases bad with
  | true => exact ⟨_, _, f55_bad k b _ _, hB, Nat.le_refl _, by simp, by simp⟩
  | false =>
    rcases f55_ok hk b n s hs hn hb hB with ⟨h1, h2, h3⟩ | ⟨h1, b', h2, h3, h4⟩
    · exact ⟨_, _, h3, byt_drop hB s, by simp, fun _ => ⟨rfl, h1, h2, rfl⟩, fun _ _ _ => rfl⟩
    · exact ⟨_, _, h2, h3, h4, by simp, fun _ e e' => absurd ⟨e, e'⟩ h1⟩
theorem f58_x (k : Nat) (b : List Int) (bad : Bool) (n : Int) (hn : 0 ≤ n) (hb : b.length ≤ 1073741824) (hB : Byt b) :
    ∃ x b' bad', f58_F k ((b, bad, ()), n, ()) = some (x, (b', bad', ()), ()) ∧ Byt x ∧ Byt b' ∧ b'.length ≤ b.length ∧ (x.length ≤ b.length + 64) ∧
      (bad' = false → bad = false ∧ n ≤ b.length ∧ x = b.take n.toNat ∧ b' = b.drop n.toNat) ∧ (bad = false → n ≤ b.length → bad' = false) := by
  by_cases h : (b.length : Int) < n
  · refine ⟨_, _, _, f58_bad k b bad n h, ?_, hB, Nat.le_refl _, ?_, by simp, fun _ _ => by omega⟩
    · intro x hx
      rw [List.mem_replicate] at hx
      omega
    · rw [List.length_replicate]; omega
  · obtain ⟨m, rfl⟩ : ∃ m : Nat, n = Int.ofNat m := ⟨n.toNat, by simp only [Int.ofNat_eq_natCast]; omega⟩
    simp only [Int.ofNat_eq_natCast] at h
    exact ⟨_, _, _, f58_ok k b bad m (by omega) hb, byt_take hB _, byt_drop hB _, by simp, by rw [List.length_take]; omega, fun e => ⟨e, by simp only [Int.ofNat_eq_natCast]; omega, rfl, rfl⟩, fun e _ => e⟩

/-- numbers of two and of four bytes stand so -/
theorem take_low {b : List Int} {n : Int} {s : Nat} (hB : Byt b) (hl : s ≤ b.length) (h : numL (b.take s) = n) : b.take s = low n s := by
  have := low_numL (b.take s) (byt_take hB s)
  rw [List.length_take, Nat.min_eq_left hl, h] at this
  exact this.symm
theorem take_app (b : List Int) (m n : Nat) : b.take (m + n) = b.take m ++ (b.drop m).take n := List.take_add
theorem take_split {b A B : List Int} {m n : Nat} (hA : A.length = m) : b.take (m + n) = A ++ B ↔ b.take m = A ∧ (b.drop m).take n = B := by
  constructor
  · intro h
    have h1 := congrArg (List.take m) h
    have h2 := congrArg (List.drop m) h
    rw [List.take_take, Nat.min_eq_left (by omega)] at h1
    rw [List.drop_take, Nat.add_sub_cancel_left] at h2
    subst hA
    rw [List.take_left] at h1
    rw [List.drop_left] at h2
    exact ⟨h1, h2⟩
  · rintro ⟨h1, h2⟩
    rw [take_app, h1, h2]
theorem form_parts {b : List Int} {c d r : Int} : b.take 24 = partL mFmt (formL c d r) ↔
    b.take 4 = mFmt ∧ (b.drop 4).take 4 = low 16 4 ∧ (b.drop 8).take 2 = low 1 2 ∧ (b.drop 10).take 2 = low c 2 ∧ (b.drop 12).take 4 = low r 4 ∧ (b.drop 16).take 4 = low (r * (c * wideI d)) 4 ∧ (b.drop 20).take 2 = low (c * wideI d) 2 ∧ (b.drop 22).take 2 = low d 2 := by
  have hp : partL mFmt (formL c d r) = mFmt ++ (low 16 4 ++ (low 1 2 ++ (low c 2 ++ (low r 4 ++ (low (r * (c * wideI d)) 4 ++ (low (c * wideI d) 2 ++ low d 2)))))) := by
    unfold partL padL
    rw [formL_len]
    simp [formL]
  rw [hp]
  refine (take_split (m := 4) (n := 20) rfl).trans (and_congr_right fun _ => ?_)
  refine (take_split (m := 4) (n := 16) (low_len _ _)).trans (and_congr_right fun _ => ?_)
  rw [List.drop_drop]
  refine (take_split (m := 2) (n := 14) (low_len _ _)).trans (and_congr_right fun _ => ?_)
  rw [List.drop_drop]
  refine (take_split (m := 2) (n := 12) (low_len _ _)).trans (and_congr_right fun _ => ?_)
  rw [List.drop_drop]
  refine (take_split (m := 4) (n := 8) (low_len _ _)).trans (and_congr_right fun _ => ?_)
  rw [List.drop_drop]
  refine (take_split (m := 4) (n := 4) (low_len _ _)).trans (and_congr_right fun _ => ?_)
  rw [List.drop_drop]
  refine (take_split (m := 2) (n := 2) (low_len _ _)).trans (and_congr_right fun _ => ?_)
  rw [List.drop_drop]
theorem formL_take {b : List Int} {c d r : Int} (h : b.take 24 = partL mFmt (formL c d r)) : 24 ≤ b.length := by
  have := congrArg List.length h
  rw [List.length_take, partL_len, formL_len] at this
  have e : mFmt.length = 4 := rfl
  omega

theorem f56_x {k : Nat} (hk : 16777216 ≤ k) (b : List Int) (bad : Bool) (hb : b.length ≤ 1073741824) (hB : Byt b) :
    ∃ c d r b' bad', f56_F k ((b, bad, ()), ()) = some ((c, d, r, ()), (b', bad', ()), ()) ∧ Byt b' ∧ b'.length ≤ b.length ∧
      (bad' = false → bad = false ∧ shapeB c d r = true ∧ b.take 24 = partL mFmt (formL c d r) ∧ b' = b.drop 24) ∧ (bad = false → ∀ c0 d0 r0, shapeB c0 d0 r0 = true → b.take 24 = partL mFmt (formL c0 d0 r0) → bad' = false) := by
  have hf : f56_F k ((b, bad, ()), ()) = f56_raw0 k ((b, bad, ()), ()) := rfl
  rw [hf]
  simp only [f56_raw0]
  have o1 : (OfNat.ofNat (1 : Nat) : Int) = 1 := rfl
  have o2 : (OfNat.ofNat (2 : Nat) : Int) = Int.ofNat 2 := rfl
  have o4 : (OfNat.ofNat (4 : Nat) : Int) = Int.ofNat 4 := rfl
  have o16 : (OfNat.ofNat (16 : Nat) : Int) = 16 := rfl
  have e0 : (ByteArray.mk #[OfNat.ofNat (102 : Nat), OfNat.ofNat (109 : Nat), OfNat.ofNat (116 : Nat), OfNat.ofNat (32 : Nat)]) = bytesOf mFmt := rfl
  rw [e0, o2, o4, o1, o16]
  obtain ⟨b1, d1, h1, B1, l1, t1, u1⟩ := f54_x k b mFmt bad rfl (by intro x hx; simp [mFmt] at hx; omega) (by decide) hb hB
  rw [h1, Option.bind_some]
  simp only
  obtain ⟨b2, d2, h2, B2, l2, t2, u2⟩ := f55_x hk b1 d1 16 4 (by omega) (.inr (by omega)) (by omega) B1
  rw [h2, Option.bind_some]
  simp only
  obtain ⟨b3, d3, h3, B3, l3, t3, u3⟩ := f55_x hk b2 d2 1 2 (by omega) (.inr (by omega)) (by omega) B2
  rw [h3, Option.bind_some]
  simp only
  obtain ⟨c, b4, d4, h4, B4, l4, n4, t4, u4⟩ := f38_x hk b3 d3 2 (by omega) (by omega) B3
  rw [h4, Option.bind_some]
  simp only
  obtain ⟨r, b5, d5, h5, B5, l5, n5, t5, u5⟩ := f38_x hk b4 d4 4 (by omega) (by omega) B4
  rw [h5, Option.bind_some]
  simp only
  obtain ⟨v1, b6, d6, h6, B6, l6, n6, t6, u6⟩ := f38_x hk b5 d5 4 (by omega) (by omega) B5
  rw [h6, Option.bind_some]
  simp only
  obtain ⟨v2, b7, d7, h7, B7, l7, n7, t7, u7⟩ := f38_x hk b6 d6 2 (by omega) (by omega) B6
  rw [h7, Option.bind_some]
  simp only
  obtain ⟨d, b8, d8, h8, B8, l8, n8, t8, u8⟩ := f38_x hk b7 d7 2 (by omega) (by omega) B7
  rw [h8, Option.bind_some]
  simp only
  -- what stands there, if all went well
  have good : d8 = false → bad = false ∧ 24 ≤ b.length ∧ b.take 4 = mFmt ∧ (b.drop 4).take 4 = low 16 4 ∧ (b.drop 8).take 2 = low 1 2 ∧ (b.drop 10).take 2 = low c 2 ∧ (b.drop 12).take 4 = low r 4 ∧ (b.drop 16).take 4 = low v1 4 ∧ (b.drop 20).take 2 = low v2 2 ∧ (b.drop 22).take 2 = low d 2 ∧ b8 = b.drop 24 := by
    intro e
    obtain ⟨e, q8, r8, s8⟩ := t8 e
    obtain ⟨e, q7, r7, s7⟩ := t7 e
    obtain ⟨e, q6, r6, s6⟩ := t6 e
    obtain ⟨e, q5, r5, s5⟩ := t5 e
    obtain ⟨e, q4, r4, s4⟩ := t4 e
    obtain ⟨e, q3, r3, s3⟩ := t3 e
    obtain ⟨e, q2, r2, s2⟩ := t2 e
    obtain ⟨e, r1, s1⟩ := t1 e
    subst s1 s2 s3 s4 s5 s6 s7
    have r1' : 4 ≤ b.length := by
      have := congrArg List.length r1
      rw [List.length_take] at this
      have e : mFmt.length = 4 := rfl
      omega
    have g2 := take_low (byt_drop hB 4) q2 r2
    have g3 := take_low B2 q3 r3
    have g4 := take_low B3 q4 r4.symm
    have g5 := take_low B4 q5 r5.symm
    have g6 := take_low B5 q6 r6.symm
    have g7 := take_low B6 q7 r7.symm
    have g8 := take_low B7 q8 r8.symm
    simp only [List.drop_drop, List.length_drop] at *
    exact ⟨e, by omega, r1, g2, g3, g4, g5, g6, g7, g8, s8⟩
  -- and the other way
  have back : bad = false → ∀ c0 d0 r0, shapeB c0 d0 r0 = true → b.take 24 = partL mFmt (formL c0 d0 r0) → d8 = false ∧ c = c0 ∧ d = d0 ∧ r = r0 ∧ v1 = r0 * (c0 * wideI d0) ∧ v2 = c0 * wideI d0 := by
    intro e c0 d0 r0 hs ht
    have hlen := formL_take ht
    obtain ⟨p1, p2, p3, p4, p5, p6, p7, p8⟩ := form_parts.1 ht
    have hs' := of_decide_eq_true hs
    have hc : 1 ≤ c0 ∧ c0 ≤ 2 := ⟨hs'.1, hs'.2.1⟩
    have hd : 4 ≤ d0 ∧ d0 ≤ 24 := ⟨hs'.2.2.1, hs'.2.2.2.1⟩
    have hbl := block_ok hc hd
    have hr : 1 ≤ r0 * (c0 * wideI d0) ∧ r0 * (c0 * wideI d0) ≤ 655350 * 6 := by
      constructor
      · have := Int.mul_le_mul (a := 1) (b := 1) (c := r0) (d := c0 * wideI d0) hs'.2.2.2.2.1 hbl.1 (by omega) (by omega)
        omega
      · exact Int.mul_le_mul hs'.2.2.2.2.2 hbl.2 (by omega) (by omega)
    have w4 : (2 : Int) ^ (8 * 4) = 4294967296 := rfl
    have w2 : (2 : Int) ^ (8 * 2) = 65536 := rfl
    have e1 := u1 e p1
    obtain ⟨_, _, s1⟩ := t1 e1
    subst s1
    have e2 := u2 e1 (by rw [List.length_drop]; omega) (by rw [p2, numL_low 4 16 (by omega) (by omega)])
    obtain ⟨_, _, _, s2⟩ := t2 e2
    subst s2
    simp only [List.drop_drop] at *
    have e3 := u3 e2 (by rw [List.length_drop]; omega) (by rw [p3, numL_low 2 1 (by omega) (by omega)])
    obtain ⟨_, _, _, s3⟩ := t3 e3
    subst s3
    simp only [List.drop_drop] at *
    have e4 := u4 e3 (by rw [List.length_drop]; omega)
    obtain ⟨_, _, v4, s4⟩ := t4 e4
    subst s4
    simp only [List.drop_drop] at *
    have e5 := u5 e4 (by rw [List.length_drop]; omega)
    obtain ⟨_, _, v5, s5⟩ := t5 e5
    subst s5
    simp only [List.drop_drop] at *
    have e6 := u6 e5 (by rw [List.length_drop]; omega)
    obtain ⟨_, _, v6, s6⟩ := t6 e6
    subst s6
    simp only [List.drop_drop] at *
    have e7 := u7 e6 (by rw [List.length_drop]; omega)
    obtain ⟨_, _, v7, s7⟩ := t7 e7
    subst s7
    simp only [List.drop_drop] at *
    have e8 := u8 e7 (by rw [List.length_drop]; omega)
    obtain ⟨_, _, v8, s8⟩ := t8 e8
    rw [p4, numL_low 2 c0 (by omega) (by omega)] at v4
    rw [p5, numL_low 4 r0 (by omega) (by omega)] at v5
    rw [p6, numL_low 4 _ (by omega) (by omega)] at v6
    rw [p7, numL_low 2 _ (by omega) (by omega)] at v7
    rw [p8, numL_low 2 _ (by omega) (by omega)] at v8
    exact ⟨e8, v4, v8, v5, v6, v7⟩
  cases d8 with
  | true =>
    simp only [cond_true]
    exact ⟨_, _, _, _, _, rfl, B8, by omega, by simp, fun e c0 d0 r0 hs ht => absurd (back e c0 d0 r0 hs ht).1 (by simp)⟩
  | false =>
    simp only [cond_false]
    obtain ⟨g0, g1, p1, p2, p3, p4, p5, p6, p7, p8, gb⟩ := good rfl
    rw [f48_spec, Option.bind_some]
    simp only
    rw [int_bne]
    cases hs : shapeB c d r with
    | false =>
      rw [cpos (by simp)]
      refine ⟨_, _, _, _, _, rfl, B8, by omega, by simp, fun e c0 d0 r0 hs0 ht => ?_⟩
      obtain ⟨_, rfl, rfl, rfl, _, _⟩ := back e c0 d0 r0 hs0 ht
      rw [hs] at hs0; cases hs0
    | true =>
      rw [cneg (by simp)]
      have hs' := of_decide_eq_true hs
      have hc : 1 ≤ c ∧ c ≤ 2 := ⟨hs'.1, hs'.2.1⟩
      have hd : 4 ≤ d ∧ d ≤ 24 := ⟨hs'.2.2.1, hs'.2.2.2.1⟩
      have hbl := block_ok hc hd
      have hr : r * (c * wideI d) ≤ 655350 * 6 := Int.mul_le_mul hs'.2.2.2.2.2 hbl.2 (by omega) (by omega)
      have hr0 : 0 ≤ r * (c * wideI d) := Int.mul_nonneg (by omega) (by omega)
      rw [f37_spec k hc hd, Option.bind_some]
      simp only
      rw [w64 (n := r * (c * wideI d)) (by omega), int_bne]
      by_cases he : v1 = r * (c * wideI d)
      · rw [cneg (fun h => h he), Option.bind_some]
        refine ⟨_, _, _, _, _, rfl, B8, by omega, fun hbad => ?_, fun e c0 d0 r0 hs0 ht => ?_⟩
        · rw [int_bne] at hbad
          have hv2 : v2 = c * wideI d := Classical.byContradiction fun h => by rw [decide_eq_true h] at hbad; cases hbad
          subst he hv2
          exact ⟨g0, hs, form_parts.2 ⟨p1, p2, p3, p4, p5, p6, p7, p8⟩, gb⟩
        · obtain ⟨_, rfl, rfl, rfl, _, hv2⟩ := back e c0 d0 r0 hs0 ht
          rw [int_bne, decide_eq_false (fun h => h hv2)]
      · rw [cpos he]
        refine ⟨_, _, _, _, _, rfl, B8, by omega, by simp, fun e c0 d0 r0 hs0 ht => ?_⟩
        obtain ⟨_, rfl, rfl, rfl, hv1, _⟩ := back e c0 d0 r0 hs0 ht
        exact absurd hv1 he
end Go.Sh
