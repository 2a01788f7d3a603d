/-
  Plain words of wav: Join.
-/
import Derived.Test.YtlbgcegonmbddaaDoorWP17
set_option linter.unusedSimpArgs false
set_option linter.unusedVariables false
set_option linter.unusedSectionVars false
namespace Go.Sh
open Go Go.Proofs

theorem f41_spec {k : Nat} (hk : 16777216 ≤ k) (x y : List Int) (hx : x.length ≤ 16777216) (hy : y.length ≤ 16777216) : f41_F k ([x, y], ()) = some (x ++ y, ()) := by
  show f41_L1 k (Int.ofNat 2, 0, [x, y], 0, [x, y]) = _
  have two : ∀ z : List Int, f41_L2 k (Int.ofNat 2, 0, [x, y], ([] : List Int)) = some (x ++ y, ()) := by
    intro z
    show iter (fun L2 => f41_raw2 k L2) k (Int.ofNat 2, 0, [x, y], []) = _
    obtain ⟨k', hk'⟩ : ∃ k', k = k' + 3 := ⟨k - 3, by omega⟩
    have : ∀ s : (Int × Int × List (List Int) × List Int → Option (List Int × Unit)) → Int × Int × List (List Int) × List Int → Option (List Int × Unit), ∀ v, iter s k v = s (s (s (iter s k'))) v := by
      intro s v; rw [hk']; rfl
    rw [this]
    simp only [f41_raw2, List.length_cons, List.length_nil]
    rw [cpos (by decide), cpos (by decide), cpos (by simp; omega), w64 (n := (0 : Int) + 1) (by omega), show (0 : Int) + 1 = 1 from rfl, cpos (by decide), cpos (by decide), cpos (by simp; omega), w64 (n := (1 : Int) + 1) (by omega), cneg (by decide)]
    rfl
  show iter (fun L1 => f41_raw1 k (f41_L2 k) L1) k (Int.ofNat 2, 0, [x, y], 0, [x, y]) = _
  obtain ⟨k', hk'⟩ : ∃ k', k = k' + 3 := ⟨k - 3, by omega⟩
  have : ∀ s : (Int × Int × List (List Int) × Int × List (List Int) → Option (List Int × Unit)) → Int × Int × List (List Int) × Int × List (List Int) → Option (List Int × Unit), ∀ v, iter s k v = s (s (s (iter s k'))) v := by
    intro s v; rw [hk']; rfl
  rw [this]
  simp only [f41_raw1, List.length_cons, List.length_nil]
  have g0 : List.getD [x, y] (Int.toNat 0) [] = x := rfl
  have g1 : List.getD [x, y] (Int.toNat 1) [] = y := rfl
  rw [cpos (by decide), cpos (by decide), g0]
  have e1 : IntKind.i64.wrap ((0 : Int) + Int.ofNat x.length) = Int.ofNat x.length := by rw [w64 (by simp only [Int.ofNat_eq_natCast]; omega)]; simp
  have e2 : IntKind.i64.wrap (Int.ofNat x.length + Int.ofNat y.length) = Int.ofNat (x.length + y.length) := by rw [w64 (by simp only [Int.ofNat_eq_natCast]; omega)]; rfl
  rw [e1, cneg (by simp only [Int.ofNat_eq_natCast]; omega), w64 (n := (0 : Int) + 1) (by omega), show (0 : Int) + 1 = 1 from rfl, cpos (by decide), cpos (by decide), g1, e2, cneg (by simp only [Int.ofNat_eq_natCast]; omega), w64 (n := (1 : Int) + 1) (by omega), cneg (by decide)]
  have h59 : f59_F k (Value.slice none (0 : Nat) (0 : Nat), Int.ofNat (x.length + y.length), ()) = some ([], ()) := by
    show growF _ = _
    unfold growF
    simp only [isNil, Bool.true_and]
    rw [lim31_mk (by simp only [Int.ofNat_eq_natCast]; omega) (by simp only [Int.ofNat_eq_natCast]; omega)]
    rfl
  rw [h59, Option.bind_some]
  exact two []

def sameShape (c d r c' d' r' : Int) : Bool := decide (c = c') && (decide (d = d') && (decide (r = r') && true))
theorem sameShape_iff {c d r c' d' r' : Int} : sameShape c d r c' d' r' = true ↔ c = c' ∧ d = d' ∧ r = r' := by
  unfold sameShape
  simp

section
variable {k : Nat} (hk : 16777216 ≤ k) {A B : List Int} (ha : A.length ≤ 524288) (hb : B.length ≤ 524288) (hA : Byt A) (hB : Byt B)
include hk ha hb hA hB
theorem f23_file {c d r c' d' r' : Int} {tags tags' : List ByteArray} {D D' : List Int} (hI : IsFile A c d r tags D) (hI' : IsFile B c' d' r' tags' D') : f23_F k (A, B, ()) =
    some ((bif sameShape c d r c' d' r' then bif decide (4096 < cntL c d D + cntL c' d' D') then ([], 14, ()) else (fileL c d r tags (D ++ D'), 0, ()) else ([], 1, ())), ()) := by
  have hD := hI.D_len
  have hD' := hI'.D_len
  have hcn := hI.cnt_ok
  have hcn' := hI'.cnt_ok
  have htv := hI.tv
  have htl := htv.len
  have ht8 := htv.1
  show f23_raw0 k (A, B, ()) = _
  simp only [f23_raw0]
  rw [f33_file hk (by omega) hA hI, Option.bind_some]
  simp only
  rw [int_bne, cneg (fun h => h rfl), f33_file hk (by omega) hB hI', Option.bind_some]
  simp only
  rw [int_bne, cneg (fun h => h rfl), cnot]
  rw [show (decide (c = c') && (decide (d = d') && (decide (r = r') && true))) = sameShape c d r c' d' r' from rfl]
  cases sameShape c d r c' d' r' with
  | false => rfl
  | true =>
    simp only [cond_true]
    rw [f34_spec k hI.shape _ _ (by omega), Option.bind_some, f34_spec k hI'.shape _ _ (by omega), Option.bind_some]
    simp only
    rw [w64 (n := cntL c d D + cntL c' d' D') (by omega)]
    by_cases h : 4096 < cntL c d D + cntL c' d' D'
    · rw [cpos h, cpos h]
    · rw [cneg h, cneg h, f41_spec hk D D' (by omega) (by omega), Option.bind_some]
      simp only
      rw [f32_spec hk hI.shape _ _ (by omega) (by omega) (by simp; omega), Option.bind_some]
theorem f23_none1 (hI : ∀ c d r tags D, ¬ IsFile A c d r tags D) : f23_F k (A, B, ()) = some (([], 2, ()), ()) := by
  show f23_raw0 k (A, B, ()) = _
  simp only [f23_raw0]
  rw [f33_none hk (by omega) hA hI, Option.bind_some]
  rfl
theorem f23_none2 {c d r : Int} {tags : List ByteArray} {D : List Int} (hI : IsFile A c d r tags D) (hI' : ∀ c d r tags D, ¬ IsFile B c d r tags D) : f23_F k (A, B, ()) = some (([], 2, ()), ()) := by
  show f23_raw0 k (A, B, ()) = _
  simp only [f23_raw0]
  rw [f33_file hk (by omega) hA hI, Option.bind_some]
  simp only
  rw [int_bne, cneg (fun h => h rfl), f33_none hk (by omega) hB hI', Option.bind_some]
  rfl
theorem f24_file {c d r c' d' r' : Int} {tags tags' : List ByteArray} {D D' : List Int} (hI : IsFile A c d r tags D) (hI' : IsFile B c' d' r' tags' D') : f24_F k (bytesOf A, bytesOf B, ()) =
    some ((bif sameShape c d r c' d' r' then bif decide (4096 < cntL c d D + cntL c' d' D') then (bytesOf [], 14, ()) else (bytesOf (fileL c d r tags (D ++ D')), 0, ()) else (bytesOf [], 1, ())), ()) := by
  have hD := hI.D_len
  have hD' := hI'.D_len
  have hcn := hI.cnt_ok
  have hcn' := hI'.cnt_ok
  have htv := hI.tv
  have htl := htv.len
  have ht8 := htv.1
  have h1 : f35_F k (bytesOf A, ()) = some (((c, d, r, ()), tags, bytesOf D, true, ()), ()) := f35_file hk ha hA hI
  have h2 : f35_F k (bytesOf B, ()) = some (((c', d', r', ()), tags', bytesOf D', true, ()), ()) := f35_file hk hb hB hI'
  show f24_raw0 k (bytesOf A, bytesOf B, ()) = _
  simp only [f24_raw0]
  rw [f22_file hk ha hA hI, Option.bind_some, f22_file hk hb hB hI', Option.bind_some]
  simp only
  rw [int_bne, cneg (fun h => h rfl), cneg (fun h => h rfl), cnot]
  rw [show (decide (c = c') && (decide (d = d') && (decide (r = r') && true))) = sameShape c d r c' d' r' from rfl]
  cases sameShape c d r c' d' r' with
  | false => rfl
  | true =>
    simp only [cond_true]
    rw [w64 (n := cntL c d D + cntL c' d' D') (by omega)]
    by_cases h : 4096 < cntL c d D + cntL c' d' D'
    · rw [cpos h, cpos h]; rfl
    · rw [cneg h, cneg h, h1, Option.bind_some, h2, Option.bind_some]
      simp only [bytesOf_size, bytesOf_append]
      rw [cpos (by omega), f27_spec hk hI.shape _ _ (by omega) (by omega) (by simp; omega), Option.bind_some]
theorem f24_none2 {c d r : Int} {tags : List ByteArray} {D : List Int} (hI : IsFile A c d r tags D) (hI' : ∀ c d r tags D, ¬ IsFile B c d r tags D) : f24_F k (bytesOf A, bytesOf B, ()) = some ((bytesOf [], 2, ()), ()) := by
  show f24_raw0 k (bytesOf A, bytesOf B, ()) = _
  simp only [f24_raw0]
  rw [f22_file hk ha hA hI, Option.bind_some, f22_none hk hb hB hI', Option.bind_some]
  rfl
end

theorem dataL_byt (d : Int) (ch : List (List Int)) (n : Nat) : Byt (dataL d ch n) := byt_flat fun j _ => byt_flat fun x _ => byt_low _ _
/-! limits -/
theorem zeros_fine {d r : Int} (hd : 4 ≤ d ∧ d ≤ 8) (hr : 1 ≤ r ∧ r ≤ 655350) {n : Nat} (hn : n ≤ 4096) : Fine 1 d r [] [List.replicate n 0] ∧ Small [] [List.replicate n 0] := by
  have hp := two_pow (n := (d - 1).toNat) (by omega)
  refine ⟨⟨decide_eq_true (by omega), by simp, by simp, rfl, fun x hx => ?_, fun x hx y hy => ?_⟩, ⟨by simp, by simp, by simp, fun x hx => ?_⟩⟩
  · simp at hx; subst hx; simp; omega
  · simp at hx; subst hx
    rw [List.mem_replicate] at hy
    rw [hy.2]
    exact decide_eq_true (by omega)
  · simp at hx; subst hx; simp; omega

theorem short_none {B : List Int} (h : B.length < 44) : ∀ c d r tags D, ¬ IsFile B c d r tags D := fun c d r tags D hI => by have := hI.walk.1; omega

theorem joined_file {c d r : Int} {tags : List ByteArray} {D D' : List Int} (hs : shapeB c d r = true) (ht : Tagv tags) (h1 : (D.length : Int) % (c * wideI d) = 0) (h2 : (D'.length : Int) % (c * wideI d) = 0) (h3 : cntL c d D + cntL c d D' ≤ 4096) :
    IsFile (fileL c d r tags (D ++ D')) c d r tags (D ++ D') ∧ cntL c d (D ++ D') = cntL c d D + cntL c d D' := by
  have hb := shape_b hs
  have hc : cntL c d (D ++ D') = cntL c d D + cntL c d D' := by
    unfold cntL
    rw [List.length_append, Int.natCast_add, Int.add_ediv_of_dvd_left (Int.dvd_of_emod_eq_zero h1)]
  refine ⟨isFile_of hs ht ?_ ?_ rfl rfl, hc⟩
  · rw [List.length_append, Int.natCast_add, Int.add_emod, h1, h2]; rfl
  · unfold cntL at hc h3
    omega

theorem f7_spec {k : Nat} (hk : 16777216 ≤ k) (a0 a1 a2 : Int) : f7_F k (a0, a1, a2, ()) = some (true, ()) := by
  show f7_raw0 k (a0, a1, a2, ()) = _
  simp only [f7_raw0]
  have um : ∀ (x m : Int), 1 ≤ m → m ≤ 1000000 → ∃ n : Nat, IntKind.i64.wrap ((IntKind.u64.wrap x).tmod m) = Int.ofNat n ∧ (n : Int) < m := by
    intro x m hm hm2
    have hu : 0 ≤ IntKind.u64.wrap x := by rw [IntKind.wrap_u64]; omega
    rw [Int.tmod_eq_emod_of_nonneg hu]
    have h1 := Int.emod_nonneg (IntKind.u64.wrap x) (show m ≠ 0 by omega)
    have h2 := Int.emod_lt_of_pos (IntKind.u64.wrap x) (show 0 < m by omega)
    rw [w64 (by omega)]
    exact ⟨(IntKind.u64.wrap x % m).toNat, by simp only [Int.ofNat_eq_natCast]; omega, by omega⟩
  obtain ⟨n, hn, hn2⟩ := um a0 4097 (by omega) (by omega)
  obtain ⟨m, hm, hm2⟩ := um a1 4097 (by omega) (by omega)
  obtain ⟨q, hq, hq2⟩ := um a2 5 (by omega) (by omega)
  rw [hn, hm, hq]
  have hd : IntKind.i64.wrap ((4 : Int) + Int.ofNat q) = 4 + (q : Int) := w64 (by simp only [Int.ofNat_eq_natCast]; omega)
  rw [hd]
  generalize hdd : 4 + (q : Int) = d
  have hd8 : 4 ≤ d ∧ d ≤ 8 := by omega
  obtain ⟨fa, sa⟩ := zeros_fine (r := 8000) hd8 (by omega) (n := n) (by omega)
  obtain ⟨fb, sb⟩ := zeros_fine (r := 8000) hd8 (by omega) (n := m) (by omega)
  obtain ⟨fc, sc⟩ := zeros_fine (r := 8001) hd8 (by omega) (n := m) (by omega)
  have tn : (Int.ofNat n).toNat = n := rfl
  have tm : (Int.ofNat m).toNat = m := rfl
  rw [f10_spec hk, Option.bind_some]
  simp only [Bool.not_true, cond_false]
  rw [tn, tm, cpos (by simp only [Int.ofNat_eq_natCast]; omega), f12_spec hk sa, Option.bind_some, cpos (chk_zero.2 fa)]
  simp only
  rw [cpos (by simp only [Int.ofNat_eq_natCast]; omega), f12_spec hk sb, Option.bind_some, cpos (chk_zero.2 fb)]
  simp only
  rw [cpos (by simp only [Int.ofNat_eq_natCast]; omega), f12_spec hk sc, Option.bind_some, cpos (chk_zero.2 fc)]
  simp only
  obtain ⟨ia, ca, la⟩ := fa.file
  obtain ⟨ib, cb, lb⟩ := fb.file
  obtain ⟨ic, cc, lc⟩ := fc.file
  have hla : ((List.replicate n (0 : Int) :: []).getD 0 []).length = n := by simp
  have hlm : ((List.replicate m (0 : Int) :: []).getD 0 []).length = m := by simp
  rw [hla] at ia ca
  rw [hlm] at ib cb ic cc
  rw [int_bne, cneg (fun h => h rfl), cneg (fun h => h rfl), cneg (fun h => h rfl)]
  rw [f23_file hk (by omega) (by omega) trackL_byt trackL_byt ia ib, Option.bind_some]
  rw [f23_file hk (by omega) (by omega) trackL_byt trackL_byt ia ic, Option.bind_some]
  have lb44 : 44 ≤ (trackL 1 d 8000 [] [List.replicate m 0]).length := ib.walk.1
  rw [cpos (by simp only [Int.ofNat_eq_natCast]; omega), List.drop_zero]
  have n10 := short_none (B := (trackL 1 d 8000 [] [List.replicate m 0]).take 10) (by rw [List.length_take]; omega)
  rw [f23_none2 hk (by omega) (by rw [List.length_take]; omega) trackL_byt (byt_take trackL_byt _) ic n10, Option.bind_some]
  rw [f23_none1 hk (by simp) (by omega) byt_nil trackL_byt (short_none (by simp)), Option.bind_some]
  have s1 : sameShape 1 d 8000 1 d 8000 = true := sameShape_iff.2 ⟨rfl, rfl, rfl⟩
  have s2 : sameShape 1 d 8000 1 d 8001 = false := by
    cases h : sameShape 1 d 8000 1 d 8001 with
    | false => rfl
    | true => have := (sameShape_iff.1 h).2.2; omega
  rw [s1, s2]
  simp only [cond_true, cond_false]
  rw [ca, cb]
  rw [int_bne, cneg (fun h => h rfl), int_bne, cneg (fun h => h rfl), cneg (fun h => h rfl)]
  have hw : IntKind.i64.wrap (Int.ofNat n + Int.ofNat m) = Int.ofNat n + Int.ofNat m := w64 (by simp only [Int.ofNat_eq_natCast]; omega)
  rw [hw]
  by_cases hbig : 4096 < Int.ofNat n + Int.ofNat m
  · rw [cpos hbig, cpos hbig]
    rfl
  · rw [cneg hbig, cneg hbig]
    simp only
    obtain ⟨ij, cj⟩ := joined_file ia.shape ia.tv ia.blk ib.blk (by rw [ca, cb]; omega)
    have hda := ia.D_len
    have hdb := ib.D_len
    rw [f14_file hk (by rw [fileL_len]; simp [tagsPartL]; omega) (fileL_byt ((dataL_byt _ _ _).app (dataL_byt _ _ _))) ij, Option.bind_some]
    simp only
    rw [int_beq, cpos rfl, cj, ca, cb, int_beq]
    simp only [decide_true, cond_true]
theorem limits_plain : ∀ x : Kd.dens (viewKs [.int .i64, .int .i64, .int .i64]), okAll [.int .i64, .int .i64, .int .i64] x → bulkAll [.int .i64, .int .i64, .int .i64] x ≤ 1048576 → ∃ k u, f7_F k x = some (true, u) := by
  rintro ⟨a, b, c, u⟩ _ _
  exact ⟨16777216, (), f7_spec (Nat.le_refl _) a b c⟩
end Go.Sh
