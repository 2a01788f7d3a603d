/-
  Plain words of wav: WavJoins.
-/
import Derived.Test.YtlbgcegonmbddaaDoorWP18
set_option linter.unusedSimpArgs false
set_option linter.unusedVariables false
namespace Go.Sh
open Go Go.Proofs

theorem take_piece (D : List Int) {p q s : Nat} (h1 : q ≤ p) (h2 : p ≤ s) : (D.take p).drop q ++ (D.take s).drop p = (D.take s).drop q := by
  have e : D.take s = D.take p ++ (D.take s).drop p := by
    conv => lhs; rw [← List.take_append_drop p (D.take s), List.take_take, Nat.min_eq_left h2]
  by_cases hp : p ≤ D.length
  · conv => rhs; rw [e]
    rw [List.drop_append_of_le_length (by rw [List.length_take]; omega)]
  · rw [List.take_of_length_le (show D.length ≤ p by omega), List.take_of_length_le (show D.length ≤ s by omega), List.drop_eq_nil_of_le (show D.length ≤ p by omega), List.append_nil]

/-- the file of some of a track's samples -/
def piece (c d r : Int) (tags : List ByteArray) (ch : List (List Int)) (a b : Nat) : List Int := trackL c d r tags (partCh ch a b)

theorem piece_byt (c d r : Int) (tags : List ByteArray) (ch : List (List Int)) (a b : Nat) : Byt (piece c d r tags ch a b) := trackL_byt
section
variable {k : Nat} (hk : 16777216 ≤ k) {c d r : Int} {tags : List ByteArray} {ch : List (List Int)} (hF : Fine c d r tags ch)
include hF
theorem piece_file {a b : Nat} (h : a + b ≤ (ch.getD 0 []).length) : ∃ D, D = ((dataL d ch (ch.getD 0 []).length).take ((a + b) * (ch.length * wideN d))).drop (a * (ch.length * wideN d)) ∧ IsFile (piece c d r tags ch a b) c d r tags D ∧ cntL c d D = b ∧ (piece c d r tags ch a b).length ≤ 32768 ∧ piece c d r tags ch a b = fileL c d r tags D := by
  obtain ⟨pF, p0, _⟩ := part_fine hF h
  obtain ⟨h1, h2, h3⟩ := pF.file
  rw [p0] at h1 h2
  refine ⟨_, rfl, ?_, ?_, h3, ?_⟩
  · rw [← dataL_part h]; exact h1
  · rw [← dataL_part h]; exact h2
  · show trackL c d r tags (partCh ch a b) = _
    unfold trackL
    rw [p0, dataL_part h]
theorem piece_whole : piece c d r tags ch 0 (ch.getD 0 []).length = trackL c d r tags ch := by
  obtain ⟨D, rfl, _, _, _, h⟩ := piece_file hF (a := 0) (b := (ch.getD 0 []).length) (by omega)
  rw [h, Nat.zero_mul, List.drop_zero, Nat.zero_add]
  unfold trackL
  congr 1
  rw [← dataL_len]
  exact List.take_length
include hk
theorem piece_join {a b b' : Nat} (h : a + b + b' ≤ (ch.getD 0 []).length) : f23_F k (piece c d r tags ch a b, piece c d r tags ch (a + b) b', ()) = some ((piece c d r tags ch a (b + b'), 0, ()), ()) := by
  have hz := hF.z
  obtain ⟨D, rfl, i1, c1, l1, _⟩ := piece_file hF (a := a) (b := b) (by omega)
  obtain ⟨D', rfl, i2, c2, l2, _⟩ := piece_file hF (a := a + b) (b := b') (by omega)
  obtain ⟨D'', e3, _, _, _, p3⟩ := piece_file hF (a := a) (b := b + b') (by omega)
  rw [f23_file hk (by omega) (by omega) (piece_byt _ _ _ _ _ _ _) (piece_byt _ _ _ _ _ _ _) i1 i2, sameShape_iff.2 ⟨rfl, rfl, rfl⟩, c1, c2, cneg (by omega)]
  rw [p3, e3, take_piece _ (Nat.mul_le_mul_right _ (by omega)) (Nat.mul_le_mul_right _ (by omega)), Nat.add_assoc]
  rfl
theorem piece_slice {a b : Nat} (h : a + b ≤ (ch.getD 0 []).length) : f16_F k (trackL c d r tags ch, Int.ofNat a, Int.ofNat b, ()) = some ((piece c d r tags ch a b, 0, ()), ()) := by
  obtain ⟨hI, hcnt, hlen⟩ := hF.file
  have hz := hF.z
  rw [f16_file hk (by omega) trackL_byt hI _ _, hcnt]
  have ho : outside (Int.ofNat (ch.getD 0 []).length) (Int.ofNat a) (Int.ofNat b) = false := decide_eq_false (by simp only [Int.ofNat_eq_natCast]; omega)
  rw [ho]
  simp only [cond_false]
  rw [show (Int.ofNat a) = (a : Int) from rfl, show (Int.ofNat b) = (b : Int) from rfl, slice_track hF h]
  rfl
end

theorem f8_spec {k : Nat} (hk : 16777216 ≤ k) {c d r : Int} {tags : List ByteArray} {ch : List (List Int)} (hS : Small tags ch) (B : List Int) (hB : Byt B) (at_ : Int) : f8_F k (((c, d, r, ()), tags, ch, ()), B, at_, ()) = some (true, ()) := by
  show f8_raw0 k (((c, d, r, ()), tags, ch, ()), B, at_, ()) = _
  simp only [f8_raw0]
  rw [f10_spec hk, Option.bind_some]
  simp only [Bool.not_true, cond_false]
  by_cases h5 : 5000 < B.length
  · rw [cpos (by simp only [Int.ofNat_eq_natCast]; omega)]; rfl
  rw [cneg (by simp only [Int.ofNat_eq_natCast]; omega)]
  rw [f13_spec hk hS, Option.bind_some, f12_spec hk hS, Option.bind_some]
  by_cases h : chk c d r tags ch = 0
  case neg =>
    rw [cneg h]
    simp only
    rw [int_bne, cpos h]
  rw [cpos h]
  have hF := chk_zero.1 h
  obtain ⟨hI, hcnt, hlen⟩ := hF.file
  have hcl := hF.cl2
  have hz := hF.z
  simp only
  rw [int_bne, cneg (fun h => h rfl), cpos (by simp only [Int.ofNat_eq_natCast]; omega)]
  have ef : ∀ l : List Int, ByteArray.mk (List.map (fun n => UInt8.ofNat n.toNat) l).toArray = bytesOf l := fun _ => rfl
  simp only [ef]
  -- the two answers are the same
  have same : ∃ x e, f24_F k (bytesOf (trackL c d r tags ch), bytesOf B, ()) = some ((bytesOf x, e, ()), ()) ∧ f23_F k (trackL c d r tags ch, B, ()) = some ((x, e, ()), ()) := by
    by_cases hJ : ∃ c d r tags D, IsFile B c d r tags D
    · obtain ⟨c', d', r', tags', D', hJ⟩ := hJ
      have h24 := f24_file hk (by omega) (by omega) trackL_byt hB hI hJ
      have h23 := f23_file hk (by omega) (by omega) trackL_byt hB hI hJ
      cases hs : sameShape c d r c' d' r' with
      | false => rw [hs] at h23 h24; exact ⟨_, _, h24, h23⟩
      | true =>
        rw [hs] at h23 h24
        by_cases hb : 4096 < cntL c d (dataL d ch (ch.getD 0 []).length) + cntL c' d' D'
        · rw [cpos hb] at h23 h24; exact ⟨_, _, h24, h23⟩
        · rw [cneg hb] at h23 h24; exact ⟨_, _, h24, h23⟩
    · have hJ' : ∀ c d r tags D, ¬ IsFile B c d r tags D := fun c d r tags D h => hJ ⟨c, d, r, tags, D, h⟩
      exact ⟨_, _, f24_none2 hk (by omega) (by omega) trackL_byt hB hI hJ', f23_none2 hk (by omega) (by omega) trackL_byt hB hI hJ'⟩
  obtain ⟨x, e, h24, h23⟩ := same
  -- three parts
  have hn1 : IntKind.u64.wrap (IntKind.i64.wrap (Int.ofNat (ch.getD 0 []).length + (1 : Int))) = Int.ofNat (ch.getD 0 []).length + 1 := by
    rw [w64 (by simp only [Int.ofNat_eq_natCast]; omega), IntKind.wrap_u64]
    simp only [Int.ofNat_eq_natCast]
    omega
  rw [hn1]
  obtain ⟨n, hn⟩ : ∃ n, (ch.getD 0 []).length = n := ⟨_, rfl⟩
  obtain ⟨q, hq, hq2⟩ : ∃ q : Nat, IntKind.i64.wrap ((IntKind.u64.wrap at_).tmod (Int.ofNat (ch.getD 0 []).length + 1)) = Int.ofNat q ∧ q ≤ n := by
    have hu : 0 ≤ IntKind.u64.wrap at_ := by rw [IntKind.wrap_u64]; omega
    rw [Int.tmod_eq_emod_of_nonneg hu, hn]
    have h1 := Int.emod_nonneg (IntKind.u64.wrap at_) (show Int.ofNat n + 1 ≠ 0 by simp only [Int.ofNat_eq_natCast]; omega)
    have h2 := Int.emod_lt_of_pos (IntKind.u64.wrap at_) (show 0 < Int.ofNat n + 1 by simp only [Int.ofNat_eq_natCast]; omega)
    rw [w64 (by simp only [Int.ofNat_eq_natCast] at h1 h2 ⊢; omega)]
    exact ⟨(IntKind.u64.wrap at_ % (Int.ofNat n + 1)).toNat, by simp only [Int.ofNat_eq_natCast] at h1 ⊢; omega, by simp only [Int.ofNat_eq_natCast] at h1 h2 ⊢; omega⟩
  rw [hq]
  have hj : IntKind.i64.wrap ((Int.ofNat q).tdiv (2 : Int)) = Int.ofNat (q / 2) := by
    have : (Int.ofNat q).tdiv (2 : Int) = Int.ofNat (q / 2) := rfl
    rw [this, w64 (by simp only [Int.ofNat_eq_natCast]; omega)]
  rw [hj]
  have hk1 : IntKind.i64.wrap (Int.ofNat q - Int.ofNat (q / 2)) = Int.ofNat (q - q / 2) := by
    rw [w64 (by simp only [Int.ofNat_eq_natCast]; omega)]; simp only [Int.ofNat_eq_natCast]; omega
  have hk2 : IntKind.i64.wrap (Int.ofNat (ch.getD 0 []).length - Int.ofNat q) = Int.ofNat (n - q) := by
    rw [hn, w64 (by simp only [Int.ofNat_eq_natCast]; omega)]; simp only [Int.ofNat_eq_natCast]; omega
  rw [hk1, hk2]
  have o0 : (OfNat.ofNat (0 : Nat) : Int) = Int.ofNat 0 := rfl
  have s1 := piece_slice hk hF (a := 0) (b := q / 2) (by omega)
  have s2 := piece_slice hk hF (a := q / 2) (b := q - q / 2) (by omega)
  have s3 := piece_slice hk hF (a := q) (b := n - q) (by omega)
  have j1 := piece_join hk hF (a := 0) (b := q / 2) (b' := q - q / 2) (by omega)
  have j2 := piece_join hk hF (a := q / 2) (b := q - q / 2) (b' := n - q) (by omega)
  have j3 := piece_join hk hF (a := 0) (b := q) (b' := n - q) (by omega)
  have j4 := piece_join hk hF (a := 0) (b := q / 2) (b' := n - q / 2) (by omega)
  rw [show 0 + q / 2 = q / 2 by omega, show q / 2 + (q - q / 2) = q by omega] at j1
  rw [show q / 2 + (q - q / 2) = q by omega, show q - q / 2 + (n - q) = n - q / 2 by omega] at j2
  rw [show 0 + q = q by omega, show q + (n - q) = n by omega] at j3
  rw [show 0 + q / 2 = q / 2 by omega, show q / 2 + (n - q / 2) = n by omega] at j4
  have hwh : piece c d r tags ch 0 n = trackL c d r tags ch := by rw [← hn]; exact piece_whole hF
  rw [hwh] at j3 j4
  have hpos : ¬ (Int.ofNat (ch.getD 0 []).length + 1 = 0) := by simp only [Int.ofNat_eq_natCast]; omega
  have hch : (0 : Int) ≤ 0 ∧ (0 : Int) < Int.ofNat ch.length := by simp only [Int.ofNat_eq_natCast]; omega
  by_cases h600 : Int.ofNat (ch.getD 0 []).length ≤ 600
  · rw [cpos h600, h24, Option.bind_some, h23, Option.bind_some]
    simp only
    rw [int_bne, cneg (fun h => h rfl), ba_beq, cnot, cpos rfl, cpos hch, cpos hpos, o0, s1, Option.bind_some, s2, Option.bind_some, s3, Option.bind_some]
    simp only
    rw [int_bne, cneg (fun h => h rfl), cneg (fun h => h rfl), cneg (fun h => h rfl), j1, Option.bind_some, j2, Option.bind_some]
    simp only
    rw [j3, Option.bind_some, j4, Option.bind_some]
    simp only
    rw [int_beq, cpos (show (0 : Int) = Int.ofNat 0 from rfl), cpos (show (0 : Int) = Int.ofNat 0 from rfl), cpos (show (0 : Int) = Int.ofNat 0 from rfl), cpos (show (0 : Int) = Int.ofNat 0 from rfl), ba_beq, cpos rfl, decide_eq_true rfl]
  · rw [cneg h600, cpos hch, cpos hpos, o0, s1, Option.bind_some, s2, Option.bind_some, s3, Option.bind_some]
    simp only
    rw [int_bne, cneg (fun h => h rfl), cneg (fun h => h rfl), cneg (fun h => h rfl), j1, Option.bind_some, j2, Option.bind_some]
    simp only
    rw [j3, Option.bind_some, j4, Option.bind_some]
    simp only
    rw [int_beq, cpos (show (0 : Int) = Int.ofNat 0 from rfl), cpos (show (0 : Int) = Int.ofNat 0 from rfl), cpos (show (0 : Int) = Int.ofNat 0 from rfl), cpos (show (0 : Int) = Int.ofNat 0 from rfl), ba_beq, cpos rfl, decide_eq_true rfl]
theorem joins_plain : ∀ x : Kd.dens (viewKs [trackT, .sl (.int .u8), .int .i64]), okAll [trackT, .sl (.int .u8), .int .i64] x → bulkAll [trackT, .sl (.int .u8), .int .i64] x ≤ 1048576 → ∃ k u, f8_F k x = some (true, u) := by
  rintro ⟨⟨⟨c, d, r, ⟨⟩⟩, tags, ch, ⟨⟩⟩, B, a, ⟨⟩⟩ hok hb
  have hb : Ty.bulk trackT ((c, d, r, ()), tags, ch, ()) + (Ty.bulk (.sl (.int .u8)) B + (1 + 0)) ≤ 1048576 := hb
  exact ⟨16777216, (), f8_spec (Nat.le_refl _) (track_small (c := c) (d := d) (r := r) (tags := tags) (ch := ch) (by omega)) B (okB_byt hok.2.1) a⟩
end Go.Sh
