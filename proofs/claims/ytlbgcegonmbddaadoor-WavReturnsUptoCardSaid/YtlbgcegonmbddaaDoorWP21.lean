/-
  What is encoded comes back.
-/
import Derived.Test.YtlbgcegonmbddaaDoorWP20
set_option linter.unusedSimpArgs false
set_option linter.unusedVariables false
set_option linter.unusedSectionVars false
namespace Go.Sh
open Go

theorem numL_low_mod {s : Nat} (hs : s ≤ 3) (n : Int) : numL (low n s) = n % (2 : Int) ^ (8 * s) := by
  have : s = 0 ∨ s = 1 ∨ s = 2 ∨ s = 3 := by omega
  rcases this with rfl | rfl | rfl | rfl
  · simp [low, numL]
  · have e : (2 : Int) ^ (8 * 1) = 256 := by decide
    rw [low_succ, e]; simp [low, numL]
  · have e : (2 : Int) ^ (8 * 2) = 65536 := by decide
    rw [low_succ, low_succ, e]; simp [low, numL]; omega
  · have e : (2 : Int) ^ (8 * 3) = 16777216 := by decide
    rw [low_succ, low_succ, low_succ, e]; simp [low, numL]; omega

/-- sft's power beside the sign's bound -/
theorem pow_split {d : Int} (hd : 4 ≤ d ∧ d ≤ 24) : (2 : Int) ^ (d - 1).toNat * (2 : Int) ^ sft d = (2 : Int) ^ (8 * wideN d - 1) := by
  obtain ⟨h1, h2, h3⟩ := wideN_eq hd
  have hw := wide_ok hd
  rw [← Int.pow_add]
  congr 1
  unfold sft
  rw [h1] at hw ⊢
  simp only [Int.ofNat_eq_natCast] at hw ⊢
  omega

theorem unsamp_samp {d x : Int} (hd : 4 ≤ d ∧ d ≤ 24) (h : sgn d x = true) : unsamp d (samp d x % (2 : Int) ^ (8 * wideN d)) = x := by
  have hs := of_decide_eq_true h
  have hp := sft_pow hd
  have hsp := pow_split hd
  obtain ⟨h1, h2, h3⟩ := wideN_eq hd
  have hb1 : -(2 : Int) ^ (8 * wideN d - 1) ≤ x * (2 : Int) ^ sft d := by
    rw [← hsp, ← Int.neg_mul]
    exact Int.mul_le_mul_of_nonneg_right hs.1 (by omega)
  have hb2 : x * (2 : Int) ^ sft d < (2 : Int) ^ (8 * wideN d - 1) := by
    rw [← hsp]
    exact Int.mul_lt_mul_of_pos_right hs.2 (by omega)
  have hdiv : (x * (2 : Int) ^ sft d).fdiv ((2 : Int) ^ sft d) = x := by
    rw [Int.fdiv_eq_ediv_of_nonneg _ (by omega), Int.mul_ediv_cancel _ (by omega)]
  have hw : wideN d = 1 ∨ wideN d = 2 ∨ wideN d = 3 := by omega
  unfold unsamp rawV samp
  rw [h1]
  generalize hv : x * (2 : Int) ^ sft d = v at *
  rcases hw with hw | hw | hw
  · rw [hw] at hb1 hb2 ⊢
    rw [show (Int.ofNat 1 == (1 : Int)) = true from rfl]
    simp only [cond_true]
    have e : (2 : Int) ^ (8 * 1) = 256 := by decide
    have e' : (2 : Int) ^ (8 * 1 - 1) = 128 := by decide
    rw [e'] at hb1 hb2
    rw [e, show (v + 128) % 256 - 128 = v by omega]; exact hdiv
  · rw [hw] at hb1 hb2 ⊢
    rw [show (Int.ofNat 2 == (1 : Int)) = false from rfl]
    simp only [cond_false]
    have e : (2 : Int) ^ (8 * 2) = 65536 := by decide
    have e' : (2 : Int) ^ (8 * 2 - 1) = 32768 := by decide
    rw [e'] at hb1 hb2
    rw [e, e']
    by_cases hc : 32768 ≤ v % 65536
    · rw [cpos hc, show v % 65536 - 65536 = v by omega]; exact hdiv
    · rw [cneg hc, show v % 65536 = v by omega]; exact hdiv
  · rw [hw] at hb1 hb2 ⊢
    rw [show (Int.ofNat 3 == (1 : Int)) = false from rfl]
    simp only [cond_false]
    have e : (2 : Int) ^ (8 * 3) = 16777216 := by decide
    have e' : (2 : Int) ^ (8 * 3 - 1) = 8388608 := by decide
    rw [e'] at hb1 hb2
    rw [e, e']
    by_cases hc : 8388608 ≤ v % 16777216
    · rw [cpos hc, show v % 16777216 - 16777216 = v by omega]; exact hdiv
    · rw [cneg hc, show v % 16777216 = v by omega]; exact hdiv

theorem chunk_row {d : Int} {ch : List (List Int)} {n j q : Nat} (hj : j < n) (hq : q < ch.length) :
    chunk (wideN d) (dataL d ch n) (j * ch.length + q) = ((rowL d ch j).drop (q * wideN d)).take (wideN d) := by
  unfold chunk dataL
  rw [show (j * ch.length + q) * wideN d = j * (ch.length * wideN d) + q * wideN d by rw [Nat.add_mul, Nat.mul_assoc], ← List.drop_drop, flat_drop _ _ _ _ (fun j _ => rowL_len d ch j)]
  have hr : (List.range n).drop j = j :: (List.range n).drop (j + 1) := by
    rw [List.drop_eq_getElem_cons (by simpa using hj)]
    simp
  rw [hr, List.flatMap_cons]
  have hl := rowL_len d ch j
  have hqw : q * wideN d + wideN d ≤ ch.length * wideN d := by
    have := Nat.mul_le_mul_right (wideN d) (show q + 1 ≤ ch.length by omega)
    rw [Nat.add_mul, Nat.one_mul] at this
    exact this
  rw [List.drop_append_of_le_length (by omega), List.take_append_of_le_length (by simp; omega)]

theorem take_snoc {l : List Int} {j : Nat} (h : j < l.length) : l.take j ++ [l.getD j 0] = l.take (j + 1) := by
  rw [getD_of h, ← List.take_succ_eq_append_getElem h]

section
variable {c d r : Int} {tags : List ByteArray} {ch : List (List Int)} (hF : Fine c d r tags ch)
include hF
theorem chunk_val {j q : Nat} (hj : j < (ch.getD 0 []).length) (hq : q < ch.length) :
    unsamp d (numL (chunk (wideN d) (dataL d ch (ch.getD 0 []).length) (j * ch.length + q))) = (ch.getD q []).getD j 0 := by
  have hd := hF.d24
  obtain ⟨h1, h2, h3⟩ := wideN_eq hd
  have hcl := hF.cl2
  rw [chunk_row hj hq]
  have hx : ch.getD q [] ∈ ch := by rw [getD_of hq]; exact List.getElem_mem _
  have hlen := (hF.even _ hx).2
  have hsg : sgn d ((ch.getD q []).getD j 0) = true := by
    refine hF.sgn _ hx _ ?_
    rw [getD_of (l := ch.getD q []) (i := j) (by omega)]
    exact List.getElem_mem _
  have e : ((rowL d ch j).drop (q * wideN d)).take (wideN d) = low (samp d ((ch.getD q []).getD j 0)) (wideN d) := by
    unfold rowL
    rw [flat_drop _ (wideN d) _ _ (fun x _ => low_len _ _)]
    rw [List.drop_eq_getElem_cons hq, List.flatMap_cons, take_len (low_len _ _), getD_of hq]
  rw [e, numL_low_mod h3, unsamp_samp hd hsg]

theorem chans_back : chans d ch.length (dataL d ch (ch.getD 0 []).length) ((ch.getD 0 []).length * ch.length) = ch := by
  have hcl := hF.cl2
  have hval := fun j q => chunk_val hF (j := j) (q := q)
  have heven := hF.even
  match ch, hcl, hval, heven with
  | [a], _, hval, heven =>
    have key : ∀ j, j ≤ a.length → chans d 1 (dataL d [a] a.length) j = [a.take j] := by
      intro j
      induction j with
      | zero => intro _; simp [chans]
      | succ j ih =>
        intro hj
        have hv := hval j 0 (by simp; omega) (by simp)
        simp only [List.length_singleton, Nat.mul_one, Nat.add_zero, List.getD_cons_zero] at hv
        simp only [chans]
        rw [ih (by omega), hv]
        simp only [putC, Nat.mod_one, List.set_cons_zero, List.getD_cons_zero]
        rw [take_snoc hj]
    have := key a.length (Nat.le_refl _)
    simp only [List.length_singleton, List.getD_cons_zero, Nat.mul_one]
    rw [this, List.take_length]
  | [a, b], _, hval, heven =>
    have hlen : b.length = a.length := (heven b (by simp)).2
    have key : ∀ j, j ≤ a.length → chans d 2 (dataL d [a, b] a.length) (j * 2) = [a.take j, b.take j] := by
      intro j
      induction j with
      | zero => intro _; simp [chans, List.replicate]
      | succ j ih =>
        intro hj
        have hv0 := hval j 0 (by simp; omega) (by simp)
        have hv1 := hval j 1 (by simp; omega) (by simp)
        simp only [List.length_cons, List.length_nil, Nat.zero_add, Nat.reduceAdd, Nat.add_zero, List.getD_cons_zero, List.getD_cons_succ] at hv0 hv1
        rw [show (j + 1) * 2 = j * 2 + 1 + 1 by omega]
        simp only [chans]
        rw [ih (by omega), hv0, hv1]
        simp only [putC]
        rw [show j * 2 % 2 = 0 by omega, show (j * 2 + 1) % 2 = 1 by omega]
        simp only [List.set_cons_zero, List.set_cons_succ, List.getD_cons_zero, List.getD_cons_succ]
        rw [take_snoc hj, take_snoc (by omega)]
    have := key a.length (Nat.le_refl _)
    simp only [List.length_cons, List.length_nil, Nat.zero_add, Nat.reduceAdd, List.getD_cons_zero]
    rw [this, List.take_length, ← hlen, List.take_length]
  | _ :: _ :: _ :: _, hcl, _, _ => simp only [List.length_cons] at hcl; omega
  | [], hcl, _, _ => simp at hcl

/-- Decode tells the track of a file -/
theorem decode_track {k : Nat} (hk : 16777216 ≤ k) : f18_F k (trackL c d r tags ch, ()) = some ((((c, d, r, ()), tags, ch, ()), 0, ()), ()) := by
  obtain ⟨hI, hcnt, hlen⟩ := hF.file
  rw [f18_file hk (by omega) trackL_byt hI]
  have hc : c.toNat = ch.length := by rw [← hF.cl]; rfl
  have hn : allN c d (dataL d ch (ch.getD 0 []).length) = (ch.getD 0 []).length * ch.length := by
    unfold allN
    rw [hcnt, ← hF.cl]
    simp only [Int.ofNat_eq_natCast]
    rw [← Int.natCast_mul, Int.toNat_natCast]
  rw [hc, hn, chans_back hF]
  unfold decE
  rw [decide_eq_true (chk_zero.2 hF), decide_eq_true rfl]
  rfl
end
end Go.Sh
