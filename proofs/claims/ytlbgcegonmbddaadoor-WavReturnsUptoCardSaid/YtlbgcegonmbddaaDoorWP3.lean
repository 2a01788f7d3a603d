/-
  Plain words of wav: what a track must be.
-/
import Derived.Test.YtlbgcegonmbddaaDoorWP2
set_option linter.unusedSimpArgs false
set_option linter.unusedVariables false
set_option linter.unusedSectionVars false
namespace Go.Sh
open Go Go.Proofs

/-- no list is too long -/
structure Small (tags : List ByteArray) (ch : List (List Int)) : Prop where
  tl : tags.length ≤ 1048576
  tag : ∀ t ∈ tags, t.size ≤ 1048576
  cl : ch.length ≤ 1048576
  chan : ∀ c ∈ ch, c.length ≤ 1048576

def shapeB (c d r : Int) : Bool := decide (1 ≤ c ∧ c ≤ 2 ∧ 4 ≤ d ∧ d ≤ 24 ∧ 1 ≤ r ∧ r ≤ 655350)
def sgn (d x : Int) : Bool := decide (-((2 : Int) ^ (d - 1).toNat) ≤ x ∧ x < (2 : Int) ^ (d - 1).toNat)
def evenL (ch : List (List Int)) (x : List Int) : Bool := decide (x.length ≤ 4096 ∧ x.length = (ch.getD 0 []).length)
def chk (c d r : Int) (tags : List ByteArray) (ch : List (List Int)) : Int :=
  bif shapeB c d r then
    bif decide (8 < tags.length) then 1 else
    bif decide (¬ Int.ofNat ch.length = c) then 1 else
    bif tags.all tagV then
      bif ch.all (evenL ch) then
        bif ch.all (fun x => x.all (sgn d)) then 0 else 12
      else 1
    else 1
  else 2

theorem two_pow {n : Nat} (h : n ≤ 24) : 1 ≤ (2 : Int) ^ n ∧ (2 : Int) ^ n ≤ 16777216 := by
  have h1 : 1 ≤ 2 ^ n := Nat.one_le_two_pow
  have h2 : 2 ^ n ≤ 2 ^ 24 := Nat.pow_le_pow_right (by omega) h
  have e : ((2 ^ n : Nat) : Int) = (2 : Int) ^ n := by simp
  rw [← e]
  omega
theorem wr_sub {d : Int} (h : 4 ≤ d ∧ d ≤ 24) : IntKind.i64.wrap (d - 1) = d - 1 := w64 (by omega)
theorem min64 {d : Int} (h : 4 ≤ d ∧ d ≤ 24) : min (d - 1).toNat 64 = (d - 1).toNat := by omega

theorem f45_spec (k : Nat) (x d : Int) (h : 4 ≤ d ∧ d ≤ 24) : f45_F k (x, d, ()) = some (sgn d x, ()) := by
  show f45_raw0 k (x, d, ()) = _
  simp only [f45_raw0]
  rw [int_beq, cneg (by omega), wr_sub h, cpos (by omega), min64 h, Int.one_mul]
  have hp := two_pow (n := (d - 1).toNat) (by omega)
  unfold sgn
  generalize (2 : Int) ^ (d - 1).toNat = p at hp ⊢
  have e1 : IntKind.i64.wrap p = p := w64 (by omega)
  have e2 : IntKind.i64.wrap (0 - p) = 0 - p := w64 (by omega)
  rw [e1, e2]
  by_cases h1 : 0 - p ≤ x
  · rw [cpos h1, cpos (by omega)]
    by_cases h2 : x < p
    · rw [decide_eq_true h2, decide_eq_true (by omega)]
    · rw [decide_eq_false h2, decide_eq_false (by omega)]
  · rw [cneg h1, decide_eq_false (by omega)]

theorem f43_spec (k : Nat) (c d r : Int) : f43_F k ((c, d, r, ()), ()) = some (shapeB c d r, ()) := by
  show f43_raw0 k ((c, d, r, ()), ()) = _
  simp only [f43_raw0]
  unfold shapeB
  have tail : (bif decide ((4 : Int) ≤ d) then bif decide (d ≤ (24 : Int)) then bif decide ((1 : Int) ≤ r) then some (decide (r ≤ (655350 : Int)), ()) else some (false, ()) else some (false, ()) else some (false, ())) = some (decide (4 ≤ d ∧ d ≤ 24 ∧ 1 ≤ r ∧ r ≤ 655350), ()) := by
    by_cases h1 : (4 : Int) ≤ d
    · rw [cpos h1]
      by_cases h2 : d ≤ 24
      · rw [cpos h2]
        by_cases h3 : 1 ≤ r
        · rw [cpos h3]
          by_cases h4 : r ≤ 655350
          · rw [decide_eq_true h4, decide_eq_true ⟨h1, h2, h3, h4⟩]
          · rw [decide_eq_false h4, decide_eq_false (fun h => h4 h.2.2.2)]
        · rw [cneg h3, decide_eq_false (fun h => h3 h.2.2.1)]
      · rw [cneg h2, decide_eq_false (fun h => h2 h.2.1)]
    · rw [cneg h1, decide_eq_false (fun h => h1 h.1)]
  rw [tail, int_beq, int_beq]
  by_cases h1 : c = 1
  · rw [cpos h1]
    congr 3
    exact propext ⟨fun h => ⟨by omega, by omega, h⟩, fun h => h.2.2⟩
  · rw [cneg h1]
    by_cases h2 : c = 2
    · rw [cpos h2]
      congr 3
      exact propext ⟨fun h => ⟨by omega, by omega, h⟩, fun h => h.2.2⟩
    · rw [cneg h2, decide_eq_false (by omega)]
theorem f48_spec (k : Nat) (c d r : Int) : f48_F k ((c, d, r, ()), ()) = some ((bif shapeB c d r then 0 else 2), ()) := by
  show f48_raw0 k ((c, d, r, ()), ()) = _
  simp only [f48_raw0]
  unfold shapeB
  by_cases h1 : c < 1
  · rw [cpos h1, decide_eq_false (by omega)]; rfl
  rw [cneg h1]
  by_cases h2 : 2 < c
  · rw [cpos h2, decide_eq_false (by omega)]; rfl
  rw [cneg h2]
  by_cases h3 : d < 4
  · rw [cpos h3, decide_eq_false (by omega)]; rfl
  rw [cneg h3]
  by_cases h4 : 24 < d
  · rw [cpos h4, decide_eq_false (by omega)]; rfl
  rw [cneg h4]
  by_cases h5 : r < 1
  · rw [cpos h5, decide_eq_false (by omega)]; rfl
  rw [cneg h5]
  by_cases h6 : 655350 < r
  · rw [cpos h6, decide_eq_false (by omega)]; rfl
  rw [cneg h6, decide_eq_true (by omega)]; rfl

section ref
variable {k : Nat} (hk : 16777216 ≤ k) {c d r : Int} {tags : List ByteArray} {ch : List (List Int)} (hS : Small tags ch) (hd : 4 ≤ d ∧ d ≤ 24)
include hk hS hd
theorem f26_4 (L3 : Int × Int × Int × Int × List ByteArray × List (List Int) → Option (Int × Unit)) (i : Nat) (hi : i < ch.length) :
    f26_L4 k L3 (0, Int.ofNat i, c, d, r, tags, ch) = bif ch[i].all (sgn d) then L3 (Int.ofNat (i + 1), c, d, r, tags, ch) else some (12, ()) := by
  have hl := hS.chan ch[i] (List.getElem_mem _)
  have hcl := hS.cl
  refine iter_scan (fun j => (Int.ofNat j, Int.ofNat i, c, d, r, tags, ch)) ch[i] (sgn d) _ _ (fun L => ?_) (fun L j hj => ?_) k (by omega)
  · simp only [f26_raw4]
    rw [cpos (inR hi), getD_at hi, cneg (nltR _), wnext hi (by omega)]
  · simp only [f26_raw4]
    rw [cpos (inR hi), getD_at hi, cpos (ltR hj), cpos (inR hi), cpos (inR hj), getD_at hj, f45_spec k _ _ hd, wnext hj (by omega)]
    simp only [Option.bind_some, cnot]
theorem f26_3 : f26_L3 k (0, c, d, r, tags, ch) = bif ch.all (fun x => x.all (sgn d)) then some (0, ()) else some (12, ()) := by
  have hcl := hS.cl
  refine iter_scan (fun j => (Int.ofNat j, c, d, r, tags, ch)) ch (fun x => x.all (sgn d)) _ _ (fun L => ?_) (fun L j hj => ?_) k (by omega)
  · simp only [f26_raw3]
    rw [cneg (nltR _)]
  · simp only [f26_raw3]
    rw [cpos (ltR hj)]
    exact f26_4 hk hS hd L j hj
theorem f26_2 (hc : 1 ≤ ch.length) : f26_L2 k (0, c, d, r, tags, ch) = bif ch.all (evenL ch) then f26_L3 k (0, c, d, r, tags, ch) else some (1, ()) := by
  have hcl := hS.cl
  refine iter_scan (fun j => (Int.ofNat j, c, d, r, tags, ch)) ch (evenL ch) _ _ (fun L => ?_) (fun L j hj => ?_) k (by omega)
  · simp only [f26_raw2]
    rw [cneg (nltR _)]
  · simp only [f26_raw2]
    rw [cpos (ltR hj), cpos (inR hj), getD_at hj]
    unfold evenL
    generalize hz : (ch.getD 0 []).length = z
    by_cases h1 : (4096 : Int) < Int.ofNat ch[j].length
    · rw [cpos h1, decide_eq_false (by simp only [Int.ofNat_eq_natCast] at h1; omega)]; rfl
    · rw [cneg h1, cpos (inR hj), cpos (by simp only [Int.ofNat_eq_natCast]; omega), int_bne, wnext hj (by omega)]
      by_cases h2 : ch[j].length = z
      · rw [h2, cneg (by simp), decide_eq_true (by simp only [Int.ofNat_eq_natCast] at h1; omega)]; rfl
      · rw [cpos (by simp only [Int.ofNat_eq_natCast]; omega), decide_eq_false (fun h => h2 h.2)]; rfl
theorem f26_1 : f26_L1 k (0, c, d, r, tags, ch) = bif tags.all tagV then f26_L2 k (0, c, d, r, tags, ch) else some (1, ()) := by
  have htl := hS.tl
  refine iter_scan (fun j => (Int.ofNat j, c, d, r, tags, ch)) tags tagV _ _ (fun L => ?_) (fun L j hj => ?_) k (by omega)
  · simp only [f26_raw1]
    rw [cneg (nltR _)]
  · simp only [f26_raw1]
    rw [cpos (ltR hj), cpos (inR hj), getD_at hj, f44_spec k _ (by omega), wnext hj (by omega)]
    simp only [Option.bind_some, cnot]
end ref
theorem f26_spec {k : Nat} (hk : 16777216 ≤ k) {c d r : Int} {tags : List ByteArray} {ch : List (List Int)} (hS : Small tags ch) : f26_F k (((c, d, r, ()), tags, ch, ()), ()) = some (chk c d r tags ch, ()) := by
  show f26_raw0 k (f26_L1 k) (((c, d, r, ()), tags, ch, ()), ()) = _
  simp only [f26_raw0]
  rw [f43_spec, Option.bind_some, cnot, int_bne]
  unfold chk
  cases hs : shapeB c d r with
  | false => rfl
  | true =>
    have hs' := of_decide_eq_true hs
    simp only [cond_true]
    by_cases h8 : 8 < tags.length
    · rw [cpos (by simp only [Int.ofNat_eq_natCast]; omega), cpos h8]
    · rw [cneg (by simp only [Int.ofNat_eq_natCast]; omega), cneg h8]
      by_cases hc : Int.ofNat ch.length = c
      · rw [cneg (fun h => h hc), cneg (fun h => h hc), f26_1 hk hS ⟨hs'.2.2.1, hs'.2.2.2.1⟩, f26_2 hk hS ⟨hs'.2.2.1, hs'.2.2.2.1⟩ (by simp only [Int.ofNat_eq_natCast] at hc; omega), f26_3 hk hS ⟨hs'.2.2.1, hs'.2.2.2.1⟩]
        cases tags.all tagV with
        | false => rfl
        | true =>
          simp only [cond_true]
          cases ch.all (evenL ch) with
          | false => rfl
          | true =>
            simp only [cond_true]
            cases ch.all (fun x => x.all (sgn d)) <;> rfl
      · rw [cpos hc, cpos hc]

/-! the program's -/
theorem f60_spec {k : Nat} (hk : 16777216 ≤ k) {tags : List ByteArray} (h1 : tags.length ≤ 1048576) (h2 : ∀ t ∈ tags, t.size ≤ 1048576) : f49_F k (tags, (), ()) = some (!(tags.all tagV), ()) := by
  show f49_raw0 k (tags, (), ()) = _
  simp only [f49_raw0]
  have : ∃ n : Int, f60_F k (tags, (), ()) = some (n, ()) ∧ decide (0 ≤ n) = !(tags.all tagV) := by
    show ∃ n : Int, f60_raw0 k (f60_L1 k) (tags, (), ()) = some (n, ()) ∧ _
    simp only [f60_raw0]
    have key : ∀ (m i : Nat), tags.length < m + i → i ≤ tags.length → ∃ n : Int, iter (fun L1 => f60_raw1 k L1) m (Int.ofNat tags.length, Int.ofNat i, tags) = some (n, ()) ∧ decide (0 ≤ n) = !((tags.drop i).all tagV) := by
      intro m
      induction m with
      | zero => intro i h h'; omega
      | succ m ih =>
        intro i h h'
        rw [iter_succ]
        by_cases he : i = tags.length
        · subst he
          simp only [f60_raw1]
          rw [cneg (nltR _), List.drop_length]
          exact ⟨-1, rfl, rfl⟩
        · have hi : i < tags.length := by omega
          simp only [f60_raw1]
          rw [cpos (ltR hi), cpos (inR hi), getD_at hi]
          rw [show f50_F k (tags[i], ()) = (f51_F k (tags[i], ())).bind fun y => some (!y.1, ()) from rfl, f51_spec k _ (h2 _ (List.getElem_mem _)), Option.bind_some, Option.bind_some, wnext hi (by omega), List.drop_eq_getElem_cons hi, List.all_cons]
          cases tagV tags[i] with
          | true =>
            simp only [Bool.not_true, cond_false, Bool.true_and]
            exact ih (i + 1) (by omega) (by omega)
          | false =>
            refine ⟨Int.ofNat i, rfl, ?_⟩
            rw [decide_eq_true (by simp only [Int.ofNat_eq_natCast]; omega)]; rfl
    have := key k 0 (by omega) (by omega)
    rwa [List.drop_zero] at this
  obtain ⟨n, h, h'⟩ := this
  rw [h, Option.bind_some, h']

theorem f52_spec (k : Nat) (c d r : Int) (tags : List ByteArray) (ch : List (List Int)) : f52_F k (((c, d, r, ()), tags, ch, ()), ()) = some (Int.ofNat (ch.getD 0 []).length, ()) := by
  show f52_raw0 k (((c, d, r, ()), tags, ch, ()), ()) = _
  simp only [f52_raw0]
  cases ch with
  | nil => rfl
  | cons x ch =>
    rw [int_beq, cneg (by simp only [Int.ofNat_eq_natCast, List.length_cons]; omega), cpos (by simp only [Int.ofNat_eq_natCast, List.length_cons]; omega)]

theorem fdiv_sgn {x p : Int} (hp : 1 ≤ p) : (Int.fdiv x p = 0 ∨ Int.fdiv x p = -1) ↔ (-p ≤ x ∧ x < p) := by
  have h1 := Int.mul_fdiv_add_fmod x p
  have h2 : 0 ≤ Int.fmod x p := Int.fmod_nonneg_of_pos _ (by omega)
  have h3 : Int.fmod x p < p := Int.fmod_lt_of_pos _ (by omega)
  generalize Int.fdiv x p = q at *
  generalize Int.fmod x p = m at *
  constructor
  · rintro (rfl | rfl)
    · rw [Int.mul_zero] at h1; omega
    · rw [Int.mul_neg, Int.mul_one] at h1; omega
  · intro h
    rcases Int.lt_trichotomy q (-1) with hq | hq | hq
    · exfalso
      have : p * q ≤ p * (-2) := Int.mul_le_mul_of_nonneg_left (by omega) (by omega)
      omega
    · exact .inr hq
    · rcases Int.lt_trichotomy q 0 with hq' | hq' | hq'
      · omega
      · exact .inl hq'
      · exfalso
        have : p * 1 ≤ p * q := Int.mul_le_mul_of_nonneg_left (by omega) (by omega)
        omega
section prog
variable {k : Nat} (hk : 16777216 ≤ k) {c d r : Int} {tags : List ByteArray} {ch : List (List Int)} (hS : Small tags ch) (hd : 4 ≤ d ∧ d ≤ 24)
include hk hS hd
theorem f29_3 (L2 : Int × Int × List (List Int) × Int × Int × Int × List ByteArray × List (List Int) → Option (Int × Unit)) (i : Nat) (hi : i < ch.length) :
    f29_L3 k L2 (Int.ofNat ch[i].length, 0, ch[i], Int.ofNat i, Int.ofNat ch.length, ch, c, d, r, tags, ch) = bif ch[i].all (sgn d) then L2 (Int.ofNat ch.length, Int.ofNat (i + 1), ch, c, d, r, tags, ch) else some (12, ()) := by
  have hl := hS.chan ch[i] (List.getElem_mem _)
  have hcl := hS.cl
  refine iter_scan (fun j => (Int.ofNat ch[i].length, Int.ofNat j, ch[i], Int.ofNat i, Int.ofNat ch.length, ch, c, d, r, tags, ch)) ch[i] (sgn d) _ _ (fun L => ?_) (fun L j hj => ?_) k (by omega)
  · simp only [f29_raw3]
    rw [cneg (nltR _), wnext hi (by omega)]
  · simp only [f29_raw3]
    rw [cpos (ltR hj), cpos (inR hj), getD_at hj, wr_sub hd, cpos (by omega), min64 hd, wnext hj (by omega), int_bne, int_bne]
    have hp := two_pow (n := (d - 1).toNat) (by omega)
    have hf := fdiv_sgn (x := ch[i][j]) hp.1
    unfold sgn
    generalize (2 : Int) ^ (d - 1).toNat = p at *
    generalize Int.fdiv ch[i][j] p = q at *
    by_cases h1 : q = 0
    · rw [cneg (fun h => h h1), decide_eq_true (hf.1 (.inl h1))]; rfl
    · rw [cpos h1]
      by_cases h2 : q = -1
      · rw [cneg (fun h => h h2), decide_eq_true (hf.1 (.inr h2))]; rfl
      · rw [cpos h2, decide_eq_false (fun h => (hf.2 h).elim h1 h2)]; rfl
theorem f29_2 : f29_L2 k (Int.ofNat ch.length, 0, ch, c, d, r, tags, ch) = bif ch.all (fun x => x.all (sgn d)) then some (0, ()) else some (12, ()) := by
  have hcl := hS.cl
  refine iter_scan (fun j => (Int.ofNat ch.length, Int.ofNat j, ch, c, d, r, tags, ch)) ch (fun x => x.all (sgn d)) _ _ (fun L => ?_) (fun L j hj => ?_) k (by omega)
  · simp only [f29_raw2]
    rw [cneg (nltR _)]
  · simp only [f29_raw2]
    rw [cpos (ltR hj), cpos (inR hj), getD_at hj]
    exact f29_3 hk hS hd L j hj
theorem f29_1 : f29_L1 k (Int.ofNat ch.length, 0, ch, c, d, r, tags, ch) = bif ch.all (evenL ch) then f29_L2 k (Int.ofNat ch.length, 0, ch, c, d, r, tags, ch) else some (1, ()) := by
  have hcl := hS.cl
  refine iter_scan (fun j => (Int.ofNat ch.length, Int.ofNat j, ch, c, d, r, tags, ch)) ch (evenL ch) _ _ (fun L => ?_) (fun L j hj => ?_) k (by omega)
  · simp only [f29_raw1]
    rw [cneg (nltR _)]
  · simp only [f29_raw1]
    rw [cpos (ltR hj), cpos (inR hj), getD_at hj, f52_spec, wnext hj (by omega)]
    simp only [Option.bind_some]
    rw [int_bne]
    unfold evenL
    generalize hz : (ch.getD 0 []).length = z
    by_cases h1 : (4096 : Int) < Int.ofNat ch[j].length
    · rw [cpos h1, decide_eq_false (by simp only [Int.ofNat_eq_natCast] at h1; omega)]; rfl
    · rw [cneg h1]
      by_cases h2 : ch[j].length = z
      · rw [h2, cneg (by simp), decide_eq_true (by simp only [Int.ofNat_eq_natCast] at h1; omega)]; rfl
      · rw [cpos (by simp only [Int.ofNat_eq_natCast]; omega), decide_eq_false (fun h => h2 h.2)]; rfl
end prog
theorem f29_spec {k : Nat} (hk : 16777216 ≤ k) {c d r : Int} {tags : List ByteArray} {ch : List (List Int)} (hS : Small tags ch) : f29_F k (((c, d, r, ()), tags, ch, ()), ()) = some (chk c d r tags ch, ()) := by
  show f29_raw0 k (f29_L1 k) (((c, d, r, ()), tags, ch, ()), ()) = _
  simp only [f29_raw0]
  rw [f48_spec, Option.bind_some, int_bne]
  unfold chk
  cases hs : shapeB c d r with
  | false => rfl
  | true =>
    have hs' := of_decide_eq_true hs
    have hd : 4 ≤ d ∧ d ≤ 24 := ⟨hs'.2.2.1, hs'.2.2.2.1⟩
    simp only [cond_true]
    rw [int_bne, cneg (by simp)]
    by_cases h8 : 8 < tags.length
    · rw [cpos (by simp only [Int.ofNat_eq_natCast]; omega), cpos h8]
    · rw [cneg (by simp only [Int.ofNat_eq_natCast]; omega), cneg h8]
      by_cases hc : Int.ofNat ch.length = c
      · rw [cneg (fun h => h hc), cneg (fun h => h hc), f60_spec hk hS.tl hS.tag, Option.bind_some, cnot, f29_1 hk hS hd, f29_2 hk hS hd]
        cases tags.all tagV with
        | false => rfl
        | true =>
          simp only [cond_true]
          cases ch.all (evenL ch) with
          | false => rfl
          | true =>
            simp only [cond_true]
            cases ch.all (fun x => x.all (sgn d)) <;> rfl
      · rw [cpos hc, cpos hc]
end Go.Sh
