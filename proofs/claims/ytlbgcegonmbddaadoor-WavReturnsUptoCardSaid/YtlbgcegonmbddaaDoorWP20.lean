/-
  Decode and DocDecode in plain words.
-/
import Derived.Test.YtlbgcegonmbddaaDoorWP19
set_option linter.unusedSimpArgs false
set_option linter.unusedVariables false
set_option linter.unusedSectionVars false
namespace Go.Sh
open Go

def rawV (d y : Int) : Int := bif wideI d == 1 then y - 128 else bif decide ((2 : Int) ^ (8 * wideN d - 1) ≤ y) then y - (2 : Int) ^ (8 * wideN d) else y
def unsamp (d y : Int) : Int := (rawV d y).fdiv ((2 : Int) ^ sft d)
def chunk (w : Nat) (D : List Int) (i : Nat) : List Int := (D.drop (i * w)).take w
def putC (c i : Nat) (x : Int) (ch : List (List Int)) : List (List Int) := ch.set (i % c) (ch.getD (i % c) [] ++ [x])
def chans (d : Int) (c : Nat) (D : List Int) : Nat → List (List Int)
  | 0 => List.replicate c []
  | n + 1 => putC c n (unsamp d (numL (chunk (wideN d) D n))) (chans d c D n)

theorem chans_len (d : Int) (c : Nat) (D : List Int) : ∀ n, (chans d c D n).length = c
  | 0 => by simp [chans]
  | n + 1 => by simp [chans, putC, chans_len d c D n]
theorem chans_each (d : Int) (c : Nat) (D : List Int) : ∀ n, ∀ x ∈ chans d c D n, x.length ≤ n
  | 0, x, hx => by
    simp only [chans, List.mem_replicate] at hx
    rw [hx.2]; exact Nat.le_refl _
  | n + 1, x, hx => by
    simp only [chans, putC] at hx
    rcases List.mem_or_eq_of_mem_set hx with h | h
    · have := chans_each d c D n x h; omega
    · subst h
      simp only [List.length_append, List.length_singleton]
      by_cases hl : n % c < (chans d c D n).length
      · rw [getD_of hl]
        have := chans_each d c D n _ (List.getElem_mem hl)
        omega
      · rw [List.getD_eq_getElem?_getD, List.getElem?_eq_none (by omega)]
        simp

/-- what stands around a sample that is put -/
theorem put_chain {α : Type} {i c : Nat} {ch : List (List Int)} {S x : Int} (hc : 1 ≤ c) (hl : ch.length = c) (hS : 0 ≤ S) (hch : ∀ y ∈ ch, y.length ≤ 1048576) (L : List (List Int) → Option α) :
    (bif decide ¬(Int.ofNat c) = (0 : Int) then bif decide ((0 : Int) ≤ (Int.ofNat i).tmod (Int.ofNat c) ∧ (Int.ofNat i).tmod (Int.ofNat c) < Int.ofNat ch.length) then bif decide (((Int.ofNat i).tmod (Int.ofNat c)).toNat < ch.length) then bif decide ((0 : Int) ≤ S) then bif decide ((ch.getD ((Int.ofNat i).tmod (Int.ofNat c)).toNat []).length + [x].length < (2147483648 : Nat)) then bif decide ((0 : Int) ≤ (Int.ofNat i).tmod (Int.ofNat c) ∧ (Int.ofNat i).tmod (Int.ofNat c) < Int.ofNat ch.length) then bif decide True then bif decide (((Int.ofNat i).tmod (Int.ofNat c)).toNat < ch.length) then L (ch.set ((Int.ofNat i).tmod (Int.ofNat c)).toNat (ch.getD ((Int.ofNat i).tmod (Int.ofNat c)).toNat [] ++ [x])) else none else none else none else none else none else none else none else none) = L (putC c i x ch) := by
  have e : (Int.ofNat i).tmod (Int.ofNat c) = Int.ofNat (i % c) := by
    rw [Int.ofNat_eq_natCast, Int.ofNat_eq_natCast, Int.tmod_eq_emod_of_nonneg (by omega)]
    simp
  have hlt : i % c < c := Nat.mod_lt _ (by omega)
  rw [e]
  have hin : (0 : Int) ≤ Int.ofNat (i % c) ∧ Int.ofNat (i % c) < Int.ofNat ch.length := by simp only [Int.ofNat_eq_natCast]; omega
  have hlen : (ch.getD (i % c) []).length ≤ 1048576 := by
    rw [getD_of (by omega)]; exact hch _ (List.getElem_mem _)
  rw [cpos (by simp only [Int.ofNat_eq_natCast]; omega), cpos hin]
  rw [show (Int.ofNat (i % c)).toNat = i % c from rfl]
  rw [cpos (by omega), cpos hS, cpos (by rw [List.length_singleton]; omega), cpos hin, cpos trivial, cpos (by omega)]
  rfl

section
variable {k : Nat} (hk : 16777216 ≤ k) {B : List Int} (hb : B.length ≤ 524288) (hB : Byt B) {c d r : Int} {tags : List ByteArray} {D : List Int} (hI : IsFile B c d r tags D)
include hk hb hB hI

theorem file_D : Byt D := by
  obtain ⟨e, he, h⟩ := hI.eq
  intro x hx
  exact hB x (by rw [h]; simp [hx])

/-- how many samples, in all -/
def allN (c d : Int) (D : List Int) : Nat := (cntL c d D * c).toNat
omit hk hb hB in
theorem allN_ok : cntL c d D * c = Int.ofNat (allN c d D) ∧ allN c d D * wideN d = D.length ∧ allN c d D ≤ 8192 := by
  obtain ⟨h0, h1, h2⟩ := hI.cnt_ok
  have hc := shape_c hI.shape
  have hw := (wideN_eq (shape_d hI.shape)).1
  have e : 0 ≤ cntL c d D * c := Int.mul_nonneg h0 (by omega)
  have e1 : cntL c d D * c = Int.ofNat (allN c d D) := by
    unfold allN
    rw [Int.ofNat_eq_natCast, Int.toNat_of_nonneg e]
  refine ⟨e1, ?_, ?_⟩
  · have : ((allN c d D * wideN d : Nat) : Int) = (D.length : Int) := by
      rw [← h2, ← Int.mul_assoc, e1, hw]
      simp
    exact_mod_cast this
  · have : (Int.ofNat (allN c d D)) ≤ 4096 * 2 := by
      rw [← e1]
      exact Int.mul_le_mul h1 hc.2 (by omega) (by omega)
    simp only [Int.ofNat_eq_natCast] at this
    omega

theorem two_raw (w : Nat) (hw : 1 ≤ w ∧ w ≤ 3) : IntKind.i64.wrap ((8 : Int) * Int.ofNat w) = Int.ofNat (8 * w) ∧ IntKind.i64.wrap (Int.ofNat (8 * w) - 1) = Int.ofNat (8 * w - 1) ∧ min (Int.ofNat (8 * w)).toNat 64 = 8 * w ∧ min (Int.ofNat (8 * w - 1)).toNat 64 = 8 * w - 1 := by
  refine ⟨by rw [w64] <;> simp only [Int.ofNat_eq_natCast] <;> omega, by rw [w64] <;> simp only [Int.ofNat_eq_natCast] <;> omega, ?_, ?_⟩
  · simp only [Int.ofNat_eq_natCast, Int.toNat_natCast]; omega
  · simp only [Int.ofNat_eq_natCast, Int.toNat_natCast]; omega

/-- what Decode answers, behind its loop -/
def decE (B : List Int) (c d r : Int) (tags : List ByteArray) (ch : List (List Int)) : (((Int × Int × Int × Unit) × List ByteArray × List (List Int) × Unit) × Int × Unit) × Unit :=
  bif decide (chk c d r tags ch = 0) && decide (trackL c d r tags ch = B) then ((((c, d, r, ()), tags, ch, ()), 0, ()), ()) else (((((0 : Int), (0 : Int), (0 : Int), ()), [], [], ()), 2, ()), ())
def decNone : (((Int × Int × Int × Unit) × List ByteArray × List (List Int) × Unit) × Int × Unit) × Unit := (((((0 : Int), (0 : Int), (0 : Int), ()), [], [], ()), 2, ()), ())

omit hk hb hB hI in
theorem fdiv_one {y p : Int} (hp : 1 ≤ p) (h : 0 ≤ y ∧ y < p * 2) : (Int.fdiv y p == (1 : Int)) = decide (p ≤ y) := by
  rw [int_beq]
  congr 1
  apply propext
  rw [Int.fdiv_eq_ediv_of_nonneg _ (by omega)]
  constructor
  · intro e
    have h1 := Int.ediv_mul_le y (show p ≠ 0 by omega)
    rw [e] at h1; omega
  · intro e
    have h1 : 1 ≤ y / p := (Int.le_ediv_iff_mul_le (by omega)).2 (by omega)
    have h2 : y / p < 2 := Int.ediv_lt_of_lt_mul (by omega) (by omega)
    omega

theorem f18_file : f18_F k (B, ()) = some (decE B c d r tags (chans d c.toNat D (allN c d D))) := by
  have hc := shape_c hI.shape
  have hd := shape_d hI.shape
  have hDl := hI.D_len
  have hD := file_D hk hb hB hI
  obtain ⟨hn1, hn2, hn3⟩ := allN_ok hI
  obtain ⟨hw1, hw2, hw3⟩ := wideN_eq hd
  have htv := hI.tv
  have ht8 := htv.1
  generalize hn : allN c d D = n at *
  obtain ⟨cN, rfl⟩ := Int.eq_ofNat_of_zero_le (show 0 ≤ c by omega)
  have hcN : 1 ≤ cN ∧ cN ≤ 2 := by omega
  show f18_raw0 k (f18_L1 k) (B, ()) = _
  simp only [f18_raw0]
  rw [f33_file hk (by omega) hB hI, Option.bind_some]
  simp only
  rw [int_bne, cneg (fun h => h rfl), cpos (by omega), f30_spec k hd, Option.bind_some, f34_spec k hI.shape _ _ (by omega), Option.bind_some]
  simp only
  rw [w64 (by rw [hn1]; simp only [Int.ofNat_eq_natCast]; omega), hn1, hw1]
  show iter (fun L1 => f18_raw1 k L1) k _ = _
  have hlen : ∀ i, (chans d cN D i).length = cN := chans_len d cN D
  have key := iter_list (step := fun L1 => f18_raw1 k L1) (A := Unit) (fun i _ => (Int.ofNat n, Int.ofNat i, Int.ofNat (wideN d), B, D.drop (i * wideN d), false, (cN : Int), d, r, tags, D, (cN : Int), d, r, tags, chans d cN D i, (0 : Int), (0 : Int), (0 : Int))) (List.range n)
    (fun _ _ => some (decE B cN d r tags (chans d cN D n)))
    (fun L _ => by
      simp only [f18_raw1, List.length_range]
      rw [cneg (nltR _)]
      have hS : Small tags (chans d cN D n) := ⟨by omega, fun t ht => by have := tagV_size (htv.2 t ht); omega, by rw [hlen]; omega, fun x hx => by have := chans_each d cN D n x hx; omega⟩
      rw [f12_spec hk hS, Option.bind_some]
      unfold decE
      by_cases h : chk (cN : Int) d r tags (chans d cN D n) = 0
      · rw [cpos h]
        simp only
        rw [int_bne, cneg (fun h => h rfl)]
        have h39 : f39_F k (B, trackL (cN : Int) d r tags (chans d cN D n), ()) = some (decide (B = trackL (cN : Int) d r tags (chans d cN D n)), ()) := by
          show some ((bytesOf B).toList == (bytesOf _).toList, ()) = _
          rw [ba_beq]
          congr 3
          exact propext ⟨fun e => bytesOf_inj hB trackL_byt e, fun e => by rw [e]⟩
        rw [h39, Option.bind_some]
        simp only
        rw [cnot, decide_eq_true h]
        by_cases e : B = trackL (cN : Int) d r tags (chans d cN D n)
        · rw [cpos e, decide_eq_true e.symm]; rfl
        · rw [cneg e, decide_eq_false (Ne.symm e)]; rfl
      · rw [cneg h]
        simp only
        rw [int_bne, cpos h, decide_eq_false h]; rfl)
    (fun L i hi _ hL => by
      rw [List.length_range] at hi
      simp only [f18_raw1]
      have him : (i + 1) * wideN d ≤ D.length := by rw [← hn2]; exact Nat.mul_le_mul_right _ hi
      rw [Nat.add_mul, Nat.one_mul] at him
      rw [cpos (ltR hi), f38_ok hk (D.drop (i * wideN d)) false (wideN d) (by simp; omega) (by omega) (by simp; omega) (byt_drop hD _), Option.bind_some]
      simp only
      have hbd := numL_bound _ (byt_take (byt_drop hD (i * wideN d)) (wideN d))
      have hcl : ((D.drop (i * wideN d)).take (wideN d)).length = wideN d := by simp; omega
      rw [hcl] at hbd
      obtain ⟨q1, q2, q3, q4⟩ := two_raw hk hb hB hI (wideN d) ⟨hw2, hw3⟩
      obtain ⟨s1, s2⟩ := sft_raw hd
      rw [hw1] at s1 s2
      have hch : ∀ y ∈ chans d cN D i, y.length ≤ 1048576 := fun y hy => by have := chans_each d cN D i y hy; omega
      have hnext : ∀ x, x = unsamp d (numL (chunk (wideN d) D i)) → L (Int.ofNat n, IntKind.i64.wrap (Int.ofNat i + 1), Int.ofNat (wideN d), B, (D.drop (i * wideN d)).drop (wideN d), false, (cN : Int), d, r, tags, D, (cN : Int), d, r, tags, putC cN i x (chans d cN D i), (0 : Int), (0 : Int), (0 : Int)) = some (decE B cN d r tags (chans d cN D n)) := by
        intro x hx
        rw [wnext hi (by omega), List.drop_drop, show i * wideN d + wideN d = (i + 1) * wideN d by rw [Nat.add_mul, Nat.one_mul], hx]
        exact hL ()
      have hp1 : (2 : Int) ^ (8 * wideN d) = (2 : Int) ^ (8 * wideN d - 1) * 2 := by
        rw [← Int.pow_succ]; congr 1; omega
      have hp0 : 1 ≤ (2 : Int) ^ (8 * wideN d - 1) ∧ (2 : Int) ^ (8 * wideN d - 1) ≤ 8388608 := by
        have : wideN d = 1 ∨ wideN d = 2 ∨ wideN d = 3 := by omega
        rcases this with h | h | h <;> rw [h] <;> decide
      by_cases hw : wideN d = 1
      · have hw' : (Int.ofNat (wideN d) == (1 : Int)) = true := by rw [hw]; rfl
        rw [hw', cond_true]
        refine (put_chain (x := (IntKind.i64.wrap (numL ((D.drop (i * wideN d)).take (wideN d)) - 128)).fdiv ((2 : Int) ^ min (IntKind.i64.wrap (IntKind.i64.wrap ((8 : Int) * Int.ofNat (wideN d)) - d)).toNat (64 : Nat))) hcN.1 (hlen i) s1 hch (fun ch => L (Int.ofNat n, IntKind.i64.wrap (Int.ofNat i + 1), Int.ofNat (wideN d), B, (D.drop (i * wideN d)).drop (wideN d), false, (cN : Int), d, r, tags, D, (cN : Int), d, r, tags, ch, (0 : Int), (0 : Int), (0 : Int)))).trans (hnext _ ?_)
        rw [s2]
        unfold unsamp rawV chunk
        rw [hw1, hw', cond_true, w64 (by omega)]
      · have hw' : (Int.ofNat (wideN d) == (1 : Int)) = false := by rw [int_beq, decide_eq_false]; simp only [Int.ofNat_eq_natCast]; omega
        rw [hw', cond_false, q1, q2, q3, q4, cpos (by simp only [Int.ofNat_eq_natCast]; omega), fdiv_one hp0.1 (by rw [← hp1]; exact hbd)]
        rw [q1] at s1 s2
        by_cases hge : (2 : Int) ^ (8 * wideN d - 1) ≤ numL ((D.drop (i * wideN d)).take (wideN d))
        · rw [cpos hge, cpos (by simp only [Int.ofNat_eq_natCast]; omega)]
          refine (put_chain (x := (IntKind.i64.wrap (numL ((D.drop (i * wideN d)).take (wideN d)) - IntKind.i64.wrap ((1 : Int) * (2 : Int) ^ (8 * wideN d)))).fdiv ((2 : Int) ^ min (IntKind.i64.wrap (Int.ofNat (8 * wideN d) - d)).toNat (64 : Nat))) hcN.1 (hlen i) s1 hch (fun ch => L (Int.ofNat n, IntKind.i64.wrap (Int.ofNat i + 1), Int.ofNat (wideN d), B, (D.drop (i * wideN d)).drop (wideN d), false, (cN : Int), d, r, tags, D, (cN : Int), d, r, tags, ch, (0 : Int), (0 : Int), (0 : Int)))).trans (hnext _ ?_)
          rw [s2]
          unfold unsamp rawV chunk
          rw [hw1, hw', cond_false, cpos hge, Int.one_mul, w64 (n := (2 : Int) ^ (8 * wideN d)) (by omega), w64 (by omega)]
        · rw [cneg hge]
          refine (put_chain (x := (numL ((D.drop (i * wideN d)).take (wideN d))).fdiv ((2 : Int) ^ min (IntKind.i64.wrap (Int.ofNat (8 * wideN d) - d)).toNat (64 : Nat))) hcN.1 (hlen i) s1 hch (fun ch => L (Int.ofNat n, IntKind.i64.wrap (Int.ofNat i + 1), Int.ofNat (wideN d), B, (D.drop (i * wideN d)).drop (wideN d), false, (cN : Int), d, r, tags, D, (cN : Int), d, r, tags, ch, (0 : Int), (0 : Int), (0 : Int)))).trans (hnext _ ?_)
          rw [s2]
          unfold unsamp rawV chunk
          rw [hw1, hw', cond_false, cneg hge]) k 0 () (by rw [List.length_range]; omega) (by omega)
  simpa [chans] using key

theorem f21_file : f21_F k (bytesOf B, ()) = some (decE B c d r tags (chans d c.toNat D (allN c d D))) := by
  have hc := shape_c hI.shape
  have hd := shape_d hI.shape
  have hDl := hI.D_len
  have hD := file_D hk hb hB hI
  obtain ⟨hn1, hn2, hn3⟩ := allN_ok hI
  obtain ⟨hw1, hw2, hw3⟩ := wideN_eq hd
  have htv := hI.tv
  have ht8 := htv.1
  generalize hn : allN c d D = n at *
  obtain ⟨cN, rfl⟩ := Int.eq_ofNat_of_zero_le (show 0 ≤ c by omega)
  have hcN : 1 ≤ cN ∧ cN ≤ 2 := by omega
  show f21_raw0 k (f21_L1 k) (bytesOf B, ()) = _
  simp only [f21_raw0]
  have h35 : f35_F k (bytesOf B, ()) = some ((((cN : Int), d, r, ()), tags, bytesOf D, true, ()), ()) := f35_file hk hb hB hI
  rw [h35, Option.bind_some]
  simp only [Bool.not_true, cond_false]
  rw [f36_spec k hd, Option.bind_some, cpos (by omega)]
  simp only
  rw [hw1]
  show iter (fun L1 => f21_raw1 k L1) k _ = _
  have hlen : ∀ i, (chans d cN D i).length = cN := chans_len d cN D
  have hdiv : IntKind.i64.wrap ((Int.ofNat (bytesOf D).size).tdiv (Int.ofNat (wideN d))) = Int.ofNat n := by
    rw [bytesOf_size, Int.ofNat_eq_natCast, Int.ofNat_eq_natCast, Int.tdiv_eq_ediv_of_nonneg (by omega), ← Int.natCast_ediv, ← hn2, Nat.mul_div_cancel _ (by omega)]
    exact w64 (by omega)
  have hw0 : ¬ (Int.ofNat (wideN d) = 0) := by simp only [Int.ofNat_eq_natCast]; omega
  have key := iter_list (step := fun L1 => f21_raw1 k L1) (A := Unit) (fun i _ => (Int.ofNat i, bytesOf D, Int.ofNat (wideN d), bytesOf B, (cN : Int), d, r, (cN : Int), d, r, tags, chans d cN D i, (0 : Int), (0 : Int), (0 : Int))) (List.range n)
    (fun _ _ => some (decE B cN d r tags (chans d cN D n)))
    (fun L _ => by
      simp only [f21_raw1, List.length_range]
      rw [cpos hw0, hdiv, cneg (nltR _)]
      have hS : Small tags (chans d cN D n) := ⟨by omega, fun t ht => by have := tagV_size (htv.2 t ht); omega, by rw [hlen]; omega, fun x hx => by have := chans_each d cN D n x hx; omega⟩
      rw [f11_spec hk hS, Option.bind_some]
      unfold decE
      by_cases h : chk (cN : Int) d r tags (chans d cN D n) = 0
      · rw [cpos h]
        simp only
        rw [int_bne, cneg (fun h => h rfl), ba_beq, cnot, decide_eq_true h]
        by_cases e : trackL (cN : Int) d r tags (chans d cN D n) = B
        · rw [cpos (by rw [e]), decide_eq_true e]; rfl
        · rw [cneg (fun e' => e (bytesOf_inj trackL_byt hB e')), decide_eq_false e]; rfl
      · rw [cneg h]
        simp only
        rw [int_bne, cpos h, decide_eq_false h]; rfl)
    (fun L i hi _ hL => by
      rw [List.length_range] at hi
      simp only [f21_raw1]
      have him : (i + 1) * wideN d ≤ D.length := by rw [← hn2]; exact Nat.mul_le_mul_right _ hi
      have him2 := him
      rw [Nat.add_mul, Nat.one_mul] at him
      have m1 : IntKind.i64.wrap (Int.ofNat i * Int.ofNat (wideN d)) = Int.ofNat (i * wideN d) := by
        rw [Int.ofNat_eq_natCast, Int.ofNat_eq_natCast, Int.ofNat_eq_natCast, ← Int.natCast_mul]; exact w64 (by omega)
      have m2 : IntKind.i64.wrap (IntKind.i64.wrap (Int.ofNat i + 1) * Int.ofNat (wideN d)) = Int.ofNat ((i + 1) * wideN d) := by
        rw [wnext hi (by omega), Int.ofNat_eq_natCast, Int.ofNat_eq_natCast, Int.ofNat_eq_natCast, ← Int.natCast_mul]; exact w64 (by omega)
      have hex : (bytesOf D).extract (i * wideN d) ((i + 1) * wideN d) = bytesOf ((D.drop (i * wideN d)).take (wideN d)) := by
        rw [extract_bytesOf, List.drop_take, Nat.add_mul, Nat.one_mul, Nat.add_sub_cancel_left]
      rw [cpos hw0, hdiv, cpos (ltR hi), m1, m2, bytesOf_size, cpos (by simp only [Int.ofNat_eq_natCast]; rw [Nat.add_mul, Nat.one_mul]; omega)]
      rw [show (Int.ofNat (i * wideN d)).toNat = i * wideN d from rfl, show (Int.ofNat ((i + 1) * wideN d)).toNat = (i + 1) * wideN d from rfl, hex]
      have hcl : ((D.drop (i * wideN d)).take (wideN d)).length = wideN d := by simp; omega
      rw [f40_spec hk _ (by omega) (byt_take (byt_drop hD _) _), Option.bind_some]
      simp only
      have hbd := numL_bound _ (byt_take (byt_drop hD (i * wideN d)) (wideN d))
      rw [hcl] at hbd
      obtain ⟨q1, q2, q3, q4⟩ := two_raw hk hb hB hI (wideN d) ⟨hw2, hw3⟩
      obtain ⟨s1, s2⟩ := sft_raw hd
      rw [hw1] at s1 s2
      have hch : ∀ y ∈ chans d cN D i, y.length ≤ 1048576 := fun y hy => by have := chans_each d cN D i y hy; omega
      have hnext : ∀ x, x = unsamp d (numL (chunk (wideN d) D i)) → L (IntKind.i64.wrap (Int.ofNat i + 1), bytesOf D, Int.ofNat (wideN d), bytesOf B, (cN : Int), d, r, (cN : Int), d, r, tags, putC cN i x (chans d cN D i), (0 : Int), (0 : Int), (0 : Int)) = some (decE B cN d r tags (chans d cN D n)) := by
        intro x hx
        rw [wnext hi (by omega), hx]
        exact hL ()
      have hp1 : (2 : Int) ^ (8 * wideN d) = (2 : Int) ^ (8 * wideN d - 1) * 2 := by
        rw [← Int.pow_succ]; congr 1; omega
      have hp0 : 1 ≤ (2 : Int) ^ (8 * wideN d - 1) ∧ (2 : Int) ^ (8 * wideN d - 1) ≤ 8388608 := by
        have : wideN d = 1 ∨ wideN d = 2 ∨ wideN d = 3 := by omega
        rcases this with h | h | h <;> rw [h] <;> decide
      by_cases hw : wideN d = 1
      · have hw' : (Int.ofNat (wideN d) == (1 : Int)) = true := by rw [hw]; rfl
        rw [hw', cond_true]
        refine (put_chain (x := (IntKind.i64.wrap (numL ((D.drop (i * wideN d)).take (wideN d)) - 128)).fdiv ((2 : Int) ^ min (IntKind.i64.wrap (IntKind.i64.wrap ((8 : Int) * Int.ofNat (wideN d)) - d)).toNat (64 : Nat))) hcN.1 (hlen i) s1 hch (fun ch => L (IntKind.i64.wrap (Int.ofNat i + 1), bytesOf D, Int.ofNat (wideN d), bytesOf B, (cN : Int), d, r, (cN : Int), d, r, tags, ch, (0 : Int), (0 : Int), (0 : Int)))).trans (hnext _ ?_)
        rw [s2]
        unfold unsamp rawV chunk
        rw [hw1, hw', cond_true, w64 (by omega)]
      · have hw' : (Int.ofNat (wideN d) == (1 : Int)) = false := by rw [int_beq, decide_eq_false]; simp only [Int.ofNat_eq_natCast]; omega
        rw [hw', cond_false, q1, q2, q3, q4, cpos (by simp only [Int.ofNat_eq_natCast]; omega), Int.one_mul, w64 (n := (2 : Int) ^ (8 * wideN d - 1)) (by omega)]
        rw [q1] at s1 s2
        by_cases hge : (2 : Int) ^ (8 * wideN d - 1) ≤ numL ((D.drop (i * wideN d)).take (wideN d))
        · rw [cpos hge, cpos (by simp only [Int.ofNat_eq_natCast]; omega)]
          refine (put_chain (x := (IntKind.i64.wrap (numL ((D.drop (i * wideN d)).take (wideN d)) - IntKind.i64.wrap ((1 : Int) * (2 : Int) ^ (8 * wideN d)))).fdiv ((2 : Int) ^ min (IntKind.i64.wrap (Int.ofNat (8 * wideN d) - d)).toNat (64 : Nat))) hcN.1 (hlen i) s1 hch (fun ch => L (IntKind.i64.wrap (Int.ofNat i + 1), bytesOf D, Int.ofNat (wideN d), bytesOf B, (cN : Int), d, r, (cN : Int), d, r, tags, ch, (0 : Int), (0 : Int), (0 : Int)))).trans (hnext _ ?_)
          rw [s2]
          unfold unsamp rawV chunk
          rw [hw1, hw', cond_false, cpos hge, Int.one_mul, w64 (n := (2 : Int) ^ (8 * wideN d)) (by omega), w64 (by omega)]
        · rw [cneg hge]
          refine (put_chain (x := (numL ((D.drop (i * wideN d)).take (wideN d))).fdiv ((2 : Int) ^ min (IntKind.i64.wrap (Int.ofNat (8 * wideN d) - d)).toNat (64 : Nat))) hcN.1 (hlen i) s1 hch (fun ch => L (IntKind.i64.wrap (Int.ofNat i + 1), bytesOf D, Int.ofNat (wideN d), bytesOf B, (cN : Int), d, r, (cN : Int), d, r, tags, ch, (0 : Int), (0 : Int), (0 : Int)))).trans (hnext _ ?_)
          rw [s2]
          unfold unsamp rawV chunk
          rw [hw1, hw', cond_false, cneg hge]) k 0 () (by rw [List.length_range]; omega) (by omega)
  simpa [chans] using key
end

theorem f18_none {k : Nat} (hk : 16777216 ≤ k) {B : List Int} (hb : B.length ≤ 524288) (hB : Byt B) (hI : ∀ c d r tags D, ¬ IsFile B c d r tags D) : f18_F k (B, ()) = some decNone := by
  show f18_raw0 k (f18_L1 k) (B, ()) = _
  simp only [f18_raw0]
  rw [f33_none hk (by omega) hB hI, Option.bind_some]
  rfl
theorem f21_none {k : Nat} (hk : 16777216 ≤ k) {B : List Int} (hb : B.length ≤ 524288) (hB : Byt B) (hI : ∀ c d r tags D, ¬ IsFile B c d r tags D) : f21_F k (bytesOf B, ()) = some decNone := by
  show f21_raw0 k (f21_L1 k) (bytesOf B, ()) = _
  simp only [f21_raw0]
  rw [f35_none hk hb hB hI, Option.bind_some]
  rfl

end Go.Sh
