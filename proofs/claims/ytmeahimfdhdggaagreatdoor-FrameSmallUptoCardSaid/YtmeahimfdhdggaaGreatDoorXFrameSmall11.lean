/-
  What the row needs, part 11.
-/
import Derived.Test.YtmeahimfdhdggaaGreatDoorXFrameSmall10
import Derived.Lib.ItoaNum
set_option linter.unusedSimpArgs false
set_option linter.unusedVariables false
set_option linter.unusedSectionVars false
namespace Go.Sh
open Go Go.Proofs
def foldN (n : Int) : Nat := if n < 0 then (-2 * n - 1).toNat else (2 * n).toNat
theorem xor_sign {a : Int} {n : Int} (ha : -1152921504606846976 ≤ a ∧ a ≤ 1152921504606846976) (hn : (a < 0 ↔ n < 0)) (hn' : -1152921504606846976 ≤ n ∧ n ≤ 1152921504606846976) :
    IntKind.i64.wrap (Int.ofNat (BitVec.ofInt 64 a ^^^ BitVec.ofInt 64 (n.fdiv 9223372036854775808)).toNat) = if n < 0 then -a - 1 else a := by
  by_cases h : n < 0
  · have e1 : n.fdiv 9223372036854775808 = -1 := by rw [Int.fdiv_eq_ediv_of_nonneg _ (by omega)]; omega
    rw [e1, if_pos h, show BitVec.ofInt 64 (-1) = BitVec.allOnes 64 from by decide, BitVec.xor_allOnes, BitVec.toNat_not, BitVec.toNat_ofInt]
    have : ((a % ((2 ^ 64 : Nat) : Int)).toNat) = (a + 18446744073709551616).toNat := by omega
    rw [this]
    have e2 : Int.ofNat (2 ^ 64 - 1 - (a + 18446744073709551616).toNat) = -a - 1 := by simp only [Int.ofNat_eq_natCast]; omega
    rw [e2, w64 (by omega)]
  · have e1 : n.fdiv 9223372036854775808 = 0 := by rw [Int.fdiv_eq_ediv_of_nonneg _ (by omega)]; omega
    rw [e1, if_neg h, show BitVec.ofInt 64 0 = 0#64 from rfl, BitVec.xor_zero, BitVec.toNat_ofInt]
    have : Int.ofNat ((a % ((2 ^ 64 : Nat) : Int)).toNat) = a := by simp only [Int.ofNat_eq_natCast]; omega
    rw [this, w64 (by omega)]
theorem f118_spec (k : Nat) {n : Int} (h : narrow n) : f118_F k (n, ()) = some ((((foldN n : Nat) : Int), 0, ()), ()) := by
  show f118_raw0 k _ = _
  simp only [f118_raw0]
  unfold narrow at h
  rw [cneg (by omega), cneg (by omega), w64 (n := n * 2) (by omega), xor_sign (by omega) (by omega) (by omega)]
  unfold foldN
  congr 3
  split <;> omega
theorem foldN_lt {n : Int} (h : narrow n) : foldN n < 4294967296 := by
  unfold narrow at h
  unfold foldN
  split <;> omega
def bitsN (n : Int) : Nat := Lib.bitLen (if n < 0 then (-n - 1).toNat else n.toNat) + 1
theorem bitsN_le {n : Int} (h : narrow n) : bitsN n ≤ 32 := by
  unfold narrow at h
  unfold bitsN
  have := Lib.bitLen_le (if n < 0 then (-n - 1).toNat else n.toNat) 31 (by omega) (by split <;> omega)
  omega
theorem bitsN_sgn {n : Int} (h : narrow n) {w : Nat} (hw : bitsN n ≤ w) : sgn n w = true := by
  unfold bitsN at hw
  unfold sgn
  unfold narrow at h
  rw [if_neg (by omega), decide_eq_true_eq]
  generalize hm : (if n < 0 then (-n - 1).toNat else n.toNat) = m at hw
  have hm' : m < 2 ^ 64 := by rw [← hm]; split <;> omega
  have hlt : m < 2 ^ (w - 1) := by
    by_cases h0 : m = 0
    · rw [h0]; exact Nat.pow_pos (by omega)
    · have := (Lib.bitLenAux_bounds 64 m hm' h0).2.2
      exact Nat.lt_of_lt_of_le this (Nat.pow_le_pow_right (by omega) (by unfold Lib.bitLen at hw; omega))
  have hlt' : (m : Int) < 2 ^ (w - 1) := by
    have : ((2 : Int) ^ (w - 1)) = ((2 ^ (w - 1) : Nat) : Int) := pow_cast _
    rw [this]; exact_mod_cast hlt
  generalize (2 : Int) ^ (w - 1) = P at hlt'
  split at hm <;> omega
theorem f182_spec (k : Nat) {n : Int} (h : narrow n) : f182_F k (n, ()) = some (((bitsN n : Nat) : Int), ()) := by
  show f182_raw0 k _ = _
  simp only [f182_raw0]
  have hb := bitsN_le h
  unfold narrow at h
  rw [xor_sign (by omega) (by omega) (by omega)]
  have e1 : IntKind.u64.wrap (if n < 0 then -n - 1 else n) = (((if n < 0 then (-n - 1).toNat else n.toNat) : Nat) : Int) := by
    rw [IntKind.wrap_u64]; split <;> omega
  rw [e1]
  have e2 : f194_F k ((((if n < 0 then (-n - 1).toNat else n.toNat) : Nat) : Int), ()) = some (((Lib.bitLen (if n < 0 then (-n - 1).toNat else n.toNat) : Nat) : Int), ()) := by
    show lenF _ = _
    unfold lenF
    rw [show (decide ((0 : Int) ≤ (((if n < 0 then (-n - 1).toNat else n.toNat) : Nat) : Int)) && decide ((((if n < 0 then (-n - 1).toNat else n.toNat) : Nat) : Int) < 18446744073709551616)) = true from by
      rw [Bool.and_eq_true, decide_eq_true_eq, decide_eq_true_eq]; split <;> omega]
    rfl
  rw [e2]
  simp only [Option.bind_some]
  unfold bitsN at hb ⊢
  rw [w64 (by omega)]
  push_cast
  rfl
theorem f117_spec (k : Nat) {m : Int} (h : m = 0 ∨ m = 1) : f117_F k (m, ()) = some (if m = 0 then 15 else 31, ()) := by
  rcases h with rfl | rfl <;> rfl
def escN (m : Int) : Nat := if m = 0 then 15 else 31
theorem f117_esc (k : Nat) {m : Int} (h : m = 0 ∨ m = 1) : f117_F k (m, ()) = some (((escN m : Nat) : Int), ()) := by
  rw [f117_spec k h]; unfold escN; split <;> rfl
abbrev Prt := Int × Int × Int × Unit
def widthS (l : List Int) : Nat := l.foldl (fun w n => if n = 0 then w else max w (bitsN n)) 0
def sumN : List Nat → Nat
  | [] => 0
  | x :: l => x + sumN l
def riceSz (l : List Int) (kk : Nat) : Nat := (kk + 1) * l.length + sumN (l.map fun n => foldN n / 2 ^ kk)
def farB (l : List Int) (kk : Nat) : Bool := l.any fun n => decide (65536 < foldN n / 2 ^ kk)
def pickK (l : List Int) (B : Prt × Bool) (kk : Nat) : Prt × Bool :=
  if farB l kk = false ∧ (B.2 = false ∨ ((riceSz l kk : Nat) : Int) < B.1.2.2.1) then (((kk : Int), 0, ((riceSz l kk : Nat) : Int), ()), true) else B
def kF (l : List Int) : Nat → Nat → Prt × Bool → Prt × Bool
  | 0, _, B => B
  | d + 1, kk, B => kF l d (kk + 1) (pickK l B kk)
def bestS (l : List Int) (m : Int) : Prt × Bool :=
  let B := kF l (escN m) 0 ((0, 0, 0, ()), false)
  if widthS l ≤ 31 ∧ (B.2 = false ∨ ((5 + widthS l * l.length : Nat) : Int) < B.1.2.2.1) then (((escN m : Nat), ((widthS l : Nat) : Int), ((5 + widthS l * l.length : Nat) : Int), ()), true) else B
theorem sumN_le {l : List Nat} {b : Nat} (h : ∀ x ∈ l, x ≤ b) : sumN l ≤ l.length * b := by
  induction l with
  | nil => simp [sumN]
  | cons x l ih =>
    have h1 := h x (List.mem_cons_self ..)
    have h2 := ih fun y hy => h y (List.mem_cons_of_mem _ hy)
    simp only [sumN, List.length_cons, Nat.add_mul, Nat.one_mul]
    omega
theorem width_fold : ∀ (l : List Int) (w : Nat), (∀ x ∈ l, narrow x) → w ≤ 32 → w ≤ l.foldl (fun w n => if n = 0 then w else max w (bitsN n)) w ∧ l.foldl (fun w n => if n = 0 then w else max w (bitsN n)) w ≤ 32 ∧
      ∀ x ∈ l, x ≠ 0 → bitsN x ≤ l.foldl (fun w n => if n = 0 then w else max w (bitsN n)) w
  | [], w, _, hw => ⟨Nat.le_refl _, hw, by simp⟩
  | x :: l, w, hl, hw => by
    simp only [List.foldl_cons]
    have hx := bitsN_le (hl x (List.mem_cons_self ..))
    have h1 : (if x = 0 then w else max w (bitsN x)) ≤ 32 := by split <;> omega
    obtain ⟨a, b, c⟩ := width_fold l _ (fun y hy => hl y (List.mem_cons_of_mem _ hy)) h1
    refine ⟨Nat.le_trans (by split <;> omega) a, b, fun y hy hne => ?_⟩
    rcases List.mem_cons.1 hy with rfl | hy
    · rw [if_neg hne] at a ⊢
      omega
    · exact c y hy hne
theorem width_sgn {l : List Int} (hl : ∀ x ∈ l, narrow x) : ∀ x ∈ l, sgn x (widthS l) = true := by
  intro x hx
  obtain ⟨_, _, h⟩ := width_fold l 0 hl (by omega)
  by_cases h0 : x = 0
  · subst h0
    unfold sgn
    split
    · rfl
    · rw [decide_eq_true_eq]
      have hp : (0 : Int) < 2 ^ (widthS l - 1) := Int.pow_pos (by omega)
      omega
  · exact bitsN_sgn (hl x hx) (h x hx h0)
theorem fold_part {n : Int} (h : narrow n) (kk : Nat) : foldN n / 2 ^ kk ≤ 4294967295 := by
  have := foldN_lt h
  have := Nat.div_le_self (foldN n) (2 ^ kk)
  omega
theorem O117 : f117_O = f117_F := f117_O_eq
theorem O118 : f118_O = f118_F := f118_O_eq
theorem f157_inner (k : Nat) (L2 : Int × Int × List Int × Bool × Int × Int × List Int × Int × Int × Int × Int × Int × Int → Option (((Int × Int × Int × Unit) × Bool × Unit) × Unit))
    {l : List Int} (hl : ∀ x ∈ l, narrow x) (hn : l.length ≤ 512) (hk : l.length < k) {kk : Nat} (hkk : kk ≤ 31) (ok : Bool) (e w m b0 b1 b2 c0 c1 c2 : Int) :
    f157_L3 k L2 (Int.ofNat l.length, (0 : Int), ((kk + 1) * l.length : Nat), (kk : Int), false, ok, (kk : Int), e, l, w, m, l.map fun n => ((foldN n : Nat) : Int), b0, b1, b2, c0, c1, c2) =
      L2 (e, ((kk + 1 : Nat) : Int), l, (pickK l ((b0, b1, b2, ()), ok) kk).2, w, m, l.map fun n => ((foldN n : Nat) : Int), (pickK l ((b0, b1, b2, ()), ok) kk).1.1, (pickK l ((b0, b1, b2, ()), ok) kk).1.2.1, (pickK l ((b0, b1, b2, ()), ok) kk).1.2.2.1, c0, c1, c2) := by
  have hml : (l.map fun n => ((foldN n : Nat) : Int)).length = l.length := by simp
  have := iter_list_inv (A := Int × Bool) (R := ((Int × Int × Int × Unit) × Bool × Unit) × Unit) (step := fun L3 => f157_raw3 k L2 L3) (fun i a => (Int.ofNat l.length, Int.ofNat i, a.1, (kk : Int), a.2, ok, (kk : Int), e, l, w, m, l.map (fun n => ((foldN n : Nat) : Int)), b0, b1, b2, c0, c1, c2)) l
    (fun l' a => bif !(a.2 || farB l' kk) then bif !ok then L2 (e, ((kk + 1 : Nat) : Int), l, true, w, m, l.map (fun n => ((foldN n : Nat) : Int)), (kk : Int), 0, a.1 + (sumN (l'.map fun n => foldN n / 2 ^ kk) : Nat), c0, c1, c2)
        else bif decide (a.1 + (sumN (l'.map fun n => foldN n / 2 ^ kk) : Nat) < b2) then L2 (e, ((kk + 1 : Nat) : Int), l, true, w, m, l.map (fun n => ((foldN n : Nat) : Int)), (kk : Int), 0, a.1 + (sumN (l'.map fun n => foldN n / 2 ^ kk) : Nat), c0, c1, c2)
        else L2 (e, ((kk + 1 : Nat) : Int), l, ok, w, m, l.map (fun n => ((foldN n : Nat) : Int)), b0, b1, b2, c0, c1, c2)
      else L2 (e, ((kk + 1 : Nat) : Int), l, ok, w, m, l.map (fun n => ((foldN n : Nat) : Int)), b0, b1, b2, c0, c1, c2))
    (fun i a => 0 ≤ a.1 ∧ a.1 ≤ 16384 + (i : Int) * 4294967296)
    (fun L a _ => by
      simp only [f157_raw3]
      rw [cneg (nltR _), w64 (n := (kk : Int) + 1) (by omega)]
      simp only [farB, List.any_nil, Bool.or_false, List.map_nil, sumN, Int.natCast_zero, Int.add_zero]
      push_cast
      rfl)
    (fun L i hi a ha hL => by
      simp only [f157_raw3]
      have hx := hl l[i] (List.getElem_mem hi)
      have hp := fold_part hx kk
      have hg : (l.map fun n => ((foldN n : Nat) : Int)).getD (Int.toNat (Int.ofNat i)) 0 = ((foldN l[i] : Nat) : Int) := by
        rw [getD_at (by rw [hml]; exact hi)]; simp
      rw [cpos (ltR hi), cpos (by rw [hml]; exact inR hi), cpos (by rw [hml]; simpa using hi), cpos (by omega), hg]
      simp only [Int.toNat_natCast, Nat.min_eq_left (show kk ≤ 64 by omega), fdivP]
      have hfar : farB (l[i] :: l.drop (i + 1)) kk = (decide (65536 < foldN l[i] / 2 ^ kk) || farB (l.drop (i + 1)) kk) := by unfold farB; rw [List.any_cons]
      have hsum : a.1 + ((sumN ((l[i] :: l.drop (i + 1)).map fun n => foldN n / 2 ^ kk) : Nat) : Int) = a.1 + ((foldN l[i] / 2 ^ kk : Nat) : Int) + ((sumN ((l.drop (i + 1)).map fun n => foldN n / 2 ^ kk) : Nat) : Int) := by
        simp only [List.map_cons, sumN]
        generalize foldN l[i] / 2 ^ kk = q
        omega
      generalize foldN l[i] / 2 ^ kk = q at hp hfar hsum ⊢
      have hi5 : (i : Int) ≤ 512 := by omega
      rw [w64 (n := a.1 + ((q : Nat) : Int)) (by omega), wnext hi (by omega)]
      rw [hfar, hsum]
      cases h4 : a.2 with
      | true =>
        simp only [cond_true]
        rw [hL (a.1 + ((q : Nat) : Int), true) ⟨by omega, by push_cast; omega⟩]
        simp
      | false =>
        simp only [cond_false]
        rw [cpos (by omega)]
        have hd : decide ((65536 : Int) < ((q : Nat) : Int)) = decide (65536 < q) := by
          by_cases hh : 65536 < q
          · rw [decide_eq_true hh, decide_eq_true (by omega)]
          · rw [decide_eq_false hh, decide_eq_false (by omega)]
        rw [hd, hL (a.1 + ((q : Nat) : Int), decide (65536 < q)) ⟨by omega, by push_cast; omega⟩]
        simp) k 0 ((((kk + 1) * l.length : Nat) : Int), false) ⟨by omega, by
          have : (kk + 1) * l.length ≤ 32 * 512 := Nat.mul_le_mul (by omega) hn
          show (((kk + 1) * l.length : Nat) : Int) ≤ 16384 + ((0 : Nat) : Int) * 4294967296
          generalize (kk + 1) * l.length = N at this ⊢
          omega⟩ (by omega) (Nat.zero_le _)
  refine Eq.trans this ?_
  rw [List.drop_zero]
  unfold pickK
  have hsz : (((kk + 1) * l.length : Nat) : Int) + ((sumN (l.map fun n => foldN n / 2 ^ kk) : Nat) : Int) = ((riceSz l kk : Nat) : Int) := by unfold riceSz; push_cast; rfl
  simp only [Bool.false_or, hsz]
  cases hfb : farB l kk with
  | true => simp
  | false =>
    simp only [Bool.not_false, cond_true, true_and]
    cases ok with
    | false => simp
    | true =>
      simp only [Bool.not_true, cond_false, Bool.true_eq_false, false_or]
      by_cases hlt : ((riceSz l kk : Nat) : Int) < b2
      · rw [cpos hlt, if_pos hlt]
      · rw [cneg hlt, if_neg hlt]
theorem f157_mid (k : Nat) {l : List Int} (hl : ∀ x ∈ l, narrow x) (hn : l.length ≤ 512) (hk : l.length < k) {m : Int} (hm : m = 0 ∨ m = 1) (c0 c1 c2 : Int) (hw : widthS l ≤ 32) :
    ∀ (d kk j : Nat) (B : Prt × Bool), kk + d = escN m → d < j →
    iter (fun L2 => f157_raw2 k (f157_L3 k L2) L2) j (((escN m : Nat) : Int), (kk : Int), l, B.2, ((widthS l : Nat) : Int), m, l.map (fun n => ((foldN n : Nat) : Int)), B.1.1, B.1.2.1, B.1.2.2.1, c0, c1, c2) =
      some ((let B := kF l d kk B; if widthS l ≤ 31 ∧ (B.2 = false ∨ ((5 + widthS l * l.length : Nat) : Int) < B.1.2.2.1) then ((((escN m : Nat) : Int), ((widthS l : Nat) : Int), ((5 + widthS l * l.length : Nat) : Int), ()), true, ()) else (B.1, B.2, ())), ()) := by
  have he : escN m ≤ 31 := by unfold escN; split <;> omega
  intro d
  induction d with
  | zero =>
    intro kk j B hkk hj
    obtain ⟨j, rfl⟩ := pos_of_lt hj
    rw [iter_succ]
    simp only [f157_raw2]
    rw [cneg (by omega)]
    have hwl : widthS l * l.length ≤ 32 * 512 := Nat.mul_le_mul hw hn
    have e1 : IntKind.i64.wrap ((5 : Int) + IntKind.i64.wrap (((widthS l : Nat) : Int) * Int.ofNat l.length)) = ((5 + widthS l * l.length : Nat) : Int) := by
      have : ((widthS l : Nat) : Int) * Int.ofNat l.length = ((widthS l * l.length : Nat) : Int) := by simp only [Int.ofNat_eq_natCast]; push_cast; rfl
      rw [this, w64 (n := ((widthS l * l.length : Nat) : Int)) (by omega), w64 (by omega)]
      push_cast; rfl
    rw [e1, O117, f117_esc k hm]
    simp only [Option.bind_some]
    rw [show kF l 0 kk B = B from rfl]
    by_cases h31 : widthS l ≤ 31
    · rw [cpos (by omega)]
      cases hB : B.2 with
      | false => simp only [Bool.not_false, cond_true]; rw [if_pos ⟨h31, .inl trivial⟩]
      | true =>
        simp only [Bool.not_true, cond_false, Bool.true_eq_false, false_or]
        by_cases hlt : ((5 + widthS l * l.length : Nat) : Int) < B.1.2.2.1
        · rw [cpos hlt, if_pos ⟨h31, hlt⟩]
        · rw [cneg hlt, if_neg (fun h => hlt h.2)]
    · rw [cneg (by omega), if_neg (fun h => h31 h.1)]
  | succ d ih =>
    intro kk j B hkk hj
    obtain ⟨j, rfl⟩ := pos_of_lt (show 0 < j by omega)
    rw [iter_succ]
    simp only [f157_raw2]
    rw [cpos (by omega)]
    have hkl : (kk + 1) * l.length ≤ 32 * 512 := Nat.mul_le_mul (by omega) hn
    have e1 : IntKind.i64.wrap (IntKind.i64.wrap ((kk : Int) + 1) * Int.ofNat l.length) = (((kk + 1) * l.length : Nat) : Int) := by
      have h1 : IntKind.i64.wrap ((kk : Int) + 1) = ((kk + 1 : Nat) : Int) := by rw [w64 (by omega)]; push_cast; rfl
      rw [h1]
      have : ((kk + 1 : Nat) : Int) * Int.ofNat l.length = (((kk + 1) * l.length : Nat) : Int) := by simp only [Int.ofNat_eq_natCast]; rw [Int.natCast_mul]
      rw [this, w64 (by omega)]
    rw [e1]
    have e2 : Int.ofNat (l.map fun n => ((foldN n : Nat) : Int)).length = Int.ofNat l.length := by simp
    rw [e2, f157_inner k _ hl hn hk (by omega)]
    rw [ih (kk + 1) j (pickK l B kk) (by omega) (by omega)]
    rfl
theorem f157_spec (k : Nat) {l : List Int} (hl : ∀ x ∈ l, narrow x) (hn : l.length ≤ 512) (hk : l.length + 40 < k) {m : Int} (hm : m = 0 ∨ m = 1) :
    f157_F k (l, m, ()) = some (((bestS l m).1, (bestS l m).2, ()), ()) := by
  show f157_raw0 k (f157_L1 k) _ = _
  simp only [f157_raw0]
  rw [cpos (by simp only [Int.ofNat_eq_natCast]; omega)]
  have hwid := (width_fold l 0 hl (by omega)).2.1
  have he : escN m ≤ 31 := by unfold escN; split <;> omega
  have := iter_list_inv (A := Nat × List Int) (step := fun L1 => f157_raw1 k (f157_L2 k) L1) (fun i a => (Int.ofNat l.length, Int.ofNat i, l, ((a.1 : Nat) : Int), m, l, false, a.2, 0, 0, 0, 0, 0, 0)) l
    (fun l' a => f157_L2 k (((escN m : Nat) : Int), 0, l, false, ((l'.foldl (fun w n => if n = 0 then w else max w (bitsN n)) a.1 : Nat) : Int), m, a.2.take (l.length - l'.length) ++ l'.map (fun n => ((foldN n : Nat) : Int)), 0, 0, 0, 0, 0, 0))
    (fun i a => a.1 ≤ 32 ∧ a.2.length = l.length)
    (fun L a ha => by
      simp only [f157_raw1]
      rw [cneg (nltR _), O117, f117_esc k hm]
      simp only [Option.bind_some, List.foldl_nil, List.map_nil, List.append_nil, List.length_nil, Nat.sub_zero]
      rw [List.take_of_length_le (by omega)])
    (fun L i hi a ha hL => by
      simp only [f157_raw1]
      have hx := hl l[i] (List.getElem_mem hi)
      have hb := bitsN_le hx
      rw [cpos (ltR hi), cpos (inR hi), getD_at hi, O118, f118_spec k hx]
      simp only [Option.bind_some]
      rw [cpos (by rw [ha.2]; exact inR hi), cpos (by rw [ha.2]; simpa using hi), int_bne, wnext hi (by omega)]
      have hdl : (l.drop (i + 1)).length = l.length - (i + 1) := by simp
      have hset : (a.2.set (Int.ofNat i).toNat ((foldN l[i] : Nat) : Int)).take (l.length - (l.drop (i + 1)).length) ++ (l.drop (i + 1)).map (fun n => ((foldN n : Nat) : Int)) =
          a.2.take (l.length - (l[i] :: l.drop (i + 1)).length) ++ (l[i] :: l.drop (i + 1)).map (fun n => ((foldN n : Nat) : Int)) := by
        rw [hdl, List.length_cons, hdl, show l.length - (l.length - (i + 1)) = i + 1 by omega, show l.length - (l.length - (i + 1) + 1) = i by omega]
        rw [List.map_cons, List.take_add_one, List.take_set_of_le (by simp)]
        have : (a.2.set (Int.ofNat i).toNat ((foldN l[i] : Nat) : Int))[i]? = some ((foldN l[i] : Nat) : Int) := by
          rw [List.getElem?_set]; simp; omega
        rw [this]
        simp
      have hfold : (l[i] :: l.drop (i + 1)).foldl (fun w n => if n = 0 then w else max w (bitsN n)) a.1 = (l.drop (i + 1)).foldl (fun w n => if n = 0 then w else max w (bitsN n)) (if l[i] = 0 then a.1 else max a.1 (bitsN l[i])) := rfl
      by_cases h0 : l[i] = 0
      · rw [cneg (by simpa using h0)]
        rw [hL (a.1, a.2.set (Int.ofNat i).toNat ((foldN l[i] : Nat) : Int)) ⟨ha.1, by simpa using ha.2⟩, hset, hfold, if_pos h0]
      · rw [cpos h0, f182_spec k hx]
        simp only [Option.bind_some]
        have e1 : (if ((a.1 : Nat) : Int) < ((bitsN l[i] : Nat) : Int) then ((bitsN l[i] : Nat) : Int) else ((a.1 : Nat) : Int)) = ((max a.1 (bitsN l[i]) : Nat) : Int) := by split <;> omega
        rw [e1, hL (max a.1 (bitsN l[i]), a.2.set (Int.ofNat i).toNat ((foldN l[i] : Nat) : Int)) ⟨by omega, by simpa using ha.2⟩, hset, hfold, if_neg h0])
    k 0 (0, List.replicate l.length 0) ⟨by omega, by simp⟩ (by omega) (Nat.zero_le _)
  rw [List.drop_zero] at this
  refine Eq.trans this ?_
  have := f157_mid k hl hn (by omega) hm 0 0 0 hwid (escN m) 0 k ((0, 0, 0, ()), false) (by omega) (by omega)
  rw [Nat.sub_self, List.take_zero, List.nil_append]
  refine Eq.trans this ?_
  unfold bestS
  simp only
  split <;> rfl
end Go.Sh
namespace Go.Sh
open Go Go.Proofs
theorem O116 : f116_O = f116_F := f116_O_eq
theorem O156 : f156_O = f156_F := f156_O_eq
theorem f116_spec (k : Nat) {m : Int} (h : m = 0 ∨ m = 1) : f116_F k (m, ()) = some (4 + m, ()) := by
  rcases h with rfl | rfl <;> rfl
theorem f155_spec (k : Nat) (x : Int) : f155_F k (x, ()) = some (wideB x, ()) := by
  show f155_raw0 k _ = _
  simp only [f155_raw0]
  unfold wideB
  by_cases h : x ≤ -2147483648
  · rw [cpos h, decide_eq_true (.inl h)]
  · rw [cneg h]
    by_cases h2 : 2147483648 ≤ x
    · rw [decide_eq_true h2, decide_eq_true (.inr h2)]
    · rw [decide_eq_false h2, decide_eq_false (by omega)]
theorem f10404_spec (k : Nat) (c : List Int) (hk : c.length < k) (hn : c.length < 4294967296) : f10404_F k (c, (), ()) = some (c.any wideB, ()) := by
  show f10404_raw0 k _ = _
  simp only [f10404_raw0]
  have key : ∃ i : Int, f14604_F k (c, (), ()) = some (i, ()) ∧ (0 ≤ i ↔ c.any wideB = true) := by
    have := iter_list (A := Unit) (R := Int × Unit) (step := fun L1 => f14604_raw1 k L1) (fun i _ => (Int.ofNat c.length, Int.ofNat i, c)) c
      (fun l _ => some (if l.any wideB then Int.ofNat (c.length - l.length + (l.takeWhile (fun x => !wideB x)).length) else -1, ()))
      (fun L _ => by simp only [f14604_raw1]; rw [cneg (nltR _)]; rfl)
      (fun L i hi _ hL => by
        simp only [f14604_raw1]
        rw [cpos (ltR hi), cpos (inR hi), getD_at hi, f155_spec]
        simp only [Option.bind_some]
        have hlen : (List.drop (i + 1) c).length = c.length - (i + 1) := by simp
        cases hc : wideB c[i] with
        | false =>
          simp only [cond_false]
          rw [wnext hi (by omega), hL ()]
          simp only [List.any_cons, hc, Bool.false_or, List.takeWhile_cons, Bool.not_false, if_true, List.length_cons, hlen]
          split
          · congr 3; omega
          · rfl
        | true =>
          simp only [cond_true, List.any_cons, hc, Bool.true_or, if_true, List.takeWhile_cons, Bool.not_true, Bool.false_eq_true, if_false, List.length_cons, hlen, List.length_nil]
          congr 3; omega) k 0 () (by omega) (Nat.zero_le _)
    rw [List.drop_zero] at this
    refine ⟨_, this, ?_⟩
    cases c.any wideB <;> simp
  obtain ⟨i, h1, h2⟩ := key
  rw [h1]
  simp only [Option.bind_some]
  cases hc : c.any wideB with
  | true => rw [decide_eq_true (h2.2 hc)]
  | false => rw [decide_eq_false (fun h => by have := h2.1 h; rw [hc] at this; cases this)]
def blockB (n o : Int) : Bool := decide (1 ≤ n ∧ n ≤ 512 ∧ 0 ≤ o ∧ o ≤ 8 ∧ o ≤ n)
theorem f154_spec (k : Nat) (n o : Int) : f154_F k (n, o, ()) = some (blockB n o, ()) := by
  show f154_raw0 k _ = _
  simp only [f154_raw0]
  unfold blockB
  by_cases h1 : 1 ≤ n
  · rw [cpos h1]
    by_cases h2 : n ≤ 512
    · rw [cpos h2]
      by_cases h3 : 0 ≤ o
      · rw [cpos h3]
        congr 2
        by_cases h4 : o ≤ 8 ∧ o ≤ n
        · rw [decide_eq_true (show 1 ≤ n ∧ n ≤ 512 ∧ 0 ≤ o ∧ o ≤ 8 ∧ o ≤ n by omega), decide_eq_true (by split <;> omega)]
        · rw [decide_eq_false (show ¬ (1 ≤ n ∧ n ≤ 512 ∧ 0 ≤ o ∧ o ≤ 8 ∧ o ≤ n) by omega), decide_eq_false (by split <;> omega)]
      · rw [cneg h3, decide_eq_false (by omega)]
    · rw [cneg h2, decide_eq_false (by omega)]
  · rw [cneg h1, decide_eq_false (by omega)]
def rcheckS (l : List Int) (o : Int) : Int := if o < 0 ∨ 8 < o then 1 else if blockB ((l.length : Int) + o) o = false then 1 else if l.any wideB then 12 else 0
theorem f113_spec (k : Nat) (l : List Int) (o : Int) (hk : l.length < k) (hn : l.length < 4294967296) : f113_F k (l, o, ()) = some (rcheckS l o, ()) := by
  show f113_raw0 k _ = _
  simp only [f113_raw0]
  unfold rcheckS
  by_cases h1 : o < 0
  · rw [cpos h1, if_pos (.inl h1)]
  · rw [cneg h1]
    by_cases h2 : 8 < o
    · rw [cpos h2, if_pos (.inr h2)]
    · rw [cneg h2, if_neg (by omega), w64 (by simp only [Int.ofNat_eq_natCast]; omega), f154_spec]
      simp only [Option.bind_some, Int.ofNat_eq_natCast]
      cases hb : blockB ((l.length : Int) + o) o with
      | false => rfl
      | true =>
        simp only [Bool.not_true, cond_false, Bool.true_eq_false, if_false]
        rw [f10404_spec k l hk hn]
        simp only [Option.bind_some]
        cases l.any wideB <;> rfl
theorem mask31 {p : Nat} (hp : p ≤ 31) : IntKind.i64.wrap (IntKind.i64.wrap ((1 : Int) * (2 : Int) ^ min ((p : Int)).toNat 64) - 1) = ((2 ^ p - 1 : Nat) : Int) := by
  have h1 : 2 ^ p ≤ 2 ^ 31 := Nat.pow_le_pow_right (by omega) hp
  have h0 : 0 < 2 ^ p := Nat.pow_pos (by omega)
  rw [Int.toNat_natCast, Nat.min_eq_left (by omega), Int.one_mul, pow_cast]
  rw [w64 (n := ((2 ^ p : Nat) : Int)) (by omega), w64 (by omega)]
  omega
theorem one_shl {p : Nat} (hp : p ≤ 31) : IntKind.i64.wrap ((1 : Int) * (2 : Int) ^ min ((p : Int)).toNat 64) = ((2 ^ p : Nat) : Int) := by
  have h1 : 2 ^ p ≤ 2 ^ 31 := Nat.pow_le_pow_right (by omega) hp
  rw [Int.toNat_natCast, Nat.min_eq_left (by omega), Int.one_mul, pow_cast]
  generalize 2 ^ p = Q at h1 ⊢
  rw [w64 (by omega)]
theorem and_mask {n p : Nat} (hn : n < 4294967296) (hp : p ≤ 31) : IntKind.i64.wrap (Int.ofNat (BitVec.ofInt 64 (n : Int) &&& BitVec.ofInt 64 (IntKind.i64.wrap (IntKind.i64.wrap ((1 : Int) * (2 : Int) ^ min ((p : Int)).toNat 64) - 1))).toNat) = ((n % 2 ^ p : Nat) : Int) := by
  have h1 : 2 ^ p ≤ 2 ^ 31 := Nat.pow_le_pow_right (by omega) hp
  rw [mask31 hp, andN (by omega) (by omega), Nat.and_two_pow_sub_one_eq_mod]
  have : n % 2 ^ p ≤ n := Nat.mod_le _ _
  rw [w64 (by omega)]
def fitR (n o p : Nat) : Bool := decide (n % 2 ^ p = 0) && decide (o ≤ n / 2 ^ p)
theorem f156_spec (k : Nat) {n o p : Nat} (hn : n < 4294967296) (hp : p ≤ 31) : f156_F k ((n : Int), (o : Int), (p : Int), ()) = some (fitR n o p, ()) := by
  show f156_raw0 k _ = _
  simp only [f156_raw0]
  rw [cpos (by omega), and_mask hn hp, int_beq, Int.toNat_natCast, Nat.min_eq_left (by omega), fdivP]
  unfold fitR
  by_cases h : n % 2 ^ p = 0
  · rw [cpos (by omega), cpos (by omega), decide_eq_true h, Bool.true_and]
    congr 2
    by_cases h2 : o ≤ n / 2 ^ p
    · rw [decide_eq_true h2, decide_eq_true (by omega)]
    · rw [decide_eq_false h2, decide_eq_false (by omega)]
  · rw [cneg (by omega), decide_eq_false h, Bool.false_and]
def chunkL (size : Nat) : Nat → List Int → List (List Int)
  | 0, _ => []
  | d + 1, r => r.take size :: chunkL size d (r.drop size)
def cutS (l : List Int) (o p : Nat) : List (List Int) := l.take ((l.length + o) / 2 ^ p - o) :: chunkL ((l.length + o) / 2 ^ p) (2 ^ p - 1) (l.drop ((l.length + o) / 2 ^ p - o))
theorem chunkL_len (size : Nat) : ∀ (d : Nat) (r : List Int), (chunkL size d r).length = d
  | 0, _ => rfl
  | d + 1, r => by simp [chunkL, chunkL_len size d]
theorem cutS_len (l : List Int) (o p : Nat) : (cutS l o p).length = 2 ^ p := by
  have h0 : 0 < 2 ^ p := Nat.pow_pos (by omega)
  simp only [cutS, List.length_cons, chunkL_len]
  omega
theorem chunkL_mem {size : Nat} : ∀ {d : Nat} {r c : List Int}, c ∈ chunkL size d r → ∀ x ∈ c, x ∈ r
  | d + 1, r, c, h, x, hx => by
    rcases List.mem_cons.1 h with rfl | h
    · exact List.mem_of_mem_take hx
    · exact List.mem_of_mem_drop (chunkL_mem h x hx)
theorem cutS_mem {l : List Int} {o p : Nat} {c : List Int} (h : c ∈ cutS l o p) : ∀ x ∈ c, x ∈ l := by
  intro x hx
  rcases List.mem_cons.1 h with rfl | h
  · exact List.mem_of_mem_take hx
  · exact List.mem_of_mem_drop (chunkL_mem h x hx)
theorem chunkL_le {size : Nat} : ∀ {d : Nat} {r c : List Int}, c ∈ chunkL size d r → c.length ≤ r.length
  | d + 1, r, c, h => by
    rcases List.mem_cons.1 h with rfl | h
    · rw [List.length_take]; omega
    · have := chunkL_le h
      rw [List.length_drop] at this
      omega
theorem cutS_le {l : List Int} {o p : Nat} {c : List Int} (h : c ∈ cutS l o p) : c.length ≤ l.length := by
  rcases List.mem_cons.1 h with rfl | h
  · rw [List.length_take]; omega
  · have := chunkL_le h
    rw [List.length_drop] at this
    omega
theorem f115_loop (k : Nat) {p size : Nat} (hp : p ≤ 15) : ∀ (d m : Nat) (r : List Int) (out : List (List Int)), d < m → out.length + d = 2 ^ p → r.length = d * size → r.length < 4294967296 →
    iter (fun L1 => f115_raw1 k L1) m ((p : Int), r, (size : Int), out) = some (out ++ chunkL size d r, ()) := by
  have h15 : 2 ^ p ≤ 2 ^ 15 := Nat.pow_le_pow_right (by omega) hp
  intro d
  induction d with
  | zero =>
    intro m r out hm ho hr hn
    obtain ⟨m, rfl⟩ := pos_of_lt hm
    rw [iter_succ]
    simp only [f115_raw1]
    rw [cpos (by omega), one_shl (by omega), cneg (by simp only [Int.ofNat_eq_natCast]; omega)]
    simp [chunkL]
  | succ d ih =>
    intro m r out hm ho hr hn
    obtain ⟨m, rfl⟩ := pos_of_lt (show 0 < m by omega)
    rw [iter_succ]
    simp only [f115_raw1]
    have hs : (d + 1) * size = d * size + size := by rw [Nat.add_mul, Nat.one_mul]
    have hle : size ≤ r.length := by omega
    rw [cpos (by omega), one_shl (by omega), cpos (by simp only [Int.ofNat_eq_natCast]; omega), cpos (by simp only [Int.ofNat_eq_natCast]; omega),
      cpos (by simp only [List.length_singleton]; omega), cpos (by simp only [Int.ofNat_eq_natCast]; omega)]
    rw [Int.toNat_natCast, show (Int.ofNat r.length).toNat = r.length from rfl, List.take_length, List.drop_zero]
    rw [ih m (r.drop size) _ (by omega) (by rw [List.length_append, List.length_singleton]; omega) (by rw [List.length_drop]; omega) (by rw [List.length_drop]; omega)]
    simp [chunkL]
theorem f115_spec (k : Nat) {l : List Int} {o p : Nat} (hp : p ≤ 15) (hn : l.length + o < 4294967296) (hk : 32768 < k) (hf : fitR (l.length + o) o p = true) :
    f115_F k (l, (o : Int), (p : Int), ()) = some (cutS l o p, ()) := by
  show f115_raw0 k (f115_L1 k) _ = _
  have h15 : 2 ^ p ≤ 2 ^ 15 := Nat.pow_le_pow_right (by omega) hp
  have h0 : 0 < 2 ^ p := Nat.pow_pos (by omega)
  unfold fitR at hf
  simp only [Bool.and_eq_true, decide_eq_true_eq] at hf
  obtain ⟨hm, ho⟩ := hf
  simp only [f115_raw0]
  have e1 : IntKind.i64.wrap (Int.ofNat l.length + (o : Int)) = ((l.length + o : Nat) : Int) := by rw [w64 (by simp only [Int.ofNat_eq_natCast]; omega)]; rfl
  have hd : (l.length + o) / 2 ^ p ≤ l.length + o := Nat.div_le_self _ _
  have hmul : 2 ^ p * ((l.length + o) / 2 ^ p) = l.length + o := by have := Nat.div_add_mod (l.length + o) (2 ^ p); omega
  unfold cutS
  rw [e1]
  simp only [Int.toNat_natCast, Nat.min_eq_left (show p ≤ 64 by omega), fdivP]
  generalize hsz : (l.length + o) / 2 ^ p = size at ho hd hmul
  have e2 : IntKind.i64.wrap ((size : Int) - (o : Int)) = ((size - o : Nat) : Int) := by rw [w64 (by omega)]; omega
  have hle : size ≤ l.length + o := hd
  have e3 : (2 ^ p - 1) * size = 2 ^ p * size - size := by rw [Nat.sub_mul, Nat.one_mul]
  rw [e2, cpos (by omega), cpos (by simp only [Int.ofNat_eq_natCast]; omega), cpos (by simp only [Int.ofNat_eq_natCast]; omega)]
  rw [Int.toNat_natCast, show (Int.ofNat l.length).toNat = l.length from rfl, List.take_length, List.drop_zero]
  have hps : size ≤ 2 ^ p * size := Nat.le_mul_of_pos_left _ h0
  refine Eq.trans (f115_loop k hp (2 ^ p - 1) k _ _ (by omega) (by rw [List.length_singleton]; omega) (by rw [List.length_drop, e3]; omega) (by rw [List.length_drop]; omega)) ?_
  rfl
end Go.Sh
namespace Go.Sh
open Go Go.Proofs
def PartOk (c : List Int) (m : Int) (y : Prt) : Prop :=
  (∃ kk : Nat, kk < escN m ∧ farB c kk = false ∧ y = ((kk : Int), 0, ((riceSz c kk : Nat) : Int), ())) ∨
  (widthS c ≤ 31 ∧ y = (((escN m : Nat) : Int), ((widthS c : Nat) : Int), ((5 + widthS c * c.length : Nat) : Int), ()))
theorem kF_ok {c : List Int} {m : Int} : ∀ (d kk : Nat) (B : Prt × Bool), kk + d = escN m → (B.2 = true → PartOk c m B.1) → ((kF c d kk B).2 = true → PartOk c m (kF c d kk B).1)
  | 0, _, B, _, hB => hB
  | d + 1, kk, B, hk, hB => by
    refine kF_ok d (kk + 1) _ (by omega) fun h => ?_
    unfold pickK at h ⊢
    split
    · rename_i hc
      exact .inl ⟨kk, by omega, hc.1, rfl⟩
    · rename_i hc
      rw [if_neg hc] at h
      exact hB h
theorem bestS_ok {c : List Int} {m : Int} (h : (bestS c m).2 = true) : PartOk c m (bestS c m).1 := by
  unfold bestS at h ⊢
  simp only at h ⊢
  split
  · rename_i hc
    exact .inr ⟨hc.1, rfl⟩
  · rename_i hc
    rw [if_neg hc] at h
    exact kF_ok _ _ _ (by omega) (fun h => by cases h) h
theorem kF_keep {c : List Int} : ∀ (d kk : Nat) (B : Prt × Bool), B.2 = true → (kF c d kk B).2 = true
  | 0, _, B, hB => hB
  | d + 1, kk, B, hB => by
    refine kF_keep d (kk + 1) _ ?_
    unfold pickK
    split
    · rfl
    · exact hB
theorem kF_some {c : List Int} {j : Nat} (hj : farB c j = false) : ∀ (d kk : Nat) (B : Prt × Bool), kk ≤ j → j < kk + d → (kF c d kk B).2 = true
  | 0, _, B, h1, h2 => by omega
  | d + 1, kk, B, h1, h2 => by
    by_cases he : kk = j
    · subst he
      refine kF_keep d _ _ ?_
      unfold pickK
      split
      · rfl
      · rename_i hc
        simp only [hj, true_and, not_or] at hc
        simpa using hc.1
    · exact kF_some hj d (kk + 1) _ (by omega) (by omega)
theorem far16 {c : List Int} (hc : ∀ x ∈ c, narrow x) : farB c 16 = false := by
  unfold farB
  rw [List.any_eq_false]
  intro x hx
  have h1 := foldN_lt (hc x hx)
  have : foldN x / 2 ^ 16 < 65536 := by rw [Nat.div_lt_iff_lt_mul (by decide)]; omega
  simp only [decide_eq_true_eq]
  omega
theorem best1_some {c : List Int} (hc : ∀ x ∈ c, narrow x) : (bestS c 1).2 = true := by
  unfold bestS
  simp only
  split
  · rfl
  · exact kF_some (far16 hc) _ _ _ (by omega) (by decide)
theorem PartOk.size {c : List Int} {m : Int} {y : Prt} (h : PartOk c m y) (hc : ∀ x ∈ c, narrow x) (hn : c.length ≤ 512) : 0 ≤ y.2.2.1 ∧ y.2.2.1 ≤ 4398046511104 := by
  have he : escN m ≤ 31 := by unfold escN; split <;> omega
  rcases h with ⟨kk, hk, _, rfl⟩ | ⟨hw, rfl⟩
  · simp only
    have h1 : (kk + 1) * c.length ≤ 32 * 512 := Nat.mul_le_mul (by omega) hn
    have h2 : sumN (c.map fun n => foldN n / 2 ^ kk) ≤ (c.map fun n => foldN n / 2 ^ kk).length * 4294967295 := sumN_le fun x hx => by
      obtain ⟨n, hn, rfl⟩ := List.mem_map.1 hx
      exact fold_part (hc n hn) kk
    rw [List.length_map] at h2
    unfold riceSz
    omega
  · simp only
    have h1 : widthS c * c.length ≤ 31 * 512 := Nat.mul_le_mul hw hn
    omega
def partsF (m : Int) : List (List Int) → List Prt → Int → List Prt × Int × Bool
  | [], ps, sz => (ps, sz, true)
  | c :: cs, ps, sz => if (bestS c m).2 = true then partsF m cs (ps ++ [(bestS c m).1]) (sz + (4 + m + (bestS c m).1.2.2.1)) else (ps, sz, false)
theorem partsF_yes {m : Int} {c : List Int} (cs : List (List Int)) (ps : List Prt) (sz : Int) (h : (bestS c m).2 = true) : partsF m (c :: cs) ps sz = partsF m cs (ps ++ [(bestS c m).1]) (sz + (4 + m + (bestS c m).1.2.2.1)) := by
  show (if (bestS c m).2 = true then _ else _) = _
  rw [if_pos h]
theorem partsF_no {m : Int} {c : List Int} (cs : List (List Int)) (ps : List Prt) (sz : Int) (h : (bestS c m).2 = false) : partsF m (c :: cs) ps sz = (ps, sz, false) := by
  show (if (bestS c m).2 = true then _ else _) = _
  rw [if_neg (by rw [h]; simp)]
abbrev RPlan := Int × Int × Int × List Prt
def pickR (l : List Int) (o p : Nat) (m : Int) (B : RPlan) : RPlan :=
  if (partsF m (cutS l o p) [] 6).2.2 = true ∧ (B.2.2.1 < 0 ∨ (partsF m (cutS l o p) [] 6).2.1 < B.2.2.1) then (m, (p : Int), (partsF m (cutS l o p) [] 6).2.1, (partsF m (cutS l o p) [] 6).1) else B
def stepR (l : List Int) (o : Nat) (B : RPlan) (p : Nat) : RPlan := if fitR (l.length + o) o p = true then pickR l o p 1 (pickR l o p 0 B) else B
def chooseF (l : List Int) (o : Nat) : Nat → Nat → RPlan → RPlan
  | 0, _, B => B
  | d + 1, p, B => chooseF l o d (p + 1) (stepR l o B p)
def chooseR (l : List Int) (o : Nat) : RPlan := chooseF l o 5 0 (0, 0, -1, [])
theorem f114_parts (k : Nat) (L1 : Int × List Int × Int × Int × Int × Int × List (Int × Int × Int × Unit) × Int × Int × Int → Option ((Int × Int × List (Int × Int × Int × Unit) × Int × Unit) × Unit))
    (L2 : Int × Int × List Int × Int × Int × Int × Int × List (Int × Int × Int × Unit) × Int × Int × Int → Option ((Int × Int × List (Int × Int × Int × Unit) × Int × Unit) × Unit))
    {cs : List (List Int)} (hcs : ∀ c ∈ cs, (∀ x ∈ c, narrow x) ∧ c.length ≤ 512) (hn : cs.length ≤ 16) (hk : 600 < k) {m : Int} (hm : m = 0 ∨ m = 1) (p : Int) (l : List Int) (o : Int) (B : RPlan) :
    f114_L3 k L1 L2 (Int.ofNat cs.length, (0 : Int), cs, m, p, l, o, true, B.1, B.2.1, B.2.2.1, B.2.2.2, m, p, (6 : Int), [], 0, 0, 0) =
      L2 (m + 1, p, l, o, if (partsF m cs [] 6).2.2 = true ∧ (B.2.2.1 < 0 ∨ (partsF m cs [] 6).2.1 < B.2.2.1) then (m, p, (partsF m cs [] 6).2.1, (partsF m cs [] 6).1, 0, 0, 0) else (B.1, B.2.1, B.2.2.1, B.2.2.2, 0, 0, 0)) := by
  have hm1 : IntKind.i64.wrap (m + 1) = m + 1 := by rcases hm with rfl | rfl <;> rfl
  have := iter_list_inv (A := Int × List Prt) (R := (Int × Int × List (Int × Int × Int × Unit) × Int × Unit) × Unit) (step := fun L3 => f114_raw3 k L1 L2 L3)
    (fun i a => (Int.ofNat cs.length, Int.ofNat i, cs, m, p, l, o, true, B.1, B.2.1, B.2.2.1, B.2.2.2, m, p, a.1, a.2, 0, 0, 0)) cs
    (fun cs' a => L2 (m + 1, p, l, o, if (partsF m cs' a.2 a.1).2.2 = true ∧ (B.2.2.1 < 0 ∨ (partsF m cs' a.2 a.1).2.1 < B.2.2.1) then (m, p, (partsF m cs' a.2 a.1).2.1, (partsF m cs' a.2 a.1).1, 0, 0, 0) else (B.1, B.2.1, B.2.2.1, B.2.2.2, 0, 0, 0)))
    (fun i a => 0 ≤ a.1 ∧ a.1 ≤ 6 + (i : Int) * 8796093022208 ∧ a.2.length = i)
    (fun L a _ => by
      simp only [f114_raw3]
      rw [cneg (nltR _), hm1]
      simp only [cond_true, partsF, true_and]
      by_cases h1 : B.2.2.1 < 0
      · rw [cpos h1, if_pos (.inl h1)]
      · rw [cneg h1]
        by_cases h2 : a.1 < B.2.2.1
        · rw [cpos h2, if_pos (.inr h2)]
        · rw [cneg h2, if_neg (by omega)])
    (fun L i hi a ha hL => by
      simp only [f114_raw3]
      obtain ⟨hc1, hc2⟩ := hcs cs[i] (List.getElem_mem hi)
      rw [cpos (ltR hi), cpos (inR hi), getD_at hi, f157_spec k hc1 hc2 (by omega) hm]
      simp only [Option.bind_some]
      cases hb : (bestS cs[i] m).2 with
      | false =>
        rw [partsF_no _ _ _ hb]
        simp only [Bool.not_false, cond_true, cond_false, hm1, Bool.false_eq_true, if_false, false_and]
      | true =>
        rw [partsF_yes _ _ _ hb]
        simp only [Bool.not_true, cond_false]
        have hs := (bestS_ok hb).size hc1 hc2
        have hi16 : (i : Int) < 16 := by omega
        have hm01 : 0 ≤ m ∧ m ≤ 1 := by rcases hm with rfl | rfl <;> omega
        rw [cpos (by simp only [List.length_singleton]; omega), O116, f116_spec k hm]
        simp only [Option.bind_some]
        rw [wnext hi (by omega), w64 (n := 4 + m + (bestS cs[i] m).1.2.2.1) (by omega), w64 (by omega)]
        exact hL (a.1 + (4 + m + (bestS cs[i] m).1.2.2.1), a.2 ++ [(bestS cs[i] m).1]) ⟨by omega, by push_cast; omega, by simp; omega⟩)
    k 0 ((6 : Int), []) ⟨by omega, by simp, rfl⟩ (by omega) (Nat.zero_le _)
  rw [List.drop_zero] at this
  exact this
theorem f114_both (k : Nat) (L1 : Int × List Int × Int × Int × Int × Int × List (Int × Int × Int × Unit) × Int × Int × Int → Option ((Int × Int × List (Int × Int × Int × Unit) × Int × Unit) × Unit))
    {l : List Int} (hl : ∀ x ∈ l, narrow x) {o p : Nat} (hn : l.length + o ≤ 512) (hp : p ≤ 4) (hk : 40000 < k) (hf : fitR (l.length + o) o p = true) (B : RPlan) :
    f114_L2 k L1 ((0 : Int), (p : Int), l, (o : Int), B.1, B.2.1, B.2.2.1, B.2.2.2, 0, 0, 0) =
      L1 (((p + 1 : Nat) : Int), l, (o : Int), (pickR l o p 1 (pickR l o p 0 B)).1, (pickR l o p 1 (pickR l o p 0 B)).2.1, (pickR l o p 1 (pickR l o p 0 B)).2.2.1, (pickR l o p 1 (pickR l o p 0 B)).2.2.2, 0, 0, 0) := by
  have hcs : ∀ c ∈ cutS l o p, (∀ x ∈ c, narrow x) ∧ c.length ≤ 512 := fun c hc => ⟨fun x hx => hl x (cutS_mem hc x hx), by have := cutS_le hc; omega⟩
  have hlen : (cutS l o p).length ≤ 16 := by
    rw [cutS_len]
    have : 2 ^ p ≤ 2 ^ 4 := Nat.pow_le_pow_right (by omega) hp
    omega
  have hcut := f115_spec k (l := l) (o := o) (p := p) (by omega) (by omega) (by omega) hf
  have one : ∀ (j : Nat) (m : Int) (B : RPlan), m = 0 ∨ m = 1 → iter (fun L2 => f114_raw2 k (f114_L3 k L1 L2) L1 L2) (j + 1) (m, (p : Int), l, (o : Int), B.1, B.2.1, B.2.2.1, B.2.2.2, 0, 0, 0) =
      iter (fun L2 => f114_raw2 k (f114_L3 k L1 L2) L1 L2) j (m + 1, (p : Int), l, (o : Int), (pickR l o p m B).1, (pickR l o p m B).2.1, (pickR l o p m B).2.2.1, (pickR l o p m B).2.2.2, 0, 0, 0) := by
    intro j m B hm
    rw [iter_succ]
    simp only [f114_raw2]
    rw [cpos (by rcases hm with rfl | rfl <;> omega), hcut]
    simp only [Option.bind_some]
    refine (f114_parts k L1 _ hcs hlen (by omega) hm (p : Int) l (o : Int) B).trans ?_
    unfold pickR
    split <;> rfl
  obtain ⟨j, rfl⟩ : ∃ j, k = j + 3 := ⟨k - 3, by omega⟩
  show iter (fun L2 => f114_raw2 (j + 3) (f114_L3 (j + 3) L1 L2) L1 L2) (j + 3) _ = _
  rw [one (j + 2) 0 B (.inl rfl), show (0 : Int) + 1 = 1 from rfl, one (j + 1) 1 _ (.inr rfl), iter_succ]
  simp only [f114_raw2]
  rw [cneg (by omega), w64 (by omega)]
  rfl
theorem f114_spec (k : Nat) {l : List Int} (hl : ∀ x ∈ l, narrow x) {o : Nat} (hn : l.length + o ≤ 512) (hk : 40000 < k) :
    f114_F k (l, (o : Int), ()) = some (((chooseR l o).1, (chooseR l o).2.1, (chooseR l o).2.2.2, (chooseR l o).2.2.1, ()), ()) := by
  show f114_raw0 k (f114_L1 k) _ = _
  simp only [f114_raw0]
  suffices H : ∀ (d p m : Nat) (B : RPlan), d < m → p + d = 5 → iter (fun L1 => f114_raw1 k (f114_L2 k L1) L1) m ((p : Int), l, (o : Int), B.1, B.2.1, B.2.2.1, B.2.2.2, 0, 0, 0) =
      some (((chooseF l o d p B).1, (chooseF l o d p B).2.1, (chooseF l o d p B).2.2.2, (chooseF l o d p B).2.2.1, ()), ()) from H 5 0 k (0, 0, -1, []) (by omega) rfl
  intro d
  induction d with
  | zero =>
    intro p m B hm hp
    obtain ⟨m, rfl⟩ := pos_of_lt hm
    rw [iter_succ]
    simp only [f114_raw1]
    rw [cneg (by omega)]
    rfl
  | succ d ih =>
    intro p m B hm hp
    obtain ⟨m, rfl⟩ := pos_of_lt (show 0 < m by omega)
    rw [iter_succ]
    simp only [f114_raw1]
    have e1 : IntKind.i64.wrap (Int.ofNat l.length + (o : Int)) = ((l.length + o : Nat) : Int) := by rw [w64 (by simp only [Int.ofNat_eq_natCast]; omega)]; rfl
    rw [cpos (by omega), e1, O156, f156_spec k (by omega) (by omega)]
    simp only [Option.bind_some]
    have e2 : IntKind.i64.wrap ((p : Int) + 1) = ((p + 1 : Nat) : Int) := by rw [w64 (by omega)]; rfl
    cases hf : fitR (l.length + o) o p with
    | false =>
      simp only [Bool.not_false, cond_true]
      rw [e2, ih (p + 1) m B (by omega) (by omega)]
      simp only [chooseF, stepR, hf, Bool.false_eq_true, if_false]
    | true =>
      simp only [Bool.not_true, cond_false]
      rw [f114_both k _ hl hn (by omega) hk hf, ih (p + 1) m _ (by omega) (by omega)]
      simp only [chooseF, stepR, hf, if_true]
structure RGood (l : List Int) (o : Nat) (R : RPlan) (p : Nat) : Prop where
  hp : R.2.1 = (p : Int)
  p4 : p ≤ 4
  fit : fitR (l.length + o) o p = true
  hm : R.1 = 0 ∨ R.1 = 1
  parts : partsF R.1 (cutS l o p) [] 6 = (R.2.2.2, R.2.2.1, true)
theorem partsF_sz {m : Int} (hm : 0 ≤ m) : ∀ (cs : List (List Int)) (ps : List Prt) (sz : Int), (∀ c ∈ cs, (∀ x ∈ c, narrow x) ∧ c.length ≤ 512) → sz ≤ (partsF m cs ps sz).2.1
  | [], _, _, _ => Int.le_refl _
  | c :: cs, ps, sz, h => by
    unfold partsF
    split
    · rename_i hb
      have h1 := h c (List.mem_cons_self ..)
      have h2 := (bestS_ok hb).size h1.1 h1.2
      have := partsF_sz hm cs (ps ++ [(bestS c m).1]) (sz + (4 + m + (bestS c m).1.2.2.1)) fun c hc => h c (List.mem_cons_of_mem _ hc)
      omega
    · exact Int.le_refl _
theorem pickR_good {l : List Int} {o p : Nat} {m : Int} {B : RPlan} (hm : m = 0 ∨ m = 1) (hp : p ≤ 4) (hf : fitR (l.length + o) o p = true) (hB : B.2.2.1 < 0 ∨ ∃ q, RGood l o B q) :
    (pickR l o p m B).2.2.1 < 0 ∨ ∃ q, RGood l o (pickR l o p m B) q := by
  unfold pickR
  split
  · rename_i hc
    right
    refine ⟨p, rfl, hp, hf, hm, ?_⟩
    simp only
    rw [← hc.1]
  · exact hB
theorem stepR_good {l : List Int} {o p : Nat} {B : RPlan} (hp : p ≤ 4) (hB : B.2.2.1 < 0 ∨ ∃ q, RGood l o B q) : (stepR l o B p).2.2.1 < 0 ∨ ∃ q, RGood l o (stepR l o B p) q := by
  unfold stepR
  split
  · rename_i hf
    exact pickR_good (.inr rfl) hp hf (pickR_good (.inl rfl) hp hf hB)
  · exact hB
theorem chooseF_good {l : List Int} {o : Nat} : ∀ (d p : Nat) (B : RPlan), p + d ≤ 5 → (B.2.2.1 < 0 ∨ ∃ q, RGood l o B q) → (chooseF l o d p B).2.2.1 < 0 ∨ ∃ q, RGood l o (chooseF l o d p B) q
  | 0, _, B, _, hB => hB
  | d + 1, p, B, h, hB => chooseF_good d (p + 1) _ (by omega) (stepR_good (by omega) hB)
theorem pickR_nn {l : List Int} {o p : Nat} {m : Int} {B : RPlan} (hl : ∀ x ∈ l, narrow x) (hn : l.length ≤ 512) (hm : 0 ≤ m) (hB : 0 ≤ B.2.2.1) : 0 ≤ (pickR l o p m B).2.2.1 := by
  unfold pickR
  split
  · have := partsF_sz hm (cutS l o p) [] 6 fun c hc => ⟨fun x hx => hl x (cutS_mem hc x hx), by have := cutS_le hc; omega⟩
    simp only
    omega
  · exact hB
theorem chooseF_nn {l : List Int} {o : Nat} (hl : ∀ x ∈ l, narrow x) (hn : l.length ≤ 512) : ∀ (d p : Nat) (B : RPlan), 0 ≤ B.2.2.1 → 0 ≤ (chooseF l o d p B).2.2.1
  | 0, _, B, hB => hB
  | d + 1, p, B, hB => chooseF_nn hl hn d (p + 1) _ (by
    unfold stepR
    split
    · exact pickR_nn hl hn (by omega) (pickR_nn hl hn (by omega) hB)
    · exact hB)
theorem partsF_ok {m : Int} : ∀ (cs : List (List Int)) (ps : List Prt) (sz : Int), (∀ c ∈ cs, (bestS c m).2 = true) → (partsF m cs ps sz).2.2 = true
  | [], _, _, _ => rfl
  | c :: cs, ps, sz, h => by
    unfold partsF
    rw [if_pos (h c (List.mem_cons_self ..))]
    exact partsF_ok cs _ _ fun c hc => h c (List.mem_cons_of_mem _ hc)
theorem chooseR_good {l : List Int} {o : Nat} (hl : ∀ x ∈ l, narrow x) (hn : l.length + o ≤ 512) (ho : o ≤ l.length + o) : 0 ≤ (chooseR l o).2.2.1 ∧ ∃ q, RGood l o (chooseR l o) q := by
  have hnn : 0 ≤ (chooseR l o).2.2.1 := by
    show 0 ≤ (chooseF l o 4 1 (stepR l o (0, 0, -1, []) 0)).2.2.1
    refine chooseF_nn hl (by omega) 4 1 _ ?_
    unfold stepR
    have hf : fitR (l.length + o) o 0 = true := by unfold fitR; simp [Nat.mod_one]
    rw [if_pos hf]
    generalize pickR l o 0 0 (0, 0, -1, []) = B
    by_cases hB : 0 ≤ B.2.2.1
    · exact pickR_nn hl (by omega) (by omega) hB
    · unfold pickR
      have hok := partsF_ok (m := 1) (cutS l o 0) [] 6 fun c hc => best1_some fun x hx => hl x (cutS_mem hc x hx)
      rw [if_pos ⟨hok, .inl (by omega)⟩]
      have := partsF_sz (m := 1) (by omega) (cutS l o 0) [] 6 fun c hc => ⟨fun x hx => hl x (cutS_mem hc x hx), by have := cutS_le hc; omega⟩
      simp only
      omega
  refine ⟨hnn, ?_⟩
  rcases chooseF_good (l := l) (o := o) 5 0 (0, 0, -1, []) (by omega) (.inl (by show (-1 : Int) < 0; omega)) with h | h
  · exact absurd h (by unfold chooseR at hnn; omega)
  · exact h
end Go.Sh
namespace Go.Sh
open Go Go.Proofs
theorem f149_spec (k : Nat) {l : List Int} (hl : l.length ≤ 512) {o : Nat} (hk : 40000 < k) :
    f149_F k (l, (o : Int), ()) = some ((if rcheckS l o = 0 then ((chooseR l o).2.2.1, 0, ()) else (0, rcheckS l o, ())), ()) := by
  show f149_raw0 k _ = _
  simp only [f149_raw0]
  rw [f113_spec k l o (by omega) (by omega)]
  simp only [Option.bind_some]
  rw [int_bne]
  by_cases h : rcheckS l o = 0
  · rw [cneg (by simpa using h), if_pos h]
    have hc : blockB ((l.length : Int) + o) o = true ∧ l.any wideB = false := by
      unfold rcheckS at h
      split at h
      · omega
      · split at h
        · omega
        · rename_i hb
          split at h
          · omega
          · rename_i hw
            exact ⟨by simpa using hb, by simpa using hw⟩
    have hb := of_decide_eq_true hc.1
    rw [f114_spec k (narrow_of hc.2) (by omega) hk]
    rfl
  · rw [cpos h, if_neg h]
theorem rcheck_zero {l : List Int} {o : Nat} : rcheckS l o = 0 ↔ (1 ≤ l.length + o ∧ l.length + o ≤ 512 ∧ o ≤ 8) ∧ l.any wideB = false := by
  unfold rcheckS
  constructor
  · intro h
    split at h
    · omega
    · split at h
      · omega
      · rename_i h1 h2
        split at h
        · omega
        · rename_i hw
          have := of_decide_eq_true (by simpa using h2 : blockB ((l.length : Int) + o) o = true)
          exact ⟨by omega, by simpa using hw⟩
  · rintro ⟨h1, h2⟩
    rw [if_neg (by omega), if_neg, if_neg (by simp [h2])]
    unfold blockB
    rw [decide_eq_true (by omega)]
    simp
def numBits (kk : Nat) (n : Int) : List Bool := (List.replicate (foldN n / 2 ^ kk) false ++ [true]) ++ bitsOf (foldN n % 2 ^ kk) kk
def listBits (m : Int) (y : Prt) (c : List Int) : List Bool := if y.1 = (escN m : Int) then c.flatMap (fun n => sbits n y.2.1.toNat) else c.flatMap (numBits y.1.toNat)
def partBits (m : Int) (x : List Int × Prt) : List Bool := bitsOf x.2.1.toNat (4 + m.toNat) ++ ((if x.2.1 = (escN m : Int) then bitsOf x.2.2.1.toNat 5 else []) ++ listBits m x.2 x.1)
def planBits (l : List Int) (o : Nat) (R : RPlan) : List Bool := (bitsOf R.1.toNat 2 ++ bitsOf R.2.1.toNat 4) ++ ((cutS l o R.2.1.toNat).zip R.2.2.2).flatMap (partBits R.1)
def riceBits (l : List Int) (o : Nat) : List Bool := planBits l o (chooseR l o)
theorem numBits_len (kk : Nat) (n : Int) : (numBits kk n).length = foldN n / 2 ^ kk + 1 + kk := by
  simp [numBits, bitsOf_len]
  omega
theorem f71_nums (k : Nat) (L1 : Int × Int × List (List Int) × Int × List Int × Int × Int × List (Int × Int × Int × Unit) × Int → Option (Int × (List Int × Int × Unit) × Unit))
    {c : List Int} (hc : ∀ x ∈ c, narrow x) (hn : c.length ≤ 512) (hk : 70000 < k) {m : Int} (hm : m = 0 ∨ m = 1) {y : Prt} (hy : PartOk c m y) (v3 v4 : Int) (v5 : List (List Int)) (v12 : Int) (v13 : List Prt) (v14 : Int)
    (hv3 : 0 ≤ v3 ∧ v3 ≤ 65536) (bs : List Bool) (hb : bs.length ≤ 2147483648) :
    f71_L2 k L1 (Int.ofNat c.length, (0 : Int), c, v3, v4, v5, (bs.length : Int), pack bs, y.1, y.2.1, y.2.2.1, m, v12, v13, v14) =
      L1 (v4, v3 + 1, v5, ((bs ++ listBits m y c).length : Int), pack (bs ++ listBits m y c), m, v12, v13, v14) := by
  have he : escN m ≤ 31 := by unfold escN; split <;> omega
  have hfin : ∀ (g : Int → List Bool), (∀ x ∈ c, (g x).length ≤ 70000) →
      (∀ (L : Int × Int × List Int × Int × Int × List (List Int) × Int × List Int × Int × Int × Int × Int × Int × List (Int × Int × Int × Unit) × Int → Option (Int × (List Int × Int × Unit) × Unit)) (i : Nat) (hi : i < c.length) (a : List Bool), a.length ≤ 2147483648 + i * 70000 →
        f71_raw2 k L1 L (Int.ofNat c.length, Int.ofNat i, c, v3, v4, v5, (a.length : Int), pack a, y.1, y.2.1, y.2.2.1, m, v12, v13, v14) =
        L (Int.ofNat c.length, Int.ofNat (i + 1), c, v3, v4, v5, ((a ++ g c[i]).length : Int), pack (a ++ g c[i]), y.1, y.2.1, y.2.2.1, m, v12, v13, v14)) →
      f71_L2 k L1 (Int.ofNat c.length, (0 : Int), c, v3, v4, v5, (bs.length : Int), pack bs, y.1, y.2.1, y.2.2.1, m, v12, v13, v14) =
      L1 (v4, v3 + 1, v5, ((bs ++ c.flatMap g).length : Int), pack (bs ++ c.flatMap g), m, v12, v13, v14) := by
    intro g hg hstep
    have := iter_list_inv (A := List Bool) (R := Int × (List Int × Int × Unit) × Unit) (step := fun L2 => f71_raw2 k L1 L2)
      (fun i a => (Int.ofNat c.length, Int.ofNat i, c, v3, v4, v5, (a.length : Int), pack a, y.1, y.2.1, y.2.2.1, m, v12, v13, v14)) c
      (fun c' a => L1 (v4, v3 + 1, v5, ((a ++ c'.flatMap g).length : Int), pack (a ++ c'.flatMap g), m, v12, v13, v14))
      (fun i a => a.length ≤ 2147483648 + i * 70000)
      (fun L a _ => by
        simp only [f71_raw2]
        rw [cneg (nltR _), w64 (by omega)]
        simp)
      (fun L i hi a ha hL => by
        rw [hstep L i hi a ha, hL (a ++ g c[i]) (by
          have := hg c[i] (List.getElem_mem hi)
          rw [List.length_append]; omega)]
        rw [List.flatMap_cons, List.append_assoc])
      k 0 bs (by omega) (by omega) (Nat.zero_le _)
    rw [List.drop_zero] at this
    exact this
  unfold listBits
  rcases hy with ⟨kk, hkk, hfar, rfl⟩ | ⟨hw, rfl⟩
  · simp only
    rw [if_neg (by omega)]
    have hq : ∀ x ∈ c, foldN x / 2 ^ kk ≤ 65536 := by
      intro x hx
      unfold farB at hfar
      rw [List.any_eq_false] at hfar
      have := hfar x hx
      simp only [decide_eq_true_eq] at this
      omega
    rw [Int.toNat_natCast]
    refine hfin (numBits kk) (fun x hx => by have := hq x hx; rw [numBits_len]; omega) ?_
    intro L i hi a ha
    have hx := hc c[i] (List.getElem_mem hi)
    have hxq := hq c[i] (List.getElem_mem hi)
    simp only [f71_raw2]
    rw [cpos (ltR hi), cpos (inR hi), O117, f117_esc k hm]
    simp only [Option.bind_some]
    rw [int_beq, cneg (by omega), getD_at hi, O118, f118_spec k hx]
    simp only [Option.bind_some]
    have hf32 := foldN_lt hx
    rw [cpos (by omega), and_mask (by omega) (by omega)]
    simp only [Int.toNat_natCast, Nat.min_eq_left (show kk ≤ 64 by omega), fdivP]
    rw [show ((pack a, ((a.length : Nat) : Int), ()) : List Int × Int × Unit) = wst a from rfl, f69_spec k a _ (by omega) hxq (by omega)]
    simp only [Option.bind_some]
    rw [cpos (by omega)]
    have hlen : (a ++ (List.replicate (foldN c[i] / 2 ^ kk) false ++ [true])).length = a.length + (foldN c[i] / 2 ^ kk + 1) := by simp
    rw [f26_spec k (a ++ (List.replicate (foldN c[i] / 2 ^ kk) false ++ [true])) _ kk (by omega) (by omega) (Nat.mod_lt _ (Nat.pow_pos (by omega))) (by rw [hlen]; omega)]
    simp only [Option.bind_some]
    rw [wnext hi (by omega)]
    unfold numBits
    simp only [List.append_assoc]
  · simp only
    rw [if_pos trivial, Int.toNat_natCast]
    refine hfin (fun n => sbits n (widthS c)) (fun x hx => by simp only [sbits_len]; omega) ?_
    intro L i hi a ha
    have hx := width_sgn hc c[i] (List.getElem_mem hi)
    simp only [f71_raw2]
    rw [cpos (ltR hi), cpos (inR hi), O117, f117_esc k hm]
    simp only [Option.bind_some]
    rw [int_beq, cpos rfl, getD_at hi]
    rw [show ((pack a, ((a.length : Nat) : Int), ()) : List Int × Int × Unit) = wst a from rfl, f112_spec k a _ (widthS c) (by omega) (by omega) hx (by omega)]
    simp only [Option.bind_some]
    rw [wnext hi (by omega)]
theorem listBits_le {c : List Int} (hc : ∀ x ∈ c, narrow x) (hn : c.length ≤ 512) {m : Int} {y : Prt} (hy : PartOk c m y) : (listBits m y c).length ≤ c.length * 70000 := by
  have he : escN m ≤ 31 := by unfold escN; split <;> omega
  have key : ∀ (g : Int → List Bool) (l : List Int), (∀ x ∈ l, (g x).length ≤ 70000) → (l.flatMap g).length ≤ l.length * 70000 := by
    intro g l
    induction l with
    | nil => intro _; simp
    | cons a l ih =>
      intro h
      have h1 := h a (List.mem_cons_self ..)
      have h2 := ih fun x hx => h x (List.mem_cons_of_mem _ hx)
      rw [List.flatMap_cons, List.length_append, List.length_cons]
      omega
  unfold listBits
  rcases hy with ⟨kk, hkk, hfar, rfl⟩ | ⟨hw, rfl⟩
  · simp only
    rw [if_neg (by omega)]
    refine key _ c fun x hx => ?_
    unfold farB at hfar
    rw [List.any_eq_false] at hfar
    have := hfar x hx
    simp only [decide_eq_true_eq] at this
    rw [numBits_len, Int.toNat_natCast]
    omega
  · simp only
    rw [if_pos trivial]
    refine key _ c fun x hx => ?_
    rw [sbits_len, Int.toNat_natCast]
    omega
def PartsOk (m : Int) : List (List Int) → List Prt → Prop
  | [], [] => True
  | c :: cs, y :: ys => PartOk c m y ∧ PartsOk m cs ys
  | _, _ => False
theorem partsF_list {m : Int} : ∀ (cs : List (List Int)) (ps : List Prt) (sz : Int), (partsF m cs ps sz).2.2 = true → ∃ ys, (partsF m cs ps sz).1 = ps ++ ys ∧ PartsOk m cs ys ∧ ys = cs.map fun c => (bestS c m).1
  | [], ps, sz, _ => ⟨[], by simp [partsF], trivial, rfl⟩
  | c :: cs, ps, sz, h => by
    unfold partsF at h ⊢
    split at h
    · rename_i hb
      rw [if_pos hb]
      obtain ⟨ys, h1, h2, h3⟩ := partsF_list cs _ _ h
      refine ⟨(bestS c m).1 :: ys, by rw [h1]; simp, ⟨bestS_ok hb, h2⟩, by rw [h3]; rfl⟩
    · cases h
theorem PartsOk.len {m : Int} : ∀ {cs : List (List Int)} {ys : List Prt}, PartsOk m cs ys → ys.length = cs.length
  | [], [], _ => rfl
  | c :: cs, y :: ys, h => by simp [PartsOk.len h.2]
theorem PartsOk.get {m : Int} : ∀ {cs : List (List Int)} {ys : List Prt}, PartsOk m cs ys → ∀ (i : Nat) (h1 : i < cs.length) (h2 : i < ys.length), PartOk cs[i] m ys[i]
  | c :: cs, y :: ys, h, 0, _, _ => h.1
  | c :: cs, y :: ys, h, i + 1, h1, h2 => by
    simp only [List.getElem_cons_succ]
    exact PartsOk.get h.2 i (by simpa using h1) (by simpa using h2)
theorem RGood.ys {l : List Int} {o p : Nat} {R : RPlan} (h : RGood l o R p) : PartsOk R.1 (cutS l o p) R.2.2.2 := by
  obtain ⟨ys, h1, h2, _⟩ := partsF_list (m := R.1) (cutS l o p) [] 6 (by rw [h.parts])
  rw [h.parts] at h1
  simp only [List.nil_append] at h1
  rw [h1]; exact h2
theorem part_first {c : List Int} {m : Int} (hm : m = 0 ∨ m = 1) {y : Prt} (hy : PartOk c m y) : ∃ a w : Nat, y.1 = (a : Int) ∧ a < 2 ^ (4 + m.toNat) ∧ y.2.1 = (w : Int) ∧ w ≤ 31 := by
  rcases hy with ⟨kk, hkk, hfar, rfl⟩ | ⟨hw, rfl⟩
  · refine ⟨kk, 0, rfl, ?_, rfl, by omega⟩
    rcases hm with rfl | rfl
    · have : escN 0 = 15 := rfl
      rw [this] at hkk
      show kk < 16
      omega
    · have : escN 1 = 31 := rfl
      rw [this] at hkk
      show kk < 32
      omega
  · refine ⟨escN m, widthS c, rfl, ?_, rfl, hw⟩
    rcases hm with rfl | rfl <;> decide
theorem f71_spec (k : Nat) {l : List Int} {o : Nat} (hk : 70000 < k) (h : rcheckS l o = 0) (bs : List Bool) (hb : bs.length ≤ 1073741824) :
    f71_F k (wst bs, l, (o : Int), ()) = some (0, wst (bs ++ riceBits l o), ()) := by
  show f71_raw0 k (f71_L1 k) _ = _
  have ⟨h1, h2⟩ := rcheck_zero.1 h
  have hl := narrow_of h2
  obtain ⟨hsz, q, hg⟩ := chooseR_good hl (o := o) (by omega) (by omega)
  simp only [f71_raw0]
  rw [f113_spec k l o (by omega) (by omega), h]
  simp only [Option.bind_some]
  rw [show ((0 : Int) != 0) = false from rfl]
  simp only [cond_false]
  rw [f114_spec k hl (by omega) (by omega)]
  simp only [Option.bind_some]
  unfold riceBits planBits
  generalize chooseR l o = R at hg hsz
  have hys := hg.ys
  obtain ⟨m, p, sz, ys⟩ := R
  obtain ⟨hp, p4, hfit, hm, hparts⟩ := hg
  simp only at hp hm hparts hys
  subst hp
  simp only [Int.toNat_natCast]
  have hmn : m = ((m.toNat : Nat) : Int) := by rcases hm with rfl | rfl <;> rfl
  have hm2 : m.toNat < 2 ^ 2 := by rcases hm with rfl | rfl <;> decide
  have e1 := f26_spec k bs m.toNat 2 (by omega) (by omega) hm2 (by omega)
  rw [← hmn] at e1
  rw [show ((pack bs, ((bs.length : Nat) : Int), ()) : List Int × Int × Unit) = wst bs from rfl, show (2 : Int) = ((2 : Nat) : Int) from rfl, e1]
  simp only [Option.bind_some]
  have hl1 : (bs ++ bitsOf m.toNat 2).length = bs.length + 2 := by rw [List.length_append, bitsOf_len]
  have e2 := f26_spec k (bs ++ bitsOf m.toNat 2) q 4 (by omega) (by omega) (by omega) (by rw [hl1]; omega)
  rw [show (4 : Int) = ((4 : Nat) : Int) from rfl, e2]
  simp only [Option.bind_some]
  rw [f115_spec k (by omega) (by omega) (by omega) hfit]
  simp only [Option.bind_some]
  have hcs : ∀ c ∈ cutS l o q, (∀ x ∈ c, narrow x) ∧ c.length ≤ 512 := fun c hc => ⟨fun x hx => hl x (cutS_mem hc x hx), by have := cutS_le hc; omega⟩
  have hclen : (cutS l o q).length ≤ 16 := by
    rw [cutS_len]
    have : 2 ^ q ≤ 2 ^ 4 := Nat.pow_le_pow_right (by omega) p4
    omega
  have hyl := hys.len
  generalize cutS l o q = cs at hcs hclen hys hyl
  have hzl : (cs.zip ys).length = cs.length := by rw [List.length_zip]; omega
  have hl2 : (bs ++ bitsOf m.toNat 2 ++ bitsOf q 4).length = bs.length + 6 := by rw [List.length_append, hl1, bitsOf_len]
  have := iter_list_inv (A := List Bool) (R := Int × (List Int × Int × Unit) × Unit) (step := fun L1 => f71_raw1 k (f71_L2 k L1) L1)
    (fun i a => (Int.ofNat cs.length, Int.ofNat i, cs, (a.length : Int), pack a, m, (q : Int), ys, sz)) (cs.zip ys)
    (fun l' a => some (0, wst (a ++ l'.flatMap (partBits m)), ()))
    (fun i a => a.length ≤ 1073741900 + i * 35900000)
    (fun L a _ => by
      simp only [f71_raw1]
      rw [hzl, cneg (nltR _)]
      simp)
    (fun L i hi a ha hL => by
      have hi1 : i < cs.length := by omega
      have hi2 : i < ys.length := by omega
      obtain ⟨hc1, hc2⟩ := hcs cs[i] (List.getElem_mem hi1)
      have hy := hys.get i hi1 hi2
      have hzi : (cs.zip ys)[i] = (cs[i], ys[i]) := by rw [List.getElem_zip]
      simp only [f71_raw1]
      rw [cpos (ltR hi1), cpos (inR hi1), cpos (inR hi2), O116, f116_spec k hm]
      simp only [Option.bind_some]
      rw [getD_at hi1, getD_at hi2]
      obtain ⟨b, w, hb1, hb2, hw1, hw2⟩ := part_first hm hy
      have hll := listBits_le hc1 hc2 hy
      have e4 : (4 : Int) + m = ((4 + m.toNat : Nat) : Int) := by rcases hm with rfl | rfl <;> rfl
      have hm1 : m.toNat ≤ 1 := by rcases hm with rfl | rfl <;> decide
      rw [hb1, hw1, e4, show ((pack a, ((a.length : Nat) : Int), ()) : List Int × Int × Unit) = wst a from rfl, f26_spec k a b (4 + m.toNat) (by omega) (by omega) hb2 (by omega)]
      simp only [Option.bind_some]
      rw [O117, f117_esc k hm]
      simp only [Option.bind_some]
      have hla : (a ++ bitsOf b (4 + m.toNat)).length = a.length + (4 + m.toNat) := by rw [List.length_append, bitsOf_len]
      have hI : ((i : Nat) : Int) ≤ 16 := by omega
      have hout : partBits m (cs[i], ys[i]) = bitsOf b (4 + m.toNat) ++ ((if (b : Int) = (escN m : Int) then bitsOf w 5 else []) ++ listBits m ys[i] cs[i]) := by
        unfold partBits
        simp only [hb1, hw1, Int.toNat_natCast]
      rw [hzi, List.flatMap_cons, hout, int_beq]
      have hnext : Int.ofNat i + 1 = Int.ofNat (i + 1) := rfl
      by_cases hesc : (b : Int) = (escN m : Int)
      · rw [cpos hesc, if_pos hesc]
        have h5 : w < 2 ^ 5 := by omega
        rw [show ((5 : Int)) = ((5 : Nat) : Int) from rfl, f26_spec k (a ++ bitsOf b (4 + m.toNat)) w 5 (by omega) (by omega) h5 (by omega)]
        simp only [Option.bind_some]
        have hlb : (a ++ bitsOf b (4 + m.toNat) ++ bitsOf w 5).length = a.length + (4 + m.toNat) + 5 := by rw [List.length_append, hla, bitsOf_len]
        have := f71_nums k L hc1 hc2 (by omega) hm hy (Int.ofNat i) (Int.ofNat cs.length) cs (q : Int) ys sz (by simp only [Int.ofNat_eq_natCast]; omega) (a ++ bitsOf b (4 + m.toNat) ++ bitsOf w 5) (by omega)
        rw [hb1, hw1] at this
        refine Eq.trans this ?_
        rw [hnext, hL _ (by rw [List.length_append, hlb]; omega)]
        simp
      · rw [cneg hesc, if_neg hesc]
        have := f71_nums k L hc1 hc2 (by omega) hm hy (Int.ofNat i) (Int.ofNat cs.length) cs (q : Int) ys sz (by simp only [Int.ofNat_eq_natCast]; omega) (a ++ bitsOf b (4 + m.toNat)) (by omega)
        rw [hb1, hw1] at this
        refine Eq.trans this ?_
        rw [hnext, hL _ (by rw [List.length_append, hla]; omega)]
        simp)
    k 0 (bs ++ bitsOf m.toNat 2 ++ bitsOf q 4) (by omega) (by omega) (Nat.zero_le _)
  rw [List.drop_zero] at this
  refine Eq.trans this ?_
  simp
end Go.Sh
namespace Go.Sh
open Go Go.Proofs
theorem f86_spec (k : Nat) (n d : Int) : f86_F k (n, d, ()) = some (decide (1 ≤ n ∧ n ≤ 512 ∧ 4 ≤ d ∧ d ≤ 25), ()) := by
  show f86_raw0 k _ = _
  simp only [f86_raw0]
  by_cases h1 : 1 ≤ n
  · rw [cpos h1]
    by_cases h2 : n ≤ 512
    · rw [cpos h2]
      by_cases h3 : 4 ≤ d
      · rw [cpos h3]
        congr 2
        by_cases h4 : d ≤ 25
        · rw [decide_eq_true h4, decide_eq_true (by omega)]
        · rw [decide_eq_false h4, decide_eq_false (by omega)]
      · rw [cneg h3, decide_eq_false (by omega)]
    · rw [cneg h2, decide_eq_false (by omega)]
  · rw [cneg h1, decide_eq_false (by omega)]
theorem f89_spec (k : Nat) (x : Int) {d : Nat} (h1 : 1 ≤ d) (h2 : d ≤ 64) : f89_F k (x, (d : Int), ()) = some (sgn x d, ()) := by
  show f89_raw0 k _ = _
  simp only [f89_raw0]
  have e1 : IntKind.i64.wrap ((d : Int) - 1) = ((d - 1 : Nat) : Int) := by rw [w64 (by omega)]; omega
  rw [e1, sgn_fdiv x (by omega)]
  simp only [Int.toNat_natCast, Nat.min_eq_left (show d - 1 ≤ 64 by omega)]
  rw [cpos (by omega), cpos (by omega)]
  cases x.fdiv (2 ^ (d - 1)) == 0 <;> rfl
theorem f105_spec (k : Nat) (x : Int) {d : Nat} (h1 : 1 ≤ d) (h2 : d ≤ 64) : f105_F k (x, ((d : Int), ()), ()) = some (!sgn x d, ((d : Int), ()), ()) := by
  show f105_raw0 k _ = _
  simp only [f105_raw0]
  rw [f89_spec k x h1 h2]
  rfl
theorem f10401_spec (k : Nat) (c : List Int) {d : Nat} (h1 : 1 ≤ d) (h2 : d ≤ 64) (hk : c.length < k) (hn : c.length < 4294967296) :
    f10401_F k (c, (((d : Int), ()), ()), ()) = some (!c.all (sgn · d), ((d : Int), ()), ()) := by
  show f10401_raw0 k _ = _
  simp only [f10401_raw0]
  have key : ∃ i : Int, f14601_F k (c, (((d : Int), ()), ()), ()) = some (i, ((d : Int), ()), ()) ∧ (0 ≤ i ↔ c.all (sgn · d) = false) := by
    have := iter_list (A := Unit) (R := Int × (Int × Unit) × Unit) (step := fun L1 => f14601_raw1 k L1) (fun i _ => (Int.ofNat c.length, Int.ofNat i, c, (d : Int))) c
      (fun l _ => some (if l.all (sgn · d) then -1 else Int.ofNat (c.length - l.length + (l.takeWhile (fun x => sgn x d)).length), ((d : Int), ()), ()))
      (fun L _ => by simp only [f14601_raw1]; rw [cneg (nltR _)]; rfl)
      (fun L i hi _ hL => by
        simp only [f14601_raw1]
        rw [cpos (ltR hi), cpos (inR hi), getD_at hi, f105_spec k _ h1 h2]
        simp only [Option.bind_some]
        have hlen : (List.drop (i + 1) c).length = c.length - (i + 1) := by simp
        cases hc : sgn c[i] d with
        | true =>
          simp only [Bool.not_true, cond_false]
          rw [wnext hi (by omega), hL ()]
          simp only [List.all_cons, hc, Bool.true_and, List.takeWhile_cons, if_true, List.length_cons, hlen]
          split
          · rfl
          · congr 3; omega
        | false =>
          simp only [Bool.not_false, cond_true, List.all_cons, hc, Bool.false_and, Bool.false_eq_true, if_false, List.takeWhile_cons, List.length_cons, hlen, List.length_nil]
          congr 3; omega) k 0 () (by omega) (Nat.zero_le _)
    rw [List.drop_zero] at this
    refine ⟨_, this, ?_⟩
    cases c.all (sgn · d) <;> simp
  obtain ⟨i, h1, h2⟩ := key
  rw [h1]
  simp only [Option.bind_some]
  cases hc : c.all (sgn · d) with
  | false => rw [decide_eq_true (h2.2 hc)]; rfl
  | true => rw [decide_eq_false (fun h => by have := h2.1 h; rw [hc] at this; cases this)]; rfl
def scheckS (s : List Int) (d : Int) : Int := if 1 ≤ s.length ∧ s.length ≤ 512 ∧ 4 ≤ d ∧ d ≤ 25 then (if s.all (sgn · d.toNat) = true then 0 else 12) else 1
theorem f67_spec (k : Nat) (s : List Int) (d : Int) (hk : 1000 < k) : f67_F k (s, d, ()) = some (scheckS s d, ()) := by
  show f67_raw0 k _ = _
  simp only [f67_raw0]
  rw [f86_spec]
  simp only [Option.bind_some]
  unfold scheckS
  by_cases h : 1 ≤ s.length ∧ s.length ≤ 512 ∧ 4 ≤ d ∧ d ≤ 25
  · rw [if_pos h, decide_eq_true (by simp only [Int.ofNat_eq_natCast]; omega)]
    simp only [Bool.not_true, cond_false]
    obtain ⟨e, rfl⟩ := Int.eq_ofNat_of_zero_le (show 0 ≤ d by omega)
    rw [f10401_spec k s (by omega) (by omega) (by omega) (by omega), Int.toNat_natCast]
    simp only [Option.bind_some]
    cases s.all (sgn · e) <;> rfl
  · rw [if_neg h, decide_eq_false (by simp only [Int.ofNat_eq_natCast]; omega)]
    rfl
def lowW (x : Int) : Nat := (x % 18446744073709551616).toNat
def anyN (s : List Int) : Nat := s.foldl (fun v x => v ||| lowW x) 0
def wastedS (s : List Int) : Nat := if anyN s = 0 then 0 else Lib.ctz 64 (anyN s)
theorem lowW_lt (x : Int) : lowW x < 2 ^ 64 := by unfold lowW; omega
theorem ofInt_toNat (x : Int) : (BitVec.ofInt 64 x).toNat = lowW x := by rw [BitVec.toNat_ofInt]; rfl
theorem lowW_wrap {n : Nat} (h : n < 2 ^ 64) : lowW (IntKind.i64.wrap (n : Int)) = n := by
  unfold lowW
  rw [IntKind.wrap_i64]
  omega
theorem or_fold_lt : ∀ (s : List Int) (v : Nat), v < 2 ^ 64 → s.foldl (fun v x => v ||| lowW x) v < 2 ^ 64
  | [], _, h => h
  | x :: s, v, h => or_fold_lt s _ (Nat.or_lt_two_pow h (lowW_lt x))
theorem anyN_lt (s : List Int) : anyN s < 2 ^ 64 := or_fold_lt s 0 (by decide)
theorem f106_spec (k : Nat) (s : List Int) (hk : s.length < k) (hn : s.length < 4294967296) : f106_F k (s, ()) = some (((wastedS s : Nat) : Int), ()) := by
  show f106_raw0 k (f106_L1 k) _ = _
  simp only [f106_raw0]
  have := iter_list_inv (A := Nat) (R := Int × Unit) (step := fun L1 => f106_raw1 k L1) (fun i v => (Int.ofNat s.length, Int.ofNat i, s, IntKind.i64.wrap (v : Int))) s
    (fun s' v => some ((((if s'.foldl (fun v x => v ||| lowW x) v = 0 then 0 else Lib.ctz 64 (s'.foldl (fun v x => v ||| lowW x) v)) : Nat) : Int), ()))
    (fun i v => v < 2 ^ 64)
    (fun L v hv => by
      simp only [f106_raw1]
      rw [cneg (nltR _), int_beq, List.foldl_nil]
      by_cases h0 : v = 0
      · subst h0; rfl
      · have hne : ¬ IntKind.i64.wrap (v : Int) = 0 := by
          intro h
          have := lowW_wrap hv
          rw [h] at this
          exact h0 this.symm
        rw [cneg hne, if_neg h0]
        have hu : IntKind.u64.wrap (IntKind.i64.wrap (v : Int)) = (v : Int) := by
          rw [IntKind.wrap_u64, IntKind.wrap_i64]; omega
        rw [hu]
        show (tzF _).bind _ = _
        unfold tzF
        rw [show (decide ((0 : Int) ≤ (v : Int)) && decide ((v : Int) < 18446744073709551616)) = true from by
          rw [Bool.and_eq_true, decide_eq_true_eq, decide_eq_true_eq]; omega]
        rfl)
    (fun L i hi v hv hL => by
      simp only [f106_raw1]
      rw [cpos (ltR hi), cpos (inR hi), getD_at hi, BitVec.toNat_or, ofInt_toNat, ofInt_toNat, lowW_wrap hv, wnext hi (by omega), List.foldl_cons]
      exact hL (v ||| lowW s[i]) (Nat.or_lt_two_pow hv (lowW_lt _)))
    k 0 0 (by decide) (by omega) (Nat.zero_le _)
  rw [List.drop_zero] at this
  exact this
theorem or_mod_zero {a b k : Nat} (h : (a ||| b) % 2 ^ k = 0) : a % 2 ^ k = 0 ∧ b % 2 ^ k = 0 := by
  rw [Nat.or_mod_two_pow] at h
  have h1 : a % 2 ^ k ≤ a % 2 ^ k ||| b % 2 ^ k := Nat.left_le_or
  have h2 : b % 2 ^ k ≤ a % 2 ^ k ||| b % 2 ^ k := Nat.right_le_or
  omega
theorem or_fold_zero {k : Nat} : ∀ (s : List Int) (v : Nat), (s.foldl (fun v x => v ||| lowW x) v) % 2 ^ k = 0 → v % 2 ^ k = 0 ∧ ∀ x ∈ s, lowW x % 2 ^ k = 0
  | [], v, h => ⟨h, by simp⟩
  | x :: s, v, h => by
    obtain ⟨h1, h2⟩ := or_fold_zero s _ h
    obtain ⟨h3, h4⟩ := or_mod_zero h1
    refine ⟨h3, fun y hy => ?_⟩
    rcases List.mem_cons.1 hy with rfl | hy
    · exact h4
    · exact h2 y hy
theorem low_dvd {x : Int} {k : Nat} (hk : k ≤ 64) (h : lowW x % 2 ^ k = 0) : ((2 : Int) ^ k) ∣ x := by
  have := mod_mod_nat x k 64 hk
  unfold lowW at h
  rw [show (18446744073709551616 : Int) = 2 ^ 64 from rfl, this] at h
  have h0 : 0 ≤ x % 2 ^ k := Int.emod_nonneg _ (by have : (0 : Int) < 2 ^ k := Int.pow_pos (by omega)
                                                   omega)
  exact Int.dvd_of_emod_eq_zero (by omega)
theorem wasted_spec {s : List Int} (h : anyN s ≠ 0) : ∃ m, anyN s = 2 ^ wastedS s * (2 * m + 1) ∧ wastedS s < 64 := by
  unfold wastedS Lib.ctz
  rw [if_neg h, if_neg h]
  exact Lib.ctzFrom_spec 64 (anyN s) (by omega) (anyN_lt s)
theorem wasted_dvd {s : List Int} : ∀ x ∈ s, ((2 : Int) ^ wastedS s) ∣ x := by
  intro x hx
  by_cases h : anyN s = 0
  · unfold wastedS
    rw [if_pos h]
    exact Int.one_dvd _
  · obtain ⟨m, hm, hlt⟩ := wasted_spec h
    have : anyN s % 2 ^ wastedS s = 0 := by rw [hm]; exact Nat.mul_mod_right _ _
    exact low_dvd (by omega) ((or_fold_zero s 0 this).2 x hx)
theorem any_zero : ∀ (s : List Int) (v : Nat), v = 0 → (∀ x ∈ s, x = 0) → s.foldl (fun v x => v ||| lowW x) v = 0
  | [], v, h, _ => h
  | x :: s, v, h, hx => by
    refine any_zero s _ ?_ fun y hy => hx y (List.mem_cons_of_mem _ hy)
    rw [h, hx x (List.mem_cons_self ..)]
    rfl
theorem wasted_lt {s : List Int} {d : Nat} (hd : 1 ≤ d) (hs : ∀ x ∈ s, sgn x d = true) : wastedS s < d := by
  by_cases h : anyN s = 0
  · unfold wastedS
    rw [if_pos h]
    omega
  · have : ∃ x ∈ s, x ≠ 0 := by
      apply Classical.byContradiction
      intro hc
      refine h (any_zero s 0 rfl fun x hx => ?_)
      apply Classical.byContradiction
      intro hne
      exact hc ⟨x, hx, hne⟩
    obtain ⟨x, hx, hne⟩ := this
    have h1 := hs x hx
    unfold sgn at h1
    rw [if_neg (by omega), decide_eq_true_eq] at h1
    have h2 := Int.natAbs_dvd_natAbs.2 (wasted_dvd x hx)
    rw [Int.natAbs_pow] at h2
    have h3 := Nat.le_of_dvd (by omega) h2
    have h4 : x.natAbs ≤ 2 ^ (d - 1) := by
      rw [pow_cast] at h1
      generalize 2 ^ (d - 1) = Q at h1 ⊢
      omega
    have h5 : 2 ^ wastedS s ≤ 2 ^ (d - 1) := Nat.le_trans h3 h4
    have := (Nat.pow_le_pow_iff_right (by omega : 1 < 2)).1 h5
    omega
def shiftS (s : List Int) : List Int := s.map fun x => x.fdiv (2 ^ wastedS s)
theorem shift_len (s : List Int) : (shiftS s).length = s.length := by simp [shiftS]
theorem fdiv_mul {x : Int} {k : Nat} (h : ((2 : Int) ^ k) ∣ x) : x.fdiv (2 ^ k) * 2 ^ k = x := by
  rw [Int.fdiv_eq_ediv_of_nonneg _ (Int.pow_nonneg (by omega))]
  exact Int.ediv_mul_cancel h
theorem shift_sgn {x : Int} {d k : Nat} (hk : k < d) (h : ((2 : Int) ^ k) ∣ x) (hx : sgn x d = true) : sgn (x.fdiv (2 ^ k)) (d - k) = true := by
  have he := fdiv_mul h
  generalize x.fdiv (2 ^ k) = y at he
  unfold sgn at hx ⊢
  rw [if_neg (by omega), decide_eq_true_eq] at hx
  rw [if_neg (by omega), decide_eq_true_eq]
  have hp : (0 : Int) < 2 ^ k := Int.pow_pos (by omega)
  have e : (2 : Int) ^ (d - 1) = 2 ^ (d - k - 1) * 2 ^ k := by rw [← Int.pow_add]; congr 1; omega
  rw [e, ← he, ← Int.neg_mul] at hx
  exact ⟨Int.le_of_mul_le_mul_right hx.1 hp, Int.lt_of_mul_lt_mul_right hx.2 (by omega)⟩
theorem shiftS_sgn {s : List Int} {d : Nat} (hd : 1 ≤ d) (hs : ∀ x ∈ s, sgn x d = true) : ∀ x ∈ shiftS s, sgn x (d - wastedS s) = true := by
  intro y hy
  obtain ⟨x, hx, rfl⟩ := List.mem_map.1 hy
  exact shift_sgn (wasted_lt hd hs) (wasted_dvd x hx) (hs x hx)
theorem sgn_narrow {x : Int} {d : Nat} (hd : d ≤ 31) (h : sgn x d = true) : narrow x := by
  unfold sgn at h
  unfold narrow
  split at h
  · simp only [decide_eq_true_eq] at h; omega
  · rw [decide_eq_true_eq, pow_cast] at h
    have : 2 ^ (d - 1) ≤ 2 ^ 30 := Nat.pow_le_pow_right (by omega) (by omega)
    generalize 2 ^ (d - 1) = Q at h this
    omega
end Go.Sh
namespace Go.Sh
open Go Go.Proofs
abbrev Cand := Int × List Int × Int × List Int × Int
def modC (s : List Int) (d : Nat) (kind : Int) (c : List Int) (sh head : Int) : Option Cand :=
  if (residS c sh s).2 = 0 then some (kind, c, sh, (residS c sh s).1, head + (c.length : Int) * (d : Int) + (chooseR (residS c sh s).1 c.length).2.2.1) else none
def takeC (b : Option Cand) (x : Option Cand) : Option Cand :=
  match x with
  | none => b
  | some x => match b with
    | none => some x
    | some b => if x.2.2.2.2 < b.2.2.2.2 then some x else some b
abbrev FPl := Int × Int × Int × List Int × List Int × Int × List Int × Int × Unit
abbrev SPl := Int × Int × Int × List Int × (List Int × Int × Unit) × List Int × Int × Unit
def toPl (kk d : Int) (s : List Int) : Option Cand → FPl
  | none => (0, 0, 0, [], [], 0, [], -1, ())
  | some (kind, c, sh, r, sz) => (kind, kk, d, s, c, sh, r, sz, ())
abbrev plOf (kk d : Int) (s : List Int) (x : Cand) : SPl := (x.1, kk, d, s, (x.2.1, x.2.2.1, ()), x.2.2.2.1, x.2.2.2.2, ())
def nnC (b : Option Cand) : Prop := ∀ c, b = some c → 0 ≤ c.2.2.2.2
theorem takeC_nn {b x : Option Cand} (hb : nnC b) (hx : nnC x) : nnC (takeC b x) := by
  intro c hc
  unfold takeC at hc
  match x, b, hc with
  | none, b, hc => exact hb c hc
  | some x, none, hc => exact hx c hc
  | some x, some b, hc =>
    simp only at hc
    split at hc
    · exact hx c hc
    · exact hb c hc
theorem f107_yes (k : Nat) (kk d : Int) (s : List Int) (x : Cand) (b : Option Cand) (hb : nnC b) :
    f107_F k (plOf kk d s x, true, toPl kk d s b, ()) = some ((), toPl kk d s (takeC b (some x)), ()) := by
  match b with
  | none => rfl
  | some b =>
    have h0 := hb b rfl
    show (bif decide (b.2.2.2.2 < 0) then _ else bif decide (x.2.2.2.2 < b.2.2.2.2) then _ else _) = _
    rw [cneg (by omega)]
    unfold takeC
    simp only
    by_cases h : x.2.2.2.2 < b.2.2.2.2
    · rw [cpos h, if_pos h]; rfl
    · rw [cneg h, if_neg h]; rfl
theorem chooseR_size {l : List Int} {o : Nat} (hl : ∀ x ∈ l, narrow x) (hn : l.length + o ≤ 512) : 0 ≤ (chooseR l o).2.2.1 ∧ (chooseR l o).2.2.1 ≤ 281474976710656 := by
  obtain ⟨h1, q, hg⟩ := chooseR_good hl hn (by omega)
  refine ⟨h1, ?_⟩
  have key : ∀ (cs : List (List Int)) (ps : List Prt) (sz m : Int), (m = 0 ∨ m = 1) → (∀ c ∈ cs, (∀ x ∈ c, narrow x) ∧ c.length ≤ 512) → (partsF m cs ps sz).2.1 ≤ sz + (cs.length : Int) * 8796093022208 := by
    intro cs
    induction cs with
    | nil => intro ps sz m _ _; simp [partsF]
    | cons c cs ih =>
      intro ps sz m hm h
      cases hb : (bestS c m).2 with
      | false => rw [partsF_no _ _ _ hb]; simp only [List.length_cons]; omega
      | true =>
        rw [partsF_yes _ _ _ hb]
        have h1 := h c (List.mem_cons_self ..)
        have h2 := (bestS_ok hb).size h1.1 h1.2
        have := ih (ps ++ [(bestS c m).1]) (sz + (4 + m + (bestS c m).1.2.2.1)) m hm fun c hc => h c (List.mem_cons_of_mem _ hc)
        simp only [List.length_cons]
        omega
  have := key (cutS l o q) [] 6 _ hg.hm fun c hc => ⟨fun x hx => hl x (cutS_mem hc x hx), by have := cutS_le hc; omega⟩
  rw [hg.parts, cutS_len] at this
  have h16 : 2 ^ q ≤ 2 ^ 4 := Nat.pow_le_pow_right (by omega) hg.p4
  generalize 2 ^ q = Q at this h16
  simp only at this
  omega
theorem residS_zero {c s : List Int} {sh : Int} (h : (residS c sh s).2 = 0) : (residS c sh s).1 = residL c sh s ∧ c.length ≤ s.length ∧ modelB c sh = true := by
  unfold residS at h ⊢
  split at h
  · simp at h
  · split at h
    · simp at h
    · split at h
      · simp at h
      · split at h
        · simp at h
        · rename_i h1 h2 h3 h4
          rw [if_neg h1, if_neg h2, if_neg h3, if_neg h4]
          refine ⟨rfl, by omega, by simpa using h1⟩
theorem residS_rcheck {c s : List Int} {sh : Int} (h : (residS c sh s).2 = 0) (h1 : 1 ≤ s.length) (h2 : s.length ≤ 512) : (residS c sh s).1.length + c.length = s.length ∧ c.length ≤ 8 ∧ rcheckS (residS c sh s).1 (c.length : Nat) = 0 := by
  have hz := residS_zero h
  have hlen : (residS c sh s).1.length + c.length = s.length := by rw [hz.1, residL, resF_len]; omega
  have h8 := (modelB_spec hz.2.2).1
  refine ⟨hlen, h8, rcheck_zero.2 ⟨⟨by omega, by omega, h8⟩, ?_⟩⟩
  rw [List.any_eq_false]
  intro x hx
  have := residS_narrow c sh s x hx
  unfold narrow at this
  unfold wideB
  simp only [decide_eq_true_eq]
  omega
def modOut (p : SPl) (kk d : Int) (s : List Int) : Option Cand → SPl × Bool × Unit
  | none => (p, false, ())
  | some x => (plOf kk d s x, true, ())
theorem f110_spec (k : Nat) (hk : 40000 < k) {s : List Int} (h1 : 1 ≤ s.length) (h2 : s.length ≤ 512) {d : Nat} (hd : d ≤ 25) {head : Int} (hh : 0 ≤ head ∧ head ≤ 1000) (kind : Int) (c : List Int) (sh a0 a1 a5 : Int) (a4 a6 : List Int) (a7 : Int) :
    f110_F k ((a0, a1, (d : Int), s, (a4, a5, ()), a6, a7, ()), kind, (c, sh, ()), head, ()) = some (modOut (a0, a1, (d : Int), s, (a4, a5, ()), a6, a7, ()) a1 d s (modC s d kind c sh head), ()) := by
  show f110_raw0 k _ = _
  simp only [f110_raw0]
  rw [f148_spec k c sh s (by omega) (by omega)]
  simp only [Option.bind_some]
  rw [int_bne]
  unfold modC
  by_cases h : (residS c sh s).2 = 0
  · rw [cneg (by simpa using h), if_pos h]
    obtain ⟨hl, h8, hr⟩ := residS_rcheck h h1 h2
    have hc := f149_spec k (l := (residS c sh s).1) (o := c.length) (by omega) hk
    rw [if_pos hr] at hc
    rw [show Int.ofNat c.length = ((c.length : Nat) : Int) from rfl, hc]
    simp only [Option.bind_some]
    rw [show ((0 : Int) != 0) = false from rfl]
    simp only [cond_false]
    have hsz := chooseR_size (residS_narrow c sh s) (o := c.length) (by omega)
    have hcd : c.length * d ≤ 8 * 25 := Nat.mul_le_mul h8 hd
    have e1 : ((c.length : Nat) : Int) * (d : Int) = ((c.length * d : Nat) : Int) := by push_cast; rfl
    rw [e1, w64 (n := ((c.length * d : Nat) : Int)) (by omega), w64 (n := head + ((c.length * d : Nat) : Int)) (by omega), w64 (by omega)]
    rfl
  · rw [cpos h, if_neg h]
    rfl
theorem f10402_spec (k : Nat) {s : List Int} (h1 : 1 ≤ s.length) (h2 : s.length ≤ 512) (hk : 1000 < k) (a0 a1 a2 a5 a7 : Int) (a4 a6 : List Int) :
    f10402_F k (s, ((a0, a1, a2, s, a4, a5, a6, a7, ()), ()), ()) = some (!s.all (fun x => decide (x = s.headD 0)), (a0, a1, a2, s, a4, a5, a6, a7, ()), ()) := by
  show f10402_raw0 k _ = _
  simp only [f10402_raw0]
  have hhd : s.getD 0 0 = s.headD 0 := by cases s <;> rfl
  have key : ∃ i : Int, f14602_F k (s, ((a0, a1, a2, s, a4, a5, a6, a7, ()), ()), ()) = some (i, (a0, a1, a2, s, a4, a5, a6, a7, ()), ()) ∧ (0 ≤ i ↔ s.all (fun x => decide (x = s.headD 0)) = false) := by
    have := iter_list (A := Unit) (R := Int × FPl × Unit) (step := fun L1 => f14602_raw1 k L1) (fun i _ => (Int.ofNat s.length, Int.ofNat i, s, a0, a1, a2, s, a4, a5, a6, a7)) s
      (fun l _ => some (if l.all (fun x => decide (x = s.headD 0)) then -1 else Int.ofNat (s.length - l.length + (l.takeWhile (fun x => decide (x = s.headD 0))).length), (a0, a1, a2, s, a4, a5, a6, a7, ()), ()))
      (fun L _ => by simp only [f14602_raw1]; rw [cneg (nltR _)]; rfl)
      (fun L i hi _ hL => by
        simp only [f14602_raw1]
        have e : f108_F k (s[i], (a0, a1, a2, s, a4, a5, a6, a7, ()), ()) = some (s[i] != s.headD 0, (a0, a1, a2, s, a4, a5, a6, a7, ()), ()) := by
          show f108_raw0 k _ = _
          simp only [f108_raw0]
          rw [cpos (by simp only [Int.ofNat_eq_natCast]; omega), hhd]
        rw [cpos (ltR hi), cpos (inR hi), getD_at hi, e]
        simp only [Option.bind_some]
        have hlen : (List.drop (i + 1) s).length = s.length - (i + 1) := by simp
        rw [int_bne]
        by_cases hc : s[i] = s.headD 0
        · rw [cneg (by simpa using hc), wnext hi (by omega), hL ()]
          simp only [List.all_cons, hc, decide_true, Bool.true_and, List.takeWhile_cons, if_true, List.length_cons, hlen]
          split
          · rfl
          · congr 3; omega
        · rw [cpos hc]
          simp only [List.all_cons, hc, decide_false, Bool.false_and, Bool.false_eq_true, if_false, List.takeWhile_cons, List.length_cons, hlen, List.length_nil]
          congr 3; omega) k 0 () (by omega) (Nat.zero_le _)
    rw [List.drop_zero] at this
    refine ⟨_, this, ?_⟩
    cases s.all (fun x => decide (x = s.headD 0)) <;> simp
  obtain ⟨i, h1, h2⟩ := key
  rw [h1]
  simp only [Option.bind_some]
  cases hc : s.all (fun x => decide (x = s.headD 0)) with
  | false => rw [decide_eq_true (h2.2 hc)]; rfl
  | true => rw [decide_eq_false (fun h => by have := h2.1 h; rw [hc] at this; cases this)]; rfl
def firstC (s : List Int) (d : Nat) : Option Cand := if s.all (fun x => decide (x = s.headD 0)) = true then some (0, [], 0, [], (d : Int)) else none
def fixC (s : List Int) (d : Nat) (o : Nat) : Option Cand := modC s d (8 + (o : Int)) (fixedC o) 0 0
def lpcC (s : List Int) (d : Nat) (o : Nat) : Option Cand := if o < s.length then modC s d (31 + (o : Int)) (searchS s o) 4 (9 + 12 * (o : Int)) else none
def verbC (s : List Int) (d : Nat) : Option Cand := some (1, [], 0, [], (s.length : Int) * (d : Int))
def fixF (s : List Int) (d : Nat) : Nat → Nat → Option Cand → Option Cand
  | 0, _, b => b
  | e + 1, o, b => fixF s d e (o + 1) (takeC b (fixC s d o))
def chooseC (s : List Int) (d : Nat) : Option Cand :=
  takeC (takeC (takeC (takeC (fixF s d (min 4 s.length + 1) 0 (takeC none (firstC s d))) (lpcC s d 2)) (lpcC s d 4)) (lpcC s d 8)) (verbC s d)
theorem modC_nn {s : List Int} {d : Nat} {kind : Int} {c : List Int} {sh head : Int} (h1 : 1 ≤ s.length) (h2 : s.length ≤ 512) (hh : 0 ≤ head) : nnC (modC s d kind c sh head) := by
  intro x hx
  unfold modC at hx
  split at hx
  · rename_i h
    obtain rfl := (Option.some.inj hx).symm
    obtain ⟨hl, h8, _⟩ := residS_rcheck h h1 h2
    have := (chooseR_size (residS_narrow c sh s) (o := c.length) (by omega)).1
    have e1 : ((c.length : Nat) : Int) * (d : Int) = ((c.length * d : Nat) : Int) := by push_cast; rfl
    simp only
    rw [e1]
    omega
  · cases hx
theorem nn_none : nnC none := fun _ h => by cases h
theorem firstC_nn (s : List Int) (d : Nat) : nnC (firstC s d) := by
  intro x hx
  unfold firstC at hx
  split at hx
  · obtain rfl := (Option.some.inj hx).symm
    simp only
    omega
  · cases hx
theorem fixC_nn {s : List Int} {d o : Nat} (h1 : 1 ≤ s.length) (h2 : s.length ≤ 512) : nnC (fixC s d o) := modC_nn h1 h2 (Int.le_refl _)
theorem lpcC_nn {s : List Int} {d o : Nat} (h1 : 1 ≤ s.length) (h2 : s.length ≤ 512) : nnC (lpcC s d o) := by
  unfold lpcC
  split
  · exact modC_nn h1 h2 (by omega)
  · exact nn_none
theorem fixF_nn {s : List Int} {d : Nat} (h1 : 1 ≤ s.length) (h2 : s.length ≤ 512) : ∀ (e o : Nat) (b : Option Cand), nnC b → nnC (fixF s d e o b)
  | 0, _, b, h => h
  | e + 1, o, b, h => fixF_nn h1 h2 e (o + 1) _ (takeC_nn h (fixC_nn h1 h2))
theorem try_model (k : Nat) (hk : 40000 < k) {s : List Int} (h1 : 1 ≤ s.length) (h2 : s.length ≤ 512) {d : Nat} (hd : d ≤ 25) {head : Int} (hh : 0 ≤ head ∧ head ≤ 1000) (kind : Int) (c : List Int) (sh a0 a1 a5 : Int) (a4 a6 : List Int) (a7 : Int) {b : Option Cand} (hb : nnC b)
    {R : Type} (K : Unit × FPl × Unit → Option R) :
    ((f110_F k ((a0, a1, (d : Int), s, (a4, a5, ()), a6, a7, ()), kind, (c, sh, ()), head, ())).bind fun y =>
      (f107_F k ((y.1.1.1, y.1.1.2.1, y.1.1.2.2.1, y.1.1.2.2.2.1, (y.1.1.2.2.2.2.1.1, y.1.1.2.2.2.2.1.2.1, ()), y.1.1.2.2.2.2.2.1, y.1.1.2.2.2.2.2.2.1, ()), y.1.2.1, ((toPl a1 d s b).1, (toPl a1 d s b).2.1, (toPl a1 d s b).2.2.1, (toPl a1 d s b).2.2.2.1, (toPl a1 d s b).2.2.2.2.1, (toPl a1 d s b).2.2.2.2.2.1, (toPl a1 d s b).2.2.2.2.2.2.1, (toPl a1 d s b).2.2.2.2.2.2.2.1, ()), ())).bind K) =
    K ((), toPl a1 d s (takeC b (modC s d kind c sh head)), ()) := by
  rw [f110_spec k hk h1 h2 hd hh]
  simp only [Option.bind_some]
  cases hm : modC s d kind c sh head with
  | none => rfl
  | some x =>
    have := f107_yes k a1 d s x b hb
    exact (congrArg (fun z => z.bind K) this).trans rfl
end Go.Sh
namespace Go.Sh
open Go Go.Proofs
theorem bind_of {α β : Type} {x : Option α} {a : α} (h : x = some a) (K : α → Option β) : x.bind K = K a := by rw [h]; rfl
theorem f68_fix (k : Nat) (hk : 40000 < k) {s : List Int} (h1 : 1 ≤ s.length) (h2 : s.length ≤ 512) {d : Nat} (hd : d ≤ 25) (kk : Int) :
    ∀ (e o j : Nat) (b : Option Cand), e < j → o + e ≤ 5 → nnC b →
    iter (fun L2 => f68_raw2 k (f68_L3 k) L2) j (((o + e : Nat) : Int), (o : Int), Int.ofNat s.length, (toPl kk d s b).1, (toPl kk d s b).2.1, (toPl kk d s b).2.2.1, (toPl kk d s b).2.2.2.1, (toPl kk d s b).2.2.2.2.1, (toPl kk d s b).2.2.2.2.2.1, (toPl kk d s b).2.2.2.2.2.2.1, (toPl kk d s b).2.2.2.2.2.2.2.1,
        0, kk, (d : Int), s, [], 0, [], 0, 0, kk, (d : Int), 0, (d : Int), s, 0, 0, 0, 0, 0) =
      (fun b => f68_L3 k ((0 : Int), (2 : Int), (4 : Int), (8 : Int), Int.ofNat s.length, 0, kk, (d : Int), s, [], 0, [], 0, (toPl kk d s b).1, (toPl kk d s b).2.1, (toPl kk d s b).2.2.1, (toPl kk d s b).2.2.2.1, (toPl kk d s b).2.2.2.2.1, (toPl kk d s b).2.2.2.2.2.1, (toPl kk d s b).2.2.2.2.2.2.1, (toPl kk d s b).2.2.2.2.2.2.2.1,
        0, kk, (d : Int), 0, (d : Int), s, 0, 0, 0, 0, 0)) (fixF s d e o b) := by
  intro e
  induction e with
  | zero =>
    intro o j b hj ho hb
    obtain ⟨j, rfl⟩ := pos_of_lt hj
    rw [iter_succ]
    simp only [f68_raw2]
    rw [cneg (by omega)]
    rfl
  | succ e ih =>
    intro o j b hj ho hb
    obtain ⟨j, rfl⟩ := pos_of_lt (show 0 < j by omega)
    rw [iter_succ]
    simp only [f68_raw2]
    rw [cpos (by omega), f109_spec k o (by omega) (by omega)]
    simp only [Option.bind_some]
    have e1 : IntKind.i64.wrap ((8 : Int) + (o : Int)) = 8 + (o : Int) := by rw [w64 (by omega)]
    have e2 : IntKind.i64.wrap ((o : Int) + 1) = ((o + 1 : Nat) : Int) := by rw [w64 (by omega)]; rfl
    rw [e1, e2]
    refine (try_model k hk h1 h2 hd (show (0 : Int) ≤ 0 ∧ (0 : Int) ≤ 1000 by omega) (8 + (o : Int)) (fixedC o) 0 0 kk 0 [] [] 0 hb _).trans ?_
    have := ih (o + 1) j (takeC b (fixC s d o)) (by omega) (by omega) (takeC_nn hb (fixC_nn h1 h2))
    rw [show o + 1 + e = o + (e + 1) by omega] at this
    exact this
theorem f68_lpc (k : Nat) (hk : 40000 < k) {s : List Int} (h1 : 1 ≤ s.length) (h2 : s.length ≤ 512) (hs : ∀ x ∈ s, narrow x) {d : Nat} (hd : d ≤ 25) (kk : Int) (b : Option Cand) (hb : nnC b) :
    f68_L3 k ((0 : Int), (2 : Int), (4 : Int), (8 : Int), Int.ofNat s.length, 0, kk, (d : Int), s, [], 0, [], 0, (toPl kk d s b).1, (toPl kk d s b).2.1, (toPl kk d s b).2.2.1, (toPl kk d s b).2.2.2.1, (toPl kk d s b).2.2.2.2.1, (toPl kk d s b).2.2.2.2.2.1, (toPl kk d s b).2.2.2.2.2.2.1, (toPl kk d s b).2.2.2.2.2.2.2.1,
        0, kk, (d : Int), 0, (d : Int), s, 0, 0, 0, 0, 0) =
      (fun b => some (((toPl kk d s b).1, (toPl kk d s b).2.1, (toPl kk d s b).2.2.1, (toPl kk d s b).2.2.2.1, ((toPl kk d s b).2.2.2.2.1, (toPl kk d s b).2.2.2.2.2.1, ()), (toPl kk d s b).2.2.2.2.2.2.1, (toPl kk d s b).2.2.2.2.2.2.2.1, ()), ()))
        (takeC (takeC (takeC (takeC b (lpcC s d 2)) (lpcC s d 4)) (lpcC s d 8)) (verbC s d)) := by
  have one : ∀ (j i o : Nat) (b : Option Cand), (i = 0 ∧ o = 2 ∨ i = 1 ∧ o = 4 ∨ i = 2 ∧ o = 8) → nnC b →
      iter (fun L3 => f68_raw3 k L3) (j + 1) ((i : Int), (2 : Int), (4 : Int), (8 : Int), Int.ofNat s.length, 0, kk, (d : Int), s, [], 0, [], 0, (toPl kk d s b).1, (toPl kk d s b).2.1, (toPl kk d s b).2.2.1, (toPl kk d s b).2.2.2.1, (toPl kk d s b).2.2.2.2.1, (toPl kk d s b).2.2.2.2.2.1, (toPl kk d s b).2.2.2.2.2.2.1, (toPl kk d s b).2.2.2.2.2.2.2.1,
        0, kk, (d : Int), 0, (d : Int), s, 0, 0, 0, 0, 0) =
      (fun b => iter (fun L3 => f68_raw3 k L3) j (((i + 1 : Nat) : Int), (2 : Int), (4 : Int), (8 : Int), Int.ofNat s.length, 0, kk, (d : Int), s, [], 0, [], 0, (toPl kk d s b).1, (toPl kk d s b).2.1, (toPl kk d s b).2.2.1, (toPl kk d s b).2.2.2.1, (toPl kk d s b).2.2.2.2.1, (toPl kk d s b).2.2.2.2.2.1, (toPl kk d s b).2.2.2.2.2.2.1, (toPl kk d s b).2.2.2.2.2.2.2.1,
        0, kk, (d : Int), 0, (d : Int), s, 0, 0, 0, 0, 0)) (takeC b (lpcC s d o)) := by
    intro j i o b hio hb
    rw [iter_succ]
    simp only [f68_raw3]
    have ho : o = 2 ∨ o = 4 ∨ o = 8 := by omega
    have hg : [(2 : Int), 4, 8].getD ((i : Int)).toNat 0 = (o : Int) := by
      rcases hio with ⟨rfl, rfl⟩ | ⟨rfl, rfl⟩ | ⟨rfl, rfl⟩ <;> rfl
    have e2 : IntKind.i64.wrap ((i : Int) + 1) = ((i + 1 : Nat) : Int) := by rw [w64 (by omega)]; rfl
    rw [cpos (by omega), cpos (by omega), hg, e2]
    unfold lpcC
    by_cases hlt : o < s.length
    · rw [cpos (by simp only [Int.ofNat_eq_natCast]; omega), if_pos hlt, f111_spec k s o ho (by omega) hs (by omega) (by omega)]
      simp only [Option.bind_some]
      have e1 : IntKind.i64.wrap ((31 : Int) + (o : Int)) = 31 + (o : Int) := by rw [w64 (by omega)]
      have e3 : IntKind.i64.wrap ((9 : Int) + IntKind.i64.wrap ((12 : Int) * (o : Int))) = 9 + 12 * (o : Int) := by rw [w64 (n := 12 * (o : Int)) (by omega), w64 (by omega)]
      rw [e1, e3]
      exact try_model k hk h1 h2 hd (show (0 : Int) ≤ 9 + 12 * (o : Int) ∧ 9 + 12 * (o : Int) ≤ 1000 by omega) (31 + (o : Int)) (searchS s o) 4 0 kk 0 [] [] 0 hb _
    · rw [cneg (by simp only [Int.ofNat_eq_natCast]; omega), if_neg hlt]
      rfl
  obtain ⟨j, rfl⟩ : ∃ j, k = j + 4 := ⟨k - 4, by omega⟩
  have nn1 := takeC_nn hb (lpcC_nn (o := 2) (d := d) h1 h2)
  have nn2 := takeC_nn nn1 (lpcC_nn (o := 4) (d := d) h1 h2)
  have nn3 := takeC_nn nn2 (lpcC_nn (o := 8) (d := d) h1 h2)
  refine (one (j + 3) 0 2 b (by omega) hb).trans ((one (j + 2) 1 4 _ (by omega) nn1).trans ((one (j + 1) 2 8 _ (by omega) nn2).trans ?_))
  generalize takeC (takeC (takeC b (lpcC s d 2)) (lpcC s d 4)) (lpcC s d 8) = b3 at nn3
  simp only
  rw [iter_succ]
  simp only [f68_raw3]
  rw [cneg (by omega)]
  have hmul : s.length * d ≤ 512 * 25 := Nat.mul_le_mul h2 hd
  have e1 : IntKind.i64.wrap (Int.ofNat s.length * (d : Int)) = (s.length : Int) * (d : Int) := by
    have : Int.ofNat s.length * (d : Int) = ((s.length * d : Nat) : Int) := by simp only [Int.ofNat_eq_natCast]; push_cast; rfl
    rw [this, w64 (by omega)]; push_cast; rfl
  rw [e1]
  have := f107_yes (j + 4) kk d s (1, [], 0, [], (s.length : Int) * (d : Int)) b3 nn3
  exact bind_of this _
theorem f68_spec (k : Nat) (hk : 40000 < k) {s : List Int} (h1 : 1 ≤ s.length) (h2 : s.length ≤ 512) {d : Nat} (hd1 : 1 ≤ d) (hd : d ≤ 25) (hs : ∀ x ∈ s, sgn x d = true) :
    f68_F k (s, (d : Int), ()) = (fun b => some (((toPl (wastedS s : Nat) ((d - wastedS s : Nat) : Int) (shiftS s) b).1, (toPl (wastedS s : Nat) ((d - wastedS s : Nat) : Int) (shiftS s) b).2.1, (toPl (wastedS s : Nat) ((d - wastedS s : Nat) : Int) (shiftS s) b).2.2.1, (toPl (wastedS s : Nat) ((d - wastedS s : Nat) : Int) (shiftS s) b).2.2.2.1, ((toPl (wastedS s : Nat) ((d - wastedS s : Nat) : Int) (shiftS s) b).2.2.2.2.1, (toPl (wastedS s : Nat) ((d - wastedS s : Nat) : Int) (shiftS s) b).2.2.2.2.2.1, ()), (toPl (wastedS s : Nat) ((d - wastedS s : Nat) : Int) (shiftS s) b).2.2.2.2.2.2.1, (toPl (wastedS s : Nat) ((d - wastedS s : Nat) : Int) (shiftS s) b).2.2.2.2.2.2.2.1, ()), ()))
      (chooseC (shiftS s) (d - wastedS s)) := by
  show f68_raw0 k (f68_L1 k) _ = _
  simp only [f68_raw0]
  rw [f106_spec k s (by omega) (by omega)]
  simp only [Option.bind_some]
  have hw := wasted_lt hd1 hs
  have hsg := shiftS_sgn hd1 hs
  have hsl := shift_len s
  have e1 : IntKind.i64.wrap ((d : Int) - ((wastedS s : Nat) : Int)) = ((d - wastedS s : Nat) : Int) := by rw [w64 (by omega)]; omega
  rw [e1]
  generalize hkk : wastedS s = kk at hw hsg
  generalize hdd : d - kk = dd at hsg
  have := iter_list_inv (A := List Int) (R := SPl × Unit) (step := fun L1 => f68_raw1 k (f68_L2 k) L1)
    (fun i a => (Int.ofNat s.length, Int.ofNat i, s, (kk : Int), (0 : Int), (kk : Int), (dd : Int), (0 : Int), (0 : Int), a, (0 : Int), (0 : Int), (0 : Int), (0 : Int), (0 : Int))) s
    (fun s' a => f68_raw1 k (f68_L2 k) (fun _ => none) (Int.ofNat s.length, Int.ofNat s.length, s, (kk : Int), (0 : Int), (kk : Int), (dd : Int), (0 : Int), (0 : Int), a ++ s'.map (fun x => x.fdiv (2 ^ kk)), (0 : Int), (0 : Int), (0 : Int), (0 : Int), (0 : Int)))
    (fun i a => a.length = i)
    (fun L a _ => by
      simp only [f68_raw1]
      rw [cneg (nltR _), cneg (nltR _)]
      simp)
    (fun L i hi a ha hL => by
      have key : f68_raw1 k (f68_L2 k) L (Int.ofNat s.length, Int.ofNat i, s, (kk : Int), (0 : Int), (kk : Int), (dd : Int), (0 : Int), (0 : Int), a, (0 : Int), (0 : Int), (0 : Int), (0 : Int), (0 : Int)) =
          L (Int.ofNat s.length, Int.ofNat (i + 1), s, (kk : Int), (0 : Int), (kk : Int), (dd : Int), (0 : Int), (0 : Int), a ++ [s[i].fdiv (2 ^ kk)], (0 : Int), (0 : Int), (0 : Int), (0 : Int), (0 : Int)) := by
        simp only [f68_raw1]
        rw [cpos (ltR hi), cpos (inR hi), cpos (by omega), cpos (by simp only [List.length_singleton]; omega), getD_at hi, Int.toNat_natCast, Nat.min_eq_left (by omega), wnext hi (by omega)]
      rw [key, hL _ (by simp; omega), List.map_cons, List.append_assoc]
      rfl)
    k 0 [] rfl (by omega) (Nat.zero_le _)
  rw [List.drop_zero, List.nil_append] at this
  refine Eq.trans this ?_
  have hsh : s.map (fun x => x.fdiv (2 ^ kk)) = shiftS s := by unfold shiftS; rw [hkk]
  rw [hsh]
  generalize shiftS s = t at hsg hsl
  simp only [f68_raw1]
  rw [cneg (nltR _), f10402_spec k (by omega) (by omega) (by omega)]
  simp only [Option.bind_some, Bool.not_not]
  have nar : ∀ x ∈ t, narrow x := fun x hx => sgn_narrow (by omega) (hsg x hx)
  have hfirst : f107_F k (((0 : Int), (kk : Int), (dd : Int), t, ([], 0, ()), [], (dd : Int), ()), t.all (fun x => decide (x = t.headD 0)), (0, 0, 0, [], [], 0, [], (-1 : Int), ()), ()) = some ((), toPl kk dd t (takeC none (firstC t dd)), ()) := by
    unfold firstC
    cases t.all (fun x => decide (x = t.headD 0)) with
    | false => rfl
    | true => exact f107_yes k kk dd t (0, [], 0, [], (dd : Int)) none nn_none
  rw [hfirst]
  simp only [Option.bind_some]
  have e4 : IntKind.i64.wrap ((if Int.ofNat t.length < (4 : Int) then Int.ofNat t.length else (4 : Int)) + (1 : Int)) = ((0 + (min 4 t.length + 1) : Nat) : Int) := by
    have : (if Int.ofNat t.length < (4 : Int) then Int.ofNat t.length else (4 : Int)) = ((min 4 t.length : Nat) : Int) := by
      simp only [Int.ofNat_eq_natCast]; split <;> omega
    rw [this, w64 (by omega)]
    omega
  rw [e4]
  have nn0 : nnC (takeC none (firstC t dd)) := takeC_nn nn_none (firstC_nn t dd)
  refine (f68_fix k hk (by omega) (by omega) (show dd ≤ 25 by omega) kk (min 4 t.length + 1) 0 k _ (by omega) (by omega) nn0).trans ?_
  exact f68_lpc k hk (by omega) (by omega) nar (by omega) kk _ (fixF_nn (by omega) (by omega) _ _ _ nn0)
end Go.Sh
namespace Go.Sh
open Go Go.Proofs
theorem flat_sbits_len (w : Nat) : ∀ c : List Int, (c.flatMap fun n => sbits n w).length = w * c.length
  | [] => rfl
  | a :: c => by rw [List.flatMap_cons, List.length_append, sbits_len, flat_sbits_len w c, List.length_cons, Nat.mul_add, Nat.mul_one]; omega
theorem flat_num_len (kk : Nat) : ∀ c : List Int, (c.flatMap (numBits kk)).length = riceSz c kk
  | [] => rfl
  | a :: c => by
    rw [List.flatMap_cons, List.length_append, numBits_len, flat_num_len kk c]
    unfold riceSz
    simp only [List.length_cons, List.map_cons, sumN, Nat.mul_add, Nat.mul_one]
    omega
theorem partBits_len {c : List Int} {m : Int} (hm : m = 0 ∨ m = 1) {y : Prt} (hy : PartOk c m y) : ((partBits m (c, y)).length : Int) = 4 + m + y.2.2.1 := by
  have hmn : ((m.toNat : Nat) : Int) = m := by rcases hm with rfl | rfl <;> rfl
  unfold partBits listBits
  rcases hy with ⟨kk, hkk, hfar, rfl⟩ | ⟨hw, rfl⟩
  · simp only
    rw [if_neg (by omega), if_neg (by omega)]
    simp only [List.length_append, bitsOf_len, List.length_nil, Int.toNat_natCast, flat_num_len]
    omega
  · simp only
    rw [if_pos trivial, if_pos trivial]
    simp only [List.length_append, bitsOf_len, Int.toNat_natCast, flat_sbits_len]
    omega
theorem parts_len {m : Int} (hm : m = 0 ∨ m = 1) : ∀ (cs : List (List Int)) (ps : List Prt) (sz : Int), (partsF m cs ps sz).2.2 = true →
    ((((cs.zip (cs.map fun c => (bestS c m).1)).flatMap (partBits m)).length : Nat) : Int) = (partsF m cs ps sz).2.1 - sz
  | [], ps, sz, _ => by simp [partsF]
  | c :: cs, ps, sz, h => by
    cases hb : (bestS c m).2 with
    | false => rw [partsF_no _ _ _ hb] at h; cases h
    | true =>
      rw [partsF_yes _ _ _ hb] at h ⊢
      have h1 := partBits_len hm (bestS_ok hb)
      have h2 := parts_len hm cs _ _ h
      simp only [List.map_cons, List.zip_cons_cons, List.flatMap_cons, List.length_append]
      omega
theorem RGood.map {l : List Int} {o p : Nat} {R : RPlan} (h : RGood l o R p) : R.2.2.2 = (cutS l o p).map fun c => (bestS c R.1).1 := by
  obtain ⟨ys, h1, h2, h3⟩ := partsF_list (m := R.1) (cutS l o p) [] 6 (by rw [h.parts])
  rw [h.parts] at h1
  simp only [List.nil_append] at h1
  rw [h1, h3]
theorem RGood.len {l : List Int} {o p : Nat} {R : RPlan} (h : RGood l o R p) : ((planBits l o R).length : Int) = R.2.2.1 := by
  have h1 := parts_len h.hm (cutS l o p) [] 6 (by rw [h.parts])
  rw [h.parts, ← h.map] at h1
  unfold planBits
  rw [h.hp, Int.toNat_natCast]
  simp only [List.length_append, bitsOf_len]
  simp only at h1
  omega
theorem riceBits_len {l : List Int} {o : Nat} (hl : ∀ x ∈ l, narrow x) (hn : l.length + o ≤ 512) : ((riceBits l o).length : Int) = (chooseR l o).2.2.1 := by
  obtain ⟨_, q, hg⟩ := chooseR_good hl hn (by omega)
  exact hg.len
def CandOk (s : List Int) (d : Nat) (x : Cand) : Prop :=
  (x = (0, [], 0, [], (d : Int)) ∧ s.all (fun x => decide (x = s.headD 0)) = true) ∨ x = (1, [], 0, [], (s.length : Int) * (d : Int)) ∨
  (∃ o, o ≤ 4 ∧ o ≤ s.length ∧ fixC s d o = some x) ∨ (∃ o, (o = 2 ∨ o = 4 ∨ o = 8) ∧ o < s.length ∧ modC s d (31 + (o : Int)) (searchS s o) 4 (9 + 12 * (o : Int)) = some x)
def allOk (s : List Int) (d : Nat) (b : Option Cand) : Prop := ∀ x, b = some x → CandOk s d x
theorem takeC_cases {b x : Option Cand} {y : Cand} (h : takeC b x = some y) : b = some y ∨ x = some y := by
  unfold takeC at h
  match x, b, h with
  | none, b, h => exact .inl h
  | some x, none, h => exact .inr h
  | some x, some b, h =>
    simp only at h
    split at h
    · exact .inr h
    · exact .inl h
theorem takeC_ok {s : List Int} {d : Nat} {b x : Option Cand} (hb : allOk s d b) (hx : allOk s d x) : allOk s d (takeC b x) := fun y hy => by
  rcases takeC_cases hy with h | h
  · exact hb y h
  · exact hx y h
theorem takeC_le {b x : Option Cand} : (∀ y, b = some y → ∃ z, takeC b x = some z ∧ z.2.2.2.2 ≤ y.2.2.2.2) ∧ (∀ y, x = some y → ∃ z, takeC b x = some z ∧ z.2.2.2.2 ≤ y.2.2.2.2) := by
  unfold takeC
  match x, b with
  | none, b => exact ⟨fun y hy => ⟨y, hy, Int.le_refl _⟩, fun y hy => by cases hy⟩
  | some x, none => exact ⟨fun y hy => (by cases hy), fun y hy => ⟨y, hy, Int.le_refl _⟩⟩
  | some x, some b =>
    simp only
    split
    · exact ⟨fun y hy => by cases hy; exact ⟨x, rfl, by omega⟩, fun y hy => by cases hy; exact ⟨x, rfl, Int.le_refl _⟩⟩
    · exact ⟨fun y hy => by cases hy; exact ⟨b, rfl, Int.le_refl _⟩, fun y hy => by cases hy; exact ⟨b, rfl, by omega⟩⟩
theorem fixF_ok {s : List Int} {d : Nat} : ∀ (e o : Nat) (b : Option Cand), o + e ≤ min 4 s.length + 1 → allOk s d b → allOk s d (fixF s d e o b)
  | 0, _, b, _, h => h
  | e + 1, o, b, he, h => fixF_ok e (o + 1) _ (by omega) (takeC_ok h fun x hx => .inr (.inr (.inl ⟨o, by omega, by omega, hx⟩)))
theorem lpcC_ok {s : List Int} {d o : Nat} (ho : o = 2 ∨ o = 4 ∨ o = 8) : allOk s d (lpcC s d o) := by
  intro x hx
  unfold lpcC at hx
  split at hx
  · exact .inr (.inr (.inr ⟨o, ho, by omega, hx⟩))
  · cases hx
theorem chooseC_ok (s : List Int) (d : Nat) : ∃ x, chooseC s d = some x ∧ CandOk s d x ∧ x.2.2.2.2 ≤ (s.length : Int) * (d : Int) := by
  obtain ⟨z, h1, h2⟩ := (takeC_le (b := takeC (takeC (takeC (fixF s d (min 4 s.length + 1) 0 (takeC none (firstC s d))) (lpcC s d 2)) (lpcC s d 4)) (lpcC s d 8)) (x := verbC s d)).2 _ rfl
  refine ⟨z, h1, ?_, h2⟩
  refine takeC_ok (takeC_ok (takeC_ok (takeC_ok (fixF_ok _ _ _ (by omega) (takeC_ok (fun x hx => by cases hx) ?_)) (lpcC_ok (.inl rfl))) (lpcC_ok (.inr (.inl rfl)))) (lpcC_ok (.inr (.inr rfl)))) ?_ z h1
  · intro x hx
    unfold firstC at hx
    split at hx
    · rename_i h
      exact .inl ⟨(Option.some.inj hx).symm, h⟩
    · cases hx
  · intro x hx
    exact .inr (.inl (Option.some.inj hx).symm)
def bodyBits (s : List Int) (d : Nat) (x : Cand) : List Bool :=
  if x.1 = 0 then (s.take 1).flatMap (fun n => sbits n d) else if x.1 = 1 then s.flatMap (fun n => sbits n d)
  else (s.take x.2.1.length).flatMap (fun n => sbits n d) ++ ((if 31 < x.1 then bitsOf 11 4 ++ (bitsOf x.2.2.1.toNat 5 ++ x.2.1.flatMap (fun n => sbits n 12)) else []) ++ riceBits x.2.2.2.1 x.2.1.length)
def headBits (kind : Int) (kk : Nat) : List Bool := bitsOf kind.toNat 7 ++ (if 0 < kk then [true] ++ (List.replicate (kk - 1) false ++ [true]) else [false])
def subBits (s : List Int) (d : Nat) : List Bool := match chooseC (shiftS s) (d - wastedS s) with
  | none => []
  | some x => headBits x.1 (wastedS s) ++ bodyBits (shiftS s) (d - wastedS s) x
theorem headBits_len (kind : Int) (kk : Nat) : (headBits kind kk).length = 8 + kk := by
  unfold headBits
  rw [List.length_append, bitsOf_len]
  split
  · simp; omega
  · simp; omega
theorem modC_some {s : List Int} {d : Nat} {kind : Int} {c : List Int} {sh head : Int} {x : Cand} (h1 : 1 ≤ s.length) (h2 : s.length ≤ 512) (h : modC s d kind c sh head = some x) :
    x.1 = kind ∧ x.2.1 = c ∧ x.2.2.1 = sh ∧ x.2.2.2.1 = residL c sh s ∧ x.2.2.2.2 = head + (c.length : Int) * (d : Int) + ((riceBits (residL c sh s) c.length).length : Int) ∧ rcheckS (residL c sh s) (c.length : Nat) = 0 ∧ c.length ≤ s.length ∧ c.length ≤ 8 ∧ modelB c sh = true ∧
      (residS c sh s).2 = 0 := by
  unfold modC at h
  split at h
  · rename_i hz
    obtain rfl := (Option.some.inj h).symm
    obtain ⟨hl, h8, hr⟩ := residS_rcheck hz h1 h2
    obtain ⟨e1, e2, e3⟩ := residS_zero hz
    have := riceBits_len (residS_narrow c sh s) (o := c.length) (by omega)
    rw [e1] at hr this ⊢
    exact ⟨rfl, rfl, rfl, rfl, by simp only; omega, hr, e2, h8, e3, hz⟩
  · cases h
theorem take_flat_len (s : List Int) (d j : Nat) (h : j ≤ s.length) : ((s.take j).flatMap (fun n => sbits n d)).length = d * j := by
  rw [flat_sbits_len, List.length_take, Nat.min_eq_left h]
theorem fixedC_len (o : Nat) (h : o ≤ 4) : (fixedC o).length = o := by
  obtain rfl | rfl | rfl | rfl | rfl : o = 0 ∨ o = 1 ∨ o = 2 ∨ o = 3 ∨ o = 4 := by omega
  all_goals rfl
theorem bodyBits_len {s : List Int} {d : Nat} {x : Cand} (h1 : 1 ≤ s.length) (h2 : s.length ≤ 512) (h : CandOk s d x) : ((bodyBits s d x).length : Int) = x.2.2.2.2 := by
  unfold bodyBits
  rcases h with ⟨rfl, _⟩ | rfl | ⟨o, ho, hos, hx⟩ | ⟨o, ho, hos, hx⟩
  · simp only
    rw [if_pos trivial, take_flat_len _ _ _ h1]
    omega
  · simp only
    rw [if_neg (by omega), if_pos trivial, flat_sbits_len]
    push_cast
    rw [Int.mul_comm]
  · obtain ⟨e1, e2, e3, e4, e5, e6, e7, e8, e9, _⟩ := modC_some h1 h2 hx
    rw [e1, e2, e3, e4, e5, if_neg (by omega), if_neg (by omega), if_neg (by omega)]
    simp only [List.length_append, List.length_nil, take_flat_len _ _ _ e7]
    push_cast
    rw [Int.mul_comm (d : Int)]
    omega
  · obtain ⟨e1, e2, e3, e4, e5, e6, e7, e8, e9, _⟩ := modC_some h1 h2 hx
    have hsl := (searchS_ok s o ho).1
    rw [e1, e2, e3, e4, e5, if_neg (by omega), if_neg (by omega), if_pos (by omega)]
    simp only [List.length_append, take_flat_len _ _ _ e7, bitsOf_len, flat_sbits_len]
    rw [hsl]
    push_cast
    rw [Int.mul_comm (d : Int)]
    omega
theorem subBits_some (s : List Int) (d : Nat) (h1 : 1 ≤ s.length) (h2 : s.length ≤ 512) : ∃ x, chooseC (shiftS s) (d - wastedS s) = some x ∧ CandOk (shiftS s) (d - wastedS s) x ∧ subBits s d = headBits x.1 (wastedS s) ++ bodyBits (shiftS s) (d - wastedS s) x ∧
    ((subBits s d).length : Int) = 8 + (wastedS s : Int) + x.2.2.2.2 ∧ x.2.2.2.2 ≤ (s.length : Int) * ((d - wastedS s : Nat) : Int) := by
  obtain ⟨x, h3, h4, h5⟩ := chooseC_ok (shiftS s) (d - wastedS s)
  have hb := bodyBits_len (by rw [shift_len]; exact h1) (by rw [shift_len]; exact h2) h4
  rw [shift_len] at h5
  have e : subBits s d = headBits x.1 (wastedS s) ++ bodyBits (shiftS s) (d - wastedS s) x := by unfold subBits; rw [h3]
  refine ⟨x, h3, h4, e, ?_, h5⟩
  rw [e, List.length_append, headBits_len]
  omega
theorem subBits_len {s : List Int} {d : Nat} (h1 : 1 ≤ s.length) (h2 : s.length ≤ 512) (hw : wastedS s < d) : (subBits s d).length ≤ 8 + s.length * d := by
  obtain ⟨x, _, _, _, h4, h5⟩ := subBits_some s d h1 h2
  have e : (s.length : Int) * ((d - wastedS s : Nat) : Int) = ((s.length * d - s.length * wastedS s : Nat) : Int) := by
    rw [← Nat.mul_sub]; push_cast; rfl
  have h6 : wastedS s ≤ s.length * wastedS s := Nat.le_mul_of_pos_left _ h1
  have h7 : s.length * wastedS s ≤ s.length * d := Nat.mul_le_mul_left _ (by omega)
  omega
end Go.Sh
namespace Go.Sh
open Go Go.Proofs
theorem f70_spec (k : Nat) {l : List Int} {w : Nat} (hk : 10000 < k) (hl : l.length ≤ 8192) (hw : w ≤ 32) (hs : ∀ x ∈ l, sgn x w = true) (bs : List Bool) (hb : bs.length ≤ 2147483648) :
    f70_F k (wst bs, l, (w : Int), ()) = some ((), wst (bs ++ l.flatMap (fun n => sbits n w)), ()) := by
  show f70_raw0 k (f70_L1 k) _ = _
  simp only [f70_raw0]
  have := iter_list_inv (A := List Bool) (R := Unit × (List Int × Int × Unit) × Unit) (step := fun L1 => f70_raw1 k L1)
    (fun i a => (Int.ofNat l.length, Int.ofNat i, l, (w : Int), (a.length : Int), pack a)) l
    (fun l' a => some ((), wst (a ++ l'.flatMap (fun n => sbits n w)), ()))
    (fun i a => a.length ≤ 2147483648 + i * 32)
    (fun L a _ => by
      simp only [f70_raw1]
      rw [cneg (nltR _)]
      simp)
    (fun L i hi a ha hL => by
      simp only [f70_raw1]
      rw [cpos (ltR hi), cpos (inR hi), getD_at hi]
      rw [show ((pack a, ((a.length : Nat) : Int), ()) : List Int × Int × Unit) = wst a from rfl, f112_spec k a _ w (by omega) hw (hs _ (List.getElem_mem hi)) (by omega)]
      simp only [Option.bind_some]
      rw [wnext hi (by omega), hL (a ++ sbits l[i] w) (by rw [List.length_append, sbits_len]; omega), List.flatMap_cons, List.append_assoc])
    k 0 bs (by omega) (by omega) (Nat.zero_le _)
  rw [List.drop_zero] at this
  exact this
noncomputable def f31_tail (k : Nat) (p : SPl) (w : List Int × Int × Unit) : Option (Int × (List Int × Int × Unit) × Unit) :=
  bif p.1 == (0 : Int) then bif decide ((0 : Int) ≤ (0 : Int) ∧ (0 : Int) ≤ (1 : Int) ∧ (1 : Int) ≤ Int.ofNat (List.length p.2.2.2.1)) then (f70_F k (w, List.drop (0 : Nat) (List.take (1 : Nat) p.2.2.2.1), p.2.2.1, ())).bind fun y => some (0, (y.2.1.1, y.2.1.2.1, ()), ()) else none
  else bif p.1 == (1 : Int) then (f70_F k (w, p.2.2.2.1, p.2.2.1, ())).bind fun y => some (0, (y.2.1.1, y.2.1.2.1, ()), ())
  else bif decide ((0 : Int) ≤ (0 : Int) ∧ (0 : Int) ≤ Int.ofNat (List.length p.2.2.2.2.1.1) ∧ Int.ofNat (List.length p.2.2.2.2.1.1) ≤ Int.ofNat (List.length p.2.2.2.1)) then
    (f70_F k (w, List.drop (0 : Nat) (List.take (Int.ofNat (List.length p.2.2.2.2.1.1)).toNat p.2.2.2.1), p.2.2.1, ())).bind fun y_4 =>
      bif decide ((31 : Int) < p.1) then (f26_F k ((y_4.2.1.1, y_4.2.1.2.1, ()), 11, 4, ())).bind fun y_5 => (f26_F k ((y_5.2.1.1, y_5.2.1.2.1, ()), p.2.2.2.2.1.2.1, 5, ())).bind fun y_6 => (f70_F k ((y_6.2.1.1, y_6.2.1.2.1, ()), p.2.2.2.2.1.1, 12, ())).bind fun y_7 => (f71_F k ((y_7.2.1.1, y_7.2.1.2.1, ()), p.2.2.2.2.2.1, Int.ofNat (List.length p.2.2.2.2.1.1), ())).bind fun y => some (y.1, (y.2.1.1, y.2.1.2.1, ()), ())
      else (f71_F k ((y_4.2.1.1, y_4.2.1.2.1, ()), p.2.2.2.2.2.1, Int.ofNat (List.length p.2.2.2.2.1.1), ())).bind fun y => some (y.1, (y.2.1.1, y.2.1.2.1, ()), ())
  else none
theorem f31_shape (k : Nat) (w : List Int × Int × Unit) (s : List Int) (d : Int) : f31_F k (w, s, d, ()) =
    (f67_F k (s, d, ())).bind fun y => bif y.1 != (0 : Int) then some (y.1, w, ()) else (f68_F k (s, d, ())).bind fun y => (f26_F k (w, y.1.1, 7, ())).bind fun y_1 =>
      bif decide ((0 : Int) < y.1.2.1) then (f26_F k ((y_1.2.1.1, y_1.2.1.2.1, ()), 1, 1, ())).bind fun y_2 => (f69_F k ((y_2.2.1.1, y_2.2.1.2.1, ()), IntKind.i64.wrap (y.1.2.1 - (1 : Int)), ())).bind fun y_3 => f31_tail k y.1 (y_3.2.1.1, y_3.2.1.2.1, ())
      else (f26_F k ((y_1.2.1.1, y_1.2.1.2.1, ()), 0, 1, ())).bind fun y_2 => f31_tail k y.1 (y_2.2.1.1, y_2.2.1.2.1, ()) := rfl
theorem f31_tail_spec (k : Nat) (hk : 70000 < k) {s : List Int} (h1 : 1 ≤ s.length) (h2 : s.length ≤ 512) {d : Nat} (hd1 : 1 ≤ d) (hd : d ≤ 25) (hs : ∀ x ∈ s, sgn x d = true) {x : Cand} (hx : CandOk s d x) (kk : Int) (bs : List Bool) (hb : bs.length ≤ 1000000000) :
    f31_tail k (plOf kk d s x) (wst bs) = some (0, wst (bs ++ bodyBits s d x), ()) := by
  unfold f31_tail bodyBits
  rcases hx with ⟨rfl, _⟩ | rfl | ⟨o, ho, hos, hx⟩ | ⟨o, ho, hos, hx⟩
  · simp only
    rw [int_beq, cpos rfl, cpos (by simp only [Int.ofNat_eq_natCast]; omega), if_pos trivial, List.drop_zero]
    rw [f70_spec k (by omega) (by rw [List.length_take]; omega) (by omega) (fun y hy => hs y (List.mem_of_mem_take hy)) bs (by omega)]
    rfl
  · simp only
    rw [int_beq, cneg (by omega), int_beq, cpos rfl, if_neg (by omega), if_pos trivial]
    rw [f70_spec k (by omega) (by omega) (by omega) hs bs (by omega)]
    rfl
  · obtain ⟨e1, e2, e3, e4, e5, e6, e7, e8, e9, _⟩ := modC_some h1 h2 hx
    obtain ⟨kind, c, sh, r, sz⟩ := x
    simp only at e1 e2 e3 e4 e5
    subst e1; subst e2; subst e3; subst e4
    simp only
    rw [int_beq, cneg (by omega), int_beq, cneg (by omega), cpos (by simp only [Int.ofNat_eq_natCast]; omega), if_neg (by omega), if_neg (by omega), if_neg (by omega), List.drop_zero]
    rw [show (Int.ofNat (fixedC o).length).toNat = (fixedC o).length from rfl]
    rw [f70_spec k (by omega) (by rw [List.length_take]; omega) (by omega) (fun y hy => hs y (List.mem_of_mem_take hy)) bs (by omega)]
    simp only [Option.bind_some]
    rw [cneg (by omega), show Int.ofNat (fixedC o).length = ((fixedC o).length : Nat) from rfl]
    have hlen := take_flat_len s d (fixedC o).length e7
    have hmul : d * (fixedC o).length ≤ 25 * 8 := Nat.mul_le_mul hd e8
    refine (bind_of (f71_spec k (by omega) e6 (bs ++ (s.take (fixedC o).length).flatMap (fun n => sbits n d)) (by rw [List.length_append]; omega)) _).trans ?_
    simp only [List.nil_append, List.append_assoc]
  · obtain ⟨e1, e2, e3, e4, e5, e6, e7, e8, e9, _⟩ := modC_some h1 h2 hx
    obtain ⟨hsl, hsr⟩ := searchS_ok s o ho
    obtain ⟨kind, c, sh, r, sz⟩ := x
    simp only at e1 e2 e3 e4 e5
    subst e1; subst e2; subst e3; subst e4
    simp only
    rw [int_beq, cneg (by omega), int_beq, cneg (by omega), cpos (by simp only [Int.ofNat_eq_natCast]; omega), if_neg (by omega), if_neg (by omega), if_pos (by omega), List.drop_zero]
    generalize searchS s o = c at hsl hsr e6 e7 e8 e9
    rw [show (Int.ofNat c.length).toNat = c.length from rfl]
    rw [f70_spec k (by omega) (by rw [List.length_take]; omega) (by omega) (fun y hy => hs y (List.mem_of_mem_take hy)) bs (by omega)]
    simp only [Option.bind_some]
    rw [cpos (by omega), show Int.ofNat c.length = (c.length : Nat) from rfl]
    have hlen := take_flat_len s d c.length e7
    have hmul : d * c.length ≤ 25 * 8 := Nat.mul_le_mul hd e8
    generalize hW : (s.take c.length).flatMap (fun n => sbits n d) = W at hlen
    have l1 : (bs ++ W).length = bs.length + d * c.length := by rw [List.length_append, hlen]
    refine (bind_of (f26_spec k (bs ++ W) 11 4 (by omega) (by omega) (by omega) (by omega)) _).trans ?_
    have l2 : (bs ++ W ++ bitsOf 11 4).length = bs.length + d * c.length + 4 := by rw [List.length_append, l1, bitsOf_len]
    refine (bind_of (f26_spec k (bs ++ W ++ bitsOf 11 4) 4 5 (by omega) (by omega) (by omega) (by omega)) _).trans ?_
    have l3 : (bs ++ W ++ bitsOf 11 4 ++ bitsOf 4 5).length = bs.length + d * c.length + 9 := by rw [List.length_append, l2, bitsOf_len]
    refine (bind_of (f70_spec k (l := c) (w := 12) (by omega) (by omega) (by omega) (fun y hy => by
      have := hsr y hy
      unfold sgn
      rw [if_neg (by omega), decide_eq_true_eq]
      omega) (bs ++ W ++ bitsOf 11 4 ++ bitsOf 4 5) (by omega)) _).trans ?_
    have l4 : (bs ++ W ++ bitsOf 11 4 ++ bitsOf 4 5 ++ c.flatMap (fun n => sbits n 12)).length = bs.length + d * c.length + 9 + 12 * c.length := by rw [List.length_append, l3, flat_sbits_len]
    refine (bind_of (f71_spec k (by omega) e6 (bs ++ W ++ bitsOf 11 4 ++ bitsOf 4 5 ++ c.flatMap (fun n => sbits n 12)) (by omega)) _).trans ?_
    show some _ = some _
    simp only [List.append_assoc]
    rfl
theorem CandOk.kind {s : List Int} {d : Nat} {x : Cand} (h1 : 1 ≤ s.length) (h2 : s.length ≤ 512) (h : CandOk s d x) : ∃ n : Nat, x.1 = (n : Int) ∧ n < 2 ^ 7 := by
  rcases h with ⟨rfl, _⟩ | rfl | ⟨o, ho, hos, hx⟩ | ⟨o, ho, hos, hx⟩
  · exact ⟨0, rfl, by omega⟩
  · exact ⟨1, rfl, by omega⟩
  · exact ⟨8 + o, by rw [(modC_some h1 h2 hx).1]; omega, by omega⟩
  · exact ⟨31 + o, by rw [(modC_some h1 h2 hx).1]; omega, by omega⟩
theorem scheck_zero {s : List Int} {d : Nat} : scheckS s (d : Int) = 0 ↔ (1 ≤ s.length ∧ s.length ≤ 512 ∧ 4 ≤ d ∧ d ≤ 25) ∧ ∀ x ∈ s, sgn x d = true := by
  unfold scheckS
  rw [Int.toNat_natCast]
  constructor
  · intro h
    split at h
    · split at h
      · rename_i h1 h2
        exact ⟨by omega, List.all_eq_true.1 h2⟩
      · omega
    · omega
  · rintro ⟨h1, h2⟩
    rw [if_pos (by omega), if_pos (List.all_eq_true.2 h2)]
theorem f31_spec (k : Nat) (hk : 70000 < k) {s : List Int} {d : Nat} (h : scheckS s (d : Int) = 0) (bs : List Bool) (hb : bs.length ≤ 900000000) :
    f31_F k (wst bs, s, (d : Int), ()) = some (0, wst (bs ++ subBits s d), ()) := by
  obtain ⟨⟨h1, h2, h3, h4⟩, hs⟩ := scheck_zero.1 h
  rw [f31_shape, f67_spec k s d (by omega), h]
  simp only [Option.bind_some]
  rw [show ((0 : Int) != 0) = false from rfl]
  simp only [cond_false]
  rw [f68_spec k (by omega) h1 h2 (by omega) h4 hs]
  obtain ⟨x, hx, hok, hsub, hlen, _⟩ := subBits_some s d h1 h2
  rw [hx, hsub]
  have hw := wasted_lt (by omega) hs
  have hsg := shiftS_sgn (by omega) hs
  have hsl := shift_len s
  generalize wastedS s = kk at hw hsg hok ⊢
  generalize shiftS s = t at hsg hsl hok ⊢
  generalize hdd : d - kk = dd at hsg hok ⊢
  obtain ⟨kn, hk1, hk2⟩ := hok.kind (by omega) (by omega)
  show (f26_F k (wst bs, x.1, 7, ())).bind _ = _
  unfold headBits
  rw [hk1, Int.toNat_natCast]
  refine (bind_of (f26_spec k bs kn 7 (by omega) (by omega) hk2 (by omega)) _).trans ?_
  have l1 : (bs ++ bitsOf kn 7).length = bs.length + 7 := by rw [List.length_append, bitsOf_len]
  show (bif decide ((0 : Int) < (kk : Int)) then _ else _) = _
  by_cases h0 : 0 < kk
  · rw [cpos (by omega), if_pos h0]
    refine (bind_of (f26_spec k (bs ++ bitsOf kn 7) 1 1 (by omega) (by omega) (by omega) (by omega)) _).trans ?_
    have l2 : (bs ++ bitsOf kn 7 ++ bitsOf 1 1).length = bs.length + 8 := by rw [List.length_append, l1, bitsOf_len]
    show (f69_F k (wst (bs ++ bitsOf kn 7 ++ bitsOf 1 1), IntKind.i64.wrap ((kk : Int) - 1), ())).bind _ = _
    have e1 : IntKind.i64.wrap ((kk : Int) - 1) = ((kk - 1 : Nat) : Int) := by rw [w64 (by omega)]; omega
    rw [e1]
    refine (bind_of (f69_spec k (bs ++ bitsOf kn 7 ++ bitsOf 1 1) (kk - 1) (by omega) (by omega) (by omega)) _).trans ?_
    have l3 : (bs ++ bitsOf kn 7 ++ bitsOf 1 1 ++ (List.replicate (kk - 1) false ++ [true])).length = bs.length + 8 + kk := by
      rw [List.length_append, l2]; simp; omega
    have := f31_tail_spec k hk (by omega) (by omega) (d := dd) (by omega) (by omega) hsg hok (kk : Int) (bs ++ bitsOf kn 7 ++ bitsOf 1 1 ++ (List.replicate (kk - 1) false ++ [true])) (by omega)
    refine Eq.trans this ?_
    rw [show bitsOf 1 1 = [true] from rfl]
    simp only [List.append_assoc]
  · rw [cneg (by omega), if_neg h0]
    refine (bind_of (f26_spec k (bs ++ bitsOf kn 7) 0 1 (by omega) (by omega) (by omega) (by omega)) _).trans ?_
    have l2 : (bs ++ bitsOf kn 7 ++ bitsOf 0 1).length = bs.length + 8 := by rw [List.length_append, l1, bitsOf_len]
    have := f31_tail_spec k hk (by omega) (by omega) (d := dd) (by omega) (by omega) hsg hok (kk : Int) (bs ++ bitsOf kn 7 ++ bitsOf 0 1) (by omega)
    refine Eq.trans this ?_
    rw [show bitsOf 0 1 = [false] from rfl]
    simp only [List.append_assoc]
end Go.Sh
namespace Go.Sh
open Go Go.Proofs
def kindN (n : Nat) : Nat := if 256 < n then 7 else 6
def preBits (mode num n : Nat) : List Bool :=
  bitsOf 16382 14 ++ (bitsOf (kindN n) 6 ++ (bitsOf mode 8 ++ (bitsOf 0 4 ++ ((codeL num).flatMap (fun x => bitsOf x 8) ++ bitsOf (n - 1) (8 * (kindN n - 5))))))
def hdBits (mode num n : Nat) : List Bool := preBits mode num n ++ bitsOf (crc8 (pack (preBits mode num n))) 8
def chBits (ls : List (List Int)) (ds : List Int) : List Bool := (ls.zip ds).flatMap fun x => subBits x.1 x.2.toNat
def padded (bs : List Bool) : List Bool := bs ++ List.replicate (padN bs.length) false
def closed (bs : List Bool) : List Bool := padded bs ++ bitsOf (crc16 (pack (padded bs))) 16
def writeS (c d r n : Int) (ch : List (List Int)) : List Int × Int :=
  if checkS c d r n ch = 0 then (pack (closed (hdBits (layS ch).2.toNat n.toNat (ch.headD []).length ++ chBits (layS ch).1 (depthsS c d (layS ch).2))), 0) else ([], checkS c d r n ch)
theorem check_zero {c d r n : Int} {ch : List (List Int)} (h : checkS c d r n ch = 0) : (1 ≤ c ∧ c ≤ 2 ∧ 4 ≤ d ∧ d ≤ 24 ∧ 1 ≤ r ∧ r ≤ 655350) ∧ (0 ≤ n ∧ n ≤ 2147483647) ∧ (ch.length : Int) = c ∧
    (∀ l ∈ ch, l.length = (ch.headD []).length ∧ 1 ≤ l.length ∧ l.length ≤ 512) ∧ (∀ l ∈ ch, ∀ x ∈ l, sgn x d.toNat = true) := by
  unfold checkS at h
  split at h
  · omega
  · rename_i h1
    split at h
    · omega
    · rename_i h2
      split at h
      · omega
      · rename_i h3
        split at h
        · omega
        · rename_i h4
          refine ⟨of_decide_eq_true (by simpa [shapeB] using h1), by omega, by omega, ?_, ?_⟩
          · intro l hl
            have h3 : ch.all (lenOkB (ch.headD []).length) = true := by simpa using h3
            have := of_decide_eq_true (List.all_eq_true.1 h3 l hl)
            exact ⟨this.1, by omega, by omega⟩
          · intro l hl x hx
            have h4 : ch.all (fun l => l.all fun x => sgn x d.toNat) = true := by simpa using h4
            exact List.all_eq_true.1 (List.all_eq_true.1 h4 l hl) x hx
theorem sgn_small24 {x : Int} {d : Nat} (hd : d ≤ 24) (h : sgn x d = true) : small24 x := by
  unfold sgn at h
  unfold small24
  split at h
  · simp only [decide_eq_true_eq] at h; omega
  · rw [decide_eq_true_eq, pow_cast] at h
    have : 2 ^ (d - 1) ≤ 2 ^ 23 := Nat.pow_le_pow_right (by omega) (by omega)
    generalize 2 ^ (d - 1) = Q at h this
    omega
theorem sgn_side {l r : Int} {d : Nat} (h1 : 1 ≤ d) (hl : sgn l d = true) (hr : sgn r d = true) : sgn (l - r) (d + 1) = true ∧ sgn ((l + r) / 2) d = true := by
  unfold sgn at hl hr ⊢
  rw [if_neg (by omega), decide_eq_true_eq] at hl hr
  rw [if_neg (by omega), decide_eq_true_eq, if_neg (by omega), decide_eq_true_eq]
  have e : (2 : Int) ^ (d + 1 - 1) = 2 * 2 ^ (d - 1) := by
    rw [show d + 1 - 1 = (d - 1) + 1 by omega, Int.pow_succ, Int.mul_comm]
  rw [e]
  generalize (2 : Int) ^ (d - 1) = Q at hl hr ⊢
  omega
structure LayOk (n d : Nat) (ls : List (List Int)) (ds : List Int) : Prop where
  len : ls.length = ds.length
  two : ls.length = 1 ∨ ls.length = 2
  all : ∀ (i : Nat) (h1 : i < ls.length) (h2 : i < ds.length), ls[i].length = n ∧ (ds[i] = (d : Int) ∨ ds[i] = (d : Int) + 1) ∧ ∀ x ∈ ls[i], sgn x ds[i].toNat = true
theorem lay_ok {c d r n : Int} {ch : List (List Int)} (h : checkS c d r n ch = 0) : LayOk (ch.headD []).length d.toNat (layS ch).1 (depthsS c d (layS ch).2) ∧ (∃ m : Nat, (layS ch).2 = (m : Int) ∧ (m = 0 ∧ c = 1 ∨ c = 2 ∧ (m = 1 ∨ m = 8 ∨ m = 9 ∨ m = 10))) ∧ ((layS ch).1.headD []).length = (ch.headD []).length := by
  obtain ⟨hs, hn, hc, hlen, hsg⟩ := check_zero h
  obtain ⟨dn, rfl⟩ := Int.eq_ofNat_of_zero_le (show 0 ≤ d by omega)
  simp only [Int.toNat_natCast] at hsg ⊢
  match ch, hc, hlen, hsg with
  | [], hc, _, _ => simp at hc; omega
  | [l], hc, hlen, hsg =>
    have hc : c = 1 := by simp at hc; omega
    subst hc
    refine ⟨⟨rfl, .inl rfl, ?_⟩, ⟨0, rfl, .inl ⟨rfl, rfl⟩⟩, rfl⟩
    intro i h1 h2
    obtain rfl : i = 0 := by simp [layS] at h1; omega
    exact ⟨rfl, .inl rfl, hsg l (by simp)⟩
  | [l, r'], hc, hlen, hsg =>
    have hc : c = 2 := by simp at hc; omega
    subst hc
    have hr := (hlen r' (by simp)).1
    simp only [List.headD_cons] at hr
    have hsl := hsg l (by simp)
    have hsr := hsg r' (by simp)
    have hmd := chooseM_md l r'
    show LayOk _ _ [apartA (chooseM l r') l r', apartB (chooseM l r') l r'] (depthsS 2 dn (if chooseM l r' = 0 then 1 else chooseM l r')) ∧ _ ∧ _
    refine ⟨?_, ?_, (apart_len hr.symm).1⟩
    · have e : depthsS 2 (dn : Int) (if chooseM l r' = 0 then 1 else chooseM l r') = depthsS 2 dn (chooseM l r') := by
        rcases hmd with h | h | h | h <;> rw [h] <;> rfl
      rw [e]
      obtain ⟨la, lb⟩ := apart_len (m := chooseM l r') hr.symm
      have hz : ∀ x ∈ l.zip r', sgn x.1 dn = true ∧ sgn x.2 dn = true := fun x hx => ⟨hsl _ (List.of_mem_zip hx).1, hsr _ (List.of_mem_zip hx).2⟩
      generalize chooseM l r' = m at hmd la lb ⊢
      have hA : ∀ y ∈ apartA m l r', ∃ a b, y = apA m a b ∧ sgn a dn = true ∧ sgn b dn = true := by
        intro y hy
        obtain ⟨x, hx, rfl⟩ := List.mem_map.1 hy
        exact ⟨_, _, rfl, (hz x hx).1, (hz x hx).2⟩
      have hB : ∀ y ∈ apartB m l r', ∃ a b, y = apB m a b ∧ sgn a dn = true ∧ sgn b dn = true := by
        intro y hy
        obtain ⟨x, hx, rfl⟩ := List.mem_map.1 hy
        exact ⟨_, _, rfl, (hz x hx).1, (hz x hx).2⟩
      have hdn : 1 ≤ dn := by omega
      have eN : ((dn : Int) + 1).toNat = dn + 1 := by omega
      rcases hmd with rfl | rfl | rfl | rfl
      · refine ⟨rfl, .inr rfl, fun i h1 h2 => ?_⟩
        obtain rfl | rfl : i = 0 ∨ i = 1 := by simp at h1; omega
        · exact ⟨la, .inl rfl, fun y hy => by obtain ⟨a, b, rfl, ha, hb⟩ := hA y hy; simpa [apA, depthsS] using ha⟩
        · exact ⟨by simpa [hr] using lb, .inl rfl, fun y hy => by obtain ⟨a, b, rfl, ha, hb⟩ := hB y hy; simpa [apB, depthsS] using hb⟩
      · refine ⟨rfl, .inr rfl, fun i h1 h2 => ?_⟩
        obtain rfl | rfl : i = 0 ∨ i = 1 := by simp at h1; omega
        · exact ⟨la, .inl rfl, fun y hy => by obtain ⟨a, b, rfl, ha, hb⟩ := hA y hy; simpa [apA, depthsS] using ha⟩
        · exact ⟨by simpa [hr] using lb, .inr rfl, fun y hy => by obtain ⟨a, b, rfl, ha, hb⟩ := hB y hy; simpa [apB, depthsS, eN] using (sgn_side hdn ha hb).1⟩
      · refine ⟨rfl, .inr rfl, fun i h1 h2 => ?_⟩
        obtain rfl | rfl : i = 0 ∨ i = 1 := by simp at h1; omega
        · exact ⟨la, .inr rfl, fun y hy => by obtain ⟨a, b, rfl, ha, hb⟩ := hA y hy; simpa [apA, depthsS, eN] using (sgn_side hdn ha hb).1⟩
        · exact ⟨by simpa [hr] using lb, .inl rfl, fun y hy => by obtain ⟨a, b, rfl, ha, hb⟩ := hB y hy; simpa [apB, depthsS] using hb⟩
      · refine ⟨rfl, .inr rfl, fun i h1 h2 => ?_⟩
        obtain rfl | rfl : i = 0 ∨ i = 1 := by simp at h1; omega
        · exact ⟨la, .inl rfl, fun y hy => by obtain ⟨a, b, rfl, ha, hb⟩ := hA y hy; simpa [apA, depthsS] using (sgn_side hdn ha hb).2⟩
        · exact ⟨by simpa [hr] using lb, .inr rfl, fun y hy => by obtain ⟨a, b, rfl, ha, hb⟩ := hB y hy; simpa [apB, depthsS, eN] using (sgn_side hdn ha hb).1⟩
    · rcases hmd with h | h | h | h
      · exact ⟨1, by simp [layS, h], .inr ⟨rfl, by omega⟩⟩
      · exact ⟨8, by simp [layS, h], .inr ⟨rfl, by omega⟩⟩
      · exact ⟨9, by simp [layS, h], .inr ⟨rfl, by omega⟩⟩
      · exact ⟨10, by simp [layS, h], .inr ⟨rfl, by omega⟩⟩
  | _ :: _ :: _ :: _, hc, _, _ => simp at hc; omega
theorem conts_len : ∀ (i n : Nat), (conts n i).length = i
  | 0, _ => rfl
  | i + 1, n => by simp [conts, conts_len i]
theorem conts_lt : ∀ (i n : Nat), ∀ x ∈ conts n i, x < 256
  | 0, _, x, h => by simp [conts] at h
  | i + 1, n, x, h => by
    rcases List.mem_append.1 h with h | h
    · exact conts_lt i _ x h
    · simp at h; omega
theorem lenC_le (n : Nat) : 1 ≤ lenC n ∧ lenC n ≤ 7 := by
  unfold lenC
  repeat' split
  all_goals omega
theorem firstB_lt {k m : Nat} (hm : m < 64) : firstB k m < 256 := by
  unfold firstB
  exact Nat.or_lt_two_pow (n := 8) (Nat.mod_lt _ (by omega)) (by omega)
theorem codeL_len (n : Nat) : 1 ≤ (codeL n).length ∧ (codeL n).length ≤ 7 := by
  unfold codeL
  have := lenC_le n
  split
  · simp
  · simp only [List.length_cons, conts_len]; omega
theorem lenC_room {n : Nat} (h : n < 2 ^ 36) (h2 : 128 ≤ n) : 2 ≤ lenC n ∧ n < 2 ^ room (lenC n) := by
  obtain ⟨r2, r3, r4, r5, r6, r7⟩ := room_tab
  unfold lenC
  rw [if_neg (by omega)]
  repeat' split
  all_goals simp only [r2, r3, r4, r5, r6, r7]
  all_goals omega
theorem codeL_lt {n : Nat} (h : n < 2 ^ 36) : ∀ x ∈ codeL n, x < 256 := by
  intro x hx
  unfold codeL at hx
  split at hx
  · simp at hx; omega
  · rcases List.mem_cons.1 hx with rfl | hx
    · obtain ⟨h1, h2⟩ := lenC_room h (by omega)
      exact firstB_lt (head_small h1 (lenC_le n).2 h2)
    · exact conts_lt _ _ x hx
theorem flat8_len : ∀ l : List Nat, (l.flatMap fun x => bitsOf x 8).length = 8 * l.length
  | [] => rfl
  | a :: l => by rw [List.flatMap_cons, List.length_append, bitsOf_len, flat8_len l, List.length_cons]; omega
theorem preBits_len (mode num n : Nat) : (preBits mode num n).length = 32 + 8 * (codeL num).length + 8 * (kindN n - 5) := by
  unfold preBits
  simp only [List.length_append, bitsOf_len, flat8_len]
  omega
theorem kindN_or (n : Nat) : kindN n = 6 ∨ kindN n = 7 := by unfold kindN; split <;> omega
theorem intsL_get {l : List Nat} {i : Nat} (h : i < (intsL l).length) : (intsL l)[i] = ((l[i]'(by simpa [intsL] using h) : Nat) : Int) := by simp [intsL]
theorem intsL_len (l : List Nat) : (intsL l).length = l.length := by simp [intsL]
end Go.Sh
namespace Go.Sh
open Go Go.Proofs
theorem chBits_len {n d : Nat} {ls : List (List Int)} {ds : List Int} (h : LayOk n d ls ds) (hn : 1 ≤ n) (hn2 : n ≤ 512) (hd1 : 4 ≤ d) (hd2 : d ≤ 24) : (chBits ls ds).length ≤ 30000 := by
  have one : ∀ (i : Nat) (h1 : i < ls.length) (h2 : i < ds.length), (subBits ls[i] ds[i].toNat).length ≤ 13000 := by
    intro i h1 h2
    obtain ⟨a, b, c⟩ := h.all i h1 h2
    have hw := wasted_lt (d := ds[i].toNat) (by omega) c
    have := subBits_len (s := ls[i]) (by omega) (by omega) hw
    have hm : ls[i].length * ds[i].toNat ≤ 512 * 25 := Nat.mul_le_mul (by omega) (by omega)
    omega
  unfold chBits
  have hl := h.len
  rcases h.two with h2 | h2
  · match ls, ds, h2, hl, one with
    | [a], [x], _, _, one =>
      have := one 0 (by simp) (by simp)
      simp at this ⊢
      omega
  · match ls, ds, h2, hl, one with
    | [a, b], [x, y], _, _, one =>
      have h1 := one 0 (by simp) (by simp)
      have h2 := one 1 (by simp) (by simp)
      simp at h1 h2 ⊢
      omega
theorem f14_L2_spec (k : Nat) (hk : 100000 < k) {n d : Nat} {ls : List (List Int)} {ds : List Int} (h : LayOk n d ls ds) (hn : 1 ≤ n) (hn2 : n ≤ 512) (hd1 : 4 ≤ d) (hd2 : d ≤ 24) (bs : List Bool) (hb : bs.length ≤ 200) :
    f14_L2 k (Int.ofNat ds.length, (0 : Int), ds, ls, (bs.length : Int), pack bs) = some ((pack (closed (bs ++ chBits ls ds)), 0, ()), ()) := by
  have hdl : ds.length ≤ 2 := by have := h.len; have := h.two; omega
  have hall : (bs ++ chBits ls ds).length ≤ 30200 := by have := chBits_len h hn hn2 hd1 hd2; rw [List.length_append]; omega
  have hpart : ∀ i, (bs ++ ((ls.zip ds).take i).flatMap (fun x => subBits x.1 x.2.toNat)).length ≤ 30200 := by
    intro i
    refine Nat.le_trans ?_ hall
    unfold chBits
    conv => rhs; rw [← List.take_append_drop i (ls.zip ds), List.flatMap_append]
    simp only [List.length_append]
    omega
  have hzl : (ls.zip ds).length = ds.length := by rw [List.length_zip]; have := h.len; omega
  have hend : ∀ L, f14_raw2 k L (Int.ofNat ds.length, Int.ofNat ds.length, ds, ls, (((bs ++ chBits ls ds).length : Nat) : Int), pack (bs ++ chBits ls ds)) = some ((pack (closed (bs ++ chBits ls ds)), 0, ()), ()) := by
    intro L
    generalize bs ++ chBits ls ds = B at hall
    simp only [f14_raw2]
    rw [cneg (nltR _)]
    have hp : padN B.length < 8 := by unfold padN; omega
    have hpl : (padded B).length ≤ 30210 := by unfold padded; rw [List.length_append, List.length_replicate]; omega
    refine (bind_of (f32_spec k B (by omega)) _).trans ?_
    refine (bind_of (f29_spec k (padded B) (by omega)) _).trans ?_
    have hb16 := pack_bytes (padded B)
    have hpk : (pack (padded B)).length ≤ 4000 := by rw [pack_len]; omega
    refine (bind_of (f33_spec k (pack (padded B)) hb16 (by omega) (by omega)) _).trans ?_
    refine (bind_of (f26_spec k (padded B) (crc16 (pack (padded B))) 16 (by omega) (by omega) (crc16_lt hb16) (by omega)) _).trans ?_
    have hcl : (closed B).length ≤ 30300 := by unfold closed; rw [List.length_append, bitsOf_len]; omega
    refine (bind_of (f29_spec k (closed B) (by omega)) _).trans ?_
    rfl
  have := iter_list_inv (A := List Bool) (R := (List Int × Int × Unit) × Unit) (step := fun L2 => f14_raw2 k L2)
    (fun i a => (Int.ofNat ds.length, Int.ofNat i, ds, ls, (a.length : Int), pack a)) (ls.zip ds)
    (fun l' a => some ((pack (closed (a ++ l'.flatMap fun x => subBits x.1 x.2.toNat)), 0, ()), ()))
    (fun i a => a = bs ++ ((ls.zip ds).take i).flatMap (fun x => subBits x.1 x.2.toNat))
    (fun L a ha => by
      rw [List.take_length] at ha
      have := hend L
      unfold chBits at this
      rw [← ha] at this
      rw [hzl, List.flatMap_nil, List.append_nil]
      exact this)
    (fun L i hi a ha hL => by
      have h1 : i < ls.length := by have := h.len; omega
      have h2 : i < ds.length := by omega
      obtain ⟨o1, o2, o3⟩ := h.all i h1 h2
      have hal : a.length ≤ 30200 := by rw [ha]; exact hpart i
      simp only [f14_raw2]
      rw [cpos (ltR h2), cpos (inR h2), cpos (inR h1), getD_at h1, getD_at h2]
      have hds : ds[i] = ((ds[i].toNat : Nat) : Int) := by omega
      have hsc : scheckS ls[i] ((ds[i].toNat : Nat) : Int) = 0 := scheck_zero.2 ⟨by omega, o3⟩
      have e := f31_spec k (by omega) hsc a (by omega)
      rw [← hds] at e
      refine (bind_of e _).trans ?_
      have hzi : (ls.zip ds)[i] = (ls[i], ds[i]) := by rw [List.getElem_zip]
      have hnext : a ++ subBits ls[i] ds[i].toNat = bs ++ ((ls.zip ds).take (i + 1)).flatMap (fun x => subBits x.1 x.2.toNat) := by
        rw [ha, List.take_add_one, List.getElem?_eq_getElem hi, hzi, List.flatMap_append]
        simp
      have := hL (a ++ subBits ls[i] ds[i].toNat) hnext
      show L (Int.ofNat ds.length, IntKind.i64.wrap (Int.ofNat i + 1), ds, ls, (((a ++ subBits ls[i] ds[i].toNat).length : Nat) : Int), pack (a ++ subBits ls[i] ds[i].toNat)) = _
      rw [wnext h2 (by omega), this, hzi, List.flatMap_cons, List.append_assoc])
    k 0 bs (by simp) (by omega) (Nat.zero_le _)
  rw [List.drop_zero] at this
  exact this
theorem f14_L1_spec (k : Nat) (hk : 100000 < k) {c d r : Int} {mode num n dn : Nat} (hnum : num < 2 ^ 31) (hd : d = (dn : Int)) {ls : List (List Int)} (hc : c = 1 ∧ mode = 0 ∨ c = 2) (hn : 1 ≤ n) (hn2 : n ≤ 512) (hd1 : 4 ≤ dn) (hd2 : dn ≤ 24)
    (h : LayOk n dn ls (depthsS c d (mode : Int))) (bs : List Bool) (hb : bs = bitsOf 16382 14 ++ (bitsOf (kindN n) 6 ++ (bitsOf mode 8 ++ bitsOf 0 4))) :
    f14_L1 k (Int.ofNat (intsL (codeL num)).length, (0 : Int), intsL (codeL num), (n : Int), ((kindN n : Nat) : Int), (mode : Int), ls, (bs.length : Int), pack bs, c, d, r) =
      some ((pack (closed (hdBits mode num n ++ chBits ls (depthsS c d (mode : Int)))), 0, ()), ()) := by
  have hbl : bs.length = 32 := by rw [hb]; simp only [List.length_append, bitsOf_len]
  have hcl := codeL_len num
  have hlt := codeL_lt (n := num) (by omega)
  have hkn := kindN_or n
  have := iter_list_inv (A := List Bool) (R := (List Int × Int × Unit) × Unit) (step := fun L1 => f14_raw1 k (f14_L2 k) L1)
    (fun i a => (Int.ofNat (intsL (codeL num)).length, Int.ofNat i, intsL (codeL num), (n : Int), ((kindN n : Nat) : Int), (mode : Int), ls, (a.length : Int), pack a, c, d, r)) (codeL num)
    (fun l' a => f14_raw1 k (f14_L2 k) (fun _ => none) (Int.ofNat (codeL num).length, Int.ofNat (codeL num).length, intsL (codeL num), (n : Int), ((kindN n : Nat) : Int), (mode : Int), ls, (((a ++ l'.flatMap fun x => bitsOf x 8).length : Nat) : Int), pack (a ++ l'.flatMap fun x => bitsOf x 8), c, d, r))
    (fun i a => a.length ≤ 32 + 8 * i)
    (fun L a ha => by
      rw [intsL_len]
      simp only [f14_raw1]
      rw [cneg (nltR _), cneg (nltR _)]
      simp)
    (fun L i hi a ha hL => by
      have hi2 : i < (intsL (codeL num)).length := by rw [intsL_len]; exact hi
      have key : f14_raw1 k (f14_L2 k) L (Int.ofNat (intsL (codeL num)).length, Int.ofNat i, intsL (codeL num), (n : Int), ((kindN n : Nat) : Int), (mode : Int), ls, (a.length : Int), pack a, c, d, r) =
          L (Int.ofNat (intsL (codeL num)).length, Int.ofNat (i + 1), intsL (codeL num), (n : Int), ((kindN n : Nat) : Int), (mode : Int), ls, (((a ++ bitsOf (codeL num)[i] 8).length : Nat) : Int), pack (a ++ bitsOf (codeL num)[i] 8), c, d, r) := by
        simp only [f14_raw1]
        rw [cpos (ltR hi2), cpos (inR hi2), getD_at hi2, intsL_get hi2]
        have hx := hlt _ (List.getElem_mem hi)
        have hil := intsL_len (codeL num)
        rw [w64 (by omega)]
        refine (bind_of (f26_spec k a (codeL num)[i] 8 (by omega) (by omega) (by omega) (by omega)) _).trans ?_
        rw [wnext hi2 (by omega)]
      rw [key, hL _ (by rw [List.length_append, bitsOf_len]; omega), List.flatMap_cons, List.append_assoc])
    k 0 bs (by omega) (by omega) (Nat.zero_le _)
  rw [List.drop_zero] at this
  refine Eq.trans this ?_
  have hpre : bs ++ (codeL num).flatMap (fun x => bitsOf x 8) ++ bitsOf (n - 1) (8 * (kindN n - 5)) = preBits mode num n := by
    rw [hb]
    unfold preBits
    simp only [List.append_assoc]
  have hprel := preBits_len mode num n
  have hB : (bs ++ (codeL num).flatMap (fun x => bitsOf x 8)).length ≤ 100 := by rw [List.length_append, flat8_len]; omega
  generalize bs ++ (codeL num).flatMap (fun x => bitsOf x 8) = B at hpre hB
  simp only [f14_raw1]
  rw [cneg (nltR _)]
  have e1 : IntKind.i64.wrap ((n : Int) - 1) = ((n - 1 : Nat) : Int) := by rw [w64 (by omega)]; omega
  have e2 : IntKind.i64.wrap ((8 : Int) * IntKind.i64.wrap (IntKind.i64.wrap (((kindN n : Nat) : Int) - (6 : Int)) + (1 : Int))) = ((8 * (kindN n - 5) : Nat) : Int) := by
    rcases hkn with h | h <;> rw [h] <;> rfl
  have hw : n - 1 < 2 ^ (8 * (kindN n - 5)) := by
    unfold kindN
    split
    · show n - 1 < 2 ^ 16; omega
    · show n - 1 < 2 ^ 8; omega
  rw [e1, e2]
  refine (bind_of (f26_spec k B (n - 1) (8 * (kindN n - 5)) (by omega) (by omega) hw (by omega)) _).trans ?_
  rw [hpre]
  refine (bind_of (f29_spec k (preBits mode num n) (by omega)) _).trans ?_
  have hb8 := pack_bytes (preBits mode num n)
  refine (bind_of (f28_spec k (pack (preBits mode num n)) hb8 (by rw [pack_len]; omega) (by rw [pack_len]; omega)) _).trans ?_
  refine (bind_of (f26_spec k (preBits mode num n) (crc8 (pack (preBits mode num n))) 8 (by omega) (by omega) (crc8_lt hb8) (by omega)) _).trans ?_
  refine (bind_of (f30_spec k (c := c) (d := d) (r := r) (m := (mode : Int)) (by omega) (by omega)) _).trans ?_
  exact f14_L2_spec k hk h hn hn2 hd1 hd2 (hdBits mode num n) (by unfold hdBits; rw [List.length_append, bitsOf_len]; omega)
theorem f14_spec (k : Nat) (hk : 100000 < k) (c d r n : Int) (ch : List (List Int)) : f14_F k ((c, d, r, ()), (n, ch, ()), ()) = some (((writeS c d r n ch).1, (writeS c d r n ch).2, ()), ()) := by
  show f14_raw0 k (f14_L1 k) _ = _
  simp only [f14_raw0]
  rw [f23_spec k c d r n ch (by omega)]
  simp only [Option.bind_some]
  unfold writeS
  rw [int_bne]
  by_cases h : checkS c d r n ch = 0
  · rw [cneg (by simpa using h), if_pos h]
    obtain ⟨hs, hn, hc, hlen, hsg⟩ := check_zero h
    obtain ⟨hlay, ⟨mode, hm, hmc⟩, hn0⟩ := lay_ok h
    have hch : ch.length = 1 ∨ (∃ L R, ch = [L, R] ∧ L.length = R.length ∧ L.length ≤ 8192 ∧ (∀ x ∈ L, small24 x) ∧ ∀ x ∈ R, small24 x) := by
      match ch, hc, hlen, hsg with
      | [], hc, _, _ => simp at hc; omega
      | [_], _, _, _ => exact .inl rfl
      | [l, r'], _, hlen, hsg =>
        refine .inr ⟨l, r', rfl, ?_, ?_, ?_, ?_⟩
        · have := (hlen r' (by simp)).1; simpa using this.symm
        · have := (hlen l (by simp)).2.2; omega
        · exact fun x hx => sgn_small24 (by omega) (hsg l (by simp) x hx)
        · exact fun x hx => sgn_small24 (by omega) (hsg r' (by simp) x hx)
      | _ :: _ :: _ :: _, hc, _, _ => simp at hc; omega
    refine (bind_of (f24_spec k n ch (by omega) hch) _).trans ?_
    rw [show ((0 : Int) != 0) = false from rfl]
    simp only [cond_false]
    have hbig : ∃ l0, (layS ch).1.getD 0 [] = l0 ∧ l0.length = (ch.headD []).length ∧ 0 < (layS ch).1.length := by
      have := hlay.two
      match hh : (layS ch).1, this with
      | [], h => simp at h
      | l :: ls, _ => rw [hh] at hn0; exact ⟨l, rfl, hn0, by simp⟩
    obtain ⟨l0, hl0, hl0n, hpos⟩ := hbig
    rw [cpos (by simp only [Int.ofNat_eq_natCast]; omega), hl0, hl0n]
    have hn1 : 1 ≤ (ch.headD []).length ∧ (ch.headD []).length ≤ 512 := by
      obtain ⟨a, b, c⟩ := hlay.all 0 hpos (by rw [← hlay.len]; exact hpos)
      have : 0 < ch.length := by omega
      match ch, this with
      | l :: _, _ => exact (hlen l (by simp)).2
    rw [hm] at hlay ⊢
    obtain ⟨num, hnum⟩ := Int.eq_ofNat_of_zero_le hn.1
    obtain ⟨dn, hdn⟩ := Int.eq_ofNat_of_zero_le (show 0 ≤ d by omega)
    subst hnum
    rw [Int.toNat_natCast, Int.toNat_natCast]
    have hdt : d.toNat = dn := by omega
    rw [hdt] at hlay
    have hmode : mode < 2 ^ 8 := by omega
    have e14 : (16382 : Int) = ((16382 : Nat) : Int) := rfl
    generalize hN : (ch.headD []).length = N at hn1 hlay
    have l1 : (([] : List Bool) ++ bitsOf 16382 14).length = 14 := by rw [List.length_append, bitsOf_len]; rfl
    have fin : ∀ kd : Nat, kd = kindN N → ((f25_F k ()).bind fun y_1 => (f26_F k ((y_1.1.1, y_1.1.2.1, ()), 16382, 14, ())).bind fun y_2 => (f26_F k ((y_2.2.1.1, y_2.2.1.2.1, ()), (kd : Int), 6, ())).bind fun y_3 => (f26_F k ((y_3.2.1.1, y_3.2.1.2.1, ()), (mode : Int), 8, ())).bind fun y_4 => (f26_F k ((y_4.2.1.1, y_4.2.1.2.1, ()), 0, 4, ())).bind fun y_5 => (f27_F k ((num : Int), ())).bind fun y_6 => bif y_6.1.2.1 != (0 : Int) then some (([], y_6.1.2.1, ()), ()) else f14_L1 k (Int.ofNat (List.length y_6.1.1), (0 : Int), y_6.1.1, (N : Int), (kd : Int), (mode : Int), (layS ch).1, y_5.2.1.2.1, y_5.2.1.1, c, d, r)) =
        some ((pack (closed (hdBits mode num N ++ chBits (layS ch).1 (depthsS c d (mode : Int)))), 0, ()), ()) := by
      rintro kd rfl
      have hkn := kindN_or N
      refine (bind_of (f25_spec k) _).trans ?_
      refine (bind_of (f26_spec k [] 16382 14 (by omega) (by omega) (by omega) (by simp)) _).trans ?_
      refine (bind_of (f26_spec k ([] ++ bitsOf 16382 14) (kindN N) 6 (by omega) (by omega) (by omega) (by omega)) _).trans ?_
      have l2 : ([] ++ bitsOf 16382 14 ++ bitsOf (kindN N) 6).length = 20 := by rw [List.length_append, l1, bitsOf_len]
      refine (bind_of (f26_spec k ([] ++ bitsOf 16382 14 ++ bitsOf (kindN N) 6) mode 8 (by omega) (by omega) hmode (by omega)) _).trans ?_
      have l3 : ([] ++ bitsOf 16382 14 ++ bitsOf (kindN N) 6 ++ bitsOf mode 8).length = 28 := by rw [List.length_append, l2, bitsOf_len]
      refine (bind_of (f26_spec k ([] ++ bitsOf 16382 14 ++ bitsOf (kindN N) 6 ++ bitsOf mode 8) 0 4 (by omega) (by omega) (by omega) (by omega)) _).trans ?_
      refine (bind_of (f27_spec k (by omega) (n := num) (by omega)) _).trans ?_
      exact f14_L1_spec k hk (by omega) hdn (hmc.elim (fun h => .inl ⟨h.2, h.1⟩) (fun h => .inr h.1)) hn1.1 hn1.2 (by omega) (by omega) hlay _ (by simp only [List.nil_append, List.append_assoc])
    by_cases h256 : 256 < N
    · rw [cpos (by simp only [Int.ofNat_eq_natCast]; omega)]
      exact fin 7 (by unfold kindN; rw [if_pos h256])
    · rw [cneg (by simp only [Int.ofNat_eq_natCast]; omega)]
      exact fin 6 (by unfold kindN; rw [if_neg h256])
  · rw [cpos h, if_neg h]
end Go.Sh
namespace Go.Sh
open Go Go.Proofs
def bitsL (b : List Int) : List Bool := b.flatMap fun x => bitsOf x.toNat 8
theorem bitsL_len : ∀ b : List Int, (bitsL b).length = 8 * b.length
  | [] => rfl
  | a :: b => by
    have := bitsL_len b
    unfold bitsL at this ⊢
    rw [List.flatMap_cons, List.length_append, bitsOf_len, this, List.length_cons]; omega
theorem bitsL_cons (a : Int) (b : List Int) : bitsL (a :: b) = bitsOf a.toNat 8 ++ bitsL b := by unfold bitsL; rw [List.flatMap_cons]
theorem bitsL_drop : ∀ (b : List Int) (i : Nat), (bitsL b).drop (8 * i) = bitsL (b.drop i)
  | b, 0 => rfl
  | [], i + 1 => by simp [bitsL]
  | a :: b, i + 1 => by
    rw [List.drop_succ_cons, bitsL_cons, List.drop_append, bitsOf_len, List.drop_eq_nil_of_le (by rw [bitsOf_len]; omega), List.nil_append, show 8 * (i + 1) - 8 = 8 * i by omega]
    exact bitsL_drop b i
theorem bitsOf_get (n : Nat) : ∀ (w i : Nat) (h : i < (bitsOf n w).length), (bitsOf n w)[i] = n.testBit (w - 1 - i)
  | w + 1, 0, _ => by simp [bitsOf]
  | w + 1, i + 1, h => by
    simp only [bitsOf, List.getElem_cons_succ]
    rw [bitsOf_get n w i (by simpa [bitsOf] using h)]
    congr 1
    omega
theorem bitsL_get {b : List Int} {i : Nat} (h : i < 8 * b.length) : (bitsL b)[i]'(by rw [bitsL_len]; exact h) = (b[i / 8]'(by omega)).toNat.testBit (7 - i % 8) := by
  have h1 : i / 8 < b.length := by omega
  have h2 : (bitsL b)[i]'(by rw [bitsL_len]; exact h) = (bitsL (b.drop (i / 8)))[i % 8]'(by rw [bitsL_len, List.length_drop]; omega) := by
    simp only [← bitsL_drop, List.getElem_drop]
    congr 1
    omega
  rw [h2]
  have h3 : b.drop (i / 8) = b[i / 8] :: b.drop (i / 8 + 1) := List.drop_eq_getElem_cons h1
  simp only [h3, bitsL_cons]
  rw [List.getElem_append_left (by rw [bitsOf_len]; omega), bitsOf_get]
def posR (b : List Int) (r : List Bool) : Nat := 8 * b.length - r.length
abbrev rst (b : List Int) (r : List Bool) : List Int × Int × Unit := (b, ((posR b r : Nat) : Int), ())
def IsRest (b : List Int) (r : List Bool) : Prop := r <:+ bitsL b
theorem IsRest.len {b : List Int} {r : List Bool} (h : IsRest b r) : r.length ≤ 8 * b.length := by
  have := h.length_le
  rwa [bitsL_len] at this
theorem IsRest.eq {b : List Int} {r : List Bool} (h : IsRest b r) : r = (bitsL b).drop (posR b r) := by
  have := List.suffix_iff_eq_drop.1 h
  unfold posR
  rwa [bitsL_len] at this
theorem IsRest.drop {b : List Int} {r : List Bool} (h : IsRest b r) (i : Nat) : IsRest b (r.drop i) := (List.drop_suffix i r).trans h
theorem IsRest.get {b : List Int} {r : List Bool} (h : IsRest b r) {i : Nat} (hi : i < r.length) : (bitsL b)[posR b r + i]'(by have := h.len; rw [bitsL_len]; unfold posR; omega) = r[i] := by
  have := h.eq
  have h2 : r[i] = ((bitsL b).drop (posR b r))[i]'(by rw [← this]; exact hi) := by congr 1
  rw [h2, List.getElem_drop]
theorem posR_drop {b : List Int} {r : List Bool} (h : IsRest b r) {i : Nat} (hi : i ≤ r.length) : posR b (r.drop i) = posR b r + i := by
  have := h.len
  unfold posR
  rw [List.length_drop]
  omega
theorem rest_all (b : List Int) : IsRest b (bitsL b) := List.suffix_refl _
theorem bit90 (v : Fin 256) (r : Fin 8) : IntKind.i64.wrap (Int.ofNat (BitVec.ofInt 64 (IntKind.i64.wrap (Int.fdiv (v.val : Int) ((2 : Int) ^ min (7 - r.val) 8))) &&& BitVec.ofInt 64 1).toNat) = if v.val.testBit (7 - r.val) then 1 else 0 := by
  revert v r
  decide +kernel
theorem f90_spec (k : Nat) {b : List Int} (hb : bytesN b = true) (hn : b.length < 536870912) (at_ : Int) {i : Nat} (hi : i < 8 * b.length) :
    f90_F k ((b, at_, ()), (i : Int), ()) = some (if (bitsL b)[i]'(by rw [bitsL_len]; exact hi) then 1 else 0, (b, at_, ()), ()) := by
  show f90_raw0 k _ = _
  simp only [f90_raw0]
  rw [tdiv8, tmod8, w64 (n := ((i / 8 : Nat) : Int)) (by omega)]
  have h1 : i / 8 < b.length := by omega
  rw [cpos (by simp only [Int.ofNat_eq_natCast]; omega)]
  have e1 : IntKind.i64.wrap ((7 : Int) - ((i % 8 : Nat) : Int)) = ((7 - i % 8 : Nat) : Int) := by rw [w64 (by omega)]; omega
  rw [e1, cpos (by omega), bitsL_get hi]
  obtain ⟨x, hx, hxe⟩ := bytesN_get hb h1
  have hg : b.getD (((i / 8 : Nat) : Int)).toNat 0 = (x : Int) := by rw [Int.toNat_natCast, getD_of h1, hxe]
  rw [hg, hxe, Int.toNat_natCast, Int.toNat_natCast]
  have := bit90 ⟨x, hx⟩ ⟨i % 8, Nat.mod_lt _ (by omega)⟩
  simp only at this
  rw [this]
def bitVal (l : List Bool) : Nat := l.foldl (fun a b => 2 * a + b.toNat) 0
theorem bitVal_from : ∀ (l : List Bool) (a : Nat), l.foldl (fun a b => 2 * a + b.toNat) a = a * 2 ^ l.length + bitVal l
  | [], a => by simp [bitVal]
  | x :: l, a => by
    unfold bitVal
    rw [List.foldl_cons, List.foldl_cons, bitVal_from l (2 * a + x.toNat), bitVal_from l (2 * 0 + x.toNat), List.length_cons, Nat.pow_succ]
    rw [Nat.add_mul, Nat.mul_zero, Nat.zero_add, Nat.mul_comm 2 a, Nat.mul_assoc a 2, Nat.mul_comm 2 (2 ^ _)]
    omega
theorem bitVal_lt : ∀ (l : List Bool), bitVal l < 2 ^ l.length
  | [] => by simp [bitVal]
  | x :: l => by
    have := bitVal_lt l
    unfold bitVal
    rw [List.foldl_cons, bitVal_from, List.length_cons, Nat.pow_succ]
    cases x <;> simp <;> omega
def getS (w : Nat) (r : List Bool) : Nat × Int × List Bool := if w ≤ r.length then (bitVal (r.take w), 0, r.drop w) else (0, 10, r)
theorem getS_rest {b : List Int} {r : List Bool} (h : IsRest b r) (w : Nat) : IsRest b (getS w r).2.2 := by
  unfold getS
  split
  · exact h.drop w
  · exact h
theorem getS_lt (w : Nat) (r : List Bool) : (getS w r).1 < 2 ^ w := by
  unfold getS
  split
  · rename_i h
    have := bitVal_lt (r.take w)
    rwa [List.length_take, Nat.min_eq_left h] at this
  · exact Nat.pow_pos (by omega)
theorem f126_loop (k : Nat) {b : List Int} (hb : bytesN b = true) (hn : b.length < 536870912) : ∀ (w m i v : Nat) (r : List Bool), IsRest b r → w ≤ r.length → w < m → i + w ≤ 32 → v < 2 ^ i →
    iter (fun L1 => f126_raw1 k L1) m (((i + w : Nat) : Int), (i : Int), (v : Int), b, ((posR b r : Nat) : Int)) = some (((((r.take w).foldl (fun a b => 2 * a + b.toNat) v : Nat) : Int), 0, ()), rst b (r.drop w), ()) := by
  intro w
  induction w with
  | zero =>
    intro m i v r hr hw hm hi hv
    obtain ⟨m, rfl⟩ := pos_of_lt hm
    rw [iter_succ]
    simp only [f126_raw1]
    rw [cneg (by omega)]
    simp
  | succ w ih =>
    intro m i v r hr hw hm hi hv
    obtain ⟨m, rfl⟩ := pos_of_lt (show 0 < m by omega)
    rw [iter_succ]
    simp only [f126_raw1]
    have hl := hr.len
    have hp : posR b r < 8 * b.length := by unfold posR; omega
    rw [cpos (by omega), f90_spec k hb hn _ hp]
    simp only [Option.bind_some]
    have hg := hr.get (i := 0) (by omega)
    simp only [Nat.add_zero] at hg
    rw [hg]
    have hv2 : v < 2 ^ 32 := Nat.lt_of_lt_of_le hv (Nat.pow_le_pow_right (by omega) (by omega))
    have hcons : r = r[0] :: r.drop 1 := by
      have := List.drop_eq_getElem_cons (l := r) (i := 0) (by omega)
      rwa [List.drop_zero] at this
    have e1 : IntKind.i64.wrap (Int.ofNat (BitVec.ofInt 64 (IntKind.i64.wrap ((v : Int) * 2)) ||| BitVec.ofInt 64 (if r[0] = true then 1 else 0)).toNat) = ((2 * v + r[0].toNat : Nat) : Int) := by
      have h1 : IntKind.i64.wrap ((v : Int) * 2) = ((v * 2 : Nat) : Int) := by rw [w64 (by omega)]; omega
      have h2 : (if r[0] = true then (1 : Int) else 0) = ((r[0].toNat : Nat) : Int) := by cases r[0] <;> rfl
      have hb1 : r[0].toNat < 2 ^ 1 := by cases r[0] <;> decide
      rw [h1, h2, orN (by omega) (by omega)]
      have := Nat.shiftLeft_add_eq_or_of_lt hb1 v
      rw [Nat.shiftLeft_eq] at this
      rw [show v * 2 = v * 2 ^ 1 from rfl, ← this, w64 (by omega)]
      omega
    rw [e1]
    have e2 : IntKind.i64.wrap ((i : Int) + 1) = ((i + 1 : Nat) : Int) := by rw [w64 (by omega)]; rfl
    have e3 : IntKind.i64.wrap (((posR b r : Nat) : Int) + 1) = ((posR b (r.drop 1) : Nat) : Int) := by
      rw [posR_drop hr (by omega), w64 (by omega)]; rfl
    rw [e2, e3]
    have hp2 : 2 * v + r[0].toNat < 2 ^ (i + 1) := by
      rw [Nat.pow_succ]
      cases r[0] <;> simp <;> omega
    have := ih m (i + 1) (2 * v + r[0].toNat) (r.drop 1) (hr.drop 1) (by rw [List.length_drop]; omega) (by omega) (by omega) hp2
    rw [show i + 1 + w = i + (w + 1) by omega] at this
    rw [this]
    have e4 : (r.drop 1).drop w = r.drop (w + 1) := by rw [List.drop_drop]; congr 1; omega
    have e5 : r.take (w + 1) = r[0] :: (r.drop 1).take w := by
      conv => lhs; rw [hcons]
      rfl
    rw [e4, e5, List.foldl_cons]
theorem f126_spec (k : Nat) {b : List Int} (hb : bytesN b = true) (hn : b.length < 536870912) {r : List Bool} (hr : IsRest b r) {w : Nat} (hw : w ≤ 32) (hk : 100 < k) :
    f126_F k (rst b r, (w : Int), ()) = some (((((getS w r).1 : Nat) : Int), (getS w r).2.1, ()), rst b (getS w r).2.2, ()) := by
  show f126_raw0 k (f126_L1 k) _ = _
  simp only [f126_raw0]
  rw [f62_spec k w hw]
  simp only [Option.bind_some, cond_false]
  have hl := hr.len
  have e1 : f167_F k ((b, ((posR b r : Nat) : Int), ()), ()) = some ((r.length : Int), (b, ((posR b r : Nat) : Int), ()), ()) := by
    show f167_raw0 k _ = _
    simp only [f167_raw0]
    have : IntKind.i64.wrap (IntKind.i64.wrap ((8 : Int) * Int.ofNat b.length) - ((posR b r : Nat) : Int)) = (r.length : Int) := by
      unfold posR
      simp only [Int.ofNat_eq_natCast]
      rw [w64 (n := (8 : Int) * (b.length : Int)) (by omega), w64 (by omega)]
      omega
    rw [this]
  rw [e1]
  simp only [Option.bind_some]
  unfold getS
  by_cases h : w ≤ r.length
  · rw [cneg (by omega), if_pos h]
    have := f126_loop k hb hn w k 0 0 r hr h (by omega) (by omega) (by simp)
    rw [Nat.zero_add] at this
    exact this
  · rw [cpos (by omega), if_neg h]
    rfl
def sgnV (w v : Nat) : Int := if 0 < w ∧ 2 ^ (w - 1) ≤ v then (v : Int) - 2 ^ w else v
def getSg (w : Nat) (r : List Bool) : Int × Int × List Bool := if w ≤ r.length then (sgnV w (bitVal (r.take w)), 0, r.drop w) else (0, 10, r)
theorem getSg_rest {b : List Int} {r : List Bool} (h : IsRest b r) (w : Nat) : IsRest b (getSg w r).2.2 := by
  unfold getSg
  split
  · exact h.drop w
  · exact h
theorem f170_spec (k : Nat) {b : List Int} (hb : bytesN b = true) (hn : b.length < 536870912) {r : List Bool} (hr : IsRest b r) {w : Nat} (hw : w ≤ 32) (hk : 100 < k) :
    f170_F k (rst b r, (w : Int), ()) = some (((getSg w r).1, (getSg w r).2.1, ()), rst b (getSg w r).2.2, ()) := by
  show f170_raw0 k _ = _
  simp only [f170_raw0]
  rw [f126_spec k hb hn hr hw hk]
  simp only [Option.bind_some]
  unfold getS getSg
  by_cases h : w ≤ r.length
  · rw [if_pos h, if_pos h]
    simp only
    rw [show ((0 : Int) == 0) = true from rfl]
    simp only [cond_true]
    have hlt := bitVal_lt (r.take w)
    rw [List.length_take, Nat.min_eq_left h] at hlt
    generalize bitVal (r.take w) = v at hlt
    unfold sgnV
    by_cases h0 : 0 < w
    · have e1 : IntKind.i64.wrap ((w : Int) - 1) = ((w - 1 : Nat) : Int) := by rw [w64 (by omega)]; omega
      rw [cpos (by omega), e1, cpos (by omega), Int.toNat_natCast, Nat.min_eq_left (by omega), fdivP, int_beq]
      have hpw : 2 ^ w = 2 * 2 ^ (w - 1) := by rw [show w = (w - 1) + 1 by omega, Nat.pow_succ, Nat.add_sub_cancel]; omega
      have hq : v / 2 ^ (w - 1) = if 2 ^ (w - 1) ≤ v then 1 else 0 := by
        split
        · rename_i hle
          rw [Nat.div_eq_iff (Nat.pow_pos (by omega))]
          omega
        · rename_i hle
          exact Nat.div_eq_of_lt (by omega)
      rw [hq]
      have h32 : 2 ^ w ≤ 2 ^ 32 := Nat.pow_le_pow_right (by omega) hw
      by_cases hle : 2 ^ (w - 1) ≤ v
      · rw [if_pos hle, cpos (show ((1 : Nat) : Int) = 1 from rfl), if_pos ⟨h0, hle⟩, cpos (by omega), Nat.min_eq_left (by omega : ((w : Int)).toNat ≤ 64), Int.toNat_natCast, Int.one_mul, pow_cast]
        generalize 2 ^ w = Q at h32 hlt ⊢
        rw [w64 (n := (Q : Int)) (by omega), w64 (by omega)]
      · rw [if_neg hle, cneg (by omega), if_neg (by omega)]
    · rw [cneg (by omega), if_neg (by omega)]
  · rw [if_neg h, if_neg h]
    rfl
end Go.Sh
namespace Go.Sh
open Go Go.Proofs
def unAux : Nat → List Bool → Option (Nat × List Bool)
  | _, [] => none
  | n, true :: r => some (n, r)
  | n, false :: r => unAux (n + 1) r
def unS (r : List Bool) : Nat × Int × List Bool := match unAux 0 r with
  | some (n, r') => (n, 0, r')
  | none => (0, 10, r)
theorem unAux_suffix : ∀ (r : List Bool) (n m : Nat) (r' : List Bool), unAux n r = some (m, r') → r' <:+ r ∧ m + 1 + r'.length = n + r.length
  | true :: r, n, m, r', h => by
    simp only [unAux, Option.some.injEq, Prod.mk.injEq] at h
    obtain ⟨rfl, rfl⟩ := h
    exact ⟨List.suffix_cons _ _, by simp; omega⟩
  | false :: r, n, m, r', h => by
    obtain ⟨h1, h2⟩ := unAux_suffix r (n + 1) m r' h
    exact ⟨h1.trans (List.suffix_cons _ _), by simp; omega⟩
theorem unS_rest {b : List Int} {r : List Bool} (h : IsRest b r) : IsRest b (unS r).2.2 := by
  unfold unS
  split
  · rename_i n r' hu
    exact (unAux_suffix r 0 n r' hu).1.trans h
  · exact h
theorem unS_le {r : List Bool} : (unS r).1 ≤ r.length := by
  unfold unS
  split
  · rename_i n r' hu
    have := (unAux_suffix r 0 n r' hu).2
    simp only
    omega
  · exact Nat.zero_le _
theorem f131_loop (k : Nat) {b : List Int} (hb : bytesN b = true) (hn : b.length < 536870912) {r0 : List Bool} (hr0 : IsRest b r0) : ∀ (r : List Bool) (m n : Nat), IsRest b r → r.length < m → n + r.length = r0.length →
    iter (fun L1 => f131_raw1 k L1) m (((posR b r : Nat) : Int), b, ((posR b r0 : Nat) : Int)) = some (((match unAux n r with | some (n, r') => (n : Int) | none => 0), (match unAux n r with | some (n, r') => 0 | none => 10), ()), rst b (match unAux n r with | some (n, r') => r' | none => r0), ()) := by
  intro r
  induction r with
  | nil =>
    intro m n hr hm hl
    obtain ⟨m, rfl⟩ := pos_of_lt hm
    rw [iter_succ]
    simp only [f131_raw1]
    have e1 : IntKind.i64.wrap ((8 : Int) * Int.ofNat b.length) = ((8 * b.length : Nat) : Int) := by simp only [Int.ofNat_eq_natCast]; rw [w64 (by omega)]; omega
    rw [e1, cneg (by unfold posR; simp)]
    rfl
  | cons x r ih =>
    intro m n hr hm hl
    obtain ⟨m, rfl⟩ := pos_of_lt (show 0 < m by omega)
    rw [iter_succ]
    simp only [f131_raw1]
    have e1 : IntKind.i64.wrap ((8 : Int) * Int.ofNat b.length) = ((8 * b.length : Nat) : Int) := by simp only [Int.ofNat_eq_natCast]; rw [w64 (by omega)]; omega
    have hlen := hr.len
    have hlen0 := hr0.len
    simp only [List.length_cons] at hlen hl hm
    have hp : posR b (x :: r) < 8 * b.length := by unfold posR; simp only [List.length_cons]; omega
    rw [e1, cpos (by omega), f90_spec k hb hn _ hp]
    simp only [Option.bind_some]
    have hg := hr.get (i := 0) (by simp)
    simp only [Nat.add_zero, List.getElem_cons_zero] at hg
    rw [hg]
    have e2 : IntKind.i64.wrap (((posR b (x :: r) : Nat) : Int) + 1) = ((posR b r : Nat) : Int) := by
      have := posR_drop hr (i := 1) (by simp)
      rw [List.drop_one, List.tail_cons] at this
      rw [this, w64 (by omega)]; rfl
    have hr' : IsRest b r := by have := hr.drop 1; rwa [List.drop_one, List.tail_cons] at this
    rw [e2, int_beq]
    cases x with
    | true =>
      rw [if_pos rfl, cpos rfl]
      have e3 : IntKind.i64.wrap (((posR b (true :: r) : Nat) : Int) - ((posR b r0 : Nat) : Int)) = (n : Int) := by
        unfold posR at hp ⊢
        simp only [List.length_cons] at hp ⊢
        rw [w64 (by omega)]
        omega
      rw [e3]
      rfl
    | false =>
      rw [if_neg (by simp), cneg (by omega)]
      exact ih m (n + 1) hr' (by omega) (by omega)
theorem f131_spec (k : Nat) {b : List Int} (hb : bytesN b = true) (hn : b.length < 536870912) {r : List Bool} (hr : IsRest b r) (hk : 8 * b.length < k) :
    f131_F k (rst b r, ()) = some (((((unS r).1 : Nat) : Int), (unS r).2.1, ()), rst b (unS r).2.2, ()) := by
  show f131_raw0 k (f131_L1 k) _ = _
  simp only [f131_raw0]
  have hl := hr.len
  refine (f131_loop k hb hn hr r k 0 hr (by omega) (by omega)).trans ?_
  unfold unS
  cases unAux 0 r with
  | none => rfl
  | some x => rfl
def alS (r : List Bool) : Int × List Bool := if (r.take (r.length % 8)).all (fun x => !x) then (0, r.drop (r.length % 8)) else (2, r)
theorem alS_rest {b : List Int} {r : List Bool} (h : IsRest b r) : IsRest b (alS r).2 := by
  unfold alS
  split
  · exact h.drop _
  · exact h
theorem up8 {n : Nat} (h : n < 4294967296) : IntKind.i64.wrap (Int.ofNat (BitVec.ofInt 64 (IntKind.i64.wrap ((n : Int) + 7)) &&& ~~~BitVec.ofInt 64 7).toNat) = (((n + 7) / 8 * 8 : Nat) : Int) := by
  rw [w64 (n := (n : Int) + 7) (by omega), show (n : Int) + 7 = ((n + 7 : Nat) : Int) from rfl]
  have e : (BitVec.ofInt 64 ((n + 7 : Nat) : Int) &&& ~~~BitVec.ofInt 64 7).toNat = (n + 7) / 8 * 8 := by
    have h1 : BitVec.ofInt 64 ((n + 7 : Nat) : Int) &&& ~~~BitVec.ofInt 64 7 = ((BitVec.ofNat 64 (n + 7)) >>> 3) <<< 3 := by
      rw [BitVec.ofInt_natCast, show ~~~BitVec.ofInt 64 7 = BitVec.ofNat 64 18446744073709551608 from by decide]
      apply BitVec.eq_of_getLsbD_eq
      intro i hi
      simp only [BitVec.getLsbD_and, BitVec.getLsbD_shiftLeft, BitVec.getLsbD_ushiftRight]
      have hm := (by decide +kernel : ∀ j : Fin 64, (BitVec.ofNat 64 18446744073709551608).getLsbD j.val = decide (3 ≤ j.val)) ⟨i, hi⟩
      simp only at hm
      rw [hm]
      by_cases h3 : 3 ≤ i
      · rw [decide_eq_true h3, Bool.and_true, show 3 + (i - 3) = i by omega]
        simp [hi]
        omega
      · rw [decide_eq_false h3, Bool.and_false]
        simp
        omega
    rw [h1, BitVec.toNat_shiftLeft, BitVec.toNat_ushiftRight, BitVec.toNat_ofNat, Nat.shiftRight_eq_div_pow, Nat.shiftLeft_eq, Nat.mod_eq_of_lt (by omega), Nat.mod_eq_of_lt (by omega)]
  rw [e, w64 (by simp only [Int.ofNat_eq_natCast]; omega)]
  rfl
theorem f47_loop (k : Nat) {b : List Int} (hb : bytesN b = true) (hn : b.length < 536870912) {r0 : List Bool} : ∀ (p m : Nat) (r : List Bool), IsRest b r → p ≤ r.length → p < m →
    iter (fun L1 => f47_raw1 k L1) m (((posR b r : Nat) : Int), ((posR b r + p : Nat) : Int), b, ((posR b r0 : Nat) : Int)) = some (if (r.take p).all (fun x => !x) then (0, rst b (r.drop p), ()) else (2, rst b r0, ())) := by
  intro p
  induction p with
  | zero =>
    intro m r hr hp hm
    obtain ⟨m, rfl⟩ := pos_of_lt hm
    rw [iter_succ]
    simp only [f47_raw1]
    rw [cneg (by omega)]
    simp
  | succ p ih =>
    intro m r hr hp hm
    obtain ⟨m, rfl⟩ := pos_of_lt (show 0 < m by omega)
    rw [iter_succ]
    simp only [f47_raw1]
    have hlen := hr.len
    have hpos : posR b r < 8 * b.length := by unfold posR; omega
    rw [cpos (by omega), f90_spec k hb hn _ hpos]
    simp only [Option.bind_some]
    have hg := hr.get (i := 0) (by omega)
    simp only [Nat.add_zero] at hg
    rw [hg, int_beq]
    have hcons : r = r[0] :: r.drop 1 := by
      have := List.drop_eq_getElem_cons (l := r) (i := 0) (by omega)
      rwa [List.drop_zero] at this
    have e5 : r.take (p + 1) = r[0] :: (r.drop 1).take p := by
      conv => lhs; rw [hcons]
      rfl
    rw [e5, List.all_cons]
    cases hx : r[0] with
    | true =>
      rw [if_pos rfl, cpos rfl]
      simp
    | false =>
      rw [if_neg (by simp), cneg (by omega)]
      have e3 : IntKind.i64.wrap (((posR b r : Nat) : Int) + 1) = ((posR b (r.drop 1) : Nat) : Int) := by
        rw [posR_drop hr (by omega), w64 (by omega)]; rfl
      have e4 : posR b r + (p + 1) = posR b (r.drop 1) + p := by rw [posR_drop hr (by omega)]; omega
      rw [e3, e4, ih m (r.drop 1) (hr.drop 1) (by rw [List.length_drop]; omega) (by omega)]
      have e6 : (r.drop 1).drop p = r.drop (p + 1) := by rw [List.drop_drop]; congr 1; omega
      rw [e6]
      simp only [Bool.not_false, Bool.true_and]
theorem f47_spec (k : Nat) {b : List Int} (hb : bytesN b = true) (hn : b.length < 536870912) {r : List Bool} (hr : IsRest b r) (hk : 10 < k) :
    f47_F k (rst b r, ()) = some ((alS r).1, rst b (alS r).2, ()) := by
  show f47_raw0 k (f47_L1 k) _ = _
  simp only [f47_raw0]
  have hlen := hr.len
  have hp : posR b r ≤ 8 * b.length := by unfold posR; omega
  rw [up8 (by omega)]
  have e : (posR b r + 7) / 8 * 8 = posR b r + r.length % 8 := by unfold posR; omega
  rw [e]
  refine (f47_loop k hb hn (r.length % 8) k r hr (Nat.mod_le _ _) (by omega)).trans ?_
  unfold alS
  split <;> rfl
def unfoldN (f : Nat) : Int := if f % 2 = 1 then -((f : Int) + 1) / 2 else (f : Int) / 2
theorem f195_spec (k : Nat) {f : Nat} (h : f < 4294967296) : f195_F k ((f : Int), ()) = some ((unfoldN f, 0, ()), ()) := by
  show f195_raw0 k _ = _
  simp only [f195_raw0]
  rw [cneg (by omega), cneg (by omega), show (1 : Int) = ((1 : Nat) : Int) from rfl, andN (by omega) (by omega), Nat.and_one_is_mod, w64 (n := ((f % 2 : Nat) : Int)) (by omega)]
  have hd : ((f : Nat) : Int).fdiv 2 = ((f / 2 : Nat) : Int) := by rw [Int.fdiv_eq_ediv_of_nonneg _ (by omega)]; rfl
  rw [hd]
  unfold unfoldN
  by_cases h1 : f % 2 = 1
  · rw [if_pos h1, h1, show IntKind.i64.wrap ((0 : Int) - ((1 : Nat) : Int)) = -1 from rfl, show BitVec.ofInt 64 (-1) = BitVec.allOnes 64 from by decide, BitVec.xor_allOnes, BitVec.toNat_not, bv64 (by omega)]
    have e2 : IntKind.i64.wrap (Int.ofNat (2 ^ 64 - 1 - f / 2)) = -((f : Int) + 1) / 2 := by
      simp only [Int.ofNat_eq_natCast]
      rw [IntKind.wrap_i64]
      omega
    rw [e2]
  · rw [if_neg h1, show f % 2 = 0 by omega, show IntKind.i64.wrap ((0 : Int) - ((0 : Nat) : Int)) = 0 from rfl, show BitVec.ofInt 64 0 = 0#64 from rfl, BitVec.xor_zero, bv64 (by omega)]
    rw [w64 (by simp only [Int.ofNat_eq_natCast]; omega)]
    rfl
def numS (kk : Nat) (r : List Bool) : Int × Int × List Bool :=
  if (unS r).2.1 ≠ 0 then (0, (unS r).2.1, (unS r).2.2)
  else if (getS kk (unS r).2.2).2.1 ≠ 0 then (0, (getS kk (unS r).2.2).2.1, (getS kk (unS r).2.2).2.2)
  else if 4294967295 ≤ (unS r).1 * 2 ^ kk + (getS kk (unS r).2.2).1 then (0, 12, (getS kk (unS r).2.2).2.2)
  else (unfoldN ((unS r).1 * 2 ^ kk + (getS kk (unS r).2.2).1), 0, (getS kk (unS r).2.2).2.2)
theorem numS_rest {b : List Int} {r : List Bool} (h : IsRest b r) (kk : Nat) : IsRest b (numS kk r).2.2 := by
  unfold numS
  split
  · exact unS_rest h
  · split
    · exact getS_rest (unS_rest h) kk
    · split
      · exact getS_rest (unS_rest h) kk
      · exact getS_rest (unS_rest h) kk
theorem shl_or {q d kk : Nat} (hq : q < 4294967296) (hk : kk ≤ 30) (hd : d < 2 ^ kk) : IntKind.i64.wrap (Int.ofNat (BitVec.ofInt 64 (IntKind.i64.wrap ((q : Int) * (2 : Int) ^ min ((kk : Int)).toNat 64)) ||| BitVec.ofInt 64 (d : Int)).toNat) = ((q * 2 ^ kk + d : Nat) : Int) := by
  have h1 : 2 ^ kk ≤ 2 ^ 30 := Nat.pow_le_pow_right (by omega) hk
  have h2 : q * 2 ^ kk ≤ 4294967295 * 1073741824 := Nat.mul_le_mul (by omega) (by omega)
  rw [Int.toNat_natCast, Nat.min_eq_left (by omega), pow_cast, ← Int.natCast_mul]
  have h3 := Nat.shiftLeft_add_eq_or_of_lt hd q
  rw [Nat.shiftLeft_eq] at h3
  rw [w64 (n := ((q * 2 ^ kk : Nat) : Int)) (by generalize q * 2 ^ kk = X at h2; omega), orN (by generalize q * 2 ^ kk = X at h2; omega) (by omega), ← h3]
  generalize q * 2 ^ kk = X at h2 ⊢
  rw [w64 (by omega)]
theorem f190_spec (k : Nat) {b : List Int} (hb : bytesN b = true) (hn : b.length < 268435456) {r : List Bool} (hr : IsRest b r) {kk : Nat} (hkk : kk ≤ 30) (hk : 8 * b.length + 100 < k) :
    f190_F k (rst b r, (kk : Int), ()) = some (((numS kk r).1, (numS kk r).2.1, ()), rst b (numS kk r).2.2, ()) := by
  show f190_raw0 k _ = _
  simp only [f190_raw0]
  rw [f131_spec k hb (by omega) hr (by omega)]
  simp only [Option.bind_some]
  unfold numS
  have hu := unS_le (r := r)
  have hl := hr.len
  rw [int_bne]
  by_cases h1 : (unS r).2.1 = 0
  · rw [cneg (by simpa using h1), if_neg (by simpa using h1), f126_spec k hb (by omega) (unS_rest hr) (by omega) (by omega)]
    simp only [Option.bind_some]
    rw [int_bne]
    by_cases h2 : (getS kk (unS r).2.2).2.1 = 0
    · rw [cneg (by simpa using h2), if_neg (by simpa using h2), cpos (by omega), shl_or (by omega) hkk (getS_lt kk _)]
      by_cases h3 : 4294967295 ≤ (unS r).1 * 2 ^ kk + (getS kk (unS r).2.2).1
      · rw [cpos (by omega), if_pos h3]
      · rw [cneg (by omega), if_neg h3, f195_spec k (by omega)]
        rfl
    · rw [cpos h2, if_pos h2]
  · rw [cpos h1, if_pos h1]
end Go.Sh
namespace Go.Sh
open Go Go.Proofs
abbrev NumRd := List Bool → Int × Int × List Bool
def listR (one : NumRd) : Nat → List Bool → List Int → List Int × Int × List Bool
  | 0, r, acc => (acc, 0, r)
  | n + 1, r, acc => if (one r).2.1 ≠ 0 then ([], (one r).2.1, (one r).2.2) else listR one n (one r).2.2 (acc ++ [(one r).1])
theorem listR_rest {b : List Int} {one : NumRd} (h1 : ∀ r, IsRest b r → IsRest b (one r).2.2) : ∀ (n : Nat) (r : List Bool) (acc : List Int), IsRest b r → IsRest b (listR one n r acc).2.2
  | 0, r, acc, h => h
  | n + 1, r, acc, h => by
    unfold listR
    split
    · exact h1 r h
    · exact listR_rest h1 n _ _ (h1 r h)
theorem listR_len {one : NumRd} : ∀ (n : Nat) (r : List Bool) (acc : List Int), (listR one n r acc).1.length ≤ acc.length + n
  | 0, r, acc => Nat.le_refl _
  | n + 1, r, acc => by
    unfold listR
    split
    · simp
    · have := listR_len (one := one) n (one r).2.2 (acc ++ [(one r).1])
      rw [List.length_append, List.length_singleton] at this
      omega
theorem f171_sg (k : Nat) (L2 : Int × Int × List Int × Int × Int × List Int → Option ((List Int × Int × Unit) × (List Int × Int × Unit) × Unit)) {b : List Int} (hb : bytesN b = true) (hn : b.length < 268435456) (hk : 8 * b.length + 100 < k) {w : Nat} (hw : w ≤ 32) :
    ∀ (d m i : Nat) (r : List Bool) (acc : List Int), IsRest b r → d < m → i + d ≤ 4096 → acc.length ≤ i →
    iter (fun L1 => f171_raw1 k L1) m (((i + d : Nat) : Int), (i : Int), b, ((posR b r : Nat) : Int), (w : Int), acc) = some (((listR (getSg w) d r acc).1, (listR (getSg w) d r acc).2.1, ()), rst b (listR (getSg w) d r acc).2.2, ()) := by
  intro d
  induction d with
  | zero =>
    intro m i r acc hr hm hi ha
    obtain ⟨m, rfl⟩ := pos_of_lt hm
    rw [iter_succ]
    simp only [f171_raw1]
    rw [cneg (by omega)]
    rfl
  | succ d ih =>
    intro m i r acc hr hm hi ha
    obtain ⟨m, rfl⟩ := pos_of_lt (show 0 < m by omega)
    rw [iter_succ]
    simp only [f171_raw1]
    have e : f191_F k (((b, ((posR b r : Nat) : Int), ()), ()), ((w : Int), ()), ()) = some (((getSg w r).1, (getSg w r).2.1, ()), ((rst b (getSg w r).2.2), ()), ((w : Int), ()), ()) := by
      show f191_raw0 k _ = _
      simp only [f191_raw0]
      rw [f170_spec k hb (by omega) hr hw (by omega)]
      rfl
    rw [cpos (by omega), e]
    simp only [Option.bind_some]
    unfold listR
    rw [int_bne]
    by_cases h : (getSg w r).2.1 = 0
    · rw [cneg (by simpa using h), cpos (by simp only [List.length_singleton]; omega), if_neg (by simpa using h)]
      have e2 : IntKind.i64.wrap ((i : Int) + 1) = ((i + 1 : Nat) : Int) := by rw [w64 (by omega)]; rfl
      rw [e2]
      have := ih m (i + 1) (getSg w r).2.2 (acc ++ [(getSg w r).1]) (getSg_rest hr w) (by omega) (by omega) (by simp; omega)
      rw [show i + 1 + d = i + (d + 1) by omega] at this
      exact this
    · rw [cpos h, if_pos h]
theorem f171_num (k : Nat) {b : List Int} (hb : bytesN b = true) (hn : b.length < 268435456) (hk : 8 * b.length + 100 < k) {w : Nat} (hw : w ≤ 30) :
    ∀ (d m i : Nat) (r : List Bool) (acc : List Int), IsRest b r → d < m → i + d ≤ 4096 → acc.length ≤ i →
    iter (fun L2 => f171_raw2 k L2) m (((i + d : Nat) : Int), (i : Int), b, ((posR b r : Nat) : Int), (w : Int), acc) = some (((listR (numS w) d r acc).1, (listR (numS w) d r acc).2.1, ()), rst b (listR (numS w) d r acc).2.2, ()) := by
  intro d
  induction d with
  | zero =>
    intro m i r acc hr hm hi ha
    obtain ⟨m, rfl⟩ := pos_of_lt hm
    rw [iter_succ]
    simp only [f171_raw2]
    rw [cneg (by omega)]
    rfl
  | succ d ih =>
    intro m i r acc hr hm hi ha
    obtain ⟨m, rfl⟩ := pos_of_lt (show 0 < m by omega)
    rw [iter_succ]
    simp only [f171_raw2]
    have e : f189_F k (((b, ((posR b r : Nat) : Int), ()), ()), ((w : Int), ()), ()) = some (((numS w r).1, (numS w r).2.1, ()), ((rst b (numS w r).2.2), ()), ((w : Int), ()), ()) := by
      show f189_raw0 k _ = _
      simp only [f189_raw0]
      rw [f190_spec k hb (by omega) hr hw (by omega)]
      rfl
    rw [cpos (by omega), e]
    simp only [Option.bind_some]
    unfold listR
    rw [int_bne]
    by_cases h : (numS w r).2.1 = 0
    · rw [cneg (by simpa using h), cpos (by simp only [List.length_singleton]; omega), if_neg (by simpa using h)]
      have e2 : IntKind.i64.wrap ((i : Int) + 1) = ((i + 1 : Nat) : Int) := by rw [w64 (by omega)]; rfl
      rw [e2]
      have := ih m (i + 1) (numS w r).2.2 (acc ++ [(numS w r).1]) (numS_rest hr w) (by omega) (by omega) (by simp; omega)
      rw [show i + 1 + d = i + (d + 1) by omega] at this
      exact this
    · rw [cpos h, if_pos h]
def partR (m count : Nat) (r : List Bool) : List Int × Int × List Bool :=
  if (getS (4 + m) r).2.1 ≠ 0 then ([], (getS (4 + m) r).2.1, (getS (4 + m) r).2.2)
  else if (getS (4 + m) r).1 = escN m then
    (if (getS 5 (getS (4 + m) r).2.2).2.1 ≠ 0 then ([], (getS 5 (getS (4 + m) r).2.2).2.1, (getS 5 (getS (4 + m) r).2.2).2.2)
     else listR (getSg (getS 5 (getS (4 + m) r).2.2).1) count (getS 5 (getS (4 + m) r).2.2).2.2 [])
  else listR (numS (getS (4 + m) r).1) count (getS (4 + m) r).2.2 []
theorem partR_rest {b : List Int} {r : List Bool} (h : IsRest b r) (m count : Nat) : IsRest b (partR m count r).2.2 := by
  unfold partR
  split
  · exact getS_rest h _
  · split
    · split
      · exact getS_rest (getS_rest h _) _
      · exact listR_rest (fun r h => getSg_rest h _) _ _ _ (getS_rest (getS_rest h _) _)
    · exact listR_rest (fun r h => numS_rest h _) _ _ _ (getS_rest h _)
theorem partR_len (m count : Nat) (r : List Bool) : (partR m count r).1.length ≤ count := by
  unfold partR
  split
  · simp
  · split
    · split
      · simp
      · have := listR_len (one := getSg (getS 5 (getS (4 + m) r).2.2).1) count (getS 5 (getS (4 + m) r).2.2).2.2 []
        simpa using this
    · have := listR_len (one := numS (getS (4 + m) r).1) count (getS (4 + m) r).2.2 []
      simpa using this
theorem f171_spec (k : Nat) {b : List Int} (hb : bytesN b = true) (hn : b.length < 268435456) {r : List Bool} (hr : IsRest b r) (hk : 8 * b.length + 5000 < k) {m count : Nat} (hm : m = 0 ∨ m = 1) (hc : count ≤ 4096) :
    f171_F k (rst b r, (m : Int), (count : Int), ()) = some (((partR m count r).1, (partR m count r).2.1, ()), rst b (partR m count r).2.2, ()) := by
  show f171_raw0 k (f171_L1 k) (f171_L2 k) _ = _
  simp only [f171_raw0]
  have hmi : (m : Int) = 0 ∨ (m : Int) = 1 := by omega
  rw [O116, f116_spec k hmi]
  simp only [Option.bind_some]
  have e4 : (4 : Int) + (m : Int) = ((4 + m : Nat) : Int) := rfl
  rw [e4, f126_spec k hb (by omega) hr (by omega) (by omega)]
  simp only [Option.bind_some]
  unfold partR
  have hlt := getS_lt (4 + m) r
  rw [int_bne]
  by_cases h1 : (getS (4 + m) r).2.1 = 0
  · rw [cneg (by simpa using h1), if_neg (by simpa using h1), O117, f117_esc k hmi]
    simp only [Option.bind_some]
    rw [int_beq]
    by_cases h2 : (getS (4 + m) r).1 = escN m
    · rw [cpos (by omega), if_pos h2, show (5 : Int) = ((5 : Nat) : Int) from rfl, f126_spec k hb (by omega) (getS_rest hr _) (by omega) (by omega)]
      simp only [Option.bind_some]
      rw [int_bne]
      by_cases h3 : (getS 5 (getS (4 + m) r).2.2).2.1 = 0
      · rw [cneg (by simpa using h3), if_neg (by simpa using h3)]
        have hlt5 := getS_lt 5 (getS (4 + m) r).2.2
        have := f171_sg k (f171_L2 k) hb hn (by omega) (w := (getS 5 (getS (4 + m) r).2.2).1) (by omega) count k 0 (getS 5 (getS (4 + m) r).2.2).2.2 [] (getS_rest (getS_rest hr _) _) (by omega) (by omega) (by simp)
        rw [Nat.zero_add] at this
        exact this
      · rw [cpos h3, if_pos h3]
    · rw [cneg (by omega), if_neg h2]
      have h30 : (getS (4 + m) r).1 ≤ 30 := by
        rcases hm with rfl | rfl
        · have : (getS (4 + 0) r).1 < 16 := hlt
          omega
        · have h32 : (getS (4 + 1) r).1 < 32 := hlt
          have : escN (1 : Nat) = 31 := rfl
          omega
      have := f171_num k hb hn (by omega) h30 count k 0 (getS (4 + m) r).2.2 [] (getS_rest hr _) (by omega) (by omega) (by simp)
      rw [Nat.zero_add] at this
      exact this
  · rw [cpos h1, if_pos h1]
def blocksR (m n o p : Nat) : Nat → Nat → List Bool → List Int → List Int × Int × List Bool
  | 0, _, r, acc => (acc, 0, r)
  | d + 1, i, r, acc => if (partR m (n / 2 ^ p - if i = 0 then o else 0) r).2.1 ≠ 0 then ([], (partR m (n / 2 ^ p - if i = 0 then o else 0) r).2.1, (partR m (n / 2 ^ p - if i = 0 then o else 0) r).2.2)
    else blocksR m n o p d (i + 1) (partR m (n / 2 ^ p - if i = 0 then o else 0) r).2.2 (acc ++ (partR m (n / 2 ^ p - if i = 0 then o else 0) r).1)
theorem blocksR_rest {b : List Int} {m n o p : Nat} : ∀ (d i : Nat) (r : List Bool) (acc : List Int), IsRest b r → IsRest b (blocksR m n o p d i r acc).2.2
  | 0, _, r, acc, h => h
  | d + 1, i, r, acc, h => by
    unfold blocksR
    generalize (n / 2 ^ p - if i = 0 then o else 0) = cnt
    split
    · exact partR_rest h _ _
    · exact blocksR_rest d (i + 1) _ _ (partR_rest h _ _)
theorem f134_loop (k : Nat) {b : List Int} (hb : bytesN b = true) (hn : b.length < 268435456) (hk : 8 * b.length + 5000 < k) {m n o p : Nat} (hm : m = 0 ∨ m = 1) (hnn : n ≤ 512) (hp : p ≤ 15) (ho : o ≤ n / 2 ^ p) :
    ∀ (d j i : Nat) (r : List Bool) (acc : List Int), IsRest b r → d < j → i + d ≤ 32768 → acc.length ≤ i * 512 →
    iter (fun L1 => f134_raw1 k L1) j (((i + d : Nat) : Int), (i : Int), (n : Int), (p : Int), (o : Int), (m : Int), b, ((posR b r : Nat) : Int), acc) = some (((blocksR m n o p d i r acc).1, (blocksR m n o p d i r acc).2.1, ()), rst b (blocksR m n o p d i r acc).2.2, ()) := by
  intro d
  have hdiv : n / 2 ^ p ≤ n := Nat.div_le_self _ _
  induction d with
  | zero =>
    intro j i r acc hr hj hi ha
    obtain ⟨j, rfl⟩ := pos_of_lt hj
    rw [iter_succ]
    simp only [f134_raw1]
    rw [cneg (by omega)]
    rfl
  | succ d ih =>
    intro j i r acc hr hj hi ha
    obtain ⟨j, rfl⟩ := pos_of_lt (show 0 < j by omega)
    rw [iter_succ]
    simp only [f134_raw1, Int.toNat_natCast, Nat.min_eq_left (show p ≤ 64 by omega), fdivP]
    have e2 : IntKind.i64.wrap ((i : Int) + 1) = ((i + 1 : Nat) : Int) := by rw [w64 (by omega)]; rfl
    have e3 : IntKind.i64.wrap (((n / 2 ^ p : Nat) : Int) - (o : Int)) = ((n / 2 ^ p - o : Nat) : Int) := by generalize n / 2 ^ p = q at hdiv ho ⊢; rw [w64 (by omega)]; omega
    have fin : ∀ cnt : Nat, cnt = (n / 2 ^ p - if i = 0 then o else 0) → ((f171_F k ((b, ((posR b r : Nat) : Int), ()), (m : Int), (cnt : Int), ())).bind fun y => bif y.1.2.1 != (0 : Int) then some (([], y.1.2.1, ()), (y.2.1.1, y.2.1.2.1, ()), ()) else bif decide (acc.length + List.length y.1.1 < (2147483648 : Nat)) then iter (fun L1 => f134_raw1 k L1) j (((i + (d + 1) : Nat) : Int), IntKind.i64.wrap ((i : Int) + 1), (n : Int), (p : Int), (o : Int), (m : Int), y.2.1.1, y.2.1.2.1, acc ++ y.1.1) else none) =
        some (((blocksR m n o p (d + 1) i r acc).1, (blocksR m n o p (d + 1) i r acc).2.1, ()), rst b (blocksR m n o p (d + 1) i r acc).2.2, ()) := by
      intro cnt hcnt
      have hcl : cnt ≤ 512 := by omega
      refine (bind_of (f171_spec k hb hn hr hk hm (by omega)) _).trans ?_
      simp only
      unfold blocksR
      rw [← hcnt, int_bne]
      have hlen := partR_len m cnt r
      by_cases h : (partR m cnt r).2.1 = 0
      · rw [cneg (by simpa using h), cpos (by omega), if_neg (by simpa using h), e2]
        have := ih j (i + 1) (partR m cnt r).2.2 (acc ++ (partR m cnt r).1) (partR_rest hr _ _) (by omega) (by omega) (by rw [List.length_append]; omega)
        rw [show i + 1 + d = i + (d + 1) by omega] at this
        exact this
      · rw [cpos h, if_pos h]
    rw [cpos (by omega), cpos (by omega), int_beq]
    by_cases h0 : i = 0
    · rw [cpos (by omega), e3]
      exact fin _ (by rw [if_pos h0])
    · rw [cneg (by omega)]
      exact fin _ (by rw [if_neg h0, Nat.sub_zero])
def riceR (n o : Nat) (r : List Bool) : List Int × Int × List Bool :=
  if blockB n o = false then ([], 1, r)
  else if (getS 2 r).2.1 ≠ 0 then ([], (getS 2 r).2.1, (getS 2 r).2.2)
  else if 1 < (getS 2 r).1 then ([], 2, (getS 2 r).2.2)
  else if (getS 4 (getS 2 r).2.2).2.1 ≠ 0 then ([], (getS 4 (getS 2 r).2.2).2.1, (getS 4 (getS 2 r).2.2).2.2)
  else if fitR n o (getS 4 (getS 2 r).2.2).1 = false then ([], 2, (getS 4 (getS 2 r).2.2).2.2)
  else blocksR (getS 2 r).1 n o (getS 4 (getS 2 r).2.2).1 (2 ^ (getS 4 (getS 2 r).2.2).1) 0 (getS 4 (getS 2 r).2.2).2.2 []
theorem riceR_rest {b : List Int} {r : List Bool} (h : IsRest b r) (n o : Nat) : IsRest b (riceR n o r).2.2 := by
  unfold riceR
  repeat' split
  all_goals first | exact h | exact getS_rest h _ | exact getS_rest (getS_rest h _) _ | exact blocksR_rest _ _ _ _ (getS_rest (getS_rest h _) _)
theorem f134_spec (k : Nat) {b : List Int} (hb : bytesN b = true) (hn : b.length < 268435456) {r : List Bool} (hr : IsRest b r) (hk : 8 * b.length + 50000 < k) (n o : Nat) :
    f134_F k (rst b r, (n : Int), (o : Int), ()) = some (((riceR n o r).1, (riceR n o r).2.1, ()), rst b (riceR n o r).2.2, ()) := by
  show f134_raw0 k (f134_L1 k) _ = _
  simp only [f134_raw0]
  rw [f154_spec]
  simp only [Option.bind_some]
  unfold riceR
  cases hbl : blockB n o with
  | false => rfl
  | true =>
    have hbb := of_decide_eq_true hbl
    simp only [Bool.not_true, cond_false, Bool.true_eq_false, if_false]
    have g2 : f126_F k (rst b r, 2, ()) = _ := f126_spec k hb (by omega) hr (w := 2) (by omega) (by omega)
    rw [g2]
    simp only [Option.bind_some]
    rw [int_bne]
    have hlt2 := getS_lt 2 r
    by_cases h1 : (getS 2 r).2.1 = 0
    · rw [cneg (by simpa using h1), if_neg (by simpa using h1)]
      by_cases h2 : 1 < (getS 2 r).1
      · rw [cpos (by omega), if_pos h2]
      · have g4 : f126_F k (rst b (getS 2 r).2.2, 4, ()) = _ := f126_spec k hb (by omega) (getS_rest hr _) (w := 4) (by omega) (by omega)
        rw [cneg (by omega), if_neg h2, g4]
        simp only [Option.bind_some]
        rw [int_bne]
        have hlt4 := getS_lt 4 (getS 2 r).2.2
        by_cases h3 : (getS 4 (getS 2 r).2.2).2.1 = 0
        · rw [cneg (by simpa using h3), if_neg (by simpa using h3), f156_spec k (by omega) (by omega)]
          simp only [Option.bind_some]
          cases hf : fitR n o (getS 4 (getS 2 r).2.2).1 with
          | false => rfl
          | true =>
            simp only [Bool.not_true, cond_false, Bool.true_eq_false, if_false]
            have hfit := hf
            unfold fitR at hfit
            simp only [Bool.and_eq_true, decide_eq_true_eq] at hfit
            rw [cpos (by omega), one_shl (by omega)]
            have h15 : 2 ^ (getS 4 (getS 2 r).2.2).1 ≤ 2 ^ 15 := Nat.pow_le_pow_right (by omega) (by omega)
            have := f134_loop k hb hn (by omega) (m := (getS 2 r).1) (n := n) (o := o) (p := (getS 4 (getS 2 r).2.2).1) (by omega) (by omega) (by omega) hfit.2 (2 ^ (getS 4 (getS 2 r).2.2).1) k 0 (getS 4 (getS 2 r).2.2).2.2 [] (getS_rest (getS_rest hr _) _) (by omega) (by omega) (by simp)
            rw [Nat.zero_add] at this
            exact this
        · rw [cpos h3, if_pos h3]
    · rw [cpos h1, if_pos h1]
theorem mul1 : ∀ n : Fin 513, f188_raw0 0 (1, (n.val : Int), ()) = some ((0, (n.val : Int), ()), ()) := by decide +kernel
theorem f169_one (k : Nat) {n : Nat} (hn : n ≤ 512) : f169_F k (1, (n : Int), ()) = some ((0, (n : Int), ()), ()) := by
  have := mul1 ⟨n, by omega⟩
  simp only at this
  show (f188_raw0 0 (1, (n : Int), ())).bind _ = _
  rw [this]
  rfl
theorem f132_loop (k : Nat) (x : Int) {n : Nat} (hn : n ≤ 512) : ∀ (d m i : Nat), i + d = n → d < m → 1 ≤ i →
    iter (fun L1 => f132_raw1 k L1) m ((i : Int), List.replicate i x ++ List.replicate d 0) = some (List.replicate n x, ()) := by
  intro d
  induction d using Nat.strongRecOn with
  | ind d ih =>
    intro m i hi hm h1
    obtain ⟨m, rfl⟩ := pos_of_lt (show 0 < m by omega)
    rw [iter_succ]
    simp only [f132_raw1]
    have hlen : (List.replicate i x ++ List.replicate d (0 : Int)).length = n := by simp; omega
    rw [hlen]
    by_cases h0 : d = 0
    · subst h0
      rw [cneg (by simp only [Int.ofNat_eq_natCast]; omega)]
      obtain rfl : i = n := by omega
      simp
    · rw [cpos (by simp only [Int.ofNat_eq_natCast]; omega), cpos (by simp only [Int.ofNat_eq_natCast]; omega), cpos (by simp only [Int.ofNat_eq_natCast]; omega)]
      simp only [Int.toNat_natCast, show (Int.ofNat n).toNat = n from rfl]
      rw [cpos (by omega), cpos (by omega), List.drop_zero]
      have ht : (List.replicate i x ++ List.replicate d (0 : Int)).take i = List.replicate i x := by
        rw [List.take_append_of_le_length (by simp)]
        simp
      rw [ht, List.length_replicate]
      have e1 : IntKind.i64.wrap ((i : Int) + Int.ofNat (min i (n - i))) = ((i + min i (n - i) : Nat) : Int) := by simp only [Int.ofNat_eq_natCast]; rw [w64 (by omega)]; omega
      have e2 : List.replicate i x ++ List.take (n - i) (List.replicate i x) ++ List.drop (i + min i (n - i)) (List.replicate i x ++ List.replicate d (0 : Int)) = List.replicate (i + min i (n - i)) x ++ List.replicate (d - min i (n - i)) 0 := by
        rw [List.take_replicate, List.replicate_append_replicate, List.drop_append]
        simp
        omega
      rw [e1, e2]
      exact ih (d - min i (n - i)) (by omega) m _ (by omega) (by omega) (by omega)
theorem f132_spec (k : Nat) (x : Int) {n : Nat} (h1 : 1 ≤ n) (hn : n ≤ 512) (hk : 1000 < k) : f132_F k ([x], (n : Int), ()) = some (List.replicate n x, ()) := by
  show f132_raw0 k (f132_L1 k) _ = _
  simp only [f132_raw0]
  have e1 : IntKind.u64.wrap (Int.ofNat [x].length) = 1 := rfl
  have e2 : IntKind.u64.wrap (n : Int) = (n : Int) := by rw [IntKind.wrap_u64]; omega
  rw [cneg (by omega), e1, e2, f169_one k hn]
  simp only [Option.bind_some]
  have e3 : IntKind.i64.wrap (n : Int) = (n : Int) := by rw [w64 (by omega)]
  rw [cneg (by omega), cneg (by omega), e3, cpos (by omega)]
  simp only [Int.toNat_natCast, List.length_replicate, List.length_singleton, Nat.sub_zero, List.take_zero, List.nil_append, Nat.zero_add]
  rw [Nat.min_eq_left h1, List.take_of_length_le (by simp; omega), List.drop_replicate]
  exact f132_loop k x hn (n - 1) k 1 (by omega) (by omega) (by omega)
end Go.Sh
namespace Go.Sh
open Go Go.Proofs
def restF (c : List Int) (sh : Int) : List Int → List Int → List Int × Int
  | [], out => (out, 0)
  | x :: xs, out => if wideB (x + predS c sh out) = true then ([], 12) else restF c sh xs (out ++ [x + predS c sh out])
def restoreS (c : List Int) (sh : Int) (warm res : List Int) : List Int × Int :=
  if modelB c sh = false then ([], 2) else if warm.length ≠ c.length then ([], 1) else if warm.any wideB = true then ([], 12) else if res.any wideB = true then ([], 12) else restF c sh res warm
theorem restF_len {c : List Int} {sh : Int} : ∀ (xs out : List Int), (restF c sh xs out).1.length ≤ out.length + xs.length
  | [], out => Nat.le_refl _
  | x :: xs, out => by
    unfold restF
    split
    · simp
    · have := restF_len (c := c) (sh := sh) xs (out ++ [x + predS c sh out])
      rw [List.length_append, List.length_singleton] at this
      rw [List.length_cons]
      omega
theorem wideB_false {x : Int} (h : wideB x = false) : narrow x := by
  unfold wideB at h
  rw [decide_eq_false_iff_not] at h
  unfold narrow
  omega
theorem f135_spec (k : Nat) {c warm res : List Int} {sh : Int} (hk : 1000 < k) (hc : c.length ≤ 8192) (hw : warm.length ≤ 900) (hr : res.length ≤ 900) :
    f135_F k ((c, sh, ()), warm, res, ()) = some (((restoreS c sh warm res).1, (restoreS c sh warm res).2, ()), ()) := by
  show f135_raw0 k (f135_L1 k) _ = _
  simp only [f135_raw0]
  rw [f172_spec k c sh (by omega)]
  simp only [Option.bind_some]
  unfold restoreS
  cases hm : modelB c sh with
  | false => rfl
  | true =>
    simp only [if_true, Bool.true_eq_false, if_false]
    rw [show ((0 : Int) != 0) = false from rfl]
    simp only [cond_false]
    rw [int_bne]
    by_cases hl : warm.length = c.length
    · rw [cneg (by simp [hl]), if_neg (by simpa using hl), f10403_spec k warm (by omega) (by omega)]
      simp only [Option.bind_some]
      cases hw1 : warm.any wideB with
      | true => rfl
      | false =>
        simp only [cond_false, Bool.false_eq_true, if_false]
        rw [f10403_spec k res (by omega) (by omega)]
        simp only [Option.bind_some]
        cases hr1 : res.any wideB with
        | true => rfl
        | false =>
          simp only [cond_false, Bool.false_eq_true, if_false]
          have ecl : f153_F k (warm, ()) = some (warm, ()) := by show cloneF _ = _; unfold cloneF; rw [cpos (by simp only; omega)]
          rw [ecl]
          simp only [Option.bind_some]
          obtain ⟨h8, hsh, hco⟩ := modelB_spec hm
          have := iter_list_inv (A := List Int) (R := (List Int × Int × Unit) × Unit) (step := fun L1 => f135_raw1 k L1)
            (fun i out => (Int.ofNat res.length, Int.ofNat i, res, c, sh, out)) res
            (fun l' out => some (((restF c sh l' out).1, (restF c sh l' out).2, ()), ()))
            (fun i out => c.length ≤ out.length ∧ out.length = warm.length + i ∧ ∀ x ∈ out, narrow x)
            (fun L out _ => by simp only [f135_raw1]; rw [cneg (nltR _)]; rfl)
            (fun L i hi out ho hL => by
              simp only [f135_raw1]
              rw [cpos (ltR hi), cpos (inR hi), f173_spec k (by omega) h8 ho.1 (by omega) hsh hco ho.2.2, getD_at hi]
              simp only [Option.bind_some]
              have hx := narrow_of hr1 res[i] (List.getElem_mem hi)
              have hp := predS_bound (sh := sh) hco ho.2.2 h8
              unfold narrow at hx
              rw [w64 (n := res[i] + predS c sh out) (by omega), f150_spec]
              simp only [Option.bind_some]
              unfold restF
              cases hwi : wideB (res[i] + predS c sh out) with
              | true => rfl
              | false =>
                simp only [cond_false, Bool.false_eq_true, if_false]
                rw [cpos (by simp only [List.length_singleton]; omega), wnext hi (by omega)]
                exact hL _ ⟨by simp; omega, by simp; omega, fun x hx => by
                  rcases List.mem_append.1 hx with h | h
                  · exact ho.2.2 x h
                  · rw [List.mem_singleton.1 h]; exact wideB_false hwi⟩)
            k 0 warm ⟨by omega, by omega, narrow_of hw1⟩ (by omega) (Nat.zero_le _)
          rw [List.drop_zero] at this
          exact this
    · rw [cpos (by simp only [Int.ofNat_eq_natCast]; omega), if_pos hl]
abbrev IS := List Bool × Int
def gI (w : Nat) (s : IS) : Nat × IS := if s.2 = 0 then ((getS w s.1).1, (getS w s.1).2.2, (getS w s.1).2.1) else (0, s)
def mI (ok : Bool) (s : IS) (code : Int) : IS := if s.2 = 0 ∧ ok = false then (s.1, code) else s
theorem gI_rest {b : List Int} {s : IS} (h : IsRest b s.1) (w : Nat) : IsRest b (gI w s).2.1 := by
  unfold gI
  split
  · exact getS_rest h w
  · exact h
theorem mI_rest {b : List Int} {s : IS} (h : IsRest b s.1) (ok : Bool) (code : Int) : IsRest b (mI ok s code).1 := by
  unfold mI
  split
  · exact h
  · exact h
theorem gI_lt (w : Nat) (s : IS) : (gI w s).1 < 2 ^ w := by
  unfold gI
  split
  · exact getS_lt w _
  · exact Nat.pow_pos (by omega)
theorem f129_spec (k : Nat) {b : List Int} (hb : bytesN b = true) (hn : b.length < 268435456) (hk : 100 < k) {s : IS} (hs : IsRest b s.1) {w : Nat} (hw : w ≤ 32) :
    f129_F k ((rst b s.1, s.2, ()), (w : Int), ()) = some ((((gI w s).1 : Nat) : Int), (rst b (gI w s).2.1, (gI w s).2.2, ()), ()) := by
  show f129_raw0 k _ = _
  simp only [f129_raw0]
  unfold gI
  rw [int_beq]
  by_cases h : s.2 = 0
  · rw [cpos h, if_pos h, f126_spec k hb (by omega) hs hw hk]
    rfl
  · rw [cneg h, if_neg h]
    rfl
theorem f128_spec (k : Nat) {b : List Int} {s : IS} (ok : Bool) : f128_F k ((rst b s.1, s.2, ()), ok, ()) = some ((), (rst b (mI ok s 2).1, (mI ok s 2).2, ()), ()) := by
  show f128_raw0 k _ = _
  simp only [f128_raw0]
  unfold mI
  rw [int_beq]
  by_cases h : s.2 = 0
  · rw [cpos h]
    cases ok with
    | false => rw [if_pos ⟨h, rfl⟩]; rfl
    | true => rw [if_neg (by simp)]; rfl
  · rw [cneg h, if_neg (fun hh => h hh.1)]
def kindB (n : Nat) : Bool := n = 0 ∨ n = 1 ∨ 8 ≤ n ∧ n ≤ 12 ∨ 32 ≤ n ∧ n ≤ 39
theorem f130_spec (k n : Nat) : f130_F k ((n : Int), ()) = some (kindB n, ()) := by
  show f130_raw0 k _ = _
  simp only [f130_raw0]
  unfold kindB
  rw [int_beq, int_beq]
  by_cases h0 : n = 0
  · rw [cpos (by omega), decide_eq_true (by omega)]
  · rw [cneg (by omega)]
    by_cases h1 : n = 1
    · rw [cpos (by omega), decide_eq_true (by omega)]
    · rw [cneg (by omega)]
      by_cases h8 : 8 ≤ n
      · rw [cpos (by omega)]
        by_cases h12 : n ≤ 12
        · rw [cpos (by omega), decide_eq_true (by omega)]
        · rw [cneg (by omega)]
          by_cases h31 : 31 < n
          · rw [cpos (by omega)]
            by_cases h39 : n ≤ 39
            · rw [decide_eq_true (by omega), decide_eq_true (by omega)]
            · rw [decide_eq_false (by omega), decide_eq_false (by omega)]
          · rw [cneg (by omega), decide_eq_false (by omega)]
      · rw [cneg (by omega), cneg (by omega), decide_eq_false (by omega)]
def lstI (w : Nat) : Nat → IS → List Int → List Int × IS
  | 0, s, acc => (acc, s)
  | n + 1, s, acc => if s.2 = 0 then lstI w n ((getSg w s.1).2.2, (getSg w s.1).2.1) (acc ++ [(getSg w s.1).1]) else lstI w n s (acc ++ [0])
theorem lstI_rest {b : List Int} {w : Nat} : ∀ (n : Nat) (s : IS) (acc : List Int), IsRest b s.1 → IsRest b (lstI w n s acc).2.1
  | 0, s, acc, h => h
  | n + 1, s, acc, h => by
    unfold lstI
    split
    · exact lstI_rest n _ _ (getSg_rest h w)
    · exact lstI_rest n _ _ h
theorem lstI_len {w : Nat} : ∀ (n : Nat) (s : IS) (acc : List Int), (lstI w n s acc).1.length = acc.length + n
  | 0, s, acc => rfl
  | n + 1, s, acc => by
    unfold lstI
    split
    · rw [lstI_len n, List.length_append, List.length_singleton]; omega
    · rw [lstI_len n, List.length_append, List.length_singleton]; omega
theorem f133_spec (k : Nat) {b : List Int} (hb : bytesN b = true) (hn : b.length < 268435456) (hk : 1000 < k) {s : IS} (hs : IsRest b s.1) {w n : Nat} (hw : w ≤ 32) (hnn : n ≤ 512) :
    f133_F k ((rst b s.1, s.2, ()), (n : Int), (w : Int), ()) = some ((lstI w n s []).1, (rst b (lstI w n s []).2.1, (lstI w n s []).2.2, ()), ()) := by
  show f133_raw0 k (f133_L1 k) _ = _
  simp only [f133_raw0]
  suffices H : ∀ (d m i : Nat) (s : IS) (acc : List Int), IsRest b s.1 → d < m → i + d ≤ 512 → acc.length = i →
      iter (fun L1 => f133_raw1 k L1) m (((i + d : Nat) : Int), (i : Int), (w : Int), s.2, b, ((posR b s.1 : Nat) : Int), acc) = some ((lstI w d s acc).1, (rst b (lstI w d s acc).2.1, (lstI w d s acc).2.2, ()), ()) by
    have := H n k 0 s [] hs (by omega) (by omega) rfl
    rw [Nat.zero_add] at this
    exact this
  intro d
  induction d with
  | zero =>
    intro m i s acc hs hm hi ha
    obtain ⟨m, rfl⟩ := pos_of_lt hm
    rw [iter_succ]
    simp only [f133_raw1]
    rw [cneg (by omega)]
    rfl
  | succ d ih =>
    intro m i s acc hs hm hi ha
    obtain ⟨m, rfl⟩ := pos_of_lt (show 0 < m by omega)
    rw [iter_succ]
    simp only [f133_raw1]
    have e2 : IntKind.i64.wrap ((i : Int) + 1) = ((i + 1 : Nat) : Int) := by rw [w64 (by omega)]; rfl
    rw [cpos (by omega), int_beq]
    unfold lstI
    by_cases h : s.2 = 0
    · rw [cpos h, if_pos h, f170_spec k hb (by omega) hs hw (by omega)]
      simp only [Option.bind_some]
      rw [cpos (by simp only [List.length_singleton]; omega), e2]
      have := ih m (i + 1) ((getSg w s.1).2.2, (getSg w s.1).2.1) (acc ++ [(getSg w s.1).1]) (getSg_rest hs w) (by omega) (by omega) (by simp; omega)
      rw [show i + 1 + d = i + (d + 1) by omega] at this
      exact this
    · rw [cneg h, if_neg h, cpos (by omega), e2]
      have := ih m (i + 1) s (acc ++ [0]) hs (by omega) (by omega) (by simp; omega)
      rw [show i + 1 + d = i + (d + 1) by omega] at this
      exact this
def subH1 (s : IS) : IS := mI ((gI 1 s).1 == 0) (gI 1 s).2 2
def subH2 (s : IS) : Nat × IS := ((gI 6 s).1, mI (kindB (gI 6 s).1) (gI 6 s).2 2)
def subH3 (kind depth : Nat) (s : IS) : Nat × Nat × IS :=
  if (gI 1 s).1 = 1 ∧ (gI 1 s).2.2 = 0 then (kind, (unS (gI 1 s).2.1).1 + 1, mI (decide ((unS (gI 1 s).2.1).1 + 1 < depth)) ((unS (gI 1 s).2.1).2.2, (unS (gI 1 s).2.1).2.1) 2)
  else (kind, 0, mI (decide (0 < depth)) (gI 1 s).2 2)
def subHead (depth : Nat) (s : IS) : Nat × Nat × IS := subH3 (subH2 (subH1 s)).1 depth (subH2 (subH1 s)).2
theorem beq_cast (a b : Nat) : ((a : Int) == (b : Int)) = (a == b) := by
  rw [Bool.eq_iff_iff, beq_iff_eq, beq_iff_eq]
  omega
theorem subH3_rest {b : List Int} {s : IS} (h : IsRest b s.1) (kind d : Nat) : IsRest b (subH3 kind d s).2.2.1 := by
  unfold subH3
  split
  · exact mI_rest (s := (_, _)) (unS_rest (gI_rest h _)) _ _
  · exact mI_rest (gI_rest h _) _ _
theorem subH1_rest {b : List Int} {s : IS} (h : IsRest b s.1) : IsRest b (subH1 s).1 := mI_rest (gI_rest h _) _ _
theorem subH2_rest {b : List Int} {s : IS} (h : IsRest b s.1) : IsRest b (subH2 s).2.1 := mI_rest (gI_rest h _) _ _
theorem subHead_rest {b : List Int} {s : IS} (h : IsRest b s.1) (d : Nat) : IsRest b (subHead d s).2.2.1 := subH3_rest (subH2_rest (subH1_rest h)) _ _
theorem f87_spec (k : Nat) {b : List Int} (hb : bytesN b = true) (hn : b.length < 268435456) (hk : 8 * b.length + 1000 < k) {s : IS} (hs : IsRest b s.1) (d : Nat) :
    f87_F k ((rst b s.1, s.2, ()), (d : Int), ()) = some (((((subHead d s).1 : Nat) : Int), (((subHead d s).2.1 : Nat) : Int), ()), (rst b (subHead d s).2.2.1, (subHead d s).2.2.2, ()), ()) := by
  show f87_raw0 k _ = _
  simp only [f87_raw0]
  refine (bind_of (f129_spec k hb hn (by omega) hs (w := 1) (by omega)) _).trans ?_
  refine (bind_of (f128_spec k (s := (gI 1 s).2) _) _).trans ?_
  rw [show ((((gI 1 s).1 : Nat) : Int) == (0 : Int)) = ((gI 1 s).1 == 0) from beq_cast _ 0]
  have r2 := subH1_rest hs
  unfold subHead
  change ((f129_F k ((rst b (subH1 s).1, (subH1 s).2, ()), 6, ())).bind _) = _
  generalize subH1 s = s1 at r2 ⊢
  refine (bind_of (f129_spec k hb hn (by omega) r2 (w := 6) (by omega)) _).trans ?_
  refine (bind_of (f130_spec k (gI 6 s1).1) _).trans ?_
  refine (bind_of (f128_spec k (s := (gI 6 s1).2) _) _).trans ?_
  have r4 := subH2_rest r2
  change ((f129_F k ((rst b (subH2 s1).2.1, (subH2 s1).2.2, ()), 1, ())).bind fun y_3 => bif y_3.1 == (1 : Int) then bif y_3.2.1.2.1 == (0 : Int) then (f131_F k ((y_3.2.1.1.1, y_3.2.1.1.2.1, ()), ())).bind fun y_4 => (f128_F k (((y_4.2.1.1, y_4.2.1.2.1, ()), y_4.1.2.1, ()), decide (IntKind.i64.wrap (y_4.1.1 + (1 : Int)) < d), ())).bind fun y_5 => some (((((subH2 s1).1 : Nat) : Int), IntKind.i64.wrap (y_4.1.1 + (1 : Int)), ()), ((y_5.2.1.1.1, y_5.2.1.1.2.1, ()), y_5.2.1.2.1, ()), ())
    else (f128_F k (((y_3.2.1.1.1, y_3.2.1.1.2.1, ()), y_3.2.1.2.1, ()), decide ((0 : Int) < d), ())).bind fun y_4 => some (((((subH2 s1).1 : Nat) : Int), 0, ()), ((y_4.2.1.1.1, y_4.2.1.1.2.1, ()), y_4.2.1.2.1, ()), ())
    else (f128_F k (((y_3.2.1.1.1, y_3.2.1.1.2.1, ()), y_3.2.1.2.1, ()), decide ((0 : Int) < d), ())).bind fun y_4 => some (((((subH2 s1).1 : Nat) : Int), 0, ()), ((y_4.2.1.1.1, y_4.2.1.1.2.1, ()), y_4.2.1.2.1, ()), ())) = _
  generalize (subH2 s1).1 = kind
  generalize (subH2 s1).2 = s2 at r4 ⊢
  unfold subH3
  have r5 := gI_rest r4 1
  refine (bind_of (f129_spec k hb hn (by omega) r4 (w := 1) (by omega)) _).trans ?_
  simp only
  rw [show ((((gI 1 s2).1 : Nat) : Int) == (1 : Int)) = ((gI 1 s2).1 == 1) from beq_cast _ 1]
  have fin0 : ((f128_F k ((rst b (gI 1 s2).2.1, (gI 1 s2).2.2, ()), decide ((0 : Int) < (d : Int)), ())).bind fun y_4 => some ((((kind : Nat) : Int), 0, ()), ((y_4.2.1.1.1, y_4.2.1.1.2.1, ()), y_4.2.1.2.1, ()), ())) =
      some ((((kind : Nat) : Int), (((0 : Nat) : Int)), ()), (rst b (mI (decide (0 < d)) (gI 1 s2).2 2).1, (mI (decide (0 < d)) (gI 1 s2).2 2).2, ()), ()) := by
    refine (bind_of (f128_spec k (s := (gI 1 s2).2) _) _).trans ?_
    have : decide ((0 : Int) < (d : Int)) = decide (0 < d) := by
      by_cases h : 0 < d
      · rw [decide_eq_true h, decide_eq_true (by omega)]
      · rw [decide_eq_false h, decide_eq_false (by omega)]
    rw [this]
    rfl
  by_cases h1 : (gI 1 s2).1 = 1
  · rw [show ((gI 1 s2).1 == 1) = true from by simp [h1]]
    simp only [cond_true]
    rw [int_beq]
    by_cases h2 : (gI 1 s2).2.2 = 0
    · rw [cpos h2, if_pos ⟨h1, h2⟩]
      refine (bind_of (f131_spec k hb (by omega) r5 (by omega)) _).trans ?_
      have hu := unS_le (r := (gI 1 s2).2.1)
      have hl := r5.len
      have e1 : IntKind.i64.wrap ((((unS (gI 1 s2).2.1).1 : Nat) : Int) + 1) = (((unS (gI 1 s2).2.1).1 + 1 : Nat) : Int) := by rw [w64 (by omega)]; rfl
      simp only
      rw [e1]
      refine (bind_of (f128_spec k (b := b) (s := ((unS (gI 1 s2).2.1).2.2, (unS (gI 1 s2).2.1).2.1)) _) _).trans ?_
      have : decide ((((unS (gI 1 s2).2.1).1 + 1 : Nat) : Int) < (d : Int)) = decide ((unS (gI 1 s2).2.1).1 + 1 < d) := by
        by_cases h : (unS (gI 1 s2).2.1).1 + 1 < d
        · rw [decide_eq_true h, decide_eq_true (by omega)]
        · rw [decide_eq_false h, decide_eq_false (by omega)]
      rw [this]
    · rw [cneg h2, if_neg (fun h => h2 h.2)]
      exact fin0
  · rw [show ((gI 1 s2).1 == 1) = false from by simp [h1]]
    simp only [cond_false]
    rw [if_neg (fun h => h1 h.1)]
    exact fin0
end Go.Sh
namespace Go.Sh
open Go Go.Proofs
def bodyZ (coefs : List Int) (sh : Int) (c n : Nat) (warm : List Int) (s : IS) : List Int × IS :=
  if (riceR n c s.1).2.1 ≠ 0 then ([], ((riceR n c s.1).2.2, (riceR n c s.1).2.1))
  else ((restoreS coefs sh warm (riceR n c s.1).1).1, ((riceR n c s.1).2.2, (restoreS coefs sh warm (riceR n c s.1).1).2))
def coefA (s : IS) : IS := mI ((gI 4 s).1 == 11) (gI 4 s).2 2
def coefB' (s : IS) : Nat × IS := ((gI 5 s).1, mI (decide ((gI 5 s).1 ≤ 15)) (gI 5 s).2 2)
def bodyN (c n : Nat) (warm : List Int) (sh : Nat) (x : List Int × IS) : List Int × IS :=
  if x.2.2 ≠ 0 then ([], x.2) else bodyZ x.1 sh c n warm x.2
def bodyW (num : Bool) (c n : Nat) (w : List Int × IS) : List Int × IS :=
  if num = true then bodyN c n w.1 (coefB' (coefA w.2)).1 (lstI 12 c (coefB' (coefA w.2)).2 [])
  else if w.2.2 ≠ 0 then ([], w.2) else bodyZ (fixedC (min 4 c)) 0 c n w.1 w.2
def bodyM (num : Bool) (c n depth : Nat) (s : IS) : List Int × IS :=
  if (mI (decide (c ≤ n)) s 2).2 ≠ 0 then ([], mI (decide (c ≤ n)) s 2) else bodyW num c n (lstI depth c (mI (decide (c ≤ n)) s 2) [])
def bodyI (kind n depth : Nat) (s : IS) : List Int × IS :=
  if kind = 0 then (List.replicate n ((lstI depth 1 s []).1.headD 0), (lstI depth 1 s []).2)
  else if kind = 1 then lstI depth n s []
  else if 31 < kind then bodyM true (kind - 31) n depth s else bodyM false (kind - 8) n depth s
theorem blocksR_len {m n o p : Nat} : ∀ (d i : Nat) (r : List Bool) (acc : List Int), (blocksR m n o p d i r acc).1.length ≤ acc.length + d * (n / 2 ^ p)
  | 0, _, r, acc => by simp [blocksR]
  | d + 1, i, r, acc => by
    unfold blocksR
    have hle : (n / 2 ^ p - if i = 0 then o else 0) ≤ n / 2 ^ p := Nat.sub_le _ _
    generalize (n / 2 ^ p - if i = 0 then o else 0) = cnt at hle ⊢
    have h1 := partR_len m cnt r
    rw [Nat.add_mul, Nat.one_mul]
    split
    · simp
    · have := blocksR_len (m := m) (n := n) (o := o) (p := p) d (i + 1) (partR m cnt r).2.2 (acc ++ (partR m cnt r).1)
      rw [List.length_append] at this
      omega
theorem riceR_len {n o : Nat} (r : List Bool) : (riceR n o r).1.length ≤ n := by
  unfold riceR
  repeat' split
  all_goals try simp
  rename_i hf
  have hf : fitR n o (getS 4 (getS 2 r).2.2).1 = true := by simpa using hf
  unfold fitR at hf
  simp only [Bool.and_eq_true, decide_eq_true_eq] at hf
  have := blocksR_len (m := (getS 2 r).1) (n := n) (o := o) (p := (getS 4 (getS 2 r).2.2).1) (2 ^ (getS 4 (getS 2 r).2.2).1) 0 (getS 4 (getS 2 r).2.2).2.2 []
  rw [List.length_nil, Nat.zero_add] at this
  refine Nat.le_trans this ?_
  rw [Nat.mul_comm]
  exact Nat.div_mul_le_self _ _
theorem mI_zero {ok : Bool} {s : IS} {code : Int} (hc : code ≠ 0) : (mI ok s code).2 = 0 ↔ s.2 = 0 ∧ ok = true := by
  unfold mI
  split
  · rename_i h
    exact ⟨fun e => absurd e hc, fun e => by rw [h.2] at e; exact absurd e.2 (by simp)⟩
  · rename_i h
    constructor
    · intro e
      refine ⟨e, ?_⟩
      cases ok with
      | true => rfl
      | false => exact absurd ⟨e, rfl⟩ h
    · exact fun e => e.1
theorem subHead_zero {d : Nat} {s : IS} (h : (subHead d s).2.2.2 = 0) : (subHead d s).2.1 < d ∧ kindB (subHead d s).1 = true := by
  unfold subHead at h ⊢
  have hk : (subH2 (subH1 s)).2.2 = 0 → kindB (subH2 (subH1 s)).1 = true := fun h => ((mI_zero (by decide)).1 h).2
  generalize (subH2 (subH1 s)).1 = kind at h hk ⊢
  generalize (subH2 (subH1 s)).2 = s2 at h hk ⊢
  have g0 : (gI 1 s2).2.2 = 0 → s2.2 = 0 := by
    unfold gI
    split
    · rename_i h; exact fun _ => h
    · exact fun e => e
  unfold subH3 at h ⊢
  split
  · rename_i hc
    rw [if_pos hc] at h
    have := (mI_zero (by decide)).1 h
    exact ⟨of_decide_eq_true this.2, hk (g0 hc.2)⟩
  · rename_i hc
    rw [if_neg hc] at h
    have := (mI_zero (by decide)).1 h
    exact ⟨of_decide_eq_true this.2, hk (g0 this.1)⟩
theorem bodyZ_rest {b : List Int} {coefs warm : List Int} {sh : Int} {c n : Nat} {s : IS} (h : IsRest b s.1) : IsRest b (bodyZ coefs sh c n warm s).2.1 := by
  unfold bodyZ
  split
  · exact riceR_rest h _ _
  · exact riceR_rest h _ _
theorem bodyZ_len {coefs warm : List Int} {sh : Int} {c n : Nat} {s : IS} : (bodyZ coefs sh c n warm s).1.length ≤ warm.length + n := by
  unfold bodyZ
  split
  · simp
  · have h1 := riceR_len (n := n) (o := c) s.1
    simp only
    unfold restoreS
    repeat' split
    all_goals try simp
    have := restF_len (c := coefs) (sh := sh) (riceR n c s.1).1 warm
    omega
theorem coefA_rest {b : List Int} {s : IS} (h : IsRest b s.1) : IsRest b (coefA s).1 := mI_rest (gI_rest h _) _ _
theorem coefB_rest {b : List Int} {s : IS} (h : IsRest b s.1) : IsRest b (coefB' s).2.1 := mI_rest (gI_rest h _) _ _
theorem bodyN_rest {b : List Int} {c n : Nat} {warm : List Int} {sh : Nat} {x : List Int × IS} (h : IsRest b x.2.1) : IsRest b (bodyN c n warm sh x).2.1 := by
  unfold bodyN
  split
  · exact h
  · exact bodyZ_rest h
theorem bodyW_rest {b : List Int} {num : Bool} {c n : Nat} {w : List Int × IS} (h : IsRest b w.2.1) : IsRest b (bodyW num c n w).2.1 := by
  unfold bodyW
  split
  · exact bodyN_rest (lstI_rest _ _ _ (coefB_rest (coefA_rest h)))
  · split
    · exact h
    · exact bodyZ_rest h
theorem bodyM_rest {b : List Int} {num : Bool} {c n d : Nat} {s : IS} (h : IsRest b s.1) : IsRest b (bodyM num c n d s).2.1 := by
  unfold bodyM
  split
  · exact mI_rest h _ _
  · exact bodyW_rest (lstI_rest _ _ _ (mI_rest h _ _))
theorem bodyI_rest {b : List Int} {kind n d : Nat} {s : IS} (h : IsRest b s.1) : IsRest b (bodyI kind n d s).2.1 := by
  unfold bodyI
  split
  · exact lstI_rest _ _ _ h
  · split
    · exact lstI_rest _ _ _ h
    · split
      · exact bodyM_rest h
      · exact bodyM_rest h
theorem bodyM_len {num : Bool} {c n d : Nat} {s : IS} (hc : c ≤ 8) : (bodyM num c n d s).1.length ≤ 8 + n := by
  unfold bodyM
  split
  · simp
  · have hl := lstI_len (w := d) c (mI (decide (c ≤ n)) s 2) []
    generalize lstI d c (mI (decide (c ≤ n)) s 2) [] = w at hl
    simp only [List.length_nil, Nat.zero_add] at hl
    unfold bodyW bodyN
    repeat' split
    all_goals try simp
    · have := bodyZ_len (coefs := (lstI 12 c (coefB' (coefA w.2)).2 []).1) (warm := w.1) (sh := ((coefB' (coefA w.2)).1 : Nat)) (c := c) (n := n) (s := (lstI 12 c (coefB' (coefA w.2)).2 []).2)
      omega
    · have := bodyZ_len (coefs := fixedC (min 4 c)) (warm := w.1) (sh := 0) (c := c) (n := n) (s := w.2)
      omega
theorem bodyI_len {kind n d : Nat} {s : IS} (hk : kindB kind = true) : (bodyI kind n d s).1.length ≤ 8 + n := by
  have hk := of_decide_eq_true hk
  unfold bodyI
  split
  · simp
  · split
    · rw [lstI_len]; simp
    · split
      · exact bodyM_len (by omega)
      · exact bodyM_len (by omega)
abbrev BT := List Int × ((List Int × Int × Unit) × Int × Unit) × Unit
theorem f88_z (k : Nat) {b : List Int} (hb : bytesN b = true) (hn : b.length < 268435456) (hk : 8 * b.length + 50000 < k) {s : IS} (hs : IsRest b s.1) {coefs warm : List Int} (hco : coefs.length ≤ 8192) (hw : warm.length ≤ 8) {sh : Int} {n c : Nat} (hnn : n ≤ 512) :
    ((f134_F k (rst b s.1, (n : Int), (c : Int), ())).bind fun y_2 => bif y_2.1.2.1 != (0 : Int) then some (([], ((y_2.2.1.1, y_2.2.1.2.1, ()), y_2.1.2.1, ()), ()) : BT) else (f135_F k ((coefs, sh, ()), warm, y_2.1.1, ())).bind fun y => some (y.1.1, ((y_2.2.1.1, y_2.2.1.2.1, ()), y.1.2.1, ()), ())) =
      some ((bodyZ coefs sh c n warm s).1, (rst b (bodyZ coefs sh c n warm s).2.1, (bodyZ coefs sh c n warm s).2.2, ()), ()) := by
  refine (bind_of (f134_spec k hb hn hs hk n c) _).trans ?_
  unfold bodyZ
  simp only
  rw [int_bne]
  by_cases h : (riceR n c s.1).2.1 = 0
  · rw [cneg (by simpa using h), if_neg (by simpa using h)]
    have hl := riceR_len (n := n) (o := c) s.1
    exact bind_of (f135_spec k (by omega) hco (by omega) (by omega)) _
  · rw [cpos h, if_pos h]
theorem f88_spec (k : Nat) {b : List Int} (hb : bytesN b = true) (hn : b.length < 268435456) (hk : 8 * b.length + 50000 < k) {s : IS} (hs : IsRest b s.1) {kind n d : Nat} (hkd : kindB kind = true) (h1 : 1 ≤ n) (hnn : n ≤ 512) (hd : d ≤ 32) :
    f88_F k ((rst b s.1, s.2, ()), (kind : Int), (n : Int), (d : Int), ()) = some ((bodyI kind n d s).1, (rst b (bodyI kind n d s).2.1, (bodyI kind n d s).2.2, ()), ()) := by
  show f88_raw0 k _ = _
  simp only [f88_raw0]
  have hkd := of_decide_eq_true hkd
  unfold bodyI
  rw [int_beq, int_beq]
  by_cases h0 : kind = 0
  · rw [cpos (by omega), if_pos h0]
    refine (bind_of (f133_spec k hb hn (by omega) hs (w := d) (n := 1) hd (by omega)) _).trans ?_
    have hl := lstI_len (w := d) 1 s []
    generalize lstI d 1 s [] = w at hl
    obtain ⟨w1, w2⟩ := w
    match w1, hl with
    | [x], _ =>
      refine (bind_of (f132_spec k x h1 hnn (by omega)) _).trans ?_
      rfl
  · rw [cneg (by omega), if_neg h0]
    by_cases hk1 : kind = 1
    · rw [cpos (by omega), if_pos hk1]
      exact bind_of (f133_spec k hb hn (by omega) hs (w := d) (n := n) hd hnn) _
    · rw [cneg (by omega), if_neg hk1]
      by_cases h31 : 31 < kind
      · simp only [cpos (show (31 : Int) < (kind : Int) by omega)]
        rw [if_pos h31]
        have ec : IntKind.i64.wrap ((kind : Int) - 31) = ((kind - 31 : Nat) : Int) := by rw [w64 (by omega)]; omega
        simp only [ec]
        have hc8 : kind - 31 ≤ 8 := by omega
        generalize kind - 31 = c at hc8
        have edn : decide ((c : Int) ≤ (n : Int)) = decide (c ≤ n) := by
          by_cases h : c ≤ n
          · rw [decide_eq_true h, decide_eq_true (by omega)]
          · rw [decide_eq_false h, decide_eq_false (by omega)]
        rw [edn]
        refine (bind_of (f128_spec k (s := s) _) _).trans ?_
        unfold bodyM
        have r1 := mI_rest hs (decide (c ≤ n)) 2
        generalize mI (decide (c ≤ n)) s 2 = s1 at r1 ⊢
        simp only
        rw [int_bne]
        by_cases he : s1.2 = 0
        · rw [cneg (by simpa using he), if_neg (show ¬ s1.2 ≠ 0 by simpa using he)]
          refine (bind_of (f133_spec k hb hn (by omega) r1 (w := d) (n := c) hd (by omega)) _).trans ?_
          have r2 := lstI_rest (w := d) c s1 [] r1
          have hl := lstI_len (w := d) c s1 []
          generalize lstI d c s1 [] = w at r2 hl ⊢
          simp only [List.length_nil, Nat.zero_add] at hl
          have e4 : (if (4 : Int) < (c : Int) then (4 : Int) else (c : Int)) = ((min 4 c : Nat) : Int) := by split <;> omega
          simp only
          rw [e4]
          refine (bind_of (f109_spec k (min 4 c) (by omega) (by omega)) _).trans ?_
          unfold bodyW
          rw [if_pos rfl]
          refine (bind_of (f129_spec k hb hn (by omega) r2 (w := 4) (by omega)) _).trans ?_
          refine (bind_of (f128_spec k (s := (gI 4 w.2).2) _) _).trans ?_
          rw [show ((((gI 4 w.2).1 : Nat) : Int) == (11 : Int)) = ((gI 4 w.2).1 == 11) from beq_cast _ 11]
          have r3 := coefA_rest r2
          change ((f129_F k ((rst b (coefA w.2).1, (coefA w.2).2, ()), 5, ())).bind _) = _
          generalize coefA w.2 = s3 at r3 ⊢
          refine (bind_of (f129_spec k hb hn (by omega) r3 (w := 5) (by omega)) _).trans ?_
          refine (bind_of (f128_spec k (s := (gI 5 s3).2) _) _).trans ?_
          have e15 : decide ((((gI 5 s3).1 : Nat) : Int) ≤ 15) = decide ((gI 5 s3).1 ≤ 15) := by
            by_cases h : (gI 5 s3).1 ≤ 15
            · rw [decide_eq_true h, decide_eq_true (by omega)]
            · rw [decide_eq_false h, decide_eq_false (by omega)]
          rw [e15]
          have r4 := coefB_rest r3
          change ((f133_F k ((rst b (coefB' s3).2.1, (coefB' s3).2.2, ()), (c : Int), 12, ())).bind fun y_6 => bif y_6.2.1.2.1 != (0 : Int) then some (([], ((y_6.2.1.1.1, y_6.2.1.1.2.1, ()), y_6.2.1.2.1, ()), ()) : BT) else (f134_F k ((y_6.2.1.1.1, y_6.2.1.1.2.1, ()), (n : Int), (c : Int), ())).bind fun y_7 => bif y_7.1.2.1 != (0 : Int) then some ([], ((y_7.2.1.1, y_7.2.1.2.1, ()), y_7.1.2.1, ()), ()) else (f135_F k ((y_6.1, (((coefB' s3).1 : Nat) : Int), ()), w.1, y_7.1.1, ())).bind fun y => some (y.1.1, ((y_7.2.1.1, y_7.2.1.2.1, ()), y.1.2.1, ()), ())) = _
          generalize (coefB' s3).1 = sh
          generalize (coefB' s3).2 = s4 at r4 ⊢
          refine (bind_of (f133_spec k hb hn (by omega) r4 (w := 12) (n := c) (by omega) (by omega)) _).trans ?_
          have r5 := lstI_rest (w := 12) c s4 [] r4
          have hl5 := lstI_len (w := 12) c s4 []
          generalize lstI 12 c s4 [] = x at r5 hl5 ⊢
          simp only [List.length_nil, Nat.zero_add] at hl5
          unfold bodyN
          simp only
          rw [int_bne]
          by_cases hx : x.2.2 = 0
          · rw [cneg (by simpa using hx), if_neg (by simpa using hx)]
            exact f88_z k hb hn hk r5 (by omega) (by omega) hnn
          · rw [cpos hx, if_pos hx]
        · rw [cpos he, if_pos he]
      · simp only [cneg (show ¬ (31 : Int) < (kind : Int) by omega)]
        rw [if_neg h31]
        have ec : IntKind.i64.wrap ((kind : Int) - 8) = ((kind - 8 : Nat) : Int) := by rw [w64 (by omega)]; omega
        simp only [ec]
        have hc8 : kind - 8 ≤ 4 := by omega
        generalize kind - 8 = c at hc8
        have edn : decide ((c : Int) ≤ (n : Int)) = decide (c ≤ n) := by
          by_cases h : c ≤ n
          · rw [decide_eq_true h, decide_eq_true (by omega)]
          · rw [decide_eq_false h, decide_eq_false (by omega)]
        rw [edn]
        refine (bind_of (f128_spec k (s := s) _) _).trans ?_
        unfold bodyM
        have r1 := mI_rest hs (decide (c ≤ n)) 2
        generalize mI (decide (c ≤ n)) s 2 = s1 at r1 ⊢
        simp only
        rw [int_bne]
        by_cases he : s1.2 = 0
        · rw [cneg (by simpa using he), if_neg (show ¬ s1.2 ≠ 0 by simpa using he)]
          refine (bind_of (f133_spec k hb hn (by omega) r1 (w := d) (n := c) hd (by omega)) _).trans ?_
          have r2 := lstI_rest (w := d) c s1 [] r1
          have hl := lstI_len (w := d) c s1 []
          generalize lstI d c s1 [] = w at r2 hl ⊢
          simp only [List.length_nil, Nat.zero_add] at hl
          have e4 : (if (4 : Int) < (c : Int) then (4 : Int) else (c : Int)) = ((min 4 c : Nat) : Int) := by split <;> omega
          simp only
          rw [e4]
          refine (bind_of (f109_spec k (min 4 c) (by omega) (by omega)) _).trans ?_
          unfold bodyW
          rw [if_neg (by simp)]
          simp only
          rw [int_bne]
          by_cases hx : w.2.2 = 0
          · rw [cneg (by simpa using hx), if_neg (by simpa using hx)]
            exact f88_z k hb hn hk r2 (by rw [fixedC_len _ (by omega)]; omega) (by omega) hnn
          · rw [cpos hx, if_pos hx]
        · rw [cpos he, if_pos he]
def subReadS (n d : Nat) (r : List Bool) : List Int × Int × List Bool :=
  if ¬ (1 ≤ n ∧ n ≤ 512 ∧ 4 ≤ d ∧ d ≤ 25) then ([], 1, r)
  else if (subHead d (r, 0)).2.2.2 ≠ 0 then ([], (subHead d (r, 0)).2.2.2, (subHead d (r, 0)).2.2.1)
  else if (bodyI (subHead d (r, 0)).1 n (d - (subHead d (r, 0)).2.1) (subHead d (r, 0)).2.2).2.2 ≠ 0 then ([], (bodyI (subHead d (r, 0)).1 n (d - (subHead d (r, 0)).2.1) (subHead d (r, 0)).2.2).2.2, (bodyI (subHead d (r, 0)).1 n (d - (subHead d (r, 0)).2.1) (subHead d (r, 0)).2.2).2.1)
  else if (bodyI (subHead d (r, 0)).1 n (d - (subHead d (r, 0)).2.1) (subHead d (r, 0)).2.2).1.all (sgn · (d - (subHead d (r, 0)).2.1)) = true then
    ((bodyI (subHead d (r, 0)).1 n (d - (subHead d (r, 0)).2.1) (subHead d (r, 0)).2.2).1.map (fun x => x * 2 ^ (subHead d (r, 0)).2.1), 0, (bodyI (subHead d (r, 0)).1 n (d - (subHead d (r, 0)).2.1) (subHead d (r, 0)).2.2).2.1)
  else ([], 12, (bodyI (subHead d (r, 0)).1 n (d - (subHead d (r, 0)).2.1) (subHead d (r, 0)).2.2).2.1)
theorem subReadS_rest {b : List Int} {r : List Bool} (h : IsRest b r) (n d : Nat) : IsRest b (subReadS n d r).2.2 := by
  unfold subReadS
  have h1 := subHead_rest (s := (r, 0)) h d
  repeat' split
  all_goals first | exact h | exact h1 | exact bodyI_rest h1
theorem sgn_shl {x : Int} {d k : Nat} (hk : k < d) (hd : d ≤ 32) (h : sgn x (d - k) = true) : sgn (x * 2 ^ k) d = true ∧ -9223372036854775808 ≤ x * 2 ^ k ∧ x * 2 ^ k ≤ 9223372036854775807 := by
  unfold sgn at h ⊢
  rw [if_neg (by omega), decide_eq_true_eq] at h
  rw [if_neg (by omega), decide_eq_true_eq]
  have hp : (0 : Int) < 2 ^ k := Int.pow_pos (by omega)
  have e : (2 : Int) ^ (d - 1) = 2 ^ (d - k - 1) * 2 ^ k := by rw [← Int.pow_add]; congr 1; omega
  have h1 : -(2 ^ (d - 1) : Int) ≤ x * 2 ^ k := by rw [e, ← Int.neg_mul]; exact Int.mul_le_mul_of_nonneg_right h.1 (by omega)
  have h2 : x * 2 ^ k < 2 ^ (d - 1) := by rw [e]; exact Int.mul_lt_mul_of_pos_right h.2 hp
  refine ⟨⟨h1, h2⟩, ?_⟩
  rw [pow_cast (d - 1)] at h1 h2
  have : 2 ^ (d - 1) ≤ 2 ^ 31 := Nat.pow_le_pow_right (by omega) (by omega)
  generalize 2 ^ (d - 1) = Q at h1 h2 this
  omega
theorem f46_spec (k : Nat) {b : List Int} (hb : bytesN b = true) (hn : b.length < 268435456) (hk : 8 * b.length + 50000 < k) {r : List Bool} (hr : IsRest b r) (n d : Nat) :
    f46_F k (rst b r, (n : Int), (d : Int), ()) = some (((subReadS n d r).1, (subReadS n d r).2.1, ()), rst b (subReadS n d r).2.2, ()) := by
  show f46_raw0 k (f46_L1 k) _ = _
  simp only [f46_raw0]
  rw [f86_spec]
  simp only [Option.bind_some]
  unfold subReadS
  by_cases h : 1 ≤ n ∧ n ≤ 512 ∧ 4 ≤ d ∧ d ≤ 25
  · rw [if_neg (by simpa using h), decide_eq_true (by omega)]
    simp only [Bool.not_true, cond_false]
    refine (bind_of (f87_spec k hb hn (by omega) (s := (r, 0)) hr d) _).trans ?_
    have hz := subHead_zero (d := d) (s := (r, 0))
    have r1 := subHead_rest (s := (r, 0)) hr d
    generalize subHead d (r, 0) = hd at hz r1 ⊢
    obtain ⟨kind, kk, s1⟩ := hd
    simp only at hz r1 ⊢
    rw [int_bne]
    by_cases he : s1.2 = 0
    · rw [cneg (by simpa using he), if_neg (by simpa using he)]
      obtain ⟨hkd, hkind⟩ := hz he
      have e1 : IntKind.i64.wrap ((d : Int) - (kk : Int)) = ((d - kk : Nat) : Int) := by rw [w64 (by omega)]; omega
      rw [e1]
      refine (bind_of (f88_spec k hb hn hk r1 hkind h.1 h.2.1 (d := d - kk) (by omega)) _).trans ?_
      have hl := bodyI_len (kind := kind) (n := n) (d := d - kk) (s := s1) hkind
      generalize bodyI kind n (d - kk) s1 = y at hl ⊢
      simp only
      rw [int_bne]
      by_cases hy : y.2.2 = 0
      · rw [cneg (by simpa using hy), if_neg (by simpa using hy)]
        have := iter_list_inv (A := List Int) (R := (List Int × Int × Unit) × (List Int × Int × Unit) × Unit) (step := fun L1 => f46_raw1 k L1)
          (fun i out => (Int.ofNat y.1.length, Int.ofNat i, y.1, (d : Int), (kk : Int), b, ((posR b y.2.1 : Nat) : Int), out)) y.1
          (fun l' out => some (if l'.all (sgn · (d - kk)) = true then ((out ++ l'.map (fun x => x * 2 ^ kk), 0, ()), rst b y.2.1, ()) else (([], 12, ()), rst b y.2.1, ())))
          (fun i out => out.length = i)
          (fun L out _ => by simp only [f46_raw1]; rw [cneg (nltR _)]; simp)
          (fun L i hi out ho hL => by
            simp only [f46_raw1]
            rw [cpos (ltR hi), cpos (inR hi), getD_at hi, e1, f89_spec k _ (by omega) (by omega)]
            simp only [Option.bind_some]
            rw [List.all_cons]
            cases hs : sgn y.1[i] (d - kk) with
            | false => simp
            | true =>
              simp only [Bool.not_true, cond_false, Bool.true_and]
              have hsh := (sgn_shl hkd (by omega) hs).2
              rw [cpos (by omega), Int.toNat_natCast, Nat.min_eq_left (by omega), w64 hsh, cpos (by simp only [List.length_singleton]; omega), wnext hi (by omega), hL _ (by simp; omega)]
              simp only [List.map_cons, List.append_assoc, List.singleton_append])
          k 0 [] rfl (by omega) (Nat.zero_le _)
        rw [List.drop_zero] at this
        refine Eq.trans this ?_
        split <;> simp
      · rw [cpos hy, if_pos hy]
    · rw [cpos he, if_pos he]
  · rw [if_pos h, decide_eq_false (by omega)]
    rfl
end Go.Sh
namespace Go.Sh
open Go Go.Proofs
def ones (x : Nat) : Nat := if x < 128 then 0 else if x < 192 then 1 else if x < 224 then 2 else if x < 240 then 3 else if x < 248 then 4 else if x < 252 then 5 else if x < 254 then 6 else if x < 255 then 7 else 8
theorem ones_tab : ∀ x : Fin 256, f168_F 0 (IntKind.u8.wrap (Int.ofNat (BitVec.ofInt 8 255 ^^^ BitVec.ofInt 8 (x.val : Int)).toNat), ()) = some (((ones x.val : Nat) : Int), ()) := by decide +kernel
theorem f168_spec (k : Nat) {x : Nat} (h : x < 256) : f168_F k (IntKind.u8.wrap (Int.ofNat (BitVec.ofInt 8 255 ^^^ BitVec.ofInt 8 (x : Int)).toNat), ()) = some (((ones x : Nat) : Int), ()) := ones_tab ⟨x, h⟩
theorem ones_le (x : Nat) : ones x ≤ 8 := by
  unfold ones
  repeat' split
  all_goals omega
theorem mask_tab : ∀ (x : Fin 256) (k : Fin 8), IntKind.i64.wrap (Int.ofNat (BitVec.ofInt 64 (IntKind.i64.wrap (x.val : Int)) &&& BitVec.ofInt 64 (Int.fdiv (127 : Int) ((2 : Int) ^ min k.val 64))).toNat) = ((x.val % 2 ^ (7 - k.val) : Nat) : Int) := by decide +kernel
def cgL : Nat → List Int → Nat → Nat → Option (Nat × Nat)
  | 0, _, a, g => some (a, g)
  | n + 1, [], a, g => cgL n [] (a * 64) (g * 64 + 63)
  | n + 1, x :: xs, a, g => if x.toNat / 64 = 2 then cgL n xs (a * 64 + x.toNat % 64) (g * 64 + x.toNat % 64) else none
def getC (b : List Int) : Nat × Nat × Int := match b with
  | [] => (0, 0, 10)
  | x :: xs => if ones x.toNat = 0 then (x.toNat, 1, 0) else if ones x.toNat = 1 then (0, 0, 2) else if 7 < ones x.toNat then (0, 0, 2)
    else match cgL (ones x.toNat - 1) xs (x.toNat % 2 ^ (7 - ones x.toNat)) (x.toNat % 2 ^ (7 - ones x.toNat)) with
      | none => (0, 0, 2)
      | some (a, g) => if g < 2 ^ room (ones x.toNat - 1) then (0, 0, 2) else if xs.length + 1 < ones x.toNat then (0, 0, 10) else (a, ones x.toNat, 0)
theorem or63 {a m : Nat} (ha : a < 1125899906842624) (hm : m < 64) : IntKind.i64.wrap (Int.ofNat (BitVec.ofInt 64 (IntKind.i64.wrap ((a : Int) * 64)) ||| BitVec.ofInt 64 (m : Int)).toNat) = ((a * 64 + m : Nat) : Int) := by
  have h1 : IntKind.i64.wrap ((a : Int) * 64) = ((a * 64 : Nat) : Int) := by rw [w64 (by omega)]; omega
  rw [h1, orN (by omega) (by omega)]
  have := Nat.shiftLeft_add_eq_or_of_lt (i := 6) (show m < 2 ^ 6 from hm) a
  rw [Nat.shiftLeft_eq] at this
  rw [show a * 64 = a * 2 ^ 6 from rfl, ← this, w64 (by omega)]
theorem and63 {x : Nat} (hx : x < 256) : IntKind.i64.wrap (Int.ofNat (BitVec.ofInt 64 (IntKind.i64.wrap (x : Int)) &&& BitVec.ofInt 64 63).toNat) = ((x % 64 : Nat) : Int) := by
  rw [w64 (n := (x : Int)) (by omega), show (63 : Int) = ((63 : Nat) : Int) from rfl, andN (by omega) (by omega), show (63 : Nat) = 2 ^ 6 - 1 from rfl, Nat.and_two_pow_sub_one_eq_mod, w64 (by omega)]
theorem f127_loop (k : Nat) {b : List Int} (hb : bytesN b = true) {kk : Nat} (h2 : 2 ≤ kk) (h7 : kk ≤ 7) : ∀ (d m i a g : Nat), i + d = kk → 1 ≤ i → d < m → a < 2 ^ (6 * i + 6) → g < 2 ^ (6 * i + 6) →
    iter (fun L1 => f127_raw1 k L1) m ((i : Int), (kk : Int), b, (a : Int), (g : Int)) = some (match cgL d (b.drop i) a g with
      | none => (0, 0, 2, ())
      | some (a, g) => if g < 2 ^ room (kk - 1) then (0, 0, 2, ()) else if b.length < kk then (0, 0, 10, ()) else ((a : Int), (kk : Int), 0, ()), ()) := by
  intro d
  induction d with
  | zero =>
    intro m i a g hi h1 hm ha hg
    obtain ⟨m, rfl⟩ := pos_of_lt hm
    rw [iter_succ]
    simp only [f127_raw1]
    have e1 : IntKind.i64.wrap ((kk : Int) - 1) = ((kk - 1 : Nat) : Int) := by rw [w64 (by omega)]; omega
    rw [cneg (by omega), e1, f64_spec k (kk - 1) (by omega)]
    simp only [Option.bind_some, cgL]
    have hr : room (kk - 1) ≤ 31 := by unfold room; split <;> omega
    rw [cpos (by omega), one_shl hr]
    by_cases hlt : g < 2 ^ room (kk - 1)
    · rw [cpos (by omega), if_pos hlt]
    · rw [cneg (by omega), if_neg hlt]
      by_cases hl : b.length < kk
      · rw [cpos (by simp only [Int.ofNat_eq_natCast]; omega), if_pos hl]
      · rw [cneg (by simp only [Int.ofNat_eq_natCast]; omega), if_neg hl]
  | succ d ih =>
    intro m i a g hi h1 hm ha hg
    obtain ⟨m, rfl⟩ := pos_of_lt (show 0 < m by omega)
    rw [iter_succ]
    simp only [f127_raw1]
    have hpow : 2 ^ (6 * i + 6) ≤ 2 ^ 42 := Nat.pow_le_pow_right (by omega) (by omega)
    have hnext : 2 ^ (6 * (i + 1) + 6) = 64 * 2 ^ (6 * i + 6) := by rw [show 6 * (i + 1) + 6 = (6 * i + 6) + 6 by omega, Nat.pow_add]; omega
    have e2 : IntKind.i64.wrap ((i : Int) + 1) = ((i + 1 : Nat) : Int) := by rw [w64 (by omega)]; rfl
    rw [cpos (by omega)]
    by_cases hlt : i < b.length
    · obtain ⟨x, hx, hxe⟩ := bytesN_get hb hlt
      rw [cpos (by simp only [Int.ofNat_eq_natCast]; omega), cpos (by simp only [Int.ofNat_eq_natCast]; omega), Int.toNat_natCast, getD_of hlt, hxe, List.drop_eq_getElem_cons hlt, hxe]
      have hd : ((x : Nat) : Int).fdiv 64 = ((x / 64 : Nat) : Int) := by rw [Int.fdiv_eq_ediv_of_nonneg _ (by omega)]; rfl
      rw [hd, int_bne]
      simp only [cgL, Int.toNat_natCast]
      by_cases h64 : x / 64 = 2
      · rw [cneg (by omega), if_pos h64, cpos (by simp only [Int.ofNat_eq_natCast]; omega), and63 hx, or63 (by omega) (by omega), or63 (by omega) (by omega), e2]
        exact ih m (i + 1) _ _ (by omega) (by omega) (by omega) (by omega) (by omega)
      · rw [cpos (by omega), if_neg h64]
    · rw [cneg (by simp only [Int.ofNat_eq_natCast]; omega), show (0 : Int) = ((0 : Nat) : Int) from rfl, show (63 : Int) = ((63 : Nat) : Int) from rfl, or63 (by omega) (by omega), or63 (by omega) (by omega), e2]
      have hd0 : b.drop i = [] := List.drop_eq_nil_of_le (by omega)
      have hd1 : b.drop (i + 1) = [] := List.drop_eq_nil_of_le (by omega)
      have := ih m (i + 1) (a * 64 + 0) (g * 64 + 63) (by omega) (by omega) (by omega) (by omega) (by omega)
      rw [hd1] at this
      rw [hd0]
      exact this
theorem f127_spec (k : Nat) {b : List Int} (hb : bytesN b = true) (hk : 20 < k) : f127_F k (b, ()) = some (((((getC b).1 : Nat) : Int), (((getC b).2.1 : Nat) : Int), (getC b).2.2, ()), ()) := by
  show f127_raw0 k (f127_L1 k) _ = _
  simp only [f127_raw0]
  match b, hb with
  | [], _ => rfl
  | x :: xs, hb =>
    obtain ⟨y, hy, hye⟩ := bytesN_get hb (i := 0) (by simp)
    simp only [List.getElem_cons_zero] at hye
    subst hye
    rw [show (Int.ofNat ((y : Int) :: xs).length == (0 : Int)) = false from by rw [int_beq, decide_eq_false]; simp only [Int.ofNat_eq_natCast, List.length_cons]; omega]
    simp only [cond_false]
    have hpos : (0 : Int) ≤ 0 ∧ (0 : Int) < Int.ofNat ((y : Int) :: xs).length := by simp only [Int.ofNat_eq_natCast, List.length_cons]; omega
    rw [cpos hpos, show ((y : Int) :: xs).getD 0 0 = (y : Int) from rfl, f168_spec k hy]
    simp only [Option.bind_some]
    unfold getC
    simp only [Int.toNat_natCast]
    have h8 := ones_le y
    rw [int_beq]
    by_cases h0 : ones y = 0
    · rw [cpos (by omega), cpos hpos, if_pos h0, w64 (by omega)]
      rfl
    · rw [cneg (by omega), if_neg h0, int_beq]
      by_cases h1 : ones y = 1
      · rw [cpos (by omega), if_pos h1]
        rfl
      · rw [cneg (by omega), if_neg h1]
        by_cases h7 : 7 < ones y
        · rw [cpos (by omega), if_pos h7]
          rfl
        · rw [cneg (by omega), if_neg h7, cpos hpos, cpos (by omega), cpos hpos, cpos (by omega)]
          have hm := mask_tab ⟨y, hy⟩ ⟨ones y, by omega⟩
          simp only at hm
          rw [hm]
          have hlt : y % 2 ^ (7 - ones y) < 2 ^ (6 * 1 + 6) := Nat.lt_of_le_of_lt (Nat.mod_le _ _) (by omega)
          refine (f127_loop k hb (kk := ones y) (by omega) (by omega) (ones y - 1) k 1 _ _ (by omega) (by omega) (by omega) hlt hlt).trans ?_
          rw [show ((y : Int) :: xs).drop 1 = xs from rfl]
          cases cgL (ones y - 1) xs (y % 2 ^ (7 - ones y)) (y % 2 ^ (7 - ones y)) with
          | none => rfl
          | some ag =>
            obtain ⟨a, g⟩ := ag
            simp only [List.length_cons]
            by_cases hg : g < 2 ^ room (ones y - 1)
            · rw [if_pos hg, if_pos hg]; rfl
            · rw [if_neg hg, if_neg hg]
              by_cases hl : xs.length + 1 < ones y
              · rw [if_pos hl, if_pos hl]; rfl
              · rw [if_neg hl, if_neg hl]
def tgL (m x y : Int) : Int := if m = 9 then x + y else if m = 10 then (2 * x + y % 2 + y) / 2 else x
def tgR (m x y : Int) : Int := if m = 8 then x - y else if m = 10 then (2 * x + y % 2 - y) / 2 else y
theorem or_odd {x y : Int} (hx : small26 x) (hy : small26 y) : IntKind.i64.wrap (Int.ofNat (BitVec.ofInt 64 (IntKind.i64.wrap (x * 2)) ||| BitVec.ofInt 64 (IntKind.i64.wrap (Int.ofNat (BitVec.ofInt 64 y &&& BitVec.ofInt 64 1).toNat))).toNat) = 2 * x + y % 2 := by
  unfold small26 at hx hy
  have e1 : IntKind.i64.wrap (Int.ofNat (BitVec.ofInt 64 y &&& BitVec.ofInt 64 1).toNat) = (((y % 2).toNat : Nat) : Int) := by
    rw [BitVec.toNat_and, ofInt_toNat, show (BitVec.ofInt 64 1).toNat = 1 from rfl, Nat.and_one_is_mod]
    have : lowW y % 2 = (y % 2).toNat := by unfold lowW; omega
    rw [this, w64 (by simp only [Int.ofNat_eq_natCast]; omega)]
    rfl
  rw [e1, w64 (n := x * 2) (by omega), BitVec.toNat_or, ofInt_toNat, ofInt_toNat]
  have e2 : lowW (((y % 2).toNat : Nat) : Int) = (y % 2).toNat := by unfold lowW; omega
  obtain ⟨q, hq⟩ : ∃ q, lowW (x * 2) = q * 2 := ⟨lowW (x * 2) / 2, by unfold lowW; omega⟩
  have hb : (y % 2).toNat < 2 ^ 1 := by omega
  have := Nat.shiftLeft_add_eq_or_of_lt hb q
  rw [Nat.shiftLeft_eq] at this
  rw [e2, hq, show q * 2 = q * 2 ^ 1 from rfl, ← this]
  have h3 : q * 2 = lowW (x * 2) := hq.symm
  unfold lowW at h3
  rw [IntKind.wrap_i64]
  simp only [Int.ofNat_eq_natCast]
  omega
def togL (m : Int) (A B : List Int) : List Int := (A.zip B).map fun x => tgL m x.1 x.2
def togR (m : Int) (A B : List Int) : List Int := (A.zip B).map fun x => tgR m x.1 x.2
def farOk (x : Int) : Bool := decide (-16777216 ≤ x ∧ x ≤ 16777216)
theorem f59_any (k : Nat) {L R : List Int} (hk : L.length < k) (h : L.length = R.length) (hn : L.length ≤ 8192) :
    f59_F k (L, R, ()) = some (if (L.zip R).all (fun x => farOk x.1 && farOk x.2) = true then (joinS L R, 0, ()) else ([], 12, ()), ()) := by
  show f59_raw0 k (f59_L1 k) _ = _
  simp only [f59_raw0]
  rw [show (Int.ofNat L.length != Int.ofNat R.length) = false from by rw [h]; simp]
  simp only [cond_false]
  rw [cneg (by simp only [Int.ofNat_eq_natCast]; omega)]
  have := iter_list_inv (A := List (Nat × Nat)) (step := fun L1 => f59_raw1 k L1) (fun i acc => (Int.ofNat L.length, Int.ofNat i, L, R, acc)) (L.zip R)
    (fun l acc => some (if l.all (fun x => farOk x.1 && farOk x.2) = true then (acc ++ l.map (fun x => (FloatKind.f64.nearest x.1, FloatKind.f64.nearest x.2)), 0, ()) else ([], 12, ()), ())) (fun i acc => acc.length = i)
    (fun L1 acc ha => by
      simp only [f59_raw1]
      rw [List.length_zip, ← h, Nat.min_self, cneg (nltR _)]
      simp)
    (fun L1 i hi acc ha hL1 => by
      have hi2 : i < L.length := by simp at hi; omega
      have hi3 : i < R.length := by omega
      simp only [f59_raw1]
      rw [cpos (ltR hi2), cpos (inR hi2), cpos (inR hi3), getD_at hi2, getD_at hi3, List.all_cons, List.getElem_zip]
      have hok : ∀ x : Int, farOk x = true ↔ (¬ x < -16777216 ∧ ¬ 16777216 < x) := by intro x; unfold farOk; rw [decide_eq_true_eq]; omega
      by_cases h1 : L[i] < -16777216
      · have : farOk L[i] = false := by rw [Bool.eq_false_iff]; intro hh; exact ((hok _).1 hh).1 h1
        rw [cpos h1, this]; rfl
      · rw [cneg h1]
        by_cases h2 : 16777216 < L[i]
        · have : farOk L[i] = false := by rw [Bool.eq_false_iff]; intro hh; exact ((hok _).1 hh).2 h2
          rw [cpos h2, this]; rfl
        · have hl : farOk L[i] = true := (hok _).2 ⟨h1, h2⟩
          rw [cneg h2]
          by_cases h3 : R[i] < -16777216
          · have : farOk R[i] = false := by rw [Bool.eq_false_iff]; intro hh; exact ((hok _).1 hh).1 h3
            rw [cpos h3, hl, this]; rfl
          · rw [cneg h3]
            by_cases h4 : 16777216 < R[i]
            · have : farOk R[i] = false := by rw [Bool.eq_false_iff]; intro hh; exact ((hok _).1 hh).2 h4
              rw [cpos h4, hl, this]; rfl
            · have hr : farOk R[i] = true := (hok _).2 ⟨h3, h4⟩
              rw [cneg h4, cpos (by simp; omega), wnext hi2 (by omega), hL1 _ (by simp [ha]), hl, hr]
              simp only [Bool.true_and, Bool.and_true, List.map_cons, List.append_assoc, List.singleton_append]) k 0 [] rfl (by simp; omega) (Nat.zero_le _)
  exact Eq.trans this (by rw [List.drop_zero]; rfl)
theorem tg_bound {m x y : Int} (hm : isMd m) (hx : small26 x) (hy : small26 y) : -300000000 ≤ tgL m x y ∧ tgL m x y ≤ 300000000 ∧ -300000000 ≤ tgR m x y ∧ tgR m x y ≤ 300000000 := by
  unfold small26 at hx hy
  unfold tgL tgR
  rcases hm with rfl | rfl | rfl | rfl
  · simp; omega
  · simp; omega
  · simp; omega
  · simp; omega
def togetherS (m : Int) (A B : List Int) : List (Nat × Nat) × Int :=
  if A.length ≠ B.length then ([], 1) else if ((togL m A B).zip (togR m A B)).all (fun x => farOk x.1 && farOk x.2) = true then (joinS (togL m A B) (togR m A B), 0) else ([], 12)
theorem set_part {xs : List Int} {g : List Int} {i : Nat} {v : Int} (h : i < xs.length) (hx : ∀ j (h : j < i), xs[j]? = g[j]?) (hv : g[i]? = some v) : ∀ j, j < i + 1 → (xs.set i v)[j]? = g[j]? := by
  intro j hj
  rw [List.getElem?_set]
  split
  · rename_i e; subst e; rw [hv]; try rw [if_pos h]
  · exact hx j (by omega)
theorem f49_spec (k : Nat) {A B : List Int} {m : Int} (hm : isMd m) (hn : A.length ≤ 600) (hk : 1000 < k) (hA : ∀ x ∈ A, small26 x) (hB : ∀ x ∈ B, small26 x) :
    f49_F k (A, B, m, ()) = some (((togetherS m A B).1, (togetherS m A B).2, ()), ()) := by
  show f49_raw0 k (f49_L1 k) _ = _
  simp only [f49_raw0]
  rw [f91_spec k hm]
  simp only [Option.bind_some, Bool.not_true, cond_false]
  by_cases hl : A.length = B.length
  case neg =>
    rw [int_bne, cpos (by simp only [Int.ofNat_eq_natCast]; omega)]
    unfold togetherS
    rw [if_pos hl]
  rw [show (Int.ofNat A.length != Int.ofNat B.length) = false from by rw [hl]; simp]
  simp only [cond_false]
  rw [cneg (by simp only [Int.ofNat_eq_natCast]; omega), cpos (by simp only [Int.ofNat_eq_natCast]; omega), cpos (by simp only [Int.ofNat_eq_natCast]; omega)]
  have hzl : (A.zip B).length = A.length := by rw [List.length_zip]; omega
  have hLl : (togL m A B).length = A.length := by unfold togL; rw [List.length_map, hzl]
  have hRl : (togR m A B).length = A.length := by unfold togR; rw [List.length_map, hzl]
  have hgL : ∀ (i : Nat) (h : i < A.length), (togL m A B)[i]? = some (tgL m A[i] (B[i]'(by omega))) := by
    intro i h
    rw [List.getElem?_eq_getElem (by omega)]
    unfold togL
    rw [List.getElem_map, List.getElem_zip]
  have hgR : ∀ (i : Nat) (h : i < A.length), (togR m A B)[i]? = some (tgR m A[i] (B[i]'(by omega))) := by
    intro i h
    rw [List.getElem?_eq_getElem (by omega)]
    unfold togR
    rw [List.getElem_map, List.getElem_zip]
  have := iter_list_inv (A := List Int × List Int) (R := (List (Nat × Nat) × Int × Unit) × Unit) (step := fun L1 => f49_raw1 k L1)
    (fun i a => (Int.ofNat A.length, Int.ofNat i, A, B, m, a.1, a.2)) A
    (fun l' a => some (((togetherS m A B).1, (togetherS m A B).2, ()), ()))
    (fun i a => a.1.length = A.length ∧ a.2.length = A.length ∧ (∀ j, j < i → a.1[j]? = (togL m A B)[j]?) ∧ (∀ j, j < i → a.2[j]? = (togR m A B)[j]?))
    (fun L a ha => by
      simp only [f49_raw1]
      rw [cneg (nltR _)]
      have e1 : a.1 = togL m A B := by
        apply List.ext_getElem?
        intro j
        by_cases hj : j < A.length
        · exact ha.2.2.1 j hj
        · rw [List.getElem?_eq_none (by omega), List.getElem?_eq_none (by omega)]
      have e2 : a.2 = togR m A B := by
        apply List.ext_getElem?
        intro j
        by_cases hj : j < A.length
        · exact ha.2.2.2 j hj
        · rw [List.getElem?_eq_none (by omega), List.getElem?_eq_none (by omega)]
      rw [e1, e2, f59_any k (by omega) (by omega) (by omega)]
      simp only [Option.bind_some]
      unfold togetherS
      rw [if_neg (show ¬ A.length ≠ B.length from fun h => h hl)]
      split <;> rfl)
    (fun L i hi a ha hL => by
      have hi2 : i < B.length := by omega
      have hx := hA A[i] (List.getElem_mem hi)
      have hy := hB B[i] (List.getElem_mem hi2)
      have hbd := tg_bound hm hx hy
      have key : f49_raw1 k L (Int.ofNat A.length, Int.ofNat i, A, B, m, a.1, a.2) = L (Int.ofNat A.length, Int.ofNat (i + 1), A, B, m, a.1.set i (tgL m A[i] B[i]), a.2.set i (tgR m A[i] B[i])) := by
        have hor := or_odd hx hy
        unfold small26 at hx hy
        simp only [f49_raw1]
        rw [cpos (ltR hi), cpos (inR hi), cpos (inR hi2), getD_at hi, getD_at hi2, cneg (by split <;> omega), cneg (by split <;> omega)]
        have c1 : (0 : Int) ≤ Int.ofNat i ∧ Int.ofNat i < Int.ofNat a.1.length := by rw [ha.1]; exact inR hi
        have c2 : (0 : Int) ≤ Int.ofNat i ∧ Int.ofNat i < Int.ofNat a.2.length := by rw [ha.2.1]; exact inR hi
        have c3 : (Int.ofNat i).toNat < a.1.length := by rw [ha.1]; simpa using hi
        have c4 : (Int.ofNat i).toNat < a.2.length := by rw [ha.2.1]; simpa using hi
        rw [int_beq, int_beq, int_beq, int_beq]
        simp only [decide_eq_true c1, decide_eq_true c2, decide_eq_true c3, decide_eq_true c4, cond_true]
        rw [hor, wnext hi (by omega)]
        unfold tgL tgR
        rcases hm with rfl | rfl | rfl | rfl
        · rfl
        · rw [w64 (n := A[i] - B[i]) (by omega)]; rfl
        · rw [w64 (n := A[i] + B[i]) (by omega)]; rfl
        · rw [w64 (n := 2 * A[i] + B[i] % 2 + B[i]) (by omega), w64 (n := 2 * A[i] + B[i] % 2 - B[i]) (by omega), Int.fdiv_eq_ediv_of_nonneg _ (by omega), Int.fdiv_eq_ediv_of_nonneg _ (by omega)]
          rfl
      rw [key]
      exact hL (a.1.set i (tgL m A[i] B[i]), a.2.set i (tgR m A[i] B[i])) ⟨by simp [ha.1], by simp [ha.2.1], set_part (by omega) ha.2.2.1 (hgL i hi), set_part (by omega) ha.2.2.2 (hgR i hi)⟩)
    k 0 (List.replicate A.length 0, List.replicate A.length 0) ⟨by simp, by simp, fun j hj => by omega, fun j hj => by omega⟩ (by omega) (Nat.zero_le _)
  exact this
theorem f50_spec (k : Nat) {p : List (Nat × Nat)} {L R : List Int} (hp : PP p L R) (hk : p.length + 4 < k) (hn : p.length ≤ 8192) : f50_F k (p, ()) = some ((L, R, 0, ()), ()) := by
  show f50_raw0 k _ = _
  simp only [f50_raw0]
  rw [f61_spec k hp hk hn (.inl rfl)]
  have hlr : L.length = R.length := by rw [← hp.hl, hp.hr]
  have e1 : apartA 0 L R = L := by
    unfold apartA
    show (L.zip R).map (fun x => x.1) = L
    exact List.map_fst_zip (by omega)
  have e2 : apartB 0 L R = R := by
    unfold apartB
    show (L.zip R).map (fun x => x.2) = R
    exact List.map_snd_zip (by omega)
  rw [e1, e2]
  rfl
end Go.Sh
namespace Go.Sh
open Go Go.Proofs
abbrev InT := List Int × (List Int × Int × Unit) × Int × Unit
abbrev inp (b : List Int) (s : IS) : InT := (b, rst b s.1, s.2, ())
theorem f83_spec (k : Nat) {b : List Int} (hb : bytesN b = true) (hn : b.length < 268435456) (hk : 100 < k) {s : IS} (hs : IsRest b s.1) {w : Nat} (hw : w ≤ 32) :
    f83_F k (inp b s, (w : Int), ()) = some ((((gI w s).1 : Nat) : Int), inp b (gI w s).2, ()) := by
  show f83_raw0 k _ = _
  simp only [f83_raw0]
  unfold gI
  rw [int_beq]
  by_cases h : s.2 = 0
  · rw [cpos h, if_pos h, f126_spec k hb (by omega) hs hw hk]
    rfl
  · rw [cneg h, if_neg h]
    rfl
theorem f82_spec (k : Nat) {b : List Int} {s : IS} (ok : Bool) (code : Int) : f82_F k (inp b s, ok, code, ()) = some ((), inp b (mI ok s code), ()) := by
  show f82_raw0 k _ = _
  simp only [f82_raw0]
  unfold mI
  rw [int_beq]
  by_cases h : s.2 = 0
  · rw [cpos h]
    cases ok with
    | false => rw [if_pos ⟨h, rfl⟩]; rfl
    | true => rw [if_neg (by simp)]; rfl
  · rw [cneg h, if_neg (fun hh => h hh.1)]
def modeB (c : Int) (m : Nat) : Bool := if c = 1 then m == 0 else m == 1 || (decide (8 ≤ m) && decide (m ≤ 10))
theorem f84_spec (k : Nat) (c d r : Int) (m : Nat) : f84_F k ((c, d, r, ()), (m : Int), ()) = some (modeB c m, ()) := by
  show f84_raw0 k _ = _
  simp only [f84_raw0]
  unfold modeB
  rw [int_beq, show ((m : Int) == (0 : Int)) = (m == 0) from beq_cast m 0, show ((m : Int) == (1 : Int)) = (m == 1) from beq_cast m 1]
  by_cases h : c = 1
  · rw [cpos h, if_pos h]
  · rw [cneg h, if_neg h]
    cases m == 1 with
    | true => rfl
    | false =>
      simp only [cond_false, Bool.false_or]
      by_cases h8 : 8 ≤ m
      · rw [cpos (by omega), decide_eq_true h8, Bool.true_and]
        by_cases h10 : m ≤ 10
        · rw [decide_eq_true h10, decide_eq_true (by omega)]
        · rw [decide_eq_false h10, decide_eq_false (by omega)]
      · rw [cneg (by omega), decide_eq_false h8, Bool.false_and]
def skipI : Nat → IS → IS
  | 0, s => s
  | n + 1, s => skipI n (gI 8 s).2
theorem skipI_rest {b : List Int} : ∀ (n : Nat) (s : IS), IsRest b s.1 → IsRest b (skipI n s).1
  | 0, s, h => h
  | n + 1, s, h => skipI_rest n _ (gI_rest h 8)
def numI (b : List Int) (s : IS) : Nat × IS :=
  if s.2 ≠ 0 then (0, s) else ((getC (b.drop (posR b s.1 / 8))).1, mI (decide ((getC (b.drop (posR b s.1 / 8))).1 ≤ 2147483647)) (skipI (getC (b.drop (posR b s.1 / 8))).2.1 (s.1, (getC (b.drop (posR b s.1 / 8))).2.2)) 2)
theorem numI_rest {b : List Int} {s : IS} (h : IsRest b s.1) : IsRest b (numI b s).2.1 := by
  unfold numI
  split
  · exact h
  · exact mI_rest (skipI_rest (getC (b.drop (posR b s.1 / 8))).2.1 (s.1, (getC (b.drop (posR b s.1 / 8))).2.2) h) _ _
theorem bytesN_drop {b : List Int} (h : bytesN b = true) (i : Nat) : bytesN (b.drop i) = true :=
  List.all_eq_true.2 fun x hx => List.all_eq_true.1 h x (List.mem_of_mem_drop hx)
theorem bytesN_take {b : List Int} (h : bytesN b = true) (i : Nat) : bytesN (b.take i) = true :=
  List.all_eq_true.2 fun x hx => List.all_eq_true.1 h x (List.mem_of_mem_take hx)
theorem getC_used (b : List Int) : (getC b).2.1 ≤ 8 := by
  unfold getC
  split
  · simp
  · rename_i x xs
    have := ones_le x.toNat
    repeat' split
    all_goals simp
    all_goals omega
theorem f85_spec (k : Nat) {b : List Int} (hb : bytesN b = true) (hn : b.length < 268435456) (hk : 1000 < k) {s : IS} (hs : IsRest b s.1) :
    f85_F k (inp b s, ()) = some ((((numI b s).1 : Nat) : Int), inp b (numI b s).2, ()) := by
  show f85_raw0 k (f85_L1 k) _ = _
  simp only [f85_raw0]
  unfold numI
  rw [int_bne]
  by_cases h : s.2 = 0
  · rw [cneg (by simpa using h), if_neg (by simpa using h)]
    have e51 : f51_F k ((b, ((posR b s.1 : Nat) : Int), ()), ()) = some (((posR b s.1 : Nat) : Int), rst b s.1, ()) := rfl
    rw [e51]
    simp only [Option.bind_some]
    have hp : posR b s.1 ≤ 8 * b.length := by unfold posR; omega
    rw [tdiv8, w64 (n := ((posR b s.1 / 8 : Nat) : Int)) (by omega), cpos (by simp only [Int.ofNat_eq_natCast]; omega), Int.toNat_natCast, show (Int.ofNat b.length).toNat = b.length from rfl, List.take_length]
    rw [f127_spec k (bytesN_drop hb _) (by omega)]
    simp only [Option.bind_some]
    have hu := getC_used (b.drop (posR b s.1 / 8))
    generalize getC (b.drop (posR b s.1 / 8)) = c at hu
    have H : ∀ (d m i : Nat) (t : IS), IsRest b t.1 → d < m → i + d ≤ 8 →
        iter (fun L1 => f85_raw1 k L1) m (((i + d : Nat) : Int), (i : Int), ((c.1 : Nat) : Int), b, t.2, b, ((posR b t.1 : Nat) : Int)) = some (((c.1 : Nat) : Int), inp b (mI (decide (c.1 ≤ 2147483647)) (skipI d t) 2), ()) := by
      intro d
      induction d with
      | zero =>
        intro m i t ht hm hi
        obtain ⟨m, rfl⟩ := pos_of_lt hm
        rw [iter_succ]
        simp only [f85_raw1]
        rw [cneg (by omega)]
        refine (bind_of (f82_spec k (b := b) (s := t) _ _) _).trans ?_
        have : decide (((c.1 : Nat) : Int) ≤ 2147483647) = decide (c.1 ≤ 2147483647) := by
          by_cases h : c.1 ≤ 2147483647
          · rw [decide_eq_true h, decide_eq_true (by omega)]
          · rw [decide_eq_false h, decide_eq_false (by omega)]
        rw [this]
        rfl
      | succ d ih =>
        intro m i t ht hm hi
        obtain ⟨m, rfl⟩ := pos_of_lt (show 0 < m by omega)
        rw [iter_succ]
        simp only [f85_raw1]
        rw [cpos (by omega)]
        refine (bind_of (f83_spec k hb hn (by omega) ht (w := 8) (by omega)) _).trans ?_
        have e2 : IntKind.i64.wrap ((i : Int) + 1) = ((i + 1 : Nat) : Int) := by rw [w64 (by omega)]; rfl
        rw [e2]
        have := ih m (i + 1) (gI 8 t).2 (gI_rest ht 8) (by omega) (by omega)
        rw [show i + 1 + d = i + (d + 1) by omega] at this
        exact this
    have := H c.2.1 k 0 (s.1, c.2.2) hs (by omega) (by omega)
    rw [Nat.zero_add] at this
    exact this
  · rw [cpos h, if_pos h]
    rfl
def sumI (of : List Int → Nat) (b : List Int) (w : Nat) (s : IS) : IS := if (gI w s).2.2 ≠ 0 then (gI w s).2 else mI ((gI w s).1 == of (b.take (posR b s.1 / 8))) (gI w s).2 16
theorem sumI_rest {of : List Int → Nat} {b : List Int} {s : IS} (h : IsRest b s.1) (w : Nat) : IsRest b (sumI of b w s).1 := by
  unfold sumI
  split
  · exact gI_rest h _
  · exact mI_rest (gI_rest h _) _ _
theorem mI_true (s : IS) (code : Int) : mI true s code = s := by unfold mI; rw [if_neg (by simp)]
theorem f48_spec (k : Nat) {b : List Int} (hb : bytesN b = true) (hn : b.length < 268435456) (hk : b.length + 1000 < k) {s : IS} (hs : IsRest b s.1) {w : Nat} (hw : w ≤ 32) :
    f48_F k (inp b s, (w : Int), (), ()) = some ((), inp b (sumI crc8 b w s), ()) := by
  show f48_raw0 k _ = _
  simp only [f48_raw0]
  have e51 : f51_F k ((b, ((posR b s.1 : Nat) : Int), ()), ()) = some (((posR b s.1 : Nat) : Int), rst b s.1, ()) := rfl
  rw [e51]
  simp only [Option.bind_some]
  refine (bind_of (f83_spec k hb hn (by omega) hs hw) _).trans ?_
  unfold sumI
  simp only
  rw [int_bne]
  by_cases h : (gI w s).2.2 = 0
  · rw [cneg (by simpa using h), if_neg (by simpa using h)]
    have hp : posR b s.1 ≤ 8 * b.length := by unfold posR; omega
    rw [tdiv8, w64 (n := ((posR b s.1 / 8 : Nat) : Int)) (by omega), cpos (by simp only [Int.ofNat_eq_natCast]; omega), Int.toNat_natCast, List.drop_zero]
    have htl : (b.take (posR b s.1 / 8)).length ≤ b.length := by rw [List.length_take]; omega
    refine (bind_of (f28_spec k (b.take (posR b s.1 / 8)) (bytesN_take hb _) (by omega) (by omega)) _).trans ?_
    simp only
    rw [beq_cast]
    exact bind_of (f82_spec k (b := b) (s := (gI w s).2) _ _) _
  · rw [cpos h, if_pos h]
    refine (bind_of (f82_spec k (b := b) (s := (gI w s).2) _ _) _).trans ?_
    rw [mI_true]
theorem f1048_spec (k : Nat) {b : List Int} (hb : bytesN b = true) (hn : b.length < 268435456) (hk : b.length + 1000 < k) {s : IS} (hs : IsRest b s.1) {w : Nat} (hw : w ≤ 32) :
    f1048_F k (inp b s, (w : Int), (), ()) = some ((), inp b (sumI crc16 b w s), ()) := by
  show f1048_raw0 k _ = _
  simp only [f1048_raw0]
  have e51 : f51_F k ((b, ((posR b s.1 : Nat) : Int), ()), ()) = some (((posR b s.1 : Nat) : Int), rst b s.1, ()) := rfl
  rw [e51]
  simp only [Option.bind_some]
  refine (bind_of (f83_spec k hb hn (by omega) hs hw) _).trans ?_
  unfold sumI
  simp only
  rw [int_bne]
  by_cases h : (gI w s).2.2 = 0
  · rw [cneg (by simpa using h), if_neg (by simpa using h)]
    have hp : posR b s.1 ≤ 8 * b.length := by unfold posR; omega
    rw [tdiv8, w64 (n := ((posR b s.1 / 8 : Nat) : Int)) (by omega), cpos (by simp only [Int.ofNat_eq_natCast]; omega), Int.toNat_natCast, List.drop_zero]
    have htl : (b.take (posR b s.1 / 8)).length ≤ b.length := by rw [List.length_take]; omega
    refine (bind_of (f33_spec k (b.take (posR b s.1 / 8)) (bytesN_take hb _) (by omega) (by omega)) _).trans ?_
    simp only
    rw [beq_cast]
    exact bind_of (f82_spec k (b := b) (s := (gI w s).2) _ _) _
  · rw [cpos h, if_pos h]
    refine (bind_of (f82_spec k (b := b) (s := (gI w s).2) _ _) _).trans ?_
    rw [mI_true]
def hd1 (s : IS) : IS := mI ((gI 15 s).1 == 32764) (gI 15 s).2 11
def hd2 (s : IS) : IS := mI ((gI 1 s).1 == 0) (gI 1 s).2 2
def hd3 (s : IS) : Nat × IS := ((gI 4 s).1, mI ((gI 4 s).1 == 6 || (gI 4 s).1 == 7) (gI 4 s).2 2)
def hd4 (s : IS) : IS := mI ((gI 4 s).1 == 0) (gI 4 s).2 2
def hd5 (c : Int) (s : IS) : Nat × IS := ((gI 4 s).1, mI (modeB c (gI 4 s).1) (gI 4 s).2 2)
def hd6 (kind : Nat) (s : IS) : Nat × IS := if s.2 = 0 then ((gI (8 * (kind - 5)) s).1 + 1, mI (decide ((gI (8 * (kind - 5)) s).1 + 1 ≤ 512)) (gI (8 * (kind - 5)) s).2 1) else (0, s)
abbrev HdT := Nat × Nat × Nat × IS
def hdT5 (b : List Int) (kind mode num : Nat) (s : IS) : HdT := (mode, num, (hd6 kind s).1, sumI crc8 b 8 (hd6 kind s).2)
def hdT4 (b : List Int) (kind mode : Nat) (s : IS) : HdT := hdT5 b kind mode (numI b s).1 (numI b s).2
def hdT3 (c : Int) (b : List Int) (kind : Nat) (s : IS) : HdT := hdT4 b kind (hd5 c s).1 (hd4 (hd5 c s).2)
def hdT2 (c : Int) (b : List Int) (kind : Nat) (s : IS) : HdT := hdT3 c b kind (hd4 s)
def headI (c : Int) (b : List Int) (s : IS) : HdT := hdT2 c b (hd3 (hd2 (hd1 s))).1 (hd3 (hd2 (hd1 s))).2
abbrev HRes := (Int × Int × Int × Unit) × InT × Unit
def f45_t5 (k : Nat) (kind mode num : Int) (w : InT) : Option HRes :=
  bif w.2.2.1 == (0 : Int) then (f83_F k (w, IntKind.i64.wrap ((8 : Int) * IntKind.i64.wrap (IntKind.i64.wrap (kind - (6 : Int)) + (1 : Int))), ())).bind fun y => (f82_F k (y.2.1, decide (IntKind.i64.wrap (y.1 + (1 : Int)) ≤ (512 : Int)), 1, ())).bind fun y_10 => (f48_F k (y_10.2.1, 8, (), ())).bind fun y_11 => some ((mode, num, IntKind.i64.wrap (y.1 + (1 : Int)), ()), y_11.2.1, ())
  else (f82_F k (w, decide ((0 : Int) ≤ (512 : Int)), 1, ())).bind fun y => (f48_F k (y.2.1, 8, (), ())).bind fun y => some ((mode, num, 0, ()), y.2.1, ())
def f45_t2 (k : Nat) (sh : Int × Int × Int × Unit) (kind : Int) (w : InT) : Option HRes :=
  (f83_F k (w, 4, ())).bind fun y_2 => (f82_F k (y_2.2.1, y_2.1 == (0 : Int), 2, ())).bind fun y_3 => (f83_F k (y_3.2.1, 4, ())).bind fun y_4 => (f84_F k (sh, y_4.1, ())).bind fun y_5 => (f82_F k (y_4.2.1, y_5.1, 2, ())).bind fun y_6 => (f83_F k (y_6.2.1, 4, ())).bind fun y_7 => (f82_F k (y_7.2.1, y_7.1 == (0 : Int), 2, ())).bind fun y_8 => (f85_F k (y_8.2.1, ())).bind fun y_9 => f45_t5 k kind y_4.1 y_9.1 y_9.2.1
theorem f45_shape (k : Nat) (w : InT) (sh : Int × Int × Int × Unit) : f45_F k (w, sh, ()) =
    (f83_F k (w, 15, ())).bind fun y => (f82_F k (y.2.1, y.1 == (32764 : Int), 11, ())).bind fun y => (f83_F k (y.2.1, 1, ())).bind fun y => (f82_F k (y.2.1, y.1 == (0 : Int), 2, ())).bind fun y => (f83_F k (y.2.1, 4, ())).bind fun y =>
      bif y.1 == (6 : Int) then (f82_F k (y.2.1, true, 2, ())).bind fun y_1 => f45_t2 k sh y.1 y_1.2.1 else (f82_F k (y.2.1, y.1 == (7 : Int), 2, ())).bind fun y_1 => f45_t2 k sh y.1 y_1.2.1 := rfl
theorem gI_zero {w : Nat} {s : IS} (h : (gI w s).2.2 = 0) : s.2 = 0 := by
  unfold gI at h
  split at h
  · rename_i h0; exact h0
  · exact h
theorem numI_zero {b : List Int} {s : IS} (h : (numI b s).2.2 = 0) : s.2 = 0 := by
  unfold numI at h
  split at h
  · exact h
  · rename_i h0; simpa using h0
theorem hd4_zero {s : IS} (h : (hd4 s).2 = 0) : s.2 = 0 := gI_zero ((mI_zero (by decide)).1 h).1
theorem hd5_zero {c : Int} {s : IS} (h : (hd5 c s).2.2 = 0) : s.2 = 0 ∧ modeB c (hd5 c s).1 = true := ⟨gI_zero ((mI_zero (by decide)).1 h).1, ((mI_zero (by decide)).1 h).2⟩
theorem hd3_zero {s : IS} (h : (hd3 s).2.2 = 0) : (hd3 s).1 = 6 ∨ (hd3 s).1 = 7 := by
  have := ((mI_zero (by decide)).1 h).2
  show (gI 4 s).1 = 6 ∨ (gI 4 s).1 = 7
  simpa using this
theorem hd6_rest {b : List Int} {s : IS} (h : IsRest b s.1) (kind : Nat) : IsRest b (hd6 kind s).2.1 := by
  unfold hd6
  split
  · exact mI_rest (gI_rest h _) _ _
  · exact h
theorem f45_t5_spec (k : Nat) {b : List Int} (hb : bytesN b = true) (hn : b.length < 268435456) (hk : b.length + 1000 < k) {s : IS} (hs : IsRest b s.1) {kind : Nat} (hkind : s.2 = 0 → kind = 6 ∨ kind = 7) (mode num : Nat) :
    f45_t5 k (kind : Int) (mode : Int) (num : Int) (inp b s) = some (((((hdT5 b kind mode num s).1 : Nat) : Int), (((hdT5 b kind mode num s).2.1 : Nat) : Int), (((hdT5 b kind mode num s).2.2.1 : Nat) : Int), ()), inp b (hdT5 b kind mode num s).2.2.2, ()) := by
  unfold f45_t5 hdT5 hd6
  rw [int_beq]
  by_cases h : s.2 = 0
  · rw [cpos h]
    simp only [if_pos h]
    have e1 : IntKind.i64.wrap ((8 : Int) * IntKind.i64.wrap (IntKind.i64.wrap ((kind : Int) - (6 : Int)) + (1 : Int))) = ((8 * (kind - 5) : Nat) : Int) := by
      rcases hkind h with rfl | rfl <;> rfl
    have hw : 8 * (kind - 5) ≤ 32 := by rcases hkind h with rfl | rfl <;> omega
    rw [e1]
    refine (bind_of (f83_spec k hb hn (by omega) hs hw) _).trans ?_
    have hlt := gI_lt (8 * (kind - 5)) s
    have r1 := gI_rest hs (8 * (kind - 5))
    have h32 : 2 ^ (8 * (kind - 5)) ≤ 2 ^ 32 := Nat.pow_le_pow_right (by omega) hw
    generalize gI (8 * (kind - 5)) s = x at hlt r1 ⊢
    have e2 : IntKind.i64.wrap (((x.1 : Nat) : Int) + 1) = ((x.1 + 1 : Nat) : Int) := by rw [w64 (by omega)]; rfl
    have e3 : decide (((x.1 + 1 : Nat) : Int) ≤ 512) = decide (x.1 + 1 ≤ 512) := by
      by_cases h : x.1 + 1 ≤ 512
      · rw [decide_eq_true h, decide_eq_true (by omega)]
      · rw [decide_eq_false h, decide_eq_false (by omega)]
    simp only
    rw [e2, e3]
    refine (bind_of (f82_spec k (b := b) (s := x.2) _ _) _).trans ?_
    refine (bind_of (f48_spec k hb hn hk (mI_rest r1 _ _) (w := 8) (by omega)) _).trans ?_
    rfl
  · rw [cneg h]
    simp only [if_neg h]
    refine (bind_of (f82_spec k (b := b) (s := s) _ _) _).trans ?_
    rw [show decide ((0 : Int) ≤ 512) = true from rfl, mI_true]
    refine (bind_of (f48_spec k hb hn hk hs (w := 8) (by omega)) _).trans ?_
    rfl
theorem f45_t2_spec (k : Nat) {b : List Int} (hb : bytesN b = true) (hn : b.length < 268435456) (hk : b.length + 1000 < k) {s : IS} (hs : IsRest b s.1) {kind : Nat} (hkind : s.2 = 0 → kind = 6 ∨ kind = 7) (c d r : Int) :
    f45_t2 k (c, d, r, ()) (kind : Int) (inp b s) = some (((((hdT2 c b kind s).1 : Nat) : Int), (((hdT2 c b kind s).2.1 : Nat) : Int), (((hdT2 c b kind s).2.2.1 : Nat) : Int), ()), inp b (hdT2 c b kind s).2.2.2, ()) := by
  unfold f45_t2 hdT2
  refine (bind_of (f83_spec k hb hn (by omega) hs (w := 4) (by omega)) _).trans ?_
  refine (bind_of (f82_spec k (b := b) (s := (gI 4 s).2) _ _) _).trans ?_
  rw [show ((((gI 4 s).1 : Nat) : Int) == (0 : Int)) = ((gI 4 s).1 == 0) from beq_cast _ 0]
  have r1 : IsRest b (hd4 s).1 := mI_rest (gI_rest hs _) _ _
  have k1 := fun h => hkind (hd4_zero (s := s) h)
  change ((f83_F k (inp b (hd4 s), 4, ())).bind _) = _
  generalize hd4 s = s1 at r1 k1 ⊢
  unfold hdT3
  refine (bind_of (f83_spec k hb hn (by omega) r1 (w := 4) (by omega)) _).trans ?_
  refine (bind_of (f84_spec k c d r (gI 4 s1).1) _).trans ?_
  refine (bind_of (f82_spec k (b := b) (s := (gI 4 s1).2) _ _) _).trans ?_
  have r2 : IsRest b (hd5 c s1).2.1 := mI_rest (gI_rest r1 _) _ _
  have k2 := fun h => k1 (hd5_zero (c := c) (s := s1) h).1
  change ((f83_F k (inp b (hd5 c s1).2, 4, ())).bind fun y_7 => (f82_F k (y_7.2.1, y_7.1 == (0 : Int), 2, ())).bind fun y_8 => (f85_F k (y_8.2.1, ())).bind fun y_9 => f45_t5 k (kind : Int) (((hd5 c s1).1 : Nat) : Int) y_9.1 y_9.2.1) = _
  generalize (hd5 c s1).1 = mode
  generalize (hd5 c s1).2 = s2 at r2 k2 ⊢
  refine (bind_of (f83_spec k hb hn (by omega) r2 (w := 4) (by omega)) _).trans ?_
  refine (bind_of (f82_spec k (b := b) (s := (gI 4 s2).2) _ _) _).trans ?_
  rw [show ((((gI 4 s2).1 : Nat) : Int) == (0 : Int)) = ((gI 4 s2).1 == 0) from beq_cast _ 0]
  have r3 : IsRest b (hd4 s2).1 := mI_rest (gI_rest r2 _) _ _
  have k3 := fun h => k2 (hd4_zero (s := s2) h)
  change ((f85_F k (inp b (hd4 s2), ())).bind _) = _
  generalize hd4 s2 = s3 at r3 k3 ⊢
  unfold hdT4
  refine (bind_of (f85_spec k hb hn (by omega) r3) _).trans ?_
  exact f45_t5_spec k hb hn hk (numI_rest r3) (fun h => k3 (numI_zero h)) mode (numI b s3).1
theorem f45_spec (k : Nat) {b : List Int} (hb : bytesN b = true) (hn : b.length < 268435456) (hk : b.length + 1000 < k) {s : IS} (hs : IsRest b s.1) (c d r : Int) :
    f45_F k (inp b s, (c, d, r, ()), ()) = some (((((headI c b s).1 : Nat) : Int), (((headI c b s).2.1 : Nat) : Int), (((headI c b s).2.2.1 : Nat) : Int), ()), inp b (headI c b s).2.2.2, ()) := by
  rw [f45_shape]
  unfold headI
  refine (bind_of (f83_spec k hb hn (by omega) hs (w := 15) (by omega)) _).trans ?_
  refine (bind_of (f82_spec k (b := b) (s := (gI 15 s).2) _ _) _).trans ?_
  rw [show ((((gI 15 s).1 : Nat) : Int) == (32764 : Int)) = ((gI 15 s).1 == 32764) from beq_cast _ 32764]
  have r1 : IsRest b (hd1 s).1 := mI_rest (gI_rest hs _) _ _
  change ((f83_F k (inp b (hd1 s), 1, ())).bind _) = _
  generalize hd1 s = s1 at r1 ⊢
  refine (bind_of (f83_spec k hb hn (by omega) r1 (w := 1) (by omega)) _).trans ?_
  refine (bind_of (f82_spec k (b := b) (s := (gI 1 s1).2) _ _) _).trans ?_
  rw [show ((((gI 1 s1).1 : Nat) : Int) == (0 : Int)) = ((gI 1 s1).1 == 0) from beq_cast _ 0]
  have r2 : IsRest b (hd2 s1).1 := mI_rest (gI_rest r1 _) _ _
  change ((f83_F k (inp b (hd2 s1), 4, ())).bind _) = _
  generalize hd2 s1 = s2 at r2 ⊢
  refine (bind_of (f83_spec k hb hn (by omega) r2 (w := 4) (by omega)) _).trans ?_
  simp only
  rw [show ((((gI 4 s2).1 : Nat) : Int) == (6 : Int)) = ((gI 4 s2).1 == 6) from beq_cast _ 6, show ((((gI 4 s2).1 : Nat) : Int) == (7 : Int)) = ((gI 4 s2).1 == 7) from beq_cast _ 7]
  have r3 : IsRest b (hd3 s2).2.1 := mI_rest (gI_rest r2 _) _ _
  have fin := f45_t2_spec k hb hn hk r3 (fun h => hd3_zero h) c d r
  unfold hd3 at fin ⊢
  cases h6 : (gI 4 s2).1 == 6 with
  | true =>
    rw [h6] at fin
    simp only [cond_true]
    refine (bind_of (f82_spec k (b := b) (s := (gI 4 s2).2) _ _) _).trans ?_
    exact fin
  | false =>
    rw [h6] at fin
    simp only [cond_false]
    refine (bind_of (f82_spec k (b := b) (s := (gI 4 s2).2) _ _) _).trans ?_
    exact fin
end Go.Sh
namespace Go.Sh
open Go Go.Proofs
def chsS (n : Nat) : List Int → List Bool → List (List Int) → List (List Int) × Int × List Bool
  | [], r, acc => (acc, 0, r)
  | d :: ds, r, acc => if (subReadS n d.toNat r).2.1 ≠ 0 then ([], (subReadS n d.toNat r).2.1, (subReadS n d.toNat r).2.2) else chsS n ds (subReadS n d.toNat r).2.2 (acc ++ [(subReadS n d.toNat r).1])
abbrev RdR := (Int × List (List Int)) × Int × Int
def outS (c d r num : Int) (pos : Nat) (out : List (List Int)) : RdR := if checkS c d r num out ≠ 0 then ((0, []), 0, checkS c d r num out) else ((num, out), ((pos / 8 : Nat) : Int), 0)
def pairS (c d r num : Int) (pos : Nat) (m : Int) (A B : List Int) : RdR := if (togetherS m A B).2 ≠ 0 then ((0, []), 0, (togetherS m A B).2) else outS c d r num pos [togL m A B, togR m A B]
def finS (c d r : Int) (b : List Int) (mode num : Nat) (chs : List (List Int)) (rr : List Bool) : RdR :=
  if (sumI crc16 b 16 ((alS rr).2, (alS rr).1)).2 ≠ 0 then ((0, []), 0, (sumI crc16 b 16 ((alS rr).2, (alS rr).1)).2)
  else if 1 < c then pairS c d r num (posR b (sumI crc16 b 16 ((alS rr).2, (alS rr).1)).1) (if mode = 1 then 0 else mode) (chs.getD 0 []) (chs.getD 1 [])
  else outS c d r num (posR b (sumI crc16 b 16 ((alS rr).2, (alS rr).1)).1) chs
def afterS (c d r : Int) (b : List Int) (h : HdT) : RdR :=
  if h.2.2.2.2 ≠ 0 then ((0, []), 0, h.2.2.2.2)
  else if (chsS h.2.2.1 (depthsS c d h.1) h.2.2.2.1 []).2.1 ≠ 0 then ((0, []), 0, (chsS h.2.2.1 (depthsS c d h.1) h.2.2.2.1 []).2.1)
  else finS c d r b h.1 h.2.1 (chsS h.2.2.1 (depthsS c d h.1) h.2.2.2.1 []).1 (chsS h.2.2.1 (depthsS c d h.1) h.2.2.2.1 []).2.2
def readS (c d r : Int) (b : List Int) : RdR := if shapeB c d r = false then ((0, []), 0, 2) else afterS c d r b (headI c b (bitsL b, 0))
def packR (x : RdR) : ((Int × List (List Int) × Unit) × Int × Int × Unit) × Unit := (((x.1.1, x.1.2, ()), x.2.1, x.2.2, ()), ())
theorem subReadS_ok {n d : Nat} {r : List Bool} (h : (subReadS n d r).2.1 = 0) : (subReadS n d r).1.length ≤ 520 ∧ d ≤ 25 ∧ ∀ x ∈ (subReadS n d r).1, sgn x d = true := by
  unfold subReadS at h ⊢
  split at h
  · simp at h
  · rename_i h1
    rw [if_neg h1]
    have h1 : 1 ≤ n ∧ n ≤ 512 ∧ 4 ≤ d ∧ d ≤ 25 := by simpa using h1
    have hz := subHead_zero (d := d) (s := (r, 0))
    generalize subHead d (r, 0) = hd at h hz ⊢
    obtain ⟨kind, kk, s1⟩ := hd
    simp only at h hz ⊢
    split at h
    · rename_i h2; exact absurd h h2
    · rename_i h2
      rw [if_neg h2]
      obtain ⟨hkd, hkind⟩ := hz (by simpa using h2)
      have hl := bodyI_len (kind := kind) (n := n) (d := d - kk) (s := s1) hkind
      generalize bodyI kind n (d - kk) s1 = y at h hl ⊢
      split at h
      · rename_i h3; exact absurd h h3
      · rename_i h3
        rw [if_neg h3]
        split at h
        · rename_i h4
          rw [if_pos h4]
          refine ⟨by simp; omega, by omega, fun x hx => ?_⟩
          obtain ⟨z, hz, rfl⟩ := List.mem_map.1 hx
          exact (sgn_shl hkd (by omega) (List.all_eq_true.1 h4 z hz)).1
        · simp at h
theorem farOk_small {x : Int} (h : farOk x = true) : small24 x := by
  unfold farOk at h
  rw [decide_eq_true_eq] at h
  exact h
abbrev FRes := ((Int × List (List Int) × Unit) × Int × Int × Unit) × Unit
theorem f18_out (k : Nat) (hk : 1000 < k) (c d r num : Int) (out : List (List Int)) {b : List Int} (hn : b.length < 268435456) (rr : List Bool) :
    ((f23_F k ((c, d, r, ()), (num, out, ()), ())).bind fun y_3 => bif y_3.1 != (0 : Int) then some (((((0 : Int), [], ()), 0, y_3.1, ()), ()) : FRes) else (f51_F k ((b, ((posR b rr : Nat) : Int), ()), ())).bind fun y => some (((num, out, ()), IntKind.i64.wrap (Int.tdiv y.1 (8 : Int)), 0, ()), ())) = some (packR (outS c d r num (posR b rr) out)) := by
  refine (bind_of (f23_spec k c d r num out (by omega)) _).trans ?_
  unfold outS
  simp only
  rw [int_bne]
  by_cases h : checkS c d r num out = 0
  · rw [cneg (by simpa using h), if_neg (by simpa using h)]
    have e51 : f51_F k ((b, ((posR b rr : Nat) : Int), ()), ()) = some (((posR b rr : Nat) : Int), rst b rr, ()) := rfl
    refine (bind_of e51 _).trans ?_
    have hp : posR b rr ≤ 8 * b.length := by unfold posR; omega
    simp only
    rw [tdiv8, w64 (n := ((posR b rr / 8 : Nat) : Int)) (by omega)]
    rfl
  · rw [cpos h, if_pos h]
    rfl
theorem f18_pair (k : Nat) (hk : 2000 < k) (c d r num : Int) {A B : List Int} {m : Int} (hm : isMd m) (hA : A.length ≤ 520 ∧ ∀ x ∈ A, small26 x) (hB : B.length ≤ 520 ∧ ∀ x ∈ B, small26 x) {b : List Int} (hn : b.length < 268435456) (rr : List Bool) :
    ((f49_F k (A, B, m, ())).bind fun y_1 => bif y_1.1.2.1 != (0 : Int) then some (((((0 : Int), [], ()), 0, y_1.1.2.1, ()), ()) : FRes) else (f50_F k (y_1.1.1, ())).bind fun y_2 => bif y_2.1.2.2.1 != (0 : Int) then some ((((0 : Int), [], ()), 0, y_2.1.2.2.1, ()), ()) else (f23_F k ((c, d, r, ()), (num, [y_2.1.1, y_2.1.2.1], ()), ())).bind fun y_3 => bif y_3.1 != (0 : Int) then some ((((0 : Int), [], ()), 0, y_3.1, ()), ()) else (f51_F k ((b, ((posR b rr : Nat) : Int), ()), ())).bind fun y => some (((num, [y_2.1.1, y_2.1.2.1], ()), IntKind.i64.wrap (Int.tdiv y.1 (8 : Int)), 0, ()), ())) =
      some (packR (pairS c d r num (posR b rr) m A B)) := by
  refine (bind_of (f49_spec k hm (by omega) (by omega) hA.2 hB.2) _).trans ?_
  unfold pairS
  have key : (togetherS m A B).2 = 0 → A.length = B.length ∧ (togetherS m A B).1 = joinS (togL m A B) (togR m A B) ∧ ((togL m A B).zip (togR m A B)).all (fun x => farOk x.1 && farOk x.2) = true := by
    unfold togetherS
    split
    · intro h; simp at h
    · rename_i h1
      split
      · rename_i h2; exact fun _ => ⟨by simpa using h1, rfl, h2⟩
      · intro h; simp at h
  simp only
  rw [int_bne]
  by_cases h : (togetherS m A B).2 = 0
  · rw [cneg (by simpa using h), if_neg (by simpa using h)]
    obtain ⟨hl, e1, e2⟩ := key h
    have hLl : (togL m A B).length = A.length := by unfold togL; rw [List.length_map, List.length_zip]; omega
    have hRl : (togR m A B).length = A.length := by unfold togR; rw [List.length_map, List.length_zip]; omega
    generalize togL m A B = L at e1 e2 hLl ⊢
    generalize togR m A B = R at e1 e2 hRl ⊢
    have hsm : (∀ x ∈ L, small24 x) ∧ ∀ x ∈ R, small24 x := by
      have hall := List.all_eq_true.1 e2
      constructor
      · intro x hx
        obtain ⟨i, hi, rfl⟩ := List.getElem_of_mem hx
        have := hall ((L.zip R)[i]'(by rw [List.length_zip]; omega)) (List.getElem_mem _)
        rw [List.getElem_zip, Bool.and_eq_true] at this
        exact farOk_small this.1
      · intro x hx
        obtain ⟨i, hi, rfl⟩ := List.getElem_of_mem hx
        have := hall ((L.zip R)[i]'(by rw [List.length_zip]; omega)) (List.getElem_mem _)
        rw [List.getElem_zip, Bool.and_eq_true] at this
        exact farOk_small this.2
    have hpp := joinS_pp (show L.length = R.length by omega) hsm.1 hsm.2
    rw [e1]
    have hjl : (joinS L R).length ≤ 520 := by rw [hpp.hl]; omega
    refine (bind_of (f50_spec k hpp (by omega) (by omega)) _).trans ?_
    simp only
    rw [show ((0 : Int) != 0) = false from rfl]
    simp only [cond_false]
    exact f18_out k (by omega) c d r num [L, R] hn rr
  · rw [cpos h, if_pos h]
    rfl
theorem depths_len (c d m : Int) : (depthsS c d m).length ≤ 2 ∧ (c ≠ 1 → (depthsS c d m).length = 2) ∧ ((1 ≤ d ∧ d ≤ 24) → ∀ x ∈ depthsS c d m, 1 ≤ x) := by
  unfold depthsS
  split
  · exact ⟨by simp, fun h => by omega, fun h x hx => by simp at hx; omega⟩
  · split
    · exact ⟨by simp, fun h => by simp, fun h x hx => by simp at hx; omega⟩
    · split
      · exact ⟨by simp, fun h => by simp, fun h x hx => by simp at hx; omega⟩
      · exact ⟨by simp, fun h => by simp, fun h x hx => by simp at hx; omega⟩
theorem f18_loop (k : Nat) {b : List Int} (hb : bytesN b = true) (hn : b.length < 268435456) (hk : 8 * b.length + 50000 < k) {c d r : Int} (hc : c = 1 ∨ c = 2) {mode num n : Nat} (hm : modeB c mode = true) (ds : List Int) (hd : ∀ x ∈ ds, 1 ≤ x) (hdl : ds.length ≤ 2) (hdl2 : c ≠ 1 → ds.length = 2) (zz : Int) :
    ∀ (e j i : Nat) (rr : List Bool) (acc : List (List Int)), e < j → i + e = ds.length → acc.length = i → IsRest b rr → (∀ l ∈ acc, l.length ≤ 520 ∧ ∀ x ∈ l, small26 x) →
    iter (fun L1 => f18_raw1 k L1) j (((ds.length : Nat) : Int), (i : Int), ds, (n : Int), (mode : Int), b, (0 : Int), b, ((posR b rr : Nat) : Int), zz, (num : Int), acc, c, d, r) =
      some (packR (if (chsS n (ds.drop i) rr acc).2.1 ≠ 0 then ((0, []), 0, (chsS n (ds.drop i) rr acc).2.1) else finS c d r b mode num (chsS n (ds.drop i) rr acc).1 (chsS n (ds.drop i) rr acc).2.2)) := by
  intro e
  induction e with
  | zero =>
    intro j i rr acc hj hi ha hr hacc
    obtain ⟨j, rfl⟩ := pos_of_lt hj
    rw [iter_succ]
    simp only [f18_raw1]
    rw [cneg (by omega), List.drop_eq_nil_of_le (by omega)]
    show _ = some (packR (if (0 : Int) ≠ 0 then _ else finS c d r b mode num acc rr))
    rw [if_neg (by simp)]
    refine (bind_of (f47_spec k hb (by omega) hr (by omega)) _).trans ?_
    refine (bind_of (f1048_spec k hb hn (by omega) (s := ((alS rr).2, (alS rr).1)) (alS_rest hr) (w := 16) (by omega)) _).trans ?_
    unfold finS
    generalize sumI crc16 b 16 ((alS rr).2, (alS rr).1) = s
    simp only
    rw [int_bne]
    by_cases h : s.2 = 0
    · rw [cneg (by simpa using h), if_neg (by simpa using h)]
      rcases hc with rfl | rfl
      · rw [cneg (by omega), if_neg (by omega)]
        exact f18_out k (by omega) 1 d r num acc hn s.1
      · rw [cpos (by omega), if_pos (by omega)]
        have hlen : acc.length = 2 := by have := hdl2 (by omega); omega
        match acc, hlen, hacc with
        | [A, B], _, hacc =>
          have hA := hacc A (by simp)
          have hB := hacc B (by simp)
          have p1 : (0 : Int) ≤ 0 ∧ (0 : Int) < Int.ofNat [A, B].length := by simp
          have p2 : 0 < [A, B].length := by simp
          have p3 : (0 : Int) ≤ 1 ∧ (1 : Int) < Int.ofNat [A, B].length := by simp
          have p4 : 1 < [A, B].length := by simp
          have hmd : isMd (if mode = 1 then 0 else (mode : Int)) := by
            unfold modeB at hm
            rw [if_neg (by omega)] at hm
            simp only [Bool.or_eq_true, beq_iff_eq, Bool.and_eq_true, decide_eq_true_eq] at hm
            unfold isMd
            split <;> omega
          rw [cpos p1, cpos p2, cpos p3, cpos p4, cpos p1, cpos p2, cpos p3, cpos p4, show ((mode : Int) == (1 : Int)) = (mode == 1) from beq_cast _ 1]
          by_cases h1 : mode = 1
          · rw [show (mode == 1) = true from by simp [h1]]
            rw [if_pos h1] at hmd ⊢
            exact f18_pair k (by omega) 2 d r num hmd hA hB hn s.1
          · rw [show (mode == 1) = false from by simp [h1]]
            rw [if_neg h1] at hmd ⊢
            exact f18_pair k (by omega) 2 d r num hmd hA hB hn s.1
    · rw [cpos h, if_pos h]
      rfl
  | succ e ih =>
    intro j i rr acc hj hi ha hr hacc
    obtain ⟨j, rfl⟩ := pos_of_lt (show 0 < j by omega)
    rw [iter_succ]
    simp only [f18_raw1]
    have hil : i < ds.length := by omega
    rw [cpos (by omega), cpos (by simp only [Int.ofNat_eq_natCast]; omega), Int.toNat_natCast, getD_of hil, List.drop_eq_getElem_cons hil]
    have hdi := hd ds[i] (List.getElem_mem hil)
    have hde : ds[i] = ((ds[i].toNat : Nat) : Int) := by omega
    have e46 := f46_spec k hb hn hk hr n ds[i].toNat
    rw [← hde] at e46
    refine (bind_of e46 _).trans ?_
    unfold chsS
    have hok := subReadS_ok (n := n) (d := ds[i].toNat) (r := rr)
    have hrr := subReadS_rest hr n ds[i].toNat
    generalize subReadS n ds[i].toNat rr = q at hok hrr ⊢
    simp only
    rw [int_bne]
    by_cases h : q.2.1 = 0
    · rw [cneg (by simpa using h), cpos (by simp only [List.length_singleton]; omega)]
      have e2 : IntKind.i64.wrap ((i : Int) + 1) = ((i + 1 : Nat) : Int) := by rw [w64 (by omega)]; rfl
      rw [e2]
      obtain ⟨o1, o2, o3⟩ := hok h
      have := ih j (i + 1) q.2.2 (acc ++ [q.1]) (by omega) (by omega) (by simp; omega) hrr (by
        intro l hl
        rcases List.mem_append.1 hl with hl | hl
        · exact hacc l hl
        · rw [List.mem_singleton.1 hl]
          refine ⟨o1, fun x hx => ?_⟩
          have := o3 x hx
          unfold sgn at this
          unfold small26
          split at this
          · simp only [decide_eq_true_eq] at this; omega
          · rw [decide_eq_true_eq, pow_cast] at this
            have h24 : 2 ^ (ds[i].toNat - 1) ≤ 2 ^ 24 := Nat.pow_le_pow_right (by omega) (by omega)
            generalize 2 ^ (ds[i].toNat - 1) = Q at this h24
            omega)
      refine this.trans ?_
      simp only [if_neg (show ¬ q.2.1 ≠ 0 from fun hh => hh h)]
    · rw [cpos h]
      simp only [if_pos h]
      rfl
theorem headI_mode {c : Int} {b : List Int} {s : IS} (h : (headI c b s).2.2.2.2 = 0) : modeB c (headI c b s).1 = true := by
  unfold headI hdT2 hdT3 hdT4 hdT5 at h ⊢
  generalize (hd3 (hd2 (hd1 s))).1 = kind at h ⊢
  generalize hd4 (hd3 (hd2 (hd1 s))).2 = s3 at h ⊢
  simp only at h ⊢
  have h0 : (hd6 kind (numI b (hd4 (hd5 c s3).2)).2).2.2 = 0 := by
    unfold sumI at h
    split at h
    · rename_i h1; exact absurd h h1
    · exact gI_zero ((mI_zero (by decide)).1 h).1
  have h1 : (numI b (hd4 (hd5 c s3).2)).2.2 = 0 := by
    unfold hd6 at h0
    split at h0
    · rename_i hh; exact hh
    · exact h0
  exact (hd5_zero (hd4_zero (numI_zero h1))).2
theorem f18_spec (k : Nat) (c d r : Int) {b : List Int} (hb : bytesN b = true) (hn : b.length < 268435456) (hk : 8 * b.length + 50000 < k) : f18_F k ((c, d, r, ()), b, ()) = some (packR (readS c d r b)) := by
  show f18_raw0 k (f18_L1 k) _ = _
  simp only [f18_raw0]
  rw [f11_spec k c d r]
  simp only [Option.bind_some]
  unfold readS
  cases hs : shapeB c d r with
  | false => rfl
  | true =>
    have hsh := of_decide_eq_true hs
    simp only [if_true, Bool.true_eq_false, if_false]
    rw [show ((0 : Int) != 0) = false from rfl]
    simp only [cond_false]
    have e44 : f44_F k (b, ()) = some (inp b (bitsL b, 0) |>.2.1, ()) := by
      show f44_raw0 k _ = _
      simp only [f44_raw0]
      have : f66_F k (b, ()) = some (b, ()) := by show cloneF _ = _; unfold cloneF; rw [cpos (by simp only; omega)]
      rw [this]
      have hp : posR b (bitsL b) = 0 := by unfold posR; rw [bitsL_len]; omega
      simp only [Option.bind_some]
      show some ((b, ((0 : Nat) : Int), ()), ()) = some ((b, ((posR b (bitsL b) : Nat) : Int), ()), ())
      rw [hp]
    refine (bind_of e44 _).trans ?_
    refine (bind_of (f45_spec k hb hn (by omega) (s := (bitsL b, 0)) (rest_all b) c d r) _).trans ?_
    unfold afterS
    have hmode := headI_mode (c := c) (b := b) (s := (bitsL b, 0))
    have hrest : IsRest b (headI c b (bitsL b, 0)).2.2.2.1 := by
      unfold headI hdT2 hdT3 hdT4 hdT5
      exact sumI_rest (hd6_rest (numI_rest (mI_rest (gI_rest (mI_rest (gI_rest (mI_rest (gI_rest (mI_rest (gI_rest (mI_rest (gI_rest (mI_rest (gI_rest (rest_all b) _) _ _) _) _ _) _) _ _) _) _ _) _) _ _) _) _ _)) _) _
    generalize headI c b (bitsL b, 0) = h at hmode hrest ⊢
    obtain ⟨mode, num, n, s⟩ := h
    simp only at hmode hrest ⊢
    rw [int_bne]
    by_cases he : s.2 = 0
    · rw [cneg (by simpa using he), if_neg (by simpa using he)]
      have hm := hmode he
      have hc : c = 1 ∨ c = 2 := by omega
      have hcm : c = 1 ∧ (mode : Int) = 0 ∨ c = 2 := by
        rcases hc with rfl | rfl
        · unfold modeB at hm
          rw [if_pos rfl, beq_iff_eq] at hm
          exact .inl ⟨rfl, by omega⟩
        · exact .inr rfl
      refine (bind_of (f30_spec k (c := c) (d := d) (r := r) (m := (mode : Int)) hcm (by omega)) _).trans ?_
      have hdl := depths_len c d mode
      have := f18_loop k hb hn hk (c := c) (d := d) (r := r) hc (mode := mode) (num := num) (n := n) hm (depthsS c d mode) (hdl.2.2 (by omega)) hdl.1 hdl.2.1 0 (depthsS c d mode).length k 0 s.1 [] (by omega) (by omega) rfl hrest (by simp)
      rw [List.drop_zero] at this
      simp only
      rw [he]
      exact this
    · rw [cpos he, if_pos he]
      rfl
end Go.Sh
