/-
  What the row needs, part 11.
-/
import Derived.Test.YtmeahimfdhdggaaGreatDoorXFrameNumbers10
import Derived.Lib.ItoaNum
set_option linter.unusedSimpArgs false
set_option linter.unusedVariables false
set_option linter.unusedSectionVars false
namespace Go.Sh
open Go Go.Proofs
def Z7 (n : Int) : Nat := if n < 0 then (-2 * n - 1).toNat else (2 * n).toNat
theorem Zu6 {a : Int} {n : Int} (ha : -1152921504606846976 ≤ a ∧ a ≤ 1152921504606846976) (hn : (a < 0 ↔ n < 0)) (hn' : -1152921504606846976 ≤ n ∧ n ≤ 1152921504606846976) :
    IntKind.i64.wrap (Int.ofNat (BitVec.ofInt 64 a ^^^ BitVec.ofInt 64 (n.fdiv 9223372036854775808)).toNat) = if n < 0 then -a - 1 else a := by
  by_cases h : n < 0
  · have e1 : n.fdiv 9223372036854775808 = -1 := by rw [Int.fdiv_eq_ediv_of_nonneg _ (by omega)]; omega
    rw [e1, if_pos h, show BitVec.ofInt 64 (-1) = BitVec.allOnes 64 from by decide, BitVec.xor_allOnes, BitVec.toNat_not, BitVec.toNat_ofInt]
    have : ((a % ((2 ^ 64 : Nat) : Int)).toNat) = (a + 18446744073709551616).toNat := by omega
    rw [this]
    have e2 : Int.ofNat (2 ^ 64 - 1 - (a + 18446744073709551616).toNat) = -a - 1 := by simp only [Int.ofNat_eq_natCast]; omega
    rw [e2, Z8 (by omega)]
  · have e1 : n.fdiv 9223372036854775808 = 0 := by rw [Int.fdiv_eq_ediv_of_nonneg _ (by omega)]; omega
    rw [e1, if_neg h, show BitVec.ofInt 64 0 = 0#64 from rfl, BitVec.xor_zero, BitVec.toNat_ofInt]
    have : Int.ofNat ((a % ((2 ^ 64 : Nat) : Int)).toNat) = a := by simp only [Int.ofNat_eq_natCast]; omega
    rw [this, Z8 (by omega)]
theorem Zqk (k : Nat) {n : Int} (h : ZL n) : K6 k (n, ()) = some ((((Z7 n : Nat) : Int), 0, ()), ()) := by
  show ZdH k _ = _
  simp only [ZdH]
  unfold ZL at h
  rw [Zj (by omega), Zj (by omega), Z8 (n := n * 2) (by omega), Zu6 (by omega) (by omega) (by omega)]
  unfold Z7
  congr 3
  split <;> omega
theorem ZnB {n : Int} (h : ZL n) : Z7 n < 4294967296 := by
  unfold ZL at h
  unfold Z7
  split <;> omega
def Xl (n : Int) : Nat := Lib.bitLen (if n < 0 then (-n - 1).toNat else n.toNat) + 1
theorem Zno {n : Int} (h : ZL n) : Xl n ≤ 32 := by
  unfold ZL at h
  unfold Xl
  have := Lib.bitLen_le (if n < 0 then (-n - 1).toNat else n.toNat) 31 (by omega) (by split <;> omega)
  omega
theorem ZAJ {n : Int} (h : ZL n) {w : Nat} (hw : Xl n ≤ w) : W4 n w = true := by
  unfold Xl at hw
  unfold W4
  unfold ZL at h
  rw [if_neg (by omega), decide_eq_true_eq]
  generalize hm : (if n < 0 then (-n - 1).toNat else n.toNat) = m at hw
  have hm' : m < 2 ^ 64 := by rw [← hm]; split <;> omega
  have hlt : m < 2 ^ (w - 1) := by
    by_cases h0 : m = 0
    · rw [h0]; exact Nat.pow_pos (by omega)
    · have := (Lib.bitLenAux_bounds 64 m hm' h0).2.2
      exact Nat.lt_of_lt_of_le this (Nat.pow_le_pow_right (by omega) (by unfold Lib.bitLen at hw; omega))
  have hlt' : (m : Int) < 2 ^ (w - 1) := by
    have : ((2 : Int) ^ (w - 1)) = ((2 ^ (w - 1) : Nat) : Int) := Wq _
    rw [this]; exact_mod_cast hlt
  generalize (2 : Int) ^ (w - 1) = P at hlt'
  split at hm <;> omega
theorem ZAq (k : Nat) {n : Int} (h : ZL n) : Zoc k (n, ()) = some (((Xl n : Nat) : Int), ()) := by
  show Zdc k _ = _
  simp only [Zdc]
  have hb := Zno h
  unfold ZL at h
  rw [Zu6 (by omega) (by omega) (by omega)]
  have e1 : IntKind.u64.wrap (if n < 0 then -n - 1 else n) = (((if n < 0 then (-n - 1).toNat else n.toNat) : Nat) : Int) := by
    rw [IntKind.wrap_u64]; split <;> omega
  rw [e1]
  have e2 : Zrb k ((((if n < 0 then (-n - 1).toNat else n.toNat) : Nat) : Int), ()) = some (((Lib.bitLen (if n < 0 then (-n - 1).toNat else n.toNat) : Nat) : Int), ()) := by
    show ZCS _ = _
    unfold ZCS
    rw [show (decide ((0 : Int) ≤ (((if n < 0 then (-n - 1).toNat else n.toNat) : Nat) : Int)) && decide ((((if n < 0 then (-n - 1).toNat else n.toNat) : Nat) : Int) < 18446744073709551616)) = true from by
      rw [Bool.and_eq_true, decide_eq_true_eq, decide_eq_true_eq]; split <;> omega]
    rfl
  rw [e2]
  simp only [Option.bind_some]
  unfold Xl at hb ⊢
  rw [Z8 (by omega)]
  push_cast
  rfl
theorem ZAL (k : Nat) {m : Int} (h : m = 0 ∨ m = 1) : Ke k (m, ()) = some (if m = 0 then 15 else 31, ()) := by
  rcases h with rfl | rfl <;> rfl
def WW (m : Int) : Nat := if m = 0 then 15 else 31
theorem Za0 (k : Nat) {m : Int} (h : m = 0 ∨ m = 1) : Ke k (m, ()) = some (((WW m : Nat) : Int), ()) := by
  rw [ZAL k h]; unfold WW; split <;> rfl
abbrev Prt := Int × Int × Int × Unit
def Qs (l : List Int) : Nat := l.foldl (fun w n => if n = 0 then w else max w (Xl n)) 0
def ZeL : List Nat → Nat
  | [] => 0
  | x :: l => x + ZeL l
def Za7 (l : List Int) (kk : Nat) : Nat := (kk + 1) * l.length + ZeL (l.map fun n => Z7 n / 2 ^ kk)
def ZiD (l : List Int) (kk : Nat) : Bool := l.any fun n => decide (65536 < Z7 n / 2 ^ kk)
def Zeq (l : List Int) (B : Prt × Bool) (kk : Nat) : Prt × Bool :=
  if ZiD l kk = false ∧ (B.2 = false ∨ ((Za7 l kk : Nat) : Int) < B.1.2.2.1) then (((kk : Int), 0, ((Za7 l kk : Nat) : Int), ()), true) else B
def kF (l : List Int) : Nat → Nat → Prt × Bool → Prt × Bool
  | 0, _, B => B
  | d + 1, kk, B => kF l d (kk + 1) (Zeq l B kk)
def QF (l : List Int) (m : Int) : Prt × Bool :=
  let B := kF l (WW m) 0 ((0, 0, 0, ()), false)
  if Qs l ≤ 31 ∧ (B.2 = false ∨ ((5 + Qs l * l.length : Nat) : Int) < B.1.2.2.1) then (((WW m : Nat), ((Qs l : Nat) : Int), ((5 + Qs l * l.length : Nat) : Int), ()), true) else B
theorem ZGL {l : List Nat} {b : Nat} (h : ∀ x ∈ l, x ≤ b) : ZeL l ≤ l.length * b := by
  induction l with
  | nil => simp [ZeL]
  | cons x l ih =>
    have h1 := h x (List.mem_cons_self ..)
    have h2 := ih fun y hy => h y (List.mem_cons_of_mem _ hy)
    simp only [ZeL, List.length_cons, Nat.add_mul, Nat.one_mul]
    omega
theorem Zfa : ∀ (l : List Int) (w : Nat), (∀ x ∈ l, ZL x) → w ≤ 32 → w ≤ l.foldl (fun w n => if n = 0 then w else max w (Xl n)) w ∧ l.foldl (fun w n => if n = 0 then w else max w (Xl n)) w ≤ 32 ∧
      ∀ x ∈ l, x ≠ 0 → Xl x ≤ l.foldl (fun w n => if n = 0 then w else max w (Xl n)) w
  | [], w, _, hw => ⟨Nat.le_refl _, hw, by simp⟩
  | x :: l, w, hl, hw => by
    simp only [List.foldl_cons]
    have hx := Zno (hl x (List.mem_cons_self ..))
    have h1 : (if x = 0 then w else max w (Xl x)) ≤ 32 := by split <;> omega
    obtain ⟨a, b, c⟩ := Zfa l _ (fun y hy => hl y (List.mem_cons_of_mem _ hy)) h1
    refine ⟨Nat.le_trans (by split <;> omega) a, b, fun y hy hne => ?_⟩
    rcases List.mem_cons.1 hy with rfl | hy
    · rw [if_neg hne] at a ⊢
      omega
    · exact c y hy hne
theorem ZCe {l : List Int} (hl : ∀ x ∈ l, ZL x) : ∀ x ∈ l, W4 x (Qs l) = true := by
  intro x hx
  obtain ⟨_, _, h⟩ := Zfa l 0 hl (by omega)
  by_cases h0 : x = 0
  · subst h0
    unfold W4
    split
    · rfl
    · rw [decide_eq_true_eq]
      have hp : (0 : Int) < 2 ^ (Qs l - 1) := Int.pow_pos (by omega)
      omega
  · exact ZAJ (hl x hx) (h x hx h0)
theorem Zqn {n : Int} (h : ZL n) (kk : Nat) : Z7 n / 2 ^ kk ≤ 4294967295 := by
  have := ZnB h
  have := Nat.div_le_self (Z7 n) (2 ^ kk)
  omega
theorem ZCn : Yw = Ke := Zpa
theorem ZNj : ZeV = K6 := Zo2
theorem ZxP (k : Nat) (L2 : Int × Int × List Int × Bool × Int × Int × List Int × Int × Int × Int × Int × Int × Int → Option (((Int × Int × Int × Unit) × Bool × Unit) × Unit))
    {l : List Int} (hl : ∀ x ∈ l, ZL x) (hn : l.length ≤ 512) (hk : l.length < k) {kk : Nat} (hkk : kk ≤ 31) (ok : Bool) (e w m b0 b1 b2 c0 c1 c2 : Int) :
    Zd9 k L2 (Int.ofNat l.length, (0 : Int), ((kk + 1) * l.length : Nat), (kk : Int), false, ok, (kk : Int), e, l, w, m, l.map fun n => ((Z7 n : Nat) : Int), b0, b1, b2, c0, c1, c2) =
      L2 (e, ((kk + 1 : Nat) : Int), l, (Zeq l ((b0, b1, b2, ()), ok) kk).2, w, m, l.map fun n => ((Z7 n : Nat) : Int), (Zeq l ((b0, b1, b2, ()), ok) kk).1.1, (Zeq l ((b0, b1, b2, ()), ok) kk).1.2.1, (Zeq l ((b0, b1, b2, ()), ok) kk).1.2.2.1, c0, c1, c2) := by
  have hml : (l.map fun n => ((Z7 n : Nat) : Int)).length = l.length := by simp
  have := Zz (A := Int × Bool) (R := ((Int × Int × Int × Unit) × Bool × Unit) × Unit) (step := fun L3 => YM k L2 L3) (fun i a => (Int.ofNat l.length, Int.ofNat i, a.1, (kk : Int), a.2, ok, (kk : Int), e, l, w, m, l.map (fun n => ((Z7 n : Nat) : Int)), b0, b1, b2, c0, c1, c2)) l
    (fun l' a => bif !(a.2 || ZiD l' kk) then bif !ok then L2 (e, ((kk + 1 : Nat) : Int), l, true, w, m, l.map (fun n => ((Z7 n : Nat) : Int)), (kk : Int), 0, a.1 + (ZeL (l'.map fun n => Z7 n / 2 ^ kk) : Nat), c0, c1, c2)
        else bif decide (a.1 + (ZeL (l'.map fun n => Z7 n / 2 ^ kk) : Nat) < b2) then L2 (e, ((kk + 1 : Nat) : Int), l, true, w, m, l.map (fun n => ((Z7 n : Nat) : Int)), (kk : Int), 0, a.1 + (ZeL (l'.map fun n => Z7 n / 2 ^ kk) : Nat), c0, c1, c2)
        else L2 (e, ((kk + 1 : Nat) : Int), l, ok, w, m, l.map (fun n => ((Z7 n : Nat) : Int)), b0, b1, b2, c0, c1, c2)
      else L2 (e, ((kk + 1 : Nat) : Int), l, ok, w, m, l.map (fun n => ((Z7 n : Nat) : Int)), b0, b1, b2, c0, c1, c2))
    (fun i a => 0 ≤ a.1 ∧ a.1 ≤ 16384 + (i : Int) * 4294967296)
    (fun L a _ => by
      simp only [YM]
      rw [Zj (WB _), Z8 (n := (kk : Int) + 1) (by omega)]
      simp only [ZiD, List.any_nil, Bool.or_false, List.map_nil, ZeL, Int.natCast_zero, Int.add_zero]
      push_cast
      rfl)
    (fun L i hi a ha hL => by
      simp only [YM]
      have hx := hl l[i] (List.getElem_mem hi)
      have hp := Zqn hx kk
      have hg : (l.map fun n => ((Z7 n : Nat) : Int)).getD (Int.toNat (Int.ofNat i)) 0 = ((Z7 l[i] : Nat) : Int) := by
        rw [ZR (by rw [hml]; exact hi)]; simp
      rw [Zb (ltR hi), Zb (by rw [hml]; exact inR hi), Zb (by rw [hml]; simpa using hi), Zb (by omega), hg]
      simp only [Int.toNat_natCast, Nat.min_eq_left (show kk ≤ 64 by omega), Zct]
      have hfar : ZiD (l[i] :: l.drop (i + 1)) kk = (decide (65536 < Z7 l[i] / 2 ^ kk) || ZiD (l.drop (i + 1)) kk) := by unfold ZiD; rw [List.any_cons]
      have hsum : a.1 + ((ZeL ((l[i] :: l.drop (i + 1)).map fun n => Z7 n / 2 ^ kk) : Nat) : Int) = a.1 + ((Z7 l[i] / 2 ^ kk : Nat) : Int) + ((ZeL ((l.drop (i + 1)).map fun n => Z7 n / 2 ^ kk) : Nat) : Int) := by
        simp only [List.map_cons, ZeL]
        generalize Z7 l[i] / 2 ^ kk = q
        omega
      generalize Z7 l[i] / 2 ^ kk = q at hp hfar hsum ⊢
      have hi5 : (i : Int) ≤ 512 := by omega
      rw [Z8 (n := a.1 + ((q : Nat) : Int)) (by omega), QK hi (by omega)]
      rw [hfar, hsum]
      cases h4 : a.2 with
      | true =>
        simp only [cond_true]
        rw [hL (a.1 + ((q : Nat) : Int), true) ⟨by omega, by push_cast; omega⟩]
        simp
      | false =>
        simp only [cond_false]
        rw [Zb (by omega)]
        have hd : decide ((65536 : Int) < ((q : Nat) : Int)) = decide (65536 < q) := by
          by_cases hh : 65536 < q
          · rw [decide_eq_true hh, decide_eq_true (by omega)]
          · rw [decide_eq_false hh, decide_eq_false (by omega)]
        rw [hd, hL (a.1 + ((q : Nat) : Int), decide (65536 < q)) ⟨by omega, by push_cast; omega⟩]
        simp) k 0 ((((kk + 1) * l.length : Nat) : Int), false) ⟨by omega, by
          have : (kk + 1) * l.length ≤ 32 * 512 := Nat.mul_le_mul (by omega) hn
          show (((kk + 1) * l.length : Nat) : Int) ≤ 16384 + ((0 : Nat) : Int) * 4294967296
          generalize (kk + 1) * l.length = N at this ⊢
          omega⟩ (by omega) (Nat.zero_le _)
  refine Eq.trans this ?_
  rw [List.drop_zero]
  unfold Zeq
  have hsz : (((kk + 1) * l.length : Nat) : Int) + ((ZeL (l.map fun n => Z7 n / 2 ^ kk) : Nat) : Int) = ((Za7 l kk : Nat) : Int) := by unfold Za7; push_cast; rfl
  simp only [Bool.false_or, hsz]
  cases hfb : ZiD l kk with
  | true => simp
  | false =>
    simp only [Bool.not_false, cond_true, true_and]
    cases ok with
    | false => simp
    | true =>
      simp only [Bool.not_true, cond_false, Bool.true_eq_false, false_or]
      by_cases hlt : ((Za7 l kk : Nat) : Int) < b2
      · rw [Zb hlt, if_pos hlt]
      · rw [Zj hlt, if_neg hlt]
theorem ZFW (k : Nat) {l : List Int} (hl : ∀ x ∈ l, ZL x) (hn : l.length ≤ 512) (hk : l.length < k) {m : Int} (hm : m = 0 ∨ m = 1) (c0 c1 c2 : Int) (hw : Qs l ≤ 32) :
    ∀ (d kk j : Nat) (B : Prt × Bool), kk + d = WW m → d < j →
    Zr (fun L2 => YN k (Zd9 k L2) L2) j (((WW m : Nat) : Int), (kk : Int), l, B.2, ((Qs l : Nat) : Int), m, l.map (fun n => ((Z7 n : Nat) : Int)), B.1.1, B.1.2.1, B.1.2.2.1, c0, c1, c2) =
      some ((let B := kF l d kk B; if Qs l ≤ 31 ∧ (B.2 = false ∨ ((5 + Qs l * l.length : Nat) : Int) < B.1.2.2.1) then ((((WW m : Nat) : Int), ((Qs l : Nat) : Int), ((5 + Qs l * l.length : Nat) : Int), ()), true, ()) else (B.1, B.2, ())), ()) := by
  have he : WW m ≤ 31 := by unfold WW; split <;> omega
  intro d
  induction d with
  | zero =>
    intro kk j B hkk hj
    obtain ⟨j, rfl⟩ := Zt hj
    rw [Zi]
    simp only [YN]
    rw [Zj (by omega)]
    have hwl : Qs l * l.length ≤ 32 * 512 := Nat.mul_le_mul hw hn
    have e1 : IntKind.i64.wrap ((5 : Int) + IntKind.i64.wrap (((Qs l : Nat) : Int) * Int.ofNat l.length)) = ((5 + Qs l * l.length : Nat) : Int) := by
      have : ((Qs l : Nat) : Int) * Int.ofNat l.length = ((Qs l * l.length : Nat) : Int) := by simp only [Int.ofNat_eq_natCast]; push_cast; rfl
      rw [this, Z8 (n := ((Qs l * l.length : Nat) : Int)) (by omega), Z8 (by omega)]
      push_cast; rfl
    rw [e1, ZCn, Za0 k hm]
    simp only [Option.bind_some]
    rw [show kF l 0 kk B = B from rfl]
    by_cases h31 : Qs l ≤ 31
    · rw [Zb (by omega)]
      cases hB : B.2 with
      | false => simp only [Bool.not_false, cond_true]; rw [if_pos ⟨h31, .inl trivial⟩]
      | true =>
        simp only [Bool.not_true, cond_false, Bool.true_eq_false, false_or]
        by_cases hlt : ((5 + Qs l * l.length : Nat) : Int) < B.1.2.2.1
        · rw [Zb hlt, if_pos ⟨h31, hlt⟩]
        · rw [Zj hlt, if_neg (fun h => hlt h.2)]
    · rw [Zj (by omega), if_neg (fun h => h31 h.1)]
  | succ d ih =>
    intro kk j B hkk hj
    obtain ⟨j, rfl⟩ := Zt (show 0 < j by omega)
    rw [Zi]
    simp only [YN]
    rw [Zb (by omega)]
    have hkl : (kk + 1) * l.length ≤ 32 * 512 := Nat.mul_le_mul (by omega) hn
    have e1 : IntKind.i64.wrap (IntKind.i64.wrap ((kk : Int) + 1) * Int.ofNat l.length) = (((kk + 1) * l.length : Nat) : Int) := by
      have h1 : IntKind.i64.wrap ((kk : Int) + 1) = ((kk + 1 : Nat) : Int) := by rw [Z8 (by omega)]; push_cast; rfl
      rw [h1]
      have : ((kk + 1 : Nat) : Int) * Int.ofNat l.length = (((kk + 1) * l.length : Nat) : Int) := by simp only [Int.ofNat_eq_natCast]; rw [Int.natCast_mul]
      rw [this, Z8 (by omega)]
    rw [e1]
    have e2 : Int.ofNat (l.map fun n => ((Z7 n : Nat) : Int)).length = Int.ofNat l.length := by simp
    rw [e2, ZxP k _ hl hn hk (by omega)]
    rw [ih (kk + 1) j (Zeq l B kk) (by omega) (by omega)]
    rfl
theorem ZBq (k : Nat) {l : List Int} (hl : ∀ x ∈ l, ZL x) (hn : l.length ≤ 512) (hk : l.length + 40 < k) {m : Int} (hm : m = 0 ∨ m = 1) :
    Zl3 k (l, m, ()) = some (((QF l m).1, (QF l m).2, ()), ()) := by
  show Zda k (ZlD k) _ = _
  simp only [Zda]
  rw [Zb (by simp only [Int.ofNat_eq_natCast]; omega)]
  have hwid := (Zfa l 0 hl (by omega)).2.1
  have he : WW m ≤ 31 := by unfold WW; split <;> omega
  have := Zz (A := Nat × List Int) (step := fun L1 => YU k (ZcV k) L1) (fun i a => (Int.ofNat l.length, Int.ofNat i, l, ((a.1 : Nat) : Int), m, l, false, a.2, 0, 0, 0, 0, 0, 0)) l
    (fun l' a => ZcV k (((WW m : Nat) : Int), 0, l, false, ((l'.foldl (fun w n => if n = 0 then w else max w (Xl n)) a.1 : Nat) : Int), m, a.2.take (l.length - l'.length) ++ l'.map (fun n => ((Z7 n : Nat) : Int)), 0, 0, 0, 0, 0, 0))
    (fun i a => a.1 ≤ 32 ∧ a.2.length = l.length)
    (fun L a ha => by
      simp only [YU]
      rw [Zj (WB _), ZCn, Za0 k hm]
      simp only [Option.bind_some, List.foldl_nil, List.map_nil, List.append_nil, List.length_nil, Nat.sub_zero]
      rw [List.take_of_length_le (by omega)])
    (fun L i hi a ha hL => by
      simp only [YU]
      have hx := hl l[i] (List.getElem_mem hi)
      have hb := Zno hx
      rw [Zb (ltR hi), Zb (inR hi), ZR hi, ZNj, Zqk k hx]
      simp only [Option.bind_some]
      rw [Zb (by rw [ha.2]; exact inR hi), Zb (by rw [ha.2]; simpa using hi), ZT, QK hi (by omega)]
      have hdl : (l.drop (i + 1)).length = l.length - (i + 1) := by simp
      have hset : (a.2.set (Int.ofNat i).toNat ((Z7 l[i] : Nat) : Int)).take (l.length - (l.drop (i + 1)).length) ++ (l.drop (i + 1)).map (fun n => ((Z7 n : Nat) : Int)) =
          a.2.take (l.length - (l[i] :: l.drop (i + 1)).length) ++ (l[i] :: l.drop (i + 1)).map (fun n => ((Z7 n : Nat) : Int)) := by
        rw [hdl, List.length_cons, hdl, show l.length - (l.length - (i + 1)) = i + 1 by omega, show l.length - (l.length - (i + 1) + 1) = i by omega]
        rw [List.map_cons, List.take_add_one, List.take_set_of_le (by simp)]
        have : (a.2.set (Int.ofNat i).toNat ((Z7 l[i] : Nat) : Int))[i]? = some ((Z7 l[i] : Nat) : Int) := by
          rw [List.getElem?_set]; simp; omega
        rw [this]
        simp
      have hfold : (l[i] :: l.drop (i + 1)).foldl (fun w n => if n = 0 then w else max w (Xl n)) a.1 = (l.drop (i + 1)).foldl (fun w n => if n = 0 then w else max w (Xl n)) (if l[i] = 0 then a.1 else max a.1 (Xl l[i])) := rfl
      by_cases h0 : l[i] = 0
      · rw [Zj (by simpa using h0)]
        rw [hL (a.1, a.2.set (Int.ofNat i).toNat ((Z7 l[i] : Nat) : Int)) ⟨ha.1, by simpa using ha.2⟩, hset, hfold, if_pos h0]
      · rw [Zb h0, ZAq k hx]
        simp only [Option.bind_some]
        have e1 : (if ((a.1 : Nat) : Int) < ((Xl l[i] : Nat) : Int) then ((Xl l[i] : Nat) : Int) else ((a.1 : Nat) : Int)) = ((max a.1 (Xl l[i]) : Nat) : Int) := by split <;> omega
        rw [e1, hL (max a.1 (Xl l[i]), a.2.set (Int.ofNat i).toNat ((Z7 l[i] : Nat) : Int)) ⟨by omega, by simpa using ha.2⟩, hset, hfold, if_neg h0])
    k 0 (0, List.replicate l.length 0) ⟨by omega, by simp⟩ (by omega) (Nat.zero_le _)
  rw [List.drop_zero] at this
  refine Eq.trans this ?_
  have := ZFW k hl hn (by omega) hm 0 0 0 hwid (WW m) 0 k ((0, 0, 0, ()), false) (by omega) (by omega)
  rw [Nat.sub_self, List.take_zero, List.nil_append]
  refine Eq.trans this ?_
  unfold QF
  simp only
  split <;> rfl
end Go.Sh
namespace Go.Sh
open Go Go.Proofs
theorem ZJ1 : ZbF = Kx := Zp4
theorem ZN4 : Zm9 = Kk := Zqb
theorem Ziz (k : Nat) {m : Int} (h : m = 0 ∨ m = 1) : Kx k (m, ()) = some (4 + m, ()) := by
  rcases h with rfl | rfl <;> rfl
theorem ZAR (k : Nat) (x : Int) : Zmf k (x, ()) = some (Qi x, ()) := by
  show ZdN k _ = _
  simp only [ZdN]
  unfold Qi
  by_cases h : x ≤ -2147483648
  · rw [Zb h, decide_eq_true (.inl h)]
  · rw [Zj h]
    by_cases h2 : 2147483648 ≤ x
    · rw [decide_eq_true h2, decide_eq_true (.inr h2)]
    · rw [decide_eq_false h2, decide_eq_false (by omega)]
theorem ZvT (k : Nat) (c : List Int) (hk : c.length < k) (hn : c.length < 4294967296) : Zb1 k (c, (), ()) = some (c.any Qi, ()) := by
  show KD k _ = _
  simp only [KD]
  have key : ∃ i : Int, Zch k (c, (), ()) = some (i, ()) ∧ (0 ≤ i ↔ c.any Qi = true) := by
    have := WM (A := Unit) (R := Int × Unit) (step := fun L1 => Xf k L1) (fun i _ => (Int.ofNat c.length, Int.ofNat i, c)) c
      (fun l _ => some (if l.any Qi then Int.ofNat (c.length - l.length + (l.takeWhile (fun x => !Qi x)).length) else -1, ()))
      (fun L _ => by simp only [Xf]; rw [Zj (WB _)]; rfl)
      (fun L i hi _ hL => by
        simp only [Xf]
        rw [Zb (ltR hi), Zb (inR hi), ZR hi, ZAR]
        simp only [Option.bind_some]
        have hlen : (List.drop (i + 1) c).length = c.length - (i + 1) := by simp
        cases hc : Qi c[i] with
        | false =>
          simp only [cond_false]
          rw [QK hi (by omega), hL ()]
          simp only [List.any_cons, hc, Bool.false_or, List.takeWhile_cons, Bool.not_false, if_true, List.length_cons, hlen]
          split
          · congr 3; omega
          · rfl
        | true =>
          simp only [cond_true, List.any_cons, hc, Bool.true_or, if_true, List.takeWhile_cons, Bool.not_true, Bool.false_eq_true, if_false, List.length_cons, hlen, List.length_nil]
          congr 3; omega) k 0 () (by omega) (Nat.zero_le _)
    rw [List.drop_zero] at this
    refine ⟨_, this, ?_⟩
    cases c.any Qi <;> simp
  obtain ⟨i, h1, h2⟩ := key
  rw [h1]
  simp only [Option.bind_some]
  cases hc : c.any Qi with
  | true => rw [decide_eq_true (h2.2 hc)]
  | false => rw [decide_eq_false (fun h => by have := h2.1 h; rw [hc] at this; cases this)]
def ZbE (n o : Int) : Bool := decide (1 ≤ n ∧ n ≤ 512 ∧ 0 ≤ o ∧ o ≤ 8 ∧ o ≤ n)
theorem Zpq (k : Nat) (n o : Int) : Zi2 k (n, o, ()) = some (ZbE n o, ()) := by
  show ZcW k _ = _
  simp only [ZcW]
  unfold ZbE
  by_cases h1 : 1 ≤ n
  · rw [Zb h1]
    by_cases h2 : n ≤ 512
    · rw [Zb h2]
      by_cases h3 : 0 ≤ o
      · rw [Zb h3]
        congr 2
        by_cases h4 : o ≤ 8 ∧ o ≤ n
        · rw [decide_eq_true (show 1 ≤ n ∧ n ≤ 512 ∧ 0 ≤ o ∧ o ≤ 8 ∧ o ≤ n by omega), decide_eq_true (by split <;> omega)]
        · rw [decide_eq_false (show ¬ (1 ≤ n ∧ n ≤ 512 ∧ 0 ≤ o ∧ o ≤ 8 ∧ o ≤ n) by omega), decide_eq_false (by split <;> omega)]
      · rw [Zj h3, decide_eq_false (by omega)]
    · rw [Zj h2, decide_eq_false (by omega)]
  · rw [Zj h1, decide_eq_false (by omega)]
def Xx (l : List Int) (o : Int) : Int := if o < 0 ∨ 8 < o then 1 else if ZbE ((l.length : Int) + o) o = false then 1 else if l.any Qi then 12 else 0
theorem Zqj (k : Nat) (l : List Int) (o : Int) (hk : l.length < k) (hn : l.length < 4294967296) : Zic k (l, o, ()) = some (Xx l o, ()) := by
  show ZcN k _ = _
  simp only [ZcN]
  unfold Xx
  by_cases h1 : o < 0
  · rw [Zb h1, if_pos (.inl h1)]
  · rw [Zj h1]
    by_cases h2 : 8 < o
    · rw [Zb h2, if_pos (.inr h2)]
    · rw [Zj h2, if_neg (by omega), Z8 (by simp only [Int.ofNat_eq_natCast]; omega), Zpq]
      simp only [Option.bind_some, Int.ofNat_eq_natCast]
      cases hb : ZbE ((l.length : Int) + o) o with
      | false => rfl
      | true =>
        simp only [Bool.not_true, cond_false, Bool.true_eq_false, if_false]
        rw [ZvT k l hk hn]
        simp only [Option.bind_some]
        cases l.any Qi <;> rfl
theorem ZJV {p : Nat} (hp : p ≤ 31) : IntKind.i64.wrap (IntKind.i64.wrap ((1 : Int) * (2 : Int) ^ min ((p : Int)).toNat 64) - 1) = ((2 ^ p - 1 : Nat) : Int) := by
  have h1 : 2 ^ p ≤ 2 ^ 31 := Nat.pow_le_pow_right (by omega) hp
  have h0 : 0 < 2 ^ p := Nat.pow_pos (by omega)
  rw [Int.toNat_natCast, Nat.min_eq_left (by omega), Int.one_mul, Wq]
  rw [Z8 (n := ((2 ^ p : Nat) : Int)) (by omega), Z8 (by omega)]
  omega
theorem Zka {p : Nat} (hp : p ≤ 31) : IntKind.i64.wrap ((1 : Int) * (2 : Int) ^ min ((p : Int)).toNat 64) = ((2 ^ p : Nat) : Int) := by
  have h1 : 2 ^ p ≤ 2 ^ 31 := Nat.pow_le_pow_right (by omega) hp
  rw [Int.toNat_natCast, Nat.min_eq_left (by omega), Int.one_mul, Wq]
  generalize 2 ^ p = Q at h1 ⊢
  rw [Z8 (by omega)]
theorem Zvd {n p : Nat} (hn : n < 4294967296) (hp : p ≤ 31) : IntKind.i64.wrap (Int.ofNat (BitVec.ofInt 64 (n : Int) &&& BitVec.ofInt 64 (IntKind.i64.wrap (IntKind.i64.wrap ((1 : Int) * (2 : Int) ^ min ((p : Int)).toNat 64) - 1))).toNat) = ((n % 2 ^ p : Nat) : Int) := by
  have h1 : 2 ^ p ≤ 2 ^ 31 := Nat.pow_le_pow_right (by omega) hp
  rw [ZJV hp, ZCh (by omega) (by omega), Nat.and_two_pow_sub_one_eq_mod]
  have : n % 2 ^ p ≤ n := Nat.mod_le _ _
  rw [Z8 (by omega)]
def Zej (n o p : Nat) : Bool := decide (n % 2 ^ p = 0) && decide (o ≤ n / 2 ^ p)
theorem ZpT (k : Nat) {n o p : Nat} (hn : n < 4294967296) (hp : p ≤ 31) : Kk k ((n : Int), (o : Int), (p : Int), ()) = some (Zej n o p, ()) := by
  show ZcM k _ = _
  simp only [ZcM]
  rw [Zb (by omega), Zvd hn hp, ZI, Int.toNat_natCast, Nat.min_eq_left (by omega), Zct]
  unfold Zej
  by_cases h : n % 2 ^ p = 0
  · rw [Zb (by omega), Zb (by omega), decide_eq_true h, Bool.true_and]
    congr 2
    by_cases h2 : o ≤ n / 2 ^ p
    · rw [decide_eq_true h2, decide_eq_true (by omega)]
    · rw [decide_eq_false h2, decide_eq_false (by omega)]
  · rw [Zj (by omega), decide_eq_false h, Bool.false_and]
def ZbI (size : Nat) : Nat → List Int → List (List Int)
  | 0, _ => []
  | d + 1, r => r.take size :: ZbI size d (r.drop size)
def Ye (l : List Int) (o p : Nat) : List (List Int) := l.take ((l.length + o) / 2 ^ p - o) :: ZbI ((l.length + o) / 2 ^ p) (2 ^ p - 1) (l.drop ((l.length + o) / 2 ^ p - o))
theorem Znu (size : Nat) : ∀ (d : Nat) (r : List Int), (ZbI size d r).length = d
  | 0, _ => rfl
  | d + 1, r => by simp [ZbI, Znu size d]
theorem Znq (l : List Int) (o p : Nat) : (Ye l o p).length = 2 ^ p := by
  have h0 : 0 < 2 ^ p := Nat.pow_pos (by omega)
  simp only [Ye, List.length_cons, Znu]
  omega
theorem Zl5 {size : Nat} : ∀ {d : Nat} {r c : List Int}, c ∈ ZbI size d r → ∀ x ∈ c, x ∈ r
  | d + 1, r, c, h, x, hx => by
    rcases List.mem_cons.1 h with rfl | h
    · exact List.mem_of_mem_take hx
    · exact List.mem_of_mem_drop (Zl5 h x hx)
theorem Zaj {l : List Int} {o p : Nat} {c : List Int} (h : c ∈ Ye l o p) : ∀ x ∈ c, x ∈ l := by
  intro x hx
  rcases List.mem_cons.1 h with rfl | h
  · exact List.mem_of_mem_take hx
  · exact List.mem_of_mem_drop (Zl5 h x hx)
theorem Zqd {size : Nat} : ∀ {d : Nat} {r c : List Int}, c ∈ ZbI size d r → c.length ≤ r.length
  | d + 1, r, c, h => by
    rcases List.mem_cons.1 h with rfl | h
    · rw [List.length_take]; omega
    · have := Zqd h
      rw [List.length_drop] at this
      omega
theorem ZgB {l : List Int} {o p : Nat} {c : List Int} (h : c ∈ Ye l o p) : c.length ≤ l.length := by
  rcases List.mem_cons.1 h with rfl | h
  · rw [List.length_take]; omega
  · have := Zqd h
    rw [List.length_drop] at this
    omega
theorem ZB8 (k : Nat) {p size : Nat} (hp : p ≤ 15) : ∀ (d m : Nat) (r : List Int) (out : List (List Int)), d < m → out.length + d = 2 ^ p → r.length = d * size → r.length < 4294967296 →
    Zr (fun L1 => YT k L1) m ((p : Int), r, (size : Int), out) = some (out ++ ZbI size d r, ()) := by
  have h15 : 2 ^ p ≤ 2 ^ 15 := Nat.pow_le_pow_right (by omega) hp
  intro d
  induction d with
  | zero =>
    intro m r out hm ho hr hn
    obtain ⟨m, rfl⟩ := Zt hm
    rw [Zi]
    simp only [YT]
    rw [Zb (by omega), Zka (by omega), Zj (by simp only [Int.ofNat_eq_natCast]; omega)]
    simp [ZbI]
  | succ d ih =>
    intro m r out hm ho hr hn
    obtain ⟨m, rfl⟩ := Zt (show 0 < m by omega)
    rw [Zi]
    simp only [YT]
    have hs : (d + 1) * size = d * size + size := by rw [Nat.add_mul, Nat.one_mul]
    have hle : size ≤ r.length := by omega
    rw [Zb (by omega), Zka (by omega), Zb (by simp only [Int.ofNat_eq_natCast]; omega), Zb (by simp only [Int.ofNat_eq_natCast]; omega),
      Zb (by simp only [List.length_singleton]; omega), Zb (by simp only [Int.ofNat_eq_natCast]; omega)]
    rw [Int.toNat_natCast, show (Int.ofNat r.length).toNat = r.length from rfl, List.take_length, List.drop_zero]
    rw [ih m (r.drop size) _ (by omega) (by rw [List.length_append, List.length_singleton]; omega) (by rw [List.length_drop]; omega) (by rw [List.length_drop]; omega)]
    simp [ZbI]
theorem Zqf (k : Nat) {l : List Int} {o p : Nat} (hp : p ≤ 15) (hn : l.length + o < 4294967296) (hk : 32768 < k) (hf : Zej (l.length + o) o p = true) :
    ZiZ k (l, (o : Int), (p : Int), ()) = some (Ye l o p, ()) := by
  show Zc5 k (ZkQ k) _ = _
  have h15 : 2 ^ p ≤ 2 ^ 15 := Nat.pow_le_pow_right (by omega) hp
  have h0 : 0 < 2 ^ p := Nat.pow_pos (by omega)
  unfold Zej at hf
  simp only [Bool.and_eq_true, decide_eq_true_eq] at hf
  obtain ⟨hm, ho⟩ := hf
  simp only [Zc5]
  have e1 : IntKind.i64.wrap (Int.ofNat l.length + (o : Int)) = ((l.length + o : Nat) : Int) := by rw [Z8 (by simp only [Int.ofNat_eq_natCast]; omega)]; rfl
  have hd : (l.length + o) / 2 ^ p ≤ l.length + o := Nat.div_le_self _ _
  have hmul : 2 ^ p * ((l.length + o) / 2 ^ p) = l.length + o := by have := Nat.div_add_mod (l.length + o) (2 ^ p); omega
  unfold Ye
  rw [e1]
  simp only [Int.toNat_natCast, Nat.min_eq_left (show p ≤ 64 by omega), Zct]
  generalize hsz : (l.length + o) / 2 ^ p = size at ho hd hmul
  have e2 : IntKind.i64.wrap ((size : Int) - (o : Int)) = ((size - o : Nat) : Int) := by rw [Z8 (by omega)]; omega
  have hle : size ≤ l.length + o := hd
  have e3 : (2 ^ p - 1) * size = 2 ^ p * size - size := by rw [Nat.sub_mul, Nat.one_mul]
  rw [e2, Zb (by omega), Zb (by simp only [Int.ofNat_eq_natCast]; omega), Zb (by simp only [Int.ofNat_eq_natCast]; omega)]
  rw [Int.toNat_natCast, show (Int.ofNat l.length).toNat = l.length from rfl, List.take_length, List.drop_zero]
  have hps : size ≤ 2 ^ p * size := Nat.le_mul_of_pos_left _ h0
  refine Eq.trans (ZB8 k hp (2 ^ p - 1) k _ _ (by omega) (by rw [List.length_singleton]; omega) (by rw [List.length_drop, e3]; omega) (by rw [List.length_drop]; omega)) ?_
  rfl
end Go.Sh
namespace Go.Sh
open Go Go.Proofs
def Kc (c : List Int) (m : Int) (y : Prt) : Prop :=
  (∃ kk : Nat, kk < WW m ∧ ZiD c kk = false ∧ y = ((kk : Int), 0, ((Za7 c kk : Nat) : Int), ())) ∨
  (Qs c ≤ 31 ∧ y = (((WW m : Nat) : Int), ((Qs c : Nat) : Int), ((5 + Qs c * c.length : Nat) : Int), ()))
theorem ZJb {c : List Int} {m : Int} : ∀ (d kk : Nat) (B : Prt × Bool), kk + d = WW m → (B.2 = true → Kc c m B.1) → ((kF c d kk B).2 = true → Kc c m (kF c d kk B).1)
  | 0, _, B, _, hB => hB
  | d + 1, kk, B, hk, hB => by
    refine ZJb d (kk + 1) _ (by omega) fun h => ?_
    unfold Zeq at h ⊢
    split
    · rename_i hc
      exact .inl ⟨kk, by omega, hc.1, rfl⟩
    · rename_i hc
      rw [if_neg hc] at h
      exact hB h
theorem Zcw {c : List Int} {m : Int} (h : (QF c m).2 = true) : Kc c m (QF c m).1 := by
  unfold QF at h ⊢
  simp only at h ⊢
  split
  · rename_i hc
    exact .inr ⟨hc.1, rfl⟩
  · rename_i hc
    rw [if_neg hc] at h
    exact ZJb _ _ _ (by omega) (fun h => by cases h) h
theorem Zz6 {c : List Int} : ∀ (d kk : Nat) (B : Prt × Bool), B.2 = true → (kF c d kk B).2 = true
  | 0, _, B, hB => hB
  | d + 1, kk, B, hB => by
    refine Zz6 d (kk + 1) _ ?_
    unfold Zeq
    split
    · rfl
    · exact hB
theorem Zzf {c : List Int} {j : Nat} (hj : ZiD c j = false) : ∀ (d kk : Nat) (B : Prt × Bool), kk ≤ j → j < kk + d → (kF c d kk B).2 = true
  | 0, _, B, h1, h2 => by omega
  | d + 1, kk, B, h1, h2 => by
    by_cases he : kk = j
    · subst he
      refine Zz6 d _ _ ?_
      unfold Zeq
      split
      · rfl
      · rename_i hc
        simp only [hj, true_and, not_or] at hc
        simpa using hc.1
    · exact Zzf hj d (kk + 1) _ (by omega) (by omega)
theorem ZMQ {c : List Int} (hc : ∀ x ∈ c, ZL x) : ZiD c 16 = false := by
  unfold ZiD
  rw [List.any_eq_false]
  intro x hx
  have h1 := ZnB (hc x hx)
  have : Z7 x / 2 ^ 16 < 65536 := by rw [Nat.div_lt_iff_lt_mul (by decide)]; omega
  simp only [decide_eq_true_eq]
  omega
theorem Zyl {c : List Int} (hc : ∀ x ∈ c, ZL x) : (QF c 1).2 = true := by
  unfold QF
  simp only
  split
  · rfl
  · exact Zzf (ZMQ hc) _ _ _ (by omega) (by decide)
theorem Kc.size {c : List Int} {m : Int} {y : Prt} (h : Kc c m y) (hc : ∀ x ∈ c, ZL x) (hn : c.length ≤ 512) : 0 ≤ y.2.2.1 ∧ y.2.2.1 ≤ 4398046511104 := by
  have he : WW m ≤ 31 := by unfold WW; split <;> omega
  rcases h with ⟨kk, hk, _, rfl⟩ | ⟨hw, rfl⟩
  · simp only
    have h1 : (kk + 1) * c.length ≤ 32 * 512 := Nat.mul_le_mul (by omega) hn
    have h2 : ZeL (c.map fun n => Z7 n / 2 ^ kk) ≤ (c.map fun n => Z7 n / 2 ^ kk).length * 4294967295 := ZGL fun x hx => by
      obtain ⟨n, hn, rfl⟩ := List.mem_map.1 hx
      exact Zqn (hc n hn) kk
    rw [List.length_map] at h2
    unfold Za7
    omega
  · simp only
    have h1 : Qs c * c.length ≤ 31 * 512 := Nat.mul_le_mul hw hn
    omega
def Qk (m : Int) : List (List Int) → List Prt → Int → List Prt × Int × Bool
  | [], ps, sz => (ps, sz, true)
  | c :: cs, ps, sz => if (QF c m).2 = true then Qk m cs (ps ++ [(QF c m).1]) (sz + (4 + m + (QF c m).1.2.2.1)) else (ps, sz, false)
theorem ZeF {m : Int} {c : List Int} (cs : List (List Int)) (ps : List Prt) (sz : Int) (h : (QF c m).2 = true) : Qk m (c :: cs) ps sz = Qk m cs (ps ++ [(QF c m).1]) (sz + (4 + m + (QF c m).1.2.2.1)) := by
  show (if (QF c m).2 = true then _ else _) = _
  rw [if_pos h]
theorem ZhC {m : Int} {c : List Int} (cs : List (List Int)) (ps : List Prt) (sz : Int) (h : (QF c m).2 = false) : Qk m (c :: cs) ps sz = (ps, sz, false) := by
  show (if (QF c m).2 = true then _ else _) = _
  rw [if_neg (by rw [h]; simp)]
abbrev W1 := Int × Int × Int × List Prt
def WQ (l : List Int) (o p : Nat) (m : Int) (B : W1) : W1 :=
  if (Qk m (Ye l o p) [] 6).2.2 = true ∧ (B.2.2.1 < 0 ∨ (Qk m (Ye l o p) [] 6).2.1 < B.2.2.1) then (m, (p : Int), (Qk m (Ye l o p) [] 6).2.1, (Qk m (Ye l o p) [] 6).1) else B
def Zgt (l : List Int) (o : Nat) (B : W1) (p : Nat) : W1 := if Zej (l.length + o) o p = true then WQ l o p 1 (WQ l o p 0 B) else B
def W5 (l : List Int) (o : Nat) : Nat → Nat → W1 → W1
  | 0, _, B => B
  | d + 1, p, B => W5 l o d (p + 1) (Zgt l o B p)
def Wd (l : List Int) (o : Nat) : W1 := W5 l o 5 0 (0, 0, -1, [])
theorem ZyS (k : Nat) (L1 : Int × List Int × Int × Int × Int × Int × List (Int × Int × Int × Unit) × Int × Int × Int → Option ((Int × Int × List (Int × Int × Int × Unit) × Int × Unit) × Unit))
    (L2 : Int × Int × List Int × Int × Int × Int × Int × List (Int × Int × Int × Unit) × Int × Int × Int → Option ((Int × Int × List (Int × Int × Int × Unit) × Int × Unit) × Unit))
    {cs : List (List Int)} (hcs : ∀ c ∈ cs, (∀ x ∈ c, ZL x) ∧ c.length ≤ 512) (hn : cs.length ≤ 16) (hk : 600 < k) {m : Int} (hm : m = 0 ∨ m = 1) (p : Int) (l : List Int) (o : Int) (B : W1) :
    KE k L1 L2 (Int.ofNat cs.length, (0 : Int), cs, m, p, l, o, true, B.1, B.2.1, B.2.2.1, B.2.2.2, m, p, (6 : Int), [], 0, 0, 0) =
      L2 (m + 1, p, l, o, if (Qk m cs [] 6).2.2 = true ∧ (B.2.2.1 < 0 ∨ (Qk m cs [] 6).2.1 < B.2.2.1) then (m, p, (Qk m cs [] 6).2.1, (Qk m cs [] 6).1, 0, 0, 0) else (B.1, B.2.1, B.2.2.1, B.2.2.2, 0, 0, 0)) := by
  have hm1 : IntKind.i64.wrap (m + 1) = m + 1 := by rcases hm with rfl | rfl <;> rfl
  have := Zz (A := Int × List Prt) (R := (Int × Int × List (Int × Int × Int × Unit) × Int × Unit) × Unit) (step := fun L3 => Y2 k L1 L2 L3)
    (fun i a => (Int.ofNat cs.length, Int.ofNat i, cs, m, p, l, o, true, B.1, B.2.1, B.2.2.1, B.2.2.2, m, p, a.1, a.2, 0, 0, 0)) cs
    (fun cs' a => L2 (m + 1, p, l, o, if (Qk m cs' a.2 a.1).2.2 = true ∧ (B.2.2.1 < 0 ∨ (Qk m cs' a.2 a.1).2.1 < B.2.2.1) then (m, p, (Qk m cs' a.2 a.1).2.1, (Qk m cs' a.2 a.1).1, 0, 0, 0) else (B.1, B.2.1, B.2.2.1, B.2.2.2, 0, 0, 0)))
    (fun i a => 0 ≤ a.1 ∧ a.1 ≤ 6 + (i : Int) * 8796093022208 ∧ a.2.length = i)
    (fun L a _ => by
      simp only [Y2]
      rw [Zj (WB _), hm1]
      simp only [cond_true, Qk, true_and]
      by_cases h1 : B.2.2.1 < 0
      · rw [Zb h1, if_pos (.inl h1)]
      · rw [Zj h1]
        by_cases h2 : a.1 < B.2.2.1
        · rw [Zb h2, if_pos (.inr h2)]
        · rw [Zj h2, if_neg (by omega)])
    (fun L i hi a ha hL => by
      simp only [Y2]
      obtain ⟨hc1, hc2⟩ := hcs cs[i] (List.getElem_mem hi)
      rw [Zb (ltR hi), Zb (inR hi), ZR hi, ZBq k hc1 hc2 (by omega) hm]
      simp only [Option.bind_some]
      cases hb : (QF cs[i] m).2 with
      | false =>
        rw [ZhC _ _ _ hb]
        simp only [Bool.not_false, cond_true, cond_false, hm1, Bool.false_eq_true, if_false, false_and]
      | true =>
        rw [ZeF _ _ _ hb]
        simp only [Bool.not_true, cond_false]
        have hs := (Zcw hb).size hc1 hc2
        have hi16 : (i : Int) < 16 := by omega
        have hm01 : 0 ≤ m ∧ m ≤ 1 := by rcases hm with rfl | rfl <;> omega
        rw [Zb (by simp only [List.length_singleton]; omega), ZJ1, Ziz k hm]
        simp only [Option.bind_some]
        rw [QK hi (by omega), Z8 (n := 4 + m + (QF cs[i] m).1.2.2.1) (by omega), Z8 (by omega)]
        exact hL (a.1 + (4 + m + (QF cs[i] m).1.2.2.1), a.2 ++ [(QF cs[i] m).1]) ⟨by omega, by push_cast; omega, by simp; omega⟩)
    k 0 ((6 : Int), []) ⟨by omega, by simp, rfl⟩ (by omega) (Nat.zero_le _)
  rw [List.drop_zero] at this
  exact this
theorem ZBV (k : Nat) (L1 : Int × List Int × Int × Int × Int × Int × List (Int × Int × Int × Unit) × Int × Int × Int → Option ((Int × Int × List (Int × Int × Int × Unit) × Int × Unit) × Unit))
    {l : List Int} (hl : ∀ x ∈ l, ZL x) {o p : Nat} (hn : l.length + o ≤ 512) (hp : p ≤ 4) (hk : 40000 < k) (hf : Zej (l.length + o) o p = true) (B : W1) :
    ZdB k L1 ((0 : Int), (p : Int), l, (o : Int), B.1, B.2.1, B.2.2.1, B.2.2.2, 0, 0, 0) =
      L1 (((p + 1 : Nat) : Int), l, (o : Int), (WQ l o p 1 (WQ l o p 0 B)).1, (WQ l o p 1 (WQ l o p 0 B)).2.1, (WQ l o p 1 (WQ l o p 0 B)).2.2.1, (WQ l o p 1 (WQ l o p 0 B)).2.2.2, 0, 0, 0) := by
  have hcs : ∀ c ∈ Ye l o p, (∀ x ∈ c, ZL x) ∧ c.length ≤ 512 := fun c hc => ⟨fun x hx => hl x (Zaj hc x hx), by have := ZgB hc; omega⟩
  have hlen : (Ye l o p).length ≤ 16 := by
    rw [Znq]
    have : 2 ^ p ≤ 2 ^ 4 := Nat.pow_le_pow_right (by omega) hp
    omega
  have hcut := Zqf k (l := l) (o := o) (p := p) (by omega) (by omega) (by omega) hf
  have one : ∀ (j : Nat) (m : Int) (B : W1), m = 0 ∨ m = 1 → Zr (fun L2 => Xe k (KE k L1 L2) L1 L2) (j + 1) (m, (p : Int), l, (o : Int), B.1, B.2.1, B.2.2.1, B.2.2.2, 0, 0, 0) =
      Zr (fun L2 => Xe k (KE k L1 L2) L1 L2) j (m + 1, (p : Int), l, (o : Int), (WQ l o p m B).1, (WQ l o p m B).2.1, (WQ l o p m B).2.2.1, (WQ l o p m B).2.2.2, 0, 0, 0) := by
    intro j m B hm
    rw [Zi]
    simp only [Xe]
    rw [Zb (by rcases hm with rfl | rfl <;> omega), hcut]
    simp only [Option.bind_some]
    refine (ZyS k L1 _ hcs hlen (by omega) hm (p : Int) l (o : Int) B).trans ?_
    unfold WQ
    split <;> rfl
  obtain ⟨j, rfl⟩ : ∃ j, k = j + 3 := ⟨k - 3, by omega⟩
  show Zr (fun L2 => Xe (j + 3) (KE (j + 3) L1 L2) L1 L2) (j + 3) _ = _
  rw [one (j + 2) 0 B (.inl rfl), show (0 : Int) + 1 = 1 from rfl, one (j + 1) 1 _ (.inr rfl), Zi]
  simp only [Xe]
  rw [Zj (by omega), Z8 (by omega)]
  rfl
theorem Zpi (k : Nat) {l : List Int} (hl : ∀ x ∈ l, ZL x) {o : Nat} (hn : l.length + o ≤ 512) (hk : 40000 < k) :
    Zi3 k (l, (o : Int), ()) = some (((Wd l o).1, (Wd l o).2.1, (Wd l o).2.2.2, (Wd l o).2.2.1, ()), ()) := by
  show Zdh k (Zlm k) _ = _
  simp only [Zdh]
  suffices H : ∀ (d p m : Nat) (B : W1), d < m → p + d = 5 → Zr (fun L1 => Y5 k (ZdB k L1) L1) m ((p : Int), l, (o : Int), B.1, B.2.1, B.2.2.1, B.2.2.2, 0, 0, 0) =
      some (((W5 l o d p B).1, (W5 l o d p B).2.1, (W5 l o d p B).2.2.2, (W5 l o d p B).2.2.1, ()), ()) from H 5 0 k (0, 0, -1, []) (by omega) rfl
  intro d
  induction d with
  | zero =>
    intro p m B hm hp
    obtain ⟨m, rfl⟩ := Zt hm
    rw [Zi]
    simp only [Y5]
    rw [Zj (by omega)]
    rfl
  | succ d ih =>
    intro p m B hm hp
    obtain ⟨m, rfl⟩ := Zt (show 0 < m by omega)
    rw [Zi]
    simp only [Y5]
    have e1 : IntKind.i64.wrap (Int.ofNat l.length + (o : Int)) = ((l.length + o : Nat) : Int) := by rw [Z8 (by simp only [Int.ofNat_eq_natCast]; omega)]; rfl
    rw [Zb (by omega), e1, ZN4, ZpT k (by omega) (by omega)]
    simp only [Option.bind_some]
    have e2 : IntKind.i64.wrap ((p : Int) + 1) = ((p + 1 : Nat) : Int) := by rw [Z8 (by omega)]; rfl
    cases hf : Zej (l.length + o) o p with
    | false =>
      simp only [Bool.not_false, cond_true]
      rw [e2, ih (p + 1) m B (by omega) (by omega)]
      simp only [W5, Zgt, hf, Bool.false_eq_true, if_false]
    | true =>
      simp only [Bool.not_true, cond_false]
      rw [ZBV k _ hl hn (by omega) hk hf, ih (p + 1) m _ (by omega) (by omega)]
      simp only [W5, Zgt, hf, if_true]
structure RGood (l : List Int) (o : Nat) (R : W1) (p : Nat) : Prop where
  hp : R.2.1 = (p : Int)
  p4 : p ≤ 4
  fit : Zej (l.length + o) o p = true
  hm : R.1 = 0 ∨ R.1 = 1
  parts : Qk R.1 (Ye l o p) [] 6 = (R.2.2.2, R.2.2.1, true)
theorem ZhQ {m : Int} (hm : 0 ≤ m) : ∀ (cs : List (List Int)) (ps : List Prt) (sz : Int), (∀ c ∈ cs, (∀ x ∈ c, ZL x) ∧ c.length ≤ 512) → sz ≤ (Qk m cs ps sz).2.1
  | [], _, _, _ => Int.le_refl _
  | c :: cs, ps, sz, h => by
    unfold Qk
    split
    · rename_i hb
      have h1 := h c (List.mem_cons_self ..)
      have h2 := (Zcw hb).size h1.1 h1.2
      have := ZhQ hm cs (ps ++ [(QF c m).1]) (sz + (4 + m + (QF c m).1.2.2.1)) fun c hc => h c (List.mem_cons_of_mem _ hc)
      omega
    · exact Int.le_refl _
theorem Zm8 {l : List Int} {o p : Nat} {m : Int} {B : W1} (hm : m = 0 ∨ m = 1) (hp : p ≤ 4) (hf : Zej (l.length + o) o p = true) (hB : B.2.2.1 < 0 ∨ ∃ q, RGood l o B q) :
    (WQ l o p m B).2.2.1 < 0 ∨ ∃ q, RGood l o (WQ l o p m B) q := by
  unfold WQ
  split
  · rename_i hc
    right
    refine ⟨p, rfl, hp, hf, hm, ?_⟩
    simp only
    rw [← hc.1]
  · exact hB
theorem ZxX {l : List Int} {o p : Nat} {B : W1} (hp : p ≤ 4) (hB : B.2.2.1 < 0 ∨ ∃ q, RGood l o B q) : (Zgt l o B p).2.2.1 < 0 ∨ ∃ q, RGood l o (Zgt l o B p) q := by
  unfold Zgt
  split
  · rename_i hf
    exact Zm8 (.inr rfl) hp hf (Zm8 (.inl rfl) hp hf hB)
  · exact hB
theorem ZgM {l : List Int} {o : Nat} : ∀ (d p : Nat) (B : W1), p + d ≤ 5 → (B.2.2.1 < 0 ∨ ∃ q, RGood l o B q) → (W5 l o d p B).2.2.1 < 0 ∨ ∃ q, RGood l o (W5 l o d p B) q
  | 0, _, B, _, hB => hB
  | d + 1, p, B, h, hB => ZgM d (p + 1) _ (by omega) (ZxX (by omega) hB)
theorem Znn {l : List Int} {o p : Nat} {m : Int} {B : W1} (hl : ∀ x ∈ l, ZL x) (hn : l.length ≤ 512) (hm : 0 ≤ m) (hB : 0 ≤ B.2.2.1) : 0 ≤ (WQ l o p m B).2.2.1 := by
  unfold WQ
  split
  · have := ZhQ hm (Ye l o p) [] 6 fun c hc => ⟨fun x hx => hl x (Zaj hc x hx), by have := ZgB hc; omega⟩
    simp only
    omega
  · exact hB
theorem ZmE {l : List Int} {o : Nat} (hl : ∀ x ∈ l, ZL x) (hn : l.length ≤ 512) : ∀ (d p : Nat) (B : W1), 0 ≤ B.2.2.1 → 0 ≤ (W5 l o d p B).2.2.1
  | 0, _, B, hB => hB
  | d + 1, p, B, hB => ZmE hl hn d (p + 1) _ (by
    unfold Zgt
    split
    · exact Znn hl hn (by omega) (Znn hl hn (by omega) hB)
    · exact hB)
theorem Zo6 {m : Int} : ∀ (cs : List (List Int)) (ps : List Prt) (sz : Int), (∀ c ∈ cs, (QF c m).2 = true) → (Qk m cs ps sz).2.2 = true
  | [], _, _, _ => rfl
  | c :: cs, ps, sz, h => by
    unfold Qk
    rw [if_pos (h c (List.mem_cons_self ..))]
    exact Zo6 cs _ _ fun c hc => h c (List.mem_cons_of_mem _ hc)
theorem Zbw {l : List Int} {o : Nat} (hl : ∀ x ∈ l, ZL x) (hn : l.length + o ≤ 512) (ho : o ≤ l.length + o) : 0 ≤ (Wd l o).2.2.1 ∧ ∃ q, RGood l o (Wd l o) q := by
  have hnn : 0 ≤ (Wd l o).2.2.1 := by
    show 0 ≤ (W5 l o 4 1 (Zgt l o (0, 0, -1, []) 0)).2.2.1
    refine ZmE hl (by omega) 4 1 _ ?_
    unfold Zgt
    have hf : Zej (l.length + o) o 0 = true := by unfold Zej; simp [Nat.mod_one]
    rw [if_pos hf]
    generalize WQ l o 0 0 (0, 0, -1, []) = B
    by_cases hB : 0 ≤ B.2.2.1
    · exact Znn hl (by omega) (by omega) hB
    · unfold WQ
      have hok := Zo6 (m := 1) (Ye l o 0) [] 6 fun c hc => Zyl fun x hx => hl x (Zaj hc x hx)
      rw [if_pos ⟨hok, .inl (by omega)⟩]
      have := ZhQ (m := 1) (by omega) (Ye l o 0) [] 6 fun c hc => ⟨fun x hx => hl x (Zaj hc x hx), by have := ZgB hc; omega⟩
      simp only
      omega
  refine ⟨hnn, ?_⟩
  rcases ZgM (l := l) (o := o) 5 0 (0, 0, -1, []) (by omega) (.inl (by show (-1 : Int) < 0; omega)) with h | h
  · exact absurd h (by unfold Wd at hnn; omega)
  · exact h
end Go.Sh
namespace Go.Sh
open Go Go.Proofs
theorem ZAr (k : Nat) {l : List Int} (hl : l.length ≤ 512) {o : Nat} (hk : 40000 < k) :
    Zor k (l, (o : Int), ()) = some ((if Xx l o = 0 then ((Wd l o).2.2.1, 0, ()) else (0, Xx l o, ())), ()) := by
  show Zd8 k _ = _
  simp only [Zd8]
  rw [Zqj k l o (by omega) (by omega)]
  simp only [Option.bind_some]
  rw [ZT]
  by_cases h : Xx l o = 0
  · rw [Zj (by simpa using h), if_pos h]
    have hc : ZbE ((l.length : Int) + o) o = true ∧ l.any Qi = false := by
      unfold Xx at h
      split at h
      · omega
      · split at h
        · omega
        · rename_i hb
          split at h
          · omega
          · rename_i hw
            exact ⟨by simpa using hb, by simpa using hw⟩
    have hb := of_decide_eq_true hc.1
    rw [Zpi k (YP hc.2) (by omega) hk]
    rfl
  · rw [Zb h, if_neg h]
theorem Zjz {l : List Int} {o : Nat} : Xx l o = 0 ↔ (1 ≤ l.length + o ∧ l.length + o ≤ 512 ∧ o ≤ 8) ∧ l.any Qi = false := by
  unfold Xx
  constructor
  · intro h
    split at h
    · omega
    · split at h
      · omega
      · rename_i h1 h2
        split at h
        · omega
        · rename_i hw
          have := of_decide_eq_true (by simpa using h2 : ZbE ((l.length : Int) + o) o = true)
          exact ⟨by omega, by simpa using hw⟩
  · rintro ⟨h1, h2⟩
    rw [if_neg (by omega), if_neg, if_neg (by simp [h2])]
    unfold ZbE
    rw [decide_eq_true (by omega)]
    simp
def Zdg (kk : Nat) (n : Int) : List Bool := (List.replicate (Z7 n / 2 ^ kk) false ++ [true]) ++ Ze (Z7 n % 2 ^ kk) kk
def Yp (m : Int) (y : Prt) (c : List Int) : List Bool := if y.1 = (WW m : Int) then c.flatMap (fun n => Xk n y.2.1.toNat) else c.flatMap (Zdg y.1.toNat)
def Kt (m : Int) (x : List Int × Prt) : List Bool := Ze x.2.1.toNat (4 + m.toNat) ++ ((if x.2.1 = (WW m : Int) then Ze x.2.2.1.toNat 5 else []) ++ Yp m x.2 x.1)
def Zhg (l : List Int) (o : Nat) (R : W1) : List Bool := (Ze R.1.toNat 2 ++ Ze R.2.1.toNat 4) ++ ((Ye l o R.2.1.toNat).zip R.2.2.2).flatMap (Kt R.1)
def ZbX (l : List Int) (o : Nat) : List Bool := Zhg l o (Wd l o)
theorem Zcj (kk : Nat) (n : Int) : (Zdg kk n).length = Z7 n / 2 ^ kk + 1 + kk := by
  simp [Zdg, Zu]
  omega
theorem Zuk (k : Nat) (L1 : Int × Int × List (List Int) × Int × List Int × Int × Int × List (Int × Int × Int × Unit) × Int → Option (Int × (List Int × Int × Unit) × Unit))
    {c : List Int} (hc : ∀ x ∈ c, ZL x) (hn : c.length ≤ 512) (hk : 70000 < k) {m : Int} (hm : m = 0 ∨ m = 1) {y : Prt} (hy : Kc c m y) (v3 v4 : Int) (v5 : List (List Int)) (v12 : Int) (v13 : List Prt) (v14 : Int)
    (hv3 : 0 ≤ v3 ∧ v3 ≤ 65536) (bs : List Bool) (hb : bs.length ≤ 2147483648) :
    Zfh k L1 (Int.ofNat c.length, (0 : Int), c, v3, v4, v5, (bs.length : Int), ZJ bs, y.1, y.2.1, y.2.2.1, m, v12, v13, v14) =
      L1 (v4, v3 + 1, v5, ((bs ++ Yp m y c).length : Int), ZJ (bs ++ Yp m y c), m, v12, v13, v14) := by
  have he : WW m ≤ 31 := by unfold WW; split <;> omega
  have hfin : ∀ (g : Int → List Bool), (∀ x ∈ c, (g x).length ≤ 70000) →
      (∀ (L : Int × Int × List Int × Int × Int × List (List Int) × Int × List Int × Int × Int × Int × Int × Int × List (Int × Int × Int × Unit) × Int → Option (Int × (List Int × Int × Unit) × Unit)) (i : Nat) (hi : i < c.length) (a : List Bool), a.length ≤ 2147483648 + i * 70000 →
        Yg k L1 L (Int.ofNat c.length, Int.ofNat i, c, v3, v4, v5, (a.length : Int), ZJ a, y.1, y.2.1, y.2.2.1, m, v12, v13, v14) =
        L (Int.ofNat c.length, Int.ofNat (i + 1), c, v3, v4, v5, ((a ++ g c[i]).length : Int), ZJ (a ++ g c[i]), y.1, y.2.1, y.2.2.1, m, v12, v13, v14)) →
      Zfh k L1 (Int.ofNat c.length, (0 : Int), c, v3, v4, v5, (bs.length : Int), ZJ bs, y.1, y.2.1, y.2.2.1, m, v12, v13, v14) =
      L1 (v4, v3 + 1, v5, ((bs ++ c.flatMap g).length : Int), ZJ (bs ++ c.flatMap g), m, v12, v13, v14) := by
    intro g hg hstep
    have := Zz (A := List Bool) (R := Int × (List Int × Int × Unit) × Unit) (step := fun L2 => Yg k L1 L2)
      (fun i a => (Int.ofNat c.length, Int.ofNat i, c, v3, v4, v5, (a.length : Int), ZJ a, y.1, y.2.1, y.2.2.1, m, v12, v13, v14)) c
      (fun c' a => L1 (v4, v3 + 1, v5, ((a ++ c'.flatMap g).length : Int), ZJ (a ++ c'.flatMap g), m, v12, v13, v14))
      (fun i a => a.length ≤ 2147483648 + i * 70000)
      (fun L a _ => by
        simp only [Yg]
        rw [Zj (WB _), Z8 (by omega)]
        simp)
      (fun L i hi a ha hL => by
        rw [hstep L i hi a ha, hL (a ++ g c[i]) (by
          have := hg c[i] (List.getElem_mem hi)
          rw [List.length_append]; omega)]
        rw [List.flatMap_cons, List.append_assoc])
      k 0 bs (by omega) (by omega) (Nat.zero_le _)
    rw [List.drop_zero] at this
    exact this
  unfold Yp
  rcases hy with ⟨kk, hkk, hfar, rfl⟩ | ⟨hw, rfl⟩
  · simp only
    rw [if_neg (by omega)]
    have hq : ∀ x ∈ c, Z7 x / 2 ^ kk ≤ 65536 := by
      intro x hx
      unfold ZiD at hfar
      rw [List.any_eq_false] at hfar
      have := hfar x hx
      simp only [decide_eq_true_eq] at this
      omega
    rw [Int.toNat_natCast]
    refine hfin (Zdg kk) (fun x hx => by have := hq x hx; rw [Zcj]; omega) ?_
    intro L i hi a ha
    have hx := hc c[i] (List.getElem_mem hi)
    have hxq := hq c[i] (List.getElem_mem hi)
    simp only [Yg]
    rw [Zb (ltR hi), Zb (inR hi), ZCn, Za0 k hm]
    simp only [Option.bind_some]
    rw [ZI, Zj (by omega), ZR hi, ZNj, Zqk k hx]
    simp only [Option.bind_some]
    have hf32 := ZnB hx
    rw [Zb (by omega), Zvd (by omega) (by omega)]
    simp only [Int.toNat_natCast, Nat.min_eq_left (show kk ≤ 64 by omega), Zct]
    rw [show ((ZJ a, ((a.length : Nat) : Int), ()) : List Int × Int × Unit) = wst a from rfl, Zu5 k a _ (by omega) hxq (by omega)]
    simp only [Option.bind_some]
    rw [Zb (by omega)]
    have hlen : (a ++ (List.replicate (Z7 c[i] / 2 ^ kk) false ++ [true])).length = a.length + (Z7 c[i] / 2 ^ kk + 1) := by simp
    rw [Qq k (a ++ (List.replicate (Z7 c[i] / 2 ^ kk) false ++ [true])) _ kk (by omega) (by omega) (Nat.mod_lt _ (Nat.pow_pos (by omega))) (by rw [hlen]; omega)]
    simp only [Option.bind_some]
    rw [QK hi (by omega)]
    unfold Zdg
    simp only [List.append_assoc]
  · simp only
    rw [if_pos trivial, Int.toNat_natCast]
    refine hfin (fun n => Xk n (Qs c)) (fun x hx => by simp only [ZdK]; omega) ?_
    intro L i hi a ha
    have hx := ZCe hc c[i] (List.getElem_mem hi)
    simp only [Yg]
    rw [Zb (ltR hi), Zb (inR hi), ZCn, Za0 k hm]
    simp only [Option.bind_some]
    rw [ZI, Zb rfl, ZR hi]
    rw [show ((ZJ a, ((a.length : Nat) : Int), ()) : List Int × Int × Unit) = wst a from rfl, Zqr k a _ (Qs c) (by omega) (by omega) hx (by omega)]
    simp only [Option.bind_some]
    rw [QK hi (by omega)]
theorem ZwL {c : List Int} (hc : ∀ x ∈ c, ZL x) (hn : c.length ≤ 512) {m : Int} {y : Prt} (hy : Kc c m y) : (Yp m y c).length ≤ c.length * 70000 := by
  have he : WW m ≤ 31 := by unfold WW; split <;> omega
  have key : ∀ (g : Int → List Bool) (l : List Int), (∀ x ∈ l, (g x).length ≤ 70000) → (l.flatMap g).length ≤ l.length * 70000 := by
    intro g l
    induction l with
    | nil => intro _; simp
    | cons a l ih =>
      intro h
      have h1 := h a (List.mem_cons_self ..)
      have h2 := ih fun x hx => h x (List.mem_cons_of_mem _ hx)
      rw [List.flatMap_cons, List.length_append, List.length_cons]
      omega
  unfold Yp
  rcases hy with ⟨kk, hkk, hfar, rfl⟩ | ⟨hw, rfl⟩
  · simp only
    rw [if_neg (by omega)]
    refine key _ c fun x hx => ?_
    unfold ZiD at hfar
    rw [List.any_eq_false] at hfar
    have := hfar x hx
    simp only [decide_eq_true_eq] at this
    rw [Zcj, Int.toNat_natCast]
    omega
  · simp only
    rw [if_pos trivial]
    refine key _ c fun x hx => ?_
    rw [ZdK, Int.toNat_natCast]
    omega
def YH (m : Int) : List (List Int) → List Prt → Prop
  | [], [] => True
  | c :: cs, y :: ys => Kc c m y ∧ YH m cs ys
  | _, _ => False
theorem Zcp {m : Int} : ∀ (cs : List (List Int)) (ps : List Prt) (sz : Int), (Qk m cs ps sz).2.2 = true → ∃ ys, (Qk m cs ps sz).1 = ps ++ ys ∧ YH m cs ys ∧ ys = cs.map fun c => (QF c m).1
  | [], ps, sz, _ => ⟨[], by simp [Qk], trivial, rfl⟩
  | c :: cs, ps, sz, h => by
    unfold Qk at h ⊢
    split at h
    · rename_i hb
      rw [if_pos hb]
      obtain ⟨ys, h1, h2, h3⟩ := Zcp cs _ _ h
      refine ⟨(QF c m).1 :: ys, by rw [h1]; simp, ⟨Zcw hb, h2⟩, by rw [h3]; rfl⟩
    · cases h
theorem YH.len {m : Int} : ∀ {cs : List (List Int)} {ys : List Prt}, YH m cs ys → ys.length = cs.length
  | [], [], _ => rfl
  | c :: cs, y :: ys, h => by simp [YH.len h.2]
theorem YH.get {m : Int} : ∀ {cs : List (List Int)} {ys : List Prt}, YH m cs ys → ∀ (i : Nat) (h1 : i < cs.length) (h2 : i < ys.length), Kc cs[i] m ys[i]
  | c :: cs, y :: ys, h, 0, _, _ => h.1
  | c :: cs, y :: ys, h, i + 1, h1, h2 => by
    simp only [List.getElem_cons_succ]
    exact YH.get h.2 i (by simpa using h1) (by simpa using h2)
theorem RGood.ys {l : List Int} {o p : Nat} {R : W1} (h : RGood l o R p) : YH R.1 (Ye l o p) R.2.2.2 := by
  obtain ⟨ys, h1, h2, _⟩ := Zcp (m := R.1) (Ye l o p) [] 6 (by rw [h.parts])
  rw [h.parts] at h1
  simp only [List.nil_append] at h1
  rw [h1]; exact h2
theorem Zyp {c : List Int} {m : Int} (hm : m = 0 ∨ m = 1) {y : Prt} (hy : Kc c m y) : ∃ a w : Nat, y.1 = (a : Int) ∧ a < 2 ^ (4 + m.toNat) ∧ y.2.1 = (w : Int) ∧ w ≤ 31 := by
  rcases hy with ⟨kk, hkk, hfar, rfl⟩ | ⟨hw, rfl⟩
  · refine ⟨kk, 0, rfl, ?_, rfl, by omega⟩
    rcases hm with rfl | rfl
    · have : WW 0 = 15 := rfl
      rw [this] at hkk
      show kk < 16
      omega
    · have : WW 1 = 31 := rfl
      rw [this] at hkk
      show kk < 32
      omega
  · refine ⟨WW m, Qs c, rfl, ?_, rfl, hw⟩
    rcases hm with rfl | rfl <;> decide
theorem ZvH (k : Nat) {l : List Int} {o : Nat} (hk : 70000 < k) (h : Xx l o = 0) (bs : List Bool) (hb : bs.length ≤ 1073741824) :
    Zez k (wst bs, l, (o : Int), ()) = some (0, wst (bs ++ ZbX l o), ()) := by
  show Zg5 k (Zrd k) _ = _
  have ⟨h1, h2⟩ := Zjz.1 h
  have hl := YP h2
  obtain ⟨hsz, q, hg⟩ := Zbw hl (o := o) (by omega) (by omega)
  simp only [Zg5]
  rw [Zqj k l o (by omega) (by omega), h]
  simp only [Option.bind_some]
  rw [show ((0 : Int) != 0) = false from rfl]
  simp only [cond_false]
  rw [Zpi k hl (by omega) (by omega)]
  simp only [Option.bind_some]
  unfold ZbX Zhg
  generalize Wd l o = R at hg hsz
  have hys := hg.ys
  obtain ⟨m, p, sz, ys⟩ := R
  obtain ⟨hp, p4, hfit, hm, hparts⟩ := hg
  simp only at hp hm hparts hys
  subst hp
  simp only [Int.toNat_natCast]
  have hmn : m = ((m.toNat : Nat) : Int) := by rcases hm with rfl | rfl <;> rfl
  have hm2 : m.toNat < 2 ^ 2 := by rcases hm with rfl | rfl <;> decide
  have e1 := Qq k bs m.toNat 2 (by omega) (by omega) hm2 (by omega)
  rw [← hmn] at e1
  rw [show ((ZJ bs, ((bs.length : Nat) : Int), ()) : List Int × Int × Unit) = wst bs from rfl, show (2 : Int) = ((2 : Nat) : Int) from rfl, e1]
  simp only [Option.bind_some]
  have hl1 : (bs ++ Ze m.toNat 2).length = bs.length + 2 := by rw [List.length_append, Zu]
  have e2 := Qq k (bs ++ Ze m.toNat 2) q 4 (by omega) (by omega) (by omega) (by rw [hl1]; omega)
  rw [show (4 : Int) = ((4 : Nat) : Int) from rfl, e2]
  simp only [Option.bind_some]
  rw [Zqf k (by omega) (by omega) (by omega) hfit]
  simp only [Option.bind_some]
  have hcs : ∀ c ∈ Ye l o q, (∀ x ∈ c, ZL x) ∧ c.length ≤ 512 := fun c hc => ⟨fun x hx => hl x (Zaj hc x hx), by have := ZgB hc; omega⟩
  have hclen : (Ye l o q).length ≤ 16 := by
    rw [Znq]
    have : 2 ^ q ≤ 2 ^ 4 := Nat.pow_le_pow_right (by omega) p4
    omega
  have hyl := hys.len
  generalize Ye l o q = cs at hcs hclen hys hyl
  have hzl : (cs.zip ys).length = cs.length := by rw [List.length_zip]; omega
  have hl2 : (bs ++ Ze m.toNat 2 ++ Ze q 4).length = bs.length + 6 := by rw [List.length_append, hl1, Zu]
  have := Zz (A := List Bool) (R := Int × (List Int × Int × Unit) × Unit) (step := fun L1 => Zat k (Zfh k L1) L1)
    (fun i a => (Int.ofNat cs.length, Int.ofNat i, cs, (a.length : Int), ZJ a, m, (q : Int), ys, sz)) (cs.zip ys)
    (fun l' a => some (0, wst (a ++ l'.flatMap (Kt m)), ()))
    (fun i a => a.length ≤ 1073741900 + i * 35900000)
    (fun L a _ => by
      simp only [Zat]
      rw [hzl, Zj (WB _)]
      simp)
    (fun L i hi a ha hL => by
      have hi1 : i < cs.length := by omega
      have hi2 : i < ys.length := by omega
      obtain ⟨hc1, hc2⟩ := hcs cs[i] (List.getElem_mem hi1)
      have hy := hys.get i hi1 hi2
      have hzi : (cs.zip ys)[i] = (cs[i], ys[i]) := by rw [List.getElem_zip]
      simp only [Zat]
      rw [Zb (ltR hi1), Zb (inR hi1), Zb (inR hi2), ZJ1, Ziz k hm]
      simp only [Option.bind_some]
      rw [ZR hi1, ZR hi2]
      obtain ⟨b, w, hb1, hb2, hw1, hw2⟩ := Zyp hm hy
      have hll := ZwL hc1 hc2 hy
      have e4 : (4 : Int) + m = ((4 + m.toNat : Nat) : Int) := by rcases hm with rfl | rfl <;> rfl
      have hm1 : m.toNat ≤ 1 := by rcases hm with rfl | rfl <;> decide
      rw [hb1, hw1, e4, show ((ZJ a, ((a.length : Nat) : Int), ()) : List Int × Int × Unit) = wst a from rfl, Qq k a b (4 + m.toNat) (by omega) (by omega) hb2 (by omega)]
      simp only [Option.bind_some]
      rw [ZCn, Za0 k hm]
      simp only [Option.bind_some]
      have hla : (a ++ Ze b (4 + m.toNat)).length = a.length + (4 + m.toNat) := by rw [List.length_append, Zu]
      have hI : ((i : Nat) : Int) ≤ 16 := by omega
      have hout : Kt m (cs[i], ys[i]) = Ze b (4 + m.toNat) ++ ((if (b : Int) = (WW m : Int) then Ze w 5 else []) ++ Yp m ys[i] cs[i]) := by
        unfold Kt
        simp only [hb1, hw1, Int.toNat_natCast]
      rw [hzi, List.flatMap_cons, hout, ZI]
      have hnext : Int.ofNat i + 1 = Int.ofNat (i + 1) := rfl
      by_cases hesc : (b : Int) = (WW m : Int)
      · rw [Zb hesc, if_pos hesc]
        have h5 : w < 2 ^ 5 := by omega
        rw [show ((5 : Int)) = ((5 : Nat) : Int) from rfl, Qq k (a ++ Ze b (4 + m.toNat)) w 5 (by omega) (by omega) h5 (by omega)]
        simp only [Option.bind_some]
        have hlb : (a ++ Ze b (4 + m.toNat) ++ Ze w 5).length = a.length + (4 + m.toNat) + 5 := by rw [List.length_append, hla, Zu]
        have := Zuk k L hc1 hc2 (by omega) hm hy (Int.ofNat i) (Int.ofNat cs.length) cs (q : Int) ys sz (by simp only [Int.ofNat_eq_natCast]; omega) (a ++ Ze b (4 + m.toNat) ++ Ze w 5) (by omega)
        rw [hb1, hw1] at this
        refine Eq.trans this ?_
        rw [hnext, hL _ (by rw [List.length_append, hlb]; omega)]
        simp
      · rw [Zj hesc, if_neg hesc]
        have := Zuk k L hc1 hc2 (by omega) hm hy (Int.ofNat i) (Int.ofNat cs.length) cs (q : Int) ys sz (by simp only [Int.ofNat_eq_natCast]; omega) (a ++ Ze b (4 + m.toNat)) (by omega)
        rw [hb1, hw1] at this
        refine Eq.trans this ?_
        rw [hnext, hL _ (by rw [List.length_append, hla]; omega)]
        simp)
    k 0 (bs ++ Ze m.toNat 2 ++ Ze q 4) (by omega) (by omega) (Nat.zero_le _)
  rw [List.drop_zero] at this
  refine Eq.trans this ?_
  simp
end Go.Sh
namespace Go.Sh
open Go Go.Proofs
theorem Zwt (k : Nat) (n d : Int) : ZpH k (n, d, ()) = some (decide (1 ≤ n ∧ n ≤ 512 ∧ 4 ≤ d ∧ d ≤ 25), ()) := by
  show ZfK k _ = _
  simp only [ZfK]
  by_cases h1 : 1 ≤ n
  · rw [Zb h1]
    by_cases h2 : n ≤ 512
    · rw [Zb h2]
      by_cases h3 : 4 ≤ d
      · rw [Zb h3]
        congr 2
        by_cases h4 : d ≤ 25
        · rw [decide_eq_true h4, decide_eq_true (by omega)]
        · rw [decide_eq_false h4, decide_eq_false (by omega)]
      · rw [Zj h3, decide_eq_false (by omega)]
    · rw [Zj h2, decide_eq_false (by omega)]
  · rw [Zj h1, decide_eq_false (by omega)]
theorem Zvl (k : Nat) (x : Int) {d : Nat} (h1 : 1 ≤ d) (h2 : d ≤ 64) : Zqa k (x, (d : Int), ()) = some (W4 x d, ()) := by
  show ZgJ k _ = _
  simp only [ZgJ]
  have e1 : IntKind.i64.wrap ((d : Int) - 1) = ((d - 1 : Nat) : Int) := by rw [Z8 (by omega)]; omega
  rw [e1, Zvw x (by omega)]
  simp only [Int.toNat_natCast, Nat.min_eq_left (show d - 1 ≤ 64 by omega)]
  rw [Zb (by omega), Zb (by omega)]
  cases x.fdiv (2 ^ (d - 1)) == 0 <;> rfl
theorem ZBB (k : Nat) (x : Int) {d : Nat} (h1 : 1 ≤ d) (h2 : d ≤ 64) : Zn6 k (x, ((d : Int), ()), ()) = some (!W4 x d, ((d : Int), ()), ()) := by
  show ZdV k _ = _
  simp only [ZdV]
  rw [Zvl k x h1 h2]
  rfl
theorem Zwd (k : Nat) (c : List Int) {d : Nat} (h1 : 1 ≤ d) (h2 : d ≤ 64) (hk : c.length < k) (hn : c.length < 4294967296) :
    Zb8 k (c, (((d : Int), ()), ()), ()) = some (!c.all (W4 · d), ((d : Int), ()), ()) := by
  show KW k _ = _
  simp only [KW]
  have key : ∃ i : Int, ZbW k (c, (((d : Int), ()), ()), ()) = some (i, ((d : Int), ()), ()) ∧ (0 ≤ i ↔ c.all (W4 · d) = false) := by
    have := WM (A := Unit) (R := Int × (Int × Unit) × Unit) (step := fun L1 => Xd k L1) (fun i _ => (Int.ofNat c.length, Int.ofNat i, c, (d : Int))) c
      (fun l _ => some (if l.all (W4 · d) then -1 else Int.ofNat (c.length - l.length + (l.takeWhile (fun x => W4 x d)).length), ((d : Int), ()), ()))
      (fun L _ => by simp only [Xd]; rw [Zj (WB _)]; rfl)
      (fun L i hi _ hL => by
        simp only [Xd]
        rw [Zb (ltR hi), Zb (inR hi), ZR hi, ZBB k _ h1 h2]
        simp only [Option.bind_some]
        have hlen : (List.drop (i + 1) c).length = c.length - (i + 1) := by simp
        cases hc : W4 c[i] d with
        | true =>
          simp only [Bool.not_true, cond_false]
          rw [QK hi (by omega), hL ()]
          simp only [List.all_cons, hc, Bool.true_and, List.takeWhile_cons, if_true, List.length_cons, hlen]
          split
          · rfl
          · congr 3; omega
        | false =>
          simp only [Bool.not_false, cond_true, List.all_cons, hc, Bool.false_and, Bool.false_eq_true, if_false, List.takeWhile_cons, List.length_cons, hlen, List.length_nil]
          congr 3; omega) k 0 () (by omega) (Nat.zero_le _)
    rw [List.drop_zero] at this
    refine ⟨_, this, ?_⟩
    cases c.all (W4 · d) <;> simp
  obtain ⟨i, h1, h2⟩ := key
  rw [h1]
  simp only [Option.bind_some]
  cases hc : c.all (W4 · d) with
  | false => rw [decide_eq_true (h2.2 hc)]; rfl
  | true => rw [decide_eq_false (fun h => by have := h2.1 h; rw [hc] at this; cases this)]; rfl
def ZcJ (s : List Int) (d : Int) : Int := if 1 ≤ s.length ∧ s.length ≤ 512 ∧ 4 ≤ d ∧ d ≤ 25 then (if s.all (W4 · d.toNat) = true then 0 else 12) else 1
theorem ZFF (k : Nat) (s : List Int) (d : Int) (hk : 1000 < k) : ZoY k (s, d, ()) = some (ZcJ s d, ()) := by
  show Zgy k _ = _
  simp only [Zgy]
  rw [Zwt]
  simp only [Option.bind_some]
  unfold ZcJ
  by_cases h : 1 ≤ s.length ∧ s.length ≤ 512 ∧ 4 ≤ d ∧ d ≤ 25
  · rw [if_pos h, decide_eq_true (by simp only [Int.ofNat_eq_natCast]; omega)]
    simp only [Bool.not_true, cond_false]
    obtain ⟨e, rfl⟩ := Int.eq_ofNat_of_zero_le (show 0 ≤ d by omega)
    rw [Zwd k s (by omega) (by omega) (by omega) (by omega), Int.toNat_natCast]
    simp only [Option.bind_some]
    cases s.all (W4 · e) <;> rfl
  · rw [if_neg h, decide_eq_false (by simp only [Int.ofNat_eq_natCast]; omega)]
    rfl
def YF (x : Int) : Nat := (x % 18446744073709551616).toNat
def ZsC (s : List Int) : Nat := s.foldl (fun v x => v ||| YF x) 0
def Zy (s : List Int) : Nat := if ZsC s = 0 then 0 else Lib.ctz 64 (ZsC s)
theorem ZzI (x : Int) : YF x < 2 ^ 64 := by unfold YF; omega
theorem Yk (x : Int) : (BitVec.ofInt 64 x).toNat = YF x := by rw [BitVec.toNat_ofInt]; rfl
theorem Zo4 {n : Nat} (h : n < 2 ^ 64) : YF (IntKind.i64.wrap (n : Int)) = n := by
  unfold YF
  rw [IntKind.wrap_i64]
  omega
theorem ZlW : ∀ (s : List Int) (v : Nat), v < 2 ^ 64 → s.foldl (fun v x => v ||| YF x) v < 2 ^ 64
  | [], _, h => h
  | x :: s, v, h => ZlW s _ (Nat.or_lt_two_pow h (ZzI x))
theorem ZGs (s : List Int) : ZsC s < 2 ^ 64 := ZlW s 0 (by decide)
theorem ZAm (k : Nat) (s : List Int) (hk : s.length < k) (hn : s.length < 4294967296) : ZlU k (s, ()) = some (((Zy s : Nat) : Int), ()) := by
  show Zd0 k (Zj2 k) _ = _
  simp only [Zd0]
  have := Zz (A := Nat) (R := Int × Unit) (step := fun L1 => Y1 k L1) (fun i v => (Int.ofNat s.length, Int.ofNat i, s, IntKind.i64.wrap (v : Int))) s
    (fun s' v => some ((((if s'.foldl (fun v x => v ||| YF x) v = 0 then 0 else Lib.ctz 64 (s'.foldl (fun v x => v ||| YF x) v)) : Nat) : Int), ()))
    (fun i v => v < 2 ^ 64)
    (fun L v hv => by
      simp only [Y1]
      rw [Zj (WB _), ZI, List.foldl_nil]
      by_cases h0 : v = 0
      · subst h0; rfl
      · have hne : ¬ IntKind.i64.wrap (v : Int) = 0 := by
          intro h
          have := Zo4 hv
          rw [h] at this
          exact h0 this.symm
        rw [Zj hne, if_neg h0]
        have hu : IntKind.u64.wrap (IntKind.i64.wrap (v : Int)) = (v : Int) := by
          rw [IntKind.wrap_u64, IntKind.wrap_i64]; omega
        rw [hu]
        show (tzF _).bind _ = _
        unfold tzF
        rw [show (decide ((0 : Int) ≤ (v : Int)) && decide ((v : Int) < 18446744073709551616)) = true from by
          rw [Bool.and_eq_true, decide_eq_true_eq, decide_eq_true_eq]; omega]
        rfl)
    (fun L i hi v hv hL => by
      simp only [Y1]
      rw [Zb (ltR hi), Zb (inR hi), ZR hi, BitVec.toNat_or, Yk, Yk, Zo4 hv, QK hi (by omega), List.foldl_cons]
      exact hL (v ||| YF s[i]) (Nat.or_lt_two_pow hv (ZzI _)))
    k 0 0 (by decide) (by omega) (Nat.zero_le _)
  rw [List.drop_zero] at this
  exact this
theorem Zuv {a b k : Nat} (h : (a ||| b) % 2 ^ k = 0) : a % 2 ^ k = 0 ∧ b % 2 ^ k = 0 := by
  rw [Nat.or_mod_two_pow] at h
  have h1 : a % 2 ^ k ≤ a % 2 ^ k ||| b % 2 ^ k := Nat.left_le_or
  have h2 : b % 2 ^ k ≤ a % 2 ^ k ||| b % 2 ^ k := Nat.right_le_or
  omega
theorem ZgX {k : Nat} : ∀ (s : List Int) (v : Nat), (s.foldl (fun v x => v ||| YF x) v) % 2 ^ k = 0 → v % 2 ^ k = 0 ∧ ∀ x ∈ s, YF x % 2 ^ k = 0
  | [], v, h => ⟨h, by simp⟩
  | x :: s, v, h => by
    obtain ⟨h1, h2⟩ := ZgX s _ h
    obtain ⟨h3, h4⟩ := Zuv h1
    refine ⟨h3, fun y hy => ?_⟩
    rcases List.mem_cons.1 hy with rfl | hy
    · exact h4
    · exact h2 y hy
theorem ZGX {x : Int} {k : Nat} (hk : k ≤ 64) (h : YF x % 2 ^ k = 0) : ((2 : Int) ^ k) ∣ x := by
  have := Zjx x k 64 hk
  unfold YF at h
  rw [show (18446744073709551616 : Int) = 2 ^ 64 from rfl, this] at h
  have h0 : 0 ≤ x % 2 ^ k := Int.emod_nonneg _ (by have : (0 : Int) < 2 ^ k := Int.pow_pos (by omega)
                                                   omega)
  exact Int.dvd_of_emod_eq_zero (by omega)
theorem ZuR {s : List Int} (h : ZsC s ≠ 0) : ∃ m, ZsC s = 2 ^ Zy s * (2 * m + 1) ∧ Zy s < 64 := by
  unfold Zy Lib.ctz
  rw [if_neg h, if_neg h]
  exact Lib.ctzFrom_spec 64 (ZsC s) (by omega) (ZGs s)
theorem ZmK {s : List Int} : ∀ x ∈ s, ((2 : Int) ^ Zy s) ∣ x := by
  intro x hx
  by_cases h : ZsC s = 0
  · unfold Zy
    rw [if_pos h]
    exact Int.one_dvd _
  · obtain ⟨m, hm, hlt⟩ := ZuR h
    have : ZsC s % 2 ^ Zy s = 0 := by rw [hm]; exact Nat.mul_mod_right _ _
    exact ZGX (by omega) ((ZgX s 0 this).2 x hx)
theorem Zwr : ∀ (s : List Int) (v : Nat), v = 0 → (∀ x ∈ s, x = 0) → s.foldl (fun v x => v ||| YF x) v = 0
  | [], v, h, _ => h
  | x :: s, v, h, hx => by
    refine Zwr s _ ?_ fun y hy => hx y (List.mem_cons_of_mem _ hy)
    rw [h, hx x (List.mem_cons_self ..)]
    rfl
theorem ZcY {s : List Int} {d : Nat} (hd : 1 ≤ d) (hs : ∀ x ∈ s, W4 x d = true) : Zy s < d := by
  by_cases h : ZsC s = 0
  · unfold Zy
    rw [if_pos h]
    omega
  · have : ∃ x ∈ s, x ≠ 0 := by
      apply Classical.byContradiction
      intro hc
      refine h (Zwr s 0 rfl fun x hx => ?_)
      apply Classical.byContradiction
      intro hne
      exact hc ⟨x, hx, hne⟩
    obtain ⟨x, hx, hne⟩ := this
    have h1 := hs x hx
    unfold W4 at h1
    rw [if_neg (by omega), decide_eq_true_eq] at h1
    have h2 := Int.natAbs_dvd_natAbs.2 (ZmK x hx)
    rw [Int.natAbs_pow] at h2
    have h3 := Nat.le_of_dvd (by omega) h2
    have h4 : x.natAbs ≤ 2 ^ (d - 1) := by
      rw [Wq] at h1
      generalize 2 ^ (d - 1) = Q at h1 ⊢
      omega
    have h5 : 2 ^ Zy s ≤ 2 ^ (d - 1) := Nat.le_trans h3 h4
    have := (Nat.pow_le_pow_iff_right (by omega : 1 < 2)).1 h5
    omega
def QJ (s : List Int) : List Int := s.map fun x => x.fdiv (2 ^ Zy s)
theorem XW (s : List Int) : (QJ s).length = s.length := by simp [QJ]
theorem ZEQ {x : Int} {k : Nat} (h : ((2 : Int) ^ k) ∣ x) : x.fdiv (2 ^ k) * 2 ^ k = x := by
  rw [Int.fdiv_eq_ediv_of_nonneg _ (Int.pow_nonneg (by omega))]
  exact Int.ediv_mul_cancel h
theorem ZAn {x : Int} {d k : Nat} (hk : k < d) (h : ((2 : Int) ^ k) ∣ x) (hx : W4 x d = true) : W4 (x.fdiv (2 ^ k)) (d - k) = true := by
  have he := ZEQ h
  generalize x.fdiv (2 ^ k) = y at he
  unfold W4 at hx ⊢
  rw [if_neg (by omega), decide_eq_true_eq] at hx
  rw [if_neg (by omega), decide_eq_true_eq]
  have hp : (0 : Int) < 2 ^ k := Int.pow_pos (by omega)
  have e : (2 : Int) ^ (d - 1) = 2 ^ (d - k - 1) * 2 ^ k := by rw [← Int.pow_add]; congr 1; omega
  rw [e, ← he, ← Int.neg_mul] at hx
  exact ⟨Int.le_of_mul_le_mul_right hx.1 hp, Int.lt_of_mul_lt_mul_right hx.2 (by omega)⟩
theorem Zmo {s : List Int} {d : Nat} (hd : 1 ≤ d) (hs : ∀ x ∈ s, W4 x d = true) : ∀ x ∈ QJ s, W4 x (d - Zy s) = true := by
  intro y hy
  obtain ⟨x, hx, rfl⟩ := List.mem_map.1 hy
  exact ZAn (ZcY hd hs) (ZmK x hx) (hs x hx)
theorem Zym {x : Int} {d : Nat} (hd : d ≤ 31) (h : W4 x d = true) : ZL x := by
  unfold W4 at h
  unfold ZL
  split at h
  · simp only [decide_eq_true_eq] at h; omega
  · rw [decide_eq_true_eq, Wq] at h
    have : 2 ^ (d - 1) ≤ 2 ^ 30 := Nat.pow_le_pow_right (by omega) (by omega)
    generalize 2 ^ (d - 1) = Q at h this
    omega
end Go.Sh
namespace Go.Sh
open Go Go.Proofs
abbrev WF := Int × List Int × Int × List Int × Int
def Znp (s : List Int) (d : Nat) (kind : Int) (c : List Int) (sh head : Int) : Option WF :=
  if (QE c sh s).2 = 0 then some (kind, c, sh, (QE c sh s).1, head + (c.length : Int) * (d : Int) + (Wd (QE c sh s).1 c.length).2.2.1) else none
def QG (b : Option WF) (x : Option WF) : Option WF :=
  match x with
  | none => b
  | some x => match b with
    | none => some x
    | some b => if x.2.2.2.2 < b.2.2.2.2 then some x else some b
abbrev FPl := Int × Int × Int × List Int × List Int × Int × List Int × Int × Unit
abbrev SPl := Int × Int × Int × List Int × (List Int × Int × Unit) × List Int × Int × Unit
def Qb (kk d : Int) (s : List Int) : Option WF → FPl
  | none => (0, 0, 0, [], [], 0, [], -1, ())
  | some (kind, c, sh, r, sz) => (kind, kk, d, s, c, sh, r, sz, ())
abbrev ZJ5 (kk d : Int) (s : List Int) (x : WF) : SPl := (x.1, kk, d, s, (x.2.1, x.2.2.1, ()), x.2.2.2.1, x.2.2.2.2, ())
def nnC (b : Option WF) : Prop := ∀ c, b = some c → 0 ≤ c.2.2.2.2
theorem ZaE {b x : Option WF} (hb : nnC b) (hx : nnC x) : nnC (QG b x) := by
  intro c hc
  unfold QG at hc
  match x, b, hc with
  | none, b, hc => exact hb c hc
  | some x, none, hc => exact hx c hc
  | some x, some b, hc =>
    simp only at hc
    split at hc
    · exact hx c hc
    · exact hb c hc
theorem Zma (k : Nat) (kk d : Int) (s : List Int) (x : WF) (b : Option WF) (hb : nnC b) :
    Zab k (ZJ5 kk d s x, true, Qb kk d s b, ()) = some ((), Qb kk d s (QG b (some x)), ()) := by
  match b with
  | none => rfl
  | some b =>
    have h0 := hb b rfl
    show (bif decide (b.2.2.2.2 < 0) then _ else bif decide (x.2.2.2.2 < b.2.2.2.2) then _ else _) = _
    rw [Zj (by omega)]
    unfold QG
    simp only
    by_cases h : x.2.2.2.2 < b.2.2.2.2
    · rw [Zb h, if_pos h]; rfl
    · rw [Zj h, if_neg h]; rfl
theorem Zfx {l : List Int} {o : Nat} (hl : ∀ x ∈ l, ZL x) (hn : l.length + o ≤ 512) : 0 ≤ (Wd l o).2.2.1 ∧ (Wd l o).2.2.1 ≤ 281474976710656 := by
  obtain ⟨h1, q, hg⟩ := Zbw hl hn (by omega)
  refine ⟨h1, ?_⟩
  have key : ∀ (cs : List (List Int)) (ps : List Prt) (sz m : Int), (m = 0 ∨ m = 1) → (∀ c ∈ cs, (∀ x ∈ c, ZL x) ∧ c.length ≤ 512) → (Qk m cs ps sz).2.1 ≤ sz + (cs.length : Int) * 8796093022208 := by
    intro cs
    induction cs with
    | nil => intro ps sz m _ _; simp [Qk]
    | cons c cs ih =>
      intro ps sz m hm h
      cases hb : (QF c m).2 with
      | false => rw [ZhC _ _ _ hb]; simp only [List.length_cons]; omega
      | true =>
        rw [ZeF _ _ _ hb]
        have h1 := h c (List.mem_cons_self ..)
        have h2 := (Zcw hb).size h1.1 h1.2
        have := ih (ps ++ [(QF c m).1]) (sz + (4 + m + (QF c m).1.2.2.1)) m hm fun c hc => h c (List.mem_cons_of_mem _ hc)
        simp only [List.length_cons]
        omega
  have := key (Ye l o q) [] 6 _ hg.hm fun c hc => ⟨fun x hx => hl x (Zaj hc x hx), by have := ZgB hc; omega⟩
  rw [hg.parts, Znq] at this
  have h16 : 2 ^ q ≤ 2 ^ 4 := Nat.pow_le_pow_right (by omega) hg.p4
  generalize 2 ^ q = Q at this h16
  simp only at this
  omega
theorem Zjo {c s : List Int} {sh : Int} (h : (QE c sh s).2 = 0) : (QE c sh s).1 = Zbz c sh s ∧ c.length ≤ s.length ∧ K4 c sh = true := by
  unfold QE at h ⊢
  split at h
  · simp at h
  · split at h
    · simp at h
    · split at h
      · simp at h
      · split at h
        · simp at h
        · rename_i h1 h2 h3 h4
          rw [if_neg h1, if_neg h2, if_neg h3, if_neg h4]
          refine ⟨rfl, by omega, by simpa using h1⟩
theorem K1 {c s : List Int} {sh : Int} (h : (QE c sh s).2 = 0) (h1 : 1 ≤ s.length) (h2 : s.length ≤ 512) : (QE c sh s).1.length + c.length = s.length ∧ c.length ≤ 8 ∧ Xx (QE c sh s).1 (c.length : Nat) = 0 := by
  have hz := Zjo h
  have hlen : (QE c sh s).1.length + c.length = s.length := by rw [hz.1, Zbz, ZnZ]; omega
  have h8 := (Zcf hz.2.2).1
  refine ⟨hlen, h8, Zjz.2 ⟨⟨by omega, by omega, h8⟩, ?_⟩⟩
  rw [List.any_eq_false]
  intro x hx
  have := W2 c sh s x hx
  unfold ZL at this
  unfold Qi
  simp only [decide_eq_true_eq]
  omega
def ZLx (p : SPl) (kk d : Int) (s : List Int) : Option WF → SPl × Bool × Unit
  | none => (p, false, ())
  | some x => (ZJ5 kk d s x, true, ())
theorem ZAP (k : Nat) (hk : 40000 < k) {s : List Int} (h1 : 1 ≤ s.length) (h2 : s.length ≤ 512) {d : Nat} (hd : d ≤ 25) {head : Int} (hh : 0 ≤ head ∧ head ≤ 1000) (kind : Int) (c : List Int) (sh a0 a1 a5 : Int) (a4 a6 : List Int) (a7 : Int) :
    Zfd k ((a0, a1, (d : Int), s, (a4, a5, ()), a6, a7, ()), kind, (c, sh, ()), head, ()) = some (ZLx (a0, a1, (d : Int), s, (a4, a5, ()), a6, a7, ()) a1 d s (Znp s d kind c sh head), ()) := by
  show ZdO k _ = _
  simp only [ZdO]
  rw [Zp9 k c sh s (by omega) (by omega)]
  simp only [Option.bind_some]
  rw [ZT]
  unfold Znp
  by_cases h : (QE c sh s).2 = 0
  · rw [Zj (by simpa using h), if_pos h]
    obtain ⟨hl, h8, hr⟩ := K1 h h1 h2
    have hc := ZAr k (l := (QE c sh s).1) (o := c.length) (by omega) hk
    rw [if_pos hr] at hc
    rw [show Int.ofNat c.length = ((c.length : Nat) : Int) from rfl, hc]
    simp only [Option.bind_some]
    rw [show ((0 : Int) != 0) = false from rfl]
    simp only [cond_false]
    have hsz := Zfx (W2 c sh s) (o := c.length) (by omega)
    have hcd : c.length * d ≤ 8 * 25 := Nat.mul_le_mul h8 hd
    have e1 : ((c.length : Nat) : Int) * (d : Int) = ((c.length * d : Nat) : Int) := by push_cast; rfl
    rw [e1, Z8 (n := ((c.length * d : Nat) : Int)) (by omega), Z8 (n := head + ((c.length * d : Nat) : Int)) (by omega), Z8 (by omega)]
    rfl
  · rw [Zb h, if_neg h]
    rfl
theorem Zu4 (k : Nat) {s : List Int} (h1 : 1 ≤ s.length) (h2 : s.length ≤ 512) (hk : 1000 < k) (a0 a1 a2 a5 a7 : Int) (a4 a6 : List Int) :
    Zce k (s, ((a0, a1, a2, s, a4, a5, a6, a7, ()), ()), ()) = some (!s.all (fun x => decide (x = s.headD 0)), (a0, a1, a2, s, a4, a5, a6, a7, ()), ()) := by
  show KQ k _ = _
  simp only [KQ]
  have hhd : s.getD 0 0 = s.headD 0 := by cases s <;> rfl
  have key : ∃ i : Int, ZcA k (s, ((a0, a1, a2, s, a4, a5, a6, a7, ()), ()), ()) = some (i, (a0, a1, a2, s, a4, a5, a6, a7, ()), ()) ∧ (0 ≤ i ↔ s.all (fun x => decide (x = s.headD 0)) = false) := by
    have := WM (A := Unit) (R := Int × FPl × Unit) (step := fun L1 => Xc k L1) (fun i _ => (Int.ofNat s.length, Int.ofNat i, s, a0, a1, a2, s, a4, a5, a6, a7)) s
      (fun l _ => some (if l.all (fun x => decide (x = s.headD 0)) then -1 else Int.ofNat (s.length - l.length + (l.takeWhile (fun x => decide (x = s.headD 0))).length), (a0, a1, a2, s, a4, a5, a6, a7, ()), ()))
      (fun L _ => by simp only [Xc]; rw [Zj (WB _)]; rfl)
      (fun L i hi _ hL => by
        simp only [Xc]
        have e : ZmX k (s[i], (a0, a1, a2, s, a4, a5, a6, a7, ()), ()) = some (s[i] != s.headD 0, (a0, a1, a2, s, a4, a5, a6, a7, ()), ()) := by
          show ZdE k _ = _
          simp only [ZdE]
          rw [Zb (by simp only [Int.ofNat_eq_natCast]; omega), hhd]
        rw [Zb (ltR hi), Zb (inR hi), ZR hi, e]
        simp only [Option.bind_some]
        have hlen : (List.drop (i + 1) s).length = s.length - (i + 1) := by simp
        rw [ZT]
        by_cases hc : s[i] = s.headD 0
        · rw [Zj (by simpa using hc), QK hi (by omega), hL ()]
          simp only [List.all_cons, hc, decide_true, Bool.true_and, List.takeWhile_cons, if_true, List.length_cons, hlen]
          split
          · rfl
          · congr 3; omega
        · rw [Zb hc]
          simp only [List.all_cons, hc, decide_false, Bool.false_and, Bool.false_eq_true, if_false, List.takeWhile_cons, List.length_cons, hlen, List.length_nil]
          congr 3; omega) k 0 () (by omega) (Nat.zero_le _)
    rw [List.drop_zero] at this
    refine ⟨_, this, ?_⟩
    cases s.all (fun x => decide (x = s.headD 0)) <;> simp
  obtain ⟨i, h1, h2⟩ := key
  rw [h1]
  simp only [Option.bind_some]
  cases hc : s.all (fun x => decide (x = s.headD 0)) with
  | false => rw [decide_eq_true (h2.2 hc)]; rfl
  | true => rw [decide_eq_false (fun h => by have := h2.1 h; rw [hc] at this; cases this)]; rfl
def Zcx (s : List Int) (d : Nat) : Option WF := if s.all (fun x => decide (x = s.headD 0)) = true then some (0, [], 0, [], (d : Int)) else none
def ZHJ (s : List Int) (d : Nat) (o : Nat) : Option WF := Znp s d (8 + (o : Int)) (X2 o) 0 0
def ZbS (s : List Int) (d : Nat) (o : Nat) : Option WF := if o < s.length then Znp s d (31 + (o : Int)) (Zbl s o) 4 (9 + 12 * (o : Int)) else none
def ZFg (s : List Int) (d : Nat) : Option WF := some (1, [], 0, [], (s.length : Int) * (d : Int))
def ZBt (s : List Int) (d : Nat) : Nat → Nat → Option WF → Option WF
  | 0, _, b => b
  | e + 1, o, b => ZBt s d e (o + 1) (QG b (ZHJ s d o))
def Zkf (s : List Int) (d : Nat) : Option WF :=
  QG (QG (QG (QG (ZBt s d (min 4 s.length + 1) 0 (QG none (Zcx s d))) (ZbS s d 2)) (ZbS s d 4)) (ZbS s d 8)) (ZFg s d)
theorem ZzK {s : List Int} {d : Nat} {kind : Int} {c : List Int} {sh head : Int} (h1 : 1 ≤ s.length) (h2 : s.length ≤ 512) (hh : 0 ≤ head) : nnC (Znp s d kind c sh head) := by
  intro x hx
  unfold Znp at hx
  split at hx
  · rename_i h
    obtain rfl := (Option.some.inj hx).symm
    obtain ⟨hl, h8, _⟩ := K1 h h1 h2
    have := (Zfx (W2 c sh s) (o := c.length) (by omega)).1
    have e1 : ((c.length : Nat) : Int) * (d : Int) = ((c.length * d : Nat) : Int) := by push_cast; rfl
    simp only
    rw [e1]
    omega
  · cases hx
theorem Ztr : nnC none := fun _ h => by cases h
theorem ZA2 (s : List Int) (d : Nat) : nnC (Zcx s d) := by
  intro x hx
  unfold Zcx at hx
  split at hx
  · obtain rfl := (Option.some.inj hx).symm
    simp only
    omega
  · cases hx
theorem ZzG {s : List Int} {d o : Nat} (h1 : 1 ≤ s.length) (h2 : s.length ≤ 512) : nnC (ZHJ s d o) := ZzK h1 h2 (Int.le_refl _)
theorem Zt2 {s : List Int} {d o : Nat} (h1 : 1 ≤ s.length) (h2 : s.length ≤ 512) : nnC (ZbS s d o) := by
  unfold ZbS
  split
  · exact ZzK h1 h2 (by omega)
  · exact Ztr
theorem Zzi {s : List Int} {d : Nat} (h1 : 1 ≤ s.length) (h2 : s.length ≤ 512) : ∀ (e o : Nat) (b : Option WF), nnC b → nnC (ZBt s d e o b)
  | 0, _, b, h => h
  | e + 1, o, b, h => Zzi h1 h2 e (o + 1) _ (ZaE h (ZzG h1 h2))
theorem ZpS (k : Nat) (hk : 40000 < k) {s : List Int} (h1 : 1 ≤ s.length) (h2 : s.length ≤ 512) {d : Nat} (hd : d ≤ 25) {head : Int} (hh : 0 ≤ head ∧ head ≤ 1000) (kind : Int) (c : List Int) (sh a0 a1 a5 : Int) (a4 a6 : List Int) (a7 : Int) {b : Option WF} (hb : nnC b)
    {R : Type} (K : Unit × FPl × Unit → Option R) :
    ((Zfd k ((a0, a1, (d : Int), s, (a4, a5, ()), a6, a7, ()), kind, (c, sh, ()), head, ())).bind fun y =>
      (Zab k ((y.1.1.1, y.1.1.2.1, y.1.1.2.2.1, y.1.1.2.2.2.1, (y.1.1.2.2.2.2.1.1, y.1.1.2.2.2.2.1.2.1, ()), y.1.1.2.2.2.2.2.1, y.1.1.2.2.2.2.2.2.1, ()), y.1.2.1, ((Qb a1 d s b).1, (Qb a1 d s b).2.1, (Qb a1 d s b).2.2.1, (Qb a1 d s b).2.2.2.1, (Qb a1 d s b).2.2.2.2.1, (Qb a1 d s b).2.2.2.2.2.1, (Qb a1 d s b).2.2.2.2.2.2.1, (Qb a1 d s b).2.2.2.2.2.2.2.1, ()), ())).bind K) =
    K ((), Qb a1 d s (QG b (Znp s d kind c sh head)), ()) := by
  rw [ZAP k hk h1 h2 hd hh]
  simp only [Option.bind_some]
  cases hm : Znp s d kind c sh head with
  | none => rfl
  | some x =>
    have := Zma k a1 d s x b hb
    exact (congrArg (fun z => z.bind K) this).trans rfl
end Go.Sh
namespace Go.Sh
open Go Go.Proofs
theorem Zg {α β : Type} {x : Option α} {a : α} (h : x = some a) (K : α → Option β) : x.bind K = K a := by rw [h]; rfl
theorem ZIL (k : Nat) (hk : 40000 < k) {s : List Int} (h1 : 1 ≤ s.length) (h2 : s.length ≤ 512) {d : Nat} (hd : d ≤ 25) (kk : Int) :
    ∀ (e o j : Nat) (b : Option WF), e < j → o + e ≤ 5 → nnC b →
    Zr (fun L2 => ZaU k (ZeS k) L2) j (((o + e : Nat) : Int), (o : Int), Int.ofNat s.length, (Qb kk d s b).1, (Qb kk d s b).2.1, (Qb kk d s b).2.2.1, (Qb kk d s b).2.2.2.1, (Qb kk d s b).2.2.2.2.1, (Qb kk d s b).2.2.2.2.2.1, (Qb kk d s b).2.2.2.2.2.2.1, (Qb kk d s b).2.2.2.2.2.2.2.1,
        0, kk, (d : Int), s, [], 0, [], 0, 0, kk, (d : Int), 0, (d : Int), s, 0, 0, 0, 0, 0) =
      (fun b => ZeS k ((0 : Int), (2 : Int), (4 : Int), (8 : Int), Int.ofNat s.length, 0, kk, (d : Int), s, [], 0, [], 0, (Qb kk d s b).1, (Qb kk d s b).2.1, (Qb kk d s b).2.2.1, (Qb kk d s b).2.2.2.1, (Qb kk d s b).2.2.2.2.1, (Qb kk d s b).2.2.2.2.2.1, (Qb kk d s b).2.2.2.2.2.2.1, (Qb kk d s b).2.2.2.2.2.2.2.1,
        0, kk, (d : Int), 0, (d : Int), s, 0, 0, 0, 0, 0)) (ZBt s d e o b) := by
  intro e
  induction e with
  | zero =>
    intro o j b hj ho hb
    obtain ⟨j, rfl⟩ := Zt hj
    rw [Zi]
    simp only [ZaU]
    rw [Zj (by omega)]
    rfl
  | succ e ih =>
    intro o j b hj ho hb
    obtain ⟨j, rfl⟩ := Zt (show 0 < j by omega)
    rw [Zi]
    simp only [ZaU]
    rw [Zb (by omega), Zh2 k o (by omega) (by omega)]
    simp only [Option.bind_some]
    have e1 : IntKind.i64.wrap ((8 : Int) + (o : Int)) = 8 + (o : Int) := by rw [Z8 (by omega)]
    have e2 : IntKind.i64.wrap ((o : Int) + 1) = ((o + 1 : Nat) : Int) := by rw [Z8 (by omega)]; rfl
    rw [e1, e2]
    refine (ZpS k hk h1 h2 hd (show (0 : Int) ≤ 0 ∧ (0 : Int) ≤ 1000 by omega) (8 + (o : Int)) (X2 o) 0 0 kk 0 [] [] 0 hb _).trans ?_
    have := ih (o + 1) j (QG b (ZHJ s d o)) (by omega) (by omega) (ZaE hb (ZzG h1 h2))
    rw [show o + 1 + e = o + (e + 1) by omega] at this
    exact this
theorem ZIT (k : Nat) (hk : 40000 < k) {s : List Int} (h1 : 1 ≤ s.length) (h2 : s.length ≤ 512) (hs : ∀ x ∈ s, ZL x) {d : Nat} (hd : d ≤ 25) (kk : Int) (b : Option WF) (hb : nnC b) :
    ZeS k ((0 : Int), (2 : Int), (4 : Int), (8 : Int), Int.ofNat s.length, 0, kk, (d : Int), s, [], 0, [], 0, (Qb kk d s b).1, (Qb kk d s b).2.1, (Qb kk d s b).2.2.1, (Qb kk d s b).2.2.2.1, (Qb kk d s b).2.2.2.2.1, (Qb kk d s b).2.2.2.2.2.1, (Qb kk d s b).2.2.2.2.2.2.1, (Qb kk d s b).2.2.2.2.2.2.2.1,
        0, kk, (d : Int), 0, (d : Int), s, 0, 0, 0, 0, 0) =
      (fun b => some (((Qb kk d s b).1, (Qb kk d s b).2.1, (Qb kk d s b).2.2.1, (Qb kk d s b).2.2.2.1, ((Qb kk d s b).2.2.2.2.1, (Qb kk d s b).2.2.2.2.2.1, ()), (Qb kk d s b).2.2.2.2.2.2.1, (Qb kk d s b).2.2.2.2.2.2.2.1, ()), ()))
        (QG (QG (QG (QG b (ZbS s d 2)) (ZbS s d 4)) (ZbS s d 8)) (ZFg s d)) := by
  have one : ∀ (j i o : Nat) (b : Option WF), (i = 0 ∧ o = 2 ∨ i = 1 ∧ o = 4 ∨ i = 2 ∧ o = 8) → nnC b →
      Zr (fun L3 => Y7 k L3) (j + 1) ((i : Int), (2 : Int), (4 : Int), (8 : Int), Int.ofNat s.length, 0, kk, (d : Int), s, [], 0, [], 0, (Qb kk d s b).1, (Qb kk d s b).2.1, (Qb kk d s b).2.2.1, (Qb kk d s b).2.2.2.1, (Qb kk d s b).2.2.2.2.1, (Qb kk d s b).2.2.2.2.2.1, (Qb kk d s b).2.2.2.2.2.2.1, (Qb kk d s b).2.2.2.2.2.2.2.1,
        0, kk, (d : Int), 0, (d : Int), s, 0, 0, 0, 0, 0) =
      (fun b => Zr (fun L3 => Y7 k L3) j (((i + 1 : Nat) : Int), (2 : Int), (4 : Int), (8 : Int), Int.ofNat s.length, 0, kk, (d : Int), s, [], 0, [], 0, (Qb kk d s b).1, (Qb kk d s b).2.1, (Qb kk d s b).2.2.1, (Qb kk d s b).2.2.2.1, (Qb kk d s b).2.2.2.2.1, (Qb kk d s b).2.2.2.2.2.1, (Qb kk d s b).2.2.2.2.2.2.1, (Qb kk d s b).2.2.2.2.2.2.2.1,
        0, kk, (d : Int), 0, (d : Int), s, 0, 0, 0, 0, 0)) (QG b (ZbS s d o)) := by
    intro j i o b hio hb
    rw [Zi]
    simp only [Y7]
    have ho : o = 2 ∨ o = 4 ∨ o = 8 := by omega
    have hg : [(2 : Int), 4, 8].getD ((i : Int)).toNat 0 = (o : Int) := by
      rcases hio with ⟨rfl, rfl⟩ | ⟨rfl, rfl⟩ | ⟨rfl, rfl⟩ <;> rfl
    have e2 : IntKind.i64.wrap ((i : Int) + 1) = ((i + 1 : Nat) : Int) := by rw [Z8 (by omega)]; rfl
    rw [Zb (by omega), Zb (by omega), hg, e2]
    unfold ZbS
    by_cases hlt : o < s.length
    · rw [Zb (by simp only [Int.ofNat_eq_natCast]; omega), if_pos hlt, ZAF k s o ho (by omega) hs (by omega) (by omega)]
      simp only [Option.bind_some]
      have e1 : IntKind.i64.wrap ((31 : Int) + (o : Int)) = 31 + (o : Int) := by rw [Z8 (by omega)]
      have e3 : IntKind.i64.wrap ((9 : Int) + IntKind.i64.wrap ((12 : Int) * (o : Int))) = 9 + 12 * (o : Int) := by rw [Z8 (n := 12 * (o : Int)) (by omega), Z8 (by omega)]
      rw [e1, e3]
      exact ZpS k hk h1 h2 hd (show (0 : Int) ≤ 9 + 12 * (o : Int) ∧ 9 + 12 * (o : Int) ≤ 1000 by omega) (31 + (o : Int)) (Zbl s o) 4 0 kk 0 [] [] 0 hb _
    · rw [Zj (by simp only [Int.ofNat_eq_natCast]; omega), if_neg hlt]
      rfl
  obtain ⟨j, rfl⟩ : ∃ j, k = j + 4 := ⟨k - 4, by omega⟩
  have nn1 := ZaE hb (Zt2 (o := 2) (d := d) h1 h2)
  have nn2 := ZaE nn1 (Zt2 (o := 4) (d := d) h1 h2)
  have nn3 := ZaE nn2 (Zt2 (o := 8) (d := d) h1 h2)
  refine (one (j + 3) 0 2 b (by omega) hb).trans ((one (j + 2) 1 4 _ (by omega) nn1).trans ((one (j + 1) 2 8 _ (by omega) nn2).trans ?_))
  generalize QG (QG (QG b (ZbS s d 2)) (ZbS s d 4)) (ZbS s d 8) = b3 at nn3
  simp only
  rw [Zi]
  simp only [Y7]
  rw [Zj (by omega)]
  have hmul : s.length * d ≤ 512 * 25 := Nat.mul_le_mul h2 hd
  have e1 : IntKind.i64.wrap (Int.ofNat s.length * (d : Int)) = (s.length : Int) * (d : Int) := by
    have : Int.ofNat s.length * (d : Int) = ((s.length * d : Nat) : Int) := by simp only [Int.ofNat_eq_natCast]; push_cast; rfl
    rw [this, Z8 (by omega)]; push_cast; rfl
  rw [e1]
  have := Zma (j + 4) kk d s (1, [], 0, [], (s.length : Int) * (d : Int)) b3 nn3
  exact Zg this _
theorem ZEy (k : Nat) (hk : 40000 < k) {s : List Int} (h1 : 1 ≤ s.length) (h2 : s.length ≤ 512) {d : Nat} (hd1 : 1 ≤ d) (hd : d ≤ 25) (hs : ∀ x ∈ s, W4 x d = true) :
    Zp5 k (s, (d : Int), ()) = (fun b => some (((Qb (Zy s : Nat) ((d - Zy s : Nat) : Int) (QJ s) b).1, (Qb (Zy s : Nat) ((d - Zy s : Nat) : Int) (QJ s) b).2.1, (Qb (Zy s : Nat) ((d - Zy s : Nat) : Int) (QJ s) b).2.2.1, (Qb (Zy s : Nat) ((d - Zy s : Nat) : Int) (QJ s) b).2.2.2.1, ((Qb (Zy s : Nat) ((d - Zy s : Nat) : Int) (QJ s) b).2.2.2.2.1, (Qb (Zy s : Nat) ((d - Zy s : Nat) : Int) (QJ s) b).2.2.2.2.2.1, ()), (Qb (Zy s : Nat) ((d - Zy s : Nat) : Int) (QJ s) b).2.2.2.2.2.2.1, (Qb (Zy s : Nat) ((d - Zy s : Nat) : Int) (QJ s) b).2.2.2.2.2.2.2.1, ()), ()))
      (Zkf (QJ s) (d - Zy s)) := by
  show ZfC k (ZqH k) _ = _
  simp only [ZfC]
  rw [ZAm k s (by omega) (by omega)]
  simp only [Option.bind_some]
  have hw := ZcY hd1 hs
  have hsg := Zmo hd1 hs
  have hsl := XW s
  have e1 : IntKind.i64.wrap ((d : Int) - ((Zy s : Nat) : Int)) = ((d - Zy s : Nat) : Int) := by rw [Z8 (by omega)]; omega
  rw [e1]
  generalize hkk : Zy s = kk at hw hsg
  generalize hdd : d - kk = dd at hsg
  have := Zz (A := List Int) (R := SPl × Unit) (step := fun L1 => XH k (Ze6 k) L1)
    (fun i a => (Int.ofNat s.length, Int.ofNat i, s, (kk : Int), (0 : Int), (kk : Int), (dd : Int), (0 : Int), (0 : Int), a, (0 : Int), (0 : Int), (0 : Int), (0 : Int), (0 : Int))) s
    (fun s' a => XH k (Ze6 k) (fun _ => none) (Int.ofNat s.length, Int.ofNat s.length, s, (kk : Int), (0 : Int), (kk : Int), (dd : Int), (0 : Int), (0 : Int), a ++ s'.map (fun x => x.fdiv (2 ^ kk)), (0 : Int), (0 : Int), (0 : Int), (0 : Int), (0 : Int)))
    (fun i a => a.length = i)
    (fun L a _ => by
      simp only [XH]
      rw [Zj (WB _), Zj (WB _)]
      simp)
    (fun L i hi a ha hL => by
      have key : XH k (Ze6 k) L (Int.ofNat s.length, Int.ofNat i, s, (kk : Int), (0 : Int), (kk : Int), (dd : Int), (0 : Int), (0 : Int), a, (0 : Int), (0 : Int), (0 : Int), (0 : Int), (0 : Int)) =
          L (Int.ofNat s.length, Int.ofNat (i + 1), s, (kk : Int), (0 : Int), (kk : Int), (dd : Int), (0 : Int), (0 : Int), a ++ [s[i].fdiv (2 ^ kk)], (0 : Int), (0 : Int), (0 : Int), (0 : Int), (0 : Int)) := by
        simp only [XH]
        rw [Zb (ltR hi), Zb (inR hi), Zb (by omega), Zb (by simp only [List.length_singleton]; omega), ZR hi, Int.toNat_natCast, Nat.min_eq_left (by omega), QK hi (by omega)]
      rw [key, hL _ (by simp; omega), List.map_cons, List.append_assoc]
      rfl)
    k 0 [] rfl (by omega) (Nat.zero_le _)
  rw [List.drop_zero, List.nil_append] at this
  refine Eq.trans this ?_
  have hsh : s.map (fun x => x.fdiv (2 ^ kk)) = QJ s := by unfold QJ; rw [hkk]
  rw [hsh]
  generalize QJ s = t at hsg hsl
  simp only [XH]
  rw [Zj (WB _), Zu4 k (by omega) (by omega) (by omega)]
  simp only [Option.bind_some, Bool.not_not]
  have nar : ∀ x ∈ t, ZL x := fun x hx => Zym (by omega) (hsg x hx)
  have hfirst : Zab k (((0 : Int), (kk : Int), (dd : Int), t, ([], 0, ()), [], (dd : Int), ()), t.all (fun x => decide (x = t.headD 0)), (0, 0, 0, [], [], 0, [], (-1 : Int), ()), ()) = some ((), Qb kk dd t (QG none (Zcx t dd)), ()) := by
    unfold Zcx
    cases t.all (fun x => decide (x = t.headD 0)) with
    | false => rfl
    | true => exact Zma k kk dd t (0, [], 0, [], (dd : Int)) none Ztr
  rw [hfirst]
  simp only [Option.bind_some]
  have e4 : IntKind.i64.wrap ((if Int.ofNat t.length < (4 : Int) then Int.ofNat t.length else (4 : Int)) + (1 : Int)) = ((0 + (min 4 t.length + 1) : Nat) : Int) := by
    have : (if Int.ofNat t.length < (4 : Int) then Int.ofNat t.length else (4 : Int)) = ((min 4 t.length : Nat) : Int) := by
      simp only [Int.ofNat_eq_natCast]; split <;> omega
    rw [this, Z8 (by omega)]
    omega
  rw [e4]
  have nn0 : nnC (QG none (Zcx t dd)) := ZaE Ztr (ZA2 t dd)
  refine (ZIL k hk (by omega) (by omega) (show dd ≤ 25 by omega) kk (min 4 t.length + 1) 0 k _ (by omega) (by omega) nn0).trans ?_
  exact ZIT k hk (by omega) (by omega) nar (by omega) kk _ (Zzi (by omega) (by omega) _ _ _ nn0)
end Go.Sh
namespace Go.Sh
open Go Go.Proofs
theorem Wb (w : Nat) : ∀ c : List Int, (c.flatMap fun n => Xk n w).length = w * c.length
  | [] => rfl
  | a :: c => by rw [List.flatMap_cons, List.length_append, ZdK, Wb w c, List.length_cons, Nat.mul_add, Nat.mul_one]; omega
theorem Zfs (kk : Nat) : ∀ c : List Int, (c.flatMap (Zdg kk)).length = Za7 c kk
  | [] => rfl
  | a :: c => by
    rw [List.flatMap_cons, List.length_append, Zcj, Zfs kk c]
    unfold Za7
    simp only [List.length_cons, List.map_cons, ZeL, Nat.mul_add, Nat.mul_one]
    omega
theorem Zru {c : List Int} {m : Int} (hm : m = 0 ∨ m = 1) {y : Prt} (hy : Kc c m y) : ((Kt m (c, y)).length : Int) = 4 + m + y.2.2.1 := by
  have hmn : ((m.toNat : Nat) : Int) = m := by rcases hm with rfl | rfl <;> rfl
  unfold Kt Yp
  rcases hy with ⟨kk, hkk, hfar, rfl⟩ | ⟨hw, rfl⟩
  · simp only
    rw [if_neg (by omega), if_neg (by omega)]
    simp only [List.length_append, Zu, List.length_nil, Int.toNat_natCast, Zfs]
    omega
  · simp only
    rw [if_pos trivial, if_pos trivial]
    simp only [List.length_append, Zu, Int.toNat_natCast, Wb]
    omega
theorem Zqp {m : Int} (hm : m = 0 ∨ m = 1) : ∀ (cs : List (List Int)) (ps : List Prt) (sz : Int), (Qk m cs ps sz).2.2 = true →
    ((((cs.zip (cs.map fun c => (QF c m).1)).flatMap (Kt m)).length : Nat) : Int) = (Qk m cs ps sz).2.1 - sz
  | [], ps, sz, _ => by simp [Qk]
  | c :: cs, ps, sz, h => by
    cases hb : (QF c m).2 with
    | false => rw [ZhC _ _ _ hb] at h; cases h
    | true =>
      rw [ZeF _ _ _ hb] at h ⊢
      have h1 := Zru hm (Zcw hb)
      have h2 := Zqp hm cs _ _ h
      simp only [List.map_cons, List.zip_cons_cons, List.flatMap_cons, List.length_append]
      omega
theorem RGood.map {l : List Int} {o p : Nat} {R : W1} (h : RGood l o R p) : R.2.2.2 = (Ye l o p).map fun c => (QF c R.1).1 := by
  obtain ⟨ys, h1, h2, h3⟩ := Zcp (m := R.1) (Ye l o p) [] 6 (by rw [h.parts])
  rw [h.parts] at h1
  simp only [List.nil_append] at h1
  rw [h1, h3]
theorem RGood.len {l : List Int} {o p : Nat} {R : W1} (h : RGood l o R p) : ((Zhg l o R).length : Int) = R.2.2.1 := by
  have h1 := Zqp h.hm (Ye l o p) [] 6 (by rw [h.parts])
  rw [h.parts, ← h.map] at h1
  unfold Zhg
  rw [h.hp, Int.toNat_natCast]
  simp only [List.length_append, Zu]
  simp only at h1
  omega
theorem Ztw {l : List Int} {o : Nat} (hl : ∀ x ∈ l, ZL x) (hn : l.length + o ≤ 512) : ((ZbX l o).length : Int) = (Wd l o).2.2.1 := by
  obtain ⟨_, q, hg⟩ := Zbw hl hn (by omega)
  exact hg.len
def ZeK (s : List Int) (d : Nat) (x : WF) : Prop :=
  (x = (0, [], 0, [], (d : Int)) ∧ s.all (fun x => decide (x = s.headD 0)) = true) ∨ x = (1, [], 0, [], (s.length : Int) * (d : Int)) ∨
  (∃ o, o ≤ 4 ∧ o ≤ s.length ∧ ZHJ s d o = some x) ∨ (∃ o, (o = 2 ∨ o = 4 ∨ o = 8) ∧ o < s.length ∧ Znp s d (31 + (o : Int)) (Zbl s o) 4 (9 + 12 * (o : Int)) = some x)
def Zo8 (s : List Int) (d : Nat) (b : Option WF) : Prop := ∀ x, b = some x → ZeK s d x
theorem Zwc {b x : Option WF} {y : WF} (h : QG b x = some y) : b = some y ∨ x = some y := by
  unfold QG at h
  match x, b, h with
  | none, b, h => exact .inl h
  | some x, none, h => exact .inr h
  | some x, some b, h =>
    simp only at h
    split at h
    · exact .inr h
    · exact .inl h
theorem ZaY {s : List Int} {d : Nat} {b x : Option WF} (hb : Zo8 s d b) (hx : Zo8 s d x) : Zo8 s d (QG b x) := fun y hy => by
  rcases Zwc hy with h | h
  · exact hb y h
  · exact hx y h
theorem ZDx {b x : Option WF} : (∀ y, b = some y → ∃ z, QG b x = some z ∧ z.2.2.2.2 ≤ y.2.2.2.2) ∧ (∀ y, x = some y → ∃ z, QG b x = some z ∧ z.2.2.2.2 ≤ y.2.2.2.2) := by
  unfold QG
  match x, b with
  | none, b => exact ⟨fun y hy => ⟨y, hy, Int.le_refl _⟩, fun y hy => by cases hy⟩
  | some x, none => exact ⟨fun y hy => (by cases hy), fun y hy => ⟨y, hy, Int.le_refl _⟩⟩
  | some x, some b =>
    simp only
    split
    · exact ⟨fun y hy => by cases hy; exact ⟨x, rfl, by omega⟩, fun y hy => by cases hy; exact ⟨x, rfl, Int.le_refl _⟩⟩
    · exact ⟨fun y hy => by cases hy; exact ⟨b, rfl, Int.le_refl _⟩, fun y hy => by cases hy; exact ⟨b, rfl, by omega⟩⟩
theorem ZzY {s : List Int} {d : Nat} : ∀ (e o : Nat) (b : Option WF), o + e ≤ min 4 s.length + 1 → Zo8 s d b → Zo8 s d (ZBt s d e o b)
  | 0, _, b, _, h => h
  | e + 1, o, b, he, h => ZzY e (o + 1) _ (by omega) (ZaY h fun x hx => .inr (.inr (.inl ⟨o, by omega, by omega, hx⟩)))
theorem Zt4 {s : List Int} {d o : Nat} (ho : o = 2 ∨ o = 4 ∨ o = 8) : Zo8 s d (ZbS s d o) := by
  intro x hx
  unfold ZbS at hx
  split at hx
  · exact .inr (.inr (.inr ⟨o, ho, by omega, hx⟩))
  · cases hx
theorem Zye (s : List Int) (d : Nat) : ∃ x, Zkf s d = some x ∧ ZeK s d x ∧ x.2.2.2.2 ≤ (s.length : Int) * (d : Int) := by
  obtain ⟨z, h1, h2⟩ := (ZDx (b := QG (QG (QG (ZBt s d (min 4 s.length + 1) 0 (QG none (Zcx s d))) (ZbS s d 2)) (ZbS s d 4)) (ZbS s d 8)) (x := ZFg s d)).2 _ rfl
  refine ⟨z, h1, ?_, h2⟩
  refine ZaY (ZaY (ZaY (ZaY (ZzY _ _ _ (by omega) (ZaY (fun x hx => by cases hx) ?_)) (Zt4 (.inl rfl))) (Zt4 (.inr (.inl rfl)))) (Zt4 (.inr (.inr rfl)))) ?_ z h1
  · intro x hx
    unfold Zcx at hx
    split at hx
    · rename_i h
      exact .inl ⟨(Option.some.inj hx).symm, h⟩
    · cases hx
  · intro x hx
    exact .inr (.inl (Option.some.inj hx).symm)
def Ka (s : List Int) (d : Nat) (x : WF) : List Bool :=
  if x.1 = 0 then (s.take 1).flatMap (fun n => Xk n d) else if x.1 = 1 then s.flatMap (fun n => Xk n d)
  else (s.take x.2.1.length).flatMap (fun n => Xk n d) ++ ((if 31 < x.1 then Ze 11 4 ++ (Ze x.2.2.1.toNat 5 ++ x.2.1.flatMap (fun n => Xk n 12)) else []) ++ ZbX x.2.2.2.1 x.2.1.length)
def Zad (kind : Int) (kk : Nat) : List Bool := Ze kind.toNat 7 ++ (if 0 < kk then [true] ++ (List.replicate (kk - 1) false ++ [true]) else [false])
def QU (s : List Int) (d : Nat) : List Bool := match Zkf (QJ s) (d - Zy s) with
  | none => []
  | some x => Zad x.1 (Zy s) ++ Ka (QJ s) (d - Zy s) x
theorem ZqK (kind : Int) (kk : Nat) : (Zad kind kk).length = 8 + kk := by
  unfold Zad
  rw [List.length_append, Zu]
  split
  · simp; omega
  · simp; omega
theorem YW {s : List Int} {d : Nat} {kind : Int} {c : List Int} {sh head : Int} {x : WF} (h1 : 1 ≤ s.length) (h2 : s.length ≤ 512) (h : Znp s d kind c sh head = some x) :
    x.1 = kind ∧ x.2.1 = c ∧ x.2.2.1 = sh ∧ x.2.2.2.1 = Zbz c sh s ∧ x.2.2.2.2 = head + (c.length : Int) * (d : Int) + ((ZbX (Zbz c sh s) c.length).length : Int) ∧ Xx (Zbz c sh s) (c.length : Nat) = 0 ∧ c.length ≤ s.length ∧ c.length ≤ 8 ∧ K4 c sh = true ∧
      (QE c sh s).2 = 0 := by
  unfold Znp at h
  split at h
  · rename_i hz
    obtain rfl := (Option.some.inj h).symm
    obtain ⟨hl, h8, hr⟩ := K1 hz h1 h2
    obtain ⟨e1, e2, e3⟩ := Zjo hz
    have := Ztw (W2 c sh s) (o := c.length) (by omega)
    rw [e1] at hr this ⊢
    exact ⟨rfl, rfl, rfl, rfl, by simp only; omega, hr, e2, h8, e3, hz⟩
  · cases h
theorem WY (s : List Int) (d j : Nat) (h : j ≤ s.length) : ((s.take j).flatMap (fun n => Xk n d)).length = d * j := by
  rw [Wb, List.length_take, Nat.min_eq_left h]
theorem ZxF (o : Nat) (h : o ≤ 4) : (X2 o).length = o := by
  obtain rfl | rfl | rfl | rfl | rfl : o = 0 ∨ o = 1 ∨ o = 2 ∨ o = 3 ∨ o = 4 := by omega
  all_goals rfl
theorem Zf4 {s : List Int} {d : Nat} {x : WF} (h1 : 1 ≤ s.length) (h2 : s.length ≤ 512) (h : ZeK s d x) : ((Ka s d x).length : Int) = x.2.2.2.2 := by
  unfold Ka
  rcases h with ⟨rfl, _⟩ | rfl | ⟨o, ho, hos, hx⟩ | ⟨o, ho, hos, hx⟩
  · simp only
    rw [if_pos trivial, WY _ _ _ h1]
    omega
  · simp only
    rw [if_neg (by omega), if_pos trivial, Wb]
    push_cast
    rw [Int.mul_comm]
  · obtain ⟨e1, e2, e3, e4, e5, e6, e7, e8, e9, _⟩ := YW h1 h2 hx
    rw [e1, e2, e3, e4, e5, if_neg (by omega), if_neg (by omega), if_neg (by omega)]
    simp only [List.length_append, List.length_nil, WY _ _ _ e7]
    push_cast
    rw [Int.mul_comm (d : Int)]
    omega
  · obtain ⟨e1, e2, e3, e4, e5, e6, e7, e8, e9, _⟩ := YW h1 h2 hx
    have hsl := (Zmw s o ho).1
    rw [e1, e2, e3, e4, e5, if_neg (by omega), if_neg (by omega), if_pos (by omega)]
    simp only [List.length_append, WY _ _ _ e7, Zu, Wb]
    rw [hsl]
    push_cast
    rw [Int.mul_comm (d : Int)]
    omega
theorem Zbs (s : List Int) (d : Nat) (h1 : 1 ≤ s.length) (h2 : s.length ≤ 512) : ∃ x, Zkf (QJ s) (d - Zy s) = some x ∧ ZeK (QJ s) (d - Zy s) x ∧ QU s d = Zad x.1 (Zy s) ++ Ka (QJ s) (d - Zy s) x ∧
    ((QU s d).length : Int) = 8 + (Zy s : Int) + x.2.2.2.2 ∧ x.2.2.2.2 ≤ (s.length : Int) * ((d - Zy s : Nat) : Int) := by
  obtain ⟨x, h3, h4, h5⟩ := Zye (QJ s) (d - Zy s)
  have hb := Zf4 (by rw [XW]; exact h1) (by rw [XW]; exact h2) h4
  rw [XW] at h5
  have e : QU s d = Zad x.1 (Zy s) ++ Ka (QJ s) (d - Zy s) x := by unfold QU; rw [h3]
  refine ⟨x, h3, h4, e, ?_, h5⟩
  rw [e, List.length_append, ZqK]
  omega
theorem Zun {s : List Int} {d : Nat} (h1 : 1 ≤ s.length) (h2 : s.length ≤ 512) (hw : Zy s < d) : (QU s d).length ≤ 8 + s.length * d := by
  obtain ⟨x, _, _, _, h4, h5⟩ := Zbs s d h1 h2
  have e : (s.length : Int) * ((d - Zy s : Nat) : Int) = ((s.length * d - s.length * Zy s : Nat) : Int) := by
    rw [← Nat.mul_sub]; push_cast; rfl
  have h6 : Zy s ≤ s.length * Zy s := Nat.le_mul_of_pos_left _ h1
  have h7 : s.length * Zy s ≤ s.length * d := Nat.mul_le_mul_left _ (by omega)
  omega
end Go.Sh
namespace Go.Sh
open Go Go.Proofs
theorem Zb3 (k : Nat) {l : List Int} {w : Nat} (hk : 10000 < k) (hl : l.length ≤ 8192) (hw : w ≤ 32) (hs : ∀ x ∈ l, W4 x w = true) (bs : List Bool) (hb : bs.length ≤ 2147483648) :
    YD k (wst bs, l, (w : Int), ()) = some ((), wst (bs ++ l.flatMap (fun n => Xk n w)), ()) := by
  show Zhk k (ZrA k) _ = _
  simp only [Zhk]
  have := Zz (A := List Bool) (R := Unit × (List Int × Int × Unit) × Unit) (step := fun L1 => Zaw k L1)
    (fun i a => (Int.ofNat l.length, Int.ofNat i, l, (w : Int), (a.length : Int), ZJ a)) l
    (fun l' a => some ((), wst (a ++ l'.flatMap (fun n => Xk n w)), ()))
    (fun i a => a.length ≤ 2147483648 + i * 32)
    (fun L a _ => by
      simp only [Zaw]
      rw [Zj (WB _)]
      simp)
    (fun L i hi a ha hL => by
      simp only [Zaw]
      rw [Zb (ltR hi), Zb (inR hi), ZR hi]
      rw [show ((ZJ a, ((a.length : Nat) : Int), ()) : List Int × Int × Unit) = wst a from rfl, Zqr k a _ w (by omega) hw (hs _ (List.getElem_mem hi)) (by omega)]
      simp only [Option.bind_some]
      rw [QK hi (by omega), hL (a ++ Xk l[i] w) (by rw [List.length_append, ZdK]; omega), List.flatMap_cons, List.append_assoc])
    k 0 bs (by omega) (by omega) (Nat.zero_le _)
  rw [List.drop_zero] at this
  exact this
noncomputable def Zg1 (k : Nat) (p : SPl) (w : List Int × Int × Unit) : Option (Int × (List Int × Int × Unit) × Unit) :=
  bif p.1 == (0 : Int) then bif decide ((0 : Int) ≤ (0 : Int) ∧ (0 : Int) ≤ (1 : Int) ∧ (1 : Int) ≤ Int.ofNat (List.length p.2.2.2.1)) then (YD k (w, List.drop (0 : Nat) (List.take (1 : Nat) p.2.2.2.1), p.2.2.1, ())).bind fun y => some (0, (y.2.1.1, y.2.1.2.1, ()), ()) else none
  else bif p.1 == (1 : Int) then (YD k (w, p.2.2.2.1, p.2.2.1, ())).bind fun y => some (0, (y.2.1.1, y.2.1.2.1, ()), ())
  else bif decide ((0 : Int) ≤ (0 : Int) ∧ (0 : Int) ≤ Int.ofNat (List.length p.2.2.2.2.1.1) ∧ Int.ofNat (List.length p.2.2.2.2.1.1) ≤ Int.ofNat (List.length p.2.2.2.1)) then
    (YD k (w, List.drop (0 : Nat) (List.take (Int.ofNat (List.length p.2.2.2.2.1.1)).toNat p.2.2.2.1), p.2.2.1, ())).bind fun y_4 =>
      bif decide ((31 : Int) < p.1) then (Qp k ((y_4.2.1.1, y_4.2.1.2.1, ()), 11, 4, ())).bind fun y_5 => (Qp k ((y_5.2.1.1, y_5.2.1.2.1, ()), p.2.2.2.2.1.2.1, 5, ())).bind fun y_6 => (YD k ((y_6.2.1.1, y_6.2.1.2.1, ()), p.2.2.2.2.1.1, 12, ())).bind fun y_7 => (Zez k ((y_7.2.1.1, y_7.2.1.2.1, ()), p.2.2.2.2.2.1, Int.ofNat (List.length p.2.2.2.2.1.1), ())).bind fun y => some (y.1, (y.2.1.1, y.2.1.2.1, ()), ())
      else (Zez k ((y_4.2.1.1, y_4.2.1.2.1, ()), p.2.2.2.2.2.1, Int.ofNat (List.length p.2.2.2.2.1.1), ())).bind fun y => some (y.1, (y.2.1.1, y.2.1.2.1, ()), ())
  else none
theorem ZAO (k : Nat) (w : List Int × Int × Unit) (s : List Int) (d : Int) : ZpK k (w, s, d, ()) =
    (ZoY k (s, d, ())).bind fun y => bif y.1 != (0 : Int) then some (y.1, w, ()) else (Zp5 k (s, d, ())).bind fun y => (Qp k (w, y.1.1, 7, ())).bind fun y_1 =>
      bif decide ((0 : Int) < y.1.2.1) then (Qp k ((y_1.2.1.1, y_1.2.1.2.1, ()), 1, 1, ())).bind fun y_2 => (Zi5 k ((y_2.2.1.1, y_2.2.1.2.1, ()), IntKind.i64.wrap (y.1.2.1 - (1 : Int)), ())).bind fun y_3 => Zg1 k y.1 (y_3.2.1.1, y_3.2.1.2.1, ())
      else (Qp k ((y_1.2.1.1, y_1.2.1.2.1, ()), 0, 1, ())).bind fun y_2 => Zg1 k y.1 (y_2.2.1.1, y_2.2.1.2.1, ()) := rfl
theorem Zer (k : Nat) (hk : 70000 < k) {s : List Int} (h1 : 1 ≤ s.length) (h2 : s.length ≤ 512) {d : Nat} (hd1 : 1 ≤ d) (hd : d ≤ 25) (hs : ∀ x ∈ s, W4 x d = true) {x : WF} (hx : ZeK s d x) (kk : Int) (bs : List Bool) (hb : bs.length ≤ 1000000000) :
    Zg1 k (ZJ5 kk d s x) (wst bs) = some (0, wst (bs ++ Ka s d x), ()) := by
  unfold Zg1 Ka
  rcases hx with ⟨rfl, _⟩ | rfl | ⟨o, ho, hos, hx⟩ | ⟨o, ho, hos, hx⟩
  · simp only
    rw [ZI, Zb rfl, Zb (by simp only [Int.ofNat_eq_natCast]; omega), if_pos trivial, List.drop_zero]
    rw [Zb3 k (by omega) (by rw [List.length_take]; omega) (by omega) (fun y hy => hs y (List.mem_of_mem_take hy)) bs (by omega)]
    rfl
  · simp only
    rw [ZI, Zj (by omega), ZI, Zb rfl, if_neg (by omega), if_pos trivial]
    rw [Zb3 k (by omega) (by omega) (by omega) hs bs (by omega)]
    rfl
  · obtain ⟨e1, e2, e3, e4, e5, e6, e7, e8, e9, _⟩ := YW h1 h2 hx
    obtain ⟨kind, c, sh, r, sz⟩ := x
    simp only at e1 e2 e3 e4 e5
    subst e1; subst e2; subst e3; subst e4
    simp only
    rw [ZI, Zj (by omega), ZI, Zj (by omega), Zb (by simp only [Int.ofNat_eq_natCast]; omega), if_neg (by omega), if_neg (by omega), if_neg (by omega), List.drop_zero]
    rw [show (Int.ofNat (X2 o).length).toNat = (X2 o).length from rfl]
    rw [Zb3 k (by omega) (by rw [List.length_take]; omega) (by omega) (fun y hy => hs y (List.mem_of_mem_take hy)) bs (by omega)]
    simp only [Option.bind_some]
    rw [Zj (by omega), show Int.ofNat (X2 o).length = ((X2 o).length : Nat) from rfl]
    have hlen := WY s d (X2 o).length e7
    have hmul : d * (X2 o).length ≤ 25 * 8 := Nat.mul_le_mul hd e8
    refine (Zg (ZvH k (by omega) e6 (bs ++ (s.take (X2 o).length).flatMap (fun n => Xk n d)) (by rw [List.length_append]; omega)) _).trans ?_
    simp only [List.nil_append, List.append_assoc]
  · obtain ⟨e1, e2, e3, e4, e5, e6, e7, e8, e9, _⟩ := YW h1 h2 hx
    obtain ⟨hsl, hsr⟩ := Zmw s o ho
    obtain ⟨kind, c, sh, r, sz⟩ := x
    simp only at e1 e2 e3 e4 e5
    subst e1; subst e2; subst e3; subst e4
    simp only
    rw [ZI, Zj (by omega), ZI, Zj (by omega), Zb (by simp only [Int.ofNat_eq_natCast]; omega), if_neg (by omega), if_neg (by omega), if_pos (by omega), List.drop_zero]
    generalize Zbl s o = c at hsl hsr e6 e7 e8 e9
    rw [show (Int.ofNat c.length).toNat = c.length from rfl]
    rw [Zb3 k (by omega) (by rw [List.length_take]; omega) (by omega) (fun y hy => hs y (List.mem_of_mem_take hy)) bs (by omega)]
    simp only [Option.bind_some]
    rw [Zb (by omega), show Int.ofNat c.length = (c.length : Nat) from rfl]
    have hlen := WY s d c.length e7
    have hmul : d * c.length ≤ 25 * 8 := Nat.mul_le_mul hd e8
    generalize hW : (s.take c.length).flatMap (fun n => Xk n d) = W at hlen
    have l1 : (bs ++ W).length = bs.length + d * c.length := by rw [List.length_append, hlen]
    refine (Zg (Qq k (bs ++ W) 11 4 (by omega) (by omega) (by omega) (by omega)) _).trans ?_
    have l2 : (bs ++ W ++ Ze 11 4).length = bs.length + d * c.length + 4 := by rw [List.length_append, l1, Zu]
    refine (Zg (Qq k (bs ++ W ++ Ze 11 4) 4 5 (by omega) (by omega) (by omega) (by omega)) _).trans ?_
    have l3 : (bs ++ W ++ Ze 11 4 ++ Ze 4 5).length = bs.length + d * c.length + 9 := by rw [List.length_append, l2, Zu]
    refine (Zg (Zb3 k (l := c) (w := 12) (by omega) (by omega) (by omega) (fun y hy => by
      have := hsr y hy
      unfold W4
      rw [if_neg (by omega), decide_eq_true_eq]
      omega) (bs ++ W ++ Ze 11 4 ++ Ze 4 5) (by omega)) _).trans ?_
    have l4 : (bs ++ W ++ Ze 11 4 ++ Ze 4 5 ++ c.flatMap (fun n => Xk n 12)).length = bs.length + d * c.length + 9 + 12 * c.length := by rw [List.length_append, l3, Wb]
    refine (Zg (ZvH k (by omega) e6 (bs ++ W ++ Ze 11 4 ++ Ze 4 5 ++ c.flatMap (fun n => Xk n 12)) (by omega)) _).trans ?_
    show some _ = some _
    simp only [List.append_assoc]
    rfl
theorem ZeK.kind {s : List Int} {d : Nat} {x : WF} (h1 : 1 ≤ s.length) (h2 : s.length ≤ 512) (h : ZeK s d x) : ∃ n : Nat, x.1 = (n : Int) ∧ n < 2 ^ 7 := by
  rcases h with ⟨rfl, _⟩ | rfl | ⟨o, ho, hos, hx⟩ | ⟨o, ho, hos, hx⟩
  · exact ⟨0, rfl, by omega⟩
  · exact ⟨1, rfl, by omega⟩
  · exact ⟨8 + o, by rw [(YW h1 h2 hx).1]; omega, by omega⟩
  · exact ⟨31 + o, by rw [(YW h1 h2 hx).1]; omega, by omega⟩
theorem Zjc {s : List Int} {d : Nat} : ZcJ s (d : Int) = 0 ↔ (1 ≤ s.length ∧ s.length ≤ 512 ∧ 4 ≤ d ∧ d ≤ 25) ∧ ∀ x ∈ s, W4 x d = true := by
  unfold ZcJ
  rw [Int.toNat_natCast]
  constructor
  · intro h
    split at h
    · split at h
      · rename_i h1 h2
        exact ⟨by omega, List.all_eq_true.1 h2⟩
      · omega
    · omega
  · rintro ⟨h1, h2⟩
    rw [if_pos (by omega), if_pos (List.all_eq_true.2 h2)]
theorem ZGh (k : Nat) (hk : 70000 < k) {s : List Int} {d : Nat} (h : ZcJ s (d : Int) = 0) (bs : List Bool) (hb : bs.length ≤ 900000000) :
    ZpK k (wst bs, s, (d : Int), ()) = some (0, wst (bs ++ QU s d), ()) := by
  obtain ⟨⟨h1, h2, h3, h4⟩, hs⟩ := Zjc.1 h
  rw [ZAO, ZFF k s d (by omega), h]
  simp only [Option.bind_some]
  rw [show ((0 : Int) != 0) = false from rfl]
  simp only [cond_false]
  rw [ZEy k (by omega) h1 h2 (by omega) h4 hs]
  obtain ⟨x, hx, hok, hsub, hlen, _⟩ := Zbs s d h1 h2
  rw [hx, hsub]
  have hw := ZcY (by omega) hs
  have hsg := Zmo (by omega) hs
  have hsl := XW s
  generalize Zy s = kk at hw hsg hok ⊢
  generalize QJ s = t at hsg hsl hok ⊢
  generalize hdd : d - kk = dd at hsg hok ⊢
  obtain ⟨kn, hk1, hk2⟩ := hok.kind (by omega) (by omega)
  show (Qp k (wst bs, x.1, 7, ())).bind _ = _
  unfold Zad
  rw [hk1, Int.toNat_natCast]
  refine (Zg (Qq k bs kn 7 (by omega) (by omega) hk2 (by omega)) _).trans ?_
  have l1 : (bs ++ Ze kn 7).length = bs.length + 7 := by rw [List.length_append, Zu]
  show (bif decide ((0 : Int) < (kk : Int)) then _ else _) = _
  by_cases h0 : 0 < kk
  · rw [Zb (by omega), if_pos h0]
    refine (Zg (Qq k (bs ++ Ze kn 7) 1 1 (by omega) (by omega) (by omega) (by omega)) _).trans ?_
    have l2 : (bs ++ Ze kn 7 ++ Ze 1 1).length = bs.length + 8 := by rw [List.length_append, l1, Zu]
    show (Zi5 k (wst (bs ++ Ze kn 7 ++ Ze 1 1), IntKind.i64.wrap ((kk : Int) - 1), ())).bind _ = _
    have e1 : IntKind.i64.wrap ((kk : Int) - 1) = ((kk - 1 : Nat) : Int) := by rw [Z8 (by omega)]; omega
    rw [e1]
    refine (Zg (Zu5 k (bs ++ Ze kn 7 ++ Ze 1 1) (kk - 1) (by omega) (by omega) (by omega)) _).trans ?_
    have l3 : (bs ++ Ze kn 7 ++ Ze 1 1 ++ (List.replicate (kk - 1) false ++ [true])).length = bs.length + 8 + kk := by
      rw [List.length_append, l2]; simp; omega
    have := Zer k hk (by omega) (by omega) (d := dd) (by omega) (by omega) hsg hok (kk : Int) (bs ++ Ze kn 7 ++ Ze 1 1 ++ (List.replicate (kk - 1) false ++ [true])) (by omega)
    refine Eq.trans this ?_
    rw [show Ze 1 1 = [true] from rfl]
    simp only [List.append_assoc]
  · rw [Zj (by omega), if_neg h0]
    refine (Zg (Qq k (bs ++ Ze kn 7) 0 1 (by omega) (by omega) (by omega) (by omega)) _).trans ?_
    have l2 : (bs ++ Ze kn 7 ++ Ze 0 1).length = bs.length + 8 := by rw [List.length_append, l1, Zu]
    have := Zer k hk (by omega) (by omega) (d := dd) (by omega) (by omega) hsg hok (kk : Int) (bs ++ Ze kn 7 ++ Ze 0 1) (by omega)
    refine Eq.trans this ?_
    rw [show Ze 0 1 = [false] from rfl]
    simp only [List.append_assoc]
end Go.Sh
namespace Go.Sh
open Go Go.Proofs
def Ql (n : Nat) : Nat := if 256 < n then 7 else 6
def QD (mode num n : Nat) : List Bool :=
  Ze 16382 14 ++ (Ze (Ql n) 6 ++ (Ze mode 8 ++ (Ze 0 4 ++ ((Qx num).flatMap (fun x => Ze x 8) ++ Ze (n - 1) (8 * (Ql n - 5))))))
def Q5 (mode num n : Nat) : List Bool := QD mode num n ++ Ze (Zwx (ZJ (QD mode num n))) 8
def Wh (ls : List (List Int)) (ds : List Int) : List Bool := (ls.zip ds).flatMap fun x => QU x.1 x.2.toNat
def Qv (bs : List Bool) : List Bool := bs ++ List.replicate (XJ bs.length) false
def WS (bs : List Bool) : List Bool := Qv bs ++ Ze (Yj (ZJ (Qv bs))) 16
def X6 (c d r n : Int) (ch : List (List Int)) : List Int × Int :=
  if We c d r n ch = 0 then (ZJ (WS (Q5 (Xs ch).2.toNat n.toNat (ch.headD []).length ++ Wh (Xs ch).1 (ZY c d (Xs ch).2))), 0) else ([], We c d r n ch)
theorem Za9 {c d r n : Int} {ch : List (List Int)} (h : We c d r n ch = 0) : (1 ≤ c ∧ c ≤ 2 ∧ 4 ≤ d ∧ d ≤ 24 ∧ 1 ≤ r ∧ r ≤ 655350) ∧ (0 ≤ n ∧ n ≤ 2147483647) ∧ (ch.length : Int) = c ∧
    (∀ l ∈ ch, l.length = (ch.headD []).length ∧ 1 ≤ l.length ∧ l.length ≤ 512) ∧ (∀ l ∈ ch, ∀ x ∈ l, W4 x d.toNat = true) := by
  unfold We at h
  split at h
  · omega
  · rename_i h1
    split at h
    · omega
    · rename_i h2
      split at h
      · omega
      · rename_i h3
        split at h
        · omega
        · rename_i h4
          refine ⟨of_decide_eq_true (by simpa [Zcd] using h1), by omega, by omega, ?_, ?_⟩
          · intro l hl
            have h3 : ch.all (Zio (ch.headD []).length) = true := by simpa using h3
            have := of_decide_eq_true (List.all_eq_true.1 h3 l hl)
            exact ⟨this.1, by omega, by omega⟩
          · intro l hl x hx
            have h4 : ch.all (fun l => l.all fun x => W4 x d.toNat) = true := by simpa using h4
            exact List.all_eq_true.1 (List.all_eq_true.1 h4 l hl) x hx
theorem Zja {x : Int} {d : Nat} (hd : d ≤ 24) (h : W4 x d = true) : Z3 x := by
  unfold W4 at h
  unfold Z3
  split at h
  · simp only [decide_eq_true_eq] at h; omega
  · rw [decide_eq_true_eq, Wq] at h
    have : 2 ^ (d - 1) ≤ 2 ^ 23 := Nat.pow_le_pow_right (by omega) (by omega)
    generalize 2 ^ (d - 1) = Q at h this
    omega
theorem Zgz {l r : Int} {d : Nat} (h1 : 1 ≤ d) (hl : W4 l d = true) (hr : W4 r d = true) : W4 (l - r) (d + 1) = true ∧ W4 ((l + r) / 2) d = true := by
  unfold W4 at hl hr ⊢
  rw [if_neg (by omega), decide_eq_true_eq] at hl hr
  rw [if_neg (by omega), decide_eq_true_eq, if_neg (by omega), decide_eq_true_eq]
  have e : (2 : Int) ^ (d + 1 - 1) = 2 * 2 ^ (d - 1) := by
    rw [show d + 1 - 1 = (d - 1) + 1 by omega, Int.pow_succ, Int.mul_comm]
  rw [e]
  generalize (2 : Int) ^ (d - 1) = Q at hl hr ⊢
  omega
structure LayOk (n d : Nat) (ls : List (List Int)) (ds : List Int) : Prop where
  len : ls.length = ds.length
  two : ls.length = 1 ∨ ls.length = 2
  all : ∀ (i : Nat) (h1 : i < ls.length) (h2 : i < ds.length), ls[i].length = n ∧ (ds[i] = (d : Int) ∨ ds[i] = (d : Int) + 1) ∧ ∀ x ∈ ls[i], W4 x ds[i].toNat = true
theorem Zyi {c d r n : Int} {ch : List (List Int)} (h : We c d r n ch = 0) : LayOk (ch.headD []).length d.toNat (Xs ch).1 (ZY c d (Xs ch).2) ∧ (∃ m : Nat, (Xs ch).2 = (m : Int) ∧ (m = 0 ∧ c = 1 ∨ c = 2 ∧ (m = 1 ∨ m = 8 ∨ m = 9 ∨ m = 10))) ∧ ((Xs ch).1.headD []).length = (ch.headD []).length := by
  obtain ⟨hs, hn, hc, hlen, hsg⟩ := Za9 h
  obtain ⟨dn, rfl⟩ := Int.eq_ofNat_of_zero_le (show 0 ≤ d by omega)
  simp only [Int.toNat_natCast] at hsg ⊢
  match ch, hc, hlen, hsg with
  | [], hc, _, _ => simp at hc; omega
  | [l], hc, hlen, hsg =>
    have hc : c = 1 := by simp at hc; omega
    subst hc
    refine ⟨⟨rfl, .inl rfl, ?_⟩, ⟨0, rfl, .inl ⟨rfl, rfl⟩⟩, rfl⟩
    intro i h1 h2
    obtain rfl : i = 0 := by simp [Xs] at h1; omega
    exact ⟨rfl, .inl rfl, hsg l (by simp)⟩
  | [l, r'], hc, hlen, hsg =>
    have hc : c = 2 := by simp at hc; omega
    subst hc
    have hr := (hlen r' (by simp)).1
    simp only [List.headD_cons] at hr
    have hsl := hsg l (by simp)
    have hsr := hsg r' (by simp)
    have hmd := Zoe l r'
    show LayOk _ _ [Yt (Qw l r') l r', Yv (Qw l r') l r'] (ZY 2 dn (if Qw l r' = 0 then 1 else Qw l r')) ∧ _ ∧ _
    refine ⟨?_, ?_, (ZhG hr.symm).1⟩
    · have e : ZY 2 (dn : Int) (if Qw l r' = 0 then 1 else Qw l r') = ZY 2 dn (Qw l r') := by
        rcases hmd with h | h | h | h <;> rw [h] <;> rfl
      rw [e]
      obtain ⟨la, lb⟩ := ZhG (m := Qw l r') hr.symm
      have hz : ∀ x ∈ l.zip r', W4 x.1 dn = true ∧ W4 x.2 dn = true := fun x hx => ⟨hsl _ (List.of_mem_zip hx).1, hsr _ (List.of_mem_zip hx).2⟩
      generalize Qw l r' = m at hmd la lb ⊢
      have hA : ∀ y ∈ Yt m l r', ∃ a b, y = apA m a b ∧ W4 a dn = true ∧ W4 b dn = true := by
        intro y hy
        obtain ⟨x, hx, rfl⟩ := List.mem_map.1 hy
        exact ⟨_, _, rfl, (hz x hx).1, (hz x hx).2⟩
      have hB : ∀ y ∈ Yv m l r', ∃ a b, y = apB m a b ∧ W4 a dn = true ∧ W4 b dn = true := by
        intro y hy
        obtain ⟨x, hx, rfl⟩ := List.mem_map.1 hy
        exact ⟨_, _, rfl, (hz x hx).1, (hz x hx).2⟩
      have hdn : 1 ≤ dn := by omega
      have eN : ((dn : Int) + 1).toNat = dn + 1 := by omega
      rcases hmd with rfl | rfl | rfl | rfl
      · refine ⟨rfl, .inr rfl, fun i h1 h2 => ?_⟩
        obtain rfl | rfl : i = 0 ∨ i = 1 := by simp at h1; omega
        · exact ⟨la, .inl rfl, fun y hy => by obtain ⟨a, b, rfl, ha, hb⟩ := hA y hy; simpa [apA, ZY] using ha⟩
        · exact ⟨by simpa [hr] using lb, .inl rfl, fun y hy => by obtain ⟨a, b, rfl, ha, hb⟩ := hB y hy; simpa [apB, ZY] using hb⟩
      · refine ⟨rfl, .inr rfl, fun i h1 h2 => ?_⟩
        obtain rfl | rfl : i = 0 ∨ i = 1 := by simp at h1; omega
        · exact ⟨la, .inl rfl, fun y hy => by obtain ⟨a, b, rfl, ha, hb⟩ := hA y hy; simpa [apA, ZY] using ha⟩
        · exact ⟨by simpa [hr] using lb, .inr rfl, fun y hy => by obtain ⟨a, b, rfl, ha, hb⟩ := hB y hy; simpa [apB, ZY, eN] using (Zgz hdn ha hb).1⟩
      · refine ⟨rfl, .inr rfl, fun i h1 h2 => ?_⟩
        obtain rfl | rfl : i = 0 ∨ i = 1 := by simp at h1; omega
        · exact ⟨la, .inr rfl, fun y hy => by obtain ⟨a, b, rfl, ha, hb⟩ := hA y hy; simpa [apA, ZY, eN] using (Zgz hdn ha hb).1⟩
        · exact ⟨by simpa [hr] using lb, .inl rfl, fun y hy => by obtain ⟨a, b, rfl, ha, hb⟩ := hB y hy; simpa [apB, ZY] using hb⟩
      · refine ⟨rfl, .inr rfl, fun i h1 h2 => ?_⟩
        obtain rfl | rfl : i = 0 ∨ i = 1 := by simp at h1; omega
        · exact ⟨la, .inl rfl, fun y hy => by obtain ⟨a, b, rfl, ha, hb⟩ := hA y hy; simpa [apA, ZY] using (Zgz hdn ha hb).2⟩
        · exact ⟨by simpa [hr] using lb, .inr rfl, fun y hy => by obtain ⟨a, b, rfl, ha, hb⟩ := hB y hy; simpa [apB, ZY, eN] using (Zgz hdn ha hb).1⟩
    · rcases hmd with h | h | h | h
      · exact ⟨1, by simp [Xs, h], .inr ⟨rfl, by omega⟩⟩
      · exact ⟨8, by simp [Xs, h], .inr ⟨rfl, by omega⟩⟩
      · exact ⟨9, by simp [Xs, h], .inr ⟨rfl, by omega⟩⟩
      · exact ⟨10, by simp [Xs, h], .inr ⟨rfl, by omega⟩⟩
  | _ :: _ :: _ :: _, hc, _, _ => simp at hc; omega
theorem Zqq : ∀ (i n : Nat), (Zjk n i).length = i
  | 0, _ => rfl
  | i + 1, n => by simp [Zjk, Zqq i]
theorem Zws : ∀ (i n : Nat), ∀ x ∈ Zjk n i, x < 256
  | 0, _, x, h => by simp [Zjk] at h
  | i + 1, n, x, h => by
    rcases List.mem_append.1 h with h | h
    · exact Zws i _ x h
    · simp at h; omega
theorem ZzD (n : Nat) : 1 ≤ Zei n ∧ Zei n ≤ 7 := by
  unfold Zei
  repeat' split
  all_goals omega
theorem ZBm {k m : Nat} (hm : m < 64) : Zmn k m < 256 := by
  unfold Zmn
  exact Nat.or_lt_two_pow (n := 8) (Nat.mod_lt _ (by omega)) (by omega)
theorem Zpn (n : Nat) : 1 ≤ (Qx n).length ∧ (Qx n).length ≤ 7 := by
  unfold Qx
  have := ZzD n
  split
  · simp
  · simp only [List.length_cons, Zqq]; omega
theorem ZAu {n : Nat} (h : n < 2 ^ 36) (h2 : 128 ≤ n) : 2 ≤ Zei n ∧ n < 2 ^ XK (Zei n) := by
  obtain ⟨r2, r3, r4, r5, r6, r7⟩ := Zv6
  unfold Zei
  rw [if_neg (by omega)]
  repeat' split
  all_goals simp only [r2, r3, r4, r5, r6, r7]
  all_goals omega
theorem ZEp {n : Nat} (h : n < 2 ^ 36) : ∀ x ∈ Qx n, x < 256 := by
  intro x hx
  unfold Qx at hx
  split at hx
  · simp at hx; omega
  · rcases List.mem_cons.1 hx with rfl | hx
    · obtain ⟨h1, h2⟩ := ZAu h (by omega)
      exact ZBm (Zol h1 (ZzD n).2 h2)
    · exact Zws _ _ x hx
theorem Ziy : ∀ l : List Nat, (l.flatMap fun x => Ze x 8).length = 8 * l.length
  | [] => rfl
  | a :: l => by rw [List.flatMap_cons, List.length_append, Zu, Ziy l, List.length_cons]; omega
theorem Zcm (mode num n : Nat) : (QD mode num n).length = 32 + 8 * (Qx num).length + 8 * (Ql n - 5) := by
  unfold QD
  simp only [List.length_append, Zu, Ziy]
  omega
theorem ZfS (n : Nat) : Ql n = 6 ∨ Ql n = 7 := by unfold Ql; split <;> omega
theorem ZAG {l : List Nat} {i : Nat} (h : i < (WT l).length) : (WT l)[i] = ((l[i]'(by simpa [WT] using h) : Nat) : Int) := by simp [WT]
theorem Zip (l : List Nat) : (WT l).length = l.length := by simp [WT]
end Go.Sh
namespace Go.Sh
open Go Go.Proofs
theorem Znc {n d : Nat} {ls : List (List Int)} {ds : List Int} (h : LayOk n d ls ds) (hn : 1 ≤ n) (hn2 : n ≤ 512) (hd1 : 4 ≤ d) (hd2 : d ≤ 24) : (Wh ls ds).length ≤ 30000 := by
  have one : ∀ (i : Nat) (h1 : i < ls.length) (h2 : i < ds.length), (QU ls[i] ds[i].toNat).length ≤ 13000 := by
    intro i h1 h2
    obtain ⟨a, b, c⟩ := h.all i h1 h2
    have hw := ZcY (d := ds[i].toNat) (by omega) c
    have := Zun (s := ls[i]) (by omega) (by omega) hw
    have hm : ls[i].length * ds[i].toNat ≤ 512 * 25 := Nat.mul_le_mul (by omega) (by omega)
    omega
  unfold Wh
  have hl := h.len
  rcases h.two with h2 | h2
  · match ls, ds, h2, hl, one with
    | [a], [x], _, _, one =>
      have := one 0 (by simp) (by simp)
      simp at this ⊢
      omega
  · match ls, ds, h2, hl, one with
    | [a, b], [x, y], _, _, one =>
      have h1 := one 0 (by simp) (by simp)
      have h2 := one 1 (by simp) (by simp)
      simp at h1 h2 ⊢
      omega
theorem Zwe (k : Nat) (hk : 100000 < k) {n d : Nat} {ls : List (List Int)} {ds : List Int} (h : LayOk n d ls ds) (hn : 1 ≤ n) (hn2 : n ≤ 512) (hd1 : 4 ≤ d) (hd2 : d ≤ 24) (bs : List Bool) (hb : bs.length ≤ 200) :
    Zcq k (Int.ofNat ds.length, (0 : Int), ds, ls, (bs.length : Int), ZJ bs) = some ((ZJ (WS (bs ++ Wh ls ds)), 0, ()), ()) := by
  have hdl : ds.length ≤ 2 := by have := h.len; have := h.two; omega
  have hall : (bs ++ Wh ls ds).length ≤ 30200 := by have := Znc h hn hn2 hd1 hd2; rw [List.length_append]; omega
  have hpart : ∀ i, (bs ++ ((ls.zip ds).take i).flatMap (fun x => QU x.1 x.2.toNat)).length ≤ 30200 := by
    intro i
    refine Nat.le_trans ?_ hall
    unfold Wh
    conv => rhs; rw [← List.take_append_drop i (ls.zip ds), List.flatMap_append]
    simp only [List.length_append]
    omega
  have hzl : (ls.zip ds).length = ds.length := by rw [List.length_zip]; have := h.len; omega
  have hend : ∀ L, Kn k L (Int.ofNat ds.length, Int.ofNat ds.length, ds, ls, (((bs ++ Wh ls ds).length : Nat) : Int), ZJ (bs ++ Wh ls ds)) = some ((ZJ (WS (bs ++ Wh ls ds)), 0, ()), ()) := by
    intro L
    generalize bs ++ Wh ls ds = B at hall
    simp only [Kn]
    rw [Zj (WB _)]
    have hp : XJ B.length < 8 := by unfold XJ; omega
    have hpl : (Qv B).length ≤ 30210 := by unfold Qv; rw [List.length_append, List.length_replicate]; omega
    refine (Zg (ZEq k B (by omega)) _).trans ?_
    refine (Zg (Zmc k (Qv B) (by omega)) _).trans ?_
    have hb16 := XT (Qv B)
    have hpk : (ZJ (Qv B)).length ≤ 4000 := by rw [Qm]; omega
    refine (Zg (ZuM k (ZJ (Qv B)) hb16 (by omega) (by omega)) _).trans ?_
    refine (Zg (Qq k (Qv B) (Yj (ZJ (Qv B))) 16 (by omega) (by omega) (ZuV hb16) (by omega)) _).trans ?_
    have hcl : (WS B).length ≤ 30300 := by unfold WS; rw [List.length_append, Zu]; omega
    refine (Zg (Zmc k (WS B) (by omega)) _).trans ?_
    rfl
  have := Zz (A := List Bool) (R := (List Int × Int × Unit) × Unit) (step := fun L2 => Kn k L2)
    (fun i a => (Int.ofNat ds.length, Int.ofNat i, ds, ls, (a.length : Int), ZJ a)) (ls.zip ds)
    (fun l' a => some ((ZJ (WS (a ++ l'.flatMap fun x => QU x.1 x.2.toNat)), 0, ()), ()))
    (fun i a => a = bs ++ ((ls.zip ds).take i).flatMap (fun x => QU x.1 x.2.toNat))
    (fun L a ha => by
      rw [List.take_length] at ha
      have := hend L
      unfold Wh at this
      rw [← ha] at this
      rw [hzl, List.flatMap_nil, List.append_nil]
      exact this)
    (fun L i hi a ha hL => by
      have h1 : i < ls.length := by have := h.len; omega
      have h2 : i < ds.length := by omega
      obtain ⟨o1, o2, o3⟩ := h.all i h1 h2
      have hal : a.length ≤ 30200 := by rw [ha]; exact hpart i
      simp only [Kn]
      rw [Zb (ltR h2), Zb (inR h2), Zb (inR h1), ZR h1, ZR h2]
      have hds : ds[i] = ((ds[i].toNat : Nat) : Int) := by omega
      have hsc : ZcJ ls[i] ((ds[i].toNat : Nat) : Int) = 0 := Zjc.2 ⟨by omega, o3⟩
      have e := ZGh k (by omega) hsc a (by omega)
      rw [← hds] at e
      refine (Zg e _).trans ?_
      have hzi : (ls.zip ds)[i] = (ls[i], ds[i]) := by rw [List.getElem_zip]
      have hnext : a ++ QU ls[i] ds[i].toNat = bs ++ ((ls.zip ds).take (i + 1)).flatMap (fun x => QU x.1 x.2.toNat) := by
        rw [ha, List.take_add_one, List.getElem?_eq_getElem hi, hzi, List.flatMap_append]
        simp
      have := hL (a ++ QU ls[i] ds[i].toNat) hnext
      show L (Int.ofNat ds.length, IntKind.i64.wrap (Int.ofNat i + 1), ds, ls, (((a ++ QU ls[i] ds[i].toNat).length : Nat) : Int), ZJ (a ++ QU ls[i] ds[i].toNat)) = _
      rw [QK h2 (by omega), this, hzi, List.flatMap_cons, List.append_assoc])
    k 0 bs (by simp) (by omega) (Nat.zero_le _)
  rw [List.drop_zero] at this
  exact this
theorem Zuw (k : Nat) (hk : 100000 < k) {c d r : Int} {mode num n dn : Nat} (hnum : num < 2 ^ 31) (hd : d = (dn : Int)) {ls : List (List Int)} (hc : c = 1 ∧ mode = 0 ∨ c = 2) (hn : 1 ≤ n) (hn2 : n ≤ 512) (hd1 : 4 ≤ dn) (hd2 : dn ≤ 24)
    (h : LayOk n dn ls (ZY c d (mode : Int))) (bs : List Bool) (hb : bs = Ze 16382 14 ++ (Ze (Ql n) 6 ++ (Ze mode 8 ++ Ze 0 4))) :
    Zie k (Int.ofNat (WT (Qx num)).length, (0 : Int), WT (Qx num), (n : Int), ((Ql n : Nat) : Int), (mode : Int), ls, (bs.length : Int), ZJ bs, c, d, r) =
      some ((ZJ (WS (Q5 mode num n ++ Wh ls (ZY c d (mode : Int)))), 0, ()), ()) := by
  have hbl : bs.length = 32 := by rw [hb]; simp only [List.length_append, Zu]
  have hcl := Zpn num
  have hlt := ZEp (n := num) (by omega)
  have hkn := ZfS n
  have := Zz (A := List Bool) (R := (List Int × Int × Unit) × Unit) (step := fun L1 => Xw k (Zcq k) L1)
    (fun i a => (Int.ofNat (WT (Qx num)).length, Int.ofNat i, WT (Qx num), (n : Int), ((Ql n : Nat) : Int), (mode : Int), ls, (a.length : Int), ZJ a, c, d, r)) (Qx num)
    (fun l' a => Xw k (Zcq k) (fun _ => none) (Int.ofNat (Qx num).length, Int.ofNat (Qx num).length, WT (Qx num), (n : Int), ((Ql n : Nat) : Int), (mode : Int), ls, (((a ++ l'.flatMap fun x => Ze x 8).length : Nat) : Int), ZJ (a ++ l'.flatMap fun x => Ze x 8), c, d, r))
    (fun i a => a.length ≤ 32 + 8 * i)
    (fun L a ha => by
      rw [Zip]
      simp only [Xw]
      rw [Zj (WB _), Zj (WB _)]
      simp)
    (fun L i hi a ha hL => by
      have hi2 : i < (WT (Qx num)).length := by rw [Zip]; exact hi
      have key : Xw k (Zcq k) L (Int.ofNat (WT (Qx num)).length, Int.ofNat i, WT (Qx num), (n : Int), ((Ql n : Nat) : Int), (mode : Int), ls, (a.length : Int), ZJ a, c, d, r) =
          L (Int.ofNat (WT (Qx num)).length, Int.ofNat (i + 1), WT (Qx num), (n : Int), ((Ql n : Nat) : Int), (mode : Int), ls, (((a ++ Ze (Qx num)[i] 8).length : Nat) : Int), ZJ (a ++ Ze (Qx num)[i] 8), c, d, r) := by
        simp only [Xw]
        rw [Zb (ltR hi2), Zb (inR hi2), ZR hi2, ZAG hi2]
        have hx := hlt _ (List.getElem_mem hi)
        have hil := Zip (Qx num)
        rw [Z8 (by omega)]
        refine (Zg (Qq k a (Qx num)[i] 8 (by omega) (by omega) (by omega) (by omega)) _).trans ?_
        rw [QK hi2 (by omega)]
      rw [key, hL _ (by rw [List.length_append, Zu]; omega), List.flatMap_cons, List.append_assoc])
    k 0 bs (by omega) (by omega) (Nat.zero_le _)
  rw [List.drop_zero] at this
  refine Eq.trans this ?_
  have hpre : bs ++ (Qx num).flatMap (fun x => Ze x 8) ++ Ze (n - 1) (8 * (Ql n - 5)) = QD mode num n := by
    rw [hb]
    unfold QD
    simp only [List.append_assoc]
  have hprel := Zcm mode num n
  have hB : (bs ++ (Qx num).flatMap (fun x => Ze x 8)).length ≤ 100 := by rw [List.length_append, Ziy]; omega
  generalize bs ++ (Qx num).flatMap (fun x => Ze x 8) = B at hpre hB
  simp only [Xw]
  rw [Zj (WB _)]
  have e1 : IntKind.i64.wrap ((n : Int) - 1) = ((n - 1 : Nat) : Int) := by rw [Z8 (by omega)]; omega
  have e2 : IntKind.i64.wrap ((8 : Int) * IntKind.i64.wrap (IntKind.i64.wrap (((Ql n : Nat) : Int) - (6 : Int)) + (1 : Int))) = ((8 * (Ql n - 5) : Nat) : Int) := by
    rcases hkn with h | h <;> rw [h] <;> rfl
  have hw : n - 1 < 2 ^ (8 * (Ql n - 5)) := by
    unfold Ql
    split
    · show n - 1 < 2 ^ 16; omega
    · show n - 1 < 2 ^ 8; omega
  rw [e1, e2]
  refine (Zg (Qq k B (n - 1) (8 * (Ql n - 5)) (by omega) (by omega) hw (by omega)) _).trans ?_
  rw [hpre]
  refine (Zg (Zmc k (QD mode num n) (by omega)) _).trans ?_
  have hb8 := XT (QD mode num n)
  refine (Zg (Zvr k (ZJ (QD mode num n)) hb8 (by rw [Qm]; omega) (by rw [Qm]; omega)) _).trans ?_
  refine (Zg (Qq k (QD mode num n) (Zwx (ZJ (QD mode num n))) 8 (by omega) (by omega) (ZAe hb8) (by omega)) _).trans ?_
  refine (Zg (ZwE k (c := c) (d := d) (r := r) (m := (mode : Int)) (by omega) (by omega)) _).trans ?_
  exact Zwe k hk h hn hn2 hd1 hd2 (Q5 mode num n) (by unfold Q5; rw [List.length_append, Zu]; omega)
theorem Zog (k : Nat) (hk : 100000 < k) (c d r n : Int) (ch : List (List Int)) : Zf9 k ((c, d, r, ()), (n, ch, ()), ()) = some (((X6 c d r n ch).1, (X6 c d r n ch).2, ()), ()) := by
  show Zhd k (Zie k) _ = _
  simp only [Zhd]
  rw [ZwH k c d r n ch (by omega)]
  simp only [Option.bind_some]
  unfold X6
  rw [ZT]
  by_cases h : We c d r n ch = 0
  · rw [Zj (by simpa using h), if_pos h]
    obtain ⟨hs, hn, hc, hlen, hsg⟩ := Za9 h
    obtain ⟨hlay, ⟨mode, hm, hmc⟩, hn0⟩ := Zyi h
    have hch : ch.length = 1 ∨ (∃ L R, ch = [L, R] ∧ L.length = R.length ∧ L.length ≤ 8192 ∧ (∀ x ∈ L, Z3 x) ∧ ∀ x ∈ R, Z3 x) := by
      match ch, hc, hlen, hsg with
      | [], hc, _, _ => simp at hc; omega
      | [_], _, _, _ => exact .inl rfl
      | [l, r'], _, hlen, hsg =>
        refine .inr ⟨l, r', rfl, ?_, ?_, ?_, ?_⟩
        · have := (hlen r' (by simp)).1; simpa using this.symm
        · have := (hlen l (by simp)).2.2; omega
        · exact fun x hx => Zja (by omega) (hsg l (by simp) x hx)
        · exact fun x hx => Zja (by omega) (hsg r' (by simp) x hx)
      | _ :: _ :: _ :: _, hc, _, _ => simp at hc; omega
    refine (Zg (ZF6 k n ch (by omega) hch) _).trans ?_
    rw [show ((0 : Int) != 0) = false from rfl]
    simp only [cond_false]
    have hbig : ∃ l0, (Xs ch).1.getD 0 [] = l0 ∧ l0.length = (ch.headD []).length ∧ 0 < (Xs ch).1.length := by
      have := hlay.two
      match hh : (Xs ch).1, this with
      | [], h => simp at h
      | l :: ls, _ => rw [hh] at hn0; exact ⟨l, rfl, hn0, by simp⟩
    obtain ⟨l0, hl0, hl0n, hpos⟩ := hbig
    rw [Zb (by simp only [Int.ofNat_eq_natCast]; omega), hl0, hl0n]
    have hn1 : 1 ≤ (ch.headD []).length ∧ (ch.headD []).length ≤ 512 := by
      obtain ⟨a, b, c⟩ := hlay.all 0 hpos (by rw [← hlay.len]; exact hpos)
      have : 0 < ch.length := by omega
      match ch, this with
      | l :: _, _ => exact (hlen l (by simp)).2
    rw [hm] at hlay ⊢
    obtain ⟨num, hnum⟩ := Int.eq_ofNat_of_zero_le hn.1
    obtain ⟨dn, hdn⟩ := Int.eq_ofNat_of_zero_le (show 0 ≤ d by omega)
    subst hnum
    rw [Int.toNat_natCast, Int.toNat_natCast]
    have hdt : d.toNat = dn := by omega
    rw [hdt] at hlay
    have hmode : mode < 2 ^ 8 := by omega
    have e14 : (16382 : Int) = ((16382 : Nat) : Int) := rfl
    generalize hN : (ch.headD []).length = N at hn1 hlay
    have l1 : (([] : List Bool) ++ Ze 16382 14).length = 14 := by rw [List.length_append, Zu]; rfl
    have fin : ∀ kd : Nat, kd = Ql N → ((Zl8 k ()).bind fun y_1 => (Qp k ((y_1.1.1, y_1.1.2.1, ()), 16382, 14, ())).bind fun y_2 => (Qp k ((y_2.2.1.1, y_2.2.1.2.1, ()), (kd : Int), 6, ())).bind fun y_3 => (Qp k ((y_3.2.1.1, y_3.2.1.2.1, ()), (mode : Int), 8, ())).bind fun y_4 => (Qp k ((y_4.2.1.1, y_4.2.1.2.1, ()), 0, 4, ())).bind fun y_5 => (ZnA k ((num : Int), ())).bind fun y_6 => bif y_6.1.2.1 != (0 : Int) then some (([], y_6.1.2.1, ()), ()) else Zie k (Int.ofNat (List.length y_6.1.1), (0 : Int), y_6.1.1, (N : Int), (kd : Int), (mode : Int), (Xs ch).1, y_5.2.1.2.1, y_5.2.1.1, c, d, r)) =
        some ((ZJ (WS (Q5 mode num N ++ Wh (Xs ch).1 (ZY c d (mode : Int)))), 0, ()), ()) := by
      rintro kd rfl
      have hkn := ZfS N
      refine (Zg (ZFm k) _).trans ?_
      refine (Zg (Qq k [] 16382 14 (by omega) (by omega) (by omega) (by simp)) _).trans ?_
      refine (Zg (Qq k ([] ++ Ze 16382 14) (Ql N) 6 (by omega) (by omega) (by omega) (by omega)) _).trans ?_
      have l2 : ([] ++ Ze 16382 14 ++ Ze (Ql N) 6).length = 20 := by rw [List.length_append, l1, Zu]
      refine (Zg (Qq k ([] ++ Ze 16382 14 ++ Ze (Ql N) 6) mode 8 (by omega) (by omega) hmode (by omega)) _).trans ?_
      have l3 : ([] ++ Ze 16382 14 ++ Ze (Ql N) 6 ++ Ze mode 8).length = 28 := by rw [List.length_append, l2, Zu]
      refine (Zg (Qq k ([] ++ Ze 16382 14 ++ Ze (Ql N) 6 ++ Ze mode 8) 0 4 (by omega) (by omega) (by omega) (by omega)) _).trans ?_
      refine (Zg (ZGb k (by omega) (n := num) (by omega)) _).trans ?_
      exact Zuw k hk (by omega) hdn (hmc.elim (fun h => .inl ⟨h.2, h.1⟩) (fun h => .inr h.1)) hn1.1 hn1.2 (by omega) (by omega) hlay _ (by simp only [List.nil_append, List.append_assoc])
    by_cases h256 : 256 < N
    · rw [Zb (by simp only [Int.ofNat_eq_natCast]; omega)]
      exact fin 7 (by unfold Ql; rw [if_pos h256])
    · rw [Zj (by simp only [Int.ofNat_eq_natCast]; omega)]
      exact fin 6 (by unfold Ql; rw [if_neg h256])
  · rw [Zb h, if_neg h]
end Go.Sh
namespace Go.Sh
open Go Go.Proofs
def Qu (b : List Int) : List Bool := b.flatMap fun x => Ze x.toNat 8
theorem QQ : ∀ b : List Int, (Qu b).length = 8 * b.length
  | [] => rfl
  | a :: b => by
    have := QQ b
    unfold Qu at this ⊢
    rw [List.flatMap_cons, List.length_append, Zu, this, List.length_cons]; omega
theorem Zop (a : Int) (b : List Int) : Qu (a :: b) = Ze a.toNat 8 ++ Qu b := by unfold Qu; rw [List.flatMap_cons]
theorem Zsi (a b : List Int) : Qu (a ++ b) = Qu a ++ Qu b := by unfold Qu; rw [List.flatMap_append]
theorem ZmC : ∀ (b : List Int) (i : Nat), (Qu b).drop (8 * i) = Qu (b.drop i)
  | b, 0 => rfl
  | [], i + 1 => by simp [Qu]
  | a :: b, i + 1 => by
    rw [List.drop_succ_cons, Zop, List.drop_append, Zu, List.drop_eq_nil_of_le (by rw [Zu]; omega), List.nil_append, show 8 * (i + 1) - 8 = 8 * i by omega]
    exact ZmC b i
theorem Zm1 (n : Nat) : ∀ (w i : Nat) (h : i < (Ze n w).length), (Ze n w)[i] = n.testBit (w - 1 - i)
  | w + 1, 0, _ => by simp [Ze]
  | w + 1, i + 1, h => by
    simp only [Ze, List.getElem_cons_succ]
    rw [Zm1 n w i (by simpa [Ze] using h)]
    congr 1
    omega
theorem ZhU {b : List Int} {i : Nat} (h : i < 8 * b.length) : (Qu b)[i]'(by rw [QQ]; exact h) = (b[i / 8]'(by omega)).toNat.testBit (7 - i % 8) := by
  have h1 : i / 8 < b.length := by omega
  have h2 : (Qu b)[i]'(by rw [QQ]; exact h) = (Qu (b.drop (i / 8)))[i % 8]'(by rw [QQ, List.length_drop]; omega) := by
    simp only [← ZmC, List.getElem_drop]
    congr 1
    omega
  rw [h2]
  have h3 : b.drop (i / 8) = b[i / 8] :: b.drop (i / 8 + 1) := List.drop_eq_getElem_cons h1
  simp only [h3, Zop]
  rw [List.getElem_append_left (by rw [Zu]; omega), Zm1]
def ZS (b : List Int) (r : List Bool) : Nat := 8 * b.length - r.length
abbrev X8 (b : List Int) (r : List Bool) : List Int × Int × Unit := (b, ((ZS b r : Nat) : Int), ())
def Zk (b : List Int) (r : List Bool) : Prop := r <:+ Qu b
theorem Zk.len {b : List Int} {r : List Bool} (h : Zk b r) : r.length ≤ 8 * b.length := by
  have := h.length_le
  rwa [QQ] at this
theorem Zk.eq {b : List Int} {r : List Bool} (h : Zk b r) : r = (Qu b).drop (ZS b r) := by
  have := List.suffix_iff_eq_drop.1 h
  unfold ZS
  rwa [QQ] at this
theorem Zk.drop {b : List Int} {r : List Bool} (h : Zk b r) (i : Nat) : Zk b (r.drop i) := (List.drop_suffix i r).trans h
theorem Zk.get {b : List Int} {r : List Bool} (h : Zk b r) {i : Nat} (hi : i < r.length) : (Qu b)[ZS b r + i]'(by have := h.len; rw [QQ]; unfold ZS; omega) = r[i] := by
  have := h.eq
  have h2 : r[i] = ((Qu b).drop (ZS b r))[i]'(by rw [← this]; exact hi) := by congr 1
  rw [h2, List.getElem_drop]
theorem Zec {b : List Int} {r : List Bool} (h : Zk b r) {i : Nat} (hi : i ≤ r.length) : ZS b (r.drop i) = ZS b r + i := by
  have := h.len
  unfold ZS
  rw [List.length_drop]
  omega
theorem Zww (b : List Int) : Zk b (Qu b) := List.suffix_refl _
theorem ZM5 (v : Fin 256) (r : Fin 8) : IntKind.i64.wrap (Int.ofNat (BitVec.ofInt 64 (IntKind.i64.wrap (Int.fdiv (v.val : Int) ((2 : Int) ^ min (7 - r.val) 8))) &&& BitVec.ofInt 64 1).toNat) = if v.val.testBit (7 - r.val) then 1 else 0 := by
  revert v r
  decide +kernel
theorem Zos (k : Nat) {b : List Int} (hb : ZN b = true) (hn : b.length < 536870912) (at_ : Int) {i : Nat} (hi : i < 8 * b.length) :
    Zod k ((b, at_, ()), (i : Int), ()) = some (if (Qu b)[i]'(by rw [QQ]; exact hi) then 1 else 0, (b, at_, ()), ()) := by
  show Zgh k _ = _
  simp only [Zgh]
  rw [Zpd, ZJx, Z8 (n := ((i / 8 : Nat) : Int)) (by omega)]
  have h1 : i / 8 < b.length := by omega
  rw [Zb (by simp only [Int.ofNat_eq_natCast]; omega)]
  have e1 : IntKind.i64.wrap ((7 : Int) - ((i % 8 : Nat) : Int)) = ((7 - i % 8 : Nat) : Int) := by rw [Z8 (by omega)]; omega
  rw [e1, Zb (by omega), ZhU hi]
  obtain ⟨x, hx, hxe⟩ := W6 hb h1
  have hg : b.getD (((i / 8 : Nat) : Int)).toNat 0 = (x : Int) := by rw [Int.toNat_natCast, YG h1, hxe]
  rw [hg, hxe, Int.toNat_natCast, Int.toNat_natCast]
  have := ZM5 ⟨x, hx⟩ ⟨i % 8, Nat.mod_lt _ (by omega)⟩
  simp only at this
  rw [this]
def Zbi (l : List Bool) : Nat := l.foldl (fun a b => 2 * a + b.toNat) 0
theorem Zb4 : ∀ (l : List Bool) (a : Nat), l.foldl (fun a b => 2 * a + b.toNat) a = a * 2 ^ l.length + Zbi l
  | [], a => by simp [Zbi]
  | x :: l, a => by
    unfold Zbi
    rw [List.foldl_cons, List.foldl_cons, Zb4 l (2 * a + x.toNat), Zb4 l (2 * 0 + x.toNat), List.length_cons, Nat.pow_succ]
    rw [Nat.add_mul, Nat.mul_zero, Nat.zero_add, Nat.mul_comm 2 a, Nat.mul_assoc a 2, Nat.mul_comm 2 (2 ^ _)]
    omega
theorem Zh1 : ∀ (l : List Bool), Zbi l < 2 ^ l.length
  | [] => by simp [Zbi]
  | x :: l => by
    have := Zh1 l
    unfold Zbi
    rw [List.foldl_cons, Zb4, List.length_cons, Nat.pow_succ]
    cases x <;> simp <;> omega
def ZM (w : Nat) (r : List Bool) : Nat × Int × List Bool := if w ≤ r.length then (Zbi (r.take w), 0, r.drop w) else (0, 10, r)
theorem Z0 {b : List Int} {r : List Bool} (h : Zk b r) (w : Nat) : Zk b (ZM w r).2.2 := by
  unfold ZM
  split
  · exact h.drop w
  · exact h
theorem ZcQ (w : Nat) (r : List Bool) : (ZM w r).1 < 2 ^ w := by
  unfold ZM
  split
  · rename_i h
    have := Zh1 (r.take w)
    rwa [List.length_take, Nat.min_eq_left h] at this
  · exact Nat.pow_pos (by omega)
theorem ZBT (k : Nat) {b : List Int} (hb : ZN b = true) (hn : b.length < 536870912) : ∀ (w m i v : Nat) (r : List Bool), Zk b r → w ≤ r.length → w < m → i + w ≤ 32 → v < 2 ^ i →
    Zr (fun L1 => Y4 k L1) m (((i + w : Nat) : Int), (i : Int), (v : Int), b, ((ZS b r : Nat) : Int)) = some (((((r.take w).foldl (fun a b => 2 * a + b.toNat) v : Nat) : Int), 0, ()), X8 b (r.drop w), ()) := by
  intro w
  induction w with
  | zero =>
    intro m i v r hr hw hm hi hv
    obtain ⟨m, rfl⟩ := Zt hm
    rw [Zi]
    simp only [Y4]
    rw [Zj (by omega)]
    simp
  | succ w ih =>
    intro m i v r hr hw hm hi hv
    obtain ⟨m, rfl⟩ := Zt (show 0 < m by omega)
    rw [Zi]
    simp only [Y4]
    have hl := hr.len
    have hp : ZS b r < 8 * b.length := by unfold ZS; omega
    rw [Zb (by omega), Zos k hb hn _ hp]
    simp only [Option.bind_some]
    have hg := hr.get (i := 0) (by omega)
    simp only [Nat.add_zero] at hg
    rw [hg]
    have hv2 : v < 2 ^ 32 := Nat.lt_of_lt_of_le hv (Nat.pow_le_pow_right (by omega) (by omega))
    have hcons : r = r[0] :: r.drop 1 := by
      have := List.drop_eq_getElem_cons (l := r) (i := 0) (by omega)
      rwa [List.drop_zero] at this
    have e1 : IntKind.i64.wrap (Int.ofNat (BitVec.ofInt 64 (IntKind.i64.wrap ((v : Int) * 2)) ||| BitVec.ofInt 64 (if r[0] = true then 1 else 0)).toNat) = ((2 * v + r[0].toNat : Nat) : Int) := by
      have h1 : IntKind.i64.wrap ((v : Int) * 2) = ((v * 2 : Nat) : Int) := by rw [Z8 (by omega)]; omega
      have h2 : (if r[0] = true then (1 : Int) else 0) = ((r[0].toNat : Nat) : Int) := by cases r[0] <;> rfl
      have hb1 : r[0].toNat < 2 ^ 1 := by cases r[0] <;> decide
      rw [h1, h2, orN (by omega) (by omega)]
      have := Nat.shiftLeft_add_eq_or_of_lt hb1 v
      rw [Nat.shiftLeft_eq] at this
      rw [show v * 2 = v * 2 ^ 1 from rfl, ← this, Z8 (by omega)]
      omega
    rw [e1]
    have e2 : IntKind.i64.wrap ((i : Int) + 1) = ((i + 1 : Nat) : Int) := by rw [Z8 (by omega)]; rfl
    have e3 : IntKind.i64.wrap (((ZS b r : Nat) : Int) + 1) = ((ZS b (r.drop 1) : Nat) : Int) := by
      rw [Zec hr (by omega), Z8 (by omega)]; rfl
    rw [e2, e3]
    have hp2 : 2 * v + r[0].toNat < 2 ^ (i + 1) := by
      rw [Nat.pow_succ]
      cases r[0] <;> simp <;> omega
    have := ih m (i + 1) (2 * v + r[0].toNat) (r.drop 1) (hr.drop 1) (by rw [List.length_drop]; omega) (by omega) (by omega) hp2
    rw [show i + 1 + w = i + (w + 1) by omega] at this
    rw [this]
    have e4 : (r.drop 1).drop w = r.drop (w + 1) := by rw [List.drop_drop]; congr 1; omega
    have e5 : r.take (w + 1) = r[0] :: (r.drop 1).take w := by
      conv => lhs; rw [hcons]
      rfl
    rw [e4, e5, List.foldl_cons]
theorem Xb (k : Nat) {b : List Int} (hb : ZN b = true) (hn : b.length < 536870912) {r : List Bool} (hr : Zk b r) {w : Nat} (hw : w ≤ 32) (hk : 100 < k) :
    XE k (X8 b r, (w : Int), ()) = some (((((ZM w r).1 : Nat) : Int), (ZM w r).2.1, ()), X8 b (ZM w r).2.2, ()) := by
  show ZcX k (Zlv k) _ = _
  simp only [ZcX]
  rw [ZnV k w hw]
  simp only [Option.bind_some, cond_false]
  have hl := hr.len
  have e1 : Zoz k ((b, ((ZS b r : Nat) : Int), ()), ()) = some ((r.length : Int), (b, ((ZS b r : Nat) : Int), ()), ()) := by
    show Zc0 k _ = _
    simp only [Zc0]
    have : IntKind.i64.wrap (IntKind.i64.wrap ((8 : Int) * Int.ofNat b.length) - ((ZS b r : Nat) : Int)) = (r.length : Int) := by
      unfold ZS
      simp only [Int.ofNat_eq_natCast]
      rw [Z8 (n := (8 : Int) * (b.length : Int)) (by omega), Z8 (by omega)]
      omega
    rw [this]
  rw [e1]
  simp only [Option.bind_some]
  unfold ZM
  by_cases h : w ≤ r.length
  · rw [Zj (by omega), if_pos h]
    have := ZBT k hb hn w k 0 0 r hr h (by omega) (by omega) (by simp)
    rw [Nat.zero_add] at this
    exact this
  · rw [Zb (by omega), if_neg h]
    rfl
def ZNf (w v : Nat) : Int := if 0 < w ∧ 2 ^ (w - 1) ≤ v then (v : Int) - 2 ^ w else v
def WG (w : Nat) (r : List Bool) : Int × Int × List Bool := if w ≤ r.length then (ZNf w (Zbi (r.take w)), 0, r.drop w) else (0, 10, r)
theorem ZbG {b : List Int} {r : List Bool} (h : Zk b r) (w : Nat) : Zk b (WG w r).2.2 := by
  unfold WG
  split
  · exact h.drop w
  · exact h
theorem Zp0 (k : Nat) {b : List Int} (hb : ZN b = true) (hn : b.length < 536870912) {r : List Bool} (hr : Zk b r) {w : Nat} (hw : w ≤ 32) (hk : 100 < k) :
    Zii k (X8 b r, (w : Int), ()) = some (((WG w r).1, (WG w r).2.1, ()), X8 b (WG w r).2.2, ()) := by
  show Zd6 k _ = _
  simp only [Zd6]
  rw [Xb k hb hn hr hw hk]
  simp only [Option.bind_some]
  unfold ZM WG
  by_cases h : w ≤ r.length
  · rw [if_pos h, if_pos h]
    simp only
    rw [show ((0 : Int) == 0) = true from rfl]
    simp only [cond_true]
    have hlt := Zh1 (r.take w)
    rw [List.length_take, Nat.min_eq_left h] at hlt
    generalize Zbi (r.take w) = v at hlt
    unfold ZNf
    by_cases h0 : 0 < w
    · have e1 : IntKind.i64.wrap ((w : Int) - 1) = ((w - 1 : Nat) : Int) := by rw [Z8 (by omega)]; omega
      rw [Zb (by omega), e1, Zb (by omega), Int.toNat_natCast, Nat.min_eq_left (by omega), Zct, ZI]
      have hpw : 2 ^ w = 2 * 2 ^ (w - 1) := by rw [show w = (w - 1) + 1 by omega, Nat.pow_succ, Nat.add_sub_cancel]; omega
      have hq : v / 2 ^ (w - 1) = if 2 ^ (w - 1) ≤ v then 1 else 0 := by
        split
        · rename_i hle
          rw [Nat.div_eq_iff (Nat.pow_pos (by omega))]
          omega
        · rename_i hle
          exact Nat.div_eq_of_lt (by omega)
      rw [hq]
      have h32 : 2 ^ w ≤ 2 ^ 32 := Nat.pow_le_pow_right (by omega) hw
      by_cases hle : 2 ^ (w - 1) ≤ v
      · rw [if_pos hle, Zb (show ((1 : Nat) : Int) = 1 from rfl), if_pos ⟨h0, hle⟩, Zb (by omega), Nat.min_eq_left (by omega : ((w : Int)).toNat ≤ 64), Int.toNat_natCast, Int.one_mul, Wq]
        generalize 2 ^ w = Q at h32 hlt ⊢
        rw [Z8 (n := (Q : Int)) (by omega), Z8 (by omega)]
      · rw [if_neg hle, Zj (by omega), if_neg (by omega)]
    · rw [Zj (by omega), if_neg (by omega)]
  · rw [if_neg h, if_neg h]
    rfl
end Go.Sh
namespace Go.Sh
open Go Go.Proofs
def Zi8 : Nat → List Bool → Option (Nat × List Bool)
  | _, [] => none
  | n, true :: r => some (n, r)
  | n, false :: r => Zi8 (n + 1) r
def unS (r : List Bool) : Nat × Int × List Bool := match Zi8 0 r with
  | some (n, r') => (n, 0, r')
  | none => (0, 10, r)
theorem Za6 : ∀ (r : List Bool) (n m : Nat) (r' : List Bool), Zi8 n r = some (m, r') → r' <:+ r ∧ m + 1 + r'.length = n + r.length
  | true :: r, n, m, r', h => by
    simp only [Zi8, Option.some.injEq, Prod.mk.injEq] at h
    obtain ⟨rfl, rfl⟩ := h
    exact ⟨List.suffix_cons _ _, by simp; omega⟩
  | false :: r, n, m, r', h => by
    obtain ⟨h1, h2⟩ := Za6 r (n + 1) m r' h
    exact ⟨h1.trans (List.suffix_cons _ _), by simp; omega⟩
theorem Zau {b : List Int} {r : List Bool} (h : Zk b r) : Zk b (unS r).2.2 := by
  unfold unS
  split
  · rename_i n r' hu
    exact (Za6 r 0 n r' hu).1.trans h
  · exact h
theorem ZCv {r : List Bool} : (unS r).1 ≤ r.length := by
  unfold unS
  split
  · rename_i n r' hu
    have := (Za6 r 0 n r' hu).2
    simp only
    omega
  · exact Nat.zero_le _
theorem ZCj (k : Nat) {b : List Int} (hb : ZN b = true) (hn : b.length < 536870912) {r0 : List Bool} (hr0 : Zk b r0) : ∀ (r : List Bool) (m n : Nat), Zk b r → r.length < m → n + r.length = r0.length →
    Zr (fun L1 => Y0 k L1) m (((ZS b r : Nat) : Int), b, ((ZS b r0 : Nat) : Int)) = some (((match Zi8 n r with | some (n, r') => (n : Int) | none => 0), (match Zi8 n r with | some (n, r') => 0 | none => 10), ()), X8 b (match Zi8 n r with | some (n, r') => r' | none => r0), ()) := by
  intro r
  induction r with
  | nil =>
    intro m n hr hm hl
    obtain ⟨m, rfl⟩ := Zt hm
    rw [Zi]
    simp only [Y0]
    have e1 : IntKind.i64.wrap ((8 : Int) * Int.ofNat b.length) = ((8 * b.length : Nat) : Int) := by simp only [Int.ofNat_eq_natCast]; rw [Z8 (by omega)]; omega
    rw [e1, Zj (by unfold ZS; simp)]
    rfl
  | cons x r ih =>
    intro m n hr hm hl
    obtain ⟨m, rfl⟩ := Zt (show 0 < m by omega)
    rw [Zi]
    simp only [Y0]
    have e1 : IntKind.i64.wrap ((8 : Int) * Int.ofNat b.length) = ((8 * b.length : Nat) : Int) := by simp only [Int.ofNat_eq_natCast]; rw [Z8 (by omega)]; omega
    have hlen := hr.len
    have hlen0 := hr0.len
    simp only [List.length_cons] at hlen hl hm
    have hp : ZS b (x :: r) < 8 * b.length := by unfold ZS; simp only [List.length_cons]; omega
    rw [e1, Zb (by omega), Zos k hb hn _ hp]
    simp only [Option.bind_some]
    have hg := hr.get (i := 0) (by simp)
    simp only [Nat.add_zero, List.getElem_cons_zero] at hg
    rw [hg]
    have e2 : IntKind.i64.wrap (((ZS b (x :: r) : Nat) : Int) + 1) = ((ZS b r : Nat) : Int) := by
      have := Zec hr (i := 1) (by simp)
      rw [List.drop_one, List.tail_cons] at this
      rw [this, Z8 (by omega)]; rfl
    have hr' : Zk b r := by have := hr.drop 1; rwa [List.drop_one, List.tail_cons] at this
    rw [e2, ZI]
    cases x with
    | true =>
      rw [if_pos rfl, Zb rfl]
      have e3 : IntKind.i64.wrap (((ZS b (true :: r) : Nat) : Int) - ((ZS b r0 : Nat) : Int)) = (n : Int) := by
        unfold ZS at hp ⊢
        simp only [List.length_cons] at hp ⊢
        rw [Z8 (by omega)]
        omega
      rw [e3]
      rfl
    | false =>
      rw [if_neg (by simp), Zj (by omega)]
      exact ih m (n + 1) hr' (by omega) (by omega)
theorem Zpo (k : Nat) {b : List Int} (hb : ZN b = true) (hn : b.length < 536870912) {r : List Bool} (hr : Zk b r) (hk : 8 * b.length < k) :
    Ze3 k (X8 b r, ()) = some (((((unS r).1 : Nat) : Int), (unS r).2.1, ()), X8 b (unS r).2.2, ()) := by
  show Zdj k (Zlg k) _ = _
  simp only [Zdj]
  have hl := hr.len
  refine (ZCj k hb hn hr r k 0 hr (by omega) (by omega)).trans ?_
  unfold unS
  cases Zi8 0 r with
  | none => rfl
  | some x => rfl
def alS (r : List Bool) : Int × List Bool := if (r.take (r.length % 8)).all (fun x => !x) then (0, r.drop (r.length % 8)) else (2, r)
theorem ZFZ {b : List Int} {r : List Bool} (h : Zk b r) : Zk b (alS r).2 := by
  unfold alS
  split
  · exact h.drop _
  · exact h
theorem up8 {n : Nat} (h : n < 4294967296) : IntKind.i64.wrap (Int.ofNat (BitVec.ofInt 64 (IntKind.i64.wrap ((n : Int) + 7)) &&& ~~~BitVec.ofInt 64 7).toNat) = (((n + 7) / 8 * 8 : Nat) : Int) := by
  rw [Z8 (n := (n : Int) + 7) (by omega), show (n : Int) + 7 = ((n + 7 : Nat) : Int) from rfl]
  have e : (BitVec.ofInt 64 ((n + 7 : Nat) : Int) &&& ~~~BitVec.ofInt 64 7).toNat = (n + 7) / 8 * 8 := by
    have h1 : BitVec.ofInt 64 ((n + 7 : Nat) : Int) &&& ~~~BitVec.ofInt 64 7 = ((BitVec.ofNat 64 (n + 7)) >>> 3) <<< 3 := by
      rw [BitVec.ofInt_natCast, show ~~~BitVec.ofInt 64 7 = BitVec.ofNat 64 18446744073709551608 from by decide]
      apply BitVec.eq_of_getLsbD_eq
      intro i hi
      simp only [BitVec.getLsbD_and, BitVec.getLsbD_shiftLeft, BitVec.getLsbD_ushiftRight]
      have hm := (by decide +kernel : ∀ j : Fin 64, (BitVec.ofNat 64 18446744073709551608).getLsbD j.val = decide (3 ≤ j.val)) ⟨i, hi⟩
      simp only at hm
      rw [hm]
      by_cases h3 : 3 ≤ i
      · rw [decide_eq_true h3, Bool.and_true, show 3 + (i - 3) = i by omega]
        simp [hi]
        omega
      · rw [decide_eq_false h3, Bool.and_false]
        simp
        omega
    rw [h1, BitVec.toNat_shiftLeft, BitVec.toNat_ushiftRight, BitVec.toNat_ofNat, Nat.shiftRight_eq_div_pow, Nat.shiftLeft_eq, Nat.mod_eq_of_lt (by omega), Nat.mod_eq_of_lt (by omega)]
  rw [e, Z8 (by simp only [Int.ofNat_eq_natCast]; omega)]
  rfl
theorem ZFL (k : Nat) {b : List Int} (hb : ZN b = true) (hn : b.length < 536870912) {r0 : List Bool} : ∀ (p m : Nat) (r : List Bool), Zk b r → p ≤ r.length → p < m →
    Zr (fun L1 => ZaD k L1) m (((ZS b r : Nat) : Int), ((ZS b r + p : Nat) : Int), b, ((ZS b r0 : Nat) : Int)) = some (if (r.take p).all (fun x => !x) then (0, X8 b (r.drop p), ()) else (2, X8 b r0, ())) := by
  intro p
  induction p with
  | zero =>
    intro m r hr hp hm
    obtain ⟨m, rfl⟩ := Zt hm
    rw [Zi]
    simp only [ZaD]
    rw [Zj (by omega)]
    simp
  | succ p ih =>
    intro m r hr hp hm
    obtain ⟨m, rfl⟩ := Zt (show 0 < m by omega)
    rw [Zi]
    simp only [ZaD]
    have hlen := hr.len
    have hpos : ZS b r < 8 * b.length := by unfold ZS; omega
    rw [Zb (by omega), Zos k hb hn _ hpos]
    simp only [Option.bind_some]
    have hg := hr.get (i := 0) (by omega)
    simp only [Nat.add_zero] at hg
    rw [hg, ZI]
    have hcons : r = r[0] :: r.drop 1 := by
      have := List.drop_eq_getElem_cons (l := r) (i := 0) (by omega)
      rwa [List.drop_zero] at this
    have e5 : r.take (p + 1) = r[0] :: (r.drop 1).take p := by
      conv => lhs; rw [hcons]
      rfl
    rw [e5, List.all_cons]
    cases hx : r[0] with
    | true =>
      rw [if_pos rfl, Zb rfl]
      simp
    | false =>
      rw [if_neg (by simp), Zj (by omega)]
      have e3 : IntKind.i64.wrap (((ZS b r : Nat) : Int) + 1) = ((ZS b (r.drop 1) : Nat) : Int) := by
        rw [Zec hr (by omega), Z8 (by omega)]; rfl
      have e4 : ZS b r + (p + 1) = ZS b (r.drop 1) + p := by rw [Zec hr (by omega)]; omega
      rw [e3, e4, ih m (r.drop 1) (hr.drop 1) (by rw [List.length_drop]; omega) (by omega)]
      have e6 : (r.drop 1).drop p = r.drop (p + 1) := by rw [List.drop_drop]; congr 1; omega
      rw [e6]
      simp only [Bool.not_false, Bool.true_and]
theorem ZFS (k : Nat) {b : List Int} (hb : ZN b = true) (hn : b.length < 536870912) {r : List Bool} (hr : Zk b r) (hk : 10 < k) :
    Zvm k (X8 b r, ()) = some ((alS r).1, X8 b (alS r).2, ()) := by
  show ZgW k (ZrL k) _ = _
  simp only [ZgW]
  have hlen := hr.len
  have hp : ZS b r ≤ 8 * b.length := by unfold ZS; omega
  rw [up8 (by omega)]
  have e : (ZS b r + 7) / 8 * 8 = ZS b r + r.length % 8 := by unfold ZS; omega
  rw [e]
  refine (ZFL k hb hn (r.length % 8) k r hr (Nat.mod_le _ _) (by omega)).trans ?_
  unfold alS
  split <;> rfl
def Zsw (f : Nat) : Int := if f % 2 = 1 then -((f : Int) + 1) / 2 else (f : Int) / 2
theorem ZAo (k : Nat) {f : Nat} (h : f < 4294967296) : ZnC k ((f : Int), ()) = some ((Zsw f, 0, ()), ()) := by
  show ZcL k _ = _
  simp only [ZcL]
  rw [Zj (by omega), Zj (by omega), show (1 : Int) = ((1 : Nat) : Int) from rfl, ZCh (by omega) (by omega), Nat.and_one_is_mod, Z8 (n := ((f % 2 : Nat) : Int)) (by omega)]
  have hd : ((f : Nat) : Int).fdiv 2 = ((f / 2 : Nat) : Int) := by rw [Int.fdiv_eq_ediv_of_nonneg _ (by omega)]; rfl
  rw [hd]
  unfold Zsw
  by_cases h1 : f % 2 = 1
  · rw [if_pos h1, h1, show IntKind.i64.wrap ((0 : Int) - ((1 : Nat) : Int)) = -1 from rfl, show BitVec.ofInt 64 (-1) = BitVec.allOnes 64 from by decide, BitVec.xor_allOnes, BitVec.toNat_not, ZvZ (by omega)]
    have e2 : IntKind.i64.wrap (Int.ofNat (2 ^ 64 - 1 - f / 2)) = -((f : Int) + 1) / 2 := by
      simp only [Int.ofNat_eq_natCast]
      rw [IntKind.wrap_i64]
      omega
    rw [e2]
  · rw [if_neg h1, show f % 2 = 0 by omega, show IntKind.i64.wrap ((0 : Int) - ((0 : Nat) : Int)) = 0 from rfl, show BitVec.ofInt 64 0 = 0#64 from rfl, BitVec.xor_zero, ZvZ (by omega)]
    rw [Z8 (by simp only [Int.ofNat_eq_natCast]; omega)]
    rfl
def ZcG (kk : Nat) (r : List Bool) : Int × Int × List Bool :=
  if (unS r).2.1 ≠ 0 then (0, (unS r).2.1, (unS r).2.2)
  else if (ZM kk (unS r).2.2).2.1 ≠ 0 then (0, (ZM kk (unS r).2.2).2.1, (ZM kk (unS r).2.2).2.2)
  else if 4294967295 ≤ (unS r).1 * 2 ^ kk + (ZM kk (unS r).2.2).1 then (0, 12, (ZM kk (unS r).2.2).2.2)
  else (Zsw ((unS r).1 * 2 ^ kk + (ZM kk (unS r).2.2).1), 0, (ZM kk (unS r).2.2).2.2)
theorem Zpv {b : List Int} {r : List Bool} (h : Zk b r) (kk : Nat) : Zk b (ZcG kk r).2.2 := by
  unfold ZcG
  split
  · exact Zau h
  · split
    · exact Z0 (Zau h) kk
    · split
      · exact Z0 (Zau h) kk
      · exact Z0 (Zau h) kk
theorem ZKD {q d kk : Nat} (hq : q < 4294967296) (hk : kk ≤ 30) (hd : d < 2 ^ kk) : IntKind.i64.wrap (Int.ofNat (BitVec.ofInt 64 (IntKind.i64.wrap ((q : Int) * (2 : Int) ^ min ((kk : Int)).toNat 64)) ||| BitVec.ofInt 64 (d : Int)).toNat) = ((q * 2 ^ kk + d : Nat) : Int) := by
  have h1 : 2 ^ kk ≤ 2 ^ 30 := Nat.pow_le_pow_right (by omega) hk
  have h2 : q * 2 ^ kk ≤ 4294967295 * 1073741824 := Nat.mul_le_mul (by omega) (by omega)
  rw [Int.toNat_natCast, Nat.min_eq_left (by omega), Wq, ← Int.natCast_mul]
  have h3 := Nat.shiftLeft_add_eq_or_of_lt hd q
  rw [Nat.shiftLeft_eq] at h3
  rw [Z8 (n := ((q * 2 ^ kk : Nat) : Int)) (by generalize q * 2 ^ kk = X at h2; omega), orN (by generalize q * 2 ^ kk = X at h2; omega) (by omega), ← h3]
  generalize q * 2 ^ kk = X at h2 ⊢
  rw [Z8 (by omega)]
theorem ZB6 (k : Nat) {b : List Int} (hb : ZN b = true) (hn : b.length < 268435456) {r : List Bool} (hr : Zk b r) {kk : Nat} (hkk : kk ≤ 30) (hk : 8 * b.length + 100 < k) :
    ZnU k (X8 b r, (kk : Int), ()) = some (((ZcG kk r).1, (ZcG kk r).2.1, ()), X8 b (ZcG kk r).2.2, ()) := by
  show Zdm k _ = _
  simp only [Zdm]
  rw [Zpo k hb (by omega) hr (by omega)]
  simp only [Option.bind_some]
  unfold ZcG
  have hu := ZCv (r := r)
  have hl := hr.len
  rw [ZT]
  by_cases h1 : (unS r).2.1 = 0
  · rw [Zj (by simpa using h1), if_neg (by simpa using h1), Xb k hb (by omega) (Zau hr) (by omega) (by omega)]
    simp only [Option.bind_some]
    rw [ZT]
    by_cases h2 : (ZM kk (unS r).2.2).2.1 = 0
    · rw [Zj (by simpa using h2), if_neg (by simpa using h2), Zb (by omega), ZKD (by omega) hkk (ZcQ kk _)]
      by_cases h3 : 4294967295 ≤ (unS r).1 * 2 ^ kk + (ZM kk (unS r).2.2).1
      · rw [Zb (by omega), if_pos h3]
      · rw [Zj (by omega), if_neg h3, ZAo k (by omega)]
        rfl
    · rw [Zb h2, if_pos h2]
  · rw [Zb h1, if_pos h1]
end Go.Sh
namespace Go.Sh
open Go Go.Proofs
abbrev ZDz := List Bool → Int × Int × List Bool
def Kp (one : ZDz) : Nat → List Bool → List Int → List Int × Int × List Bool
  | 0, r, acc => (acc, 0, r)
  | n + 1, r, acc => if (one r).2.1 ≠ 0 then ([], (one r).2.1, (one r).2.2) else Kp one n (one r).2.2 (acc ++ [(one r).1])
theorem ZeY {b : List Int} {one : ZDz} (h1 : ∀ r, Zk b r → Zk b (one r).2.2) : ∀ (n : Nat) (r : List Bool) (acc : List Int), Zk b r → Zk b (Kp one n r acc).2.2
  | 0, r, acc, h => h
  | n + 1, r, acc, h => by
    unfold Kp
    split
    · exact h1 r h
    · exact ZeY h1 n _ _ (h1 r h)
theorem Zh3 {one : ZDz} : ∀ (n : Nat) (r : List Bool) (acc : List Int), (Kp one n r acc).1.length ≤ acc.length + n
  | 0, r, acc => Nat.le_refl _
  | n + 1, r, acc => by
    unfold Kp
    split
    · simp
    · have := Zh3 (one := one) n (one r).2.2 (acc ++ [(one r).1])
      rw [List.length_append, List.length_singleton] at this
      omega
theorem ZHK (k : Nat) (L2 : Int × Int × List Int × Int × Int × List Int → Option ((List Int × Int × Unit) × (List Int × Int × Unit) × Unit)) {b : List Int} (hb : ZN b = true) (hn : b.length < 268435456) (hk : 8 * b.length + 100 < k) {w : Nat} (hw : w ≤ 32) :
    ∀ (d m i : Nat) (r : List Bool) (acc : List Int), Zk b r → d < m → i + d ≤ 4096 → acc.length ≤ i →
    Zr (fun L1 => YV k L1) m (((i + d : Nat) : Int), (i : Int), b, ((ZS b r : Nat) : Int), (w : Int), acc) = some (((Kp (WG w) d r acc).1, (Kp (WG w) d r acc).2.1, ()), X8 b (Kp (WG w) d r acc).2.2, ()) := by
  intro d
  induction d with
  | zero =>
    intro m i r acc hr hm hi ha
    obtain ⟨m, rfl⟩ := Zt hm
    rw [Zi]
    simp only [YV]
    rw [Zj (by omega)]
    rfl
  | succ d ih =>
    intro m i r acc hr hm hi ha
    obtain ⟨m, rfl⟩ := Zt (show 0 < m by omega)
    rw [Zi]
    simp only [YV]
    have e : Zoy k (((b, ((ZS b r : Nat) : Int), ()), ()), ((w : Int), ()), ()) = some (((WG w r).1, (WG w r).2.1, ()), ((X8 b (WG w r).2.2), ()), ((w : Int), ()), ()) := by
      show ZdJ k _ = _
      simp only [ZdJ]
      rw [Zp0 k hb (by omega) hr hw (by omega)]
      rfl
    rw [Zb (by omega), e]
    simp only [Option.bind_some]
    unfold Kp
    rw [ZT]
    by_cases h : (WG w r).2.1 = 0
    · rw [Zj (by simpa using h), Zb (by simp only [List.length_singleton]; omega), if_neg (by simpa using h)]
      have e2 : IntKind.i64.wrap ((i : Int) + 1) = ((i + 1 : Nat) : Int) := by rw [Z8 (by omega)]; rfl
      rw [e2]
      have := ih m (i + 1) (WG w r).2.2 (acc ++ [(WG w r).1]) (ZbG hr w) (by omega) (by omega) (by simp; omega)
      rw [show i + 1 + d = i + (d + 1) by omega] at this
      exact this
    · rw [Zb h, if_pos h]
theorem ZF9 (k : Nat) {b : List Int} (hb : ZN b = true) (hn : b.length < 268435456) (hk : 8 * b.length + 100 < k) {w : Nat} (hw : w ≤ 30) :
    ∀ (d m i : Nat) (r : List Bool) (acc : List Int), Zk b r → d < m → i + d ≤ 4096 → acc.length ≤ i →
    Zr (fun L2 => Y3 k L2) m (((i + d : Nat) : Int), (i : Int), b, ((ZS b r : Nat) : Int), (w : Int), acc) = some (((Kp (ZcG w) d r acc).1, (Kp (ZcG w) d r acc).2.1, ()), X8 b (Kp (ZcG w) d r acc).2.2, ()) := by
  intro d
  induction d with
  | zero =>
    intro m i r acc hr hm hi ha
    obtain ⟨m, rfl⟩ := Zt hm
    rw [Zi]
    simp only [Y3]
    rw [Zj (by omega)]
    rfl
  | succ d ih =>
    intro m i r acc hr hm hi ha
    obtain ⟨m, rfl⟩ := Zt (show 0 < m by omega)
    rw [Zi]
    simp only [Y3]
    have e : Zoa k (((b, ((ZS b r : Nat) : Int), ()), ()), ((w : Int), ()), ()) = some (((ZcG w r).1, (ZcG w r).2.1, ()), ((X8 b (ZcG w r).2.2), ()), ((w : Int), ()), ()) := by
      show ZdC k _ = _
      simp only [ZdC]
      rw [ZB6 k hb (by omega) hr hw (by omega)]
      rfl
    rw [Zb (by omega), e]
    simp only [Option.bind_some]
    unfold Kp
    rw [ZT]
    by_cases h : (ZcG w r).2.1 = 0
    · rw [Zj (by simpa using h), Zb (by simp only [List.length_singleton]; omega), if_neg (by simpa using h)]
      have e2 : IntKind.i64.wrap ((i : Int) + 1) = ((i + 1 : Nat) : Int) := by rw [Z8 (by omega)]; rfl
      rw [e2]
      have := ih m (i + 1) (ZcG w r).2.2 (acc ++ [(ZcG w r).1]) (Zpv hr w) (by omega) (by omega) (by simp; omega)
      rw [show i + 1 + d = i + (d + 1) by omega] at this
      exact this
    · rw [Zb h, if_pos h]
def XO (m count : Nat) (r : List Bool) : List Int × Int × List Bool :=
  if (ZM (4 + m) r).2.1 ≠ 0 then ([], (ZM (4 + m) r).2.1, (ZM (4 + m) r).2.2)
  else if (ZM (4 + m) r).1 = WW m then
    (if (ZM 5 (ZM (4 + m) r).2.2).2.1 ≠ 0 then ([], (ZM 5 (ZM (4 + m) r).2.2).2.1, (ZM 5 (ZM (4 + m) r).2.2).2.2)
     else Kp (WG (ZM 5 (ZM (4 + m) r).2.2).1) count (ZM 5 (ZM (4 + m) r).2.2).2.2 [])
  else Kp (ZcG (ZM (4 + m) r).1) count (ZM (4 + m) r).2.2 []
theorem Ze0 {b : List Int} {r : List Bool} (h : Zk b r) (m count : Nat) : Zk b (XO m count r).2.2 := by
  unfold XO
  split
  · exact Z0 h _
  · split
    · split
      · exact Z0 (Z0 h _) _
      · exact ZeY (fun r h => ZbG h _) _ _ _ (Z0 (Z0 h _) _)
    · exact ZeY (fun r h => Zpv h _) _ _ _ (Z0 h _)
theorem Zqc (m count : Nat) (r : List Bool) : (XO m count r).1.length ≤ count := by
  unfold XO
  split
  · simp
  · split
    · split
      · simp
      · have := Zh3 (one := WG (ZM 5 (ZM (4 + m) r).2.2).1) count (ZM 5 (ZM (4 + m) r).2.2).2.2 []
        simpa using this
    · have := Zh3 (one := ZcG (ZM (4 + m) r).1) count (ZM (4 + m) r).2.2 []
      simpa using this
theorem ZAw (k : Nat) {b : List Int} (hb : ZN b = true) (hn : b.length < 268435456) {r : List Bool} (hr : Zk b r) (hk : 8 * b.length + 5000 < k) {m count : Nat} (hm : m = 0 ∨ m = 1) (hc : count ≤ 4096) :
    ZeH k (X8 b r, (m : Int), (count : Int), ()) = some (((XO m count r).1, (XO m count r).2.1, ()), X8 b (XO m count r).2.2, ()) := by
  show ZdF k (ZkB k) (Zge k) _ = _
  simp only [ZdF]
  have hmi : (m : Int) = 0 ∨ (m : Int) = 1 := by omega
  rw [ZJ1, Ziz k hmi]
  simp only [Option.bind_some]
  have e4 : (4 : Int) + (m : Int) = ((4 + m : Nat) : Int) := rfl
  rw [e4, Xb k hb (by omega) hr (by omega) (by omega)]
  simp only [Option.bind_some]
  unfold XO
  have hlt := ZcQ (4 + m) r
  rw [ZT]
  by_cases h1 : (ZM (4 + m) r).2.1 = 0
  · rw [Zj (by simpa using h1), if_neg (by simpa using h1), ZCn, Za0 k hmi]
    simp only [Option.bind_some]
    rw [ZI]
    by_cases h2 : (ZM (4 + m) r).1 = WW m
    · rw [Zb (by omega), if_pos h2, show (5 : Int) = ((5 : Nat) : Int) from rfl, Xb k hb (by omega) (Z0 hr _) (by omega) (by omega)]
      simp only [Option.bind_some]
      rw [ZT]
      by_cases h3 : (ZM 5 (ZM (4 + m) r).2.2).2.1 = 0
      · rw [Zj (by simpa using h3), if_neg (by simpa using h3)]
        have hlt5 := ZcQ 5 (ZM (4 + m) r).2.2
        have := ZHK k (Zge k) hb hn (by omega) (w := (ZM 5 (ZM (4 + m) r).2.2).1) (by omega) count k 0 (ZM 5 (ZM (4 + m) r).2.2).2.2 [] (Z0 (Z0 hr _) _) (by omega) (by omega) (by simp)
        rw [Nat.zero_add] at this
        exact this
      · rw [Zb h3, if_pos h3]
    · rw [Zj (by omega), if_neg h2]
      have h30 : (ZM (4 + m) r).1 ≤ 30 := by
        rcases hm with rfl | rfl
        · have : (ZM (4 + 0) r).1 < 16 := hlt
          omega
        · have h32 : (ZM (4 + 1) r).1 < 32 := hlt
          have : WW (1 : Nat) = 31 := rfl
          omega
      have := ZF9 k hb hn (by omega) h30 count k 0 (ZM (4 + m) r).2.2 [] (Z0 hr _) (by omega) (by omega) (by simp)
      rw [Nat.zero_add] at this
      exact this
  · rw [Zb h1, if_pos h1]
def Wv (m n o p : Nat) : Nat → Nat → List Bool → List Int → List Int × Int × List Bool
  | 0, _, r, acc => (acc, 0, r)
  | d + 1, i, r, acc => if (XO m (n / 2 ^ p - if i = 0 then o else 0) r).2.1 ≠ 0 then ([], (XO m (n / 2 ^ p - if i = 0 then o else 0) r).2.1, (XO m (n / 2 ^ p - if i = 0 then o else 0) r).2.2)
    else Wv m n o p d (i + 1) (XO m (n / 2 ^ p - if i = 0 then o else 0) r).2.2 (acc ++ (XO m (n / 2 ^ p - if i = 0 then o else 0) r).1)
theorem Zgw {b : List Int} {m n o p : Nat} : ∀ (d i : Nat) (r : List Bool) (acc : List Int), Zk b r → Zk b (Wv m n o p d i r acc).2.2
  | 0, _, r, acc, h => h
  | d + 1, i, r, acc, h => by
    unfold Wv
    generalize (n / 2 ^ p - if i = 0 then o else 0) = cnt
    split
    · exact Ze0 h _ _
    · exact Zgw d (i + 1) _ _ (Ze0 h _ _)
theorem ZA6 (k : Nat) {b : List Int} (hb : ZN b = true) (hn : b.length < 268435456) (hk : 8 * b.length + 5000 < k) {m n o p : Nat} (hm : m = 0 ∨ m = 1) (hnn : n ≤ 512) (hp : p ≤ 15) (ho : o ≤ n / 2 ^ p) :
    ∀ (d j i : Nat) (r : List Bool) (acc : List Int), Zk b r → d < j → i + d ≤ 32768 → acc.length ≤ i * 512 →
    Zr (fun L1 => XR k L1) j (((i + d : Nat) : Int), (i : Int), (n : Int), (p : Int), (o : Int), (m : Int), b, ((ZS b r : Nat) : Int), acc) = some (((Wv m n o p d i r acc).1, (Wv m n o p d i r acc).2.1, ()), X8 b (Wv m n o p d i r acc).2.2, ()) := by
  intro d
  have hdiv : n / 2 ^ p ≤ n := Nat.div_le_self _ _
  induction d with
  | zero =>
    intro j i r acc hr hj hi ha
    obtain ⟨j, rfl⟩ := Zt hj
    rw [Zi]
    simp only [XR]
    rw [Zj (by omega)]
    rfl
  | succ d ih =>
    intro j i r acc hr hj hi ha
    obtain ⟨j, rfl⟩ := Zt (show 0 < j by omega)
    rw [Zi]
    simp only [XR, Int.toNat_natCast, Nat.min_eq_left (show p ≤ 64 by omega), Zct]
    have e2 : IntKind.i64.wrap ((i : Int) + 1) = ((i + 1 : Nat) : Int) := by rw [Z8 (by omega)]; rfl
    have e3 : IntKind.i64.wrap (((n / 2 ^ p : Nat) : Int) - (o : Int)) = ((n / 2 ^ p - o : Nat) : Int) := by generalize n / 2 ^ p = q at hdiv ho ⊢; rw [Z8 (by omega)]; omega
    have fin : ∀ cnt : Nat, cnt = (n / 2 ^ p - if i = 0 then o else 0) → ((ZeH k ((b, ((ZS b r : Nat) : Int), ()), (m : Int), (cnt : Int), ())).bind fun y => bif y.1.2.1 != (0 : Int) then some (([], y.1.2.1, ()), (y.2.1.1, y.2.1.2.1, ()), ()) else bif decide (acc.length + List.length y.1.1 < (2147483648 : Nat)) then Zr (fun L1 => XR k L1) j (((i + (d + 1) : Nat) : Int), IntKind.i64.wrap ((i : Int) + 1), (n : Int), (p : Int), (o : Int), (m : Int), y.2.1.1, y.2.1.2.1, acc ++ y.1.1) else none) =
        some (((Wv m n o p (d + 1) i r acc).1, (Wv m n o p (d + 1) i r acc).2.1, ()), X8 b (Wv m n o p (d + 1) i r acc).2.2, ()) := by
      intro cnt hcnt
      have hcl : cnt ≤ 512 := by omega
      refine (Zg (ZAw k hb hn hr hk hm (by omega)) _).trans ?_
      simp only
      unfold Wv
      rw [← hcnt, ZT]
      have hlen := Zqc m cnt r
      by_cases h : (XO m cnt r).2.1 = 0
      · rw [Zj (by simpa using h), Zb (by omega), if_neg (by simpa using h), e2]
        have := ih j (i + 1) (XO m cnt r).2.2 (acc ++ (XO m cnt r).1) (Ze0 hr _ _) (by omega) (by omega) (by rw [List.length_append]; omega)
        rw [show i + 1 + d = i + (d + 1) by omega] at this
        exact this
      · rw [Zb h, if_pos h]
    rw [Zb (by omega), Zb (by omega), ZI]
    by_cases h0 : i = 0
    · rw [Zb (by omega), e3]
      exact fin _ (by rw [if_pos h0])
    · rw [Zj (by omega)]
      exact fin _ (by rw [if_neg h0, Nat.sub_zero])
def YA (n o : Nat) (r : List Bool) : List Int × Int × List Bool :=
  if ZbE n o = false then ([], 1, r)
  else if (ZM 2 r).2.1 ≠ 0 then ([], (ZM 2 r).2.1, (ZM 2 r).2.2)
  else if 1 < (ZM 2 r).1 then ([], 2, (ZM 2 r).2.2)
  else if (ZM 4 (ZM 2 r).2.2).2.1 ≠ 0 then ([], (ZM 4 (ZM 2 r).2.2).2.1, (ZM 4 (ZM 2 r).2.2).2.2)
  else if Zej n o (ZM 4 (ZM 2 r).2.2).1 = false then ([], 2, (ZM 4 (ZM 2 r).2.2).2.2)
  else Wv (ZM 2 r).1 n o (ZM 4 (ZM 2 r).2.2).1 (2 ^ (ZM 4 (ZM 2 r).2.2).1) 0 (ZM 4 (ZM 2 r).2.2).2.2 []
theorem ZmJ {b : List Int} {r : List Bool} (h : Zk b r) (n o : Nat) : Zk b (YA n o r).2.2 := by
  unfold YA
  repeat' split
  all_goals first | exact h | exact Z0 h _ | exact Z0 (Z0 h _) _ | exact Zgw _ _ _ _ (Z0 (Z0 h _) _)
theorem ZBr (k : Nat) {b : List Int} (hb : ZN b = true) (hn : b.length < 268435456) {r : List Bool} (hr : Zk b r) (hk : 8 * b.length + 50000 < k) (n o : Nat) :
    K9 k (X8 b r, (n : Int), (o : Int), ()) = some (((YA n o r).1, (YA n o r).2.1, ()), X8 b (YA n o r).2.2, ()) := by
  show Zeb k (Zk9 k) _ = _
  simp only [Zeb]
  rw [Zpq]
  simp only [Option.bind_some]
  unfold YA
  cases hbl : ZbE n o with
  | false => rfl
  | true =>
    have hbb := of_decide_eq_true hbl
    simp only [Bool.not_true, cond_false, Bool.true_eq_false, if_false]
    have g2 : XE k (X8 b r, 2, ()) = _ := Xb k hb (by omega) hr (w := 2) (by omega) (by omega)
    rw [g2]
    simp only [Option.bind_some]
    rw [ZT]
    have hlt2 := ZcQ 2 r
    by_cases h1 : (ZM 2 r).2.1 = 0
    · rw [Zj (by simpa using h1), if_neg (by simpa using h1)]
      by_cases h2 : 1 < (ZM 2 r).1
      · rw [Zb (by omega), if_pos h2]
      · have g4 : XE k (X8 b (ZM 2 r).2.2, 4, ()) = _ := Xb k hb (by omega) (Z0 hr _) (w := 4) (by omega) (by omega)
        rw [Zj (by omega), if_neg h2, g4]
        simp only [Option.bind_some]
        rw [ZT]
        have hlt4 := ZcQ 4 (ZM 2 r).2.2
        by_cases h3 : (ZM 4 (ZM 2 r).2.2).2.1 = 0
        · rw [Zj (by simpa using h3), if_neg (by simpa using h3), ZpT k (by omega) (by omega)]
          simp only [Option.bind_some]
          cases hf : Zej n o (ZM 4 (ZM 2 r).2.2).1 with
          | false => rfl
          | true =>
            simp only [Bool.not_true, cond_false, Bool.true_eq_false, if_false]
            have hfit := hf
            unfold Zej at hfit
            simp only [Bool.and_eq_true, decide_eq_true_eq] at hfit
            rw [Zb (by omega), Zka (by omega)]
            have h15 : 2 ^ (ZM 4 (ZM 2 r).2.2).1 ≤ 2 ^ 15 := Nat.pow_le_pow_right (by omega) (by omega)
            have := ZA6 k hb hn (by omega) (m := (ZM 2 r).1) (n := n) (o := o) (p := (ZM 4 (ZM 2 r).2.2).1) (by omega) (by omega) (by omega) hfit.2 (2 ^ (ZM 4 (ZM 2 r).2.2).1) k 0 (ZM 4 (ZM 2 r).2.2).2.2 [] (Z0 (Z0 hr _) _) (by omega) (by omega) (by simp)
            rw [Nat.zero_add] at this
            exact this
        · rw [Zb h3, if_pos h3]
    · rw [Zb h1, if_pos h1]
theorem ZNZ : ∀ n : Fin 513, ZcS 0 (1, (n.val : Int), ()) = some ((0, (n.val : Int), ()), ()) := by decide +kernel
theorem ZE5 (k : Nat) {n : Nat} (hn : n ≤ 512) : Zns k (1, (n : Int), ()) = some ((0, (n : Int), ()), ()) := by
  have := ZNZ ⟨n, by omega⟩
  simp only at this
  show (ZcS 0 (1, (n : Int), ())).bind _ = _
  rw [this]
  rfl
theorem ZBR (k : Nat) (x : Int) {n : Nat} (hn : n ≤ 512) : ∀ (d m i : Nat), i + d = n → d < m → 1 ≤ i →
    Zr (fun L1 => ZaA k L1) m ((i : Int), List.replicate i x ++ List.replicate d 0) = some (List.replicate n x, ()) := by
  intro d
  induction d using Nat.strongRecOn with
  | ind d ih =>
    intro m i hi hm h1
    obtain ⟨m, rfl⟩ := Zt (show 0 < m by omega)
    rw [Zi]
    simp only [ZaA]
    have hlen : (List.replicate i x ++ List.replicate d (0 : Int)).length = n := by simp; omega
    rw [hlen]
    by_cases h0 : d = 0
    · subst h0
      rw [Zj (by simp only [Int.ofNat_eq_natCast]; omega)]
      obtain rfl : i = n := by omega
      simp
    · rw [Zb (by simp only [Int.ofNat_eq_natCast]; omega), Zb (by simp only [Int.ofNat_eq_natCast]; omega), Zb (by simp only [Int.ofNat_eq_natCast]; omega)]
      simp only [Int.toNat_natCast, show (Int.ofNat n).toNat = n from rfl]
      rw [Zb (by omega), Zb (by omega), List.drop_zero]
      have ht : (List.replicate i x ++ List.replicate d (0 : Int)).take i = List.replicate i x := by
        rw [List.take_append_of_le_length (by simp)]
        simp
      rw [ht, List.length_replicate]
      have e1 : IntKind.i64.wrap ((i : Int) + Int.ofNat (min i (n - i))) = ((i + min i (n - i) : Nat) : Int) := by simp only [Int.ofNat_eq_natCast]; rw [Z8 (by omega)]; omega
      have e2 : List.replicate i x ++ List.take (n - i) (List.replicate i x) ++ List.drop (i + min i (n - i)) (List.replicate i x ++ List.replicate d (0 : Int)) = List.replicate (i + min i (n - i)) x ++ List.replicate (d - min i (n - i)) 0 := by
        rw [List.take_replicate, List.replicate_append_replicate, List.drop_append]
        simp
        omega
      rw [e1, e2]
      exact ih (d - min i (n - i)) (by omega) m _ (by omega) (by omega) (by omega)
theorem ZBG (k : Nat) (x : Int) {n : Nat} (h1 : 1 ≤ n) (hn : n ≤ 512) (hk : 1000 < k) : Zmv k ([x], (n : Int), ()) = some (List.replicate n x, ()) := by
  show Zc2 k (Zk6 k) _ = _
  simp only [Zc2]
  have e1 : IntKind.u64.wrap (Int.ofNat [x].length) = 1 := rfl
  have e2 : IntKind.u64.wrap (n : Int) = (n : Int) := by rw [IntKind.wrap_u64]; omega
  rw [Zj (by omega), e1, e2, ZE5 k hn]
  simp only [Option.bind_some]
  have e3 : IntKind.i64.wrap (n : Int) = (n : Int) := by rw [Z8 (by omega)]
  rw [Zj (by omega), Zj (by omega), e3, Zb (by omega)]
  simp only [Int.toNat_natCast, List.length_replicate, List.length_singleton, Nat.sub_zero, List.take_zero, List.nil_append, Nat.zero_add]
  rw [Nat.min_eq_left h1, List.take_of_length_le (by simp; omega), List.drop_replicate]
  exact ZBR k x hn (n - 1) k 1 (by omega) (by omega) (by omega)
end Go.Sh
namespace Go.Sh
open Go Go.Proofs
def ZmO (c : List Int) (sh : Int) : List Int → List Int → List Int × Int
  | [], out => (out, 0)
  | x :: xs, out => if Qi (x + Zcz c sh out) = true then ([], 12) else ZmO c sh xs (out ++ [x + Zcz c sh out])
def Za1 (c : List Int) (sh : Int) (warm res : List Int) : List Int × Int :=
  if K4 c sh = false then ([], 2) else if warm.length ≠ c.length then ([], 1) else if warm.any Qi = true then ([], 12) else if res.any Qi = true then ([], 12) else ZmO c sh res warm
theorem Zqz {c : List Int} {sh : Int} : ∀ (xs out : List Int), (ZmO c sh xs out).1.length ≤ out.length + xs.length
  | [], out => Nat.le_refl _
  | x :: xs, out => by
    unfold ZmO
    split
    · simp
    · have := Zqz (c := c) (sh := sh) xs (out ++ [x + Zcz c sh out])
      rw [List.length_append, List.length_singleton] at this
      rw [List.length_cons]
      omega
theorem ZuJ {x : Int} (h : Qi x = false) : ZL x := by
  unfold Qi at h
  rw [decide_eq_false_iff_not] at h
  unfold ZL
  omega
theorem ZBj (k : Nat) {c warm res : List Int} {sh : Int} (hk : 1000 < k) (hc : c.length ≤ 8192) (hw : warm.length ≤ 900) (hr : res.length ≤ 900) :
    Zaa k ((c, sh, ()), warm, res, ()) = some (((Za1 c sh warm res).1, (Za1 c sh warm res).2, ()), ()) := by
  show Zd1 k (ZkX k) _ = _
  simp only [Zd1]
  rw [ZqA k c sh (by omega)]
  simp only [Option.bind_some]
  unfold Za1
  cases hm : K4 c sh with
  | false => rfl
  | true =>
    simp only [if_true, Bool.true_eq_false, if_false]
    rw [show ((0 : Int) != 0) = false from rfl]
    simp only [cond_false]
    rw [ZT]
    by_cases hl : warm.length = c.length
    · rw [Zj (by simp [hl]), if_neg (by simpa using hl), KR k warm (by omega) (by omega)]
      simp only [Option.bind_some]
      cases hw1 : warm.any Qi with
      | true => rfl
      | false =>
        simp only [cond_false, Bool.false_eq_true, if_false]
        rw [KR k res (by omega) (by omega)]
        simp only [Option.bind_some]
        cases hr1 : res.any Qi with
        | true => rfl
        | false =>
          simp only [cond_false, Bool.false_eq_true, if_false]
          have ecl : ZhI k (warm, ()) = some (warm, ()) := by show Ys _ = _; unfold Ys; rw [Zb (by simp only; omega)]
          rw [ecl]
          simp only [Option.bind_some]
          obtain ⟨h8, hsh, hco⟩ := Zcf hm
          have := Zz (A := List Int) (R := (List Int × Int × Unit) × Unit) (step := fun L1 => YR k L1)
            (fun i out => (Int.ofNat res.length, Int.ofNat i, res, c, sh, out)) res
            (fun l' out => some (((ZmO c sh l' out).1, (ZmO c sh l' out).2, ()), ()))
            (fun i out => c.length ≤ out.length ∧ out.length = warm.length + i ∧ ∀ x ∈ out, ZL x)
            (fun L out _ => by simp only [YR]; rw [Zj (WB _)]; rfl)
            (fun L i hi out ho hL => by
              simp only [YR]
              rw [Zb (ltR hi), Zb (inR hi), Zo1 k (by omega) h8 ho.1 (by omega) hsh hco ho.2.2, ZR hi]
              simp only [Option.bind_some]
              have hx := YP hr1 res[i] (List.getElem_mem hi)
              have hp := Zjm (sh := sh) hco ho.2.2 h8
              unfold ZL at hx
              rw [Z8 (n := res[i] + Zcz c sh out) (by omega), ZiW]
              simp only [Option.bind_some]
              unfold ZmO
              cases hwi : Qi (res[i] + Zcz c sh out) with
              | true => rfl
              | false =>
                simp only [cond_false, Bool.false_eq_true, if_false]
                rw [Zb (by simp only [List.length_singleton]; omega), QK hi (by omega)]
                exact hL _ ⟨by simp; omega, by simp; omega, fun x hx => by
                  rcases List.mem_append.1 hx with h | h
                  · exact ho.2.2 x h
                  · rw [List.mem_singleton.1 h]; exact ZuJ hwi⟩)
            k 0 warm ⟨by omega, by omega, YP hw1⟩ (by omega) (Nat.zero_le _)
          rw [List.drop_zero] at this
          exact this
    · rw [Zb (by simp only [Int.ofNat_eq_natCast]; omega), if_pos hl]
abbrev IS := List Bool × Int
def gI (w : Nat) (s : IS) : Nat × IS := if s.2 = 0 then ((ZM w s.1).1, (ZM w s.1).2.2, (ZM w s.1).2.1) else (0, s)
def mI (ok : Bool) (s : IS) (code : Int) : IS := if s.2 = 0 ∧ ok = false then (s.1, code) else s
theorem Qg {b : List Int} {s : IS} (h : Zk b s.1) (w : Nat) : Zk b (gI w s).2.1 := by
  unfold gI
  split
  · exact Z0 h w
  · exact h
theorem Qe {b : List Int} {s : IS} (h : Zk b s.1) (ok : Bool) (code : Int) : Zk b (mI ok s code).1 := by
  unfold mI
  split
  · exact h
  · exact h
theorem ZNv (w : Nat) (s : IS) : (gI w s).1 < 2 ^ w := by
  unfold gI
  split
  · exact ZcQ w _
  · exact Nat.pow_pos (by omega)
theorem ZaJ (k : Nat) {b : List Int} (hb : ZN b = true) (hn : b.length < 268435456) (hk : 100 < k) {s : IS} (hs : Zk b s.1) {w : Nat} (hw : w ≤ 32) :
    Xz k ((X8 b s.1, s.2, ()), (w : Int), ()) = some ((((gI w s).1 : Nat) : Int), (X8 b (gI w s).2.1, (gI w s).2.2, ()), ()) := by
  show Zdo k _ = _
  simp only [Zdo]
  unfold gI
  rw [ZI]
  by_cases h : s.2 = 0
  · rw [Zb h, if_pos h, Xb k hb (by omega) hs hw hk]
    rfl
  · rw [Zj h, if_neg h]
    rfl
theorem Xo (k : Nat) {b : List Int} {s : IS} (ok : Bool) : Wf k ((X8 b s.1, s.2, ()), ok, ()) = some ((), (X8 b (mI ok s 2).1, (mI ok s 2).2, ()), ()) := by
  show ZcU k _ = _
  simp only [ZcU]
  unfold mI
  rw [ZI]
  by_cases h : s.2 = 0
  · rw [Zb h]
    cases ok with
    | false => rw [if_pos ⟨h, rfl⟩]; rfl
    | true => rw [if_neg (by simp)]; rfl
  · rw [Zj h, if_neg (fun hh => h hh.1)]
def ZlX (n : Nat) : Bool := n = 0 ∨ n = 1 ∨ 8 ≤ n ∧ n ≤ 12 ∨ 32 ≤ n ∧ n ≤ 39
theorem ZAt (k n : Nat) : Zm4 k ((n : Int), ()) = some (ZlX n, ()) := by
  show Zd3 k _ = _
  simp only [Zd3]
  unfold ZlX
  rw [ZI, ZI]
  by_cases h0 : n = 0
  · rw [Zb (by omega), decide_eq_true (by omega)]
  · rw [Zj (by omega)]
    by_cases h1 : n = 1
    · rw [Zb (by omega), decide_eq_true (by omega)]
    · rw [Zj (by omega)]
      by_cases h8 : 8 ≤ n
      · rw [Zb (by omega)]
        by_cases h12 : n ≤ 12
        · rw [Zb (by omega), decide_eq_true (by omega)]
        · rw [Zj (by omega)]
          by_cases h31 : 31 < n
          · rw [Zb (by omega)]
            by_cases h39 : n ≤ 39
            · rw [decide_eq_true (by omega), decide_eq_true (by omega)]
            · rw [decide_eq_false (by omega), decide_eq_false (by omega)]
          · rw [Zj (by omega), decide_eq_false (by omega)]
      · rw [Zj (by omega), Zj (by omega), decide_eq_false (by omega)]
def Yx (w : Nat) : Nat → IS → List Int → List Int × IS
  | 0, s, acc => (acc, s)
  | n + 1, s, acc => if s.2 = 0 then Yx w n ((WG w s.1).2.2, (WG w s.1).2.1) (acc ++ [(WG w s.1).1]) else Yx w n s (acc ++ [0])
theorem WO {b : List Int} {w : Nat} : ∀ (n : Nat) (s : IS) (acc : List Int), Zk b s.1 → Zk b (Yx w n s acc).2.1
  | 0, s, acc, h => h
  | n + 1, s, acc, h => by
    unfold Yx
    split
    · exact WO n _ _ (ZbG h w)
    · exact WO n _ _ h
theorem Yf {w : Nat} : ∀ (n : Nat) (s : IS) (acc : List Int), (Yx w n s acc).1.length = acc.length + n
  | 0, s, acc => rfl
  | n + 1, s, acc => by
    unfold Yx
    split
    · rw [Yf n, List.length_append, List.length_singleton]; omega
    · rw [Yf n, List.length_append, List.length_singleton]; omega
theorem ZaF (k : Nat) {b : List Int} (hb : ZN b = true) (hn : b.length < 268435456) (hk : 1000 < k) {s : IS} (hs : Zk b s.1) {w n : Nat} (hw : w ≤ 32) (hnn : n ≤ 512) :
    Kh k ((X8 b s.1, s.2, ()), (n : Int), (w : Int), ()) = some ((Yx w n s []).1, (X8 b (Yx w n s []).2.1, (Yx w n s []).2.2, ()), ()) := by
  show Zds k (ZkD k) _ = _
  simp only [Zds]
  suffices H : ∀ (d m i : Nat) (s : IS) (acc : List Int), Zk b s.1 → d < m → i + d ≤ 512 → acc.length = i →
      Zr (fun L1 => YX k L1) m (((i + d : Nat) : Int), (i : Int), (w : Int), s.2, b, ((ZS b s.1 : Nat) : Int), acc) = some ((Yx w d s acc).1, (X8 b (Yx w d s acc).2.1, (Yx w d s acc).2.2, ()), ()) by
    have := H n k 0 s [] hs (by omega) (by omega) rfl
    rw [Nat.zero_add] at this
    exact this
  intro d
  induction d with
  | zero =>
    intro m i s acc hs hm hi ha
    obtain ⟨m, rfl⟩ := Zt hm
    rw [Zi]
    simp only [YX]
    rw [Zj (by omega)]
    rfl
  | succ d ih =>
    intro m i s acc hs hm hi ha
    obtain ⟨m, rfl⟩ := Zt (show 0 < m by omega)
    rw [Zi]
    simp only [YX]
    have e2 : IntKind.i64.wrap ((i : Int) + 1) = ((i + 1 : Nat) : Int) := by rw [Z8 (by omega)]; rfl
    rw [Zb (by omega), ZI]
    unfold Yx
    by_cases h : s.2 = 0
    · rw [Zb h, if_pos h, Zp0 k hb (by omega) hs hw (by omega)]
      simp only [Option.bind_some]
      rw [Zb (by simp only [List.length_singleton]; omega), e2]
      have := ih m (i + 1) ((WG w s.1).2.2, (WG w s.1).2.1) (acc ++ [(WG w s.1).1]) (ZbG hs w) (by omega) (by omega) (by simp; omega)
      rw [show i + 1 + d = i + (d + 1) by omega] at this
      exact this
    · rw [Zj h, if_neg h, Zb (by omega), e2]
      have := ih m (i + 1) s (acc ++ [0]) hs (by omega) (by omega) (by simp; omega)
      rw [show i + 1 + d = i + (d + 1) by omega] at this
      exact this
def ZeA (s : IS) : IS := mI ((gI 1 s).1 == 0) (gI 1 s).2 2
def KO (s : IS) : Nat × IS := ((gI 6 s).1, mI (ZlX (gI 6 s).1) (gI 6 s).2 2)
def Zum (kind depth : Nat) (s : IS) : Nat × Nat × IS :=
  if (gI 1 s).1 = 1 ∧ (gI 1 s).2.2 = 0 then (kind, (unS (gI 1 s).2.1).1 + 1, mI (decide ((unS (gI 1 s).2.1).1 + 1 < depth)) ((unS (gI 1 s).2.1).2.2, (unS (gI 1 s).2.1).2.1) 2)
  else (kind, 0, mI (decide (0 < depth)) (gI 1 s).2 2)
def ZP (depth : Nat) (s : IS) : Nat × Nat × IS := Zum (KO (ZeA s)).1 depth (KO (ZeA s)).2
theorem QW (a b : Nat) : ((a : Int) == (b : Int)) = (a == b) := by
  rw [Bool.eq_iff_iff, beq_iff_eq, beq_iff_eq]
  omega
theorem Zyc {b : List Int} {s : IS} (h : Zk b s.1) (kind d : Nat) : Zk b (Zum kind d s).2.2.1 := by
  unfold Zum
  split
  · exact Qe (s := (_, _)) (Zau (Qg h _)) _ _
  · exact Qe (Qg h _) _ _
theorem ZmB {b : List Int} {s : IS} (h : Zk b s.1) : Zk b (ZeA s).1 := Qe (Qg h _) _ _
theorem Zow {b : List Int} {s : IS} (h : Zk b s.1) : Zk b (KO s).2.1 := Qe (Qg h _) _ _
theorem Zf3 {b : List Int} {s : IS} (h : Zk b s.1) (d : Nat) : Zk b (ZP d s).2.2.1 := Zyc (Zow (ZmB h)) _ _
theorem ZDA (k : Nat) {b : List Int} (hb : ZN b = true) (hn : b.length < 268435456) (hk : 8 * b.length + 1000 < k) {s : IS} (hs : Zk b s.1) (d : Nat) :
    Zwa k ((X8 b s.1, s.2, ()), (d : Int), ()) = some (((((ZP d s).1 : Nat) : Int), (((ZP d s).2.1 : Nat) : Int), ()), (X8 b (ZP d s).2.2.1, (ZP d s).2.2.2, ()), ()) := by
  show ZfW k _ = _
  simp only [ZfW]
  refine (Zg (ZaJ k hb hn (by omega) hs (w := 1) (by omega)) _).trans ?_
  refine (Zg (Xo k (s := (gI 1 s).2) _) _).trans ?_
  rw [show ((((gI 1 s).1 : Nat) : Int) == (0 : Int)) = ((gI 1 s).1 == 0) from QW _ 0]
  have r2 := ZmB hs
  unfold ZP
  change ((Xz k ((X8 b (ZeA s).1, (ZeA s).2, ()), 6, ())).bind _) = _
  generalize ZeA s = s1 at r2 ⊢
  refine (Zg (ZaJ k hb hn (by omega) r2 (w := 6) (by omega)) _).trans ?_
  refine (Zg (ZAt k (gI 6 s1).1) _).trans ?_
  refine (Zg (Xo k (s := (gI 6 s1).2) _) _).trans ?_
  have r4 := Zow r2
  change ((Xz k ((X8 b (KO s1).2.1, (KO s1).2.2, ()), 1, ())).bind fun y_3 => bif y_3.1 == (1 : Int) then bif y_3.2.1.2.1 == (0 : Int) then (Ze3 k ((y_3.2.1.1.1, y_3.2.1.1.2.1, ()), ())).bind fun y_4 => (Wf k (((y_4.2.1.1, y_4.2.1.2.1, ()), y_4.1.2.1, ()), decide (IntKind.i64.wrap (y_4.1.1 + (1 : Int)) < d), ())).bind fun y_5 => some (((((KO s1).1 : Nat) : Int), IntKind.i64.wrap (y_4.1.1 + (1 : Int)), ()), ((y_5.2.1.1.1, y_5.2.1.1.2.1, ()), y_5.2.1.2.1, ()), ())
    else (Wf k (((y_3.2.1.1.1, y_3.2.1.1.2.1, ()), y_3.2.1.2.1, ()), decide ((0 : Int) < d), ())).bind fun y_4 => some (((((KO s1).1 : Nat) : Int), 0, ()), ((y_4.2.1.1.1, y_4.2.1.1.2.1, ()), y_4.2.1.2.1, ()), ())
    else (Wf k (((y_3.2.1.1.1, y_3.2.1.1.2.1, ()), y_3.2.1.2.1, ()), decide ((0 : Int) < d), ())).bind fun y_4 => some (((((KO s1).1 : Nat) : Int), 0, ()), ((y_4.2.1.1.1, y_4.2.1.1.2.1, ()), y_4.2.1.2.1, ()), ())) = _
  generalize (KO s1).1 = kind
  generalize (KO s1).2 = s2 at r4 ⊢
  unfold Zum
  have r5 := Qg r4 1
  refine (Zg (ZaJ k hb hn (by omega) r4 (w := 1) (by omega)) _).trans ?_
  simp only
  rw [show ((((gI 1 s2).1 : Nat) : Int) == (1 : Int)) = ((gI 1 s2).1 == 1) from QW _ 1]
  have fin0 : ((Wf k ((X8 b (gI 1 s2).2.1, (gI 1 s2).2.2, ()), decide ((0 : Int) < (d : Int)), ())).bind fun y_4 => some ((((kind : Nat) : Int), 0, ()), ((y_4.2.1.1.1, y_4.2.1.1.2.1, ()), y_4.2.1.2.1, ()), ())) =
      some ((((kind : Nat) : Int), (((0 : Nat) : Int)), ()), (X8 b (mI (decide (0 < d)) (gI 1 s2).2 2).1, (mI (decide (0 < d)) (gI 1 s2).2 2).2, ()), ()) := by
    refine (Zg (Xo k (s := (gI 1 s2).2) _) _).trans ?_
    have : decide ((0 : Int) < (d : Int)) = decide (0 < d) := by
      by_cases h : 0 < d
      · rw [decide_eq_true h, decide_eq_true (by omega)]
      · rw [decide_eq_false h, decide_eq_false (by omega)]
    rw [this]
    rfl
  by_cases h1 : (gI 1 s2).1 = 1
  · rw [show ((gI 1 s2).1 == 1) = true from by simp [h1]]
    simp only [cond_true]
    rw [ZI]
    by_cases h2 : (gI 1 s2).2.2 = 0
    · rw [Zb h2, if_pos ⟨h1, h2⟩]
      refine (Zg (Zpo k hb (by omega) r5 (by omega)) _).trans ?_
      have hu := ZCv (r := (gI 1 s2).2.1)
      have hl := r5.len
      have e1 : IntKind.i64.wrap ((((unS (gI 1 s2).2.1).1 : Nat) : Int) + 1) = (((unS (gI 1 s2).2.1).1 + 1 : Nat) : Int) := by rw [Z8 (by omega)]; rfl
      simp only
      rw [e1]
      refine (Zg (Xo k (b := b) (s := ((unS (gI 1 s2).2.1).2.2, (unS (gI 1 s2).2.1).2.1)) _) _).trans ?_
      have : decide ((((unS (gI 1 s2).2.1).1 + 1 : Nat) : Int) < (d : Int)) = decide ((unS (gI 1 s2).2.1).1 + 1 < d) := by
        by_cases h : (unS (gI 1 s2).2.1).1 + 1 < d
        · rw [decide_eq_true h, decide_eq_true (by omega)]
        · rw [decide_eq_false h, decide_eq_false (by omega)]
      rw [this]
    · rw [Zj h2, if_neg (fun h => h2 h.2)]
      exact fin0
  · rw [show ((gI 1 s2).1 == 1) = false from by simp [h1]]
    simp only [cond_false]
    rw [if_neg (fun h => h1 h.1)]
    exact fin0
end Go.Sh
namespace Go.Sh
open Go Go.Proofs
def Zes (coefs : List Int) (sh : Int) (c n : Nat) (warm : List Int) (s : IS) : List Int × IS :=
  if (YA n c s.1).2.1 ≠ 0 then ([], ((YA n c s.1).2.2, (YA n c s.1).2.1))
  else ((Za1 coefs sh warm (YA n c s.1).1).1, ((YA n c s.1).2.2, (Za1 coefs sh warm (YA n c s.1).1).2))
def ZgH (s : IS) : IS := mI ((gI 4 s).1 == 11) (gI 4 s).2 2
def Y8 (s : IS) : Nat × IS := ((gI 5 s).1, mI (decide ((gI 5 s).1 ≤ 15)) (gI 5 s).2 2)
def ZuO (c n : Nat) (warm : List Int) (sh : Nat) (x : List Int × IS) : List Int × IS :=
  if x.2.2 ≠ 0 then ([], x.2) else Zes x.1 sh c n warm x.2
def Zp3 (num : Bool) (c n : Nat) (w : List Int × IS) : List Int × IS :=
  if num = true then ZuO c n w.1 (Y8 (ZgH w.2)).1 (Yx 12 c (Y8 (ZgH w.2)).2 [])
  else if w.2.2 ≠ 0 then ([], w.2) else Zes (X2 (min 4 c)) 0 c n w.1 w.2
def Zju (num : Bool) (c n depth : Nat) (s : IS) : List Int × IS :=
  if (mI (decide (c ≤ n)) s 2).2 ≠ 0 then ([], mI (decide (c ≤ n)) s 2) else Zp3 num c n (Yx depth c (mI (decide (c ≤ n)) s 2) [])
def Ym (kind n depth : Nat) (s : IS) : List Int × IS :=
  if kind = 0 then (List.replicate n ((Yx depth 1 s []).1.headD 0), (Yx depth 1 s []).2)
  else if kind = 1 then Yx depth n s []
  else if 31 < kind then Zju true (kind - 31) n depth s else Zju false (kind - 8) n depth s
theorem Zjg {m n o p : Nat} : ∀ (d i : Nat) (r : List Bool) (acc : List Int), (Wv m n o p d i r acc).1.length ≤ acc.length + d * (n / 2 ^ p)
  | 0, _, r, acc => by simp [Wv]
  | d + 1, i, r, acc => by
    unfold Wv
    have hle : (n / 2 ^ p - if i = 0 then o else 0) ≤ n / 2 ^ p := Nat.sub_le _ _
    generalize (n / 2 ^ p - if i = 0 then o else 0) = cnt at hle ⊢
    have h1 := Zqc m cnt r
    rw [Nat.add_mul, Nat.one_mul]
    split
    · simp
    · have := Zjg (m := m) (n := n) (o := o) (p := p) d (i + 1) (XO m cnt r).2.2 (acc ++ (XO m cnt r).1)
      rw [List.length_append] at this
      omega
theorem Zpk {n o : Nat} (r : List Bool) : (YA n o r).1.length ≤ n := by
  unfold YA
  repeat' split
  all_goals try simp
  rename_i hf
  have hf : Zej n o (ZM 4 (ZM 2 r).2.2).1 = true := by simpa using hf
  unfold Zej at hf
  simp only [Bool.and_eq_true, decide_eq_true_eq] at hf
  have := Zjg (m := (ZM 2 r).1) (n := n) (o := o) (p := (ZM 4 (ZM 2 r).2.2).1) (2 ^ (ZM 4 (ZM 2 r).2.2).1) 0 (ZM 4 (ZM 2 r).2.2).2.2 []
  rw [List.length_nil, Nat.zero_add] at this
  refine Nat.le_trans this ?_
  rw [Nat.mul_comm]
  exact Nat.div_mul_le_self _ _
theorem KL {ok : Bool} {s : IS} {code : Int} (hc : code ≠ 0) : (mI ok s code).2 = 0 ↔ s.2 = 0 ∧ ok = true := by
  unfold mI
  split
  · rename_i h
    exact ⟨fun e => absurd e hc, fun e => by rw [h.2] at e; exact absurd e.2 (by simp)⟩
  · rename_i h
    constructor
    · intro e
      refine ⟨e, ?_⟩
      cases ok with
      | true => rfl
      | false => exact absurd ⟨e, rfl⟩ h
    · exact fun e => e.1
theorem ZgP {d : Nat} {s : IS} (h : (ZP d s).2.2.2 = 0) : (ZP d s).2.1 < d ∧ ZlX (ZP d s).1 = true := by
  unfold ZP at h ⊢
  have hk : (KO (ZeA s)).2.2 = 0 → ZlX (KO (ZeA s)).1 = true := fun h => ((KL (by decide)).1 h).2
  generalize (KO (ZeA s)).1 = kind at h hk ⊢
  generalize (KO (ZeA s)).2 = s2 at h hk ⊢
  have g0 : (gI 1 s2).2.2 = 0 → s2.2 = 0 := by
    unfold gI
    split
    · rename_i h; exact fun _ => h
    · exact fun e => e
  unfold Zum at h ⊢
  split
  · rename_i hc
    rw [if_pos hc] at h
    have := (KL (by decide)).1 h
    exact ⟨of_decide_eq_true this.2, hk (g0 hc.2)⟩
  · rename_i hc
    rw [if_neg hc] at h
    have := (KL (by decide)).1 h
    exact ⟨of_decide_eq_true this.2, hk (g0 this.1)⟩
theorem ZmP {b : List Int} {coefs warm : List Int} {sh : Int} {c n : Nat} {s : IS} (h : Zk b s.1) : Zk b (Zes coefs sh c n warm s).2.1 := by
  unfold Zes
  split
  · exact ZmJ h _ _
  · exact ZmJ h _ _
theorem ZpD {coefs warm : List Int} {sh : Int} {c n : Nat} {s : IS} : (Zes coefs sh c n warm s).1.length ≤ warm.length + n := by
  unfold Zes
  split
  · simp
  · have h1 := Zpk (n := n) (o := c) s.1
    simp only
    unfold Za1
    repeat' split
    all_goals try simp
    have := Zqz (c := coefs) (sh := sh) (YA n c s.1).1 warm
    omega
theorem ZnQ {b : List Int} {s : IS} (h : Zk b s.1) : Zk b (ZgH s).1 := Qe (Qg h _) _ _
theorem ZnM {b : List Int} {s : IS} (h : Zk b s.1) : Zk b (Y8 s).2.1 := Qe (Qg h _) _ _
theorem ZxN {b : List Int} {c n : Nat} {warm : List Int} {sh : Nat} {x : List Int × IS} (h : Zk b x.2.1) : Zk b (ZuO c n warm sh x).2.1 := by
  unfold ZuO
  split
  · exact h
  · exact ZmP h
theorem Zxr {b : List Int} {num : Bool} {c n : Nat} {w : List Int × IS} (h : Zk b w.2.1) : Zk b (Zp3 num c n w).2.1 := by
  unfold Zp3
  split
  · exact ZxN (WO _ _ _ (ZnM (ZnQ h)))
  · split
    · exact h
    · exact ZmP h
theorem Zmi {b : List Int} {num : Bool} {c n d : Nat} {s : IS} (h : Zk b s.1) : Zk b (Zju num c n d s).2.1 := by
  unfold Zju
  split
  · exact Qe h _ _
  · exact Zxr (WO _ _ _ (Qe h _ _))
theorem ZyW {b : List Int} {kind n d : Nat} {s : IS} (h : Zk b s.1) : Zk b (Ym kind n d s).2.1 := by
  unfold Ym
  split
  · exact WO _ _ _ h
  · split
    · exact WO _ _ _ h
    · split
      · exact Zmi h
      · exact Zmi h
theorem Zp8 {num : Bool} {c n d : Nat} {s : IS} (hc : c ≤ 8) : (Zju num c n d s).1.length ≤ 8 + n := by
  unfold Zju
  split
  · simp
  · have hl := Yf (w := d) c (mI (decide (c ≤ n)) s 2) []
    generalize Yx d c (mI (decide (c ≤ n)) s 2) [] = w at hl
    simp only [List.length_nil, Nat.zero_add] at hl
    unfold Zp3 ZuO
    repeat' split
    all_goals try simp
    · have := ZpD (coefs := (Yx 12 c (Y8 (ZgH w.2)).2 []).1) (warm := w.1) (sh := ((Y8 (ZgH w.2)).1 : Nat)) (c := c) (n := n) (s := (Yx 12 c (Y8 (ZgH w.2)).2 []).2)
      omega
    · have := ZpD (coefs := X2 (min 4 c)) (warm := w.1) (sh := 0) (c := c) (n := n) (s := w.2)
      omega
theorem Zqo {kind n d : Nat} {s : IS} (hk : ZlX kind = true) : (Ym kind n d s).1.length ≤ 8 + n := by
  have hk := of_decide_eq_true hk
  unfold Ym
  split
  · simp
  · split
    · rw [Yf]; simp
    · split
      · exact Zp8 (by omega)
      · exact Zp8 (by omega)
abbrev BT := List Int × ((List Int × Int × Unit) × Int × Unit) × Unit
theorem ZI9 (k : Nat) {b : List Int} (hb : ZN b = true) (hn : b.length < 268435456) (hk : 8 * b.length + 50000 < k) {s : IS} (hs : Zk b s.1) {coefs warm : List Int} (hco : coefs.length ≤ 8192) (hw : warm.length ≤ 8) {sh : Int} {n c : Nat} (hnn : n ≤ 512) :
    ((K9 k (X8 b s.1, (n : Int), (c : Int), ())).bind fun y_2 => bif y_2.1.2.1 != (0 : Int) then some (([], ((y_2.2.1.1, y_2.2.1.2.1, ()), y_2.1.2.1, ()), ()) : BT) else (Zaa k ((coefs, sh, ()), warm, y_2.1.1, ())).bind fun y => some (y.1.1, ((y_2.2.1.1, y_2.2.1.2.1, ()), y.1.2.1, ()), ())) =
      some ((Zes coefs sh c n warm s).1, (X8 b (Zes coefs sh c n warm s).2.1, (Zes coefs sh c n warm s).2.2, ()), ()) := by
  refine (Zg (ZBr k hb hn hs hk n c) _).trans ?_
  unfold Zes
  simp only
  rw [ZT]
  by_cases h : (YA n c s.1).2.1 = 0
  · rw [Zj (by simpa using h), if_neg (by simpa using h)]
    have hl := Zpk (n := n) (o := c) s.1
    exact Zg (ZBj k (by omega) hco (by omega) (by omega)) _
  · rw [Zb h, if_pos h]
theorem ZDF (k : Nat) {b : List Int} (hb : ZN b = true) (hn : b.length < 268435456) (hk : 8 * b.length + 50000 < k) {s : IS} (hs : Zk b s.1) {kind n d : Nat} (hkd : ZlX kind = true) (h1 : 1 ≤ n) (hnn : n ≤ 512) (hd : d ≤ 32) :
    ZwG k ((X8 b s.1, s.2, ()), (kind : Int), (n : Int), (d : Int), ()) = some ((Ym kind n d s).1, (X8 b (Ym kind n d s).2.1, (Ym kind n d s).2.2, ()), ()) := by
  show Zhh k _ = _
  simp only [Zhh]
  have hkd := of_decide_eq_true hkd
  unfold Ym
  rw [ZI, ZI]
  by_cases h0 : kind = 0
  · rw [Zb (by omega), if_pos h0]
    refine (Zg (ZaF k hb hn (by omega) hs (w := d) (n := 1) hd (by omega)) _).trans ?_
    have hl := Yf (w := d) 1 s []
    generalize Yx d 1 s [] = w at hl
    obtain ⟨w1, w2⟩ := w
    match w1, hl with
    | [x], _ =>
      refine (Zg (ZBG k x h1 hnn (by omega)) _).trans ?_
      rfl
  · rw [Zj (by omega), if_neg h0]
    by_cases hk1 : kind = 1
    · rw [Zb (by omega), if_pos hk1]
      exact Zg (ZaF k hb hn (by omega) hs (w := d) (n := n) hd hnn) _
    · rw [Zj (by omega), if_neg hk1]
      by_cases h31 : 31 < kind
      · simp only [Zb (show (31 : Int) < (kind : Int) by omega)]
        rw [if_pos h31]
        have ec : IntKind.i64.wrap ((kind : Int) - 31) = ((kind - 31 : Nat) : Int) := by rw [Z8 (by omega)]; omega
        simp only [ec]
        have hc8 : kind - 31 ≤ 8 := by omega
        generalize kind - 31 = c at hc8
        have edn : decide ((c : Int) ≤ (n : Int)) = decide (c ≤ n) := by
          by_cases h : c ≤ n
          · rw [decide_eq_true h, decide_eq_true (by omega)]
          · rw [decide_eq_false h, decide_eq_false (by omega)]
        rw [edn]
        refine (Zg (Xo k (s := s) _) _).trans ?_
        unfold Zju
        have r1 := Qe hs (decide (c ≤ n)) 2
        generalize mI (decide (c ≤ n)) s 2 = s1 at r1 ⊢
        simp only
        rw [ZT]
        by_cases he : s1.2 = 0
        · rw [Zj (by simpa using he), if_neg (show ¬ s1.2 ≠ 0 by simpa using he)]
          refine (Zg (ZaF k hb hn (by omega) r1 (w := d) (n := c) hd (by omega)) _).trans ?_
          have r2 := WO (w := d) c s1 [] r1
          have hl := Yf (w := d) c s1 []
          generalize Yx d c s1 [] = w at r2 hl ⊢
          simp only [List.length_nil, Nat.zero_add] at hl
          have e4 : (if (4 : Int) < (c : Int) then (4 : Int) else (c : Int)) = ((min 4 c : Nat) : Int) := by split <;> omega
          simp only
          rw [e4]
          refine (Zg (Zh2 k (min 4 c) (by omega) (by omega)) _).trans ?_
          unfold Zp3
          rw [if_pos rfl]
          refine (Zg (ZaJ k hb hn (by omega) r2 (w := 4) (by omega)) _).trans ?_
          refine (Zg (Xo k (s := (gI 4 w.2).2) _) _).trans ?_
          rw [show ((((gI 4 w.2).1 : Nat) : Int) == (11 : Int)) = ((gI 4 w.2).1 == 11) from QW _ 11]
          have r3 := ZnQ r2
          change ((Xz k ((X8 b (ZgH w.2).1, (ZgH w.2).2, ()), 5, ())).bind _) = _
          generalize ZgH w.2 = s3 at r3 ⊢
          refine (Zg (ZaJ k hb hn (by omega) r3 (w := 5) (by omega)) _).trans ?_
          refine (Zg (Xo k (s := (gI 5 s3).2) _) _).trans ?_
          have e15 : decide ((((gI 5 s3).1 : Nat) : Int) ≤ 15) = decide ((gI 5 s3).1 ≤ 15) := by
            by_cases h : (gI 5 s3).1 ≤ 15
            · rw [decide_eq_true h, decide_eq_true (by omega)]
            · rw [decide_eq_false h, decide_eq_false (by omega)]
          rw [e15]
          have r4 := ZnM r3
          change ((Kh k ((X8 b (Y8 s3).2.1, (Y8 s3).2.2, ()), (c : Int), 12, ())).bind fun y_6 => bif y_6.2.1.2.1 != (0 : Int) then some (([], ((y_6.2.1.1.1, y_6.2.1.1.2.1, ()), y_6.2.1.2.1, ()), ()) : BT) else (K9 k ((y_6.2.1.1.1, y_6.2.1.1.2.1, ()), (n : Int), (c : Int), ())).bind fun y_7 => bif y_7.1.2.1 != (0 : Int) then some ([], ((y_7.2.1.1, y_7.2.1.2.1, ()), y_7.1.2.1, ()), ()) else (Zaa k ((y_6.1, (((Y8 s3).1 : Nat) : Int), ()), w.1, y_7.1.1, ())).bind fun y => some (y.1.1, ((y_7.2.1.1, y_7.2.1.2.1, ()), y.1.2.1, ()), ())) = _
          generalize (Y8 s3).1 = sh
          generalize (Y8 s3).2 = s4 at r4 ⊢
          refine (Zg (ZaF k hb hn (by omega) r4 (w := 12) (n := c) (by omega) (by omega)) _).trans ?_
          have r5 := WO (w := 12) c s4 [] r4
          have hl5 := Yf (w := 12) c s4 []
          generalize Yx 12 c s4 [] = x at r5 hl5 ⊢
          simp only [List.length_nil, Nat.zero_add] at hl5
          unfold ZuO
          simp only
          rw [ZT]
          by_cases hx : x.2.2 = 0
          · rw [Zj (by simpa using hx), if_neg (by simpa using hx)]
            exact ZI9 k hb hn hk r5 (by omega) (by omega) hnn
          · rw [Zb hx, if_pos hx]
        · rw [Zb he, if_pos he]
      · simp only [Zj (show ¬ (31 : Int) < (kind : Int) by omega)]
        rw [if_neg h31]
        have ec : IntKind.i64.wrap ((kind : Int) - 8) = ((kind - 8 : Nat) : Int) := by rw [Z8 (by omega)]; omega
        simp only [ec]
        have hc8 : kind - 8 ≤ 4 := by omega
        generalize kind - 8 = c at hc8
        have edn : decide ((c : Int) ≤ (n : Int)) = decide (c ≤ n) := by
          by_cases h : c ≤ n
          · rw [decide_eq_true h, decide_eq_true (by omega)]
          · rw [decide_eq_false h, decide_eq_false (by omega)]
        rw [edn]
        refine (Zg (Xo k (s := s) _) _).trans ?_
        unfold Zju
        have r1 := Qe hs (decide (c ≤ n)) 2
        generalize mI (decide (c ≤ n)) s 2 = s1 at r1 ⊢
        simp only
        rw [ZT]
        by_cases he : s1.2 = 0
        · rw [Zj (by simpa using he), if_neg (show ¬ s1.2 ≠ 0 by simpa using he)]
          refine (Zg (ZaF k hb hn (by omega) r1 (w := d) (n := c) hd (by omega)) _).trans ?_
          have r2 := WO (w := d) c s1 [] r1
          have hl := Yf (w := d) c s1 []
          generalize Yx d c s1 [] = w at r2 hl ⊢
          simp only [List.length_nil, Nat.zero_add] at hl
          have e4 : (if (4 : Int) < (c : Int) then (4 : Int) else (c : Int)) = ((min 4 c : Nat) : Int) := by split <;> omega
          simp only
          rw [e4]
          refine (Zg (Zh2 k (min 4 c) (by omega) (by omega)) _).trans ?_
          unfold Zp3
          rw [if_neg (by simp)]
          simp only
          rw [ZT]
          by_cases hx : w.2.2 = 0
          · rw [Zj (by simpa using hx), if_neg (by simpa using hx)]
            exact ZI9 k hb hn hk r2 (by rw [ZxF _ (by omega)]; omega) (by omega) hnn
          · rw [Zb hx, if_pos hx]
        · rw [Zb he, if_pos he]
def Qy (n d : Nat) (r : List Bool) : List Int × Int × List Bool :=
  if ¬ (1 ≤ n ∧ n ≤ 512 ∧ 4 ≤ d ∧ d ≤ 25) then ([], 1, r)
  else if (ZP d (r, 0)).2.2.2 ≠ 0 then ([], (ZP d (r, 0)).2.2.2, (ZP d (r, 0)).2.2.1)
  else if (Ym (ZP d (r, 0)).1 n (d - (ZP d (r, 0)).2.1) (ZP d (r, 0)).2.2).2.2 ≠ 0 then ([], (Ym (ZP d (r, 0)).1 n (d - (ZP d (r, 0)).2.1) (ZP d (r, 0)).2.2).2.2, (Ym (ZP d (r, 0)).1 n (d - (ZP d (r, 0)).2.1) (ZP d (r, 0)).2.2).2.1)
  else if (Ym (ZP d (r, 0)).1 n (d - (ZP d (r, 0)).2.1) (ZP d (r, 0)).2.2).1.all (W4 · (d - (ZP d (r, 0)).2.1)) = true then
    ((Ym (ZP d (r, 0)).1 n (d - (ZP d (r, 0)).2.1) (ZP d (r, 0)).2.2).1.map (fun x => x * 2 ^ (ZP d (r, 0)).2.1), 0, (Ym (ZP d (r, 0)).1 n (d - (ZP d (r, 0)).2.1) (ZP d (r, 0)).2.2).2.1)
  else ([], 12, (Ym (ZP d (r, 0)).1 n (d - (ZP d (r, 0)).2.1) (ZP d (r, 0)).2.2).2.1)
theorem ZoO {b : List Int} {r : List Bool} (h : Zk b r) (n d : Nat) : Zk b (Qy n d r).2.2 := by
  unfold Qy
  have h1 := Zf3 (s := (r, 0)) h d
  repeat' split
  all_goals first | exact h | exact h1 | exact ZyW h1
theorem ZzU {x : Int} {d k : Nat} (hk : k < d) (hd : d ≤ 32) (h : W4 x (d - k) = true) : W4 (x * 2 ^ k) d = true ∧ -9223372036854775808 ≤ x * 2 ^ k ∧ x * 2 ^ k ≤ 9223372036854775807 := by
  unfold W4 at h ⊢
  rw [if_neg (by omega), decide_eq_true_eq] at h
  rw [if_neg (by omega), decide_eq_true_eq]
  have hp : (0 : Int) < 2 ^ k := Int.pow_pos (by omega)
  have e : (2 : Int) ^ (d - 1) = 2 ^ (d - k - 1) * 2 ^ k := by rw [← Int.pow_add]; congr 1; omega
  have h1 : -(2 ^ (d - 1) : Int) ≤ x * 2 ^ k := by rw [e, ← Int.neg_mul]; exact Int.mul_le_mul_of_nonneg_right h.1 (by omega)
  have h2 : x * 2 ^ k < 2 ^ (d - 1) := by rw [e]; exact Int.mul_lt_mul_of_pos_right h.2 hp
  refine ⟨⟨h1, h2⟩, ?_⟩
  rw [Wq (d - 1)] at h1 h2
  have : 2 ^ (d - 1) ≤ 2 ^ 31 := Nat.pow_le_pow_right (by omega) (by omega)
  generalize 2 ^ (d - 1) = Q at h1 h2 this
  omega
theorem ZDP (k : Nat) {b : List Int} (hb : ZN b = true) (hn : b.length < 268435456) (hk : 8 * b.length + 50000 < k) {r : List Bool} (hr : Zk b r) (n d : Nat) :
    Zvu k (X8 b r, (n : Int), (d : Int), ()) = some (((Qy n d r).1, (Qy n d r).2.1, ()), X8 b (Qy n d r).2.2, ()) := by
  show ZgS k (Zst k) _ = _
  simp only [ZgS]
  rw [Zwt]
  simp only [Option.bind_some]
  unfold Qy
  by_cases h : 1 ≤ n ∧ n ≤ 512 ∧ 4 ≤ d ∧ d ≤ 25
  · rw [if_neg (by simpa using h), decide_eq_true (by omega)]
    simp only [Bool.not_true, cond_false]
    refine (Zg (ZDA k hb hn (by omega) (s := (r, 0)) hr d) _).trans ?_
    have hz := ZgP (d := d) (s := (r, 0))
    have r1 := Zf3 (s := (r, 0)) hr d
    generalize ZP d (r, 0) = hd at hz r1 ⊢
    obtain ⟨kind, kk, s1⟩ := hd
    simp only at hz r1 ⊢
    rw [ZT]
    by_cases he : s1.2 = 0
    · rw [Zj (by simpa using he), if_neg (by simpa using he)]
      obtain ⟨hkd, hkind⟩ := hz he
      have e1 : IntKind.i64.wrap ((d : Int) - (kk : Int)) = ((d - kk : Nat) : Int) := by rw [Z8 (by omega)]; omega
      rw [e1]
      refine (Zg (ZDF k hb hn hk r1 hkind h.1 h.2.1 (d := d - kk) (by omega)) _).trans ?_
      have hl := Zqo (kind := kind) (n := n) (d := d - kk) (s := s1) hkind
      generalize Ym kind n (d - kk) s1 = y at hl ⊢
      simp only
      rw [ZT]
      by_cases hy : y.2.2 = 0
      · rw [Zj (by simpa using hy), if_neg (by simpa using hy)]
        have := Zz (A := List Int) (R := (List Int × Int × Unit) × (List Int × Int × Unit) × Unit) (step := fun L1 => Zas k L1)
          (fun i out => (Int.ofNat y.1.length, Int.ofNat i, y.1, (d : Int), (kk : Int), b, ((ZS b y.2.1 : Nat) : Int), out)) y.1
          (fun l' out => some (if l'.all (W4 · (d - kk)) = true then ((out ++ l'.map (fun x => x * 2 ^ kk), 0, ()), X8 b y.2.1, ()) else (([], 12, ()), X8 b y.2.1, ())))
          (fun i out => out.length = i)
          (fun L out _ => by simp only [Zas]; rw [Zj (WB _)]; simp)
          (fun L i hi out ho hL => by
            simp only [Zas]
            rw [Zb (ltR hi), Zb (inR hi), ZR hi, e1, Zvl k _ (by omega) (by omega)]
            simp only [Option.bind_some]
            rw [List.all_cons]
            cases hs : W4 y.1[i] (d - kk) with
            | false => simp
            | true =>
              simp only [Bool.not_true, cond_false, Bool.true_and]
              have hsh := (ZzU hkd (by omega) hs).2
              rw [Zb (by omega), Int.toNat_natCast, Nat.min_eq_left (by omega), Z8 hsh, Zb (by simp only [List.length_singleton]; omega), QK hi (by omega), hL _ (by simp; omega)]
              simp only [List.map_cons, List.append_assoc, List.singleton_append])
          k 0 [] rfl (by omega) (Nat.zero_le _)
        rw [List.drop_zero] at this
        refine Eq.trans this ?_
        split <;> simp
      · rw [Zb hy, if_pos hy]
    · rw [Zb he, if_pos he]
  · rw [if_pos h, decide_eq_false (by omega)]
    rfl
end Go.Sh
namespace Go.Sh
open Go Go.Proofs
def Yu (x : Nat) : Nat := if x < 128 then 0 else if x < 192 then 1 else if x < 224 then 2 else if x < 240 then 3 else if x < 248 then 4 else if x < 252 then 5 else if x < 254 then 6 else if x < 255 then 7 else 8
theorem ZFK : ∀ x : Fin 256, Zhz 0 (IntKind.u8.wrap (Int.ofNat (BitVec.ofInt 8 255 ^^^ BitVec.ofInt 8 (x.val : Int)).toNat), ()) = some (((Yu x.val : Nat) : Int), ()) := by decide +kernel
theorem ZA0 (k : Nat) {x : Nat} (h : x < 256) : Zhz k (IntKind.u8.wrap (Int.ofNat (BitVec.ofInt 8 255 ^^^ BitVec.ofInt 8 (x : Int)).toNat), ()) = some (((Yu x : Nat) : Int), ()) := ZFK ⟨x, h⟩
theorem ZzX (x : Nat) : Yu x ≤ 8 := by
  unfold Yu
  repeat' split
  all_goals omega
theorem ZDp : ∀ (x : Fin 256) (k : Fin 8), IntKind.i64.wrap (Int.ofNat (BitVec.ofInt 64 (IntKind.i64.wrap (x.val : Int)) &&& BitVec.ofInt 64 (Int.fdiv (127 : Int) ((2 : Int) ^ min k.val 64))).toNat) = ((x.val % 2 ^ (7 - k.val) : Nat) : Int) := by decide +kernel
def cgL : Nat → List Int → Nat → Nat → Option (Nat × Nat)
  | 0, _, a, g => some (a, g)
  | n + 1, [], a, g => cgL n [] (a * 64) (g * 64 + 63)
  | n + 1, x :: xs, a, g => if x.toNat / 64 = 2 then cgL n xs (a * 64 + x.toNat % 64) (g * 64 + x.toNat % 64) else none
def ZiV (b : List Int) : Nat × Nat × Int := match b with
  | [] => (0, 0, 10)
  | x :: xs => if Yu x.toNat = 0 then (x.toNat, 1, 0) else if Yu x.toNat = 1 then (0, 0, 2) else if 7 < Yu x.toNat then (0, 0, 2)
    else match cgL (Yu x.toNat - 1) xs (x.toNat % 2 ^ (7 - Yu x.toNat)) (x.toNat % 2 ^ (7 - Yu x.toNat)) with
      | none => (0, 0, 2)
      | some (a, g) => if g < 2 ^ XK (Yu x.toNat - 1) then (0, 0, 2) else if xs.length + 1 < Yu x.toNat then (0, 0, 10) else (a, Yu x.toNat, 0)
theorem ZIY {a m : Nat} (ha : a < 1125899906842624) (hm : m < 64) : IntKind.i64.wrap (Int.ofNat (BitVec.ofInt 64 (IntKind.i64.wrap ((a : Int) * 64)) ||| BitVec.ofInt 64 (m : Int)).toNat) = ((a * 64 + m : Nat) : Int) := by
  have h1 : IntKind.i64.wrap ((a : Int) * 64) = ((a * 64 : Nat) : Int) := by rw [Z8 (by omega)]; omega
  rw [h1, orN (by omega) (by omega)]
  have := Nat.shiftLeft_add_eq_or_of_lt (i := 6) (show m < 2 ^ 6 from hm) a
  rw [Nat.shiftLeft_eq] at this
  rw [show a * 64 = a * 2 ^ 6 from rfl, ← this, Z8 (by omega)]
theorem ZNb {x : Nat} (hx : x < 256) : IntKind.i64.wrap (Int.ofNat (BitVec.ofInt 64 (IntKind.i64.wrap (x : Int)) &&& BitVec.ofInt 64 63).toNat) = ((x % 64 : Nat) : Int) := by
  rw [Z8 (n := (x : Int)) (by omega), show (63 : Int) = ((63 : Nat) : Int) from rfl, ZCh (by omega) (by omega), show (63 : Nat) = 2 ^ 6 - 1 from rfl, Nat.and_two_pow_sub_one_eq_mod, Z8 (by omega)]
theorem ZB9 (k : Nat) {b : List Int} (hb : ZN b = true) {kk : Nat} (h2 : 2 ≤ kk) (h7 : kk ≤ 7) : ∀ (d m i a g : Nat), i + d = kk → 1 ≤ i → d < m → a < 2 ^ (6 * i + 6) → g < 2 ^ (6 * i + 6) →
    Zr (fun L1 => YK k L1) m ((i : Int), (kk : Int), b, (a : Int), (g : Int)) = some (match cgL d (b.drop i) a g with
      | none => (0, 0, 2, ())
      | some (a, g) => if g < 2 ^ XK (kk - 1) then (0, 0, 2, ()) else if b.length < kk then (0, 0, 10, ()) else ((a : Int), (kk : Int), 0, ()), ()) := by
  intro d
  induction d with
  | zero =>
    intro m i a g hi h1 hm ha hg
    obtain ⟨m, rfl⟩ := Zt hm
    rw [Zi]
    simp only [YK]
    have e1 : IntKind.i64.wrap ((kk : Int) - 1) = ((kk - 1 : Nat) : Int) := by rw [Z8 (by omega)]; omega
    rw [Zj (by omega), e1, Zmx k (kk - 1) (by omega)]
    simp only [Option.bind_some, cgL]
    have hr : XK (kk - 1) ≤ 31 := by unfold XK; split <;> omega
    rw [Zb (by omega), Zka hr]
    by_cases hlt : g < 2 ^ XK (kk - 1)
    · rw [Zb (by omega), if_pos hlt]
    · rw [Zj (by omega), if_neg hlt]
      by_cases hl : b.length < kk
      · rw [Zb (by simp only [Int.ofNat_eq_natCast]; omega), if_pos hl]
      · rw [Zj (by simp only [Int.ofNat_eq_natCast]; omega), if_neg hl]
  | succ d ih =>
    intro m i a g hi h1 hm ha hg
    obtain ⟨m, rfl⟩ := Zt (show 0 < m by omega)
    rw [Zi]
    simp only [YK]
    have hpow : 2 ^ (6 * i + 6) ≤ 2 ^ 42 := Nat.pow_le_pow_right (by omega) (by omega)
    have hnext : 2 ^ (6 * (i + 1) + 6) = 64 * 2 ^ (6 * i + 6) := by rw [show 6 * (i + 1) + 6 = (6 * i + 6) + 6 by omega, Nat.pow_add]; omega
    have e2 : IntKind.i64.wrap ((i : Int) + 1) = ((i + 1 : Nat) : Int) := by rw [Z8 (by omega)]; rfl
    rw [Zb (by omega)]
    by_cases hlt : i < b.length
    · obtain ⟨x, hx, hxe⟩ := W6 hb hlt
      rw [Zb (by simp only [Int.ofNat_eq_natCast]; omega), Zb (by simp only [Int.ofNat_eq_natCast]; omega), Int.toNat_natCast, YG hlt, hxe, List.drop_eq_getElem_cons hlt, hxe]
      have hd : ((x : Nat) : Int).fdiv 64 = ((x / 64 : Nat) : Int) := by rw [Int.fdiv_eq_ediv_of_nonneg _ (by omega)]; rfl
      rw [hd, ZT]
      simp only [cgL, Int.toNat_natCast]
      by_cases h64 : x / 64 = 2
      · rw [Zj (by omega), if_pos h64, Zb (by simp only [Int.ofNat_eq_natCast]; omega), ZNb hx, ZIY (by omega) (by omega), ZIY (by omega) (by omega), e2]
        exact ih m (i + 1) _ _ (by omega) (by omega) (by omega) (by omega) (by omega)
      · rw [Zb (by omega), if_neg h64]
    · rw [Zj (by simp only [Int.ofNat_eq_natCast]; omega), show (0 : Int) = ((0 : Nat) : Int) from rfl, show (63 : Int) = ((63 : Nat) : Int) from rfl, ZIY (by omega) (by omega), ZIY (by omega) (by omega), e2]
      have hd0 : b.drop i = [] := List.drop_eq_nil_of_le (by omega)
      have hd1 : b.drop (i + 1) = [] := List.drop_eq_nil_of_le (by omega)
      have := ih m (i + 1) (a * 64 + 0) (g * 64 + 63) (by omega) (by omega) (by omega) (by omega) (by omega)
      rw [hd1] at this
      rw [hd0]
      exact this
theorem ZAI (k : Nat) {b : List Int} (hb : ZN b = true) (hk : 20 < k) : Zm6 k (b, ()) = some (((((ZiV b).1 : Nat) : Int), (((ZiV b).2.1 : Nat) : Int), (ZiV b).2.2, ()), ()) := by
  show ZdU k (Zld k) _ = _
  simp only [ZdU]
  match b, hb with
  | [], _ => rfl
  | x :: xs, hb =>
    obtain ⟨y, hy, hye⟩ := W6 hb (i := 0) (by simp)
    simp only [List.getElem_cons_zero] at hye
    subst hye
    rw [show (Int.ofNat ((y : Int) :: xs).length == (0 : Int)) = false from by rw [ZI, decide_eq_false]; simp only [Int.ofNat_eq_natCast, List.length_cons]; omega]
    simp only [cond_false]
    have hpos : (0 : Int) ≤ 0 ∧ (0 : Int) < Int.ofNat ((y : Int) :: xs).length := by simp only [Int.ofNat_eq_natCast, List.length_cons]; omega
    rw [Zb hpos, show ((y : Int) :: xs).getD 0 0 = (y : Int) from rfl, ZA0 k hy]
    simp only [Option.bind_some]
    unfold ZiV
    simp only [Int.toNat_natCast]
    have h8 := ZzX y
    rw [ZI]
    by_cases h0 : Yu y = 0
    · rw [Zb (by omega), Zb hpos, if_pos h0, Z8 (by omega)]
      rfl
    · rw [Zj (by omega), if_neg h0, ZI]
      by_cases h1 : Yu y = 1
      · rw [Zb (by omega), if_pos h1]
        rfl
      · rw [Zj (by omega), if_neg h1]
        by_cases h7 : 7 < Yu y
        · rw [Zb (by omega), if_pos h7]
          rfl
        · rw [Zj (by omega), if_neg h7, Zb hpos, Zb (by omega), Zb hpos, Zb (by omega)]
          have hm := ZDp ⟨y, hy⟩ ⟨Yu y, by omega⟩
          simp only at hm
          rw [hm]
          have hlt : y % 2 ^ (7 - Yu y) < 2 ^ (6 * 1 + 6) := Nat.lt_of_le_of_lt (Nat.mod_le _ _) (by omega)
          refine (ZB9 k hb (kk := Yu y) (by omega) (by omega) (Yu y - 1) k 1 _ _ (by omega) (by omega) (by omega) hlt hlt).trans ?_
          rw [show ((y : Int) :: xs).drop 1 = xs from rfl]
          cases cgL (Yu y - 1) xs (y % 2 ^ (7 - Yu y)) (y % 2 ^ (7 - Yu y)) with
          | none => rfl
          | some ag =>
            obtain ⟨a, g⟩ := ag
            simp only [List.length_cons]
            by_cases hg : g < 2 ^ XK (Yu y - 1)
            · rw [if_pos hg, if_pos hg]; rfl
            · rw [if_neg hg, if_neg hg]
              by_cases hl : xs.length + 1 < Yu y
              · rw [if_pos hl, if_pos hl]; rfl
              · rw [if_neg hl, if_neg hl]
def tgL (m x y : Int) : Int := if m = 9 then x + y else if m = 10 then (2 * x + y % 2 + y) / 2 else x
def tgR (m x y : Int) : Int := if m = 8 then x - y else if m = 10 then (2 * x + y % 2 - y) / 2 else y
theorem ZKE {x y : Int} (hx : Qa x) (hy : Qa y) : IntKind.i64.wrap (Int.ofNat (BitVec.ofInt 64 (IntKind.i64.wrap (x * 2)) ||| BitVec.ofInt 64 (IntKind.i64.wrap (Int.ofNat (BitVec.ofInt 64 y &&& BitVec.ofInt 64 1).toNat))).toNat) = 2 * x + y % 2 := by
  unfold Qa at hx hy
  have e1 : IntKind.i64.wrap (Int.ofNat (BitVec.ofInt 64 y &&& BitVec.ofInt 64 1).toNat) = (((y % 2).toNat : Nat) : Int) := by
    rw [BitVec.toNat_and, Yk, show (BitVec.ofInt 64 1).toNat = 1 from rfl, Nat.and_one_is_mod]
    have : YF y % 2 = (y % 2).toNat := by unfold YF; omega
    rw [this, Z8 (by simp only [Int.ofNat_eq_natCast]; omega)]
    rfl
  rw [e1, Z8 (n := x * 2) (by omega), BitVec.toNat_or, Yk, Yk]
  have e2 : YF (((y % 2).toNat : Nat) : Int) = (y % 2).toNat := by unfold YF; omega
  obtain ⟨q, hq⟩ : ∃ q, YF (x * 2) = q * 2 := ⟨YF (x * 2) / 2, by unfold YF; omega⟩
  have hb : (y % 2).toNat < 2 ^ 1 := by omega
  have := Nat.shiftLeft_add_eq_or_of_lt hb q
  rw [Nat.shiftLeft_eq] at this
  rw [e2, hq, show q * 2 = q * 2 ^ 1 from rfl, ← this]
  have h3 : q * 2 = YF (x * 2) := hq.symm
  unfold YF at h3
  rw [IntKind.wrap_i64]
  simp only [Int.ofNat_eq_natCast]
  omega
def ZfN (m : Int) (A B : List Int) : List Int := (A.zip B).map fun x => tgL m x.1 x.2
def Zha (m : Int) (A B : List Int) : List Int := (A.zip B).map fun x => tgR m x.1 x.2
def XL (x : Int) : Bool := decide (-16777216 ≤ x ∧ x ≤ 16777216)
theorem ZH1 (k : Nat) {L R : List Int} (hk : L.length < k) (h : L.length = R.length) (hn : L.length ≤ 8192) :
    Zmt k (L, R, ()) = some (if (L.zip R).all (fun x => XL x.1 && XL x.2) = true then (Zcy L R, 0, ()) else ([], 12, ()), ()) := by
  show ZaB k (ZnT k) _ = _
  simp only [ZaB]
  rw [show (Int.ofNat L.length != Int.ofNat R.length) = false from by rw [h]; simp]
  simp only [cond_false]
  rw [Zj (by simp only [Int.ofNat_eq_natCast]; omega)]
  have := Zz (A := List (Nat × Nat)) (step := fun L1 => XD k L1) (fun i acc => (Int.ofNat L.length, Int.ofNat i, L, R, acc)) (L.zip R)
    (fun l acc => some (if l.all (fun x => XL x.1 && XL x.2) = true then (acc ++ l.map (fun x => (FloatKind.f64.nearest x.1, FloatKind.f64.nearest x.2)), 0, ()) else ([], 12, ()), ())) (fun i acc => acc.length = i)
    (fun L1 acc ha => by
      simp only [XD]
      rw [List.length_zip, ← h, Nat.min_self, Zj (WB _)]
      simp)
    (fun L1 i hi acc ha hL1 => by
      have hi2 : i < L.length := by simp at hi; omega
      have hi3 : i < R.length := by omega
      simp only [XD]
      rw [Zb (ltR hi2), Zb (inR hi2), Zb (inR hi3), ZR hi2, ZR hi3, List.all_cons, List.getElem_zip]
      have hok : ∀ x : Int, XL x = true ↔ (¬ x < -16777216 ∧ ¬ 16777216 < x) := by intro x; unfold XL; rw [decide_eq_true_eq]; omega
      by_cases h1 : L[i] < -16777216
      · have : XL L[i] = false := by rw [Bool.eq_false_iff]; intro hh; exact ((hok _).1 hh).1 h1
        rw [Zb h1, this]; rfl
      · rw [Zj h1]
        by_cases h2 : 16777216 < L[i]
        · have : XL L[i] = false := by rw [Bool.eq_false_iff]; intro hh; exact ((hok _).1 hh).2 h2
          rw [Zb h2, this]; rfl
        · have hl : XL L[i] = true := (hok _).2 ⟨h1, h2⟩
          rw [Zj h2]
          by_cases h3 : R[i] < -16777216
          · have : XL R[i] = false := by rw [Bool.eq_false_iff]; intro hh; exact ((hok _).1 hh).1 h3
            rw [Zb h3, hl, this]; rfl
          · rw [Zj h3]
            by_cases h4 : 16777216 < R[i]
            · have : XL R[i] = false := by rw [Bool.eq_false_iff]; intro hh; exact ((hok _).1 hh).2 h4
              rw [Zb h4, hl, this]; rfl
            · have hr : XL R[i] = true := (hok _).2 ⟨h3, h4⟩
              rw [Zj h4, Zb (by simp; omega), QK hi2 (by omega), hL1 _ (by simp [ha]), hl, hr]
              simp only [Bool.true_and, Bool.and_true, List.map_cons, List.append_assoc, List.singleton_append]) k 0 [] rfl (by simp; omega) (Nat.zero_le _)
  exact Eq.trans this (by rw [List.drop_zero]; rfl)
theorem ZDe {m x y : Int} (hm : ZjG m) (hx : Qa x) (hy : Qa y) : -300000000 ≤ tgL m x y ∧ tgL m x y ≤ 300000000 ∧ -300000000 ≤ tgR m x y ∧ tgR m x y ≤ 300000000 := by
  unfold Qa at hx hy
  unfold tgL tgR
  rcases hm with rfl | rfl | rfl | rfl
  · simp; omega
  · simp; omega
  · simp; omega
  · simp; omega
def QP (m : Int) (A B : List Int) : List (Nat × Nat) × Int :=
  if A.length ≠ B.length then ([], 1) else if ((ZfN m A B).zip (Zha m A B)).all (fun x => XL x.1 && XL x.2) = true then (Zcy (ZfN m A B) (Zha m A B), 0) else ([], 12)
theorem Zuq {xs : List Int} {g : List Int} {i : Nat} {v : Int} (h : i < xs.length) (hx : ∀ j (h : j < i), xs[j]? = g[j]?) (hv : g[i]? = some v) : ∀ j, j < i + 1 → (xs.set i v)[j]? = g[j]? := by
  intro j hj
  rw [List.getElem?_set]
  split
  · rename_i e; subst e; rw [hv]; try rw [if_pos h]
  · exact hx j (by omega)
theorem ZCX (k : Nat) {A B : List Int} {m : Int} (hm : ZjG m) (hn : A.length ≤ 600) (hk : 1000 < k) (hA : ∀ x ∈ A, Qa x) (hB : ∀ x ∈ B, Qa x) :
    ZnN k (A, B, m, ()) = some (((QP m A B).1, (QP m A B).2, ()), ()) := by
  show Zgb k (Zuh k) _ = _
  simp only [Zgb]
  rw [Zuu k hm]
  simp only [Option.bind_some, Bool.not_true, cond_false]
  by_cases hl : A.length = B.length
  case neg =>
    rw [ZT, Zb (by simp only [Int.ofNat_eq_natCast]; omega)]
    unfold QP
    rw [if_pos hl]
  rw [show (Int.ofNat A.length != Int.ofNat B.length) = false from by rw [hl]; simp]
  simp only [cond_false]
  rw [Zj (by simp only [Int.ofNat_eq_natCast]; omega), Zb (by simp only [Int.ofNat_eq_natCast]; omega), Zb (by simp only [Int.ofNat_eq_natCast]; omega)]
  have hzl : (A.zip B).length = A.length := by rw [List.length_zip]; omega
  have hLl : (ZfN m A B).length = A.length := by unfold ZfN; rw [List.length_map, hzl]
  have hRl : (Zha m A B).length = A.length := by unfold Zha; rw [List.length_map, hzl]
  have hgL : ∀ (i : Nat) (h : i < A.length), (ZfN m A B)[i]? = some (tgL m A[i] (B[i]'(by omega))) := by
    intro i h
    rw [List.getElem?_eq_getElem (by omega)]
    unfold ZfN
    rw [List.getElem_map, List.getElem_zip]
  have hgR : ∀ (i : Nat) (h : i < A.length), (Zha m A B)[i]? = some (tgR m A[i] (B[i]'(by omega))) := by
    intro i h
    rw [List.getElem?_eq_getElem (by omega)]
    unfold Zha
    rw [List.getElem_map, List.getElem_zip]
  have := Zz (A := List Int × List Int) (R := (List (Nat × Nat) × Int × Unit) × Unit) (step := fun L1 => Kq k L1)
    (fun i a => (Int.ofNat A.length, Int.ofNat i, A, B, m, a.1, a.2)) A
    (fun l' a => some (((QP m A B).1, (QP m A B).2, ()), ()))
    (fun i a => a.1.length = A.length ∧ a.2.length = A.length ∧ (∀ j, j < i → a.1[j]? = (ZfN m A B)[j]?) ∧ (∀ j, j < i → a.2[j]? = (Zha m A B)[j]?))
    (fun L a ha => by
      simp only [Kq]
      rw [Zj (WB _)]
      have e1 : a.1 = ZfN m A B := by
        apply List.ext_getElem?
        intro j
        by_cases hj : j < A.length
        · exact ha.2.2.1 j hj
        · rw [List.getElem?_eq_none (by omega), List.getElem?_eq_none (by omega)]
      have e2 : a.2 = Zha m A B := by
        apply List.ext_getElem?
        intro j
        by_cases hj : j < A.length
        · exact ha.2.2.2 j hj
        · rw [List.getElem?_eq_none (by omega), List.getElem?_eq_none (by omega)]
      rw [e1, e2, ZH1 k (by omega) (by omega) (by omega)]
      simp only [Option.bind_some]
      unfold QP
      rw [if_neg (show ¬ A.length ≠ B.length from fun h => h hl)]
      split <;> rfl)
    (fun L i hi a ha hL => by
      have hi2 : i < B.length := by omega
      have hx := hA A[i] (List.getElem_mem hi)
      have hy := hB B[i] (List.getElem_mem hi2)
      have hbd := ZDe hm hx hy
      have key : Kq k L (Int.ofNat A.length, Int.ofNat i, A, B, m, a.1, a.2) = L (Int.ofNat A.length, Int.ofNat (i + 1), A, B, m, a.1.set i (tgL m A[i] B[i]), a.2.set i (tgR m A[i] B[i])) := by
        have hor := ZKE hx hy
        unfold Qa at hx hy
        simp only [Kq]
        rw [Zb (ltR hi), Zb (inR hi), Zb (inR hi2), ZR hi, ZR hi2, Zj (by split <;> omega), Zj (by split <;> omega)]
        have c1 : (0 : Int) ≤ Int.ofNat i ∧ Int.ofNat i < Int.ofNat a.1.length := by rw [ha.1]; exact inR hi
        have c2 : (0 : Int) ≤ Int.ofNat i ∧ Int.ofNat i < Int.ofNat a.2.length := by rw [ha.2.1]; exact inR hi
        have c3 : (Int.ofNat i).toNat < a.1.length := by rw [ha.1]; simpa using hi
        have c4 : (Int.ofNat i).toNat < a.2.length := by rw [ha.2.1]; simpa using hi
        rw [ZI, ZI, ZI, ZI]
        simp only [decide_eq_true c1, decide_eq_true c2, decide_eq_true c3, decide_eq_true c4, cond_true]
        rw [hor, QK hi (by omega)]
        unfold tgL tgR
        rcases hm with rfl | rfl | rfl | rfl
        · rfl
        · rw [Z8 (n := A[i] - B[i]) (by omega)]; rfl
        · rw [Z8 (n := A[i] + B[i]) (by omega)]; rfl
        · rw [Z8 (n := 2 * A[i] + B[i] % 2 + B[i]) (by omega), Z8 (n := 2 * A[i] + B[i] % 2 - B[i]) (by omega), Int.fdiv_eq_ediv_of_nonneg _ (by omega), Int.fdiv_eq_ediv_of_nonneg _ (by omega)]
          rfl
      rw [key]
      exact hL (a.1.set i (tgL m A[i] B[i]), a.2.set i (tgR m A[i] B[i])) ⟨by simp [ha.1], by simp [ha.2.1], Zuq (by omega) ha.2.2.1 (hgL i hi), Zuq (by omega) ha.2.2.2 (hgR i hi)⟩)
    k 0 (List.replicate A.length 0, List.replicate A.length 0) ⟨by simp, by simp, fun j hj => by omega, fun j hj => by omega⟩ (by omega) (Nat.zero_le _)
  exact this
theorem ZC9 (k : Nat) {p : List (Nat × Nat)} {L R : List Int} (hp : PP p L R) (hk : p.length + 4 < k) (hn : p.length ≤ 8192) : ZmY k (p, ()) = some ((L, R, 0, ()), ()) := by
  show Zg7 k _ = _
  simp only [Zg7]
  rw [ZoC k hp hk hn (.inl rfl)]
  have hlr : L.length = R.length := by rw [← hp.hl, hp.hr]
  have e1 : Yt 0 L R = L := by
    unfold Yt
    show (L.zip R).map (fun x => x.1) = L
    exact List.map_fst_zip (by omega)
  have e2 : Yv 0 L R = R := by
    unfold Yv
    show (L.zip R).map (fun x => x.2) = R
    exact List.map_snd_zip (by omega)
  rw [e1, e2]
  rfl
end Go.Sh
namespace Go.Sh
open Go Go.Proofs
abbrev InT := List Int × (List Int × Int × Unit) × Int × Unit
abbrev inp (b : List Int) (s : IS) : InT := (b, X8 b s.1, s.2, ())
theorem WV (k : Nat) {b : List Int} (hb : ZN b = true) (hn : b.length < 268435456) (hk : 100 < k) {s : IS} (hs : Zk b s.1) {w : Nat} (hw : w ≤ 32) :
    QX k (inp b s, (w : Int), ()) = some ((((gI w s).1 : Nat) : Int), inp b (gI w s).2, ()) := by
  show Zgv k _ = _
  simp only [Zgv]
  unfold gI
  rw [ZI]
  by_cases h : s.2 = 0
  · rw [Zb h, if_pos h, Xb k hb (by omega) hs hw hk]
    rfl
  · rw [Zj h, if_neg h]
    rfl
theorem QT (k : Nat) {b : List Int} {s : IS} (ok : Bool) (code : Int) : Qz k (inp b s, ok, code, ()) = some ((), inp b (mI ok s code), ()) := by
  show ZfV k _ = _
  simp only [ZfV]
  unfold mI
  rw [ZI]
  by_cases h : s.2 = 0
  · rw [Zb h]
    cases ok with
    | false => rw [if_pos ⟨h, rfl⟩]; rfl
    | true => rw [if_neg (by simp)]; rfl
  · rw [Zj h, if_neg (fun hh => h hh.1)]
def Zjy (c : Int) (m : Nat) : Bool := if c = 1 then m == 0 else m == 1 || (decide (8 ≤ m) && decide (m ≤ 10))
theorem ZCr (k : Nat) (c d r : Int) (m : Nat) : ZnF k ((c, d, r, ()), (m : Int), ()) = some (Zjy c m, ()) := by
  show Zgr k _ = _
  simp only [Zgr]
  unfold Zjy
  rw [ZI, show ((m : Int) == (0 : Int)) = (m == 0) from QW m 0, show ((m : Int) == (1 : Int)) = (m == 1) from QW m 1]
  by_cases h : c = 1
  · rw [Zb h, if_pos h]
  · rw [Zj h, if_neg h]
    cases m == 1 with
    | true => rfl
    | false =>
      simp only [cond_false, Bool.false_or]
      by_cases h8 : 8 ≤ m
      · rw [Zb (by omega), decide_eq_true h8, Bool.true_and]
        by_cases h10 : m ≤ 10
        · rw [decide_eq_true h10, decide_eq_true (by omega)]
        · rw [decide_eq_false h10, decide_eq_false (by omega)]
      · rw [Zj (by omega), decide_eq_false h8, Bool.false_and]
def ZzN : Nat → IS → IS
  | 0, s => s
  | n + 1, s => ZzN n (gI 8 s).2
theorem Zm2 {b : List Int} : ∀ (n : Nat) (s : IS), Zk b s.1 → Zk b (ZzN n s).1
  | 0, s, h => h
  | n + 1, s, h => Zm2 n _ (Qg h 8)
def ZjI (b : List Int) (s : IS) : Nat × IS :=
  if s.2 ≠ 0 then (0, s) else ((ZiV (b.drop (ZS b s.1 / 8))).1, mI (decide ((ZiV (b.drop (ZS b s.1 / 8))).1 ≤ 2147483647)) (ZzN (ZiV (b.drop (ZS b s.1 / 8))).2.1 (s.1, (ZiV (b.drop (ZS b s.1 / 8))).2.2)) 2)
theorem Zqw {b : List Int} {s : IS} (h : Zk b s.1) : Zk b (ZjI b s).2.1 := by
  unfold ZjI
  split
  · exact h
  · exact Qe (Zm2 (ZiV (b.drop (ZS b s.1 / 8))).2.1 (s.1, (ZiV (b.drop (ZS b s.1 / 8))).2.2) h) _ _
theorem ZuL {b : List Int} (h : ZN b = true) (i : Nat) : ZN (b.drop i) = true :=
  List.all_eq_true.2 fun x hx => List.all_eq_true.1 h x (List.mem_of_mem_drop hx)
theorem Zjn {b : List Int} (h : ZN b = true) (i : Nat) : ZN (b.take i) = true :=
  List.all_eq_true.2 fun x hx => List.all_eq_true.1 h x (List.mem_of_mem_take hx)
theorem ZBL (b : List Int) : (ZiV b).2.1 ≤ 8 := by
  unfold ZiV
  split
  · simp
  · rename_i x xs
    have := ZzX x.toNat
    repeat' split
    all_goals simp
    all_goals omega
theorem ZEI (k : Nat) {b : List Int} (hb : ZN b = true) (hn : b.length < 268435456) (hk : 1000 < k) {s : IS} (hs : Zk b s.1) :
    ZfP k (inp b s, ()) = some ((((ZjI b s).1 : Nat) : Int), inp b (ZjI b s).2, ()) := by
  show ZfE k (ZtP k) _ = _
  simp only [ZfE]
  unfold ZjI
  rw [ZT]
  by_cases h : s.2 = 0
  · rw [Zj (by simpa using h), if_neg (by simpa using h)]
    have e51 : Kl k ((b, ((ZS b s.1 : Nat) : Int), ()), ()) = some (((ZS b s.1 : Nat) : Int), X8 b s.1, ()) := rfl
    rw [e51]
    simp only [Option.bind_some]
    have hp : ZS b s.1 ≤ 8 * b.length := by unfold ZS; omega
    rw [Zpd, Z8 (n := ((ZS b s.1 / 8 : Nat) : Int)) (by omega), Zb (by simp only [Int.ofNat_eq_natCast]; omega), Int.toNat_natCast, show (Int.ofNat b.length).toNat = b.length from rfl, List.take_length]
    rw [ZAI k (ZuL hb _) (by omega)]
    simp only [Option.bind_some]
    have hu := ZBL (b.drop (ZS b s.1 / 8))
    generalize ZiV (b.drop (ZS b s.1 / 8)) = c at hu
    have H : ∀ (d m i : Nat) (t : IS), Zk b t.1 → d < m → i + d ≤ 8 →
        Zr (fun L1 => Zax k L1) m (((i + d : Nat) : Int), (i : Int), ((c.1 : Nat) : Int), b, t.2, b, ((ZS b t.1 : Nat) : Int)) = some (((c.1 : Nat) : Int), inp b (mI (decide (c.1 ≤ 2147483647)) (ZzN d t) 2), ()) := by
      intro d
      induction d with
      | zero =>
        intro m i t ht hm hi
        obtain ⟨m, rfl⟩ := Zt hm
        rw [Zi]
        simp only [Zax]
        rw [Zj (by omega)]
        refine (Zg (QT k (b := b) (s := t) _ _) _).trans ?_
        have : decide (((c.1 : Nat) : Int) ≤ 2147483647) = decide (c.1 ≤ 2147483647) := by
          by_cases h : c.1 ≤ 2147483647
          · rw [decide_eq_true h, decide_eq_true (by omega)]
          · rw [decide_eq_false h, decide_eq_false (by omega)]
        rw [this]
        rfl
      | succ d ih =>
        intro m i t ht hm hi
        obtain ⟨m, rfl⟩ := Zt (show 0 < m by omega)
        rw [Zi]
        simp only [Zax]
        rw [Zb (by omega)]
        refine (Zg (WV k hb hn (by omega) ht (w := 8) (by omega)) _).trans ?_
        have e2 : IntKind.i64.wrap ((i : Int) + 1) = ((i + 1 : Nat) : Int) := by rw [Z8 (by omega)]; rfl
        rw [e2]
        have := ih m (i + 1) (gI 8 t).2 (Qg ht 8) (by omega) (by omega)
        rw [show i + 1 + d = i + (d + 1) by omega] at this
        exact this
    have := H c.2.1 k 0 (s.1, c.2.2) hs (by omega) (by omega)
    rw [Nat.zero_add] at this
    exact this
  · rw [Zb h, if_pos h]
    rfl
def ZhV (of : List Int → Nat) (b : List Int) (w : Nat) (s : IS) : IS := if (gI w s).2.2 ≠ 0 then (gI w s).2 else mI ((gI w s).1 == of (b.take (ZS b s.1 / 8))) (gI w s).2 16
theorem ZA5 {of : List Int → Nat} {b : List Int} {s : IS} (h : Zk b s.1) (w : Nat) : Zk b (ZhV of b w s).1 := by
  unfold ZhV
  split
  · exact Qg h _
  · exact Qe (Qg h _) _ _
theorem Zrj (s : IS) (code : Int) : mI true s code = s := by unfold mI; rw [if_neg (by simp)]
theorem Zvq (k : Nat) {b : List Int} (hb : ZN b = true) (hn : b.length < 268435456) (hk : b.length + 1000 < k) {s : IS} (hs : Zk b s.1) {w : Nat} (hw : w ≤ 32) :
    ZeD k (inp b s, (w : Int), (), ()) = some ((), inp b (ZhV Zwx b w s), ()) := by
  show Zgu k _ = _
  simp only [Zgu]
  have e51 : Kl k ((b, ((ZS b s.1 : Nat) : Int), ()), ()) = some (((ZS b s.1 : Nat) : Int), X8 b s.1, ()) := rfl
  rw [e51]
  simp only [Option.bind_some]
  refine (Zg (WV k hb hn (by omega) hs hw) _).trans ?_
  unfold ZhV
  simp only
  rw [ZT]
  by_cases h : (gI w s).2.2 = 0
  · rw [Zj (by simpa using h), if_neg (by simpa using h)]
    have hp : ZS b s.1 ≤ 8 * b.length := by unfold ZS; omega
    rw [Zpd, Z8 (n := ((ZS b s.1 / 8 : Nat) : Int)) (by omega), Zb (by simp only [Int.ofNat_eq_natCast]; omega), Int.toNat_natCast, List.drop_zero]
    have htl : (b.take (ZS b s.1 / 8)).length ≤ b.length := by rw [List.length_take]; omega
    refine (Zg (Zvr k (b.take (ZS b s.1 / 8)) (Zjn hb _) (by omega) (by omega)) _).trans ?_
    simp only
    rw [QW]
    exact Zg (QT k (b := b) (s := (gI w s).2) _ _) _
  · rw [Zb h, if_pos h]
    refine (Zg (QT k (b := b) (s := (gI w s).2) _ _) _).trans ?_
    rw [Zrj]
theorem ZyC (k : Nat) {b : List Int} (hb : ZN b = true) (hn : b.length < 268435456) (hk : b.length + 1000 < k) {s : IS} (hs : Zk b s.1) {w : Nat} (hw : w ≤ 32) :
    Zgk k (inp b s, (w : Int), (), ()) = some ((), inp b (ZhV Yj b w s), ()) := by
  show Zbb k _ = _
  simp only [Zbb]
  have e51 : Kl k ((b, ((ZS b s.1 : Nat) : Int), ()), ()) = some (((ZS b s.1 : Nat) : Int), X8 b s.1, ()) := rfl
  rw [e51]
  simp only [Option.bind_some]
  refine (Zg (WV k hb hn (by omega) hs hw) _).trans ?_
  unfold ZhV
  simp only
  rw [ZT]
  by_cases h : (gI w s).2.2 = 0
  · rw [Zj (by simpa using h), if_neg (by simpa using h)]
    have hp : ZS b s.1 ≤ 8 * b.length := by unfold ZS; omega
    rw [Zpd, Z8 (n := ((ZS b s.1 / 8 : Nat) : Int)) (by omega), Zb (by simp only [Int.ofNat_eq_natCast]; omega), Int.toNat_natCast, List.drop_zero]
    have htl : (b.take (ZS b s.1 / 8)).length ≤ b.length := by rw [List.length_take]; omega
    refine (Zg (ZuM k (b.take (ZS b s.1 / 8)) (Zjn hb _) (by omega) (by omega)) _).trans ?_
    simp only
    rw [QW]
    exact Zg (QT k (b := b) (s := (gI w s).2) _ _) _
  · rw [Zb h, if_pos h]
    refine (Zg (QT k (b := b) (s := (gI w s).2) _ _) _).trans ?_
    rw [Zrj]
def hd1 (s : IS) : IS := mI ((gI 15 s).1 == 32764) (gI 15 s).2 11
def hd2 (s : IS) : IS := mI ((gI 1 s).1 == 0) (gI 1 s).2 2
def hd3 (s : IS) : Nat × IS := ((gI 4 s).1, mI ((gI 4 s).1 == 6 || (gI 4 s).1 == 7) (gI 4 s).2 2)
def hd4 (s : IS) : IS := mI ((gI 4 s).1 == 0) (gI 4 s).2 2
def hd5 (c : Int) (s : IS) : Nat × IS := ((gI 4 s).1, mI (Zjy c (gI 4 s).1) (gI 4 s).2 2)
def hd6 (kind : Nat) (s : IS) : Nat × IS := if s.2 = 0 then ((gI (8 * (kind - 5)) s).1 + 1, mI (decide ((gI (8 * (kind - 5)) s).1 + 1 ≤ 512)) (gI (8 * (kind - 5)) s).2 1) else (0, s)
abbrev HdT := Nat × Nat × Nat × IS
def Zwi (b : List Int) (kind mode num : Nat) (s : IS) : HdT := (mode, num, (hd6 kind s).1, ZhV Zwx b 8 (hd6 kind s).2)
def ZII (b : List Int) (kind mode : Nat) (s : IS) : HdT := Zwi b kind mode (ZjI b s).1 (ZjI b s).2
def ZIR (c : Int) (b : List Int) (kind : Nat) (s : IS) : HdT := ZII b kind (hd5 c s).1 (hd4 (hd5 c s).2)
def Zv8 (c : Int) (b : List Int) (kind : Nat) (s : IS) : HdT := ZIR c b kind (hd4 s)
def ZbP (c : Int) (b : List Int) (s : IS) : HdT := Zv8 c b (hd3 (hd2 (hd1 s))).1 (hd3 (hd2 (hd1 s))).2
abbrev ZNO := (Int × Int × Int × Unit) × InT × Unit
def ZsV (k : Nat) (kind mode num : Int) (w : InT) : Option ZNO :=
  bif w.2.2.1 == (0 : Int) then (QX k (w, IntKind.i64.wrap ((8 : Int) * IntKind.i64.wrap (IntKind.i64.wrap (kind - (6 : Int)) + (1 : Int))), ())).bind fun y => (Qz k (y.2.1, decide (IntKind.i64.wrap (y.1 + (1 : Int)) ≤ (512 : Int)), 1, ())).bind fun y_10 => (ZeD k (y_10.2.1, 8, (), ())).bind fun y_11 => some ((mode, num, IntKind.i64.wrap (y.1 + (1 : Int)), ()), y_11.2.1, ())
  else (Qz k (w, decide ((0 : Int) ≤ (512 : Int)), 1, ())).bind fun y => (ZeD k (y.2.1, 8, (), ())).bind fun y => some ((mode, num, 0, ()), y.2.1, ())
def ZtO (k : Nat) (sh : Int × Int × Int × Unit) (kind : Int) (w : InT) : Option ZNO :=
  (QX k (w, 4, ())).bind fun y_2 => (Qz k (y_2.2.1, y_2.1 == (0 : Int), 2, ())).bind fun y_3 => (QX k (y_3.2.1, 4, ())).bind fun y_4 => (ZnF k (sh, y_4.1, ())).bind fun y_5 => (Qz k (y_4.2.1, y_5.1, 2, ())).bind fun y_6 => (QX k (y_6.2.1, 4, ())).bind fun y_7 => (Qz k (y_7.2.1, y_7.1 == (0 : Int), 2, ())).bind fun y_8 => (ZfP k (y_8.2.1, ())).bind fun y_9 => ZsV k kind y_4.1 y_9.1 y_9.2.1
theorem ZB0 (k : Nat) (w : InT) (sh : Int × Int × Int × Unit) : ZqD k (w, sh, ()) =
    (QX k (w, 15, ())).bind fun y => (Qz k (y.2.1, y.1 == (32764 : Int), 11, ())).bind fun y => (QX k (y.2.1, 1, ())).bind fun y => (Qz k (y.2.1, y.1 == (0 : Int), 2, ())).bind fun y => (QX k (y.2.1, 4, ())).bind fun y =>
      bif y.1 == (6 : Int) then (Qz k (y.2.1, true, 2, ())).bind fun y_1 => ZtO k sh y.1 y_1.2.1 else (Qz k (y.2.1, y.1 == (7 : Int), 2, ())).bind fun y_1 => ZtO k sh y.1 y_1.2.1 := rfl
theorem ZsP {w : Nat} {s : IS} (h : (gI w s).2.2 = 0) : s.2 = 0 := by
  unfold gI at h
  split at h
  · rename_i h0; exact h0
  · exact h
theorem Zpp {b : List Int} {s : IS} (h : (ZjI b s).2.2 = 0) : s.2 = 0 := by
  unfold ZjI at h
  split at h
  · exact h
  · rename_i h0; simpa using h0
theorem Zn8 {s : IS} (h : (hd4 s).2 = 0) : s.2 = 0 := ZsP ((KL (by decide)).1 h).1
theorem ZvP {c : Int} {s : IS} (h : (hd5 c s).2.2 = 0) : s.2 = 0 ∧ Zjy c (hd5 c s).1 = true := ⟨ZsP ((KL (by decide)).1 h).1, ((KL (by decide)).1 h).2⟩
theorem ZEr {s : IS} (h : (hd3 s).2.2 = 0) : (hd3 s).1 = 6 ∨ (hd3 s).1 = 7 := by
  have := ((KL (by decide)).1 h).2
  show (gI 4 s).1 = 6 ∨ (gI 4 s).1 = 7
  simpa using this
theorem ZFX {b : List Int} {s : IS} (h : Zk b s.1) (kind : Nat) : Zk b (hd6 kind s).2.1 := by
  unfold hd6
  split
  · exact Qe (Qg h _) _ _
  · exact h
theorem ZwC (k : Nat) {b : List Int} (hb : ZN b = true) (hn : b.length < 268435456) (hk : b.length + 1000 < k) {s : IS} (hs : Zk b s.1) {kind : Nat} (hkind : s.2 = 0 → kind = 6 ∨ kind = 7) (mode num : Nat) :
    ZsV k (kind : Int) (mode : Int) (num : Int) (inp b s) = some (((((Zwi b kind mode num s).1 : Nat) : Int), (((Zwi b kind mode num s).2.1 : Nat) : Int), (((Zwi b kind mode num s).2.2.1 : Nat) : Int), ()), inp b (Zwi b kind mode num s).2.2.2, ()) := by
  unfold ZsV Zwi hd6
  rw [ZI]
  by_cases h : s.2 = 0
  · rw [Zb h]
    simp only [if_pos h]
    have e1 : IntKind.i64.wrap ((8 : Int) * IntKind.i64.wrap (IntKind.i64.wrap ((kind : Int) - (6 : Int)) + (1 : Int))) = ((8 * (kind - 5) : Nat) : Int) := by
      rcases hkind h with rfl | rfl <;> rfl
    have hw : 8 * (kind - 5) ≤ 32 := by rcases hkind h with rfl | rfl <;> omega
    rw [e1]
    refine (Zg (WV k hb hn (by omega) hs hw) _).trans ?_
    have hlt := ZNv (8 * (kind - 5)) s
    have r1 := Qg hs (8 * (kind - 5))
    have h32 : 2 ^ (8 * (kind - 5)) ≤ 2 ^ 32 := Nat.pow_le_pow_right (by omega) hw
    generalize gI (8 * (kind - 5)) s = x at hlt r1 ⊢
    have e2 : IntKind.i64.wrap (((x.1 : Nat) : Int) + 1) = ((x.1 + 1 : Nat) : Int) := by rw [Z8 (by omega)]; rfl
    have e3 : decide (((x.1 + 1 : Nat) : Int) ≤ 512) = decide (x.1 + 1 ≤ 512) := by
      by_cases h : x.1 + 1 ≤ 512
      · rw [decide_eq_true h, decide_eq_true (by omega)]
      · rw [decide_eq_false h, decide_eq_false (by omega)]
    simp only
    rw [e2, e3]
    refine (Zg (QT k (b := b) (s := x.2) _ _) _).trans ?_
    refine (Zg (Zvq k hb hn hk (Qe r1 _ _) (w := 8) (by omega)) _).trans ?_
    rfl
  · rw [Zj h]
    simp only [if_neg h]
    refine (Zg (QT k (b := b) (s := s) _ _) _).trans ?_
    rw [show decide ((0 : Int) ≤ 512) = true from rfl, Zrj]
    refine (Zg (Zvq k hb hn hk hs (w := 8) (by omega)) _).trans ?_
    rfl
theorem Zuz (k : Nat) {b : List Int} (hb : ZN b = true) (hn : b.length < 268435456) (hk : b.length + 1000 < k) {s : IS} (hs : Zk b s.1) {kind : Nat} (hkind : s.2 = 0 → kind = 6 ∨ kind = 7) (c d r : Int) :
    ZtO k (c, d, r, ()) (kind : Int) (inp b s) = some (((((Zv8 c b kind s).1 : Nat) : Int), (((Zv8 c b kind s).2.1 : Nat) : Int), (((Zv8 c b kind s).2.2.1 : Nat) : Int), ()), inp b (Zv8 c b kind s).2.2.2, ()) := by
  unfold ZtO Zv8
  refine (Zg (WV k hb hn (by omega) hs (w := 4) (by omega)) _).trans ?_
  refine (Zg (QT k (b := b) (s := (gI 4 s).2) _ _) _).trans ?_
  rw [show ((((gI 4 s).1 : Nat) : Int) == (0 : Int)) = ((gI 4 s).1 == 0) from QW _ 0]
  have r1 : Zk b (hd4 s).1 := Qe (Qg hs _) _ _
  have k1 := fun h => hkind (Zn8 (s := s) h)
  change ((QX k (inp b (hd4 s), 4, ())).bind _) = _
  generalize hd4 s = s1 at r1 k1 ⊢
  unfold ZIR
  refine (Zg (WV k hb hn (by omega) r1 (w := 4) (by omega)) _).trans ?_
  refine (Zg (ZCr k c d r (gI 4 s1).1) _).trans ?_
  refine (Zg (QT k (b := b) (s := (gI 4 s1).2) _ _) _).trans ?_
  have r2 : Zk b (hd5 c s1).2.1 := Qe (Qg r1 _) _ _
  have k2 := fun h => k1 (ZvP (c := c) (s := s1) h).1
  change ((QX k (inp b (hd5 c s1).2, 4, ())).bind fun y_7 => (Qz k (y_7.2.1, y_7.1 == (0 : Int), 2, ())).bind fun y_8 => (ZfP k (y_8.2.1, ())).bind fun y_9 => ZsV k (kind : Int) (((hd5 c s1).1 : Nat) : Int) y_9.1 y_9.2.1) = _
  generalize (hd5 c s1).1 = mode
  generalize (hd5 c s1).2 = s2 at r2 k2 ⊢
  refine (Zg (WV k hb hn (by omega) r2 (w := 4) (by omega)) _).trans ?_
  refine (Zg (QT k (b := b) (s := (gI 4 s2).2) _ _) _).trans ?_
  rw [show ((((gI 4 s2).1 : Nat) : Int) == (0 : Int)) = ((gI 4 s2).1 == 0) from QW _ 0]
  have r3 : Zk b (hd4 s2).1 := Qe (Qg r2 _) _ _
  have k3 := fun h => k2 (Zn8 (s := s2) h)
  change ((ZfP k (inp b (hd4 s2), ())).bind _) = _
  generalize hd4 s2 = s3 at r3 k3 ⊢
  unfold ZII
  refine (Zg (ZEI k hb hn (by omega) r3) _).trans ?_
  exact ZwC k hb hn hk (Zqw r3) (fun h => k3 (Zpp h)) mode (ZjI b s3).1
theorem ZFE (k : Nat) {b : List Int} (hb : ZN b = true) (hn : b.length < 268435456) (hk : b.length + 1000 < k) {s : IS} (hs : Zk b s.1) (c d r : Int) :
    ZqD k (inp b s, (c, d, r, ()), ()) = some (((((ZbP c b s).1 : Nat) : Int), (((ZbP c b s).2.1 : Nat) : Int), (((ZbP c b s).2.2.1 : Nat) : Int), ()), inp b (ZbP c b s).2.2.2, ()) := by
  rw [ZB0]
  unfold ZbP
  refine (Zg (WV k hb hn (by omega) hs (w := 15) (by omega)) _).trans ?_
  refine (Zg (QT k (b := b) (s := (gI 15 s).2) _ _) _).trans ?_
  rw [show ((((gI 15 s).1 : Nat) : Int) == (32764 : Int)) = ((gI 15 s).1 == 32764) from QW _ 32764]
  have r1 : Zk b (hd1 s).1 := Qe (Qg hs _) _ _
  change ((QX k (inp b (hd1 s), 1, ())).bind _) = _
  generalize hd1 s = s1 at r1 ⊢
  refine (Zg (WV k hb hn (by omega) r1 (w := 1) (by omega)) _).trans ?_
  refine (Zg (QT k (b := b) (s := (gI 1 s1).2) _ _) _).trans ?_
  rw [show ((((gI 1 s1).1 : Nat) : Int) == (0 : Int)) = ((gI 1 s1).1 == 0) from QW _ 0]
  have r2 : Zk b (hd2 s1).1 := Qe (Qg r1 _) _ _
  change ((QX k (inp b (hd2 s1), 4, ())).bind _) = _
  generalize hd2 s1 = s2 at r2 ⊢
  refine (Zg (WV k hb hn (by omega) r2 (w := 4) (by omega)) _).trans ?_
  simp only
  rw [show ((((gI 4 s2).1 : Nat) : Int) == (6 : Int)) = ((gI 4 s2).1 == 6) from QW _ 6, show ((((gI 4 s2).1 : Nat) : Int) == (7 : Int)) = ((gI 4 s2).1 == 7) from QW _ 7]
  have r3 : Zk b (hd3 s2).2.1 := Qe (Qg r2 _) _ _
  have fin := Zuz k hb hn hk r3 (fun h => ZEr h) c d r
  unfold hd3 at fin ⊢
  cases h6 : (gI 4 s2).1 == 6 with
  | true =>
    rw [h6] at fin
    simp only [cond_true]
    refine (Zg (QT k (b := b) (s := (gI 4 s2).2) _ _) _).trans ?_
    exact fin
  | false =>
    rw [h6] at fin
    simp only [cond_false]
    refine (Zg (QT k (b := b) (s := (gI 4 s2).2) _ _) _).trans ?_
    exact fin
end Go.Sh
namespace Go.Sh
open Go Go.Proofs
def ZoP (n : Nat) : List Int → List Bool → List (List Int) → List (List Int) × Int × List Bool
  | [], r, acc => (acc, 0, r)
  | d :: ds, r, acc => if (Qy n d.toNat r).2.1 ≠ 0 then ([], (Qy n d.toNat r).2.1, (Qy n d.toNat r).2.2) else ZoP n ds (Qy n d.toNat r).2.2 (acc ++ [(Qy n d.toNat r).1])
abbrev RdR := (Int × List (List Int)) × Int × Int
def ZHC (c d r num : Int) (pos : Nat) (out : List (List Int)) : RdR := if We c d r num out ≠ 0 then ((0, []), 0, We c d r num out) else ((num, out), ((pos / 8 : Nat) : Int), 0)
def ZCI (c d r num : Int) (pos : Nat) (m : Int) (A B : List Int) : RdR := if (QP m A B).2 ≠ 0 then ((0, []), 0, (QP m A B).2) else ZHC c d r num pos [ZfN m A B, Zha m A B]
def ZHu (c d r : Int) (b : List Int) (mode num : Nat) (chs : List (List Int)) (rr : List Bool) : RdR :=
  if (ZhV Yj b 16 ((alS rr).2, (alS rr).1)).2 ≠ 0 then ((0, []), 0, (ZhV Yj b 16 ((alS rr).2, (alS rr).1)).2)
  else if 1 < c then ZCI c d r num (ZS b (ZhV Yj b 16 ((alS rr).2, (alS rr).1)).1) (if mode = 1 then 0 else mode) (chs.getD 0 []) (chs.getD 1 [])
  else ZHC c d r num (ZS b (ZhV Yj b 16 ((alS rr).2, (alS rr).1)).1) chs
def ZE2 (c d r : Int) (b : List Int) (h : HdT) : RdR :=
  if h.2.2.2.2 ≠ 0 then ((0, []), 0, h.2.2.2.2)
  else if (ZoP h.2.2.1 (ZY c d h.1) h.2.2.2.1 []).2.1 ≠ 0 then ((0, []), 0, (ZoP h.2.2.1 (ZY c d h.1) h.2.2.2.1 []).2.1)
  else ZHu c d r b h.1 h.2.1 (ZoP h.2.2.1 (ZY c d h.1) h.2.2.2.1 []).1 (ZoP h.2.2.1 (ZY c d h.1) h.2.2.2.1 []).2.2
def ZDj (c d r : Int) (b : List Int) : RdR := if Zcd c d r = false then ((0, []), 0, 2) else ZE2 c d r b (ZbP c b (Qu b, 0))
def ZuF (x : RdR) : ((Int × List (List Int) × Unit) × Int × Int × Unit) × Unit := (((x.1.1, x.1.2, ()), x.2.1, x.2.2, ()), ())
theorem Zwf {n d : Nat} {r : List Bool} (h : (Qy n d r).2.1 = 0) : (Qy n d r).1.length ≤ 520 ∧ d ≤ 25 ∧ ∀ x ∈ (Qy n d r).1, W4 x d = true := by
  unfold Qy at h ⊢
  split at h
  · simp at h
  · rename_i h1
    rw [if_neg h1]
    have h1 : 1 ≤ n ∧ n ≤ 512 ∧ 4 ≤ d ∧ d ≤ 25 := by simpa using h1
    have hz := ZgP (d := d) (s := (r, 0))
    generalize ZP d (r, 0) = hd at h hz ⊢
    obtain ⟨kind, kk, s1⟩ := hd
    simp only at h hz ⊢
    split at h
    · rename_i h2; exact absurd h h2
    · rename_i h2
      rw [if_neg h2]
      obtain ⟨hkd, hkind⟩ := hz (by simpa using h2)
      have hl := Zqo (kind := kind) (n := n) (d := d - kk) (s := s1) hkind
      generalize Ym kind n (d - kk) s1 = y at h hl ⊢
      split at h
      · rename_i h3; exact absurd h h3
      · rename_i h3
        rw [if_neg h3]
        split at h
        · rename_i h4
          rw [if_pos h4]
          refine ⟨by simp; omega, by omega, fun x hx => ?_⟩
          obtain ⟨z, hz, rfl⟩ := List.mem_map.1 hx
          exact (ZzU hkd (by omega) (List.all_eq_true.1 h4 z hz)).1
        · simp at h
theorem Zi9 {x : Int} (h : XL x = true) : Z3 x := by
  unfold XL at h
  rw [decide_eq_true_eq] at h
  exact h
abbrev ZMN := ((Int × List (List Int) × Unit) × Int × Int × Unit) × Unit
theorem Zzu (k : Nat) (hk : 1000 < k) (c d r num : Int) (out : List (List Int)) {b : List Int} (hn : b.length < 268435456) (rr : List Bool) :
    ((Zet k ((c, d, r, ()), (num, out, ()), ())).bind fun y_3 => bif y_3.1 != (0 : Int) then some (((((0 : Int), [], ()), 0, y_3.1, ()), ()) : ZMN) else (Kl k ((b, ((ZS b rr : Nat) : Int), ()), ())).bind fun y => some (((num, out, ()), IntKind.i64.wrap (Int.tdiv y.1 (8 : Int)), 0, ()), ())) = some (ZuF (ZHC c d r num (ZS b rr) out)) := by
  refine (Zg (ZwH k c d r num out (by omega)) _).trans ?_
  unfold ZHC
  simp only
  rw [ZT]
  by_cases h : We c d r num out = 0
  · rw [Zj (by simpa using h), if_neg (by simpa using h)]
    have e51 : Kl k ((b, ((ZS b rr : Nat) : Int), ()), ()) = some (((ZS b rr : Nat) : Int), X8 b rr, ()) := rfl
    refine (Zg e51 _).trans ?_
    have hp : ZS b rr ≤ 8 * b.length := by unfold ZS; omega
    simp only
    rw [Zpd, Z8 (n := ((ZS b rr / 8 : Nat) : Int)) (by omega)]
    rfl
  · rw [Zb h, if_pos h]
    rfl
theorem Zwj (k : Nat) (hk : 2000 < k) (c d r num : Int) {A B : List Int} {m : Int} (hm : ZjG m) (hA : A.length ≤ 520 ∧ ∀ x ∈ A, Qa x) (hB : B.length ≤ 520 ∧ ∀ x ∈ B, Qa x) {b : List Int} (hn : b.length < 268435456) (rr : List Bool) :
    ((ZnN k (A, B, m, ())).bind fun y_1 => bif y_1.1.2.1 != (0 : Int) then some (((((0 : Int), [], ()), 0, y_1.1.2.1, ()), ()) : ZMN) else (ZmY k (y_1.1.1, ())).bind fun y_2 => bif y_2.1.2.2.1 != (0 : Int) then some ((((0 : Int), [], ()), 0, y_2.1.2.2.1, ()), ()) else (Zet k ((c, d, r, ()), (num, [y_2.1.1, y_2.1.2.1], ()), ())).bind fun y_3 => bif y_3.1 != (0 : Int) then some ((((0 : Int), [], ()), 0, y_3.1, ()), ()) else (Kl k ((b, ((ZS b rr : Nat) : Int), ()), ())).bind fun y => some (((num, [y_2.1.1, y_2.1.2.1], ()), IntKind.i64.wrap (Int.tdiv y.1 (8 : Int)), 0, ()), ())) =
      some (ZuF (ZCI c d r num (ZS b rr) m A B)) := by
  refine (Zg (ZCX k hm (by omega) (by omega) hA.2 hB.2) _).trans ?_
  unfold ZCI
  have key : (QP m A B).2 = 0 → A.length = B.length ∧ (QP m A B).1 = Zcy (ZfN m A B) (Zha m A B) ∧ ((ZfN m A B).zip (Zha m A B)).all (fun x => XL x.1 && XL x.2) = true := by
    unfold QP
    split
    · intro h; simp at h
    · rename_i h1
      split
      · rename_i h2; exact fun _ => ⟨by simpa using h1, rfl, h2⟩
      · intro h; simp at h
  simp only
  rw [ZT]
  by_cases h : (QP m A B).2 = 0
  · rw [Zj (by simpa using h), if_neg (by simpa using h)]
    obtain ⟨hl, e1, e2⟩ := key h
    have hLl : (ZfN m A B).length = A.length := by unfold ZfN; rw [List.length_map, List.length_zip]; omega
    have hRl : (Zha m A B).length = A.length := by unfold Zha; rw [List.length_map, List.length_zip]; omega
    generalize ZfN m A B = L at e1 e2 hLl ⊢
    generalize Zha m A B = R at e1 e2 hRl ⊢
    have hsm : (∀ x ∈ L, Z3 x) ∧ ∀ x ∈ R, Z3 x := by
      have hall := List.all_eq_true.1 e2
      constructor
      · intro x hx
        obtain ⟨i, hi, rfl⟩ := List.getElem_of_mem hx
        have := hall ((L.zip R)[i]'(by rw [List.length_zip]; omega)) (List.getElem_mem _)
        rw [List.getElem_zip, Bool.and_eq_true] at this
        exact Zi9 this.1
      · intro x hx
        obtain ⟨i, hi, rfl⟩ := List.getElem_of_mem hx
        have := hall ((L.zip R)[i]'(by rw [List.length_zip]; omega)) (List.getElem_mem _)
        rw [List.getElem_zip, Bool.and_eq_true] at this
        exact Zi9 this.2
    have hpp := ZvJ (show L.length = R.length by omega) hsm.1 hsm.2
    rw [e1]
    have hjl : (Zcy L R).length ≤ 520 := by rw [hpp.hl]; omega
    refine (Zg (ZC9 k hpp (by omega) (by omega)) _).trans ?_
    simp only
    rw [show ((0 : Int) != 0) = false from rfl]
    simp only [cond_false]
    exact Zzu k (by omega) c d r num [L, R] hn rr
  · rw [Zb h, if_pos h]
    rfl
theorem Zyy (c d m : Int) : (ZY c d m).length ≤ 2 ∧ (c ≠ 1 → (ZY c d m).length = 2) ∧ ((1 ≤ d ∧ d ≤ 24) → ∀ x ∈ ZY c d m, 1 ≤ x) := by
  unfold ZY
  split
  · exact ⟨by simp, fun h => by omega, fun h x hx => by simp at hx; omega⟩
  · split
    · exact ⟨by simp, fun h => by simp, fun h x hx => by simp at hx; omega⟩
    · split
      · exact ⟨by simp, fun h => by simp, fun h x hx => by simp at hx; omega⟩
      · exact ⟨by simp, fun h => by simp, fun h x hx => by simp at hx; omega⟩
theorem ZDw (k : Nat) {b : List Int} (hb : ZN b = true) (hn : b.length < 268435456) (hk : 8 * b.length + 50000 < k) {c d r : Int} (hc : c = 1 ∨ c = 2) {mode num n : Nat} (hm : Zjy c mode = true) (ds : List Int) (hd : ∀ x ∈ ds, 1 ≤ x) (hdl : ds.length ≤ 2) (hdl2 : c ≠ 1 → ds.length = 2) (zz : Int) :
    ∀ (e j i : Nat) (rr : List Bool) (acc : List (List Int)), e < j → i + e = ds.length → acc.length = i → Zk b rr → (∀ l ∈ acc, l.length ≤ 520 ∧ ∀ x ∈ l, Qa x) →
    Zr (fun L1 => ZaW k L1) j (((ds.length : Nat) : Int), (i : Int), ds, (n : Int), (mode : Int), b, (0 : Int), b, ((ZS b rr : Nat) : Int), zz, (num : Int), acc, c, d, r) =
      some (ZuF (if (ZoP n (ds.drop i) rr acc).2.1 ≠ 0 then ((0, []), 0, (ZoP n (ds.drop i) rr acc).2.1) else ZHu c d r b mode num (ZoP n (ds.drop i) rr acc).1 (ZoP n (ds.drop i) rr acc).2.2)) := by
  intro e
  induction e with
  | zero =>
    intro j i rr acc hj hi ha hr hacc
    obtain ⟨j, rfl⟩ := Zt hj
    rw [Zi]
    simp only [ZaW]
    rw [Zj (by omega), List.drop_eq_nil_of_le (by omega)]
    show _ = some (ZuF (if (0 : Int) ≠ 0 then _ else ZHu c d r b mode num acc rr))
    rw [if_neg (by simp)]
    refine (Zg (ZFS k hb (by omega) hr (by omega)) _).trans ?_
    refine (Zg (ZyC k hb hn (by omega) (s := ((alS rr).2, (alS rr).1)) (ZFZ hr) (w := 16) (by omega)) _).trans ?_
    unfold ZHu
    generalize ZhV Yj b 16 ((alS rr).2, (alS rr).1) = s
    simp only
    rw [ZT]
    by_cases h : s.2 = 0
    · rw [Zj (by simpa using h), if_neg (by simpa using h)]
      rcases hc with rfl | rfl
      · rw [Zj (by omega), if_neg (by omega)]
        exact Zzu k (by omega) 1 d r num acc hn s.1
      · rw [Zb (by omega), if_pos (by omega)]
        have hlen : acc.length = 2 := by have := hdl2 (by omega); omega
        match acc, hlen, hacc with
        | [A, B], _, hacc =>
          have hA := hacc A (by simp)
          have hB := hacc B (by simp)
          have p1 : (0 : Int) ≤ 0 ∧ (0 : Int) < Int.ofNat [A, B].length := by simp
          have p2 : 0 < [A, B].length := by simp
          have p3 : (0 : Int) ≤ 1 ∧ (1 : Int) < Int.ofNat [A, B].length := by simp
          have p4 : 1 < [A, B].length := by simp
          have hmd : ZjG (if mode = 1 then 0 else (mode : Int)) := by
            unfold Zjy at hm
            rw [if_neg (by omega)] at hm
            simp only [Bool.or_eq_true, beq_iff_eq, Bool.and_eq_true, decide_eq_true_eq] at hm
            unfold ZjG
            split <;> omega
          rw [Zb p1, Zb p2, Zb p3, Zb p4, Zb p1, Zb p2, Zb p3, Zb p4, show ((mode : Int) == (1 : Int)) = (mode == 1) from QW _ 1]
          by_cases h1 : mode = 1
          · rw [show (mode == 1) = true from by simp [h1]]
            rw [if_pos h1] at hmd ⊢
            exact Zwj k (by omega) 2 d r num hmd hA hB hn s.1
          · rw [show (mode == 1) = false from by simp [h1]]
            rw [if_neg h1] at hmd ⊢
            exact Zwj k (by omega) 2 d r num hmd hA hB hn s.1
    · rw [Zb h, if_pos h]
      rfl
  | succ e ih =>
    intro j i rr acc hj hi ha hr hacc
    obtain ⟨j, rfl⟩ := Zt (show 0 < j by omega)
    rw [Zi]
    simp only [ZaW]
    have hil : i < ds.length := by omega
    rw [Zb (by omega), Zb (by simp only [Int.ofNat_eq_natCast]; omega), Int.toNat_natCast, YG hil, List.drop_eq_getElem_cons hil]
    have hdi := hd ds[i] (List.getElem_mem hil)
    have hde : ds[i] = ((ds[i].toNat : Nat) : Int) := by omega
    have e46 := ZDP k hb hn hk hr n ds[i].toNat
    rw [← hde] at e46
    refine (Zg e46 _).trans ?_
    unfold ZoP
    have hok := Zwf (n := n) (d := ds[i].toNat) (r := rr)
    have hrr := ZoO hr n ds[i].toNat
    generalize Qy n ds[i].toNat rr = q at hok hrr ⊢
    simp only
    rw [ZT]
    by_cases h : q.2.1 = 0
    · rw [Zj (by simpa using h), Zb (by simp only [List.length_singleton]; omega)]
      have e2 : IntKind.i64.wrap ((i : Int) + 1) = ((i + 1 : Nat) : Int) := by rw [Z8 (by omega)]; rfl
      rw [e2]
      obtain ⟨o1, o2, o3⟩ := hok h
      have := ih j (i + 1) q.2.2 (acc ++ [q.1]) (by omega) (by omega) (by simp; omega) hrr (by
        intro l hl
        rcases List.mem_append.1 hl with hl | hl
        · exact hacc l hl
        · rw [List.mem_singleton.1 hl]
          refine ⟨o1, fun x hx => ?_⟩
          have := o3 x hx
          unfold W4 at this
          unfold Qa
          split at this
          · simp only [decide_eq_true_eq] at this; omega
          · rw [decide_eq_true_eq, Wq] at this
            have h24 : 2 ^ (ds[i].toNat - 1) ≤ 2 ^ 24 := Nat.pow_le_pow_right (by omega) (by omega)
            generalize 2 ^ (ds[i].toNat - 1) = Q at this h24
            omega)
      refine this.trans ?_
      simp only [if_neg (show ¬ q.2.1 ≠ 0 from fun hh => hh h)]
    · rw [Zb h]
      simp only [if_pos h]
      rfl
theorem Zyn {c : Int} {b : List Int} {s : IS} (h : (ZbP c b s).2.2.2.2 = 0) : Zjy c (ZbP c b s).1 = true := by
  unfold ZbP Zv8 ZIR ZII Zwi at h ⊢
  generalize (hd3 (hd2 (hd1 s))).1 = kind at h ⊢
  generalize hd4 (hd3 (hd2 (hd1 s))).2 = s3 at h ⊢
  simp only at h ⊢
  have h0 : (hd6 kind (ZjI b (hd4 (hd5 c s3).2)).2).2.2 = 0 := by
    unfold ZhV at h
    split at h
    · rename_i h1; exact absurd h h1
    · exact ZsP ((KL (by decide)).1 h).1
  have h1 : (ZjI b (hd4 (hd5 c s3).2)).2.2 = 0 := by
    unfold hd6 at h0
    split at h0
    · rename_i hh; exact hh
    · exact h0
  exact (ZvP (Zn8 (Zpp h1))).2
theorem ZCu (k : Nat) (c d r : Int) {b : List Int} (hb : ZN b = true) (hn : b.length < 268435456) (hk : 8 * b.length + 50000 < k) : ZvU k ((c, d, r, ()), b, ()) = some (ZuF (ZDj c d r b)) := by
  show Zg8 k (ZqS k) _ = _
  simp only [Zg8]
  rw [Zu0 k c d r]
  simp only [Option.bind_some]
  unfold ZDj
  cases hs : Zcd c d r with
  | false => rfl
  | true =>
    have hsh := of_decide_eq_true hs
    simp only [if_true, Bool.true_eq_false, if_false]
    rw [show ((0 : Int) != 0) = false from rfl]
    simp only [cond_false]
    have e44 : ZvN k (b, ()) = some (inp b (Qu b, 0) |>.2.1, ()) := by
      show Zgj k _ = _
      simp only [Zgj]
      have : ZpY k (b, ()) = some (b, ()) := by show Ys _ = _; unfold Ys; rw [Zb (by simp only; omega)]
      rw [this]
      have hp : ZS b (Qu b) = 0 := by unfold ZS; rw [QQ]; omega
      simp only [Option.bind_some]
      show some ((b, ((0 : Nat) : Int), ()), ()) = some ((b, ((ZS b (Qu b) : Nat) : Int), ()), ())
      rw [hp]
    refine (Zg e44 _).trans ?_
    refine (Zg (ZFE k hb hn (by omega) (s := (Qu b, 0)) (Zww b) c d r) _).trans ?_
    unfold ZE2
    have hmode := Zyn (c := c) (b := b) (s := (Qu b, 0))
    have hrest : Zk b (ZbP c b (Qu b, 0)).2.2.2.1 := by
      unfold ZbP Zv8 ZIR ZII Zwi
      exact ZA5 (ZFX (Zqw (Qe (Qg (Qe (Qg (Qe (Qg (Qe (Qg (Qe (Qg (Qe (Qg (Zww b) _) _ _) _) _ _) _) _ _) _) _ _) _) _ _) _) _ _)) _) _
    generalize ZbP c b (Qu b, 0) = h at hmode hrest ⊢
    obtain ⟨mode, num, n, s⟩ := h
    simp only at hmode hrest ⊢
    rw [ZT]
    by_cases he : s.2 = 0
    · rw [Zj (by simpa using he), if_neg (by simpa using he)]
      have hm := hmode he
      have hc : c = 1 ∨ c = 2 := by omega
      have hcm : c = 1 ∧ (mode : Int) = 0 ∨ c = 2 := by
        rcases hc with rfl | rfl
        · unfold Zjy at hm
          rw [if_pos rfl, beq_iff_eq] at hm
          exact .inl ⟨rfl, by omega⟩
        · exact .inr rfl
      refine (Zg (ZwE k (c := c) (d := d) (r := r) (m := (mode : Int)) hcm (by omega)) _).trans ?_
      have hdl := Zyy c d mode
      have := ZDw k hb hn hk (c := c) (d := d) (r := r) hc (mode := mode) (num := num) (n := n) hm (ZY c d mode) (hdl.2.2 (by omega)) hdl.1 hdl.2.1 0 (ZY c d mode).length k 0 s.1 [] (by omega) (by omega) rfl hrest (by simp)
      rw [List.drop_zero] at this
      simp only
      rw [he]
      exact this
    · rw [Zb he, if_pos he]
      rfl
end Go.Sh
