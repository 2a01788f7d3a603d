/-
  Plain words of wav: taking bytes off the front.
-/
import Derived.Test.YtlbgcegonmbddaaDoorWP7
set_option linter.unusedSimpArgs false
set_option linter.unusedVariables false
namespace Go.Sh
open Go Go.Proofs

/-- a number of bytes, the lowest first -/
def numL : List Int → Int
  | [] => 0
  | x :: l => x + 256 * numL l
theorem numL_append : ∀ (a b : List Int), numL (a ++ b) = numL a + (2 : Int) ^ (8 * a.length) * numL b
  | [], b => by simp [numL]
  | x :: a, b => by
    simp only [List.cons_append, numL, numL_append a b, List.length_cons]
    have : (2 : Int) ^ (8 * (a.length + 1)) = 256 * (2 : Int) ^ (8 * a.length) := by
      rw [show 8 * (a.length + 1) = 8 * a.length + 8 by omega, Int.pow_add]
      rw [Int.mul_comm]; rfl
    rw [this, Int.mul_add, Int.mul_assoc]
    omega
theorem numL_bound : ∀ (l : List Int), Byt l → 0 ≤ numL l ∧ numL l < (2 : Int) ^ (8 * l.length)
  | [], _ => by simp [numL]
  | x :: l, h => by
    have h1 := h x (by simp)
    have h2 := numL_bound l (fun y hy => h y (by simp [hy]))
    have : (2 : Int) ^ (8 * (l.length + 1)) = 256 * (2 : Int) ^ (8 * l.length) := by
      rw [show 8 * (l.length + 1) = 8 * l.length + 8 by omega, Int.pow_add]
      rw [Int.mul_comm]; rfl
    simp only [numL, List.length_cons, this]
    omega
theorem numL_zero : ∀ n, numL (List.replicate n 0) = 0
  | 0 => rfl
  | n + 1 => by simp [List.replicate_succ, numL, numL_zero n]

theorem fdiv_ediv (n : Int) (j : Nat) : n.fdiv ((2 : Int) ^ (8 * j)) = n / (2 : Int) ^ (8 * j) := Int.fdiv_eq_ediv_of_nonneg _ (Int.le_of_lt (Int.pow_pos (by omega)))
theorem low_succ (n : Int) (s : Nat) : low n (s + 1) = n % 256 :: low (n / 256) s := by
  unfold low
  rw [List.range_succ_eq_map, List.map_cons, List.map_map]
  congr 1
  · simp [byteN, IntKind.wrap_u8]
  · apply List.map_congr_left
    intro j _
    simp only [Function.comp, byteN, fdiv_ediv]
    congr 1
    rw [show 8 * (j + 1) = 8 + 8 * j by omega, Int.pow_add, ← Int.ediv_ediv_of_nonneg (by decide)]
    rfl
theorem numL_low : ∀ (s : Nat) (n : Int), 0 ≤ n → n < (2 : Int) ^ (8 * s) → numL (low n s) = n
  | 0, n, h0, h1 => by simp [low, numL] at *; omega
  | s + 1, n, h0, h1 => by
    rw [low_succ]
    have : (2 : Int) ^ (8 * (s + 1)) = 256 * (2 : Int) ^ (8 * s) := by
      rw [show 8 * (s + 1) = 8 * s + 8 by omega, Int.pow_add]
      rw [Int.mul_comm]; rfl
    rw [this] at h1
    simp only [numL]
    rw [numL_low s (n / 256) (by omega) (by omega)]
    omega
theorem low_numL : ∀ (l : List Int), Byt l → low (numL l) l.length = l
  | [], _ => by simp [low]
  | x :: l, h => by
    have h1 := h x (by simp)
    rw [List.length_cons, low_succ]
    simp only [numL]
    have e1 : (x + 256 * numL l) % 256 = x := by omega
    have e2 : (x + 256 * numL l) / 256 = numL l := by omega
    rw [e1, e2, low_numL l (fun y hy => h y (by simp [hy]))]
theorem low_inj {n m : Int} {s : Nat} (hn : 0 ≤ n ∧ n < (2 : Int) ^ (8 * s)) (hm : 0 ≤ m ∧ m < (2 : Int) ^ (8 * s)) (h : low n s = low m s) : n = m := by
  rw [← numL_low s n hn.1 hn.2, h, numL_low s m hm.1 hm.2]

/-- the next byte of a number -/
theorem or_up {v b : Int} {j : Nat} (hj : j ≤ 3) (hv : 0 ≤ v ∧ v < (2 : Int) ^ (8 * j)) (hb : 0 ≤ b ∧ b < 256) :
    IntKind.i64.wrap (Int.ofNat (BitVec.ofInt 64 v ||| BitVec.ofInt 64 (IntKind.i64.wrap (IntKind.i64.wrap b * (2 : Int) ^ (8 * j)))).toNat) = v + (2 : Int) ^ (8 * j) * b := by
  obtain ⟨vn, rfl⟩ : ∃ vn : Nat, v = (vn : Int) := ⟨v.toNat, by omega⟩
  obtain ⟨bn, rfl⟩ : ∃ bn : Nat, b = (bn : Int) := ⟨b.toNat, by omega⟩
  have hp : (2 : Int) ^ (8 * j) = ((2 ^ (8 * j) : Nat) : Int) := by simp
  rw [hp] at hv ⊢
  have hpj : 2 ^ (8 * j) ≤ 2 ^ 24 := Nat.pow_le_pow_right (by omega) (by omega)
  have hbp : bn * 2 ^ (8 * j) ≤ 255 * 2 ^ 24 := Nat.mul_le_mul (by omega) hpj
  have e1 : IntKind.i64.wrap (bn : Int) = bn := w64 (by omega)
  have e2 : IntKind.i64.wrap ((bn : Int) * ((2 ^ (8 * j) : Nat) : Int)) = ((bn * 2 ^ (8 * j) : Nat) : Int) := by
    rw [← Int.natCast_mul, w64 (by omega)]
  rw [e1, e2, BitVec.ofInt_natCast, BitVec.ofInt_natCast, BitVec.toNat_or, BitVec.toNat_ofNat, BitVec.toNat_ofNat, Nat.mod_eq_of_lt (by omega), Nat.mod_eq_of_lt (by omega)]
  have h := Nat.shiftLeft_add_eq_or_of_lt (i := 8 * j) (show vn < 2 ^ (8 * j) by omega) bn
  rw [Nat.shiftLeft_eq] at h
  rw [Nat.or_comm, ← h]
  rw [w64 (by simp only [Int.ofNat_eq_natCast]; omega)]
  simp only [Int.ofNat_eq_natCast, Int.natCast_add, Int.natCast_mul]
  rw [Int.mul_comm]; omega

def inp (b : List Int) (bad : Bool) : List Int × Bool × Unit := (b, bad, ())

theorem f58_ok (k : Nat) (b : List Int) (bad : Bool) (n : Nat) (h : n ≤ b.length) (hb : b.length ≤ 1073741824) : f58_F k ((b, bad, ()), Int.ofNat n, ()) = some (b.take n, (b.drop n, bad, ()), ()) := by
  show f58_raw0 k ((b, bad, ()), Int.ofNat n, ()) = _
  simp only [f58_raw0]
  rw [cneg (by simp only [Int.ofNat_eq_natCast]; omega), cneg (by simp only [Int.ofNat_eq_natCast]; omega), cpos (by simp only [Int.ofNat_eq_natCast]; omega), cpos (by simp only [Int.ofNat_eq_natCast]; omega)]
  have e1 : (Int.ofNat n).toNat = n := rfl
  have e2 : (Int.ofNat b.length).toNat = b.length := rfl
  rw [e1, e2, List.take_length, List.drop_zero]
theorem f58_bad (k : Nat) (b : List Int) (bad : Bool) (n : Int) (h : (b.length : Int) < n) : f58_F k ((b, bad, ()), n, ()) = some (List.replicate (min n 64).toNat 0, (b, true, ()), ()) := by
  show f58_raw0 k ((b, bad, ()), n, ()) = _
  simp only [f58_raw0]
  have e : (if (0 : Int) < if (64 : Int) < n then (64 : Int) else n then if (64 : Int) < n then (64 : Int) else n else (0 : Int)) = min n 64 := by
    split <;> split at * <;> omega
  rw [e, cneg (by omega), cpos (by simp only [Int.ofNat_eq_natCast]; omega), cpos (by omega)]
/-- whatever is asked: it ends -/
theorem f58_any (k : Nat) (b : List Int) (bad : Bool) (n : Int) (hn : 0 ≤ n) (hb : b.length ≤ 1073741824) (hB : Byt b) : ∃ x b' bad', f58_F k ((b, bad, ()), n, ()) = some (x, (b', bad', ()), ()) ∧ (bad = true → bad' = true) ∧ Byt x ∧ Byt b' ∧ b'.length ≤ b.length ∧ (x.length : Int) ≤ n := by
  by_cases h : (b.length : Int) < n
  · refine ⟨_, _, _, f58_bad k b bad n h, fun _ => rfl, ?_, hB, Nat.le_refl _, ?_⟩
    · intro x hx
      rw [List.mem_replicate] at hx
      omega
    · rw [List.length_replicate]; omega
  · obtain ⟨m, rfl⟩ : ∃ m : Nat, n = Int.ofNat m := ⟨n.toNat, by simp only [Int.ofNat_eq_natCast]; omega⟩
    simp only [Int.ofNat_eq_natCast] at h
    refine ⟨_, _, _, f58_ok k b bad m (by omega) hb, fun e => e, byt_take hB _, byt_drop hB _, by simp, ?_⟩
    simp only [List.length_take, Int.ofNat_eq_natCast]; omega

theorem f38_1 {k : Nat} (hk : 16777216 ≤ k) (x b : List Int) (bad : Bool) (hx : x.length ≤ 4) (hB : Byt x) : f38_L1 k (Int.ofNat x.length, 0, x, 0, b, bad) = some (numL x, (b, bad, ()), ()) := by
  have key := iter_list (step := fun L1 => f38_raw1 k L1) (A := Unit) (fun i _ => (Int.ofNat x.length, Int.ofNat i, x, numL (x.take i), b, bad)) x (fun _ _ => some (numL x, (b, bad, ()), ()))
    (fun L a => by
      simp only [f38_raw1]
      rw [cneg (nltR _), List.take_length])
    (fun L i hi a hL => by
      simp only [f38_raw1]
      have hw : IntKind.i64.wrap ((8 : Int) * Int.ofNat i) = 8 * Int.ofNat i := w64 (by simp only [Int.ofNat_eq_natCast]; omega)
      have hm : min ((8 : Int) * Int.ofNat i).toNat 64 = 8 * i := by simp only [Int.ofNat_eq_natCast]; omega
      rw [cpos (ltR hi), cpos (inR hi), getD_at hi, hw, hm, cpos (by simp only [Int.ofNat_eq_natCast]; omega), wnext hi (by omega)]
      have hb := numL_bound (x.take i) (byt_take hB i)
      rw [List.length_take, Nat.min_eq_left (by omega)] at hb
      rw [or_up (by omega) hb (hB _ (List.getElem_mem _))]
      have : numL (x.take (i + 1)) = numL (x.take i) + (2 : Int) ^ (8 * i) * x[i] := by
        rw [List.take_succ_eq_append_getElem hi, numL_append, List.length_take, Nat.min_eq_left (by omega)]
        simp [numL]
      rw [← this]
      exact hL ()) k 0 () (by omega) (by omega)
  rw [List.take_zero] at key
  exact key
theorem f38_ok {k : Nat} (hk : 16777216 ≤ k) (b : List Int) (bad : Bool) (n : Nat) (h : n ≤ b.length) (h4 : n ≤ 4) (hb : b.length ≤ 1073741824) (hB : Byt b) : f38_F k ((b, bad, ()), Int.ofNat n, ()) = some (numL (b.take n), (b.drop n, bad, ()), ()) := by
  show f38_raw0 k (f38_L1 k) ((b, bad, ()), Int.ofNat n, ()) = _
  simp only [f38_raw0]
  rw [f58_ok k b bad n h hb, Option.bind_some]
  exact f38_1 hk (b.take n) (b.drop n) bad (by rw [List.length_take]; omega) (byt_take hB n)
theorem f38_bad {k : Nat} (hk : 16777216 ≤ k) (b : List Int) (bad : Bool) (n : Nat) (h : b.length < n) (h4 : n ≤ 4) : f38_F k ((b, bad, ()), Int.ofNat n, ()) = some (0, (b, true, ()), ()) := by
  show f38_raw0 k (f38_L1 k) ((b, bad, ()), Int.ofNat n, ()) = _
  simp only [f38_raw0]
  rw [f58_bad k b bad _ (by simp only [Int.ofNat_eq_natCast]; omega), Option.bind_some]
  have := f38_1 hk (List.replicate (min (Int.ofNat n) 64).toNat 0) b true (by rw [List.length_replicate]; simp only [Int.ofNat_eq_natCast]; omega) (by
    intro x hx
    rw [List.mem_replicate] at hx
    omega)
  rw [numL_zero] at this
  exact this
theorem f38_any {k : Nat} (hk : 16777216 ≤ k) (b : List Int) (bad : Bool) (n : Nat) (h4 : n ≤ 4) (hb : b.length ≤ 1073741824) (hB : Byt b) : ∃ v b' bad', f38_F k ((b, bad, ()), Int.ofNat n, ()) = some (v, (b', bad', ()), ()) ∧ (bad = true → bad' = true) ∧ 0 ≤ v ∧ Byt b' ∧ b'.length ≤ b.length := by
  by_cases h : b.length < n
  · exact ⟨_, _, _, f38_bad hk b bad n h h4, fun _ => rfl, Int.le_refl _, hB, Nat.le_refl _⟩
  · exact ⟨_, _, _, f38_ok hk b bad n (by omega) h4 hb hB, fun e => e, (numL_bound _ (byt_take hB n)).1, byt_drop hB n, by simp⟩

/-! a mark -/
theorem f54_bad (k : Nat) (b : List Int) (m : ByteArray) : f54_F k ((b, true, ()), m, ()) = some ((), (b, true, ()), ()) := rfl
theorem f54_ok (k : Nat) (b m : List Int) (hm : m.length = 4) (hmB : Byt m) (h0 : m ≠ List.replicate 4 0) (hb : b.length ≤ 1073741824) (hB : Byt b) :
    (b.take 4 = m ∧ f54_F k ((b, false, ()), bytesOf m, ()) = some ((), (b.drop 4, false, ()), ())) ∨ (b.take 4 ≠ m ∧ ∃ b', f54_F k ((b, false, ()), bytesOf m, ()) = some ((), (b', true, ()), ()) ∧ Byt b' ∧ b'.length ≤ b.length) := by
  have hf : f54_F k ((b, false, ()), bytesOf m, ()) = (f58_F k ((b, false, ()), Int.ofNat 4, ())).bind fun y => some ((), (y.2.1.1, !(bytesOf y.1).toList == (bytesOf m).toList, ()), ()) := by
    show f54_raw0 k ((b, false, ()), bytesOf m, ()) = _
    simp only [f54_raw0, bytesOf_size, hm, cond_false]
    rfl
  rw [hf]
  by_cases h : 4 ≤ b.length
  · rw [f58_ok k b false 4 h hb, Option.bind_some]
    simp only
    rw [ba_beq]
    by_cases he : b.take 4 = m
    · left
      refine ⟨he, ?_⟩
      rw [decide_eq_true (by rw [he])]; rfl
    · right
      refine ⟨he, b.drop 4, ?_, byt_drop hB 4, by simp⟩
      rw [decide_eq_false (fun e => he (bytesOf_inj (byt_take hB 4) hmB e))]; rfl
  · right
    refine ⟨fun e => ?_, b, ?_, hB, Nat.le_refl _⟩
    · have := congrArg List.length e
      rw [List.length_take, hm] at this
      omega
    · rw [f58_bad k b false _ (by simp only [Int.ofNat_eq_natCast]; omega), Option.bind_some]
      simp only
      rw [ba_beq, decide_eq_false]
      · rfl
      · intro e
        exact h0 (bytesOf_inj hmB (by intro x hx; rw [List.mem_replicate] at hx; omega) (e ▸ rfl))

/-! a number that is known -/
theorem f55_bad (k : Nat) (b : List Int) (n s : Int) : f55_F k ((b, true, ()), n, s, ()) = some ((), (b, true, ()), ()) := rfl
theorem f55_ok {k : Nat} (hk : 16777216 ≤ k) (b : List Int) (n : Int) (s : Nat) (hs : s ≤ 4) (hn : s ≤ b.length ∨ n ≠ 0) (hb : b.length ≤ 1073741824) (hB : Byt b) :
    (s ≤ b.length ∧ numL (b.take s) = n ∧ f55_F k ((b, false, ()), n, Int.ofNat s, ()) = some ((), (b.drop s, false, ()), ())) ∨
    (¬ (s ≤ b.length ∧ numL (b.take s) = n) ∧ ∃ b', f55_F k ((b, false, ()), n, Int.ofNat s, ()) = some ((), (b', true, ()), ()) ∧ Byt b' ∧ b'.length ≤ b.length) := by
  have hf : f55_F k ((b, false, ()), n, Int.ofNat s, ()) = (f38_F k ((b, false, ()), Int.ofNat s, ())).bind fun y => some ((), (y.2.1.1, y.1 != n, ()), ()) := rfl
  rw [hf]
  by_cases h : s ≤ b.length
  · rw [f38_ok hk b false s h hs hb hB, Option.bind_some]
    simp only
    rw [int_bne]
    by_cases he : numL (b.take s) = n
    · left
      refine ⟨h, he, ?_⟩
      rw [decide_eq_false (fun e => e he)]
    · right
      refine ⟨fun e => he e.2, b.drop s, ?_, byt_drop hB s, by simp⟩
      rw [decide_eq_true he]
  · right
    refine ⟨fun e => h e.1, b, ?_, hB, Nat.le_refl _⟩
    rw [f38_bad hk b false s (by omega) hs, Option.bind_some]
    simp only
    rw [int_bne, decide_eq_true]
    intro e
    rcases hn with hn | hn
    · exact h hn
    · exact hn e.symm
end Go.Sh
