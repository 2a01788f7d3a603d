/-
  Plain words: loops over lists, and the bytes of strings.
-/
import Derived.Test.YtlbgcegonmbddaaDoorQ1
import Derived.Test.YtlbgcegonmbddaaDoorM18
set_option linter.unusedSimpArgs false
namespace Go.Sh
open Go

/-- a loop over a list, from its place i on -/
theorem iter_list {V R α A : Type} {step : (V → Option R) → V → Option R} (at_ : Nat → A → V) (xs : List α) (G : List α → A → Option R)
    (h0 : ∀ L a, step L (at_ xs.length a) = G [] a)
    (h1 : ∀ L i (hi : i < xs.length) a, (∀ a', L (at_ (i + 1) a') = G (xs.drop (i + 1)) a') → step L (at_ i a) = G (xs[i] :: xs.drop (i + 1)) a) :
    ∀ k i a, xs.length < k + i → i ≤ xs.length → iter step k (at_ i a) = G (xs.drop i) a
  | 0, i, a, hk, hi => by omega
  | k + 1, i, a, hk, hi => by
    rw [iter_succ]
    by_cases he : i = xs.length
    · subst he
      rw [h0, List.drop_length]
    · have hi' : i < xs.length := by omega
      rw [h1 _ i hi' a fun a' => iter_list at_ xs G h0 h1 k (i + 1) a' (by omega) hi', List.drop_eq_getElem_cons hi']

/-- the same, with what holds all the while -/
theorem iter_list_inv {V R α A : Type} {step : (V → Option R) → V → Option R} (at_ : Nat → A → V) (xs : List α) (G : List α → A → Option R) (I : Nat → A → Prop)
    (h0 : ∀ L a, I xs.length a → step L (at_ xs.length a) = G [] a)
    (h1 : ∀ L i (hi : i < xs.length) a, I i a → (∀ a', I (i + 1) a' → L (at_ (i + 1) a') = G (xs.drop (i + 1)) a') → step L (at_ i a) = G (xs[i] :: xs.drop (i + 1)) a) :
    ∀ k i a, I i a → xs.length < k + i → i ≤ xs.length → iter step k (at_ i a) = G (xs.drop i) a
  | 0, i, a, _, hk, hi => by omega
  | k + 1, i, a, hI, hk, hi => by
    rw [iter_succ]
    by_cases he : i = xs.length
    · subst he
      rw [h0 _ _ hI, List.drop_length]
    · have hi' : i < xs.length := by omega
      rw [h1 _ i hi' a hI fun a' ha' => iter_list_inv at_ xs G I h0 h1 k (i + 1) a' ha' (by omega) hi', List.drop_eq_getElem_cons hi']

/-- a loop that looks for what is not right -/
def scan {α R : Type} (p : α → Bool) (out last : Option R) : List α → Option R := fun l => bif l.all p then last else out
theorem iter_scan {V R α : Type} {step : (V → Option R) → V → Option R} (at_ : Nat → V) (xs : List α) (p : α → Bool) (out last : Option R)
    (h0 : ∀ L, step L (at_ xs.length) = last)
    (h1 : ∀ L i (hi : i < xs.length), step L (at_ i) = bif p xs[i] then L (at_ (i + 1)) else out)
    (k : Nat) (hk : xs.length < k) : iter step k (at_ 0) = bif xs.all p then last else out := by
  have := iter_list (A := Unit) (fun i _ => at_ i) xs (fun l _ => bif l.all p then last else out) (fun L _ => h0 L) (fun L i hi _ hL => by
    rw [h1 L i hi, hL ()]
    simp only [List.all_cons]
    cases p xs[i] <;> rfl) k 0 () (by omega) (Nat.zero_le _)
  simpa using this

theorem getD_at {α : Type} {l : List α} {i : Nat} {d : α} (h : i < l.length) : l.getD (Int.toNat (Int.ofNat i)) d = l[i] := by
  simp [List.getD_eq_getElem?_getD, h]
theorem wnext {i n : Nat} (h : i < n) (hn : n ≤ 4294967296) : IntKind.i64.wrap (Int.ofNat i + 1) = Int.ofNat (i + 1) := by
  rw [w64 (by simp only [Int.ofNat_eq_natCast]; omega)]; rfl
theorem inR {i n : Nat} (h : i < n) : (0 : Int) ≤ Int.ofNat i ∧ Int.ofNat i < Int.ofNat n := by simp only [Int.ofNat_eq_natCast]; omega
theorem ltR {i n : Nat} (h : i < n) : Int.ofNat i < Int.ofNat n := by simp only [Int.ofNat_eq_natCast]; omega
theorem nltR (n : Nat) : ¬ Int.ofNat n < Int.ofNat n := by simp only [Int.ofNat_eq_natCast]; omega

/-! strings.Trim, IndexFunc, Index: what they say -/
theorem dropWhile_nil {α : Type} {p : α → Bool} : ∀ {l : List α}, l.dropWhile p = [] ↔ l.all p = true
  | [] => by simp
  | a :: l => by
    simp only [List.dropWhile_cons, List.all_cons]
    cases h : p a with
    | true => simp only [if_true, Bool.true_and]; exact dropWhile_nil
    | false => simp
theorem trimS_nil (l cs : List UInt8) : Lib.trimS l cs = [] ↔ l.all (cs.contains ·) = true := by
  unfold Lib.trimS Lib.trimLeftS Lib.trimRightS
  rw [dropWhile_nil]
  simp only [List.all_reverse]
  constructor
  · intro h
    rw [List.all_eq_true] at h ⊢
    intro x hx
    by_cases hp : cs.contains x = true
    · exact hp
    · refine h x ?_
      have : x ∈ l.reverse.takeWhile (cs.contains ·) ++ l.reverse.dropWhile (cs.contains ·) := by rw [List.takeWhile_append_dropWhile]; simpa using hx
      rcases List.mem_append.1 this with h1 | h1
      · exact absurd (List.all_eq_true.1 (List.all_takeWhile (p := (cs.contains ·)) (l := l.reverse)) x h1) hp
      · exact h1
  · intro h
    rw [List.all_eq_true] at h ⊢
    intro x hx
    have : x ∈ l.reverse := (List.dropWhile_suffix _).subset hx
    exact h x (by simpa using this)

theorem idxFrom_vis (p : Nat → Bool) (lo : ∀ n, n < 128 → True) (hp : ∀ n, 128 ≤ n → p n = true) (s : ByteArray) : ∀ (f pos : Nat), s.size ≤ pos + f → 
    (Lib.idxFuncFrom p true s f pos < 0 ↔ (s.data.toList.drop pos).all (fun b => !p b.toNat) = true)
  | 0, pos, h => by
    have : s.data.toList.drop pos = [] := List.drop_eq_nil_of_le (by rw [toList_len]; omega)
    simp [Lib.idxFuncFrom, this]
  | f + 1, pos, h => by
    unfold Lib.idxFuncFrom
    by_cases hps : pos < s.size
    · rw [if_pos hps]
      have hl : pos < s.data.toList.length := by rw [toList_len]; exact hps
      have hget : s.data.toList[pos] = s[pos]'hps := by simp only [Array.getElem_toList]; rfl
      rw [List.drop_eq_getElem_cons hl, List.all_cons, hget]
      by_cases ha : (s[pos]'hps).toNat < 128
      · have hd := decode_ascii s pos hps ha
        rw [hd]
        cases hq : p (s[pos]'hps).toNat with
        | true => simp
        | false =>
          simp only [Bool.false_eq_true, if_false, Bool.not_false, Bool.true_and]
          exact idxFrom_vis p lo hp s f (pos + 1) (by omega)
      · have hd := decode_high s pos hps (by omega)
        rw [if_pos (hp _ hd.1)]
        rw [hp _ (show 128 ≤ (s[pos]'hps).toNat by omega)]
        simp
    · rw [if_neg hps]
      have : s.data.toList.drop pos = [] := List.drop_eq_nil_of_le (by rw [toList_len]; omega)
      simp [this]
theorem idxFunc_vis (p : Nat → Bool) (hp : ∀ n, 128 ≤ n → p n = true) (s : ByteArray) : decide (Lib.idxFunc p true s < 0) = s.data.toList.all (fun b => !p b.toNat) := by
  have := idxFrom_vis p (fun _ _ => trivial) hp s s.size 0 (by omega)
  rw [List.drop_zero] at this
  unfold Lib.idxFunc
  by_cases h : Lib.idxFuncFrom p true s s.size 0 < 0
  · rw [decide_eq_true h, this.1 h]
  · rw [decide_eq_false h]
    cases hh : s.data.toList.all (fun b => !p b.toNat) with
    | false => rfl
    | true => exact absurd (this.2 hh) h
end Go.Sh
