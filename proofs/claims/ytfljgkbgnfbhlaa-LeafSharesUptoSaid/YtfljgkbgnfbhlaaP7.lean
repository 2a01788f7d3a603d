import Derived.Test.YtfljgkbgnfbhlaaP6
set_option linter.unusedSimpArgs false
namespace Go.Sh
open Go Go.Proofs

theorem cellSz_le {b : Bool} {c : Cell} (h : cellOk b c = true) : cellSz c ≤ 82 := by
  have := cellOk_key h
  have := cellOk_val h
  unfold cellSz; omega
theorem allSz_le {b : Bool} : ∀ {l : List Cell}, (∀ c ∈ l, cellOk b c = true) → allSz l ≤ 82 * l.length
  | [], _ => Nat.le_refl _
  | c :: l, h => by
    have h1 := cellSz_le (h c (List.mem_cons_self ..))
    have h2 := allSz_le (b := b) (l := l) fun c hc => h c (List.mem_cons_of_mem _ hc)
    simp only [allSz_cons, List.length_cons]; omega
theorem right_sz {n : Nd} (h : rightB n = true) : allSz n.2.2.1 ≤ 20910 := by
  have h1 := allSz_le (chain_mem (right_chain h))
  have h2 := right_len h
  omega

/-- where it is cut -/
def splitFrom (l : List Cell) (top : Nat) : Nat → Nat → Nat
  | 0, i => i
  | d + 1, i => if i < top ∧ 2 * allSz (l.take i) < allSz l then splitFrom l top d (i + 1) else i
def splitRes (n : Nd) (i : Nat) : Nd × ByteArray × Nd × Int × Unit :=
  ((n.1, n.2.1, n.2.2.1.take i, ()), (n.2.2.1.getD i dflt).1, (bif n.1 then (true, (num4 (n.2.2.1.getD i dflt).2.1 : Int), n.2.2.1.drop (i + 1), ()) else (false, 0, n.2.2.1.drop i, ())), 0, ())
def topOf (n : Nd) : Int := (n.2.2.1.length : Int) - 1 - (bif n.1 then 1 else 0)
def splitB (n : Nd) : Nd × ByteArray × Nd × Int × Unit :=
  bif rightB n then (bif decide (topOf n < 1) then ((false, 0, [], ()), ByteArray.mk #[], (false, 0, [], ()), 1, ()) else splitRes n (splitFrom n.2.2.1 (topOf n).toNat n.2.2.1.length 1))
  else ((false, 0, [], ()), ByteArray.mk #[], (false, 0, [], ()), 2, ())
theorem splitFrom_le (l : List Cell) (top : Nat) : ∀ (d i : Nat), i ≤ top → splitFrom l top d i ≤ top
  | 0, i, h => h
  | d + 1, i, h => by
    simp only [splitFrom]
    split
    · rename_i hc; exact splitFrom_le l top d (i + 1) (by omega)
    · exact h

theorem out20 (k : Nat) (hk : 256 < k) (b : Bool) (f : Int) (l : List Cell) (i : Nat) (hi : i < l.length) (hl : l.length ≤ 255) (hc : b = true → ∀ c ∈ l, c.2.1.size = 4) (L : Int × Int × Int × Int × Bool × Int × List Cell × Bool × Int × Bool × Int → Option ((Nd × ByteArray × Nd × Int × Unit) × Unit)) (s t : Int) :
    f20_raw1 k L (Int.ofNat i, 0, s, t, b, f, l, false, 0, false, 0) = some (splitRes (b, f, l, ()) i, ()) := by
  simp only [f20_raw1]
  rw [cneg (by simp only [Int.ofNat_eq_natCast]; omega), cpos (by simp only [Int.ofNat_eq_natCast]; omega)]
  rw [show (Int.ofNat i).toNat = i from rfl, List.drop_zero, f29_ok k _ (by simp; omega)]
  have e2 : IntKind.i64.wrap (Int.ofNat i + 1) = Int.ofNat (i + 1) := by rw [w64 (by simp only [Int.ofNat_eq_natCast]; omega)]; rfl
  simp only [Option.bind_some, e2]
  rw [show (Int.ofNat (i + 1)).toNat = i + 1 from rfl, show (Int.ofNat l.length).toNat = l.length from rfl, List.take_length]
  rw [cpos (by simp only [Int.ofNat_eq_natCast]; omega)]
  have e5 : l.getD i (ByteArray.mk #[], ByteArray.mk #[], ()) = l[i] := getD_of hi
  have e5' : l.getD i dflt = l[i] := getD_of hi
  simp only [splitRes, e5, e5']
  cases b with
  | true =>
    simp only [cond_true]
    rw [f26_ok k _ (by omega) (by have := hc rfl l[i] (List.getElem_mem hi); simp only; omega)]
    simp only [Option.bind_some]
    rw [cpos (by simp only [Int.ofNat_eq_natCast]; omega), f29_ok k _ (by simp; omega)]
    rfl
  | false =>
    simp only [cond_false]
    rw [cpos (by simp only [Int.ofNat_eq_natCast]; omega), f29_ok k _ (by simp; omega)]
    rfl

theorem f20_loop (k : Nat) (hk : 256 < k) (b : Bool) (f : Int) (l : List Cell) (top : Nat) (ht : top < l.length) (hl : l.length ≤ 255) (hs : allSz l ≤ 20910) (hc : b = true → ∀ c ∈ l, c.2.1.size = 4) : ∀ (d m i : Nat), top - i ≤ d → i ≤ top → d < m →
    iter (fun L1 => f20_raw1 k L1) m (Int.ofNat i, Int.ofNat top, Int.ofNat (allSz (l.take i)), Int.ofNat (allSz l), b, f, l, false, 0, false, 0) = some (splitRes (b, f, l, ()) (splitFrom l top d i), ()) := by
  intro d
  induction d with
  | zero =>
    intro m i hd hi hm
    obtain ⟨m, rfl⟩ := pos_of_lt hm
    have o := out20 k hk b f l i (by omega) hl hc (iter (fun L1 => f20_raw1 k L1) m) (Int.ofNat (allSz (l.take i))) (Int.ofNat (allSz l))
    simp only [iter_succ, f20_raw1] at o ⊢
    rw [cneg (by simp only [Int.ofNat_eq_natCast]; omega)] at o ⊢
    exact o
  | succ d ih =>
    intro m i hd hi hm
    obtain ⟨m, rfl⟩ := pos_of_lt hm
    have o := out20 k hk b f l i (by omega) hl hc (iter (fun L1 => f20_raw1 k L1) m) (Int.ofNat (allSz (l.take i))) (Int.ofNat (allSz l))
    simp only [splitFrom]
    by_cases h1 : i < top
    · have hlt : i < l.length := by omega
      have h2 := allSz_take_succ hlt
      have h3 := allSz_take_le l (i + 1)
      have e1 : IntKind.i64.wrap (Int.ofNat i + 1) = Int.ofNat (i + 1) := by rw [w64 (by simp only [Int.ofNat_eq_natCast]; omega)]; rfl
      have e2 : IntKind.i64.wrap ((2 : Int) * Int.ofNat (allSz (l.take i))) = Int.ofNat (2 * allSz (l.take i)) := by rw [w64 (by simp only [Int.ofNat_eq_natCast]; omega)]; simp only [Int.ofNat_eq_natCast]; omega
      have e3 : IntKind.i64.wrap (Int.ofNat (allSz (l.take i)) + (cellSz l[i] : Int)) = Int.ofNat (allSz (l.take (i + 1))) := by rw [w64 (by simp only [Int.ofNat_eq_natCast]; omega)]; simp only [Int.ofNat_eq_natCast]; omega
      have e5 : l.getD (Int.ofNat i).toNat (ByteArray.mk #[], ByteArray.mk #[], ()) = l[i] := getD_of hlt
      by_cases hb : 2 * allSz (l.take i) < allSz l
      · have h0 := ih m (i + 1) (by omega) (by omega) (by omega)
        rw [if_pos ⟨h1, hb⟩]
        simp only [iter_succ, f20_raw1, e1, e2]
        rw [cpos (by simp only [Int.ofNat_eq_natCast]; omega), cpos (by simp only [Int.ofNat_eq_natCast]; omega), cpos (by simp only [Int.ofNat_eq_natCast]; omega), e5, f31_ok k _ (by simp only [cellSz] at h2 ⊢; omega)]
        simp only [Option.bind_some]
        rw [show cellSz (l[i].1, l[i].2.1, ()) = cellSz l[i] from rfl, e3]
        exact h0
      · rw [if_neg (by omega)]
        simp only [iter_succ, f20_raw1] at o ⊢
        rw [cneg (by simp only [Int.ofNat_eq_natCast]; omega)] at o
        rw [cpos (by simp only [Int.ofNat_eq_natCast]; omega), e2, cneg (by simp only [Int.ofNat_eq_natCast]; omega)]
        exact o
    · rw [if_neg (by omega)]
      simp only [iter_succ, f20_raw1] at o ⊢
      rw [cneg (by simp only [Int.ofNat_eq_natCast]; omega)] at o ⊢
      exact o

theorem vals4 {b : Bool} {f : Int} {l : List Cell} (h : rightB (b, f, l, ()) = true) : b = true → ∀ c ∈ l, c.2.1.size = 4 := by
  rintro rfl c hc
  exact (cellOk_val4 (chain_mem (right_chain h) c hc)).1

theorem f20_ok (k : Nat) (hk : 256 < k) (n : Nd) : f20_F k (n, ()) = some (splitB n, ()) := by
  obtain ⟨b, f, l, u⟩ := n
  unfold f20_F splitB
  simp only [f20_raw0]
  rw [f25_ok k _ hk]
  simp only [Option.bind_some, cnot]
  cases hr : rightB (b, f, l, ()) with
  | false => rfl
  | true =>
    have hl := right_len hr
    have hs := right_sz hr
    have hv := vals4 hr
    simp only at hl hs
    have e1 : IntKind.i64.wrap (Int.ofNat l.length - 1) = (l.length : Int) - 1 := w64 (by simp only [Int.ofNat_eq_natCast]; omega)
    have e2 : IntKind.i64.wrap ((l.length : Int) - 1 - 1) = (l.length : Int) - 1 - 1 := w64 (by omega)
    have key : ∀ (top : Int), top = topOf (b, f, l, ()) → 
        (bif decide (top < 1) then some (((false, (0 : Int), [], ()), ByteArray.mk #[], (false, (0 : Int), [], ()), OfNat.ofNat (1 : Nat), ()), ()) else (f30_F k (l, ())).bind fun y => bif decide ((0 : Int) ≤ (0 : Int) ∧ (0 : Int) < Int.ofNat l.length) then (f31_F k (((l.getD (0 : Nat) (ByteArray.mk #[], ByteArray.mk #[], ())).1, (l.getD (0 : Nat) (ByteArray.mk #[], ByteArray.mk #[], ())).2.1, ()), ())).bind fun y_1 => f20_L1 k ((1 : Int), top, y_1.1, y.1, b, f, l, false, (0 : Int), false, (0 : Int)) else none) =
        (some (bif decide (topOf (b, f, l, ()) < 1) then ((false, 0, [], ()), ByteArray.mk #[], (false, 0, [], ()), 1, ()) else splitRes (b, f, l, ()) (splitFrom l (topOf (b, f, l, ())).toNat l.length 1), ()) : Option ((Nd × ByteArray × Nd × Int × Unit) × Unit)) := by
      intro top ht
      rw [← ht]
      by_cases h1 : top < 1
      · rw [cpos h1, cpos h1]
      · have hle : top ≤ (l.length : Int) - 1 := by
          rw [ht]; unfold topOf; cases b <;> simp <;> omega
        have hpos : 0 < l.length := by omega
        have hmem : ∀ c ∈ l, cellSz c ≤ 82 := fun c hc => cellSz_le (chain_mem (right_chain hr) c hc)
        have h0 : cellSz l[0] ≤ 82 := hmem _ (List.getElem_mem hpos)
        rw [cneg h1, cneg h1, f30_ok k l (by omega) (by omega)]
        simp only [Option.bind_some]
        rw [cpos (by simp only [Int.ofNat_eq_natCast]; omega), show l.getD 0 (ByteArray.mk #[], ByteArray.mk #[], ()) = l[0] from getD_of hpos, f31_ok k _ (by simp only [cellSz] at h0 ⊢; omega)]
        simp only [Option.bind_some]
        have ht1 : allSz (l.take 1) = cellSz l[0] := by
          have := allSz_take_succ hpos
          simpa [allSz_nil] using this
        have := f20_loop k hk b f l top.toNat (by omega) hl hs hv l.length k 1 (by omega) (by omega) (by omega)
        rw [ht1, show Int.ofNat top.toNat = top by simp only [Int.ofNat_eq_natCast]; omega] at this
        exact this
    simp only [cond_true]
    cases b with
    | true =>
      simp only [cond_true, e1, e2]
      exact key _ (by simp [topOf])
    | false =>
      simp only [cond_false, e1]
      exact key _ (by simp [topOf])

theorem out21 (k : Nat) (b : Bool) (f : Int) (l : List Cell) (i : Nat) (hi : i < l.length) (hl : l.length ≤ 255) (hc : b = true → ∀ c ∈ l, c.2.1.size = 4) (L : Int × Int × Bool × Int × List Cell × Bool × Int × Bool × Int → Option ((Nd × ByteArray × Nd × Int × Unit) × Unit)) :
    f21_raw1 k L (Int.ofNat i, 0, b, f, l, false, 0, false, 0) = some (splitRes (b, f, l, ()) i, ()) := by
  simp only [f21_raw1]
  rw [cneg (by simp only [Int.ofNat_eq_natCast]; omega), cpos (by simp only [Int.ofNat_eq_natCast]; omega)]
  rw [show (Int.ofNat i).toNat = i from rfl, List.drop_zero, f28_ok k _ (by simp; omega)]
  have e2 : IntKind.i64.wrap (Int.ofNat i + 1) = Int.ofNat (i + 1) := by rw [w64 (by simp only [Int.ofNat_eq_natCast]; omega)]; rfl
  simp only [Option.bind_some, e2]
  rw [show (Int.ofNat (i + 1)).toNat = i + 1 from rfl, show (Int.ofNat l.length).toNat = l.length from rfl, List.take_length]
  rw [cpos (by simp only [Int.ofNat_eq_natCast]; omega)]
  have e5 : l.getD i (ByteArray.mk #[], ByteArray.mk #[], ()) = l[i] := getD_of hi
  have e5' : l.getD i dflt = l[i] := getD_of hi
  simp only [splitRes, e5, e5']
  cases b with
  | true =>
    simp only [Bool.not_true, cond_false, cond_true]
    rw [cpos (by simp only [Int.ofNat_eq_natCast]; omega)]
    rw [f24_ok k _ (by have := hc rfl l[i] (List.getElem_mem hi); omega)]
    simp only [Option.bind_some]
    rw [cpos (by simp only [Int.ofNat_eq_natCast]; omega), f28_ok k _ (by simp; omega)]
    rfl
  | false =>
    simp only [Bool.not_false, cond_true, cond_false]
    rw [cpos (by simp only [Int.ofNat_eq_natCast]; omega), f28_ok k _ (by simp; omega)]
    rfl

theorem f21_loop (k : Nat) (hk : 256 < k) (b : Bool) (f : Int) (l : List Cell) (top : Nat) (ht : top < l.length) (hl : l.length ≤ 255) (hs : allSz l ≤ 20910) (hc : b = true → ∀ c ∈ l, c.2.1.size = 4) : ∀ (d m i : Nat), top - i ≤ d → i ≤ top → d < m →
    iter (fun L1 => f21_raw1 k L1) m (Int.ofNat i, Int.ofNat top, b, f, l, false, 0, false, 0) = some (splitRes (b, f, l, ()) (splitFrom l top d i), ()) := by
  intro d
  induction d with
  | zero =>
    intro m i hd hi hm
    obtain ⟨m, rfl⟩ := pos_of_lt hm
    have o := out21 k b f l i (by omega) hl hc (iter (fun L1 => f21_raw1 k L1) m)
    simp only [iter_succ, f21_raw1] at o ⊢
    rw [cneg (by simp only [Int.ofNat_eq_natCast]; omega)] at o ⊢
    exact o
  | succ d ih =>
    intro m i hd hi hm
    obtain ⟨m, rfl⟩ := pos_of_lt hm
    have o := out21 k b f l i (by omega) hl hc (iter (fun L1 => f21_raw1 k L1) m)
    simp only [splitFrom]
    by_cases h1 : i < top
    · have hlt : i < l.length := by omega
      have h3 := allSz_take_le l i
      have e1 : IntKind.i64.wrap (Int.ofNat i + 1) = Int.ofNat (i + 1) := by rw [w64 (by simp only [Int.ofNat_eq_natCast]; omega)]; rfl
      have e2 : IntKind.i64.wrap ((2 : Int) * (allSz (l.take i) : Int)) = Int.ofNat (2 * allSz (l.take i)) := by rw [w64 (by omega)]; simp only [Int.ofNat_eq_natCast]; omega
      by_cases hb : 2 * allSz (l.take i) < allSz l
      · have h0 := ih m (i + 1) (by omega) (by omega) (by omega)
        rw [if_pos ⟨h1, hb⟩]
        simp only [iter_succ, f21_raw1, e1]
        rw [cpos (by simp only [Int.ofNat_eq_natCast]; omega), cpos (by simp only [Int.ofNat_eq_natCast]; omega)]
        rw [show (Int.ofNat i).toNat = i from rfl, List.drop_zero, f32_ok k _ (by simp; omega) (by omega), f32_ok k l (by omega) (by omega)]
        simp only [Option.bind_some, e2]
        rw [cpos (by simp only [Int.ofNat_eq_natCast]; omega)]
        exact h0
      · rw [if_neg (by omega)]
        simp only [iter_succ, f21_raw1] at o ⊢
        rw [cneg (by simp only [Int.ofNat_eq_natCast]; omega)] at o
        rw [cpos (by simp only [Int.ofNat_eq_natCast]; omega), cpos (by simp only [Int.ofNat_eq_natCast]; omega)]
        rw [show List.drop 0 (List.take (Int.ofNat i).toNat l) = l.take i from rfl, f32_ok k _ (by simp; omega) (by omega), f32_ok k l (by omega) (by omega)]
        simp only [Option.bind_some, e2]
        rw [cneg (by simp only [Int.ofNat_eq_natCast]; omega)]
        exact o
    · rw [if_neg (by omega)]
      simp only [iter_succ, f21_raw1] at o ⊢
      rw [cneg (by simp only [Int.ofNat_eq_natCast]; omega)] at o ⊢
      exact o

theorem f21_ok (k : Nat) (hk : 256 < k) (n : Nd) : f21_F k (n, ()) = some (splitB n, ()) := by
  obtain ⟨b, f, l, u⟩ := n
  unfold f21_F splitB
  simp only [f21_raw0]
  rw [f22_ok k _ hk]
  simp only [Option.bind_some, cnot]
  cases hr : rightB (b, f, l, ()) with
  | false => rfl
  | true =>
    have hl := right_len hr
    have hs := right_sz hr
    have hv := vals4 hr
    simp only at hl hs
    have e1 : IntKind.i64.wrap (Int.ofNat l.length - 1) = (l.length : Int) - 1 := w64 (by simp only [Int.ofNat_eq_natCast]; omega)
    have e2 : IntKind.i64.wrap ((l.length : Int) - 1 - 1) = (l.length : Int) - 1 - 1 := w64 (by omega)
    have key : ∀ (top : Int), top = topOf (b, f, l, ()) → 
        (bif decide (top < 1) then some (((false, (0 : Int), [], ()), ByteArray.mk #[], (false, (0 : Int), [], ()), OfNat.ofNat (1 : Nat), ()), ()) else f21_L1 k ((1 : Int), top, b, f, l, false, (0 : Int), false, (0 : Int))) =
        (some (bif decide (topOf (b, f, l, ()) < 1) then ((false, 0, [], ()), ByteArray.mk #[], (false, 0, [], ()), 1, ()) else splitRes (b, f, l, ()) (splitFrom l (topOf (b, f, l, ())).toNat l.length 1), ()) : Option ((Nd × ByteArray × Nd × Int × Unit) × Unit)) := by
      intro top ht
      rw [← ht]
      by_cases h1 : top < 1
      · rw [cpos h1, cpos h1]
      · have hle : top ≤ (l.length : Int) - 1 := by
          rw [ht]; unfold topOf; cases b <;> simp <;> omega
        rw [cneg h1, cneg h1]
        have := f21_loop k hk b f l top.toNat (by omega) hl hs hv l.length k 1 (by omega) (by omega) (by omega)
        rw [show Int.ofNat top.toNat = top by simp only [Int.ofNat_eq_natCast]; omega] at this
        exact this
    simp only [cond_true]
    cases b with
    | true =>
      simp only [cond_true, e1, e2]
      exact key _ (by simp [topOf])
    | false =>
      simp only [cond_false, e1]
      exact key _ (by simp [topOf])
end Go.Sh
