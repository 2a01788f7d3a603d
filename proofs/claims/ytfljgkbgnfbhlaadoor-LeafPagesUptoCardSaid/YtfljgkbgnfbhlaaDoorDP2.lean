import Derived.Test.YtfljgkbgnfbhlaaDoorDP1
set_option linter.unusedSimpArgs false
namespace Go.Sh
open Go Go.Proofs

def cellOk (b : Bool) (c : Cell) : Bool := decide (c.1.size ≠ 0) && decide (c.1.size ≤ 32) && (bif b then decide (c.2.1.size = 4) && decide (num4 c.2.1 ≠ 0) else decide (c.2.1.size ≤ 48))
def chain (b : Bool) : Option ByteArray → List Cell → Bool
  | _, [] => true
  | p, c :: l => cellOk b c && (match p with | none => true | some q => sless q c.1) && chain b (some c.1) l
def rightB (n : Nd) : Bool := decide (n.2.2.1.length ≤ 255) && (bif n.1 then decide (1 ≤ n.2.1) && decide (n.2.1 < 4294967296) else decide (n.2.1 = 0)) && chain n.1 none n.2.2.1

def prevOf (l : List Cell) (j : Nat) : Option ByteArray := if h : 0 < j ∧ j - 1 < l.length then some l[j - 1].1 else none
theorem prevOf_zero (l : List Cell) : prevOf l 0 = none := by simp [prevOf]
theorem prevOf_succ (l : List Cell) (j : Nat) (h : j < l.length) : prevOf l (j + 1) = some l[j].1 := by simp [prevOf, h]
theorem chain_at {b : Bool} {l : List Cell} {j : Nat} (h : j < l.length) : chain b (prevOf l j) (l.drop j) = (cellOk b l[j] && (match prevOf l j with | none => true | some q => sless q l[j].1) && chain b (prevOf l (j + 1)) (l.drop (j + 1))) := by
  rw [List.drop_eq_getElem_cons h, prevOf_succ l j h]; rfl
theorem chain_end {b : Bool} (l : List Cell) (p : Option ByteArray) : chain b p (l.drop l.length) = true := by simp [chain]

theorem empty_beq (s : ByteArray) : (s.toList == (ByteArray.mk #[]).toList) = decide (s.size = 0) := by
  rw [ba_beq]
  rw [Bool.eq_iff_iff]
  simp only [decide_eq_true_eq]
  exact ⟨fun h => by rw [h]; rfl, size_zero⟩

theorem notle (a b : ByteArray) : (Op.bytesLess a.toList b.toList || (a.toList == b.toList)) = !(sless b a) := by
  rw [ba_beq]; exact sle_eq a b

theorem f25_loop (k : Nat) (hk : 4 < k) (b : Bool) (f : Int) (l : List Cell) (hl : l.length ≤ 255) : ∀ (d m j : Nat), l.length - j = d → j ≤ l.length → d < m →
    iter (fun L1 => f25_raw1 k L1) m (Int.ofNat l.length, Int.ofNat j, l, b, f, l) = some (chain b (prevOf l j) (l.drop j), ()) := by
  intro d
  induction d with
  | zero =>
    intro m j hd hj hm
    obtain ⟨m, rfl⟩ := pos_of_lt hm
    obtain rfl : j = l.length := by omega
    rw [chain_end]
    simp [iter_succ, f25_raw1]
  | succ d ih =>
    intro m j hd hj hm
    obtain ⟨m, rfl⟩ := pos_of_lt hm
    have hlt : j < l.length := by omega
    have h0 := ih m (j + 1) (by omega) (by omega) (by omega)
    have e1 : IntKind.i64.wrap (Int.ofNat j + 1) = Int.ofNat (j + 1) := by rw [w64 (by simp only [Int.ofNat_eq_natCast]; omega)]; rfl
    rw [chain_at hlt]
    generalize hL : iter (fun L1 => f25_raw1 k L1) m = L at *
    rw [iter_succ, hL]
    simp only [f25_raw1, e1, h0]
    have g0 : decide (Int.ofNat j < Int.ofNat l.length) = true := decide_eq_true (by simp only [Int.ofNat_eq_natCast]; omega)
    have g1 : decide ((0 : Int) ≤ Int.ofNat j ∧ Int.ofNat j < Int.ofNat l.length) = true := decide_eq_true (by simp only [Int.ofNat_eq_natCast]; omega)
    have g2 : l.getD (Int.ofNat j).toNat (ByteArray.mk #[], ByteArray.mk #[], ()) = l[j] := getD_of hlt
    simp only [g0, g1, g2, cond_true]
    generalize hc : l[j] = c at *
    have hch : c.2.1.size = 4 → f26_F k ((c.1, c.2.1, ()), ()) = some ((num4 c.2.1 : Int), ()) := fun h => f26_ok k (c.1, c.2.1, ()) hk (by simp only; omega)
    simp only [empty_beq, notle]
    have fin : ∀ (pb : Bool), (bif !pb then some (false, ()) else
        bif b then bif Int.ofNat c.2.1.size != (4 : Int) then some (false, ()) else (f26_F k ((c.1, c.2.1, ()), ())).bind fun y => bif y.1 == (0 : Int) then some (false, ()) else bif !b then bif decide ((48 : Int) < Int.ofNat c.2.1.size) then some (false, ()) else some (chain b (prevOf l (j + 1)) (List.drop (j + 1) l), ()) else some (chain b (prevOf l (j + 1)) (List.drop (j + 1) l), ())
        else bif !b then bif decide ((48 : Int) < Int.ofNat c.2.1.size) then some (false, ()) else some (chain b (prevOf l (j + 1)) (List.drop (j + 1) l), ()) else some (chain b (prevOf l (j + 1)) (List.drop (j + 1) l), ())) =
        some ((bif b then decide (c.2.1.size = 4) && decide (num4 c.2.1 ≠ 0) else decide (c.2.1.size ≤ 48)) && pb && chain b (prevOf l (j + 1)) (List.drop (j + 1) l), ()) := by
      intro pb
      cases pb
      · simp
      · cases b
        · by_cases h48 : 48 < c.2.1.size
          · have : ¬ c.2.1.size ≤ 48 := by omega
            have h48' : (48 : Int) < (c.2.1.size : Int) := by omega
            simp [h48', this]
          · have : c.2.1.size ≤ 48 := by omega
            have h48' : ¬ (48 : Int) < (c.2.1.size : Int) := by omega
            simp [h48', this]
        · by_cases h4 : c.2.1.size = 4
          · by_cases hz : num4 c.2.1 = 0
            · simp [hch h4, h4, hz]
            · have : ¬ ((num4 c.2.1 : Int)) = 0 := by omega
              have hb : (((num4 c.2.1 : Nat) : Int) == 0) = false := by simpa using this
              simp [hch h4, h4, hz, hb]
          · have : ((c.2.1.size : Int) != 4) = true := by rw [int_bne]; simp; omega
            simp [h4, this]
    by_cases c1 : c.1.size = 0
    · simp [c1, cellOk]
    · by_cases c2 : c.1.size ≤ 32
      · have c2' : ¬ (32 : Int) < (c.1.size : Int) := by omega
        cases j with
        | zero =>
          have := fin true
          simp only [Bool.not_true, cond_false] at this
          simp only [c1, c2', decide_false, cond_false, Int.ofNat_eq_natCast, Int.lt_irrefl, Int.natCast_zero, prevOf_zero, cellOk, c2, decide_true, Bool.true_and, ne_eq, not_false_eq_true] at this ⊢
          exact this
        | succ i =>
          have hi : i < l.length := by omega
          have := fin (sless l[i].1 c.1)
          have e2 : IntKind.i64.wrap (Int.ofNat (i + 1) - 1) = Int.ofNat i := by rw [w64 (by simp only [Int.ofNat_eq_natCast]; omega)]; simp only [Int.ofNat_eq_natCast]; omega
          have e3 : decide ((0 : Int) < Int.ofNat (i + 1)) = true := decide_eq_true (by simp only [Int.ofNat_eq_natCast]; omega)
          have e4 : decide ((0 : Int) ≤ Int.ofNat i ∧ Int.ofNat i < Int.ofNat l.length) = true := decide_eq_true (by simp only [Int.ofNat_eq_natCast]; omega)
          have e5 : l.getD (Int.ofNat i).toNat (ByteArray.mk #[], ByteArray.mk #[], ()) = l[i] := getD_of hi
          have e6 : decide ((32 : Int) < Int.ofNat c.1.size) = false := decide_eq_false (by simpa using c2')
          rw [prevOf_succ l i hi]
          simp only [c1, decide_false, cond_false, e2, e3, e4, e5, e6, cond_true, cellOk, c2, decide_true, Bool.true_and, ne_eq, not_false_eq_true]
          exact this
      · have c2' : (32 : Int) < (c.1.size : Int) := by omega
        simp [c1, c2, c2', cellOk]

theorem f25_ok (k : Nat) (n : Nd) (hk : 256 < k) : f25_F k (n, ()) = some (rightB n, ()) := by
  obtain ⟨b, f, l, u⟩ := n
  by_cases hl : l.length ≤ 255
  · have h := f25_loop k (by omega) b f l hl l.length k 0 (by omega) (by omega) (by omega)
    rw [prevOf_zero, List.drop_zero] at h
    have h' : f25_L1 k (Int.ofNat l.length, 0, l, b, f, l) = some (chain b none l, ()) := h
    have h1 : ¬ (255 : Int) < Int.ofNat l.length := by simp only [Int.ofNat_eq_natCast]; omega
    unfold f25_F
    simp only [f25_raw0, h', rightB, hl, decide_true, Bool.true_and, decide_eq_false h1, cond_false]
    cases b
    · by_cases hf : f = 0
      · simp [hf]
      · have : (f != 0) = true := by simpa using hf
        simp [hf, this]
    · by_cases h1 : f < 1
      · have : ¬ 1 ≤ f := by omega
        simp [h1, this]
      · have : 1 ≤ f := by omega
        by_cases h2 : 4294967296 ≤ f
        · have : ¬ f < 4294967296 := by omega
          simp [h1, h2, this]
        · have h3 : f < 4294967296 := by omega
          simp [h1, h2, h3, this]
  · have h1 : (255 : Int) < Int.ofNat l.length := by simp only [Int.ofNat_eq_natCast]; omega
    unfold f25_F
    simp only [f25_raw0, rightB, hl, decide_false, Bool.false_and, decide_eq_true h1, cond_true]

theorem num4_zero {s : ByteArray} (h : s.size = 4) : (s.toList == (ByteArray.mk #[OfNat.ofNat (0 : Nat), OfNat.ofNat (0 : Nat), OfNat.ofNat (0 : Nat), OfNat.ofNat (0 : Nat)]).toList) = decide (num4 s = 0) := by
  rw [ba_beq]
  obtain ⟨a, b, c, d, rfl⟩ := len4 h
  have hn : num4 ⟨#[a, b, c, d]⟩ = ((a.toNat * 256 + b.toNat) * 256 + c.toNat) * 256 + d.toNat := rfl
  rw [Bool.eq_iff_iff, hn]
  simp only [decide_eq_true_eq]
  have z : ∀ x : UInt8, x.toNat = 0 → x = 0 := fun x h => UInt8.toNat_inj.1 h
  constructor
  · intro e
    have e := congrArg (fun t : ByteArray => t.data.toList) e
    simp only [List.cons.injEq, and_true] at e
    obtain ⟨e0, e1, e2, e3⟩ := e
    rw [e0, e1, e2, e3]
    simp
  · intro e
    have h0 := z a (by omega)
    have h1 := z b (by omega)
    have h2 := z c (by omega)
    have h3 := z d (by omega)
    rw [h0, h1, h2, h3]

theorem f22_loop (k : Nat) (b : Bool) (f : Int) (l : List Cell) (hl : l.length ≤ 255) : ∀ (d m j : Nat), l.length - j = d → j ≤ l.length → d < m →
    iter (fun L1 => f22_raw1 k L1) m (Int.ofNat j, b, f, l) = some (chain b (prevOf l j) (l.drop j), ()) := by
  intro d
  induction d with
  | zero =>
    intro m j hd hj hm
    obtain ⟨m, rfl⟩ := pos_of_lt hm
    obtain rfl : j = l.length := by omega
    rw [chain_end]
    simp [iter_succ, f22_raw1]
  | succ d ih =>
    intro m j hd hj hm
    obtain ⟨m, rfl⟩ := pos_of_lt hm
    have hlt : j < l.length := by omega
    have h0 := ih m (j + 1) (by omega) (by omega) (by omega)
    have e1 : IntKind.i64.wrap (Int.ofNat j + 1) = Int.ofNat (j + 1) := by rw [w64 (by simp only [Int.ofNat_eq_natCast]; omega)]; rfl
    rw [chain_at hlt]
    generalize hL : iter (fun L1 => f22_raw1 k L1) m = L at *
    rw [iter_succ, hL]
    simp only [f22_raw1, e1, h0]
    have g0 : decide (Int.ofNat j < Int.ofNat l.length) = true := decide_eq_true (by simp only [Int.ofNat_eq_natCast]; omega)
    have g1 : decide ((0 : Int) ≤ Int.ofNat j ∧ Int.ofNat j < Int.ofNat l.length) = true := decide_eq_true (by simp only [Int.ofNat_eq_natCast]; omega)
    have g2 : l.getD (Int.ofNat j).toNat (ByteArray.mk #[], ByteArray.mk #[], ()) = l[j] := getD_of hlt
    simp only [g0, g1, g2, cond_true]
    generalize hc : l[j] = c at *
    simp only [empty_beq, notle]
    have fin : ∀ (pb : Bool) (R : Option (Bool × Unit)), R = some (chain b (prevOf l (j + 1)) (List.drop (j + 1) l), ()) → (bif !pb then some (false, ()) else
        bif !b then bif decide ((48 : Int) < Int.ofNat c.2.1.size) then some (false, ()) else bif b then bif Int.ofNat c.2.1.size != (4 : Int) then some (false, ()) else bif c.2.1.toList == (ByteArray.mk #[OfNat.ofNat (0 : Nat), OfNat.ofNat (0 : Nat), OfNat.ofNat (0 : Nat), OfNat.ofNat (0 : Nat)]).toList then some (false, ()) else R else R
        else bif b then bif Int.ofNat c.2.1.size != (4 : Int) then some (false, ()) else bif c.2.1.toList == (ByteArray.mk #[OfNat.ofNat (0 : Nat), OfNat.ofNat (0 : Nat), OfNat.ofNat (0 : Nat), OfNat.ofNat (0 : Nat)]).toList then some (false, ()) else R else R) =
        some ((bif b then decide (c.2.1.size = 4) && decide (num4 c.2.1 ≠ 0) else decide (c.2.1.size ≤ 48)) && pb && chain b (prevOf l (j + 1)) (List.drop (j + 1) l), ()) := by
      rintro pb R rfl
      cases pb
      · simp
      · cases b
        · by_cases h48 : 48 < c.2.1.size
          · have : ¬ c.2.1.size ≤ 48 := by omega
            have h48' : (48 : Int) < (c.2.1.size : Int) := by omega
            simp [h48', this]
          · have : c.2.1.size ≤ 48 := by omega
            have h48' : ¬ (48 : Int) < (c.2.1.size : Int) := by omega
            simp [h48', this]
        · by_cases h4 : c.2.1.size = 4
          · rw [num4_zero h4]
            by_cases hz : num4 c.2.1 = 0
            · simp [h4, hz]
            · simp [h4, hz]
          · have : ((c.2.1.size : Int) != 4) = true := by rw [int_bne]; simp; omega
            simp [h4, this]
    by_cases c1 : c.1.size = 0
    · simp [c1, cellOk]
    · by_cases c2 : c.1.size ≤ 32
      · have c2' : ¬ (32 : Int) < (c.1.size : Int) := by omega
        cases j with
        | zero =>
          have := fin true _ rfl
          simp only [Bool.not_true, cond_false] at this
          simp only [c1, c2', decide_false, cond_false, Int.ofNat_eq_natCast, Int.lt_irrefl, Int.natCast_zero, prevOf_zero, cellOk, c2, decide_true, Bool.true_and, ne_eq, not_false_eq_true] at this ⊢
          exact this
        | succ i =>
          have hi : i < l.length := by omega
          have := fin (sless l[i].1 c.1) _ rfl
          have e2 : IntKind.i64.wrap (Int.ofNat (i + 1) - 1) = Int.ofNat i := by rw [w64 (by simp only [Int.ofNat_eq_natCast]; omega)]; simp only [Int.ofNat_eq_natCast]; omega
          have e3 : decide ((0 : Int) < Int.ofNat (i + 1)) = true := decide_eq_true (by simp only [Int.ofNat_eq_natCast]; omega)
          have e4 : decide ((0 : Int) ≤ Int.ofNat i ∧ Int.ofNat i < Int.ofNat l.length) = true := decide_eq_true (by simp only [Int.ofNat_eq_natCast]; omega)
          have e5 : l.getD (Int.ofNat i).toNat (ByteArray.mk #[], ByteArray.mk #[], ()) = l[i] := getD_of hi
          have e6 : decide ((32 : Int) < Int.ofNat c.1.size) = false := decide_eq_false (by simpa using c2')
          rw [prevOf_succ l i hi]
          simp only [c1, decide_false, cond_false, e2, e3, e4, e5, e6, cond_true, cellOk, c2, decide_true, Bool.true_and, ne_eq, not_false_eq_true]
          exact this
      · have c2' : (32 : Int) < (c.1.size : Int) := by omega
        simp [c1, c2, c2', cellOk]

theorem f22_ok (k : Nat) (n : Nd) (hk : 256 < k) : f22_F k (n, ()) = some (rightB n, ()) := by
  obtain ⟨b, f, l, u⟩ := n
  by_cases hl : l.length ≤ 255
  · have h := f22_loop k b f l hl l.length k 0 (by omega) (by omega) (by omega)
    rw [prevOf_zero, List.drop_zero] at h
    have h' : f22_L1 k (0, b, f, l) = some (chain b none l, ()) := h
    have h1 : ¬ (255 : Int) < Int.ofNat l.length := by simp only [Int.ofNat_eq_natCast]; omega
    unfold f22_F
    simp only [f22_raw0, h', rightB, hl, decide_true, Bool.true_and, decide_eq_false h1, cond_false]
    cases b
    · by_cases hf : f = 0
      · simp [hf]
      · have : (f != 0) = true := by simpa using hf
        simp [hf, this]
    · by_cases h1 : f < 1
      · have : ¬ 1 ≤ f := by omega
        simp [h1, this]
      · have : 1 ≤ f := by omega
        by_cases h2 : 4294967296 ≤ f
        · have : ¬ f < 4294967296 := by omega
          simp [h1, h2, this]
        · have h3 : f < 4294967296 := by omega
          simp [h1, h2, h3, this]
  · have h1 : (255 : Int) < Int.ofNat l.length := by simp only [Int.ofNat_eq_natCast]; omega
    unfold f22_F
    simp only [f22_raw0, rightB, hl, decide_false, Bool.false_and, decide_eq_true h1, cond_true]
end Go.Sh
