import Derived.Test.YtfljgkbgnfbhlaaDoorDP12
set_option linter.unusedSimpArgs false
namespace Go.Sh
open Go Go.Proofs

theorem byteAt_fold (s : ByteArray) (i : Nat) : (s.data.toList.getD i 0).toNat = byteAt s i := rfl
theorem byteAt_extract (s : ByteArray) (a b i : Nat) (h : a + i < b) : byteAt (s.extract a b) i = byteAt s (a + i) := by
  unfold byteAt
  rw [toList_extract]
  simp only [List.getD_eq_getElem?_getD, List.getElem?_drop, List.getElem?_take]
  rw [if_pos h]

/-- noughts off the end -/
theorem f131_loop (k : Nat) : ∀ (d m : Nat) (s : ByteArray), s.size = d → d < m → d < 1000000 →
    ∃ j, j ≤ s.size ∧ iter (fun L1 => f131_raw1 k L1) m (s, 0) = some (s.extract 0 j, ()) ∧ (∀ i, j ≤ i → byteAt s i = 0) ∧ (j = 0 ∨ byteAt s (j - 1) ≠ 0) := by
  have high : ∀ (s : ByteArray) (i : Nat), s.size ≤ i → byteAt s i = 0 := by
    intro s i h
    unfold byteAt
    rw [List.getD_eq_getElem?_getD, List.getElem?_eq_none (by rw [toList_len]; exact h)]
    rfl
  have whole : ∀ (s : ByteArray), s.extract 0 s.size = s := by
    intro s
    apply numsOf_inj
    rw [numsOf_extract, List.drop_zero, ← numsOf_len s, List.take_length]
  intro d
  induction d with
  | zero =>
    intro m s hd hm _
    obtain ⟨m, rfl⟩ := pos_of_lt hm
    refine ⟨0, Nat.zero_le _, ?_, fun i _ => high s i (by omega), .inl rfl⟩
    simp only [iter_succ, f131_raw1]
    rw [cneg (by simp only [Int.ofNat_eq_natCast]; omega)]
    have := whole s
    rw [hd] at this
    rw [this]
  | succ d ih =>
    intro m s hd hm hb
    obtain ⟨m, rfl⟩ := pos_of_lt hm
    have e1 : IntKind.i64.wrap (Int.ofNat s.size - 1) = Int.ofNat d := by rw [w64 (by simp only [Int.ofNat_eq_natCast]; omega)]; simp only [Int.ofNat_eq_natCast]; omega
    by_cases hz : byteAt s d = 0
    · have hs : (s.extract 0 d).size = d := by rw [size_extract]; omega
      obtain ⟨j, j1, j2, j3, j4⟩ := ih m (s.extract 0 d) hs (by omega) (by omega)
      have hby : ∀ i, i < d → byteAt (s.extract 0 d) i = byteAt s i := fun i hi => by
        rw [byteAt_extract _ _ _ _ (by omega), Nat.zero_add]
      refine ⟨j, by omega, ?_, ?_, ?_⟩
      · simp only [iter_succ, f131_raw1, e1]
        rw [cpos (by simp only [Int.ofNat_eq_natCast]; omega), cpos (by simp only [Int.ofNat_eq_natCast]; omega)]
        rw [show (Int.ofNat d).toNat = d from rfl, show (s.data.toList.getD d (OfNat.ofNat 0)).toNat = byteAt s d from rfl, hz]
        rw [cpos (by simp only [Int.ofNat_eq_natCast]; omega)]
        have e : (s.extract 0 d).extract 0 j = s.extract 0 j := by
          apply numsOf_inj
          simp only [numsOf_extract, List.drop_zero, List.take_take]
          rw [Nat.min_eq_left (by omega)]
        rw [e] at j2
        exact j2
      · intro i hi
        by_cases h1 : i < d
        · rw [← hby i h1]; exact j3 i hi
        · by_cases h2 : i = d
          · rw [h2]; exact hz
          · exact high s i (by omega)
      · rcases j4 with h | h
        · exact .inl h
        · by_cases h0 : j = 0
          · exact .inl h0
          · right; rw [← hby (j - 1) (by omega)]; exact h
    · refine ⟨s.size, Nat.le_refl _, ?_, fun i hi => high s i hi, .inr (by rw [hd]; exact hz)⟩
      simp only [iter_succ, f131_raw1, e1]
      rw [cpos (by simp only [Int.ofNat_eq_natCast]; omega), cpos (by simp only [Int.ofNat_eq_natCast]; omega)]
      rw [show (Int.ofNat d).toNat = d from rfl, show (s.data.toList.getD d (OfNat.ofNat 0)).toNat = byteAt s d from rfl]
      rw [int_beq, cneg (by simp only [Int.ofNat_eq_natCast]; omega), whole]

/-- .. and off the front -/
theorem f130_loop (k : Nat) : ∀ (d m : Nat) (s : ByteArray), s.size = d → d < m →
    ∃ t, iter (fun L1 => f130_raw1 k L1) m (s, 0) = some (t, ()) ∧ (t.size = 0 → ∀ i, i < s.size → byteAt s i = 0) ∧ (s.size = 0 → t.size = 0) := by
  intro d
  induction d with
  | zero =>
    intro m s hd hm
    obtain ⟨m, rfl⟩ := pos_of_lt hm
    refine ⟨s, ?_, fun _ i hi => by omega, fun h => h⟩
    simp only [iter_succ, f130_raw1]
    rw [cneg (by simp only [Int.ofNat_eq_natCast]; omega)]
  | succ d ih =>
    intro m s hd hm
    obtain ⟨m, rfl⟩ := pos_of_lt hm
    by_cases hz : byteAt s 0 = 0
    · have hs : (s.extract 1 s.size).size = d := by rw [size_extract]; omega
      obtain ⟨t, t1, t2, t3⟩ := ih m (s.extract 1 s.size) hs (by omega)
      refine ⟨t, ?_, ?_, fun h => by omega⟩
      · simp only [iter_succ, f130_raw1]
        rw [cpos (by simp only [Int.ofNat_eq_natCast]; omega), cpos (by simp only [Int.ofNat_eq_natCast]; omega)]
        rw [show (s.data.toList.getD 0 (OfNat.ofNat 0)).toNat = byteAt s 0 from rfl, hz]
        rw [cpos (by simp only [Int.ofNat_eq_natCast]; omega)]
        exact t1
      · intro h i hi
        cases i with
        | zero => exact hz
        | succ i =>
          have := t2 h i (by omega)
          rw [byteAt_extract _ _ _ _ (by omega)] at this
          rw [Nat.add_comm]; exact this
    · refine ⟨s, ?_, fun h => by omega, fun h => h⟩
      simp only [iter_succ, f130_raw1]
      rw [cpos (by simp only [Int.ofNat_eq_natCast]; omega), cpos (by simp only [Int.ofNat_eq_natCast]; omega)]
      rw [show (s.data.toList.getD 0 (OfNat.ofNat 0)).toNat = byteAt s 0 from rfl]
      rw [int_beq, cneg (by simp only [Int.ofNat_eq_natCast]; omega)]

/-- noughts alone -/
def noughts (r : ByteArray) : Bool := (numsOf r).all fun x => decide (x = 0)
theorem noughts_iff {r : ByteArray} : noughts r = true ↔ ∀ i, i < r.size → byteAt r i = 0 := by
  unfold noughts
  rw [List.all_eq_true]
  constructor
  · intro h i hi
    have h1 := byteAt_nums r i
    have hi' : i < (numsOf r).length := by rw [numsOf_len]; exact hi
    rw [getD_of hi'] at h1
    have := of_decide_eq_true (h _ (List.getElem_mem hi'))
    omega
  · intro h x hx
    obtain ⟨i, hi, rfl⟩ := List.getElem_of_mem hx
    have h1 := byteAt_nums r i
    rw [getD_of hi] at h1
    rw [numsOf_len] at hi
    have := h i hi
    exact decide_eq_true (by omega)

theorem f126_ok (k : Nat) (r : ByteArray) (hk : r.size < k) (hr : r.size < 1000000) : ∃ t, f126_F k (r, ByteArray.mk #[OfNat.ofNat (0 : Nat)], ()) = some (t, ()) ∧ decide (t.size = 0) = noughts r := by
  unfold f126_F
  simp only [f126_raw0]
  rw [empty_beq]
  by_cases h0 : r.size = 0
  · rw [cpos h0]
    exact ⟨r, rfl, by rw [decide_eq_true h0]; exact (noughts_iff.2 fun i hi => by omega).symm⟩
  · rw [cneg h0]
    have hb : (bif (ByteArray.mk #[OfNat.ofNat (0 : Nat)]).toList == (ByteArray.mk #[]).toList then (some (r, ()) : Option (ByteArray × Unit)) else bif Int.ofNat (ByteArray.mk #[OfNat.ofNat (0 : Nat)]).size == (1 : Int) then bif decide ((0 : Int) ≤ (0 : Int) ∧ (0 : Int) < Int.ofNat (ByteArray.mk #[OfNat.ofNat (0 : Nat)]).size) then bif decide (Int.ofNat ((ByteArray.mk #[OfNat.ofNat (0 : Nat)]).data.toList.getD (0 : Nat) (OfNat.ofNat (0 : Nat))).toNat < (128 : Int)) then bif decide ((0 : Int) ≤ (0 : Int) ∧ (0 : Int) < Int.ofNat (ByteArray.mk #[OfNat.ofNat (0 : Nat)]).size) then (f131_F k (r, Int.ofNat ((ByteArray.mk #[OfNat.ofNat (0 : Nat)]).data.toList.getD (0 : Nat) (OfNat.ofNat (0 : Nat))).toNat, ())).bind fun y => bif decide ((0 : Int) ≤ (0 : Int) ∧ (0 : Int) < Int.ofNat (ByteArray.mk #[OfNat.ofNat (0 : Nat)]).size) then (f130_F k (y.1, Int.ofNat ((ByteArray.mk #[OfNat.ofNat (0 : Nat)]).data.toList.getD (0 : Nat) (OfNat.ofNat (0 : Nat))).toNat, ())).bind fun y => some (y.1, ()) else none else none else none else none else none) =
        (f131_F k (r, 0, ())).bind fun y => (f130_F k (y.1, 0, ())).bind fun y => some (y.1, ()) := by kernel_rfl
    rw [hb]
    obtain ⟨j, j1, j2, j3, j4⟩ := f131_loop k r.size k r rfl hk hr
    have h131 : f131_F k (r, 0, ()) = some (r.extract 0 j, ()) := j2
    rw [h131]
    simp only [Option.bind_some]
    have hs : (r.extract 0 j).size = j := by rw [size_extract]; omega
    obtain ⟨t, t1, t2, t3⟩ := f130_loop k j k (r.extract 0 j) hs (by omega)
    have h130 : f130_F k (r.extract 0 j, 0, ()) = some (t, ()) := t1
    rw [h130]
    refine ⟨t, rfl, ?_⟩
    by_cases hj : j = 0
    · rw [decide_eq_true (t3 (by omega))]
      exact (noughts_iff.2 fun i _ => j3 i (by omega)).symm
    · have hnz : byteAt r (j - 1) ≠ 0 := by
        rcases j4 with h | h
        · exact absurd h hj
        · exact h
      have hno : noughts r = false := by
        cases hn : noughts r with
        | false => rfl
        | true => exact absurd (noughts_iff.1 hn (j - 1) (by omega)) hnz
      rw [hno]
      apply decide_eq_false
      intro ht
      have := t2 ht (j - 1) (by omega)
      rw [byteAt_extract _ _ _ _ (by omega), Nat.zero_add] at this
      exact hnz this

abbrev formB : Nd × Int × Unit := ((false, 0, [], ()), 2, ())
def finalB (b : Bool) (f : Int) (l : List Cell) (r : ByteArray) : Nd × Int × Unit := bif rightB (b, f, l, ()) then (bif noughts r then ((b, f, l, ()), 0, ()) else formB) else formB
def afterB (b : Bool) (f : Int) (acc : List Cell) : Option (List Cell × ByteArray) → Nd × Int × Unit
  | none => formB
  | some (l, r) => finalB b f (acc ++ l) r

theorem f110_loop (k : Nat) (hk : 256 < k) (b : Bool) (f : Int) (n : Nat) (hn : n ≤ 255) : ∀ (d m i : Nat) (s : ByteArray) (acc : List Cell), n - i = d → i ≤ n → acc.length = i → s.size ≤ 256 → d < m →
    iter (fun L1 => f110_raw1 k L1) m (Int.ofNat n, Int.ofNat i, s, false, 0, b, f, acc) = some (afterB b f acc (parse d s), ()) := by
  intro d
  induction d with
  | zero =>
    intro m i s acc hd hi ha hs hm
    obtain ⟨m, rfl⟩ := pos_of_lt hm
    obtain rfl : i = n := by omega
    simp only [iter_succ, f110_raw1]
    rw [cneg (by simp only [Int.ofNat_eq_natCast]; omega), f25_ok k _ hk]
    simp only [Option.bind_some, cnot]
    simp only [parse, afterB, finalB, List.append_nil]
    cases rightB (b, f, acc, ()) with
    | false => rfl
    | true =>
      obtain ⟨t, t1, t2⟩ := f126_ok k s (by omega) (by omega)
      rw [t1]
      simp only [Option.bind_some, cond_true, empty_beq, cnot]
      rw [t2]
      cases noughts s <;> rfl
  | succ d ih =>
    intro m i s acc hd hi ha hs hm
    obtain ⟨m, rfl⟩ := pos_of_lt hm
    have e1 : IntKind.i64.wrap ((i : Int) + 1) = ((i + 1 : Nat) : Int) := by rw [w64 (by omega)]; omega
    have hx := byteAt_lt s 0
    have hy := byteAt_lt s 1
    simp only [iter_succ, f110_raw1, Int.ofNat_eq_natCast, byteAt_fold, parse]
    obtain ⟨x, hx0⟩ : ∃ x, byteAt s 0 = x := ⟨_, rfl⟩
    obtain ⟨y, hy0⟩ : ∃ y, byteAt s 1 = y := ⟨_, rfl⟩
    simp only [hx0, hy0] at hx hy ⊢
    have a1 : IntKind.i64.wrap (x : Int) = x := w64 (by omega)
    have a2 : IntKind.i64.wrap (y : Int) = y := w64 (by omega)
    have a3 : IntKind.i64.wrap (2 + (x : Int)) = ((2 + x : Nat) : Int) := by rw [w64 (by omega)]; omega
    have a4 : IntKind.i64.wrap (((2 + x : Nat) : Int) + (y : Int)) = ((2 + x + y : Nat) : Int) := by rw [w64 (by omega)]; omega
    rw [cpos (by omega)]
    simp only [a1, a2, a3, a4, e1]
    by_cases h2 : s.size < 2
    · rw [cpos (by omega), if_pos (.inl h2)]
      rfl
    · rw [cneg (by omega), cpos (by omega), cpos (by omega)]
      by_cases h3 : s.size < 2 + x + y
      · rw [cpos (by omega), if_pos (.inr h3)]
        rfl
      · rw [cneg (by omega), cpos (by omega), cpos (by omega), cpos (by simp; omega), cpos (by omega), if_neg (by omega)]
        simp only [Int.toNat_natCast]
        have h0 := ih m (i + 1) (s.extract (2 + x + y) s.size) (acc ++ [(s.extract 2 (2 + x), s.extract (2 + x) (2 + x + y), ())]) (by omega) (by omega) (by simp [ha]) (by rw [size_extract]; omega) (by omega)
        refine Eq.trans h0 ?_
        cases parse d (s.extract (2 + x + y) s.size) with
        | none => rfl
        | some q => obtain ⟨l, r⟩ := q; simp [afterB]

def firstOf (page : ByteArray) : Int := bif decide (byteAt page 0 = 2) then (num4 (page.extract 2 256) : Int) else 0
def restOf (page : ByteArray) : ByteArray := bif decide (byteAt page 0 = 2) then (page.extract 2 256).extract 4 254 else page.extract 2 256
def decB (page : ByteArray) : Nd × Int × Unit :=
  bif decide (page.size = 256) then (bif decide (byteAt page 0 = 1) || decide (byteAt page 0 = 2) then afterB (decide (byteAt page 0 = 2)) (firstOf page) [] (parse (byteAt page 1) (restOf page)) else formB) else formB

theorem num4_extract (s : ByteArray) : num4 (s.extract 0 4) = num4 s := by
  unfold num4
  rw [byteAt_extract _ _ _ _ (by omega), byteAt_extract _ _ _ _ (by omega), byteAt_extract _ _ _ _ (by omega), byteAt_extract _ _ _ _ (by omega)]

theorem f110_ok (k : Nat) (hk : 256 < k) (page : ByteArray) : f110_F k (page, ()) = some (decB page, ()) := by
  unfold f110_F decB
  simp only [f110_raw0, Int.ofNat_eq_natCast, byteAt_fold]
  by_cases hs : page.size = 256
  · have hb1 := byteAt_lt page 1
    have es : (page.extract 2 256).size = 254 := by rw [size_extract]; omega
    rw [int_bne, cneg (by omega), decide_eq_true hs, hs]
    simp only [cond_true, Int.toNat_natCast, es]
    rw [w64 (n := (byteAt page 1 : Int)) (by omega)]
    rw [int_bne, int_bne]
    have loop : ∀ (b : Bool) (f : Int) (s : ByteArray), s.size ≤ 256 → f110_L1 k ((byteAt page 1 : Int), 0, s, false, 0, b, f, []) = some (afterB b f [] (parse (byteAt page 1) s), ()) := by
      intro b f s h
      exact f110_loop k hk b f (byteAt page 1) (by omega) (byteAt page 1) k 0 s [] (by omega) (by omega) rfl h (by omega)
    have e26 := f26_ok k ((ByteArray.mk #[]), (page.extract 2 256).extract 0 4, ()) (by omega) (by simp only [size_extract]; omega)
    simp only [num4_extract] at e26
    by_cases h2 : byteAt page 0 = 2
    · have hd : ((byteAt page 0 : Int) == 2) = true := by rw [int_beq]; exact decide_eq_true (by omega)
      simp only [firstOf, restOf, hd, decide_eq_true h2, cond_true, Bool.or_true]
      rw [cpos (by decide), cpos (by omega), cpos (by decide), cneg (by omega), cpos (by decide), cpos (by decide), cpos (by decide), e26]
      simp only [Option.bind_some]
      rw [cpos (by decide), cpos (by decide), loop _ _ _ (by rw [size_extract]; omega)]
    · have hd : ((byteAt page 0 : Int) == 2) = false := by rw [int_beq]; exact decide_eq_false (by omega)
      simp only [firstOf, restOf, hd, decide_eq_false h2, cond_false, Bool.or_false]
      by_cases h1 : byteAt page 0 = 1
      · rw [cpos (by decide), cneg (by omega), cpos (by decide), cpos (by decide), cpos (by decide), loop _ _ _ (by omega), decide_eq_true h1]
        rfl
      · rw [cpos (by decide), cpos (by omega), cpos (by decide), cpos (by omega), decide_eq_false h1]
        rfl
  · rw [int_bne, cpos (by omega), decide_eq_false hs]
    rfl
end Go.Sh
