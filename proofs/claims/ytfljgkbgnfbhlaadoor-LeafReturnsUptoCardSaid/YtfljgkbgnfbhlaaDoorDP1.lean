import Derived.Test.YtfljgkbgnfbhlaaDoorD1
import Derived.Test.YtfljgkbgnfbhlaaDoorQ1
set_option linter.unusedSimpArgs false
namespace Go.Sh
open Go Go.Proofs

abbrev Cell := ByteArray × ByteArray × Unit
abbrev Nd := Bool × Int × List Cell × Unit
def cellSz (c : Cell) : Nat := 2 + c.1.size + c.2.1.size
def allSz (l : List Cell) : Nat := (l.map cellSz).sum

theorem allSz_nil : allSz [] = 0 := rfl
theorem allSz_cons (c : Cell) (l : List Cell) : allSz (c :: l) = cellSz c + allSz l := rfl
theorem allSz_append (l m : List Cell) : allSz (l ++ m) = allSz l + allSz m := by
  induction l with
  | nil => simp [allSz]
  | cons c l ih => simp only [List.cons_append, allSz_cons, ih]; omega
theorem allSz_take_succ {l : List Cell} {j : Nat} (h : j < l.length) : allSz (l.take (j + 1)) = allSz (l.take j) + cellSz l[j] := by
  rw [List.take_succ_eq_append_getElem h, allSz_append]; rfl
theorem allSz_take_le (l : List Cell) (j : Nat) : allSz (l.take j) ≤ allSz l := by
  conv => rhs; rw [← List.take_append_drop j l, allSz_append]
  omega
theorem allSz_drop_le (l : List Cell) (j : Nat) : allSz (l.drop j) ≤ allSz l := by
  conv => rhs; rw [← List.take_append_drop j l, allSz_append]
  omega
theorem len_le_allSz : ∀ (l : List Cell), 2 * l.length ≤ allSz l
  | [] => Nat.le_refl _
  | c :: l => by have := len_le_allSz l; simp only [allSz_cons, List.length_cons, cellSz]; omega

theorem f31_ok (k : Nat) (c : Cell) (h : cellSz c ≤ 1099511627776) : f31_F k (c, ()) = some ((cellSz c : Int), ()) := by
  obtain ⟨a, b, u⟩ := c
  unfold cellSz at *
  simp only [f31_F, f31_raw0, Int.ofNat_eq_natCast] at *
  rw [w64 (n := 2 + (a.size : Int)) (by omega), w64 (by omega)]
  simp

theorem f30_ok (k : Nat) (l : List Cell) (hk : l.length < k) (hb : allSz l ≤ 1099511627776) : f30_F k (l, ()) = some ((allSz l : Int), ()) := by
  have loop : ∀ (d m j : Nat), l.length - j = d → j ≤ l.length → d < m →
      iter (fun L1 => f30_raw1 k L1) m (Int.ofNat l.length, Int.ofNat j, l, Int.ofNat (allSz (l.take j))) = some ((allSz l : Int), ()) := by
    intro d
    induction d with
    | zero =>
      intro m j hd hj hm
      obtain ⟨m, rfl⟩ := pos_of_lt hm
      obtain rfl : j = l.length := by omega
      simp [iter_succ, f30_raw1]
    | succ d ih =>
      intro m j hd hj hm
      obtain ⟨m, rfl⟩ := pos_of_lt hm
      have hlt : j < l.length := by omega
      have hll := len_le_allSz l
      have h1 := allSz_take_succ hlt
      have h2 := allSz_take_le l (j + 1)
      have hc := f31_ok k l[j] (by omega)
      have := ih m (j + 1) (by omega) (by omega) (by omega)
      have e1 : IntKind.i64.wrap ((j : Int) + 1) = ((j + 1 : Nat) : Int) := by rw [w64 (by omega)]; omega
      have e2 : IntKind.i64.wrap ((allSz (l.take j) : Int) + (cellSz l[j] : Int)) = ((allSz (l.take (j + 1)) : Nat) : Int) := by rw [w64 (by omega)]; omega
      simp [iter_succ, f30_raw1, hlt, hc, e1, e2]
      simpa using this
  have := loop l.length k 0 (by omega) (by omega) hk
  simpa [f30_F, f30_raw0, f30_L1, allSz] using this

def byteAt (s : ByteArray) (i : Nat) : Nat := (s.data.toList.getD i 0).toNat
theorem byteAt_lt (s : ByteArray) (i : Nat) : byteAt s i < 256 := UInt8.toNat_lt _
/-- a number in its first four bytes -/
def num4 (s : ByteArray) : Nat := ((byteAt s 0 * 256 + byteAt s 1) * 256 + byteAt s 2) * 256 + byteAt s 3
theorem num4_lt (s : ByteArray) : num4 s < 4294967296 := by
  have h0 := byteAt_lt s 0
  have h1 := byteAt_lt s 1
  have h2 := byteAt_lt s 2
  have h3 := byteAt_lt s 3
  unfold num4; omega

theorem f24_ok (k : Nat) (s : ByteArray) (h : 4 ≤ s.size) : f24_F k (s, ()) = some ((num4 s : Int), ()) := by
  have h0 := byteAt_lt s 0
  have h1 := byteAt_lt s 1
  have h2 := byteAt_lt s 2
  have h3 := byteAt_lt s 3
  have c0 : (0 : Int) < (s.size : Int) := by omega
  have c1 : (1 : Int) < (s.size : Int) := by omega
  have c2 : (2 : Int) < (s.size : Int) := by omega
  have c3 : (3 : Int) < (s.size : Int) := by omega
  unfold byteAt at h0 h1 h2 h3
  have e0 := w64 (n := ((s.data.toList.getD 0 0).toNat : Int)) (by omega)
  have e1 := w64 (n := ((s.data.toList.getD 1 0).toNat : Int)) (by omega)
  have e2 := w64 (n := ((s.data.toList.getD 2 0).toNat : Int)) (by omega)
  have e3 := w64 (n := ((s.data.toList.getD 3 0).toNat : Int)) (by omega)
  have d0 := w64 (n := ((s.data.toList.getD 0 0).toNat : Int) * 16777216) (by omega)
  have d1 := w64 (n := ((s.data.toList.getD 1 0).toNat : Int) * 65536) (by omega)
  have d2 := w64 (n := ((s.data.toList.getD 2 0).toNat : Int) * 256) (by omega)
  simp only [f24_F, f24_raw0, Int.ofNat_eq_natCast, e0, e1, e2, e3, d0, d1, d2]
  simp only [num4, byteAt]
  generalize ha : (s.data.toList.getD 0 0).toNat = A at *
  generalize hb : (s.data.toList.getD 1 0).toNat = B at *
  generalize hc : (s.data.toList.getD 2 0).toNat = C at *
  generalize hd : (s.data.toList.getD 3 0).toNat = D at *
  have f1 := w64 (n := (A : Int) * 16777216 + (B : Int) * 65536) (by omega)
  have f2 := w64 (n := (A : Int) * 16777216 + (B : Int) * 65536 + (C : Int) * 256) (by omega)
  have f3 := w64 (n := (A : Int) * 16777216 + (B : Int) * 65536 + (C : Int) * 256 + (D : Int)) (by omega)
  rw [f1, f2, f3]
  have g0 : decide ((0 : Int) ≤ 0 ∧ (0 : Int) < (s.size : Int)) = true := decide_eq_true (by omega)
  have g1 : decide ((0 : Int) ≤ 1 ∧ (1 : Int) < (s.size : Int)) = true := decide_eq_true (by omega)
  have g2 : decide ((0 : Int) ≤ 2 ∧ (2 : Int) < (s.size : Int)) = true := decide_eq_true (by omega)
  have g3 : decide ((0 : Int) ≤ 3 ∧ (3 : Int) < (s.size : Int)) = true := decide_eq_true (by omega)
  rw [g0, g1, g2, g3]
  simp only [cond_true]
  exact congrArg (fun z : Int => some (z, ())) (by omega)

theorem f26_ok (k : Nat) (c : Cell) (hk : 4 < k) (h : 4 ≤ c.2.1.size) : f26_F k (c, ()) = some ((num4 c.2.1 : Int), ()) := by
  obtain ⟨a, s, u⟩ := c
  simp only at h
  have h0 := byteAt_lt s 0
  have h1 := byteAt_lt s 1
  have h2 := byteAt_lt s 2
  have h3 := byteAt_lt s 3
  have step : ∀ (m i v : Nat), i < 4 → v < 16777216 → iter (fun L1 => f26_raw1 k L1) (m + 1) (Int.ofNat i, Int.ofNat v, a, s) = iter (fun L1 => f26_raw1 k L1) m (Int.ofNat (i + 1), Int.ofNat (v * 256 + byteAt s i), a, s) := by
    intro m i v hi hv
    have hb := byteAt_lt s i
    have e1 : IntKind.i64.wrap ((i : Int) + 1) = ((i + 1 : Nat) : Int) := by rw [w64 (by omega)]; omega
    have e2 := or_byte (v := v) (b := byteAt s i) (by omega) hb
    unfold byteAt at e2
    simp only [iter_succ, f26_raw1, Int.ofNat_eq_natCast, Int.toNat_natCast] at e2 ⊢
    rw [decide_eq_true (show (i : Int) < 4 by omega), decide_eq_true (show (0 : Int) ≤ i ∧ (i : Int) < s.size by omega)]
    simp only [cond_true]
    rw [e1]
    show iter (fun L1 => f26_raw1 k L1) m _ = _
    congr 2
    simp only [byteAt]
    rw [← e2]
  obtain ⟨m, rfl⟩ : ∃ m, k = m + 1 + 1 + 1 + 1 + 1 := ⟨k - 5, by omega⟩
  have s0 := step (m + 1 + 1 + 1 + 1) 0 0 (by omega) (by omega)
  have s1 := step (m + 1 + 1 + 1) 1 (byteAt s 0) (by omega) (by omega)
  have s2 := step (m + 1 + 1) 2 (byteAt s 0 * 256 + byteAt s 1) (by omega) (by omega)
  have s3 := step (m + 1) 3 ((byteAt s 0 * 256 + byteAt s 1) * 256 + byteAt s 2) (by omega) (by omega)
  simp only [Nat.zero_mul, Nat.zero_add] at s0
  show iter (fun L1 => f26_raw1 _ L1) (m + 1 + 1 + 1 + 1 + 1) (Int.ofNat 0, Int.ofNat 0, a, s) = _
  rw [s0, s1, s2, s3]
  simp only [iter_succ, f26_raw1]
  rfl

/-- four bytes of a number -/
def fourB (n : Int) : ByteArray := ⟨#[UInt8.ofNat (IntKind.u8.wrap (n.fdiv 16777216)).toNat, UInt8.ofNat (IntKind.u8.wrap (n.fdiv 65536)).toNat, UInt8.ofNat (IntKind.u8.wrap (n.fdiv 256)).toNat, UInt8.ofNat (IntKind.u8.wrap n).toNat]⟩
theorem f27_ok (k : Nat) (n : Int) : f27_F k (n, ()) = some (fourB n, ()) := rfl
theorem f14_ok (k : Nat) (n : Int) : f14_F k (n, ()) = some (fourB n, ()) := rfl
theorem num4_fourB {n : Nat} (h : n < 4294967296) : num4 (fourB n) = n := by
  have e : ∀ m : Nat, IntKind.u8.wrap ((m : Int)) = ((m % 256 : Nat) : Int) := by
    intro m; rw [IntKind.wrap_u8]; omega
  have d : ∀ a : Nat, 0 < a → ((n : Int)).fdiv (a : Int) = ((n / a : Nat) : Int) := by
    intro a ha
    rw [Int.fdiv_eq_ediv_of_nonneg _ (by omega)]; rfl
  have d1 := d 16777216 (by omega)
  have d2 := d 65536 (by omega)
  have d3 := d 256 (by omega)
  have t : ∀ m : Nat, (UInt8.ofNat (((m % 256 : Nat) : Int)).toNat).toNat = m % 256 := by
    intro m
    rw [Int.toNat_natCast, UInt8.toNat_ofNat_of_lt' (show m % 256 < UInt8.size from Nat.mod_lt _ (by decide))]
  unfold num4 byteAt fourB
  simp only [List.getD_cons_zero, List.getD_cons_succ]
  have g1 := congrArg (fun z => (UInt8.ofNat (IntKind.u8.wrap z).toNat).toNat) d1
  have g2 := congrArg (fun z => (UInt8.ofNat (IntKind.u8.wrap z).toNat).toNat) d2
  have g3 := congrArg (fun z => (UInt8.ofNat (IntKind.u8.wrap z).toNat).toNat) d3
  simp only [e, t] at g1 g2 g3
  have g4 : (UInt8.ofNat (IntKind.u8.wrap (n : Int)).toNat).toNat = n % 256 := by rw [e, t]
  rw [show ((16777216 : Int)) = ((16777216 : Nat) : Int) from rfl, show ((65536 : Int)) = ((65536 : Nat) : Int) from rfl, show ((256 : Int)) = ((256 : Nat) : Int) from rfl, g1, g2, g3, g4]
  omega
theorem fourB_size (n : Int) : (fourB n).size = 4 := rfl

theorem f38_ok (k : Nat) (c : Cell) (h : cellSz c ≤ 1099511627776) : f38_F k (c, ()) = some ((cellSz c : Int), ()) := f31_ok k c h
theorem f32_ok (k : Nat) (l : List Cell) (hk : l.length < k) (hb : allSz l ≤ 1099511627776) : f32_F k (l, ()) = some ((allSz l : Int), ()) := by
  have loop : ∀ (d m j : Nat), l.length - j = d → j ≤ l.length → d < m →
      iter (fun L1 => f32_raw1 k L1) m (Int.ofNat j, l, Int.ofNat (allSz (l.take j))) = some ((allSz l : Int), ()) := by
    intro d
    induction d with
    | zero =>
      intro m j hd hj hm
      obtain ⟨m, rfl⟩ := pos_of_lt hm
      obtain rfl : j = l.length := by omega
      simp [iter_succ, f32_raw1]
    | succ d ih =>
      intro m j hd hj hm
      obtain ⟨m, rfl⟩ := pos_of_lt hm
      have hlt : j < l.length := by omega
      have hll := len_le_allSz l
      have h1 := allSz_take_succ hlt
      have h2 := allSz_take_le l (j + 1)
      have hc := f38_ok k l[j] (by omega)
      have := ih m (j + 1) (by omega) (by omega) (by omega)
      have e1 : IntKind.i64.wrap ((j : Int) + 1) = ((j + 1 : Nat) : Int) := by rw [w64 (by omega)]; omega
      have e2 : IntKind.i64.wrap ((allSz (l.take j) : Int) + (cellSz l[j] : Int)) = ((allSz (l.take (j + 1)) : Nat) : Int) := by rw [w64 (by omega)]; omega
      simp [iter_succ, f32_raw1, hlt, hc, e1, e2]
      simpa using this
  have := loop l.length k 0 (by omega) (by omega) hk
  simpa [f32_F, f32_raw0, f32_L1, allSz] using this

def headSz (b : Bool) : Nat := if b then 6 else 2
def nodeSz (n : Nd) : Nat := headSz n.1 + allSz n.2.2.1
theorem f19_ok (k : Nat) (n : Nd) (hk : n.2.2.1.length < k) (hb : allSz n.2.2.1 ≤ 1099511627776) : f19_F k (n, ()) = some ((nodeSz n : Int), ()) := by
  obtain ⟨b, f, l, u⟩ := n
  simp only at hk hb
  have h := f30_ok k l hk hb
  have e6 : IntKind.i64.wrap (6 + (allSz l : Int)) = ((6 + allSz l : Nat) : Int) := by rw [w64 (by omega)]; omega
  have e2 : IntKind.i64.wrap (2 + (allSz l : Int)) = ((2 + allSz l : Nat) : Int) := by rw [w64 (by omega)]; omega
  cases b
  · simp [f19_F, f19_raw0, h, e2, nodeSz, headSz]
  · simp [f19_F, f19_raw0, h, e6, nodeSz, headSz]
end Go.Sh
