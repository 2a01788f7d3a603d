/-
  Plain words of wav: IsTag.
-/
import Derived.Test.YtlbgcegonmbddaaDoorWP1
set_option linter.unusedSimpArgs false
set_option linter.unusedVariables false
namespace Go.Sh
open Go Go.Proofs

/-- at the first '=' -/
def cutL : List UInt8 → Option (List UInt8 × List UInt8)
  | [] => none
  | b :: l => if b == 61 then some ([], l) else (cutL l).map fun p => (b :: p.1, p.2)
theorem cutL_index : ∀ l : List UInt8, (cutL l = none ∧ Lib.indexByte l 61 = -1) ∨ (∃ x y, cutL l = some (x, y) ∧ Lib.indexByte l 61 = (x.length : Int) ∧ l = x ++ 61 :: y)
  | [] => .inl ⟨rfl, rfl⟩
  | b :: l => by
    simp only [cutL, Lib.indexByte]
    by_cases hb : b = 61
    · subst hb
      exact .inr ⟨[], l, rfl, rfl, rfl⟩
    · have hb' : (b == 61) = false := beq_false_of_ne hb
      rw [hb']
      simp only [Bool.false_eq_true, if_false]
      rcases cutL_index l with ⟨h1, h2⟩ | ⟨x, y, h1, h2, h3⟩
      · rw [h1, h2]; exact .inl ⟨rfl, rfl⟩
      · rw [h1, h2]
        refine .inr ⟨b :: x, y, rfl, ?_, by rw [h3]; rfl⟩
        have : ((x.length : Int) == -1) = false := by rw [int_beq]; exact decide_eq_false (by omega)
        rw [this]
        simp
def cutOk : Option (List UInt8 × List UInt8) → Bool
  | none => false
  | some (x, y) => x.all az && (!y.isEmpty && y.all vis)
theorem valL_cut : ∀ l : List UInt8, valL (l.dropWhile az) = cutOk (cutL l)
  | [] => rfl
  | b :: l => by
    rw [List.dropWhile_cons]
    simp only [cutL]
    by_cases hb : b = 61
    · subst hb
      rfl
    · rw [beq_false_of_ne hb]
      simp only [Bool.false_eq_true, if_false]
      cases ha : az b with
      | true =>
        simp only [if_true]
        rw [valL_cut l]
        cases hc : cutL l with
        | none => rfl
        | some p => simp [cutOk, ha]
      | false =>
        simp only [Bool.false_eq_true, if_false, valL, beq_false_of_ne hb, Bool.false_and]
        cases hc : cutL l with
        | none => rfl
        | some p => simp [cutOk, ha]
def cutOk2 : Option (List UInt8 × List UInt8) → Bool
  | none => false
  | some (x, y) => !x.isEmpty && (x.all az && (!y.isEmpty && y.all vis))
theorem tagL_cut (l : List UInt8) : tagL l.length l = cutOk2 (cutL l) := by
  unfold tagL
  rw [valL_cut]
  match l with
  | [] => rfl
  | b :: l =>
    rw [List.dropWhile_cons]
    have hsuf : (l.dropWhile az).length ≤ l.length := (List.dropWhile_suffix az).length_le
    by_cases hb : b = 61
    · subst hb
      have : az 61 = false := rfl
      rw [this]
      simp only [Bool.false_eq_true, if_false]
      rw [show Nat.beq (61 :: l).length (61 :: l).length = true from Nat.beq_refl _]
      rfl
    · simp only [cutL, beq_false_of_ne hb, Bool.false_eq_true, if_false]
      cases ha : az b with
      | true =>
        simp only [if_true]
        have : Nat.beq (l.dropWhile az).length (b :: l).length = false := by
          cases hq : Nat.beq (l.dropWhile az).length (b :: l).length with
          | false => rfl
          | true => have := Nat.eq_of_beq_eq_true hq; simp only [List.length_cons] at this; omega
        rw [this]
        cases hc : cutL l with
        | none => rfl
        | some p => simp [cutOk, cutOk2, ha]
      | false =>
        simp only [Bool.false_eq_true, if_false]
        rw [show Nat.beq (b :: l).length (b :: l).length = true from Nat.beq_refl _]
        cases hc : cutL l with
        | none => rfl
        | some p => simp [cutOk2, ha]

def bstr (l : List UInt8) : ByteArray := ⟨l.toArray⟩
theorem bstr_data (l : List UInt8) : (bstr l).data.toList = l := rfl
theorem bstr_size (l : List UInt8) : (bstr l).size = l.length := by rw [← toList_len]; rfl
theorem bstr_toList (l : List UInt8) : (bstr l).toList = l := by rw [toList_eq]; rfl
theorem bstr_eta (s : ByteArray) : bstr s.data.toList = s := ba_ext rfl
theorem extract_bstr (s : ByteArray) (a b : Nat) : s.extract a b = bstr ((s.data.toList.take b).drop a) := by
  apply ba_ext
  rw [bstr_data, ByteArray.data_extract, Array.toList_extract, List.extract_eq_take_drop, List.drop_take]
theorem ba_beqL (a : ByteArray) (l : List UInt8) : (a.toList == (bstr l).toList) = (a.data.toList == l) := by rw [toList_eq, bstr_toList]
theorem empty_eq : (ByteArray.mk #[]) = bstr [] := rfl

def abc : List UInt8 := [97, 98, 99, 100, 101, 102, 103, 104, 105, 106, 107, 108, 109, 110, 111, 112, 113, 114, 115, 116, 117, 118, 119, 120, 121, 122]
theorem abc_all : ∀ n : Nat, n < 256 → (abc.contains (UInt8.ofNat n)) = az (UInt8.ofNat n) := by
  have h : (List.range 256).all (fun n => abc.contains (UInt8.ofNat n) == az (UInt8.ofNat n)) = true := by kernel_rfl
  intro n hn
  exact beq_iff_eq.1 (List.all_eq_true.1 h n (List.mem_range.2 hn))
theorem abc_az (b : UInt8) : abc.contains b = az b := by
  have := abc_all b.toNat b.toNat_lt
  rwa [UInt8.ofNat_toNat] at this
theorem f64_vis (b : UInt8) : (!f64_p b.toNat) = vis b := by
  unfold f64_p vis
  rw [Bool.eq_iff_iff, Bool.not_eq_true', Bool.or_eq_false_iff, Bool.and_eq_true, Nat.ble_eq, Nat.ble_eq]
  constructor
  · rintro ⟨h1, h2⟩
    constructor
    · rcases Nat.lt_or_ge b.toNat 33 with h | h
      · rw [show Nat.blt b.toNat 33 = true from Nat.ble_eq_true_of_le h] at h1; cases h1
      · exact h
    · rcases Nat.lt_or_ge 126 b.toNat with h | h
      · rw [show Nat.blt 126 b.toNat = true from Nat.ble_eq_true_of_le h] at h2; cases h2
      · exact h
  · rintro ⟨h1, h2⟩
    constructor
    · cases h : Nat.blt b.toNat 33 with
      | false => rfl
      | true => have := Nat.le_of_ble_eq_true h; omega
    · cases h : Nat.blt 126 b.toNat with
      | false => rfl
      | true => have := Nat.le_of_ble_eq_true h; omega

theorem f66_spec (k : Nat) (s : ByteArray) (hs : s.size ≤ 4294967296) : f66_F k (s, ByteArray.mk #[61], ()) = some (match cutL s.data.toList with
    | none => ((s, bstr [], false, ()), ())
    | some (x, y) => ((bstr x, bstr y, true, ()), ())) := by
  have hl := toList_len s
  show f66_raw0 k (s, ByteArray.mk #[61], ()) = _
  simp only [f66_raw0]
  rw [show f75_F k (s, ByteArray.mk #[61], ()) = some (Lib.indexByte s.data.toList 61, ()) from rfl, Option.bind_some]
  rcases cutL_index s.data.toList with ⟨h1, h2⟩ | ⟨x, y, h1, h2, h3⟩
  · simp only [h1, h2]
    rfl
  · simp only [h1, h2]
    have hlen : x.length + (y.length + 1) = s.size := by rw [← hl, h3]; simp
    have hw : IntKind.i64.wrap ((x.length : Int) + Int.ofNat (ByteArray.mk #[61]).size) = ((x.length + 1 : Nat) : Int) := by
      rw [show (ByteArray.mk #[61]).size = 1 from rfl, w64 (by simp only [Int.ofNat_eq_natCast]; omega)]; simp only [Int.ofNat_eq_natCast]; omega
    rw [cpos (by omega), cpos (by simp only [Int.ofNat_eq_natCast]; omega), hw, cpos (by simp only [Int.ofNat_eq_natCast]; omega)]
    rw [extract_bstr, extract_bstr]
    have e1 : (Int.toNat (x.length : Int)) = x.length := by omega
    have e2 : (Int.toNat ((x.length + 1 : Nat) : Int)) = x.length + 1 := by omega
    have e3 : (Int.toNat (Int.ofNat s.size)) = s.size := rfl
    rw [e1, e2, e3, h3]
    have t1 : (List.take x.length (x ++ 61 :: y)) = x := by simp
    have t2 : (List.take s.size (x ++ 61 :: y)) = x ++ 61 :: y := List.take_of_length_le (by simp; omega)
    have t3 : List.drop (x.length + 1) (x ++ 61 :: y) = y := by
      rw [List.drop_append]; simp
    rw [t1, t2, t3]
    rfl

theorem f51_spec (k : Nat) (s : ByteArray) (hs : s.size ≤ 1048576) : f51_F k (s, ()) = some (tagV s, ()) := by
  have hl := toList_len s
  show f51_raw0 k (s, ()) = _
  simp only [f51_raw0]
  rw [show f61_F k (s, ByteArray.mk #[OfNat.ofNat (61 : Nat)], ()) = (f66_F k (s, ByteArray.mk #[61], ())).bind fun y => some ((y.1.1, y.1.2.1, y.1.2.2.1, ()), ()) from rfl, f66_spec k s (by omega)]
  have htag : tagV s = (Nat.ble 3 s.size && (Nat.ble s.size 12 && cutOk2 (cutL s.data.toList))) := by
    unfold tagV
    rw [← hl, tagL_cut]
  rcases cutL_index s.data.toList with ⟨h1, h2⟩ | ⟨x, y, h1, h2, h3⟩
  · rw [htag]
    simp only [h1, Option.bind_some, cutOk2, Bool.and_false]
    rfl
  · rw [htag]
    have hlen : x.length + (y.length + 1) = s.size := by rw [← hl, h3]; simp
    simp only [h1, Option.bind_some, cutOk2, empty_eq, bstr_toList]
    simp only [cond_true, bne, cnot]
    cases hx : x with
    | nil => simp
    | cons a x' =>
      rw [← hx]
      have hx0 : (x == ([] : List UInt8)) = false := by rw [hx]; rfl
      rw [hx0]
      simp only [Bool.not_false, cond_true, cond_false]
      cases hy : y with
      | nil => simp
      | cons c y' =>
        rw [← hy]
        have hy0 : (y == ([] : List UInt8)) = false := by rw [hy]; rfl
        have hx1 : x.isEmpty = false := by rw [hx]; rfl
        have hy1 : y.isEmpty = false := by rw [hy]; rfl
        have hlx : 1 ≤ x.length := by rw [hx]; simp
        have hly : 1 ≤ y.length := by rw [hy]; simp
        rw [hy0, hx1, hy1, Nat.ble_eq_true_of_le (show 3 ≤ s.size by omega)]
        simp only [Bool.not_false, cond_true, cond_false, Bool.true_and]
        by_cases h12 : s.size ≤ 12
        · rw [cpos (by simp only [Int.ofNat_eq_natCast]; omega), Nat.ble_eq_true_of_le h12]
          have htr : f63_F k (bstr x, ByteArray.mk #[OfNat.ofNat (97 : Nat), OfNat.ofNat (98 : Nat), OfNat.ofNat (99 : Nat), OfNat.ofNat (100 : Nat), OfNat.ofNat (101 : Nat), OfNat.ofNat (102 : Nat), OfNat.ofNat (103 : Nat), OfNat.ofNat (104 : Nat), OfNat.ofNat (105 : Nat), OfNat.ofNat (106 : Nat), OfNat.ofNat (107 : Nat), OfNat.ofNat (108 : Nat), OfNat.ofNat (109 : Nat), OfNat.ofNat (110 : Nat), OfNat.ofNat (111 : Nat), OfNat.ofNat (112 : Nat), OfNat.ofNat (113 : Nat), OfNat.ofNat (114 : Nat), OfNat.ofNat (115 : Nat), OfNat.ofNat (116 : Nat), OfNat.ofNat (117 : Nat), OfNat.ofNat (118 : Nat), OfNat.ofNat (119 : Nat), OfNat.ofNat (120 : Nat), OfNat.ofNat (121 : Nat), OfNat.ofNat (122 : Nat)], ()) = some (bstr (Lib.trimS x abc), ()) := by
            show trimF (bstr x, bstr abc, ()) = _
            unfold trimF
            simp only [bstr_size, bstr_data]
            rw [show Nat.blt x.length 1099511627776 = true from Nat.ble_eq_true_of_le (by omega)]
            rfl
          rw [htr, Option.bind_some]
          simp only [bstr_toList]
          have hall : (Lib.trimS x abc == ([] : List UInt8)) = x.all az := by
            rw [Bool.eq_iff_iff, beq_iff_eq, trimS_nil]
            rw [show (fun b => abc.contains b) = az from funext abc_az]
          rw [hall]
          cases x.all az with
          | false => rfl
          | true =>
            simp only [cond_true, Bool.true_and]
            show ((idxF f64_p (bstr y, (), ())).bind fun y => some (decide (y.1 < (0 : Int)), ())) = _
            simp only [idxF, Option.bind_some]
            rw [idxFunc_vis f64_p (fun n hn => by
              unfold f64_p
              rw [show Nat.blt 126 n = true from Nat.ble_eq_true_of_le (by omega), Bool.or_true]), bstr_data]
            rw [show (fun b : UInt8 => !f64_p b.toNat) = vis from funext f64_vis]
        · rw [cneg (by simp only [Int.ofNat_eq_natCast]; omega)]
          have : Nat.ble s.size 12 = false := by
            cases hb : Nat.ble s.size 12 with
            | false => rfl
            | true => exact absurd (Nat.le_of_ble_eq_true hb) h12
          rw [this]; rfl
end Go.Sh
