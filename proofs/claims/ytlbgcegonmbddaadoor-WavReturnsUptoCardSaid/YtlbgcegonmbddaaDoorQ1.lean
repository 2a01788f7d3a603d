/-
  Plain words: whole numbers, strings, loops.
-/
import Derived.Test.YtlbgcegonmbddaaDoorM17
import Derived.IntWalk
namespace Go.Sh
open Go

theorem w64 {n : Int} (h : -9223372036854775808 ≤ n ∧ n ≤ 9223372036854775807) : IntKind.i64.wrap n = n := IntWalk.i64_in n h
theorem wu8 {n : Int} (h : 0 ≤ n ∧ n ≤ 255) : IntKind.u8.wrap n = n := IntWalk.u8_in n h
theorem iter_succ {V R : Type} (step : (V → Option R) → V → Option R) (n : Nat) (v : V) : iter step (n + 1) v = step (iter step n) v := rfl
theorem pos_of_lt {a k : Nat} (h : a < k) : ∃ m, k = m + 1 := ⟨k - 1, by omega⟩

/-! strings -/
theorem toList_eq (s : ByteArray) : s.toList = s.data.toList := ByteArray.toList_eq s
theorem toList_len (s : ByteArray) : s.data.toList.length = s.size := by rw [Array.length_toList]; rfl
theorem ba_ext {a b : ByteArray} (h : a.data.toList = b.data.toList) : a = b := ByteArray.ext (Array.toList_inj.1 h)
theorem ba_toList_inj {a b : ByteArray} : a.toList = b.toList ↔ a = b := by
  rw [toList_eq, toList_eq]
  exact ⟨ba_ext, fun h => by rw [h]⟩
theorem ba_beq (a b : ByteArray) : (a.toList == b.toList) = decide (a = b) := by
  rw [Bool.eq_iff_iff]; simp [ba_toList_inj]
/-- strings in their order -/
def sless (a b : ByteArray) : Bool := Op.bytesLess a.toList b.toList
theorem bl_irrefl : ∀ (x : List UInt8), Op.bytesLess x x = false
  | [] => rfl
  | a :: x => by simp [Op.bytesLess, bl_irrefl x]
theorem bl_trans : ∀ (x y z : List UInt8), Op.bytesLess x y = true → Op.bytesLess y z = true → Op.bytesLess x z = true
  | _, _, [], _, h => by cases ‹List UInt8› <;> simp [Op.bytesLess] at h
  | _, [], _ :: _, h, _ => by cases ‹List UInt8› <;> simp [Op.bytesLess] at h
  | [], _ :: _, _ :: _, _, _ => rfl
  | a :: x, b :: y, c :: z, h, k => by
    simp only [Op.bytesLess, Bool.or_eq_true, decide_eq_true_eq, Bool.and_eq_true, beq_iff_eq] at h k ⊢
    rcases h with h | ⟨rfl, h⟩
    · rcases k with k | ⟨rfl, k⟩
      · exact .inl (UInt8.lt_trans h k)
      · exact .inl h
    · rcases k with k | ⟨rfl, k⟩
      · exact .inl k
      · exact .inr ⟨rfl, bl_trans x y z h k⟩
theorem bl_total : ∀ (x y : List UInt8), Op.bytesLess x y = true ∨ x = y ∨ Op.bytesLess y x = true
  | [], [] => .inr (.inl rfl)
  | [], _ :: _ => .inl rfl
  | _ :: _, [] => .inr (.inr rfl)
  | a :: x, b :: y => by
    simp only [Op.bytesLess, Bool.or_eq_true, decide_eq_true_eq, Bool.and_eq_true, beq_iff_eq, List.cons.injEq]
    have tri : a < b ∨ a = b ∨ b < a := by
      rcases Nat.lt_trichotomy a.toNat b.toNat with h | h | h
      · exact .inl (UInt8.lt_iff_toNat_lt.2 h)
      · exact .inr (.inl (UInt8.toNat_inj.1 h))
      · exact .inr (.inr (UInt8.lt_iff_toNat_lt.2 h))
    rcases tri with h | rfl | h
    · exact .inl (.inl h)
    · rcases bl_total x y with h | rfl | h
      · exact .inl (.inr ⟨rfl, h⟩)
      · exact .inr (.inl ⟨rfl, rfl⟩)
      · exact .inr (.inr (.inr ⟨rfl, h⟩))
    · exact .inr (.inr (.inl h))
theorem sless_irrefl (a : ByteArray) : sless a a = false := bl_irrefl _
theorem sless_trans {a b c : ByteArray} (h : sless a b = true) (k : sless b c = true) : sless a c = true := bl_trans _ _ _ h k
theorem sless_total (a b : ByteArray) : sless a b = true ∨ a = b ∨ sless b a = true := by
  rcases bl_total a.toList b.toList with h | h | h
  · exact .inl h
  · exact .inr (.inl (ba_toList_inj.1 h))
  · exact .inr (.inr h)
/-- not above -/
theorem sle_eq (a b : ByteArray) : (sless a b || decide (a = b)) = !(sless b a) := by
  rcases sless_total a b with h | rfl | h
  · have : sless b a = false := by
      cases h2 : sless b a with
      | false => rfl
      | true => have := sless_trans h h2; rw [sless_irrefl] at this; cases this
    simp [h, this]
  · simp [sless_irrefl]
  · have h3 : sless a b = false := by
      cases h2 : sless a b with
      | false => rfl
      | true => have := sless_trans h h2; rw [sless_irrefl] at this; cases this
    have : a ≠ b := by rintro rfl; rw [sless_irrefl] at h; cases h
    simp [h, h3, this]
theorem or_byte {v b : Nat} (hv : v < 1125899906842624) (hb : b < 256) :
    IntKind.i64.wrap (Int.ofNat (BitVec.ofInt 64 (IntKind.i64.wrap ((v : Int) * 256)) ||| BitVec.ofInt 64 (IntKind.i64.wrap (Int.ofNat b))).toNat) = ((v * 256 + b : Nat) : Int) := by
  have e1 : IntKind.i64.wrap ((v : Int) * 256) = ((v * 256 : Nat) : Int) := by rw [w64 (by omega)]; omega
  have e2 : IntKind.i64.wrap (Int.ofNat b) = ((b : Nat) : Int) := by rw [w64 (by simp only [Int.ofNat_eq_natCast]; omega)]; rfl
  rw [e1, e2, BitVec.ofInt_natCast, BitVec.ofInt_natCast, BitVec.toNat_or, BitVec.toNat_ofNat, BitVec.toNat_ofNat, Nat.mod_eq_of_lt (by omega), Nat.mod_eq_of_lt (by omega)]
  have h := Nat.shiftLeft_add_eq_or_of_lt (i := 8) (show b < 2 ^ 8 from hb) v
  rw [Nat.shiftLeft_eq] at h
  rw [show v * 256 = v * 2 ^ 8 from rfl, ← h]
  rw [w64 (by simp only [Int.ofNat_eq_natCast]; omega)]
  rfl
theorem size_zero {a : ByteArray} (h : a.size = 0) : a = ⟨#[]⟩ := by
  apply ba_ext
  have := toList_len a
  rw [h] at this
  exact List.length_eq_zero_iff.1 this
theorem cpos {p : Prop} [Decidable p] {α : Type} {a b : α} (h : p) : (bif decide p then a else b) = a := by simp [h]
theorem cneg {p : Prop} [Decidable p] {α : Type} {a b : α} (h : ¬ p) : (bif decide p then a else b) = b := by simp [h]
theorem int_beq (a b : Int) : (a == b) = decide (a = b) := rfl
theorem int_bne (a b : Int) : (a != b) = decide (¬ a = b) := by rw [bne, int_beq]; simp
theorem cnot {α : Type} (b : Bool) (x y : α) : (bif !b then x else y) = bif b then y else x := by cases b <;> rfl
theorem len4 {s : ByteArray} (h : s.size = 4) : ∃ a b c d, s = ⟨#[a, b, c, d]⟩ := by
  have := toList_len s
  rw [h] at this
  match hs : s.data.toList, this with
  | [a, b, c, d], _ => exact ⟨a, b, c, d, ba_ext hs⟩
theorem getD_of {α : Type} {l : List α} {i : Nat} {d : α} (h : i < l.length) : l.getD i d = l[i] := by
  simp [List.getD_eq_getElem?_getD, h]
end Go.Sh
