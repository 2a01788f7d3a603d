/-
  What the row needs, part 6.
-/
import Derived.Test.YtgbhjfacjekhcaaGreatDoorXStreamChecks5
import Derived.IntWalk
set_option linter.unusedSimpArgs false
set_option linter.unusedVariables false
set_option linter.unusedSectionVars false
namespace Go.Sh
open Go
theorem Xn (n:Nat):Int.ofNat n = (n:Int):=rfl
theorem oBs {α β:Type} (a:α) (f:α → Option β):(some a).bind f = f a:=rfl
theorem tNc (n:Nat):((n:Int)).toNat = n:=rfl
theorem lAp {α:Type} {as0 bs0:List α}:(as0 ++ bs0).length = as0.length + bs0.length:=List.length_append
theorem dFa {p:Prop} [inst:Decidable p] (h:¬p):decide p = false:=decide_eq_false h
theorem dTr {p:Prop} [inst:Decidable p] (h:p):decide p = true:=decide_eq_true h
theorem Ks {n:Int} (h : -9223372036854775808 ≤ n ∧ n ≤ 9223372036854775807):IntKind.i64.wrap n = n:=IntWalk.i64_in n h
theorem Zx {V R:Type} (step:(V → Option R) → V → Option R) (n:Nat) (v:V):Zh step (n + 1) v = step (Zh step n) v:=rfl
theorem toList_eq (s:ByteArray):s.toList = s.data.toList:=ByteArray.toList_eq s
theorem Wz (s:ByteArray):s.data.toList.length = s.size:=by rw [Array.length_toList]; rfl
theorem ZBZ {a b:ByteArray} (h:a.data.toList = b.data.toList):a = b:=ByteArray.ext (Array.toList_inj.1 h)
theorem ZlP {a b:ByteArray}:a.toList = b.toList ↔ a = b:=by
 rw [toList_eq,toList_eq]
 exact ⟨ZBZ,fun h => by rw [h]⟩
theorem ZBY (a b:ByteArray):(a.toList == b.toList) = decide (a = b):=by
 rw [Bool.eq_iff_iff]; simp [ZlP]
theorem Zj {p:Prop} [Decidable p] {α:Type} {a b:α} (h:p):(bif decide p then a else b) = a:=by simp [h]
theorem ZT {p:Prop} [Decidable p] {α:Type} {a b:α} (h:¬ p):(bif decide p then a else b) = b:=by simp [h]
theorem Qp (a b:Int):(a == b) = decide (a = b):=rfl
theorem Q6 (a b:Int):(a != b) = decide (¬ a = b):=by rw [bne,Qp]; simp
theorem ZB3 {α:Type} (b:Bool) (x y:α):(bif !b then x else y) = bif b then y else x:=by cases b <;> rfl
end Go.Sh
