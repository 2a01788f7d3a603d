/-
  What the row needs, part 8.
-/
import Derived.Test.YtgbhjfacjekhcaaGreatDoorXStreamApart7
import Derived.IntWalk
set_option linter.unusedSimpArgs false
set_option linter.unusedVariables false
set_option linter.unusedSectionVars false
namespace Go.Sh
open Go
theorem QY (n:Nat):Int.ofNat n = (n:Int):=rfl
theorem ZX {α β:Type} (a:α) (f:α → Option β):(some a).bind f = f a:=rfl
theorem Xa (n:Nat):((n:Int)).toNat = n:=rfl
theorem Q3 {α:Type} {as0 bs0:List α}:(as0 ++ bs0).length = as0.length + bs0.length:=List.length_append
theorem dFa {p:Prop} [inst:Decidable p] (h:¬p):decide p = false:=decide_eq_false h
theorem dTr {p:Prop} [inst:Decidable p] (h:p):decide p = true:=decide_eq_true h
theorem Z2 {n:Int} (h : -9223372036854775808 ≤ n ∧ n ≤ 9223372036854775807):IntKind.i64.wrap n = n:=IntWalk.i64_in n h
theorem wu8 {n:Int} (h:0 ≤ n ∧ n ≤ 255):IntKind.u8.wrap n = n:=IntWalk.u8_in n h
theorem Zd {V R:Type} (step:(V → Option R) → V → Option R) (n:Nat) (v:V):Zh step (n + 1) v = step (Zh step n) v:=rfl
theorem Zw {a k:Nat} (h:a < k):∃ m,k = m + 1:=⟨k - 1,by omega⟩
theorem toList_eq (s:ByteArray):s.toList = s.data.toList:=ByteArray.toList_eq s
theorem Yp (s:ByteArray):s.data.toList.length = s.size:=by rw [Array.length_toList]; rfl
theorem ZAd {a b:ByteArray} (h:a.data.toList = b.data.toList):a = b:=ByteArray.ext (Array.toList_inj.1 h)
theorem Zrj {a b:ByteArray}:a.toList = b.toList ↔ a = b:=by
 rw [toList_eq,toList_eq]
 exact ⟨ZAd,fun h => by rw [h]⟩
theorem ZIy (a b:ByteArray):(a.toList == b.toList) = decide (a = b):=by
 rw [Bool.eq_iff_iff]; simp [Zrj]
theorem Zb {p:Prop} [Decidable p] {α:Type} {a b:α} (h:p):(bif decide p then a else b) = a:=by simp [h]
theorem Zl {p:Prop} [Decidable p] {α:Type} {a b:α} (h:¬ p):(bif decide p then a else b) = b:=by simp [h]
theorem ZP (a b:Int):(a == b) = decide (a = b):=rfl
theorem ZD (a b:Int):(a != b) = decide (¬ a = b):=by rw [bne,ZP]; simp
theorem ZTA {α:Type} (b:Bool) (x y:α):(bif !b then x else y) = bif b then y else x:=by cases b <;> rfl
theorem Wl {α:Type} {l:List α} {i:Nat} {d:α} (h:i < l.length):l.getD i d = l[i]:=by
 simp [List.getD_eq_getElem?_getD,h]
end Go.Sh
