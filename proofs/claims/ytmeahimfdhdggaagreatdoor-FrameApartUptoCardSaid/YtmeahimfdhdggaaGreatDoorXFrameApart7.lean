/-
  What the row needs, part 7.
-/
import Derived.Test.YtmeahimfdhdggaaGreatDoorXFrameApart6
import Derived.Below
import Derived.Shelf.Strings.Search2
import Derived.Shelf.Strings.SlTrimAscii
import Derived.Shelf.Strings.FuncGrows
import Derived.Shelf.Spec.SlicesGrow
set_option linter.unusedSimpArgs false
set_option linter.unusedVariables false
set_option linter.unusedSectionVars false
namespace Go.Sh
open Go
variable [Gl]
variable {P:Program} {ρ:Shelf.Ren} {w:World} {lim:Nat → Nat}
theorem Zxu {w':World} (hlz:∀ b,w.heap.size ≤ b → lim b = 0) (hB:RowKit.Below w.heap.size w w'):Ext w lim w' lim :=
 ⟨hB.size,fun b' o ho => by
  have hb':b' < w.heap.size:=by
   rcases Nat.lt_or_ge b' w.heap.size with h' | h'
   ·exact h'
   ·have:=hlz b' h'; omega
  simp [World.cell?,hB.block b' hb'],fun _ _ h => h,fun b' T hT => by
  have hb':b' < w.heap.size:=by
   rcases Nat.lt_or_ge b' w.heap.size with h' | h'
   ·exact h'
   ·simp [Q0,Array.getElem?_eq_none h'] at hT
  simpa [Q0,hB.block b' hb'] using hT,NF.keep hlz hB.block⟩
theorem ZnX {w0 w':World} {lim':Nat → Nat}:(ks:List Kd) → (vs:List Value) → {bs:List Nat} → TL w lim' ks vs [] bs → X5 w0 w' ks vs
 | [],vs,_,_ => by cases vs <;> simp [X5]
 | k :: ks,[],_,_ => by cases k <;> simp [X5]
 | k :: ks,v :: vs,bs,h => by
  cases k with
  | box l => simp [TL] at h
  | bld T => simp [TL] at h
  | _ => simp only [TL] at h; simp only [X5]; exact ZnX ks vs h
theorem ZlM {w':World} {vs:List Value} {bs b1:List Nat} {pk:List Kd} {x:RV} {v:Value} (hlz:∀ b,w.heap.size ≤ b → lim b = 0) (hB:RowKit.Below w.heap.size w w')
  (hT:TT w' lim x v b1) (hL:TL w' lim (ZI pk) (WT pk vs) [] []) (hnd:b1.Nodup) (h1:∀ b ∈ b1,b ∈ bs ∨ w.heap.size ≤ b):Zw9 w lim vs bs pk (x,[]) (.returned v) w' :=
 ⟨v,lim,b1,[],rfl,Zxu hlz hB,fun b hb => hlz b (Nat.le_trans hB.size hb),⟨hB.os,hB.tape,hB.output⟩,fun b hb _ => ⟨hB.block b hb,rfl⟩,hT,hL,ZnX _ _ hL,by simpa using hnd,by simpa using h1⟩
theorem Zs4 {k:IntKind} {n:Int} {v:Value} {bs:List Nat} (h:TT w lim (.view (.int k) n) v bs):v = .int k n ∧ bs = []:=by
 simp only [TT,Zdi,Rt] at h
 obtain ⟨⟨cs,rfl,h⟩,rfl⟩:=h
 rcases h with ⟨h,_⟩ | ⟨_,h⟩
 ·cases h
 ·simp at h; exact ⟨h.symm,rfl⟩
theorem Zsm (k:IntKind) (n:Int):TT w lim (.view (.int k) n) (.int k n) []:=by
 simp only [TT]; exact ⟨⟨_,rfl,.inr ⟨rfl,rfl⟩⟩,trivial⟩
end Go.Sh
