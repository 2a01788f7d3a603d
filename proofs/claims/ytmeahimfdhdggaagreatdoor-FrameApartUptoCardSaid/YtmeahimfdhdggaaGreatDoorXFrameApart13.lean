/-
  What the row needs, part 13.
-/
import Derived.Test.YtmeahimfdhdggaaGreatDoorXFrameApart12
import Derived.Lib.LaidTab
set_option linter.unusedSimpArgs false
set_option linter.unusedVariables false
set_option linter.unusedSectionVars false
namespace Go.Sh
open Go
def ZJX:Lit → Value
 | .nil => .nilIface
 | .bool b => .bool b
 | .int k n => .int k n
 | .float k b => .float k b
 | .string bs => .string ⟨bs.toArray⟩
mutual
def datCells:DataW Unit → List Value
 | .lit l => [ZJX l]
 | .agg ps => ZmU ps
 | _ => []
def ZmU:List (DataW Unit) → List Value
 | [] => []
 | d :: l => datCells d ++ ZmU l
end
def relay (cs:Array Value):Obj → Obj
 | .cells _ t fz => .cells cs t fz
 | o => o
theorem lies_one [Gl] {P:Program} {w:World} {name:String} {g:Nat} {k:IntKind} {zs:List Int} (hg:P.globalNamed name = some g) (hz:∀ i,Gl.tab i = bif Nat.beq i g then (k,zs) else (k,[]))
  (h:Lib.TabIs P w name k zs):Ze6 w (whole w):=fun i j n hj => by
 rw [hz] at hj
 cases hb:Nat.beq i g with
 | false => rw [hb] at hj; simp at hj
 | true =>
  rw [hb] at hj
  have e:=ZS hb
  subst e
  simp only [cond_true] at hj
  unfold Lib.TabIs World.var? at h
  rw [hg] at h
  simp only [Option.bind_some] at h
  have hc:w.cell? ⟨i,j,none⟩ = some (.int k n):=by
   cases hh:w.heap[i]? with
   | none => rw [hh] at h; simp at h
   | some o =>
    rw [hh] at h
    cases o with
    | cells cs t fz =>
     simp only [Option.some.injEq] at h
     subst h
     simp only [World.cell?,hh]
     have:(zs.map fun z => Value.int k z)[j]? = some (Value.int k n):=by rw [List.getElem?_map,hj]; rfl
     simpa using this
    | _ => simp at h
  refine ⟨by rw [hz,hb]; exact hc,Zs6 hc⟩
end Go.Sh
