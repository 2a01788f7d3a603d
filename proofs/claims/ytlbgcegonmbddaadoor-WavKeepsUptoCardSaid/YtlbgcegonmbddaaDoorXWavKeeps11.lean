/-
  What the row needs, part 11.
-/
import Derived.Test.YtlbgcegonmbddaaDoorXWavKeeps10
import Derived.Lib.LaidTab
set_option linter.unusedSimpArgs false
set_option linter.unusedVariables false
set_option linter.unusedSectionVars false
namespace Go.Sh
open Go
def Zqk:Lit → Value
 | .nil => .nilIface
 | .bool b => .bool b
 | .int k n => .int k n
 | .float k b => .float k b
 | .string bs => .string ⟨bs.toArray⟩
mutual
def datCells:DataW Unit → List Value
 | .lit l => [Zqk l]
 | .agg ps => Zeu ps
 | _ => []
def Zeu:List (DataW Unit) → List Value
 | [] => []
 | d :: l => datCells d ++ Zeu l
end
def relay (cs:Array Value):Obj → Obj
 | .cells _ t fz => .cells cs t fz
 | o => o
theorem lies_none [Gl] (h:∀ g,(Gl.tab g).2 = []) (w:World) (lim:Nat → Nat):Zbn w lim:=fun g j n hj => by rw [h g] at hj; simp at hj
end Go.Sh
