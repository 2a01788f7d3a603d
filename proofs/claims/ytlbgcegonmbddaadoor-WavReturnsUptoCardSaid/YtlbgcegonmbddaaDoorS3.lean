/-
  The machine, part 19: what a row lists, as cells.
-/
import Derived.Test.YtlbgcegonmbddaaDoorS2
namespace Go.Sh
open Go
def litV : Lit → Value
  | .nil => .nilIface
  | .bool b => .bool b
  | .int k n => .int k n
  | .float k b => .float k b
  | .string bs => .string ⟨bs.toArray⟩
mutual
def datCells : DataW Unit → List Value
  | .lit l => [litV l]
  | .agg ps => datCellsL ps
  | _ => []
def datCellsL : List (DataW Unit) → List Value
  | [] => []
  | d :: l => datCells d ++ datCellsL l
end
def relay (cs : Array Value) : Obj → Obj
  | .cells _ t fz => .cells cs t fz
  | o => o
end Go.Sh
