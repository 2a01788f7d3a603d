import Derived.Test.YtfljgkbgnfbhlaaDoorDP4
import Derived.Test.YtfljgkbgnfbhlaaDoorS2
set_option linter.unusedSimpArgs false
namespace Go.Sh
open Go Go.Proofs

theorem bulk_cells (l : List Cell) : (l.map (Ty.bulk pairT)).sum = allSz l := by
  induction l with
  | nil => rfl
  | cons c l ih =>
    rw [List.map_cons, List.sum_cons, ih, allSz_cons]
    have : Ty.bulk pairT c = cellSz c := by
      simp only [Ty.bulk, cellSz]; omega
    rw [this]
theorem bulk_node (n : Nd) : Ty.bulk nodeT n = allSz n.2.2.1 + 3 := by
  have := bulk_cells n.2.2.1
  simp only [Ty.bulk] at this ⊢
  omega
theorem node_small {n : Nd} (h : Ty.bulk nodeT n ≤ 1048576) : allSz n.2.2.1 ≤ 1048576 ∧ n.2.2.1.length ≤ 1048576 := by
  rw [bulk_node] at h
  have := len_le_allSz n.2.2.1
  omega

end Go.Sh
