/-
  The law answers true.
-/
import Derived.Test.YtfljgkbgnfbhlaaXLeafKeeps9
import Derived.Test.YtfljgkbgnfbhlaaRows
import Derived.WalkKit
import Derived.ProofKit
import Derived.OpenShut
import Derived.JoinedCond
namespace Go.Proofs.Ytfljgkbgnfbhlaa.leafKeeps
open Go Go.Sh Go.ChangeShapes Go.WideShapes Go.ChangeAt Go.RowKit

theorem own : ownKnob Try.prog.godebug = none := by kernel_rfl
mutual
theorem bulk_eq {H : Type} : (d : DataW H) → Rows.uptoBulk d = bulkD d
  | .lit l => by cases l <;> simp [Rows.uptoBulk, bulkD]
  | .nil => by simp [Rows.uptoBulk, bulkD]
  | .ptr d => by simp [Rows.uptoBulk, bulkD, bulk_eq d]
  | .slice elems spare => by simp [Rows.uptoBulk, bulkD, bulks_eq elems, bulks_eq spare]
  | .agg parts => by simp [Rows.uptoBulk, bulkD, bulks_eq parts]
  | .iface _ d => by simp [Rows.uptoBulk, bulkD, bulk_eq d]
  | .map entries => by simp [Rows.uptoBulk, bulkD, bulke_eq entries]
  | .held _ => by simp [Rows.uptoBulk, bulkD]
theorem bulks_eq {H : Type} : (d : List (DataW H)) → Rows.uptoBulkAll d = bulkDs d
  | [] => by simp [Rows.uptoBulkAll, bulkDs]
  | d :: r => by simp [Rows.uptoBulkAll, bulkDs, bulk_eq d, bulks_eq r]
theorem bulke_eq {H : Type} : (d : List (Lit × DataW H)) → Rows.uptoBulkEntries d = bulkEs d
  | [] => by simp [Rows.uptoBulkEntries, bulkEs]
  | (l, d) :: r => by cases l <;> simp [Rows.uptoBulkEntries, bulkEs, Rows.uptoBulkEntry, bulkE, bulk_eq d, bulke_eq r]
end
theorem small {H : Type} {l : List (DataW H)} (h : Rows.uptoSmall H l = true) : bulkDs l ≤ 1048576 := by
  have h : Rows.uptoBulkAll l ≤ 1048576 := of_decide_eq_true h
  rwa [bulks_eq] at h

set_option maxRecDepth 100000 in
theorem lifted (os : Os) (started : os.Started) (H : Type) (enc : TypeId × Value → H) (F : Stop.Interp) :
    ReturnsInHanded {} Try.checked os 7 .any ((Rows.OpenSpec.upto Rows.leafKeepsSpec).pre6 enc Try.prog Try.f7 Rows.leafKeepsUptoRow.domain false) (((Rows.OpenSpec.upto Rows.leafKeepsSpec).at F).post enc Try.prog Try.f7 false true false false) := by
  refine returnsInHanded_of_cond (C := Try.checked) (s := Rows.OpenSpec.upto Rows.leafKeepsSpec) (k := Rows.uptoSmall) rfl own started (by kernel_rfl) Try.func7
    (OpenSpec.witness (enc := enc) (C := Try.checked) (s := Rows.OpenSpec.upto Rows.leafKeepsSpec) (k := Rows.uptoSmall) rfl false ⟨#[], #[.agg #[.bool false, .int .i64 0, .slice none 0 0], .string .empty], []⟩ 8 (by kernel_rfl) (by kernel_rfl) (by kernel_rfl)
      (x := ([.agg [.lit (.bool false), .lit (.int .i64 0), .nil], .lit (.string [])], [], [])) (by kernel_rfl) rfl (by kernel_rfl)) ?_
  intro W base args ds gs before hval hW _ hk _
  exact law_contract (P := Try.prog) (K := 7) (fn := Try.f7) (spec := Rows.leafKeepsSpec) [nodeT, .str] (F := f7_F) (bound := 1048576) (by kernel_rfl) (by kernel_rfl) (by kernel_rfl) (by kernel_rfl) (by kernel_rfl) rfl Try.underlying4 rfl
    (fun H ds hl => by
      match ds, hl with
      | [d0, d1], _ => rfl) f7_ctr keeps_plain enc W base args ds gs before hval hW (small hk) (lies_leaf _ _)

theorem proved : Rows.LeafKeepsUptoSaid :=
  OpenClaim.holds_of_cond 7 Try.f7 rfl rfl rfl rfl rfl rfl rfl ⟨rfl, rfl, rfl, rfl, rfl⟩ rfl rfl rfl rfl rfl (by kernel_rfl) Try.func7 (by kernel_rfl)
    (of_decide_eq_true (by kernel_rfl)) (by unfold Func.isWrapper; first | (rw [if_pos (by decide +kernel)]; kernel_rfl) | (rw [if_neg (by decide +kernel)]; exact ⟨rfl, rfl⟩))
    (fun os started H enc _ F => lifted os started H enc F)
end Go.Proofs.Ytfljgkbgnfbhlaa.leafKeeps
