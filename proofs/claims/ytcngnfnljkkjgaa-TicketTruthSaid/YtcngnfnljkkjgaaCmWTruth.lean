/-
TicketTruth holds: for every house and every number, whatever it is, the call returns true, and the house reads as before. No condition.
-/
import Derived.Test.YtcngnfnljkkjgaaCmVTruth
import Derived.Test.YtcngnfnljkkjgaaCmPf
namespace Go.Proofs.Ytcngnfnljkkjgaa
open Go.RowKit Go.ChangeShapes Go.WideShapes Go.ChangeAt

theorem ticketTruth_closed : joinedFacts Try.prog 21 Try.f21 Rows.ticketTruthSpec Rows.ticketTruthRow = true := by
  unfold joinedFacts
  rw [prog_lifts, prog_make, prog_enter]
  kernel_rfl
theorem ticketTruth_holds : Rows.TicketTruthSaid :=
  OpenClaim.holds_of_wide 21 Try.f21 rfl rfl rfl rfl rfl rfl rfl ⟨rfl, rfl, rfl, rfl, rfl⟩ rfl rfl rfl rfl rfl (by kernel_rfl) Try.func21 ticketTruth_closed
    (of_decide_eq_true (by kernel_rfl)) (by unfold Func.isWrapper; rw [if_neg (of_decide_eq_false (by kernel_rfl))]; exact ⟨rfl, rfl⟩)
    (fun os started H enc _ => ticketTruth_lifted os started H enc)
end Go.Proofs.Ytcngnfnljkkjgaa
