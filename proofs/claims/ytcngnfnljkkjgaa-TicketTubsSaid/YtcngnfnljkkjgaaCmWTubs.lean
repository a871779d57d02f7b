/-
TicketTubs holds: for every house and every three numbers, whatever it is, the call returns true, and the house reads as before. No condition.
-/
import Derived.Test.YtcngnfnljkkjgaaCmVTubs
import Derived.Test.YtcngnfnljkkjgaaCmPf
namespace Go.Proofs.Ytcngnfnljkkjgaa
open Go.RowKit Go.ChangeShapes Go.WideShapes Go.ChangeAt

theorem ticketTubs_closed : joinedFacts Try.prog 16 Try.f16 Rows.ticketTubsSpec Rows.ticketTubsRow = true := by
  unfold joinedFacts
  rw [prog_lifts, prog_make, prog_enter]
  kernel_rfl
theorem ticketTubs_holds : Rows.TicketTubsSaid :=
  OpenClaim.holds_of_wide 16 Try.f16 rfl rfl rfl rfl rfl rfl rfl ⟨rfl, rfl, rfl, rfl, rfl⟩ rfl rfl rfl rfl rfl (by kernel_rfl) Try.func16 ticketTubs_closed
    (of_decide_eq_true (by kernel_rfl)) (by unfold Func.isWrapper; rw [if_neg (of_decide_eq_false (by kernel_rfl))]; exact ⟨rfl, rfl⟩)
    (fun os started H enc _ => ticketTubs_lifted os started H enc)
end Go.Proofs.Ytcngnfnljkkjgaa
