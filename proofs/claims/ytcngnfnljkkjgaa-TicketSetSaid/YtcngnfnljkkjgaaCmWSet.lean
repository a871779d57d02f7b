/-
TicketSet holds: for every house and every two small numbers, whatever it is, the call returns true, and the house reads as before. No condition.
-/
import Derived.Test.YtcngnfnljkkjgaaCmVSet
import Derived.Test.YtcngnfnljkkjgaaCmPf
namespace Go.Proofs.Ytcngnfnljkkjgaa
open Go.RowKit Go.ChangeShapes Go.WideShapes Go.ChangeAt

theorem ticketSet_closed : joinedFacts Try.prog 11 Try.f11 Rows.ticketSetSpec Rows.ticketSetRow = true := by
  unfold joinedFacts
  rw [prog_lifts, prog_make, prog_enter]
  kernel_rfl
theorem ticketSet_holds : Rows.TicketSetSaid :=
  OpenClaim.holds_of_wide 11 Try.f11 rfl rfl rfl rfl rfl rfl rfl ⟨rfl, rfl, rfl, rfl, rfl⟩ rfl rfl rfl rfl rfl (by kernel_rfl) Try.func11 ticketSet_closed
    (of_decide_eq_true (by kernel_rfl)) (by unfold Func.isWrapper; rw [if_neg (of_decide_eq_false (by kernel_rfl))]; exact ⟨rfl, rfl⟩)
    (fun os started H enc _ => ticketSet_lifted os started H enc)
end Go.Proofs.Ytcngnfnljkkjgaa
