/-
TicketPlays holds: for every house and every list, whatever it is, the call returns true, and the house reads as before. No condition.
-/
import Derived.Test.YtcngnfnljkkjgaaCmVPlays
import Derived.Test.YtcngnfnljkkjgaaCmPf
namespace Go.Proofs.Ytcngnfnljkkjgaa
open Go.RowKit Go.ChangeShapes Go.WideShapes Go.ChangeAt

theorem ticketPlays_closed : joinedFacts Try.prog 20 Try.f20 Rows.ticketPlaysSpec Rows.ticketPlaysRow = true := by
  unfold joinedFacts
  rw [prog_lifts, prog_make, prog_enter]
  kernel_rfl
theorem ticketPlays_holds : Rows.TicketPlaysSaid :=
  OpenClaim.holds_of_wide 20 Try.f20 rfl rfl rfl rfl rfl rfl rfl ⟨rfl, rfl, rfl, rfl, rfl⟩ rfl rfl rfl rfl rfl (by kernel_rfl) Try.func20 ticketPlays_closed
    (of_decide_eq_true (by kernel_rfl)) (by unfold Func.isWrapper; rw [if_neg (of_decide_eq_false (by kernel_rfl))]; exact ⟨rfl, rfl⟩)
    (fun os started H enc _ => ticketPlays_lifted os started H enc)
end Go.Proofs.Ytcngnfnljkkjgaa
