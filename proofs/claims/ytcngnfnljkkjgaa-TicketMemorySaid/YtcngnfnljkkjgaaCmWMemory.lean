/-
TicketMemory holds: for every house and every list, whatever it is, the call returns true, and the house reads as before. No condition.
-/
import Derived.Test.YtcngnfnljkkjgaaCmVMemory
import Derived.Test.YtcngnfnljkkjgaaCmPf
namespace Go.Proofs.Ytcngnfnljkkjgaa
open Go.RowKit Go.ChangeShapes Go.WideShapes Go.ChangeAt

theorem ticketMemory_closed : joinedFacts Try.prog 19 Try.f19 Rows.ticketMemorySpec Rows.ticketMemoryRow = true := by
  unfold joinedFacts
  rw [prog_lifts, prog_make, prog_enter]
  kernel_rfl
theorem ticketMemory_holds : Rows.TicketMemorySaid :=
  OpenClaim.holds_of_wide 19 Try.f19 rfl rfl rfl rfl rfl rfl rfl ⟨rfl, rfl, rfl, rfl, rfl⟩ rfl rfl rfl rfl rfl (by kernel_rfl) Try.func19 ticketMemory_closed
    (of_decide_eq_true (by kernel_rfl)) (by unfold Func.isWrapper; rw [if_neg (of_decide_eq_false (by kernel_rfl))]; exact ⟨rfl, rfl⟩)
    (fun os started H enc _ => ticketMemory_lifted os started H enc)
end Go.Proofs.Ytcngnfnljkkjgaa
