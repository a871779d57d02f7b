/-
TicketLeft holds: for every house and every list by bits, whatever it is, the call returns true, and the house reads as before. No condition.
-/
import Derived.Test.YtcngnfnljkkjgaaCmVLeft
namespace Go.Proofs.Ytcngnfnljkkjgaa
open Go.RowKit Go.ChangeShapes Go.WideShapes Go.ChangeAt

theorem ticketLeft_holds : Rows.TicketLeftSaid :=
  OpenClaim.holds_of_wide 18 Try.f18 rfl rfl rfl rfl rfl rfl rfl ⟨rfl, rfl, rfl, rfl, rfl⟩ rfl rfl rfl rfl rfl (by kernel_rfl) Try.func18 (by kernel_rfl)
    (of_decide_eq_true (by kernel_rfl)) (by unfold Func.isWrapper; rw [if_neg (of_decide_eq_false (by kernel_rfl))]; exact ⟨rfl, rfl⟩)
    (fun os started H enc _ => ticketLeft_lifted os started H enc)
end Go.Proofs.Ytcngnfnljkkjgaa
