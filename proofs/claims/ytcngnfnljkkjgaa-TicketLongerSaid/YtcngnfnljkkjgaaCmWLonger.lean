/-
TicketLonger holds: for every house and every two small numbers, whatever it is, the call returns true, and the house reads as before. No condition.
-/
import Derived.Test.YtcngnfnljkkjgaaCmVLonger
namespace Go.Proofs.Ytcngnfnljkkjgaa
open Go.RowKit Go.ChangeShapes Go.WideShapes Go.ChangeAt

theorem ticketLonger_holds : Rows.TicketLongerSaid :=
  OpenClaim.holds_of_wide 14 Try.f14 rfl rfl rfl rfl rfl rfl rfl ⟨rfl, rfl, rfl, rfl, rfl⟩ rfl rfl rfl rfl rfl (by kernel_rfl) Try.func14 (by kernel_rfl)
    (of_decide_eq_true (by kernel_rfl)) (by unfold Func.isWrapper; rw [if_neg (of_decide_eq_false (by kernel_rfl))]; exact ⟨rfl, rfl⟩)
    (fun os started H enc _ => ticketLonger_lifted os started H enc)
end Go.Proofs.Ytcngnfnljkkjgaa
