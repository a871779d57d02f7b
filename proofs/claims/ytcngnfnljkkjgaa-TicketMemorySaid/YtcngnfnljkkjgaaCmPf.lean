/-
What the rows ask of the program alone, and what costs: said once.
-/
import Derived.Test.YtcngnfnljkkjgaaRows
import Derived.ProofKit
import Derived.KernelRfl
namespace Go.Proofs.Ytcngnfnljkkjgaa
open Go.RowKit

theorem prog_lifts : Try.prog.liftsFinal = false := by kernel_rfl
theorem prog_make : Try.prog.make = some Rows.ticketBoundsRow.make := by kernel_rfl
theorem prog_enter : Try.prog.mayEnter = true := by kernel_rfl
end Go.Proofs.Ytcngnfnljkkjgaa
