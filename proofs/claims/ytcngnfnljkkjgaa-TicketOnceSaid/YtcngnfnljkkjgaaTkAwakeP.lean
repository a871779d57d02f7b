/-
What the chapter's examples come to.
-/
import Derived.Test.YtcngnfnljkkjgaaTkTurned
import Derived.KernelRfl
namespace Go.Proofs.Ytcngnfnljkkjgaa
open Go.RowKit

def lateC : Cp := ⟨2, 0, 360⟩
theorem aw_play : (twoH 5 []).playL [0, 3] = [300, 363, 365, 485] := by kernel_rfl
theorem aw_playE : (twoH 5 []).playE [0, 3] = 0 := by kernel_rfl
theorem aw_clocks : (twoH 5 []).clocksL = [⟨0, 0⟩, ⟨1, 5⟩] := by kernel_rfl
theorem aw_ask5 : (twoH 5 []).askE 0 = 0 := by kernel_rfl
theorem aw_hours : (twoH 3 []).hoursL = [⟨1, 2⟩, ⟨2, 2⟩, ⟨0, 0⟩] := by kernel_rfl
theorem aw_ask3 : (twoH 3 []).askE 0 = 0 := by kernel_rfl
theorem aw_long : (twoH 0 []).longL = [1, 3, 2] := by kernel_rfl
theorem aw_ask0 : (twoH 0 []).askE 0 = 0 := by kernel_rfl
theorem aw_clash : turnedH.clashV 0 1 = 3 := by kernel_rfl
theorem aw_clashE : turnedH.clashE 0 1 = 0 := by kernel_rfl
theorem aw_paid : (twoH 3 []).paidV = 3 := by kernel_rfl
theorem aw_free : (twoH 5 []).freeV 0 = ⟨483, 487⟩ := by kernel_rfl
theorem aw_freeE : (twoH 5 []).freeE 0 = 0 := by kernel_rfl
theorem aw_look : (twoH 5 []).lookV = (1, 1) := by kernel_rfl
theorem aw_lookE : (twoH 5 []).lookE = 0 := by kernel_rfl
theorem aw_first : (twoH 5 [lateC]).firstV = 4 := by kernel_rfl
theorem aw_firstE : (twoH 5 [lateC]).firstE = 0 := by kernel_rfl
theorem aw_leave : (twoH 5 [lateC]).leaveL = [4] := by kernel_rfl
theorem aw_fault : (twoH 5 [lateC]).fault = 0 := by kernel_rfl
end Go.Proofs.Ytcngnfnljkkjgaa
