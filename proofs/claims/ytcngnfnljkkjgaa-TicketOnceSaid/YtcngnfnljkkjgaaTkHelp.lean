/-
The laws' small helpers: a range, a clip, a copy of a list, whether two lists are equal.
-/
import Derived.Test.YtcngnfnljkkjgaaTkLeave3
namespace Go.Proofs.Ytcngnfnljkkjgaa
open Go.RowKit
attribute [local go_sem] cell_later frozen_later lt_later le_later

theorem between_calls (lo hi : Int) (w : World) : Calls Try.prog 51 #[.int .i64 lo, .int .i64 hi] w (Ret (.agg #[.int .i64 lo, .int .i64 hi]) w) := by
  go_enter Try.func51, Try.ntmps51
  go_wp2
  refine bodyPost_ret (v := .agg #[.int .i64 lo, .int .i64 hi]) ?hr rfl (ret_mk rfl (by repeat (first | exact Below.refl _ _ | (with_reducible assumption) | apply gL | apply gA | apply gD | apply gN | (refine gS ?_ (by first | (simp; done) | (simp; omega) | omega)))))
  case hr => simp [results, Try.results51, go_sem]
theorem late_calls (w : World) : Calls Try.prog 78 #[] w (Ret (.agg #[.int .i64 2, .int .i64 0, .int .i64 360]) w) := by
  go_enter Try.func78, Try.ntmps78
  go_wp2
  refine bodyPost_ret (v := .agg #[.int .i64 2, .int .i64 0, .int .i64 360]) ?hr rfl (ret_mk rfl (by repeat (first | exact Below.refl _ _ | (with_reducible assumption) | apply gL | apply gA | apply gD | apply gN | (refine gS ?_ (by first | (simp; done) | (simp; omega) | omega)))))
  case hr => simp [results, Try.results78, go_sem]
theorem to_calls (lo hi : Int) (w : World) : Calls Try.prog 28 #[.agg #[.int .i64 lo, .int .i64 hi]] w (Ret (.agg #[.int .i64 lo, .int .i64 hi]) w) := by
  go_enter Try.func28, Try.ntmps28
  go_wp2
  refine bodyPost_ret (v := .agg #[.int .i64 lo, .int .i64 hi]) ?hr rfl (ret_mk rfl (by repeat (first | exact Below.refl _ _ | (with_reducible assumption) | apply gL | apply gA | apply gD | apply gN | (refine gS ?_ (by first | (simp; done) | (simp; omega) | omega)))))
  case hr => simp [results, Try.results28, go_sem]

theorem refin_calls (n lo hi : Int) (w : World) : Calls Try.prog 37 #[.int .i64 n, .int .i64 lo, .int .i64 hi] w (Ret (.bool (inB n lo hi)) w) := by
  by_cases h1 : lo ≤ n
  · have hR := Lib.hid (show inB n lo hi = decide (n ≤ hi) by simp [inB, h1])
    go_enter Try.func37, Try.ntmps37
    go_wp2
    go_ret
    exact ret_mk (ret_bool hR.out.symm) (Below.refl _ _)
  · have hR := Lib.hid (show inB n lo hi = false by simp [inB, h1])
    go_enter Try.func37, Try.ntmps37
    go_wp2
    go_ret
    exact ret_mk (ret_bool hR.out.symm) (Below.refl _ _)
end Go.Proofs.Ytcngnfnljkkjgaa
