/-
The small functions of the program: what each returns.
-/
import Derived.Test.YtcngnfnljkkjgaaTkBase
import Derived.Test.YtcngnfnljkkjgaaTkPure
namespace Go.Proofs.Ytcngnfnljkkjgaa
open Go.RowKit
attribute [local go_sem] cell_later frozen_later lt_later le_later

theorem within_calls (n lo hi : Int) (w : World) : Calls Try.prog 113 #[.int .i64 n, .int .i64 lo, .int .i64 hi] w (Ret (.bool (inB n lo hi)) w) := by
  by_cases h1 : lo ≤ n
  · have h1b : decide (lo ≤ n) = true := by simpa using h1
    have hfin : inB n lo hi = decide (n ≤ hi) := by simp [inB, h1]
    have HF := Lib.hid hfin
    clear hfin h1
    go_enter Try.func113, Try.ntmps113
    go_wp2
    go_ret
    exact ret_mk (ret_bool HF.out.symm) (Below.refl _ _)
  · have h1b : decide (lo ≤ n) = false := by simpa using h1
    have hfin : inB n lo hi = false := by simp [inB, h1]
    have HF := Lib.hid hfin
    clear hfin h1
    go_enter Try.func113, Try.ntmps113
    go_wp2
    go_ret
    exact ret_mk (ret_bool HF.out.symm) (Below.refl _ _)

theorem tub_calls (n : Int) (w : World) : Calls Try.prog 94 #[.int .i64 n] w (Ret (.bool (inB n 0 8)) w) := by
  go_enter Try.func94, Try.ntmps94
  go_wp2_with (go_at_call 113; refine (within_calls _ _ _ _).mono ?_; rintro e w' ⟨rfl, x, rfl⟩)
  go_ret
  exact ret_mk rfl (below_later _ _)

theorem size_calls (lo hi : Int) (w : World) (h1 : -1000 ≤ lo) (h2 : lo ≤ 1000) (h3 : -1000 ≤ hi) (h4 : hi ≤ 1000) :
    Calls Try.prog 99 #[.agg #[.int .i64 lo, .int .i64 hi]] w (Ret (.int .i64 (hi - lo + 1)) w) := by
  go_enter Try.func99, Try.ntmps99
  go_wp2
  go_ret
  exact ret_mk rfl ((Below.refl _ _).alloc (Nat.le_refl _) _)

theorem off_calls (lo hi : Int) (w : World) : Calls Try.prog 115 #[.agg #[.int .i64 lo, .int .i64 hi]] w (Ret (.bool (Rg.offB ⟨lo, hi⟩)) w) := by
  by_cases h1 : -30 ≤ lo
  · have h1b : decide (-30 ≤ lo) = true := by simpa using h1
    by_cases h2 : lo ≤ hi
    · have h2b : decide (lo ≤ hi) = true := by simpa using h2
      have HF := Lib.hid (show Rg.offB ⟨lo, hi⟩ = decide (hi ≤ 30) by simp [Rg.offB, h1, h2])
      clear h1 h2
      go_enter Try.func115, Try.ntmps115
      go_wp2
      go_ret
      exact ret_mk (ret_bool HF.out.symm) ((Below.refl _ _).alloc (Nat.le_refl _) _)
    · have h2b : decide (lo ≤ hi) = false := by simpa using h2
      have HF := Lib.hid (show Rg.offB ⟨lo, hi⟩ = false by simp [Rg.offB, h2])
      clear h1 h2
      go_enter Try.func115, Try.ntmps115
      go_wp2
      go_ret
      exact ret_mk (ret_bool HF.out.symm) ((Below.refl _ _).alloc (Nat.le_refl _) _)
  · have h1b : decide (-30 ≤ lo) = false := by simpa using h1
    have HF := Lib.hid (show Rg.offB ⟨lo, hi⟩ = false by simp [Rg.offB, h1])
    clear h1
    go_enter Try.func115, Try.ntmps115
    go_wp2
    go_ret
    exact ret_mk (ret_bool HF.out.symm) ((Below.refl _ _).alloc (Nat.le_refl _) _)

theorem has_calls (lo hi n : Int) (w : World) : Calls Try.prog 125 #[.agg #[.int .i64 lo, .int .i64 hi], .int .i64 n] w (Ret (.bool (inB n lo hi)) w) := by
  go_enter Try.func125, Try.ntmps125
  go_wp2_with (go_at_call 113; refine (within_calls _ _ _ _).mono ?_; rintro e w' ⟨rfl, x, rfl⟩)
  go_ret
  exact ret_mk rfl (by repeat (first | exact Below.refl _ _ | (with_reducible assumption) | apply gL | apply gA | apply gD | apply gN | (refine gS ?_ (by first | (simp; done) | (simp; omega) | omega))))

theorem valid_calls (a b : Int) (w : World) : Calls Try.prog 117 #[.agg #[.int .i64 a, .int .i64 b]] w (Ret (.bool (Tk.validB ⟨a, b⟩)) w) := by
  by_cases h1 : inB a 0 8 = true
  · have HF := Lib.hid (show Tk.validB ⟨a, b⟩ = inB b 0 9 by simp [Tk.validB, h1])
    go_enter Try.func117, Try.ntmps117
    go_wp2_with (first
      | (go_at_call 94; refine (tub_calls _ _).mono ?_; rintro e w' ⟨rfl, x, rfl⟩)
      | (go_at_call 113; refine (within_calls _ _ _ _).mono ?_; rintro e w' ⟨rfl, x, rfl⟩))
    go_ret
    exact ret_mk (ret_bool HF.out.symm) (by repeat (first | exact Below.refl _ _ | (with_reducible assumption) | apply gL | apply gA | apply gD | apply gN | (refine gS ?_ (by first | (simp; done) | (simp; omega) | omega))))
  · have h1 : inB a 0 8 = false := by simpa using h1
    have HF := Lib.hid (show Tk.validB ⟨a, b⟩ = false by simp [Tk.validB, h1])
    go_enter Try.func117, Try.ntmps117
    go_wp2_with (first
      | (go_at_call 94; refine (tub_calls _ _).mono ?_; rintro e w' ⟨rfl, x, rfl⟩)
      | (go_at_call 113; refine (within_calls _ _ _ _).mono ?_; rintro e w' ⟨rfl, x, rfl⟩))
    go_ret
    exact ret_mk (ret_bool HF.out.symm) (by repeat (first | exact Below.refl _ _ | (with_reducible assumption) | apply gL | apply gA | apply gD | apply gN | (refine gS ?_ (by first | (simp; done) | (simp; omega) | omega))))
end Go.Proofs.Ytcngnfnljkkjgaa
