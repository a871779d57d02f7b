/-
The minimum of two numbers by the library, the range that has one number more, and lists tested by a function.
-/
import Derived.Test.YtcngnfnljkkjgaaTkSmall2
import Derived.Deep.RegionHeld3
namespace Go.Proofs.Ytcngnfnljkkjgaa
open Go.RowKit
attribute [local go_sem] cell_later frozen_later lt_later le_later

theorem slicesMin_calls (A : Option Addr) (c : Nat) (a b : Int) (w : World) (H : SlA w 1 gI A c [a, b]) :
    Calls Try.prog 133 #[.slice A 2 c] w (Ret (.int .i64 (min a b)) w) := by
  have hc1 := H.1
  have hc2 := H.2.1
  obtain ⟨g, off, x, rfl, hb, hx, h1⟩ := H.atI (i := 0) (by simp)
  obtain ⟨g', off', y, he, hb', hy, h2⟩ := H.atI (i := 1) (by simp)
  cases he
  cases hx
  cases hy
  simp only [Nat.add_zero] at h1
  have hm : (if b < a then b else a) = min a b := by omega
  have HM := Lib.hid hm
  clear hm
  go_enter Try.func133, Try.ntmps133
  go_wp2
  go_loop [3, 4] (fun m i => (m = .int .i64 a ∧ i = .int .i64 1) ∨ (m = .int .i64 (min a b) ∧ i = .int .i64 2)) (fun _ i => 2 - (intOf i).toNat)
  case atStart => exact .inl ⟨rfl, rfl⟩
  case round =>
    rcases hrel with ⟨rfl, rfl⟩ | ⟨rfl, rfl⟩
    · by_cases hlt : b < a
      · go_wp2
        go_round
        case rel => exact .inr ⟨by rw [← HM.out, if_pos hlt], rfl⟩
        case measure => simp [intOf]
      · go_wp2
        go_round
        case rel => exact .inr ⟨by rw [← HM.out, if_neg hlt], rfl⟩
        case measure => simp [intOf]
    · go_wp2
      go_ret
      exact ret_mk rfl (by repeat (first | exact Below.refl _ _ | (with_reducible assumption) | apply gL | apply gA | apply gD | apply gN | (refine gS ?_ (by first | (simp; done) | (simp; omega) | omega))))

theorem minimum_calls (A : Option Addr) (c : Nat) (a b : Int) (w : World) (H : SlA w 1 gI A c [a, b]) :
    Calls Try.prog 120 #[.slice A 2 c] w (Ret (.int .i64 (min a b)) w) := by
  go_enter Try.func120, Try.ntmps120
  go_wp2_with (go_at_call 133; refine (slicesMin_calls _ _ _ _ _ H).mono ?_; rintro e w' ⟨rfl, x, rfl⟩)
  go_ret
  exact ret_mk rfl (by repeat (first | exact Below.refl _ _ | (with_reducible assumption) | apply gL | apply gA | apply gD | apply gN | (refine gS ?_ (by first | (simp; done) | (simp; omega) | omega))))

theorem sl2_of {w : World} {g : Nat} {a b : Int} {c : Nat} (h0 : w.cell? ⟨g, 0, none⟩ = some (.int .i64 a)) (h1 : w.cell? ⟨g, 1, none⟩ = some (.int .i64 b)) (hc : 2 ≤ c) : SlA w 1 gI (some ⟨g, 0, none⟩) c [a, b] :=
  ⟨hc, by simp, fun _ => ⟨g, 0, rfl, World.block_lt_of_cell? w _ h0, fun i x hx j u hu => by
    match i, hx with
    | 0, hx => cases hx; match j, hu with | 0, hu => cases hu; simpa using h0
    | 1, hx => cases hx; match j, hu with | 0, hu => cases hu; simpa using h1⟩⟩

theorem wider_calls (lo hi n : Int) (w : World) : Calls Try.prog 123 #[.agg #[.int .i64 lo, .int .i64 hi], .int .i64 n] w (Ret (.agg #[.int .i64 (min lo n), .int .i64 (max hi n)]) w) := by
  have hm : (if hi < n then n else hi) = max hi n := by omega
  go_enter Try.func123, Try.ntmps123
  go_wp2
  go_region_held3 (fun W => W.cell? ⟨w.heap.size, 0, none⟩ = some (.int .i64 lo) ∧ W.cell? ⟨w.heap.size, 1, none⟩ = some (.int .i64 hi))
    (first | go_keep | (go_split_ands; simp [*, go_sem]))
    (first | (go_at_call 120; refine (minimum_calls _ _ lo n _ ?hs).mono ?_; (case hs => exact sl2_of (by simp [go_sem]) (by simp [go_sem]) (by omega)); rintro e w' ⟨rfl, x, rfl⟩))
  all_goals
    go_wp2
    refine bodyPost_ret (v := .agg #[.int .i64 (min lo n), .int .i64 (max hi n)]) ?hr rfl (ret_mk rfl (by repeat (first | exact Below.refl _ _ | (with_reducible assumption) | apply gL | apply gA | apply gD | apply gN | (refine gS ?_ (by first | (simp; done) | (simp; omega) | omega)))))
    case hr => simp [results, Try.results123, go_sem]
end Go.Proofs.Ytcngnfnljkkjgaa
