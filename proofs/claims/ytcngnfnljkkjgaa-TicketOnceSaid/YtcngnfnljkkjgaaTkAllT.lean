/-
A list of tickets tested by a function: each is valid.
-/
import Derived.Test.YtcngnfnljkkjgaaTkAllR
namespace Go.Proofs.Ytcngnfnljkkjgaa
open Go.RowKit
attribute [local go_sem] cell_later frozen_later lt_later le_later

theorem allTd_calls (x : Tk) (g : Nat) (w : World) (hg : w.cell? ⟨g, 0, none⟩ = some (.func (.func 117) #[] #[])) :
    Calls Try.prog 130 #[.agg #[.int .i64 x.tub, .int .i64 x.hours], .pointer (some ⟨g, 0, none⟩)] w (Ret (.bool (!x.validB)) w) := by
  have hlt := World.block_lt_of_cell? w _ hg
  go_enter Try.func130, Try.ntmps130
  go_wp2_with (go_at_call 117; refine (valid_calls _ _ _).mono ?_; rintro e w' ⟨rfl, y, rfl⟩)
  go_ret
  exact ret_mk rfl (by repeat (first | exact Below.refl _ _ | (with_reducible assumption) | apply gL | apply gA | apply gD | apply gN | (refine gS ?_ (by first | (simp; done) | (simp; omega) | omega))))

set_option maxHeartbeats 400000 in
theorem indexT_calls (A : Option Addr) (c : Nat) (l : List Tk) (g : Nat) (w : World) (H : SlA w 2 gT A c l) (hg : w.cell? ⟨g, 0, none⟩ = some (.func (.func 117) #[] #[])) :
    Calls Try.prog 138 #[.slice A l.length c, .func (.func 130) #[] #[.pointer (some ⟨g, 0, none⟩)]] w (Ret (.int .i64 (idxP Tk.validB l)) w) := by
  have hc1 := H.1
  have hc2 := H.2.1
  have hlt := World.block_lt_of_cell? w _ hg
  go_enter Try.func138, Try.ntmps138
  go_wp2
  go_loopw [5, 8] (fun _ i wr => (∃ x, wr = later w x) ∧ ∃ k : Nat, k ≤ l.length ∧ i = .int .i64 k ∧ ∀ j, j < k → ∀ y, l[j]? = some y → y.validB = true) (fun _ i _ => l.length - (intOf i).toNat)
  case atStart => exact ⟨later_ex (Below.refl _ _), 0, Nat.zero_le _, rfl, fun j h => by omega⟩
  case round =>
    obtain ⟨⟨z, rfl⟩, k, hk, rfl, hj⟩ := hrel
    have HJ := Lib.hid hj
    clear hj
    by_cases hlt : k < l.length
    · obtain ⟨b, off, x, rfl, hb, hx, h1, h2⟩ := H.atT hlt
      have HX := Lib.hid hx
      clear hx
      by_cases he : x.validB = true
      · go_wp2_with (go_at_call 130; refine (allTd_calls x _ _ ?hg).mono ?_; (case hg => exact (cell_later (by assumption)).trans hg); rintro e w' ⟨rfl, y, rfl⟩)
        go_roundw
        case rel => exact ⟨later_ex (by repeat (first | exact Below.refl _ _ | (with_reducible assumption) | apply gL | apply gA | apply gD | apply gN | (refine gS ?_ (by first | (simp; done) | (simp; omega) | omega)))), k + 1, by omega, by go_num, fun j hj y hy => by
          rcases Nat.lt_or_ge j k with h | h
          · exact HJ.out j h y hy
          · obtain rfl : j = k := by omega
            rw [HX.out] at hy
            cases hy
            exact he⟩
        case measure => simp [intOf]; omega
      · have he : x.validB = false := by simpa using he
        go_wp2_with (go_at_call 130; refine (allTd_calls x _ _ ?hg).mono ?_; (case hg => exact (cell_later (by assumption)).trans hg); rintro e w' ⟨rfl, y, rfl⟩)
        go_ret
        exact ret_mk (ret_int (idxP_at HX.out he HJ.out).symm) (by repeat (first | exact Below.refl _ _ | (with_reducible assumption) | apply gL | apply gA | apply gD | apply gN | (refine gS ?_ (by first | (simp; done) | (simp; omega) | omega))))
    · obtain rfl : k = l.length := by omega
      go_wp2
      go_ret
      exact ret_mk (ret_int (idxP_no HJ.out).symm) (by repeat (first | exact Below.refl _ _ | (with_reducible assumption) | apply gL | apply gA | apply gD | apply gN | (refine gS ?_ (by first | (simp; done) | (simp; omega) | omega))))

theorem containsT_calls (A : Option Addr) (c : Nat) (l : List Tk) (g : Nat) (w : World) (H : SlA w 2 gT A c l) (hg : w.cell? ⟨g, 0, none⟩ = some (.func (.func 117) #[] #[])) :
    Calls Try.prog 129 #[.slice A l.length c, .func (.func 130) #[] #[.pointer (some ⟨g, 0, none⟩)]] w (Ret (.bool (decide (0 ≤ idxP Tk.validB l))) w) := by
  go_enter Try.func129, Try.ntmps129
  go_wp2_with (go_at_call 138; refine (indexT_calls _ _ _ _ _ H hg).mono ?_; rintro e w' ⟨rfl, x, rfl⟩)
  go_ret
  exact ret_mk rfl (by repeat (first | exact Below.refl _ _ | (with_reducible assumption) | apply gL | apply gA | apply gD | apply gN | (refine gS ?_ (by first | (simp; done) | (simp; omega) | omega))))

theorem allT_calls (A : Option Addr) (c : Nat) (l : List Tk) (w : World) (H : SlA w 2 gT A c l) :
    Calls Try.prog 116 #[.slice A l.length c, .func (.func 117) #[] #[]] w (Ret (.bool (l.all Tk.validB)) w) := by
  have HF := Lib.hid (idxP_all Tk.validB l)
  go_enter Try.func116, Try.ntmps116
  go_wp2_with (go_at_call 129; refine (containsT_calls _ _ l _ _ ?hs ?hg).mono ?_; (case hs => exact H.below (by repeat (first | exact Below.refl _ _ | (with_reducible assumption) | apply gL | apply gA | apply gD | apply gN | (refine gS ?_ (by first | (simp; done) | (simp; omega) | omega))))); (case hg => simp [go_sem]); rintro e w' ⟨rfl, x, rfl⟩)
  go_ret
  exact ret_mk (ret_bool HF.out) (by repeat (first | exact Below.refl _ _ | (with_reducible assumption) | apply gL | apply gA | apply gD | apply gN | (refine gS ?_ (by first | (simp; done) | (simp; omega) | omega))))
end Go.Proofs.Ytcngnfnljkkjgaa
