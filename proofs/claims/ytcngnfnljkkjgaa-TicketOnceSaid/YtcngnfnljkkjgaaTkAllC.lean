/-
A list of clips tested by a function: each is one of the house.
-/
import Derived.Test.YtcngnfnljkkjgaaTkAllT
namespace Go.Proofs.Ytcngnfnljkkjgaa
open Go.RowKit
attribute [local go_sem] cell_later frozen_later lt_later le_later

theorem allCd_calls (v : Value) (h : Hs) (hl : h.tickets.length ≤ 140737488355328) (hl2 : h.clocks.length ≤ 140737488355328) (x : Cp) (g : Nat) (w : World) (HV : HsAt w v h) (hg : w.cell? ⟨g, 0, none⟩ = some (.func (.func 112) #[v] #[])) :
    Calls Try.prog 132 #[.agg #[.int .i64 x.tk, .int .i64 x.ck, .int .i64 x.mn], .pointer (some ⟨g, 0, none⟩)] w (Ret (.bool (!h.clipB x)) w) := by
  have hlt := World.block_lt_of_cell? w _ hg
  go_enter Try.func132, Try.ntmps132
  go_wp2_with (go_at_call 112; refine (clip_calls v h x _ ?hh hl hl2).mono ?_; (case hh => exact HV.below (by repeat (first | exact Below.refl _ _ | (with_reducible assumption) | apply gL | apply gA | apply gD | apply gN | (refine gS ?_ (by first | (simp; done) | (simp; omega) | omega))))); rintro e w' ⟨rfl, y, rfl⟩)
  go_ret
  exact ret_mk rfl (by repeat (first | exact Below.refl _ _ | (with_reducible assumption) | apply gL | apply gA | apply gD | apply gN | (refine gS ?_ (by first | (simp; done) | (simp; omega) | omega))))

set_option maxHeartbeats 400000 in
theorem indexC_calls (v : Value) (h : Hs) (hl : h.tickets.length ≤ 140737488355328) (hl2 : h.clocks.length ≤ 140737488355328) (A : Option Addr) (c : Nat) (l : List Cp) (g : Nat) (w : World) (HV : HsAt w v h) (H : SlA w 3 gC A c l) (hg : w.cell? ⟨g, 0, none⟩ = some (.func (.func 112) #[v] #[])) :
    Calls Try.prog 139 #[.slice A l.length c, .func (.func 132) #[] #[.pointer (some ⟨g, 0, none⟩)]] w (Ret (.int .i64 (idxP h.clipB l)) w) := by
  have hc1 := H.1
  have hc2 := H.2.1
  have hlt := World.block_lt_of_cell? w _ hg
  go_enter Try.func139, Try.ntmps139
  go_wp2
  go_loopw [5, 8] (fun _ i wr => (∃ x, wr = later w x) ∧ ∃ k : Nat, k ≤ l.length ∧ i = .int .i64 k ∧ ∀ j, j < k → ∀ y, l[j]? = some y → h.clipB y = true) (fun _ i _ => l.length - (intOf i).toNat)
  case atStart => exact ⟨later_ex (Below.refl _ _), 0, Nat.zero_le _, rfl, fun j h => by omega⟩
  case round =>
    obtain ⟨⟨z, rfl⟩, k, hk, rfl, hj⟩ := hrel
    have HJ := Lib.hid hj
    clear hj
    by_cases hlt : k < l.length
    · obtain ⟨b, off, x, rfl, hb, hx, h1, h2, h3⟩ := H.atC hlt
      have HX := Lib.hid hx
      clear hx
      by_cases he : h.clipB x = true
      · go_wp2_with (go_at_call 132; refine (allCd_calls v h hl hl2 x _ _ ?hv ?hg).mono ?_; (case hv => exact HV.below (by repeat (first | exact Below.refl _ _ | (with_reducible assumption) | apply gL | apply gA | apply gD | apply gN | (refine gS ?_ (by first | (simp; done) | (simp; omega) | omega))))); (case hg => exact (cell_later (by assumption)).trans hg); rintro e w' ⟨rfl, y, rfl⟩)
        go_roundw
        case rel => exact ⟨later_ex (by repeat (first | exact Below.refl _ _ | (with_reducible assumption) | apply gL | apply gA | apply gD | apply gN | (refine gS ?_ (by first | (simp; done) | (simp; omega) | omega)))), k + 1, by omega, by go_num, fun j hj y hy => by
          rcases Nat.lt_or_ge j k with h | h
          · exact HJ.out j h y hy
          · obtain rfl : j = k := by omega
            rw [HX.out] at hy
            cases hy
            exact he⟩
        case measure => simp [intOf]; omega
      · have he : h.clipB x = false := by simpa using he
        go_wp2_with (go_at_call 132; refine (allCd_calls v h hl hl2 x _ _ ?hv ?hg).mono ?_; (case hv => exact HV.below (by repeat (first | exact Below.refl _ _ | (with_reducible assumption) | apply gL | apply gA | apply gD | apply gN | (refine gS ?_ (by first | (simp; done) | (simp; omega) | omega))))); (case hg => exact (cell_later (by assumption)).trans hg); rintro e w' ⟨rfl, y, rfl⟩)
        go_ret
        exact ret_mk (ret_int (idxP_at HX.out he HJ.out).symm) (by repeat (first | exact Below.refl _ _ | (with_reducible assumption) | apply gL | apply gA | apply gD | apply gN | (refine gS ?_ (by first | (simp; done) | (simp; omega) | omega))))
    · obtain rfl : k = l.length := by omega
      go_wp2
      go_ret
      exact ret_mk (ret_int (idxP_no HJ.out).symm) (by repeat (first | exact Below.refl _ _ | (with_reducible assumption) | apply gL | apply gA | apply gD | apply gN | (refine gS ?_ (by first | (simp; done) | (simp; omega) | omega))))

theorem containsC_calls (v : Value) (h : Hs) (hl : h.tickets.length ≤ 140737488355328) (hl2 : h.clocks.length ≤ 140737488355328) (A : Option Addr) (c : Nat) (l : List Cp) (g : Nat) (w : World) (HV : HsAt w v h) (H : SlA w 3 gC A c l) (hg : w.cell? ⟨g, 0, none⟩ = some (.func (.func 112) #[v] #[])) :
    Calls Try.prog 131 #[.slice A l.length c, .func (.func 132) #[] #[.pointer (some ⟨g, 0, none⟩)]] w (Ret (.bool (decide (0 ≤ idxP h.clipB l))) w) := by
  go_enter Try.func131, Try.ntmps131
  go_wp2_with (go_at_call 139; refine (indexC_calls v h hl hl2 _ _ _ _ _ HV H hg).mono ?_; rintro e w' ⟨rfl, x, rfl⟩)
  go_ret
  exact ret_mk rfl (by repeat (first | exact Below.refl _ _ | (with_reducible assumption) | apply gL | apply gA | apply gD | apply gN | (refine gS ?_ (by first | (simp; done) | (simp; omega) | omega))))

theorem allC_calls (v : Value) (h : Hs) (hl : h.tickets.length ≤ 140737488355328) (hl2 : h.clocks.length ≤ 140737488355328) (A : Option Addr) (c : Nat) (l : List Cp) (w : World) (HV : HsAt w v h) (H : SlA w 3 gC A c l) :
    Calls Try.prog 118 #[.slice A l.length c, .func (.func 112) #[v] #[]] w (Ret (.bool (l.all h.clipB)) w) := by
  have HF := Lib.hid (idxP_all h.clipB l)
  go_enter Try.func118, Try.ntmps118
  go_wp2_with (go_at_call 131; refine (containsC_calls v h hl hl2 _ _ l _ _ ?hv ?hs ?hg).mono ?_; (case hv => exact HV.below (by repeat (first | exact Below.refl _ _ | (with_reducible assumption) | apply gL | apply gA | apply gD | apply gN | (refine gS ?_ (by first | (simp; done) | (simp; omega) | omega))))); (case hs => exact H.below (by repeat (first | exact Below.refl _ _ | (with_reducible assumption) | apply gL | apply gA | apply gD | apply gN | (refine gS ?_ (by first | (simp; done) | (simp; omega) | omega))))); (case hg => simp [go_sem]); rintro e w' ⟨rfl, x, rfl⟩)
  go_ret
  exact ret_mk (ret_bool HF.out) (by repeat (first | exact Below.refl _ _ | (with_reducible assumption) | apply gL | apply gA | apply gD | apply gN | (refine gS ?_ (by first | (simp; done) | (simp; omega) | omega))))
end Go.Proofs.Ytcngnfnljkkjgaa
