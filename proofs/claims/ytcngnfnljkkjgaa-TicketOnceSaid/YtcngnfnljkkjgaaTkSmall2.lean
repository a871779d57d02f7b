/-
More small functions of the program: tickets, clips, true minutes, the place of a number in a list.
-/
import Derived.Test.YtcngnfnljkkjgaaTkData
import Derived.Test.YtcngnfnljkkjgaaTkSmall
namespace Go.Proofs.Ytcngnfnljkkjgaa
open Go.RowKit
attribute [local go_sem] cell_later frozen_later lt_later le_later

theorem ticket_calls (v : Value) (h : Hs) (n : Int) (w : World) (H : HsAt w v h) (hl : h.tickets.length ≤ 140737488355328) :
    Calls Try.prog 90 #[v, .int .i64 n] w (Ret (.bool (h.ticketB n)) w) := by
  obtain ⟨A2, c2, A3, c3, A4, c4, rfl, -, -, -⟩ := H
  go_enter Try.func90, Try.ntmps90
  go_wp2_with (go_at_call 113; refine (within_calls _ _ _ _).mono ?_; rintro e w' ⟨rfl, x, rfl⟩)
  go_ret
  exact ret_mk rfl (by repeat (first | exact Below.refl _ _ | (with_reducible assumption) | apply gL | apply gA | apply gD | apply gN | (refine gS ?_ (by first | (simp; done) | (simp; omega) | omega))))

theorem clip_calls (v : Value) (h : Hs) (c : Cp) (w : World) (H : HsAt w v h) (hl : h.tickets.length ≤ 140737488355328) (hl2 : h.clocks.length ≤ 140737488355328) :
    Calls Try.prog 112 #[v, .agg #[.int .i64 c.tk, .int .i64 c.ck, .int .i64 c.mn]] w (Ret (.bool (h.clipB c)) w) := by
  have H0 := H
  obtain ⟨A2, c2, A3, c3, A4, c4, rfl, -, -, -⟩ := H
  by_cases h1 : h.ticketB c.tk = true
  · by_cases h2 : inB c.ck 0 ((h.clocks.length : Int) - 1) = true
    · have HF := Lib.hid (show h.clipB c = inB c.mn 0 1439 by simp [Hs.clipB, h1, h2])
      go_enter Try.func112, Try.ntmps112
      go_wp2_with (first
        | (go_at_call 90; refine (ticket_calls _ h _ _ ?hh hl).mono ?_; (case hh => exact H0.below (by repeat (first | exact Below.refl _ _ | (with_reducible assumption) | apply gL | apply gA | apply gD | apply gN | (refine gS ?_ (by first | (simp; done) | (simp; omega) | omega))))); rintro e w' ⟨rfl, x, rfl⟩)
        | (go_at_call 113; refine (within_calls _ _ _ _).mono ?_; rintro e w' ⟨rfl, x, rfl⟩))
      go_ret
      exact ret_mk (ret_bool HF.out.symm) (by repeat (first | exact Below.refl _ _ | (with_reducible assumption) | apply gL | apply gA | apply gD | apply gN | (refine gS ?_ (by first | (simp; done) | (simp; omega) | omega))))
    · have h2 : inB c.ck 0 ((h.clocks.length : Int) - 1) = false := by simpa using h2
      have HF := Lib.hid (show h.clipB c = false by simp [Hs.clipB, h2])
      go_enter Try.func112, Try.ntmps112
      go_wp2_with (first
        | (go_at_call 90; refine (ticket_calls _ h _ _ ?hh hl).mono ?_; (case hh => exact H0.below (by repeat (first | exact Below.refl _ _ | (with_reducible assumption) | apply gL | apply gA | apply gD | apply gN | (refine gS ?_ (by first | (simp; done) | (simp; omega) | omega))))); rintro e w' ⟨rfl, x, rfl⟩)
        | (go_at_call 113; refine (within_calls _ _ _ _).mono ?_; rintro e w' ⟨rfl, x, rfl⟩))
      go_ret
      exact ret_mk (ret_bool HF.out.symm) (by repeat (first | exact Below.refl _ _ | (with_reducible assumption) | apply gL | apply gA | apply gD | apply gN | (refine gS ?_ (by first | (simp; done) | (simp; omega) | omega))))
  · have h1 : h.ticketB c.tk = false := by simpa using h1
    have HF := Lib.hid (show h.clipB c = false by simp [Hs.clipB, h1])
    go_enter Try.func112, Try.ntmps112
    go_wp2_with (first
      | (go_at_call 90; refine (ticket_calls _ h _ _ ?hh hl).mono ?_; (case hh => exact H0.below (by repeat (first | exact Below.refl _ _ | (with_reducible assumption) | apply gL | apply gA | apply gD | apply gN | (refine gS ?_ (by first | (simp; done) | (simp; omega) | omega))))); rintro e w' ⟨rfl, x, rfl⟩))
    go_ret
    exact ret_mk (ret_bool HF.out.symm) (by repeat (first | exact Below.refl _ _ | (with_reducible assumption) | apply gL | apply gA | apply gD | apply gN | (refine gS ?_ (by first | (simp; done) | (simp; omega) | omega))))

theorem idx_at {l : List Int} {v : Int} {k : Nat} (hk : l[k]? = some v) (hj : ∀ j, j < k → ∀ x, l[j]? = some x → x ≠ v) : idx l v = k := by
  have hlt : k < l.length := (List.getElem?_eq_some_iff.1 hk).1
  have : l.findIdx? (· == v) = some k := by
    rw [List.findIdx?_eq_some_iff_getElem]
    refine ⟨hlt, ?_, ?_⟩
    · have := (List.getElem?_eq_some_iff.1 hk).2
      simp [this]
    · intro j hjk
      have := hj j hjk _ (List.getElem?_eq_getElem (by omega))
      simpa using this
  simp [idx, this]
theorem idx_no {l : List Int} {v : Int} (hj : ∀ j, j < l.length → ∀ x, l[j]? = some x → x ≠ v) : idx l v = -1 := by
  have : l.findIdx? (· == v) = none := by
    rw [List.findIdx?_eq_none_iff]
    intro x hx
    obtain ⟨j, hj1, hj2⟩ := List.getElem_of_mem hx
    have := hj j hj1 x (by rw [← hj2]; exact List.getElem?_eq_getElem hj1)
    simpa using this
  simp [idx, this]

theorem index_calls (A : Option Addr) (c : Nat) (l : List Int) (v : Int) (w : World) (H : SlA w 1 gI A c l) :
    Calls Try.prog 136 #[.slice A l.length c, .int .i64 v] w (Ret (.int .i64 (idx l v)) w) := by
  have hc1 := H.1
  have hc2 := H.2.1
  go_enter Try.func136, Try.ntmps136
  go_wp2
  go_loop [5, 8] (fun _ i => ∃ k : Nat, k ≤ l.length ∧ i = .int .i64 k ∧ ∀ j, j < k → ∀ x, l[j]? = some x → x ≠ v) (fun _ i => l.length - (intOf i).toNat)
  case atStart => exact ⟨0, Nat.zero_le _, rfl, fun j h => by omega⟩
  case round =>
    obtain ⟨k, hk, rfl, hj⟩ := hrel
    have HJ := Lib.hid hj
    clear hj
    by_cases hlt : k < l.length
    · obtain ⟨b, off, x, rfl, hb, hx, h1⟩ := H.atI hlt
      have HX := Lib.hid hx
      clear hx
      by_cases he : v = x
      · subst he
        go_wp2
        go_ret
        exact ret_mk (ret_int (idx_at HX.out HJ.out).symm) (by repeat (first | exact Below.refl _ _ | (with_reducible assumption) | apply gL | apply gA | apply gD | apply gN | (refine gS ?_ (by first | (simp; done) | (simp; omega) | omega))))
      · have he1 : (v == x) = false := by simpa using he
        have HE := Lib.hid he
        clear he
        go_wp2
        go_round
        case rel => exact ⟨k + 1, by omega, by go_num, fun j hj y hy => by
          rcases Nat.lt_or_ge j k with h | h
          · exact HJ.out j h y hy
          · obtain rfl : j = k := by omega
            rw [HX.out] at hy
            cases hy
            exact fun e => HE.out e.symm⟩
        case measure => simp [intOf]; omega
    · obtain rfl : k = l.length := by omega
      go_wp2
      go_ret
      exact ret_mk (ret_int (idx_no HJ.out).symm) (by repeat (first | exact Below.refl _ _ | (with_reducible assumption) | apply gL | apply gA | apply gD | apply gN | (refine gS ?_ (by first | (simp; done) | (simp; omega) | omega))))

theorem contains_calls (A : Option Addr) (c : Nat) (l : List Int) (v : Int) (w : World) (H : SlA w 1 gI A c l) :
    Calls Try.prog 126 #[.slice A l.length c, .int .i64 v] w (Ret (.bool (decide (0 ≤ idx l v))) w) := by
  go_enter Try.func126, Try.ntmps126
  go_wp2_with (go_at_call 136; refine (index_calls _ _ _ _ _ H).mono ?_; rintro e w' ⟨rfl, x, rfl⟩)
  go_ret
  exact ret_mk rfl (by repeat (first | exact Below.refl _ _ | (with_reducible assumption) | apply gL | apply gA | apply gD | apply gN | (refine gS ?_ (by first | (simp; done) | (simp; omega) | omega))))

theorem minute_calls (e : List Int) (c : Cp) (w : World) (h0 : 0 ≤ c.ck) (h1 : c.ck < 4) (hb1 : -1000 ≤ err e c.ck) (hb2 : err e c.ck ≤ 1000) (hm1 : -10000 ≤ c.mn) (hm2 : c.mn ≤ 10000) :
    Calls Try.prog 108 #[.agg (e4 e).toArray, .agg #[.int .i64 c.tk, .int .i64 c.ck, .int .i64 c.mn]] w (Ret (.int .i64 (tru e c)) w) := by
  have hcell : ∀ W : World, ((W.alloc (.cells (e4 e).toArray 119)).alloc (.cells #[.int .i64 c.tk, .int .i64 c.ck, .int .i64 c.mn] 104)).cell? ⟨W.heap.size, c.ck.toNat, none⟩ = some (.int .i64 (err e c.ck)) := by
    intro W
    rw [World.cell?_alloc_lt _ _ _ (by simp), World.cell?_alloc_new]
    have : c.ck.toNat = 0 ∨ c.ck.toNat = 1 ∨ c.ck.toNat = 2 ∨ c.ck.toNat = 3 := by omega
    rcases this with h | h | h | h <;> simp [e4, err, h]
  go_enter Try.func108, Try.ntmps108
  go_wp2
  go_quiet (fail)
  go_wp2
  go_ret
  exact ret_mk rfl (by repeat (first | exact Below.refl _ _ | (with_reducible assumption) | apply gL | apply gA | apply gD | apply gN | (refine gS ?_ (by first | (simp; done) | (simp; omega) | omega))))
end Go.Proofs.Ytcngnfnljkkjgaa
