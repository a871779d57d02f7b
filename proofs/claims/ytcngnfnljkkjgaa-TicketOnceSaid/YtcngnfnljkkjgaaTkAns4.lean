/-
Whether two tickets clash; from which minute on a tub is free.
-/
import Derived.Test.YtcngnfnljkkjgaaTkAns3
namespace Go.Proofs.Ytcngnfnljkkjgaa
open Go.RowKit
attribute [local go_sem] cell_later frozen_later lt_later le_later

theorem clashd_calls (g : Nat) (h : Hs) (e : List Int) {e0 e1 e2 e3 : Int} (H4 : Hid (e4 e = [.int .i64 e0, .int .i64 e1, .int .i64 e2, .int .i64 e3])) (he : Hid (ErrOk e)) (a b : Nat) (ha : a < h.tickets.length) (hb : b < h.tickets.length) (w : World) (H : WkAt w g h) (hf : Hid (h.fault = 0))
    (p q r : Nat) (hp : w.cell? ⟨p, 0, none⟩ = some (.pointer (some ⟨g, 0, none⟩))) (hq : w.cell? ⟨q, 0, none⟩ = some (.int .i64 a)) (hr : w.cell? ⟨r, 0, none⟩ = some (.int .i64 b)) :
    Calls Try.prog 91 #[.agg #[.int .i64 e0, .int .i64 e1, .int .i64 e2, .int .i64 e3], .pointer (some ⟨p, 0, none⟩), .pointer (some ⟨q, 0, none⟩), .pointer (some ⟨r, 0, none⟩)] w (Ret (.bool (h.clashB e a b)) w) := by
  have hpl := World.block_lt_of_cell? w _ hp
  have hql := World.block_lt_of_cell? w _ hq
  have hrl := World.block_lt_of_cell? w _ hr
  simp only at hpl hql hrl
  go_enter Try.func91, Try.ntmps91
  go_wp2_with (first | (go_at_call 92; refine (clash_calls g h e H4 he a b ha hb _ ?hw hf).mono ?_; (case hw => exact H.below (by repeat (first | exact Below.refl _ _ | (with_reducible assumption) | apply gL | apply gA | apply gD | apply gN | (refine gS ?_ (by first | (simp; done) | (simp; omega) | omega))))); (rintro e w' hr; first | ((with_reducible replace hr := Ret.up hr); obtain ⟨rfl, z, rfl⟩ := hr) | (obtain ⟨rfl, z, rfl⟩ := hr))))
  go_ret
  exact ret_mk rfl (by repeat (first | exact Below.refl _ _ | (with_reducible assumption) | apply gL | apply gA | apply gD | apply gN | (refine gS ?_ (by first | (simp; done) | (simp; omega) | omega))))

def Hs.clashDue (h : Hs) (a b : Int) : Int := if h.ticketB a = true ∧ h.ticketB b = true then (if a = b then 6 else 0) else 2
def Hs.clashE (h : Hs) (a b : Int) : Int := h.askE (h.clashDue a b)
def Hs.clashV (h : Hs) (a b : Int) : Int := if h.clashE a b = 0 then verdictB h.truths (fun e => h.clashB e a.toNat b.toNat) else 0
theorem askE_due {h : Hs} {due : Int} (hd : due ≠ 0) : h.askE due ≠ 0 := by
  intro h0
  exact hd (askE_zero h0).2.1

set_option maxHeartbeats 2000000 in
theorem clash_all_calls (v : Value) (h : Hs) (a b : Int) (w : World) (H : HsAt w v h) :
    Calls Try.prog 35 #[v, .int .i64 a, .int .i64 b] w (Ret (.tuple #[.int .i64 (h.clashV a b), .int .i64 (h.clashE a b)]) w) := by
  have H0 := H
  obtain ⟨A2, c2, A3, c3, A4, c4, rfl, H2, H3, H4⟩ := H
  have hl3 := H3.2.1
  by_cases h1 : h.ticketB a = true
  · by_cases h2 : h.ticketB b = true
    · by_cases hab : a = b
      · have hD := Lib.hid (show h.clashE a b = h.askE 6 by rw [Hs.clashE, Hs.clashDue, if_pos ⟨h1, h2⟩, if_pos hab])
        have hab1 : (a == b) = true := by simpa using hab
        have hE : h.askE 6 ≠ 0 := askE_due (by decide)
        have hb : (h.askE 6 != 0) = true := by simpa using hE
        have HE := Lib.hid hE
        have HL := Lib.hid (show h.clashV a b = 0 by rw [Hs.clashV, hD.out, if_neg hE])
        clear hE hab
        go_enter Try.func35, Try.ntmps35
        go_wp2_with (first
          | (go_at_call 90; refine (ticket_calls _ h _ _ ?hh hl3).mono ?_; (case hh => exact H0.below (by repeat (first | exact Below.refl _ _ | (with_reducible assumption) | apply gL | apply gA | apply gD | apply gN | (refine gS ?_ (by first | (simp; done) | (simp; omega) | omega))))); (first | rw [h1] | rw [h2]); (rintro e w' hr; first | ((with_reducible replace hr := Ret.up hr); obtain ⟨rfl, z, rfl⟩ := hr) | (obtain ⟨rfl, z, rfl⟩ := hr)))
          | (go_at_call 79; refine (asked_bad _ h 6 _ ?hh HE.out).mono ?_; (case hh => exact H0.below (by repeat (first | exact Below.refl _ _ | (with_reducible assumption) | apply gL | apply gA | apply gD | apply gN | (refine gS ?_ (by first | (simp; done) | (simp; omega) | omega))))); (rintro e w' hr; first | ((with_reducible replace hr := Ret.up hr); obtain ⟨rfl, z, rfl⟩ := hr) | (obtain ⟨rfl, z, rfl⟩ := hr))))
        go_ret2
        exact ret_mk (by rw [HL.out, hD.out]; rfl) (by repeat (first | exact Below.refl _ _ | (with_reducible assumption) | apply gL | apply gA | apply gD | apply gN | (refine gS ?_ (by first | (simp; done) | (simp; omega) | omega))))
      · have hD := Lib.hid (show h.clashE a b = h.askE 0 by rw [Hs.clashE, Hs.clashDue, if_pos ⟨h1, h2⟩, if_neg hab])
        have hab1 : (a == b) = false := by simpa using hab
        by_cases ha : h.askE 0 = 0
        · obtain ⟨hf, -, hne⟩ := askE_zero ha
          have HL := Lib.hid (show h.clashV a b = verdictB h.truths (fun e => h.clashB e a.toNat b.toNat) by rw [Hs.clashV, hD.out, if_pos ha])
          have HA := Lib.hid ha
          have HF := Lib.hid hf
          obtain ⟨a', rfl⟩ : ∃ n : Nat, a = n := ⟨a.toNat, by have := inB_iff.1 h1; omega⟩
          obtain ⟨b', rfl⟩ : ∃ n : Nat, b = n := ⟨b.toNat, by have := inB_iff.1 h2; omega⟩
          have hla : a' < h.tickets.length := by have := inB_iff.1 h1; omega
          have hlb : b' < h.tickets.length := by have := inB_iff.1 h2; omega
          clear ha hf hne hab
          go_enter Try.func35, Try.ntmps35
          go_wp2_with (first
            | (go_at_call 90; refine (ticket_calls _ h _ _ ?hh hl3).mono ?_; (case hh => exact H0.below (by repeat (first | exact Below.refl _ _ | (with_reducible assumption) | apply gL | apply gA | apply gD | apply gN | (refine gS ?_ (by first | (simp; done) | (simp; omega) | omega))))); (first | rw [h1] | rw [h2]); (rintro e w' hr; first | ((with_reducible replace hr := Ret.up hr); obtain ⟨rfl, z, rfl⟩ := hr) | (obtain ⟨rfl, z, rfl⟩ := hr)))
            | (go_at_call 79; refine (asked_ok _ h 0 _ ?hh HA.out).mono ?_; (case hh => exact H0.below (by repeat (first | exact Below.refl _ _ | (with_reducible assumption) | apply gL | apply gA | apply gD | apply gN | (refine gS ?_ (by first | (simp; done) | (simp; omega) | omega))))); (rintro e w' hr; (first | (with_reducible replace hr := RetWk.up hr) | skip); obtain ⟨g, rfl, ⟨z, rfl⟩, hwk⟩ := hr))
            | (go_at_call 85; fail))
          obtain ⟨W1, hW1⟩ : ∃ W1, W1 = (later (((w.alloc (.cells #[.int .i64 h.hour, .int .i64 h.grace, .slice A2 h.clocks.length c2, .slice A3 h.tickets.length c3, .slice A4 h.clips.length c4] 36)).alloc (.cells #[.int .i64 a'] 3)).alloc (.cells #[.int .i64 b'] 3)) z).alloc (.cells #[.pointer (some ⟨g, 0, none⟩)] 106) := ⟨_, rfl⟩
          obtain ⟨p, hp⟩ : ∃ p, p = (later (((w.alloc (.cells #[.int .i64 h.hour, .int .i64 h.grace, .slice A2 h.clocks.length c2, .slice A3 h.tickets.length c3, .slice A4 h.clips.length c4] 36)).alloc (.cells #[.int .i64 a'] 3)).alloc (.cells #[.int .i64 b'] 3)) z).heap.size := ⟨_, rfl⟩
          have hb1 : Below w.heap.size w W1 := by rw [hW1]; exact (by repeat (first | exact Below.refl _ _ | (with_reducible assumption) | apply gL | apply gA | apply gD | apply gN | (refine gS ?_ (by first | (simp; done) | (simp; omega) | omega))))
          have hwk1 : WkAt W1 g h := by rw [hW1]; exact hwk.below (gA (Below.refl _ _))
          have kp : W1.cell? ⟨p, 0, none⟩ = some (.pointer (some ⟨g, 0, none⟩)) := by rw [hW1, hp]; simp [go_sem]
          have ka : W1.cell? ⟨w.heap.size + 1, 0, none⟩ = some (.int .i64 a') := by rw [hW1]; simp [go_sem]
          have kb : W1.cell? ⟨w.heap.size + 1 + 1, 0, none⟩ = some (.int .i64 b') := by rw [hW1]; simp [go_sem]
          rw [← hW1, ← hp]
          clear hW1 hp hwk
          have lp := World.block_lt_of_cell? W1 _ kp
          have la := World.block_lt_of_cell? W1 _ ka
          have lb := World.block_lt_of_cell? W1 _ kb
          simp only at lp la lb
          refine (verdict_clash g h _ _ _ (fun e => h.clashB e a' b') W1 hwk1 HF (Lib.hid (fun x e' _ _ _ _ hm he hbx => clashd_calls g h e' (Lib.hid he) (Lib.hid (truth_ok HF.out hm)) a' b' hla hlb x (hwk1.below hbx) HF p (w.heap.size + 1) (w.heap.size + 1 + 1)
            ((hbx.cell (p := ⟨p, 0, none⟩) lp).trans kp) ((hbx.cell (p := ⟨w.heap.size + 1, 0, none⟩) la).trans ka) ((hbx.cell (p := ⟨w.heap.size + 1 + 1, 0, none⟩) lb).trans kb)))).mono ?_
          (rintro e w' hr; first | ((with_reducible replace hr := Ret.up hr); obtain ⟨rfl, z, rfl⟩ := hr) | (obtain ⟨rfl, z, rfl⟩ := hr))
          go_wp2
          go_ret2
          exact ret_mk (by rw [HL.out, hD.out, HA.out]; rfl) (hb1.trans (below_mono_of hb1 (by repeat (first | exact Below.refl _ _ | (with_reducible assumption) | apply gL | apply gA | apply gD | apply gN | (refine gS ?_ (by first | (simp; done) | (simp; omega) | omega))))))
        · have hb : (h.askE 0 != 0) = true := by simpa using ha
          have HE := Lib.hid ha
          have HL := Lib.hid (show h.clashV a b = 0 by rw [Hs.clashV, hD.out, if_neg ha])
          clear ha hab
          go_enter Try.func35, Try.ntmps35
          go_wp2_with (first
            | (go_at_call 90; refine (ticket_calls _ h _ _ ?hh hl3).mono ?_; (case hh => exact H0.below (by repeat (first | exact Below.refl _ _ | (with_reducible assumption) | apply gL | apply gA | apply gD | apply gN | (refine gS ?_ (by first | (simp; done) | (simp; omega) | omega))))); (first | rw [h1] | rw [h2]); (rintro e w' hr; first | ((with_reducible replace hr := Ret.up hr); obtain ⟨rfl, z, rfl⟩ := hr) | (obtain ⟨rfl, z, rfl⟩ := hr)))
            | (go_at_call 79; refine (asked_bad _ h 0 _ ?hh HE.out).mono ?_; (case hh => exact H0.below (by repeat (first | exact Below.refl _ _ | (with_reducible assumption) | apply gL | apply gA | apply gD | apply gN | (refine gS ?_ (by first | (simp; done) | (simp; omega) | omega))))); (rintro e w' hr; first | ((with_reducible replace hr := Ret.up hr); obtain ⟨rfl, z, rfl⟩ := hr) | (obtain ⟨rfl, z, rfl⟩ := hr))))
          go_ret2
          exact ret_mk (by rw [HL.out, hD.out]; rfl) (by repeat (first | exact Below.refl _ _ | (with_reducible assumption) | apply gL | apply gA | apply gD | apply gN | (refine gS ?_ (by first | (simp; done) | (simp; omega) | omega))))
    · have hD := Lib.hid (show h.clashE a b = h.askE 2 by rw [Hs.clashE, Hs.clashDue, if_neg (fun hh => h2 hh.2)])
      have h2 : h.ticketB b = false := by simpa using h2
      have hE : h.askE 2 ≠ 0 := askE_due (by decide)
      have hb : (h.askE 2 != 0) = true := by simpa using hE
      have HE := Lib.hid hE
      have HL := Lib.hid (show h.clashV a b = 0 by rw [Hs.clashV, hD.out, if_neg hE])
      clear hE
      go_enter Try.func35, Try.ntmps35
      go_wp2_with (first
        | (go_at_call 90; refine (ticket_calls _ h _ _ ?hh hl3).mono ?_; (case hh => exact H0.below (by repeat (first | exact Below.refl _ _ | (with_reducible assumption) | apply gL | apply gA | apply gD | apply gN | (refine gS ?_ (by first | (simp; done) | (simp; omega) | omega))))); (first | rw [h1] | rw [h2]); (rintro e w' hr; first | ((with_reducible replace hr := Ret.up hr); obtain ⟨rfl, z, rfl⟩ := hr) | (obtain ⟨rfl, z, rfl⟩ := hr)))
        | (go_at_call 79; refine (asked_bad _ h 2 _ ?hh HE.out).mono ?_; (case hh => exact H0.below (by repeat (first | exact Below.refl _ _ | (with_reducible assumption) | apply gL | apply gA | apply gD | apply gN | (refine gS ?_ (by first | (simp; done) | (simp; omega) | omega))))); (rintro e w' hr; first | ((with_reducible replace hr := Ret.up hr); obtain ⟨rfl, z, rfl⟩ := hr) | (obtain ⟨rfl, z, rfl⟩ := hr))))
      go_ret2
      exact ret_mk (by rw [HL.out, hD.out]; rfl) (by repeat (first | exact Below.refl _ _ | (with_reducible assumption) | apply gL | apply gA | apply gD | apply gN | (refine gS ?_ (by first | (simp; done) | (simp; omega) | omega))))
  · have hD := Lib.hid (show h.clashE a b = h.askE 2 by rw [Hs.clashE, Hs.clashDue, if_neg (fun hh => h1 hh.1)])
    have h1 : h.ticketB a = false := by simpa using h1
    have hE : h.askE 2 ≠ 0 := askE_due (by decide)
    have hb : (h.askE 2 != 0) = true := by simpa using hE
    have HE := Lib.hid hE
    have HL := Lib.hid (show h.clashV a b = 0 by rw [Hs.clashV, hD.out, if_neg hE])
    clear hE
    go_enter Try.func35, Try.ntmps35
    go_wp2_with (first
      | (go_at_call 90; refine (ticket_calls _ h a _ ?hh hl3).mono ?_; (case hh => exact H0.below (by repeat (first | exact Below.refl _ _ | (with_reducible assumption) | apply gL | apply gA | apply gD | apply gN | (refine gS ?_ (by first | (simp; done) | (simp; omega) | omega))))); rw [h1]; (rintro e w' hr; first | ((with_reducible replace hr := Ret.up hr); obtain ⟨rfl, z, rfl⟩ := hr) | (obtain ⟨rfl, z, rfl⟩ := hr)))
      | (go_at_call 79; refine (asked_bad _ h 2 _ ?hh HE.out).mono ?_; (case hh => exact H0.below (by repeat (first | exact Below.refl _ _ | (with_reducible assumption) | apply gL | apply gA | apply gD | apply gN | (refine gS ?_ (by first | (simp; done) | (simp; omega) | omega))))); (rintro e w' hr; first | ((with_reducible replace hr := Ret.up hr); obtain ⟨rfl, z, rfl⟩ := hr) | (obtain ⟨rfl, z, rfl⟩ := hr))))
    go_ret2
    exact ret_mk (by rw [HL.out, hD.out]; rfl) (by repeat (first | exact Below.refl _ _ | (with_reducible assumption) | apply gL | apply gA | apply gD | apply gN | (refine gS ?_ (by first | (simp; done) | (simp; omega) | omega))))
end Go.Proofs.Ytcngnfnljkkjgaa
