/-
What a house at work answers of one truth: an error; the hours of a ticket, and whether it stayed too long.
-/
import Derived.Test.YtcngnfnljkkjgaaTkAsk
namespace Go.Proofs.Ytcngnfnljkkjgaa
open Go.RowKit
attribute [local go_sem] cell_later frozen_later lt_later le_later

theorem WkAt.below {w w' : World} {g : Nat} {h : Hs} (H : WkAt w g h) (hb : Below w.heap.size w w') : WkAt w' g h := by
  obtain ⟨A2, c2, A3, c3, A4, c4, A5, c5, r, l, h2, h3, h4, h5, h6, h7, h8⟩ := H
  exact ⟨A2, c2, A3, c3, A4, c4, A5, c5, r, l, h2.below hb, h3.below hb, h4.below hb, h5.below hb, (hb.block r (World.block_lt_of_map h6)).trans h6, h7, h8.of_below hb h8.lt⟩
theorem WkAt.later {w x : World} {g : Nat} {h : Hs} (H : WkAt w g h) : WkAt (later w x) g h := H.below (below_later w x)
theorem WkAt.lt {w : World} {g : Nat} {h : Hs} (H : WkAt w g h) : g < w.heap.size := by
  obtain ⟨A2, c2, A3, c3, A4, c4, A5, c5, r, l, h2, h3, h4, h5, h6, h7, h8⟩ := H
  exact h8.lt

def Hs.hoursB (h : Hs) (e : List Int) (t : Int) : Int :=
  match h.ofs t with
  | c0 :: c1 :: _ => (max 0 (tru e c1 - tru e c0 - h.grace) + h.hour - 1) / h.hour
  | _ => 0
theorem hoursB_none {h : Hs} {e : List Int} {t : Int} (hl : (h.ofs t).length < 2) : h.hoursB e t = 0 := by
  unfold Hs.hoursB
  match hm : h.ofs t with
  | [] => rfl
  | [_] => rfl
  | _ :: _ :: _ => rw [hm] at hl; simp at hl; omega
theorem hoursB_some {h : Hs} {e : List Int} {t : Int} {c0 c1 : Cp} (h0 : (h.ofs t)[0]? = some c0) (h1 : (h.ofs t)[1]? = some c1) : h.hoursB e t = (max 0 (tru e c1 - tru e c0 - h.grace) + h.hour - 1) / h.hour := by
  unfold Hs.hoursB
  match hm : h.ofs t with
  | [] => rw [hm] at h0; simp at h0
  | [_] => rw [hm] at h1; simp at h1
  | _ :: _ :: _ => rw [hm] at h0 h1; simp at h0 h1; rw [h0, h1]

theorem ofs_mem {h : Hs} {t : Int} {c : Cp} {i : Nat} (hc : (h.ofs t)[i]? = some c) : c ∈ h.clips := (List.mem_filter.1 (List.mem_of_getElem? hc)).1
theorem fault_hour {h : Hs} (hf : h.fault = 0) : 1 ≤ h.hour ∧ h.hour ≤ 120 ∧ 0 ≤ h.grace ∧ h.grace ≤ 60 := by
  obtain ⟨_, h2, _, _⟩ := fault_zero hf
  obtain ⟨h3, h4, _, _, _⟩ := arg_iff.1 h2
  have := inB_iff.1 h3
  have := inB_iff.1 h4
  omega

theorem workoff_calls (v : Value) (e : List Int) {e0 e1 e2 e3 : Int} (H4 : Hid (e4 e = [.int .i64 e0, .int .i64 e1, .int .i64 e2, .int .i64 e3])) (i : Int) (w : World) (h0 : 0 ≤ i) (h1 : i < 4) :
    Calls Try.prog 80 #[v, .agg #[.int .i64 e0, .int .i64 e1, .int .i64 e2, .int .i64 e3], .int .i64 i] w (Ret (.int .i64 (err e i)) w) := by
  obtain ⟨k, rfl⟩ : ∃ k : Nat, i = k := ⟨i.toNat, by omega⟩
  have hk : k < 4 := by omega
  have hat := e4_at e hk
  rw [H4.out] at hat
  have HE := Lib.hid (show err e (k : Int) = e.getD k 0 from rfl)
  obtain ⟨o, ho⟩ : ∃ o, o = e.getD k 0 := ⟨_, rfl⟩
  rw [← ho] at hat HE
  have hcell : (w.alloc (.cells #[.int .i64 e0, .int .i64 e1, .int .i64 e2, .int .i64 e3] 119)).cell? ⟨w.heap.size, k, none⟩ = some (.int .i64 o) := by
    rw [World.cell?_alloc_new]
    simpa using hat
  clear hat ho
  go_enter Try.func80, Try.ntmps80
  go_wp2
  go_ret
  exact ret_mk (ret_int HE.out.symm) (by repeat (first | exact Below.refl _ _ | (with_reducible assumption) | apply gL | apply gA | apply gD | apply gN | (refine gS ?_ (by first | (simp; done) | (simp; omega) | omega))))

set_option maxHeartbeats 1000000 in
theorem hours_calls (g : Nat) (h : Hs) (e : List Int) {e0 e1 e2 e3 : Int} (H4 : Hid (e4 e = [.int .i64 e0, .int .i64 e1, .int .i64 e2, .int .i64 e3])) (he : Hid (ErrOk e)) (t : Int) (w : World) (H : WkAt w g h) (hf : Hid (h.fault = 0)) :
    Calls Try.prog 82 #[.pointer (some ⟨g, 0, none⟩), .agg #[.int .i64 e0, .int .i64 e1, .int .i64 e2, .int .i64 e3], .int .i64 t] w (Ret (.int .i64 (h.hoursB e t)) w) := by
  obtain ⟨A2, c2, A3, c3, A4, c4, A5, c5, r, l, h2, h3, h4, h5, h6, h7, h8⟩ := H
  have hgl := h8.lt
  have hhs : HsAt w (.agg #[.int .i64 h.hour, .int .i64 h.grace, .slice A2 h.clocks.length c2, .slice A3 h.tickets.length c3, .slice A4 h.clips.length c4]) h := ⟨A2, c2, A3, c3, A4, c4, rfl, h2, h3, h4⟩
  have k0 := h8.cell 0
  have k1 := h8.cell 1
  have k2 := h8.cell 2
  have k3 := h8.cell 3
  have k4 := h8.cell 4
  simp only [List.getElem?_cons_zero, List.getElem?_cons_succ] at k0 k1 k2 k3 k4
  have hl : h.clips.length ≤ 1000 := by have := (small_iff.1 (fault_zero hf.out).1).2.2; omega
  obtain ⟨g1, g2, g3, g4⟩ := fault_hour hf.out
  clear h2 h3 h4 h5 h6 h7 h8
  by_cases hlt : (h.ofs t).length < 2
  · have HR := Lib.hid (hoursB_none (e := e) hlt)
    have hlt' : ((h.ofs t).length : Int) < 2 := by omega
    go_enter Try.func82, Try.ntmps82
    go_wp2_with (first | (go_at_call 119; refine (of_calls _ h t _ ?hh hl).mono ?_; (case hh => exact hhs.below (by repeat (first | exact Below.refl _ _ | (with_reducible assumption) | apply gL | apply gA | apply gD | apply gN | (refine gS ?_ (by first | (simp; done) | (simp; omega) | omega))))); (rintro e w' hr; first | ((with_reducible replace hr := RetSl.up hr); obtain ⟨A, c, rfl, ⟨z, rfl⟩, hsl⟩ := hr) | (obtain ⟨A, c, rfl, ⟨z, rfl⟩, hsl⟩ := hr))))
    go_ret
    exact ret_mk (ret_int HR.out.symm) (by repeat (first | exact Below.refl _ _ | (with_reducible assumption) | apply gL | apply gA | apply gD | apply gN | (refine gS ?_ (by first | (simp; done) | (simp; omega) | omega))))
  · obtain ⟨x0, hx0⟩ : ∃ x, (h.ofs t)[0]? = some x := ⟨_, List.getElem?_eq_getElem (by omega)⟩
    obtain ⟨x1, hx1⟩ : ∃ x, (h.ofs t)[1]? = some x := ⟨_, List.getElem?_eq_getElem (by omega)⟩
    have hR := hoursB_some (e := e) hx0 hx1
    obtain ⟨m0, m1, m2, m3, m4, m5⟩ := fault_clips hf.out (ofs_mem hx0)
    obtain ⟨p0, p1, p2, p3, p4, p5⟩ := fault_clips hf.out (ofs_mem hx1)
    have hc4 : h.clocks.length ≤ 4 := (small_iff.1 (fault_zero hf.out).1).1
    have m3' : x0.ck < 4 := by omega
    have p3' : x1.ck < 4 := by omega
    have b0 := tru_bd he.out m4 m5
    have b1 := tru_bd he.out p4 p5
    have hlt' : ¬ ((h.ofs t).length : Int) < 2 := by omega
    obtain ⟨s, hs⟩ : ∃ s, s = max 0 (tru e x1 - tru e x0 - h.grace) := ⟨_, rfl⟩
    have hmx : (if h.grace < tru e x1 - tru e x0 then tru e x1 - tru e x0 - h.grace else 0) = s := by omega
    have hs0 : 0 ≤ s := by omega
    have hs1 : s ≤ 1500 := by omega
    rw [← hs] at hR
    have htd : (s + h.hour - 1).tdiv h.hour = h.hoursB e t := by rw [hR, Int.tdiv_eq_ediv_of_nonneg (by omega)]
    have hb0 : 0 ≤ h.hoursB e t := by rw [hR]; exact Int.ediv_nonneg (by omega) (by omega)
    have hb9 : h.hoursB e t ≤ 1620 := by rw [hR]; exact Int.le_trans (Int.ediv_le_self _ (by omega)) (by omega)
    have hhz : h.hour ≠ 0 := by omega
    clear hs hR
    have HX0 := Lib.hid hx0
    have HX1 := Lib.hid hx1
    have hl0 : (0 : Int) < ((h.ofs t).length : Int) := by omega
    have hl1 : (1 : Int) < ((h.ofs t).length : Int) := by omega
    clear hx0 hx1
    go_enter Try.func82, Try.ntmps82
    go_wp2_with (first | (go_at_call 119; refine (of_calls _ h t _ ?hh hl).mono ?_; (case hh => exact hhs.below (by repeat (first | exact Below.refl _ _ | (with_reducible assumption) | apply gL | apply gA | apply gD | apply gN | (refine gS ?_ (by first | (simp; done) | (simp; omega) | omega))))); (rintro e w' hr; first | ((with_reducible replace hr := RetSl.up hr); obtain ⟨A, c, rfl, ⟨z, rfl⟩, hsl⟩ := hr) | (obtain ⟨A, c, rfl, ⟨z, rfl⟩, hsl⟩ := hr))))
    obtain ⟨W1, hW1⟩ : ∃ W1, W1 = later (w.alloc (.cells #[.int .i64 e0, .int .i64 e1, .int .i64 e2, .int .i64 e3] 119)) z := ⟨_, rfl⟩
    have hb1 : Below w.heap.size w W1 := by rw [hW1]; exact (by repeat (first | exact Below.refl _ _ | (with_reducible assumption) | apply gL | apply gA | apply gD | apply gN | (refine gS ?_ (by first | (simp; done) | (simp; omega) | omega))))
    have q0 : W1.cell? ⟨w.heap.size, 0, none⟩ = some (.int .i64 e0) := by rw [hW1]; simp [go_sem]
    have q1 : W1.cell? ⟨w.heap.size, 1, none⟩ = some (.int .i64 e1) := by rw [hW1]; simp [go_sem]
    have q2 : W1.cell? ⟨w.heap.size, 2, none⟩ = some (.int .i64 e2) := by rw [hW1]; simp [go_sem]
    have q3 : W1.cell? ⟨w.heap.size, 3, none⟩ = some (.int .i64 e3) := by rw [hW1]; simp [go_sem]
    rw [← hW1] at hsl ⊢
    clear hW1
    have hq := World.block_lt_of_cell? W1 _ q0
    simp only at hq
    have y0 := (hb1.cell (p := ⟨g, 0, none⟩) hgl).trans k0
    have y1 := (hb1.cell (p := ⟨g, 1, none⟩) hgl).trans k1
    have hgl1 : g < W1.heap.size := by omega
    obtain ⟨b, off, x, rfl, hbl, hx, i0, i1, i2⟩ := hsl.atC (i := 0) (by omega)
    obtain rfl : x = x0 := by rw [HX0.out] at hx; exact (Option.some.inj hx).symm
    obtain ⟨b', off', x', e', -, hx', j0, j1, j2⟩ := hsl.atC (i := 1) (by omega)
    cases e'
    obtain rfl : x' = x1 := by rw [HX1.out] at hx'; exact (Option.some.inj hx').symm
    simp only [Nat.zero_mul, Nat.one_mul, Nat.add_zero] at i0 i1 i2 j0 j1 j2
    clear hx hx' hsl
    refine region_later (by kernel_rfl) (by kernel_rfl) ?_
    repeat (go_big_quiet_step (first | with_reducible exact quiet_ret (minute_calls4 e H4 he x' _ p2 p3' p4 p5) | with_reducible exact quiet_ret (minute_calls4 e H4 he x _ m2 m3' m4 m5)))
    refine wpQuiet_nil ?_
    rintro W' ⟨x, rfl⟩
    go_wp2
    refine region_later (by kernel_rfl) (by kernel_rfl) ?_
    repeat (go_big_quiet_step (fail))
    refine wpQuiet_nil ?_
    rintro W' ⟨x, rfl⟩
    go_wp2
    go_ret
    exact ret_mk rfl (hb1.trans (below_mono_of hb1 (by repeat (first | exact Below.refl _ _ | (with_reducible assumption) | apply gL | apply gA | apply gD | apply gN | (refine gS ?_ (by first | (simp; done) | (simp; omega) | omega))))))
end Go.Proofs.Ytcngnfnljkkjgaa
