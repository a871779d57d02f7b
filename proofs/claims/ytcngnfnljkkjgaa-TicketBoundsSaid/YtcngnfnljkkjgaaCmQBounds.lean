/-
TicketBounds: the walk.
-/
import Derived.Test.YtcngnfnljkkjgaaCmR
namespace Go.Proofs.Ytcngnfnljkkjgaa
open Go.RowKit
attribute [local go_sem] cell_later frozen_later lt_later le_later

theorem thin_parts {h : Hs} (ht : h.thinB = true) : h.clocks.length ≤ 1000 ∧ h.tickets.length ≤ 1000 ∧ h.clips.length ≤ 1000 := by
  obtain ⟨h1, h2, h3⟩ := thin_iff.1 ht
  exact ⟨by omega, by omega, by omega⟩
theorem clocks_len {h : Hs} (ha : h.askE 0 = 0) : h.clocksL.length = h.clocks.length := by simp [Hs.clocksL, ha]
theorem hours_len {h : Hs} (ha : h.askE 0 = 0) : h.hoursL.length = h.tickets.length := by simp [Hs.hoursL, ha]
theorem clocks_get {h : Hs} (ha : h.askE 0 = 0) {k : Nat} (hk : k < h.clocks.length) : h.clocksL[k]? = some (h.clockR k) := by simp [Hs.clocksL, ha, hk]
theorem hours_get {h : Hs} (ha : h.askE 0 = 0) {k : Nat} (hk : k < h.tickets.length) : h.hoursL[k]? = some (h.hourR k) := by simp [Hs.hoursL, ha, hk]
theorem hours_small {h : Hs} (hf : h.fault = 0) {e : List Int} (he : ErrOk e) (t : Int) : -1099511627776 ≤ h.hoursB e t ∧ h.hoursB e t ≤ 1099511627776 := by
  obtain ⟨g1, g2, g3, g4⟩ := fault_hour hf
  unfold Hs.hoursB
  split
  · next c0 c1 t' heq =>
    have m0 : c0 ∈ h.clips := (List.mem_filter.1 (show c0 ∈ h.ofs t by rw [heq]; simp)).1
    have m1 : c1 ∈ h.clips := (List.mem_filter.1 (show c1 ∈ h.ofs t by rw [heq]; simp)).1
    have f0 := fault_clips hf m0
    have f1 := fault_clips hf m1
    have b0 := err_bd he c0.ck
    have b1 := err_bd he c1.ck
    have hs : tru e c1 - tru e c0 - h.grace ≤ 1500 := by unfold tru; omega
    have h0 : 0 ≤ max 0 (tru e c1 - tru e c0 - h.grace) + h.hour - 1 := by omega
    have h1 := Int.ediv_nonneg h0 (show 0 ≤ h.hour by omega)
    have h2 := Int.ediv_le_self (b := h.hour) h0
    omega
  · omega
theorem clock_both {h : Hs} (ha : h.askE 0 = 0) (k : Nat) : loR h.truR (fun e => err e (k : Int)) = (h.clockR k).lo ∧ hiR h.truR (fun e => err e (k : Int)) = (h.clockR k).hi := by
  obtain ⟨hf, -, hne⟩ := askE_zero ha
  exact bounds_R (mem_truR hf) hne (fun e he => by have := err_bd (truth_ok hf he) (k : Int); omega)
theorem hour_both {h : Hs} (ha : h.askE 0 = 0) (k : Nat) : loR h.truR (fun e => h.hoursB e (k : Int)) = (h.hourR k).lo ∧ hiR h.truR (fun e => h.hoursB e (k : Int)) = (h.hourR k).hi := by
  obtain ⟨hf, -, hne⟩ := askE_zero ha
  exact bounds_R (mem_truR hf) hne (fun e he => hours_small hf (truth_ok hf he) _)

set_option maxRecDepth 100000 in
set_option maxHeartbeats 4000000 in
theorem bounds_calls (v : Value) (h : Hs) (w : World) (H : HsAt w v h) :
    Calls Try.prog 3 #[v] w (Ret (.bool true) w) := by
  have H0 := H
  obtain ⟨A2, c2, A3, c3, A4, c4, rfl, H2, H3, H4⟩ := H
  obtain ⟨W1, hW1⟩ : ∃ W1, W1 = w.alloc (.cells #[.int .i64 h.hour, .int .i64 h.grace, .slice A2 h.clocks.length c2, .slice A3 h.tickets.length c3, .slice A4 h.clips.length c4] 26) := ⟨_, rfl⟩
  have hb1 : Below w.heap.size w W1 := by rw [hW1]; exact gA (Below.refl _ _)
  have hB : BlkAt W1 w.heap.size 26 [.int .i64 h.hour, .int .i64 h.grace, .slice A2 h.clocks.length c2, .slice A3 h.tickets.length c3, .slice A4 h.clips.length c4] := by rw [hW1]; exact BlkAt.new _ _ _
  have H1 := H0.below hb1
  have q0 := hB.cell 0
  have q1 := hB.cell 1
  have q2 := hB.cell 2
  have q3 := hB.cell 3
  have q4 := hB.cell 4
  simp only [List.getElem?_cons_zero, List.getElem?_cons_succ] at q0 q1 q2 q3 q4
  have hBl := hB.lt
  cases hr : h.thinB with
  | false =>
    go_enter Try.func3, Try.ntmps3
    go_wp2_with (fail)
    rw [← hW1]
    clear hW1
    refine (thin_calls _ h _ H1).mono ?_
    (rintro e w' hr; first | ((with_reducible replace hr := Ret.up hr); obtain ⟨rfl, z, rfl⟩ := hr) | (obtain ⟨rfl, z, rfl⟩ := hr))
    go_wp2_with (fail)
    refine (awake_calls _).mono ?_
    (rintro e w' hr; first | ((with_reducible replace hr := Ret.up hr); obtain ⟨rfl, z, rfl⟩ := hr) | (obtain ⟨rfl, z, rfl⟩ := hr))
    go_wp2
    go_ret
    exact ret_mk rfl (later_below hb1 hb1.size)
  | true =>
    obtain ⟨hl2, hl3, hl4⟩ := thin_parts hr
    by_cases ha : h.askE 0 = 0
    · have hf := (askE_zero ha).1
      have HLC := Lib.hid (clocks_len ha)
      have HLH := Lib.hid (hours_len ha)
      have HA := Lib.hid ha
      have HF := Lib.hid hf
      have ht6 : h.tickets.length ≤ 6 := (small_iff.1 (fault_zero hf).1).2.1
      have hc4 : h.clocks.length ≤ 4 := (small_iff.1 (fault_zero hf).1).1
      have HS := Lib.hid (show h.sureL = h.truR by rw [Hs.sureL, if_pos ha])
      clear ha hf
      go_enter Try.func3, Try.ntmps3
      go_wp2_with (fail)
      rw [← hW1]
      clear hW1
      refine (thin_calls _ h _ H1).mono ?_
      (rintro e w' hr; first | ((with_reducible replace hr := Ret.up hr); obtain ⟨rfl, z, rfl⟩ := hr) | (obtain ⟨rfl, z, rfl⟩ := hr))
      go_wp2_with (fail)
      refine (house_calls _ h _ (H1.below (below_later _ _)) hl2 hl3 hl4).mono ?_
      rintro e w' hr
      replace hr := RetHs.up hr
      obtain ⟨v, rfl, ⟨z, rfl⟩, HH⟩ := hr
      go_wp2_with (fail)
      have CA := clocks_calls v h _ HH
      rw [HA.out] at CA
      refine CA.mono ?_
      clear CA HH
      (rintro e w' hr; replace hr := RetSlN.up hr; obtain ⟨A, c, rfl, ⟨z, rfl⟩, hsl⟩ := hr)
      rw [HLC.out]
      have HSL := Lib.hid hsl
      clear hsl
      go_wp2_with (fail)
      refine (house_calls _ h _ (H1.below (below_later _ _)) hl2 hl3 hl4).mono ?_
      rintro e w' ⟨v2, rfl, ⟨z2, rfl⟩, HH⟩
      have hsl2 := HSL.out.below (below_later (later W1 z) z2)
      obtain ⟨W2, hW2, hb2⟩ : ∃ W2, W2 = later (later W1 z) z2 ∧ Below W1.heap.size W1 W2 := ⟨_, rfl, Below.trans (below_later W1 z) ((below_later _ _).mono (size_later W1 z))⟩
      rw [← hW2] at HH hsl2 ⊢
      clear hW2 HSL
      have HSL := Lib.hid hsl2
      clear hsl2
      go_wp2_with (fail)
      have CA := hours_all_calls v2 h _ HH
      rw [HA.out] at CA
      refine CA.mono ?_
      clear CA HH
      (rintro e w' hr; obtain ⟨E, ce, rfl, ⟨z, rfl⟩, hsm⟩ := hr)
      rw [HLH.out]
      have HSM := Lib.hid hsm
      clear hsm
      have r0 := (hb2.cell (p := ⟨w.heap.size, 0, none⟩) hBl).trans q0
      have r1 := (hb2.cell (p := ⟨w.heap.size, 1, none⟩) hBl).trans q1
      have r2 := (hb2.cell (p := ⟨w.heap.size, 2, none⟩) hBl).trans q2
      have r3 := (hb2.cell (p := ⟨w.heap.size, 3, none⟩) hBl).trans q3
      have r4 := (hb2.cell (p := ⟨w.heap.size, 4, none⟩) hBl).trans q4
      have hBl2 := Nat.lt_of_lt_of_le hBl hb2.size
      go_wp2_with (fail)
      have CS := sure_calls _ h (later W2 z) (H1.below (hb2.trans ((below_later W2 z).mono hb2.size))) hl4
      rw [HA.out, HS.out] at CS
      refine CS.mono ?_
      clear CS
      (rintro e w' hr; obtain ⟨B, d, rfl, ⟨z9, rfl⟩, hls⟩ := hr)
      have hsl3 := (HSL.out.below (below_later W2 z)).below (below_later (later W2 z) z9)
      have hsm3 := HSM.out.below (below_later (later W2 z) z9)
      obtain ⟨W3, hW3, hb3⟩ : ∃ W3, W3 = later (later W2 z) z9 ∧ Below W1.heap.size W1 W3 := ⟨_, rfl, hb2.trans ((Below.trans (below_later W2 z) ((below_later _ _).mono (size_later W2 z))).mono hb2.size)⟩
      rw [← hW3] at hls hsl3 hsm3 ⊢
      clear hW3 HSL HSM r0 r1 r2 r3 r4
      have HLS := Lib.hid hls
      have HSL := Lib.hid hsl3
      have HSM := Lib.hid hsm3
      clear hls hsl3 hsm3
      have r0 := (hb3.cell (p := ⟨w.heap.size, 0, none⟩) hBl).trans q0
      have r1 := (hb3.cell (p := ⟨w.heap.size, 1, none⟩) hBl).trans q1
      have r2 := (hb3.cell (p := ⟨w.heap.size, 2, none⟩) hBl).trans q2
      have r3 := (hb3.cell (p := ⟨w.heap.size, 3, none⟩) hBl).trans q3
      have r4 := (hb3.cell (p := ⟨w.heap.size, 4, none⟩) hBl).trans q4
      have hBl3 := Nat.lt_of_lt_of_le hBl hb3.size
      go_wp2
      go_loopw [9] (fun i wr => ∃ k : Nat, k ≤ h.clocks.length ∧ i = .int .i64 k ∧ Below W3.heap.size W3 wr) (fun i _ => h.clocks.length - (intOf i).toNat)
      case atStart => exact ⟨0, Nat.zero_le _, rfl, Below.refl _ _⟩
      case round =>
        obtain ⟨k, hk, rfl, hb⟩ := hrel
        have hbw : Below W1.heap.size W1 wr := hb3.trans (hb.mono hb3.size)
        by_cases hlt : k < h.clocks.length
        · have hlt1 : (k : Int) < (h.clocks.length : Int) := by omega
          have hk0 : (0 : Int) ≤ (k : Int) := Int.natCast_nonneg _
          obtain ⟨bb, off, y, rfl, hbl, hy, s0, s1⟩ := (HSL.out.below hb).atR (i := k) (by rw [HLC.out]; exact hlt)
          have hyv : y = h.clockR k := by
            rw [clocks_get HA.out hlt] at hy
            exact (Option.some.inj hy).symm
          obtain ⟨e1, e2⟩ := clock_both HA.out k
          rw [← hyv] at e1 e2
          have C0 := Lib.hid (fun x => refclock_calls B d h.truR k h.clocks.length (later wr x) (HLS.out.below (hb.trans ((below_later wr x).mono hb.size))) (truR_errs HF.out) hlt)
          rw [e1, e2] at C0
          have C1 := Lib.hid (fun x => to_calls y.lo y.hi (later wr x))
          clear hy hyv e1 e2
          go_wp2
          refine region_later (by kernel_rfl) (by kernel_rfl) ?_
          repeat (go_big_quiet_step (first | with_reducible exact quiet_ret (C0.out _) | with_reducible exact quiet_ret (C1.out _)))
          refine wpQuiet_nil ?_
          rintro W' ⟨u, rfl⟩
          go_wp2
          go_roundw
          case rel => exact ⟨k + 1, by omega, by go_num, later_below hb hb.size⟩
          case measure => simp [intOf]; omega
        · obtain rfl : k = h.clocks.length := by omega
          go_wp2
          go_loopw [10] (fun i wr => ∃ k : Nat, k ≤ h.tickets.length ∧ i = .int .i64 k ∧ Below W3.heap.size W3 wr) (fun i _ => h.tickets.length - (intOf i).toNat)
          case atStart => exact ⟨0, Nat.zero_le _, rfl, hb⟩
          case round =>
            obtain ⟨k, hk, rfl, hb⟩ := hrel
            have hbw : Below W1.heap.size W1 wr := hb3.trans (hb.mono hb3.size)
            by_cases hlt : k < h.tickets.length
            · have hlt1 : (k : Int) < (h.tickets.length : Int) := by omega
              have hk0 : (0 : Int) ≤ (k : Int) := Int.natCast_nonneg _
              obtain ⟨bb, off, y, rfl, hbl, hy, s0, s1⟩ := (HSM.out.below hb).atR (i := k) (by rw [HLH.out]; exact hlt)
              have hyv : y = h.hourR k := by
                rw [hours_get HA.out hlt] at hy
                exact (Option.some.inj hy).symm
              obtain ⟨e1, e2⟩ := hour_both HA.out k
              rw [← hyv] at e1 e2
              have C0 := Lib.hid (fun x => refhoursof_calls _ h B d h.truR k (later wr x) (H1.below (hbw.trans ((below_later wr x).mono hbw.size))) (HLS.out.below (hb.trans ((below_later wr x).mono hb.size))) (truR_errs HF.out) HF.out hlt)
              rw [e1, e2] at C0
              have C1 := Lib.hid (fun x => to_calls y.lo y.hi (later wr x))
              have p0 := (hb.cell (p := ⟨w.heap.size, 0, none⟩) hBl3).trans r0
              have p1 := (hb.cell (p := ⟨w.heap.size, 1, none⟩) hBl3).trans r1
              have p2 := (hb.cell (p := ⟨w.heap.size, 2, none⟩) hBl3).trans r2
              have p3 := (hb.cell (p := ⟨w.heap.size, 3, none⟩) hBl3).trans r3
              have p4 := (hb.cell (p := ⟨w.heap.size, 4, none⟩) hBl3).trans r4
              have hBr := Nat.lt_of_lt_of_le hBl3 hb.size
              clear hy hyv e1 e2
              go_wp2
              refine region_later (by kernel_rfl) (by kernel_rfl) ?_
              repeat (go_big_quiet_step (first | with_reducible exact quiet_ret (C0.out _) | with_reducible exact quiet_ret (C1.out _)))
              refine wpQuiet_nil ?_
              rintro W' ⟨u, rfl⟩
              go_wp2
              go_roundw
              case rel => exact ⟨k + 1, by omega, by go_num, later_below hb hb.size⟩
              case measure => simp [intOf]; omega
            · obtain rfl : k = h.tickets.length := by omega
              go_wp2_with (fail)
              refine (awake_calls _).mono ?_
              (rintro e w' hr; first | ((with_reducible replace hr := Ret.up hr); obtain ⟨rfl, z, rfl⟩ := hr) | (obtain ⟨rfl, z, rfl⟩ := hr))
              go_wp2
              go_ret
              exact ret_mk rfl (hb1.trans (Below.mono (later_below hbw hbw.size) hb1.size))
    · have hL : h.clocksL = [] := by rw [Hs.clocksL, if_neg ha]
      have hP : h.hoursL = [] := by rw [Hs.hoursL, if_neg ha]
      have hS : h.sureL = [] := by rw [Hs.sureL, if_neg ha]
      obtain ⟨X, hX⟩ : ∃ X, X = h.askE 0 := ⟨_, rfl⟩
      have hX1 : (X != 0) = true := by rw [hX]; simpa using ha
      have HX := Lib.hid hX
      have HLL := Lib.hid hL
      have HP := Lib.hid hP
      have HS := Lib.hid hS
      clear ha hX hL hP hS
      go_enter Try.func3, Try.ntmps3
      go_wp2_with (fail)
      rw [← hW1]
      clear hW1
      refine (thin_calls _ h _ H1).mono ?_
      (rintro e w' hr; first | ((with_reducible replace hr := Ret.up hr); obtain ⟨rfl, z, rfl⟩ := hr) | (obtain ⟨rfl, z, rfl⟩ := hr))
      go_wp2_with (fail)
      refine (house_calls _ h _ (H1.below (below_later _ _)) hl2 hl3 hl4).mono ?_
      rintro e w' hr
      replace hr := RetHs.up hr
      obtain ⟨v, rfl, ⟨z, rfl⟩, HH⟩ := hr
      go_wp2_with (fail)
      have CA := clocks_calls v h _ HH
      rw [HLL.out, ← HX.out] at CA
      refine CA.mono ?_
      clear CA HH
      (rintro e w' hr; replace hr := RetSlN.up hr; obtain ⟨A, c, rfl, ⟨z, rfl⟩, -⟩ := hr)
      simp only [List.length_nil]
      go_wp2_with (fail)
      refine (house_calls _ h _ (H1.below (below_later _ _)) hl2 hl3 hl4).mono ?_
      rintro e w' hr
      replace hr := RetHs.up hr
      obtain ⟨v, rfl, ⟨z, rfl⟩, HH⟩ := hr
      go_wp2_with (fail)
      have CA := hours_all_calls v h _ HH
      rw [HP.out, ← HX.out] at CA
      refine CA.mono ?_
      clear CA HH
      (rintro e w' hr; replace hr := RetSlN.up hr; obtain ⟨E, ce, rfl, ⟨z, rfl⟩, -⟩ := hr)
      simp only [List.length_nil]
      go_wp2_with (fail)
      have CS := sure_calls _ h (later W1 z) (H1.below (below_later W1 z)) hl4
      rw [← HX.out, HS.out] at CS
      refine CS.mono ?_
      clear CS
      (rintro e w' hr; replace hr := RetSure.up hr; obtain ⟨B, d, rfl, ⟨z, rfl⟩, -⟩ := hr)
      simp only [List.length_nil]
      go_wp2_with (fail)
      refine (awake_calls _).mono ?_
      (rintro e w' hr; first | ((with_reducible replace hr := Ret.up hr); obtain ⟨rfl, z, rfl⟩ := hr) | (obtain ⟨rfl, z, rfl⟩ := hr))
      go_wp2
      go_ret
      exact ret_mk rfl (later_below hb1 hb1.size)
end Go.Proofs.Ytcngnfnljkkjgaa
