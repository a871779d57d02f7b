/-
TicketLong: the walk.
-/
import Derived.Test.YtcngnfnljkkjgaaCmO
namespace Go.Proofs.Ytcngnfnljkkjgaa
open Go.RowKit
attribute [local go_sem] cell_later frozen_later lt_later le_later

theorem thin_parts {h : Hs} (ht : h.thinB = true) : h.clocks.length ≤ 1000 ∧ h.tickets.length ≤ 1000 ∧ h.clips.length ≤ 1000 := by
  obtain ⟨h1, h2, h3⟩ := thin_iff.1 ht
  exact ⟨by omega, by omega, by omega⟩

set_option maxRecDepth 100000 in
set_option maxHeartbeats 4000000 in
theorem longs_calls (v : Value) (h : Hs) (w : World) (H : HsAt w v h) :
    Calls Try.prog 4 #[v] w (Ret (.bool true) w) := by
  have H0 := H
  obtain ⟨A2, c2, A3, c3, A4, c4, rfl, H2, H3, H4⟩ := H
  obtain ⟨W1, hW1⟩ : ∃ W1, W1 = w.alloc (.cells #[.int .i64 h.hour, .int .i64 h.grace, .slice A2 h.clocks.length c2, .slice A3 h.tickets.length c3, .slice A4 h.clips.length c4] 26) := ⟨_, rfl⟩
  have hb1 : Below w.heap.size w W1 := by rw [hW1]; exact gA (Below.refl _ _)
  have hB : BlkAt W1 w.heap.size 26 [.int .i64 h.hour, .int .i64 h.grace, .slice A2 h.clocks.length c2, .slice A3 h.tickets.length c3, .slice A4 h.clips.length c4] := by rw [hW1]; exact BlkAt.new _ _ _
  have H1 := H0.below hb1
  have q0 := hB.cell 0
  have q1 := hB.cell 1
  have q2 := hB.cell 2
  have q3 := hB.cell 3
  have q4 := hB.cell 4
  simp only [List.getElem?_cons_zero, List.getElem?_cons_succ] at q0 q1 q2 q3 q4
  have hBl := hB.lt
  cases hr : h.thinB with
  | false =>
    go_enter Try.func4, Try.ntmps4
    go_wp2_with (fail)
    rw [← hW1]
    clear hW1
    refine (thin_calls _ h _ H1).mono ?_
    (rintro e w' hr; first | ((with_reducible replace hr := Ret.up hr); obtain ⟨rfl, z, rfl⟩ := hr) | (obtain ⟨rfl, z, rfl⟩ := hr))
    go_wp2_with (fail)
    refine (awake_calls _).mono ?_
    (rintro e w' hr; first | ((with_reducible replace hr := Ret.up hr); obtain ⟨rfl, z, rfl⟩ := hr) | (obtain ⟨rfl, z, rfl⟩ := hr))
    go_wp2
    go_ret
    exact ret_mk rfl (later_below hb1 hb1.size)
  | true =>
    obtain ⟨hl2, hl3, hl4⟩ := thin_parts hr
    by_cases ha : h.askE 0 = 0
    · have hf := (askE_zero ha).1
      have hlen := long_len ha
      have HA := Lib.hid ha
      have HF := Lib.hid hf
      have ht6 : h.tickets.length ≤ 6 := (small_iff.1 (fault_zero hf).1).2.1
      have hS : h.sureL = h.truR := by rw [Hs.sureL, if_pos ha]
      have hpv : h.paidV = verdictR h.truR h.paidB := by rw [verdict_R (mem_truR hf), Hs.paidV, if_pos ha]
      have HS := Lib.hid hS
      have HPV := Lib.hid hpv
      have HLEN := Lib.hid hlen
      clear ha hlen hf hS hpv
      go_enter Try.func4, Try.ntmps4
      go_wp2_with (fail)
      rw [← hW1]
      clear hW1
      refine (thin_calls _ h _ H1).mono ?_
      (rintro e w' hr; first | ((with_reducible replace hr := Ret.up hr); obtain ⟨rfl, z, rfl⟩ := hr) | (obtain ⟨rfl, z, rfl⟩ := hr))
      go_wp2_with (fail)
      refine (house_calls _ h _ (H1.below (below_later _ _)) hl2 hl3 hl4).mono ?_
      rintro e w' hr
      replace hr := RetHs.up hr
      obtain ⟨v, rfl, ⟨z, rfl⟩, HH⟩ := hr
      go_wp2_with (fail)
      have CA := long_all_calls v h _ HH
      rw [HA.out] at CA
      refine CA.mono ?_
      clear CA HH
      (rintro e w' hr; replace hr := RetSlN.up hr; obtain ⟨A, c, rfl, ⟨z, rfl⟩, hsl⟩ := hr)
      rw [HLEN.out]
      have hsl2 := fun x => hsl.below (below_later (later W1 z) x)
      have HSL := Lib.hid hsl
      clear hsl hsl2
      go_wp2_with (fail)
      refine (house_calls _ h _ (H1.below (below_later _ _)) hl2 hl3 hl4).mono ?_
      rintro e w' ⟨v2, rfl, ⟨z2, rfl⟩, HH⟩
      have hsl2 := HSL.out.below (below_later (later W1 z) z2)
      obtain ⟨W2, hW2, hb2⟩ : ∃ W2, W2 = later (later W1 z) z2 ∧ Below W1.heap.size W1 W2 := ⟨_, rfl, Below.trans (below_later W1 z) ((below_later _ _).mono (size_later W1 z))⟩
      rw [← hW2] at HH hsl2 ⊢
      clear hW2 HSL
      have HSL := Lib.hid hsl2
      clear hsl2
      go_wp2_with (fail)
      have CA := paid_all_calls v2 h _ HH
      rw [HA.out, HPV.out] at CA
      refine CA.mono ?_
      clear CA HH
      (rintro e w' hr; first | ((with_reducible replace hr := Ret.up hr); obtain ⟨rfl, z, rfl⟩ := hr) | (obtain ⟨rfl, z, rfl⟩ := hr))
      have r0 := (hb2.cell (p := ⟨w.heap.size, 0, none⟩) hBl).trans q0
      have r1 := (hb2.cell (p := ⟨w.heap.size, 1, none⟩) hBl).trans q1
      have r2 := (hb2.cell (p := ⟨w.heap.size, 2, none⟩) hBl).trans q2
      have r3 := (hb2.cell (p := ⟨w.heap.size, 3, none⟩) hBl).trans q3
      have r4 := (hb2.cell (p := ⟨w.heap.size, 4, none⟩) hBl).trans q4
      have hBl2 := Nat.lt_of_lt_of_le hBl hb2.size
      go_wp2_with (fail)
      have CS := sure_calls _ h (later W2 z) (H1.below (hb2.trans ((below_later W2 z).mono hb2.size))) hl4
      rw [HA.out, HS.out] at CS
      refine CS.mono ?_
      clear CS
      (rintro e w' hr; replace hr := RetSure.up hr; obtain ⟨B, d, rfl, ⟨z9, rfl⟩, hls⟩ := hr)
      have hsl3 := HSL.out.below (below_later W2 z9)
      obtain ⟨W3, hW3, hb3⟩ : ∃ W3, W3 = later W2 z9 ∧ Below W1.heap.size W1 W3 := ⟨_, rfl, hb2.trans ((below_later W2 z9).mono hb2.size)⟩
      rw [← hW3] at hls hsl3 ⊢
      clear hW3 HSL r0 r1 r2 r3 r4
      have HLS := Lib.hid hls
      have HSL := Lib.hid hsl3
      clear hls hsl3
      have r0 := (hb3.cell (p := ⟨w.heap.size, 0, none⟩) hBl).trans q0
      have r1 := (hb3.cell (p := ⟨w.heap.size, 1, none⟩) hBl).trans q1
      have r2 := (hb3.cell (p := ⟨w.heap.size, 2, none⟩) hBl).trans q2
      have r3 := (hb3.cell (p := ⟨w.heap.size, 3, none⟩) hBl).trans q3
      have r4 := (hb3.cell (p := ⟨w.heap.size, 4, none⟩) hBl).trans q4
      have hBl3 := Nat.lt_of_lt_of_le hBl hb3.size
      go_wp2_with (fail)
      refine (refpaids_calls _ h B d h.truR W3 (H1.below hb3) HLS.out (truR_errs HF.out) HF.out).mono ?_
      (rintro e w' hr; first | ((with_reducible replace hr := Ret.up hr); obtain ⟨rfl, z, rfl⟩ := hr) | (obtain ⟨rfl, z, rfl⟩ := hr))
      go_wp2
      go_loopw [9] (fun i wr => ∃ k : Nat, k ≤ h.tickets.length ∧ i = .int .i64 k ∧ Below W3.heap.size W3 wr) (fun i _ => h.tickets.length - (intOf i).toNat)
      case atStart => exact ⟨0, Nat.zero_le _, rfl, below_later _ _⟩
      case round =>
        obtain ⟨k, hk, rfl, hb⟩ := hrel
        have hbw : Below W1.heap.size W1 wr := hb3.trans (hb.mono hb3.size)
        by_cases hlt : k < h.tickets.length
        · have hlt1 : (k : Int) < (h.tickets.length : Int) := by omega
          have hk0 : (0 : Int) ≤ (k : Int) := Int.natCast_nonneg _
          obtain ⟨bb, off, y, rfl, hbl, hy, s0⟩ := (HSL.out.below hb).atI (i := k) (by rw [HLEN.out]; exact hlt)
          have hyv : y = verdictR h.truR (fun e => h.longB e k) := by
            rw [long_get HA.out hlt] at hy
            rw [verdict_R (mem_truR HF.out)]
            exact (Option.some.inj hy).symm
          have C0 := Lib.hid (fun x => reflongs_calls _ h B d h.truR k (later wr x) (H1.below (hbw.trans ((below_later wr x).mono hbw.size))) (HLS.out.below (hb.trans ((below_later wr x).mono hb.size))) (truR_errs HF.out) HF.out hlt)
          rw [← hyv] at C0
          have p0 := (hb.cell (p := ⟨w.heap.size, 0, none⟩) hBl3).trans r0
          have p1 := (hb.cell (p := ⟨w.heap.size, 1, none⟩) hBl3).trans r1
          have p2 := (hb.cell (p := ⟨w.heap.size, 2, none⟩) hBl3).trans r2
          have p3 := (hb.cell (p := ⟨w.heap.size, 3, none⟩) hBl3).trans r3
          have p4 := (hb.cell (p := ⟨w.heap.size, 4, none⟩) hBl3).trans r4
          have hBr := Nat.lt_of_lt_of_le hBl3 hb.size
          clear hy hyv
          go_wp2
          refine region_later (by kernel_rfl) (by kernel_rfl) ?_
          repeat (go_big_quiet_step (first | with_reducible exact quiet_ret (C0.out _)))
          refine wpQuiet_nil ?_
          rintro W' ⟨u, rfl⟩
          go_wp2
          go_roundw
          case rel => exact ⟨k + 1, by omega, by go_num, later_below hb hb.size⟩
          case measure => simp [intOf]; omega
        · obtain rfl : k = h.tickets.length := by omega
          go_wp2_with (fail)
          refine (awake_calls _).mono ?_
          (rintro e w' hr; first | ((with_reducible replace hr := Ret.up hr); obtain ⟨rfl, z, rfl⟩ := hr) | (obtain ⟨rfl, z, rfl⟩ := hr))
          go_wp2
          go_ret
          exact ret_mk rfl (hb1.trans (Below.mono (later_below hbw hbw.size) hb1.size))
    · have hL : h.longL = [] := by rw [Hs.longL, if_neg ha]
      have hP : h.paidV = 0 := by rw [Hs.paidV, if_neg ha]
      have hS : h.sureL = [] := by rw [Hs.sureL, if_neg ha]
      obtain ⟨X, hX⟩ : ∃ X, X = h.askE 0 := ⟨_, rfl⟩
      have hX1 : (X != 0) = true := by rw [hX]; simpa using ha
      have HX := Lib.hid hX
      have HLL := Lib.hid hL
      have HP := Lib.hid hP
      have HS := Lib.hid hS
      clear ha hX hL hP hS
      go_enter Try.func4, Try.ntmps4
      go_wp2_with (fail)
      rw [← hW1]
      clear hW1
      refine (thin_calls _ h _ H1).mono ?_
      (rintro e w' hr; first | ((with_reducible replace hr := Ret.up hr); obtain ⟨rfl, z, rfl⟩ := hr) | (obtain ⟨rfl, z, rfl⟩ := hr))
      go_wp2_with (fail)
      refine (house_calls _ h _ (H1.below (below_later _ _)) hl2 hl3 hl4).mono ?_
      rintro e w' hr
      replace hr := RetHs.up hr
      obtain ⟨v, rfl, ⟨z, rfl⟩, HH⟩ := hr
      go_wp2_with (fail)
      have CA := long_all_calls v h _ HH
      rw [HLL.out, ← HX.out] at CA
      refine CA.mono ?_
      clear CA HH
      (rintro e w' hr; replace hr := RetSlN.up hr; obtain ⟨A, c, rfl, ⟨z, rfl⟩, -⟩ := hr)
      simp only [List.length_nil]
      go_wp2_with (fail)
      refine (house_calls _ h _ (H1.below (below_later _ _)) hl2 hl3 hl4).mono ?_
      rintro e w' hr
      replace hr := RetHs.up hr
      obtain ⟨v, rfl, ⟨z, rfl⟩, HH⟩ := hr
      go_wp2_with (fail)
      have CA := paid_all_calls v h _ HH
      rw [HP.out, ← HX.out] at CA
      refine CA.mono ?_
      clear CA HH
      (rintro e w' hr; first | ((with_reducible replace hr := Ret.up hr); obtain ⟨rfl, z, rfl⟩ := hr) | (obtain ⟨rfl, z, rfl⟩ := hr))
      go_wp2_with (fail)
      have CS := sure_calls _ h (later W1 z) (H1.below (below_later W1 z)) hl4
      rw [← HX.out, HS.out] at CS
      refine CS.mono ?_
      clear CS
      (rintro e w' hr; replace hr := RetSure.up hr; obtain ⟨B, d, rfl, ⟨z, rfl⟩, -⟩ := hr)
      simp only [List.length_nil]
      go_wp2_with (fail)
      refine (awake_calls _).mono ?_
      (rintro e w' hr; first | ((with_reducible replace hr := Ret.up hr); obtain ⟨rfl, z, rfl⟩ := hr) | (obtain ⟨rfl, z, rfl⟩ := hr))
      go_wp2
      go_ret
      exact ret_mk rfl (later_below hb1 hb1.size)
end Go.Proofs.Ytcngnfnljkkjgaa
