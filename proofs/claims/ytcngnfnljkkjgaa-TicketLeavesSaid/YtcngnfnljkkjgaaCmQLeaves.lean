/-
TicketLeaves: the walk.
-/
import Derived.Test.YtcngnfnljkkjgaaCmU
import Derived.Test.YtcngnfnljkkjgaaCmO
namespace Go.Proofs.Ytcngnfnljkkjgaa
open Go.RowKit
attribute [local go_sem] cell_later frozen_later lt_later le_later

theorem thin_partsV {h : Hs} (ht : h.thinB = true) : h.clocks.length ≤ 1000 ∧ h.tickets.length ≤ 1000 ∧ h.clips.length ≤ 1000 := by
  obtain ⟨h1, h2, h3⟩ := thin_iff.1 ht
  exact ⟨by omega, by omega, by omega⟩
theorem first_wants {h : Hs} (hf : h.fault = 0) : (∃ k : Nat, h.firstV = (k : Int) ∧ h.firstE = 0 ∧ h.firstI = (k : Int)) ∨ (h.firstV = 0 ∧ h.firstE = 7 ∧ h.firstI = -1) := by
  have hp := first_plain hf
  unfold Hs.firstV Hs.firstE Hs.firstI
  rw [hp]
  cases h.firstO with
  | some k => exact .inl ⟨k, by simp [hf], by simp [hf], rfl⟩
  | none => exact .inr ⟨by simp [hf], by simp [hf], rfl⟩

set_option maxRecDepth 100000 in
set_option maxHeartbeats 4000000 in
theorem leaves_calls (v : Value) (h : Hs) (w : World) (H : HsAt w v h) :
    Calls Try.prog 8 #[v] w (Ret (.bool true) w) := by
  have H0 := H
  obtain ⟨A2, c2, A3, c3, A4, c4, rfl, H2, H3, H4⟩ := H
  obtain ⟨W1, hW1⟩ : ∃ W1, W1 = w.alloc (.cells #[.int .i64 h.hour, .int .i64 h.grace, .slice A2 h.clocks.length c2, .slice A3 h.tickets.length c3, .slice A4 h.clips.length c4] 26) := ⟨_, rfl⟩
  have hb1 : Below w.heap.size w W1 := by rw [hW1]; exact gA (Below.refl _ _)
  have hB : BlkAt W1 w.heap.size 26 [.int .i64 h.hour, .int .i64 h.grace, .slice A2 h.clocks.length c2, .slice A3 h.tickets.length c3, .slice A4 h.clips.length c4] := by rw [hW1]; exact BlkAt.new _ _ _
  have H1 := H0.below hb1
  have q0 := hB.cell 0
  have q1 := hB.cell 1
  have q2 := hB.cell 2
  have q3 := hB.cell 3
  have q4 := hB.cell 4
  simp only [List.getElem?_cons_zero, List.getElem?_cons_succ] at q0 q1 q2 q3 q4
  have hBl := hB.lt
  cases hr : h.thinB with
  | false =>
    go_enter Try.func8, Try.ntmps8
    go_wp2_with (fail)
    rw [← hW1]
    clear hW1
    refine (thin_calls _ h _ H1).mono ?_
    (rintro e w' hr; first | ((with_reducible replace hr := Ret.up hr); obtain ⟨rfl, z, rfl⟩ := hr) | (obtain ⟨rfl, z, rfl⟩ := hr))
    go_wp2_with (fail)
    refine (awake_calls _).mono ?_
    (rintro e w' hr; first | ((with_reducible replace hr := Ret.up hr); obtain ⟨rfl, z, rfl⟩ := hr) | (obtain ⟨rfl, z, rfl⟩ := hr))
    go_wp2
    go_ret
    exact ret_mk rfl (later_below hb1 hb1.size)
  | true =>
    obtain ⟨hl2, hl3, hl4⟩ := thin_partsV hr
    have CF := fun x => law_fault_calls _ h (later W1 x) (H1.below (below_later W1 x)) hl4
    by_cases hf : h.fault = 0
    · have HLL := Lib.hid (leave_plain hf)
      have hw := first_wants hf
      have HF := Lib.hid hf
      rw [hf] at CF
      have CF := Lib.hid CF
      clear hf
      rcases hw with ⟨k, hV, hE, hI⟩ | ⟨hV, hE, hI⟩
      · have hk0 : (0 : Int) ≤ (k : Int) := Int.natCast_nonneg _
        have HV := Lib.hid hV
        have HE := Lib.hid hE
        have HI := Lib.hid hI
        clear hV hE hI
        go_enter Try.func8, Try.ntmps8
        go_wp2_with (fail)
        rw [← hW1]
        clear hW1
        refine (thin_calls _ h _ H1).mono ?_
        (rintro e w' hr; first | ((with_reducible replace hr := Ret.up hr); obtain ⟨rfl, z, rfl⟩ := hr) | (obtain ⟨rfl, z, rfl⟩ := hr))
        go_wp2_with (fail)
        refine (house_calls _ h _ (H1.below (below_later _ _)) hl2 hl3 hl4).mono ?_
        rintro e w' hr
        replace hr := RetHs.up hr
        obtain ⟨v, rfl, ⟨z, rfl⟩, HH⟩ := hr
        go_wp2_with (fail)
        have CA := first_calls v h _ HH
        rw [HE.out, HV.out] at CA
        refine CA.mono ?_
        clear CA HH
        (rintro e w' hr; first | ((with_reducible replace hr := Ret.up hr); obtain ⟨rfl, z, rfl⟩ := hr) | (obtain ⟨rfl, z, rfl⟩ := hr))
        go_wp2_with (fail)
        refine (house_calls _ h _ (H1.below (below_later _ _)) hl2 hl3 hl4).mono ?_
        rintro e w' hr
        replace hr := RetHs.up hr
        obtain ⟨v, rfl, ⟨z, rfl⟩, HH⟩ := hr
        go_wp2_with (fail)
        have CA := leave_calls v h _ HH
        rw [HF.out] at CA
        refine CA.mono ?_
        clear CA HH
        (rintro e w' hr; replace hr := RetSlN.up hr; obtain ⟨A, c, rfl, ⟨z, rfl⟩, hsl⟩ := hr)
        have HSL := Lib.hid hsl
        clear hsl
        go_wp2_with (fail)
        refine (CF.out z).mono ?_
        (rintro e w' ⟨rfl, z2, rfl⟩)
        obtain ⟨W3, hW3⟩ : ∃ W3, W3 = later (later W1 z) z2 := ⟨_, rfl⟩
        have hb3 : Below W1.heap.size W1 W3 := by rw [hW3]; exact later_below (below_later W1 z) (size_later W1 z)
        have hsl3 : SlA W3 1 gI A c h.leaveL := by rw [hW3]; exact HSL.out.below (below_later (later W1 z) z2)
        have HSL := Lib.hid hsl3
        rw [← hW3]
        clear hW3 hsl3
        have r0 := (hb3.cell (p := ⟨w.heap.size, 0, none⟩) hBl).trans q0
        have r1 := (hb3.cell (p := ⟨w.heap.size, 1, none⟩) hBl).trans q1
        have r2 := (hb3.cell (p := ⟨w.heap.size, 2, none⟩) hBl).trans q2
        have r3 := (hb3.cell (p := ⟨w.heap.size, 3, none⟩) hBl).trans q3
        have r4 := (hb3.cell (p := ⟨w.heap.size, 4, none⟩) hBl).trans q4
        have hBl3 := Nat.lt_of_lt_of_le hBl hb3.size
        clear q0 q1 q2 q3 q4
        go_wp2_with (fail)
        have CL := refleave_calls _ h W3 (H1.below hb3) HF.out
        rw [HLL.out] at CL
        refine CL.mono ?_
        clear CL
        (rintro e w' hr; obtain ⟨B, d, rfl, ⟨z, rfl⟩, hsb⟩ := hr)
        have CI := ints_calls A B c d h.leaveL h.leaveL (later W3 z) (HSL.out.below (below_later W3 z)) hsb
        rw [decide_eq_true rfl] at CI
        have CI := Lib.hid CI
        clear hsb
        go_wp2_with (fail)
        refine CI.out.mono ?_
        (rintro e w' hr; first | ((with_reducible replace hr := Ret.up hr); obtain ⟨rfl, z, rfl⟩ := hr) | (obtain ⟨rfl, z, rfl⟩ := hr))
        go_wp2_with (fail)
        have CR := reffirst_calls _ h (later W3 z) (H1.below (hb3.trans ((below_later W3 z).mono hb3.size))) HF.out
        rw [HI.out] at CR
        refine CR.mono ?_
        clear CR CI
        (rintro e w' hr; first | ((with_reducible replace hr := Ret.up hr); obtain ⟨rfl, z, rfl⟩ := hr) | (obtain ⟨rfl, z, rfl⟩ := hr))
        go_wp2_with (fail)
        refine (awake_calls _).mono ?_
        (rintro e w' hr; first | ((with_reducible replace hr := Ret.up hr); obtain ⟨rfl, z, rfl⟩ := hr) | (obtain ⟨rfl, z, rfl⟩ := hr))
        go_wp2
        go_ret
        exact ret_mk rfl (hb1.trans (Below.mono (later_below hb3 hb3.size) hb1.size))
      · have HV := Lib.hid hV
        have HE := Lib.hid hE
        have HI := Lib.hid hI
        clear hV hE hI
        go_enter Try.func8, Try.ntmps8
        go_wp2_with (fail)
        rw [← hW1]
        clear hW1
        refine (thin_calls _ h _ H1).mono ?_
        (rintro e w' hr; first | ((with_reducible replace hr := Ret.up hr); obtain ⟨rfl, z, rfl⟩ := hr) | (obtain ⟨rfl, z, rfl⟩ := hr))
        go_wp2_with (fail)
        refine (house_calls _ h _ (H1.below (below_later _ _)) hl2 hl3 hl4).mono ?_
        rintro e w' hr
        replace hr := RetHs.up hr
        obtain ⟨v, rfl, ⟨z, rfl⟩, HH⟩ := hr
        go_wp2_with (fail)
        have CA := first_calls v h _ HH
        rw [HE.out, HV.out] at CA
        refine CA.mono ?_
        clear CA HH
        (rintro e w' hr; first | ((with_reducible replace hr := Ret.up hr); obtain ⟨rfl, z, rfl⟩ := hr) | (obtain ⟨rfl, z, rfl⟩ := hr))
        go_wp2_with (fail)
        refine (house_calls _ h _ (H1.below (below_later _ _)) hl2 hl3 hl4).mono ?_
        rintro e w' hr
        replace hr := RetHs.up hr
        obtain ⟨v, rfl, ⟨z, rfl⟩, HH⟩ := hr
        go_wp2_with (fail)
        have CA := leave_calls v h _ HH
        rw [HF.out] at CA
        refine CA.mono ?_
        clear CA HH
        (rintro e w' hr; replace hr := RetSlN.up hr; obtain ⟨A, c, rfl, ⟨z, rfl⟩, hsl⟩ := hr)
        have HSL := Lib.hid hsl
        clear hsl
        go_wp2_with (fail)
        refine (CF.out z).mono ?_
        (rintro e w' ⟨rfl, z2, rfl⟩)
        obtain ⟨W3, hW3⟩ : ∃ W3, W3 = later (later W1 z) z2 := ⟨_, rfl⟩
        have hb3 : Below W1.heap.size W1 W3 := by rw [hW3]; exact later_below (below_later W1 z) (size_later W1 z)
        have hsl3 : SlA W3 1 gI A c h.leaveL := by rw [hW3]; exact HSL.out.below (below_later (later W1 z) z2)
        have HSL := Lib.hid hsl3
        rw [← hW3]
        clear hW3 hsl3
        have r0 := (hb3.cell (p := ⟨w.heap.size, 0, none⟩) hBl).trans q0
        have r1 := (hb3.cell (p := ⟨w.heap.size, 1, none⟩) hBl).trans q1
        have r2 := (hb3.cell (p := ⟨w.heap.size, 2, none⟩) hBl).trans q2
        have r3 := (hb3.cell (p := ⟨w.heap.size, 3, none⟩) hBl).trans q3
        have r4 := (hb3.cell (p := ⟨w.heap.size, 4, none⟩) hBl).trans q4
        have hBl3 := Nat.lt_of_lt_of_le hBl hb3.size
        clear q0 q1 q2 q3 q4
        go_wp2_with (fail)
        have CL := refleave_calls _ h W3 (H1.below hb3) HF.out
        rw [HLL.out] at CL
        refine CL.mono ?_
        clear CL
        (rintro e w' hr; obtain ⟨B, d, rfl, ⟨z, rfl⟩, hsb⟩ := hr)
        have CI := ints_calls A B c d h.leaveL h.leaveL (later W3 z) (HSL.out.below (below_later W3 z)) hsb
        rw [decide_eq_true rfl] at CI
        have CI := Lib.hid CI
        clear hsb
        go_wp2_with (fail)
        refine CI.out.mono ?_
        (rintro e w' hr; first | ((with_reducible replace hr := Ret.up hr); obtain ⟨rfl, z, rfl⟩ := hr) | (obtain ⟨rfl, z, rfl⟩ := hr))
        go_wp2_with (fail)
        have CR := reffirst_calls _ h (later W3 z) (H1.below (hb3.trans ((below_later W3 z).mono hb3.size))) HF.out
        rw [HI.out] at CR
        refine CR.mono ?_
        clear CR CI
        (rintro e w' hr; first | ((with_reducible replace hr := Ret.up hr); obtain ⟨rfl, z, rfl⟩ := hr) | (obtain ⟨rfl, z, rfl⟩ := hr))
        go_wp2_with (fail)
        refine (awake_calls _).mono ?_
        (rintro e w' hr; first | ((with_reducible replace hr := Ret.up hr); obtain ⟨rfl, z, rfl⟩ := hr) | (obtain ⟨rfl, z, rfl⟩ := hr))
        go_wp2
        go_ret
        exact ret_mk rfl (hb1.trans (Below.mono (later_below hb3 hb3.size) hb1.size))
    · have HV := Lib.hid (show h.firstV = 0 by unfold Hs.firstV; rw [if_pos hf])
      have hE : h.firstE = h.fault := by unfold Hs.firstE; rw [if_pos hf]
      have HLL := Lib.hid (show h.leaveL = [] by rw [Hs.leaveL, if_neg hf])
      obtain ⟨X, hX⟩ : ∃ X, X = h.fault := ⟨_, rfl⟩
      rw [← hX] at hf CF hE
      have hX1 : (X != 0) = true := by simpa using hf
      have HF := Lib.hid hX.symm
      have HE := Lib.hid hE
      have CF := Lib.hid CF
      clear hf hX hE
      go_enter Try.func8, Try.ntmps8
      go_wp2_with (fail)
      rw [← hW1]
      clear hW1
      refine (thin_calls _ h _ H1).mono ?_
      (rintro e w' hr; first | ((with_reducible replace hr := Ret.up hr); obtain ⟨rfl, z, rfl⟩ := hr) | (obtain ⟨rfl, z, rfl⟩ := hr))
      go_wp2_with (fail)
      refine (house_calls _ h _ (H1.below (below_later _ _)) hl2 hl3 hl4).mono ?_
      rintro e w' hr
      replace hr := RetHs.up hr
      obtain ⟨v, rfl, ⟨z, rfl⟩, HH⟩ := hr
      go_wp2_with (fail)
      have CA := first_calls v h _ HH
      rw [HE.out, HV.out] at CA
      refine CA.mono ?_
      clear CA HH
      (rintro e w' hr; first | ((with_reducible replace hr := Ret.up hr); obtain ⟨rfl, z, rfl⟩ := hr) | (obtain ⟨rfl, z, rfl⟩ := hr))
      go_wp2_with (fail)
      refine (house_calls _ h _ (H1.below (below_later _ _)) hl2 hl3 hl4).mono ?_
      rintro e w' hr
      replace hr := RetHs.up hr
      obtain ⟨v, rfl, ⟨z, rfl⟩, HH⟩ := hr
      go_wp2_with (fail)
      have CA := leave_calls v h _ HH
      rw [HLL.out, HF.out] at CA
      refine CA.mono ?_
      clear CA HH
      (rintro e w' hr; replace hr := RetSlN.up hr; obtain ⟨A, c, rfl, ⟨z, rfl⟩, -⟩ := hr)
      simp only [List.length_nil]
      go_wp2_with (fail)
      refine (CF.out z).mono ?_
      (rintro e w' hr; first | ((with_reducible replace hr := Ret.up hr); obtain ⟨rfl, z, rfl⟩ := hr) | (obtain ⟨rfl, z, rfl⟩ := hr))
      go_wp2_with (fail)
      refine (awake_calls _).mono ?_
      (rintro e w' hr; first | ((with_reducible replace hr := Ret.up hr); obtain ⟨rfl, z, rfl⟩ := hr) | (obtain ⟨rfl, z, rfl⟩ := hr))
      go_wp2
      go_ret
      exact ret_mk rfl (later_below hb1 hb1.size)
end Go.Proofs.Ytcngnfnljkkjgaa
