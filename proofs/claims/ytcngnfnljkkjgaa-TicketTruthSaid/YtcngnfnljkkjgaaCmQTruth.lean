/-
TicketTruth: the walk.
-/
import Derived.Test.YtcngnfnljkkjgaaCmPi
import Derived.Test.YtcngnfnljkkjgaaCmY
import Derived.Test.YtcngnfnljkkjgaaCmO
import Derived.Test.YtcngnfnljkkjgaaCmQFirst
import Derived.Deep.Cut
namespace Go.Proofs.Ytcngnfnljkkjgaa
open Go.RowKit
attribute [local go_sem] cell_later frozen_later lt_later le_later

set_option maxRecDepth 100000 in
set_option maxHeartbeats 4000000 in
theorem lawtruth_calls (v : Value) (h : Hs) (wv : Int) (w : World) (H : HsAt w v h) (hwv : 0 ≤ wv ∧ wv ≤ 65535) :
    Calls Try.prog 21 #[v, .int .u16 wv] w (Ret (.bool true) w) := by
  have H0 := H
  obtain ⟨A2, c2, A3, c3, A4, c4, rfl, H2, H3, H4⟩ := H
  obtain ⟨W1, hW1⟩ : ∃ W1, W1 = w.alloc (.cells #[.int .i64 h.hour, .int .i64 h.grace, .slice A2 h.clocks.length c2, .slice A3 h.tickets.length c3, .slice A4 h.clips.length c4] 26) := ⟨_, rfl⟩
  have hb1 : Below w.heap.size w W1 := by rw [hW1]; exact gA (Below.refl _ _)
  have hB : BlkAt W1 w.heap.size 26 [.int .i64 h.hour, .int .i64 h.grace, .slice A2 h.clocks.length c2, .slice A3 h.tickets.length c3, .slice A4 h.clips.length c4] := by rw [hW1]; exact BlkAt.new _ _ _
  have H1 := H0.below hb1
  have q0 := hB.cell 0
  have q1 := hB.cell 1
  have q2 := hB.cell 2
  have q3 := hB.cell 3
  have q4 := hB.cell 4
  simp only [List.getElem?_cons_zero, List.getElem?_cons_succ] at q0 q1 q2 q3 q4
  have hBl := hB.lt
  cases hr : h.readyB with
  | false =>
    go_enter Try.func21, Try.ntmps21
    go_wp2_with (fail)
    rw [← hW1]
    clear hW1
    refine (ready_calls _ h _ H1).mono ?_
    (rintro e w' hr; first | ((with_reducible replace hr := Ret.up hr); obtain ⟨rfl, z, rfl⟩ := hr) | (obtain ⟨rfl, z, rfl⟩ := hr))
    go_wp2_with (fail)
    refine (awake_calls _).mono ?_
    (rintro e w' hr; first | ((with_reducible replace hr := Ret.up hr); obtain ⟨rfl, z, rfl⟩ := hr) | (obtain ⟨rfl, z, rfl⟩ := hr))
    go_wp2
    go_ret
    exact ret_mk rfl (later_below hb1 hb1.size)
  | true =>
    obtain ⟨hl2, hl3, hl4, hf, hl10⟩ := ready_of hr
    by_cases hR : h.truR = []
    · have hll : h.leaveL ≠ [] := fun hh => (leave_nil hf).1 hh ((truR_nil hf).1 hR)
      have hlp : 0 < h.leaveL.length := List.length_pos_iff.2 hll
      have hlpI : (0 : Int) < (h.leaveL.length : Int) := by omega
      have HF := Lib.hid hf
      have HR := Lib.hid hR
      clear hf hR hll
      go_enter Try.func21, Try.ntmps21
      go_wp2_with (fail)
      rw [← hW1]
      clear hW1
      refine (ready_calls _ h _ H1).mono ?_
      (rintro e w' hr; first | ((with_reducible replace hr := Ret.up hr); obtain ⟨rfl, z, rfl⟩ := hr) | (obtain ⟨rfl, z, rfl⟩ := hr))
      go_wp2_with (fail)
      refine (pick_none _ h wv _ (H1.below (below_later _ _)) HF.out HR.out).mono ?_
      (rintro e w' hr; first | ((with_reducible replace hr := Ret.up hr); obtain ⟨rfl, z, rfl⟩ := hr) | (obtain ⟨rfl, z, rfl⟩ := hr))
      go_wp2_with (fail)
      refine (house_calls _ h _ (by first | with_reducible exact H1 | exact H1.below (below_later _ _)) hl2 hl3 hl4).mono ?_
      (rintro e w' hr; first | ((with_reducible replace hr := RetHs.up hr); obtain ⟨v, rfl, ⟨z, rfl⟩, HH⟩ := hr) | (obtain ⟨v, rfl, ⟨z, rfl⟩, HH⟩ := hr))
      go_wp2_with (fail)
      have CA := leave_calls v h _ HH
      rw [HF.out] at CA
      refine CA.mono ?_
      clear CA HH
      (rintro e w' hr; first | ((with_reducible replace hr := RetSlN.up hr); obtain ⟨A5, c5, rfl, ⟨z, rfl⟩, hsl⟩ := hr) | (obtain ⟨A5, c5, rfl, ⟨z, rfl⟩, hsl⟩ := hr))
      have hlm := hsl.2.1
      clear hsl
      go_wp2_with (fail)
      refine (awake_calls _).mono ?_
      (rintro e w' hr; first | ((with_reducible replace hr := Ret.up hr); obtain ⟨rfl, z, rfl⟩ := hr) | (obtain ⟨rfl, z, rfl⟩ := hr))
      go_wp2
      go_ret
      exact ret_mk rfl (later_below hb1 hb1.size)
    · have hT0 := fun hh => hR ((truR_nil hf).2 hh)
      have hk : h.askE 0 = 0 := by rw [ask_of_can hf, if_pos ((can_iff h).2 hT0)]
      obtain ⟨kk, -, hpk, -⟩ := pick_mem (n := wv) hR
      have hTR := List.mem_of_getElem? hpk
      have hT := (mem_truR hf _).1 hTR
      have hTok := truR_ok hf hTR
      obtain ⟨T, hTT⟩ : ∃ T, T = h.pickL wv := ⟨_, rfl⟩
      have CP := Lib.hid (fun x => pick_calls _ h wv (later W1 x) (H1.below (below_later W1 x)) hf hwv hR)
      rw [← hTT] at hpk hTR hT hTok CP
      have HT := Lib.hid hT
      have HTOK := Lib.hid hTok
      have HF := Lib.hid hf
      have HA := Lib.hid hk
      have HLL := Lib.hid ((leave_nil hf).2 hT0)
      have HLA := Lib.hid ((cl_len hk).trans hTok.2.symm)
      have HLB := Lib.hid (hr_len hk)
      have HLV := Lib.hid (long_len hk)
      have HFE := Lib.hid (truth_firstE hf hT0)
      obtain ⟨V, hV⟩ : ∃ V, V = h.paidV := ⟨_, rfl⟩
      have hst : steadyB V (h.paidB T) = true := by
        rw [hV, Hs.paidV, if_pos hk]
        exact steady_at (p := h.paidB) hT
      have HST := Lib.hid hst
      have HV := Lib.hid hV
      clear hf hR hT0 hk hpk hTR hT hTok hTT hV hst
      go_enter Try.func21, Try.ntmps21
      go_wp2_with (fail)
      rw [← hW1]
      clear hW1
      refine (ready_calls _ h _ H1).mono ?_
      (rintro e w' hr; first | ((with_reducible replace hr := Ret.up hr); obtain ⟨rfl, z, rfl⟩ := hr) | (obtain ⟨rfl, z, rfl⟩ := hr))
      go_wp2_with (fail)
      refine (CP.out _).mono ?_
      clear CP
      (rintro e w' hr; replace hr := RetPick.up hr; obtain ⟨AT, cT, rfl, ⟨z, rfl⟩, hsl, hzT⟩ := hr)
      obtain ⟨W2, hWW2⟩ : ∃ X, X = later W1 z := ⟨_, rfl⟩
      have hn : Below W1.heap.size W1 W2 := by rw [hWW2]; exact below_later _ _
      rw [← hWW2] at hsl ⊢
      clear hWW2
      replace H1 := H1.below hn
      replace q0 := (hn.cell (p := ⟨w.heap.size, 0, none⟩) hBl).trans q0
      replace q1 := (hn.cell (p := ⟨w.heap.size, 1, none⟩) hBl).trans q1
      replace q2 := (hn.cell (p := ⟨w.heap.size, 2, none⟩) hBl).trans q2
      replace q3 := (hn.cell (p := ⟨w.heap.size, 3, none⟩) hBl).trans q3
      replace q4 := (hn.cell (p := ⟨w.heap.size, 4, none⟩) hBl).trans q4
      replace hBl := Nat.lt_of_lt_of_le hBl hn.size
      replace hb1 := hb1.trans (hn.mono hb1.size)
      have HS2 := Lib.hid hsl
      have HZT := Lib.hid hzT
      have hTlm := hsl.2.1
      clear hn hsl hzT
      go_wp2_with (fail)
      refine (house_calls _ h _ (by first | with_reducible exact H1 | exact H1.below (below_later _ _)) hl2 hl3 hl4).mono ?_
      (rintro e w' hr; first | ((with_reducible replace hr := RetHs.up hr); obtain ⟨v, rfl, ⟨z, rfl⟩, HH⟩ := hr) | (obtain ⟨v, rfl, ⟨z, rfl⟩, HH⟩ := hr))
      go_wp2_with (fail)
      have CA := leave_calls v h _ HH
      rw [HF.out, HLL.out] at CA
      refine CA.mono ?_
      clear CA HH
      (rintro e w' hr; first | ((with_reducible replace hr := RetSlN.up hr); obtain ⟨A5, c5, rfl, ⟨z, rfl⟩, hsl⟩ := hr) | (obtain ⟨A5, c5, rfl, ⟨z, rfl⟩, hsl⟩ := hr))
      clear hsl
      simp only [List.length_nil]
      go_wp2_with (fail)
      refine (house_calls _ h _ (by first | with_reducible exact H1 | exact H1.below (below_later _ _)) hl2 hl3 hl4).mono ?_
      (rintro e w' hr; first | ((with_reducible replace hr := RetHs.up hr); obtain ⟨v, rfl, ⟨z, rfl⟩, HH⟩ := hr) | (obtain ⟨v, rfl, ⟨z, rfl⟩, HH⟩ := hr))
      go_wp2_with (fail)
      have CA := clocks_calls v h _ HH
      rw [HA.out] at CA
      refine CA.mono ?_
      clear CA HH
      (rintro e w' hr; first | ((with_reducible replace hr := RetSlN.up hr); obtain ⟨A6, c6, rfl, ⟨z, rfl⟩, hsl⟩ := hr) | (obtain ⟨A6, c6, rfl, ⟨z, rfl⟩, hsl⟩ := hr))
      rw [HLA.out]
      obtain ⟨W3, hWW3⟩ : ∃ X, X = later W2 z := ⟨_, rfl⟩
      have hn : Below W2.heap.size W2 W3 := by rw [hWW3]; exact below_later _ _
      rw [← hWW3] at hsl ⊢
      clear hWW3
      replace H1 := H1.below hn
      replace q0 := (hn.cell (p := ⟨w.heap.size, 0, none⟩) hBl).trans q0
      replace q1 := (hn.cell (p := ⟨w.heap.size, 1, none⟩) hBl).trans q1
      replace q2 := (hn.cell (p := ⟨w.heap.size, 2, none⟩) hBl).trans q2
      replace q3 := (hn.cell (p := ⟨w.heap.size, 3, none⟩) hBl).trans q3
      replace q4 := (hn.cell (p := ⟨w.heap.size, 4, none⟩) hBl).trans q4
      replace hBl := Nat.lt_of_lt_of_le hBl hn.size
      replace hb1 := hb1.trans (hn.mono hb1.size)
      replace HS2 := Lib.hid (HS2.out.below hn)
      have HS3 := Lib.hid hsl
      clear hn hsl
      go_wp2_with (fail)
      refine (house_calls _ h _ (by first | with_reducible exact H1 | exact H1.below (below_later _ _)) hl2 hl3 hl4).mono ?_
      (rintro e w' hr; first | ((with_reducible replace hr := RetHs.up hr); obtain ⟨v, rfl, ⟨z, rfl⟩, HH⟩ := hr) | (obtain ⟨v, rfl, ⟨z, rfl⟩, HH⟩ := hr))
      go_wp2_with (fail)
      have CA := hours_all_calls v h _ HH
      rw [HA.out] at CA
      refine CA.mono ?_
      clear CA HH
      (rintro e w' hr; first | ((with_reducible replace hr := RetSlN.up hr); obtain ⟨A7, c7, rfl, ⟨z, rfl⟩, hsl⟩ := hr) | (obtain ⟨A7, c7, rfl, ⟨z, rfl⟩, hsl⟩ := hr))
      rw [HLB.out]
      obtain ⟨W4, hWW4⟩ : ∃ X, X = later W3 z := ⟨_, rfl⟩
      have hn : Below W3.heap.size W3 W4 := by rw [hWW4]; exact below_later _ _
      rw [← hWW4] at hsl ⊢
      clear hWW4
      replace H1 := H1.below hn
      replace q0 := (hn.cell (p := ⟨w.heap.size, 0, none⟩) hBl).trans q0
      replace q1 := (hn.cell (p := ⟨w.heap.size, 1, none⟩) hBl).trans q1
      replace q2 := (hn.cell (p := ⟨w.heap.size, 2, none⟩) hBl).trans q2
      replace q3 := (hn.cell (p := ⟨w.heap.size, 3, none⟩) hBl).trans q3
      replace q4 := (hn.cell (p := ⟨w.heap.size, 4, none⟩) hBl).trans q4
      replace hBl := Nat.lt_of_lt_of_le hBl hn.size
      replace hb1 := hb1.trans (hn.mono hb1.size)
      replace HS2 := Lib.hid (HS2.out.below hn)
      replace HS3 := Lib.hid (HS3.out.below hn)
      have HS4 := Lib.hid hsl
      clear hn hsl
      go_wp2_with (fail)
      refine (house_calls _ h _ (by first | with_reducible exact H1 | exact H1.below (below_later _ _)) hl2 hl3 hl4).mono ?_
      (rintro e w' hr; first | ((with_reducible replace hr := RetHs.up hr); obtain ⟨v, rfl, ⟨z, rfl⟩, HH⟩ := hr) | (obtain ⟨v, rfl, ⟨z, rfl⟩, HH⟩ := hr))
      go_wp2_with (fail)
      have CA := long_all_calls v h _ HH
      rw [HA.out] at CA
      refine CA.mono ?_
      clear CA HH
      (rintro e w' hr; first | ((with_reducible replace hr := RetSlN.up hr); obtain ⟨A8, c8, rfl, ⟨z, rfl⟩, hsl⟩ := hr) | (obtain ⟨A8, c8, rfl, ⟨z, rfl⟩, hsl⟩ := hr))
      rw [HLV.out]
      obtain ⟨W5, hWW5⟩ : ∃ X, X = later W4 z := ⟨_, rfl⟩
      have hn : Below W4.heap.size W4 W5 := by rw [hWW5]; exact below_later _ _
      rw [← hWW5] at hsl ⊢
      clear hWW5
      replace H1 := H1.below hn
      replace q0 := (hn.cell (p := ⟨w.heap.size, 0, none⟩) hBl).trans q0
      replace q1 := (hn.cell (p := ⟨w.heap.size, 1, none⟩) hBl).trans q1
      replace q2 := (hn.cell (p := ⟨w.heap.size, 2, none⟩) hBl).trans q2
      replace q3 := (hn.cell (p := ⟨w.heap.size, 3, none⟩) hBl).trans q3
      replace q4 := (hn.cell (p := ⟨w.heap.size, 4, none⟩) hBl).trans q4
      replace hBl := Nat.lt_of_lt_of_le hBl hn.size
      replace hb1 := hb1.trans (hn.mono hb1.size)
      replace HS2 := Lib.hid (HS2.out.below hn)
      replace HS3 := Lib.hid (HS3.out.below hn)
      replace HS4 := Lib.hid (HS4.out.below hn)
      have HS5 := Lib.hid hsl
      clear hn hsl
      go_wp2_with (fail)
      refine (house_calls _ h _ (by first | with_reducible exact H1 | exact H1.below (below_later _ _)) hl2 hl3 hl4).mono ?_
      (rintro e w' hr; first | ((with_reducible replace hr := RetHs.up hr); obtain ⟨v, rfl, ⟨z, rfl⟩, HH⟩ := hr) | (obtain ⟨v, rfl, ⟨z, rfl⟩, HH⟩ := hr))
      go_wp2_with (fail)
      have CA := paid_all_calls v h _ HH
      rw [HA.out, ← HV.out] at CA
      refine CA.mono ?_
      clear CA HH
      (rintro e w' hr; first | ((with_reducible replace hr := Ret.up hr); obtain ⟨rfl, z, rfl⟩ := hr) | (obtain ⟨rfl, z, rfl⟩ := hr))
      go_wp2_with (fail)
      refine (house_calls _ h _ (by first | with_reducible exact H1 | exact H1.below (below_later _ _)) hl2 hl3 hl4).mono ?_
      (rintro e w' hr; first | ((with_reducible replace hr := RetHs.up hr); obtain ⟨v, rfl, ⟨z, rfl⟩, HH⟩ := hr) | (obtain ⟨v, rfl, ⟨z, rfl⟩, HH⟩ := hr))
      go_wp2_with (fail)
      have CA := first_calls v h _ HH
      rw [HFE.out] at CA
      refine CA.mono ?_
      clear CA HH
      (rintro e w' hr; first | ((with_reducible replace hr := Ret.up hr); obtain ⟨rfl, z, rfl⟩ := hr) | (obtain ⟨rfl, z, rfl⟩ := hr))
      obtain ⟨W6, hWW6⟩ : ∃ X, X = later W5 z := ⟨_, rfl⟩
      have hn : Below W5.heap.size W5 W6 := by rw [hWW6]; exact below_later _ _
      rw [← hWW6] 
      clear hWW6
      replace H1 := H1.below hn
      replace q0 := (hn.cell (p := ⟨w.heap.size, 0, none⟩) hBl).trans q0
      replace q1 := (hn.cell (p := ⟨w.heap.size, 1, none⟩) hBl).trans q1
      replace q2 := (hn.cell (p := ⟨w.heap.size, 2, none⟩) hBl).trans q2
      replace q3 := (hn.cell (p := ⟨w.heap.size, 3, none⟩) hBl).trans q3
      replace q4 := (hn.cell (p := ⟨w.heap.size, 4, none⟩) hBl).trans q4
      replace hBl := Nat.lt_of_lt_of_le hBl hn.size
      replace hb1 := hb1.trans (hn.mono hb1.size)
      replace HS2 := Lib.hid (HS2.out.below hn)
      replace HS3 := Lib.hid (HS3.out.below hn)
      replace HS4 := Lib.hid (HS4.out.below hn)
      replace HS5 := Lib.hid (HS5.out.below hn)
      clear hn
      have hTl : T.length ≤ 1000 := by rw [HTOK.out.2]; exact hl2
      have C0 := Lib.hid (refispaid_calls _ h AT cT T W6 H1 HS2.out HTOK.out.2 HTOK.out.1 HF.out)
      obtain ⟨cb, hcb⟩ : ∃ x, x = h.paidB T := ⟨_, rfl⟩
      have hst := HST.out
      rw [← hcb] at C0 hst
      have C1 := Lib.hid (fun x => steady_calls V cb (later W6 x) hst)
      clear hcb hst
      go_wp2_with (fail)
      refine C0.out.mono ?_
      clear C0
      (rintro e w' hr; first | ((with_reducible replace hr := Ret.up hr); obtain ⟨rfl, z, rfl⟩ := hr) | (obtain ⟨rfl, z, rfl⟩ := hr))
      go_wp2_with (fail)
      refine (C1.out _).mono ?_
      clear C1
      (rintro e w' hr; first | ((with_reducible replace hr := Ret.up hr); obtain ⟨rfl, z, rfl⟩ := hr) | (obtain ⟨rfl, z, rfl⟩ := hr))
      go_wp2_with (fail)
      refine (house_calls _ h _ (by first | with_reducible exact H1 | exact H1.below (below_later _ _)) hl2 hl3 hl4).mono ?_
      (rintro e w' hr; first | ((with_reducible replace hr := RetHs.up hr); obtain ⟨v, rfl, ⟨z, rfl⟩, HH⟩ := hr) | (obtain ⟨v, rfl, ⟨z, rfl⟩, HH⟩ := hr))
      go_wp2_with (fail)
      obtain ⟨W7, hWW7⟩ : ∃ X, X = later W6 z := ⟨_, rfl⟩
      have hn : Below W6.heap.size W6 W7 := by rw [hWW7]; exact below_later _ _
      rw [← hWW7] at HH ⊢
      clear hWW7
      replace H1 := H1.below hn
      replace q0 := (hn.cell (p := ⟨w.heap.size, 0, none⟩) hBl).trans q0
      replace q1 := (hn.cell (p := ⟨w.heap.size, 1, none⟩) hBl).trans q1
      replace q2 := (hn.cell (p := ⟨w.heap.size, 2, none⟩) hBl).trans q2
      replace q3 := (hn.cell (p := ⟨w.heap.size, 3, none⟩) hBl).trans q3
      replace q4 := (hn.cell (p := ⟨w.heap.size, 4, none⟩) hBl).trans q4
      replace hBl := Nat.lt_of_lt_of_le hBl hn.size
      replace hb1 := hb1.trans (hn.mono hb1.size)
      replace HS2 := Lib.hid (HS2.out.below hn)
      replace HS3 := Lib.hid (HS3.out.below hn)
      replace HS4 := Lib.hid (HS4.out.below hn)
      replace HS5 := Lib.hid (HS5.out.below hn)
      clear hn
      refine (listF_calls AT cT T W7 HS2.out hTl HZT.out).mono ?_
      (rintro e w' ⟨AM, cM, rfl, ⟨z, rfl⟩, hsm, -, -⟩)
      have CA := prove_calls v h AM cM T (later W7 z) (HH.below (below_later _ _)) hsm
      rw [truth_prove HF.out HT.out] at CA
      have CA := Lib.hid CA
      clear HH hsm
      go_wp2_with (fail)
      refine CA.out.mono ?_
      clear CA
      (rintro e w' hr; first | ((with_reducible replace hr := Ret.up hr); obtain ⟨rfl, z, rfl⟩ := hr) | (obtain ⟨rfl, z, rfl⟩ := hr))
      obtain ⟨W8, hWW8⟩ : ∃ X, X = later W7 z := ⟨_, rfl⟩
      have hn : Below W7.heap.size W7 W8 := by rw [hWW8]; exact below_later _ _
      rw [← hWW8] 
      clear hWW8
      replace H1 := H1.below hn
      replace q0 := (hn.cell (p := ⟨w.heap.size, 0, none⟩) hBl).trans q0
      replace q1 := (hn.cell (p := ⟨w.heap.size, 1, none⟩) hBl).trans q1
      replace q2 := (hn.cell (p := ⟨w.heap.size, 2, none⟩) hBl).trans q2
      replace q3 := (hn.cell (p := ⟨w.heap.size, 3, none⟩) hBl).trans q3
      replace q4 := (hn.cell (p := ⟨w.heap.size, 4, none⟩) hBl).trans q4
      replace hBl := Nat.lt_of_lt_of_le hBl hn.size
      replace hb1 := hb1.trans (hn.mono hb1.size)
      replace HS2 := Lib.hid (HS2.out.below hn)
      replace HS3 := Lib.hid (HS3.out.below hn)
      replace HS4 := Lib.hid (HS4.out.below hn)
      replace HS5 := Lib.hid (HS5.out.below hn)
      clear hn
      go_wp2
      go_loopw [19] (fun i wr => ∃ k : Nat, k ≤ T.length ∧ i = .int .i64 k ∧ Below W8.heap.size W8 wr) (fun i _ => T.length - (intOf i).toNat)
      case atStart => exact ⟨0, Nat.zero_le _, rfl, Below.refl _ _⟩
      case round =>
        obtain ⟨k, hk, rfl, hb⟩ := hrel
        by_cases hlt : k < T.length
        · have hlt1 : (k : Int) < (T.length : Int) := by omega
          have hk0 : (0 : Int) ≤ (k : Int) := Int.natCast_nonneg _
          obtain ⟨bt, ot, y, rfl, hbt, hy, st0⟩ := (HS2.out.below hb).atI hlt
          obtain ⟨bc, oc, yc, rfl, hbc, hyc, sc0, sc1⟩ := (HS3.out.below hb).atR (i := k) (by rw [HLA.out]; exact hlt)
          rw [cl_get HA.out (by rw [← HTOK.out.2]; exact hlt)] at hyc
          have hyc := Option.some.inj hyc
          have hyv : err T (k : Int) = y := by simp [err, List.getD_eq_getElem?_getD, hy]
          obtain ⟨g1, g2⟩ := truth_in_clock HT.out k
          rw [hyv, hyc] at g1 g2
          have C0 := Lib.hid (fun x => in_calls y yc.lo yc.hi (later wr x) g1 g2)
          clear hy hyc hyv
          go_wp2
          refine region_later (by kernel_rfl) (by kernel_rfl) ?_
          repeat (go_big_quiet_step (first | with_reducible exact quiet_ret (C0.out _)))
          refine wpQuiet_nil ?_
          rintro W' ⟨u, rfl⟩
          go_wp2
          go_roundw
          case rel => exact ⟨k + 1, by omega, by go_num, later_below hb hb.size⟩
          case measure => simp [intOf]; omega
        · obtain rfl : k = T.length := by omega
          go_wp2
          go_loopw [20] (fun i wr => ∃ k : Nat, k ≤ h.tickets.length ∧ i = .int .i64 k ∧ Below W8.heap.size W8 wr) (fun i _ => h.tickets.length - (intOf i).toNat)
          case atStart => exact ⟨0, Nat.zero_le _, rfl, hb⟩
          case round =>
            obtain ⟨k, hk, rfl, hb⟩ := hrel
            by_cases hlt : k < h.tickets.length
            · have hlt1 : (k : Int) < (h.tickets.length : Int) := by omega
              have hk0 : (0 : Int) ≤ (k : Int) := Int.natCast_nonneg _
              obtain ⟨bc, oc, yc, rfl, hbc, hyc, sc0, sc1⟩ := (HS4.out.below hb).atR (i := k) (by rw [HLB.out]; exact hlt)
              obtain ⟨bv, ov, yv, rfl, hbv, hyv, sv0⟩ := (HS5.out.below hb).atI (i := k) (by rw [HLV.out]; exact hlt)
              rw [hr_get HA.out hlt] at hyc
              rw [long_get HA.out hlt] at hyv
              have hyc := Option.some.inj hyc
              have hyv := Option.some.inj hyv
              obtain ⟨g1, g2⟩ := truth_in_hour HT.out k
              have hst : steadyB (h.longV k) (h.longB T k) = true := steady_at (p := fun e => h.longB e k) HT.out
              rw [hyc] at g1 g2
              rw [hyv] at hst
              have C0 := Lib.hid (fun x => refhours_calls _ h AT cT T k (later wr x) ((H1.below hb).below (below_later wr x)) ((HS2.out.below hb).below (below_later wr x)) HTOK.out.2 HTOK.out.1 HF.out hlt)
              have C1 := Lib.hid (fun x => in_calls (h.hoursB T (k : Int)) yc.lo yc.hi (later wr x) g1 g2)
              have C2 := Lib.hid (fun x => reflong_calls _ h AT cT T k (later wr x) ((H1.below hb).below (below_later wr x)) ((HS2.out.below hb).below (below_later wr x)) HTOK.out.2 HTOK.out.1 HF.out hlt)
              have C3 := Lib.hid (fun x => steady_calls yv (h.longB T k) (later wr x) hst)
              have p0 := (hb.cell (p := ⟨w.heap.size, 0, none⟩) hBl).trans q0
              have p1 := (hb.cell (p := ⟨w.heap.size, 1, none⟩) hBl).trans q1
              have p2 := (hb.cell (p := ⟨w.heap.size, 2, none⟩) hBl).trans q2
              have p3 := (hb.cell (p := ⟨w.heap.size, 3, none⟩) hBl).trans q3
              have p4 := (hb.cell (p := ⟨w.heap.size, 4, none⟩) hBl).trans q4
              have hBr := Nat.lt_of_lt_of_le hBl hb.size
              obtain ⟨X, hX⟩ : ∃ X, X = h.hoursB T (k : Int) := ⟨_, rfl⟩
              obtain ⟨Y, hY⟩ : ∃ Y, Y = h.longB T k := ⟨_, rfl⟩
              rw [← hX] at C0 C1
              rw [← hY] at C2 C3
              clear hyc hyv hst g1 g2 hX hY
              go_wp2
              refine region_later (by kernel_rfl) (by kernel_rfl) ?_
              repeat (go_big_quiet_step (first | with_reducible exact quiet_ret (C0.out _) | with_reducible exact quiet_ret (C1.out _) | with_reducible exact quiet_ret (C2.out _) | with_reducible exact quiet_ret (C3.out _)))
              refine wpQuiet_nil ?_
              rintro W' ⟨u, rfl⟩
              go_wp2
              go_roundw
              case rel => exact ⟨k + 1, by omega, by go_num, later_below hb hb.size⟩
              case measure => simp [intOf]; omega
            · obtain rfl : k = h.tickets.length := by omega
              go_wp2_with (fail)
              refine (awake_calls _).mono ?_
              (rintro e w' hr; first | ((with_reducible replace hr := Ret.up hr); obtain ⟨rfl, z, rfl⟩ := hr) | (obtain ⟨rfl, z, rfl⟩ := hr))
              go_wp2
              go_ret
              exact ret_mk rfl (hb1.trans (Below.mono (later_below hb hb.size) hb1.size))
end Go.Proofs.Ytcngnfnljkkjgaa
