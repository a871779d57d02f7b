/-
TicketClashes: the walk.
-/
import Derived.Test.YtcngnfnljkkjgaaCmO
namespace Go.Proofs.Ytcngnfnljkkjgaa
open Go.RowKit
attribute [local go_sem] cell_later frozen_later lt_later le_later

theorem thin_parts {h : Hs} (ht : h.thinB = true) : h.clocks.length ≤ 1000 ∧ h.tickets.length ≤ 1000 ∧ h.clips.length ≤ 1000 := by
  obtain ⟨h1, h2, h3⟩ := thin_iff.1 ht
  exact ⟨by omega, by omega, by omega⟩
/-- What is wanted of two tickets of a valid house. -/
theorem clash_wants {h : Hs} (a b : Int) : (inB a 0 ((h.tickets.length : Int) - 1) = false ∧ h.clashDue a b = 2) ∨ (inB a 0 ((h.tickets.length : Int) - 1) = true ∧ inB b 0 ((h.tickets.length : Int) - 1) = false ∧ h.clashDue a b = 2) ∨
    (inB a 0 ((h.tickets.length : Int) - 1) = true ∧ inB b 0 ((h.tickets.length : Int) - 1) = true ∧ (a == b) = true ∧ h.clashDue a b = 6) ∨ (inB a 0 ((h.tickets.length : Int) - 1) = true ∧ inB b 0 ((h.tickets.length : Int) - 1) = true ∧ (a == b) = false ∧ h.clashDue a b = 0) := by
  unfold Hs.clashDue Hs.ticketB
  cases inB a 0 ((h.tickets.length : Int) - 1) <;> cases inB b 0 ((h.tickets.length : Int) - 1) <;> by_cases hab : a = b <;> simp [hab]

set_option maxRecDepth 100000 in
set_option maxHeartbeats 4000000 in
theorem clashes_calls (v : Value) (h : Hs) (a b : Int) (w : World) (H : HsAt w v h) :
    Calls Try.prog 5 #[v, .int .i64 a, .int .i64 b] w (Ret (.bool true) w) := by
  have H0 := H
  obtain ⟨A2, c2, A3, c3, A4, c4, rfl, H2, H3, H4⟩ := H
  obtain ⟨W1, hW1⟩ : ∃ W1, W1 = w.alloc (.cells #[.int .i64 h.hour, .int .i64 h.grace, .slice A2 h.clocks.length c2, .slice A3 h.tickets.length c3, .slice A4 h.clips.length c4] 26) := ⟨_, rfl⟩
  have hb1 : Below w.heap.size w W1 := by rw [hW1]; exact gA (Below.refl _ _)
  have hB : BlkAt W1 w.heap.size 26 [.int .i64 h.hour, .int .i64 h.grace, .slice A2 h.clocks.length c2, .slice A3 h.tickets.length c3, .slice A4 h.clips.length c4] := by rw [hW1]; exact BlkAt.new _ _ _
  have H1 := H0.below hb1
  have q0 := hB.cell 0
  have q1 := hB.cell 1
  have q2 := hB.cell 2
  have q3 := hB.cell 3
  have q4 := hB.cell 4
  simp only [List.getElem?_cons_zero, List.getElem?_cons_succ] at q0 q1 q2 q3 q4
  have hBl := hB.lt
  cases hr : h.thinB with
  | false =>
    go_enter Try.func5, Try.ntmps5
    go_wp2_with (fail)
    rw [← hW1]
    clear hW1
    refine (thin_calls _ h _ H1).mono ?_
    (rintro e w' hr; first | ((with_reducible replace hr := Ret.up hr); obtain ⟨rfl, z, rfl⟩ := hr) | (obtain ⟨rfl, z, rfl⟩ := hr))
    go_wp2_with (fail)
    refine (awake_calls _).mono ?_
    (rintro e w' hr; first | ((with_reducible replace hr := Ret.up hr); obtain ⟨rfl, z, rfl⟩ := hr) | (obtain ⟨rfl, z, rfl⟩ := hr))
    go_wp2
    go_ret
    exact ret_mk rfl (later_below hb1 hb1.size)
  | true =>
    obtain ⟨hl2, hl3, hl4⟩ := thin_parts hr
    by_cases hf : h.fault = 0
    · have HF := Lib.hid hf
      have CF := fun x => law_fault_calls _ h (later W1 x) (H1.below (below_later W1 x)) hl4
      rw [hf] at CF
      have CF := Lib.hid CF
      have ht6 : (h.tickets.length : Int) ≤ 6 := by have := (small_iff.1 (fault_zero hf).1).2.1; omega
      have hE0 : ∀ d, d ≠ 0 → h.askE d = d := fun d hd => by simp [Hs.askE, hf, hd]
      rcases clash_wants (h := h) a b with ⟨i1, hd⟩ | ⟨i1, i2, hd⟩ | ⟨i1, i2, i3, hd⟩ | ⟨i1, i2, i3, hd⟩
      · have hE : h.clashE a b = 2 := by rw [Hs.clashE, hd]; exact hE0 2 (by decide)
        have hV : h.clashV a b = 0 := by rw [Hs.clashV, hE]; rfl
        have HA := Lib.hid (show ∃ X, h.askE 0 = X from ⟨_, rfl⟩)
        have HE := Lib.hid hE
        have HV := Lib.hid hV
        clear hf hE0 hd hE hV
        go_enter Try.func5, Try.ntmps5
        go_wp2_with (fail)
        rw [← hW1]
        clear hW1
        refine (thin_calls _ h _ H1).mono ?_
        (rintro e w' hr; first | ((with_reducible replace hr := Ret.up hr); obtain ⟨rfl, z, rfl⟩ := hr) | (obtain ⟨rfl, z, rfl⟩ := hr))
        go_wp2_with (fail)
        refine (house_calls _ h _ (H1.below (below_later _ _)) hl2 hl3 hl4).mono ?_
        rintro e w' hr
        replace hr := RetHs.up hr
        obtain ⟨v, rfl, ⟨z, rfl⟩, HH⟩ := hr
        go_wp2_with (fail)
        have CA := clash_all_calls v h a b _ HH
        rw [HE.out, HV.out] at CA
        refine CA.mono ?_
        clear CA HH
        (rintro e w' hr; first | ((with_reducible replace hr := Ret.up hr); obtain ⟨rfl, z, rfl⟩ := hr) | (obtain ⟨rfl, z, rfl⟩ := hr))
        go_wp2_with (fail)
        have CS := sure_calls _ h (later W1 z) (H1.below (below_later W1 z)) hl4
        refine CS.mono ?_
        clear CS
        (rintro e w' hr; replace hr := RetSure.up hr; obtain ⟨B, d, rfl, ⟨z, rfl⟩, -⟩ := hr)
        go_wp2_with (fail)
        refine (CF.out z).mono ?_
        (rintro e w' hr; first | ((with_reducible replace hr := Ret.up hr); obtain ⟨rfl, z, rfl⟩ := hr) | (obtain ⟨rfl, z, rfl⟩ := hr))
        go_wp2_with (first | (go_at_call 37; refine (refin_calls _ _ _ _).mono ?_; (rintro e w' hr; first | ((with_reducible replace hr := Ret.up hr); obtain ⟨rfl, z, rfl⟩ := hr) | (obtain ⟨rfl, z, rfl⟩ := hr))) | (go_at_call 23; refine (awake_calls _).mono ?_; (rintro e w' hr; first | ((with_reducible replace hr := Ret.up hr); obtain ⟨rfl, z, rfl⟩ := hr) | (obtain ⟨rfl, z, rfl⟩ := hr))))
        go_ret
        exact ret_mk rfl (later_below hb1 hb1.size)
      · have hE : h.clashE a b = 2 := by rw [Hs.clashE, hd]; exact hE0 2 (by decide)
        have hV : h.clashV a b = 0 := by rw [Hs.clashV, hE]; rfl
        have HA := Lib.hid (show ∃ X, h.askE 0 = X from ⟨_, rfl⟩)
        have HE := Lib.hid hE
        have HV := Lib.hid hV
        clear hf hE0 hd hE hV
        go_enter Try.func5, Try.ntmps5
        go_wp2_with (fail)
        rw [← hW1]
        clear hW1
        refine (thin_calls _ h _ H1).mono ?_
        (rintro e w' hr; first | ((with_reducible replace hr := Ret.up hr); obtain ⟨rfl, z, rfl⟩ := hr) | (obtain ⟨rfl, z, rfl⟩ := hr))
        go_wp2_with (fail)
        refine (house_calls _ h _ (H1.below (below_later _ _)) hl2 hl3 hl4).mono ?_
        rintro e w' hr
        replace hr := RetHs.up hr
        obtain ⟨v, rfl, ⟨z, rfl⟩, HH⟩ := hr
        go_wp2_with (fail)
        have CA := clash_all_calls v h a b _ HH
        rw [HE.out, HV.out] at CA
        refine CA.mono ?_
        clear CA HH
        (rintro e w' hr; first | ((with_reducible replace hr := Ret.up hr); obtain ⟨rfl, z, rfl⟩ := hr) | (obtain ⟨rfl, z, rfl⟩ := hr))
        go_wp2_with (fail)
        have CS := sure_calls _ h (later W1 z) (H1.below (below_later W1 z)) hl4
        refine CS.mono ?_
        clear CS
        (rintro e w' hr; replace hr := RetSure.up hr; obtain ⟨B, d, rfl, ⟨z, rfl⟩, -⟩ := hr)
        go_wp2_with (fail)
        refine (CF.out z).mono ?_
        (rintro e w' hr; first | ((with_reducible replace hr := Ret.up hr); obtain ⟨rfl, z, rfl⟩ := hr) | (obtain ⟨rfl, z, rfl⟩ := hr))
        go_wp2_with (first | (go_at_call 37; refine (refin_calls _ _ _ _).mono ?_; (rintro e w' hr; first | ((with_reducible replace hr := Ret.up hr); obtain ⟨rfl, z, rfl⟩ := hr) | (obtain ⟨rfl, z, rfl⟩ := hr))) | (go_at_call 23; refine (awake_calls _).mono ?_; (rintro e w' hr; first | ((with_reducible replace hr := Ret.up hr); obtain ⟨rfl, z, rfl⟩ := hr) | (obtain ⟨rfl, z, rfl⟩ := hr))))
        go_ret
        exact ret_mk rfl (later_below hb1 hb1.size)
      · have hE : h.clashE a b = 6 := by rw [Hs.clashE, hd]; exact hE0 6 (by decide)
        have hV : h.clashV a b = 0 := by rw [Hs.clashV, hE]; rfl
        have HA := Lib.hid (show ∃ X, h.askE 0 = X from ⟨_, rfl⟩)
        have HE := Lib.hid hE
        have HV := Lib.hid hV
        clear hf hE0 hd hE hV
        go_enter Try.func5, Try.ntmps5
        go_wp2_with (fail)
        rw [← hW1]
        clear hW1
        refine (thin_calls _ h _ H1).mono ?_
        (rintro e w' hr; first | ((with_reducible replace hr := Ret.up hr); obtain ⟨rfl, z, rfl⟩ := hr) | (obtain ⟨rfl, z, rfl⟩ := hr))
        go_wp2_with (fail)
        refine (house_calls _ h _ (H1.below (below_later _ _)) hl2 hl3 hl4).mono ?_
        rintro e w' hr
        replace hr := RetHs.up hr
        obtain ⟨v, rfl, ⟨z, rfl⟩, HH⟩ := hr
        go_wp2_with (fail)
        have CA := clash_all_calls v h a b _ HH
        rw [HE.out, HV.out] at CA
        refine CA.mono ?_
        clear CA HH
        (rintro e w' hr; first | ((with_reducible replace hr := Ret.up hr); obtain ⟨rfl, z, rfl⟩ := hr) | (obtain ⟨rfl, z, rfl⟩ := hr))
        go_wp2_with (fail)
        have CS := sure_calls _ h (later W1 z) (H1.below (below_later W1 z)) hl4
        refine CS.mono ?_
        clear CS
        (rintro e w' hr; replace hr := RetSure.up hr; obtain ⟨B, d, rfl, ⟨z, rfl⟩, -⟩ := hr)
        go_wp2_with (fail)
        refine (CF.out z).mono ?_
        (rintro e w' hr; first | ((with_reducible replace hr := Ret.up hr); obtain ⟨rfl, z, rfl⟩ := hr) | (obtain ⟨rfl, z, rfl⟩ := hr))
        go_wp2_with (first | (go_at_call 37; refine (refin_calls _ _ _ _).mono ?_; (rintro e w' hr; first | ((with_reducible replace hr := Ret.up hr); obtain ⟨rfl, z, rfl⟩ := hr) | (obtain ⟨rfl, z, rfl⟩ := hr))) | (go_at_call 23; refine (awake_calls _).mono ?_; (rintro e w' hr; first | ((with_reducible replace hr := Ret.up hr); obtain ⟨rfl, z, rfl⟩ := hr) | (obtain ⟨rfl, z, rfl⟩ := hr))))
        go_ret
        exact ret_mk rfl (later_below hb1 hb1.size)
      · by_cases ha : h.askE 0 = 0
        · have hE : h.clashE a b = 0 := by rw [Hs.clashE, hd]; exact ha
          obtain ⟨a1, a2⟩ := inB_iff.1 i1
          obtain ⟨b1, b2⟩ := inB_iff.1 i2
          obtain ⟨x, rfl⟩ : ∃ x : Nat, a = (x : Int) := ⟨a.toNat, by omega⟩
          obtain ⟨y, rfl⟩ : ∃ y : Nat, b = (y : Int) := ⟨b.toNat, by omega⟩
          have hx : x < h.tickets.length := by omega
          have hy : y < h.tickets.length := by omega
          have hV : h.clashV (x : Int) (y : Int) = verdictR h.truR (fun e => h.clashB e x y) := by
            rw [verdict_R (mem_truR hf), Hs.clashV, if_pos hE]
            simp
          have hS : h.sureL = h.truR := by rw [Hs.sureL, if_pos ha]
          have HA := Lib.hid ha
          have HE := Lib.hid hE
          have HV := Lib.hid hV
          have HS := Lib.hid hS
          clear hf hE0 hd ha hE hV hS a1 a2 b1 b2
          go_enter Try.func5, Try.ntmps5
          go_wp2_with (fail)
          rw [← hW1]
          clear hW1
          refine (thin_calls _ h _ H1).mono ?_
          (rintro e w' hr; first | ((with_reducible replace hr := Ret.up hr); obtain ⟨rfl, z, rfl⟩ := hr) | (obtain ⟨rfl, z, rfl⟩ := hr))
          go_wp2_with (fail)
          refine (house_calls _ h _ (H1.below (below_later _ _)) hl2 hl3 hl4).mono ?_
          rintro e w' hr
          replace hr := RetHs.up hr
          obtain ⟨v, rfl, ⟨z, rfl⟩, HH⟩ := hr
          go_wp2_with (fail)
          have CA := clash_all_calls v h x y _ HH
          rw [HE.out, HV.out] at CA
          refine CA.mono ?_
          clear CA HH
          (rintro e w' hr; first | ((with_reducible replace hr := Ret.up hr); obtain ⟨rfl, z, rfl⟩ := hr) | (obtain ⟨rfl, z, rfl⟩ := hr))
          go_wp2_with (fail)
          have CS := sure_calls _ h (later W1 z) (H1.below (below_later W1 z)) hl4
          rw [HA.out, HS.out] at CS
          refine CS.mono ?_
          clear CS
          (rintro e w' hr; replace hr := RetSure.up hr; obtain ⟨B, d, rfl, ⟨z, rfl⟩, hls⟩ := hr)
          have HLS := Lib.hid hls
          clear hls
          go_wp2_with (fail)
          refine (CF.out z).mono ?_
          rintro e w' ⟨rfl, z2, rfl⟩
          obtain ⟨W2, hW2, hb2, HLS2⟩ : ∃ W2, W2 = later (later W1 z) z2 ∧ Below W1.heap.size W1 W2 ∧ Hid (LsAt W2 B d h.truR) := ⟨_, rfl, Below.trans (below_later W1 z) ((below_later _ _).mono (size_later W1 z)), Lib.hid (HLS.out.below (below_later _ _))⟩
          rw [← hW2]
          clear hW2 HLS
          have r0 := (hb2.cell (p := ⟨w.heap.size, 0, none⟩) hBl).trans q0
          have r1 := (hb2.cell (p := ⟨w.heap.size, 1, none⟩) hBl).trans q1
          have r2 := (hb2.cell (p := ⟨w.heap.size, 2, none⟩) hBl).trans q2
          have r3 := (hb2.cell (p := ⟨w.heap.size, 3, none⟩) hBl).trans q3
          have r4 := (hb2.cell (p := ⟨w.heap.size, 4, none⟩) hBl).trans q4
          have hBl2 := Nat.lt_of_lt_of_le hBl hb2.size
          go_wp2_with (fail)
          refine (refin_calls _ _ _ _).mono ?_
          (rintro e w' hr; first | ((with_reducible replace hr := Ret.up hr); obtain ⟨rfl, z, rfl⟩ := hr) | (obtain ⟨rfl, z, rfl⟩ := hr))
          go_wp2_with (fail)
          refine (refin_calls _ _ _ _).mono ?_
          (rintro e w' hr; first | ((with_reducible replace hr := Ret.up hr); obtain ⟨rfl, z, rfl⟩ := hr) | (obtain ⟨rfl, z, rfl⟩ := hr))
          go_wp2_with (fail)
          refine (refclashes_calls _ h B d h.truR x y _ (H1.below (hb2.trans ((below_later W2 _).mono hb2.size))) (HLS2.out.below (below_later W2 _)) (truR_errs HF.out) HF.out hx hy).mono ?_
          (rintro e w' hr; first | ((with_reducible replace hr := Ret.up hr); obtain ⟨rfl, z, rfl⟩ := hr) | (obtain ⟨rfl, z, rfl⟩ := hr))
          go_wp2_with (fail)
          refine (awake_calls _).mono ?_
          (rintro e w' hr; first | ((with_reducible replace hr := Ret.up hr); obtain ⟨rfl, z, rfl⟩ := hr) | (obtain ⟨rfl, z, rfl⟩ := hr))
          go_wp2
          go_ret
          exact ret_mk rfl (hb1.trans (Below.mono (later_below hb2 hb2.size) hb1.size))
        · have ha11 : h.askE 0 = 11 := ask_bad hf ha
          have hE : h.clashE a b = 11 := by rw [Hs.clashE, hd]; exact ha11
          have hV : h.clashV a b = 0 := by rw [Hs.clashV, hE]; rfl
          have HA := Lib.hid (show ∃ X, h.askE 0 = X from ⟨_, rfl⟩)
          have HE := Lib.hid hE
          have HV := Lib.hid hV
          clear hf hE0 hd hE hV
          go_enter Try.func5, Try.ntmps5
          go_wp2_with (fail)
          rw [← hW1]
          clear hW1
          refine (thin_calls _ h _ H1).mono ?_
          (rintro e w' hr; first | ((with_reducible replace hr := Ret.up hr); obtain ⟨rfl, z, rfl⟩ := hr) | (obtain ⟨rfl, z, rfl⟩ := hr))
          go_wp2_with (fail)
          refine (house_calls _ h _ (H1.below (below_later _ _)) hl2 hl3 hl4).mono ?_
          rintro e w' hr
          replace hr := RetHs.up hr
          obtain ⟨v, rfl, ⟨z, rfl⟩, HH⟩ := hr
          go_wp2_with (fail)
          have CA := clash_all_calls v h a b _ HH
          rw [HE.out, HV.out] at CA
          refine CA.mono ?_
          clear CA HH
          (rintro e w' hr; first | ((with_reducible replace hr := Ret.up hr); obtain ⟨rfl, z, rfl⟩ := hr) | (obtain ⟨rfl, z, rfl⟩ := hr))
          go_wp2_with (fail)
          have CS := sure_calls _ h (later W1 z) (H1.below (below_later W1 z)) hl4
          refine CS.mono ?_
          clear CS
          (rintro e w' hr; replace hr := RetSure.up hr; obtain ⟨B, d, rfl, ⟨z, rfl⟩, -⟩ := hr)
          go_wp2_with (fail)
          refine (CF.out z).mono ?_
          (rintro e w' hr; first | ((with_reducible replace hr := Ret.up hr); obtain ⟨rfl, z, rfl⟩ := hr) | (obtain ⟨rfl, z, rfl⟩ := hr))
          go_wp2_with (first | (go_at_call 37; refine (refin_calls _ _ _ _).mono ?_; (rintro e w' hr; first | ((with_reducible replace hr := Ret.up hr); obtain ⟨rfl, z, rfl⟩ := hr) | (obtain ⟨rfl, z, rfl⟩ := hr))) | (go_at_call 23; refine (awake_calls _).mono ?_; (rintro e w' hr; first | ((with_reducible replace hr := Ret.up hr); obtain ⟨rfl, z, rfl⟩ := hr) | (obtain ⟨rfl, z, rfl⟩ := hr))))
          go_ret
          exact ret_mk rfl (later_below hb1 hb1.size)
    · have hE : h.clashE a b = h.fault := ask_fault hf _
      have hV : h.clashV a b = 0 := by rw [Hs.clashV, hE, if_neg hf]
      have hS : h.sureL = [] := by rw [Hs.sureL, ask_fault hf, if_neg hf]
      have ha := ask_fault hf 0
      have CF := fun x => law_fault_calls _ h (later W1 x) (H1.below (below_later W1 x)) hl4
      obtain ⟨X, hX⟩ : ∃ X, X = h.fault := ⟨_, rfl⟩
      rw [← hX] at hf hE CF ha
      have hX1 : (X != 0) = true := by simpa using hf
      have hX2 : (X == 0) = false := by simpa using hf
      have CF := Lib.hid CF
      have HE := Lib.hid hE
      have HV := Lib.hid hV
      have HS := Lib.hid hS
      have HA := Lib.hid ha
      clear hf hE hV hS ha hX
      go_enter Try.func5, Try.ntmps5
      go_wp2_with (fail)
      rw [← hW1]
      clear hW1
      refine (thin_calls _ h _ H1).mono ?_
      (rintro e w' hr; first | ((with_reducible replace hr := Ret.up hr); obtain ⟨rfl, z, rfl⟩ := hr) | (obtain ⟨rfl, z, rfl⟩ := hr))
      go_wp2_with (fail)
      refine (house_calls _ h _ (H1.below (below_later _ _)) hl2 hl3 hl4).mono ?_
      rintro e w' hr
      replace hr := RetHs.up hr
      obtain ⟨v, rfl, ⟨z, rfl⟩, HH⟩ := hr
      go_wp2_with (fail)
      have CA := clash_all_calls v h a b _ HH
      rw [HE.out, HV.out] at CA
      refine CA.mono ?_
      clear CA HH
      (rintro e w' hr; first | ((with_reducible replace hr := Ret.up hr); obtain ⟨rfl, z, rfl⟩ := hr) | (obtain ⟨rfl, z, rfl⟩ := hr))
      go_wp2_with (fail)
      have CS := sure_calls _ h (later W1 z) (H1.below (below_later W1 z)) hl4
      rw [HA.out, HS.out] at CS
      refine CS.mono ?_
      clear CS
      (rintro e w' hr; replace hr := RetSure.up hr; obtain ⟨B, d, rfl, ⟨z, rfl⟩, -⟩ := hr)
      simp only [List.length_nil]
      go_wp2_with (fail)
      refine (CF.out z).mono ?_
      (rintro e w' hr; first | ((with_reducible replace hr := Ret.up hr); obtain ⟨rfl, z, rfl⟩ := hr) | (obtain ⟨rfl, z, rfl⟩ := hr))
      go_wp2_with (fail)
      refine (awake_calls _).mono ?_
      (rintro e w' hr; first | ((with_reducible replace hr := Ret.up hr); obtain ⟨rfl, z, rfl⟩ := hr) | (obtain ⟨rfl, z, rfl⟩ := hr))
      go_wp2
      go_ret
      exact ret_mk rfl (later_below hb1 hb1.size)
end Go.Proofs.Ytcngnfnljkkjgaa
