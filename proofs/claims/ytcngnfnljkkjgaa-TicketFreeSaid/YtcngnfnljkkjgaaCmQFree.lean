/-
TicketFree: the walk.
-/
import Derived.Test.YtcngnfnljkkjgaaCmS
namespace Go.Proofs.Ytcngnfnljkkjgaa
open Go.RowKit
attribute [local go_sem] cell_later frozen_later lt_later le_later

theorem thin_parts4 {h : Hs} (ht : h.thinB = true) : h.clocks.length ≤ 30 ∧ h.tickets.length ≤ 30 ∧ h.clips.length ≤ 30 := by
  obtain ⟨h1, h2, h3⟩ := thin_iff.1 ht
  exact ⟨by omega, by omega, by omega⟩
/-- What is wanted of a tub of a valid house. -/
theorem free_wants {h : Hs} (a : Int) : (inB a 0 8 = false ∧ h.freeDue a = 2) ∨ (inB a 0 8 = true ∧ h.openB a = true ∧ h.freeDue a = 8) ∨ (inB a 0 8 = true ∧ h.openB a = false ∧ h.freeDue a = 0) := by
  unfold Hs.freeDue
  cases inB a 0 8 <;> cases h.openB a <;> simp

theorem from_small {h : Hs} (hf : h.fault = 0) {e : List Int} (he : ErrOk e) (t : Int) : -1099511627776 ≤ h.fromB e t ∧ h.fromB e t ≤ 1099511627776 := by
  have key : ∀ k : Nat, -1099511627776 ≤ (List.range k).foldl (h.fromAt e t) 0 ∧ (List.range k).foldl (h.fromAt e t) 0 ≤ 1099511627776 := by
    intro k
    induction k with
    | zero => simp
    | succ k ih =>
      rw [from_step]
      obtain ⟨N, hN⟩ : ∃ N, N = (List.range k).foldl (h.fromAt e t) 0 := ⟨_, rfl⟩
      rw [← hN] at ih ⊢
      unfold Hs.fromAt
      split
      · split
        · next x hx hc =>
          obtain ⟨-, h2⟩ := hc
          have hb : ∀ c ∈ h.ofs (k : Int), -1100 ≤ tru e c ∧ tru e c ≤ 1100000 := by
            intro c hc
            have f0 := fault_clips hf (List.mem_filter.1 hc).1
            have b0 := err_bd he c.ck
            unfold tru
            omega
          have hm : (h.ofs (k : Int)).getD 1 ⟨0, 0, 0⟩ ∈ h.ofs (k : Int) := by
            rw [List.getD_eq_getElem?_getD, List.getElem?_eq_getElem (by omega)]
            exact List.getElem_mem _
          have := hb _ hm
          omega
        · exact ih
      · exact ih
  exact key _
theorem from_both {h : Hs} (ha : h.askE 0 = 0) (k : Int) : (loR h.truR fun e => h.fromB e k) = (loB h.truths fun e => h.fromB e k) ∧ (hiR h.truR fun e => h.fromB e k) = (hiB h.truths fun e => h.fromB e k) := by
  obtain ⟨hf, -, hne⟩ := askE_zero ha
  exact bounds_R (mem_truR hf) hne (fun e he => from_small hf (truth_ok hf he) _)

set_option maxRecDepth 100000 in
set_option maxHeartbeats 4000000 in
theorem lawfree_calls (v : Value) (h : Hs) (a : Int) (w : World) (H : HsAt w v h) :
    Calls Try.prog 6 #[v, .int .i64 a] w (Ret (.bool true) w) := by
  have H0 := H
  obtain ⟨A2, c2, A3, c3, A4, c4, rfl, H2, H3, H4⟩ := H
  obtain ⟨W1, hW1⟩ : ∃ W1, W1 = w.alloc (.cells #[.int .i64 h.hour, .int .i64 h.grace, .slice A2 h.clocks.length c2, .slice A3 h.tickets.length c3, .slice A4 h.clips.length c4] 26) := ⟨_, rfl⟩
  have hb1 : Below w.heap.size w W1 := by rw [hW1]; exact gA (Below.refl _ _)
  have hB : BlkAt W1 w.heap.size 26 [.int .i64 h.hour, .int .i64 h.grace, .slice A2 h.clocks.length c2, .slice A3 h.tickets.length c3, .slice A4 h.clips.length c4] := by rw [hW1]; exact BlkAt.new _ _ _
  have H1 := H0.below hb1
  have q0 := hB.cell 0
  have q1 := hB.cell 1
  have q2 := hB.cell 2
  have q3 := hB.cell 3
  have q4 := hB.cell 4
  simp only [List.getElem?_cons_zero, List.getElem?_cons_succ] at q0 q1 q2 q3 q4
  have hBl := hB.lt
  cases hr : h.thinB with
  | false =>
    go_enter Try.func6, Try.ntmps6
    go_wp2_with (fail)
    rw [← hW1]
    clear hW1
    refine (thin_calls _ h _ H1).mono ?_
    (rintro e w' hr; first | ((with_reducible replace hr := Ret.up hr); obtain ⟨rfl, z, rfl⟩ := hr) | (obtain ⟨rfl, z, rfl⟩ := hr))
    go_wp2_with (fail)
    refine (awake_calls _).mono ?_
    (rintro e w' hr; first | ((with_reducible replace hr := Ret.up hr); obtain ⟨rfl, z, rfl⟩ := hr) | (obtain ⟨rfl, z, rfl⟩ := hr))
    go_wp2
    go_ret
    exact ret_mk rfl (later_below hb1 hb1.size)
  | true =>
    obtain ⟨hl2', hl3', hl4'⟩ := thin_parts4 hr
    have hl2 : h.clocks.length ≤ 1000 := by omega
    have hl3 : h.tickets.length ≤ 1000 := by omega
    have hl4 : h.clips.length ≤ 1000 := by omega
    by_cases hf : h.fault = 0
    · have hE0 : ∀ d, d ≠ 0 → h.askE d = d := fun d hd => by simp [Hs.askE, hf, hd]
      rcases free_wants (h := h) a with ⟨i1, hd⟩ | ⟨i1, i2, hd⟩ | ⟨i1, i2, hd⟩
      · have hE : h.freeE a = 2 := by rw [Hs.freeE, hd]; exact hE0 2 (by decide)
        have hV : h.freeV a = ⟨0, 0⟩ := by rw [Hs.freeV, hE]; rfl
        clear hE0 hd
        have HE := Lib.hid hE
        have HV := Lib.hid hV
        have HA := Lib.hid (show ∃ X, h.askE 0 = X from ⟨_, rfl⟩)
        have HF := Lib.hid hf
        clear hf hE hV
        go_enter Try.func6, Try.ntmps6
        go_wp2_with (fail)
        rw [← hW1]
        clear hW1
        refine (thin_calls _ h _ H1).mono ?_
        (rintro e w' hr; first | ((with_reducible replace hr := Ret.up hr); obtain ⟨rfl, z, rfl⟩ := hr) | (obtain ⟨rfl, z, rfl⟩ := hr))
        go_wp2_with (fail)
        refine (house_calls _ h _ (H1.below (below_later _ _)) hl2 hl3 hl4).mono ?_
        rintro e w' hr
        replace hr := RetHs.up hr
        obtain ⟨v, rfl, ⟨z, rfl⟩, HH⟩ := hr
        go_wp2_with (fail)
        have CA := free_calls v h a _ HH hl4 hl3'
        rw [HE.out, HV.out] at CA
        refine CA.mono ?_
        clear CA HH
        (rintro e w' hr; first | ((with_reducible replace hr := Ret.up hr); obtain ⟨rfl, z, rfl⟩ := hr) | (obtain ⟨rfl, z, rfl⟩ := hr))
        go_wp2_with (fail)
        obtain ⟨W2, hW2⟩ : ∃ W2, W2 = (later W1 z).alloc (.cells #[.int .i64 0, .int .i64 0] 42) := ⟨_, rfl⟩
        obtain ⟨K, hK⟩ : ∃ K, K = (later W1 z).heap.size := ⟨_, rfl⟩
        have hb2 : Below W1.heap.size W1 W2 := by rw [hW2]; exact gA (below_later W1 z)
        have hBR : BlkAt W2 K 42 [.int .i64 0, .int .i64 0] := by rw [hW2, hK]; exact BlkAt.new _ _ _
        rw [← hW2, ← hK]
        clear hW2 hK
        have CS := sure_calls _ h W2 (H1.below hb2) hl4
        skip
        refine CS.mono ?_
        clear CS
        (rintro e w' hr; obtain ⟨B, d, rfl, ⟨z9, rfl⟩, hls⟩ := hr)
        obtain ⟨W3, hW3⟩ : ∃ W3, W3 = later W2 z9 := ⟨_, rfl⟩
        have hb32 : Below W2.heap.size W2 W3 := by rw [hW3]; exact below_later W2 z9
        have hb3 : Below W1.heap.size W1 W3 := hb2.trans (hb32.mono hb2.size)
        rw [← hW3] at hls ⊢
        clear hW3
        have HLS := Lib.hid hls
        clear hls
        have t0 := (hb32.cell (p := ⟨K, 0, none⟩) hBR.lt).trans (hBR.cell 0)
        have t1 := (hb32.cell (p := ⟨K, 1, none⟩) hBR.lt).trans (hBR.cell 1)
        have hKl := Nat.lt_of_lt_of_le hBR.lt hb32.size
        simp only [List.getElem?_cons_zero, List.getElem?_cons_succ] at t0 t1
        have r0 := (hb3.cell (p := ⟨w.heap.size, 0, none⟩) hBl).trans q0
        have r1 := (hb3.cell (p := ⟨w.heap.size, 1, none⟩) hBl).trans q1
        have r2 := (hb3.cell (p := ⟨w.heap.size, 2, none⟩) hBl).trans q2
        have r3 := (hb3.cell (p := ⟨w.heap.size, 3, none⟩) hBl).trans q3
        have r4 := (hb3.cell (p := ⟨w.heap.size, 4, none⟩) hBl).trans q4
        have hBl3 := Nat.lt_of_lt_of_le hBl hb3.size
        clear q0 q1 q2 q3 q4 hBR
        go_wp2_with (fail)
        refine (law_fault_calls _ h W3 (H1.below hb3) hl4).mono ?_
        rw [HF.out]
        (rintro e w' hr; first | ((with_reducible replace hr := Ret.up hr); obtain ⟨rfl, z, rfl⟩ := hr) | (obtain ⟨rfl, z, rfl⟩ := hr))
        go_wp2_with (fail)
        refine (refin_calls _ _ _ _).mono ?_
        rw [i1]
        (rintro e w' hr; first | ((with_reducible replace hr := Ret.up hr); obtain ⟨rfl, z, rfl⟩ := hr) | (obtain ⟨rfl, z, rfl⟩ := hr))
        go_wp2_with (fail)
        refine (awake_calls _).mono ?_
        (rintro e w' hr; first | ((with_reducible replace hr := Ret.up hr); obtain ⟨rfl, z, rfl⟩ := hr) | (obtain ⟨rfl, z, rfl⟩ := hr))
        go_wp2
        go_ret
        exact ret_mk rfl (hb1.trans (Below.mono (later_below hb3 hb3.size) hb1.size))
      · have hE : h.freeE a = 8 := by rw [Hs.freeE, hd]; exact hE0 8 (by decide)
        have hV : h.freeV a = ⟨0, 0⟩ := by rw [Hs.freeV, hE]; rfl
        clear hE0 hd
        have HE := Lib.hid hE
        have HV := Lib.hid hV
        have HA := Lib.hid (show ∃ X, h.askE 0 = X from ⟨_, rfl⟩)
        have HF := Lib.hid hf
        clear hf hE hV
        go_enter Try.func6, Try.ntmps6
        go_wp2_with (fail)
        rw [← hW1]
        clear hW1
        refine (thin_calls _ h _ H1).mono ?_
        (rintro e w' hr; first | ((with_reducible replace hr := Ret.up hr); obtain ⟨rfl, z, rfl⟩ := hr) | (obtain ⟨rfl, z, rfl⟩ := hr))
        go_wp2_with (fail)
        refine (house_calls _ h _ (H1.below (below_later _ _)) hl2 hl3 hl4).mono ?_
        rintro e w' hr
        replace hr := RetHs.up hr
        obtain ⟨v, rfl, ⟨z, rfl⟩, HH⟩ := hr
        go_wp2_with (fail)
        have CA := free_calls v h a _ HH hl4 hl3'
        rw [HE.out, HV.out] at CA
        refine CA.mono ?_
        clear CA HH
        (rintro e w' hr; first | ((with_reducible replace hr := Ret.up hr); obtain ⟨rfl, z, rfl⟩ := hr) | (obtain ⟨rfl, z, rfl⟩ := hr))
        go_wp2_with (fail)
        obtain ⟨W2, hW2⟩ : ∃ W2, W2 = (later W1 z).alloc (.cells #[.int .i64 0, .int .i64 0] 42) := ⟨_, rfl⟩
        obtain ⟨K, hK⟩ : ∃ K, K = (later W1 z).heap.size := ⟨_, rfl⟩
        have hb2 : Below W1.heap.size W1 W2 := by rw [hW2]; exact gA (below_later W1 z)
        have hBR : BlkAt W2 K 42 [.int .i64 0, .int .i64 0] := by rw [hW2, hK]; exact BlkAt.new _ _ _
        rw [← hW2, ← hK]
        clear hW2 hK
        have CS := sure_calls _ h W2 (H1.below hb2) hl4
        skip
        refine CS.mono ?_
        clear CS
        (rintro e w' hr; obtain ⟨B, d, rfl, ⟨z9, rfl⟩, hls⟩ := hr)
        obtain ⟨W3, hW3⟩ : ∃ W3, W3 = later W2 z9 := ⟨_, rfl⟩
        have hb32 : Below W2.heap.size W2 W3 := by rw [hW3]; exact below_later W2 z9
        have hb3 : Below W1.heap.size W1 W3 := hb2.trans (hb32.mono hb2.size)
        rw [← hW3] at hls ⊢
        clear hW3
        have HLS := Lib.hid hls
        clear hls
        have t0 := (hb32.cell (p := ⟨K, 0, none⟩) hBR.lt).trans (hBR.cell 0)
        have t1 := (hb32.cell (p := ⟨K, 1, none⟩) hBR.lt).trans (hBR.cell 1)
        have hKl := Nat.lt_of_lt_of_le hBR.lt hb32.size
        simp only [List.getElem?_cons_zero, List.getElem?_cons_succ] at t0 t1
        have r0 := (hb3.cell (p := ⟨w.heap.size, 0, none⟩) hBl).trans q0
        have r1 := (hb3.cell (p := ⟨w.heap.size, 1, none⟩) hBl).trans q1
        have r2 := (hb3.cell (p := ⟨w.heap.size, 2, none⟩) hBl).trans q2
        have r3 := (hb3.cell (p := ⟨w.heap.size, 3, none⟩) hBl).trans q3
        have r4 := (hb3.cell (p := ⟨w.heap.size, 4, none⟩) hBl).trans q4
        have hBl3 := Nat.lt_of_lt_of_le hBl hb3.size
        clear q0 q1 q2 q3 q4 hBR
        go_wp2_with (fail)
        refine (law_fault_calls _ h W3 (H1.below hb3) hl4).mono ?_
        rw [HF.out]
        (rintro e w' hr; first | ((with_reducible replace hr := Ret.up hr); obtain ⟨rfl, z, rfl⟩ := hr) | (obtain ⟨rfl, z, rfl⟩ := hr))
        go_wp2_with (fail)
        refine (refin_calls _ _ _ _).mono ?_
        rw [i1]
        (rintro e w' hr; first | ((with_reducible replace hr := Ret.up hr); obtain ⟨rfl, z, rfl⟩ := hr) | (obtain ⟨rfl, z, rfl⟩ := hr))
        go_wp2_with (fail)
        refine (refopen_calls _ h a _ (H1.below (hb3.trans ((below_later W3 _).mono hb3.size))) hl4 hl3).mono ?_
        rw [i2]
        (rintro e w' hr; first | ((with_reducible replace hr := Ret.up hr); obtain ⟨rfl, z, rfl⟩ := hr) | (obtain ⟨rfl, z, rfl⟩ := hr))
        go_wp2_with (fail)
        refine (awake_calls _).mono ?_
        (rintro e w' hr; first | ((with_reducible replace hr := Ret.up hr); obtain ⟨rfl, z, rfl⟩ := hr) | (obtain ⟨rfl, z, rfl⟩ := hr))
        go_wp2
        go_ret
        exact ret_mk rfl (hb1.trans (Below.mono (later_below hb3 hb3.size) hb1.size))
      · by_cases ha : h.askE 0 = 0
        · have hE : h.freeE a = 0 := by rw [Hs.freeE, hd]; exact ha
          have hV : h.freeV a = ⟨loR h.truR fun e => h.fromB e a, hiR h.truR fun e => h.fromB e a⟩ := by
            rw [Hs.freeV, if_pos hE, (from_both ha a).1, (from_both ha a).2]
          have hS : h.sureL = h.truR := by rw [Hs.sureL, if_pos ha]
          have HE := Lib.hid hE
          have HV := Lib.hid hV
          have HA := Lib.hid ha
          have HS := Lib.hid hS
          have HF := Lib.hid hf
          clear hf hE hV hE0 hd ha hS
          go_enter Try.func6, Try.ntmps6
          go_wp2_with (fail)
          rw [← hW1]
          clear hW1
          refine (thin_calls _ h _ H1).mono ?_
          (rintro e w' hr; first | ((with_reducible replace hr := Ret.up hr); obtain ⟨rfl, z, rfl⟩ := hr) | (obtain ⟨rfl, z, rfl⟩ := hr))
          go_wp2_with (fail)
          refine (house_calls _ h _ (H1.below (below_later _ _)) hl2 hl3 hl4).mono ?_
          rintro e w' hr
          replace hr := RetHs.up hr
          obtain ⟨v, rfl, ⟨z, rfl⟩, HH⟩ := hr
          go_wp2_with (fail)
          have CA := free_calls v h a _ HH hl4 hl3'
          rw [HE.out, HV.out] at CA
          refine CA.mono ?_
          clear CA HH
          (rintro e w' hr; first | ((with_reducible replace hr := Ret.up hr); obtain ⟨rfl, z, rfl⟩ := hr) | (obtain ⟨rfl, z, rfl⟩ := hr))
          go_wp2_with (fail)
          obtain ⟨W2, hW2⟩ : ∃ W2, W2 = (later W1 z).alloc (.cells #[.int .i64 (loR h.truR fun e => h.fromB e a), .int .i64 (hiR h.truR fun e => h.fromB e a)] 42) := ⟨_, rfl⟩
          obtain ⟨K, hK⟩ : ∃ K, K = (later W1 z).heap.size := ⟨_, rfl⟩
          have hb2 : Below W1.heap.size W1 W2 := by rw [hW2]; exact gA (below_later W1 z)
          have hBR : BlkAt W2 K 42 [.int .i64 (loR h.truR fun e => h.fromB e a), .int .i64 (hiR h.truR fun e => h.fromB e a)] := by rw [hW2, hK]; exact BlkAt.new _ _ _
          rw [← hW2, ← hK]
          clear hW2 hK
          have CS := sure_calls _ h W2 (H1.below hb2) hl4
          rw [HA.out, HS.out] at CS
          refine CS.mono ?_
          clear CS
          (rintro e w' hr; obtain ⟨B, d, rfl, ⟨z9, rfl⟩, hls⟩ := hr)
          obtain ⟨W3, hW3⟩ : ∃ W3, W3 = later W2 z9 := ⟨_, rfl⟩
          have hb32 : Below W2.heap.size W2 W3 := by rw [hW3]; exact below_later W2 z9
          have hb3 : Below W1.heap.size W1 W3 := hb2.trans (hb32.mono hb2.size)
          rw [← hW3] at hls ⊢
          clear hW3
          have HLS := Lib.hid hls
          clear hls
          have t0 := (hb32.cell (p := ⟨K, 0, none⟩) hBR.lt).trans (hBR.cell 0)
          have t1 := (hb32.cell (p := ⟨K, 1, none⟩) hBR.lt).trans (hBR.cell 1)
          have hKl := Nat.lt_of_lt_of_le hBR.lt hb32.size
          simp only [List.getElem?_cons_zero, List.getElem?_cons_succ] at t0 t1
          have r0 := (hb3.cell (p := ⟨w.heap.size, 0, none⟩) hBl).trans q0
          have r1 := (hb3.cell (p := ⟨w.heap.size, 1, none⟩) hBl).trans q1
          have r2 := (hb3.cell (p := ⟨w.heap.size, 2, none⟩) hBl).trans q2
          have r3 := (hb3.cell (p := ⟨w.heap.size, 3, none⟩) hBl).trans q3
          have r4 := (hb3.cell (p := ⟨w.heap.size, 4, none⟩) hBl).trans q4
          have hBl3 := Nat.lt_of_lt_of_le hBl hb3.size
          clear q0 q1 q2 q3 q4 hBR
          go_wp2_with (fail)
          refine (law_fault_calls _ h W3 (H1.below hb3) hl4).mono ?_
          rw [HF.out]
          (rintro e w' hr; first | ((with_reducible replace hr := Ret.up hr); obtain ⟨rfl, z, rfl⟩ := hr) | (obtain ⟨rfl, z, rfl⟩ := hr))
          go_wp2_with (fail)
          refine (refin_calls _ _ _ _).mono ?_
          rw [i1]
          (rintro e w' hr; first | ((with_reducible replace hr := Ret.up hr); obtain ⟨rfl, z, rfl⟩ := hr) | (obtain ⟨rfl, z, rfl⟩ := hr))
          go_wp2_with (fail)
          refine (refopen_calls _ h a _ (H1.below (hb3.trans ((below_later W3 _).mono hb3.size))) hl4 hl3).mono ?_
          rw [i2]
          (rintro e w' hr; first | ((with_reducible replace hr := Ret.up hr); obtain ⟨rfl, z, rfl⟩ := hr) | (obtain ⟨rfl, z, rfl⟩ := hr))
          obtain ⟨W4, hW4⟩ : ∃ W4, W4 = later W3 z := ⟨_, rfl⟩
          have hb43 : Below W3.heap.size W3 W4 := by rw [hW4]; exact below_later W3 z
          have hb4 : Below W1.heap.size W1 W4 := hb3.trans (hb43.mono hb3.size)
          rw [← hW4]
          clear hW4
          have C0 := Lib.hid (fun x => reffree_calls _ h B d h.truR a (later W4 x) (H1.below (hb4.trans ((below_later W4 x).mono hb4.size))) (HLS.out.below (hb43.trans ((below_later W4 x).mono hb43.size))) (truR_errs HF.out) HF.out)
          have C1 := Lib.hid (fun x => to_calls (loR h.truR fun e => h.fromB e a) (hiR h.truR fun e => h.fromB e a) (later W4 x))
          have s0 := (hb43.cell (p := ⟨w.heap.size, 0, none⟩) hBl3).trans r0
          have s1 := (hb43.cell (p := ⟨w.heap.size, 1, none⟩) hBl3).trans r1
          have s2 := (hb43.cell (p := ⟨w.heap.size, 2, none⟩) hBl3).trans r2
          have s3 := (hb43.cell (p := ⟨w.heap.size, 3, none⟩) hBl3).trans r3
          have s4 := (hb43.cell (p := ⟨w.heap.size, 4, none⟩) hBl3).trans r4
          have u0 := (hb43.cell (p := ⟨K, 0, none⟩) hKl).trans t0
          have u1 := (hb43.cell (p := ⟨K, 1, none⟩) hKl).trans t1
          have hBl4 := Nat.lt_of_lt_of_le hBl3 hb43.size
          have hKl4 := Nat.lt_of_lt_of_le hKl hb43.size
          clear r0 r1 r2 r3 r4 t0 t1
          go_wp2
          refine region_later (by kernel_rfl) (by kernel_rfl) ?_
          repeat (go_big_quiet_step (first | with_reducible exact quiet_ret (C0.out _) | with_reducible exact quiet_ret (C1.out _) | with_reducible exact quiet_ret (awake_calls _)))
          refine wpQuiet_nil ?_
          rintro W' ⟨u, rfl⟩
          go_wp2
          go_ret
          exact ret_mk rfl (hb1.trans (Below.mono (later_below hb4 hb4.size) hb1.size))
        · have ha11 : h.askE 0 = 11 := ask_bad hf ha
          have hE : h.freeE a = 11 := by rw [Hs.freeE, hd]; exact ha11
          have hV : h.freeV a = ⟨0, 0⟩ := by rw [Hs.freeV, hE]; rfl
          have HE := Lib.hid hE
          have HV := Lib.hid hV
          have HA := Lib.hid ha11
          have HF := Lib.hid hf
          clear hf hE hV hE0 hd ha ha11
          go_enter Try.func6, Try.ntmps6
          go_wp2_with (fail)
          rw [← hW1]
          clear hW1
          refine (thin_calls _ h _ H1).mono ?_
          (rintro e w' hr; first | ((with_reducible replace hr := Ret.up hr); obtain ⟨rfl, z, rfl⟩ := hr) | (obtain ⟨rfl, z, rfl⟩ := hr))
          go_wp2_with (fail)
          refine (house_calls _ h _ (H1.below (below_later _ _)) hl2 hl3 hl4).mono ?_
          rintro e w' hr
          replace hr := RetHs.up hr
          obtain ⟨v, rfl, ⟨z, rfl⟩, HH⟩ := hr
          go_wp2_with (fail)
          have CA := free_calls v h a _ HH hl4 hl3'
          rw [HE.out, HV.out] at CA
          refine CA.mono ?_
          clear CA HH
          (rintro e w' hr; first | ((with_reducible replace hr := Ret.up hr); obtain ⟨rfl, z, rfl⟩ := hr) | (obtain ⟨rfl, z, rfl⟩ := hr))
          go_wp2_with (fail)
          obtain ⟨W2, hW2⟩ : ∃ W2, W2 = (later W1 z).alloc (.cells #[.int .i64 0, .int .i64 0] 42) := ⟨_, rfl⟩
          obtain ⟨K, hK⟩ : ∃ K, K = (later W1 z).heap.size := ⟨_, rfl⟩
          have hb2 : Below W1.heap.size W1 W2 := by rw [hW2]; exact gA (below_later W1 z)
          have hBR : BlkAt W2 K 42 [.int .i64 0, .int .i64 0] := by rw [hW2, hK]; exact BlkAt.new _ _ _
          rw [← hW2, ← hK]
          clear hW2 hK
          have CS := sure_calls _ h W2 (H1.below hb2) hl4
          rw [HA.out] at CS
          refine CS.mono ?_
          clear CS
          (rintro e w' hr; obtain ⟨B, d, rfl, ⟨z9, rfl⟩, hls⟩ := hr)
          obtain ⟨W3, hW3⟩ : ∃ W3, W3 = later W2 z9 := ⟨_, rfl⟩
          have hb32 : Below W2.heap.size W2 W3 := by rw [hW3]; exact below_later W2 z9
          have hb3 : Below W1.heap.size W1 W3 := hb2.trans (hb32.mono hb2.size)
          rw [← hW3] at hls ⊢
          clear hW3
          have HLS := Lib.hid hls
          clear hls
          have t0 := (hb32.cell (p := ⟨K, 0, none⟩) hBR.lt).trans (hBR.cell 0)
          have t1 := (hb32.cell (p := ⟨K, 1, none⟩) hBR.lt).trans (hBR.cell 1)
          have hKl := Nat.lt_of_lt_of_le hBR.lt hb32.size
          simp only [List.getElem?_cons_zero, List.getElem?_cons_succ] at t0 t1
          have r0 := (hb3.cell (p := ⟨w.heap.size, 0, none⟩) hBl).trans q0
          have r1 := (hb3.cell (p := ⟨w.heap.size, 1, none⟩) hBl).trans q1
          have r2 := (hb3.cell (p := ⟨w.heap.size, 2, none⟩) hBl).trans q2
          have r3 := (hb3.cell (p := ⟨w.heap.size, 3, none⟩) hBl).trans q3
          have r4 := (hb3.cell (p := ⟨w.heap.size, 4, none⟩) hBl).trans q4
          have hBl3 := Nat.lt_of_lt_of_le hBl hb3.size
          clear q0 q1 q2 q3 q4 hBR
          go_wp2_with (fail)
          refine (law_fault_calls _ h W3 (H1.below hb3) hl4).mono ?_
          rw [HF.out]
          (rintro e w' hr; first | ((with_reducible replace hr := Ret.up hr); obtain ⟨rfl, z, rfl⟩ := hr) | (obtain ⟨rfl, z, rfl⟩ := hr))
          go_wp2_with (fail)
          refine (refin_calls _ _ _ _).mono ?_
          rw [i1]
          (rintro e w' hr; first | ((with_reducible replace hr := Ret.up hr); obtain ⟨rfl, z, rfl⟩ := hr) | (obtain ⟨rfl, z, rfl⟩ := hr))
          go_wp2_with (fail)
          refine (refopen_calls _ h a _ (H1.below (hb3.trans ((below_later W3 _).mono hb3.size))) hl4 hl3).mono ?_
          rw [i2]
          (rintro e w' hr; first | ((with_reducible replace hr := Ret.up hr); obtain ⟨rfl, z, rfl⟩ := hr) | (obtain ⟨rfl, z, rfl⟩ := hr))
          go_wp2_with (fail)
          refine (awake_calls _).mono ?_
          (rintro e w' hr; first | ((with_reducible replace hr := Ret.up hr); obtain ⟨rfl, z, rfl⟩ := hr) | (obtain ⟨rfl, z, rfl⟩ := hr))
          go_wp2
          go_ret
          exact ret_mk rfl (hb1.trans (Below.mono (later_below hb3 hb3.size) hb1.size))
    · have hE : h.freeE a = h.fault := ask_fault hf _
      have hV : h.freeV a = ⟨0, 0⟩ := by rw [Hs.freeV, hE, if_neg hf]
      have ha := ask_fault hf 0
      obtain ⟨X, hX⟩ : ∃ X, X = h.fault := ⟨_, rfl⟩
      rw [← hX] at hf hE ha
      have hX1 : (X != 0) = true := by simpa using hf
      have hX2 : (X == 0) = false := by simpa using hf
      have HE := Lib.hid hE
      have HV := Lib.hid hV
      have HA := Lib.hid ha
      have HF := Lib.hid hX.symm
      clear hf hE hV ha hX
      go_enter Try.func6, Try.ntmps6
      go_wp2_with (fail)
      rw [← hW1]
      clear hW1
      refine (thin_calls _ h _ H1).mono ?_
      (rintro e w' hr; first | ((with_reducible replace hr := Ret.up hr); obtain ⟨rfl, z, rfl⟩ := hr) | (obtain ⟨rfl, z, rfl⟩ := hr))
      go_wp2_with (fail)
      refine (house_calls _ h _ (H1.below (below_later _ _)) hl2 hl3 hl4).mono ?_
      rintro e w' hr
      replace hr := RetHs.up hr
      obtain ⟨v, rfl, ⟨z, rfl⟩, HH⟩ := hr
      go_wp2_with (fail)
      have CA := free_calls v h a _ HH hl4 hl3'
      rw [HE.out, HV.out] at CA
      refine CA.mono ?_
      clear CA HH
      (rintro e w' hr; first | ((with_reducible replace hr := Ret.up hr); obtain ⟨rfl, z, rfl⟩ := hr) | (obtain ⟨rfl, z, rfl⟩ := hr))
      go_wp2_with (fail)
      obtain ⟨W2, hW2⟩ : ∃ W2, W2 = (later W1 z).alloc (.cells #[.int .i64 0, .int .i64 0] 42) := ⟨_, rfl⟩
      obtain ⟨K, hK⟩ : ∃ K, K = (later W1 z).heap.size := ⟨_, rfl⟩
      have hb2 : Below W1.heap.size W1 W2 := by rw [hW2]; exact gA (below_later W1 z)
      have hBR : BlkAt W2 K 42 [.int .i64 0, .int .i64 0] := by rw [hW2, hK]; exact BlkAt.new _ _ _
      rw [← hW2, ← hK]
      clear hW2 hK
      have CS := sure_calls _ h W2 (H1.below hb2) hl4
      rw [HA.out] at CS
      refine CS.mono ?_
      clear CS
      (rintro e w' hr; obtain ⟨B, d, rfl, ⟨z9, rfl⟩, hls⟩ := hr)
      obtain ⟨W3, hW3⟩ : ∃ W3, W3 = later W2 z9 := ⟨_, rfl⟩
      have hb32 : Below W2.heap.size W2 W3 := by rw [hW3]; exact below_later W2 z9
      have hb3 : Below W1.heap.size W1 W3 := hb2.trans (hb32.mono hb2.size)
      rw [← hW3] at hls ⊢
      clear hW3
      have HLS := Lib.hid hls
      clear hls
      have t0 := (hb32.cell (p := ⟨K, 0, none⟩) hBR.lt).trans (hBR.cell 0)
      have t1 := (hb32.cell (p := ⟨K, 1, none⟩) hBR.lt).trans (hBR.cell 1)
      have hKl := Nat.lt_of_lt_of_le hBR.lt hb32.size
      simp only [List.getElem?_cons_zero, List.getElem?_cons_succ] at t0 t1
      have r0 := (hb3.cell (p := ⟨w.heap.size, 0, none⟩) hBl).trans q0
      have r1 := (hb3.cell (p := ⟨w.heap.size, 1, none⟩) hBl).trans q1
      have r2 := (hb3.cell (p := ⟨w.heap.size, 2, none⟩) hBl).trans q2
      have r3 := (hb3.cell (p := ⟨w.heap.size, 3, none⟩) hBl).trans q3
      have r4 := (hb3.cell (p := ⟨w.heap.size, 4, none⟩) hBl).trans q4
      have hBl3 := Nat.lt_of_lt_of_le hBl hb3.size
      clear q0 q1 q2 q3 q4 hBR
      go_wp2_with (fail)
      refine (law_fault_calls _ h W3 (H1.below hb3) hl4).mono ?_
      rw [HF.out]
      (rintro e w' hr; first | ((with_reducible replace hr := Ret.up hr); obtain ⟨rfl, z, rfl⟩ := hr) | (obtain ⟨rfl, z, rfl⟩ := hr))
      go_wp2_with (fail)
      refine (awake_calls _).mono ?_
      (rintro e w' hr; first | ((with_reducible replace hr := Ret.up hr); obtain ⟨rfl, z, rfl⟩ := hr) | (obtain ⟨rfl, z, rfl⟩ := hr))
      go_wp2
      go_ret
      exact ret_mk rfl (hb1.trans (Below.mono (later_below hb3 hb3.size) hb1.size))
end Go.Proofs.Ytcngnfnljkkjgaa
