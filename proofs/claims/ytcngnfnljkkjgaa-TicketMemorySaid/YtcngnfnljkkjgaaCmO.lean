/-
The reference: whether a ticket came before another one went; whether two tickets clash.
The reference: whether two tickets clash.
The reference's verdicts: whether a ticket stayed too long, whether two tickets clash, in all truths.
The reference: whether all is paid once.
TicketOnce: the walk.
The truths of a house that has some, or the error.
-/
import Derived.Test.YtcngnfnljkkjgaaCmN
namespace Go.Proofs.Ytcngnfnljkkjgaa
open Go.RowKit
attribute [local go_sem] cell_later frozen_later lt_later le_later

set_option maxHeartbeats 2000000 in
theorem refbefore_calls (v : Value) (h : Hs) (E : Option Addr) (ce : Nat) (e : List Int) (a b : Nat) (w : World) (H : HsAt w v h) (HE : SlA w 1 gI E ce e) (hl : e.length = h.clocks.length) (he : ErrOk e) (hf : h.fault = 0) (hb : b < h.tickets.length) (hne : 1 ≤ (h.ofN (a : Int)).length) :
    Calls Try.prog 109 #[v, .slice E e.length ce, .int .i64 a, .int .i64 b] w (Ret (.bool (beforeB e (h.ofs (a : Int)) (h.ofs (b : Int)))) w) := by
  have H0 := H
  obtain ⟨A2, c2, A3, c3, A4, c4, rfl, H2, H3, H4⟩ := H
  obtain ⟨W1, hW1⟩ : ∃ W1, W1 = w.alloc (.cells #[.int .i64 h.hour, .int .i64 h.grace, .slice A2 h.clocks.length c2, .slice A3 h.tickets.length c3, .slice A4 h.clips.length c4] 26) := ⟨_, rfl⟩
  have hb1 : Below w.heap.size w W1 := by rw [hW1]; exact gA (Below.refl _ _)
  have hB : BlkAt W1 w.heap.size 26 [.int .i64 h.hour, .int .i64 h.grace, .slice A2 h.clocks.length c2, .slice A3 h.tickets.length c3, .slice A4 h.clips.length c4] := by rw [hW1]; exact BlkAt.new _ _ _
  have H1 := H0.below hb1
  have q0 := hB.cell 0
  have q1 := hB.cell 1
  have q2 := hB.cell 2
  have q3 := hB.cell 3
  have q4 := hB.cell 4
  simp only [List.getElem?_cons_zero, List.getElem?_cons_succ] at q0 q1 q2 q3 q4
  have hBl := hB.lt
  have hp : h.clips.length ≤ 1000 := by have := (small_iff.1 (fault_zero hf).1).2.2; omega
  have HEE := HE.below hb1
  have hn2 := ofN_two hf hb
  obtain ⟨n0, ta, ea⟩ := List.exists_cons_of_ne_nil (l := h.ofN (a : Int)) (by intro hh; rw [hh] at hne; simp at hne)
  obtain ⟨x0, hx0⟩ := ofN_some (h := h) (t := (a : Int)) (i := n0) (by rw [ea]; simp)
  have hIa : h.ofI (a : Int) = (n0 : Int) :: ta.map (fun (i : Nat) => (i : Int)) := by rw [Hs.ofI, ea]; rfl
  have hoa : (h.ofs (a : Int))[0]? = some x0 := by rw [← hx0]; exact ofs_get (by rw [ea]; rfl)
  have hcl : ∀ (i : Nat) (x : Cp), h.clips[i]? = some x → (0 ≤ x.ck ∧ x.ck < e.length) ∧ (0 ≤ x.mn ∧ x.mn ≤ 1439) := fun i x hx => by
    have := fault_clips hf (List.mem_of_getElem? hx)
    rw [hl]
    omega
  have HCL := Lib.hid hcl
  have HX0 := Lib.hid hx0
  have HOA := Lib.hid hoa
  have HIA := Lib.hid hIa
  have q := hBl
  clear hcl hx0 hoa hIa ea hne hl
  obtain ⟨C, hC⟩ : ∃ C, C = Same [⟨w.heap.size, 0, none⟩, ⟨w.heap.size, 1, none⟩, ⟨w.heap.size, 2, none⟩, ⟨w.heap.size, 3, none⟩, ⟨w.heap.size, 4, none⟩] W1 := ⟨_, rfl⟩
  obtain ⟨G, hG⟩ : ∃ G, G = held C W1.drew := ⟨_, rfl⟩
  have hfs : ∀ a ∈ ([⟨w.heap.size, 0, none⟩, ⟨w.heap.size, 1, none⟩, ⟨w.heap.size, 2, none⟩, ⟨w.heap.size, 3, none⟩, ⟨w.heap.size, 4, none⟩] : List Addr), ∀ u, W1.cell? a = some u → ∀ x, (G x).cell? a = some u := fun a ha u hu x => by
    rw [hG, hC]
    exact same_held hu ha x
  have f0 := hfs _ (by simp) _ q0
  have f1 := hfs _ (by simp) _ q1
  have f2 := hfs _ (by simp) _ q2
  have f3 := hfs _ (by simp) _ q3
  have f4 := hfs _ (by simp) _ q4
  clear hfs
  go_enter Try.func109, Try.ntmps109
  go_wp2
  rw [← hW1]
  clear hW1
  refine region_sk C [[], [], [0, 1], [], [], [3, 4, 2], [2, 5, 0, 1, 2], [5, 6, 0, 1, 2, 3, 4, 5, 6]] (.qs [0, 1, 3, 4] (.one 2 (.one 5 (.one 6 .done)))) 7 (by kernel_rfl) (by kernel_rfl) (by kernel_rfl) (by rw [hC]; exact same_drew) ?_
  refine wpSk_qs (w0 := W1.drew) (by rw [hC]; exact same_drew) ?_
  rw [← hG]
  have HC' := Lib.hid hC
  clear hG hC
  simp only [List.filterMap_cons, List.filterMap_nil, List.getElem?_toArray, List.getElem?_cons_zero, List.getElem?_cons_succ]
  change wpQuiet _ _ _ _ [_, _, _, _] _
  repeat (go_big_quiet_step (fail))
  refine wpQuiet_nil ?_
  clear f0 f1 f2 f3 f4
  have hCb : ∀ V, Below W1.heap.size W1 V → C V := fun V hV => by
    rw [HC'.out]
    exact same_below hV (by simp only [List.mem_cons, List.not_mem_nil, or_false]; rintro a (rfl | rfl | rfl | rfl | rfl) <;> exact hBl)
  have HCB := Lib.hid hCb
  clear hCb
  refine wpSk_one rfl (fun K hK => ?_)
  go_simp
  refine (refof_calls _ h _ _ (H1.below (gD (Below.refl _ _))) hp).mono ?_
  rintro e' w' ⟨A, c, rfl, ⟨z, rfl⟩, hsl⟩
  obtain ⟨V, hV, hbV⟩ : ∃ V, V = later W1.drew z ∧ Below W1.heap.size W1 V := ⟨_, rfl, Below.trans (gD (Below.refl _ _)) (below_later W1.drew z)⟩
  rw [← hV] at hsl ⊢
  clear hV
  refine hK.out _ _ (HCB.out _ hbV) ?_
  clear hK K
  refine wpSk_one rfl (fun K hK => ?_)
  go_simp
  refine (refof_calls _ h _ _ (H1.below hbV) hp).mono ?_
  rintro e' w' ⟨B, d, rfl, ⟨y, rfl⟩, hsm⟩
  have hbV2 : Below W1.heap.size W1 (later V y) := hbV.trans ((below_later V y).mono hbV.size)
  have hsl2 := hsl.below (below_later V y)
  obtain ⟨V2, hV2, hbV2⟩ : ∃ V2, V2 = later V y ∧ Below W1.heap.size W1 V2 := ⟨_, rfl, hbV2⟩
  rw [← hV2] at hsm hsl2 ⊢
  clear hV2 hsl
  refine hK.out _ _ (HCB.out _ hbV2) ?_
  clear hK K
  refine wpSk_one rfl (fun K hK => ?_)
  go_simp
  refine hK.out _ _ (HCB.out _ hbV2) ?_
  clear hK K
  refine wpSk_done rfl (fun K hK => ?_)
  go_simp
  refine hK.out _ _ (noPanic_mk ?_)
  clear hK K HCB
  have r0 := (hbV2.cell (p := ⟨w.heap.size, 0, none⟩) hBl).trans q0
  have r1 := (hbV2.cell (p := ⟨w.heap.size, 1, none⟩) hBl).trans q1
  have r2 := (hbV2.cell (p := ⟨w.heap.size, 2, none⟩) hBl).trans q2
  have r3 := (hbV2.cell (p := ⟨w.heap.size, 3, none⟩) hBl).trans q3
  have r4 := (hbV2.cell (p := ⟨w.heap.size, 4, none⟩) hBl).trans q4
  have hBl2 := Nat.lt_of_lt_of_le hBl hbV2.size
  clear q0 q1 q2 q3 q4
  by_cases hlen : (h.ofN (b : Int)).length < 2
  · have hR := Lib.hid (show beforeB e (h.ofs (a : Int)) (h.ofs (b : Int)) = true by
      rw [← ofs_length] at hlen
      simp [beforeB, hlen])
    have hl1 : ((h.ofI (b : Int)).length : Int) < 2 := by rw [ofI_length]; omega
    clear hlen hn2
    go_wp2
    refine region_later (by kernel_rfl) (by kernel_rfl) ?_
    repeat (go_big_quiet_step (fail))
    refine wpQuiet_nil ?_
    rintro W' ⟨u, rfl⟩
    go_wp2
    go_ret
    exact ret_mk (ret_bool hR.out.symm) (hb1.trans (Below.mono (later_below hbV2 hbV2.size) hb1.size))
  · obtain ⟨m0, m1, y0, y1, e1, hy0, hy1, e2⟩ := of_both (h := h) (t := (b : Int)) (by omega)
    have hIb : h.ofI (b : Int) = [(m0 : Int), (m1 : Int)] := by rw [Hs.ofI, e1]; rfl
    rw [hIb] at hsm ⊢
    have HA := HIA.out
    rw [HA] at hsl2 ⊢
    obtain ⟨p, off, z0, rfl, hpl, hz0, s0⟩ := hsl2.atI (i := 0) (by simp)
    obtain ⟨p', off', z1, rfl, hpl', hz1, s1⟩ := hsm.atI (i := 1) (by simp)
    simp only [List.getElem?_cons_zero, List.getElem?_cons_succ, Option.some.injEq] at hz0 hz1
    subst hz0 hz1
    simp only [Nat.add_zero] at s0
    have hR := Lib.hid (show beforeB e (h.ofs (a : Int)) (h.ofs (b : Int)) = decide (tru e x0 < tru e y1) by
      have := HOA.out
      rw [e2]
      simp [beforeB, List.getD_eq_getElem?_getD, this])
    have C0 := Lib.hid (fun x => reftrue_calls _ h E ce e n0 x0 (later V2 x) (H1.below (hbV2.trans ((below_later V2 x).mono hbV2.size))) (HEE.below (hbV2.trans ((below_later V2 x).mono hbV2.size))) HX0.out (HCL.out n0 x0 HX0.out).1 (HCL.out n0 x0 HX0.out).2 he)
    have C1 := Lib.hid (fun x => reftrue_calls _ h E ce e m1 y1 (later V2 x) (H1.below (hbV2.trans ((below_later V2 x).mono hbV2.size))) (HEE.below (hbV2.trans ((below_later V2 x).mono hbV2.size))) hy1 (HCL.out m1 y1 hy1).1 (HCL.out m1 y1 hy1).2 he)
    simp only [List.length_cons, List.length_nil]
    clear hlen hn2 hsl2 hsm HA hIb e1 e2 hy0 hy1
    go_wp2
    refine region_later (by kernel_rfl) (by kernel_rfl) ?_
    repeat (go_big_quiet_step (first | with_reducible exact quiet_ret (C0.out _) | with_reducible exact quiet_ret (C1.out _)))
    refine wpQuiet_nil ?_
    rintro W' ⟨u, rfl⟩
    go_wp2
    go_ret
    refine ret_mk (ret_bool ?_) (hb1.trans (Below.mono (later_below hbV2 hbV2.size) hb1.size))
    rw [hR.out]
end Go.Proofs.Ytcngnfnljkkjgaa
namespace Go.Proofs.Ytcngnfnljkkjgaa
open Go.RowKit
attribute [local go_sem] cell_later frozen_later lt_later le_later

theorem isEmpty_ofs {h : Hs} {t : Int} : (h.ofs t).isEmpty = decide ((h.ofI t).length = 0) := by
  rw [ofI_length, ← ofs_length]
  cases h.ofs t <;> simp

set_option maxHeartbeats 4000000 in
theorem refclash_calls (v : Value) (h : Hs) (E : Option Addr) (ce : Nat) (e : List Int) (a b : Nat) (w : World) (H : HsAt w v h) (HE : SlA w 1 gI E ce e) (hl : e.length = h.clocks.length) (he : ErrOk e) (hf : h.fault = 0) (ha : a < h.tickets.length) (hb : b < h.tickets.length) :
    Calls Try.prog 60 #[v, .slice E e.length ce, .int .i64 a, .int .i64 b] w (Ret (.bool (h.clashB e a b)) w) := by
  have H0 := H
  obtain ⟨A2, c2, A3, c3, A4, c4, rfl, H2, H3, H4⟩ := H
  obtain ⟨W1, hW1⟩ : ∃ W1, W1 = w.alloc (.cells #[.int .i64 h.hour, .int .i64 h.grace, .slice A2 h.clocks.length c2, .slice A3 h.tickets.length c3, .slice A4 h.clips.length c4] 26) := ⟨_, rfl⟩
  have hb1 : Below w.heap.size w W1 := by rw [hW1]; exact gA (Below.refl _ _)
  have hB : BlkAt W1 w.heap.size 26 [.int .i64 h.hour, .int .i64 h.grace, .slice A2 h.clocks.length c2, .slice A3 h.tickets.length c3, .slice A4 h.clips.length c4] := by rw [hW1]; exact BlkAt.new _ _ _
  have H1 := H0.below hb1
  have q0 := hB.cell 0
  have q1 := hB.cell 1
  have q2 := hB.cell 2
  have q3 := hB.cell 3
  have q4 := hB.cell 4
  simp only [List.getElem?_cons_zero, List.getElem?_cons_succ] at q0 q1 q2 q3 q4
  have hBl := hB.lt
  have hp : h.clips.length ≤ 1000 := by have := (small_iff.1 (fault_zero hf).1).2.2; omega
  have HEE := HE.below hb1
  obtain ⟨bt, ot, xa, rfl, hbt, hxa, i0, -⟩ := (H3.below hb1).atT ha
  obtain ⟨bt', ot', xb, hA', -, hxb, j0, -⟩ := (H3.below hb1).atT hb
  cases hA'
  have hta : h.tubAt a = xa.tub := by simp [Hs.tubAt, hxa]
  have htb : h.tubAt b = xb.tub := by simp [Hs.tubAt, hxb]
  have ha1 : (a : Int) < (h.tickets.length : Int) := by omega
  have ha0 : (0 : Int) ≤ (a : Int) := Int.natCast_nonneg _
  have hb1' : (b : Int) < (h.tickets.length : Int) := by omega
  have hb0 : (0 : Int) ≤ (b : Int) := Int.natCast_nonneg _
  have HLA := Lib.hid ha
  have HLB := Lib.hid hb
  have HL := Lib.hid hl
  have hR0 : h.clashB e a b = ((xa.tub == xb.tub) && (!decide ((h.ofI (a : Int)).length = 0) && (!decide ((h.ofI (b : Int)).length = 0) && (beforeB e (h.ofs a) (h.ofs b) && beforeB e (h.ofs b) (h.ofs a))))) := by
    rw [Hs.clashB, hta, htb, isEmpty_ofs, isEmpty_ofs]
  have HR0 := Lib.hid hR0
  clear hxa hxb hta htb hl ha hb hR0
  obtain ⟨C, hC⟩ : ∃ C, C = Same [⟨w.heap.size, 0, none⟩, ⟨w.heap.size, 1, none⟩, ⟨w.heap.size, 2, none⟩, ⟨w.heap.size, 3, none⟩, ⟨w.heap.size, 4, none⟩, ⟨bt, ot + a * 2, none⟩, ⟨bt, ot + b * 2, none⟩] W1 := ⟨_, rfl⟩
  obtain ⟨G, hG⟩ : ∃ G, G = held C W1.drew := ⟨_, rfl⟩
  have hfs : ∀ a' ∈ ([⟨w.heap.size, 0, none⟩, ⟨w.heap.size, 1, none⟩, ⟨w.heap.size, 2, none⟩, ⟨w.heap.size, 3, none⟩, ⟨w.heap.size, 4, none⟩, ⟨bt, ot + a * 2, none⟩, ⟨bt, ot + b * 2, none⟩] : List Addr), ∀ u, W1.cell? a' = some u → ∀ x, (G x).cell? a' = some u := fun a' ha u hu x => by
    rw [hG, hC]
    exact same_held hu ha x
  have f0 := hfs _ (by simp) _ q0
  have f1 := hfs _ (by simp) _ q1
  have f2 := hfs _ (by simp) _ q2
  have f3 := hfs _ (by simp) _ q3
  have f4 := hfs _ (by simp) _ q4
  have f5 := hfs _ (by simp) _ i0
  have f6 := hfs _ (by simp) _ j0
  have hCb : ∀ V, Below W1.heap.size W1 V → C V := fun V hV => by
    rw [hC]
    exact same_below hV (by simp only [List.mem_cons, List.not_mem_nil, or_false]; rintro a' (rfl | rfl | rfl | rfl | rfl | rfl | rfl) <;> assumption)
  have HCB := Lib.hid hCb
  have HG := Lib.hid hG
  clear hfs hG hCb hC i0 j0
  have hbV : Below W1.heap.size W1 W1.drew := gD (Below.refl _ _)
  obtain ⟨V, hV, hbV⟩ : ∃ V, V = W1.drew ∧ Below W1.heap.size W1 V := ⟨_, rfl, hbV⟩
  have HV := Lib.hid hV
  clear hV
  by_cases htub : xa.tub = xb.tub
  · have htn : (xa.tub != xb.tub) = false := by simp [htub]
    have HT := Lib.hid htub
    clear htub
    by_cases hna : (h.ofI (a : Int)).length = 0
    · have hla : (((h.ofI (a : Int)).length : Int) == 0) = true := by simp only [beq_iff_eq]; omega
      have hR := Lib.hid (show h.clashB e a b = false by
        rw [HR0.out, hna]
        simp)
      clear hna
      go_enter Try.func60, Try.ntmps60
      go_wp2
      rw [← hW1]
      clear hW1
      refine region_sk C [[], [0], [], [1, 2], [3], [4], [], [6], [], [7, 8], [9], [10], [5, 11], [12], [13], [13], [14, 15, 13, 13], [16, 13], [17, 13], [13, 18], [19, 16], [20], [20], [21, 22, 20, 20], [23, 20], [24, 20], [20, 25]] (.qs [0, 1, 2, 3, 4, 5, 6, 7, 8, 9, 10, 11, 12, 13, 14, 15] (.one 16 (.one 17 (.qs [18, 19, 20, 21, 22] (.one 23 (.one 24 (.qs [25] .done))))))) 26 (by kernel_rfl) (by kernel_rfl) (by kernel_rfl) (HCB.out _ (gD (Below.refl _ _))) ?_
      rw [← HV.out]
      refine wpSk_qs (w0 := W1.drew) (HCB.out _ (gD (Below.refl _ _))) ?_
      rw [← HG.out]
      simp only [List.filterMap_cons, List.filterMap_nil, List.getElem?_toArray, List.getElem?_cons_zero, List.getElem?_cons_succ]
      change wpQuiet _ _ _ _ [_, _, _, _, _, _, _, _, _, _, _, _, _, _, _, _] _
      repeat (go_big_quiet_step (fail))
      refine wpQuiet_nil ?_
      refine wpSk_one rfl (fun K hK => ?_)
      go_simp
      refine (refof_calls _ h _ _ (H1.below hbV) hp).mono ?_
      rintro e' w' ⟨A, c, rfl, ⟨z, rfl⟩, -⟩
      obtain ⟨V, hV, hbV⟩ : ∃ V', V' = later V z ∧ Below W1.heap.size W1 V' := ⟨_, rfl, hbV.trans ((below_later V z).mono hbV.size)⟩
      rw [← hV]
      clear hV
      refine hK.out _ _ (HCB.out _ hbV) ?_
      clear hK K
      refine wpSk_one rfl (fun K hK => ?_)
      go_simp
      refine hK.out _ _ (HCB.out _ hbV) ?_
      clear hK K
      refine wpSk_qs (w0 := W1.drew) (HCB.out _ (gD (Below.refl _ _))) ?_
      rw [← HG.out]
      simp only [List.filterMap_cons, List.filterMap_nil, List.getElem?_toArray, List.getElem?_cons_zero, List.getElem?_cons_succ]
      change wpQuiet _ _ _ _ [_, _, _, _, _] _
      repeat (go_big_quiet_step (fail))
      refine wpQuiet_nil ?_
      refine wpSk_one rfl (fun K hK => ?_)
      go_simp
      refine hK.out _ _ (HCB.out _ hbV) ?_
      clear hK K
      refine wpSk_one rfl (fun K hK => ?_)
      go_simp
      refine hK.out _ _ (HCB.out _ hbV) ?_
      clear hK K
      refine wpSk_qs (w0 := W1.drew) (HCB.out _ (gD (Below.refl _ _))) ?_
      rw [← HG.out]
      simp only [List.filterMap_cons, List.filterMap_nil, List.getElem?_toArray, List.getElem?_cons_zero, List.getElem?_cons_succ]
      change wpQuiet _ _ _ _ [_] _
      repeat (go_big_quiet_step (fail))
      refine wpQuiet_nil ?_
      refine wpSk_done rfl (fun K hK => ?_)
      go_simp
      refine hK.out _ _ (noPanic_mk ?_)
      clear hK K
      go_wp2
      go_ret
      exact ret_mk (ret_bool hR.out.symm) (hb1.trans (Below.mono hbV hb1.size))
    · have hla : (((h.ofI (a : Int)).length : Int) == 0) = false := by rw [beq_eq_false_iff_ne]; omega
      have HNA := Lib.hid (show 1 ≤ (h.ofN (a : Int)).length by rw [← ofI_length]; omega)
      have hda : decide ((h.ofI (a : Int)).length = 0) = false := by simp [hna]
      by_cases hnb : (h.ofI (b : Int)).length = 0
      · have hlb : (((h.ofI (b : Int)).length : Int) == 0) = true := by simp only [beq_iff_eq]; omega
        have hR := Lib.hid (show h.clashB e a b = false by
          rw [HR0.out, hnb]
          simp)
        clear hna hnb hda
        go_enter Try.func60, Try.ntmps60
        go_wp2
        rw [← hW1]
        clear hW1
        refine region_sk C [[], [0], [], [1, 2], [3], [4], [], [6], [], [7, 8], [9], [10], [5, 11], [12], [13], [13], [14, 15, 13, 13], [16, 13], [17, 13], [13, 18], [19, 16], [20], [20], [21, 22, 20, 20], [23, 20], [24, 20], [20, 25]] (.qs [0, 1, 2, 3, 4, 5, 6, 7, 8, 9, 10, 11, 12, 13, 14, 15] (.one 16 (.one 17 (.qs [18, 19, 20, 21, 22] (.one 23 (.one 24 (.qs [25] .done))))))) 26 (by kernel_rfl) (by kernel_rfl) (by kernel_rfl) (HCB.out _ (gD (Below.refl _ _))) ?_
        rw [← HV.out]
        refine wpSk_qs (w0 := W1.drew) (HCB.out _ (gD (Below.refl _ _))) ?_
        rw [← HG.out]
        simp only [List.filterMap_cons, List.filterMap_nil, List.getElem?_toArray, List.getElem?_cons_zero, List.getElem?_cons_succ]
        change wpQuiet _ _ _ _ [_, _, _, _, _, _, _, _, _, _, _, _, _, _, _, _] _
        repeat (go_big_quiet_step (fail))
        refine wpQuiet_nil ?_
        refine wpSk_one rfl (fun K hK => ?_)
        go_simp
        refine (refof_calls _ h _ _ (H1.below hbV) hp).mono ?_
        rintro e' w' ⟨A, c, rfl, ⟨z, rfl⟩, -⟩
        obtain ⟨V, hV, hbV⟩ : ∃ V', V' = later V z ∧ Below W1.heap.size W1 V' := ⟨_, rfl, hbV.trans ((below_later V z).mono hbV.size)⟩
        rw [← hV]
        clear hV
        refine hK.out _ _ (HCB.out _ hbV) ?_
        clear hK K
        refine wpSk_one rfl (fun K hK => ?_)
        go_simp
        refine hK.out _ _ (HCB.out _ hbV) ?_
        clear hK K
        refine wpSk_qs (w0 := W1.drew) (HCB.out _ (gD (Below.refl _ _))) ?_
        rw [← HG.out]
        simp only [List.filterMap_cons, List.filterMap_nil, List.getElem?_toArray, List.getElem?_cons_zero, List.getElem?_cons_succ]
        change wpQuiet _ _ _ _ [_, _, _, _, _] _
        repeat (go_big_quiet_step (fail))
        refine wpQuiet_nil ?_
        refine wpSk_one rfl (fun K hK => ?_)
        go_simp
        refine (refof_calls _ h _ _ (H1.below hbV) hp).mono ?_
        rintro e' w' ⟨A, c, rfl, ⟨z, rfl⟩, -⟩
        obtain ⟨V, hV, hbV⟩ : ∃ V', V' = later V z ∧ Below W1.heap.size W1 V' := ⟨_, rfl, hbV.trans ((below_later V z).mono hbV.size)⟩
        rw [← hV]
        clear hV
        refine hK.out _ _ (HCB.out _ hbV) ?_
        clear hK K
        refine wpSk_one rfl (fun K hK => ?_)
        go_simp
        refine hK.out _ _ (HCB.out _ hbV) ?_
        clear hK K
        refine wpSk_qs (w0 := W1.drew) (HCB.out _ (gD (Below.refl _ _))) ?_
        rw [← HG.out]
        simp only [List.filterMap_cons, List.filterMap_nil, List.getElem?_toArray, List.getElem?_cons_zero, List.getElem?_cons_succ]
        change wpQuiet _ _ _ _ [_] _
        repeat (go_big_quiet_step (fail))
        refine wpQuiet_nil ?_
        refine wpSk_done rfl (fun K hK => ?_)
        go_simp
        refine hK.out _ _ (noPanic_mk ?_)
        clear hK K
        go_wp2
        go_ret
        exact ret_mk (ret_bool hR.out.symm) (hb1.trans (Below.mono hbV hb1.size))
      · have hlb : (((h.ofI (b : Int)).length : Int) == 0) = false := by rw [beq_eq_false_iff_ne]; omega
        have HNB := Lib.hid (show 1 ≤ (h.ofN (b : Int)).length by rw [← ofI_length]; omega)
        have hdb : decide ((h.ofI (b : Int)).length = 0) = false := by simp [hnb]
        obtain ⟨p1, hp1⟩ : ∃ x, x = beforeB e (h.ofs (a : Int)) (h.ofs (b : Int)) := ⟨_, rfl⟩
        obtain ⟨p2, hp2⟩ : ∃ x, x = beforeB e (h.ofs (b : Int)) (h.ofs (a : Int)) := ⟨_, rfl⟩
        have hR := Lib.hid (show h.clashB e a b = (p1 && p2) by
          rw [HR0.out, hda, hdb, HT.out, hp1, hp2]
          simp)
        have C1 := Lib.hid (fun X (hX : Below W1.heap.size W1 X) => refbefore_calls _ h E ce e a b X (H1.below hX) (HEE.below hX) HL.out he hf HLB.out HNA.out)
        have C2 := Lib.hid (fun X (hX : Below W1.heap.size W1 X) => refbefore_calls _ h E ce e b a X (H1.below hX) (HEE.below hX) HL.out he hf HLA.out HNB.out)
        rw [← hp1] at C1
        rw [← hp2] at C2
        clear hna hnb hda hdb hp1 hp2
        go_enter Try.func60, Try.ntmps60
        go_wp2
        rw [← hW1]
        clear hW1
        refine region_sk C [[], [0], [], [1, 2], [3], [4], [], [6], [], [7, 8], [9], [10], [5, 11], [12], [13], [13], [14, 15, 13, 13], [16, 13], [17, 13], [13, 18], [19, 16], [20], [20], [21, 22, 20, 20], [23, 20], [24, 20], [20, 25]] (.qs [0, 1, 2, 3, 4, 5, 6, 7, 8, 9, 10, 11, 12, 13, 14, 15] (.one 16 (.one 17 (.qs [18, 19, 20, 21, 22] (.one 23 (.one 24 (.qs [25] .done))))))) 26 (by kernel_rfl) (by kernel_rfl) (by kernel_rfl) (HCB.out _ (gD (Below.refl _ _))) ?_
        rw [← HV.out]
        refine wpSk_qs (w0 := W1.drew) (HCB.out _ (gD (Below.refl _ _))) ?_
        rw [← HG.out]
        simp only [List.filterMap_cons, List.filterMap_nil, List.getElem?_toArray, List.getElem?_cons_zero, List.getElem?_cons_succ]
        change wpQuiet _ _ _ _ [_, _, _, _, _, _, _, _, _, _, _, _, _, _, _, _] _
        repeat (go_big_quiet_step (fail))
        refine wpQuiet_nil ?_
        refine wpSk_one rfl (fun K hK => ?_)
        go_simp
        refine (refof_calls _ h _ _ (H1.below hbV) hp).mono ?_
        rintro e' w' ⟨A, c, rfl, ⟨z, rfl⟩, -⟩
        obtain ⟨V, hV, hbV⟩ : ∃ V', V' = later V z ∧ Below W1.heap.size W1 V' := ⟨_, rfl, hbV.trans ((below_later V z).mono hbV.size)⟩
        rw [← hV]
        clear hV
        refine hK.out _ _ (HCB.out _ hbV) ?_
        clear hK K
        refine wpSk_one rfl (fun K hK => ?_)
        go_simp
        refine hK.out _ _ (HCB.out _ hbV) ?_
        clear hK K
        refine wpSk_qs (w0 := W1.drew) (HCB.out _ (gD (Below.refl _ _))) ?_
        rw [← HG.out]
        simp only [List.filterMap_cons, List.filterMap_nil, List.getElem?_toArray, List.getElem?_cons_zero, List.getElem?_cons_succ]
        change wpQuiet _ _ _ _ [_, _, _, _, _] _
        repeat (go_big_quiet_step (fail))
        refine wpQuiet_nil ?_
        refine wpSk_one rfl (fun K hK => ?_)
        go_simp
        refine (refof_calls _ h _ _ (H1.below hbV) hp).mono ?_
        rintro e' w' ⟨A, c, rfl, ⟨z, rfl⟩, -⟩
        obtain ⟨V, hV, hbV⟩ : ∃ V', V' = later V z ∧ Below W1.heap.size W1 V' := ⟨_, rfl, hbV.trans ((below_later V z).mono hbV.size)⟩
        rw [← hV]
        clear hV
        refine hK.out _ _ (HCB.out _ hbV) ?_
        clear hK K
        refine wpSk_one rfl (fun K hK => ?_)
        go_simp
        refine hK.out _ _ (HCB.out _ hbV) ?_
        clear hK K
        refine wpSk_qs (w0 := W1.drew) (HCB.out _ (gD (Below.refl _ _))) ?_
        rw [← HG.out]
        simp only [List.filterMap_cons, List.filterMap_nil, List.getElem?_toArray, List.getElem?_cons_zero, List.getElem?_cons_succ]
        change wpQuiet _ _ _ _ [_] _
        repeat (go_big_quiet_step (fail))
        refine wpQuiet_nil ?_
        refine wpSk_done rfl (fun K hK => ?_)
        go_simp
        refine hK.out _ _ (noPanic_mk ?_)
        clear hK K
        have r0 := (hbV.cell (p := ⟨w.heap.size, 0, none⟩) hBl).trans q0
        have r1 := (hbV.cell (p := ⟨w.heap.size, 1, none⟩) hBl).trans q1
        have r2 := (hbV.cell (p := ⟨w.heap.size, 2, none⟩) hBl).trans q2
        have r3 := (hbV.cell (p := ⟨w.heap.size, 3, none⟩) hBl).trans q3
        have r4 := (hbV.cell (p := ⟨w.heap.size, 4, none⟩) hBl).trans q4
        have hBl2 := Nat.lt_of_lt_of_le hBl hbV.size
        go_wp2_with (fail)
        refine (C1.out _ hbV).mono ?_
        (rintro e w' hr; first | ((with_reducible replace hr := Ret.up hr); obtain ⟨rfl, z, rfl⟩ := hr) | (obtain ⟨rfl, z, rfl⟩ := hr))
        cases p1 with
        | false =>
          go_wp2
          go_ret
          exact ret_mk (ret_bool hR.out.symm) (hb1.trans (Below.mono (later_below hbV hbV.size) hb1.size))
        | true =>
          go_wp2_with (fail)
          refine (C2.out _ (later_below hbV hbV.size)).mono ?_
          (rintro e w' hr; first | ((with_reducible replace hr := Ret.up hr); obtain ⟨rfl, z, rfl⟩ := hr) | (obtain ⟨rfl, z, rfl⟩ := hr))
          cases p2 <;>
            (go_wp2
             go_ret
             exact ret_mk (ret_bool hR.out.symm) (hb1.trans (Below.mono (later_below hbV hbV.size) hb1.size)))
  · have htn : (xa.tub != xb.tub) = true := by simp [htub]
    have hR := Lib.hid (show h.clashB e a b = false by
      rw [HR0.out, show (xa.tub == xb.tub) = false by simp [htub]]
      rfl)
    clear htub
    go_enter Try.func60, Try.ntmps60
    go_wp2
    rw [← hW1]
    clear hW1
    refine region_sk C [[], [0], [], [1, 2], [3], [4], [], [6], [], [7, 8], [9], [10], [5, 11], [12], [13], [13], [14, 15, 13, 13], [16, 13], [17, 13], [13, 18], [19, 16], [20], [20], [21, 22, 20, 20], [23, 20], [24, 20], [20, 25]] (.qs [0, 1, 2, 3, 4, 5, 6, 7, 8, 9, 10, 11, 12, 13, 14, 15] (.one 16 (.one 17 (.qs [18, 19, 20, 21, 22] (.one 23 (.one 24 (.qs [25] .done))))))) 26 (by kernel_rfl) (by kernel_rfl) (by kernel_rfl) (HCB.out _ (gD (Below.refl _ _))) ?_
    rw [← HV.out]
    refine wpSk_qs (w0 := W1.drew) (HCB.out _ (gD (Below.refl _ _))) ?_
    rw [← HG.out]
    simp only [List.filterMap_cons, List.filterMap_nil, List.getElem?_toArray, List.getElem?_cons_zero, List.getElem?_cons_succ]
    change wpQuiet _ _ _ _ [_, _, _, _, _, _, _, _, _, _, _, _, _, _, _, _] _
    repeat (go_big_quiet_step (fail))
    refine wpQuiet_nil ?_
    refine wpSk_one rfl (fun K hK => ?_)
    go_simp
    refine hK.out _ _ (HCB.out _ hbV) ?_
    clear hK K
    refine wpSk_one rfl (fun K hK => ?_)
    go_simp
    refine hK.out _ _ (HCB.out _ hbV) ?_
    clear hK K
    refine wpSk_qs (w0 := W1.drew) (HCB.out _ (gD (Below.refl _ _))) ?_
    rw [← HG.out]
    simp only [List.filterMap_cons, List.filterMap_nil, List.getElem?_toArray, List.getElem?_cons_zero, List.getElem?_cons_succ]
    change wpQuiet _ _ _ _ [_, _, _, _, _] _
    repeat (go_big_quiet_step (fail))
    refine wpQuiet_nil ?_
    refine wpSk_one rfl (fun K hK => ?_)
    go_simp
    refine hK.out _ _ (HCB.out _ hbV) ?_
    clear hK K
    refine wpSk_one rfl (fun K hK => ?_)
    go_simp
    refine hK.out _ _ (HCB.out _ hbV) ?_
    clear hK K
    refine wpSk_qs (w0 := W1.drew) (HCB.out _ (gD (Below.refl _ _))) ?_
    rw [← HG.out]
    simp only [List.filterMap_cons, List.filterMap_nil, List.getElem?_toArray, List.getElem?_cons_zero, List.getElem?_cons_succ]
    change wpQuiet _ _ _ _ [_] _
    repeat (go_big_quiet_step (fail))
    refine wpQuiet_nil ?_
    refine wpSk_done rfl (fun K hK => ?_)
    go_simp
    refine hK.out _ _ (noPanic_mk ?_)
    clear hK K
    go_wp2
    go_ret
    exact ret_mk (ret_bool hR.out.symm) (hb1.trans (Below.mono hbV hb1.size))
end Go.Proofs.Ytcngnfnljkkjgaa
namespace Go.Proofs.Ytcngnfnljkkjgaa
open Go.RowKit
attribute [local go_sem] cell_later frozen_later lt_later le_later

def verdN (y n : Int) : Int := if y = n then 1 else if y = 0 then 2 else 3
theorem refverdict_calls (y n : Int) (w : World) : Calls Try.prog 89 #[.int .i64 y, .int .i64 n] w (Ret (.int .i64 (verdN y n)) w) := by
  by_cases h1 : y = n
  · have hR := Lib.hid (show verdN y n = 1 by rw [verdN, if_pos h1])
    have e1 : (y == n) = true := by simp [h1]
    clear h1
    go_enter Try.func89, Try.ntmps89
    go_wp2
    go_ret
    exact ret_mk (ret_int hR.out.symm) (by repeat (first | exact Below.refl _ _ | (with_reducible assumption) | apply gL | apply gA | apply gD | apply gN | (refine gS ?_ (by first | (simp; done) | (simp; omega) | omega))))
  · have e1 : (y == n) = false := by simp [h1]
    by_cases h2 : y = 0
    · have hR := Lib.hid (show verdN y n = 2 by rw [verdN, if_neg h1, if_pos h2])
      have e2 : (y == 0) = true := by simp [h2]
      clear h1 h2
      go_enter Try.func89, Try.ntmps89
      go_wp2
      go_ret
      exact ret_mk (ret_int hR.out.symm) (by repeat (first | exact Below.refl _ _ | (with_reducible assumption) | apply gL | apply gA | apply gD | apply gN | (refine gS ?_ (by first | (simp; done) | (simp; omega) | omega))))
    · have hR := Lib.hid (show verdN y n = 3 by rw [verdN, if_neg h1, if_neg h2])
      have e2 : (y == 0) = false := by simp [h2]
      clear h1 h2
      go_enter Try.func89, Try.ntmps89
      go_wp2
      go_ret
      exact ret_mk (ret_int hR.out.symm) (by repeat (first | exact Below.refl _ _ | (with_reducible assumption) | apply gL | apply gA | apply gD | apply gN | (refine gS ?_ (by first | (simp; done) | (simp; omega) | omega))))
theorem verdN_R (l : List (List Int)) (p : List Int → Bool) : verdictR l p = verdN ((l.countP p : Nat) : Int) (l.length : Int) := by
  unfold verdictR verdN
  generalize l.countP p = a
  generalize l.length = b
  have e1 : ((a : Int) = (b : Int)) = (a = b) := propext ⟨fun h => by omega, fun h => by omega⟩
  have e2 : ((a : Int) = 0) = (a = 0) := propext ⟨fun h => by omega, fun h => by omega⟩
  simp only [e1, e2]

/-- Errors that the reference makes: of all clocks, and small. -/
def ErrsOk (h : Hs) (l : List (List Int)) : Prop := ∀ e ∈ l, ErrOk e ∧ e.length = h.clocks.length

set_option maxHeartbeats 2000000 in
theorem refclashes_calls (v : Value) (h : Hs) (A : Option Addr) (c : Nat) (l : List (List Int)) (a b : Nat) (w : World) (H : HsAt w v h) (HL : LsAt w A c l) (hok : ErrsOk h l) (hf : h.fault = 0) (ha : a < h.tickets.length) (hb' : b < h.tickets.length) :
    Calls Try.prog 38 #[v, .slice A l.length c, .int .i64 a, .int .i64 b] w (Ret (.int .i64 (verdictR l fun e => h.clashB e a b)) w) := by
  have H0 := H
  obtain ⟨A2, c2, A3, c3, A4, c4, rfl, H2, H3, H4⟩ := H
  obtain ⟨W1, hW1⟩ : ∃ W1, W1 = w.alloc (.cells #[.int .i64 h.hour, .int .i64 h.grace, .slice A2 h.clocks.length c2, .slice A3 h.tickets.length c3, .slice A4 h.clips.length c4] 26) := ⟨_, rfl⟩
  have hb1 : Below w.heap.size w W1 := by rw [hW1]; exact gA (Below.refl _ _)
  have hB : BlkAt W1 w.heap.size 26 [.int .i64 h.hour, .int .i64 h.grace, .slice A2 h.clocks.length c2, .slice A3 h.tickets.length c3, .slice A4 h.clips.length c4] := by rw [hW1]; exact BlkAt.new _ _ _
  have H1 := H0.below hb1
  have q0 := hB.cell 0
  have q1 := hB.cell 1
  have q2 := hB.cell 2
  have q3 := hB.cell 3
  have q4 := hB.cell 4
  simp only [List.getElem?_cons_zero, List.getElem?_cons_succ] at q0 q1 q2 q3 q4
  have hBl := hB.lt
  have HLS := HL.below hb1
  have hlb := HL.2.1
  go_enter Try.func38, Try.ntmps38
  go_wp2
  rw [← hW1]
  clear hW1
  go_loopw [9, 10] (fun y i wr => ∃ k : Nat, k ≤ l.length ∧ i = .int .i64 k ∧ y = .int .i64 ((l.take k).countP fun e => h.clashB e a b : Nat) ∧ Below W1.heap.size W1 wr) (fun _ i _ => l.length - (intOf i).toNat)
  case atStart => exact ⟨0, Nat.zero_le _, rfl, rfl, Below.refl _ _⟩
  case round =>
    obtain ⟨k, hk, rfl, rfl, hb⟩ := hrel
    have hcl : ((l.take k).countP fun e => h.clashB e a b) ≤ k := Nat.le_trans List.countP_le_length (by simp; omega)
    by_cases hlt : k < l.length
    · have hlt1 : (k : Int) < (l.length : Int) := by omega
      have hk0 : (0 : Int) ≤ (k : Int) := Int.natCast_nonneg _
      obtain ⟨b', off, e, B, d, rfl, hbl, hx, s0, hsl, -⟩ := (HLS.below hb).at hlt
      have hS : ((l.take (k + 1)).countP fun e => h.clashB e a b) = ((l.take k).countP fun e => h.clashB e a b) + (if h.clashB e a b = true then 1 else 0) := by
        rw [List.take_add_one, hx, List.countP_append]
        simp [List.countP_cons]
      have p0 := (hb.cell (p := ⟨w.heap.size, 0, none⟩) hBl).trans q0
      have p1 := (hb.cell (p := ⟨w.heap.size, 1, none⟩) hBl).trans q1
      have p2 := (hb.cell (p := ⟨w.heap.size, 2, none⟩) hBl).trans q2
      have p3 := (hb.cell (p := ⟨w.heap.size, 3, none⟩) hBl).trans q3
      have p4 := (hb.cell (p := ⟨w.heap.size, 4, none⟩) hBl).trans q4
      have hBr : w.heap.size < wr.heap.size := Nat.lt_of_lt_of_le hBl hb.size
      have hem := hok e (List.mem_of_getElem? hx)
      have C0 := Lib.hid (fun z => refclash_calls _ h B d e a b (later wr z) (H1.below (hb.trans ((below_later wr z).mono hb.size))) (hsl.below (below_later wr z)) hem.2 hem.1 hf ha hb')
      obtain ⟨m, hm⟩ : ∃ m, m = ((l.take k).countP fun e => h.clashB e a b) := ⟨_, rfl⟩
      rw [← hm] at hcl hS ⊢
      have hm0 : (0 : Int) ≤ (m : Int) := Int.natCast_nonneg _
      have hmk : (m : Int) ≤ (k : Int) := by omega
      clear hm hx hem
      cases hp : h.clashB e a b with
      | false =>
        rw [hp] at C0 hS
        have HS := Lib.hid hS
        clear hp hS
        go_wp2
        refine region_later (by kernel_rfl) (by kernel_rfl) ?_
        repeat (go_big_quiet_step (first | with_reducible exact quiet_ret (C0.out _)))
        refine wpQuiet_nil ?_
        rintro W' ⟨u, rfl⟩
        go_wp2
        go_roundw
        case rel => exact ⟨k + 1, by omega, by go_num, by rw [HS.out]; rfl, later_below hb hb.size⟩
        case measure => simp [intOf]; omega
      | true =>
        rw [hp] at C0 hS
        have HS := Lib.hid hS
        clear hp hS
        go_wp2
        refine region_later (by kernel_rfl) (by kernel_rfl) ?_
        repeat (go_big_quiet_step (first | with_reducible exact quiet_ret (C0.out _)))
        refine wpQuiet_nil ?_
        rintro W' ⟨u, rfl⟩
        go_wp2
        go_roundw
        case rel => exact ⟨k + 1, by omega, by go_num, by rw [HS.out]; congr 1, later_below hb hb.size⟩
        case measure => simp [intOf]; omega
    · obtain rfl : k = l.length := by omega
      have hR0 := verdN_R l (fun e => h.clashB e a b)
      rw [List.take_length]
      obtain ⟨Y, hY⟩ : ∃ Y : Int, Y = ((l.countP fun e => h.clashB e a b : Nat) : Int) := ⟨_, rfl⟩
      obtain ⟨R, hRR⟩ : ∃ R, R = verdictR l (fun e => h.clashB e a b) := ⟨_, rfl⟩
      rw [← hY, ← hRR] at hR0
      rw [← hY]
      have hR := Lib.hid hR0
      have HRR := Lib.hid hRR
      clear hR0 hY hRR hcl
      go_wp2_with (fail)
      refine (refverdict_calls Y l.length _).mono ?_
      (rintro e w' hr; first | ((with_reducible replace hr := Ret.up hr); obtain ⟨rfl, z, rfl⟩ := hr) | (obtain ⟨rfl, z, rfl⟩ := hr))
      go_wp2
      go_ret
      exact ret_mk (ret_int (by rw [← hR.out, HRR.out])) (hb1.trans (Below.mono (later_below hb hb.size) hb1.size))
set_option maxHeartbeats 2000000 in
theorem reflongs_calls (v : Value) (h : Hs) (A : Option Addr) (c : Nat) (l : List (List Int)) (t : Nat) (w : World) (H : HsAt w v h) (HL : LsAt w A c l) (hok : ErrsOk h l) (hf : h.fault = 0) (ht : t < h.tickets.length) :
    Calls Try.prog 34 #[v, .slice A l.length c, .int .i64 t] w (Ret (.int .i64 (verdictR l fun e => h.longB e t)) w) := by
  have H0 := H
  obtain ⟨A2, c2, A3, c3, A4, c4, rfl, H2, H3, H4⟩ := H
  obtain ⟨W1, hW1⟩ : ∃ W1, W1 = w.alloc (.cells #[.int .i64 h.hour, .int .i64 h.grace, .slice A2 h.clocks.length c2, .slice A3 h.tickets.length c3, .slice A4 h.clips.length c4] 26) := ⟨_, rfl⟩
  have hb1 : Below w.heap.size w W1 := by rw [hW1]; exact gA (Below.refl _ _)
  have hB : BlkAt W1 w.heap.size 26 [.int .i64 h.hour, .int .i64 h.grace, .slice A2 h.clocks.length c2, .slice A3 h.tickets.length c3, .slice A4 h.clips.length c4] := by rw [hW1]; exact BlkAt.new _ _ _
  have H1 := H0.below hb1
  have q0 := hB.cell 0
  have q1 := hB.cell 1
  have q2 := hB.cell 2
  have q3 := hB.cell 3
  have q4 := hB.cell 4
  simp only [List.getElem?_cons_zero, List.getElem?_cons_succ] at q0 q1 q2 q3 q4
  have hBl := hB.lt
  have HLS := HL.below hb1
  have hlb := HL.2.1
  go_enter Try.func34, Try.ntmps34
  go_wp2
  rw [← hW1]
  clear hW1
  go_loopw [7, 8] (fun y i wr => ∃ k : Nat, k ≤ l.length ∧ i = .int .i64 k ∧ y = .int .i64 ((l.take k).countP fun e => h.longB e t : Nat) ∧ Below W1.heap.size W1 wr) (fun _ i _ => l.length - (intOf i).toNat)
  case atStart => exact ⟨0, Nat.zero_le _, rfl, rfl, Below.refl _ _⟩
  case round =>
    obtain ⟨k, hk, rfl, rfl, hb⟩ := hrel
    have hcl : ((l.take k).countP fun e => h.longB e t) ≤ k := Nat.le_trans List.countP_le_length (by simp; omega)
    by_cases hlt : k < l.length
    · have hlt1 : (k : Int) < (l.length : Int) := by omega
      have hk0 : (0 : Int) ≤ (k : Int) := Int.natCast_nonneg _
      obtain ⟨b', off, e, B, d, rfl, hbl, hx, s0, hsl, -⟩ := (HLS.below hb).at hlt
      have hS : ((l.take (k + 1)).countP fun e => h.longB e t) = ((l.take k).countP fun e => h.longB e t) + (if h.longB e t = true then 1 else 0) := by
        rw [List.take_add_one, hx, List.countP_append]
        simp [List.countP_cons]
      have p0 := (hb.cell (p := ⟨w.heap.size, 0, none⟩) hBl).trans q0
      have p1 := (hb.cell (p := ⟨w.heap.size, 1, none⟩) hBl).trans q1
      have p2 := (hb.cell (p := ⟨w.heap.size, 2, none⟩) hBl).trans q2
      have p3 := (hb.cell (p := ⟨w.heap.size, 3, none⟩) hBl).trans q3
      have p4 := (hb.cell (p := ⟨w.heap.size, 4, none⟩) hBl).trans q4
      have hBr : w.heap.size < wr.heap.size := Nat.lt_of_lt_of_le hBl hb.size
      have hem := hok e (List.mem_of_getElem? hx)
      have C0 := Lib.hid (fun z => reflong_calls _ h B d e t (later wr z) (H1.below (hb.trans ((below_later wr z).mono hb.size))) (hsl.below (below_later wr z)) hem.2 hem.1 hf ht)
      obtain ⟨m, hm⟩ : ∃ m, m = ((l.take k).countP fun e => h.longB e t) := ⟨_, rfl⟩
      rw [← hm] at hcl hS ⊢
      have hm0 : (0 : Int) ≤ (m : Int) := Int.natCast_nonneg _
      have hmk : (m : Int) ≤ (k : Int) := by omega
      clear hm hx hem
      cases hp : h.longB e t with
      | false =>
        rw [hp] at C0 hS
        have HS := Lib.hid hS
        clear hp hS
        go_wp2
        refine region_later (by kernel_rfl) (by kernel_rfl) ?_
        repeat (go_big_quiet_step (first | with_reducible exact quiet_ret (C0.out _)))
        refine wpQuiet_nil ?_
        rintro W' ⟨u, rfl⟩
        go_wp2
        go_roundw
        case rel => exact ⟨k + 1, by omega, by go_num, by rw [HS.out]; rfl, later_below hb hb.size⟩
        case measure => simp [intOf]; omega
      | true =>
        rw [hp] at C0 hS
        have HS := Lib.hid hS
        clear hp hS
        go_wp2
        refine region_later (by kernel_rfl) (by kernel_rfl) ?_
        repeat (go_big_quiet_step (first | with_reducible exact quiet_ret (C0.out _)))
        refine wpQuiet_nil ?_
        rintro W' ⟨u, rfl⟩
        go_wp2
        go_roundw
        case rel => exact ⟨k + 1, by omega, by go_num, by rw [HS.out]; congr 1, later_below hb hb.size⟩
        case measure => simp [intOf]; omega
    · obtain rfl : k = l.length := by omega
      have hR0 := verdN_R l (fun e => h.longB e t)
      rw [List.take_length]
      obtain ⟨Y, hY⟩ : ∃ Y : Int, Y = ((l.countP fun e => h.longB e t : Nat) : Int) := ⟨_, rfl⟩
      obtain ⟨R, hRR⟩ : ∃ R, R = verdictR l (fun e => h.longB e t) := ⟨_, rfl⟩
      rw [← hY, ← hRR] at hR0
      rw [← hY]
      have hR := Lib.hid hR0
      have HRR := Lib.hid hRR
      clear hR0 hY hRR hcl
      go_wp2_with (fail)
      refine (refverdict_calls Y l.length _).mono ?_
      (rintro e w' hr; first | ((with_reducible replace hr := Ret.up hr); obtain ⟨rfl, z, rfl⟩ := hr) | (obtain ⟨rfl, z, rfl⟩ := hr))
      go_wp2
      go_ret
      exact ret_mk (ret_int (by rw [← hR.out, HRR.out])) (hb1.trans (Below.mono (later_below hb hb.size) hb1.size))
end Go.Proofs.Ytcngnfnljkkjgaa
namespace Go.Proofs.Ytcngnfnljkkjgaa
open Go.RowKit
attribute [local go_sem] cell_later frozen_later lt_later le_later

set_option maxHeartbeats 2000000 in
theorem refispaid_calls (v : Value) (h : Hs) (E : Option Addr) (ce : Nat) (e : List Int) (w : World) (H : HsAt w v h) (HE : SlA w 1 gI E ce e) (hl : e.length = h.clocks.length) (he : ErrOk e) (hf : h.fault = 0) :
    Calls Try.prog 74 #[v, .slice E e.length ce] w (Ret (.bool (h.paidB e)) w) := by
  have H0 := H
  obtain ⟨A2, c2, A3, c3, A4, c4, rfl, H2, H3, H4⟩ := H
  obtain ⟨W1, hW1⟩ : ∃ W1, W1 = w.alloc (.cells #[.int .i64 h.hour, .int .i64 h.grace, .slice A2 h.clocks.length c2, .slice A3 h.tickets.length c3, .slice A4 h.clips.length c4] 26) := ⟨_, rfl⟩
  have hb1 : Below w.heap.size w W1 := by rw [hW1]; exact gA (Below.refl _ _)
  have hB : BlkAt W1 w.heap.size 26 [.int .i64 h.hour, .int .i64 h.grace, .slice A2 h.clocks.length c2, .slice A3 h.tickets.length c3, .slice A4 h.clips.length c4] := by rw [hW1]; exact BlkAt.new _ _ _
  have H1 := H0.below hb1
  have q0 := hB.cell 0
  have q1 := hB.cell 1
  have q2 := hB.cell 2
  have q3 := hB.cell 3
  have q4 := hB.cell 4
  simp only [List.getElem?_cons_zero, List.getElem?_cons_succ] at q0 q1 q2 q3 q4
  have hBl := hB.lt
  have HEE := HE.below hb1
  have HL := Lib.hid hl
  have ht6 : h.tickets.length ≤ 6 := (small_iff.1 (fault_zero hf).1).2.1
  clear hl
  go_enter Try.func74, Try.ntmps74
  go_wp2
  rw [← hW1]
  clear hW1
  go_loopw [5] (fun i wr => ∃ k : Nat, k ≤ h.tickets.length ∧ i = .int .i64 k ∧ (List.range k).all (h.okAt e) = true ∧ Below W1.heap.size W1 wr) (fun i _ => h.tickets.length - (intOf i).toNat)
  case atStart => exact ⟨0, Nat.zero_le _, rfl, rfl, Below.refl _ _⟩
  case round =>
    obtain ⟨a, hk, rfl, hall, hb⟩ := hrel
    have HA := Lib.hid hall
    clear hall
    have p0 := (hb.cell (p := ⟨w.heap.size, 0, none⟩) hBl).trans q0
    have p1 := (hb.cell (p := ⟨w.heap.size, 1, none⟩) hBl).trans q1
    have p2 := (hb.cell (p := ⟨w.heap.size, 2, none⟩) hBl).trans q2
    have p3 := (hb.cell (p := ⟨w.heap.size, 3, none⟩) hBl).trans q3
    have p4 := (hb.cell (p := ⟨w.heap.size, 4, none⟩) hBl).trans q4
    have hBr : w.heap.size < wr.heap.size := Nat.lt_of_lt_of_le hBl hb.size
    by_cases hlt : a < h.tickets.length
    · have hlt1 : (a : Int) < (h.tickets.length : Int) := by omega
      have ha0 : (0 : Int) ≤ (a : Int) := Int.natCast_nonneg _
      have CL := reflong_calls _ h E ce e a wr (H1.below hb) (HEE.below hb) HL.out he hf hlt
      cases hlg : h.longB e a with
      | true =>
        have hR := Lib.hid (show h.paidB e = false from all_range_false hlt (by simp [Hs.okAt, hlg]))
        rw [hlg] at CL
        have CL := Lib.hid CL
        clear hlg
        go_wp2_with (fail)
        refine CL.out.mono ?_
        (rintro e w' hr; first | ((with_reducible replace hr := Ret.up hr); obtain ⟨rfl, z, rfl⟩ := hr) | (obtain ⟨rfl, z, rfl⟩ := hr))
        go_wp2
        go_ret
        exact ret_mk (ret_bool hR.out.symm) (hb1.trans (Below.mono (later_below hb hb.size) hb1.size))
      | false =>
        rw [hlg] at CL
        have CL := Lib.hid CL
        have HLG := Lib.hid hlg
        clear hlg
        go_wp2_with (fail)
        refine CL.out.mono ?_
        (rintro e w' hr; first | ((with_reducible replace hr := Ret.up hr); obtain ⟨rfl, z, rfl⟩ := hr) | (obtain ⟨rfl, z, rfl⟩ := hr))
        have hb0 : Below W1.heap.size W1 (later wr z) := later_below hb hb.size
        go_wp2
        go_loopw [6] (fun i wr => ∃ b : Nat, b ≤ a ∧ i = .int .i64 b ∧ (List.range b).all (fun k => !h.clashB e a k) = true ∧ Below W1.heap.size W1 wr) (fun i _ => a - (intOf i).toNat)
        case atStart => exact ⟨0, Nat.zero_le _, rfl, rfl, hb0⟩
        case round =>
          obtain ⟨b, hkb, rfl, hall, hb⟩ := hrel
          have HB' := Lib.hid hall
          clear hall
          have p0 := (hb.cell (p := ⟨w.heap.size, 0, none⟩) hBl).trans q0
          have p1 := (hb.cell (p := ⟨w.heap.size, 1, none⟩) hBl).trans q1
          have p2 := (hb.cell (p := ⟨w.heap.size, 2, none⟩) hBl).trans q2
          have p3 := (hb.cell (p := ⟨w.heap.size, 3, none⟩) hBl).trans q3
          have p4 := (hb.cell (p := ⟨w.heap.size, 4, none⟩) hBl).trans q4
          have hBr : w.heap.size < wr.heap.size := Nat.lt_of_lt_of_le hBl hb.size
          by_cases hlb : b < a
          · have hlb1 : (b : Int) < (a : Int) := by omega
            have hb00 : (0 : Int) ≤ (b : Int) := Int.natCast_nonneg _
            have CC := refclash_calls _ h E ce e a b wr (H1.below hb) (HEE.below hb) HL.out he hf hlt (by omega)
            cases hcl : h.clashB e a b with
            | true =>
              have hR := Lib.hid (show h.paidB e = false from all_range_false hlt (by
                have : ((List.range a).all fun k => !h.clashB e a k) = false := all_range_false hlb (by simp [hcl])
                rw [Hs.okAt, this, Bool.and_false]))
              rw [hcl] at CC
              have CC := Lib.hid CC
              clear hcl
              go_wp2_with (fail)
              refine CC.out.mono ?_
              (rintro e w' hr; first | ((with_reducible replace hr := Ret.up hr); obtain ⟨rfl, z, rfl⟩ := hr) | (obtain ⟨rfl, z, rfl⟩ := hr))
              go_wp2
              go_ret
              exact ret_mk (ret_bool hR.out.symm) (hb1.trans (Below.mono (later_below hb hb.size) hb1.size))
            | false =>
              have HN := Lib.hid (all_succ HB'.out (show (!h.clashB e a b) = true by simp [hcl]))
              rw [hcl] at CC
              have CC := Lib.hid CC
              clear hcl
              go_wp2_with (fail)
              refine CC.out.mono ?_
              (rintro e w' hr; first | ((with_reducible replace hr := Ret.up hr); obtain ⟨rfl, z, rfl⟩ := hr) | (obtain ⟨rfl, z, rfl⟩ := hr))
              go_wp2
              go_roundw
              case rel => exact ⟨b + 1, by omega, by go_num, HN.out, later_below hb hb.size⟩
              case measure => simp [intOf]; omega
          · obtain rfl : b = a := by omega
            have HN := Lib.hid (all_succ HA.out (show h.okAt e b = true by rw [Hs.okAt, HLG.out, HB'.out]; rfl))
            go_wp2
            go_roundw
            case rel => exact ⟨b + 1, by omega, by go_num, HN.out, hb⟩
            case measure => simp [intOf]; omega
    · obtain rfl : a = h.tickets.length := by omega
      have hR := Lib.hid (show h.paidB e = true from HA.out)
      go_wp2
      go_ret
      exact ret_mk (ret_bool hR.out.symm) (hb1.trans (hb.mono hb1.size))

set_option maxHeartbeats 2000000 in
theorem refpaids_calls (v : Value) (h : Hs) (A : Option Addr) (c : Nat) (l : List (List Int)) (w : World) (H : HsAt w v h) (HL : LsAt w A c l) (hok : ErrsOk h l) (hf : h.fault = 0) :
    Calls Try.prog 33 #[v, .slice A l.length c] w (Ret (.int .i64 (verdictR l fun e => h.paidB e)) w) := by
  have H0 := H
  obtain ⟨A2, c2, A3, c3, A4, c4, rfl, H2, H3, H4⟩ := H
  obtain ⟨W1, hW1⟩ : ∃ W1, W1 = w.alloc (.cells #[.int .i64 h.hour, .int .i64 h.grace, .slice A2 h.clocks.length c2, .slice A3 h.tickets.length c3, .slice A4 h.clips.length c4] 26) := ⟨_, rfl⟩
  have hb1 : Below w.heap.size w W1 := by rw [hW1]; exact gA (Below.refl _ _)
  have hB : BlkAt W1 w.heap.size 26 [.int .i64 h.hour, .int .i64 h.grace, .slice A2 h.clocks.length c2, .slice A3 h.tickets.length c3, .slice A4 h.clips.length c4] := by rw [hW1]; exact BlkAt.new _ _ _
  have H1 := H0.below hb1
  have q0 := hB.cell 0
  have q1 := hB.cell 1
  have q2 := hB.cell 2
  have q3 := hB.cell 3
  have q4 := hB.cell 4
  simp only [List.getElem?_cons_zero, List.getElem?_cons_succ] at q0 q1 q2 q3 q4
  have hBl := hB.lt
  have HLS := HL.below hb1
  have hlb := HL.2.1
  go_enter Try.func33, Try.ntmps33
  go_wp2
  rw [← hW1]
  clear hW1
  go_loopw [5, 6] (fun y i wr => ∃ k : Nat, k ≤ l.length ∧ i = .int .i64 k ∧ y = .int .i64 ((l.take k).countP fun e => h.paidB e : Nat) ∧ Below W1.heap.size W1 wr) (fun _ i _ => l.length - (intOf i).toNat)
  case atStart => exact ⟨0, Nat.zero_le _, rfl, rfl, Below.refl _ _⟩
  case round =>
    obtain ⟨k, hk, rfl, rfl, hb⟩ := hrel
    have hcl : ((l.take k).countP fun e => h.paidB e) ≤ k := Nat.le_trans List.countP_le_length (by simp; omega)
    by_cases hlt : k < l.length
    · have hlt1 : (k : Int) < (l.length : Int) := by omega
      have hk0 : (0 : Int) ≤ (k : Int) := Int.natCast_nonneg _
      obtain ⟨b', off, e, B, d, rfl, hbl, hx, s0, hsl, -⟩ := (HLS.below hb).at hlt
      have hS : ((l.take (k + 1)).countP fun e => h.paidB e) = ((l.take k).countP fun e => h.paidB e) + (if h.paidB e = true then 1 else 0) := by
        rw [List.take_add_one, hx, List.countP_append]
        simp [List.countP_cons]
      have p0 := (hb.cell (p := ⟨w.heap.size, 0, none⟩) hBl).trans q0
      have p1 := (hb.cell (p := ⟨w.heap.size, 1, none⟩) hBl).trans q1
      have p2 := (hb.cell (p := ⟨w.heap.size, 2, none⟩) hBl).trans q2
      have p3 := (hb.cell (p := ⟨w.heap.size, 3, none⟩) hBl).trans q3
      have p4 := (hb.cell (p := ⟨w.heap.size, 4, none⟩) hBl).trans q4
      have hBr : w.heap.size < wr.heap.size := Nat.lt_of_lt_of_le hBl hb.size
      have hem := hok e (List.mem_of_getElem? hx)
      have C0 := Lib.hid (fun z => refispaid_calls _ h B d e (later wr z) (H1.below (hb.trans ((below_later wr z).mono hb.size))) (hsl.below (below_later wr z)) hem.2 hem.1 hf)
      obtain ⟨m, hm⟩ : ∃ m, m = ((l.take k).countP fun e => h.paidB e) := ⟨_, rfl⟩
      rw [← hm] at hcl hS ⊢
      have hm0 : (0 : Int) ≤ (m : Int) := Int.natCast_nonneg _
      have hmk : (m : Int) ≤ (k : Int) := by omega
      clear hm hx hem
      cases hp : h.paidB e with
      | false =>
        rw [hp] at C0 hS
        have HS := Lib.hid hS
        clear hp hS
        go_wp2
        refine region_later (by kernel_rfl) (by kernel_rfl) ?_
        repeat (go_big_quiet_step (first | with_reducible exact quiet_ret (C0.out _)))
        refine wpQuiet_nil ?_
        rintro W' ⟨u, rfl⟩
        go_wp2
        go_roundw
        case rel => exact ⟨k + 1, by omega, by go_num, by rw [HS.out]; rfl, later_below hb hb.size⟩
        case measure => simp [intOf]; omega
      | true =>
        rw [hp] at C0 hS
        have HS := Lib.hid hS
        clear hp hS
        go_wp2
        refine region_later (by kernel_rfl) (by kernel_rfl) ?_
        repeat (go_big_quiet_step (first | with_reducible exact quiet_ret (C0.out _)))
        refine wpQuiet_nil ?_
        rintro W' ⟨u, rfl⟩
        go_wp2
        go_roundw
        case rel => exact ⟨k + 1, by omega, by go_num, by rw [HS.out]; congr 1, later_below hb hb.size⟩
        case measure => simp [intOf]; omega
    · obtain rfl : k = l.length := by omega
      have hR0 := verdN_R l (fun e => h.paidB e)
      rw [List.take_length]
      obtain ⟨Y, hY⟩ : ∃ Y : Int, Y = ((l.countP fun e => h.paidB e : Nat) : Int) := ⟨_, rfl⟩
      obtain ⟨R, hRR⟩ : ∃ R, R = verdictR l (fun e => h.paidB e) := ⟨_, rfl⟩
      rw [← hY, ← hRR] at hR0
      rw [← hY]
      have hR := Lib.hid hR0
      have HRR := Lib.hid hRR
      clear hR0 hY hRR hcl
      go_wp2_with (fail)
      refine (refverdict_calls Y l.length _).mono ?_
      (rintro e w' hr; first | ((with_reducible replace hr := Ret.up hr); obtain ⟨rfl, z, rfl⟩ := hr) | (obtain ⟨rfl, z, rfl⟩ := hr))
      go_wp2
      go_ret
      exact ret_mk (ret_int (by rw [← hR.out, HRR.out])) (hb1.trans (Below.mono (later_below hb hb.size) hb1.size))
end Go.Proofs.Ytcngnfnljkkjgaa
namespace Go.Proofs.Ytcngnfnljkkjgaa
open Go.RowKit
attribute [local go_sem] cell_later frozen_later lt_later le_later

theorem ready_parts {h : Hs} (hr : h.readyB = true) : h.clocks.length ≤ 1000 ∧ h.tickets.length ≤ 1000 ∧ h.clips.length ≤ 1000 ∧ h.fault = 0 := by
  simp only [Hs.readyB, Bool.and_eq_true, decide_eq_true_eq] at hr
  obtain ⟨h1, h2, h3⟩ := thin_iff.1 hr.1
  exact ⟨by omega, by omega, by omega, hr.2⟩
theorem ask_bad {h : Hs} (hf : h.fault = 0) (ha : h.askE 0 ≠ 0) : h.askE 0 = 11 := by
  unfold Hs.askE at ha ⊢
  simp only [hf, ne_eq, not_true_eq_false, if_false] at ha ⊢
  by_cases ht : h.truths = []
  · rw [if_pos ht]
  · rw [if_neg ht] at ha; exact absurd rfl ha

set_option maxRecDepth 100000 in
set_option maxHeartbeats 4000000 in
theorem once_calls (v : Value) (h : Hs) (w : World) (H : HsAt w v h) :
    Calls Try.prog 10 #[v] w (Ret (.bool true) w) := by
  have H0 := H
  obtain ⟨A2, c2, A3, c3, A4, c4, rfl, H2, H3, H4⟩ := H
  obtain ⟨W1, hW1⟩ : ∃ W1, W1 = w.alloc (.cells #[.int .i64 h.hour, .int .i64 h.grace, .slice A2 h.clocks.length c2, .slice A3 h.tickets.length c3, .slice A4 h.clips.length c4] 26) := ⟨_, rfl⟩
  have hb1 : Below w.heap.size w W1 := by rw [hW1]; exact gA (Below.refl _ _)
  have hB : BlkAt W1 w.heap.size 26 [.int .i64 h.hour, .int .i64 h.grace, .slice A2 h.clocks.length c2, .slice A3 h.tickets.length c3, .slice A4 h.clips.length c4] := by rw [hW1]; exact BlkAt.new _ _ _
  have H1 := H0.below hb1
  have q0 := hB.cell 0
  have q1 := hB.cell 1
  have q2 := hB.cell 2
  have q3 := hB.cell 3
  have q4 := hB.cell 4
  simp only [List.getElem?_cons_zero, List.getElem?_cons_succ] at q0 q1 q2 q3 q4
  have hBl := hB.lt
  cases hr : h.readyB with
  | false =>
    go_enter Try.func10, Try.ntmps10
    go_wp2_with (fail)
    rw [← hW1]
    clear hW1
    refine (ready_calls _ h _ H1).mono ?_
    (rintro e w' hr; first | ((with_reducible replace hr := Ret.up hr); obtain ⟨rfl, z, rfl⟩ := hr) | (obtain ⟨rfl, z, rfl⟩ := hr))
    go_wp2_with (fail)
    refine (awake_calls _).mono ?_
    (rintro e w' hr; first | ((with_reducible replace hr := Ret.up hr); obtain ⟨rfl, z, rfl⟩ := hr) | (obtain ⟨rfl, z, rfl⟩ := hr))
    go_wp2
    go_ret
    exact ret_mk rfl (later_below hb1 hb1.size)
  | true =>
    obtain ⟨hl2, hl3, hl4, hf⟩ := ready_parts hr
    have HF := Lib.hid hf
    have ht6 : h.tickets.length ≤ 6 := (small_iff.1 (fault_zero hf).1).2.1
    clear hf
    by_cases ha : h.askE 0 = 0
    · have HA := Lib.hid ha
      have hlen := long_len ha
      clear ha
      go_enter Try.func10, Try.ntmps10
      go_wp2_with (fail)
      rw [← hW1]
      clear hW1
      refine (ready_calls _ h _ H1).mono ?_
      (rintro e w' hr; first | ((with_reducible replace hr := Ret.up hr); obtain ⟨rfl, z, rfl⟩ := hr) | (obtain ⟨rfl, z, rfl⟩ := hr))
      go_wp2_with (fail)
      refine (house_calls _ h _ (H1.below (below_later _ _)) hl2 hl3 hl4).mono ?_
      rintro e w' hr
      replace hr := RetHs.up hr
      obtain ⟨v, rfl, ⟨z, rfl⟩, HH⟩ := hr
      go_wp2_with (fail)
      have CA := paid_all_calls v h _ HH
      rw [HA.out] at CA
      refine CA.mono ?_
      clear CA HH
      (rintro e w' hr; first | ((with_reducible replace hr := Ret.up hr); obtain ⟨rfl, z, rfl⟩ := hr) | (obtain ⟨rfl, z, rfl⟩ := hr))
      go_wp2_with (fail)
      refine (house_calls _ h _ (H1.below (below_later _ _)) hl2 hl3 hl4).mono ?_
      rintro e w' hr
      replace hr := RetHs.up hr
      obtain ⟨v, rfl, ⟨z, rfl⟩, HH⟩ := hr
      go_wp2_with (fail)
      have CA := long_all_calls v h _ HH
      rw [HA.out] at CA
      refine CA.mono ?_
      clear CA HH
      (rintro e w' hr; replace hr := RetSlN.up hr; obtain ⟨A, c, rfl, ⟨z, rfl⟩, hsl⟩ := hr)
      rw [hlen]
      have HLEN := Lib.hid hlen
      clear hlen
      go_wp2
      go_loopw [7, 8, 9] (fun nv al i wr => ∃ k : Nat, k ≤ h.tickets.length ∧ i = .int .i64 k ∧ nv = .bool (h.nvL k) ∧ al = .bool (h.alL k) ∧ Below (later W1 z).heap.size (later W1 z) wr) (fun _ _ i _ => h.tickets.length - (intOf i).toNat)
      case atStart => exact ⟨0, Nat.zero_le _, rfl, rfl, rfl, Below.refl _ _⟩
      case round =>
        obtain ⟨k, hk, rfl, rfl, rfl, hb⟩ := hrel
        by_cases hlt : k < h.tickets.length
        · have hlt1 : (k : Int) < (h.tickets.length : Int) := by omega
          have hk0 : (0 : Int) ≤ (k : Int) := Int.natCast_nonneg _
          obtain ⟨bb, off, y, rfl, hbl, hy, s0⟩ := (hsl.below hb).atI (i := k) (by rw [HLEN.out]; exact hlt)
          have hy3 : y = 1 ∨ y = 2 ∨ y = 3 := by
            rw [long_get HA.out hlt] at hy
            cases hy
            exact verdict_cases _ _
          have HNV := Lib.hid (nvL_step hy)
          have HAL := Lib.hid (alL_step hy)
          clear hy
          obtain ⟨nv, hnv⟩ : ∃ b, b = h.nvL k := ⟨_, rfl⟩
          obtain ⟨al, hal⟩ : ∃ b, b = h.alL k := ⟨_, rfl⟩
          rw [← hnv] at HNV ⊢
          rw [← hal] at HAL ⊢
          clear hnv hal
          cases nv <;> cases al <;> rcases hy3 with rfl | rfl | rfl
          all_goals
            go_wp2
            refine region_later (by kernel_rfl) (by kernel_rfl) ?_
            repeat (go_big_quiet_step (fail))
            refine wpQuiet_nil ?_
            rintro W' ⟨u, rfl⟩
            go_wp2
            go_roundw
            case rel => exact ⟨k + 1, by omega, by go_num, by rw [HNV.out]; rfl, by rw [HAL.out]; rfl, later_below hb hb.size⟩
            case measure => simp [intOf]; omega
        · obtain rfl : k = h.tickets.length := by omega
          go_wp2
          go_loopw [7, 8, 10] (fun nv al i wr => ∃ a : Nat, a ≤ h.tickets.length ∧ i = .int .i64 a ∧ nv = .bool (h.nvL h.tickets.length && h.nvC a) ∧ al = .bool (h.alL h.tickets.length || h.alC a) ∧ Below (later W1 z).heap.size (later W1 z) wr) (fun _ _ i _ => h.tickets.length - (intOf i).toNat)
          case atStart => exact ⟨0, Nat.zero_le _, rfl, by rw [show h.nvC 0 = true from rfl, Bool.and_true], by rw [show h.alC 0 = false from rfl, Bool.or_false], hb⟩
          case round =>
            obtain ⟨a, hk, rfl, rfl, rfl, hb⟩ := hrel
            have hbw : Below W1.heap.size W1 wr := Below.trans (below_later W1 z) (hb.mono (size_later W1 z))
            have p3 := (hbw.cell (p := ⟨w.heap.size, 3, none⟩) hBl).trans q3
            have hBr : w.heap.size < wr.heap.size := Nat.lt_of_lt_of_le hBl hbw.size
            by_cases hlt : a < h.tickets.length
            · have hlt1 : (a : Int) < (h.tickets.length : Int) := by omega
              have ha0 : (0 : Int) ≤ (a : Int) := Int.natCast_nonneg _
              go_wp2
              go_loopw [7, 8, 11] (fun nv al i wr => ∃ b : Nat, b ≤ a ∧ i = .int .i64 b ∧ nv = .bool ((h.nvL h.tickets.length && h.nvC a) && h.nvR a b) ∧ al = .bool ((h.alL h.tickets.length || h.alC a) || h.alR a b) ∧ Below (later W1 z).heap.size (later W1 z) wr) (fun _ _ i _ => a - (intOf i).toNat)
              case atStart => exact ⟨0, Nat.zero_le _, rfl, by rw [show h.nvR a 0 = true from rfl, Bool.and_true], by rw [show h.alR a 0 = false from rfl, Bool.or_false], hb⟩
              case round =>
                obtain ⟨b, hkb, rfl, rfl, rfl, hb⟩ := hrel
                have hbw : Below W1.heap.size W1 wr := Below.trans (below_later W1 z) (hb.mono (size_later W1 z))
                have p0 := (hbw.cell (p := ⟨w.heap.size, 0, none⟩) hBl).trans q0
                have p1 := (hbw.cell (p := ⟨w.heap.size, 1, none⟩) hBl).trans q1
                have p2 := (hbw.cell (p := ⟨w.heap.size, 2, none⟩) hBl).trans q2
                have p3 := (hbw.cell (p := ⟨w.heap.size, 3, none⟩) hBl).trans q3
                have p4 := (hbw.cell (p := ⟨w.heap.size, 4, none⟩) hBl).trans q4
                have hBr : w.heap.size < wr.heap.size := Nat.lt_of_lt_of_le hBl hbw.size
                by_cases hlb : b < a
                · have hlb1 : (b : Int) < (a : Int) := by omega
                  have hb0 : (0 : Int) ≤ (b : Int) := Int.natCast_nonneg _
                  obtain ⟨y, hy⟩ : ∃ y, y = h.clashV (a : Int) (b : Int) := ⟨_, rfl⟩
                  have hy3 : y = 1 ∨ y = 2 ∨ y = 3 := by
                    rw [hy, clash_val HA.out hlb hlt]
                    exact verdict_cases _ _
                  have hnr := nvR_step h a b
                  have har := alR_step h a b
                  rw [← hy] at hnr har
                  obtain ⟨nv, hnv⟩ : ∃ x, x = ((h.nvL h.tickets.length && h.nvC a) && h.nvR a b) := ⟨_, rfl⟩
                  obtain ⟨al, hal⟩ : ∃ x, x = ((h.alL h.tickets.length || h.alC a) || h.alR a b) := ⟨_, rfl⟩
                  have HNV := Lib.hid (show ((h.nvL h.tickets.length && h.nvC a) && h.nvR a (b + 1)) = (nv && decide (y = 2)) by rw [hnr, hnv, Bool.and_assoc, Bool.and_assoc, Bool.and_assoc])
                  have HAL := Lib.hid (show ((h.alL h.tickets.length || h.alC a) || h.alR a (b + 1)) = (al || decide (y = 1)) by rw [har, hal, Bool.or_assoc, Bool.or_assoc, Bool.or_assoc])
                  rw [← hnv, ← hal]
                  clear hnr har hnv hal
                  have HY := Lib.hid hy
                  clear hy
                  go_wp2_with (fail)
                  refine (house_calls _ h _ (H1.below hbw) hl2 hl3 hl4).mono ?_
                  rintro e w' ⟨v2, rfl, ⟨z2, rfl⟩, HH⟩
                  go_wp2_with (fail)
                  have CA := clash_all_calls v2 h a b _ HH
                  rw [clash_ok HA.out hlb hlt, ← HY.out] at CA
                  refine CA.mono ?_
                  clear CA HH HY
                  (rintro e w' hr; first | ((with_reducible replace hr := Ret.up hr); obtain ⟨rfl, z, rfl⟩ := hr) | (obtain ⟨rfl, z, rfl⟩ := hr))
                  cases nv <;> cases al <;> rcases hy3 with rfl | rfl | rfl
                  all_goals
                    go_wp2
                    go_roundw
                    case rel => exact ⟨b + 1, by omega, by go_num, by rw [HNV.out]; rfl, by rw [HAL.out]; rfl, later_below hb hb.size⟩
                    case measure => simp [intOf]; omega
                · obtain rfl : b = a := by omega
                  go_wp2
                  go_roundw
                  case rel => exact ⟨b + 1, by omega, by go_num, by rw [nvC_step, Bool.and_assoc], by rw [alC_step, Bool.or_assoc], hb⟩
                  case measure => simp [intOf]; omega
            · obtain rfl : a = h.tickets.length := by omega
              have h1 := once_never HA.out
              have h2 := once_always HA.out
              have h3 := verdict_cases h.truths h.paidB
              rw [show verdictB h.truths h.paidB = h.paidV by simp [Hs.paidV, HA.out]] at h3
              obtain ⟨p, hp⟩ : ∃ p, p = h.paidV := ⟨_, rfl⟩
              obtain ⟨nv, hnv⟩ : ∃ x, x = (h.nvL h.tickets.length && h.nvC h.tickets.length) := ⟨_, rfl⟩
              obtain ⟨al, hal⟩ : ∃ x, x = (h.alL h.tickets.length || h.alC h.tickets.length) := ⟨_, rfl⟩
              rw [← hp] at h1 h2 h3 ⊢
              rw [← hnv] at h1 ⊢
              rw [← hal] at h2 ⊢
              clear hp hnv hal
              have h4 : (nv = true ∧ al = false ∧ p = 1) ∨ (nv = false ∧ al = true ∧ p = 2) ∨ (nv = false ∧ al = false ∧ p = 2) ∨ (nv = false ∧ al = false ∧ p = 3) := by
                cases nv <;> cases al <;> rcases h3 with h3 | h3 | h3 <;> simp_all
              clear h1 h2 h3
              rcases h4 with ⟨rfl, rfl, rfl⟩ | ⟨rfl, rfl, rfl⟩ | ⟨rfl, rfl, rfl⟩ | ⟨rfl, rfl, rfl⟩
              all_goals
                go_wp2_with (fail)
                refine (awake_calls _).mono ?_
                (rintro e w' hr; first | ((with_reducible replace hr := Ret.up hr); obtain ⟨rfl, z, rfl⟩ := hr) | (obtain ⟨rfl, z, rfl⟩ := hr))
                go_wp2
                go_ret
                exact ret_mk rfl (hb1.trans (Below.mono (later_below hbw hbw.size) hb1.size))
    · have hask := Lib.hid (ask_bad HF.out ha)
      clear ha
      go_enter Try.func10, Try.ntmps10
      go_wp2_with (fail)
      rw [← hW1]
      clear hW1
      refine (ready_calls _ h _ H1).mono ?_
      (rintro e w' hr; first | ((with_reducible replace hr := Ret.up hr); obtain ⟨rfl, z, rfl⟩ := hr) | (obtain ⟨rfl, z, rfl⟩ := hr))
      go_wp2_with (fail)
      refine (house_calls _ h _ (H1.below (below_later _ _)) hl2 hl3 hl4).mono ?_
      rintro e w' hr
      replace hr := RetHs.up hr
      obtain ⟨v, rfl, ⟨z, rfl⟩, HH⟩ := hr
      go_wp2_with (fail)
      have CA := paid_all_calls v h _ HH
      rw [hask.out] at CA
      refine CA.mono ?_
      clear CA HH
      (rintro e w' hr; first | ((with_reducible replace hr := Ret.up hr); obtain ⟨rfl, z, rfl⟩ := hr) | (obtain ⟨rfl, z, rfl⟩ := hr))
      go_wp2_with (fail)
      refine (house_calls _ h _ (H1.below (below_later _ _)) hl2 hl3 hl4).mono ?_
      rintro e w' hr
      replace hr := RetHs.up hr
      obtain ⟨v, rfl, ⟨z, rfl⟩, HH⟩ := hr
      go_wp2_with (fail)
      have CA := long_all_calls v h _ HH
      rw [hask.out] at CA
      refine CA.mono ?_
      clear CA HH
      (rintro e w' hr; replace hr := RetSlN.up hr; obtain ⟨A, c, rfl, ⟨z, rfl⟩, hsl⟩ := hr)
      go_wp2_with (fail)
      refine (awake_calls _).mono ?_
      (rintro e w' hr; first | ((with_reducible replace hr := Ret.up hr); obtain ⟨rfl, z, rfl⟩ := hr) | (obtain ⟨rfl, z, rfl⟩ := hr))
      go_wp2
      go_ret
      exact ret_mk rfl (later_below hb1 hb1.size)
end Go.Proofs.Ytcngnfnljkkjgaa
namespace Go.Proofs.Ytcngnfnljkkjgaa
open Go.RowKit
attribute [local go_sem] cell_later frozen_later lt_later le_later

def Hs.sureL (h : Hs) : List (List Int) := if h.askE 0 = 0 then h.truR else []
/-- What the call leaves. -/
def RetSure (l : List (List Int)) (n : Int) (w : World) (e : Ending) (w' : World) : Prop := ∃ A c, e = .returned (.tuple #[.slice A l.length c, .int .i64 n]) ∧ (∃ x, w' = later w x) ∧ LsAt w' A c l
theorem RetSure.up {l : List (List Int)} {n : Int} {w x w' : World} {e : Ending} (h : RetSure l n (later w x) e w') : RetSure l n w e w' := by
  obtain ⟨A, c, he, ⟨y, rfl⟩, hs⟩ := h
  exact ⟨A, c, he, later_ex (later_below (below_later w x) (size_later w x)), hs⟩
theorem LsAt.nil (w : World) (A : Option Addr) (c : Nat) : LsAt w A c [] := ⟨Nat.zero_le _, Nat.zero_le _, fun h => absurd rfl h⟩
theorem ask_cases {h : Hs} (hf : h.fault = 0) : (h.askE 0 = 0 ∧ h.truths ≠ []) ∨ (h.askE 0 = 11 ∧ h.truths = []) := by
  unfold Hs.askE
  by_cases ht : h.truths = []
  · exact .inr ⟨by simp [hf, ht], ht⟩
  · exact .inl ⟨by simp [hf, ht], ht⟩
theorem ask_fault {h : Hs} (hf : h.fault ≠ 0) (d : Int) : h.askE d = h.fault := by simp [Hs.askE, hf]
theorem truR_errs {h : Hs} (hf : h.fault = 0) : ErrsOk h h.truR := fun _ he => truR_ok hf he

theorem sure_calls (v : Value) (h : Hs) (w : World) (H : HsAt w v h) (hlc : h.clips.length ≤ 1000) :
    Calls Try.prog 27 #[v] w (RetSure h.sureL (h.askE 0) w) := by
  have H0 := H
  obtain ⟨A2, c2, A3, c3, A4, c4, rfl, H2, H3, H4⟩ := H
  obtain ⟨W1, hW1⟩ : ∃ W1, W1 = w.alloc (.cells #[.int .i64 h.hour, .int .i64 h.grace, .slice A2 h.clocks.length c2, .slice A3 h.tickets.length c3, .slice A4 h.clips.length c4] 26) := ⟨_, rfl⟩
  have hb1 : Below w.heap.size w W1 := by rw [hW1]; exact gA (Below.refl _ _)
  have hB : BlkAt W1 w.heap.size 26 [.int .i64 h.hour, .int .i64 h.grace, .slice A2 h.clocks.length c2, .slice A3 h.tickets.length c3, .slice A4 h.clips.length c4] := by rw [hW1]; exact BlkAt.new _ _ _
  have H1 := H0.below hb1
  have q0 := hB.cell 0
  have q1 := hB.cell 1
  have q2 := hB.cell 2
  have q3 := hB.cell 3
  have q4 := hB.cell 4
  simp only [List.getElem?_cons_zero, List.getElem?_cons_succ] at q0 q1 q2 q3 q4
  have hBl := hB.lt
  by_cases hf : h.fault = 0
  · have HF := Lib.hid hf
    have CF := law_fault_calls _ h W1 H1 hlc
    rw [hf] at CF
    have CF := Lib.hid CF
    rcases ask_cases hf with ⟨ha, hne⟩ | ⟨ha, hne⟩
    · have hS : h.sureL = h.truR := by rw [Hs.sureL, if_pos ha]
      have hn : h.truR ≠ [] := fun hh => hne ((truR_nil hf).1 hh)
      have hpos := List.length_pos_iff.2 hn
      have hz : ((h.truR.length : Int) == 0) = false := by rw [beq_eq_false_iff_ne]; omega
      have HA := Lib.hid ha
      have HS := Lib.hid hS
      clear hf ha hne hS hn
      go_enter Try.func27, Try.ntmps27
      go_wp2_with (fail)
      rw [← hW1]
      clear hW1
      refine CF.out.mono ?_
      (rintro e w' hr; first | ((with_reducible replace hr := Ret.up hr); obtain ⟨rfl, z, rfl⟩ := hr) | (obtain ⟨rfl, z, rfl⟩ := hr))
      go_wp2_with (fail)
      refine (reftruths_calls _ h _ (H1.below (below_later _ _)) HF.out).mono ?_
      (rintro e w' hr; replace hr := RetLs.up hr; obtain ⟨A, c, rfl, ⟨z, rfl⟩, hls⟩ := hr)
      have HLS := Lib.hid hls
      clear hls
      go_wp2
      go_ret2
      exact ⟨A, c, by rw [HA.out, HS.out]; rfl, later_ex (later_below hb1 hb1.size), by rw [HS.out]; exact HLS.out⟩
    · have hS : h.sureL = [] := by rw [Hs.sureL, if_neg (by omega)]
      have hn : h.truR = [] := (truR_nil hf).2 hne
      have HA := Lib.hid ha
      have HS := Lib.hid hS
      have CT := reftruths_calls _ h (later W1 W1) (H1.below (below_later _ _)) HF.out
      have HN := Lib.hid hn
      clear hf ha hne hS CT hn
      go_enter Try.func27, Try.ntmps27
      go_wp2_with (fail)
      rw [← hW1]
      clear hW1
      refine CF.out.mono ?_
      (rintro e w' hr; first | ((with_reducible replace hr := Ret.up hr); obtain ⟨rfl, z, rfl⟩ := hr) | (obtain ⟨rfl, z, rfl⟩ := hr))
      go_wp2_with (fail)
      refine (reftruths_calls _ h _ (H1.below (below_later _ _)) HF.out).mono ?_
      rw [HN.out]
      (rintro e w' hr; replace hr := RetLs.up hr; obtain ⟨A, c, rfl, ⟨z, rfl⟩, hls⟩ := hr)
      clear hls
      simp only [List.length_nil]
      go_wp2
      go_ret2
      exact ⟨none, 0, by rw [HA.out, HS.out]; rfl, later_ex (later_below hb1 hb1.size), by rw [HS.out]; exact LsAt.nil _ _ _⟩
  · have ha := ask_fault hf 0
    have hS : h.sureL = [] := by rw [Hs.sureL, ha, if_neg hf]
    have CF := law_fault_calls _ h W1 H1 hlc
    have HA := Lib.hid ha
    have HS := Lib.hid hS
    obtain ⟨F, hF⟩ : ∃ F, F = h.fault := ⟨_, rfl⟩
    rw [← hF] at hf CF HA
    have hf1 : (F != 0) = true := by simpa using hf
    have CF := Lib.hid CF
    clear hf ha hS hF
    go_enter Try.func27, Try.ntmps27
    go_wp2_with (fail)
    rw [← hW1]
    clear hW1
    refine CF.out.mono ?_
    (rintro e w' hr; first | ((with_reducible replace hr := Ret.up hr); obtain ⟨rfl, z, rfl⟩ := hr) | (obtain ⟨rfl, z, rfl⟩ := hr))
    go_wp2
    go_ret2
    exact ⟨none, 0, by rw [HA.out, HS.out]; rfl, later_ex (later_below hb1 hb1.size), by rw [HS.out]; exact LsAt.nil _ _ _⟩
end Go.Proofs.Ytcngnfnljkkjgaa
