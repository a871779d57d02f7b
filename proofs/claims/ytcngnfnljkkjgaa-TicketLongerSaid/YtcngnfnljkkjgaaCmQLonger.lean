/-
TicketLonger: the walk.
-/
import Derived.Test.YtcngnfnljkkjgaaCmY
import Derived.Test.YtcngnfnljkkjgaaCmQFirst
import Derived.Deep.Cut
namespace Go.Proofs.Ytcngnfnljkkjgaa
open Go.RowKit
attribute [local go_sem] cell_later frozen_later lt_later le_later

theorem infoRTicket : (Try.prog.info? 80).map (fun i => (i.zero, i.size, i.bytes)) = some (some (.agg #[.int .i64 0, .int .i64 0]), 2, 16) := by kernel_rfl

set_option maxRecDepth 100000 in
set_option maxHeartbeats 4000000 in
theorem lawlonger_calls (v : Value) (h : Hs) (what byv : Int) (w : World) (H : HsAt w v h) (hwh : 0 ≤ what ∧ what ≤ 255) (hby : 0 ≤ byv ∧ byv ≤ 255) :
    Calls Try.prog 14 #[v, .int .u8 what, .int .u8 byv] w (Ret (.bool true) w) := by
  have H0 := H
  obtain ⟨A2, c2, A3, c3, A4, c4, rfl, H2, H3, H4⟩ := H
  obtain ⟨W1, hW1⟩ : ∃ W1, W1 = w.alloc (.cells #[.int .i64 h.hour, .int .i64 h.grace, .slice A2 h.clocks.length c2, .slice A3 h.tickets.length c3, .slice A4 h.clips.length c4] 26) := ⟨_, rfl⟩
  have hb1 : Below w.heap.size w W1 := by rw [hW1]; exact gA (Below.refl _ _)
  have hB : BlkAt W1 w.heap.size 26 [.int .i64 h.hour, .int .i64 h.grace, .slice A2 h.clocks.length c2, .slice A3 h.tickets.length c3, .slice A4 h.clips.length c4] := by rw [hW1]; exact BlkAt.new _ _ _
  have H1 := H0.below hb1
  have q0 := hB.cell 0
  have q1 := hB.cell 1
  have q2 := hB.cell 2
  have q3 := hB.cell 3
  have q4 := hB.cell 4
  simp only [List.getElem?_cons_zero, List.getElem?_cons_succ] at q0 q1 q2 q3 q4
  have hBl := hB.lt
  cases hr : h.readyB with
  | false =>
    go_enter Try.func14, Try.ntmps14
    go_wp2_with (fail)
    rw [← hW1]
    clear hW1
    refine (ready_calls _ h _ H1).mono ?_
    (rintro e w' hr; first | ((with_reducible replace hr := Ret.up hr); obtain ⟨rfl, z, rfl⟩ := hr) | (obtain ⟨rfl, z, rfl⟩ := hr))
    go_wp2_with (fail)
    refine (awake_calls _).mono ?_
    (rintro e w' hr; first | ((with_reducible replace hr := Ret.up hr); obtain ⟨rfl, z, rfl⟩ := hr) | (obtain ⟨rfl, z, rfl⟩ := hr))
    go_wp2
    go_ret
    exact ret_mk rfl (later_below hb1 hb1.size)
  | true =>
    obtain ⟨hl2, hl3, hl4, hf, hl10⟩ := ready_of hr
    obtain ⟨i0, hi, hz0, hz1, hz2⟩ := info_parts infoRTicket
    have HF := Lib.hid hf
    clear hf
    go_enter Try.func14, Try.ntmps14
    go_wp2_with (fail)
    rw [← hW1]
    clear hW1
    refine (ready_calls _ h _ H1).mono ?_
    (rintro e w' hr; first | ((with_reducible replace hr := Ret.up hr); obtain ⟨rfl, z, rfl⟩ := hr) | (obtain ⟨rfl, z, rfl⟩ := hr))
    obtain ⟨W2, hWW2⟩ : ∃ X, X = later W1 z := ⟨_, rfl⟩
    have hn : Below W1.heap.size W1 W2 := by rw [hWW2]; exact below_later _ _
    rw [← hWW2] 
    clear hWW2
    replace H1 := H1.below hn
    replace q0 := (hn.cell (p := ⟨w.heap.size, 0, none⟩) hBl).trans q0
    replace q1 := (hn.cell (p := ⟨w.heap.size, 1, none⟩) hBl).trans q1
    replace q2 := (hn.cell (p := ⟨w.heap.size, 2, none⟩) hBl).trans q2
    replace q3 := (hn.cell (p := ⟨w.heap.size, 3, none⟩) hBl).trans q3
    replace q4 := (hn.cell (p := ⟨w.heap.size, 4, none⟩) hBl).trans q4
    replace hBl := Nat.lt_of_lt_of_le hBl hn.size
    replace hb1 := hb1.trans (hn.mono hb1.size)
    clear hn
    have H3' := H3.below hb1
    go_wp2_with (at_builtin; refine wpList_append_copy rfl _ _ 23 rfl (W2.heap.size + 1) 80 i0 (.agg #[.int .i64 0, .int .i64 0]) 2 16 Try.underlying23 hi hz0 hz1 hz2 rfl (by decide) (W2.heap.size + 1) rfl ?cB (Nat.le_refl _) rfl ((H3'.below (gA (Below.refl _ _))).below (gA (Below.refl _ _))) (fun _ _ => rfl) ?c1 ?c3 ?c4 ?c5 ?_)
    case cB => exact blk_new1 _ _ _ _
    case c1 =>
      intro y _ u hu
      simp only [gT, List.mem_cons, List.not_mem_nil, or_false] at hu
      rcases hu with rfl | rfl <;> rfl
    case c3 => unfold maxLen; omega
    case c4 => omega
    case c5 => simp only [World.size_alloc]; omega
    intro gx cx w1 hgx hlx hown hgr
    obtain ⟨bx, hbx⟩ : ∃ b, b = W2.heap.size := ⟨_, rfl⟩
    have hBx : BlkAt w1 bx 26 [.int .i64 h.hour, .int .i64 h.grace, .slice A2 h.clocks.length c2, .slice A3 h.tickets.length c3, .slice A4 h.clips.length c4] := by
      rw [hbx]
      exact (hgr.block _ (by simp only [World.size_alloc]; omega) (by intro e; have := Option.some.inj e; omega)).trans ((BlkAt.new W2 26 [.int .i64 h.hour, .int .i64 h.grace, .slice A2 h.clocks.length c2, .slice A3 h.tickets.length c3, .slice A4 h.clips.length c4]).alloc _)
    have hgb : gx ≠ bx := by omega
    rw [← hbx]
    have HBX := Lib.hid hbx
    clear hbx
    have y0 := hBx.cell 0
    have y1 := hBx.cell 1
    have y3 := hBx.cell 3
    have yf0 := hBx.frozen 0
    have yf1 := hBx.frozen 1
    have yf := hBx.frozen 3
    have hyl := hBx.lt
    simp only [List.getElem?_cons_zero, List.getElem?_cons_succ] at y0 y1 y3
    have hb1' : Below W2.heap.size W2 w1 := (gA (gA (Below.refl _ _))).grown hgr (by simp only [World.size_alloc]; omega) (fun j hj => by have := Option.some.inj hj; omega)
    have p0 := (hb1'.cell (p := ⟨w.heap.size, 0, none⟩) hBl).trans q0
    have p1 := (hb1'.cell (p := ⟨w.heap.size, 1, none⟩) hBl).trans q1
    have hne1 : ¬ bx = w.heap.size := by have := HBX.out; omega
    have hne2 : ¬ w.heap.size = bx := by have := HBX.out; omega
    have hwl : w.heap.size < w1.heap.size := Nat.lt_of_lt_of_le hBl hb1'.size
    obtain ⟨W3, hW3⟩ : ∃ X, X = w1.setCell ⟨bx, 3, none⟩ (.slice (some ⟨gx, 0, none⟩) h.tickets.length cx) := ⟨_, rfl⟩
    have hb3 : Below W2.heap.size W2 W3 := by
      rw [hW3]
      exact gS (((gA (gA (Below.refl _ _))).grown hgr (by simp only [World.size_alloc]; omega) (fun j hj => by have := Option.some.inj hj; omega))) (by show W2.heap.size ≤ bx; have := HBX.out; omega)
    have hBx3 := hBx.set_ 3 (.slice (some ⟨gx, 0, none⟩) h.tickets.length cx)
    rw [← hW3] at hBx3
    simp only [List.set_cons_succ, List.set_cons_zero] at hBx3
    have hown3 : OwnS W3 gT 80 gx h.tickets := by
      rw [hW3]
      exact hown.far _ (by show gx ≠ bx; exact hgb)
    obtain ⟨N, hN⟩ : ∃ N, N = byv % 20 := ⟨_, rfl⟩
    have hN0 : 0 ≤ N := by omega
    have hN1 : N ≤ 19 := by omega
    have HN := Lib.hid hN
    have HW3 := Lib.hid hW3
    clear hW3 hN hown hgr hBx
    have HB3 := Lib.hid hb3
    go_upto_if 34 with (fail)
    rw [← HN.out, ← HW3.out]
    clear HN HW3 y0 y1 y3 yf0 yf1 yf hyl hb1' p0 p1 hwl
    clear hb3
    go_cut [] from 34 (fun wr => ∃ (x : Hs), Longer h x ∧ x.fault = 0 ∧ Below W2.heap.size W2 wr ∧ BlkAt wr bx 26 [.int .i64 x.hour, .int .i64 x.grace, .slice A2 x.clocks.length c2, .slice (some ⟨gx, 0, none⟩) x.tickets.length cx, .slice A4 x.clips.length c4] ∧
      HsAt wr (.agg #[.int .i64 x.hour, .int .i64 x.grace, .slice A2 x.clocks.length c2, .slice (some ⟨gx, 0, none⟩) x.tickets.length cx, .slice A4 x.clips.length c4]) x)
    case first =>
      have hb3 := HB3.out
      replace q0 := (hb3.cell (p := ⟨w.heap.size, 0, none⟩) hBl).trans q0
      replace q1 := (hb3.cell (p := ⟨w.heap.size, 1, none⟩) hBl).trans q1
      replace q2 := (hb3.cell (p := ⟨w.heap.size, 2, none⟩) hBl).trans q2
      replace q3 := (hb3.cell (p := ⟨w.heap.size, 3, none⟩) hBl).trans q3
      replace q4 := (hb3.cell (p := ⟨w.heap.size, 4, none⟩) hBl).trans q4
      replace hBl := Nat.lt_of_lt_of_le hBl hb3.size
      clear hb3
      obtain ⟨⟨v1, v2⟩, ⟨v3, v4⟩, -⟩ := valid_parts HF.out
      have z0 := hBx3.cell 0
      have z1 := hBx3.cell 1
      have z3 := hBx3.cell 3
      have zf0 := hBx3.frozen 0
      have zf1 := hBx3.frozen 1
      have hyl := hBx3.lt
      simp only [List.getElem?_cons_zero, List.getElem?_cons_succ] at z0 z1 z3
      have HBX3 := Lib.hid hBx3
      have HOW3 := Lib.hid hown3
      clear hBx3 hown3
      cases e0 : (what % 3 == 0) with
      | true =>
        obtain ⟨d, hd⟩ : ∃ d, d = N % 3 := ⟨_, rfl⟩
        have hd0 : 0 ≤ d := by omega
        have hd2 : d ≤ 2 := by omega
        have HD := Lib.hid hd
        clear hd
        go_wp2
        go_loopw [9] (fun i wr => ∃ k : Nat, k ≤ h.tickets.length ∧ i = .int .i64 k ∧ KeepX gx W3 wr ∧ OwnS wr gT 80 gx (h.lgK d k)) (fun i _ => h.tickets.length - (intOf i).toNat)
        case atStart => exact ⟨0, Nat.zero_le _, rfl, KeepX.refl _ _, by simpa [Hs.lgK] using HOW3.out⟩
        case round =>
          obtain ⟨k, hk', rfl, hkx, how⟩ := hrel
          have x3 := hkx.cell (p := ⟨bx, 3, none⟩) z3 (fun e => hgb e.symm)
          have hbxl : bx < wr.heap.size := Nat.lt_of_lt_of_le hyl hkx.size
          have hgl := how.lt
          have HOW := Lib.hid how
          clear how
          by_cases hlt : k < h.tickets.length
          · have hlt1 : (k : Int) < (h.tickets.length : Int) := by omega
            have hk0 : (0 : Int) ≤ (k : Int) := Int.natCast_nonneg _
            obtain ⟨t, ht⟩ : ∃ t, h.tickets[k]? = some t := ⟨_, List.getElem?_eq_getElem hlt⟩
            have htv := (valid_parts HF.out).2.2 t (List.mem_of_getElem? ht)
            have hget := (lgK_get d hlt).trans ht
            obtain ⟨bb, oo, y, hA, -, hy, s0, s1⟩ := (HOW.out.sl (c := h.tickets.length) (k := 2) (fun _ _ => rfl) (by rw [lgK_len]; exact Nat.le_refl _) (by rw [lgK_len]; omega)).atT (i := k) (by rw [lgK_len]; exact hlt)
            cases hA
            rw [hget] at hy
            cases hy
            rw [Nat.zero_add] at s0 s1
            have hfz := HOW.out.frozen (k * 2 + 1)
            have HST := Lib.hid (lgK_set d ht)
            have HGT := Lib.hid hget
            clear ht hget s0
            go_wp2
            obtain ⟨C, hC⟩ : ∃ C, C = Same [⟨bx, 3, none⟩, ⟨gx, k * 2 + 1, none⟩] wr := ⟨_, rfl⟩
            obtain ⟨G, hG⟩ : ∃ G, G = held C wr.drew := ⟨_, rfl⟩
            have hfs : ∀ a ∈ ([⟨bx, 3, none⟩, ⟨gx, k * 2 + 1, none⟩] : List Addr), ∀ u, wr.cell? a = some u → ∀ x, (G x).cell? a = some u := fun a ha u hu x => by
              rw [hG, hC]
              exact same_held hu ha x
            have f0 := hfs _ (by simp) _ x3
            have f1 := hfs _ (by simp) _ s1
            clear hfs
            refine region_sk C [[], [0], [], [], [3], [], [4, 5], [6], [7], [], [9], [8, 10], [11], [1, 2, 0, 1, 2, 3, 4, 5, 6, 7, 8, 9, 10, 11, 12], [13, 0, 1, 2, 3, 4, 5, 6, 7, 8, 9, 10, 11, 12], [14, 12, 0, 1, 2, 3, 4, 5, 6, 7, 8, 9, 10, 11, 12]] (.qs [0, 1, 2, 3, 4, 5, 6, 7, 8, 9, 10, 11] (.one 12 (.one 13 (.one 14 .done)))) 15 (by kernel_rfl) (by kernel_rfl) (by kernel_rfl) (by rw [hC]; exact same_drew) ?_
            refine wpSk_qs (w0 := wr.drew) (by rw [hC]; exact same_drew) ?_
            rw [← hG]
            have HC' := Lib.hid hC
            clear hG hC
            simp only [List.filterMap_cons, List.filterMap_nil, List.getElem?_toArray, List.getElem?_cons_zero, List.getElem?_cons_succ]
            change wpQuiet _ _ _ _ [_, _, _, _, _, _, _, _, _, _, _, _] _
            repeat (go_big_quiet_step (fail))
            refine wpQuiet_nil ?_
            clear f0 f1
            have hCw : C wr.drew := by rw [HC'.out]; exact same_drew
            refine wpSk_one rfl (fun K hK => ?_)
            go_simp
            refine hK.out _ _ hCw ?_
            clear hK K
            refine wpSk_one rfl (fun K hK => ?_)
            go_simp
            refine hK.out _ _ hCw ?_
            clear hK K
            refine wpSk_one rfl (fun K hK => ?_)
            go_simp
            refine hK.out _ _ hCw ?_
            clear hK K
            refine wpSk_done rfl (fun K hK => ?_)
            go_simp
            rw [show (if t.hours + N % 3 < 9 then t.hours + N % 3 else 9) = min 9 (t.hours + d) by rw [HD.out]; split <;> omega]
            refine hK.out _ _ (noPanic_mk ?_)
            clear hK K
            obtain ⟨W5, hW5⟩ : ∃ X, X = (wr.setCell ⟨gx, k * 2 + 1, none⟩ (.int .i64 (min 9 (t.hours + d)))).drew := ⟨_, rfl⟩
            have hk5 : KeepX gx W3 W5 := by
              rw [hW5]
              exact (hkx.trans (KeepX.set_ _ _ _)).trans (KeepX.of_below (gD (Below.refl _ _)))
            have ho5 : OwnS W5 gT 80 gx (h.lgK d (k + 1)) := by
              rw [hW5, ← HST.out]
              exact (HOW.out.set (k := 2) (fun _ _ => rfl) HGT.out (by decide) rfl).below (gD (Below.refl _ _))
            rw [← hW5]
            clear hW5
            go_wp2
            go_roundw
            case rel => exact ⟨k + 1, by omega, by go_num, hk5, ho5⟩
            case measure => simp [intOf]; omega
          · obtain rfl : k = h.tickets.length := by omega
            go_wp2
            go_meet
            case rel =>
              have hbw := hkx.low HB3.out (by omega) HB3.out.size
              have hbw0 : Below w.heap.size w wr := hb1.trans (hbw.mono hb1.size)
              have hlen : (h.lg0 d).tickets.length = h.tickets.length := by simp [Hs.lg0]
              have how := HOW.out
              rw [lgK_full] at how
              refine ⟨h.lg0 d, longer0 HF.out hd0, lg0_fault HF.out hd0, hbw, ?_, A2, c2, some ⟨gx, 0, none⟩, cx, A4, c4, rfl, H2.below hbw0, how.sl (fun _ _ => rfl) (by rw [hlen]; exact hlx) (by rw [hlen]; omega), H4.below hbw0⟩
              rw [hlen]
              exact hkx.blk HBX3.out (fun e => hgb e.symm)
      | false =>
        cases e1 : (what % 3 == 1) with
        | true =>
          have hm : h.grace + N < 60 ∨ 60 ≤ h.grace + N := by omega
          rcases hm with hm | hm
          · have HE := Lib.hid (show (h.lg1 N).grace = h.grace + N by show min 60 (h.grace + N) = _; omega)
            go_wp2
            go_meet
            case rel =>
              have hbw : Below W2.heap.size W2 (W3.setCell ⟨bx, 1, none⟩ (.int .i64 (h.grace + N))) := gS HB3.out (by show W2.heap.size ≤ bx; have := HBX.out; omega)
              have hbw0 := hb1.trans (hbw.mono hb1.size)
              refine ⟨h.lg1 N, longer1 HF.out hN0, lg1_fault HF.out hN0, hbw, ?_, A2, c2, some ⟨gx, 0, none⟩, cx, A4, c4, rfl, H2.below hbw0, (HOW3.out.far _ hgb).sl (fun _ _ => rfl) hlx (by show h.tickets.length ≤ _; omega), H4.below hbw0⟩
              rw [HE.out]
              exact HBX3.out.set_ 1 _
          · have HE := Lib.hid (show (h.lg1 N).grace = 60 by show min 60 (h.grace + N) = _; omega)
            go_wp2
            go_meet
            case rel =>
              have hbw : Below W2.heap.size W2 (W3.setCell ⟨bx, 1, none⟩ (.int .i64 60)) := gS HB3.out (by show W2.heap.size ≤ bx; have := HBX.out; omega)
              have hbw0 := hb1.trans (hbw.mono hb1.size)
              refine ⟨h.lg1 N, longer1 HF.out hN0, lg1_fault HF.out hN0, hbw, ?_, A2, c2, some ⟨gx, 0, none⟩, cx, A4, c4, rfl, H2.below hbw0, (HOW3.out.far _ hgb).sl (fun _ _ => rfl) hlx (by show h.tickets.length ≤ _; omega), H4.below hbw0⟩
              rw [HE.out]
              exact HBX3.out.set_ 1 _
        | false =>
          have hm : h.hour + N < 120 ∨ 120 ≤ h.hour + N := by omega
          rcases hm with hm | hm
          · have HE := Lib.hid (show (h.lg2 N).hour = h.hour + N by show min 120 (h.hour + N) = _; omega)
            go_wp2
            go_meet
            case rel =>
              have hbw : Below W2.heap.size W2 (W3.setCell ⟨bx, 0, none⟩ (.int .i64 (h.hour + N))) := gS HB3.out (by show W2.heap.size ≤ bx; have := HBX.out; omega)
              have hbw0 := hb1.trans (hbw.mono hb1.size)
              refine ⟨h.lg2 N, longer2 HF.out hN0, lg2_fault HF.out hN0, hbw, ?_, A2, c2, some ⟨gx, 0, none⟩, cx, A4, c4, rfl, H2.below hbw0, (HOW3.out.far _ hgb).sl (fun _ _ => rfl) hlx (by show h.tickets.length ≤ _; omega), H4.below hbw0⟩
              rw [HE.out]
              exact HBX3.out.set_ 0 _
          · have HE := Lib.hid (show (h.lg2 N).hour = 120 by show min 120 (h.hour + N) = _; omega)
            go_wp2
            go_meet
            case rel =>
              have hbw : Below W2.heap.size W2 (W3.setCell ⟨bx, 0, none⟩ (.int .i64 120)) := gS HB3.out (by show W2.heap.size ≤ bx; have := HBX.out; omega)
              have hbw0 := hb1.trans (hbw.mono hb1.size)
              refine ⟨h.lg2 N, longer2 HF.out hN0, lg2_fault HF.out hN0, hbw, ?_, A2, c2, some ⟨gx, 0, none⟩, cx, A4, c4, rfl, H2.below hbw0, (HOW3.out.far _ hgb).sl (fun _ _ => rfl) hlx (by show h.tickets.length ≤ _; omega), H4.below hbw0⟩
              rw [HE.out]
              exact HBX3.out.set_ 0 _
    case rest =>
      obtain ⟨x, hL, hfx, hbw, hbx, hhx⟩ := hcut
      have HL := Lib.hid hL
      have HFX := Lib.hid hfx
      have HX := hhx
      have x0 := hbx.cell 0
      have x1 := hbx.cell 1
      have x2 := hbx.cell 2
      have x3 := hbx.cell 3
      have x4 := hbx.cell 4
      have hxl := hbx.lt
      simp only [List.getElem?_cons_zero, List.getElem?_cons_succ] at x0 x1 x2 x3 x4
      clear hL hfx hbx hhx hBx3 hown3
      replace H1 := H1.below hbw
      replace q0 := (hbw.cell (p := ⟨w.heap.size, 0, none⟩) hBl).trans q0
      replace q1 := (hbw.cell (p := ⟨w.heap.size, 1, none⟩) hBl).trans q1
      replace q2 := (hbw.cell (p := ⟨w.heap.size, 2, none⟩) hBl).trans q2
      replace q3 := (hbw.cell (p := ⟨w.heap.size, 3, none⟩) hBl).trans q3
      replace q4 := (hbw.cell (p := ⟨w.heap.size, 4, none⟩) hBl).trans q4
      replace hBl := Nat.lt_of_lt_of_le hBl hbw.size
      replace hb1 := hb1.trans (hbw.mono hb1.size)
      clear hbw
      obtain ⟨W4, hW4⟩ : ∃ X, X = wc := ⟨_, rfl⟩
      subst hW4
      obtain ⟨hlx2, hlx3, hlx4⟩ : x.clocks.length ≤ 1000 ∧ x.tickets.length ≤ 1000 ∧ x.clips.length ≤ 1000 := by
        rw [HL.out.clocks, HL.out.len, HL.out.clips]
        exact ⟨hl2, hl3, hl4⟩
      by_cases ha : h.askE 0 = 0
      · have hax : x.askE 0 = 0 := (longer_ask HL.out HF.out HFX.out).trans ha
        have HLA := Lib.hid (hr_len ha)
        have HLB := Lib.hid ((hr_len hax).trans HL.out.len)
        have HLU := Lib.hid (long_len ha)
        have HLV := Lib.hid ((long_len hax).trans HL.out.len)
        have HA := Lib.hid ha
        have HAX := Lib.hid hax
        clear ha hax
        go_wp2_with (fail)
        refine (house_calls _ h _ (by first | with_reducible exact H1 | exact H1.below (below_later _ _)) hl2 hl3 hl4).mono ?_
        (rintro e w' hr; first | ((with_reducible replace hr := RetHs.up hr); obtain ⟨v, rfl, ⟨z, rfl⟩, HH⟩ := hr) | (obtain ⟨v, rfl, ⟨z, rfl⟩, HH⟩ := hr))
        go_wp2_with (fail)
        have CA := hours_all_calls v h _ HH
        rw [HA.out] at CA
        refine CA.mono ?_
        clear CA HH
        (rintro e w' hr; first | ((with_reducible replace hr := RetSlN.up hr); obtain ⟨A5, c5, rfl, ⟨z, rfl⟩, hsl⟩ := hr) | (obtain ⟨A5, c5, rfl, ⟨z, rfl⟩, hsl⟩ := hr))
        rw [HLA.out]
        obtain ⟨W5, hWW5⟩ : ∃ X, X = later W4 z := ⟨_, rfl⟩
        have hn : Below W4.heap.size W4 W5 := by rw [hWW5]; exact below_later _ _
        rw [← hWW5] at hsl ⊢
        clear hWW5
        replace H1 := H1.below hn
        replace q0 := (hn.cell (p := ⟨w.heap.size, 0, none⟩) hBl).trans q0
        replace q1 := (hn.cell (p := ⟨w.heap.size, 1, none⟩) hBl).trans q1
        replace q2 := (hn.cell (p := ⟨w.heap.size, 2, none⟩) hBl).trans q2
        replace q3 := (hn.cell (p := ⟨w.heap.size, 3, none⟩) hBl).trans q3
        replace q4 := (hn.cell (p := ⟨w.heap.size, 4, none⟩) hBl).trans q4
        replace hBl := Nat.lt_of_lt_of_le hBl hn.size
        replace hb1 := hb1.trans (hn.mono hb1.size)
        replace HX := HX.below hn
        replace x0 := (hn.cell (p := ⟨bx, 0, none⟩) hxl).trans x0
        replace x1 := (hn.cell (p := ⟨bx, 1, none⟩) hxl).trans x1
        replace x2 := (hn.cell (p := ⟨bx, 2, none⟩) hxl).trans x2
        replace x3 := (hn.cell (p := ⟨bx, 3, none⟩) hxl).trans x3
        replace x4 := (hn.cell (p := ⟨bx, 4, none⟩) hxl).trans x4
        replace hxl := Nat.lt_of_lt_of_le hxl hn.size
        have HS5 := Lib.hid hsl
        clear hn hsl
        go_wp2_with (fail)
        refine (house_calls _ x _ (by first | with_reducible exact HX | exact HX.below (below_later _ _)) hlx2 hlx3 hlx4).mono ?_
        (rintro e w' hr; first | ((with_reducible replace hr := RetHs.up hr); obtain ⟨v, rfl, ⟨z, rfl⟩, HH⟩ := hr) | (obtain ⟨v, rfl, ⟨z, rfl⟩, HH⟩ := hr))
        go_wp2_with (fail)
        have CA := hours_all_calls v x _ HH
        rw [HAX.out] at CA
        refine CA.mono ?_
        clear CA HH
        (rintro e w' hr; first | ((with_reducible replace hr := RetSlN.up hr); obtain ⟨A6, c6, rfl, ⟨z, rfl⟩, hsl⟩ := hr) | (obtain ⟨A6, c6, rfl, ⟨z, rfl⟩, hsl⟩ := hr))
        rw [HLB.out]
        obtain ⟨W6, hWW6⟩ : ∃ X, X = later W5 z := ⟨_, rfl⟩
        have hn : Below W5.heap.size W5 W6 := by rw [hWW6]; exact below_later _ _
        rw [← hWW6] at hsl ⊢
        clear hWW6
        replace H1 := H1.below hn
        replace q0 := (hn.cell (p := ⟨w.heap.size, 0, none⟩) hBl).trans q0
        replace q1 := (hn.cell (p := ⟨w.heap.size, 1, none⟩) hBl).trans q1
        replace q2 := (hn.cell (p := ⟨w.heap.size, 2, none⟩) hBl).trans q2
        replace q3 := (hn.cell (p := ⟨w.heap.size, 3, none⟩) hBl).trans q3
        replace q4 := (hn.cell (p := ⟨w.heap.size, 4, none⟩) hBl).trans q4
        replace hBl := Nat.lt_of_lt_of_le hBl hn.size
        replace hb1 := hb1.trans (hn.mono hb1.size)
        replace HX := HX.below hn
        replace x0 := (hn.cell (p := ⟨bx, 0, none⟩) hxl).trans x0
        replace x1 := (hn.cell (p := ⟨bx, 1, none⟩) hxl).trans x1
        replace x2 := (hn.cell (p := ⟨bx, 2, none⟩) hxl).trans x2
        replace x3 := (hn.cell (p := ⟨bx, 3, none⟩) hxl).trans x3
        replace x4 := (hn.cell (p := ⟨bx, 4, none⟩) hxl).trans x4
        replace hxl := Nat.lt_of_lt_of_le hxl hn.size
        have HS6 := Lib.hid hsl
        replace HS5 := Lib.hid (HS5.out.below hn)
        clear hn hsl
        go_wp2_with (fail)
        refine (house_calls _ h _ (by first | with_reducible exact H1 | exact H1.below (below_later _ _)) hl2 hl3 hl4).mono ?_
        (rintro e w' hr; first | ((with_reducible replace hr := RetHs.up hr); obtain ⟨v, rfl, ⟨z, rfl⟩, HH⟩ := hr) | (obtain ⟨v, rfl, ⟨z, rfl⟩, HH⟩ := hr))
        go_wp2_with (fail)
        have CA := long_all_calls v h _ HH
        rw [HA.out] at CA
        refine CA.mono ?_
        clear CA HH
        (rintro e w' hr; first | ((with_reducible replace hr := RetSlN.up hr); obtain ⟨A7, c7, rfl, ⟨z, rfl⟩, hsl⟩ := hr) | (obtain ⟨A7, c7, rfl, ⟨z, rfl⟩, hsl⟩ := hr))
        rw [HLU.out]
        obtain ⟨W7, hWW7⟩ : ∃ X, X = later W6 z := ⟨_, rfl⟩
        have hn : Below W6.heap.size W6 W7 := by rw [hWW7]; exact below_later _ _
        rw [← hWW7] at hsl ⊢
        clear hWW7
        replace H1 := H1.below hn
        replace q0 := (hn.cell (p := ⟨w.heap.size, 0, none⟩) hBl).trans q0
        replace q1 := (hn.cell (p := ⟨w.heap.size, 1, none⟩) hBl).trans q1
        replace q2 := (hn.cell (p := ⟨w.heap.size, 2, none⟩) hBl).trans q2
        replace q3 := (hn.cell (p := ⟨w.heap.size, 3, none⟩) hBl).trans q3
        replace q4 := (hn.cell (p := ⟨w.heap.size, 4, none⟩) hBl).trans q4
        replace hBl := Nat.lt_of_lt_of_le hBl hn.size
        replace hb1 := hb1.trans (hn.mono hb1.size)
        replace HX := HX.below hn
        replace x0 := (hn.cell (p := ⟨bx, 0, none⟩) hxl).trans x0
        replace x1 := (hn.cell (p := ⟨bx, 1, none⟩) hxl).trans x1
        replace x2 := (hn.cell (p := ⟨bx, 2, none⟩) hxl).trans x2
        replace x3 := (hn.cell (p := ⟨bx, 3, none⟩) hxl).trans x3
        replace x4 := (hn.cell (p := ⟨bx, 4, none⟩) hxl).trans x4
        replace hxl := Nat.lt_of_lt_of_le hxl hn.size
        have HS7 := Lib.hid hsl
        replace HS5 := Lib.hid (HS5.out.below hn)
        replace HS6 := Lib.hid (HS6.out.below hn)
        clear hn hsl
        go_wp2_with (fail)
        refine (house_calls _ x _ (by first | with_reducible exact HX | exact HX.below (below_later _ _)) hlx2 hlx3 hlx4).mono ?_
        (rintro e w' hr; first | ((with_reducible replace hr := RetHs.up hr); obtain ⟨v, rfl, ⟨z, rfl⟩, HH⟩ := hr) | (obtain ⟨v, rfl, ⟨z, rfl⟩, HH⟩ := hr))
        go_wp2_with (fail)
        have CA := long_all_calls v x _ HH
        rw [HAX.out] at CA
        refine CA.mono ?_
        clear CA HH
        (rintro e w' hr; first | ((with_reducible replace hr := RetSlN.up hr); obtain ⟨A8, c8, rfl, ⟨z, rfl⟩, hsl⟩ := hr) | (obtain ⟨A8, c8, rfl, ⟨z, rfl⟩, hsl⟩ := hr))
        rw [HLV.out]
        obtain ⟨W8, hWW8⟩ : ∃ X, X = later W7 z := ⟨_, rfl⟩
        have hn : Below W7.heap.size W7 W8 := by rw [hWW8]; exact below_later _ _
        rw [← hWW8] at hsl ⊢
        clear hWW8
        replace H1 := H1.below hn
        replace q0 := (hn.cell (p := ⟨w.heap.size, 0, none⟩) hBl).trans q0
        replace q1 := (hn.cell (p := ⟨w.heap.size, 1, none⟩) hBl).trans q1
        replace q2 := (hn.cell (p := ⟨w.heap.size, 2, none⟩) hBl).trans q2
        replace q3 := (hn.cell (p := ⟨w.heap.size, 3, none⟩) hBl).trans q3
        replace q4 := (hn.cell (p := ⟨w.heap.size, 4, none⟩) hBl).trans q4
        replace hBl := Nat.lt_of_lt_of_le hBl hn.size
        replace hb1 := hb1.trans (hn.mono hb1.size)
        have HS8 := Lib.hid hsl
        replace HS5 := Lib.hid (HS5.out.below hn)
        replace HS6 := Lib.hid (HS6.out.below hn)
        replace HS7 := Lib.hid (HS7.out.below hn)
        clear hn hsl x0 x1 x2 x3 x4 hxl HX
        go_wp2
        go_loopw [18] (fun i wr => ∃ k : Nat, k ≤ h.tickets.length ∧ i = .int .i64 k ∧ Below W8.heap.size W8 wr) (fun i _ => h.tickets.length - (intOf i).toNat)
        case atStart => exact ⟨0, Nat.zero_le _, rfl, Below.refl _ _⟩
        case round =>
          obtain ⟨k, hk, rfl, hb⟩ := hrel
          by_cases hlt : k < h.tickets.length
          · have hlt1 : (k : Int) < (h.tickets.length : Int) := by omega
            have hk0 : (0 : Int) ≤ (k : Int) := Int.natCast_nonneg _
            obtain ⟨ba, oa, ya, rfl, hba, hya, sa0, sa1⟩ := (HS5.out.below hb).atR (i := k) (by rw [HLA.out]; exact hlt)
            obtain ⟨bb, ob, yb, rfl, hbb, hyb, sb0, sb1⟩ := (HS6.out.below hb).atR (i := k) (by rw [HLB.out]; exact hlt)
            obtain ⟨bu, ou, yu, rfl, hbu, hyu, su0⟩ := (HS7.out.below hb).atI (i := k) (by rw [HLU.out]; exact hlt)
            obtain ⟨bv, ov, yv, rfl, hbv, hyv, sv0⟩ := (HS8.out.below hb).atI (i := k) (by rw [HLV.out]; exact hlt)
            have hlx : k < x.tickets.length := by rw [HL.out.len]; exact hlt
            rw [hr_get HA.out hlt] at hya
            rw [hr_get HAX.out hlx] at hyb
            rw [long_get HA.out hlt] at hyu
            rw [long_get HAX.out hlx] at hyv
            have hya := Option.some.inj hya
            have hyb := Option.some.inj hyb
            have hyu := Option.some.inj hyu
            have hyv := Option.some.inj hyv
            obtain ⟨g1, g2, g3, g4⟩ := longer_at HL.out HA.out hlt
            rw [hya, hyb] at g1 g2
            rw [hyu, hyv] at g3 g4
            have d1 : decide (ya.lo < yb.lo) = false := decide_eq_false (by omega)
            have d2 : decide (ya.hi < yb.hi) = false := decide_eq_false (by omega)
            have hc : ((yu == 2) = true ∧ (yv != 2) = false ∧ (yv == 1) = false) ∨ ((yu == 2) = false ∧ (yv == 1) = true ∧ (yu != 1) = false) ∨ ((yu == 2) = false ∧ (yv == 1) = false) := by
              by_cases e1 : yu = 2
              · have e2 := g3 e1
                exact .inl ⟨by simp [e1], by simp [e2], by simp [e2]⟩
              · by_cases e2 : yv = 1
                · have e3 := g4 e2
                  exact .inr (.inl ⟨by simp [e1], by simp [e2], by simp [e3]⟩)
                · exact .inr (.inr ⟨by simp [e1], by simp [e2]⟩)
            clear hya hyb hyu hyv g1 g2 g3 g4
            rcases hc with ⟨e1, e2, e3⟩ | ⟨e1, e2, e3⟩ | ⟨e1, e2⟩
            all_goals
              go_wp2
              refine region_later (by kernel_rfl) (by kernel_rfl) ?_
              repeat (go_big_quiet_step (fail))
              refine wpQuiet_nil ?_
              rintro W' ⟨u, rfl⟩
              go_wp2
              go_roundw
              case rel => exact ⟨k + 1, by omega, by go_num, later_below hb hb.size⟩
              case measure => simp [intOf]; omega
          · obtain rfl : k = h.tickets.length := by omega
            go_wp2_with (fail)
            refine (awake_calls _).mono ?_
            (rintro e w' hr; first | ((with_reducible replace hr := Ret.up hr); obtain ⟨rfl, z, rfl⟩ := hr) | (obtain ⟨rfl, z, rfl⟩ := hr))
            go_wp2
            go_ret
            exact ret_mk rfl (hb1.trans (Below.mono (later_below hb hb.size) hb1.size))
      · have ha := ask_bad HF.out ha
        have HA := Lib.hid ha
        have HAX := Lib.hid ((longer_ask HL.out HF.out HFX.out).trans ha)
        clear ha
        go_wp2_with (fail)
        refine (house_calls _ h _ (by first | with_reducible exact H1 | exact H1.below (below_later _ _)) hl2 hl3 hl4).mono ?_
        (rintro e w' hr; first | ((with_reducible replace hr := RetHs.up hr); obtain ⟨v, rfl, ⟨z, rfl⟩, HH⟩ := hr) | (obtain ⟨v, rfl, ⟨z, rfl⟩, HH⟩ := hr))
        go_wp2_with (fail)
        have CA := hours_all_calls v h _ HH
        rw [HA.out] at CA
        refine CA.mono ?_
        clear CA HH
        (rintro e w' hr; first | ((with_reducible replace hr := RetSlN.up hr); obtain ⟨A5, c5, rfl, ⟨z, rfl⟩, hsl⟩ := hr) | (obtain ⟨A5, c5, rfl, ⟨z, rfl⟩, hsl⟩ := hr))
        clear hsl
        go_wp2_with (fail)
        refine (house_calls _ x _ (by first | with_reducible exact HX | exact HX.below (below_later _ _)) hlx2 hlx3 hlx4).mono ?_
        (rintro e w' hr; first | ((with_reducible replace hr := RetHs.up hr); obtain ⟨v, rfl, ⟨z, rfl⟩, HH⟩ := hr) | (obtain ⟨v, rfl, ⟨z, rfl⟩, HH⟩ := hr))
        go_wp2_with (fail)
        have CA := hours_all_calls v x _ HH
        rw [HAX.out] at CA
        refine CA.mono ?_
        clear CA HH
        (rintro e w' hr; first | ((with_reducible replace hr := RetSlN.up hr); obtain ⟨A6, c6, rfl, ⟨z, rfl⟩, hsl⟩ := hr) | (obtain ⟨A6, c6, rfl, ⟨z, rfl⟩, hsl⟩ := hr))
        clear hsl
        go_wp2_with (fail)
        refine (house_calls _ h _ (by first | with_reducible exact H1 | exact H1.below (below_later _ _)) hl2 hl3 hl4).mono ?_
        (rintro e w' hr; first | ((with_reducible replace hr := RetHs.up hr); obtain ⟨v, rfl, ⟨z, rfl⟩, HH⟩ := hr) | (obtain ⟨v, rfl, ⟨z, rfl⟩, HH⟩ := hr))
        go_wp2_with (fail)
        have CA := long_all_calls v h _ HH
        rw [HA.out] at CA
        refine CA.mono ?_
        clear CA HH
        (rintro e w' hr; first | ((with_reducible replace hr := RetSlN.up hr); obtain ⟨A7, c7, rfl, ⟨z, rfl⟩, hsl⟩ := hr) | (obtain ⟨A7, c7, rfl, ⟨z, rfl⟩, hsl⟩ := hr))
        clear hsl
        go_wp2_with (fail)
        refine (house_calls _ x _ (by first | with_reducible exact HX | exact HX.below (below_later _ _)) hlx2 hlx3 hlx4).mono ?_
        (rintro e w' hr; first | ((with_reducible replace hr := RetHs.up hr); obtain ⟨v, rfl, ⟨z, rfl⟩, HH⟩ := hr) | (obtain ⟨v, rfl, ⟨z, rfl⟩, HH⟩ := hr))
        go_wp2_with (fail)
        have CA := long_all_calls v x _ HH
        rw [HAX.out] at CA
        refine CA.mono ?_
        clear CA HH
        (rintro e w' hr; first | ((with_reducible replace hr := RetSlN.up hr); obtain ⟨A8, c8, rfl, ⟨z, rfl⟩, hsl⟩ := hr) | (obtain ⟨A8, c8, rfl, ⟨z, rfl⟩, hsl⟩ := hr))
        clear hsl
        go_wp2_with (fail)
        refine (awake_calls _).mono ?_
        (rintro e w' hr; first | ((with_reducible replace hr := Ret.up hr); obtain ⟨rfl, z, rfl⟩ := hr) | (obtain ⟨rfl, z, rfl⟩ := hr))
        go_wp2
        go_ret
        exact ret_mk rfl (later_below hb1 hb1.size)
end Go.Proofs.Ytcngnfnljkkjgaa
