/-
TicketCompared: the walk.
-/
import Derived.Test.YtcngnfnljkkjgaaCmY
import Derived.Test.YtcngnfnljkkjgaaCmT
import Derived.Test.YtcngnfnljkkjgaaCmQFirst
import Derived.Deep.Cut
namespace Go.Proofs.Ytcngnfnljkkjgaa
open Go.RowKit
attribute [local go_sem] cell_later frozen_later lt_later le_later

theorem infoRRange : (Try.prog.info? 44).map (fun i => (i.zero, i.size, i.bytes)) = some (some (.agg #[.int .i64 0, .int .i64 0]), 2, 16) := by kernel_rfl
theorem rem_nat {n : Nat} (c : Int) (hn : 0 < n) : ∃ k : Nat, (k : Int) = c % (n : Int) ∧ k < n := by
  have h1 := Int.emod_nonneg c (show (n : Int) ≠ 0 by omega)
  have h2 := Int.emod_lt_of_pos c (show (0 : Int) < (n : Int) by omega)
  exact ⟨(c % (n : Int)).toNat, by omega, by omega⟩
theorem most_full {h : Hs} {k : Nat} {r : Rg} (hr : h.clocks[k]? = some r) : h.mostUp k r.lo r.size.toNat = h.mostAt k := by
  rw [Hs.mostAt, hr]
theorem set_set' {α : Type} (l : List α) (k : Nat) (x y : α) : (l.set k x).set k y = l.set k y := List.set_set x

set_option maxRecDepth 100000 in
set_option maxHeartbeats 4000000 in
theorem lawcompared_calls (v : Value) (h : Hs) (ov : Int) (w : World) (H : HsAt w v h) (hov : 0 ≤ ov ∧ ov ≤ 255) :
    Calls Try.prog 15 #[v, .int .u8 ov] w (Ret (.bool true) w) := by
  have H0 := H
  obtain ⟨A2, c2, A3, c3, A4, c4, rfl, H2, H3, H4⟩ := H
  obtain ⟨W1, hW1⟩ : ∃ W1, W1 = w.alloc (.cells #[.int .i64 h.hour, .int .i64 h.grace, .slice A2 h.clocks.length c2, .slice A3 h.tickets.length c3, .slice A4 h.clips.length c4] 26) := ⟨_, rfl⟩
  have hb1 : Below w.heap.size w W1 := by rw [hW1]; exact gA (Below.refl _ _)
  have hB : BlkAt W1 w.heap.size 26 [.int .i64 h.hour, .int .i64 h.grace, .slice A2 h.clocks.length c2, .slice A3 h.tickets.length c3, .slice A4 h.clips.length c4] := by rw [hW1]; exact BlkAt.new _ _ _
  have H1 := H0.below hb1
  have q0 := hB.cell 0
  have q1 := hB.cell 1
  have q2 := hB.cell 2
  have q3 := hB.cell 3
  have q4 := hB.cell 4
  simp only [List.getElem?_cons_zero, List.getElem?_cons_succ] at q0 q1 q2 q3 q4
  have hBl := hB.lt
  cases hr : h.readyB with
  | false =>
    go_enter Try.func15, Try.ntmps15
    go_wp2_with (fail)
    rw [← hW1]
    clear hW1
    refine (ready_calls _ h _ H1).mono ?_
    (rintro e w' hr; first | ((with_reducible replace hr := Ret.up hr); obtain ⟨rfl, z, rfl⟩ := hr) | (obtain ⟨rfl, z, rfl⟩ := hr))
    go_wp2_with (fail)
    refine (awake_calls _).mono ?_
    (rintro e w' hr; first | ((with_reducible replace hr := Ret.up hr); obtain ⟨rfl, z, rfl⟩ := hr) | (obtain ⟨rfl, z, rfl⟩ := hr))
    go_wp2
    go_ret
    exact ret_mk rfl (later_below hb1 hb1.size)
  | true =>
    obtain ⟨hl2, hl3, hl4, hf, hl10⟩ := ready_of hr
    by_cases hc0 : h.clocks.length = 0
    · have hc1 : ((h.clocks.length : Int) == 0) = true := by simp [hc0]
      clear hc0
      go_enter Try.func15, Try.ntmps15
      go_wp2_with (fail)
      rw [← hW1]
      clear hW1
      refine (ready_calls _ h _ H1).mono ?_
      (rintro e w' hr; first | ((with_reducible replace hr := Ret.up hr); obtain ⟨rfl, z, rfl⟩ := hr) | (obtain ⟨rfl, z, rfl⟩ := hr))
      go_wp2_with (fail)
      refine (awake_calls _).mono ?_
      (rintro e w' hr; first | ((with_reducible replace hr := Ret.up hr); obtain ⟨rfl, z, rfl⟩ := hr) | (obtain ⟨rfl, z, rfl⟩ := hr))
      go_wp2
      go_ret
      exact ret_mk rfl (later_below hb1 hb1.size)
    · have hc1 : ((h.clocks.length : Int) == 0) = false := beq_eq_false_iff_ne.2 (by omega)
      have hcp : (0 : Int) < (h.clocks.length : Int) := by omega
      obtain ⟨ko, hko, hkol⟩ := rem_nat (n := h.clocks.length) ov (by omega)
      have HKO := Lib.hid hko
      have HF := Lib.hid hf
      by_cases ha : h.askE 0 = 0
      · obtain ⟨hle, kk, hkk, hlv, hmin⟩ := look_at ha (by omega)
        have HLE := Lib.hid hle
        obtain ⟨M, hM⟩ : ∃ M, M = h.mostAt kk := ⟨_, rfl⟩
        rw [← hM] at hlv hmin
        have HLV1 := Lib.hid (show h.lookV.1 = (kk : Int) by rw [hlv])
        have HLV2 := Lib.hid (show h.lookV.2 = M by rw [hlv])
        have HMO := Lib.hid (show M ≤ leavesR h.truR (ko : Int) by rw [leaves_plain hf hkol]; exact hmin ko hkol)
        have HM := Lib.hid hM
        have HA := Lib.hid ha
        have HS := Lib.hid (show h.sureL = h.truR by rw [Hs.sureL, if_pos ha])
        have hin : inB (kk : Int) 0 ((h.clocks.length : Int) - 1) = true := inB_iff.2 ⟨by omega, by omega⟩
        have HIN := Lib.hid hin
        obtain ⟨r, hr⟩ : ∃ r, h.clocks[kk]? = some r := ⟨_, List.getElem?_eq_getElem hkk⟩
        have hrb := fault_clock hf (List.mem_of_getElem? hr)
        have HR := Lib.hid hr
        clear hko hf hc0 ha hle hlv hmin hM hin hr
        go_enter Try.func15, Try.ntmps15
        go_wp2_with (fail)
        rw [← hW1]
        clear hW1
        refine (ready_calls _ h _ H1).mono ?_
        (rintro e w' hr; first | ((with_reducible replace hr := Ret.up hr); obtain ⟨rfl, z, rfl⟩ := hr) | (obtain ⟨rfl, z, rfl⟩ := hr))
        go_wp2_with (fail)
        refine (house_calls _ h _ (by first | with_reducible exact H1 | exact H1.below (below_later _ _)) hl2 hl3 hl4).mono ?_
        (rintro e w' hr; first | ((with_reducible replace hr := RetHs.up hr); obtain ⟨v, rfl, ⟨z, rfl⟩, HH⟩ := hr) | (obtain ⟨v, rfl, ⟨z, rfl⟩, HH⟩ := hr))
        go_wp2_with (fail)
        have CA := look_calls v h _ HH
        rw [HLV1.out, HLV2.out, HLE.out] at CA
        refine CA.mono ?_
        clear CA HH
        (rintro e w' hr; first | ((with_reducible replace hr := Ret.up hr); obtain ⟨rfl, z, rfl⟩ := hr) | (obtain ⟨rfl, z, rfl⟩ := hr))
        go_wp2_with (fail)
        have CS := sure_calls _ h (later W1 z) (H1.below (below_later W1 z)) hl4
        rw [HA.out, HS.out] at CS
        refine CS.mono ?_
        clear CS
        (rintro e w' hr; replace hr := RetSure.up hr; obtain ⟨B, d, rfl, ⟨z, rfl⟩, hls⟩ := hr)
        obtain ⟨W2, hWW2⟩ : ∃ X, X = later W1 z := ⟨_, rfl⟩
        have hn : Below W1.heap.size W1 W2 := by rw [hWW2]; exact below_later _ _
        rw [← hWW2] at hls ⊢
        clear hWW2
        replace H1 := H1.below hn
        replace q0 := (hn.cell (p := ⟨w.heap.size, 0, none⟩) hBl).trans q0
        replace q1 := (hn.cell (p := ⟨w.heap.size, 1, none⟩) hBl).trans q1
        replace q2 := (hn.cell (p := ⟨w.heap.size, 2, none⟩) hBl).trans q2
        replace q3 := (hn.cell (p := ⟨w.heap.size, 3, none⟩) hBl).trans q3
        replace q4 := (hn.cell (p := ⟨w.heap.size, 4, none⟩) hBl).trans q4
        replace hBl := Nat.lt_of_lt_of_le hBl hn.size
        replace hb1 := hb1.trans (hn.mono hb1.size)
        have hlb := hls.2.1
        have HLS := Lib.hid hls
        clear hn hls
        go_wp2_with (fail)
        refine (refin_calls _ _ _ _).mono ?_
        rw [HIN.out]
        (rintro e w' hr; first | ((with_reducible replace hr := Ret.up hr); obtain ⟨rfl, z, rfl⟩ := hr) | (obtain ⟨rfl, z, rfl⟩ := hr))
        obtain ⟨W3, hWW3⟩ : ∃ X, X = later W2 z := ⟨_, rfl⟩
        have hn : Below W2.heap.size W2 W3 := by rw [hWW3]; exact below_later _ _
        rw [← hWW3] 
        clear hWW3
        replace H1 := H1.below hn
        replace q0 := (hn.cell (p := ⟨w.heap.size, 0, none⟩) hBl).trans q0
        replace q1 := (hn.cell (p := ⟨w.heap.size, 1, none⟩) hBl).trans q1
        replace q2 := (hn.cell (p := ⟨w.heap.size, 2, none⟩) hBl).trans q2
        replace q3 := (hn.cell (p := ⟨w.heap.size, 3, none⟩) hBl).trans q3
        replace q4 := (hn.cell (p := ⟨w.heap.size, 4, none⟩) hBl).trans q4
        replace hBl := Nat.lt_of_lt_of_le hBl hn.size
        replace hb1 := hb1.trans (hn.mono hb1.size)
        replace HLS := Lib.hid (HLS.out.below hn)
        clear hn
        have hkI : (kk : Int) < (h.clocks.length : Int) := by omega
        have hkI0 : (0 : Int) ≤ (kk : Int) := Int.natCast_nonneg _
        obtain ⟨bc, oc, y, hA2, hbc, hy, sc0, sc1⟩ := (H2.below hb1).atR hkk
        cases hA2
        rw [HR.out] at hy
        cases hy
        go_wp2_with (fail)
        have hBR := BlkAt.new W3 44 [.int .i64 r.lo, .int .i64 r.hi]
        obtain ⟨br, hbr⟩ : ∃ b, b = W3.heap.size := ⟨_, rfl⟩
        rw [← hbr] at hBR ⊢
        clear hbr
        obtain ⟨W4, hWW4⟩ : ∃ X, X = (W3.alloc (.cells #[.int .i64 r.lo, .int .i64 r.hi] 44)) := ⟨_, rfl⟩
        have hn : Below W3.heap.size W3 W4 := by rw [hWW4]; exact (gA (Below.refl _ _))
        rw [← hWW4] at hBR ⊢
        clear hWW4
        replace H1 := H1.below hn
        replace q0 := (hn.cell (p := ⟨w.heap.size, 0, none⟩) hBl).trans q0
        replace q1 := (hn.cell (p := ⟨w.heap.size, 1, none⟩) hBl).trans q1
        replace q2 := (hn.cell (p := ⟨w.heap.size, 2, none⟩) hBl).trans q2
        replace q3 := (hn.cell (p := ⟨w.heap.size, 3, none⟩) hBl).trans q3
        replace q4 := (hn.cell (p := ⟨w.heap.size, 4, none⟩) hBl).trans q4
        replace hBl := Nat.lt_of_lt_of_le hBl hn.size
        replace hb1 := hb1.trans (hn.mono hb1.size)
        replace HLS := Lib.hid (HLS.out.below hn)
        have rr1 := hBR.cell 1
        have hbrl := hBR.lt
        simp only [List.getElem?_cons_zero, List.getElem?_cons_succ] at rr1
        clear hn hBR
        obtain ⟨i0, hi, hz0, hz1, hz2⟩ := info_parts infoRRange
        have hsz : (r.size.toNat : Int) = r.hi - r.lo + 1 := by unfold Rg.size; omega
        have HSZ := Lib.hid hsz
        clear hsz
        go_loopw [10, 12] (fun mv nv wr => ∃ m : Nat, m ≤ r.size.toNat ∧ nv = .int .i64 (r.lo + (m : Int)) ∧ mv = .int .i64 (h.mostUp kk r.lo m) ∧ Below W4.heap.size W4 wr) (fun _ n _ => (r.hi + 1 - intOf n).toNat)
        case atStart => exact ⟨0, Nat.zero_le _, by rw [show r.lo + ((0 : Nat) : Int) = r.lo by omega], rfl, Below.refl _ _⟩
        case round =>
          obtain ⟨m, hm, rfl, rfl, hb⟩ := hrel
          have p0 := (hb.cell (p := ⟨w.heap.size, 0, none⟩) hBl).trans q0
          have p1 := (hb.cell (p := ⟨w.heap.size, 1, none⟩) hBl).trans q1
          have p2 := (hb.cell (p := ⟨w.heap.size, 2, none⟩) hBl).trans q2
          have p3 := (hb.cell (p := ⟨w.heap.size, 3, none⟩) hBl).trans q3
          have p4 := (hb.cell (p := ⟨w.heap.size, 4, none⟩) hBl).trans q4
          have rp1 := (hb.cell (p := ⟨br, 1, none⟩) hbrl).trans rr1
          have hBr := Nat.lt_of_lt_of_le hBl hb.size
          have hbrr := Nat.lt_of_lt_of_le hbrl hb.size
          have hbw := hb1.trans (hb.mono hb1.size)
          obtain ⟨K, hK⟩ : ∃ K, K = h.mostUp kk r.lo m := ⟨_, rfl⟩
          obtain ⟨n, hn⟩ : ∃ n, n = r.lo + (m : Int) := ⟨_, rfl⟩
          rw [← hK, ← hn]
          have hms : (m : Int) ≤ r.hi - r.lo + 1 := by have := HSZ.out; omega
          by_cases hlt : n ≤ r.hi
          · have hnl : r.lo ≤ n := by omega
            have hn30 : -30 ≤ n ∧ n ≤ 30 := by omega
            obtain ⟨hn1, hn2⟩ := hn30
            have hst := mostUp_snoc h kk r.lo m
            rw [← hK, ← hn] at hst
            have HST := Lib.hid hst
            have HN := Lib.hid hn
            have hcnt := fix_count HF.out HR.out hnl hlt
            rw [← hcnt] at hst
            have HCN := Lib.hid hst
            have H2r := H2.below hbw
            clear hst hK hn hcnt
            go_wp2_with (at_builtin; refine wpList_append_copy rfl _ _ 22 rfl (wr.heap.size + 1) 44 i0 (.agg #[.int .i64 0, .int .i64 0]) 2 16 Try.underlying22 hi hz0 hz1 hz2 rfl (by decide) (wr.heap.size + 1) rfl ?cB (Nat.le_refl _) rfl ((H2r.below (gA (Below.refl _ _))).below (gA (Below.refl _ _))) (fun _ _ => rfl) ?c1 ?c3 ?c4 ?c5 ?_)
            case cB => exact blk_new1 _ _ _ _
            case c1 =>
              intro y _ u hu
              simp only [gR, List.mem_cons, List.not_mem_nil, or_false] at hu
              rcases hu with rfl | rfl <;> rfl
            case c3 => unfold maxLen; omega
            case c4 => omega
            case c5 => simp only [World.size_alloc]; omega
            intro gx cx w1 hgx hlx hown hgr
            obtain ⟨bx, hbx⟩ : ∃ b, b = wr.heap.size := ⟨_, rfl⟩
            have hBx : BlkAt w1 bx 26 [.int .i64 h.hour, .int .i64 h.grace, .slice (some ⟨bc, oc, none⟩) h.clocks.length c2, .slice A3 h.tickets.length c3, .slice A4 h.clips.length c4] := by
              rw [hbx]
              exact (hgr.block _ (by simp only [World.size_alloc]; omega) (by intro e; have := Option.some.inj e; omega)).trans ((BlkAt.new wr 26 [.int .i64 h.hour, .int .i64 h.grace, .slice (some ⟨bc, oc, none⟩) h.clocks.length c2, .slice A3 h.tickets.length c3, .slice A4 h.clips.length c4]).alloc _)
            have hgb : gx ≠ bx := by omega
            have hw1 : Below wr.heap.size wr w1 := (gA (gA (Below.refl _ _))).grown hgr (by simp only [World.size_alloc]; omega) (fun j hj => by have := Option.some.inj hj; omega)
            rw [← hbx]
            have HBX := Lib.hid hbx
            clear hbx
            have y2 := hBx.cell 2
            have yf := hBx.frozen 2
            have hyl := hBx.lt
            simp only [List.getElem?_cons_zero, List.getElem?_cons_succ] at y2
            go_upto_region 16 with (fail)
            obtain ⟨V3, hV3⟩ : ∃ X, X = w1.setCell ⟨bx, 2, none⟩ (.slice (some ⟨gx, 0, none⟩) h.clocks.length cx) := ⟨_, rfl⟩
            have hb3 : Below wr.heap.size wr V3 := by
              rw [hV3]
              exact gS hw1 (by show wr.heap.size ≤ bx; have := HBX.out; omega)
            have hB3 := hBx.set_ 2 (.slice (some ⟨gx, 0, none⟩) h.clocks.length cx)
            rw [← hV3] at hB3 ⊢
            simp only [List.set_cons_succ, List.set_cons_zero] at hB3
            have ho3 : OwnS V3 gR 44 gx h.clocks := by
              rw [hV3]
              exact hown.far _ (by show gx ≠ bx; exact hgb)
            clear hV3 hown hgr hBx y2 yf hyl hw1
            have z2 := hB3.cell 2
            simp only [List.getElem?_cons_zero, List.getElem?_cons_succ] at z2
            have hzl := hB3.lt
            have hgl := ho3.lt
            obtain ⟨b', o', y, hA, -, hy, s0, s1⟩ := (ho3.sl (c := cx) (k := 2) (fun _ _ => rfl) hlx (by omega)).atR hkk
            cases hA
            rw [HR.out] at hy
            cases hy
            rw [Nat.zero_add] at s0 s1
            have hf0 := ho3.frozen (kk * 2)
            have hf1 := ho3.frozen (kk * 2 + 1)
            go_upto_region 17 with (fail)
            obtain ⟨V5, hV5⟩ : ∃ X, X = (V3.setCell ⟨gx, kk * 2, none⟩ (.int .i64 n)).setCell ⟨gx, kk * 2 + 1, none⟩ (.int .i64 n) := ⟨_, rfl⟩
            have hb5 : Below wr.heap.size wr V5 := by
              rw [hV5]
              exact gS (gS hb3 (by show wr.heap.size ≤ gx; omega)) (by show wr.heap.size ≤ gx; omega)
            have hB5 : BlkAt V5 bx 26 [.int .i64 h.hour, .int .i64 h.grace, .slice (some ⟨gx, 0, none⟩) h.clocks.length cx, .slice A3 h.tickets.length c3, .slice A4 h.clips.length c4] := by
              rw [hV5]
              exact ((KeepX.set_ (b := gx) _ _ _).trans (KeepX.set_ _ _ _)).blk hB3 (fun e => hgb e.symm)
            have ho5 : OwnS V5 gR 44 gx (h.clocks.set kk ⟨n, n⟩) := by
              rw [hV5]
              have h1 := ho3.set (k := 2) (fun _ _ => rfl) HR.out (j := 0) (u := .int .i64 n) (y := ⟨n, r.hi⟩) (by decide) rfl
              have h2 := h1.set (k := 2) (fun _ _ => rfl) (i := kk) (x := ⟨n, r.hi⟩) (by rw [List.getElem?_set_self hkk]) (j := 1) (u := .int .i64 n) (y := ⟨n, n⟩) (by decide) rfl
              rw [set_set', Nat.add_zero] at h2
              exact h2
            rw [← hV5]
            clear hV5 hB3 ho3 hb3 z2 hzl hgl s0 s1 hf0 hf1
            have hbw5 := hbw.trans (hb5.mono hbw.size)
            have hlen : (h.widen kk n n).clocks.length = h.clocks.length := by simp [Hs.widen]
            have HX : HsAt V5 (.agg #[.int .i64 h.hour, .int .i64 h.grace, .slice (some ⟨gx, 0, none⟩) h.clocks.length cx, .slice A3 h.tickets.length c3, .slice A4 h.clips.length c4]) (h.widen kk n n) :=
              ⟨some ⟨gx, 0, none⟩, cx, A3, c3, A4, c4, by rw [hlen]; rfl, ho5.sl (fun _ _ => rfl) (by rw [List.length_set]; exact hlx) (by rw [List.length_set]; omega), H3.below hbw5, H4.below hbw5⟩
            have x0 := hB5.cell 0
            have x1 := hB5.cell 1
            have x2 := hB5.cell 2
            have x3 := hB5.cell 3
            have x4 := hB5.cell 4
            have hxl := hB5.lt
            simp only [List.getElem?_cons_zero, List.getElem?_cons_succ] at x0 x1 x2 x3 x4
            have CT := reftruths_calls _ (h.widen kk n n) V5 HX (fix_fault HF.out HR.out hnl hlt)
            obtain ⟨T, hT⟩ : ∃ T, T = (h.widen kk n n).truR.length := ⟨_, rfl⟩
            have hTT := HCN.out
            rw [← hT] at hTT
            have HT := Lib.hid hT
            clear HX hB5 ho5 hlen hT
            have CT := Lib.hid CT
            have hbf : ∀ z, Below W4.heap.size W4 (later V5 z) := fun z => later_below (hb.trans (hb5.mono hb.size)) (Nat.le_trans hb.size hb5.size)
            have HBF := Lib.hid hbf
            clear hbf
            by_cases hmx : K < (T : Int)
            · have HTT := Lib.hid (hTT.trans (show max K (T : Int) = (T : Int) by omega))
              clear hTT
              go_wp2_with (fail)
              refine CT.out.mono ?_
              clear CT
              (rintro e w' ⟨Ax, cc, rfl, ⟨z, rfl⟩, -⟩)
              rw [← HT.out]
              go_wp2
              go_roundw
              case rel => exact ⟨m + 1, by have := HSZ.out; have := HN.out; omega, by rw [HN.out]; congr 1; omega, by rw [HTT.out], HBF.out z⟩
              case measure => simp [intOf]; omega
            · have HTT := Lib.hid (hTT.trans (show max K (T : Int) = K by omega))
              clear hTT
              go_wp2_with (fail)
              refine CT.out.mono ?_
              clear CT
              (rintro e w' ⟨Ax, cc, rfl, ⟨z, rfl⟩, -⟩)
              rw [← HT.out]
              go_wp2
              go_roundw
              case rel => exact ⟨m + 1, by have := HSZ.out; have := HN.out; omega, by rw [HN.out]; congr 1; omega, by rw [HTT.out], HBF.out z⟩
              case measure => simp [intOf]; omega
          · have hmz : m = r.size.toNat := by have := HSZ.out; omega
            have HKM := Lib.hid (show K = M by rw [hK, hmz, most_full HR.out, HM.out])
            have hgt : r.hi < n := by omega
            obtain rfl := HKM.out
            have HLSr := HLS.out.below hb
            have CL := refleaves_calls B d h.truR ko h.clocks.length wr HLSr (truR_errs HF.out) hkol
            obtain ⟨LV, hLV⟩ : ∃ x, x = leavesR h.truR (ko : Int) := ⟨_, rfl⟩
            have hmo := HMO.out
            rw [← hLV] at hmo CL
            have CL := Lib.hid CL
            have hkr := HKO.out.symm
            clear hK hn hmz HLSr hLV
            go_wp2_with (fail)
            refine CL.out.mono ?_
            clear CL
            (rintro e w' hr; first | ((with_reducible replace hr := Ret.up hr); obtain ⟨rfl, z, rfl⟩ := hr) | (obtain ⟨rfl, z, rfl⟩ := hr))
            go_wp2_with (fail)
            refine (awake_calls _).mono ?_
            (rintro e w' hr; first | ((with_reducible replace hr := Ret.up hr); obtain ⟨rfl, z, rfl⟩ := hr) | (obtain ⟨rfl, z, rfl⟩ := hr))
            go_wp2
            go_ret
            exact ret_mk rfl (hb1.trans (Below.mono (later_below hb hb.size) hb1.size))
      · have hk11 := ask_bad HF.out ha
        have HLE := Lib.hid (show h.lookE = 11 by unfold Hs.lookE; rw [hk11]; rfl)
        have HLV := Lib.hid (show h.lookV = (0, 0) by rw [Hs.lookV, if_neg (by rw [HLE.out]; decide)])
        have HS := Lib.hid (show h.sureL = [] by rw [Hs.sureL, hk11]; rfl)
        have HA := Lib.hid hk11
        clear ha hk11 hf hc0
        go_enter Try.func15, Try.ntmps15
        go_wp2_with (fail)
        rw [← hW1]
        clear hW1
        refine (ready_calls _ h _ H1).mono ?_
        (rintro e w' hr; first | ((with_reducible replace hr := Ret.up hr); obtain ⟨rfl, z, rfl⟩ := hr) | (obtain ⟨rfl, z, rfl⟩ := hr))
        go_wp2_with (fail)
        refine (house_calls _ h _ (by first | with_reducible exact H1 | exact H1.below (below_later _ _)) hl2 hl3 hl4).mono ?_
        (rintro e w' hr; first | ((with_reducible replace hr := RetHs.up hr); obtain ⟨v, rfl, ⟨z, rfl⟩, HH⟩ := hr) | (obtain ⟨v, rfl, ⟨z, rfl⟩, HH⟩ := hr))
        go_wp2_with (fail)
        have CA := look_calls v h _ HH
        rw [HLV.out, HLE.out] at CA
        refine CA.mono ?_
        clear CA HH
        (rintro e w' hr; first | ((with_reducible replace hr := Ret.up hr); obtain ⟨rfl, z, rfl⟩ := hr) | (obtain ⟨rfl, z, rfl⟩ := hr))
        go_wp2_with (fail)
        have CS := sure_calls _ h (later W1 z) (H1.below (below_later W1 z)) hl4
        rw [HA.out, HS.out] at CS
        refine CS.mono ?_
        clear CS
        (rintro e w' hr; replace hr := RetSure.up hr; obtain ⟨B, d, rfl, ⟨z, rfl⟩, -⟩ := hr)
        simp only [List.length_nil]
        go_wp2_with (fail)
        refine (awake_calls _).mono ?_
        (rintro e w' hr; first | ((with_reducible replace hr := Ret.up hr); obtain ⟨rfl, z, rfl⟩ := hr) | (obtain ⟨rfl, z, rfl⟩ := hr))
        go_wp2
        go_ret
        exact ret_mk rfl (later_below hb1 hb1.size)
end Go.Proofs.Ytcngnfnljkkjgaa
