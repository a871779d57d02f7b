/-
The laws' word 'some': a house with some of its clips.
-/
import Derived.Test.YtcngnfnljkkjgaaCmV
import Derived.Test.YtcngnfnljkkjgaaCmM
import Derived.Test.YtcngnfnljkkjgaaCmN
namespace Go.Proofs.Ytcngnfnljkkjgaa
open Go.RowKit
attribute [local go_sem] cell_later frozen_later lt_later le_later

theorem infoRClip : (Try.prog.info? 74).map (fun i => (i.zero, i.size, i.bytes)) = some (some (.agg #[.int .i64 0, .int .i64 0, .int .i64 0]), 3, 24) := by kernel_rfl

set_option maxRecDepth 100000 in
set_option maxHeartbeats 4000000 in
theorem some_calls (v : Value) (h : Hs) (B : Int) (w : World) (H : HsAt w v h) (hl4 : h.clips.length ≤ 10) (hBx : 0 ≤ B ∧ B ≤ 4096) :
    Calls Try.prog 62 #[v, .int .i64 B] w (RetHs (h.someB B) w) := by
  obtain ⟨A2, c2, A3, c3, A4, c4, rfl, H2, H3, H4⟩ := H
  obtain ⟨k0, hk, hx0, hx1, hx2⟩ := info_parts infoRClip
  have HBX := Lib.hid hBx
  clear hBx
  obtain ⟨W1, hW1⟩ : ∃ W1, W1 = ((w.alloc (.cells #[.int .i64 h.hour, .int .i64 h.grace, .slice A2 h.clocks.length c2, .slice A3 h.tickets.length c3, .slice A4 h.clips.length c4] 26)).alloc (.cells #[.int .i64 0, .int .i64 0, .slice none 0 0, .slice none 0 0, .slice none 0 0] 26)).alloc (.cells #[.int .i64 h.hour, .int .i64 h.grace, .slice A2 h.clocks.length c2, .slice A3 h.tickets.length c3, .slice none 0 0] 26) := ⟨_, rfl⟩
  have hs1 : W1.heap.size = w.heap.size + 3 := by rw [hW1]; simp
  have hb1 : Below w.heap.size w W1 := by rw [hW1]; exact gA (gA (gA (Below.refl _ _)))
  have hB0 : BlkAt W1 w.heap.size 26 [.int .i64 h.hour, .int .i64 h.grace, .slice A2 h.clocks.length c2, .slice A3 h.tickets.length c3, .slice A4 h.clips.length c4] := by rw [hW1]; exact ((BlkAt.new _ _ _).alloc _).alloc _
  have hB1 : BlkAt W1 (w.heap.size + 1) 26 [.int .i64 0, .int .i64 0, .slice none 0 0, .slice none 0 0, .slice none 0 0] := by
    rw [hW1]
    have := BlkAt.new (w.alloc (.cells #[.int .i64 h.hour, .int .i64 h.grace, .slice A2 h.clocks.length c2, .slice A3 h.tickets.length c3, .slice A4 h.clips.length c4] 26)) 26 [.int .i64 0, .int .i64 0, .slice none 0 0, .slice none 0 0, .slice none 0 0]
    rw [World.size_alloc] at this
    exact this.alloc _
  have hB2 : BlkAt W1 (w.heap.size + 2) 26 [.int .i64 h.hour, .int .i64 h.grace, .slice A2 h.clocks.length c2, .slice A3 h.tickets.length c3, .slice none 0 0] := by
    rw [hW1]
    have := BlkAt.new ((w.alloc (.cells #[.int .i64 h.hour, .int .i64 h.grace, .slice A2 h.clocks.length c2, .slice A3 h.tickets.length c3, .slice A4 h.clips.length c4] 26)).alloc (.cells #[.int .i64 0, .int .i64 0, .slice none 0 0, .slice none 0 0, .slice none 0 0] 26)) 26 [.int .i64 h.hour, .int .i64 h.grace, .slice A2 h.clocks.length c2, .slice A3 h.tickets.length c3, .slice none 0 0]
    simp only [World.size_alloc] at this
    exact this
  have HS1 := Lib.hid hs1
  clear hs1
  go_enter Try.func62, Try.ntmps62
  go_wp2
  rw [← hW1]
  clear hW1
  rw [show w.heap.size + 1 + 1 = w.heap.size + 2 from rfl]
  have hsw := hB0.lt
  obtain ⟨b2, hb2⟩ : ∃ b, b = w.heap.size + 2 := ⟨_, rfl⟩
  obtain ⟨b1, hb1'⟩ : ∃ b, b = w.heap.size + 1 := ⟨_, rfl⟩
  rw [← hb2] at hB2 ⊢
  rw [← hb1'] at hB1 ⊢
  have HB2 := Lib.hid hb2
  have HB1 := Lib.hid hb1'
  clear hb2 hb1'
  have hb2l : b2 < W1.heap.size := hB2.lt
  go_loopw [6] (fun i wr => ∃ (k : Nat) (v : Value), k ≤ h.clips.length ∧ i = .int .i64 k ∧ KeepX b2 W1 wr ∧ BlkAt wr b2 26 [.int .i64 h.hour, .int .i64 h.grace, .slice A2 h.clocks.length c2, .slice A3 h.tickets.length c3, v] ∧ wr.ownsRow W1.heap.size 74 3 v (h.someC B k).length ((h.someC B k).flatMap gC)) (fun i _ => h.clips.length - (intOf i).toNat)
  case atStart => exact ⟨0, _, Nat.zero_le _, rfl, KeepX.refl _ _, hB2, World.ownsRow_nil _ _ _ _⟩
  case round =>
    obtain ⟨k, vv, hk', rfl, hkx, hX, hown⟩ := hrel
    have hC0 := hkx.blk hB0 (by have := HB2.out; omega)
    have q4 := hC0.cell 4
    have x4 := hX.cell 4
    have fx := hX.frozen 4
    simp only [List.getElem?_cons_zero, List.getElem?_cons_succ] at q4 x4
    have hl0 := hC0.lt
    have hlx := hX.lt
    have hnk := Nat.le_trans (someC_sub (h := h) (B := B) k hk').length_le (by rw [List.length_take]; exact Nat.min_le_left k _)
    have HOWN := Lib.hid hown
    clear hown
    by_cases hlt : k < h.clips.length
    · have hlt1 : (k : Int) < (h.clips.length : Int) := by omega
      have hk0 : (0 : Int) ≤ (k : Int) := Int.natCast_nonneg _
      obtain ⟨b, off, x, e2, hbl, hx, s0, s1, s2⟩ := H4.atC hlt
      subst e2
      have hbx := HBX.out.1
      have hstep := someC_step (B := B) hx
      clear hx
      cases hbi : ((B / 2 ^ k).tmod 2 == 1) with
      | false =>
        have HF := Lib.hid (show h.someC B (k + 1) = h.someC B k by rw [hstep, bitI, hbi]; simp)
        clear hstep
        go_wp2
        go_roundw
        case rel => exact ⟨k + 1, vv, by omega, by go_num, hkx, hX, by rw [HF.out]; exact HOWN.out⟩
        case measure => simp [intOf]; omega
      | true =>
        have HF := Lib.hid (show h.someC B (k + 1) = h.someC B k ++ [x] by rw [hstep, bitI, hbi]; simp)
        clear hstep
        have t0 := (hkx.cell ((hb1.cell (p := ⟨b, off + k * 3, none⟩) hbl).trans s0) (by show b ≠ b2; have := HB2.out; omega))
        have t1 := (hkx.cell ((hb1.cell (p := ⟨b, off + k * 3 + 1, none⟩) hbl).trans s1) (by show b ≠ b2; have := HB2.out; omega))
        have t2 := (hkx.cell ((hb1.cell (p := ⟨b, off + k * 3 + 2, none⟩) hbl).trans s2) (by show b ≠ b2; have := HB2.out; omega))
        have hblr : b < wr.heap.size := Nat.lt_of_lt_of_le hbl (Nat.le_trans hb1.size hkx.size)
        have HBL := Lib.hid hbl
        clear s0 s1 s2 hbl
        go_wp2
        obtain ⟨C, hC⟩ : ∃ C, C = Same [⟨b2, 4, none⟩, ⟨w.heap.size, 4, none⟩, ⟨b, off + k * 3, none⟩, ⟨b, off + k * 3 + 1, none⟩, ⟨b, off + k * 3 + 2, none⟩] wr := ⟨_, rfl⟩
        obtain ⟨G, hG⟩ : ∃ G, G = held C wr.drew := ⟨_, rfl⟩
        have hfs : ∀ a ∈ ([⟨b2, 4, none⟩, ⟨w.heap.size, 4, none⟩, ⟨b, off + k * 3, none⟩, ⟨b, off + k * 3 + 1, none⟩, ⟨b, off + k * 3 + 2, none⟩] : List Addr), ∀ u, wr.cell? a = some u → ∀ x, (G x).cell? a = some u := fun a ha u hu x => by
          rw [hG, hC]
          exact same_held hu ha x
        have f0 := hfs _ (by simp) _ x4
        have f1 := hfs _ (by simp) _ q4
        have f2 := hfs _ (by simp) _ t0
        have f3 := hfs _ (by simp) _ t1
        have f4 := hfs _ (by simp) _ t2
        clear hfs
        refine region_sk C [[], [0], [], [2], [], [3, 4], [5], [6], [1, 7], [0, 1, 2, 3, 4, 5, 6, 7, 8], [9, 8, 8, 0, 1, 2, 3, 4, 5, 6, 7, 8]] (.qs [0, 1, 2, 3, 4, 5, 6] (.one 7 (.one 8 (.one 9 .done)))) 10 (by kernel_rfl) (by kernel_rfl) (by kernel_rfl) (by rw [hC]; exact same_drew) ?_
        refine wpSk_qs (w0 := wr.drew) (by rw [hC]; exact same_drew) ?_
        rw [← hG]
        have HC' := Lib.hid hC
        clear hG hC
        simp only [List.filterMap_cons, List.filterMap_nil, List.getElem?_toArray, List.getElem?_cons_zero, List.getElem?_cons_succ]
        change wpQuiet _ _ _ _ [_, _, _, _, _, _, _] _
        repeat (go_big_quiet_step (fail))
        refine wpQuiet_nil ?_
        clear f0 f1 f2 f3 f4
        have hCb : ∀ V, Below wr.heap.size wr V → C V := fun V hV => by
          rw [HC'.out]
          exact same_below hV (by simp only [List.mem_cons, List.not_mem_nil, or_false]; rintro a (rfl | rfl | rfl | rfl | rfl) <;> assumption)
        have HCB := Lib.hid hCb
        clear hCb
        obtain ⟨V, hV, hbV⟩ : ∃ V, V = wr.drew ∧ Below wr.heap.size wr V := ⟨_, rfl, gD (Below.refl _ _)⟩
        rw [← hV]
        clear hV
        refine wpSk_one rfl (fun K hK => ?_)
        go_simp
        have hbV2 : Below wr.heap.size wr (V.alloc (.cells #[.int .i64 x.tk, .int .i64 x.ck, .int .i64 x.mn] 74)) := gA hbV
        have hn2 := news_new V _ rfl (gC x) 74
        obtain ⟨bv, hbv⟩ : ∃ b, b = V.heap.size := ⟨_, rfl⟩
        rw [← hbv] at hn2 ⊢
        obtain ⟨V2, hV2, hbV2⟩ : ∃ V2, V2 = V.alloc (.cells #[.int .i64 x.tk, .int .i64 x.ck, .int .i64 x.mn] 74) ∧ Below wr.heap.size wr V2 := ⟨_, rfl, hbV2⟩
        have hn3 : ∀ (j : Nat) (u : Value), (gC x)[j]? = some u → V2.cell? ((⟨bv, 0, none⟩ : Addr).add j) = some u := by rw [hV2]; exact hn2
        rw [← hV2]
        clear hV2 hbv hn2
        refine hK.out _ _ (HCB.out _ hbV2) ?_
        clear hK K
        refine wpSk_one rfl (fun K hK => ?_)
        rw [if_pos (by rfl)]
        have hown2 : V2.ownsRow W1.heap.size 74 3 vv (h.someC B k).length ((h.someC B k).flatMap gC) := own_below HOWN.out hbV2
        refine wp_append_own _ _ 24 rfl W1.heap.size 74 k0 (.agg #[.int .i64 0, .int .i64 0, .int .i64 0]) 3 24 Try.underlying24 hk hx0 hx1 hx2 rfl (by decide) _ _ _ rfl hown2 ⟨bv, 0, none⟩ 1 1 (gC x) rfl rfl hn3 ?c2 ?c3 ?c4 ?c5 ?_
        case c2 => simp [gC, Value.oneCell']
        case c3 => unfold maxLen; omega
        case c4 => omega
        case c5 => exact Nat.le_trans hkx.size hbV2.size
        intro v' w1 hown1 hg1 _
        obtain ⟨Av, cv, rfl⟩ : ∃ A c, v' = .slice A ((h.someC B k).length + 1) c := by
          rcases hown1.2 with ⟨-, h0⟩ | ⟨_, _, _, e, -⟩
          · omega
          · exact ⟨_, _, e⟩
        have hne : ∀ j, vv.ownBlock = some j → W1.heap.size ≤ j := own_lt hown2
        have hsame : ∀ a : Addr, a.block < W1.heap.size → w1.cell? a = wr.cell? a := fun a ha =>
          (World.cell?_of_block (w := V2) (hg1.block a.block (Nat.lt_of_lt_of_le ha (Nat.le_trans hkx.size hbV2.size)) (fun e => by have := hne a.block e.symm; omega))).trans (hbV2.cell (Nat.lt_of_lt_of_le ha hkx.size))
        have hkw : KeepX b2 W1 w1 := (hkx.trans (KeepX.of_below hbV2)).grown hg1 hne
        have hX1 : BlkAt w1 b2 26 [.int .i64 h.hour, .int .i64 h.grace, .slice A2 h.clocks.length c2, .slice A3 h.tickets.length c3, vv] := (hg1.block b2 (Nat.lt_of_lt_of_le hb2l (Nat.le_trans hkx.size hbV2.size)) (fun e => by have := hne b2 e.symm; omega)).trans (hX.of_below hbV2 hX.lt)
        have hfz := hX1.frozen 4
        have hlx1 := hX1.lt
        have hbW : b < W1.heap.size := Nat.lt_of_lt_of_le HBL.out hb1.size
        have hC1 : C w1 := by
          rw [HC'.out]
          intro a ha
          refine hsame a ?_
          simp only [List.mem_cons, List.not_mem_nil, or_false] at ha
          rcases ha with rfl | rfl | rfl | rfl | rfl <;> assumption
        have y4 := (hsame ⟨b2, 4, none⟩ hb2l).trans x4
        have HN := Lib.hid hown1
        clear hown1 hg1 hsame hne hown2 hn3
        simp only [Act.put, List.setIfInBounds_toArray]
        refine hK.out _ _ hC1 ?_
        clear hK K
        refine wpSk_one rfl (fun K hK => ?_)
        go_simp
        refine hK.out _ _ hC1 ?_
        clear hK K
        refine wpSk_done rfl (fun K hK => ?_)
        go_simp
        refine hK.out _ _ (noPanic_mk ?_)
        clear hK K
        go_wp2
        go_roundw
        case rel => exact ⟨k + 1, .slice Av ((h.someC B k).length + 1) cv, by omega, by go_num, hkw.trans (KeepX.set_ _ _ _), hX1.set_ 4 _, by rw [HF.out, List.length_append, List.flatMap_append, List.length_singleton, List.flatMap_singleton]; exact own_set' HN.out hb2l⟩
        case measure => simp [intOf]; omega
    · obtain rfl : k = h.clips.length := by omega
      obtain ⟨X4, d4, rfl, hsl4⟩ := SlA.of_own (k := 3) (g := gC) (l := h.someC B h.clips.length) HOWN.out (fun _ _ => rfl) rfl (by omega)
      have hlow4 : ∀ a, X4 = some a → W1.heap.size ≤ a.block := fun a ha => own_lt HOWN.out a.block (by rw [ha]; rfl)
      clear HOWN x4
      have hR := hkx.blk hB1 (by have := HB2.out; have := HB1.out; omega)
      have x0 := hX.cell 0
      have x1 := hX.cell 1
      have x2 := hX.cell 2
      have x3 := hX.cell 3
      have x4 := hX.cell 4
      have r0 := hR.cell 0
      have r1 := hR.cell 1
      have r2 := hR.cell 2
      have r3 := hR.cell 3
      have r4 := hR.cell 4
      have u0 := hR.frozen 0
      have u1 := hR.frozen 1
      have u2 := hR.frozen 2
      have u3 := hR.frozen 3
      have u4 := hR.frozen 4
      simp only [List.getElem?_cons_zero, List.getElem?_cons_succ] at x0 x1 x2 x3 x4 r0 r1 r2 r3 r4
      have hlr := hR.lt
      go_wp2
      obtain ⟨W5, hW5⟩ : ∃ W5, W5 = ((((wr.setCell ⟨b1, 0, none⟩ (.int .i64 h.hour)).setCell ⟨b1, 1, none⟩ (.int .i64 h.grace)).setCell ⟨b1, 2, none⟩ (.slice A2 h.clocks.length c2)).setCell ⟨b1, 3, none⟩ (.slice A3 h.tickets.length c3)).setCell ⟨b1, 4, none⟩ (.slice X4 (h.someC B h.clips.length).length d4) := ⟨_, rfl⟩
      rw [← hW5]
      have hB5 := ((((hR.set_ 0 (.int .i64 h.hour)).set_ 1 (.int .i64 h.grace)).set_ 2 (.slice A2 h.clocks.length c2)).set_ 3 (.slice A3 h.tickets.length c3)).set_ 4 (.slice X4 (h.someC B h.clips.length).length d4)
      rw [← hW5] at hB5
      have hk5 : KeepX b1 wr W5 := by
        rw [hW5]
        exact ((((KeepX.set_ _ _ _).trans (KeepX.set_ _ _ _)).trans (KeepX.set_ _ _ _)).trans (KeepX.set_ _ _ _)).trans (KeepX.set_ _ _ _)
      clear hW5
      have c0 := hB5.cell 0
      have c1 := hB5.cell 1
      have c2 := hB5.cell 2
      have c3 := hB5.cell 3
      have c4 := hB5.cell 4
      simp at c0 c1 c2 c3 c4
      have hlow : Below w.heap.size w wr := hkx.low hb1 (by have := HB2.out; omega) hb1.size
      have hg1 := HB1.out
      have hg2 := HS1.out
      have hb5 : Below w.heap.size w W5 := hk5.low hlow (by omega) hlow.size
      refine bodyPost_ret (v := .agg #[.int .i64 h.hour, .int .i64 h.grace, .slice A2 h.clocks.length _, .slice A3 h.tickets.length _, .slice X4 (h.someC B h.clips.length).length d4]) ?hr rfl
        ⟨_, rfl, later_ex hb5, A2, _, A3, _, X4, d4, rfl, H2.below hb5, H3.below hb5, hk5.sl hsl4 (fun _ a ha => by have := hlow4 a ha; omega)⟩
      case hr => simp [results, Try.results62, go_sem, c0, c1, c2, c3, c4]
end Go.Proofs.Ytcngnfnljkkjgaa
