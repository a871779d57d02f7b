/-
The laws' copy of a house: new lists of the same clocks, tickets and clips.
-/
import Derived.Test.YtcngnfnljkkjgaaRfFault2
import Derived.Test.YtcngnfnljkkjgaaTkSk
import Derived.Test.YtcngnfnljkkjgaaTkTwo
namespace Go.Proofs.Ytcngnfnljkkjgaa
open Go.RowKit
attribute [local go_sem] cell_later frozen_later lt_later le_later

theorem KeepX.grown {b : Nat} {W A B : World} {row : Option Nat} (h : KeepX b W A) (hg : A.grownBy B row) (hr : ∀ k, row = some k → W.heap.size ≤ k) : KeepX b W B := by
  have hb : Below W.heap.size A B := (Below.refl W.heap.size A).grown hg h.size hr
  exact ⟨hb.os.trans h.os, hb.tape.trans h.tape, hb.output.trans h.output, Nat.le_trans h.size hb.size, fun k hk hkb => (hb.block k hk).trans (h.block k hk hkb)⟩
theorem own_lt {w : World} {base : Nat} {e : TypeId} {k n : Nat} {v : Value} {xs : List Value} (h : w.ownsRow base e k v n xs) : ∀ j, v.ownBlock = some j → base ≤ j := fun j hj => (h.lt j hj).1
theorem own_set' {W : World} {base : Nat} {e : TypeId} {k : Nat} {v : Value} {n g i : Nat} {u : Value} {xs : List Value} (h : W.ownsRow base e k v n xs) (hg : g < base) : (W.setCell ⟨g, i, none⟩ u).ownsRow base e k v n xs := by
  obtain ⟨h6, h7⟩ := h
  refine ⟨h6, ?_⟩
  rcases h7 with h7 | ⟨b, cap, cur, h8, h9, h10, h11⟩
  · exact .inl h7
  · exact .inr ⟨b, cap, cur, h8, h9, (Below.heap_setCell _ _ _ _ (by show b ≠ g; omega)).trans h10, h11⟩
theorem infoTicket : (Try.prog.info? 114).map (fun i => (i.zero, i.size, i.bytes)) = some (some (.agg #[.int .i64 0, .int .i64 0]), 2, 16) := by kernel_rfl
theorem flat_take {α : Type} {g : α → List Value} {l : List α} {k : Nat} {x : α} (hx : l[k]? = some x) : (l.take (k + 1)).flatMap g = (l.take k).flatMap g ++ g x := by
  rw [List.take_add_one, hx]
  simp

set_option maxRecDepth 100000 in
set_option maxHeartbeats 4000000 in
theorem house_calls (v : Value) (h : Hs) (w : World) (H : HsAt w v h) (hl2 : h.clocks.length ≤ 1000) (hl3 : h.tickets.length ≤ 1000) (hl4 : h.clips.length ≤ 1000) :
    Calls Try.prog 25 #[v] w (RetHs h w) := by
  obtain ⟨A2, c2, A3, c3, A4, c4, rfl, H2, H3, H4⟩ := H
  obtain ⟨i0, hi, hz0, hz1, hz2⟩ := info_parts infoRange
  obtain ⟨j0, hj, hy0, hy1, hy2⟩ := info_parts infoTicket
  obtain ⟨k0, hk, hx0, hx1, hx2⟩ := info_parts infoClip
  obtain ⟨W1, hW1⟩ : ∃ W1, W1 = ((w.alloc (.cells #[.int .i64 h.hour, .int .i64 h.grace, .slice A2 h.clocks.length c2, .slice A3 h.tickets.length c3, .slice A4 h.clips.length c4] 26)).alloc (.cells #[.int .i64 0, .int .i64 0, .slice none 0 0, .slice none 0 0, .slice none 0 0] 36)).alloc (.cells #[.int .i64 h.hour, .int .i64 h.grace, .slice none 0 0, .slice none 0 0, .slice none 0 0] 36) := ⟨_, rfl⟩
  have hs1 : W1.heap.size = w.heap.size + 3 := by rw [hW1]; simp
  have hb1 : Below w.heap.size w W1 := by rw [hW1]; exact gA (gA (gA (Below.refl _ _)))
  have hB0 : BlkAt W1 w.heap.size 26 [.int .i64 h.hour, .int .i64 h.grace, .slice A2 h.clocks.length c2, .slice A3 h.tickets.length c3, .slice A4 h.clips.length c4] := by rw [hW1]; exact ((BlkAt.new _ _ _).alloc _).alloc _
  have hB1 : BlkAt W1 (w.heap.size + 1) 36 [.int .i64 0, .int .i64 0, .slice none 0 0, .slice none 0 0, .slice none 0 0] := by
    rw [hW1]
    have := BlkAt.new (w.alloc (.cells #[.int .i64 h.hour, .int .i64 h.grace, .slice A2 h.clocks.length c2, .slice A3 h.tickets.length c3, .slice A4 h.clips.length c4] 26)) 36 [.int .i64 0, .int .i64 0, .slice none 0 0, .slice none 0 0, .slice none 0 0]
    rw [World.size_alloc] at this
    exact this.alloc _
  have hB2 : BlkAt W1 (w.heap.size + 2) 36 [.int .i64 h.hour, .int .i64 h.grace, .slice none 0 0, .slice none 0 0, .slice none 0 0] := by
    rw [hW1]
    have := BlkAt.new ((w.alloc (.cells #[.int .i64 h.hour, .int .i64 h.grace, .slice A2 h.clocks.length c2, .slice A3 h.tickets.length c3, .slice A4 h.clips.length c4] 26)).alloc (.cells #[.int .i64 0, .int .i64 0, .slice none 0 0, .slice none 0 0, .slice none 0 0] 36)) 36 [.int .i64 h.hour, .int .i64 h.grace, .slice none 0 0, .slice none 0 0, .slice none 0 0]
    simp only [World.size_alloc] at this
    exact this
  have HS1 := Lib.hid hs1
  clear hs1
  go_enter Try.func25, Try.ntmps25
  go_wp2
  rw [← hW1]
  clear hW1
  rw [show w.heap.size + 1 + 1 = w.heap.size + 2 from rfl]
  have hsw := hB0.lt
  obtain ⟨b2, hb2⟩ : ∃ b, b = w.heap.size + 2 := ⟨_, rfl⟩
  obtain ⟨b1, hb1'⟩ : ∃ b, b = w.heap.size + 1 := ⟨_, rfl⟩
  rw [← hb2] at hB2 ⊢
  rw [← hb1'] at hB1 ⊢
  have HB2 := Lib.hid hb2
  have HB1 := Lib.hid hb1'
  clear hb2 hb1'
  have hb2l : b2 < W1.heap.size := hB2.lt
  have H2' := H2.below hb1
  have H3' := H3.below hb1
  have H4' := H4.below hb1
  have hnot : ∀ (α : Type) (k : Nat) (g : α → List Value) (A : Option Addr) (c : Nat) (l : List α), SlA w k g A c l → l ≠ [] → ∀ a, A = some a → a.block < w.heap.size := fun α k g A c l hs hne a ha => by
    obtain ⟨b, off, e, hlt, -⟩ := hs.2.2 hne
    rw [ha] at e
    cases e
    exact hlt
  -- the clocks
  go_loopw [4] (fun i wr => ∃ (k : Nat) (v : Value), k ≤ h.clocks.length ∧ i = .int .i64 k ∧ KeepX b2 W1 wr ∧ BlkAt wr b2 36 [.int .i64 h.hour, .int .i64 h.grace, v, .slice none 0 0, .slice none 0 0] ∧ wr.ownsRow W1.heap.size 42 2 v k ((h.clocks.take k).flatMap gR)) (fun i _ => h.clocks.length - (intOf i).toNat)
  case atStart => exact ⟨0, _, Nat.zero_le _, rfl, KeepX.refl _ _, hB2, World.ownsRow_nil _ _ _ _⟩
  case round =>
    obtain ⟨k, vv, hk', rfl, hkx, hX, hown⟩ := hrel
    have hC0 := hkx.blk hB0 (by have := HB2.out; omega)
    have q2 := hC0.cell 2
    have x2 := hX.cell 2
    have fx := hX.frozen 2
    simp only [List.getElem?_cons_zero, List.getElem?_cons_succ] at q2 x2
    have hl0 := hC0.lt
    have hlx := hX.lt
    have HOWN := Lib.hid hown
    clear hown
    by_cases hlt : k < h.clocks.length
    · have hlt1 : (k : Int) < (h.clocks.length : Int) := by omega
      have hk0 : (0 : Int) ≤ (k : Int) := Int.natCast_nonneg _
      obtain ⟨b, off, x, e2, hbl, hx, s0, s1⟩ := H2.atR hlt
      subst e2
      have HF := Lib.hid (flat_take (g := gR) hx)
      clear hx
      have t0 := (hkx.cell ((hb1.cell (p := ⟨b, off + k * 2, none⟩) hbl).trans s0) (by show b ≠ b2; have := HB2.out; omega))
      have t1 := (hkx.cell ((hb1.cell (p := ⟨b, off + k * 2 + 1, none⟩) hbl).trans s1) (by show b ≠ b2; have := HB2.out; omega))
      have hblr : b < wr.heap.size := Nat.lt_of_lt_of_le hbl (Nat.le_trans hb1.size hkx.size)
      have HBL := Lib.hid hbl
      clear s0 s1 hbl
      go_wp2
      obtain ⟨C, hC⟩ : ∃ C, C = Same [⟨b2, 2, none⟩, ⟨w.heap.size, 2, none⟩, ⟨b, off + k * 2, none⟩, ⟨b, off + k * 2 + 1, none⟩] wr := ⟨_, rfl⟩
      obtain ⟨G, hG⟩ : ∃ G, G = held C wr.drew := ⟨_, rfl⟩
      have hfs : ∀ a ∈ ([⟨b2, 2, none⟩, ⟨w.heap.size, 2, none⟩, ⟨b, off + k * 2, none⟩, ⟨b, off + k * 2 + 1, none⟩] : List Addr), ∀ u, wr.cell? a = some u → ∀ x, (G x).cell? a = some u := fun a ha u hu x => by
        rw [hG, hC]
        exact same_held hu ha x
      have f0 := hfs _ (by simp) _ x2
      have f1 := hfs _ (by simp) _ q2
      have f2 := hfs _ (by simp) _ t0
      have f3 := hfs _ (by simp) _ t1
      clear hfs
      refine region_sk C [[], [0], [], [2], [], [3, 4], [5], [6], [7], [1, 8, 7], [0, 1, 2, 3, 4, 5, 6, 7, 8, 9], [10, 9, 9, 0, 1, 2, 3, 4, 5, 6, 7, 8, 9]] (.qs [0, 1, 2, 3, 4, 5, 6] (.one 7 (.one 8 (.one 9 (.one 10 .done))))) 11 (by kernel_rfl) (by kernel_rfl) (by kernel_rfl) (by rw [hC]; exact same_drew) ?_
      refine wpSk_qs (w0 := wr.drew) (by rw [hC]; exact same_drew) ?_
      rw [← hG]
      have HC' := Lib.hid hC
      clear hG hC
      simp only [List.filterMap_cons, List.filterMap_nil, List.getElem?_toArray, List.getElem?_cons_zero, List.getElem?_cons_succ]
      change wpQuiet _ _ _ _ [_, _, _, _, _, _, _] _
      repeat (go_big_quiet_step (fail))
      refine wpQuiet_nil ?_
      clear f0 f1 f2 f3
      have hCb : ∀ V, Below wr.heap.size wr V → C V := fun V hV => by
        rw [HC'.out]
        exact same_below hV (by simp only [List.mem_cons, List.not_mem_nil, or_false]; rintro a (rfl | rfl | rfl | rfl) <;> assumption)
      have HCB := Lib.hid hCb
      clear hCb
      refine wpSk_one rfl (fun K hK => ?_)
      go_simp
      refine (to_calls _ _ _).mono ?_
      rintro e w' ⟨rfl, z, rfl⟩
      obtain ⟨V, hV, hbV⟩ : ∃ V, V = later wr.drew z ∧ Below wr.heap.size wr V := ⟨_, rfl, Below.trans (gD (Below.refl _ _)) (below_later wr.drew z)⟩
      rw [← hV]
      clear hV
      refine hK.out _ _ (HCB.out _ hbV) ?_
      clear hK K
      refine wpSk_one rfl (fun K hK => ?_)
      go_simp
      have hbV2 : Below wr.heap.size wr (V.alloc (.cells #[.int .i64 x.lo, .int .i64 x.hi] 42)) := gA hbV
      have hn2 := news_new V _ rfl (gR x) 42
      obtain ⟨bv, hbv⟩ : ∃ b, b = V.heap.size := ⟨_, rfl⟩
      rw [← hbv] at hn2 ⊢
      obtain ⟨V2, hV2, hbV2⟩ : ∃ V2, V2 = V.alloc (.cells #[.int .i64 x.lo, .int .i64 x.hi] 42) ∧ Below wr.heap.size wr V2 := ⟨_, rfl, hbV2⟩
      have hn3 : ∀ (j : Nat) (u : Value), (gR x)[j]? = some u → V2.cell? ((⟨bv, 0, none⟩ : Addr).add j) = some u := by rw [hV2]; exact hn2
      rw [← hV2]
      clear hV2 hbv hn2
      refine hK.out _ _ (HCB.out _ hbV2) ?_
      clear hK K
      refine wpSk_one rfl (fun K hK => ?_)
      rw [if_pos (by rfl)]
      have hown2 : V2.ownsRow W1.heap.size 42 2 vv k ((h.clocks.take k).flatMap gR) := own_below HOWN.out hbV2
      refine wp_append_own _ _ 29 rfl W1.heap.size 42 i0 (.agg #[.int .i64 0, .int .i64 0]) 2 16 Try.underlying29 hi hz0 hz1 hz2 rfl (by decide) _ _ _ rfl hown2 ⟨bv, 0, none⟩ 1 1 (gR x) rfl rfl hn3 ?c2 ?c3 ?c4 ?c5 ?_
      case c2 => simp [gR, Value.oneCell']
      case c3 => unfold maxLen; omega
      case c4 => omega
      case c5 => exact Nat.le_trans hkx.size hbV2.size
      intro v' w1 hown1 hg1 _
      obtain ⟨Av, cv, rfl⟩ : ∃ A c, v' = .slice A (k + 1) c := by
        rcases hown1.2 with ⟨-, h0⟩ | ⟨_, _, _, e, -⟩
        · omega
        · exact ⟨_, _, e⟩
      have hne : ∀ j, vv.ownBlock = some j → W1.heap.size ≤ j := own_lt hown2
      have hsame : ∀ a : Addr, a.block < W1.heap.size → w1.cell? a = wr.cell? a := fun a ha =>
        (World.cell?_of_block (w := V2) (hg1.block a.block (Nat.lt_of_lt_of_le ha (Nat.le_trans hkx.size hbV2.size)) (fun e => by have := hne a.block e.symm; omega))).trans (hbV2.cell (Nat.lt_of_lt_of_le ha hkx.size))
      have hkw : KeepX b2 W1 w1 := (hkx.trans (KeepX.of_below hbV2)).grown hg1 hne
      have hX1 : BlkAt w1 b2 36 [.int .i64 h.hour, .int .i64 h.grace, vv, .slice none 0 0, .slice none 0 0] := (hg1.block b2 (Nat.lt_of_lt_of_le hb2l (Nat.le_trans hkx.size hbV2.size)) (fun e => by have := hne b2 e.symm; omega)).trans (hX.of_below hbV2 hX.lt)
      have hfz := hX1.frozen 2
      have hlx1 := hX1.lt
      have hbW : b < W1.heap.size := Nat.lt_of_lt_of_le HBL.out hb1.size
      have hC1 : C w1 := by
        rw [HC'.out]
        intro a ha
        refine hsame a ?_
        simp only [List.mem_cons, List.not_mem_nil, or_false] at ha
        rcases ha with rfl | rfl | rfl | rfl <;> assumption
      have y2 := (hsame ⟨b2, 2, none⟩ hb2l).trans x2
      have HN := Lib.hid hown1
      clear hown1 hg1 hsame hne hown2 hn3
      simp only [Act.put, List.setIfInBounds_toArray]
      refine hK.out _ _ hC1 ?_
      clear hK K
      refine wpSk_one rfl (fun K hK => ?_)
      go_simp
      refine hK.out _ _ hC1 ?_
      clear hK K
      refine wpSk_done rfl (fun K hK => ?_)
      go_simp
      refine hK.out _ _ (noPanic_mk ?_)
      clear hK K
      go_wp2
      go_roundw
      case rel => exact ⟨k + 1, .slice Av (k + 1) cv, by omega, by go_num, hkw.trans (KeepX.set_ _ _ _), hX1.set_ 2 _, by rw [HF.out]; exact own_set' HN.out hb2l⟩
      case measure => simp [intOf]; omega
    · obtain rfl : k = h.clocks.length := by omega
      obtain ⟨X2, d2, rfl, hsl2⟩ := SlA.of_own (k := 2) (g := gR) (l := h.clocks) (by have := HOWN.out; rwa [List.take_length] at this) (fun _ _ => rfl) rfl (by omega)
      have hlow2 : ∀ a, X2 = some a → W1.heap.size ≤ a.block := fun a ha => own_lt HOWN.out a.block (by rw [ha]; rfl)
      clear HOWN
      go_wp2
      obtain ⟨W2, hW2⟩ : ∃ W2, W2 = wr := ⟨_, rfl⟩
      subst hW2
      have hk12 := hkx
      have hb22 := hX.lt
      have hXX := hX
      clear hkx hX hC0 q2 x2 fx hl0 hlx
      -- the tickets
      go_loopw [5] (fun i wr => ∃ (k : Nat) (v : Value), k ≤ h.tickets.length ∧ i = .int .i64 k ∧ KeepX b2 W2 wr ∧ BlkAt wr b2 36 [.int .i64 h.hour, .int .i64 h.grace, .slice X2 h.clocks.length d2, v, .slice none 0 0] ∧ wr.ownsRow W2.heap.size 114 2 v k ((h.tickets.take k).flatMap gT)) (fun i _ => h.tickets.length - (intOf i).toNat)
      case atStart => exact ⟨0, _, Nat.zero_le _, rfl, KeepX.refl _ _, hXX, World.ownsRow_nil _ _ _ _⟩
      case round =>
        obtain ⟨k, vv, hk', rfl, hkx, hX, hown⟩ := hrel
        have hkx1 := hk12.trans hkx
        have hC0 := hkx1.blk hB0 (by have := HB2.out; omega)
        have q2 := hC0.cell 3
        have x2 := hX.cell 3
        have fx := hX.frozen 3
        simp only [List.getElem?_cons_zero, List.getElem?_cons_succ] at q2 x2
        have hl0 := hC0.lt
        have hlx := hX.lt
        have HOWN := Lib.hid hown
        clear hown
        by_cases hlt : k < h.tickets.length
        · have hlt1 : (k : Int) < (h.tickets.length : Int) := by omega
          have hk0 : (0 : Int) ≤ (k : Int) := Int.natCast_nonneg _
          obtain ⟨b, off, x, e2, hbl, hx, s0, s1⟩ := H3.atT hlt
          subst e2
          have HF := Lib.hid (flat_take (g := gT) hx)
          clear hx
          have t0 := (hkx1.cell ((hb1.cell (p := ⟨b, off + k * 2, none⟩) hbl).trans s0) (by show b ≠ b2; have := HB2.out; omega))
          have t1 := (hkx1.cell ((hb1.cell (p := ⟨b, off + k * 2 + 1, none⟩) hbl).trans s1) (by show b ≠ b2; have := HB2.out; omega))
          have hblr : b < wr.heap.size := Nat.lt_of_lt_of_le hbl (Nat.le_trans hb1.size hkx1.size)
          have HBL := Lib.hid hbl
          clear s0 s1 hbl
          go_wp2
          obtain ⟨C, hC⟩ : ∃ C, C = Same [⟨b2, 3, none⟩, ⟨w.heap.size, 3, none⟩, ⟨b, off + k * 2, none⟩, ⟨b, off + k * 2 + 1, none⟩] wr := ⟨_, rfl⟩
          obtain ⟨G, hG⟩ : ∃ G, G = held C wr.drew := ⟨_, rfl⟩
          have hfs : ∀ a ∈ ([⟨b2, 3, none⟩, ⟨w.heap.size, 3, none⟩, ⟨b, off + k * 2, none⟩, ⟨b, off + k * 2 + 1, none⟩] : List Addr), ∀ u, wr.cell? a = some u → ∀ x, (G x).cell? a = some u := fun a ha u hu x => by
            rw [hG, hC]
            exact same_held hu ha x
          have f0 := hfs _ (by simp) _ x2
          have f1 := hfs _ (by simp) _ q2
          have f2 := hfs _ (by simp) _ t0
          have f3 := hfs _ (by simp) _ t1
          clear hfs
          refine region_sk C [[], [0], [], [2], [], [3, 4], [5], [6], [], [8], [], [9, 10], [11], [12], [7, 13], [14], [1, 15], [0, 1, 2, 3, 4, 5, 6, 7, 8, 9, 10, 11, 12, 13, 14, 15, 16], [17, 16, 16, 0, 1, 2, 3, 4, 5, 6, 7, 8, 9, 10, 11, 12, 13, 14, 15, 16]] (.qs [0, 1, 2, 3, 4, 5, 6, 7, 8, 9, 10, 11, 12, 13, 14] (.one 15 (.one 16 (.one 17 .done)))) 18 (by kernel_rfl) (by kernel_rfl) (by kernel_rfl) (by rw [hC]; exact same_drew) ?_
          refine wpSk_qs (w0 := wr.drew) (by rw [hC]; exact same_drew) ?_
          rw [← hG]
          have HC' := Lib.hid hC
          clear hG hC
          simp only [List.filterMap_cons, List.filterMap_nil, List.getElem?_toArray, List.getElem?_cons_zero, List.getElem?_cons_succ]
          change wpQuiet _ _ _ _ [_, _, _, _, _, _, _, _, _, _, _, _, _, _, _] _
          repeat (go_big_quiet_step (fail))
          refine wpQuiet_nil ?_
          clear f0 f1 f2 f3
          have hCb : ∀ V, Below wr.heap.size wr V → C V := fun V hV => by
            rw [HC'.out]
            exact same_below hV (by simp only [List.mem_cons, List.not_mem_nil, or_false]; rintro a (rfl | rfl | rfl | rfl) <;> assumption)
          have HCB := Lib.hid hCb
          clear hCb
          refine wpSk_one rfl (fun K hK => ?_)
          go_simp
          have hn2 := news_new wr _ rfl (gT x) 114
          obtain ⟨bv, hbv⟩ : ∃ b, b = wr.heap.size := ⟨_, rfl⟩
          obtain ⟨V2, hV2, hbV2⟩ : ∃ V2, V2 = (wr.alloc (.cells #[.int .i64 x.tub, .int .i64 x.hours] 114)).drew ∧ Below wr.heap.size wr V2 := ⟨_, rfl, gD (gA (Below.refl _ _))⟩
          have hn3 : ∀ (j : Nat) (u : Value), (gT x)[j]? = some u → V2.cell? ((⟨bv, 0, none⟩ : Addr).add j) = some u := by rw [hV2, hbv]; exact hn2
          rw [← hV2]
          rw [← hbv]
          clear hV2 hbv hn2
          refine hK.out _ _ (HCB.out _ hbV2) ?_
          clear hK K
          refine wpSk_one rfl (fun K hK => ?_)
          rw [if_pos (by rfl)]
          have hown2 : V2.ownsRow W2.heap.size 114 2 vv k ((h.tickets.take k).flatMap gT) := own_below HOWN.out hbV2
          refine wp_append_own _ _ 33 rfl W2.heap.size 114 j0 (.agg #[.int .i64 0, .int .i64 0]) 2 16 Try.underlying33 hj hy0 hy1 hy2 rfl (by decide) _ _ _ rfl hown2 ⟨bv, 0, none⟩ 1 1 (gT x) rfl rfl hn3 ?c2 ?c3 ?c4 ?c5 ?_
          case c2 => simp [gT, Value.oneCell']
          case c3 => unfold maxLen; omega
          case c4 => omega
          case c5 => exact Nat.le_trans hkx.size hbV2.size
          intro v' w1 hown1 hg1 _
          have hb2l := hb22
          obtain ⟨Av, cv, rfl⟩ : ∃ A c, v' = .slice A (k + 1) c := by
            rcases hown1.2 with ⟨-, h0⟩ | ⟨_, _, _, e, -⟩
            · omega
            · exact ⟨_, _, e⟩
          have hne : ∀ j, vv.ownBlock = some j → W2.heap.size ≤ j := own_lt hown2
          have hsame : ∀ a : Addr, a.block < W2.heap.size → w1.cell? a = wr.cell? a := fun a ha =>
            (World.cell?_of_block (w := V2) (hg1.block a.block (Nat.lt_of_lt_of_le ha (Nat.le_trans hkx.size hbV2.size)) (fun e => by have := hne a.block e.symm; omega))).trans (hbV2.cell (Nat.lt_of_lt_of_le ha hkx.size))
          have hkw : KeepX b2 W2 w1 := (hkx.trans (KeepX.of_below hbV2)).grown hg1 hne
          have hX1 : BlkAt w1 b2 36 [.int .i64 h.hour, .int .i64 h.grace, .slice X2 h.clocks.length d2, vv, .slice none 0 0] := (hg1.block b2 (Nat.lt_of_lt_of_le hb2l (Nat.le_trans hkx.size hbV2.size)) (fun e => by have := hne b2 e.symm; omega)).trans (hX.of_below hbV2 hX.lt)
          have hfz := hX1.frozen 3
          have hlx1 := hX1.lt
          have hbW : b < W2.heap.size := Nat.lt_of_lt_of_le HBL.out (Nat.le_trans hb1.size hk12.size)
          have hwW : w.heap.size < W2.heap.size := Nat.lt_of_lt_of_le hsw hk12.size
          have hC1 : C w1 := by
            rw [HC'.out]
            intro a ha
            refine hsame a ?_
            simp only [List.mem_cons, List.not_mem_nil, or_false] at ha
            rcases ha with rfl | rfl | rfl | rfl <;> assumption
          have y2 := (hsame ⟨b2, 3, none⟩ hb2l).trans x2
          have HN := Lib.hid hown1
          clear hown1 hg1 hsame hne hown2 hn3
          simp only [Act.put, List.setIfInBounds_toArray]
          refine hK.out _ _ hC1 ?_
          clear hK K
          refine wpSk_one rfl (fun K hK => ?_)
          go_simp
          refine hK.out _ _ hC1 ?_
          clear hK K
          refine wpSk_done rfl (fun K hK => ?_)
          go_simp
          refine hK.out _ _ (noPanic_mk ?_)
          clear hK K
          go_wp2
          go_roundw
          case rel => exact ⟨k + 1, .slice Av (k + 1) cv, by omega, by go_num, hkw.trans (KeepX.set_ _ _ _), hX1.set_ 3 _, by rw [HF.out]; exact own_set' HN.out hb2l⟩
          case measure => simp [intOf]; omega
        · obtain rfl : k = h.tickets.length := by omega
          obtain ⟨X3, d3, rfl, hsl3⟩ := SlA.of_own (k := 2) (g := gT) (l := h.tickets) (by have := HOWN.out; rwa [List.take_length] at this) (fun _ _ => rfl) rfl (by omega)
          have hlow3 : ∀ a, X3 = some a → W2.heap.size ≤ a.block := fun a ha => own_lt HOWN.out a.block (by rw [ha]; rfl)
          clear HOWN
          go_wp2
          obtain ⟨W3, hW3⟩ : ∃ W3, W3 = wr := ⟨_, rfl⟩
          subst hW3
          have hk13 := hkx1
          have hk23 := hkx
          have hb23 := hX.lt
          have hXX3 := hX
          clear hkx hkx1 hX hC0 q2 x2 fx hl0 hlx
          -- the clips
          go_loopw [6] (fun i wr => ∃ (k : Nat) (v : Value), k ≤ h.clips.length ∧ i = .int .i64 k ∧ KeepX b2 W3 wr ∧ BlkAt wr b2 36 [.int .i64 h.hour, .int .i64 h.grace, .slice X2 h.clocks.length d2, .slice X3 h.tickets.length d3, v] ∧ wr.ownsRow W3.heap.size 104 3 v k ((h.clips.take k).flatMap gC)) (fun i _ => h.clips.length - (intOf i).toNat)
          case atStart => exact ⟨0, _, Nat.zero_le _, rfl, KeepX.refl _ _, hXX3, World.ownsRow_nil _ _ _ _⟩
          case round =>
            obtain ⟨k, vv, hk', rfl, hkx, hX, hown⟩ := hrel
            have hkx1 := hk13.trans hkx
            have hC0 := hkx1.blk hB0 (by have := HB2.out; omega)
            have q2 := hC0.cell 4
            have x2 := hX.cell 4
            have fx := hX.frozen 4
            simp only [List.getElem?_cons_zero, List.getElem?_cons_succ] at q2 x2
            have hl0 := hC0.lt
            have hlx := hX.lt
            have HOWN := Lib.hid hown
            clear hown
            by_cases hlt : k < h.clips.length
            · have hlt1 : (k : Int) < (h.clips.length : Int) := by omega
              have hk0 : (0 : Int) ≤ (k : Int) := Int.natCast_nonneg _
              obtain ⟨b, off, x, e2, hbl, hx, s0, s1, s2⟩ := H4.atC hlt
              subst e2
              have HF := Lib.hid (flat_take (g := gC) hx)
              clear hx
              have t0 := (hkx1.cell ((hb1.cell (p := ⟨b, off + k * 3, none⟩) hbl).trans s0) (by show b ≠ b2; have := HB2.out; omega))
              have t1 := (hkx1.cell ((hb1.cell (p := ⟨b, off + k * 3 + 1, none⟩) hbl).trans s1) (by show b ≠ b2; have := HB2.out; omega))
              have t2 := (hkx1.cell ((hb1.cell (p := ⟨b, off + k * 3 + 2, none⟩) hbl).trans s2) (by show b ≠ b2; have := HB2.out; omega))
              have hblr : b < wr.heap.size := Nat.lt_of_lt_of_le hbl (Nat.le_trans hb1.size hkx1.size)
              clear s0 s1 s2 hbl
              go_wp2_with (at_builtin; refine wpList_append_own _ rfl _ _ 34 rfl W3.heap.size 104 k0 (.agg #[.int .i64 0, .int .i64 0, .int .i64 0]) 3 24 Try.underlying34 hk hx0 hx1 hx2 rfl (by decide) _ _ _ rfl ((HOWN.out.alloc _).alloc _) ⟨wr.heap.size + 1, 0, none⟩ 1 1 (gC x) rfl rfl ?c1 ?c2 ?c3 ?c4 ?c5 ?_)
              case c1 => exact news_new _ _ (by simp) (gC x) _
              case c2 => simp [gC, Value.oneCell']
              case c3 => unfold maxLen; omega
              case c4 => omega
              case c5 => have := hkx.size; simp; omega
              intro v' w1 hown1 hg1 _
              obtain ⟨V2, hV2⟩ : ∃ V2, V2 = (wr.alloc (.cells #[.int .i64 x.tk, .int .i64 x.ck, .int .i64 x.mn] 74)).alloc (.cells #[.int .i64 x.tk, .int .i64 x.ck, .int .i64 x.mn] 104) := ⟨_, rfl⟩
              have hbV2 : Below wr.heap.size wr V2 := by rw [hV2]; exact gA (gA (Below.refl _ _))
              have hown2 : V2.ownsRow W3.heap.size 104 3 vv k ((h.clips.take k).flatMap gC) := own_below HOWN.out hbV2
              have hg1 : V2.grownBy w1 vv.ownBlock := by rw [hV2]; exact hg1
              clear hV2
              have hb2l := hb23
              obtain ⟨Av, cv, rfl⟩ : ∃ A c, v' = .slice A (k + 1) c := by
                rcases hown1.2 with ⟨-, h0⟩ | ⟨_, _, _, e, -⟩
                · omega
                · exact ⟨_, _, e⟩
              have hne : ∀ j, vv.ownBlock = some j → W3.heap.size ≤ j := own_lt hown2
              have hsame : ∀ a : Addr, a.block < W3.heap.size → w1.cell? a = wr.cell? a := fun a ha =>
                (World.cell?_of_block (w := V2) (hg1.block a.block (Nat.lt_of_lt_of_le ha (Nat.le_trans hkx.size hbV2.size)) (fun e => by have := hne a.block e.symm; omega))).trans (hbV2.cell (Nat.lt_of_lt_of_le ha hkx.size))
              have hkw : KeepX b2 W3 w1 := (hkx.trans (KeepX.of_below hbV2)).grown hg1 hne
              have hX1 : BlkAt w1 b2 36 [.int .i64 h.hour, .int .i64 h.grace, .slice X2 h.clocks.length d2, .slice X3 h.tickets.length d3, vv] := (hg1.block b2 (Nat.lt_of_lt_of_le hb2l (Nat.le_trans hkx.size hbV2.size)) (fun e => by have := hne b2 e.symm; omega)).trans (hX.of_below hbV2 hX.lt)
              have hfz := hX1.frozen 4
              have hlx1 := hX1.lt
              have y2 := (hsame ⟨b2, 4, none⟩ hb2l).trans x2
              have HN := Lib.hid hown1
              clear hown1 hg1 hsame hne hown2
              go_wp2
              go_roundw
              case rel => exact ⟨k + 1, .slice Av (k + 1) cv, by omega, by go_num, hkw.trans (KeepX.set_ _ _ _), hX1.set_ 4 _, by rw [HF.out]; exact own_set' HN.out hb2l⟩
              case measure => simp [intOf]; omega
            · obtain rfl : k = h.clips.length := by omega
              obtain ⟨X4, d4, rfl, hsl4⟩ := SlA.of_own (k := 3) (g := gC) (l := h.clips) (by have := HOWN.out; rwa [List.take_length] at this) (fun _ _ => rfl) rfl (by omega)
              have hlow4 : ∀ a, X4 = some a → W3.heap.size ≤ a.block := fun a ha => own_lt HOWN.out a.block (by rw [ha]; rfl)
              clear HOWN x2
              have s2 := hkx.sl (hk23.sl hsl2 (fun _ a ha => by have := hlow2 a ha; omega)) (fun _ a ha => by have := hlow2 a ha; omega)
              have s3 := hkx.sl hsl3 (fun _ a ha => by have := hlow3 a ha; omega)
              have hR := hkx1.blk hB1 (by have := HB2.out; have := HB1.out; omega)
              have x0 := hX.cell 0
              have x1 := hX.cell 1
              have x2 := hX.cell 2
              have x3 := hX.cell 3
              have x4 := hX.cell 4
              have r0 := hR.cell 0
              have r1 := hR.cell 1
              have r2 := hR.cell 2
              have r3 := hR.cell 3
              have r4 := hR.cell 4
              have u0 := hR.frozen 0
              have u1 := hR.frozen 1
              have u2 := hR.frozen 2
              have u3 := hR.frozen 3
              have u4 := hR.frozen 4
              simp only [List.getElem?_cons_zero, List.getElem?_cons_succ] at x0 x1 x2 x3 x4 r0 r1 r2 r3 r4
              have hlr := hR.lt
              go_wp2
              obtain ⟨W5, hW5⟩ : ∃ W5, W5 = ((((wr.setCell ⟨b1, 0, none⟩ (.int .i64 h.hour)).setCell ⟨b1, 1, none⟩ (.int .i64 h.grace)).setCell ⟨b1, 2, none⟩ (.slice X2 h.clocks.length d2)).setCell ⟨b1, 3, none⟩ (.slice X3 h.tickets.length d3)).setCell ⟨b1, 4, none⟩ (.slice X4 h.clips.length d4) := ⟨_, rfl⟩
              rw [← hW5]
              have hB5 := ((((hR.set_ 0 (.int .i64 h.hour)).set_ 1 (.int .i64 h.grace)).set_ 2 (.slice X2 h.clocks.length d2)).set_ 3 (.slice X3 h.tickets.length d3)).set_ 4 (.slice X4 h.clips.length d4)
              rw [← hW5] at hB5
              have hk5 : KeepX b1 wr W5 := by
                rw [hW5]
                exact ((((KeepX.set_ _ _ _).trans (KeepX.set_ _ _ _)).trans (KeepX.set_ _ _ _)).trans (KeepX.set_ _ _ _)).trans (KeepX.set_ _ _ _)
              clear hW5
              have c0 := hB5.cell 0
              have c1 := hB5.cell 1
              have c2 := hB5.cell 2
              have c3 := hB5.cell 3
              have c4 := hB5.cell 4
              simp at c0 c1 c2 c3 c4
              have hlow : Below w.heap.size w wr := hkx1.low hb1 (by have := HB2.out; omega) hb1.size
              have hg1 := HB1.out
              have hg2 := HS1.out
              refine bodyPost_ret (v := .agg #[.int .i64 h.hour, .int .i64 h.grace, .slice X2 h.clocks.length d2, .slice X3 h.tickets.length d3, .slice X4 h.clips.length d4]) ?hr rfl
                ⟨_, rfl, later_ex (hk5.low hlow (by omega) hlow.size), X2, d2, X3, d3, X4, d4, rfl, hk5.sl s2 (fun _ a ha => by have := hlow2 a ha; omega), hk5.sl s3 (fun _ a ha => by have := hlow3 a ha; have := hk12.size; omega), hk5.sl hsl4 (fun _ a ha => by have := hlow4 a ha; have := hk13.size; omega)⟩
              case hr => simp [results, Try.results25, go_sem, c0, c1, c2, c3, c4]
end Go.Proofs.Ytcngnfnljkkjgaa
