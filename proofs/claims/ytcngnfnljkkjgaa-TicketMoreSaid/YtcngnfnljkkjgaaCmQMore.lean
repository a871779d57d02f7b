/-
TicketMore: the walk.
-/
import Derived.Test.YtcngnfnljkkjgaaCmC2
import Derived.Test.YtcngnfnljkkjgaaCmX
import Derived.Test.YtcngnfnljkkjgaaCmS4
import Derived.Test.YtcngnfnljkkjgaaCmY
import Derived.Test.YtcngnfnljkkjgaaCmQFirst
import Derived.Deep.Cut
namespace Go.Proofs.Ytcngnfnljkkjgaa
open Go.RowKit
attribute [local go_sem] cell_later frozen_later lt_later le_later

theorem news_blk {w : World} {b : Nat} {t : TypeId} {cs : List Value} (h : BlkAt w b t cs) : ∀ (j : Nat) (u : Value), cs[j]? = some u → w.cell? ((⟨b, 0, none⟩ : Addr).add j) = some u := by
  intro j u hu
  have : ((⟨b, 0, none⟩ : Addr).add j) = ⟨b, j, none⟩ := by
    unfold Addr.add
    split
    · next hh => rw [hh]
    · simp
  rw [this, h.cell]
  exact hu

set_option maxRecDepth 100000 in
set_option maxHeartbeats 8000000 in
theorem lawmore_calls (v : Value) (h : Hs) (mc : Cp) (w : World) (H : HsAt w v h) (hbd : h.clips.length * 24 + 24 ≤ 140737488355328) :
    Calls Try.prog 12 #[v, .agg #[.int .i64 mc.tk, .int .i64 mc.ck, .int .i64 mc.mn]] w (Ret (.bool true) w) := by
  have H0 := H
  obtain ⟨A2, c2, A3, c3, A4, c4, rfl, H2, H3, H4⟩ := H
  obtain ⟨k0, hk, hx0, hx1, hx2⟩ := info_parts infoRClip
  obtain ⟨W1, hW1⟩ : ∃ W1, W1 = (w.alloc (.cells #[.int .i64 h.hour, .int .i64 h.grace, .slice A2 h.clocks.length c2, .slice A3 h.tickets.length c3, .slice A4 h.clips.length c4] 26)).alloc (.cells #[.int .i64 mc.tk, .int .i64 mc.ck, .int .i64 mc.mn] 74) := ⟨_, rfl⟩
  have hb1 : Below w.heap.size w W1 := by rw [hW1]; exact gA (gA (Below.refl _ _))
  have hs1 : W1.heap.size = w.heap.size + 2 := by rw [hW1]; simp
  have hB : BlkAt W1 w.heap.size 26 [.int .i64 h.hour, .int .i64 h.grace, .slice A2 h.clocks.length c2, .slice A3 h.tickets.length c3, .slice A4 h.clips.length c4] := by rw [hW1]; exact (BlkAt.new _ _ _).alloc _
  have hBm : BlkAt W1 (w.heap.size + 1) 74 [.int .i64 mc.tk, .int .i64 mc.ck, .int .i64 mc.mn] := by rw [hW1]; exact blk_new1 _ _ _ _
  have H1 := H0.below hb1
  have q0 := hB.cell 0
  have q1 := hB.cell 1
  have q2 := hB.cell 2
  have q3 := hB.cell 3
  have q4 := hB.cell 4
  have m0 := hBm.cell 0
  have m1 := hBm.cell 1
  have m2 := hBm.cell 2
  simp only [List.getElem?_cons_zero, List.getElem?_cons_succ] at q0 q1 q2 q3 q4 m0 m1 m2
  have hBl := hB.lt
  have hBml := hBm.lt
  go_enter Try.func12, Try.ntmps12
  go_upto_region 1 with (fail)
  rw [← hW1]
  clear hW1
  obtain ⟨bm, hbm⟩ : ∃ b, b = w.heap.size + 1 := ⟨_, rfl⟩
  rw [← hbm] at m0 m1 m2 hBml hBm ⊢
  clear hbm
  go_upto_region 2 with (fail)
  obtain ⟨bx, hbx⟩ : ∃ b, b = w.heap.size + 2 := ⟨_, rfl⟩
  have hbx1 : bx = W1.heap.size := by omega
  rw [← hbx]
  have hX : BlkAt (W1.alloc (.cells #[.int .i64 h.hour, .int .i64 h.grace, .slice A2 h.clocks.length c2, .slice A3 h.tickets.length c3, .slice A4 h.clips.length c4] 26)) bx 26 [.int .i64 h.hour, .int .i64 h.grace, .slice A2 h.clocks.length c2, .slice A3 h.tickets.length c3, .slice A4 h.clips.length c4] := by rw [hbx1]; exact BlkAt.new _ _ _
  obtain ⟨W2, hW2⟩ : ∃ X, X = W1.alloc (.cells #[.int .i64 h.hour, .int .i64 h.grace, .slice A2 h.clocks.length c2, .slice A3 h.tickets.length c3, .slice A4 h.clips.length c4] 26) := ⟨_, rfl⟩
  have hb12 : Below W1.heap.size W1 W2 := by rw [hW2]; exact gA (Below.refl _ _)
  rw [← hW2] at hX ⊢
  clear hW2
  have HB12 := Lib.hid hb12
  have HBX := Lib.hid hX
  have HBXG := Lib.hid (show W1.heap.size ≤ bx by omega)
  have H42 := (H4.below hb1).below hb12
  have r4 := (hb12.cell (p := ⟨w.heap.size, 4, none⟩) hBl).trans q4
  have n0 := (hb12.cell (p := ⟨bm, 0, none⟩) hBml).trans m0
  have n1 := (hb12.cell (p := ⟨bm, 1, none⟩) hBml).trans m1
  have n2 := (hb12.cell (p := ⟨bm, 2, none⟩) hBml).trans m2
  have l1 := Nat.lt_of_lt_of_le hBl hb12.size
  have l2 := Nat.lt_of_lt_of_le hBml hb12.size
  clear hb12 hX hbx hbx1
  go_cut [] from 21 (fun wr => ∃ A cx, Below W1.heap.size W1 wr ∧ BlkAt wr bx 26 [.int .i64 h.hour, .int .i64 h.grace, .slice A2 h.clocks.length c2, .slice A3 h.tickets.length c3, .slice A (h.clips ++ [mc]).length cx] ∧ SlA wr 3 gC A cx (h.clips ++ [mc]))
  case first =>
    obtain ⟨C, hC⟩ : ∃ C, C = Same [⟨w.heap.size, 4, none⟩, ⟨bm, 0, none⟩, ⟨bm, 1, none⟩, ⟨bm, 2, none⟩] W2 := ⟨_, rfl⟩
    obtain ⟨G, hG⟩ : ∃ G, G = held C W2.drew := ⟨_, rfl⟩
    have hfs : ∀ a ∈ ([⟨w.heap.size, 4, none⟩, ⟨bm, 0, none⟩, ⟨bm, 1, none⟩, ⟨bm, 2, none⟩] : List Addr), ∀ u, W2.cell? a = some u → ∀ x, (G x).cell? a = some u := fun a ha u hu x => by
      rw [hG, hC]
      exact same_held hu ha x
    have f0 := hfs _ (by simp) _ r4
    have f1 := hfs _ (by simp) _ n0
    have f2 := hfs _ (by simp) _ n1
    have f3 := hfs _ (by simp) _ n2
    clear hfs
    have HCB : Hid (∀ V, Below W2.heap.size W2 V → C V) := Lib.hid fun V hV => by
      rw [hC]
      exact same_below hV (by simp only [List.mem_cons, List.not_mem_nil, or_false]; rintro a (rfl | rfl | rfl | rfl) <;> assumption)
    refine region_sk4 C [[], [], [1], [0, 2], [], [4], [3, 5, 3], [0, 1, 2, 3, 4, 5, 6], [7, 6, 6, 0, 1, 2, 3, 4, 5, 6]] (.qs [1, 2, 4] (.two 0 (.two 3 (.one 5 (.one 6 (.one 7 .done))) 5 (.one 3 (.one 6 (.one 7 .done)))) 5 (.one 0 (.one 3 (.one 6 (.one 7 .done)))))) 8 (by kernel_rfl) (by kernel_rfl) (by kernel_rfl) (by rw [hC]; exact same_drew) ?_
    refine wpSk4_qs (w0 := W2.drew) (by rw [hC]; exact same_drew) ?_
    rw [← hG]
    clear hG hC
    simp only [List.filterMap_cons, List.filterMap_nil, List.getElem?_toArray, List.getElem?_cons_zero, List.getElem?_cons_succ]
    change wpQuiet _ _ _ _ [_, _, _] _
    repeat (go_big_quiet_step (fail))
    refine wpQuiet_nil ?_
    clear f0 f1 f2 f3
    obtain ⟨V, hV, hbV⟩ : ∃ V, V = W2.drew ∧ Below W2.heap.size W2 V := ⟨_, rfl, gD (Below.refl _ _)⟩
    rw [← hV]
    clear hV
    refine wpSk4_two rfl rfl (fun K hK => ?_) (fun K hK => ?_)
    · go_simp
      obtain ⟨V1, hV⟩ : ∃ X, X = V.alloc (.cells #[] 74) := ⟨_, rfl⟩
      obtain ⟨gg, hgg⟩ : ∃ b, b = V.heap.size := ⟨_, rfl⟩
      have hbV1 : Below W2.heap.size W2 V1 := by rw [hV]; exact gA hbV
      have hE : BlkAt V1 gg 74 [] := by rw [hV, hgg]; exact BlkAt.new _ _ _
      have hge : W2.heap.size ≤ gg := by rw [hgg]; exact hbV.size
      have hal : ∀ b t cs, BlkAt V b t cs → BlkAt V1 b t cs ∧ b ≠ gg := fun b t cs hB => ⟨by rw [hV]; exact hB.alloc _, by have := hB.lt; omega⟩
      rw [← hV, ← hgg]
      clear hV hgg
      refine hK.out _ _ (HCB.out _ hbV1) ?_
      clear hK K
      clear hal
      refine wpSk4_two rfl rfl (fun K hK => ?_) (fun K hK => ?_)
      · rw [if_pos (by rfl)]
        refine wp_append_copy2 _ _ 24 rfl W2.heap.size 74 k0 (.agg #[.int .i64 0, .int .i64 0, .int .i64 0]) 3 24 Try.underlying24 hk hx0 hx1 hx2 rfl (by decide) gg rfl hE hge rfl (H42.below hbV1) (fun _ _ => rfl) ?c1 ?c3 ?c4 ?c5 ?_
        case c1 =>
          intro y _ u hu
          simp only [gC, List.mem_cons, List.not_mem_nil, or_false] at hu
          rcases hu with rfl | rfl | rfl <;> rfl
        case c3 => unfold maxLen; omega
        case c4 => omega
        case c5 => exact hbV1.size
        intro gx cx V2 hgx hlx hO hgr
        have hbV2 : Below W2.heap.size W2 V2 := hbV1.grown hgr hbV1.size (fun j hj => by have := Option.some.inj hj; omega)
        simp only [Act.put, List.setIfInBounds_toArray]
        refine hK.out _ _ (HCB.out _ hbV2) ?_
        clear hK K
        refine wpSk4_one rfl (fun K hK => ?_)
        go_simp
        obtain ⟨V3, hV⟩ : ∃ X, X = V2.alloc (.cells #[.int .i64 mc.tk, .int .i64 mc.ck, .int .i64 mc.mn] 74) := ⟨_, rfl⟩
        obtain ⟨bs, hbs⟩ : ∃ b, b = V2.heap.size := ⟨_, rfl⟩
        have hbV3 : Below W2.heap.size W2 V3 := by rw [hV]; exact gA hbV2
        have hN : BlkAt V3 bs 74 [.int .i64 mc.tk, .int .i64 mc.ck, .int .i64 mc.mn] := by rw [hV, hbs]; exact BlkAt.new _ _ _
        have hal : ∀ b t cs, BlkAt V2 b t cs → BlkAt V3 b t cs ∧ bs ≠ b := fun b t cs hB => ⟨by rw [hV]; exact hB.alloc _, by have := hB.lt; omega⟩
        have hol : ∀ v n xs, V2.ownsRow W2.heap.size 74 3 v n xs → V3.ownsRow W2.heap.size 74 3 v n xs := fun v n xs hB => by rw [hV]; exact hB.alloc _
        rw [← hV, ← hbs]
        clear hV hbs
        refine hK.out _ _ (HCB.out _ hbV3) ?_
        clear hK K
        replace hO := hol _ _ _ hO
        refine wpSk4_one rfl (fun K hK => ?_)
        rw [if_pos (by rfl)]
        refine wp_append_own _ _ 24 rfl W2.heap.size 74 k0 (.agg #[.int .i64 0, .int .i64 0, .int .i64 0]) 3 24 Try.underlying24 hk hx0 hx1 hx2 rfl (by decide) _ _ _ rfl hO ⟨bs, 0, none⟩ 1 1 (gC mc) rfl rfl (news_blk hN) ?c2 ?c3 ?c4 ?c5 ?_
        case c2 => simp [gC, Value.oneCell']
        case c3 => unfold maxLen; omega
        case c4 => omega
        case c5 => exact hbV3.size
        intro v' V4 hO2 hgr2 _
        obtain ⟨Av, cv, rfl⟩ : ∃ A c, v' = .slice A (h.clips.length + 1) c := by
          rcases hO2.2 with ⟨-, h0⟩ | ⟨_, _, _, e, -⟩
          · omega
          · exact ⟨_, _, e⟩
        have hbV4 : Below W2.heap.size W2 V4 := hbV3.grown hgr2 hbV3.size (fun j hj => (hO.lt j hj).1)
        simp only [Act.put, List.setIfInBounds_toArray]
        refine hK.out _ _ (HCB.out _ hbV4) ?_
        clear hK K
        have hX7 := HBX.out.of_below hbV4 HBX.out.lt
        have hz7 := hX7.frozen 4
        have hl7 := hX7.lt
        have hc7 := hX7.cell 4
        simp only [List.getElem?_cons_zero, List.getElem?_cons_succ] at hc7
        refine wpSk4_one rfl (fun K hK => ?_)
        go_simp
        refine hK.out _ _ (HCB.out _ hbV4) ?_
        clear hK K
        refine wpSk4_done rfl (fun K hK => ?_)
        go_simp
        refine hK.out _ _ (noPanic_mk ?_)
        clear hK K
        go_wp2
        go_meet
        case rel =>
          have hO3 := own_set' hO2 HBX.out.lt (i := 4) (u := .slice Av (h.clips.length + 1) cv)
          rw [show h.clips.flatMap gC ++ gC mc = (h.clips ++ [mc]).flatMap gC by simp] at hO3
          obtain ⟨X4, d4, hv, hsl4⟩ := SlA.of_own (k := 3) (g := gC) (l := h.clips ++ [mc]) hO3 (fun _ _ => rfl) (by simp) (by omega)
          refine ⟨X4, d4, gS (HB12.out.trans (hbV4.mono HB12.out.size)) HBXG.out, ?_, hsl4⟩
          rw [← hv]
          exact hX7.set_ 4 _
      · go_simp
        obtain ⟨V2, hV⟩ : ∃ X, X = V1.alloc (.cells #[.int .i64 mc.tk, .int .i64 mc.ck, .int .i64 mc.mn] 74) := ⟨_, rfl⟩
        obtain ⟨bs, hbs⟩ : ∃ b, b = V1.heap.size := ⟨_, rfl⟩
        have hbV2 : Below W2.heap.size W2 V2 := by rw [hV]; exact gA hbV1
        have hN : BlkAt V2 bs 74 [.int .i64 mc.tk, .int .i64 mc.ck, .int .i64 mc.mn] := by rw [hV, hbs]; exact BlkAt.new _ _ _
        have hal : ∀ b t cs, BlkAt V1 b t cs → BlkAt V2 b t cs ∧ bs ≠ b := fun b t cs hB => ⟨by rw [hV]; exact hB.alloc _, by have := hB.lt; omega⟩
        have hol : ∀ v n xs, V1.ownsRow W2.heap.size 74 3 v n xs → V2.ownsRow W2.heap.size 74 3 v n xs := fun v n xs hB => by rw [hV]; exact hB.alloc _
        rw [← hV, ← hbs]
        clear hV hbs
        refine hK.out _ _ (HCB.out _ hbV2) ?_
        clear hK K
        obtain ⟨hE, hne⟩ := hal _ _ _ hE
        refine wpSk4_one rfl (fun K hK => ?_)
        rw [if_pos (by rfl)]
        refine wp_append_copy2 _ _ 24 rfl W2.heap.size 74 k0 (.agg #[.int .i64 0, .int .i64 0, .int .i64 0]) 3 24 Try.underlying24 hk hx0 hx1 hx2 rfl (by decide) gg rfl hE hge rfl (H42.below hbV2) (fun _ _ => rfl) ?c1 ?c3 ?c4 ?c5 ?_
        case c1 =>
          intro y _ u hu
          simp only [gC, List.mem_cons, List.not_mem_nil, or_false] at hu
          rcases hu with rfl | rfl | rfl <;> rfl
        case c3 => unfold maxLen; omega
        case c4 => omega
        case c5 => exact hbV2.size
        intro gx cx V3 hgx hlx hO hgr
        have hbV3 : Below W2.heap.size W2 V3 := hbV2.grown hgr hbV2.size (fun j hj => by have := Option.some.inj hj; omega)
        simp only [Act.put]
        refine hK.out _ _ (HCB.out _ hbV3) ?_
        clear hK K
        replace hN : BlkAt V3 bs 74 [.int .i64 mc.tk, .int .i64 mc.ck, .int .i64 mc.mn] := (hgr.block bs hN.lt (fun e => hne (Option.some.inj e))).trans hN
        refine wpSk4_one rfl (fun K hK => ?_)
        rw [if_pos (by rfl)]
        refine wp_append_own _ _ 24 rfl W2.heap.size 74 k0 (.agg #[.int .i64 0, .int .i64 0, .int .i64 0]) 3 24 Try.underlying24 hk hx0 hx1 hx2 rfl (by decide) _ _ _ rfl hO ⟨bs, 0, none⟩ 1 1 (gC mc) rfl rfl (news_blk hN) ?c2 ?c3 ?c4 ?c5 ?_
        case c2 => simp [gC, Value.oneCell']
        case c3 => unfold maxLen; omega
        case c4 => omega
        case c5 => exact hbV3.size
        intro v' V4 hO2 hgr2 _
        obtain ⟨Av, cv, rfl⟩ : ∃ A c, v' = .slice A (h.clips.length + 1) c := by
          rcases hO2.2 with ⟨-, h0⟩ | ⟨_, _, _, e, -⟩
          · omega
          · exact ⟨_, _, e⟩
        have hbV4 : Below W2.heap.size W2 V4 := hbV3.grown hgr2 hbV3.size (fun j hj => (hO.lt j hj).1)
        simp only [Act.put, List.setIfInBounds_toArray]
        refine hK.out _ _ (HCB.out _ hbV4) ?_
        clear hK K
        have hX7 := HBX.out.of_below hbV4 HBX.out.lt
        have hz7 := hX7.frozen 4
        have hl7 := hX7.lt
        have hc7 := hX7.cell 4
        simp only [List.getElem?_cons_zero, List.getElem?_cons_succ] at hc7
        refine wpSk4_one rfl (fun K hK => ?_)
        go_simp
        refine hK.out _ _ (HCB.out _ hbV4) ?_
        clear hK K
        refine wpSk4_done rfl (fun K hK => ?_)
        go_simp
        refine hK.out _ _ (noPanic_mk ?_)
        clear hK K
        go_wp2
        go_meet
        case rel =>
          have hO3 := own_set' hO2 HBX.out.lt (i := 4) (u := .slice Av (h.clips.length + 1) cv)
          rw [show h.clips.flatMap gC ++ gC mc = (h.clips ++ [mc]).flatMap gC by simp] at hO3
          obtain ⟨X4, d4, hv, hsl4⟩ := SlA.of_own (k := 3) (g := gC) (l := h.clips ++ [mc]) hO3 (fun _ _ => rfl) (by simp) (by omega)
          refine ⟨X4, d4, gS (HB12.out.trans (hbV4.mono HB12.out.size)) HBXG.out, ?_, hsl4⟩
          rw [← hv]
          exact hX7.set_ 4 _
    · go_simp
      obtain ⟨V1, hV⟩ : ∃ X, X = V.alloc (.cells #[.int .i64 mc.tk, .int .i64 mc.ck, .int .i64 mc.mn] 74) := ⟨_, rfl⟩
      obtain ⟨bs, hbs⟩ : ∃ b, b = V.heap.size := ⟨_, rfl⟩
      have hbV1 : Below W2.heap.size W2 V1 := by rw [hV]; exact gA hbV
      have hN : BlkAt V1 bs 74 [.int .i64 mc.tk, .int .i64 mc.ck, .int .i64 mc.mn] := by rw [hV, hbs]; exact BlkAt.new _ _ _
      have hal : ∀ b t cs, BlkAt V b t cs → BlkAt V1 b t cs ∧ bs ≠ b := fun b t cs hB => ⟨by rw [hV]; exact hB.alloc _, by have := hB.lt; omega⟩
      have hol : ∀ v n xs, V.ownsRow W2.heap.size 74 3 v n xs → V1.ownsRow W2.heap.size 74 3 v n xs := fun v n xs hB => by rw [hV]; exact hB.alloc _
      rw [← hV, ← hbs]
      clear hV hbs
      refine hK.out _ _ (HCB.out _ hbV1) ?_
      clear hK K
      clear hal hol
      refine wpSk4_one rfl (fun K hK => ?_)
      go_simp
      obtain ⟨V2, hV⟩ : ∃ X, X = V1.alloc (.cells #[] 74) := ⟨_, rfl⟩
      obtain ⟨gg, hgg⟩ : ∃ b, b = V1.heap.size := ⟨_, rfl⟩
      have hbV2 : Below W2.heap.size W2 V2 := by rw [hV]; exact gA hbV1
      have hE : BlkAt V2 gg 74 [] := by rw [hV, hgg]; exact BlkAt.new _ _ _
      have hge : W2.heap.size ≤ gg := by rw [hgg]; exact hbV1.size
      have hal : ∀ b t cs, BlkAt V1 b t cs → BlkAt V2 b t cs ∧ b ≠ gg := fun b t cs hB => ⟨by rw [hV]; exact hB.alloc _, by have := hB.lt; omega⟩
      rw [← hV, ← hgg]
      clear hV hgg
      refine hK.out _ _ (HCB.out _ hbV2) ?_
      clear hK K
      obtain ⟨hN, hne⟩ := hal _ _ _ hN
      refine wpSk4_one rfl (fun K hK => ?_)
      rw [if_pos (by rfl)]
      refine wp_append_copy2 _ _ 24 rfl W2.heap.size 74 k0 (.agg #[.int .i64 0, .int .i64 0, .int .i64 0]) 3 24 Try.underlying24 hk hx0 hx1 hx2 rfl (by decide) gg rfl hE hge rfl (H42.below hbV2) (fun _ _ => rfl) ?c1 ?c3 ?c4 ?c5 ?_
      case c1 =>
        intro y _ u hu
        simp only [gC, List.mem_cons, List.not_mem_nil, or_false] at hu
        rcases hu with rfl | rfl | rfl <;> rfl
      case c3 => unfold maxLen; omega
      case c4 => omega
      case c5 => exact hbV2.size
      intro gx cx V3 hgx hlx hO hgr
      have hbV3 : Below W2.heap.size W2 V3 := hbV2.grown hgr hbV2.size (fun j hj => by have := Option.some.inj hj; omega)
      simp only [Act.put]
      refine hK.out _ _ (HCB.out _ hbV3) ?_
      clear hK K
      replace hN : BlkAt V3 bs 74 [.int .i64 mc.tk, .int .i64 mc.ck, .int .i64 mc.mn] := (hgr.block bs hN.lt (fun e => hne (Option.some.inj e))).trans hN
      refine wpSk4_one rfl (fun K hK => ?_)
      rw [if_pos (by rfl)]
      refine wp_append_own _ _ 24 rfl W2.heap.size 74 k0 (.agg #[.int .i64 0, .int .i64 0, .int .i64 0]) 3 24 Try.underlying24 hk hx0 hx1 hx2 rfl (by decide) _ _ _ rfl hO ⟨bs, 0, none⟩ 1 1 (gC mc) rfl rfl (news_blk hN) ?c2 ?c3 ?c4 ?c5 ?_
      case c2 => simp [gC, Value.oneCell']
      case c3 => unfold maxLen; omega
      case c4 => omega
      case c5 => exact hbV3.size
      intro v' V4 hO2 hgr2 _
      obtain ⟨Av, cv, rfl⟩ : ∃ A c, v' = .slice A (h.clips.length + 1) c := by
        rcases hO2.2 with ⟨-, h0⟩ | ⟨_, _, _, e, -⟩
        · omega
        · exact ⟨_, _, e⟩
      have hbV4 : Below W2.heap.size W2 V4 := hbV3.grown hgr2 hbV3.size (fun j hj => (hO.lt j hj).1)
      simp only [Act.put, List.setIfInBounds_toArray]
      refine hK.out _ _ (HCB.out _ hbV4) ?_
      clear hK K
      have hX7 := HBX.out.of_below hbV4 HBX.out.lt
      have hz7 := hX7.frozen 4
      have hl7 := hX7.lt
      have hc7 := hX7.cell 4
      simp only [List.getElem?_cons_zero, List.getElem?_cons_succ] at hc7
      refine wpSk4_one rfl (fun K hK => ?_)
      go_simp
      refine hK.out _ _ (HCB.out _ hbV4) ?_
      clear hK K
      refine wpSk4_done rfl (fun K hK => ?_)
      go_simp
      refine hK.out _ _ (noPanic_mk ?_)
      clear hK K
      go_wp2
      go_meet
      case rel =>
        have hO3 := own_set' hO2 HBX.out.lt (i := 4) (u := .slice Av (h.clips.length + 1) cv)
        rw [show h.clips.flatMap gC ++ gC mc = (h.clips ++ [mc]).flatMap gC by simp] at hO3
        obtain ⟨X4, d4, hv, hsl4⟩ := SlA.of_own (k := 3) (g := gC) (l := h.clips ++ [mc]) hO3 (fun _ _ => rfl) (by simp) (by omega)
        refine ⟨X4, d4, gS (HB12.out.trans (hbV4.mono HB12.out.size)) HBXG.out, ?_, hsl4⟩
        rw [← hv]
        exact hX7.set_ 4 _
  case rest =>
    obtain ⟨A, cx, hbX, hXw, hS⟩ := hcut
    obtain ⟨x, hx⟩ : ∃ x, x = h.oneMore mc := ⟨_, rfl⟩
    have hbw := hb1.trans (hbX.mono hb1.size)
    have hB6 : BlkAt wc bx 26 [.int .i64 h.hour, .int .i64 h.grace, .slice A2 h.clocks.length c2, .slice A3 h.tickets.length c3, .slice A x.clips.length cx] := by rw [hx]; exact hXw
    have HX : HsAt wc (.agg #[.int .i64 h.hour, .int .i64 h.grace, .slice A2 h.clocks.length c2, .slice A3 h.tickets.length c3, .slice A x.clips.length cx]) x := by
      rw [hx]
      exact ⟨A2, c2, A3, c3, A, cx, rfl, H2.below hbw, H3.below hbw, hS⟩
    have x0 := hB6.cell 0
    have x1 := hB6.cell 1
    have x2 := hB6.cell 2
    have x3 := hB6.cell 3
    have x4 := hB6.cell 4
    have hxl := hB6.lt
    simp only [List.getElem?_cons_zero, List.getElem?_cons_succ] at x0 x1 x2 x3 x4
    replace H1 := H1.below hbX
    replace q0 := (hbX.cell (p := ⟨w.heap.size, 0, none⟩) hBl).trans q0
    replace q1 := (hbX.cell (p := ⟨w.heap.size, 1, none⟩) hBl).trans q1
    replace q2 := (hbX.cell (p := ⟨w.heap.size, 2, none⟩) hBl).trans q2
    replace q3 := (hbX.cell (p := ⟨w.heap.size, 3, none⟩) hBl).trans q3
    replace q4 := (hbX.cell (p := ⟨w.heap.size, 4, none⟩) hBl).trans q4
    replace hBl := Nat.lt_of_lt_of_le hBl hbX.size
    replace hb1 := hb1.trans (hbX.mono hb1.size)
    have hxc : x.clocks.length = h.clocks.length := by rw [hx]; rfl
    have HXC := Lib.hid hxc
    have HXD := Lib.hid hx
    clear hxc hx hB6 hXw hS hbX hbw hBm hB m0 m1 m2 r4 n0 n1 n2 l1 l2 HB12 HBX HBXG H42 hk hx0 hx1 hx2 hbd hBml
    go_wp2_with (fail)
    cases hr : h.readyB with
    | false =>
      have CR := ready_calls _ h wc H1
      rw [hr] at CR
      refine CR.mono ?_
      clear CR
      (rintro e w' hr; first | ((with_reducible replace hr := Ret.up hr); obtain ⟨rfl, z, rfl⟩ := hr) | (obtain ⟨rfl, z, rfl⟩ := hr))
      go_wp2_with (fail)
      refine (awake_calls _).mono ?_
      (rintro e w' hr; first | ((with_reducible replace hr := Ret.up hr); obtain ⟨rfl, z, rfl⟩ := hr) | (obtain ⟨rfl, z, rfl⟩ := hr))
      go_wp2
      go_ret
      exact ret_mk rfl (later_below hb1 hb1.size)
    | true =>
      obtain ⟨hl2, hl3, hl4, hf, hl10⟩ := ready_of hr
      have HF := Lib.hid hf
      have CR := ready_calls _ h wc H1
      rw [hr] at CR
      clear hr hf
      refine CR.mono ?_
      clear CR
      (rintro e w' hr; first | ((with_reducible replace hr := Ret.up hr); obtain ⟨rfl, z, rfl⟩ := hr) | (obtain ⟨rfl, z, rfl⟩ := hr))
      obtain ⟨W3, hWW3⟩ : ∃ X, X = later wc z := ⟨_, rfl⟩
      have hn : Below wc.heap.size wc W3 := by rw [hWW3]; exact below_later _ _
      rw [← hWW3] 
      clear hWW3
      replace H1 := H1.below hn
      replace q0 := (hn.cell (p := ⟨w.heap.size, 0, none⟩) hBl).trans q0
      replace q1 := (hn.cell (p := ⟨w.heap.size, 1, none⟩) hBl).trans q1
      replace q2 := (hn.cell (p := ⟨w.heap.size, 2, none⟩) hBl).trans q2
      replace q3 := (hn.cell (p := ⟨w.heap.size, 3, none⟩) hBl).trans q3
      replace q4 := (hn.cell (p := ⟨w.heap.size, 4, none⟩) hBl).trans q4
      replace hBl := Nat.lt_of_lt_of_le hBl hn.size
      replace hb1 := hb1.trans (hn.mono hb1.size)
      replace HX := HX.below hn
      replace x0 := (hn.cell (p := ⟨bx, 0, none⟩) hxl).trans x0
      replace x1 := (hn.cell (p := ⟨bx, 1, none⟩) hxl).trans x1
      replace x2 := (hn.cell (p := ⟨bx, 2, none⟩) hxl).trans x2
      replace x3 := (hn.cell (p := ⟨bx, 3, none⟩) hxl).trans x3
      replace x4 := (hn.cell (p := ⟨bx, 4, none⟩) hxl).trans x4
      replace hxl := Nat.lt_of_lt_of_le hxl hn.size
      clear hn
      go_wp2_with (fail)
      cases hxr : x.readyB with
      | false =>
        have CR := ready_calls _ x W3 HX
        rw [hxr] at CR
        refine CR.mono ?_
        clear CR
        (rintro e w' hr; first | ((with_reducible replace hr := Ret.up hr); obtain ⟨rfl, z, rfl⟩ := hr) | (obtain ⟨rfl, z, rfl⟩ := hr))
        go_wp2_with (fail)
        refine (awake_calls _).mono ?_
        (rintro e w' hr; first | ((with_reducible replace hr := Ret.up hr); obtain ⟨rfl, z, rfl⟩ := hr) | (obtain ⟨rfl, z, rfl⟩ := hr))
        go_wp2
        go_ret
        exact ret_mk rfl (later_below hb1 hb1.size)
      | true =>
        obtain ⟨hlx2, hlx3, hlx4, hfx, hlx10⟩ := ready_of hxr
        have HFX := Lib.hid hfx
        have CR := ready_calls _ x W3 HX
        rw [hxr] at CR
        clear hxr hfx
        refine CR.mono ?_
        clear CR
        (rintro e w' hr; first | ((with_reducible replace hr := Ret.up hr); obtain ⟨rfl, z, rfl⟩ := hr) | (obtain ⟨rfl, z, rfl⟩ := hr))
        obtain ⟨W4, hWW4⟩ : ∃ X, X = later W3 z := ⟨_, rfl⟩
        have hn : Below W3.heap.size W3 W4 := by rw [hWW4]; exact below_later _ _
        rw [← hWW4] 
        clear hWW4
        replace H1 := H1.below hn
        replace q0 := (hn.cell (p := ⟨w.heap.size, 0, none⟩) hBl).trans q0
        replace q1 := (hn.cell (p := ⟨w.heap.size, 1, none⟩) hBl).trans q1
        replace q2 := (hn.cell (p := ⟨w.heap.size, 2, none⟩) hBl).trans q2
        replace q3 := (hn.cell (p := ⟨w.heap.size, 3, none⟩) hBl).trans q3
        replace q4 := (hn.cell (p := ⟨w.heap.size, 4, none⟩) hBl).trans q4
        replace hBl := Nat.lt_of_lt_of_le hBl hn.size
        replace hb1 := hb1.trans (hn.mono hb1.size)
        replace HX := HX.below hn
        replace x0 := (hn.cell (p := ⟨bx, 0, none⟩) hxl).trans x0
        replace x1 := (hn.cell (p := ⟨bx, 1, none⟩) hxl).trans x1
        replace x2 := (hn.cell (p := ⟨bx, 2, none⟩) hxl).trans x2
        replace x3 := (hn.cell (p := ⟨bx, 3, none⟩) hxl).trans x3
        replace x4 := (hn.cell (p := ⟨bx, 4, none⟩) hxl).trans x4
        replace hxl := Nat.lt_of_lt_of_le hxl hn.size
        clear hn
        have hle : h.leaveL.length ≤ x.leaveL.length ∧ x.leaveL.length ≤ h.leaveL.length + 1 := by
          have := HFX.out
          rw [HXD.out] at this ⊢
          exact more_leave HF.out this
        by_cases hn : x.leaveL = []
        · have hhn : h.leaveL = [] := by
            rw [hn, List.length_nil] at hle
            exact List.eq_nil_of_length_eq_zero (by omega)
          have HLL := Lib.hid hhn
          have HLX := Lib.hid hn
          have hwa := HFX.out
          have hwn := hn
          rw [HXD.out] at hwa hwn
          obtain ⟨e1, e2, e3, e4, e5, e6⟩ := more_at HF.out hwa hwn
          rw [← HXD.out] at e2 e4 e5 e6
          have HA := Lib.hid e1
          have HAX := Lib.hid e2
          have HLA := Lib.hid (cl_len e1)
          have HLB := Lib.hid ((cl_len e2).trans HXC.out)
          obtain ⟨L1, hL1⟩ : ∃ p, p = h.lookV.1 := ⟨_, rfl⟩
          obtain ⟨L2, hL2⟩ : ∃ p, p = h.lookV.2 := ⟨_, rfl⟩
          obtain ⟨X1, hX1⟩ : ∃ p, p = x.lookV.1 := ⟨_, rfl⟩
          obtain ⟨X2, hX2⟩ : ∃ p, p = x.lookV.2 := ⟨_, rfl⟩
          rw [← hL2, ← hX2] at e5
          have HL1 := Lib.hid hL1
          have HL2 := Lib.hid hL2
          have HX1 := Lib.hid hX1
          have HX2 := Lib.hid hX2
          have HE3 := Lib.hid e3
          have HE4 := Lib.hid e4
          have HE6 := Lib.hid e6
          clear hn hhn hwa hwn e1 e2 e3 e4 e6 hL1 hL2 hX1 hX2 hle
          go_wp2_with (fail)
          refine (house_calls _ h _ (by first | with_reducible exact H1 | exact H1.below (below_later _ _)) hl2 hl3 hl4).mono ?_
          (rintro e w' hr; first | ((with_reducible replace hr := RetHs.up hr); obtain ⟨v, rfl, ⟨z, rfl⟩, HH⟩ := hr) | (obtain ⟨v, rfl, ⟨z, rfl⟩, HH⟩ := hr))
          go_wp2_with (fail)
          have CA := leave_calls v h _ HH
          rw [HF.out, HLL.out] at CA
          refine CA.mono ?_
          clear CA HH
          (rintro e w' hr; first | ((with_reducible replace hr := RetSlN.up hr); obtain ⟨A10, c10, rfl, ⟨z, rfl⟩, hsl⟩ := hr) | (obtain ⟨A10, c10, rfl, ⟨z, rfl⟩, hsl⟩ := hr))
          clear hsl
          simp only [List.length_nil]
          go_wp2_with (fail)
          refine (house_calls _ x _ (by first | with_reducible exact HX | exact HX.below (below_later _ _)) hlx2 hlx3 hlx4).mono ?_
          (rintro e w' hr; first | ((with_reducible replace hr := RetHs.up hr); obtain ⟨v, rfl, ⟨z, rfl⟩, HH⟩ := hr) | (obtain ⟨v, rfl, ⟨z, rfl⟩, HH⟩ := hr))
          go_wp2_with (fail)
          have CA := leave_calls v x _ HH
          rw [HFX.out, HLX.out] at CA
          refine CA.mono ?_
          clear CA HH
          (rintro e w' hr; first | ((with_reducible replace hr := RetSlN.up hr); obtain ⟨A11, c11, rfl, ⟨z, rfl⟩, hsl⟩ := hr) | (obtain ⟨A11, c11, rfl, ⟨z, rfl⟩, hsl⟩ := hr))
          clear hsl
          simp only [List.length_nil]
          go_wp2_with (fail)
          refine (house_calls _ h _ (by first | with_reducible exact H1 | exact H1.below (below_later _ _)) hl2 hl3 hl4).mono ?_
          (rintro e w' hr; first | ((with_reducible replace hr := RetHs.up hr); obtain ⟨v, rfl, ⟨z, rfl⟩, HH⟩ := hr) | (obtain ⟨v, rfl, ⟨z, rfl⟩, HH⟩ := hr))
          go_wp2_with (fail)
          have CA := clocks_calls v h _ HH
          rw [HA.out] at CA
          refine CA.mono ?_
          clear CA HH
          (rintro e w' hr; first | ((with_reducible replace hr := RetSlN.up hr); obtain ⟨A12, c12, rfl, ⟨z, rfl⟩, hsl⟩ := hr) | (obtain ⟨A12, c12, rfl, ⟨z, rfl⟩, hsl⟩ := hr))
          rw [HLA.out]
          obtain ⟨W5, hWW5⟩ : ∃ X, X = later W4 z := ⟨_, rfl⟩
          have hn : Below W4.heap.size W4 W5 := by rw [hWW5]; exact below_later _ _
          rw [← hWW5] at hsl ⊢
          clear hWW5
          replace H1 := H1.below hn
          replace q0 := (hn.cell (p := ⟨w.heap.size, 0, none⟩) hBl).trans q0
          replace q1 := (hn.cell (p := ⟨w.heap.size, 1, none⟩) hBl).trans q1
          replace q2 := (hn.cell (p := ⟨w.heap.size, 2, none⟩) hBl).trans q2
          replace q3 := (hn.cell (p := ⟨w.heap.size, 3, none⟩) hBl).trans q3
          replace q4 := (hn.cell (p := ⟨w.heap.size, 4, none⟩) hBl).trans q4
          replace hBl := Nat.lt_of_lt_of_le hBl hn.size
          replace hb1 := hb1.trans (hn.mono hb1.size)
          replace HX := HX.below hn
          replace x0 := (hn.cell (p := ⟨bx, 0, none⟩) hxl).trans x0
          replace x1 := (hn.cell (p := ⟨bx, 1, none⟩) hxl).trans x1
          replace x2 := (hn.cell (p := ⟨bx, 2, none⟩) hxl).trans x2
          replace x3 := (hn.cell (p := ⟨bx, 3, none⟩) hxl).trans x3
          replace x4 := (hn.cell (p := ⟨bx, 4, none⟩) hxl).trans x4
          replace hxl := Nat.lt_of_lt_of_le hxl hn.size
          have HS1 := Lib.hid hsl
          clear hn hsl
          go_wp2_with (fail)
          refine (house_calls _ x _ (by first | with_reducible exact HX | exact HX.below (below_later _ _)) hlx2 hlx3 hlx4).mono ?_
          (rintro e w' hr; first | ((with_reducible replace hr := RetHs.up hr); obtain ⟨v, rfl, ⟨z, rfl⟩, HH⟩ := hr) | (obtain ⟨v, rfl, ⟨z, rfl⟩, HH⟩ := hr))
          go_wp2_with (fail)
          have CA := clocks_calls v x _ HH
          rw [HAX.out] at CA
          refine CA.mono ?_
          clear CA HH
          (rintro e w' hr; first | ((with_reducible replace hr := RetSlN.up hr); obtain ⟨A13, c13, rfl, ⟨z, rfl⟩, hsl⟩ := hr) | (obtain ⟨A13, c13, rfl, ⟨z, rfl⟩, hsl⟩ := hr))
          rw [HLB.out]
          obtain ⟨W6, hWW6⟩ : ∃ X, X = later W5 z := ⟨_, rfl⟩
          have hn : Below W5.heap.size W5 W6 := by rw [hWW6]; exact below_later _ _
          rw [← hWW6] at hsl ⊢
          clear hWW6
          replace H1 := H1.below hn
          replace q0 := (hn.cell (p := ⟨w.heap.size, 0, none⟩) hBl).trans q0
          replace q1 := (hn.cell (p := ⟨w.heap.size, 1, none⟩) hBl).trans q1
          replace q2 := (hn.cell (p := ⟨w.heap.size, 2, none⟩) hBl).trans q2
          replace q3 := (hn.cell (p := ⟨w.heap.size, 3, none⟩) hBl).trans q3
          replace q4 := (hn.cell (p := ⟨w.heap.size, 4, none⟩) hBl).trans q4
          replace hBl := Nat.lt_of_lt_of_le hBl hn.size
          replace hb1 := hb1.trans (hn.mono hb1.size)
          replace HX := HX.below hn
          replace x0 := (hn.cell (p := ⟨bx, 0, none⟩) hxl).trans x0
          replace x1 := (hn.cell (p := ⟨bx, 1, none⟩) hxl).trans x1
          replace x2 := (hn.cell (p := ⟨bx, 2, none⟩) hxl).trans x2
          replace x3 := (hn.cell (p := ⟨bx, 3, none⟩) hxl).trans x3
          replace x4 := (hn.cell (p := ⟨bx, 4, none⟩) hxl).trans x4
          replace hxl := Nat.lt_of_lt_of_le hxl hn.size
          replace HS1 := Lib.hid (HS1.out.below hn)
          have HS2 := Lib.hid hsl
          clear hn hsl
          go_wp2_with (fail)
          refine (house_calls _ h _ (by first | with_reducible exact H1 | exact H1.below (below_later _ _)) hl2 hl3 hl4).mono ?_
          (rintro e w' hr; first | ((with_reducible replace hr := RetHs.up hr); obtain ⟨v, rfl, ⟨z, rfl⟩, HH⟩ := hr) | (obtain ⟨v, rfl, ⟨z, rfl⟩, HH⟩ := hr))
          go_wp2_with (fail)
          have CA := look_calls v h _ HH
          rw [← HL1.out, ← HL2.out, HE3.out] at CA
          refine CA.mono ?_
          clear CA HH
          (rintro e w' hr; first | ((with_reducible replace hr := Ret.up hr); obtain ⟨rfl, z, rfl⟩ := hr) | (obtain ⟨rfl, z, rfl⟩ := hr))
          go_wp2_with (fail)
          refine (house_calls _ x _ (by first | with_reducible exact HX | exact HX.below (below_later _ _)) hlx2 hlx3 hlx4).mono ?_
          (rintro e w' hr; first | ((with_reducible replace hr := RetHs.up hr); obtain ⟨v, rfl, ⟨z, rfl⟩, HH⟩ := hr) | (obtain ⟨v, rfl, ⟨z, rfl⟩, HH⟩ := hr))
          go_wp2_with (fail)
          have CA := look_calls v x _ HH
          rw [← HX1.out, ← HX2.out, HE4.out] at CA
          refine CA.mono ?_
          clear CA HH
          (rintro e w' hr; first | ((with_reducible replace hr := Ret.up hr); obtain ⟨rfl, z, rfl⟩ := hr) | (obtain ⟨rfl, z, rfl⟩ := hr))
          have C1 := fun z => inside_calls A13 A12 c13 c12 x.clocksL h.clocksL (later W6 z) (HS2.out.below (below_later _ z)) (HS1.out.below (below_later _ z)) (by rw [HLA.out, HLB.out]) (by
            intro i y y' hy hy'
            have hi1 : i < h.clocks.length := by rw [← HLA.out]; exact (List.getElem?_eq_some_iff.1 hy').1
            rw [cl_get HA.out hi1] at hy'
            rw [cl_get HAX.out (by rw [HXC.out]; exact hi1)] at hy
            cases hy
            cases hy'
            exact HE6.out i hi1)
          rw [HLA.out, HLB.out] at C1
          have C1 := Lib.hid C1
          go_wp2_with (fail)
          refine (C1.out _).mono ?_
          (rintro e w' hr; first | ((with_reducible replace hr := Ret.up hr); obtain ⟨rfl, z, rfl⟩ := hr) | (obtain ⟨rfl, z, rfl⟩ := hr))
          go_wp2_with (fail)
          refine (awake_calls _).mono ?_
          (rintro e w' hr; first | ((with_reducible replace hr := Ret.up hr); obtain ⟨rfl, z, rfl⟩ := hr) | (obtain ⟨rfl, z, rfl⟩ := hr))
          go_wp2
          go_ret
          exact ret_mk rfl (later_below hb1 hb1.size)
        · have hlp : (0 : Int) < (x.leaveL.length : Int) := by
            have := List.length_pos_iff.2 hn
            omega
          have hle1 : (h.leaveL.length : Int) ≤ (x.leaveL.length : Int) := by omega
          have hle2 : (x.leaveL.length : Int) ≤ (h.leaveL.length : Int) + 1 := by omega
          clear hn hle
          go_wp2_with (fail)
          refine (house_calls _ h _ (by first | with_reducible exact H1 | exact H1.below (below_later _ _)) hl2 hl3 hl4).mono ?_
          (rintro e w' hr; first | ((with_reducible replace hr := RetHs.up hr); obtain ⟨v, rfl, ⟨z, rfl⟩, HH⟩ := hr) | (obtain ⟨v, rfl, ⟨z, rfl⟩, HH⟩ := hr))
          go_wp2_with (fail)
          have CA := leave_calls v h _ HH
          rw [HF.out] at CA
          refine CA.mono ?_
          clear CA HH
          (rintro e w' hr; first | ((with_reducible replace hr := RetSlN.up hr); obtain ⟨A10, c10, rfl, ⟨z, rfl⟩, hsl⟩ := hr) | (obtain ⟨A10, c10, rfl, ⟨z, rfl⟩, hsl⟩ := hr))
          have hm1 := hsl.2.1
          clear hsl
          go_wp2_with (fail)
          refine (house_calls _ x _ (by first | with_reducible exact HX | exact HX.below (below_later _ _)) hlx2 hlx3 hlx4).mono ?_
          (rintro e w' hr; first | ((with_reducible replace hr := RetHs.up hr); obtain ⟨v, rfl, ⟨z, rfl⟩, HH⟩ := hr) | (obtain ⟨v, rfl, ⟨z, rfl⟩, HH⟩ := hr))
          go_wp2_with (fail)
          have CA := leave_calls v x _ HH
          rw [HFX.out] at CA
          refine CA.mono ?_
          clear CA HH
          (rintro e w' hr; first | ((with_reducible replace hr := RetSlN.up hr); obtain ⟨A11, c11, rfl, ⟨z, rfl⟩, hsl⟩ := hr) | (obtain ⟨A11, c11, rfl, ⟨z, rfl⟩, hsl⟩ := hr))
          have hm2 := hsl.2.1
          clear hsl
          go_wp2_with (fail)
          refine (awake_calls _).mono ?_
          (rintro e w' hr; first | ((with_reducible replace hr := Ret.up hr); obtain ⟨rfl, z, rfl⟩ := hr) | (obtain ⟨rfl, z, rfl⟩ := hr))
          go_wp2
          go_ret
          exact ret_mk rfl (later_below hb1 hb1.size)
end Go.Proofs.Ytcngnfnljkkjgaa
