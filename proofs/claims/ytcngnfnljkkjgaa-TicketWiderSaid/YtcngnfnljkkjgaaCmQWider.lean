/-
TicketWider: the walk.
-/
import Derived.Test.YtcngnfnljkkjgaaCmY
import Derived.Test.YtcngnfnljkkjgaaCmSk
import Derived.Test.YtcngnfnljkkjgaaCmQFirst
import Derived.Deep.Cut
namespace Go.Proofs.Ytcngnfnljkkjgaa
open Go.RowKit
attribute [local go_sem] cell_later frozen_later lt_later le_later

theorem infoRRange : (Try.prog.info? 44).map (fun i => (i.zero, i.size, i.bytes)) = some (some (.agg #[.int .i64 0, .int .i64 0]), 2, 16) := by kernel_rfl
theorem rem_nat {n : Nat} (c : Int) (hn : 0 < n) : ∃ k : Nat, (k : Int) = c % (n : Int) ∧ k < n := by
  have h1 := Int.emod_nonneg c (show (n : Int) ≠ 0 by omega)
  have h2 := Int.emod_lt_of_pos c (show (0 : Int) < (n : Int) by omega)
  exact ⟨(c % (n : Int)).toNat, by omega, by omega⟩
theorem set_set' {α : Type} (l : List α) (k : Nat) (x y : α) : (l.set k x).set k y = l.set k y := List.set_set x
theorem sl_one (w : World) (b : Nat) (n : Int) (h : BlkAt w b 3 [.int .i64 n]) : SlA w 1 gI (some ⟨b, 0, none⟩) 1 [n] :=
  SlA.of_blk (l := [n]) h (fun _ _ => rfl) (by simp)

set_option maxRecDepth 100000 in
set_option maxHeartbeats 8000000 in
theorem lawwider_calls (v : Value) (h : Hs) (cv byv : Int) (w : World) (H : HsAt w v h) (hcv : 0 ≤ cv ∧ cv ≤ 255) (hby : 0 ≤ byv ∧ byv ≤ 255) :
    Calls Try.prog 13 #[v, .int .u8 cv, .int .u8 byv] w (Ret (.bool true) w) := by
  have H0 := H
  obtain ⟨A2, c2, A3, c3, A4, c4, rfl, H2, H3, H4⟩ := H
  obtain ⟨W1, hW1⟩ : ∃ W1, W1 = w.alloc (.cells #[.int .i64 h.hour, .int .i64 h.grace, .slice A2 h.clocks.length c2, .slice A3 h.tickets.length c3, .slice A4 h.clips.length c4] 26) := ⟨_, rfl⟩
  have hb1 : Below w.heap.size w W1 := by rw [hW1]; exact gA (Below.refl _ _)
  have hB : BlkAt W1 w.heap.size 26 [.int .i64 h.hour, .int .i64 h.grace, .slice A2 h.clocks.length c2, .slice A3 h.tickets.length c3, .slice A4 h.clips.length c4] := by rw [hW1]; exact BlkAt.new _ _ _
  have H1 := H0.below hb1
  have q0 := hB.cell 0
  have q1 := hB.cell 1
  have q2 := hB.cell 2
  have q3 := hB.cell 3
  have q4 := hB.cell 4
  simp only [List.getElem?_cons_zero, List.getElem?_cons_succ] at q0 q1 q2 q3 q4
  have hBl := hB.lt
  cases hr : h.readyB with
  | false =>
    go_enter Try.func13, Try.ntmps13
    go_wp2_with (fail)
    rw [← hW1]
    clear hW1
    refine (ready_calls _ h _ H1).mono ?_
    (rintro e w' hr; first | ((with_reducible replace hr := Ret.up hr); obtain ⟨rfl, z, rfl⟩ := hr) | (obtain ⟨rfl, z, rfl⟩ := hr))
    go_wp2_with (fail)
    refine (awake_calls _).mono ?_
    (rintro e w' hr; first | ((with_reducible replace hr := Ret.up hr); obtain ⟨rfl, z, rfl⟩ := hr) | (obtain ⟨rfl, z, rfl⟩ := hr))
    go_wp2
    go_ret
    exact ret_mk rfl (later_below hb1 hb1.size)
  | true =>
    obtain ⟨hl2, hl3, hl4, hf, hl10⟩ := ready_of hr
    by_cases hc0 : h.clocks.length = 0
    · have hc1 : ((h.clocks.length : Int) == 0) = true := by simp [hc0]
      clear hc0
      go_enter Try.func13, Try.ntmps13
      go_wp2_with (fail)
      rw [← hW1]
      clear hW1
      refine (ready_calls _ h _ H1).mono ?_
      (rintro e w' hr; first | ((with_reducible replace hr := Ret.up hr); obtain ⟨rfl, z, rfl⟩ := hr) | (obtain ⟨rfl, z, rfl⟩ := hr))
      go_wp2_with (fail)
      refine (awake_calls _).mono ?_
      (rintro e w' hr; first | ((with_reducible replace hr := Ret.up hr); obtain ⟨rfl, z, rfl⟩ := hr) | (obtain ⟨rfl, z, rfl⟩ := hr))
      go_wp2
      go_ret
      exact ret_mk rfl (later_below hb1 hb1.size)
    · have hc1 : ((h.clocks.length : Int) == 0) = false := beq_eq_false_iff_ne.2 (by omega)
      have hcp : (0 : Int) < (h.clocks.length : Int) := by omega
      obtain ⟨kk, hkk', hkk⟩ := rem_nat (n := h.clocks.length) cv (by omega)
      obtain ⟨r, hr⟩ : ∃ r, h.clocks[kk]? = some r := ⟨_, List.getElem?_eq_getElem hkk⟩
      have hrb := fault_clock hf (List.mem_of_getElem? hr)
      obtain ⟨i0, hi, hz0, hz1, hz2⟩ := info_parts infoRRange
      have HKK := Lib.hid hkk'
      have HF := Lib.hid hf
      have HR := Lib.hid hr
      have hc4 : h.clocks.length ≤ 4 := (small_iff.1 (fault_zero hf).1).1
      clear hkk' hf hr hc0
      go_enter Try.func13, Try.ntmps13
      go_wp2_with (fail)
      rw [← hW1]
      clear hW1
      refine (ready_calls _ h _ H1).mono ?_
      (rintro e w' hr; first | ((with_reducible replace hr := Ret.up hr); obtain ⟨rfl, z, rfl⟩ := hr) | (obtain ⟨rfl, z, rfl⟩ := hr))
      obtain ⟨W2, hWW2⟩ : ∃ X, X = later W1 z := ⟨_, rfl⟩
      have hn : Below W1.heap.size W1 W2 := by rw [hWW2]; exact below_later _ _
      rw [← hWW2] 
      clear hWW2
      replace H1 := H1.below hn
      replace q0 := (hn.cell (p := ⟨w.heap.size, 0, none⟩) hBl).trans q0
      replace q1 := (hn.cell (p := ⟨w.heap.size, 1, none⟩) hBl).trans q1
      replace q2 := (hn.cell (p := ⟨w.heap.size, 2, none⟩) hBl).trans q2
      replace q3 := (hn.cell (p := ⟨w.heap.size, 3, none⟩) hBl).trans q3
      replace q4 := (hn.cell (p := ⟨w.heap.size, 4, none⟩) hBl).trans q4
      replace hBl := Nat.lt_of_lt_of_le hBl hn.size
      replace hb1 := hb1.trans (hn.mono hb1.size)
      clear hn
      have H2r := H2.below hb1
      go_wp2_with (at_builtin; refine wpList_append_copy rfl _ _ 22 rfl (W2.heap.size + 1) 44 i0 (.agg #[.int .i64 0, .int .i64 0]) 2 16 Try.underlying22 hi hz0 hz1 hz2 rfl (by decide) (W2.heap.size + 1) rfl ?cB (Nat.le_refl _) rfl ((H2r.below (gA (Below.refl _ _))).below (gA (Below.refl _ _))) (fun _ _ => rfl) ?c1 ?c3 ?c4 ?c5 ?_)
      case cB => exact blk_new1 _ _ _ _
      case c1 =>
        intro y _ u hu
        simp only [gR, List.mem_cons, List.not_mem_nil, or_false] at hu
        rcases hu with rfl | rfl <;> rfl
      case c3 => unfold maxLen; omega
      case c4 => omega
      case c5 => simp only [World.size_alloc]; omega
      intro gx cx w1 hgx hlx hown hgr
      obtain ⟨bx, hbx⟩ : ∃ b, b = W2.heap.size := ⟨_, rfl⟩
      have hBx : BlkAt w1 bx 26 [.int .i64 h.hour, .int .i64 h.grace, .slice A2 h.clocks.length c2, .slice A3 h.tickets.length c3, .slice A4 h.clips.length c4] := by
        rw [hbx]
        exact (hgr.block _ (by simp only [World.size_alloc]; omega) (by intro e; have := Option.some.inj e; omega)).trans ((BlkAt.new W2 26 [.int .i64 h.hour, .int .i64 h.grace, .slice A2 h.clocks.length c2, .slice A3 h.tickets.length c3, .slice A4 h.clips.length c4]).alloc _)
      have hgb : gx ≠ bx := by omega
      have hw1 : Below W2.heap.size W2 w1 := (gA (gA (Below.refl _ _))).grown hgr (by simp only [World.size_alloc]; omega) (fun j hj => by have := Option.some.inj hj; omega)
      rw [← hbx]
      have HBX := Lib.hid hbx
      clear hbx
      have y2 := hBx.cell 2
      have yf := hBx.frozen 2
      have hyl := hBx.lt
      simp only [List.getElem?_cons_zero, List.getElem?_cons_succ] at y2
      go_upto_region 5 with (fail)
      obtain ⟨V3, hV3⟩ : ∃ X, X = w1.setCell ⟨bx, 2, none⟩ (.slice (some ⟨gx, 0, none⟩) h.clocks.length cx) := ⟨_, rfl⟩
      have hb3 : Below W2.heap.size W2 V3 := by
        rw [hV3]
        exact gS hw1 (by show W2.heap.size ≤ bx; have := HBX.out; omega)
      have hB3 := hBx.set_ 2 (.slice (some ⟨gx, 0, none⟩) h.clocks.length cx)
      rw [← hV3] at hB3 ⊢
      simp only [List.set_cons_succ, List.set_cons_zero] at hB3
      have ho3 : OwnS V3 gR 44 gx h.clocks := by
        rw [hV3]
        exact hown.far _ (by show gx ≠ bx; exact hgb)
      clear hV3 hown hgr hBx y2 yf hyl hw1
      have z2 := hB3.cell 2
      simp only [List.getElem?_cons_zero, List.getElem?_cons_succ] at z2
      have hzl := hB3.lt
      have hgl := ho3.lt
      have hkI : (kk : Int) < (h.clocks.length : Int) := by omega
      have hkI0 : (0 : Int) ≤ (kk : Int) := Int.natCast_nonneg _
      have hkr := HKK.out.symm
      refine region_later (by kernel_rfl) (by kernel_rfl) ?_
      repeat (go_big_quiet_step (fail))
      refine wpQuiet_nil ?_
      rintro W' ⟨u, rfl⟩
      obtain ⟨V4, hV4⟩ : ∃ X, X = later V3 u := ⟨_, rfl⟩
      have hbl4 : Below V3.heap.size V3 V4 := by rw [hV4]; exact below_later _ _
      rw [← hV4]
      clear hV4
      have hb4 : Below W2.heap.size W2 V4 := hb3.trans (hbl4.mono hb3.size)
      have hB4 := hB3.of_below hbl4 hB3.lt
      have ho4 := ho3.below hbl4
      clear hb3 hB3 ho3 z2 hzl hgl hbl4
      go_upto_region 6 with (fail)
      obtain ⟨b', o', y, hA, -, hy, s0, s1⟩ := (ho4.sl (c := cx) (k := 2) (fun _ _ => rfl) hlx (by omega)).atR hkk
      cases hA
      rw [HR.out] at hy
      cases hy
      rw [Nat.zero_add] at s0 s1
      have hf0 := ho4.frozen (kk * 2)
      have hf1 := ho4.frozen (kk * 2 + 1)
      have hgl := ho4.lt
      obtain ⟨C, hC⟩ : ∃ C, C = Same [⟨gx, kk * 2 + 1, none⟩] V4 := ⟨_, rfl⟩
      obtain ⟨G, hG⟩ : ∃ G, G = held C V4.drew := ⟨_, rfl⟩
      have hfs : ∀ a ∈ ([⟨gx, kk * 2 + 1, none⟩] : List Addr), ∀ u, V4.cell? a = some u → ∀ x, (G x).cell? a = some u := fun a ha u hu x => by
        rw [hG, hC]
        exact same_held hu ha x
      have f0 := hfs _ (by simp) _ s1
      clear hfs
      refine region_sk3 C [[], [], [], [2], [3], [4], [], [6], [7], [5, 8], [9], [], [11], [12], [13], [], [15], [16], [17], [14, 18], [19], [0, 0, 2, 3, 4, 5, 6, 7, 8, 9, 10, 14], [21, 0, 2, 3, 4, 5, 6, 7, 8, 9, 10, 14], [22, 10, 0, 2, 3, 4, 5, 6, 7, 8, 9, 10, 14], [1, 0, 1, 2, 3, 4, 5, 6, 7, 8, 9, 10, 11, 12, 13, 14, 15, 16, 17, 18, 19, 20, 21, 22, 23], [24, 0, 1, 2, 3, 4, 5, 6, 7, 8, 9, 10, 11, 12, 13, 14, 15, 16, 17, 18, 19, 20, 21, 22, 23], [25, 20, 23, 0, 1, 2, 3, 4, 5, 6, 7, 8, 9, 10, 11, 12, 13, 14, 15, 16, 17, 18, 19, 20, 21, 22, 23]] (.qs [0, 1, 2, 3, 4, 6, 7, 8, 11, 12, 13, 14, 15, 16, 17, 18, 19, 20] (.one 5 (.one 9 (.one 10 (.one 21 (.one 22 (.one 23 (.one 24 (.one 25 .done))))))))) 26 (by kernel_rfl) (by kernel_rfl) (by kernel_rfl) (by rw [hC]; exact same_drew) ?_
      refine wpSk_qs (w0 := V4.drew) (by rw [hC]; exact same_drew) ?_
      rw [← hG]
      have HC' := Lib.hid hC
      clear hG hC
      simp only [List.filterMap_cons, List.filterMap_nil, List.getElem?_toArray, List.getElem?_cons_zero, List.getElem?_cons_succ]
      change wpQuiet _ _ _ _ [_, _, _, _, _, _, _, _, _, _, _, _, _, _, _, _, _, _] _
      repeat (go_big_quiet_step (fail))
      refine wpQuiet_nil ?_
      clear f0
      have hCw : C V4.drew := by rw [HC'.out]; exact same_drew
      refine wpSk_one rfl (fun K hK => ?_)
      go_simp
      refine hK.out _ _ hCw ?_
      clear hK K
      refine wpSk_one rfl (fun K hK => ?_)
      go_simp
      refine hK.out _ _ hCw ?_
      clear hK K
      refine wpSk_one rfl (fun K hK => ?_)
      go_simp
      refine hK.out _ _ hCw ?_
      clear hK K
      refine wpSk_one rfl (fun K hK => ?_)
      go_simp
      refine hK.out _ _ hCw ?_
      clear hK K
      refine wpSk_one rfl (fun K hK => ?_)
      go_simp
      refine hK.out _ _ hCw ?_
      clear hK K
      obtain ⟨lo', hlo'⟩ : ∃ x, x = max (-30) (r.lo - byv % 2) := ⟨_, rfl⟩
      obtain ⟨hi', hhi'⟩ : ∃ x, x = min 30 (r.hi + byv / 2 % 3) := ⟨_, rfl⟩
      have hw1 : IntKind.i64.wrap (r.lo - byv % 2) = r.lo - byv % 2 := by rw [IntKind.wrap_i64]; omega
      have hw2 : IntKind.i64.wrap (r.hi + byv / 2 % 3) = r.hi + byv / 2 % 3 := by rw [IntKind.wrap_i64]; omega
      refine wpSk_one rfl (fun K hK => ?_)
      go_simp
      rw [show (if -30 < r.lo - byv % 2 then r.lo - byv % 2 else -30) = lo' by rw [hlo']; split <;> omega]
      obtain ⟨V5, hV5⟩ : ∃ X, X = (V4.setCell ⟨gx, kk * 2, none⟩ (.int .i64 lo')).drew := ⟨_, rfl⟩
      have hk5 : KeepX gx V4 V5 := by
        rw [hV5]
        exact (KeepX.set_ _ _ _).trans (KeepX.of_below (gD (Below.refl _ _)))
      have ho5 : OwnS V5 gR 44 gx (h.clocks.set kk ⟨lo', r.hi⟩) := by
        rw [hV5]
        have h1 := ho4.set (k := 2) (fun _ _ => rfl) HR.out (j := 0) (u := .int .i64 lo') (y := ⟨lo', r.hi⟩) (by decide) rfl
        rw [Nat.add_zero] at h1
        exact h1.below (gD (Below.refl _ _))
      rw [← hV5]
      clear hV5
      obtain ⟨b', o', y, hA, -, hy, -, t1⟩ := (ho5.sl (c := cx) (k := 2) (fun _ _ => rfl) (by rw [List.length_set]; exact hlx) (by rw [List.length_set]; omega)).atR (i := kk) (by rw [List.length_set]; exact hkk)
      cases hA
      rw [List.getElem?_set_self hkk] at hy
      cases hy
      rw [Nat.zero_add] at t1
      have hC5 : C V5 := by
        rw [HC'.out]
        intro a ha
        simp only [List.mem_singleton] at ha
        subst ha
        rw [t1, s1]
      have hf5 := ho5.frozen (kk * 2 + 1)
      have hg5 := ho5.lt
      refine hK.out _ _ hC5 ?_
      clear hK K
      refine wpSk_one rfl (fun K hK => ?_)
      go_simp
      refine hK.out _ _ hC5 ?_
      clear hK K
      refine wpSk_one rfl (fun K hK => ?_)
      go_simp
      refine hK.out _ _ hC5 ?_
      clear hK K
      refine wpSk_done rfl (fun K hK => ?_)
      go_simp
      rw [show (if r.hi + byv / 2 % 3 < 30 then r.hi + byv / 2 % 3 else 30) = hi' by rw [hhi']; split <;> omega]
      refine hK.out _ _ (noPanic_mk ?_)
      clear hK K
      obtain ⟨W3, hW3⟩ : ∃ X, X = V5.setCell ⟨gx, kk * 2 + 1, none⟩ (.int .i64 hi') := ⟨_, rfl⟩
      have hk6 : KeepX gx V4 W3 := by
        rw [hW3]
        exact hk5.trans (KeepX.set_ _ _ _)
      have hB6 := hk6.blk hB4 (fun e => hgb e.symm)
      have ho6 : OwnS W3 gR 44 gx (h.clocks.set kk ⟨lo', hi'⟩) := by
        rw [hW3]
        have h1 := ho5.set (k := 2) (fun _ _ => rfl) (i := kk) (x := ⟨lo', r.hi⟩) (by rw [List.getElem?_set_self hkk]) (j := 1) (u := .int .i64 hi') (y := ⟨lo', hi'⟩) (by decide) rfl
        rw [set_set'] at h1
        exact h1
      have hbX : Below W2.heap.size W2 W3 := hk6.low hb4 (by omega) hb4.size
      rw [← hW3]
      clear hW3 hk6 hk5 ho5 hC5 hf5 hg5 t1 hCw HC' s0 s1 hf0 hf1 hgl ho4 hB4 hb4 hw1 hw2
      obtain ⟨x, hx⟩ : ∃ x, x = h.widen kk lo' hi' := ⟨_, rfl⟩
      have h1lo : lo' ≤ r.lo := by omega
      have h1hi : r.hi ≤ hi' := by omega
      have hbw := hb1.trans (hbX.mono hb1.size)
      have HX : HsAt W3 (.agg #[.int .i64 h.hour, .int .i64 h.grace, .slice (some ⟨gx, 0, none⟩) h.clocks.length cx, .slice A3 h.tickets.length c3, .slice A4 h.clips.length c4]) x := by
        rw [hx]
        exact ⟨some ⟨gx, 0, none⟩, cx, A3, c3, A4, c4, by rw [show (h.widen kk lo' hi').clocks.length = h.clocks.length by simp [Hs.widen]]; rfl, ho6.sl (fun _ _ => rfl) (by rw [List.length_set]; exact hlx) (by rw [List.length_set]; omega), H3.below hbw, H4.below hbw⟩
      have x0 := hB6.cell 0
      have x1 := hB6.cell 1
      have x2 := hB6.cell 2
      have x3 := hB6.cell 3
      have x4 := hB6.cell 4
      have hxl := hB6.lt
      simp only [List.getElem?_cons_zero, List.getElem?_cons_succ] at x0 x1 x2 x3 x4
      replace H1 := H1.below hbX
      replace q0 := (hbX.cell (p := ⟨w.heap.size, 0, none⟩) hBl).trans q0
      replace q1 := (hbX.cell (p := ⟨w.heap.size, 1, none⟩) hBl).trans q1
      replace q2 := (hbX.cell (p := ⟨w.heap.size, 2, none⟩) hBl).trans q2
      replace q3 := (hbX.cell (p := ⟨w.heap.size, 3, none⟩) hBl).trans q3
      replace q4 := (hbX.cell (p := ⟨w.heap.size, 4, none⟩) hBl).trans q4
      replace hBl := Nat.lt_of_lt_of_le hBl hbX.size
      replace hb1 := hb1.trans (hbX.mono hb1.size)
      have hxc : x.clocks.length = h.clocks.length := by rw [hx]; simp [Hs.widen]
      have hxt : x.tickets.length = h.tickets.length := by rw [hx]; rfl
      have hxp : x.clips.length = h.clips.length := by rw [hx]; rfl
      have hlx2 : x.clocks.length ≤ 1000 := by omega
      have hlx3 : x.tickets.length ≤ 1000 := by omega
      have hlx4 : x.clips.length ≤ 1000 := by omega
      have HXC := Lib.hid hxc
      have HXT := Lib.hid hxt
      have HXD := Lib.hid hx
      clear hxc hxt hxp hx hlo' hhi' hB6 ho6 hbX
      go_wp2_with (fail)
      cases hxr : x.readyB with
      | false =>
        have CR := ready_calls _ x W3 HX
        rw [hxr] at CR
        refine CR.mono ?_
        clear CR
        (rintro e w' hr; first | ((with_reducible replace hr := Ret.up hr); obtain ⟨rfl, z, rfl⟩ := hr) | (obtain ⟨rfl, z, rfl⟩ := hr))
        go_wp2_with (fail)
        refine (awake_calls _).mono ?_
        (rintro e w' hr; first | ((with_reducible replace hr := Ret.up hr); obtain ⟨rfl, z, rfl⟩ := hr) | (obtain ⟨rfl, z, rfl⟩ := hr))
        go_wp2
        go_ret
        exact ret_mk rfl (later_below hb1 hb1.size)
      | true =>
        have CR := ready_calls _ x W3 HX
        rw [hxr] at CR
        have hfx := (ready_of hxr).2.2.2.1
        have HFX := Lib.hid hfx
        clear hxr hfx
        refine CR.mono ?_
        clear CR
        (rintro e w' hr; first | ((with_reducible replace hr := Ret.up hr); obtain ⟨rfl, z, rfl⟩ := hr) | (obtain ⟨rfl, z, rfl⟩ := hr))
        obtain ⟨W4, hWW4⟩ : ∃ X, X = later W3 z := ⟨_, rfl⟩
        have hn : Below W3.heap.size W3 W4 := by rw [hWW4]; exact below_later _ _
        rw [← hWW4] 
        clear hWW4
        replace H1 := H1.below hn
        replace q0 := (hn.cell (p := ⟨w.heap.size, 0, none⟩) hBl).trans q0
        replace q1 := (hn.cell (p := ⟨w.heap.size, 1, none⟩) hBl).trans q1
        replace q2 := (hn.cell (p := ⟨w.heap.size, 2, none⟩) hBl).trans q2
        replace q3 := (hn.cell (p := ⟨w.heap.size, 3, none⟩) hBl).trans q3
        replace q4 := (hn.cell (p := ⟨w.heap.size, 4, none⟩) hBl).trans q4
        replace hBl := Nat.lt_of_lt_of_le hBl hn.size
        replace hb1 := hb1.trans (hn.mono hb1.size)
        replace HX := HX.below hn
        replace x0 := (hn.cell (p := ⟨bx, 0, none⟩) hxl).trans x0
        replace x1 := (hn.cell (p := ⟨bx, 1, none⟩) hxl).trans x1
        replace x2 := (hn.cell (p := ⟨bx, 2, none⟩) hxl).trans x2
        replace x3 := (hn.cell (p := ⟨bx, 3, none⟩) hxl).trans x3
        replace x4 := (hn.cell (p := ⟨bx, 4, none⟩) hxl).trans x4
        replace hxl := Nat.lt_of_lt_of_le hxl hn.size
        clear hn
        have hle : x.leaveL.length ≤ h.leaveL.length := by
          have := HFX.out
          rw [HXD.out] at this ⊢
          exact widen_leave HF.out HR.out h1lo h1hi this
        by_cases hn : h.leaveL = []
        · have hxn : x.leaveL = [] := by
            rw [hn, List.length_nil] at hle
            exact List.eq_nil_of_length_eq_zero (by omega)
          have HLL := Lib.hid hn
          have HLX := Lib.hid hxn
          have hwa := HFX.out
          rw [HXD.out] at hwa
          obtain ⟨e1, e2, e3, e4, e5, e6⟩ := widen_at HF.out HR.out h1lo h1hi hwa hn
          rw [← HXD.out] at e2 e3 e4 e5 e6
          have HA := Lib.hid e1
          have HAX := Lib.hid e2
          have HLA := Lib.hid (cl_len e1)
          have HLB := Lib.hid ((cl_len e2).trans HXC.out)
          have HLC := Lib.hid (hr_len e1)
          have HLD := Lib.hid ((hr_len e2).trans HXT.out)
          have HLE := Lib.hid (long_len e1)
          have HLF := Lib.hid ((long_len e2).trans HXT.out)
          have HE3 := Lib.hid e3
          have HE4 := Lib.hid e4
          have HE5 := Lib.hid e5
          obtain ⟨PV, hPV⟩ : ∃ p, p = h.paidV := ⟨_, rfl⟩
          obtain ⟨PX, hPX⟩ : ∃ p, p = x.paidV := ⟨_, rfl⟩
          rw [← hPV, ← hPX] at e6
          have HE6 := Lib.hid e6
          have HPV := Lib.hid hPV
          have HPX := Lib.hid hPX
          clear hn hxn hwa e1 e2 e3 e4 e5 e6 hPV hPX hle
          go_wp2_with (fail)
          refine (house_calls _ h _ (by first | with_reducible exact H1 | exact H1.below (below_later _ _)) hl2 hl3 hl4).mono ?_
          (rintro e w' hr; first | ((with_reducible replace hr := RetHs.up hr); obtain ⟨v, rfl, ⟨z, rfl⟩, HH⟩ := hr) | (obtain ⟨v, rfl, ⟨z, rfl⟩, HH⟩ := hr))
          go_wp2_with (fail)
          have CA := leave_calls v h _ HH
          rw [HF.out, HLL.out] at CA
          refine CA.mono ?_
          clear CA HH
          (rintro e w' hr; first | ((with_reducible replace hr := RetSlN.up hr); obtain ⟨A10, c10, rfl, ⟨z, rfl⟩, hsl⟩ := hr) | (obtain ⟨A10, c10, rfl, ⟨z, rfl⟩, hsl⟩ := hr))
          clear hsl
          simp only [List.length_nil]
          go_wp2_with (fail)
          refine (house_calls _ x _ (by first | with_reducible exact HX | exact HX.below (below_later _ _)) hlx2 hlx3 hlx4).mono ?_
          (rintro e w' hr; first | ((with_reducible replace hr := RetHs.up hr); obtain ⟨v, rfl, ⟨z, rfl⟩, HH⟩ := hr) | (obtain ⟨v, rfl, ⟨z, rfl⟩, HH⟩ := hr))
          go_wp2_with (fail)
          have CA := leave_calls v x _ HH
          rw [HFX.out, HLX.out] at CA
          refine CA.mono ?_
          clear CA HH
          (rintro e w' hr; first | ((with_reducible replace hr := RetSlN.up hr); obtain ⟨A11, c11, rfl, ⟨z, rfl⟩, hsl⟩ := hr) | (obtain ⟨A11, c11, rfl, ⟨z, rfl⟩, hsl⟩ := hr))
          clear hsl
          simp only [List.length_nil]
          go_wp2_with (fail)
          refine (house_calls _ h _ (by first | with_reducible exact H1 | exact H1.below (below_later _ _)) hl2 hl3 hl4).mono ?_
          (rintro e w' hr; first | ((with_reducible replace hr := RetHs.up hr); obtain ⟨v, rfl, ⟨z, rfl⟩, HH⟩ := hr) | (obtain ⟨v, rfl, ⟨z, rfl⟩, HH⟩ := hr))
          go_wp2_with (fail)
          have CA := clocks_calls v h _ HH
          rw [HA.out] at CA
          refine CA.mono ?_
          clear CA HH
          (rintro e w' hr; first | ((with_reducible replace hr := RetSlN.up hr); obtain ⟨A12, c12, rfl, ⟨z, rfl⟩, hsl⟩ := hr) | (obtain ⟨A12, c12, rfl, ⟨z, rfl⟩, hsl⟩ := hr))
          rw [HLA.out]
          obtain ⟨W5, hWW5⟩ : ∃ X, X = later W4 z := ⟨_, rfl⟩
          have hn : Below W4.heap.size W4 W5 := by rw [hWW5]; exact below_later _ _
          rw [← hWW5] at hsl ⊢
          clear hWW5
          replace H1 := H1.below hn
          replace q0 := (hn.cell (p := ⟨w.heap.size, 0, none⟩) hBl).trans q0
          replace q1 := (hn.cell (p := ⟨w.heap.size, 1, none⟩) hBl).trans q1
          replace q2 := (hn.cell (p := ⟨w.heap.size, 2, none⟩) hBl).trans q2
          replace q3 := (hn.cell (p := ⟨w.heap.size, 3, none⟩) hBl).trans q3
          replace q4 := (hn.cell (p := ⟨w.heap.size, 4, none⟩) hBl).trans q4
          replace hBl := Nat.lt_of_lt_of_le hBl hn.size
          replace hb1 := hb1.trans (hn.mono hb1.size)
          replace HX := HX.below hn
          replace x0 := (hn.cell (p := ⟨bx, 0, none⟩) hxl).trans x0
          replace x1 := (hn.cell (p := ⟨bx, 1, none⟩) hxl).trans x1
          replace x2 := (hn.cell (p := ⟨bx, 2, none⟩) hxl).trans x2
          replace x3 := (hn.cell (p := ⟨bx, 3, none⟩) hxl).trans x3
          replace x4 := (hn.cell (p := ⟨bx, 4, none⟩) hxl).trans x4
          replace hxl := Nat.lt_of_lt_of_le hxl hn.size
          have HS1 := Lib.hid hsl
          clear hn hsl
          go_wp2_with (fail)
          refine (house_calls _ x _ (by first | with_reducible exact HX | exact HX.below (below_later _ _)) hlx2 hlx3 hlx4).mono ?_
          (rintro e w' hr; first | ((with_reducible replace hr := RetHs.up hr); obtain ⟨v, rfl, ⟨z, rfl⟩, HH⟩ := hr) | (obtain ⟨v, rfl, ⟨z, rfl⟩, HH⟩ := hr))
          go_wp2_with (fail)
          have CA := clocks_calls v x _ HH
          rw [HAX.out] at CA
          refine CA.mono ?_
          clear CA HH
          (rintro e w' hr; first | ((with_reducible replace hr := RetSlN.up hr); obtain ⟨A13, c13, rfl, ⟨z, rfl⟩, hsl⟩ := hr) | (obtain ⟨A13, c13, rfl, ⟨z, rfl⟩, hsl⟩ := hr))
          rw [HLB.out]
          obtain ⟨W6, hWW6⟩ : ∃ X, X = later W5 z := ⟨_, rfl⟩
          have hn : Below W5.heap.size W5 W6 := by rw [hWW6]; exact below_later _ _
          rw [← hWW6] at hsl ⊢
          clear hWW6
          replace H1 := H1.below hn
          replace q0 := (hn.cell (p := ⟨w.heap.size, 0, none⟩) hBl).trans q0
          replace q1 := (hn.cell (p := ⟨w.heap.size, 1, none⟩) hBl).trans q1
          replace q2 := (hn.cell (p := ⟨w.heap.size, 2, none⟩) hBl).trans q2
          replace q3 := (hn.cell (p := ⟨w.heap.size, 3, none⟩) hBl).trans q3
          replace q4 := (hn.cell (p := ⟨w.heap.size, 4, none⟩) hBl).trans q4
          replace hBl := Nat.lt_of_lt_of_le hBl hn.size
          replace hb1 := hb1.trans (hn.mono hb1.size)
          replace HX := HX.below hn
          replace x0 := (hn.cell (p := ⟨bx, 0, none⟩) hxl).trans x0
          replace x1 := (hn.cell (p := ⟨bx, 1, none⟩) hxl).trans x1
          replace x2 := (hn.cell (p := ⟨bx, 2, none⟩) hxl).trans x2
          replace x3 := (hn.cell (p := ⟨bx, 3, none⟩) hxl).trans x3
          replace x4 := (hn.cell (p := ⟨bx, 4, none⟩) hxl).trans x4
          replace hxl := Nat.lt_of_lt_of_le hxl hn.size
          replace HS1 := Lib.hid (HS1.out.below hn)
          have HS2 := Lib.hid hsl
          clear hn hsl
          go_wp2_with (fail)
          refine (house_calls _ h _ (by first | with_reducible exact H1 | exact H1.below (below_later _ _)) hl2 hl3 hl4).mono ?_
          (rintro e w' hr; first | ((with_reducible replace hr := RetHs.up hr); obtain ⟨v, rfl, ⟨z, rfl⟩, HH⟩ := hr) | (obtain ⟨v, rfl, ⟨z, rfl⟩, HH⟩ := hr))
          go_wp2_with (fail)
          have CA := hours_all_calls v h _ HH
          rw [HA.out] at CA
          refine CA.mono ?_
          clear CA HH
          (rintro e w' hr; first | ((with_reducible replace hr := RetSlN.up hr); obtain ⟨A14, c14, rfl, ⟨z, rfl⟩, hsl⟩ := hr) | (obtain ⟨A14, c14, rfl, ⟨z, rfl⟩, hsl⟩ := hr))
          rw [HLC.out]
          obtain ⟨W7, hWW7⟩ : ∃ X, X = later W6 z := ⟨_, rfl⟩
          have hn : Below W6.heap.size W6 W7 := by rw [hWW7]; exact below_later _ _
          rw [← hWW7] at hsl ⊢
          clear hWW7
          replace H1 := H1.below hn
          replace q0 := (hn.cell (p := ⟨w.heap.size, 0, none⟩) hBl).trans q0
          replace q1 := (hn.cell (p := ⟨w.heap.size, 1, none⟩) hBl).trans q1
          replace q2 := (hn.cell (p := ⟨w.heap.size, 2, none⟩) hBl).trans q2
          replace q3 := (hn.cell (p := ⟨w.heap.size, 3, none⟩) hBl).trans q3
          replace q4 := (hn.cell (p := ⟨w.heap.size, 4, none⟩) hBl).trans q4
          replace hBl := Nat.lt_of_lt_of_le hBl hn.size
          replace hb1 := hb1.trans (hn.mono hb1.size)
          replace HX := HX.below hn
          replace x0 := (hn.cell (p := ⟨bx, 0, none⟩) hxl).trans x0
          replace x1 := (hn.cell (p := ⟨bx, 1, none⟩) hxl).trans x1
          replace x2 := (hn.cell (p := ⟨bx, 2, none⟩) hxl).trans x2
          replace x3 := (hn.cell (p := ⟨bx, 3, none⟩) hxl).trans x3
          replace x4 := (hn.cell (p := ⟨bx, 4, none⟩) hxl).trans x4
          replace hxl := Nat.lt_of_lt_of_le hxl hn.size
          replace HS1 := Lib.hid (HS1.out.below hn)
          replace HS2 := Lib.hid (HS2.out.below hn)
          have HS3 := Lib.hid hsl
          clear hn hsl
          go_wp2_with (fail)
          refine (house_calls _ x _ (by first | with_reducible exact HX | exact HX.below (below_later _ _)) hlx2 hlx3 hlx4).mono ?_
          (rintro e w' hr; first | ((with_reducible replace hr := RetHs.up hr); obtain ⟨v, rfl, ⟨z, rfl⟩, HH⟩ := hr) | (obtain ⟨v, rfl, ⟨z, rfl⟩, HH⟩ := hr))
          go_wp2_with (fail)
          have CA := hours_all_calls v x _ HH
          rw [HAX.out] at CA
          refine CA.mono ?_
          clear CA HH
          (rintro e w' hr; first | ((with_reducible replace hr := RetSlN.up hr); obtain ⟨A15, c15, rfl, ⟨z, rfl⟩, hsl⟩ := hr) | (obtain ⟨A15, c15, rfl, ⟨z, rfl⟩, hsl⟩ := hr))
          rw [HLD.out]
          obtain ⟨W8, hWW8⟩ : ∃ X, X = later W7 z := ⟨_, rfl⟩
          have hn : Below W7.heap.size W7 W8 := by rw [hWW8]; exact below_later _ _
          rw [← hWW8] at hsl ⊢
          clear hWW8
          replace H1 := H1.below hn
          replace q0 := (hn.cell (p := ⟨w.heap.size, 0, none⟩) hBl).trans q0
          replace q1 := (hn.cell (p := ⟨w.heap.size, 1, none⟩) hBl).trans q1
          replace q2 := (hn.cell (p := ⟨w.heap.size, 2, none⟩) hBl).trans q2
          replace q3 := (hn.cell (p := ⟨w.heap.size, 3, none⟩) hBl).trans q3
          replace q4 := (hn.cell (p := ⟨w.heap.size, 4, none⟩) hBl).trans q4
          replace hBl := Nat.lt_of_lt_of_le hBl hn.size
          replace hb1 := hb1.trans (hn.mono hb1.size)
          replace HX := HX.below hn
          replace x0 := (hn.cell (p := ⟨bx, 0, none⟩) hxl).trans x0
          replace x1 := (hn.cell (p := ⟨bx, 1, none⟩) hxl).trans x1
          replace x2 := (hn.cell (p := ⟨bx, 2, none⟩) hxl).trans x2
          replace x3 := (hn.cell (p := ⟨bx, 3, none⟩) hxl).trans x3
          replace x4 := (hn.cell (p := ⟨bx, 4, none⟩) hxl).trans x4
          replace hxl := Nat.lt_of_lt_of_le hxl hn.size
          replace HS1 := Lib.hid (HS1.out.below hn)
          replace HS2 := Lib.hid (HS2.out.below hn)
          replace HS3 := Lib.hid (HS3.out.below hn)
          have HS4 := Lib.hid hsl
          clear hn hsl
          go_wp2_with (fail)
          refine (house_calls _ h _ (by first | with_reducible exact H1 | exact H1.below (below_later _ _)) hl2 hl3 hl4).mono ?_
          (rintro e w' hr; first | ((with_reducible replace hr := RetHs.up hr); obtain ⟨v, rfl, ⟨z, rfl⟩, HH⟩ := hr) | (obtain ⟨v, rfl, ⟨z, rfl⟩, HH⟩ := hr))
          go_wp2_with (fail)
          have CA := long_all_calls v h _ HH
          rw [HA.out] at CA
          refine CA.mono ?_
          clear CA HH
          (rintro e w' hr; first | ((with_reducible replace hr := RetSlN.up hr); obtain ⟨A16, c16, rfl, ⟨z, rfl⟩, hsl⟩ := hr) | (obtain ⟨A16, c16, rfl, ⟨z, rfl⟩, hsl⟩ := hr))
          rw [HLE.out]
          obtain ⟨W9, hWW9⟩ : ∃ X, X = later W8 z := ⟨_, rfl⟩
          have hn : Below W8.heap.size W8 W9 := by rw [hWW9]; exact below_later _ _
          rw [← hWW9] at hsl ⊢
          clear hWW9
          replace H1 := H1.below hn
          replace q0 := (hn.cell (p := ⟨w.heap.size, 0, none⟩) hBl).trans q0
          replace q1 := (hn.cell (p := ⟨w.heap.size, 1, none⟩) hBl).trans q1
          replace q2 := (hn.cell (p := ⟨w.heap.size, 2, none⟩) hBl).trans q2
          replace q3 := (hn.cell (p := ⟨w.heap.size, 3, none⟩) hBl).trans q3
          replace q4 := (hn.cell (p := ⟨w.heap.size, 4, none⟩) hBl).trans q4
          replace hBl := Nat.lt_of_lt_of_le hBl hn.size
          replace hb1 := hb1.trans (hn.mono hb1.size)
          replace HX := HX.below hn
          replace x0 := (hn.cell (p := ⟨bx, 0, none⟩) hxl).trans x0
          replace x1 := (hn.cell (p := ⟨bx, 1, none⟩) hxl).trans x1
          replace x2 := (hn.cell (p := ⟨bx, 2, none⟩) hxl).trans x2
          replace x3 := (hn.cell (p := ⟨bx, 3, none⟩) hxl).trans x3
          replace x4 := (hn.cell (p := ⟨bx, 4, none⟩) hxl).trans x4
          replace hxl := Nat.lt_of_lt_of_le hxl hn.size
          replace HS1 := Lib.hid (HS1.out.below hn)
          replace HS2 := Lib.hid (HS2.out.below hn)
          replace HS3 := Lib.hid (HS3.out.below hn)
          replace HS4 := Lib.hid (HS4.out.below hn)
          have HS5 := Lib.hid hsl
          clear hn hsl
          go_wp2_with (fail)
          refine (house_calls _ x _ (by first | with_reducible exact HX | exact HX.below (below_later _ _)) hlx2 hlx3 hlx4).mono ?_
          (rintro e w' hr; first | ((with_reducible replace hr := RetHs.up hr); obtain ⟨v, rfl, ⟨z, rfl⟩, HH⟩ := hr) | (obtain ⟨v, rfl, ⟨z, rfl⟩, HH⟩ := hr))
          go_wp2_with (fail)
          have CA := long_all_calls v x _ HH
          rw [HAX.out] at CA
          refine CA.mono ?_
          clear CA HH
          (rintro e w' hr; first | ((with_reducible replace hr := RetSlN.up hr); obtain ⟨A17, c17, rfl, ⟨z, rfl⟩, hsl⟩ := hr) | (obtain ⟨A17, c17, rfl, ⟨z, rfl⟩, hsl⟩ := hr))
          rw [HLF.out]
          obtain ⟨W10, hWW10⟩ : ∃ X, X = later W9 z := ⟨_, rfl⟩
          have hn : Below W9.heap.size W9 W10 := by rw [hWW10]; exact below_later _ _
          rw [← hWW10] at hsl ⊢
          clear hWW10
          replace H1 := H1.below hn
          replace q0 := (hn.cell (p := ⟨w.heap.size, 0, none⟩) hBl).trans q0
          replace q1 := (hn.cell (p := ⟨w.heap.size, 1, none⟩) hBl).trans q1
          replace q2 := (hn.cell (p := ⟨w.heap.size, 2, none⟩) hBl).trans q2
          replace q3 := (hn.cell (p := ⟨w.heap.size, 3, none⟩) hBl).trans q3
          replace q4 := (hn.cell (p := ⟨w.heap.size, 4, none⟩) hBl).trans q4
          replace hBl := Nat.lt_of_lt_of_le hBl hn.size
          replace hb1 := hb1.trans (hn.mono hb1.size)
          replace HX := HX.below hn
          replace x0 := (hn.cell (p := ⟨bx, 0, none⟩) hxl).trans x0
          replace x1 := (hn.cell (p := ⟨bx, 1, none⟩) hxl).trans x1
          replace x2 := (hn.cell (p := ⟨bx, 2, none⟩) hxl).trans x2
          replace x3 := (hn.cell (p := ⟨bx, 3, none⟩) hxl).trans x3
          replace x4 := (hn.cell (p := ⟨bx, 4, none⟩) hxl).trans x4
          replace hxl := Nat.lt_of_lt_of_le hxl hn.size
          replace HS1 := Lib.hid (HS1.out.below hn)
          replace HS2 := Lib.hid (HS2.out.below hn)
          replace HS3 := Lib.hid (HS3.out.below hn)
          replace HS4 := Lib.hid (HS4.out.below hn)
          replace HS5 := Lib.hid (HS5.out.below hn)
          have HS6 := Lib.hid hsl
          clear hn hsl
          go_wp2_with (fail)
          refine (house_calls _ h _ (by first | with_reducible exact H1 | exact H1.below (below_later _ _)) hl2 hl3 hl4).mono ?_
          (rintro e w' hr; first | ((with_reducible replace hr := RetHs.up hr); obtain ⟨v, rfl, ⟨z, rfl⟩, HH⟩ := hr) | (obtain ⟨v, rfl, ⟨z, rfl⟩, HH⟩ := hr))
          go_wp2_with (fail)
          have CA := paid_all_calls v h _ HH
          rw [HA.out, ← HPV.out] at CA
          refine CA.mono ?_
          clear CA HH
          (rintro e w' hr; first | ((with_reducible replace hr := Ret.up hr); obtain ⟨rfl, z, rfl⟩ := hr) | (obtain ⟨rfl, z, rfl⟩ := hr))
          go_wp2_with (fail)
          refine (house_calls _ x _ (by first | with_reducible exact HX | exact HX.below (below_later _ _)) hlx2 hlx3 hlx4).mono ?_
          (rintro e w' hr; first | ((with_reducible replace hr := RetHs.up hr); obtain ⟨v, rfl, ⟨z, rfl⟩, HH⟩ := hr) | (obtain ⟨v, rfl, ⟨z, rfl⟩, HH⟩ := hr))
          go_wp2_with (fail)
          have CA := paid_all_calls v x _ HH
          rw [HAX.out, ← HPX.out] at CA
          refine CA.mono ?_
          clear CA HH
          (rintro e w' hr; first | ((with_reducible replace hr := Ret.up hr); obtain ⟨rfl, z, rfl⟩ := hr) | (obtain ⟨rfl, z, rfl⟩ := hr))
          have C1 := fun z => inside_calls A12 A13 c12 c13 h.clocksL x.clocksL (later W10 z) (HS1.out.below (below_later _ z)) (HS2.out.below (below_later _ z)) (by rw [HLA.out, HLB.out]) (by
            intro i y y' hy hy'
            have hi1 : i < h.clocks.length := by rw [← HLA.out]; exact (List.getElem?_eq_some_iff.1 hy).1
            rw [cl_get HA.out hi1] at hy
            rw [cl_get HAX.out (by rw [HXC.out]; exact hi1)] at hy'
            cases hy
            cases hy'
            exact HE3.out i)
          rw [HLA.out, HLB.out] at C1
          have C1 := Lib.hid C1
          have C2 := fun z => inside_calls A14 A15 c14 c15 h.hoursL x.hoursL (later W10 z) (HS3.out.below (below_later _ z)) (HS4.out.below (below_later _ z)) (by rw [HLC.out, HLD.out]) (by
            intro i y y' hy hy'
            have hi1 : i < h.tickets.length := by rw [← HLC.out]; exact (List.getElem?_eq_some_iff.1 hy).1
            rw [hr_get HA.out hi1] at hy
            rw [hr_get HAX.out (by rw [HXT.out]; exact hi1)] at hy'
            cases hy
            cases hy'
            exact HE4.out i)
          rw [HLC.out, HLD.out] at C2
          have C2 := Lib.hid C2
          have C3 := fun z => kept_calls A17 A16 c17 c16 x.longL h.longL (later W10 z) (HS6.out.below (below_later _ z)) (HS5.out.below (below_later _ z)) (by rw [HLE.out, HLF.out]) (by
            intro i y y' hy hy' h3
            have hi1 : i < h.tickets.length := by rw [← HLE.out]; exact (List.getElem?_eq_some_iff.1 hy').1
            rw [long_get HA.out hi1] at hy'
            rw [long_get HAX.out (by rw [HXT.out]; exact hi1)] at hy
            cases hy
            cases hy'
            exact HE5.out i h3)
          rw [HLE.out, HLF.out] at C3
          have C3 := Lib.hid C3
          go_wp2_with (fail)
          refine (C1.out _).mono ?_
          (rintro e w' hr; first | ((with_reducible replace hr := Ret.up hr); obtain ⟨rfl, z, rfl⟩ := hr) | (obtain ⟨rfl, z, rfl⟩ := hr))
          go_wp2_with (fail)
          refine (C2.out _).mono ?_
          (rintro e w' hr; first | ((with_reducible replace hr := Ret.up hr); obtain ⟨rfl, z, rfl⟩ := hr) | (obtain ⟨rfl, z, rfl⟩ := hr))
          go_wp2_with (fail)
          refine (C3.out _).mono ?_
          (rintro e w' hr; first | ((with_reducible replace hr := Ret.up hr); obtain ⟨rfl, z, rfl⟩ := hr) | (obtain ⟨rfl, z, rfl⟩ := hr))
          obtain ⟨W20, hWW20⟩ : ∃ X, X = later W10 z := ⟨_, rfl⟩
          have hn : Below W10.heap.size W10 W20 := by rw [hWW20]; exact below_later _ _
          rw [← hWW20] 
          clear hWW20
          replace H1 := H1.below hn
          replace q0 := (hn.cell (p := ⟨w.heap.size, 0, none⟩) hBl).trans q0
          replace q1 := (hn.cell (p := ⟨w.heap.size, 1, none⟩) hBl).trans q1
          replace q2 := (hn.cell (p := ⟨w.heap.size, 2, none⟩) hBl).trans q2
          replace q3 := (hn.cell (p := ⟨w.heap.size, 3, none⟩) hBl).trans q3
          replace q4 := (hn.cell (p := ⟨w.heap.size, 4, none⟩) hBl).trans q4
          replace hBl := Nat.lt_of_lt_of_le hBl hn.size
          replace hb1 := hb1.trans (hn.mono hb1.size)
          clear hn C1 C2 C3
          go_wp2_with (fail)
          refine (kept_calls (some ⟨W20.heap.size, 0, none⟩) (some ⟨W20.heap.size + 1, 0, none⟩) 1 1 [PX] [PV] _ (sl_one _ _ _ ((BlkAt.new W20 3 [.int .i64 PX]).alloc _)) (sl_one _ _ _ (blk_new1 _ _ _ _)) rfl (by
            intro i y y' hy hy' h3
            have hi0 : i = 0 := by
              have := (List.getElem?_eq_some_iff.1 hy).1
              simp only [List.length_singleton] at this
              omega
            subst hi0
            simp only [List.getElem?_cons_zero, Option.some.injEq] at hy hy'
            subst hy
            subst hy'
            exact HE6.out h3)).mono ?_
          (rintro e w' ⟨rfl, z, rfl⟩)
          go_wp2_with (fail)
          refine (awake_calls _).mono ?_
          (rintro e w' ⟨rfl, z2, rfl⟩)
          go_wp2
          go_ret
          exact ret_mk rfl (hb1.trans (Below.mono (Below.trans (gA (gA (Below.refl _ _))) ((later_below (below_later _ z) (size_later _ z)).mono (by simp only [World.size_alloc]; omega))) hb1.size))
        · have hlp : (0 : Int) < (h.leaveL.length : Int) := by
            have := List.length_pos_iff.2 hn
            omega
          have hleI : (x.leaveL.length : Int) ≤ (h.leaveL.length : Int) := by omega
          clear hn hle
          go_wp2_with (fail)
          refine (house_calls _ h _ (by first | with_reducible exact H1 | exact H1.below (below_later _ _)) hl2 hl3 hl4).mono ?_
          (rintro e w' hr; first | ((with_reducible replace hr := RetHs.up hr); obtain ⟨v, rfl, ⟨z, rfl⟩, HH⟩ := hr) | (obtain ⟨v, rfl, ⟨z, rfl⟩, HH⟩ := hr))
          go_wp2_with (fail)
          have CA := leave_calls v h _ HH
          rw [HF.out] at CA
          refine CA.mono ?_
          clear CA HH
          (rintro e w' hr; first | ((with_reducible replace hr := RetSlN.up hr); obtain ⟨A10, c10, rfl, ⟨z, rfl⟩, hsl⟩ := hr) | (obtain ⟨A10, c10, rfl, ⟨z, rfl⟩, hsl⟩ := hr))
          have hm1 := hsl.2.1
          clear hsl
          go_wp2_with (fail)
          refine (house_calls _ x _ (by first | with_reducible exact HX | exact HX.below (below_later _ _)) hlx2 hlx3 hlx4).mono ?_
          (rintro e w' hr; first | ((with_reducible replace hr := RetHs.up hr); obtain ⟨v, rfl, ⟨z, rfl⟩, HH⟩ := hr) | (obtain ⟨v, rfl, ⟨z, rfl⟩, HH⟩ := hr))
          go_wp2_with (fail)
          have CA := leave_calls v x _ HH
          rw [HFX.out] at CA
          refine CA.mono ?_
          clear CA HH
          (rintro e w' hr; first | ((with_reducible replace hr := RetSlN.up hr); obtain ⟨A11, c11, rfl, ⟨z, rfl⟩, hsl⟩ := hr) | (obtain ⟨A11, c11, rfl, ⟨z, rfl⟩, hsl⟩ := hr))
          have hm2 := hsl.2.1
          clear hsl
          go_wp2_with (fail)
          refine (awake_calls _).mono ?_
          (rintro e w' hr; first | ((with_reducible replace hr := Ret.up hr); obtain ⟨rfl, z, rfl⟩ := hr) | (obtain ⟨rfl, z, rfl⟩ := hr))
          go_wp2
          go_ret
          exact ret_mk rfl (later_below hb1 hb1.size)
end Go.Proofs.Ytcngnfnljkkjgaa
