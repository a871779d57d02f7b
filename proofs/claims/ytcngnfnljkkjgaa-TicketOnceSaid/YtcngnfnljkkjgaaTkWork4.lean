/-
The bounds of an answer over all truths.
-/
import Derived.Test.YtcngnfnljkkjgaaTkWork3
namespace Go.Proofs.Ytcngnfnljkkjgaa
open Go.RowKit
attribute [local go_sem] cell_later frozen_later lt_later le_later

/-- The least and the greatest of an answer. -/
def loB (l : List (List Int)) (f : List Int → Int) : Int := (l.map f).foldl min (f (l.headD []))
def hiB (l : List (List Int)) (f : List Int → Int) : Int := (l.map f).foldl max (f (l.headD []))
theorem fold_snoc (l : List (List Int)) (f : List Int → Int) (g : Int → Int → Int) (n : Int) (k : Nat) {x : List Int} (hx : l[k]? = some x) : ((l.take (k + 1)).map f).foldl g n = g (((l.take k).map f).foldl g n) (f x) := by
  rw [List.take_add_one, hx]
  simp
theorem KeepX.blk {b : Nat} {W W' : World} (h : KeepX b W W') {g : Nat} {t : TypeId} {cs : List Value} (H : BlkAt W g t cs) (hg : g ≠ b) : BlkAt W' g t cs := (h.block g H.lt hg).trans H

theorem KeepX.low {B b : Nat} {w W W' : World} (h : KeepX b W W') (hb : Below B w W) (hB : B ≤ b) (hs : B ≤ W.heap.size) : Below B w W' :=
  ⟨h.os.trans hb.os, h.tape.trans hb.tape, h.output.trans hb.output, Nat.le_trans hb.size h.size, fun i hi => (h.block i (by omega) (by omega)).trans (hb.block i hi)⟩

theorem noPanic_mk {Q : Exit → Act → World → Prop} {a : Act} {w : World} (h : Q .normal a w) : NoPanic Q .normal a w := h
theorem region_heldN {P : Program} {Q : Exit → Act → World → Prop} {id : Nat} {l : List Oper} {a : Act} {w : World} (C : World → Prop) (pre tl : List Nat) (n : Nat) (hm : P.follows .mixedOrders = true) (hB : regionB l.toArray pre tl n = true) (hC : C w.drew)
    (h : wpQuiet P l.toArray (fun w' => ∃ x, w' = held C w.drew x) (fun a' => wpTail P l.toArray (NoPanic Q) C n tl a' w.drew) (pre.filterMap fun i => l[i]?) a) : (Code.region id l.toArray true).wp P Q a w :=
  wp_region_noPanic (region_held C pre tl n hm hB (fun _ _ _ _ _ h => h) hC h)

set_option maxHeartbeats 2000000 in
theorem bounds_off (g : Nat) (h : Hs) (about : Int) (f : List Int → Int) (w : World) (H : WkAt w g h) (hf : Hid (h.fault = 0)) (hne : Hid (h.truths ≠ []))
    (HC : Hid (∀ (x : World) (e : List Int) (e0 e1 e2 e3 : Int), e ∈ h.truths → e4 e = [.int .i64 e0, .int .i64 e1, .int .i64 e2, .int .i64 e3] → Below w.heap.size w x →
      Calls Try.prog 80 #[.pointer (some ⟨g, 0, none⟩), .agg #[.int .i64 e0, .int .i64 e1, .int .i64 e2, .int .i64 e3], .int .i64 about] x (Ret (.int .i64 (f e)) x))) :
    Calls Try.prog 81 #[.agg #[.func (.func 80) #[] #[]], .pointer (some ⟨g, 0, none⟩), .int .i64 about] w (Ret (.agg #[.int .i64 (loB h.truths f), .int .i64 (hiB h.truths f)]) w) := by
  have H0 := H
  obtain ⟨A2, c2, A3, c3, A4, c4, A5, c5, r, l, h2, h3, h4, h5, h6, h7, h8⟩ := H
  have hgl := h8.lt
  have k5 := h8.cell 5
  simp only [List.getElem?_cons_zero, List.getElem?_cons_succ] at k5
  have htc := truths_count hf.out
  have hpos : 0 < h.truths.length := List.length_pos_iff.2 hne.out
  have hpos1 : (0 : Int) < (h.truths.length : Int) := by omega
  obtain ⟨b, off, e, e0, e1, e2, e3, rfl, hbl, he, h4', t0, t1, t2, t3⟩ := h5.atE hpos
  simp only [Nat.zero_mul, Nat.add_zero] at t0 t1 t2 t3
  have HH := Lib.hid (show h.truths.headD [] = e by
    rw [List.headD_eq_head?_getD, List.head?_eq_getElem?, he]; rfl)
  have HM := Lib.hid (List.mem_of_getElem? he)
  have HE4 := Lib.hid h4'
  have h50 := h5
  clear h2 h3 h4 h6 h7 h8 he h4' h5
  go_enter Try.func81, Try.ntmps81
  go_wp2
  obtain ⟨W1, hW1⟩ : ∃ W1, W1 = (w.alloc (.cells #[.func (.func 80) #[] #[]] 112)).alloc (.cells #[.int .i64 0, .int .i64 0] 42) := ⟨_, rfl⟩
  have hb1 : Below w.heap.size w W1 := by rw [hW1]; exact (by repeat (first | exact Below.refl _ _ | (with_reducible assumption) | apply gL | apply gA | apply gD | apply gN | (refine gS ?_ (by first | (simp; done) | (simp; omega) | omega))))
  have hs1 : W1.heap.size = w.heap.size + 2 := by rw [hW1]; simp
  have q0 : W1.cell? ⟨w.heap.size, 0, none⟩ = some (.func (.func 80) #[] #[]) := by rw [hW1]; simp [go_sem]
  have hB6 : BlkAt W1 (w.heap.size + 1) 42 [.int .i64 0, .int .i64 0] := by
    rw [hW1]
    have := BlkAt.new (w.alloc (.cells #[.func (.func 80) #[] #[]] 112)) 42 [.int .i64 0, .int .i64 0]
    rw [World.size_alloc] at this
    exact this
  rw [← hW1]
  clear hW1
  have hq : w.heap.size < W1.heap.size := by omega
  have hgl1 : g < W1.heap.size := by omega
  have hbl1 : b < W1.heap.size := by omega
  have h6l : w.heap.size + 1 < W1.heap.size := by omega
  clear hs1
  have y5 := (hb1.cell (p := ⟨g, 5, none⟩) hgl).trans k5
  have s0 := (hb1.cell (p := ⟨b, off, none⟩) hbl).trans t0
  have s1 := (hb1.cell (p := ⟨b, off + 1, none⟩) hbl).trans t1
  have s2 := (hb1.cell (p := ⟨b, off + 2, none⟩) hbl).trans t2
  have s3 := (hb1.cell (p := ⟨b, off + 3, none⟩) hbl).trans t3
  have hcall : ∀ x, Calls Try.prog 80 #[.pointer (some ⟨g, 0, none⟩), .agg #[.int .i64 e0, .int .i64 e1, .int .i64 e2, .int .i64 e3], .int .i64 about] (later W1 x) (Ret (.int .i64 (f e)) (later W1 x)) :=
    fun x => HC.out _ e e0 e1 e2 e3 HM.out HE4.out (hb1.trans (below_mono_of hb1 (below_later _ _)))
  have HCA := Lib.hid hcall
  clear hcall
  refine region_later (by kernel_rfl) (by kernel_rfl) ?_
  repeat (go_big_quiet_step (exact quiet_ret (HCA.out _)))
  refine wpQuiet_nil ?_
  rintro W' ⟨x, rfl⟩
  clear HCA s0 s1 s2 s3
  obtain ⟨n0, hn0⟩ : ∃ n, n = f e := ⟨_, rfl⟩
  rw [← hn0]
  have HN0 := Lib.hid hn0
  clear hn0
  go_wp2
  obtain ⟨W2, hW2⟩ : ∃ W2, W2 = (later W1 x).alloc (.cells #[.int .i64 n0, .int .i64 n0] 42) := ⟨_, rfl⟩
  have hb2 : Below W1.heap.size W1 W2 := by rw [hW2]; exact (by repeat (first | exact Below.refl _ _ | (with_reducible assumption) | apply gL | apply gA | apply gD | apply gN | (refine gS ?_ (by first | (simp; done) | (simp; omega) | omega))))
  obtain ⟨b8, hb8⟩ : ∃ b, b = (later W1 x).heap.size := ⟨_, rfl⟩
  have hb8l : W1.heap.size ≤ b8 := by rw [hb8]; exact size_later _ _
  have hB8 : BlkAt W2 b8 42 [.int .i64 n0, .int .i64 n0] := by rw [hW2, hb8]; exact BlkAt.new _ _ _
  rw [← hW2, ← hb8]
  clear hW2 hb8
  have hbw2 : Below w.heap.size w W2 := hb1.trans (hb2.mono hb1.size)
  have r0 := (hb2.cell (p := ⟨w.heap.size, 0, none⟩) hq).trans q0
  have hB62 := hB6.of_below hb2 h6l
  clear q0 y5 hB6
  go_loopw [30] (fun i wr => ∃ k : Nat, k ≤ h.truths.length ∧ i = .int .i64 k ∧ KeepX b8 W2 wr ∧ BlkAt wr b8 42 [.int .i64 (((h.truths.take k).map f).foldl min n0), .int .i64 (((h.truths.take k).map f).foldl max n0)]) (fun i _ => h.truths.length - (intOf i).toNat)
  case atStart => exact ⟨0, Nat.zero_le _, rfl, KeepX.refl _ _, hB8⟩
  case round =>
    obtain ⟨k, hk, rfl, hkx, hBk⟩ := hrel
    have hbwr : Below w.heap.size w wr := hkx.low hbw2 (by omega) hbw2.size
    have c0 := hkx.cell r0 (by show w.heap.size ≠ b8; omega)
    by_cases hlt : k < h.truths.length
    · have hlt1 : (k : Int) < (h.truths.length : Int) := by omega
      have hk0 : (0 : Int) ≤ (k : Int) := Int.natCast_nonneg _
      obtain ⟨b', off', x', x0, x1, x2, x3, hA, hbl', hx', h4x, u0, u1, u2, u3⟩ := (h50.below hbwr).atE hlt
      cases hA
      obtain ⟨lo, hlo⟩ : ∃ n, n = ((h.truths.take k).map f).foldl min n0 := ⟨_, rfl⟩
      obtain ⟨hi, hhi⟩ : ∃ n, n = ((h.truths.take k).map f).foldl max n0 := ⟨_, rfl⟩
      have HSL := Lib.hid (fold_snoc h.truths f min n0 k hx')
      have HSH := Lib.hid (fold_snoc h.truths f max n0 k hx')
      rw [← hlo] at HSL
      rw [← hhi] at HSH
      rw [← hlo, ← hhi] at hBk
      have HMX := Lib.hid (List.mem_of_getElem? hx')
      have HX4 := Lib.hid h4x
      clear hx' h4x hlo hhi
      have hb8w := hBk.lt
      go_wp2
      obtain ⟨W3, hW3⟩ : ∃ W3, W3 = wr.alloc (.cells #[.int .i64 x0, .int .i64 x1, .int .i64 x2, .int .i64 x3] 119) := ⟨_, rfl⟩
      have hb3 : Below wr.heap.size wr W3 := by rw [hW3]; exact (by repeat (first | exact Below.refl _ _ | (with_reducible assumption) | apply gL | apply gA | apply gD | apply gN | (refine gS ?_ (by first | (simp; done) | (simp; omega) | omega))))
      have hB3 : BlkAt W3 wr.heap.size 119 [.int .i64 x0, .int .i64 x1, .int .i64 x2, .int .i64 x3] := by rw [hW3]; exact BlkAt.new _ _ _
      obtain ⟨g10, hg10⟩ : ∃ g, g = wr.heap.size := ⟨_, rfl⟩
      rw [← hW3, ← hg10]
      rw [← hg10] at hB3
      have hqr : w.heap.size < wr.heap.size := World.block_lt_of_cell? wr _ c0
      have d0 := hB3.cell 0
      have d1 := hB3.cell 1
      have d2 := hB3.cell 2
      have d3 := hB3.cell 3
      have hB83 := hBk.of_below hb3 hb8w
      have m0 := hB83.cell 0
      have m1 := hB83.cell 1
      have c03 := (hb3.cell (p := ⟨w.heap.size, 0, none⟩) hqr).trans c0
      simp only [List.getElem?_cons_zero, List.getElem?_cons_succ] at d0 d1 d2 d3 m0 m1
      have hbw3 : Below w.heap.size w W3.drew := (hbwr.trans (hb3.mono hbwr.size)).drew
      have hcall := HC.out _ x' x0 x1 x2 x3 HMX.out HX4.out hbw3
      have HCA := Lib.hid hcall
      have hl3 : ∀ a ∈ ([⟨b8, 0, none⟩, ⟨b8, 1, none⟩, ⟨w.heap.size, 0, none⟩, ⟨g10, 0, none⟩, ⟨g10, 1, none⟩, ⟨g10, 2, none⟩, ⟨g10, 3, none⟩] : List Addr), a.block < W3.heap.size := by
        have := hB83.lt
        have := hB3.lt
        have := hb3.size
        intro a ha
        simp only [List.mem_cons, List.not_mem_nil, or_false] at ha
        rcases ha with rfl | rfl | rfl | rfl | rfl | rfl | rfl <;> simp <;> omega
      obtain ⟨C, hC⟩ : ∃ C, C = Same [⟨b8, 0, none⟩, ⟨b8, 1, none⟩, ⟨w.heap.size, 0, none⟩, ⟨g10, 0, none⟩, ⟨g10, 1, none⟩, ⟨g10, 2, none⟩, ⟨g10, 3, none⟩] W3 := ⟨_, rfl⟩
      obtain ⟨G, hG⟩ : ∃ G, G = held C W3.drew := ⟨_, rfl⟩
      have hfs : ∀ a ∈ ([⟨b8, 0, none⟩, ⟨b8, 1, none⟩, ⟨w.heap.size, 0, none⟩, ⟨g10, 0, none⟩, ⟨g10, 1, none⟩, ⟨g10, 2, none⟩, ⟨g10, 3, none⟩] : List Addr), ∀ u, W3.cell? a = some u → ∀ x, (G x).cell? a = some u := fun a ha u hu x => by
        rw [hG, hC]
        exact same_held hu ha x
      have f0 := hfs _ (by simp) _ d0
      have f1 := hfs _ (by simp) _ d1
      have f2 := hfs _ (by simp) _ d2
      have f3 := hfs _ (by simp) _ d3
      have fm0 := hfs _ (by simp) _ m0
      have fm1 := hfs _ (by simp) _ m1
      have fc := hfs _ (by simp) _ c03
      have hCl : ∀ z, C (later W3.drew z) := fun z => by
        rw [hC]
        exact same_below (Below.trans (gD (Below.refl _ _)) (below_later W3.drew z)) hl3
      have HCL := Lib.hid hCl
      refine region_heldN C [0, 1, 2, 3, 4, 5] [6, 7] 8 (by kernel_rfl) (by kernel_rfl) (by rw [hC]; exact same_drew) ?_
      rw [← hG]
      clear hfs hCl hcall hC hG hg10 hW3 hl3 c0
      simp only [List.filterMap_cons, List.filterMap_nil, List.getElem?_cons_zero, List.getElem?_cons_succ]
      change wpQuiet _ _ _ _ [_, _, _, _, _, _] _
      repeat (go_big_quiet_step (fail))
      refine wpQuiet_nil ?_
      clear f0 f1 f2 f3 fm0 fm1 fc
      refine wpTail_cons rfl (fun K hK => ?_)
      go_simp
      refine HCA.out.mono ?_
      (rintro e w' hr; first | ((with_reducible replace hr := Ret.up hr); obtain ⟨rfl, z, rfl⟩ := hr) | (obtain ⟨rfl, z, rfl⟩ := hr))
      refine hK.out _ _ (HCL.out _) ?_
      clear hK K
      refine wpTail_cons rfl (fun K hK => ?_)
      go_simp
      refine (wider_calls _ _ _ _).mono ?_
      (rintro e w' hr; first | ((with_reducible replace hr := Ret.up hr); obtain ⟨rfl, z, rfl⟩ := hr) | (obtain ⟨rfl, z, rfl⟩ := hr))
      refine hK.out _ _ (HCL.out _) ?_
      clear hK K
      obtain ⟨W4, hW4⟩ : ∃ W4, W4 = later W3.drew z := ⟨_, rfl⟩
      have hb4 : Below W3.heap.size W3 W4 := by rw [hW4]; exact Below.trans (gD (Below.refl _ _)) (below_later W3.drew z)
      rw [← hW4]
      clear hW4 HCL HCA
      have hB84 := hB83.of_below hb4 hB83.lt
      have z0 := hB84.cell 0
      have z1 := hB84.cell 1
      have zf0 := hB84.frozen 0
      have zf1 := hB84.frozen 1
      simp only [List.getElem?_cons_zero, List.getElem?_cons_succ] at z0 z1
      have hkx4 : KeepX b8 W2 W4 := (hkx.trans (KeepX.of_below hb3)).trans (KeepX.of_below hb4)
      refine wpTail_nil rfl (fun K hK => ?_)
      go_simp
      refine hK.out _ _ (noPanic_mk ?_)
      clear hK K
      go_wp2
      go_roundw
      case rel => exact ⟨k + 1, by omega, by go_num, (hkx4.trans (KeepX.set_ _ _ _)).trans (KeepX.set_ _ _ _), by rw [HSL.out, HSH.out]; exact (hB84.set_ 0 _).set_ 1 _⟩
      case measure => simp [intOf]; omega
    · obtain rfl : k = h.truths.length := by omega
      rw [List.take_length] at hBk
      have m0 := hBk.cell 0
      have m1 := hBk.cell 1
      have hB6r := hkx.blk hB62 (by omega)
      have z0 := hB6r.cell 0
      have z1 := hB6r.cell 1
      have zf0 := hB6r.frozen 0
      have zf1 := hB6r.frozen 1
      simp only [List.getElem?_cons_zero, List.getElem?_cons_succ] at m0 m1 z0 z1
      have HLO := Lib.hid (show loB h.truths f = ((h.truths.map f).foldl min n0) by rw [loB, HH.out, HN0.out])
      have HHI := Lib.hid (show hiB h.truths f = ((h.truths.map f).foldl max n0) by rw [hiB, HH.out, HN0.out])
      go_wp2
      refine bodyPost_ret (v := .agg #[.int .i64 ((h.truths.map f).foldl min n0), .int .i64 ((h.truths.map f).foldl max n0)]) ?hr rfl (ret_mk (by rw [HLO.out, HHI.out]) (gS (gS hbwr (by simp)) (by simp)))
      case hr => simp [results, Try.results81, go_sem, *]

set_option maxHeartbeats 2000000 in
theorem bounds_hours (g : Nat) (h : Hs) (about : Int) (f : List Int → Int) (w : World) (H : WkAt w g h) (hf : Hid (h.fault = 0)) (hne : Hid (h.truths ≠ []))
    (HC : Hid (∀ (x : World) (e : List Int) (e0 e1 e2 e3 : Int), e ∈ h.truths → e4 e = [.int .i64 e0, .int .i64 e1, .int .i64 e2, .int .i64 e3] → Below w.heap.size w x →
      Calls Try.prog 82 #[.pointer (some ⟨g, 0, none⟩), .agg #[.int .i64 e0, .int .i64 e1, .int .i64 e2, .int .i64 e3], .int .i64 about] x (Ret (.int .i64 (f e)) x))) :
    Calls Try.prog 81 #[.agg #[.func (.func 82) #[] #[]], .pointer (some ⟨g, 0, none⟩), .int .i64 about] w (Ret (.agg #[.int .i64 (loB h.truths f), .int .i64 (hiB h.truths f)]) w) := by
  have H0 := H
  obtain ⟨A2, c2, A3, c3, A4, c4, A5, c5, r, l, h2, h3, h4, h5, h6, h7, h8⟩ := H
  have hgl := h8.lt
  have k5 := h8.cell 5
  simp only [List.getElem?_cons_zero, List.getElem?_cons_succ] at k5
  have htc := truths_count hf.out
  have hpos : 0 < h.truths.length := List.length_pos_iff.2 hne.out
  have hpos1 : (0 : Int) < (h.truths.length : Int) := by omega
  obtain ⟨b, off, e, e0, e1, e2, e3, rfl, hbl, he, h4', t0, t1, t2, t3⟩ := h5.atE hpos
  simp only [Nat.zero_mul, Nat.add_zero] at t0 t1 t2 t3
  have HH := Lib.hid (show h.truths.headD [] = e by
    rw [List.headD_eq_head?_getD, List.head?_eq_getElem?, he]; rfl)
  have HM := Lib.hid (List.mem_of_getElem? he)
  have HE4 := Lib.hid h4'
  have h50 := h5
  clear h2 h3 h4 h6 h7 h8 he h4' h5
  go_enter Try.func81, Try.ntmps81
  go_wp2
  obtain ⟨W1, hW1⟩ : ∃ W1, W1 = (w.alloc (.cells #[.func (.func 82) #[] #[]] 112)).alloc (.cells #[.int .i64 0, .int .i64 0] 42) := ⟨_, rfl⟩
  have hb1 : Below w.heap.size w W1 := by rw [hW1]; exact (by repeat (first | exact Below.refl _ _ | (with_reducible assumption) | apply gL | apply gA | apply gD | apply gN | (refine gS ?_ (by first | (simp; done) | (simp; omega) | omega))))
  have hs1 : W1.heap.size = w.heap.size + 2 := by rw [hW1]; simp
  have q0 : W1.cell? ⟨w.heap.size, 0, none⟩ = some (.func (.func 82) #[] #[]) := by rw [hW1]; simp [go_sem]
  have hB6 : BlkAt W1 (w.heap.size + 1) 42 [.int .i64 0, .int .i64 0] := by
    rw [hW1]
    have := BlkAt.new (w.alloc (.cells #[.func (.func 82) #[] #[]] 112)) 42 [.int .i64 0, .int .i64 0]
    rw [World.size_alloc] at this
    exact this
  rw [← hW1]
  clear hW1
  have hq : w.heap.size < W1.heap.size := by omega
  have hgl1 : g < W1.heap.size := by omega
  have hbl1 : b < W1.heap.size := by omega
  have h6l : w.heap.size + 1 < W1.heap.size := by omega
  clear hs1
  have y5 := (hb1.cell (p := ⟨g, 5, none⟩) hgl).trans k5
  have s0 := (hb1.cell (p := ⟨b, off, none⟩) hbl).trans t0
  have s1 := (hb1.cell (p := ⟨b, off + 1, none⟩) hbl).trans t1
  have s2 := (hb1.cell (p := ⟨b, off + 2, none⟩) hbl).trans t2
  have s3 := (hb1.cell (p := ⟨b, off + 3, none⟩) hbl).trans t3
  have hcall : ∀ x, Calls Try.prog 82 #[.pointer (some ⟨g, 0, none⟩), .agg #[.int .i64 e0, .int .i64 e1, .int .i64 e2, .int .i64 e3], .int .i64 about] (later W1 x) (Ret (.int .i64 (f e)) (later W1 x)) :=
    fun x => HC.out _ e e0 e1 e2 e3 HM.out HE4.out (hb1.trans (below_mono_of hb1 (below_later _ _)))
  have HCA := Lib.hid hcall
  clear hcall
  refine region_later (by kernel_rfl) (by kernel_rfl) ?_
  repeat (go_big_quiet_step (exact quiet_ret (HCA.out _)))
  refine wpQuiet_nil ?_
  rintro W' ⟨x, rfl⟩
  clear HCA s0 s1 s2 s3
  obtain ⟨n0, hn0⟩ : ∃ n, n = f e := ⟨_, rfl⟩
  rw [← hn0]
  have HN0 := Lib.hid hn0
  clear hn0
  go_wp2
  obtain ⟨W2, hW2⟩ : ∃ W2, W2 = (later W1 x).alloc (.cells #[.int .i64 n0, .int .i64 n0] 42) := ⟨_, rfl⟩
  have hb2 : Below W1.heap.size W1 W2 := by rw [hW2]; exact (by repeat (first | exact Below.refl _ _ | (with_reducible assumption) | apply gL | apply gA | apply gD | apply gN | (refine gS ?_ (by first | (simp; done) | (simp; omega) | omega))))
  obtain ⟨b8, hb8⟩ : ∃ b, b = (later W1 x).heap.size := ⟨_, rfl⟩
  have hb8l : W1.heap.size ≤ b8 := by rw [hb8]; exact size_later _ _
  have hB8 : BlkAt W2 b8 42 [.int .i64 n0, .int .i64 n0] := by rw [hW2, hb8]; exact BlkAt.new _ _ _
  rw [← hW2, ← hb8]
  clear hW2 hb8
  have hbw2 : Below w.heap.size w W2 := hb1.trans (hb2.mono hb1.size)
  have r0 := (hb2.cell (p := ⟨w.heap.size, 0, none⟩) hq).trans q0
  have hB62 := hB6.of_below hb2 h6l
  clear q0 y5 hB6
  go_loopw [30] (fun i wr => ∃ k : Nat, k ≤ h.truths.length ∧ i = .int .i64 k ∧ KeepX b8 W2 wr ∧ BlkAt wr b8 42 [.int .i64 (((h.truths.take k).map f).foldl min n0), .int .i64 (((h.truths.take k).map f).foldl max n0)]) (fun i _ => h.truths.length - (intOf i).toNat)
  case atStart => exact ⟨0, Nat.zero_le _, rfl, KeepX.refl _ _, hB8⟩
  case round =>
    obtain ⟨k, hk, rfl, hkx, hBk⟩ := hrel
    have hbwr : Below w.heap.size w wr := hkx.low hbw2 (by omega) hbw2.size
    have c0 := hkx.cell r0 (by show w.heap.size ≠ b8; omega)
    by_cases hlt : k < h.truths.length
    · have hlt1 : (k : Int) < (h.truths.length : Int) := by omega
      have hk0 : (0 : Int) ≤ (k : Int) := Int.natCast_nonneg _
      obtain ⟨b', off', x', x0, x1, x2, x3, hA, hbl', hx', h4x, u0, u1, u2, u3⟩ := (h50.below hbwr).atE hlt
      cases hA
      obtain ⟨lo, hlo⟩ : ∃ n, n = ((h.truths.take k).map f).foldl min n0 := ⟨_, rfl⟩
      obtain ⟨hi, hhi⟩ : ∃ n, n = ((h.truths.take k).map f).foldl max n0 := ⟨_, rfl⟩
      have HSL := Lib.hid (fold_snoc h.truths f min n0 k hx')
      have HSH := Lib.hid (fold_snoc h.truths f max n0 k hx')
      rw [← hlo] at HSL
      rw [← hhi] at HSH
      rw [← hlo, ← hhi] at hBk
      have HMX := Lib.hid (List.mem_of_getElem? hx')
      have HX4 := Lib.hid h4x
      clear hx' h4x hlo hhi
      have hb8w := hBk.lt
      go_wp2
      obtain ⟨W3, hW3⟩ : ∃ W3, W3 = wr.alloc (.cells #[.int .i64 x0, .int .i64 x1, .int .i64 x2, .int .i64 x3] 119) := ⟨_, rfl⟩
      have hb3 : Below wr.heap.size wr W3 := by rw [hW3]; exact (by repeat (first | exact Below.refl _ _ | (with_reducible assumption) | apply gL | apply gA | apply gD | apply gN | (refine gS ?_ (by first | (simp; done) | (simp; omega) | omega))))
      have hB3 : BlkAt W3 wr.heap.size 119 [.int .i64 x0, .int .i64 x1, .int .i64 x2, .int .i64 x3] := by rw [hW3]; exact BlkAt.new _ _ _
      obtain ⟨g10, hg10⟩ : ∃ g, g = wr.heap.size := ⟨_, rfl⟩
      rw [← hW3, ← hg10]
      rw [← hg10] at hB3
      have hqr : w.heap.size < wr.heap.size := World.block_lt_of_cell? wr _ c0
      have d0 := hB3.cell 0
      have d1 := hB3.cell 1
      have d2 := hB3.cell 2
      have d3 := hB3.cell 3
      have hB83 := hBk.of_below hb3 hb8w
      have m0 := hB83.cell 0
      have m1 := hB83.cell 1
      have c03 := (hb3.cell (p := ⟨w.heap.size, 0, none⟩) hqr).trans c0
      simp only [List.getElem?_cons_zero, List.getElem?_cons_succ] at d0 d1 d2 d3 m0 m1
      have hbw3 : Below w.heap.size w W3.drew := (hbwr.trans (hb3.mono hbwr.size)).drew
      have hcall := HC.out _ x' x0 x1 x2 x3 HMX.out HX4.out hbw3
      have HCA := Lib.hid hcall
      have hl3 : ∀ a ∈ ([⟨b8, 0, none⟩, ⟨b8, 1, none⟩, ⟨w.heap.size, 0, none⟩, ⟨g10, 0, none⟩, ⟨g10, 1, none⟩, ⟨g10, 2, none⟩, ⟨g10, 3, none⟩] : List Addr), a.block < W3.heap.size := by
        have := hB83.lt
        have := hB3.lt
        have := hb3.size
        intro a ha
        simp only [List.mem_cons, List.not_mem_nil, or_false] at ha
        rcases ha with rfl | rfl | rfl | rfl | rfl | rfl | rfl <;> simp <;> omega
      obtain ⟨C, hC⟩ : ∃ C, C = Same [⟨b8, 0, none⟩, ⟨b8, 1, none⟩, ⟨w.heap.size, 0, none⟩, ⟨g10, 0, none⟩, ⟨g10, 1, none⟩, ⟨g10, 2, none⟩, ⟨g10, 3, none⟩] W3 := ⟨_, rfl⟩
      obtain ⟨G, hG⟩ : ∃ G, G = held C W3.drew := ⟨_, rfl⟩
      have hfs : ∀ a ∈ ([⟨b8, 0, none⟩, ⟨b8, 1, none⟩, ⟨w.heap.size, 0, none⟩, ⟨g10, 0, none⟩, ⟨g10, 1, none⟩, ⟨g10, 2, none⟩, ⟨g10, 3, none⟩] : List Addr), ∀ u, W3.cell? a = some u → ∀ x, (G x).cell? a = some u := fun a ha u hu x => by
        rw [hG, hC]
        exact same_held hu ha x
      have f0 := hfs _ (by simp) _ d0
      have f1 := hfs _ (by simp) _ d1
      have f2 := hfs _ (by simp) _ d2
      have f3 := hfs _ (by simp) _ d3
      have fm0 := hfs _ (by simp) _ m0
      have fm1 := hfs _ (by simp) _ m1
      have fc := hfs _ (by simp) _ c03
      have hCl : ∀ z, C (later W3.drew z) := fun z => by
        rw [hC]
        exact same_below (Below.trans (gD (Below.refl _ _)) (below_later W3.drew z)) hl3
      have HCL := Lib.hid hCl
      refine region_heldN C [0, 1, 2, 3, 4, 5] [6, 7] 8 (by kernel_rfl) (by kernel_rfl) (by rw [hC]; exact same_drew) ?_
      rw [← hG]
      clear hfs hCl hcall hC hG hg10 hW3 hl3 c0
      simp only [List.filterMap_cons, List.filterMap_nil, List.getElem?_cons_zero, List.getElem?_cons_succ]
      change wpQuiet _ _ _ _ [_, _, _, _, _, _] _
      repeat (go_big_quiet_step (fail))
      refine wpQuiet_nil ?_
      clear f0 f1 f2 f3 fm0 fm1 fc
      refine wpTail_cons rfl (fun K hK => ?_)
      go_simp
      refine HCA.out.mono ?_
      (rintro e w' hr; first | ((with_reducible replace hr := Ret.up hr); obtain ⟨rfl, z, rfl⟩ := hr) | (obtain ⟨rfl, z, rfl⟩ := hr))
      refine hK.out _ _ (HCL.out _) ?_
      clear hK K
      refine wpTail_cons rfl (fun K hK => ?_)
      go_simp
      refine (wider_calls _ _ _ _).mono ?_
      (rintro e w' hr; first | ((with_reducible replace hr := Ret.up hr); obtain ⟨rfl, z, rfl⟩ := hr) | (obtain ⟨rfl, z, rfl⟩ := hr))
      refine hK.out _ _ (HCL.out _) ?_
      clear hK K
      obtain ⟨W4, hW4⟩ : ∃ W4, W4 = later W3.drew z := ⟨_, rfl⟩
      have hb4 : Below W3.heap.size W3 W4 := by rw [hW4]; exact Below.trans (gD (Below.refl _ _)) (below_later W3.drew z)
      rw [← hW4]
      clear hW4 HCL HCA
      have hB84 := hB83.of_below hb4 hB83.lt
      have z0 := hB84.cell 0
      have z1 := hB84.cell 1
      have zf0 := hB84.frozen 0
      have zf1 := hB84.frozen 1
      simp only [List.getElem?_cons_zero, List.getElem?_cons_succ] at z0 z1
      have hkx4 : KeepX b8 W2 W4 := (hkx.trans (KeepX.of_below hb3)).trans (KeepX.of_below hb4)
      refine wpTail_nil rfl (fun K hK => ?_)
      go_simp
      refine hK.out _ _ (noPanic_mk ?_)
      clear hK K
      go_wp2
      go_roundw
      case rel => exact ⟨k + 1, by omega, by go_num, (hkx4.trans (KeepX.set_ _ _ _)).trans (KeepX.set_ _ _ _), by rw [HSL.out, HSH.out]; exact (hB84.set_ 0 _).set_ 1 _⟩
      case measure => simp [intOf]; omega
    · obtain rfl : k = h.truths.length := by omega
      rw [List.take_length] at hBk
      have m0 := hBk.cell 0
      have m1 := hBk.cell 1
      have hB6r := hkx.blk hB62 (by omega)
      have z0 := hB6r.cell 0
      have z1 := hB6r.cell 1
      have zf0 := hB6r.frozen 0
      have zf1 := hB6r.frozen 1
      simp only [List.getElem?_cons_zero, List.getElem?_cons_succ] at m0 m1 z0 z1
      have HLO := Lib.hid (show loB h.truths f = ((h.truths.map f).foldl min n0) by rw [loB, HH.out, HN0.out])
      have HHI := Lib.hid (show hiB h.truths f = ((h.truths.map f).foldl max n0) by rw [hiB, HH.out, HN0.out])
      go_wp2
      refine bodyPost_ret (v := .agg #[.int .i64 ((h.truths.map f).foldl min n0), .int .i64 ((h.truths.map f).foldl max n0)]) ?hr rfl (ret_mk (by rw [HLO.out, HHI.out]) (gS (gS hbwr (by simp)) (by simp)))
      case hr => simp [results, Try.results81, go_sem, *]

set_option maxHeartbeats 2000000 in
theorem bounds_from (g : Nat) (h : Hs) (about : Int) (f : List Int → Int) (w : World) (H : WkAt w g h) (hf : Hid (h.fault = 0)) (hne : Hid (h.truths ≠ []))
    (HC : Hid (∀ (x : World) (e : List Int) (e0 e1 e2 e3 : Int), e ∈ h.truths → e4 e = [.int .i64 e0, .int .i64 e1, .int .i64 e2, .int .i64 e3] → Below w.heap.size w x →
      Calls Try.prog 96 #[.pointer (some ⟨g, 0, none⟩), .agg #[.int .i64 e0, .int .i64 e1, .int .i64 e2, .int .i64 e3], .int .i64 about] x (Ret (.int .i64 (f e)) x))) :
    Calls Try.prog 81 #[.agg #[.func (.func 96) #[] #[]], .pointer (some ⟨g, 0, none⟩), .int .i64 about] w (Ret (.agg #[.int .i64 (loB h.truths f), .int .i64 (hiB h.truths f)]) w) := by
  have H0 := H
  obtain ⟨A2, c2, A3, c3, A4, c4, A5, c5, r, l, h2, h3, h4, h5, h6, h7, h8⟩ := H
  have hgl := h8.lt
  have k5 := h8.cell 5
  simp only [List.getElem?_cons_zero, List.getElem?_cons_succ] at k5
  have htc := truths_count hf.out
  have hpos : 0 < h.truths.length := List.length_pos_iff.2 hne.out
  have hpos1 : (0 : Int) < (h.truths.length : Int) := by omega
  obtain ⟨b, off, e, e0, e1, e2, e3, rfl, hbl, he, h4', t0, t1, t2, t3⟩ := h5.atE hpos
  simp only [Nat.zero_mul, Nat.add_zero] at t0 t1 t2 t3
  have HH := Lib.hid (show h.truths.headD [] = e by
    rw [List.headD_eq_head?_getD, List.head?_eq_getElem?, he]; rfl)
  have HM := Lib.hid (List.mem_of_getElem? he)
  have HE4 := Lib.hid h4'
  have h50 := h5
  clear h2 h3 h4 h6 h7 h8 he h4' h5
  go_enter Try.func81, Try.ntmps81
  go_wp2
  obtain ⟨W1, hW1⟩ : ∃ W1, W1 = (w.alloc (.cells #[.func (.func 96) #[] #[]] 112)).alloc (.cells #[.int .i64 0, .int .i64 0] 42) := ⟨_, rfl⟩
  have hb1 : Below w.heap.size w W1 := by rw [hW1]; exact (by repeat (first | exact Below.refl _ _ | (with_reducible assumption) | apply gL | apply gA | apply gD | apply gN | (refine gS ?_ (by first | (simp; done) | (simp; omega) | omega))))
  have hs1 : W1.heap.size = w.heap.size + 2 := by rw [hW1]; simp
  have q0 : W1.cell? ⟨w.heap.size, 0, none⟩ = some (.func (.func 96) #[] #[]) := by rw [hW1]; simp [go_sem]
  have hB6 : BlkAt W1 (w.heap.size + 1) 42 [.int .i64 0, .int .i64 0] := by
    rw [hW1]
    have := BlkAt.new (w.alloc (.cells #[.func (.func 96) #[] #[]] 112)) 42 [.int .i64 0, .int .i64 0]
    rw [World.size_alloc] at this
    exact this
  rw [← hW1]
  clear hW1
  have hq : w.heap.size < W1.heap.size := by omega
  have hgl1 : g < W1.heap.size := by omega
  have hbl1 : b < W1.heap.size := by omega
  have h6l : w.heap.size + 1 < W1.heap.size := by omega
  clear hs1
  have y5 := (hb1.cell (p := ⟨g, 5, none⟩) hgl).trans k5
  have s0 := (hb1.cell (p := ⟨b, off, none⟩) hbl).trans t0
  have s1 := (hb1.cell (p := ⟨b, off + 1, none⟩) hbl).trans t1
  have s2 := (hb1.cell (p := ⟨b, off + 2, none⟩) hbl).trans t2
  have s3 := (hb1.cell (p := ⟨b, off + 3, none⟩) hbl).trans t3
  have hcall : ∀ x, Calls Try.prog 96 #[.pointer (some ⟨g, 0, none⟩), .agg #[.int .i64 e0, .int .i64 e1, .int .i64 e2, .int .i64 e3], .int .i64 about] (later W1 x) (Ret (.int .i64 (f e)) (later W1 x)) :=
    fun x => HC.out _ e e0 e1 e2 e3 HM.out HE4.out (hb1.trans (below_mono_of hb1 (below_later _ _)))
  have HCA := Lib.hid hcall
  clear hcall
  refine region_later (by kernel_rfl) (by kernel_rfl) ?_
  repeat (go_big_quiet_step (exact quiet_ret (HCA.out _)))
  refine wpQuiet_nil ?_
  rintro W' ⟨x, rfl⟩
  clear HCA s0 s1 s2 s3
  obtain ⟨n0, hn0⟩ : ∃ n, n = f e := ⟨_, rfl⟩
  rw [← hn0]
  have HN0 := Lib.hid hn0
  clear hn0
  go_wp2
  obtain ⟨W2, hW2⟩ : ∃ W2, W2 = (later W1 x).alloc (.cells #[.int .i64 n0, .int .i64 n0] 42) := ⟨_, rfl⟩
  have hb2 : Below W1.heap.size W1 W2 := by rw [hW2]; exact (by repeat (first | exact Below.refl _ _ | (with_reducible assumption) | apply gL | apply gA | apply gD | apply gN | (refine gS ?_ (by first | (simp; done) | (simp; omega) | omega))))
  obtain ⟨b8, hb8⟩ : ∃ b, b = (later W1 x).heap.size := ⟨_, rfl⟩
  have hb8l : W1.heap.size ≤ b8 := by rw [hb8]; exact size_later _ _
  have hB8 : BlkAt W2 b8 42 [.int .i64 n0, .int .i64 n0] := by rw [hW2, hb8]; exact BlkAt.new _ _ _
  rw [← hW2, ← hb8]
  clear hW2 hb8
  have hbw2 : Below w.heap.size w W2 := hb1.trans (hb2.mono hb1.size)
  have r0 := (hb2.cell (p := ⟨w.heap.size, 0, none⟩) hq).trans q0
  have hB62 := hB6.of_below hb2 h6l
  clear q0 y5 hB6
  go_loopw [30] (fun i wr => ∃ k : Nat, k ≤ h.truths.length ∧ i = .int .i64 k ∧ KeepX b8 W2 wr ∧ BlkAt wr b8 42 [.int .i64 (((h.truths.take k).map f).foldl min n0), .int .i64 (((h.truths.take k).map f).foldl max n0)]) (fun i _ => h.truths.length - (intOf i).toNat)
  case atStart => exact ⟨0, Nat.zero_le _, rfl, KeepX.refl _ _, hB8⟩
  case round =>
    obtain ⟨k, hk, rfl, hkx, hBk⟩ := hrel
    have hbwr : Below w.heap.size w wr := hkx.low hbw2 (by omega) hbw2.size
    have c0 := hkx.cell r0 (by show w.heap.size ≠ b8; omega)
    by_cases hlt : k < h.truths.length
    · have hlt1 : (k : Int) < (h.truths.length : Int) := by omega
      have hk0 : (0 : Int) ≤ (k : Int) := Int.natCast_nonneg _
      obtain ⟨b', off', x', x0, x1, x2, x3, hA, hbl', hx', h4x, u0, u1, u2, u3⟩ := (h50.below hbwr).atE hlt
      cases hA
      obtain ⟨lo, hlo⟩ : ∃ n, n = ((h.truths.take k).map f).foldl min n0 := ⟨_, rfl⟩
      obtain ⟨hi, hhi⟩ : ∃ n, n = ((h.truths.take k).map f).foldl max n0 := ⟨_, rfl⟩
      have HSL := Lib.hid (fold_snoc h.truths f min n0 k hx')
      have HSH := Lib.hid (fold_snoc h.truths f max n0 k hx')
      rw [← hlo] at HSL
      rw [← hhi] at HSH
      rw [← hlo, ← hhi] at hBk
      have HMX := Lib.hid (List.mem_of_getElem? hx')
      have HX4 := Lib.hid h4x
      clear hx' h4x hlo hhi
      have hb8w := hBk.lt
      go_wp2
      obtain ⟨W3, hW3⟩ : ∃ W3, W3 = wr.alloc (.cells #[.int .i64 x0, .int .i64 x1, .int .i64 x2, .int .i64 x3] 119) := ⟨_, rfl⟩
      have hb3 : Below wr.heap.size wr W3 := by rw [hW3]; exact (by repeat (first | exact Below.refl _ _ | (with_reducible assumption) | apply gL | apply gA | apply gD | apply gN | (refine gS ?_ (by first | (simp; done) | (simp; omega) | omega))))
      have hB3 : BlkAt W3 wr.heap.size 119 [.int .i64 x0, .int .i64 x1, .int .i64 x2, .int .i64 x3] := by rw [hW3]; exact BlkAt.new _ _ _
      obtain ⟨g10, hg10⟩ : ∃ g, g = wr.heap.size := ⟨_, rfl⟩
      rw [← hW3, ← hg10]
      rw [← hg10] at hB3
      have hqr : w.heap.size < wr.heap.size := World.block_lt_of_cell? wr _ c0
      have d0 := hB3.cell 0
      have d1 := hB3.cell 1
      have d2 := hB3.cell 2
      have d3 := hB3.cell 3
      have hB83 := hBk.of_below hb3 hb8w
      have m0 := hB83.cell 0
      have m1 := hB83.cell 1
      have c03 := (hb3.cell (p := ⟨w.heap.size, 0, none⟩) hqr).trans c0
      simp only [List.getElem?_cons_zero, List.getElem?_cons_succ] at d0 d1 d2 d3 m0 m1
      have hbw3 : Below w.heap.size w W3.drew := (hbwr.trans (hb3.mono hbwr.size)).drew
      have hcall := HC.out _ x' x0 x1 x2 x3 HMX.out HX4.out hbw3
      have HCA := Lib.hid hcall
      have hl3 : ∀ a ∈ ([⟨b8, 0, none⟩, ⟨b8, 1, none⟩, ⟨w.heap.size, 0, none⟩, ⟨g10, 0, none⟩, ⟨g10, 1, none⟩, ⟨g10, 2, none⟩, ⟨g10, 3, none⟩] : List Addr), a.block < W3.heap.size := by
        have := hB83.lt
        have := hB3.lt
        have := hb3.size
        intro a ha
        simp only [List.mem_cons, List.not_mem_nil, or_false] at ha
        rcases ha with rfl | rfl | rfl | rfl | rfl | rfl | rfl <;> simp <;> omega
      obtain ⟨C, hC⟩ : ∃ C, C = Same [⟨b8, 0, none⟩, ⟨b8, 1, none⟩, ⟨w.heap.size, 0, none⟩, ⟨g10, 0, none⟩, ⟨g10, 1, none⟩, ⟨g10, 2, none⟩, ⟨g10, 3, none⟩] W3 := ⟨_, rfl⟩
      obtain ⟨G, hG⟩ : ∃ G, G = held C W3.drew := ⟨_, rfl⟩
      have hfs : ∀ a ∈ ([⟨b8, 0, none⟩, ⟨b8, 1, none⟩, ⟨w.heap.size, 0, none⟩, ⟨g10, 0, none⟩, ⟨g10, 1, none⟩, ⟨g10, 2, none⟩, ⟨g10, 3, none⟩] : List Addr), ∀ u, W3.cell? a = some u → ∀ x, (G x).cell? a = some u := fun a ha u hu x => by
        rw [hG, hC]
        exact same_held hu ha x
      have f0 := hfs _ (by simp) _ d0
      have f1 := hfs _ (by simp) _ d1
      have f2 := hfs _ (by simp) _ d2
      have f3 := hfs _ (by simp) _ d3
      have fm0 := hfs _ (by simp) _ m0
      have fm1 := hfs _ (by simp) _ m1
      have fc := hfs _ (by simp) _ c03
      have hCl : ∀ z, C (later W3.drew z) := fun z => by
        rw [hC]
        exact same_below (Below.trans (gD (Below.refl _ _)) (below_later W3.drew z)) hl3
      have HCL := Lib.hid hCl
      refine region_heldN C [0, 1, 2, 3, 4, 5] [6, 7] 8 (by kernel_rfl) (by kernel_rfl) (by rw [hC]; exact same_drew) ?_
      rw [← hG]
      clear hfs hCl hcall hC hG hg10 hW3 hl3 c0
      simp only [List.filterMap_cons, List.filterMap_nil, List.getElem?_cons_zero, List.getElem?_cons_succ]
      change wpQuiet _ _ _ _ [_, _, _, _, _, _] _
      repeat (go_big_quiet_step (fail))
      refine wpQuiet_nil ?_
      clear f0 f1 f2 f3 fm0 fm1 fc
      refine wpTail_cons rfl (fun K hK => ?_)
      go_simp
      refine HCA.out.mono ?_
      (rintro e w' hr; first | ((with_reducible replace hr := Ret.up hr); obtain ⟨rfl, z, rfl⟩ := hr) | (obtain ⟨rfl, z, rfl⟩ := hr))
      refine hK.out _ _ (HCL.out _) ?_
      clear hK K
      refine wpTail_cons rfl (fun K hK => ?_)
      go_simp
      refine (wider_calls _ _ _ _).mono ?_
      (rintro e w' hr; first | ((with_reducible replace hr := Ret.up hr); obtain ⟨rfl, z, rfl⟩ := hr) | (obtain ⟨rfl, z, rfl⟩ := hr))
      refine hK.out _ _ (HCL.out _) ?_
      clear hK K
      obtain ⟨W4, hW4⟩ : ∃ W4, W4 = later W3.drew z := ⟨_, rfl⟩
      have hb4 : Below W3.heap.size W3 W4 := by rw [hW4]; exact Below.trans (gD (Below.refl _ _)) (below_later W3.drew z)
      rw [← hW4]
      clear hW4 HCL HCA
      have hB84 := hB83.of_below hb4 hB83.lt
      have z0 := hB84.cell 0
      have z1 := hB84.cell 1
      have zf0 := hB84.frozen 0
      have zf1 := hB84.frozen 1
      simp only [List.getElem?_cons_zero, List.getElem?_cons_succ] at z0 z1
      have hkx4 : KeepX b8 W2 W4 := (hkx.trans (KeepX.of_below hb3)).trans (KeepX.of_below hb4)
      refine wpTail_nil rfl (fun K hK => ?_)
      go_simp
      refine hK.out _ _ (noPanic_mk ?_)
      clear hK K
      go_wp2
      go_roundw
      case rel => exact ⟨k + 1, by omega, by go_num, (hkx4.trans (KeepX.set_ _ _ _)).trans (KeepX.set_ _ _ _), by rw [HSL.out, HSH.out]; exact (hB84.set_ 0 _).set_ 1 _⟩
      case measure => simp [intOf]; omega
    · obtain rfl : k = h.truths.length := by omega
      rw [List.take_length] at hBk
      have m0 := hBk.cell 0
      have m1 := hBk.cell 1
      have hB6r := hkx.blk hB62 (by omega)
      have z0 := hB6r.cell 0
      have z1 := hB6r.cell 1
      have zf0 := hB6r.frozen 0
      have zf1 := hB6r.frozen 1
      simp only [List.getElem?_cons_zero, List.getElem?_cons_succ] at m0 m1 z0 z1
      have HLO := Lib.hid (show loB h.truths f = ((h.truths.map f).foldl min n0) by rw [loB, HH.out, HN0.out])
      have HHI := Lib.hid (show hiB h.truths f = ((h.truths.map f).foldl max n0) by rw [hiB, HH.out, HN0.out])
      go_wp2
      refine bodyPost_ret (v := .agg #[.int .i64 ((h.truths.map f).foldl min n0), .int .i64 ((h.truths.map f).foldl max n0)]) ?hr rfl (ret_mk (by rw [HLO.out, HHI.out]) (gS (gS hbwr (by simp)) (by simp)))
      case hr => simp [results, Try.results81, go_sem, *]
end Go.Proofs.Ytcngnfnljkkjgaa
