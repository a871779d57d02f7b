/-
The bounds of an answer over all truths.
The bounds of the errors of all clocks, of the hours of all tickets.
Which tickets stayed too long.
Whether two tickets clash in a truth.
Whether all is paid once.
Whether two tickets clash; from which minute on a tub is free.
-/
import Derived.Test.YtcngnfnljkkjgaaCmH
namespace Go.Proofs.Ytcngnfnljkkjgaa
open Go.RowKit
attribute [local go_sem] cell_later frozen_later lt_later le_later

/-- The least and the greatest of an answer. -/
def loB (l : List (List Int)) (f : List Int → Int) : Int := (l.map f).foldl min (f (l.headD []))
def hiB (l : List (List Int)) (f : List Int → Int) : Int := (l.map f).foldl max (f (l.headD []))
theorem fold_snoc (l : List (List Int)) (f : List Int → Int) (g : Int → Int → Int) (n : Int) (k : Nat) {x : List Int} (hx : l[k]? = some x) : ((l.take (k + 1)).map f).foldl g n = g (((l.take k).map f).foldl g n) (f x) := by
  rw [List.take_add_one, hx]
  simp
theorem KeepX.blk {b : Nat} {W W' : World} (h : KeepX b W W') {g : Nat} {t : TypeId} {cs : List Value} (H : BlkAt W g t cs) (hg : g ≠ b) : BlkAt W' g t cs := (h.block g H.lt hg).trans H

theorem KeepX.low {B b : Nat} {w W W' : World} (h : KeepX b W W') (hb : Below B w W) (hB : B ≤ b) (hs : B ≤ W.heap.size) : Below B w W' :=
  ⟨h.os.trans hb.os, h.tape.trans hb.tape, h.output.trans hb.output, Nat.le_trans hb.size h.size, fun i hi => (h.block i (by omega) (by omega)).trans (hb.block i hi)⟩

theorem noPanic_mk {Q : Exit → Act → World → Prop} {a : Act} {w : World} (h : Q .normal a w) : NoPanic Q .normal a w := h
theorem region_heldN {P : Program} {Q : Exit → Act → World → Prop} {id : Nat} {l : List Oper} {a : Act} {w : World} (C : World → Prop) (pre tl : List Nat) (n : Nat) (hm : P.follows .mixedOrders = true) (hB : regionB l.toArray pre tl n = true) (hC : C w.drew)
    (h : wpQuiet P l.toArray (fun w' => ∃ x, w' = held C w.drew x) (fun a' => wpTail P l.toArray (NoPanic Q) C n tl a' w.drew) (pre.filterMap fun i => l[i]?) a) : (Code.region id l.toArray true).wp P Q a w :=
  wp_region_noPanic (region_held C pre tl n hm hB (fun _ _ _ _ _ h => h) hC h)

set_option maxHeartbeats 2000000 in
theorem bounds_off (g : Nat) (h : Hs) (about : Int) (f : List Int → Int) (w : World) (H : WkAt w g h) (hf : Hid (h.fault = 0)) (hne : Hid (h.truths ≠ []))
    (HC : Hid (∀ (x : World) (e : List Int) (e0 e1 e2 e3 : Int), e ∈ h.truths → e4 e = [.int .i64 e0, .int .i64 e1, .int .i64 e2, .int .i64 e3] → Below w.heap.size w x →
      Calls Try.prog 80 #[.pointer (some ⟨g, 0, none⟩), .agg #[.int .i64 e0, .int .i64 e1, .int .i64 e2, .int .i64 e3], .int .i64 about] x (Ret (.int .i64 (f e)) x))) :
    Calls Try.prog 81 #[.agg #[.func (.func 80) #[] #[]], .pointer (some ⟨g, 0, none⟩), .int .i64 about] w (Ret (.agg #[.int .i64 (loB h.truths f), .int .i64 (hiB h.truths f)]) w) := by
  have H0 := H
  obtain ⟨A2, c2, A3, c3, A4, c4, A5, c5, r, l, h2, h3, h4, h5, h6, h7, h8⟩ := H
  have hgl := h8.lt
  have k5 := h8.cell 5
  simp only [List.getElem?_cons_zero, List.getElem?_cons_succ] at k5
  have htc := truths_count hf.out
  have hpos : 0 < h.truths.length := List.length_pos_iff.2 hne.out
  have hpos1 : (0 : Int) < (h.truths.length : Int) := by omega
  obtain ⟨b, off, e, e0, e1, e2, e3, rfl, hbl, he, h4', t0, t1, t2, t3⟩ := h5.atE hpos
  simp only [Nat.zero_mul, Nat.add_zero] at t0 t1 t2 t3
  have HH := Lib.hid (show h.truths.headD [] = e by
    rw [List.headD_eq_head?_getD, List.head?_eq_getElem?, he]; rfl)
  have HM := Lib.hid (List.mem_of_getElem? he)
  have HE4 := Lib.hid h4'
  have h50 := h5
  clear h2 h3 h4 h6 h7 h8 he h4' h5
  go_enter Try.func81, Try.ntmps81
  go_wp2
  obtain ⟨W1, hW1⟩ : ∃ W1, W1 = (w.alloc (.cells #[.func (.func 80) #[] #[]] 112)).alloc (.cells #[.int .i64 0, .int .i64 0] 42) := ⟨_, rfl⟩
  have hb1 : Below w.heap.size w W1 := by rw [hW1]; exact (by repeat (first | exact Below.refl _ _ | (with_reducible assumption) | apply gL | apply gA | apply gD | apply gN | (refine gS ?_ (by first | (simp; done) | (simp; omega) | omega))))
  have hs1 : W1.heap.size = w.heap.size + 2 := by rw [hW1]; simp
  have q0 : W1.cell? ⟨w.heap.size, 0, none⟩ = some (.func (.func 80) #[] #[]) := by rw [hW1]; simp [go_sem]
  have hB6 : BlkAt W1 (w.heap.size + 1) 42 [.int .i64 0, .int .i64 0] := by
    rw [hW1]
    have := BlkAt.new (w.alloc (.cells #[.func (.func 80) #[] #[]] 112)) 42 [.int .i64 0, .int .i64 0]
    rw [World.size_alloc] at this
    exact this
  rw [← hW1]
  clear hW1
  have hq : w.heap.size < W1.heap.size := by omega
  have hgl1 : g < W1.heap.size := by omega
  have hbl1 : b < W1.heap.size := by omega
  have h6l : w.heap.size + 1 < W1.heap.size := by omega
  clear hs1
  have y5 := (hb1.cell (p := ⟨g, 5, none⟩) hgl).trans k5
  have s0 := (hb1.cell (p := ⟨b, off, none⟩) hbl).trans t0
  have s1 := (hb1.cell (p := ⟨b, off + 1, none⟩) hbl).trans t1
  have s2 := (hb1.cell (p := ⟨b, off + 2, none⟩) hbl).trans t2
  have s3 := (hb1.cell (p := ⟨b, off + 3, none⟩) hbl).trans t3
  have hcall : ∀ x, Calls Try.prog 80 #[.pointer (some ⟨g, 0, none⟩), .agg #[.int .i64 e0, .int .i64 e1, .int .i64 e2, .int .i64 e3], .int .i64 about] (later W1 x) (Ret (.int .i64 (f e)) (later W1 x)) :=
    fun x => HC.out _ e e0 e1 e2 e3 HM.out HE4.out (hb1.trans (below_mono_of hb1 (below_later _ _)))
  have HCA := Lib.hid hcall
  clear hcall
  refine region_later (by kernel_rfl) (by kernel_rfl) ?_
  repeat (go_big_quiet_step (exact quiet_ret (HCA.out _)))
  refine wpQuiet_nil ?_
  rintro W' ⟨x, rfl⟩
  clear HCA s0 s1 s2 s3
  obtain ⟨n0, hn0⟩ : ∃ n, n = f e := ⟨_, rfl⟩
  rw [← hn0]
  have HN0 := Lib.hid hn0
  clear hn0
  go_wp2
  obtain ⟨W2, hW2⟩ : ∃ W2, W2 = (later W1 x).alloc (.cells #[.int .i64 n0, .int .i64 n0] 42) := ⟨_, rfl⟩
  have hb2 : Below W1.heap.size W1 W2 := by rw [hW2]; exact (by repeat (first | exact Below.refl _ _ | (with_reducible assumption) | apply gL | apply gA | apply gD | apply gN | (refine gS ?_ (by first | (simp; done) | (simp; omega) | omega))))
  obtain ⟨b8, hb8⟩ : ∃ b, b = (later W1 x).heap.size := ⟨_, rfl⟩
  have hb8l : W1.heap.size ≤ b8 := by rw [hb8]; exact size_later _ _
  have hB8 : BlkAt W2 b8 42 [.int .i64 n0, .int .i64 n0] := by rw [hW2, hb8]; exact BlkAt.new _ _ _
  rw [← hW2, ← hb8]
  clear hW2 hb8
  have hbw2 : Below w.heap.size w W2 := hb1.trans (hb2.mono hb1.size)
  have r0 := (hb2.cell (p := ⟨w.heap.size, 0, none⟩) hq).trans q0
  have hB62 := hB6.of_below hb2 h6l
  clear q0 y5 hB6
  go_loopw [30] (fun i wr => ∃ k : Nat, k ≤ h.truths.length ∧ i = .int .i64 k ∧ KeepX b8 W2 wr ∧ BlkAt wr b8 42 [.int .i64 (((h.truths.take k).map f).foldl min n0), .int .i64 (((h.truths.take k).map f).foldl max n0)]) (fun i _ => h.truths.length - (intOf i).toNat)
  case atStart => exact ⟨0, Nat.zero_le _, rfl, KeepX.refl _ _, hB8⟩
  case round =>
    obtain ⟨k, hk, rfl, hkx, hBk⟩ := hrel
    have hbwr : Below w.heap.size w wr := hkx.low hbw2 (by omega) hbw2.size
    have c0 := hkx.cell r0 (by show w.heap.size ≠ b8; omega)
    by_cases hlt : k < h.truths.length
    · have hlt1 : (k : Int) < (h.truths.length : Int) := by omega
      have hk0 : (0 : Int) ≤ (k : Int) := Int.natCast_nonneg _
      obtain ⟨b', off', x', x0, x1, x2, x3, hA, hbl', hx', h4x, u0, u1, u2, u3⟩ := (h50.below hbwr).atE hlt
      cases hA
      obtain ⟨lo, hlo⟩ : ∃ n, n = ((h.truths.take k).map f).foldl min n0 := ⟨_, rfl⟩
      obtain ⟨hi, hhi⟩ : ∃ n, n = ((h.truths.take k).map f).foldl max n0 := ⟨_, rfl⟩
      have HSL := Lib.hid (fold_snoc h.truths f min n0 k hx')
      have HSH := Lib.hid (fold_snoc h.truths f max n0 k hx')
      rw [← hlo] at HSL
      rw [← hhi] at HSH
      rw [← hlo, ← hhi] at hBk
      have HMX := Lib.hid (List.mem_of_getElem? hx')
      have HX4 := Lib.hid h4x
      clear hx' h4x hlo hhi
      have hb8w := hBk.lt
      go_wp2
      obtain ⟨W3, hW3⟩ : ∃ W3, W3 = wr.alloc (.cells #[.int .i64 x0, .int .i64 x1, .int .i64 x2, .int .i64 x3] 119) := ⟨_, rfl⟩
      have hb3 : Below wr.heap.size wr W3 := by rw [hW3]; exact (by repeat (first | exact Below.refl _ _ | (with_reducible assumption) | apply gL | apply gA | apply gD | apply gN | (refine gS ?_ (by first | (simp; done) | (simp; omega) | omega))))
      have hB3 : BlkAt W3 wr.heap.size 119 [.int .i64 x0, .int .i64 x1, .int .i64 x2, .int .i64 x3] := by rw [hW3]; exact BlkAt.new _ _ _
      obtain ⟨g10, hg10⟩ : ∃ g, g = wr.heap.size := ⟨_, rfl⟩
      rw [← hW3, ← hg10]
      rw [← hg10] at hB3
      have hqr : w.heap.size < wr.heap.size := World.block_lt_of_cell? wr _ c0
      have d0 := hB3.cell 0
      have d1 := hB3.cell 1
      have d2 := hB3.cell 2
      have d3 := hB3.cell 3
      have hB83 := hBk.of_below hb3 hb8w
      have m0 := hB83.cell 0
      have m1 := hB83.cell 1
      have c03 := (hb3.cell (p := ⟨w.heap.size, 0, none⟩) hqr).trans c0
      simp only [List.getElem?_cons_zero, List.getElem?_cons_succ] at d0 d1 d2 d3 m0 m1
      have hbw3 : Below w.heap.size w W3.drew := (hbwr.trans (hb3.mono hbwr.size)).drew
      have hcall := HC.out _ x' x0 x1 x2 x3 HMX.out HX4.out hbw3
      have HCA := Lib.hid hcall
      have hl3 : ∀ a ∈ ([⟨b8, 0, none⟩, ⟨b8, 1, none⟩, ⟨w.heap.size, 0, none⟩, ⟨g10, 0, none⟩, ⟨g10, 1, none⟩, ⟨g10, 2, none⟩, ⟨g10, 3, none⟩] : List Addr), a.block < W3.heap.size := by
        have := hB83.lt
        have := hB3.lt
        have := hb3.size
        intro a ha
        simp only [List.mem_cons, List.not_mem_nil, or_false] at ha
        rcases ha with rfl | rfl | rfl | rfl | rfl | rfl | rfl <;> simp <;> omega
      obtain ⟨C, hC⟩ : ∃ C, C = Same [⟨b8, 0, none⟩, ⟨b8, 1, none⟩, ⟨w.heap.size, 0, none⟩, ⟨g10, 0, none⟩, ⟨g10, 1, none⟩, ⟨g10, 2, none⟩, ⟨g10, 3, none⟩] W3 := ⟨_, rfl⟩
      obtain ⟨G, hG⟩ : ∃ G, G = held C W3.drew := ⟨_, rfl⟩
      have hfs : ∀ a ∈ ([⟨b8, 0, none⟩, ⟨b8, 1, none⟩, ⟨w.heap.size, 0, none⟩, ⟨g10, 0, none⟩, ⟨g10, 1, none⟩, ⟨g10, 2, none⟩, ⟨g10, 3, none⟩] : List Addr), ∀ u, W3.cell? a = some u → ∀ x, (G x).cell? a = some u := fun a ha u hu x => by
        rw [hG, hC]
        exact same_held hu ha x
      have f0 := hfs _ (by simp) _ d0
      have f1 := hfs _ (by simp) _ d1
      have f2 := hfs _ (by simp) _ d2
      have f3 := hfs _ (by simp) _ d3
      have fm0 := hfs _ (by simp) _ m0
      have fm1 := hfs _ (by simp) _ m1
      have fc := hfs _ (by simp) _ c03
      have hCl : ∀ z, C (later W3.drew z) := fun z => by
        rw [hC]
        exact same_below (Below.trans (gD (Below.refl _ _)) (below_later W3.drew z)) hl3
      have HCL := Lib.hid hCl
      refine region_heldN C [0, 1, 2, 3, 4, 5] [6, 7] 8 (by kernel_rfl) (by kernel_rfl) (by rw [hC]; exact same_drew) ?_
      rw [← hG]
      clear hfs hCl hcall hC hG hg10 hW3 hl3 c0
      simp only [List.filterMap_cons, List.filterMap_nil, List.getElem?_cons_zero, List.getElem?_cons_succ]
      change wpQuiet _ _ _ _ [_, _, _, _, _, _] _
      repeat (go_big_quiet_step (fail))
      refine wpQuiet_nil ?_
      clear f0 f1 f2 f3 fm0 fm1 fc
      refine wpTail_cons rfl (fun K hK => ?_)
      go_simp
      refine HCA.out.mono ?_
      (rintro e w' hr; first | ((with_reducible replace hr := Ret.up hr); obtain ⟨rfl, z, rfl⟩ := hr) | (obtain ⟨rfl, z, rfl⟩ := hr))
      refine hK.out _ _ (HCL.out _) ?_
      clear hK K
      refine wpTail_cons rfl (fun K hK => ?_)
      go_simp
      refine (wider_calls _ _ _ _).mono ?_
      (rintro e w' hr; first | ((with_reducible replace hr := Ret.up hr); obtain ⟨rfl, z, rfl⟩ := hr) | (obtain ⟨rfl, z, rfl⟩ := hr))
      refine hK.out _ _ (HCL.out _) ?_
      clear hK K
      obtain ⟨W4, hW4⟩ : ∃ W4, W4 = later W3.drew z := ⟨_, rfl⟩
      have hb4 : Below W3.heap.size W3 W4 := by rw [hW4]; exact Below.trans (gD (Below.refl _ _)) (below_later W3.drew z)
      rw [← hW4]
      clear hW4 HCL HCA
      have hB84 := hB83.of_below hb4 hB83.lt
      have z0 := hB84.cell 0
      have z1 := hB84.cell 1
      have zf0 := hB84.frozen 0
      have zf1 := hB84.frozen 1
      simp only [List.getElem?_cons_zero, List.getElem?_cons_succ] at z0 z1
      have hkx4 : KeepX b8 W2 W4 := (hkx.trans (KeepX.of_below hb3)).trans (KeepX.of_below hb4)
      refine wpTail_nil rfl (fun K hK => ?_)
      go_simp
      refine hK.out _ _ (noPanic_mk ?_)
      clear hK K
      go_wp2
      go_roundw
      case rel => exact ⟨k + 1, by omega, by go_num, (hkx4.trans (KeepX.set_ _ _ _)).trans (KeepX.set_ _ _ _), by rw [HSL.out, HSH.out]; exact (hB84.set_ 0 _).set_ 1 _⟩
      case measure => simp [intOf]; omega
    · obtain rfl : k = h.truths.length := by omega
      rw [List.take_length] at hBk
      have m0 := hBk.cell 0
      have m1 := hBk.cell 1
      have hB6r := hkx.blk hB62 (by omega)
      have z0 := hB6r.cell 0
      have z1 := hB6r.cell 1
      have zf0 := hB6r.frozen 0
      have zf1 := hB6r.frozen 1
      simp only [List.getElem?_cons_zero, List.getElem?_cons_succ] at m0 m1 z0 z1
      have HLO := Lib.hid (show loB h.truths f = ((h.truths.map f).foldl min n0) by rw [loB, HH.out, HN0.out])
      have HHI := Lib.hid (show hiB h.truths f = ((h.truths.map f).foldl max n0) by rw [hiB, HH.out, HN0.out])
      go_wp2
      refine bodyPost_ret (v := .agg #[.int .i64 ((h.truths.map f).foldl min n0), .int .i64 ((h.truths.map f).foldl max n0)]) ?hr rfl (ret_mk (by rw [HLO.out, HHI.out]) (gS (gS hbwr (by simp)) (by simp)))
      case hr => simp [results, Try.results81, go_sem, *]

set_option maxHeartbeats 2000000 in
theorem bounds_hours (g : Nat) (h : Hs) (about : Int) (f : List Int → Int) (w : World) (H : WkAt w g h) (hf : Hid (h.fault = 0)) (hne : Hid (h.truths ≠ []))
    (HC : Hid (∀ (x : World) (e : List Int) (e0 e1 e2 e3 : Int), e ∈ h.truths → e4 e = [.int .i64 e0, .int .i64 e1, .int .i64 e2, .int .i64 e3] → Below w.heap.size w x →
      Calls Try.prog 82 #[.pointer (some ⟨g, 0, none⟩), .agg #[.int .i64 e0, .int .i64 e1, .int .i64 e2, .int .i64 e3], .int .i64 about] x (Ret (.int .i64 (f e)) x))) :
    Calls Try.prog 81 #[.agg #[.func (.func 82) #[] #[]], .pointer (some ⟨g, 0, none⟩), .int .i64 about] w (Ret (.agg #[.int .i64 (loB h.truths f), .int .i64 (hiB h.truths f)]) w) := by
  have H0 := H
  obtain ⟨A2, c2, A3, c3, A4, c4, A5, c5, r, l, h2, h3, h4, h5, h6, h7, h8⟩ := H
  have hgl := h8.lt
  have k5 := h8.cell 5
  simp only [List.getElem?_cons_zero, List.getElem?_cons_succ] at k5
  have htc := truths_count hf.out
  have hpos : 0 < h.truths.length := List.length_pos_iff.2 hne.out
  have hpos1 : (0 : Int) < (h.truths.length : Int) := by omega
  obtain ⟨b, off, e, e0, e1, e2, e3, rfl, hbl, he, h4', t0, t1, t2, t3⟩ := h5.atE hpos
  simp only [Nat.zero_mul, Nat.add_zero] at t0 t1 t2 t3
  have HH := Lib.hid (show h.truths.headD [] = e by
    rw [List.headD_eq_head?_getD, List.head?_eq_getElem?, he]; rfl)
  have HM := Lib.hid (List.mem_of_getElem? he)
  have HE4 := Lib.hid h4'
  have h50 := h5
  clear h2 h3 h4 h6 h7 h8 he h4' h5
  go_enter Try.func81, Try.ntmps81
  go_wp2
  obtain ⟨W1, hW1⟩ : ∃ W1, W1 = (w.alloc (.cells #[.func (.func 82) #[] #[]] 112)).alloc (.cells #[.int .i64 0, .int .i64 0] 42) := ⟨_, rfl⟩
  have hb1 : Below w.heap.size w W1 := by rw [hW1]; exact (by repeat (first | exact Below.refl _ _ | (with_reducible assumption) | apply gL | apply gA | apply gD | apply gN | (refine gS ?_ (by first | (simp; done) | (simp; omega) | omega))))
  have hs1 : W1.heap.size = w.heap.size + 2 := by rw [hW1]; simp
  have q0 : W1.cell? ⟨w.heap.size, 0, none⟩ = some (.func (.func 82) #[] #[]) := by rw [hW1]; simp [go_sem]
  have hB6 : BlkAt W1 (w.heap.size + 1) 42 [.int .i64 0, .int .i64 0] := by
    rw [hW1]
    have := BlkAt.new (w.alloc (.cells #[.func (.func 82) #[] #[]] 112)) 42 [.int .i64 0, .int .i64 0]
    rw [World.size_alloc] at this
    exact this
  rw [← hW1]
  clear hW1
  have hq : w.heap.size < W1.heap.size := by omega
  have hgl1 : g < W1.heap.size := by omega
  have hbl1 : b < W1.heap.size := by omega
  have h6l : w.heap.size + 1 < W1.heap.size := by omega
  clear hs1
  have y5 := (hb1.cell (p := ⟨g, 5, none⟩) hgl).trans k5
  have s0 := (hb1.cell (p := ⟨b, off, none⟩) hbl).trans t0
  have s1 := (hb1.cell (p := ⟨b, off + 1, none⟩) hbl).trans t1
  have s2 := (hb1.cell (p := ⟨b, off + 2, none⟩) hbl).trans t2
  have s3 := (hb1.cell (p := ⟨b, off + 3, none⟩) hbl).trans t3
  have hcall : ∀ x, Calls Try.prog 82 #[.pointer (some ⟨g, 0, none⟩), .agg #[.int .i64 e0, .int .i64 e1, .int .i64 e2, .int .i64 e3], .int .i64 about] (later W1 x) (Ret (.int .i64 (f e)) (later W1 x)) :=
    fun x => HC.out _ e e0 e1 e2 e3 HM.out HE4.out (hb1.trans (below_mono_of hb1 (below_later _ _)))
  have HCA := Lib.hid hcall
  clear hcall
  refine region_later (by kernel_rfl) (by kernel_rfl) ?_
  repeat (go_big_quiet_step (exact quiet_ret (HCA.out _)))
  refine wpQuiet_nil ?_
  rintro W' ⟨x, rfl⟩
  clear HCA s0 s1 s2 s3
  obtain ⟨n0, hn0⟩ : ∃ n, n = f e := ⟨_, rfl⟩
  rw [← hn0]
  have HN0 := Lib.hid hn0
  clear hn0
  go_wp2
  obtain ⟨W2, hW2⟩ : ∃ W2, W2 = (later W1 x).alloc (.cells #[.int .i64 n0, .int .i64 n0] 42) := ⟨_, rfl⟩
  have hb2 : Below W1.heap.size W1 W2 := by rw [hW2]; exact (by repeat (first | exact Below.refl _ _ | (with_reducible assumption) | apply gL | apply gA | apply gD | apply gN | (refine gS ?_ (by first | (simp; done) | (simp; omega) | omega))))
  obtain ⟨b8, hb8⟩ : ∃ b, b = (later W1 x).heap.size := ⟨_, rfl⟩
  have hb8l : W1.heap.size ≤ b8 := by rw [hb8]; exact size_later _ _
  have hB8 : BlkAt W2 b8 42 [.int .i64 n0, .int .i64 n0] := by rw [hW2, hb8]; exact BlkAt.new _ _ _
  rw [← hW2, ← hb8]
  clear hW2 hb8
  have hbw2 : Below w.heap.size w W2 := hb1.trans (hb2.mono hb1.size)
  have r0 := (hb2.cell (p := ⟨w.heap.size, 0, none⟩) hq).trans q0
  have hB62 := hB6.of_below hb2 h6l
  clear q0 y5 hB6
  go_loopw [30] (fun i wr => ∃ k : Nat, k ≤ h.truths.length ∧ i = .int .i64 k ∧ KeepX b8 W2 wr ∧ BlkAt wr b8 42 [.int .i64 (((h.truths.take k).map f).foldl min n0), .int .i64 (((h.truths.take k).map f).foldl max n0)]) (fun i _ => h.truths.length - (intOf i).toNat)
  case atStart => exact ⟨0, Nat.zero_le _, rfl, KeepX.refl _ _, hB8⟩
  case round =>
    obtain ⟨k, hk, rfl, hkx, hBk⟩ := hrel
    have hbwr : Below w.heap.size w wr := hkx.low hbw2 (by omega) hbw2.size
    have c0 := hkx.cell r0 (by show w.heap.size ≠ b8; omega)
    by_cases hlt : k < h.truths.length
    · have hlt1 : (k : Int) < (h.truths.length : Int) := by omega
      have hk0 : (0 : Int) ≤ (k : Int) := Int.natCast_nonneg _
      obtain ⟨b', off', x', x0, x1, x2, x3, hA, hbl', hx', h4x, u0, u1, u2, u3⟩ := (h50.below hbwr).atE hlt
      cases hA
      obtain ⟨lo, hlo⟩ : ∃ n, n = ((h.truths.take k).map f).foldl min n0 := ⟨_, rfl⟩
      obtain ⟨hi, hhi⟩ : ∃ n, n = ((h.truths.take k).map f).foldl max n0 := ⟨_, rfl⟩
      have HSL := Lib.hid (fold_snoc h.truths f min n0 k hx')
      have HSH := Lib.hid (fold_snoc h.truths f max n0 k hx')
      rw [← hlo] at HSL
      rw [← hhi] at HSH
      rw [← hlo, ← hhi] at hBk
      have HMX := Lib.hid (List.mem_of_getElem? hx')
      have HX4 := Lib.hid h4x
      clear hx' h4x hlo hhi
      have hb8w := hBk.lt
      go_wp2
      obtain ⟨W3, hW3⟩ : ∃ W3, W3 = wr.alloc (.cells #[.int .i64 x0, .int .i64 x1, .int .i64 x2, .int .i64 x3] 119) := ⟨_, rfl⟩
      have hb3 : Below wr.heap.size wr W3 := by rw [hW3]; exact (by repeat (first | exact Below.refl _ _ | (with_reducible assumption) | apply gL | apply gA | apply gD | apply gN | (refine gS ?_ (by first | (simp; done) | (simp; omega) | omega))))
      have hB3 : BlkAt W3 wr.heap.size 119 [.int .i64 x0, .int .i64 x1, .int .i64 x2, .int .i64 x3] := by rw [hW3]; exact BlkAt.new _ _ _
      obtain ⟨g10, hg10⟩ : ∃ g, g = wr.heap.size := ⟨_, rfl⟩
      rw [← hW3, ← hg10]
      rw [← hg10] at hB3
      have hqr : w.heap.size < wr.heap.size := World.block_lt_of_cell? wr _ c0
      have d0 := hB3.cell 0
      have d1 := hB3.cell 1
      have d2 := hB3.cell 2
      have d3 := hB3.cell 3
      have hB83 := hBk.of_below hb3 hb8w
      have m0 := hB83.cell 0
      have m1 := hB83.cell 1
      have c03 := (hb3.cell (p := ⟨w.heap.size, 0, none⟩) hqr).trans c0
      simp only [List.getElem?_cons_zero, List.getElem?_cons_succ] at d0 d1 d2 d3 m0 m1
      have hbw3 : Below w.heap.size w W3.drew := (hbwr.trans (hb3.mono hbwr.size)).drew
      have hcall := HC.out _ x' x0 x1 x2 x3 HMX.out HX4.out hbw3
      have HCA := Lib.hid hcall
      have hl3 : ∀ a ∈ ([⟨b8, 0, none⟩, ⟨b8, 1, none⟩, ⟨w.heap.size, 0, none⟩, ⟨g10, 0, none⟩, ⟨g10, 1, none⟩, ⟨g10, 2, none⟩, ⟨g10, 3, none⟩] : List Addr), a.block < W3.heap.size := by
        have := hB83.lt
        have := hB3.lt
        have := hb3.size
        intro a ha
        simp only [List.mem_cons, List.not_mem_nil, or_false] at ha
        rcases ha with rfl | rfl | rfl | rfl | rfl | rfl | rfl <;> simp <;> omega
      obtain ⟨C, hC⟩ : ∃ C, C = Same [⟨b8, 0, none⟩, ⟨b8, 1, none⟩, ⟨w.heap.size, 0, none⟩, ⟨g10, 0, none⟩, ⟨g10, 1, none⟩, ⟨g10, 2, none⟩, ⟨g10, 3, none⟩] W3 := ⟨_, rfl⟩
      obtain ⟨G, hG⟩ : ∃ G, G = held C W3.drew := ⟨_, rfl⟩
      have hfs : ∀ a ∈ ([⟨b8, 0, none⟩, ⟨b8, 1, none⟩, ⟨w.heap.size, 0, none⟩, ⟨g10, 0, none⟩, ⟨g10, 1, none⟩, ⟨g10, 2, none⟩, ⟨g10, 3, none⟩] : List Addr), ∀ u, W3.cell? a = some u → ∀ x, (G x).cell? a = some u := fun a ha u hu x => by
        rw [hG, hC]
        exact same_held hu ha x
      have f0 := hfs _ (by simp) _ d0
      have f1 := hfs _ (by simp) _ d1
      have f2 := hfs _ (by simp) _ d2
      have f3 := hfs _ (by simp) _ d3
      have fm0 := hfs _ (by simp) _ m0
      have fm1 := hfs _ (by simp) _ m1
      have fc := hfs _ (by simp) _ c03
      have hCl : ∀ z, C (later W3.drew z) := fun z => by
        rw [hC]
        exact same_below (Below.trans (gD (Below.refl _ _)) (below_later W3.drew z)) hl3
      have HCL := Lib.hid hCl
      refine region_heldN C [0, 1, 2, 3, 4, 5] [6, 7] 8 (by kernel_rfl) (by kernel_rfl) (by rw [hC]; exact same_drew) ?_
      rw [← hG]
      clear hfs hCl hcall hC hG hg10 hW3 hl3 c0
      simp only [List.filterMap_cons, List.filterMap_nil, List.getElem?_cons_zero, List.getElem?_cons_succ]
      change wpQuiet _ _ _ _ [_, _, _, _, _, _] _
      repeat (go_big_quiet_step (fail))
      refine wpQuiet_nil ?_
      clear f0 f1 f2 f3 fm0 fm1 fc
      refine wpTail_cons rfl (fun K hK => ?_)
      go_simp
      refine HCA.out.mono ?_
      (rintro e w' hr; first | ((with_reducible replace hr := Ret.up hr); obtain ⟨rfl, z, rfl⟩ := hr) | (obtain ⟨rfl, z, rfl⟩ := hr))
      refine hK.out _ _ (HCL.out _) ?_
      clear hK K
      refine wpTail_cons rfl (fun K hK => ?_)
      go_simp
      refine (wider_calls _ _ _ _).mono ?_
      (rintro e w' hr; first | ((with_reducible replace hr := Ret.up hr); obtain ⟨rfl, z, rfl⟩ := hr) | (obtain ⟨rfl, z, rfl⟩ := hr))
      refine hK.out _ _ (HCL.out _) ?_
      clear hK K
      obtain ⟨W4, hW4⟩ : ∃ W4, W4 = later W3.drew z := ⟨_, rfl⟩
      have hb4 : Below W3.heap.size W3 W4 := by rw [hW4]; exact Below.trans (gD (Below.refl _ _)) (below_later W3.drew z)
      rw [← hW4]
      clear hW4 HCL HCA
      have hB84 := hB83.of_below hb4 hB83.lt
      have z0 := hB84.cell 0
      have z1 := hB84.cell 1
      have zf0 := hB84.frozen 0
      have zf1 := hB84.frozen 1
      simp only [List.getElem?_cons_zero, List.getElem?_cons_succ] at z0 z1
      have hkx4 : KeepX b8 W2 W4 := (hkx.trans (KeepX.of_below hb3)).trans (KeepX.of_below hb4)
      refine wpTail_nil rfl (fun K hK => ?_)
      go_simp
      refine hK.out _ _ (noPanic_mk ?_)
      clear hK K
      go_wp2
      go_roundw
      case rel => exact ⟨k + 1, by omega, by go_num, (hkx4.trans (KeepX.set_ _ _ _)).trans (KeepX.set_ _ _ _), by rw [HSL.out, HSH.out]; exact (hB84.set_ 0 _).set_ 1 _⟩
      case measure => simp [intOf]; omega
    · obtain rfl : k = h.truths.length := by omega
      rw [List.take_length] at hBk
      have m0 := hBk.cell 0
      have m1 := hBk.cell 1
      have hB6r := hkx.blk hB62 (by omega)
      have z0 := hB6r.cell 0
      have z1 := hB6r.cell 1
      have zf0 := hB6r.frozen 0
      have zf1 := hB6r.frozen 1
      simp only [List.getElem?_cons_zero, List.getElem?_cons_succ] at m0 m1 z0 z1
      have HLO := Lib.hid (show loB h.truths f = ((h.truths.map f).foldl min n0) by rw [loB, HH.out, HN0.out])
      have HHI := Lib.hid (show hiB h.truths f = ((h.truths.map f).foldl max n0) by rw [hiB, HH.out, HN0.out])
      go_wp2
      refine bodyPost_ret (v := .agg #[.int .i64 ((h.truths.map f).foldl min n0), .int .i64 ((h.truths.map f).foldl max n0)]) ?hr rfl (ret_mk (by rw [HLO.out, HHI.out]) (gS (gS hbwr (by simp)) (by simp)))
      case hr => simp [results, Try.results81, go_sem, *]

set_option maxHeartbeats 2000000 in
theorem bounds_from (g : Nat) (h : Hs) (about : Int) (f : List Int → Int) (w : World) (H : WkAt w g h) (hf : Hid (h.fault = 0)) (hne : Hid (h.truths ≠ []))
    (HC : Hid (∀ (x : World) (e : List Int) (e0 e1 e2 e3 : Int), e ∈ h.truths → e4 e = [.int .i64 e0, .int .i64 e1, .int .i64 e2, .int .i64 e3] → Below w.heap.size w x →
      Calls Try.prog 96 #[.pointer (some ⟨g, 0, none⟩), .agg #[.int .i64 e0, .int .i64 e1, .int .i64 e2, .int .i64 e3], .int .i64 about] x (Ret (.int .i64 (f e)) x))) :
    Calls Try.prog 81 #[.agg #[.func (.func 96) #[] #[]], .pointer (some ⟨g, 0, none⟩), .int .i64 about] w (Ret (.agg #[.int .i64 (loB h.truths f), .int .i64 (hiB h.truths f)]) w) := by
  have H0 := H
  obtain ⟨A2, c2, A3, c3, A4, c4, A5, c5, r, l, h2, h3, h4, h5, h6, h7, h8⟩ := H
  have hgl := h8.lt
  have k5 := h8.cell 5
  simp only [List.getElem?_cons_zero, List.getElem?_cons_succ] at k5
  have htc := truths_count hf.out
  have hpos : 0 < h.truths.length := List.length_pos_iff.2 hne.out
  have hpos1 : (0 : Int) < (h.truths.length : Int) := by omega
  obtain ⟨b, off, e, e0, e1, e2, e3, rfl, hbl, he, h4', t0, t1, t2, t3⟩ := h5.atE hpos
  simp only [Nat.zero_mul, Nat.add_zero] at t0 t1 t2 t3
  have HH := Lib.hid (show h.truths.headD [] = e by
    rw [List.headD_eq_head?_getD, List.head?_eq_getElem?, he]; rfl)
  have HM := Lib.hid (List.mem_of_getElem? he)
  have HE4 := Lib.hid h4'
  have h50 := h5
  clear h2 h3 h4 h6 h7 h8 he h4' h5
  go_enter Try.func81, Try.ntmps81
  go_wp2
  obtain ⟨W1, hW1⟩ : ∃ W1, W1 = (w.alloc (.cells #[.func (.func 96) #[] #[]] 112)).alloc (.cells #[.int .i64 0, .int .i64 0] 42) := ⟨_, rfl⟩
  have hb1 : Below w.heap.size w W1 := by rw [hW1]; exact (by repeat (first | exact Below.refl _ _ | (with_reducible assumption) | apply gL | apply gA | apply gD | apply gN | (refine gS ?_ (by first | (simp; done) | (simp; omega) | omega))))
  have hs1 : W1.heap.size = w.heap.size + 2 := by rw [hW1]; simp
  have q0 : W1.cell? ⟨w.heap.size, 0, none⟩ = some (.func (.func 96) #[] #[]) := by rw [hW1]; simp [go_sem]
  have hB6 : BlkAt W1 (w.heap.size + 1) 42 [.int .i64 0, .int .i64 0] := by
    rw [hW1]
    have := BlkAt.new (w.alloc (.cells #[.func (.func 96) #[] #[]] 112)) 42 [.int .i64 0, .int .i64 0]
    rw [World.size_alloc] at this
    exact this
  rw [← hW1]
  clear hW1
  have hq : w.heap.size < W1.heap.size := by omega
  have hgl1 : g < W1.heap.size := by omega
  have hbl1 : b < W1.heap.size := by omega
  have h6l : w.heap.size + 1 < W1.heap.size := by omega
  clear hs1
  have y5 := (hb1.cell (p := ⟨g, 5, none⟩) hgl).trans k5
  have s0 := (hb1.cell (p := ⟨b, off, none⟩) hbl).trans t0
  have s1 := (hb1.cell (p := ⟨b, off + 1, none⟩) hbl).trans t1
  have s2 := (hb1.cell (p := ⟨b, off + 2, none⟩) hbl).trans t2
  have s3 := (hb1.cell (p := ⟨b, off + 3, none⟩) hbl).trans t3
  have hcall : ∀ x, Calls Try.prog 96 #[.pointer (some ⟨g, 0, none⟩), .agg #[.int .i64 e0, .int .i64 e1, .int .i64 e2, .int .i64 e3], .int .i64 about] (later W1 x) (Ret (.int .i64 (f e)) (later W1 x)) :=
    fun x => HC.out _ e e0 e1 e2 e3 HM.out HE4.out (hb1.trans (below_mono_of hb1 (below_later _ _)))
  have HCA := Lib.hid hcall
  clear hcall
  refine region_later (by kernel_rfl) (by kernel_rfl) ?_
  repeat (go_big_quiet_step (exact quiet_ret (HCA.out _)))
  refine wpQuiet_nil ?_
  rintro W' ⟨x, rfl⟩
  clear HCA s0 s1 s2 s3
  obtain ⟨n0, hn0⟩ : ∃ n, n = f e := ⟨_, rfl⟩
  rw [← hn0]
  have HN0 := Lib.hid hn0
  clear hn0
  go_wp2
  obtain ⟨W2, hW2⟩ : ∃ W2, W2 = (later W1 x).alloc (.cells #[.int .i64 n0, .int .i64 n0] 42) := ⟨_, rfl⟩
  have hb2 : Below W1.heap.size W1 W2 := by rw [hW2]; exact (by repeat (first | exact Below.refl _ _ | (with_reducible assumption) | apply gL | apply gA | apply gD | apply gN | (refine gS ?_ (by first | (simp; done) | (simp; omega) | omega))))
  obtain ⟨b8, hb8⟩ : ∃ b, b = (later W1 x).heap.size := ⟨_, rfl⟩
  have hb8l : W1.heap.size ≤ b8 := by rw [hb8]; exact size_later _ _
  have hB8 : BlkAt W2 b8 42 [.int .i64 n0, .int .i64 n0] := by rw [hW2, hb8]; exact BlkAt.new _ _ _
  rw [← hW2, ← hb8]
  clear hW2 hb8
  have hbw2 : Below w.heap.size w W2 := hb1.trans (hb2.mono hb1.size)
  have r0 := (hb2.cell (p := ⟨w.heap.size, 0, none⟩) hq).trans q0
  have hB62 := hB6.of_below hb2 h6l
  clear q0 y5 hB6
  go_loopw [30] (fun i wr => ∃ k : Nat, k ≤ h.truths.length ∧ i = .int .i64 k ∧ KeepX b8 W2 wr ∧ BlkAt wr b8 42 [.int .i64 (((h.truths.take k).map f).foldl min n0), .int .i64 (((h.truths.take k).map f).foldl max n0)]) (fun i _ => h.truths.length - (intOf i).toNat)
  case atStart => exact ⟨0, Nat.zero_le _, rfl, KeepX.refl _ _, hB8⟩
  case round =>
    obtain ⟨k, hk, rfl, hkx, hBk⟩ := hrel
    have hbwr : Below w.heap.size w wr := hkx.low hbw2 (by omega) hbw2.size
    have c0 := hkx.cell r0 (by show w.heap.size ≠ b8; omega)
    by_cases hlt : k < h.truths.length
    · have hlt1 : (k : Int) < (h.truths.length : Int) := by omega
      have hk0 : (0 : Int) ≤ (k : Int) := Int.natCast_nonneg _
      obtain ⟨b', off', x', x0, x1, x2, x3, hA, hbl', hx', h4x, u0, u1, u2, u3⟩ := (h50.below hbwr).atE hlt
      cases hA
      obtain ⟨lo, hlo⟩ : ∃ n, n = ((h.truths.take k).map f).foldl min n0 := ⟨_, rfl⟩
      obtain ⟨hi, hhi⟩ : ∃ n, n = ((h.truths.take k).map f).foldl max n0 := ⟨_, rfl⟩
      have HSL := Lib.hid (fold_snoc h.truths f min n0 k hx')
      have HSH := Lib.hid (fold_snoc h.truths f max n0 k hx')
      rw [← hlo] at HSL
      rw [← hhi] at HSH
      rw [← hlo, ← hhi] at hBk
      have HMX := Lib.hid (List.mem_of_getElem? hx')
      have HX4 := Lib.hid h4x
      clear hx' h4x hlo hhi
      have hb8w := hBk.lt
      go_wp2
      obtain ⟨W3, hW3⟩ : ∃ W3, W3 = wr.alloc (.cells #[.int .i64 x0, .int .i64 x1, .int .i64 x2, .int .i64 x3] 119) := ⟨_, rfl⟩
      have hb3 : Below wr.heap.size wr W3 := by rw [hW3]; exact (by repeat (first | exact Below.refl _ _ | (with_reducible assumption) | apply gL | apply gA | apply gD | apply gN | (refine gS ?_ (by first | (simp; done) | (simp; omega) | omega))))
      have hB3 : BlkAt W3 wr.heap.size 119 [.int .i64 x0, .int .i64 x1, .int .i64 x2, .int .i64 x3] := by rw [hW3]; exact BlkAt.new _ _ _
      obtain ⟨g10, hg10⟩ : ∃ g, g = wr.heap.size := ⟨_, rfl⟩
      rw [← hW3, ← hg10]
      rw [← hg10] at hB3
      have hqr : w.heap.size < wr.heap.size := World.block_lt_of_cell? wr _ c0
      have d0 := hB3.cell 0
      have d1 := hB3.cell 1
      have d2 := hB3.cell 2
      have d3 := hB3.cell 3
      have hB83 := hBk.of_below hb3 hb8w
      have m0 := hB83.cell 0
      have m1 := hB83.cell 1
      have c03 := (hb3.cell (p := ⟨w.heap.size, 0, none⟩) hqr).trans c0
      simp only [List.getElem?_cons_zero, List.getElem?_cons_succ] at d0 d1 d2 d3 m0 m1
      have hbw3 : Below w.heap.size w W3.drew := (hbwr.trans (hb3.mono hbwr.size)).drew
      have hcall := HC.out _ x' x0 x1 x2 x3 HMX.out HX4.out hbw3
      have HCA := Lib.hid hcall
      have hl3 : ∀ a ∈ ([⟨b8, 0, none⟩, ⟨b8, 1, none⟩, ⟨w.heap.size, 0, none⟩, ⟨g10, 0, none⟩, ⟨g10, 1, none⟩, ⟨g10, 2, none⟩, ⟨g10, 3, none⟩] : List Addr), a.block < W3.heap.size := by
        have := hB83.lt
        have := hB3.lt
        have := hb3.size
        intro a ha
        simp only [List.mem_cons, List.not_mem_nil, or_false] at ha
        rcases ha with rfl | rfl | rfl | rfl | rfl | rfl | rfl <;> simp <;> omega
      obtain ⟨C, hC⟩ : ∃ C, C = Same [⟨b8, 0, none⟩, ⟨b8, 1, none⟩, ⟨w.heap.size, 0, none⟩, ⟨g10, 0, none⟩, ⟨g10, 1, none⟩, ⟨g10, 2, none⟩, ⟨g10, 3, none⟩] W3 := ⟨_, rfl⟩
      obtain ⟨G, hG⟩ : ∃ G, G = held C W3.drew := ⟨_, rfl⟩
      have hfs : ∀ a ∈ ([⟨b8, 0, none⟩, ⟨b8, 1, none⟩, ⟨w.heap.size, 0, none⟩, ⟨g10, 0, none⟩, ⟨g10, 1, none⟩, ⟨g10, 2, none⟩, ⟨g10, 3, none⟩] : List Addr), ∀ u, W3.cell? a = some u → ∀ x, (G x).cell? a = some u := fun a ha u hu x => by
        rw [hG, hC]
        exact same_held hu ha x
      have f0 := hfs _ (by simp) _ d0
      have f1 := hfs _ (by simp) _ d1
      have f2 := hfs _ (by simp) _ d2
      have f3 := hfs _ (by simp) _ d3
      have fm0 := hfs _ (by simp) _ m0
      have fm1 := hfs _ (by simp) _ m1
      have fc := hfs _ (by simp) _ c03
      have hCl : ∀ z, C (later W3.drew z) := fun z => by
        rw [hC]
        exact same_below (Below.trans (gD (Below.refl _ _)) (below_later W3.drew z)) hl3
      have HCL := Lib.hid hCl
      refine region_heldN C [0, 1, 2, 3, 4, 5] [6, 7] 8 (by kernel_rfl) (by kernel_rfl) (by rw [hC]; exact same_drew) ?_
      rw [← hG]
      clear hfs hCl hcall hC hG hg10 hW3 hl3 c0
      simp only [List.filterMap_cons, List.filterMap_nil, List.getElem?_cons_zero, List.getElem?_cons_succ]
      change wpQuiet _ _ _ _ [_, _, _, _, _, _] _
      repeat (go_big_quiet_step (fail))
      refine wpQuiet_nil ?_
      clear f0 f1 f2 f3 fm0 fm1 fc
      refine wpTail_cons rfl (fun K hK => ?_)
      go_simp
      refine HCA.out.mono ?_
      (rintro e w' hr; first | ((with_reducible replace hr := Ret.up hr); obtain ⟨rfl, z, rfl⟩ := hr) | (obtain ⟨rfl, z, rfl⟩ := hr))
      refine hK.out _ _ (HCL.out _) ?_
      clear hK K
      refine wpTail_cons rfl (fun K hK => ?_)
      go_simp
      refine (wider_calls _ _ _ _).mono ?_
      (rintro e w' hr; first | ((with_reducible replace hr := Ret.up hr); obtain ⟨rfl, z, rfl⟩ := hr) | (obtain ⟨rfl, z, rfl⟩ := hr))
      refine hK.out _ _ (HCL.out _) ?_
      clear hK K
      obtain ⟨W4, hW4⟩ : ∃ W4, W4 = later W3.drew z := ⟨_, rfl⟩
      have hb4 : Below W3.heap.size W3 W4 := by rw [hW4]; exact Below.trans (gD (Below.refl _ _)) (below_later W3.drew z)
      rw [← hW4]
      clear hW4 HCL HCA
      have hB84 := hB83.of_below hb4 hB83.lt
      have z0 := hB84.cell 0
      have z1 := hB84.cell 1
      have zf0 := hB84.frozen 0
      have zf1 := hB84.frozen 1
      simp only [List.getElem?_cons_zero, List.getElem?_cons_succ] at z0 z1
      have hkx4 : KeepX b8 W2 W4 := (hkx.trans (KeepX.of_below hb3)).trans (KeepX.of_below hb4)
      refine wpTail_nil rfl (fun K hK => ?_)
      go_simp
      refine hK.out _ _ (noPanic_mk ?_)
      clear hK K
      go_wp2
      go_roundw
      case rel => exact ⟨k + 1, by omega, by go_num, (hkx4.trans (KeepX.set_ _ _ _)).trans (KeepX.set_ _ _ _), by rw [HSL.out, HSH.out]; exact (hB84.set_ 0 _).set_ 1 _⟩
      case measure => simp [intOf]; omega
    · obtain rfl : k = h.truths.length := by omega
      rw [List.take_length] at hBk
      have m0 := hBk.cell 0
      have m1 := hBk.cell 1
      have hB6r := hkx.blk hB62 (by omega)
      have z0 := hB6r.cell 0
      have z1 := hB6r.cell 1
      have zf0 := hB6r.frozen 0
      have zf1 := hB6r.frozen 1
      simp only [List.getElem?_cons_zero, List.getElem?_cons_succ] at m0 m1 z0 z1
      have HLO := Lib.hid (show loB h.truths f = ((h.truths.map f).foldl min n0) by rw [loB, HH.out, HN0.out])
      have HHI := Lib.hid (show hiB h.truths f = ((h.truths.map f).foldl max n0) by rw [hiB, HH.out, HN0.out])
      go_wp2
      refine bodyPost_ret (v := .agg #[.int .i64 ((h.truths.map f).foldl min n0), .int .i64 ((h.truths.map f).foldl max n0)]) ?hr rfl (ret_mk (by rw [HLO.out, HHI.out]) (gS (gS hbwr (by simp)) (by simp)))
      case hr => simp [results, Try.results81, go_sem, *]
end Go.Proofs.Ytcngnfnljkkjgaa
namespace Go.Proofs.Ytcngnfnljkkjgaa
open Go.RowKit
attribute [local go_sem] cell_later frozen_later lt_later le_later

theorem askE_zero {h : Hs} {due : Int} (ha : h.askE due = 0) : h.fault = 0 ∧ due = 0 ∧ h.truths ≠ [] := by
  unfold Hs.askE at ha
  by_cases h1 : h.fault = 0
  · by_cases h2 : due = 0
    · by_cases h3 : h.truths = []
      · simp [h1, h2, h3] at ha
      · exact ⟨h1, h2, h3⟩
    · simp [h1, h2] at ha
  · simp [h1] at ha

theorem asked_bad (v : Value) (h : Hs) (due : Int) (w : World) (H : HsAt w v h) (ha : h.askE due ≠ 0) :
    Calls Try.prog 79 #[v, .int .i64 due] w (Ret (.tuple #[.pointer none, .int .i64 (h.askE due)]) w) :=
  (asked_calls v h due w H).mono fun e w' hr => by
    obtain ⟨hx, (⟨-, he⟩ | ⟨h0, -⟩)⟩ := hr
    · exact ⟨he, hx⟩
    · exact absurd h0 ha
def RetWk (h : Hs) (w : World) (e : Ending) (w' : World) : Prop := ∃ g, e = .returned (.tuple #[.pointer (some ⟨g, 0, none⟩), .int .i64 0]) ∧ (∃ x, w' = later w x) ∧ WkAt w' g h
theorem RetWk.up {h : Hs} {w x w' : World} {e : Ending} (H : RetWk h (later w x) e w') : RetWk h w e w' := by
  obtain ⟨g, he, ⟨y, rfl⟩, hk⟩ := H
  exact ⟨g, he, later_ex (later_below (below_later w x) (size_later w x)), hk⟩
theorem asked_ok (v : Value) (h : Hs) (due : Int) (w : World) (H : HsAt w v h) (ha : h.askE due = 0) :
    Calls Try.prog 79 #[v, .int .i64 due] w (RetWk h w) :=
  (asked_calls v h due w H).mono fun e w' hr => by
    obtain ⟨hx, (⟨h0, -⟩ | ⟨-, g, he, hk⟩)⟩ := hr
    · exact absurd ha h0
    · exact ⟨g, he, hx, hk⟩

theorem infoRange : (Try.prog.info? 42).map (fun i => (i.zero, i.size, i.bytes)) = some (some (.agg #[.int .i64 0, .int .i64 0]), 2, 16) := by kernel_rfl

def Hs.clockR (h : Hs) (i : Nat) : Rg := ⟨loB h.truths fun e => err e i, hiB h.truths fun e => err e i⟩
def Hs.hourR (h : Hs) (i : Nat) : Rg := ⟨loB h.truths fun e => h.hoursB e i, hiB h.truths fun e => h.hoursB e i⟩
def Hs.clocksL (h : Hs) : List Rg := if h.askE 0 = 0 then (List.range h.clocks.length).map h.clockR else []
def Hs.hoursL (h : Hs) : List Rg := if h.askE 0 = 0 then (List.range h.tickets.length).map h.hourR else []
theorem range_snoc {α : Type} (f : Nat → α) (k : Nat) : (List.range (k + 1)).map f = (List.range k).map f ++ [f k] := by
  rw [List.range_succ, List.map_append]; rfl
theorem truth_ok {h : Hs} (hf : h.fault = 0) {e : List Int} (he : e ∈ h.truths) : ErrOk e := prods_ok (fun _ hr => fault_clock hf hr) (List.mem_filter.1 he).1

set_option maxHeartbeats 2000000 in
theorem clocks_calls (v : Value) (h : Hs) (w : World) (H : HsAt w v h) :
    Calls Try.prog 24 #[v] w (RetSlN 2 gR h.clocksL (h.askE 0) w) := by
  have H0 := H
  obtain ⟨A2, c2, A3, c3, A4, c4, rfl, H2, H3, H4⟩ := H
  by_cases ha : h.askE 0 = 0
  · obtain ⟨hf, -, hne⟩ := askE_zero ha
    have hlen : h.clocks.length ≤ 6 := by have := (small_iff.1 (fault_zero hf).1).1; omega
    have HL := Lib.hid (show h.clocksL = (List.range h.clocks.length).map h.clockR by rw [Hs.clocksL, if_pos ha])
    have HA := Lib.hid ha
    have HF := Lib.hid hf
    have HNE := Lib.hid hne
    obtain ⟨i0, hi, hz0, hz1, hz2⟩ := info_parts infoRange
    have hc4 : h.clocks.length ≤ 4 := (small_iff.1 (fault_zero hf).1).1
    clear ha hf hne
    go_enter Try.func24, Try.ntmps24
    go_wp2_with (first | (go_at_call 79; refine (asked_ok _ h 0 _ ?hh HA.out).mono ?_; (case hh => exact H0.below (by repeat (first | exact Below.refl _ _ | (with_reducible assumption) | apply gL | apply gA | apply gD | apply gN | (refine gS ?_ (by first | (simp; done) | (simp; omega) | omega))))); (rintro e w' hr; (first | (with_reducible replace hr := RetWk.up hr) | skip); obtain ⟨g, rfl, ⟨z, rfl⟩, hwk⟩ := hr)))
    obtain ⟨W1, hW1⟩ : ∃ W1, W1 = later (w.alloc (.cells #[.int .i64 h.hour, .int .i64 h.grace, .slice A2 h.clocks.length c2, .slice A3 h.tickets.length c3, .slice A4 h.clips.length c4] 36)) z := ⟨_, rfl⟩
    have hb1 : Below w.heap.size w W1 := by rw [hW1]; exact (by repeat (first | exact Below.refl _ _ | (with_reducible assumption) | apply gL | apply gA | apply gD | apply gN | (refine gS ?_ (by first | (simp; done) | (simp; omega) | omega))))
    rw [← hW1] at hwk ⊢
    clear hW1
    go_loopw [6, 19] (fun v i wr => ∃ k : Nat, k ≤ h.clocks.length ∧ i = .int .i64 k ∧ Below W1.heap.size W1 wr ∧ wr.ownsRow W1.heap.size 42 2 v k (((List.range k).map h.clockR).flatMap gR)) (fun _ i _ => h.clocks.length - (intOf i).toNat)
    case atStart => exact ⟨0, Nat.zero_le _, rfl, Below.refl _ _, World.ownsRow_nil _ _ _ _⟩
    case round =>
      obtain ⟨k, hk, rfl, hb, hown⟩ := hrel
      have hbw : Below w.heap.size w wr := hb1.trans (hb.mono hb1.size)
      by_cases hlt : k < h.clocks.length
      · have hlt1 : (k : Int) < (h.clocks.length : Int) := by omega
        have hk0 : (0 : Int) ≤ (k : Int) := Int.natCast_nonneg _
        have hwk' := hwk.below hb
        have hcall := bounds_off g h k (fun e => err e k) wr hwk' HF HNE (Lib.hid (fun x e' _ _ _ _ hm he hbx => workoff_calls _ e' (Lib.hid he) k x (by omega) (by omega)))
        obtain ⟨R, hR⟩ : ∃ R, R = h.clockR k := ⟨_, rfl⟩
        have hRl : R.lo = loB h.truths (fun e => err e k) := by rw [hR]; rfl
        have hRh : R.hi = hiB h.truths (fun e => err e k) := by rw [hR]; rfl
        rw [← hRl, ← hRh] at hcall
        have HS := Lib.hid (show (List.range (k + 1)).map h.clockR = (List.range k).map h.clockR ++ [R] by rw [range_snoc, hR])
        have HCA := Lib.hid hcall
        clear hcall hR hRl hRh
        go_wp2_with (first
          | (go_at_call 81; refine HCA.out.mono ?_; (rintro e w' hr; first | ((with_reducible replace hr := Ret.up hr); obtain ⟨rfl, z, rfl⟩ := hr) | (obtain ⟨rfl, z, rfl⟩ := hr)))
          | (at_builtin; refine wpList_append_own _ rfl _ _ 29 rfl W1.heap.size 42 i0 (.agg #[.int .i64 0, .int .i64 0]) 2 16 Try.underlying29 hi hz0 hz1 hz2 rfl (by decide) _ _ _ rfl ((own_later hown).alloc _) ⟨(later wr z).heap.size, 0, none⟩ 1 1 (gR R) rfl rfl ?c1 ?c2 ?c3 ?c4 ?c5 ?_))
        case c1 => exact news_new _ _ rfl (gR R) _
        case c2 => simp [gR, Value.oneCell']
        case c3 => unfold maxLen; omega
        case c4 => omega
        case c5 => have := hb.size; have := size_later wr z; simp; omega
        intro v' w1 hown1 hg1 _
        have hb2 := grown_below (w := W1) (by exact gA (later_below hb hb.size)) ((own_later (x := z) hown).alloc (.cells #[.int .i64 R.lo, .int .i64 R.hi] 42)) (Nat.le_refl _) hg1
        go_wp2
        go_roundw
        case rel => exact ⟨k + 1, by omega, by go_num, hb2, by rw [HS.out]; simpa using hown1⟩
        case measure => simp [intOf]; omega
      · obtain rfl : k = h.clocks.length := by omega
        go_wp2
        obtain ⟨A, c, rfl, hs⟩ := SlA.of_own (k := 2) (g := gR) (l := (List.range h.clocks.length).map h.clockR) hown (fun _ _ => rfl) (by simp) (by omega)
        go_ret2
        exact ⟨A, c, by rw [HL.out, HA.out]; rfl, later_ex hbw, by rw [HL.out]; exact hs⟩
  · have HE := Lib.hid ha
    have hb : (h.askE 0 != 0) = true := by simpa using ha
    have HL := Lib.hid (show h.clocksL = [] by rw [Hs.clocksL, if_neg ha])
    go_enter Try.func24, Try.ntmps24
    go_wp2_with (first | (go_at_call 79; refine (asked_bad _ h 0 _ ?hh HE.out).mono ?_; (case hh => exact H0.below (by repeat (first | exact Below.refl _ _ | (with_reducible assumption) | apply gL | apply gA | apply gD | apply gN | (refine gS ?_ (by first | (simp; done) | (simp; omega) | omega))))); (rintro e w' hr; first | ((with_reducible replace hr := Ret.up hr); obtain ⟨rfl, z, rfl⟩ := hr) | (obtain ⟨rfl, z, rfl⟩ := hr))))
    go_ret2
    exact retSlN_nil HL.out rfl (by repeat (first | exact Below.refl _ _ | (with_reducible assumption) | apply gL | apply gA | apply gD | apply gN | (refine gS ?_ (by first | (simp; done) | (simp; omega) | omega))))
set_option maxHeartbeats 2000000 in
theorem hours_all_calls (v : Value) (h : Hs) (w : World) (H : HsAt w v h) :
    Calls Try.prog 26 #[v] w (RetSlN 2 gR h.hoursL (h.askE 0) w) := by
  have H0 := H
  obtain ⟨A2, c2, A3, c3, A4, c4, rfl, H2, H3, H4⟩ := H
  by_cases ha : h.askE 0 = 0
  · obtain ⟨hf, -, hne⟩ := askE_zero ha
    have hlen : h.tickets.length ≤ 6 := (small_iff.1 (fault_zero hf).1).2.1
    have HL := Lib.hid (show h.hoursL = (List.range h.tickets.length).map h.hourR by rw [Hs.hoursL, if_pos ha])
    have HA := Lib.hid ha
    have HF := Lib.hid hf
    have HNE := Lib.hid hne
    obtain ⟨i0, hi, hz0, hz1, hz2⟩ := info_parts infoRange
    have hc4 : h.clocks.length ≤ 4 := (small_iff.1 (fault_zero hf).1).1
    clear ha hf hne
    go_enter Try.func26, Try.ntmps26
    go_wp2_with (first | (go_at_call 79; refine (asked_ok _ h 0 _ ?hh HA.out).mono ?_; (case hh => exact H0.below (by repeat (first | exact Below.refl _ _ | (with_reducible assumption) | apply gL | apply gA | apply gD | apply gN | (refine gS ?_ (by first | (simp; done) | (simp; omega) | omega))))); (rintro e w' hr; (first | (with_reducible replace hr := RetWk.up hr) | skip); obtain ⟨g, rfl, ⟨z, rfl⟩, hwk⟩ := hr)))
    obtain ⟨W1, hW1⟩ : ∃ W1, W1 = later (w.alloc (.cells #[.int .i64 h.hour, .int .i64 h.grace, .slice A2 h.clocks.length c2, .slice A3 h.tickets.length c3, .slice A4 h.clips.length c4] 36)) z := ⟨_, rfl⟩
    have hb1 : Below w.heap.size w W1 := by rw [hW1]; exact (by repeat (first | exact Below.refl _ _ | (with_reducible assumption) | apply gL | apply gA | apply gD | apply gN | (refine gS ?_ (by first | (simp; done) | (simp; omega) | omega))))
    rw [← hW1] at hwk ⊢
    clear hW1
    go_loopw [6, 19] (fun v i wr => ∃ k : Nat, k ≤ h.tickets.length ∧ i = .int .i64 k ∧ Below W1.heap.size W1 wr ∧ wr.ownsRow W1.heap.size 42 2 v k (((List.range k).map h.hourR).flatMap gR)) (fun _ i _ => h.tickets.length - (intOf i).toNat)
    case atStart => exact ⟨0, Nat.zero_le _, rfl, Below.refl _ _, World.ownsRow_nil _ _ _ _⟩
    case round =>
      obtain ⟨k, hk, rfl, hb, hown⟩ := hrel
      have hbw : Below w.heap.size w wr := hb1.trans (hb.mono hb1.size)
      by_cases hlt : k < h.tickets.length
      · have hlt1 : (k : Int) < (h.tickets.length : Int) := by omega
        have hk0 : (0 : Int) ≤ (k : Int) := Int.natCast_nonneg _
        have hwk' := hwk.below hb
        have hcall := bounds_hours g h k (fun e => h.hoursB e k) wr hwk' HF HNE (Lib.hid (fun x e' _ _ _ _ hm he hbx => hours_calls g h e' (Lib.hid he) (Lib.hid (truth_ok HF.out hm)) k x (hwk'.below hbx) HF))
        obtain ⟨R, hR⟩ : ∃ R, R = h.hourR k := ⟨_, rfl⟩
        have hRl : R.lo = loB h.truths (fun e => h.hoursB e k) := by rw [hR]; rfl
        have hRh : R.hi = hiB h.truths (fun e => h.hoursB e k) := by rw [hR]; rfl
        rw [← hRl, ← hRh] at hcall
        have HS := Lib.hid (show (List.range (k + 1)).map h.hourR = (List.range k).map h.hourR ++ [R] by rw [range_snoc, hR])
        have HCA := Lib.hid hcall
        clear hcall hR hRl hRh
        go_wp2_with (first
          | (go_at_call 81; refine HCA.out.mono ?_; (rintro e w' hr; first | ((with_reducible replace hr := Ret.up hr); obtain ⟨rfl, z, rfl⟩ := hr) | (obtain ⟨rfl, z, rfl⟩ := hr)))
          | (at_builtin; refine wpList_append_own _ rfl _ _ 29 rfl W1.heap.size 42 i0 (.agg #[.int .i64 0, .int .i64 0]) 2 16 Try.underlying29 hi hz0 hz1 hz2 rfl (by decide) _ _ _ rfl ((own_later hown).alloc _) ⟨(later wr z).heap.size, 0, none⟩ 1 1 (gR R) rfl rfl ?c1 ?c2 ?c3 ?c4 ?c5 ?_))
        case c1 => exact news_new _ _ rfl (gR R) _
        case c2 => simp [gR, Value.oneCell']
        case c3 => unfold maxLen; omega
        case c4 => omega
        case c5 => have := hb.size; have := size_later wr z; simp; omega
        intro v' w1 hown1 hg1 _
        have hb2 := grown_below (w := W1) (by exact gA (later_below hb hb.size)) ((own_later (x := z) hown).alloc (.cells #[.int .i64 R.lo, .int .i64 R.hi] 42)) (Nat.le_refl _) hg1
        go_wp2
        go_roundw
        case rel => exact ⟨k + 1, by omega, by go_num, hb2, by rw [HS.out]; simpa using hown1⟩
        case measure => simp [intOf]; omega
      · obtain rfl : k = h.tickets.length := by omega
        go_wp2
        obtain ⟨A, c, rfl, hs⟩ := SlA.of_own (k := 2) (g := gR) (l := (List.range h.tickets.length).map h.hourR) hown (fun _ _ => rfl) (by simp) (by omega)
        go_ret2
        exact ⟨A, c, by rw [HL.out, HA.out]; rfl, later_ex hbw, by rw [HL.out]; exact hs⟩
  · have HE := Lib.hid ha
    have hb : (h.askE 0 != 0) = true := by simpa using ha
    have HL := Lib.hid (show h.hoursL = [] by rw [Hs.hoursL, if_neg ha])
    go_enter Try.func26, Try.ntmps26
    go_wp2_with (first | (go_at_call 79; refine (asked_bad _ h 0 _ ?hh HE.out).mono ?_; (case hh => exact H0.below (by repeat (first | exact Below.refl _ _ | (with_reducible assumption) | apply gL | apply gA | apply gD | apply gN | (refine gS ?_ (by first | (simp; done) | (simp; omega) | omega))))); (rintro e w' hr; first | ((with_reducible replace hr := Ret.up hr); obtain ⟨rfl, z, rfl⟩ := hr) | (obtain ⟨rfl, z, rfl⟩ := hr))))
    go_ret2
    exact retSlN_nil HL.out rfl (by repeat (first | exact Below.refl _ _ | (with_reducible assumption) | apply gL | apply gA | apply gD | apply gN | (refine gS ?_ (by first | (simp; done) | (simp; omega) | omega))))
end Go.Proofs.Ytcngnfnljkkjgaa
namespace Go.Proofs.Ytcngnfnljkkjgaa
open Go.RowKit
attribute [local go_sem] cell_later frozen_later lt_later le_later

theorem longd_calls (g : Nat) (h : Hs) (e : List Int) {e0 e1 e2 e3 : Int} (H4 : Hid (e4 e = [.int .i64 e0, .int .i64 e1, .int .i64 e2, .int .i64 e3])) (he : Hid (ErrOk e)) (t : Nat) (ht : t < h.tickets.length) (w : World) (H : WkAt w g h) (hf : Hid (h.fault = 0))
    (p q : Nat) (hp : w.cell? ⟨p, 0, none⟩ = some (.pointer (some ⟨g, 0, none⟩))) (hq : w.cell? ⟨q, 0, none⟩ = some (.int .i64 t)) :
    Calls Try.prog 86 #[.agg #[.int .i64 e0, .int .i64 e1, .int .i64 e2, .int .i64 e3], .pointer (some ⟨p, 0, none⟩), .pointer (some ⟨q, 0, none⟩)] w (Ret (.bool (h.longB e t)) w) := by
  have hpl := World.block_lt_of_cell? w _ hp
  have hql := World.block_lt_of_cell? w _ hq
  simp only at hpl hql
  go_enter Try.func86, Try.ntmps86
  go_wp2_with (first | (go_at_call 87; refine (long_calls g h e H4 he t ht _ ?hw hf).mono ?_; (case hw => exact H.below (by repeat (first | exact Below.refl _ _ | (with_reducible assumption) | apply gL | apply gA | apply gD | apply gN | (refine gS ?_ (by first | (simp; done) | (simp; omega) | omega))))); (rintro e w' hr; first | ((with_reducible replace hr := Ret.up hr); obtain ⟨rfl, z, rfl⟩ := hr) | (obtain ⟨rfl, z, rfl⟩ := hr))))
  go_ret
  exact ret_mk rfl (by repeat (first | exact Below.refl _ _ | (with_reducible assumption) | apply gL | apply gA | apply gD | apply gN | (refine gS ?_ (by first | (simp; done) | (simp; omega) | omega))))

def Hs.longV (h : Hs) (i : Nat) : Int := verdictB h.truths fun e => h.longB e i
def Hs.longL (h : Hs) : List Int := if h.askE 0 = 0 then (List.range h.tickets.length).map h.longV else []

set_option maxHeartbeats 2000000 in
theorem long_all_calls (v : Value) (h : Hs) (w : World) (H : HsAt w v h) :
    Calls Try.prog 31 #[v] w (RetSlN 1 gI h.longL (h.askE 0) w) := by
  have H0 := H
  obtain ⟨A2, c2, A3, c3, A4, c4, rfl, H2, H3, H4⟩ := H
  by_cases ha : h.askE 0 = 0
  · obtain ⟨hf, -, hne⟩ := askE_zero ha
    have hlen : h.tickets.length ≤ 6 := (small_iff.1 (fault_zero hf).1).2.1
    have HL := Lib.hid (show h.longL = (List.range h.tickets.length).map h.longV by rw [Hs.longL, if_pos ha])
    have HA := Lib.hid ha
    have HF := Lib.hid hf
    obtain ⟨i0, hi, hz0, hz1, hz2⟩ := info_parts infoInt
    clear ha hf hne
    go_enter Try.func31, Try.ntmps31
    go_wp2_with (first | (go_at_call 79; refine (asked_ok _ h 0 _ ?hh HA.out).mono ?_; (case hh => exact H0.below (by repeat (first | exact Below.refl _ _ | (with_reducible assumption) | apply gL | apply gA | apply gD | apply gN | (refine gS ?_ (by first | (simp; done) | (simp; omega) | omega))))); (rintro e w' hr; (first | (with_reducible replace hr := RetWk.up hr) | skip); obtain ⟨g, rfl, ⟨z, rfl⟩, hwk⟩ := hr)))
    obtain ⟨W1, hW1⟩ : ∃ W1, W1 = (later (w.alloc (.cells #[.int .i64 h.hour, .int .i64 h.grace, .slice A2 h.clocks.length c2, .slice A3 h.tickets.length c3, .slice A4 h.clips.length c4] 36)) z).alloc (.cells #[.pointer (some ⟨g, 0, none⟩)] 106) := ⟨_, rfl⟩
    have hb1 : Below w.heap.size w W1 := by rw [hW1]; exact (by repeat (first | exact Below.refl _ _ | (with_reducible assumption) | apply gL | apply gA | apply gD | apply gN | (refine gS ?_ (by first | (simp; done) | (simp; omega) | omega))))
    obtain ⟨p, hp⟩ : ∃ p, p = (later (w.alloc (.cells #[.int .i64 h.hour, .int .i64 h.grace, .slice A2 h.clocks.length c2, .slice A3 h.tickets.length c3, .slice A4 h.clips.length c4] 36)) z).heap.size := ⟨_, rfl⟩
    have hwk1 : WkAt W1 g h := by rw [hW1]; exact hwk.below (gA (Below.refl _ _))
    have hB1 : BlkAt W1 p 106 [.pointer (some ⟨g, 0, none⟩)] := by rw [hW1, hp]; exact BlkAt.new _ _ _
    rw [← hW1, ← hp]
    clear hW1 hp hwk
    have hpl := hB1.lt
    go_loopw [6, 19] (fun v i wr => ∃ k : Nat, k ≤ h.tickets.length ∧ i = .int .i64 k ∧ Below W1.heap.size W1 wr ∧ wr.ownsRow W1.heap.size 3 1 v k (((List.range k).map h.longV).flatMap gI)) (fun _ i _ => h.tickets.length - (intOf i).toNat)
    case atStart => exact ⟨0, Nat.zero_le _, rfl, Below.refl _ _, World.ownsRow_nil _ _ _ _⟩
    case round =>
      obtain ⟨k, hk, rfl, hb, hown⟩ := hrel
      have hbw : Below w.heap.size w wr := hb1.trans (hb.mono hb1.size)
      by_cases hlt : k < h.tickets.length
      · have hlt1 : (k : Int) < (h.tickets.length : Int) := by omega
        have hk0 : (0 : Int) ≤ (k : Int) := Int.natCast_nonneg _
        obtain ⟨W2, hW2⟩ : ∃ W2, W2 = wr.alloc (.cells #[.int .i64 k] 3) := ⟨_, rfl⟩
        have hb2 : Below wr.heap.size wr W2 := by rw [hW2]; exact gA (Below.refl _ _)
        have hB2 : BlkAt W2 wr.heap.size 3 [.int .i64 k] := by rw [hW2]; exact BlkAt.new _ _ _
        have hBp := (hB1.of_below hb hpl).of_below hb2 (Nat.lt_of_lt_of_le hpl hb.size)
        have hwk' := (hwk1.below hb).below hb2
        have kp : W2.cell? ⟨p, 0, none⟩ = some (.pointer (some ⟨g, 0, none⟩)) := (hBp.cell 0).trans rfl
        have kq : W2.cell? ⟨wr.heap.size, 0, none⟩ = some (.int .i64 k) := (hB2.cell 0).trans rfl
        have hbp2 := hBp.lt
        have hbq2 := hB2.lt
        have hown2 := hown.alloc (.cells #[.int .i64 k] 3)
        rw [← hW2] at hown2
        have hcall := verdict_long g h (.pointer (some ⟨p, 0, none⟩)) (.pointer (some ⟨wr.heap.size, 0, none⟩)) (fun e => h.longB e k) W2 hwk' HF
          (Lib.hid (fun x e' _ _ _ _ hm he hbx => longd_calls g h e' (Lib.hid he) (Lib.hid (truth_ok HF.out hm)) k hlt x (hwk'.below hbx) HF p wr.heap.size ((hbx.cell (p := ⟨p, 0, none⟩) hbp2).trans kp) ((hbx.cell (p := ⟨wr.heap.size, 0, none⟩) hbq2).trans kq)))
        obtain ⟨R, hR⟩ : ∃ R, R = h.longV k := ⟨_, rfl⟩
        have hRv : R = verdictB h.truths (fun e => h.longB e k) := hR
        rw [← hRv] at hcall
        have HS := Lib.hid (show (List.range (k + 1)).map h.longV = (List.range k).map h.longV ++ [R] by rw [range_snoc, hR])
        have HCA := Lib.hid hcall
        have hsz2 : W2.heap.size = wr.heap.size + 1 := by rw [hW2]; simp
        have HSZ := Lib.hid hsz2
        clear hcall hR hRv hB2 hBp hwk' hsz2
        have kpr : wr.cell? ⟨p, 0, none⟩ = some (.pointer (some ⟨g, 0, none⟩)) := (hb.cell (p := ⟨p, 0, none⟩) hpl).trans ((hB1.cell 0).trans rfl)
        have hplr : p < wr.heap.size := Nat.lt_of_lt_of_le hpl hb.size
        have HW2 := Lib.hid hW2
        clear hW2
        go_wp2_with (first
          | (go_at_call 85; rw [← HW2.out]; refine HCA.out.mono ?_; (rintro e w' hr; first | ((with_reducible replace hr := Ret.up hr); obtain ⟨rfl, z, rfl⟩ := hr) | (obtain ⟨rfl, z, rfl⟩ := hr)))
          | (at_builtin; refine wpList_append_own _ rfl _ _ 47 rfl W1.heap.size 3 i0 (.int .i64 0) 1 8 Try.underlying47 hi hz0 hz1 hz2 rfl (by decide) _ _ _ rfl ((own_later hown2).alloc _) ⟨(later W2 z).heap.size, 0, none⟩ 1 1 (gI R) rfl rfl ?c1 ?c2 ?c3 ?c4 ?c5 ?_))
        case c1 => exact news_new _ _ rfl (gI R) _
        case c2 => simp [gI, Value.oneCell']
        case c3 => unfold maxLen; omega
        case c4 => omega
        case c5 => have := hb.size; have := HSZ.out; have := size_later W2 z; simp; omega
        intro v' w1 hown1 hg1 _
        have hb3 := grown_below (w := W1) (by exact gA (later_below (hb.trans (hb2.mono hb.size)) (hb.trans (hb2.mono hb.size)).size)) ((own_later (x := z) hown2).alloc (.cells #[.int .i64 R] 3)) (Nat.le_refl _) hg1
        go_wp2
        go_roundw
        case rel => exact ⟨k + 1, by omega, by go_num, hb3, by rw [HS.out]; simpa using hown1⟩
        case measure => simp [intOf]; omega
      · obtain rfl : k = h.tickets.length := by omega
        go_wp2
        obtain ⟨A, c, rfl, hs⟩ := SlA.of_own (k := 1) (g := gI) (l := (List.range h.tickets.length).map h.longV) hown (fun _ _ => rfl) (by simp) (by omega)
        go_ret2
        exact ⟨A, c, by rw [HL.out, HA.out]; rfl, later_ex hbw, by rw [HL.out]; exact hs⟩
  · have HE := Lib.hid ha
    have hb : (h.askE 0 != 0) = true := by simpa using ha
    have HL := Lib.hid (show h.longL = [] by rw [Hs.longL, if_neg ha])
    go_enter Try.func31, Try.ntmps31
    go_wp2_with (first | (go_at_call 79; refine (asked_bad _ h 0 _ ?hh HE.out).mono ?_; (case hh => exact H0.below (by repeat (first | exact Below.refl _ _ | (with_reducible assumption) | apply gL | apply gA | apply gD | apply gN | (refine gS ?_ (by first | (simp; done) | (simp; omega) | omega))))); (rintro e w' hr; first | ((with_reducible replace hr := Ret.up hr); obtain ⟨rfl, z, rfl⟩ := hr) | (obtain ⟨rfl, z, rfl⟩ := hr))))
    go_ret2
    exact retSlN_nil HL.out rfl (by repeat (first | exact Below.refl _ _ | (with_reducible assumption) | apply gL | apply gA | apply gD | apply gN | (refine gS ?_ (by first | (simp; done) | (simp; omega) | omega))))
end Go.Proofs.Ytcngnfnljkkjgaa
namespace Go.Proofs.Ytcngnfnljkkjgaa
open Go.RowKit
attribute [local go_sem] cell_later frozen_later lt_later le_later

def Hs.tubAt (h : Hs) (t : Nat) : Int := match h.tickets[t]? with
  | some x => x.tub
  | none => 0
def cp0 : Cp := ⟨0, 0, 0⟩
def beforeB (e : List Int) (l m : List Cp) : Bool := decide (m.length < 2) || decide (tru e (l.getD 0 cp0) < tru e (m.getD 1 cp0))
def Hs.clashB (h : Hs) (e : List Int) (a b : Nat) : Bool :=
  (h.tubAt a == h.tubAt b) && (!(h.ofs a).isEmpty && (!(h.ofs b).isEmpty && (beforeB e (h.ofs a) (h.ofs b) && beforeB e (h.ofs b) (h.ofs a))))

theorem SlA.clip {w : World} {A : Option Addr} {c : Nat} {l : List Cp} (h : SlA w 3 gC A c l) (i : Nat) (hi : i < l.length) :
    ∃ b off x, A = some ⟨b, off, none⟩ ∧ b < w.heap.size ∧ l[i]? = some x ∧ l.getD i cp0 = x ∧ w.cell? ⟨b, off + i * 3, none⟩ = some (.int .i64 x.tk) ∧ w.cell? ⟨b, off + i * 3 + 1, none⟩ = some (.int .i64 x.ck) ∧
      w.cell? ⟨b, off + i * 3 + 2, none⟩ = some (.int .i64 x.mn) := by
  obtain ⟨b, off, x, h1, h2, h3, h4⟩ := h.atC hi
  exact ⟨b, off, x, h1, h2, h3, by rw [List.getD_eq_getElem?_getD, h3]; rfl, h4⟩

set_option maxHeartbeats 4000000 in
theorem clash_calls (g : Nat) (h : Hs) (e : List Int) {e0 e1 e2 e3 : Int} (H4 : Hid (e4 e = [.int .i64 e0, .int .i64 e1, .int .i64 e2, .int .i64 e3])) (he : Hid (ErrOk e)) (a b : Nat) (ha : a < h.tickets.length) (hb : b < h.tickets.length) (w : World) (H : WkAt w g h) (hf : Hid (h.fault = 0)) :
    Calls Try.prog 92 #[.pointer (some ⟨g, 0, none⟩), .agg #[.int .i64 e0, .int .i64 e1, .int .i64 e2, .int .i64 e3], .int .i64 a, .int .i64 b] w (Ret (.bool (h.clashB e a b)) w) := by
  obtain ⟨A2, c2, A3, c3, A4, c4, A5, c5, r, l, h2, h3, h4, h5, h6, h7, h8⟩ := H
  have hl : h.clips.length ≤ 1000 := by have := (small_iff.1 (fault_zero hf.out).1).2.2; omega
  have hgl := h8.lt
  have hhs : HsAt w (.agg #[.int .i64 h.hour, .int .i64 h.grace, .slice A2 h.clocks.length c2, .slice A3 h.tickets.length c3, .slice A4 h.clips.length c4]) h := ⟨A2, c2, A3, c3, A4, c4, rfl, h2, h3, h4⟩
  obtain ⟨W1, hW1⟩ : ∃ W1, W1 = w.alloc (.cells #[.int .i64 e0, .int .i64 e1, .int .i64 e2, .int .i64 e3] 119) := ⟨_, rfl⟩
  have hb1 : Below w.heap.size w W1 := by rw [hW1]; exact (by repeat (first | exact Below.refl _ _ | (with_reducible assumption) | apply gL | apply gA | apply gD | apply gN | (refine gS ?_ (by first | (simp; done) | (simp; omega) | omega))))
  have hB1 : BlkAt W1 w.heap.size 119 [.int .i64 e0, .int .i64 e1, .int .i64 e2, .int .i64 e3] := by rw [hW1]; exact BlkAt.new _ _ _
  have h81 := h8.of_below hb1 hgl
  have hhs1 := hhs.below hb1
  have h31 := h3.below hb1
  have k0 := h81.cell 0
  have k1 := h81.cell 1
  have k2 := h81.cell 2
  have k3 := h81.cell 3
  have k4 := h81.cell 4
  simp only [List.getElem?_cons_zero, List.getElem?_cons_succ] at k0 k1 k2 k3 k4
  have hgl1 := h81.lt
  clear h2 h3 h4 h5 h6 h7 h8 hhs
  go_enter Try.func92, Try.ntmps92
  go_wp2
  rw [← hW1]
  clear hW1
  obtain ⟨C, hC⟩ : ∃ C, C = Same [⟨g, 0, none⟩, ⟨g, 1, none⟩, ⟨g, 2, none⟩, ⟨g, 3, none⟩, ⟨g, 4, none⟩] W1 := ⟨_, rfl⟩
  obtain ⟨G, hG⟩ : ∃ G, G = held C W1.drew := ⟨_, rfl⟩
  have hfs : ∀ a ∈ ([⟨g, 0, none⟩, ⟨g, 1, none⟩, ⟨g, 2, none⟩, ⟨g, 3, none⟩, ⟨g, 4, none⟩] : List Addr), ∀ u, W1.cell? a = some u → ∀ x, (G x).cell? a = some u := fun a ha u hu x => by
    rw [hG, hC]
    exact same_held hu ha x
  have f0 := hfs _ (by simp) _ k0
  have f1 := hfs _ (by simp) _ k1
  have f2 := hfs _ (by simp) _ k2
  have f3 := hfs _ (by simp) _ k3
  have f4 := hfs _ (by simp) _ k4
  have hCl : ∀ z, C (later W1.drew z) := fun z => by
    rw [hC]
    exact same_below (Below.trans (gD (Below.refl _ _)) (below_later W1.drew z)) (by simp; omega)
  have HCL := Lib.hid hCl
  refine region_heldN C [0, 1, 2, 3, 4, 6, 7, 8, 9, 10] [5, 11, 12] 13 (by kernel_rfl) (by kernel_rfl) (by rw [hC]; exact same_drew) ?_
  rw [← hG]
  clear hfs hCl hC hG
  simp only [List.filterMap_cons, List.filterMap_nil, List.getElem?_cons_zero, List.getElem?_cons_succ]
  change wpQuiet _ _ _ _ [_, _, _, _, _, _, _, _, _, _] _
  repeat (go_big_quiet_step (fail))
  refine wpQuiet_nil ?_
  clear f0 f1 f2 f3 f4
  refine wpTail_cons rfl (fun K hK => ?_)
  go_simp
  refine (of_calls _ h a _ (hhs1.below (gD (Below.refl _ _))) hl).mono ?_
  rintro e' w' ⟨A, c, rfl, ⟨z, rfl⟩, hsl⟩
  refine hK.out _ _ (HCL.out _) ?_
  clear hK K
  refine wpTail_cons rfl (fun K hK => ?_)
  go_simp
  refine (of_calls _ h b _ (hhs1.below (Below.trans (gD (Below.refl _ _)) (below_later W1.drew z))) hl).mono ?_
  rintro e' w' ⟨B, d, rfl, ⟨y, rfl⟩, hsm⟩
  obtain ⟨W2, hW2⟩ : ∃ W2, W2 = later (later W1.drew z) y := ⟨_, rfl⟩
  have hb2 : Below W1.heap.size W1 W2 := by rw [hW2]; exact (by repeat (first | exact Below.refl _ _ | (with_reducible assumption) | apply gL | apply gA | apply gD | apply gN | (refine gS ?_ (by first | (simp; done) | (simp; omega) | omega))))
  have hsl2 : SlA W2 3 gC A c (h.ofs a) := by rw [hW2]; exact hsl.below (below_later _ _)
  have hC2 : C W2 := by
    rw [hW2, show later (later W1.drew z) y = later W1.drew (later (later W1.drew z) y) from later_of (Below.trans (below_later W1.drew z) ((below_later _ _).mono (size_later W1.drew z)))]
    exact HCL.out _
  rw [← hW2] at hsm ⊢
  clear hW2 hsl HCL
  refine hK.out _ _ hC2 ?_
  clear hK K
  refine wpTail_cons rfl (fun K hK => ?_)
  go_simp
  refine hK.out _ _ hC2 ?_
  clear hK K
  refine wpTail_nil rfl (fun K hK => ?_)
  go_simp
  refine hK.out _ _ (noPanic_mk ?_)
  clear hK K hC2
  go_wp2
  have hc4 : h.clocks.length ≤ 4 := (small_iff.1 (fault_zero hf.out).1).1
  have s3 := (hb2.cell (p := ⟨g, 3, none⟩) hgl1).trans k3
  obtain ⟨bt, ot, xa, rfl, hbt, hxa, i0, i1⟩ := (h31.below hb2).atT ha
  obtain ⟨bt', ot', xb, hA', -, hxb, j0, j1⟩ := (h31.below hb2).atT hb
  cases hA'
  have hta : h.tubAt a = xa.tub := by simp [Hs.tubAt, hxa]
  have htb : h.tubAt b = xb.tub := by simp [Hs.tubAt, hxb]
  have hgl2 : g < W2.heap.size := Nat.lt_of_lt_of_le hgl1 hb2.size
  have ha0 : (0 : Int) ≤ (a : Int) := Int.natCast_nonneg _
  have hb0 : (0 : Int) ≤ (b : Int) := Int.natCast_nonneg _
  have ha1 : (a : Int) < (h.tickets.length : Int) := by omega
  have hb1' : (b : Int) < (h.tickets.length : Int) := by omega
  have HTA := Lib.hid hta
  have HTB := Lib.hid htb
  have hq1 := hB1.lt
  have hBe := hB1.of_below hb2 hq1
  have e0c := hBe.cell 0
  have e1c := hBe.cell 1
  have e2c := hBe.cell 2
  have e3c := hBe.cell 3
  simp only [List.getElem?_cons_zero, List.getElem?_cons_succ] at e0c e1c e2c e3c
  have hq2 := hBe.lt
  obtain ⟨la, hla⟩ : ∃ n, n = (h.ofs a).length := ⟨_, rfl⟩
  obtain ⟨lb, hlb⟩ : ∃ n, n = (h.ofs b).length := ⟨_, rfl⟩
  rw [← hla, ← hlb]
  have HLA := Lib.hid hla
  have HLB := Lib.hid hlb
  clear hta htb hxa hxb hla hlb
  by_cases ht : xa.tub = xb.tub
  · have ht1 : (xa.tub != xb.tub) = false := by simp [ht]
    have HT := Lib.hid ht
    clear ht
    by_cases hz : la = 0
    · have hz1 : ((la : Int) == 0) = true := by simp [hz]
      have HR := Lib.hid (show h.clashB e a b = false by
        have : h.ofs a = [] := List.eq_nil_of_length_eq_zero (by rw [← HLA.out]; exact hz)
        simp [Hs.clashB, this])
      clear hz
      refine region_later (by kernel_rfl) (by kernel_rfl) ?_
      repeat (go_big_quiet_step (fail))
      refine wpQuiet_nil ?_
      rintro W' ⟨_, rfl⟩
      go_wp2
      go_ret
      exact ret_mk (ret_bool HR.out.symm) (hb1.trans (below_mono_of hb1 (later_below hb2 hb2.size)))
    · have hz1 : ((la : Int) == 0) = false := by simp; omega
      by_cases hy : lb = 0
      · have hy1 : ((lb : Int) == 0) = true := by simp [hy]
        have HR := Lib.hid (show h.clashB e a b = false by
          have : h.ofs b = [] := List.eq_nil_of_length_eq_zero (by rw [← HLB.out]; exact hy)
          simp [Hs.clashB, this])
        clear hy
        refine region_later (by kernel_rfl) (by kernel_rfl) ?_
        repeat (go_big_quiet_step (fail))
        refine wpQuiet_nil ?_
        rintro W' ⟨_, rfl⟩
        go_wp2
        go_ret
        exact ret_mk (ret_bool HR.out.symm) (hb1.trans (below_mono_of hb1 (later_below hb2 hb2.size)))
      · have hy1 : ((lb : Int) == 0) = false := by simp; omega
        have HCB := Lib.hid (show h.clashB e a b = (beforeB e (h.ofs a) (h.ofs b) && beforeB e (h.ofs b) (h.ofs a)) by
          have hn1 : (h.ofs a).isEmpty = false := by rw [List.isEmpty_eq_false_iff]; exact fun hh => hz (by rw [HLA.out, hh]; rfl)
          have hn2 : (h.ofs b).isEmpty = false := by rw [List.isEmpty_eq_false_iff]; exact fun hh => hy (by rw [HLB.out, hh]; rfl)
          simp [Hs.clashB, HTA.out, HTB.out, HT.out, hn1, hn2])
        refine region_later (by kernel_rfl) (by kernel_rfl) ?_
        repeat (go_big_quiet_step (fail))
        refine wpQuiet_nil ?_
        rintro W' ⟨_, rfl⟩
        go_wp2
        have hpa : 0 < (h.ofs a).length := by have := HLA.out; omega
        have hpb : 0 < (h.ofs b).length := by have := HLB.out; omega
        have hpa1 : (0 : Int) < (la : Int) := by omega
        have hpb1 : (0 : Int) < (lb : Int) := by omega
        obtain ⟨bx0, ox0, x0, hAx0, hbx0, hx0, hgx0, cx00, cx01, cx02⟩ := hsl2.clip 0 hpa
        obtain ⟨-, -, px00, px0q, px02, px03⟩ := fault_clips hf.out (ofs_mem hx0)
        have px01 : x0.ck < 4 := by omega
        simp only [Nat.zero_mul, Nat.add_zero] at cx00 cx01 cx02
        obtain ⟨by0, oy0, y0, hAy0, hby0, hy0, hgy0, cy00, cy01, cy02⟩ := hsm.clip 0 hpb
        obtain ⟨-, -, py00, py0q, py02, py03⟩ := fault_clips hf.out (ofs_mem hy0)
        have py01 : y0.ck < 4 := by omega
        simp only [Nat.zero_mul, Nat.add_zero] at cy00 cy01 cy02
        subst hAx0
        subst hAy0
        by_cases hm2 : lb < 2
        · have hm2' : (lb : Int) < 2 := by omega
          by_cases hl2 : la < 2
          · have hl2' : (la : Int) < 2 := by omega
            have HR := Lib.hid (show h.clashB e a b = true by rw [HCB.out]; simp [beforeB, ← HLA.out, ← HLB.out, hm2, hl2])
            refine region_later (by kernel_rfl) (by kernel_rfl) ?_
            repeat (go_big_quiet_step (first | with_reducible exact quiet_ret (minute_calls4 e H4 he x0 _ px00 px01 px02 px03) | with_reducible exact quiet_ret (minute_calls4 e H4 he y0 _ py00 py01 py02 py03)))
            refine wpQuiet_nil ?_
            rintro W' ⟨_, rfl⟩
            go_wp2
            go_ret
            exact ret_mk (ret_bool HR.out.symm) (hb1.trans (below_mono_of hb1 (later_below (later_below hb2 hb2.size) (Nat.le_trans hb2.size (size_later _ _)))))
          · have hl2' : ¬ (la : Int) < 2 := by omega
            have hla1 : (1 : Int) < (la : Int) := by omega
            obtain ⟨bx1, ox1, x1, hAx1, hbx1, hx1, hgx1, cx10, cx11, cx12⟩ := hsl2.clip 1 (by have := HLA.out; omega)
            obtain ⟨-, -, px10, px1q, px12, px13⟩ := fault_clips hf.out (ofs_mem hx1)
            have px11 : x1.ck < 4 := by omega
            simp only [Nat.one_mul] at cx10 cx11 cx12
            cases hAx1
            have HR := Lib.hid (show h.clashB e a b = decide (tru e y0 < tru e x1) by rw [HCB.out]; simp [beforeB, ← HLA.out, ← HLB.out, hm2, hl2, hgy0, hgx1, -List.getD_eq_getElem?_getD])
            refine region_later (by kernel_rfl) (by kernel_rfl) ?_
            repeat (go_big_quiet_step (first | with_reducible exact quiet_ret (minute_calls4 e H4 he x0 _ px00 px01 px02 px03) | with_reducible exact quiet_ret (minute_calls4 e H4 he y0 _ py00 py01 py02 py03) | with_reducible exact quiet_ret (minute_calls4 e H4 he x1 _ px10 px11 px12 px13)))
            refine wpQuiet_nil ?_
            rintro W' ⟨_, rfl⟩
            go_wp2
            go_ret
            exact ret_mk (ret_bool HR.out.symm) (hb1.trans (below_mono_of hb1 (later_below (later_below hb2 hb2.size) (Nat.le_trans hb2.size (size_later _ _)))))
        · have hm2' : ¬ (lb : Int) < 2 := by omega
          have hlb1 : (1 : Int) < (lb : Int) := by omega
          obtain ⟨by1, oy1, y1, hAy1, hby1, hy1, hgy1, cy10, cy11, cy12⟩ := hsm.clip 1 (by have := HLB.out; omega)
          obtain ⟨-, -, py10, py1q, py12, py13⟩ := fault_clips hf.out (ofs_mem hy1)
          have py11 : y1.ck < 4 := by omega
          simp only [Nat.one_mul] at cy10 cy11 cy12
          cases hAy1
          by_cases hc : tru e x0 < tru e y1
          · by_cases hl2 : la < 2
            · have hl2' : (la : Int) < 2 := by omega
              have HR := Lib.hid (show h.clashB e a b = true by rw [HCB.out]; simp [beforeB, ← HLA.out, ← HLB.out, hm2, hl2, hgx0, hgy1, hc, -List.getD_eq_getElem?_getD])
              refine region_later (by kernel_rfl) (by kernel_rfl) ?_
              repeat (go_big_quiet_step (first | with_reducible exact quiet_ret (minute_calls4 e H4 he x0 _ px00 px01 px02 px03) | with_reducible exact quiet_ret (minute_calls4 e H4 he y0 _ py00 py01 py02 py03) | with_reducible exact quiet_ret (minute_calls4 e H4 he y1 _ py10 py11 py12 py13)))
              refine wpQuiet_nil ?_
              rintro W' ⟨_, rfl⟩
              go_wp2
              go_ret
              exact ret_mk (ret_bool HR.out.symm) (hb1.trans (below_mono_of hb1 (later_below (later_below hb2 hb2.size) (Nat.le_trans hb2.size (size_later _ _)))))
            · have hl2' : ¬ (la : Int) < 2 := by omega
              have hla1 : (1 : Int) < (la : Int) := by omega
              obtain ⟨bx1, ox1, x1, hAx1, hbx1, hx1, hgx1, cx10, cx11, cx12⟩ := hsl2.clip 1 (by have := HLA.out; omega)
              obtain ⟨-, -, px10, px1q, px12, px13⟩ := fault_clips hf.out (ofs_mem hx1)
              have px11 : x1.ck < 4 := by omega
              simp only [Nat.one_mul] at cx10 cx11 cx12
              cases hAx1
              have HR := Lib.hid (show h.clashB e a b = decide (tru e y0 < tru e x1) by rw [HCB.out]; simp [beforeB, ← HLA.out, ← HLB.out, hm2, hl2, hgx0, hgy1, hgy0, hgx1, hc, -List.getD_eq_getElem?_getD])
              refine region_later (by kernel_rfl) (by kernel_rfl) ?_
              repeat (go_big_quiet_step (first | with_reducible exact quiet_ret (minute_calls4 e H4 he x0 _ px00 px01 px02 px03) | with_reducible exact quiet_ret (minute_calls4 e H4 he y0 _ py00 py01 py02 py03) | with_reducible exact quiet_ret (minute_calls4 e H4 he y1 _ py10 py11 py12 py13) | with_reducible exact quiet_ret (minute_calls4 e H4 he x1 _ px10 px11 px12 px13)))
              refine wpQuiet_nil ?_
              rintro W' ⟨_, rfl⟩
              go_wp2
              go_ret
              exact ret_mk (ret_bool HR.out.symm) (hb1.trans (below_mono_of hb1 (later_below (later_below hb2 hb2.size) (Nat.le_trans hb2.size (size_later _ _)))))
          · have HR := Lib.hid (show h.clashB e a b = false by rw [HCB.out]; simp [beforeB, ← HLB.out, hm2, hgx0, hgy1, hc, -List.getD_eq_getElem?_getD])
            refine region_later (by kernel_rfl) (by kernel_rfl) ?_
            repeat (go_big_quiet_step (first | with_reducible exact quiet_ret (minute_calls4 e H4 he x0 _ px00 px01 px02 px03) | with_reducible exact quiet_ret (minute_calls4 e H4 he y0 _ py00 py01 py02 py03) | with_reducible exact quiet_ret (minute_calls4 e H4 he y1 _ py10 py11 py12 py13)))
            refine wpQuiet_nil ?_
            rintro W' ⟨_, rfl⟩
            go_wp2
            go_ret
            exact ret_mk (ret_bool HR.out.symm) (hb1.trans (below_mono_of hb1 (later_below (later_below hb2 hb2.size) (Nat.le_trans hb2.size (size_later _ _)))))
  · have ht1 : (xa.tub != xb.tub) = true := by simp [ht]
    have HR := Lib.hid (show h.clashB e a b = false by simp [Hs.clashB, HTA.out, HTB.out, ht])
    clear ht
    refine region_later (by kernel_rfl) (by kernel_rfl) ?_
    repeat (go_big_quiet_step (fail))
    refine wpQuiet_nil ?_
    rintro W' ⟨_, rfl⟩
    go_wp2
    go_ret
    exact ret_mk (ret_bool HR.out.symm) (hb1.trans (below_mono_of hb1 (later_below hb2 hb2.size)))
end Go.Proofs.Ytcngnfnljkkjgaa
namespace Go.Proofs.Ytcngnfnljkkjgaa
open Go.RowKit
attribute [local go_sem] cell_later frozen_later lt_later le_later

def Hs.okAt (h : Hs) (e : List Int) (i : Nat) : Bool := !h.longB e i && (List.range i).all fun k => !h.clashB e i k
def Hs.paidB (h : Hs) (e : List Int) : Bool := (List.range h.tickets.length).all (h.okAt e)
theorem all_range_false {p : Nat → Bool} {n k : Nat} (hk : k < n) (hp : p k = false) : (List.range n).all p = false := by
  rw [List.all_eq_false]
  exact ⟨k, List.mem_range.2 hk, by simp [hp]⟩
theorem all_range_snoc {p : Nat → Bool} {k : Nat} (h1 : (List.range k).all p = true) (h2 : p k = true) : (List.range (k + 1)).all p = true := by
  rw [List.range_succ, List.all_append, h1]
  simp [h2]

set_option maxHeartbeats 2000000 in
theorem paid_calls (g : Nat) (h : Hs) (e : List Int) {e0 e1 e2 e3 : Int} (H4 : Hid (e4 e = [.int .i64 e0, .int .i64 e1, .int .i64 e2, .int .i64 e3])) (he : Hid (ErrOk e)) (w : World) (H : WkAt w g h) (hf : Hid (h.fault = 0)) :
    Calls Try.prog 88 #[.pointer (some ⟨g, 0, none⟩), .agg #[.int .i64 e0, .int .i64 e1, .int .i64 e2, .int .i64 e3]] w (Ret (.bool (h.paidB e)) w) := by
  have H0 := H
  obtain ⟨A2, c2, A3, c3, A4, c4, A5, c5, r, l, h2, h3, h4, h5, h6, h7, h8⟩ := H
  have ht6 : h.tickets.length ≤ 6 := (small_iff.1 (fault_zero hf.out).1).2.1
  have hgl := h8.lt
  have kk3 := h8.cell 3
  simp only [List.getElem?_cons_zero, List.getElem?_cons_succ] at kk3
  obtain ⟨W1, hW1⟩ : ∃ W1, W1 = w.alloc (.cells #[.int .i64 e0, .int .i64 e1, .int .i64 e2, .int .i64 e3] 119) := ⟨_, rfl⟩
  have hb1 : Below w.heap.size w W1 := by rw [hW1]; exact (by repeat (first | exact Below.refl _ _ | (with_reducible assumption) | apply gL | apply gA | apply gD | apply gN | (refine gS ?_ (by first | (simp; done) | (simp; omega) | omega))))
  have hB1 : BlkAt W1 w.heap.size 119 [.int .i64 e0, .int .i64 e1, .int .i64 e2, .int .i64 e3] := by rw [hW1]; exact BlkAt.new _ _ _
  have q0 := hB1.cell 0
  have q1 := hB1.cell 1
  have q2 := hB1.cell 2
  have q3 := hB1.cell 3
  simp only [List.getElem?_cons_zero, List.getElem?_cons_succ] at q0 q1 q2 q3
  have hq := hB1.lt
  have hwk1 := H0.below hb1
  clear h2 h3 h4 h5 h6 h7 h8 H0
  go_enter Try.func88, Try.ntmps88
  go_wp2
  rw [← hW1]
  clear hW1 kk3
  go_loopw [13] (fun i wr => ∃ k : Nat, k ≤ h.tickets.length ∧ i = .int .i64 k ∧ (List.range k).all (h.okAt e) = true ∧ ∃ x, wr = later W1 x) (fun i _ => h.tickets.length - (intOf i).toNat)
  case atStart => exact ⟨0, Nat.zero_le _, rfl, rfl, later_ex (Below.refl _ _)⟩
  case round =>
    obtain ⟨k, hk, rfl, hall, x, rfl⟩ := hrel
    have HALL := Lib.hid hall
    clear hall
    by_cases hlt : k < h.tickets.length
    · have hlt1 : (k : Int) < (h.tickets.length : Int) := by omega
      have hk0 : (0 : Int) ≤ (k : Int) := Int.natCast_nonneg _
      by_cases hlg : h.longB e k = true
      · have HR := Lib.hid (show h.paidB e = false from all_range_false hlt (by simp [Hs.okAt, hlg]))
        go_wp2_with (first | (go_at_call 87; refine (long_calls g h e H4 he k hlt _ ?hw hf).mono ?_; (case hw => exact hwk1.below (by repeat (first | exact Below.refl _ _ | (with_reducible assumption) | apply gL | apply gA | apply gD | apply gN | (refine gS ?_ (by first | (simp; done) | (simp; omega) | omega))))); rw [hlg]; (rintro e w' hr; first | ((with_reducible replace hr := Ret.up hr); obtain ⟨rfl, z, rfl⟩ := hr) | (obtain ⟨rfl, z, rfl⟩ := hr))))
        go_ret
        exact ret_mk (ret_bool HR.out.symm) (hb1.trans (below_mono_of hb1 (by repeat (first | exact Below.refl _ _ | (with_reducible assumption) | apply gL | apply gA | apply gD | apply gN | (refine gS ?_ (by first | (simp; done) | (simp; omega) | omega))))))
      · have hlg : h.longB e k = false := by simpa using hlg
        go_wp2_with (first | (go_at_call 87; refine (long_calls g h e H4 he k hlt _ ?hw hf).mono ?_; (case hw => exact hwk1.below (by repeat (first | exact Below.refl _ _ | (with_reducible assumption) | apply gL | apply gA | apply gD | apply gN | (refine gS ?_ (by first | (simp; done) | (simp; omega) | omega))))); rw [hlg]; (rintro e w' hr; first | ((with_reducible replace hr := Ret.up hr); obtain ⟨rfl, z, rfl⟩ := hr) | (obtain ⟨rfl, z, rfl⟩ := hr))))
        have HLG := Lib.hid hlg
        clear hlg
        go_loopw [21] (fun i wr => ∃ j : Nat, j ≤ k ∧ i = .int .i64 j ∧ (List.range j).all (fun j => !h.clashB e k j) = true ∧ ∃ x, wr = later W1 x) (fun i _ => k - (intOf i).toNat)
        case atStart => exact ⟨0, Nat.zero_le _, rfl, rfl, later_ex (by repeat (first | exact Below.refl _ _ | (with_reducible assumption) | apply gL | apply gA | apply gD | apply gN | (refine gS ?_ (by first | (simp; done) | (simp; omega) | omega))))⟩
        case round =>
          obtain ⟨j, hj, rfl, hall2, y, rfl⟩ := hrel
          have HALL2 := Lib.hid hall2
          clear hall2
          by_cases hlj : j < k
          · have hlj1 : (j : Int) < (k : Int) := by omega
            have hj0 : (0 : Int) ≤ (j : Int) := Int.natCast_nonneg _
            by_cases hcl : h.clashB e k j = true
            · have HR := Lib.hid (show h.paidB e = false from all_range_false hlt (by
                rw [Hs.okAt, all_range_false (p := fun j => !h.clashB e k j) hlj (by simp [hcl])]; simp))
              go_wp2_with (first | (go_at_call 92; refine (clash_calls g h e H4 he k j hlt (by omega) _ ?hw hf).mono ?_; (case hw => exact hwk1.below (by repeat (first | exact Below.refl _ _ | (with_reducible assumption) | apply gL | apply gA | apply gD | apply gN | (refine gS ?_ (by first | (simp; done) | (simp; omega) | omega))))); rw [hcl]; (rintro e w' hr; first | ((with_reducible replace hr := Ret.up hr); obtain ⟨rfl, z, rfl⟩ := hr) | (obtain ⟨rfl, z, rfl⟩ := hr))))
              go_ret
              exact ret_mk (ret_bool HR.out.symm) (hb1.trans (below_mono_of hb1 (by repeat (first | exact Below.refl _ _ | (with_reducible assumption) | apply gL | apply gA | apply gD | apply gN | (refine gS ?_ (by first | (simp; done) | (simp; omega) | omega))))))
            · have hcl : h.clashB e k j = false := by simpa using hcl
              go_wp2_with (first | (go_at_call 92; refine (clash_calls g h e H4 he k j hlt (by omega) _ ?hw hf).mono ?_; (case hw => exact hwk1.below (by repeat (first | exact Below.refl _ _ | (with_reducible assumption) | apply gL | apply gA | apply gD | apply gN | (refine gS ?_ (by first | (simp; done) | (simp; omega) | omega))))); rw [hcl]; (rintro e w' hr; first | ((with_reducible replace hr := Ret.up hr); obtain ⟨rfl, z, rfl⟩ := hr) | (obtain ⟨rfl, z, rfl⟩ := hr))))
              go_roundw
              case rel => exact ⟨j + 1, by omega, by go_num, all_range_snoc HALL2.out (by simp [hcl]), later_ex (by repeat (first | exact Below.refl _ _ | (with_reducible assumption) | apply gL | apply gA | apply gD | apply gN | (refine gS ?_ (by first | (simp; done) | (simp; omega) | omega))))⟩
              case measure => simp [intOf]; omega
          · obtain rfl : j = k := by omega
            go_wp2
            go_roundw
            case rel => exact ⟨j + 1, by omega, by go_num, all_range_snoc HALL.out (by rw [Hs.okAt, HLG.out, HALL2.out]; rfl), later_ex (by repeat (first | exact Below.refl _ _ | (with_reducible assumption) | apply gL | apply gA | apply gD | apply gN | (refine gS ?_ (by first | (simp; done) | (simp; omega) | omega))))⟩
            case measure => simp [intOf]; omega
    · obtain rfl : k = h.tickets.length := by omega
      have HR := Lib.hid (show h.paidB e = true from HALL.out)
      go_wp2
      go_ret
      exact ret_mk (ret_bool HR.out.symm) (hb1.trans (below_mono_of hb1 (by repeat (first | exact Below.refl _ _ | (with_reducible assumption) | apply gL | apply gA | apply gD | apply gN | (refine gS ?_ (by first | (simp; done) | (simp; omega) | omega))))))

def Hs.paidV (h : Hs) : Int := if h.askE 0 = 0 then verdictB h.truths h.paidB else 0
theorem paid_all_calls (v : Value) (h : Hs) (w : World) (H : HsAt w v h) :
    Calls Try.prog 32 #[v] w (Ret (.tuple #[.int .i64 h.paidV, .int .i64 (h.askE 0)]) w) := by
  have H0 := H
  obtain ⟨A2, c2, A3, c3, A4, c4, rfl, H2, H3, H4⟩ := H
  by_cases ha : h.askE 0 = 0
  · obtain ⟨hf, -, hne⟩ := askE_zero ha
    have HL := Lib.hid (show h.paidV = verdictB h.truths h.paidB by rw [Hs.paidV, if_pos ha])
    have HA := Lib.hid ha
    have HF := Lib.hid hf
    clear ha hf hne
    go_enter Try.func32, Try.ntmps32
    go_wp2_with (first
      | (go_at_call 79; refine (asked_ok _ h 0 _ ?hh HA.out).mono ?_; (case hh => exact H0.below (by repeat (first | exact Below.refl _ _ | (with_reducible assumption) | apply gL | apply gA | apply gD | apply gN | (refine gS ?_ (by first | (simp; done) | (simp; omega) | omega))))); (rintro e w' hr; (first | (with_reducible replace hr := RetWk.up hr) | skip); obtain ⟨g, rfl, ⟨z, rfl⟩, hwk⟩ := hr))
      | (go_at_call 85; refine (verdict_paid g h _ h.paidB _ hwk HF (Lib.hid (fun x e' _ _ _ _ hm he hbx => paid_calls g h e' (Lib.hid he) (Lib.hid (truth_ok HF.out hm)) x (hwk.below hbx) HF))).mono ?_; (rintro e w' hr; first | ((with_reducible replace hr := Ret.up hr); obtain ⟨rfl, z, rfl⟩ := hr) | (obtain ⟨rfl, z, rfl⟩ := hr))))
    go_ret2
    exact ret_mk (by rw [HL.out, HA.out]; rfl) (by repeat (first | exact Below.refl _ _ | (with_reducible assumption) | apply gL | apply gA | apply gD | apply gN | (refine gS ?_ (by first | (simp; done) | (simp; omega) | omega))))
  · have HE := Lib.hid ha
    have hb : (h.askE 0 != 0) = true := by simpa using ha
    have HL := Lib.hid (show h.paidV = 0 by rw [Hs.paidV, if_neg ha])
    go_enter Try.func32, Try.ntmps32
    go_wp2_with (first | (go_at_call 79; refine (asked_bad _ h 0 _ ?hh HE.out).mono ?_; (case hh => exact H0.below (by repeat (first | exact Below.refl _ _ | (with_reducible assumption) | apply gL | apply gA | apply gD | apply gN | (refine gS ?_ (by first | (simp; done) | (simp; omega) | omega))))); (rintro e w' hr; first | ((with_reducible replace hr := Ret.up hr); obtain ⟨rfl, z, rfl⟩ := hr) | (obtain ⟨rfl, z, rfl⟩ := hr))))
    go_ret2
    exact ret_mk (by rw [HL.out]; rfl) (by repeat (first | exact Below.refl _ _ | (with_reducible assumption) | apply gL | apply gA | apply gD | apply gN | (refine gS ?_ (by first | (simp; done) | (simp; omega) | omega))))
end Go.Proofs.Ytcngnfnljkkjgaa
namespace Go.Proofs.Ytcngnfnljkkjgaa
open Go.RowKit
attribute [local go_sem] cell_later frozen_later lt_later le_later

theorem clashd_calls (g : Nat) (h : Hs) (e : List Int) {e0 e1 e2 e3 : Int} (H4 : Hid (e4 e = [.int .i64 e0, .int .i64 e1, .int .i64 e2, .int .i64 e3])) (he : Hid (ErrOk e)) (a b : Nat) (ha : a < h.tickets.length) (hb : b < h.tickets.length) (w : World) (H : WkAt w g h) (hf : Hid (h.fault = 0))
    (p q r : Nat) (hp : w.cell? ⟨p, 0, none⟩ = some (.pointer (some ⟨g, 0, none⟩))) (hq : w.cell? ⟨q, 0, none⟩ = some (.int .i64 a)) (hr : w.cell? ⟨r, 0, none⟩ = some (.int .i64 b)) :
    Calls Try.prog 91 #[.agg #[.int .i64 e0, .int .i64 e1, .int .i64 e2, .int .i64 e3], .pointer (some ⟨p, 0, none⟩), .pointer (some ⟨q, 0, none⟩), .pointer (some ⟨r, 0, none⟩)] w (Ret (.bool (h.clashB e a b)) w) := by
  have hpl := World.block_lt_of_cell? w _ hp
  have hql := World.block_lt_of_cell? w _ hq
  have hrl := World.block_lt_of_cell? w _ hr
  simp only at hpl hql hrl
  go_enter Try.func91, Try.ntmps91
  go_wp2_with (first | (go_at_call 92; refine (clash_calls g h e H4 he a b ha hb _ ?hw hf).mono ?_; (case hw => exact H.below (by repeat (first | exact Below.refl _ _ | (with_reducible assumption) | apply gL | apply gA | apply gD | apply gN | (refine gS ?_ (by first | (simp; done) | (simp; omega) | omega))))); (rintro e w' hr; first | ((with_reducible replace hr := Ret.up hr); obtain ⟨rfl, z, rfl⟩ := hr) | (obtain ⟨rfl, z, rfl⟩ := hr))))
  go_ret
  exact ret_mk rfl (by repeat (first | exact Below.refl _ _ | (with_reducible assumption) | apply gL | apply gA | apply gD | apply gN | (refine gS ?_ (by first | (simp; done) | (simp; omega) | omega))))

def Hs.clashDue (h : Hs) (a b : Int) : Int := if h.ticketB a = true ∧ h.ticketB b = true then (if a = b then 6 else 0) else 2
def Hs.clashE (h : Hs) (a b : Int) : Int := h.askE (h.clashDue a b)
def Hs.clashV (h : Hs) (a b : Int) : Int := if h.clashE a b = 0 then verdictB h.truths (fun e => h.clashB e a.toNat b.toNat) else 0
theorem askE_due {h : Hs} {due : Int} (hd : due ≠ 0) : h.askE due ≠ 0 := by
  intro h0
  exact hd (askE_zero h0).2.1

set_option maxHeartbeats 2000000 in
theorem clash_all_calls (v : Value) (h : Hs) (a b : Int) (w : World) (H : HsAt w v h) :
    Calls Try.prog 35 #[v, .int .i64 a, .int .i64 b] w (Ret (.tuple #[.int .i64 (h.clashV a b), .int .i64 (h.clashE a b)]) w) := by
  have H0 := H
  obtain ⟨A2, c2, A3, c3, A4, c4, rfl, H2, H3, H4⟩ := H
  have hl3 := H3.2.1
  by_cases h1 : h.ticketB a = true
  · by_cases h2 : h.ticketB b = true
    · by_cases hab : a = b
      · have hD := Lib.hid (show h.clashE a b = h.askE 6 by rw [Hs.clashE, Hs.clashDue, if_pos ⟨h1, h2⟩, if_pos hab])
        have hab1 : (a == b) = true := by simpa using hab
        have hE : h.askE 6 ≠ 0 := askE_due (by decide)
        have hb : (h.askE 6 != 0) = true := by simpa using hE
        have HE := Lib.hid hE
        have HL := Lib.hid (show h.clashV a b = 0 by rw [Hs.clashV, hD.out, if_neg hE])
        clear hE hab
        go_enter Try.func35, Try.ntmps35
        go_wp2_with (first
          | (go_at_call 90; refine (ticket_calls _ h _ _ ?hh hl3).mono ?_; (case hh => exact H0.below (by repeat (first | exact Below.refl _ _ | (with_reducible assumption) | apply gL | apply gA | apply gD | apply gN | (refine gS ?_ (by first | (simp; done) | (simp; omega) | omega))))); (first | rw [h1] | rw [h2]); (rintro e w' hr; first | ((with_reducible replace hr := Ret.up hr); obtain ⟨rfl, z, rfl⟩ := hr) | (obtain ⟨rfl, z, rfl⟩ := hr)))
          | (go_at_call 79; refine (asked_bad _ h 6 _ ?hh HE.out).mono ?_; (case hh => exact H0.below (by repeat (first | exact Below.refl _ _ | (with_reducible assumption) | apply gL | apply gA | apply gD | apply gN | (refine gS ?_ (by first | (simp; done) | (simp; omega) | omega))))); (rintro e w' hr; first | ((with_reducible replace hr := Ret.up hr); obtain ⟨rfl, z, rfl⟩ := hr) | (obtain ⟨rfl, z, rfl⟩ := hr))))
        go_ret2
        exact ret_mk (by rw [HL.out, hD.out]; rfl) (by repeat (first | exact Below.refl _ _ | (with_reducible assumption) | apply gL | apply gA | apply gD | apply gN | (refine gS ?_ (by first | (simp; done) | (simp; omega) | omega))))
      · have hD := Lib.hid (show h.clashE a b = h.askE 0 by rw [Hs.clashE, Hs.clashDue, if_pos ⟨h1, h2⟩, if_neg hab])
        have hab1 : (a == b) = false := by simpa using hab
        by_cases ha : h.askE 0 = 0
        · obtain ⟨hf, -, hne⟩ := askE_zero ha
          have HL := Lib.hid (show h.clashV a b = verdictB h.truths (fun e => h.clashB e a.toNat b.toNat) by rw [Hs.clashV, hD.out, if_pos ha])
          have HA := Lib.hid ha
          have HF := Lib.hid hf
          obtain ⟨a', rfl⟩ : ∃ n : Nat, a = n := ⟨a.toNat, by have := inB_iff.1 h1; omega⟩
          obtain ⟨b', rfl⟩ : ∃ n : Nat, b = n := ⟨b.toNat, by have := inB_iff.1 h2; omega⟩
          have hla : a' < h.tickets.length := by have := inB_iff.1 h1; omega
          have hlb : b' < h.tickets.length := by have := inB_iff.1 h2; omega
          clear ha hf hne hab
          go_enter Try.func35, Try.ntmps35
          go_wp2_with (first
            | (go_at_call 90; refine (ticket_calls _ h _ _ ?hh hl3).mono ?_; (case hh => exact H0.below (by repeat (first | exact Below.refl _ _ | (with_reducible assumption) | apply gL | apply gA | apply gD | apply gN | (refine gS ?_ (by first | (simp; done) | (simp; omega) | omega))))); (first | rw [h1] | rw [h2]); (rintro e w' hr; first | ((with_reducible replace hr := Ret.up hr); obtain ⟨rfl, z, rfl⟩ := hr) | (obtain ⟨rfl, z, rfl⟩ := hr)))
            | (go_at_call 79; refine (asked_ok _ h 0 _ ?hh HA.out).mono ?_; (case hh => exact H0.below (by repeat (first | exact Below.refl _ _ | (with_reducible assumption) | apply gL | apply gA | apply gD | apply gN | (refine gS ?_ (by first | (simp; done) | (simp; omega) | omega))))); (rintro e w' hr; (first | (with_reducible replace hr := RetWk.up hr) | skip); obtain ⟨g, rfl, ⟨z, rfl⟩, hwk⟩ := hr))
            | (go_at_call 85; fail))
          obtain ⟨W1, hW1⟩ : ∃ W1, W1 = (later (((w.alloc (.cells #[.int .i64 h.hour, .int .i64 h.grace, .slice A2 h.clocks.length c2, .slice A3 h.tickets.length c3, .slice A4 h.clips.length c4] 36)).alloc (.cells #[.int .i64 a'] 3)).alloc (.cells #[.int .i64 b'] 3)) z).alloc (.cells #[.pointer (some ⟨g, 0, none⟩)] 106) := ⟨_, rfl⟩
          obtain ⟨p, hp⟩ : ∃ p, p = (later (((w.alloc (.cells #[.int .i64 h.hour, .int .i64 h.grace, .slice A2 h.clocks.length c2, .slice A3 h.tickets.length c3, .slice A4 h.clips.length c4] 36)).alloc (.cells #[.int .i64 a'] 3)).alloc (.cells #[.int .i64 b'] 3)) z).heap.size := ⟨_, rfl⟩
          have hb1 : Below w.heap.size w W1 := by rw [hW1]; exact (by repeat (first | exact Below.refl _ _ | (with_reducible assumption) | apply gL | apply gA | apply gD | apply gN | (refine gS ?_ (by first | (simp; done) | (simp; omega) | omega))))
          have hwk1 : WkAt W1 g h := by rw [hW1]; exact hwk.below (gA (Below.refl _ _))
          have kp : W1.cell? ⟨p, 0, none⟩ = some (.pointer (some ⟨g, 0, none⟩)) := by rw [hW1, hp]; simp [go_sem]
          have ka : W1.cell? ⟨w.heap.size + 1, 0, none⟩ = some (.int .i64 a') := by rw [hW1]; simp [go_sem]
          have kb : W1.cell? ⟨w.heap.size + 1 + 1, 0, none⟩ = some (.int .i64 b') := by rw [hW1]; simp [go_sem]
          rw [← hW1, ← hp]
          clear hW1 hp hwk
          have lp := World.block_lt_of_cell? W1 _ kp
          have la := World.block_lt_of_cell? W1 _ ka
          have lb := World.block_lt_of_cell? W1 _ kb
          simp only at lp la lb
          refine (verdict_clash g h _ _ _ (fun e => h.clashB e a' b') W1 hwk1 HF (Lib.hid (fun x e' _ _ _ _ hm he hbx => clashd_calls g h e' (Lib.hid he) (Lib.hid (truth_ok HF.out hm)) a' b' hla hlb x (hwk1.below hbx) HF p (w.heap.size + 1) (w.heap.size + 1 + 1)
            ((hbx.cell (p := ⟨p, 0, none⟩) lp).trans kp) ((hbx.cell (p := ⟨w.heap.size + 1, 0, none⟩) la).trans ka) ((hbx.cell (p := ⟨w.heap.size + 1 + 1, 0, none⟩) lb).trans kb)))).mono ?_
          (rintro e w' hr; first | ((with_reducible replace hr := Ret.up hr); obtain ⟨rfl, z, rfl⟩ := hr) | (obtain ⟨rfl, z, rfl⟩ := hr))
          go_wp2
          go_ret2
          exact ret_mk (by rw [HL.out, hD.out, HA.out]; rfl) (hb1.trans (below_mono_of hb1 (by repeat (first | exact Below.refl _ _ | (with_reducible assumption) | apply gL | apply gA | apply gD | apply gN | (refine gS ?_ (by first | (simp; done) | (simp; omega) | omega))))))
        · have hb : (h.askE 0 != 0) = true := by simpa using ha
          have HE := Lib.hid ha
          have HL := Lib.hid (show h.clashV a b = 0 by rw [Hs.clashV, hD.out, if_neg ha])
          clear ha hab
          go_enter Try.func35, Try.ntmps35
          go_wp2_with (first
            | (go_at_call 90; refine (ticket_calls _ h _ _ ?hh hl3).mono ?_; (case hh => exact H0.below (by repeat (first | exact Below.refl _ _ | (with_reducible assumption) | apply gL | apply gA | apply gD | apply gN | (refine gS ?_ (by first | (simp; done) | (simp; omega) | omega))))); (first | rw [h1] | rw [h2]); (rintro e w' hr; first | ((with_reducible replace hr := Ret.up hr); obtain ⟨rfl, z, rfl⟩ := hr) | (obtain ⟨rfl, z, rfl⟩ := hr)))
            | (go_at_call 79; refine (asked_bad _ h 0 _ ?hh HE.out).mono ?_; (case hh => exact H0.below (by repeat (first | exact Below.refl _ _ | (with_reducible assumption) | apply gL | apply gA | apply gD | apply gN | (refine gS ?_ (by first | (simp; done) | (simp; omega) | omega))))); (rintro e w' hr; first | ((with_reducible replace hr := Ret.up hr); obtain ⟨rfl, z, rfl⟩ := hr) | (obtain ⟨rfl, z, rfl⟩ := hr))))
          go_ret2
          exact ret_mk (by rw [HL.out, hD.out]; rfl) (by repeat (first | exact Below.refl _ _ | (with_reducible assumption) | apply gL | apply gA | apply gD | apply gN | (refine gS ?_ (by first | (simp; done) | (simp; omega) | omega))))
    · have hD := Lib.hid (show h.clashE a b = h.askE 2 by rw [Hs.clashE, Hs.clashDue, if_neg (fun hh => h2 hh.2)])
      have h2 : h.ticketB b = false := by simpa using h2
      have hE : h.askE 2 ≠ 0 := askE_due (by decide)
      have hb : (h.askE 2 != 0) = true := by simpa using hE
      have HE := Lib.hid hE
      have HL := Lib.hid (show h.clashV a b = 0 by rw [Hs.clashV, hD.out, if_neg hE])
      clear hE
      go_enter Try.func35, Try.ntmps35
      go_wp2_with (first
        | (go_at_call 90; refine (ticket_calls _ h _ _ ?hh hl3).mono ?_; (case hh => exact H0.below (by repeat (first | exact Below.refl _ _ | (with_reducible assumption) | apply gL | apply gA | apply gD | apply gN | (refine gS ?_ (by first | (simp; done) | (simp; omega) | omega))))); (first | rw [h1] | rw [h2]); (rintro e w' hr; first | ((with_reducible replace hr := Ret.up hr); obtain ⟨rfl, z, rfl⟩ := hr) | (obtain ⟨rfl, z, rfl⟩ := hr)))
        | (go_at_call 79; refine (asked_bad _ h 2 _ ?hh HE.out).mono ?_; (case hh => exact H0.below (by repeat (first | exact Below.refl _ _ | (with_reducible assumption) | apply gL | apply gA | apply gD | apply gN | (refine gS ?_ (by first | (simp; done) | (simp; omega) | omega))))); (rintro e w' hr; first | ((with_reducible replace hr := Ret.up hr); obtain ⟨rfl, z, rfl⟩ := hr) | (obtain ⟨rfl, z, rfl⟩ := hr))))
      go_ret2
      exact ret_mk (by rw [HL.out, hD.out]; rfl) (by repeat (first | exact Below.refl _ _ | (with_reducible assumption) | apply gL | apply gA | apply gD | apply gN | (refine gS ?_ (by first | (simp; done) | (simp; omega) | omega))))
  · have hD := Lib.hid (show h.clashE a b = h.askE 2 by rw [Hs.clashE, Hs.clashDue, if_neg (fun hh => h1 hh.1)])
    have h1 : h.ticketB a = false := by simpa using h1
    have hE : h.askE 2 ≠ 0 := askE_due (by decide)
    have hb : (h.askE 2 != 0) = true := by simpa using hE
    have HE := Lib.hid hE
    have HL := Lib.hid (show h.clashV a b = 0 by rw [Hs.clashV, hD.out, if_neg hE])
    clear hE
    go_enter Try.func35, Try.ntmps35
    go_wp2_with (first
      | (go_at_call 90; refine (ticket_calls _ h a _ ?hh hl3).mono ?_; (case hh => exact H0.below (by repeat (first | exact Below.refl _ _ | (with_reducible assumption) | apply gL | apply gA | apply gD | apply gN | (refine gS ?_ (by first | (simp; done) | (simp; omega) | omega))))); rw [h1]; (rintro e w' hr; first | ((with_reducible replace hr := Ret.up hr); obtain ⟨rfl, z, rfl⟩ := hr) | (obtain ⟨rfl, z, rfl⟩ := hr)))
      | (go_at_call 79; refine (asked_bad _ h 2 _ ?hh HE.out).mono ?_; (case hh => exact H0.below (by repeat (first | exact Below.refl _ _ | (with_reducible assumption) | apply gL | apply gA | apply gD | apply gN | (refine gS ?_ (by first | (simp; done) | (simp; omega) | omega))))); (rintro e w' hr; first | ((with_reducible replace hr := Ret.up hr); obtain ⟨rfl, z, rfl⟩ := hr) | (obtain ⟨rfl, z, rfl⟩ := hr))))
    go_ret2
    exact ret_mk (by rw [HL.out, hD.out]; rfl) (by repeat (first | exact Below.refl _ _ | (with_reducible assumption) | apply gL | apply gA | apply gD | apply gN | (refine gS ?_ (by first | (simp; done) | (simp; omega) | omega))))
end Go.Proofs.Ytcngnfnljkkjgaa
