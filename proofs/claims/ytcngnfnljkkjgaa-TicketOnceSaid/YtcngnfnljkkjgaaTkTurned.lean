/-
The chapter's house with two of its clips exchanged.
-/
import Derived.Test.YtcngnfnljkkjgaaTkTwo1
namespace Go.Proofs.Ytcngnfnljkkjgaa
open Go.RowKit
attribute [local go_sem] cell_later frozen_later lt_later le_later

def turnedC : List Cp := [⟨0, 0, 300⟩, ⟨1, 0, 365⟩, ⟨0, 1, 366⟩, ⟨1, 1, 488⟩]
def turnedH : Hs := ⟨60, 5, [⟨0, 0⟩, ⟨-5, 5⟩], [⟨0, 1⟩, ⟨0, 2⟩, ⟨1, 0⟩], turnedC⟩

set_option maxHeartbeats 2000000 in
theorem turned_calls (w : World) : Calls Try.prog 77 #[] w (RetHs turnedH w) := by
  go_enter Try.func77, Try.ntmps77
  go_wp2_with (fail)
  refine (two_new 5 _).mono ?_
  rintro e w' ⟨A2, A3, b, rfl, ⟨z, rfl⟩, h2, h3, h4, hbl, hA2, hA3⟩
  obtain ⟨W1, hW1⟩ : ∃ W1, W1 = later (w.alloc (.cells #[.int .i64 0, .int .i64 0, .slice none 0 0, .slice none 0 0, .slice none 0 0] 36)) z := ⟨_, rfl⟩
  have hb1 : Below w.heap.size w W1 := by rw [hW1]; exact (by repeat (first | exact Below.refl _ _ | (with_reducible assumption) | apply gL | apply gA | apply gD | apply gN | (refine gS ?_ (by first | (simp; done) | (simp; omega) | omega))))
  have hB1 : BlkAt W1 w.heap.size 36 [.int .i64 0, .int .i64 0, .slice none 0 0, .slice none 0 0, .slice none 0 0] := by rw [hW1]; exact (BlkAt.new w _ _).later
  rw [← hW1] at h2 h3 h4 ⊢
  clear hW1
  rw [World.size_alloc] at hbl hA2 hA3
  go_wp2
  obtain ⟨W2, hW2⟩ : ∃ W2, W2 = W1.alloc (.cells #[.int .i64 60, .int .i64 5, .slice A2 2 2, .slice A3 3 3, .slice (some ⟨b, 0, none⟩) 4 4] 36) := ⟨_, rfl⟩
  have hbe2 : Below W1.heap.size W1 W2 := by rw [hW2]; exact gA (Below.refl _ _)
  have hX : BlkAt W2 W1.heap.size 36 [.int .i64 60, .int .i64 5, .slice A2 2 2, .slice A3 3 3, .slice (some ⟨b, 0, none⟩) 4 4] := by rw [hW2]; exact BlkAt.new _ _ _
  have hC4 := h4.lt
  have hC5 := h4.of_below hbe2 hC4
  have hR5 := hB1.of_below hbe2 hB1.lt
  have h25 := h2.below hbe2
  have h35 := h3.below hbe2
  have hxl := hX.lt
  have hbx : b ≠ W1.heap.size := by omega
  have hbr : w.heap.size ≠ b := by omega
  have hxr : w.heap.size ≠ W1.heap.size := by have := hB1.lt; omega
  have hb2 : Below w.heap.size w W2 := hb1.trans (hbe2.mono hb1.size)
  rw [← hW2]
  clear hW2 hbe2 hB1 h2 h3 h4 hC4
  have x4 := hX.cell 4
  simp only [List.getElem?_cons_zero, List.getElem?_cons_succ] at x4
  have hC3 := hC5
  simp only [twoClips, List.flatMap_cons, List.flatMap_nil, gC, List.cons_append, List.nil_append, List.append_nil] at hC5
  have k3 := hC5.cell 3
  have k4 := hC5.cell 4
  have k5 := hC5.cell 5
  have k6 := hC5.cell 6
  have k7 := hC5.cell 7
  have k8 := hC5.cell 8
  have f3 := hC5.frozen 3
  have f4 := hC5.frozen 4
  have f5 := hC5.frozen 5
  have f6 := hC5.frozen 6
  have f7 := hC5.frozen 7
  have f8 := hC5.frozen 8
  simp only [List.getElem?_cons_zero, List.getElem?_cons_succ] at k3 k4 k5 k6 k7 k8
  have hbl5 := hC5.lt
  obtain ⟨C, hC⟩ : ∃ C, C = Same [⟨W1.heap.size, 4, none⟩] W2 := ⟨_, rfl⟩
  obtain ⟨G, hG⟩ : ∃ G, G = held C W2.drew := ⟨_, rfl⟩
  have fl : ∀ x, (G x).cell? ⟨W1.heap.size, 4, none⟩ = some (.slice (some ⟨b, 0, none⟩) 4 4) := fun x => by
    rw [hG, hC]
    exact same_held x4 (by simp) x
  refine region_sched C [0, 1, 2, 3, 4, 5, 6, 8, 9, 10] (.two 7 11 (.one 11 (.one 12 (.one 13 (.one 14 .done)))) (.one 7 (.one 12 (.one 13 (.one 14 .done))))) 15 (by kernel_rfl) (by kernel_rfl) (by rw [hC]; exact same_drew) ?_
  rw [← hG]
  have HC := Lib.hid hC
  clear hG hC
  simp only [List.filterMap_cons, List.filterMap_nil, List.getElem?_cons_zero, List.getElem?_cons_succ]
  change wpQuiet _ _ _ _ [_, _, _, _, _, _, _, _, _, _] _
  repeat (go_big_quiet_step (fail))
  refine wpQuiet_nil ?_
  clear fl
  have hCd : C W2.drew := by rw [HC.out]; exact same_drew
  refine wpSch_two rfl rfl (fun K hK => ?_) (fun K hK => ?_)
  · go_simp
    refine hK.out _ _ hCd ?_
    clear hK K
    refine wpSch_one rfl (fun K hK => ?_)
    go_simp
    refine hK.out _ _ hCd ?_
    clear hK K
    refine wpSch_one rfl (fun K hK => ?_)
    go_simp
    refine hK.out _ _ hCd ?_
    clear hK K
    refine wpSch_one rfl (fun K hK => ?_)
    go_simp
    obtain ⟨W3, hW3⟩ : ∃ W3, W3 = (((W2.setCell ⟨b, 3, none⟩ (.int .i64 1)).setCell ⟨b, 4, none⟩ (.int .i64 0)).setCell ⟨b, 5, none⟩ (.int .i64 365)).drew := ⟨_, rfl⟩
    rw [← hW3]
    have hk3 : KeepX b W2 W3 := by
      rw [hW3]
      exact (((KeepX.set_ _ _ _).trans (KeepX.set_ _ _ _)).trans (KeepX.set_ _ _ _)).trans (KeepX.of_below (gD (Below.refl _ _)))
    have hb3 := (((hC5.set_ 3 (.int .i64 1)).set_ 4 (.int .i64 0)).set_ 5 (.int .i64 365))
    have hb3 := hb3.of_below (gD (Below.refl _ _)) hb3.lt
    rw [← hW3] at hb3
    clear hW3
    have hC3' : C W3 := by
      rw [HC.out]
      intro a ha
      simp only [List.mem_cons, List.not_mem_nil, or_false] at ha
      subst ha
      exact (hk3.cell x4 (by exact fun e => hbx e.symm)).trans x4.symm
    refine hK.out _ _ hC3' ?_
    clear hK K
    refine wpSch_one rfl (fun K hK => ?_)
    go_simp
    refine hK.out _ _ hC3' ?_
    clear hK K
    have e6 := hb3.cell 6
    have e7 := hb3.cell 7
    have e8 := hb3.cell 8
    simp at e6 e7 e8
    have g6 := hb3.frozen 6
    have g7 := hb3.frozen 7
    have g8 := hb3.frozen 8
    have hbl3 := hb3.lt
    refine wpSch_done rfl (fun K hK => ?_)
    go_simp
    refine hK.out _ _ (noPanic_mk ?_)
    clear hK K
    obtain ⟨W4, hW4⟩ : ∃ W4, W4 = ((W3.setCell ⟨b, 6, none⟩ (.int .i64 0)).setCell ⟨b, 7, none⟩ (.int .i64 1)).setCell ⟨b, 8, none⟩ (.int .i64 366) := ⟨_, rfl⟩
    rw [← hW4]
    have hk4 : KeepX b W2 W4 := by
      rw [hW4]
      exact ((hk3.trans (KeepX.set_ _ _ _)).trans (KeepX.set_ _ _ _)).trans (KeepX.set_ _ _ _)
    have hb4 := ((hb3.set_ 6 (.int .i64 0)).set_ 7 (.int .i64 1)).set_ 8 (.int .i64 366)
    rw [← hW4] at hb4
    clear hW4
    have hX4 := hk4.blk hX (fun e => hbx e.symm)
    have hR4 := hk4.blk hR5 hbr
    have s2 := hk4.sl h25 (fun _ a ha => (hA2 a ha).1)
    have s3 := hk4.sl h35 (fun _ a ha => (hA3 a ha).1)
    have hlow : Below w.heap.size w W4 := hk4.low hb2 (by omega) hb2.size
    have q0 := hX4.cell 0
    have q1 := hX4.cell 1
    have q2 := hX4.cell 2
    have q3 := hX4.cell 3
    have q4 := hX4.cell 4
    have r0 := hR4.cell 0
    have r1 := hR4.cell 1
    have r2 := hR4.cell 2
    have r3 := hR4.cell 3
    have r4 := hR4.cell 4
    have u0 := hR4.frozen 0
    have u1 := hR4.frozen 1
    have u2 := hR4.frozen 2
    have u3 := hR4.frozen 3
    have u4 := hR4.frozen 4
    simp only [List.getElem?_cons_zero, List.getElem?_cons_succ] at q0 q1 q2 q3 q4 r0 r1 r2 r3 r4
    have l0 := hR4.lt
    have l1 := hX4.lt
    clear hk3 hb3 hC3' g6 g7 g8 hbl3 e6 e7 e8
    go_wp2
    obtain ⟨W5, hW5⟩ : ∃ W5, W5 = ((((W4.setCell ⟨w.heap.size, 0, none⟩ (.int .i64 60)).setCell ⟨w.heap.size, 1, none⟩ (.int .i64 5)).setCell ⟨w.heap.size, 2, none⟩ (.slice A2 2 2)).setCell ⟨w.heap.size, 3, none⟩ (.slice A3 3 3)).setCell ⟨w.heap.size, 4, none⟩ (.slice (some ⟨b, 0, none⟩) 4 4) := ⟨_, rfl⟩
    rw [← hW5]
    have hB5 := ((((hR4.set_ 0 (.int .i64 60)).set_ 1 (.int .i64 5)).set_ 2 (.slice A2 2 2)).set_ 3 (.slice A3 3 3)).set_ 4 (.slice (some ⟨b, 0, none⟩) 4 4)
    rw [← hW5] at hB5
    have hk5 : KeepX w.heap.size W4 W5 := by
      rw [hW5]
      exact ((((KeepX.set_ _ _ _).trans (KeepX.set_ _ _ _)).trans (KeepX.set_ _ _ _)).trans (KeepX.set_ _ _ _)).trans (KeepX.set_ _ _ _)
    clear hW5
    have c0 := hB5.cell 0
    have c1 := hB5.cell 1
    have c2 := hB5.cell 2
    have c3 := hB5.cell 3
    have c4 := hB5.cell 4
    simp at c0 c1 c2 c3 c4
    refine bodyPost_ret (v := .agg #[.int .i64 60, .int .i64 5, .slice A2 2 2, .slice A3 3 3, .slice (some ⟨b, 0, none⟩) 4 4]) ?hr rfl
      ⟨_, rfl, later_ex (hk5.low hlow (Nat.le_refl _) hlow.size), A2, 2, A3, 3, some ⟨b, 0, none⟩, 4, rfl, hk5.sl s2 (fun _ a ha => by have := (hA2 a ha).2; omega), hk5.sl s3 (fun _ a ha => by have := (hA3 a ha).2; omega), SlA.of_blk (l := turnedC) (hk5.blk hb4 (fun e => hbr e.symm)) (fun _ _ => rfl) (by decide)⟩
    case hr => simp [results, Try.results77, go_sem, c0, c1, c2, c3, c4]
  · go_simp
    refine hK.out _ _ hCd ?_
    clear hK K
    refine wpSch_one rfl (fun K hK => ?_)
    go_simp
    refine hK.out _ _ hCd ?_
    clear hK K
    refine wpSch_one rfl (fun K hK => ?_)
    go_simp
    refine hK.out _ _ hCd ?_
    clear hK K
    refine wpSch_one rfl (fun K hK => ?_)
    go_simp
    obtain ⟨W3, hW3⟩ : ∃ W3, W3 = (((W2.setCell ⟨b, 3, none⟩ (.int .i64 1)).setCell ⟨b, 4, none⟩ (.int .i64 0)).setCell ⟨b, 5, none⟩ (.int .i64 365)).drew := ⟨_, rfl⟩
    rw [← hW3]
    have hk3 : KeepX b W2 W3 := by
      rw [hW3]
      exact (((KeepX.set_ _ _ _).trans (KeepX.set_ _ _ _)).trans (KeepX.set_ _ _ _)).trans (KeepX.of_below (gD (Below.refl _ _)))
    have hb3 := (((hC5.set_ 3 (.int .i64 1)).set_ 4 (.int .i64 0)).set_ 5 (.int .i64 365))
    have hb3 := hb3.of_below (gD (Below.refl _ _)) hb3.lt
    rw [← hW3] at hb3
    clear hW3
    have hC3' : C W3 := by
      rw [HC.out]
      intro a ha
      simp only [List.mem_cons, List.not_mem_nil, or_false] at ha
      subst ha
      exact (hk3.cell x4 (by exact fun e => hbx e.symm)).trans x4.symm
    refine hK.out _ _ hC3' ?_
    clear hK K
    refine wpSch_one rfl (fun K hK => ?_)
    go_simp
    refine hK.out _ _ hC3' ?_
    clear hK K
    have e6 := hb3.cell 6
    have e7 := hb3.cell 7
    have e8 := hb3.cell 8
    simp at e6 e7 e8
    have g6 := hb3.frozen 6
    have g7 := hb3.frozen 7
    have g8 := hb3.frozen 8
    have hbl3 := hb3.lt
    refine wpSch_done rfl (fun K hK => ?_)
    go_simp
    refine hK.out _ _ (noPanic_mk ?_)
    clear hK K
    obtain ⟨W4, hW4⟩ : ∃ W4, W4 = ((W3.setCell ⟨b, 6, none⟩ (.int .i64 0)).setCell ⟨b, 7, none⟩ (.int .i64 1)).setCell ⟨b, 8, none⟩ (.int .i64 366) := ⟨_, rfl⟩
    rw [← hW4]
    have hk4 : KeepX b W2 W4 := by
      rw [hW4]
      exact ((hk3.trans (KeepX.set_ _ _ _)).trans (KeepX.set_ _ _ _)).trans (KeepX.set_ _ _ _)
    have hb4 := ((hb3.set_ 6 (.int .i64 0)).set_ 7 (.int .i64 1)).set_ 8 (.int .i64 366)
    rw [← hW4] at hb4
    clear hW4
    have hX4 := hk4.blk hX (fun e => hbx e.symm)
    have hR4 := hk4.blk hR5 hbr
    have s2 := hk4.sl h25 (fun _ a ha => (hA2 a ha).1)
    have s3 := hk4.sl h35 (fun _ a ha => (hA3 a ha).1)
    have hlow : Below w.heap.size w W4 := hk4.low hb2 (by omega) hb2.size
    have q0 := hX4.cell 0
    have q1 := hX4.cell 1
    have q2 := hX4.cell 2
    have q3 := hX4.cell 3
    have q4 := hX4.cell 4
    have r0 := hR4.cell 0
    have r1 := hR4.cell 1
    have r2 := hR4.cell 2
    have r3 := hR4.cell 3
    have r4 := hR4.cell 4
    have u0 := hR4.frozen 0
    have u1 := hR4.frozen 1
    have u2 := hR4.frozen 2
    have u3 := hR4.frozen 3
    have u4 := hR4.frozen 4
    simp only [List.getElem?_cons_zero, List.getElem?_cons_succ] at q0 q1 q2 q3 q4 r0 r1 r2 r3 r4
    have l0 := hR4.lt
    have l1 := hX4.lt
    clear hk3 hb3 hC3' g6 g7 g8 hbl3 e6 e7 e8
    go_wp2
    obtain ⟨W5, hW5⟩ : ∃ W5, W5 = ((((W4.setCell ⟨w.heap.size, 0, none⟩ (.int .i64 60)).setCell ⟨w.heap.size, 1, none⟩ (.int .i64 5)).setCell ⟨w.heap.size, 2, none⟩ (.slice A2 2 2)).setCell ⟨w.heap.size, 3, none⟩ (.slice A3 3 3)).setCell ⟨w.heap.size, 4, none⟩ (.slice (some ⟨b, 0, none⟩) 4 4) := ⟨_, rfl⟩
    rw [← hW5]
    have hB5 := ((((hR4.set_ 0 (.int .i64 60)).set_ 1 (.int .i64 5)).set_ 2 (.slice A2 2 2)).set_ 3 (.slice A3 3 3)).set_ 4 (.slice (some ⟨b, 0, none⟩) 4 4)
    rw [← hW5] at hB5
    have hk5 : KeepX w.heap.size W4 W5 := by
      rw [hW5]
      exact ((((KeepX.set_ _ _ _).trans (KeepX.set_ _ _ _)).trans (KeepX.set_ _ _ _)).trans (KeepX.set_ _ _ _)).trans (KeepX.set_ _ _ _)
    clear hW5
    have c0 := hB5.cell 0
    have c1 := hB5.cell 1
    have c2 := hB5.cell 2
    have c3 := hB5.cell 3
    have c4 := hB5.cell 4
    simp at c0 c1 c2 c3 c4
    refine bodyPost_ret (v := .agg #[.int .i64 60, .int .i64 5, .slice A2 2 2, .slice A3 3 3, .slice (some ⟨b, 0, none⟩) 4 4]) ?hr rfl
      ⟨_, rfl, later_ex (hk5.low hlow (Nat.le_refl _) hlow.size), A2, 2, A3, 3, some ⟨b, 0, none⟩, 4, rfl, hk5.sl s2 (fun _ a ha => by have := (hA2 a ha).2; omega), hk5.sl s3 (fun _ a ha => by have := (hA3 a ha).2; omega), SlA.of_blk (l := turnedC) (hk5.blk hb4 (fun e => hbr e.symm)) (fun _ _ => rfl) (by decide)⟩
    case hr => simp [results, Try.results77, go_sem, c0, c1, c2, c3, c4]
end Go.Proofs.Ytcngnfnljkkjgaa
