/-
The chapter's house with one more clip.
-/
import Derived.Test.YtcngnfnljkkjgaaTkTwo
namespace Go.Proofs.Ytcngnfnljkkjgaa
open Go.RowKit
attribute [local go_sem] cell_later frozen_later lt_later le_later

set_option maxHeartbeats 1000000 in
theorem two_one (grace : Int) (b : Nat) (x : Cp) (w : World) (H : BlkAt w b 104 (gC x)) : Calls Try.prog 76 #[.int .i64 grace, .slice (some ⟨b, 0, none⟩) 1 1] w (RetHs (twoH grace [x]) w) := by
  have hbl := H.lt
  obtain ⟨i0, hi, hz0, hz1, hz2⟩ := info_parts infoClip
  go_enter Try.func76, Try.ntmps76
  go_wp2_with (fail)
  refine (between_calls _ _ _).mono ?_
  (rintro e w' hr; first | ((with_reducible replace hr := Ret.up hr); obtain ⟨rfl, z, rfl⟩ := hr) | (obtain ⟨rfl, z, rfl⟩ := hr))
  go_wp2_with (fail)
  refine (between_calls _ _ _).mono ?_
  (rintro e w' hr; first | ((with_reducible replace hr := Ret.up hr); obtain ⟨rfl, z, rfl⟩ := hr) | (obtain ⟨rfl, z, rfl⟩ := hr))
  obtain ⟨W1, hW1⟩ : ∃ W1, W1 = later ((w.alloc (.cells #[.int .i64 0, .int .i64 0, .slice none 0 0, .slice none 0 0, .slice none 0 0] 36)).alloc (.cells #[.int .i64 0, .int .i64 0, .int .i64 300, .int .i64 0, .int .i64 1, .int .i64 366, .int .i64 1, .int .i64 0, .int .i64 365, .int .i64 1, .int .i64 1, .int .i64 488] 104)) z := ⟨_, rfl⟩
  have hb1 : Below w.heap.size w W1 := by rw [hW1]; exact (by repeat (first | exact Below.refl _ _ | (with_reducible assumption) | apply gL | apply gA | apply gD | apply gN | (refine gS ?_ (by first | (simp; done) | (simp; omega) | omega))))
  have hB1 : BlkAt W1 w.heap.size 36 [.int .i64 0, .int .i64 0, .slice none 0 0, .slice none 0 0, .slice none 0 0] := by rw [hW1]; exact ((BlkAt.new w _ _).alloc _).later
  have hB2 : BlkAt W1 (w.heap.size + 1) 104 [.int .i64 0, .int .i64 0, .int .i64 300, .int .i64 0, .int .i64 1, .int .i64 366, .int .i64 1, .int .i64 0, .int .i64 365, .int .i64 1, .int .i64 1, .int .i64 488] := by
    rw [hW1]
    have := BlkAt.new (w.alloc (.cells #[.int .i64 0, .int .i64 0, .slice none 0 0, .slice none 0 0, .slice none 0 0] 36)) 104 [.int .i64 0, .int .i64 0, .int .i64 300, .int .i64 0, .int .i64 1, .int .i64 366, .int .i64 1, .int .i64 0, .int .i64 365, .int .i64 1, .int .i64 1, .int .i64 488]
    rw [World.size_alloc] at this
    exact this.later
  rw [← hW1]
  clear hW1
  have q0 := hB1.cell 0
  have q1 := hB1.cell 1
  have q2 := hB1.cell 2
  have q3 := hB1.cell 3
  have q4 := hB1.cell 4
  have f0 := hB1.frozen 0
  have f1 := hB1.frozen 1
  have f2 := hB1.frozen 2
  have f3 := hB1.frozen 3
  have f4 := hB1.frozen 4
  simp only [List.getElem?_cons_zero, List.getElem?_cons_succ] at q0 q1 q2 q3 q4
  have l0 := hB1.lt
  have l1 : w.heap.size < W1.heap.size + 1 := by omega
  have l2 : w.heap.size < W1.heap.size + 1 + 1 := by omega
  have l3 : w.heap.size < W1.heap.size + 1 + 1 + 1 := by omega
  have hH1 := H.of_below hb1 hbl
  have hown : W1.ownsRow (w.heap.size + 1) 104 3 (.slice (some ⟨w.heap.size + 1, 0, none⟩) 4 4) 4 (twoClips.flatMap gC) :=
    ⟨rfl, .inr ⟨w.heap.size + 1, 4, _, rfl, Nat.le_refl _, hB2, Nat.le_refl _, by unfold maxLen; omega, rfl, rfl⟩⟩
  have HOW := Lib.hid ((hown.alloc (.cells #[.int .i64 0, .int .i64 0, .int .i64 (-5), .int .i64 5] 42)).alloc (.cells #[.int .i64 0, .int .i64 1, .int .i64 0, .int .i64 2, .int .i64 1, .int .i64 0] 114))
  have hX := (hH1.alloc (.cells #[.int .i64 0, .int .i64 0, .int .i64 (-5), .int .i64 5] 42)).alloc (.cells #[.int .i64 0, .int .i64 1, .int .i64 0, .int .i64 2, .int .i64 1, .int .i64 0] 114)
  have HX := Lib.hid hX
  clear hown hX
  go_wp2_with (at_builtin; refine wpList_append_own _ rfl _ _ 34 rfl (w.heap.size + 1) 104 i0 (.agg #[.int .i64 0, .int .i64 0, .int .i64 0]) 3 24 Try.underlying34 hi hz0 hz1 hz2 rfl (by decide) _ _ _ rfl HOW.out ⟨b, 0, none⟩ 1 1 (gC x) rfl rfl ?c1 ?c2 ?c3 ?c4 ?c5 ?_)
  case c1 =>
    intro j u hu
    have : ((⟨b, 0, none⟩ : Addr).add j) = ⟨b, j, none⟩ := by
      unfold Addr.add
      split
      · next h => rw [h]
      · simp
    rw [this, HX.out.cell]
    exact hu
  case c2 => simp [gC, Value.oneCell']
  case c3 => unfold maxLen; omega
  case c4 => omega
  case c5 => simp; omega
  intro v' w1 hown1 hg1 _
  have hsz1 := hg1.size
  simp only [World.size_alloc] at hsz1
  have hHb : BlkAt w1 w.heap.size 36 [.int .i64 0, .int .i64 0, .slice none 0 0, .slice none 0 0, .slice none 0 0] := (hg1.block w.heap.size (by simp; omega) (by simp [Value.ownBlock])).trans ((hB1.alloc _).alloc _)
  have hR : BlkAt w1 W1.heap.size 42 (([⟨0, 0⟩, ⟨-5, 5⟩] : List Rg).flatMap gR) := (hg1.block W1.heap.size (by simp; omega) (by simp [Value.ownBlock]; have := hB2.lt; omega)).trans ((BlkAt.new W1 _ _).alloc _)
  have hT : BlkAt w1 (W1.heap.size + 1) 114 (([⟨0, 1⟩, ⟨0, 2⟩, ⟨1, 0⟩] : List Tk).flatMap gT) := by
    refine (hg1.block (W1.heap.size + 1) (by simp) (by simp [Value.ownBlock]; omega)).trans ?_
    have := BlkAt.new (W1.alloc (.cells #[.int .i64 0, .int .i64 0, .int .i64 (-5), .int .i64 5] 42)) 114 [.int .i64 0, .int .i64 1, .int .i64 0, .int .i64 2, .int .i64 1, .int .i64 0]
    rw [World.size_alloc] at this
    exact this
  have hb3 := grown_below (gA (gA hb1)) HOW.out (by omega) hg1
  have hne : ∀ a, v'.ownBlock = some a → w.heap.size + 1 ≤ a := fun a ha => by
    rcases hown1.2 with ⟨rfl, -⟩ | ⟨bb, _, _, rfl, hbb, -⟩
    · cases ha
    · cases ha; exact hbb
  obtain ⟨A', c', rfl, hs⟩ := SlA.of_own (k := 3) (g := gC) (l := twoClips ++ [x]) (n := 5) (by simpa using hown1) (fun _ _ => rfl) rfl (by omega)
  have q0 := hHb.cell 0
  have q1 := hHb.cell 1
  have q2 := hHb.cell 2
  have q3 := hHb.cell 3
  have q4 := hHb.cell 4
  have f0 := hHb.frozen 0
  have f1 := hHb.frozen 1
  have f2 := hHb.frozen 2
  have f3 := hHb.frozen 3
  have f4 := hHb.frozen 4
  simp only [List.getElem?_cons_zero, List.getElem?_cons_succ] at q0 q1 q2 q3 q4
  have l9 := hHb.lt
  clear hown1 hg1 HOW HX hB1 hB2 hH1 hsz1
  go_wp2
  obtain ⟨W3, hW3⟩ : ∃ W3, W3 = ((((w1.setCell ⟨w.heap.size, 0, none⟩ (.int .i64 60)).setCell ⟨w.heap.size, 1, none⟩ (.int .i64 grace)).setCell ⟨w.heap.size, 2, none⟩ (.slice (some ⟨W1.heap.size, 0, none⟩) 2 2)).setCell ⟨w.heap.size, 3, none⟩ (.slice (some ⟨W1.heap.size + 1, 0, none⟩) 3 3)).setCell ⟨w.heap.size, 4, none⟩ (.slice A' (twoClips.length + 1) c') := ⟨_, rfl⟩
  rw [← hW3]
  have hk : KeepX w.heap.size w1 W3 := by
    rw [hW3]
    exact ((((KeepX.set_ _ _ _).trans (KeepX.set_ _ _ _)).trans (KeepX.set_ _ _ _)).trans (KeepX.set_ _ _ _)).trans (KeepX.set_ _ _ _)
  have hH := ((((hHb.set_ 0 (.int .i64 60)).set_ 1 (.int .i64 grace)).set_ 2 (.slice (some ⟨W1.heap.size, 0, none⟩) 2 2)).set_ 3 (.slice (some ⟨W1.heap.size + 1, 0, none⟩) 3 3)).set_ 4 (.slice A' (twoClips.length + 1) c')
  rw [← hW3] at hH
  have hb9 : Below w.heap.size w W3 := hk.low hb3 (Nat.le_refl _) hb3.size
  clear hW3
  have c0 := hH.cell 0
  have c1 := hH.cell 1
  have c2 := hH.cell 2
  have c3 := hH.cell 3
  have c4 := hH.cell 4
  simp at c0 c1 c2 c3 c4
  refine bodyPost_ret (v := .agg #[.int .i64 60, .int .i64 grace, .slice (some ⟨W1.heap.size, 0, none⟩) 2 2, .slice (some ⟨W1.heap.size + 1, 0, none⟩) 3 3, .slice A' (twoClips.length + 1) c']) ?hr rfl
    ⟨_, rfl, later_ex hb9, some ⟨W1.heap.size, 0, none⟩, 2, some ⟨W1.heap.size + 1, 0, none⟩, 3, A', c', rfl, SlA.of_blk (l := ([⟨0, 0⟩, ⟨-5, 5⟩] : List Rg)) (hk.blk hR (by omega)) (fun _ _ => rfl) (by decide), SlA.of_blk (l := ([⟨0, 1⟩, ⟨0, 2⟩, ⟨1, 0⟩] : List Tk)) (hk.blk hT (by omega)) (fun _ _ => rfl) (by decide),
      hk.sl hs (fun _ a ha => by subst ha; have := hne a.block rfl; omega)⟩
  case hr => simp [results, Try.results76, go_sem, c0, c1, c2, c3, c4]
end Go.Proofs.Ytcngnfnljkkjgaa
