/-
The chapter's house.
-/
import Derived.Test.YtcngnfnljkkjgaaTkHelp2
namespace Go.Proofs.Ytcngnfnljkkjgaa
open Go.RowKit
attribute [local go_sem] cell_later frozen_later lt_later le_later

theorem lt_later1 {w x : World} {b : Nat} (h : b < w.heap.size) : (b < (later w x).heap.size + 1) = True := by
  have := size_later w x
  simp only [eq_iff_iff, iff_true]
  omega
theorem lt_later2 {w x : World} {b : Nat} (h : b < w.heap.size) : (b < (later w x).heap.size + 1 + 1) = True := by
  have := size_later w x
  simp only [eq_iff_iff, iff_true]
  omega
theorem lt_later3 {w x : World} {b : Nat} (h : b < w.heap.size) : (b < (later w x).heap.size + 1 + 1 + 1) = True := by
  have := size_later w x
  simp only [eq_iff_iff, iff_true]
  omega
attribute [local go_sem] lt_later1 lt_later2 lt_later3

def twoClips : List Cp := [⟨0, 0, 300⟩, ⟨0, 1, 366⟩, ⟨1, 0, 365⟩, ⟨1, 1, 488⟩]
def twoH (grace : Int) (more : List Cp) : Hs := ⟨60, grace, [⟨0, 0⟩, ⟨-5, 5⟩], [⟨0, 1⟩, ⟨0, 2⟩, ⟨1, 0⟩], twoClips ++ more⟩
/-- What a call leaves that hands back a house. -/
def RetHs (h : Hs) (w : World) (e : Ending) (w' : World) : Prop := ∃ v, e = .returned v ∧ (∃ x, w' = later w x) ∧ HsAt w' v h
theorem RetHs.up {h : Hs} {w x w' : World} {e : Ending} (H : RetHs h (later w x) e w') : RetHs h w e w' := by
  obtain ⟨v, he, ⟨y, rfl⟩, hs⟩ := H
  exact ⟨v, he, later_ex (later_below (below_later w x) (size_later w x)), hs⟩

theorem SlA.of_blk {α : Type} {w : World} {b k : Nat} {t : TypeId} {g : α → List Value} {l : List α} (h : BlkAt w b t (l.flatMap g)) (hg : ∀ x ∈ l, (g x).length = k) (hl : l.length ≤ 140737488355328) : SlA w k g (some ⟨b, 0, none⟩) l.length l :=
  ⟨Nat.le_refl _, hl, fun _ => ⟨b, 0, rfl, h.lt, fun i x hx j u hu => by rw [h.cell, Nat.zero_add]; exact flat_at hg i x hx j u hu⟩⟩

/-- What the chapter's house leaves: its clips in a block of their own. -/
def RetTwo (grace : Int) (w : World) (e : Ending) (w' : World) : Prop :=
  ∃ A2 A3 b, e = .returned (.agg #[.int .i64 60, .int .i64 grace, .slice A2 2 2, .slice A3 3 3, .slice (some ⟨b, 0, none⟩) 4 4]) ∧ (∃ x, w' = later w x) ∧
    SlA w' 2 gR A2 2 (twoH grace []).clocks ∧ SlA w' 2 gT A3 3 (twoH grace []).tickets ∧ BlkAt w' b 104 (twoClips.flatMap gC) ∧ w.heap.size ≤ b ∧ (∀ a, A2 = some a → a.block ≠ b ∧ w.heap.size ≤ a.block) ∧ ∀ a, A3 = some a → a.block ≠ b ∧ w.heap.size ≤ a.block

set_option maxHeartbeats 1000000 in
theorem two_new (grace : Int) (w : World) : Calls Try.prog 76 #[.int .i64 grace, .slice none 0 0] w (RetTwo grace w) := by
  go_enter Try.func76, Try.ntmps76
  go_wp2_with (fail)
  refine (between_calls _ _ _).mono ?_
  (rintro e w' hr; first | ((with_reducible replace hr := Ret.up hr); obtain ⟨rfl, z, rfl⟩ := hr) | (obtain ⟨rfl, z, rfl⟩ := hr))
  go_wp2_with (fail)
  refine (between_calls _ _ _).mono ?_
  (rintro e w' hr; first | ((with_reducible replace hr := Ret.up hr); obtain ⟨rfl, z, rfl⟩ := hr) | (obtain ⟨rfl, z, rfl⟩ := hr))
  obtain ⟨W1, hW1⟩ : ∃ W1, W1 = later ((w.alloc (.cells #[.int .i64 0, .int .i64 0, .slice none 0 0, .slice none 0 0, .slice none 0 0] 36)).alloc (.cells #[.int .i64 0, .int .i64 0, .int .i64 300, .int .i64 0, .int .i64 1, .int .i64 366, .int .i64 1, .int .i64 0, .int .i64 365, .int .i64 1, .int .i64 1, .int .i64 488] 104)) z := ⟨_, rfl⟩
  have hb1 : Below w.heap.size w W1 := by rw [hW1]; exact (by repeat (first | exact Below.refl _ _ | (with_reducible assumption) | apply gL | apply gA | apply gD | apply gN | (refine gS ?_ (by first | (simp; done) | (simp; omega) | omega))))
  have hB1 : BlkAt W1 w.heap.size 36 [.int .i64 0, .int .i64 0, .slice none 0 0, .slice none 0 0, .slice none 0 0] := by rw [hW1]; exact ((BlkAt.new w _ _).alloc _).later
  have hB2 : BlkAt W1 (w.heap.size + 1) 104 [.int .i64 0, .int .i64 0, .int .i64 300, .int .i64 0, .int .i64 1, .int .i64 366, .int .i64 1, .int .i64 0, .int .i64 365, .int .i64 1, .int .i64 1, .int .i64 488] := by
    rw [hW1]
    have := BlkAt.new (w.alloc (.cells #[.int .i64 0, .int .i64 0, .slice none 0 0, .slice none 0 0, .slice none 0 0] 36)) 104 [.int .i64 0, .int .i64 0, .int .i64 300, .int .i64 0, .int .i64 1, .int .i64 366, .int .i64 1, .int .i64 0, .int .i64 365, .int .i64 1, .int .i64 1, .int .i64 488]
    rw [World.size_alloc] at this
    exact this.later
  rw [← hW1]
  clear hW1
  have q0 := hB1.cell 0
  have q1 := hB1.cell 1
  have q2 := hB1.cell 2
  have q3 := hB1.cell 3
  have q4 := hB1.cell 4
  have f0 := hB1.frozen 0
  have f1 := hB1.frozen 1
  have f2 := hB1.frozen 2
  have f3 := hB1.frozen 3
  have f4 := hB1.frozen 4
  simp only [List.getElem?_cons_zero, List.getElem?_cons_succ] at q0 q1 q2 q3 q4
  have l0 := hB1.lt
  have l1 : w.heap.size < W1.heap.size + 1 := by omega
  have l2 : w.heap.size < W1.heap.size + 1 + 1 := by omega
  go_wp2
  obtain ⟨W2, hW2⟩ : ∃ W2, W2 = ((((W1.setCell ⟨w.heap.size, 0, none⟩ (.int .i64 60)).setCell ⟨w.heap.size, 1, none⟩ (.int .i64 grace)).setCell ⟨w.heap.size, 2, none⟩ (.slice (some ⟨W1.heap.size, 0, none⟩) 2 2)).setCell ⟨w.heap.size, 3, none⟩ (.slice (some ⟨W1.heap.size + 1, 0, none⟩) 3 3)).setCell ⟨w.heap.size, 4, none⟩ (.slice (some ⟨w.heap.size + 1, 0, none⟩) 4 4) := ⟨_, rfl⟩
  rw [← hW2]
  have hs2 : W2.heap.size = W1.heap.size := by rw [hW2]; simp
  have hb2 : Below w.heap.size w W2 := by rw [hW2]; exact gS (gS (gS (gS (gS hb1 (by simp)) (by simp)) (by simp)) (by simp)) (by simp)
  have hB3 := ((((hB1.set_ 0 (.int .i64 60)).set_ 1 (.int .i64 grace)).set_ 2 (.slice (some ⟨W1.heap.size, 0, none⟩) 2 2)).set_ 3 (.slice (some ⟨W1.heap.size + 1, 0, none⟩) 3 3)).set_ 4 (.slice (some ⟨w.heap.size + 1, 0, none⟩) 4 4)
  rw [← hW2] at hB3
  have hB4 : BlkAt W2 (w.heap.size + 1) 104 (twoClips.flatMap gC) := by
    rw [hW2]
    exact (Below.heap_setCell _ _ _ _ (by simp)).trans ((Below.heap_setCell _ _ _ _ (by simp)).trans ((Below.heap_setCell _ _ _ _ (by simp)).trans ((Below.heap_setCell _ _ _ _ (by simp)).trans ((Below.heap_setCell _ _ _ _ (by simp)).trans hB2))))
  clear hW2
  obtain ⟨W3, hW3⟩ : ∃ W3, W3 = (W2.alloc (.cells #[.int .i64 0, .int .i64 0, .int .i64 (-5), .int .i64 5] 42)).alloc (.cells #[.int .i64 0, .int .i64 1, .int .i64 0, .int .i64 2, .int .i64 1, .int .i64 0] 114) := ⟨_, rfl⟩
  rw [← hW3]
  have hb3 : Below w.heap.size w W3 := by rw [hW3]; exact gA (gA hb2)
  have hH := (hB3.alloc (.cells #[.int .i64 0, .int .i64 0, .int .i64 (-5), .int .i64 5] 42)).alloc (.cells #[.int .i64 0, .int .i64 1, .int .i64 0, .int .i64 2, .int .i64 1, .int .i64 0] 114)
  have hC := (hB4.alloc (.cells #[.int .i64 0, .int .i64 0, .int .i64 (-5), .int .i64 5] 42)).alloc (.cells #[.int .i64 0, .int .i64 1, .int .i64 0, .int .i64 2, .int .i64 1, .int .i64 0] 114)
  have hR : BlkAt W3 W1.heap.size 42 (([⟨0, 0⟩, ⟨-5, 5⟩] : List Rg).flatMap gR) := by
    rw [hW3, ← hs2]
    exact (BlkAt.new W2 _ _).alloc _
  have hT : BlkAt W3 (W1.heap.size + 1) 114 (([⟨0, 1⟩, ⟨0, 2⟩, ⟨1, 0⟩] : List Tk).flatMap gT) := by
    rw [hW3, ← hs2]
    have := BlkAt.new (W2.alloc (.cells #[.int .i64 0, .int .i64 0, .int .i64 (-5), .int .i64 5] 42)) 114 [.int .i64 0, .int .i64 1, .int .i64 0, .int .i64 2, .int .i64 1, .int .i64 0]
    rw [World.size_alloc] at this
    exact this
  rw [← hW3] at hH hC
  have c0 := hH.cell 0
  have c1 := hH.cell 1
  have c2 := hH.cell 2
  have c3 := hH.cell 3
  have c4 := hH.cell 4
  simp at c0 c1 c2 c3 c4
  refine bodyPost_ret (v := .agg #[.int .i64 60, .int .i64 grace, .slice (some ⟨W1.heap.size, 0, none⟩) 2 2, .slice (some ⟨W1.heap.size + 1, 0, none⟩) 3 3, .slice (some ⟨w.heap.size + 1, 0, none⟩) 4 4]) ?hr rfl
    ⟨some ⟨W1.heap.size, 0, none⟩, some ⟨W1.heap.size + 1, 0, none⟩, w.heap.size + 1, rfl, later_ex hb3, SlA.of_blk (l := ([⟨0, 0⟩, ⟨-5, 5⟩] : List Rg)) hR (fun _ _ => rfl) (by decide), SlA.of_blk (l := ([⟨0, 1⟩, ⟨0, 2⟩, ⟨1, 0⟩] : List Tk)) hT (fun _ _ => rfl) (by decide), hC, Nat.le_succ _,
      fun a ha => (by cases ha; have := hB2.lt; show W1.heap.size ≠ _ ∧ _ ≤ W1.heap.size; omega), fun a ha => (by cases ha; have := hB2.lt; show W1.heap.size + 1 ≠ _ ∧ _ ≤ W1.heap.size + 1; omega)⟩
  case hr => simp [results, Try.results76, go_sem, c0, c1, c2, c3, c4]
theorem two_nil (grace : Int) (w : World) : Calls Try.prog 76 #[.int .i64 grace, .slice none 0 0] w (RetHs (twoH grace []) w) :=
  (two_new grace w).mono fun _ _ ⟨A2, A3, b, he, hx, h2, h3, h4, _, _, _⟩ => ⟨_, he, hx, A2, 2, A3, 3, some ⟨b, 0, none⟩, 4, rfl, h2, h3, SlA.of_blk (l := twoClips) h4 (fun _ _ => rfl) (by decide)⟩
end Go.Proofs.Ytcngnfnljkkjgaa
