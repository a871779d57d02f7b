/-
Whether all clips but some have a truth.
-/
import Derived.Test.YtcngnfnljkkjgaaTkRange
namespace Go.Proofs.Ytcngnfnljkkjgaa
open Go.RowKit
attribute [local go_sem] cell_later frozen_later lt_later le_later
attribute [local go_sem] Oper.semAt_some

/-- What 'lists' hands back: the iterator over a copy of the house. -/
def RetLists (h : Hs) (A2 : Option Addr) (c2 : Nat) (w : World) (e : Ending) (w' : World) : Prop :=
  ∃ g, e = .returned (.func (.func 134) #[] #[.pointer (some ⟨g, 0, none⟩)]) ∧ (∃ x, w' = later w x) ∧ w'.cell? ⟨g, 2, none⟩ = some (.slice A2 h.clocks.length c2)
theorem RetLists.up {h : Hs} {A2 : Option Addr} {c2 : Nat} {w x w' : World} {e : Ending} (H : RetLists h A2 c2 (later w x) e w') : RetLists h A2 c2 w e w' := by
  obtain ⟨g, he, ⟨y, rfl⟩, hc⟩ := H
  exact ⟨g, he, later_ex (later_below (below_later w x) (size_later w x)), hc⟩
theorem lists_calls (h : Hs) (A2 A3 A4 : Option Addr) (c2 c3 c4 : Nat) (w : World) :
    Calls Try.prog 122 #[.agg #[.int .i64 h.hour, .int .i64 h.grace, .slice A2 h.clocks.length c2, .slice A3 h.tickets.length c3, .slice A4 h.clips.length c4]] w (RetLists h A2 c2 w) := by
  go_enter Try.func122, Try.ntmps122
  go_wp2
  go_ret
  exact ⟨_, rfl, later_ex (by repeat (first | exact Below.refl _ _ | (with_reducible assumption) | apply gL | apply gA | apply gD | apply gN | (refine gS ?_ (by first | (simp; done) | (simp; omega) | omega)))), by simp [go_sem]⟩

theorem below_keepR {N m : Nat} {W0 A B : World} (h : Below N W0 A) (hN : N ≤ W0.heap.size) (k : KeepR N m A B) : Below N W0 B :=
  ⟨k.os.trans h.os, k.tape.trans h.tape, k.output.trans h.output, Nat.le_trans h.size k.size, fun i hi => (k.block i (Nat.lt_of_lt_of_le (Nat.lt_of_lt_of_le hi hN) h.size) (.inl hi)).trans (h.block i hi)⟩
theorem below_put {N r : Nat} {W0 A : World} {o : Obj} (h : Below N W0 A) (hr : N ≤ r) : Below N W0 (A.putObj r o) :=
  ⟨h.os, h.tape, h.output, by simp [h.size], fun i hi => (World.putObj_heap_other (by omega)).trans (h.block i hi)⟩

theorem not_any_of {h : Hs} {out : List Int} (hx : ∀ e ∈ prods h.clocks, h.risingB e out = false) : h.canB out = false := by
  rw [Hs.canB, List.any_eq_false]
  intro e he
  simp [hx e he]

theorem below_set2 {N : Nat} {W0 W : World} (h : Below N W0 W) (p : Addr) (v : Value) : Below N (W0.setCell p v) (W.setCell p v) :=
  ⟨h.os, h.tape, h.output, by simpa using h.size, fun k hk => by
    by_cases e : k = p.block
    · subst e
      simp only [World.setCell, Array.getElem?_modify, if_pos]
      rw [h.block _ hk]
    · rw [Below.heap_setCell _ _ _ _ e, Below.heap_setCell _ _ _ _ e]
      exact h.block k hk⟩
theorem priv_set {N m : Nat} (W : World) (a : Addr) (v : Value) (ha : a.block < N) : PrivKeep N m W (W.setCell a v) := ⟨by simp, fun k h1 _ => Below.heap_setCell _ _ _ _ (by omega)⟩

set_option maxHeartbeats 2000000 in
theorem possible_calls (v : Value) (h : Hs) (A : Option Addr) (c : Nat) (out : List Int) (w : World) (H : HsAt w v h) (HO : SlA w 1 gI A c out) (hn : h.clocks.length ≤ 4) (hr : ∀ r ∈ h.clocks, -30 ≤ r.lo ∧ r.lo ≤ r.hi ∧ r.hi ≤ 30) (hc : ClipsOk h.clips) (hl : h.clips.length ≤ 1000) :
    Calls Try.prog 100 #[v, .slice A out.length c] w (Ret (.bool (h.canB out)) w) := by
  obtain ⟨A2, c2, A3, c3, A4, c4, rfl, H2, H3, H4⟩ := H
  refine (callsIn_wide (n := 0)).1 ?_
  refine callsIn_of_wp_marks Try.func100 rfl trivial ?_ rfl
  have HR := Lib.hid hr
  have HC := Lib.hid hc
  clear hr hc
  have hfn : ∀ f, Fence.wide.fn f := fun _ => trivial
  have hdep : Fence.wide.depth = none := rfl
  simp only [Try.ntmps100, List.size_toArray, List.length_cons, List.length_nil, Nat.reduceAdd, Nat.reduceSub, Array.replicate_succ, Array.replicate_zero, List.push_toArray, List.append_toArray, List.nil_append, List.cons_append]
  gi_wp2_with (gi_at_call 122; refine (callsIn_wide.2 (lists_calls h _ _ _ _ _ _ _)).mono ?_; (rintro e w' hr; (first | (with_reducible replace hr := RetLists.up hr) | skip); obtain ⟨gh, rfl, ⟨z, rfl⟩, hgh⟩ := hr))
  have hb0 : Below w.heap.size w (later (((w.alloc (.cells #[.int .i64 h.hour, .int .i64 h.grace, .slice A2 h.clocks.length c2, .slice A3 h.tickets.length c3, .slice A4 h.clips.length c4] 36)).alloc (.cells #[.slice A out.length c] 47)).alloc (.cells #[.bool false] 4)) z) := (by repeat (first | exact Below.refl _ _ | (with_reducible assumption) | apply gL | apply gA | apply gD | apply gN | (refine gS ?_ (by first | (simp; done) | (simp; omega) | omega))))
  obtain ⟨W0, hW0⟩ : ∃ W0, W0 = later (((w.alloc (.cells #[.int .i64 h.hour, .int .i64 h.grace, .slice A2 h.clocks.length c2, .slice A3 h.tickets.length c3, .slice A4 h.clips.length c4] 36)).alloc (.cells #[.slice A out.length c] 47)).alloc (.cells #[.bool false] 4)) z := ⟨_, rfl⟩
  rw [← hW0] at hgh hb0
  have q0 : W0.cell? ⟨w.heap.size, 0, none⟩ = some (.int .i64 h.hour) := by rw [hW0]; simp [go_sem]
  have q1 : W0.cell? ⟨w.heap.size, 1, none⟩ = some (.int .i64 h.grace) := by rw [hW0]; simp [go_sem]
  have q2 : W0.cell? ⟨w.heap.size, 2, none⟩ = some (.slice A2 h.clocks.length c2) := by rw [hW0]; simp [go_sem]
  have q3 : W0.cell? ⟨w.heap.size, 3, none⟩ = some (.slice A3 h.tickets.length c3) := by rw [hW0]; simp [go_sem]
  have q4 : W0.cell? ⟨w.heap.size, 4, none⟩ = some (.slice A4 h.clips.length c4) := by rw [hW0]; simp [go_sem]
  have q5 : W0.cell? ⟨w.heap.size + 1, 0, none⟩ = some (.slice A out.length c) := by rw [hW0]; simp [go_sem]
  have q6 : W0.cell? ⟨w.heap.size + 1 + 1, 0, none⟩ = some (.bool false) := by rw [hW0]; simp [go_sem]
  have q7 : W0.frozen? ⟨w.heap.size + 1 + 1, 0, none⟩ = false := by rw [hW0]; simp [go_sem]
  have hs0 : w.heap.size + 3 ≤ W0.heap.size := by
    have := size_later (((w.alloc (.cells #[.int .i64 h.hour, .int .i64 h.grace, .slice A2 h.clocks.length c2, .slice A3 h.tickets.length c3, .slice A4 h.clips.length c4] 36)).alloc (.cells #[.slice A out.length c] 47)).alloc (.cells #[.bool false] 4)) z
    rw [hW0]
    simp at this ⊢
    omega
  rw [← hW0]
  clear hW0
  have hgh' := World.block_lt_of_cell? W0 _ hgh
  have hb1 : w.heap.size < W0.heap.size := by omega
  have hb2 : w.heap.size + 1 < W0.heap.size := by omega
  have hb3 : w.heap.size + 1 + 1 < W0.heap.size := by omega
  have hHs0 : HsAt w (.agg #[.int .i64 h.hour, .int .i64 h.grace, .slice A2 h.clocks.length c2, .slice A3 h.tickets.length c3, .slice A4 h.clips.length c4]) h := ⟨A2, c2, A3, c3, A4, c4, rfl, H2, H3, H4⟩
  have H2' := H2.below hb0
  refine range_lists h A2 c2 gh hn HR.out rfl
    (fun pre W => Below W0.heap.size W0 W ∧ ∀ e ∈ pre, h.risingB e out = false)
    (fun cd pre W => cd = .ret ∧ Below W0.heap.size (W0.setCell ⟨w.heap.size + 1 + 1, 0, none⟩ (.bool true)) W ∧ ∃ e ∈ pre, h.risingB e out = true)
    (fun pre A B hA k => ⟨below_keepR hA.1 (Nat.le_refl _) k, hA.2⟩)
    (fun cd pre A B hA k => ⟨hA.1, below_keepR hA.2.1 (by simp) k, hA.2.2⟩)
    (fun pre A hA => ⟨(hA.1.cell (p := ⟨gh, 2, none⟩) hgh').trans hgh, H2'.below hA.1⟩)
    ⟨Below.refl _ _, fun e he => by cases he⟩
    (fun pre p a' W => (Below W0.heap.size W0 W ∧ ∀ e ∈ pre, h.risingB e out = false) ∧ ∃ g5, W0.heap.size + 5 ≤ g5 ∧ BlkAt W g5 119 (e4 p) ∧
      a' = { tmps := #[.agg #[.int .i64 h.hour, .int .i64 h.grace, .slice A2 h.clocks.length c2, .slice A3 h.tickets.length c3, .slice A4 h.clips.length c4], .slice A out.length c, .pointer (some ⟨w.heap.size, 0, none⟩), .pointer (some ⟨w.heap.size + 1, 0, none⟩), .pointer (some ⟨w.heap.size + 1 + 1, 0, none⟩), .pointer (some ⟨g5, 0, none⟩),
        .agg #[.int .i64 h.hour, .int .i64 h.grace, .slice A2 h.clocks.length c2, .slice A3 h.tickets.length c3, .slice A4 h.clips.length c4], .func (.func 134) #[] #[.pointer (some ⟨gh, 0, none⟩)], .agg (e4 p).toArray, undef, undef, undef, undef], defers := [] })
    (fun pre p a' A B hA k => ⟨⟨below_keepR hA.1.1 (Nat.le_refl _) k, hA.1.2⟩, by
      obtain ⟨g5, h1, h2, h3⟩ := hA.2
      exact ⟨g5, h1, (k.block g5 h2.lt (.inr h1)).trans h2, h3⟩⟩)
    ?assign ?body ?done ?stop
  case assign =>
    rintro l pre p W K hp ⟨hb, hno⟩ hsz hK
    obtain ⟨a0, a1, a2, a3, h4⟩ : ∃ a0 a1 a2 a3 : Int, e4 p = [.int .i64 a0, .int .i64 a1, .int .i64 a2, .int .i64 a3] := ⟨_, _, _, _, rfl⟩
    have hnew := BlkAt.new W 119 (e4 p)
    rw [h4] at hK hnew ⊢
    have HN := Lib.hid hno
    have HNW := Lib.hid hnew
    clear hno h4 hnew
    simp only [List.setIfInBounds_toArray, List.set_cons_succ, List.set_cons_zero]
    gi_wp2
    exact hK _ _ (PrivKeep.of_below (gA (Below.refl _ _)) hsz) ⟨⟨hb.alloc hb.size _, HN.out⟩, W.heap.size, hsz, HNW.out, rfl⟩
  case body =>
    rintro l pre p a' W hp hsz ⟨⟨hb, hno⟩, g5, hg5, hB, rfl⟩
    obtain ⟨a0, a1, a2, a3, h4⟩ : ∃ a0 a1 a2 a3 : Int, e4 p = [.int .i64 a0, .int .i64 a1, .int .i64 a2, .int .i64 a3] := ⟨_, _, _, _, rfl⟩
    rw [h4] at hB ⊢
    have HE4 := Lib.hid h4
    have HN := Lib.hid hno
    have HEO := Lib.hid (prods_ok HR.out (hp.subset (List.mem_append_right pre (List.mem_singleton.2 rfl))))
    clear h4 hno
    have k0 := hB.cell 0
    have k1 := hB.cell 1
    have k2 := hB.cell 2
    have k3 := hB.cell 3
    simp only [List.getElem?_cons_zero, List.getElem?_cons_succ] at k0 k1 k2 k3
    have p0 := (hb.cell (p := ⟨w.heap.size, 0, none⟩) hb1).trans q0
    have p1 := (hb.cell (p := ⟨w.heap.size, 1, none⟩) hb1).trans q1
    have p2 := (hb.cell (p := ⟨w.heap.size, 2, none⟩) hb1).trans q2
    have p3 := (hb.cell (p := ⟨w.heap.size, 3, none⟩) hb1).trans q3
    have p4 := (hb.cell (p := ⟨w.heap.size, 4, none⟩) hb1).trans q4
    have p5 := (hb.cell (p := ⟨w.heap.size + 1, 0, none⟩) hb2).trans q5
    have p6 := (hb.cell (p := ⟨w.heap.size + 1 + 1, 0, none⟩) hb3).trans q6
    have p7 := (hb.frozen (p := ⟨w.heap.size + 1 + 1, 0, none⟩) hb3).trans q7
    have hlt3 : w.heap.size + 1 + 1 < W.heap.size := Nat.lt_of_lt_of_le hb3 hb.size
    have hbw : Below w.heap.size w W := hb0.trans (hb.mono hb0.size)
    by_cases hri : h.risingB p out = true
    · gi_wp2_with (gi_at_call 111; refine (CallsIn.inRound l (callsIn_wide.2 (rising_calls4 _ h p HE4 _ _ out _ ?hh ?ho HEO.out HC.out hl))).mono ?_; (case hh => exact hHs0.below hbw); (case ho => exact HO.below hbw); (rintro e w' hr; first | ((with_reducible replace hr := Ret.up hr); obtain ⟨rfl, z, rfl⟩ := hr) | (obtain ⟨rfl, z, rfl⟩ := hr)))
      exact ⟨(PrivKeep.of_below (below_later W z) hsz).trans (priv_set _ _ _ hb3), rfl, below_set2 (later_below hb hb.size) _ _, p, by simp, hri⟩
    · have hri : h.risingB p out = false := by simpa using hri
      gi_wp2_with (gi_at_call 111; refine (CallsIn.inRound l (callsIn_wide.2 (rising_calls4 _ h p HE4 _ _ out _ ?hh ?ho HEO.out HC.out hl))).mono ?_; (case hh => exact hHs0.below hbw); (case ho => exact HO.below hbw); (rintro e w' hr; first | ((with_reducible replace hr := Ret.up hr); obtain ⟨rfl, z, rfl⟩ := hr) | (obtain ⟨rfl, z, rfl⟩ := hr)))
      exact ⟨PrivKeep.of_below (below_later W z) hsz, later_below hb hb.size, fun e he => by
        rcases List.mem_append.1 he with h1 | h1
        · exact HN.out e h1
        · rw [List.mem_singleton.1 h1]; exact hri⟩
  case done =>
    rintro D W hD ⟨hb, hno⟩ hK
    have HF := Lib.hid (not_any_of hno)
    have HNO := Lib.hid hno
    clear hno
    have p6 := (hb.cell (p := ⟨w.heap.size + 1 + 1, 0, none⟩) hb3).trans q6
    have p7 := (hb.frozen (p := ⟨w.heap.size + 1 + 1, 0, none⟩) hb3).trans q7
    have hbw : Below w.heap.size w W := hb0.trans (hb.mono hb0.size)
    gi_wp2
    have hK2 : (W.setCell ⟨w.heap.size + 1 + 1, 0, none⟩ (.bool false)).heap[D]? = some (.deferred (some [])) := (Below.heap_setCell _ _ _ _ (by show D ≠ w.heap.size + 1 + 1; omega)).trans hK
    refine ⟨by simp, .inl ⟨_, _, rfl, run_takeDeferred hK2, ?_⟩⟩
    have hcell : ((W.setCell ⟨w.heap.size + 1 + 1, 0, none⟩ (.bool false)).putObj D (.deferred none)).cell? ⟨w.heap.size + 1 + 1, 0, none⟩ = some (.bool false) :=
      (World.cell?_of_block (w := W.setCell ⟨w.heap.size + 1 + 1, 0, none⟩ (.bool false)) (World.putObj_heap_other (by show w.heap.size + 1 + 1 ≠ D; omega))).trans (World.cell?_setCell_same _ _ _ p6)
    refine ⟨.bool false, by simp [results, Try.results100, go_sem, hcell], ret_mk (ret_bool HF.out.symm) ?_⟩
    exact below_put (gS hbw (by simp; omega)) (by omega)
  case stop =>
    rintro D cd zs W hD hne hpz ⟨rfl, hb, e, he, hre⟩ hK
    have HF := Lib.hid (show h.canB out = true by
      rw [Hs.canB, List.any_eq_true]
      exact ⟨e, hpz.subset he, hre⟩)
    have p6 : W.cell? ⟨w.heap.size + 1 + 1, 0, none⟩ = some (.bool true) := (hb.cell (p := ⟨w.heap.size + 1 + 1, 0, none⟩) hb3).trans (World.cell?_setCell_same _ _ _ q6)
    have hbw : Below w.heap.size w W := (gS hb0 (by simp; omega)).trans (hb.mono (by omega))
    gi_wp2
    refine ⟨by simp, .inl ⟨_, _, rfl, run_takeDeferred hK, ?_⟩⟩
    have hcell : (W.putObj D (.deferred none)).cell? ⟨w.heap.size + 1 + 1, 0, none⟩ = some (.bool true) :=
      (World.cell?_of_block (w := W) (World.putObj_heap_other (by show w.heap.size + 1 + 1 ≠ D; omega))).trans p6
    refine ⟨.bool true, by simp [results, Try.results100, go_sem, hcell], ret_mk (ret_bool HF.out.symm) ?_⟩
    exact below_put hbw (by omega)
end Go.Proofs.Ytcngnfnljkkjgaa
