/-
A copy of a list in new memory; a truth with a number.
-/
import Derived.Test.YtcngnfnljkkjgaaCmV
import Derived.Test.YtcngnfnljkkjgaaCmK
import Derived.Test.YtcngnfnljkkjgaaCmO
namespace Go.Proofs.Ytcngnfnljkkjgaa
open Go.RowKit
attribute [local go_sem] cell_later frozen_later lt_later le_later

set_option maxHeartbeats 1000000 in
theorem listF_calls (A : Option Addr) (c : Nat) (l : List Int) (w : World) (H : SlA w 1 gI A c l) (hl : l.length ≤ 1000) (hz : A = none → c = 0) :
    Calls Try.prog 58 #[.slice A l.length c] w (RetSlF l w) := by
  obtain ⟨i0, hi, hz0, hz1, hz2⟩ := info_parts infoInt
  by_cases hn : l = []
  · subst hn
    cases A with
    | none =>
      obtain rfl := hz rfl
      go_enter Try.func58, Try.ntmps58
      go_wp2
      go_ret
      exact ⟨none, 0, rfl, later_ex (Below.refl _ _), SlA.nil _ _ _ _, fun _ h => (by cases h), fun _ => rfl⟩
    | some a =>
      go_enter Try.func58, Try.ntmps58
      go_wp2
      go_ret
      exact ⟨none, 0, rfl, later_ex (Below.refl _ _), SlA.nil _ _ _ _, fun _ h => (by cases h), fun _ => rfl⟩
  · obtain ⟨b, off, rfl, hlt, -⟩ := H.2.2 hn
    have HCS := Lib.hid (sl_cells H rfl)
    go_enter Try.func58, Try.ntmps58
    go_wp2_with (at_builtin; refine wpList_append_own _ rfl _ _ 47 rfl w.heap.size 3 i0 (.int .i64 0) 1 8 Try.underlying47 hi hz0 hz1 hz2 rfl (by decide) _ _ _ rfl (World.ownsRow_nil w _ _ _) ⟨b, off, none⟩ l.length c (l.flatMap gI) rfl (flat_length (fun _ _ => rfl)) HCS.out ?c2 ?c3 ?c4 ?c5 ?_)
    case c2 =>
      intro u hu
      obtain ⟨x, -, hx⟩ := List.mem_flatMap.1 hu
      simp only [gI, List.mem_singleton] at hx
      subst hx
      rfl
    case c3 => unfold maxLen; omega
    case c4 => omega
    case c5 => simp
    intro v' w1 hown1 hg1 _
    have hb2 := grown_below (w := w) (Below.refl _ _) (World.ownsRow_nil w w.heap.size 3 1) (Nat.le_refl _) hg1
    obtain ⟨A', c', rfl, hs, hfr, hnz⟩ := SlA.of_ownF (l := l) hown1 (by simp) (by omega)
    go_wp2
    go_ret
    exact ⟨A', c', rfl, later_ex hb2, hs, hfr, hnz⟩

/-- The truth with a number. -/
def Hs.pickL (h : Hs) (n : Int) : List Int := h.truR.getD (n % (h.truR.length : Int)).toNat []
def RetPick (t : List Int) (b : Bool) (w : World) (e : Ending) (w' : World) : Prop :=
  ∃ A c, e = .returned (.tuple #[.slice A t.length c, .bool b]) ∧ (∃ x, w' = later w x) ∧ SlA w' 1 gI A c t ∧ (A = none → c = 0)
theorem RetPick.up {t : List Int} {b : Bool} {w x w' : World} {e : Ending} (h : RetPick t b (later w x) e w') : RetPick t b w e w' := by
  obtain ⟨A, c, he, ⟨y, rfl⟩, hs⟩ := h
  exact ⟨A, c, he, later_ex (later_below (below_later w x) (size_later w x)), hs⟩
theorem pick_mem {h : Hs} {n : Int} (hne : h.truR ≠ []) : ∃ k : Nat, (k : Int) = n % (h.truR.length : Int) ∧ h.truR[k]? = some (h.pickL n) ∧ k < h.truR.length := by
  have hp := List.length_pos_iff.2 hne
  have h1 := Int.emod_nonneg n (show (h.truR.length : Int) ≠ 0 by omega)
  have h2 := Int.emod_lt_of_pos n (show (0 : Int) < (h.truR.length : Int) by omega)
  refine ⟨(n % (h.truR.length : Int)).toNat, by omega, ?_, by omega⟩
  rw [Hs.pickL, List.getD_eq_getElem?_getD, List.getElem?_eq_getElem (by omega)]
  rfl

theorem pick_calls (v : Value) (h : Hs) (n : Int) (w : World) (H : HsAt w v h) (hf : h.fault = 0) (hn : 0 ≤ n ∧ n ≤ 65535) (hne : h.truR ≠ []) :
    Calls Try.prog 56 #[v, .int .u16 n] w (RetPick (h.pickL n) true w) := by
  have H0 := H
  obtain ⟨A2, c2, A3, c3, A4, c4, rfl, H2, H3, H4⟩ := H
  obtain ⟨W1, hW1⟩ : ∃ W1, W1 = w.alloc (.cells #[.int .i64 h.hour, .int .i64 h.grace, .slice A2 h.clocks.length c2, .slice A3 h.tickets.length c3, .slice A4 h.clips.length c4] 26) := ⟨_, rfl⟩
  have hb1 : Below w.heap.size w W1 := by rw [hW1]; exact gA (Below.refl _ _)
  have hB : BlkAt W1 w.heap.size 26 [.int .i64 h.hour, .int .i64 h.grace, .slice A2 h.clocks.length c2, .slice A3 h.tickets.length c3, .slice A4 h.clips.length c4] := by rw [hW1]; exact BlkAt.new _ _ _
  have H1 := H0.below hb1
  have q0 := hB.cell 0
  have q1 := hB.cell 1
  have q2 := hB.cell 2
  have q3 := hB.cell 3
  have q4 := hB.cell 4
  simp only [List.getElem?_cons_zero, List.getElem?_cons_succ] at q0 q1 q2 q3 q4
  have hBl := hB.lt
  obtain ⟨k, hk, hg, hkl⟩ := pick_mem (n := n) hne
  have hp := List.length_pos_iff.2 hne
  have hpI : (0 : Int) < (h.truR.length : Int) := by omega
  have hz : ((h.truR.length : Int) == 0) = false := beq_eq_false_iff_ne.2 (by omega)
  have hlc : h.clocks.length ≤ 1000 := by have := (small_iff.1 (fault_zero hf).1).1; omega
  have hln := (truR_ok hf (List.mem_of_getElem? hg)).2
  have HK := Lib.hid hk
  have HG := Lib.hid hg
  have HF := Lib.hid hf
  clear hk hg hf hne
  go_enter Try.func56, Try.ntmps56
  go_wp2_with (fail)
  rw [← hW1]
  clear hW1
  refine (reftruths_calls _ h W1 H1 HF.out).mono ?_
  (rintro e w' ⟨A, c, rfl, ⟨z, rfl⟩, hls⟩)
  have hlb := hls.2.1
  obtain ⟨b, off, e, B, d, rfl, hbl, he, s0, hsl, hz2⟩ := hls.at hkl
  rw [HG.out] at he
  cases he
  have hk1 : (k : Int) < (h.truR.length : Int) := by omega
  have hk0 : (0 : Int) ≤ (k : Int) := Int.natCast_nonneg _
  have hkr := HK.out.symm
  have CL := Lib.hid (listF_calls B d (h.pickL n) (later W1 z) hsl (by omega) hz2)
  clear hls hsl hln
  go_wp2_with (fail)
  refine CL.out.mono ?_
  (rintro e w' ⟨A', c', rfl, ⟨z2, rfl⟩, hs, -, hz3⟩)
  have HS := Lib.hid hs
  clear hs
  go_wp2
  go_ret2
  exact ⟨A', c', rfl, later_ex (hb1.trans (Below.mono (later_below (below_later W1 z) (size_later W1 z)) hb1.size)), HS.out, hz3⟩

theorem pick_none (v : Value) (h : Hs) (n : Int) (w : World) (H : HsAt w v h) (hf : h.fault = 0) (hne : h.truR = []) :
    Calls Try.prog 56 #[v, .int .u16 n] w (Ret (.tuple #[.slice none 0 0, .bool false]) w) := by
  have H0 := H
  obtain ⟨A2, c2, A3, c3, A4, c4, rfl, H2, H3, H4⟩ := H
  obtain ⟨W1, hW1⟩ : ∃ W1, W1 = w.alloc (.cells #[.int .i64 h.hour, .int .i64 h.grace, .slice A2 h.clocks.length c2, .slice A3 h.tickets.length c3, .slice A4 h.clips.length c4] 26) := ⟨_, rfl⟩
  have hb1 : Below w.heap.size w W1 := by rw [hW1]; exact gA (Below.refl _ _)
  have hB : BlkAt W1 w.heap.size 26 [.int .i64 h.hour, .int .i64 h.grace, .slice A2 h.clocks.length c2, .slice A3 h.tickets.length c3, .slice A4 h.clips.length c4] := by rw [hW1]; exact BlkAt.new _ _ _
  have H1 := H0.below hb1
  have q0 := hB.cell 0
  have q1 := hB.cell 1
  have q2 := hB.cell 2
  have q3 := hB.cell 3
  have q4 := hB.cell 4
  simp only [List.getElem?_cons_zero, List.getElem?_cons_succ] at q0 q1 q2 q3 q4
  have hBl := hB.lt
  have HN := Lib.hid hne
  have HF := Lib.hid hf
  clear hf hne
  go_enter Try.func56, Try.ntmps56
  go_wp2_with (fail)
  rw [← hW1]
  clear hW1
  refine (reftruths_calls _ h W1 H1 HF.out).mono ?_
  rw [HN.out]
  (rintro e w' ⟨A, c, rfl, ⟨z, rfl⟩, -⟩)
  simp only [List.length_nil]
  go_wp2
  go_ret2
  exact ret_mk rfl (hb1.trans (Below.mono (below_later W1 z) hb1.size))
/-- Errors of the clocks, played. -/
theorem play_at {h : Hs} (hf : h.fault = 0) {e : List Int} (he : e ∈ h.truths) : h.playE e = 0 ∧ h.playL e = h.clips.map (tru e) := by
  have h0 : h.playE e = 0 := by
    unfold Hs.playE
    rw [are_errs hf (mem_truths.1 he).1]
    simp [hf]
  exact ⟨h0, by rw [Hs.playL, if_pos h0]⟩
end Go.Proofs.Ytcngnfnljkkjgaa
