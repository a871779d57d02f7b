/-
The reference: whether a list is errors of the clocks, and a truth.
-/
import Derived.Test.YtcngnfnljkkjgaaCmN
import Derived.Test.YtcngnfnljkkjgaaCmV
import Derived.Test.YtcngnfnljkkjgaaCmM
namespace Go.Proofs.Ytcngnfnljkkjgaa
open Go.RowKit
attribute [local go_sem] cell_later frozen_later lt_later le_later

theorem are_false {h : Hs} {l : List Int} {k : Nat} {y : Int} {r : Rg} (hl : l.length = h.clocks.length) (hy : l[k]? = some y) (hr : h.clocks[k]? = some r) (hn : inB y r.lo r.hi = false) : areErrB h l = false := by
  have hk : k < l.length := (List.getElem?_eq_some_iff.1 hy).1
  unfold areErrB
  rw [hl, decide_eq_true rfl, Bool.true_and, List.all_eq_false]
  refine ⟨k, List.mem_range.2 (by rw [← hl]; exact hk), ?_⟩
  rw [hr]
  simp only [List.getD_eq_getElem?_getD, hy, Option.getD_some, hn]
  decide
theorem are_true {h : Hs} {l : List Int} (hl : l.length = h.clocks.length) (ha : ∀ (k : Nat) (y : Int) (r : Rg), l[k]? = some y → h.clocks[k]? = some r → inB y r.lo r.hi = true) : areErrB h l = true := by
  unfold areErrB
  rw [decide_eq_true hl, Bool.true_and, List.all_eq_true]
  intro k hk
  have hk := List.mem_range.1 hk
  have hk2 : k < h.clocks.length := by omega
  rw [List.getElem?_eq_getElem hk2]
  simp only [List.getD_eq_getElem?_getD, List.getElem?_eq_getElem hk, Option.getD_some]
  exact ha k _ _ (List.getElem?_eq_getElem hk) (List.getElem?_eq_getElem hk2)
theorem are_mem {h : Hs} (hf : h.fault = 0) {l : List Int} (ha : areErrB h l = true) : l ∈ prods h.clocks := by
  have a : ∀ y ∈ h.clocks, y.lo ≤ y.hi := fun y hy => (off_parts (off_of hf y hy)).2.1
  unfold areErrB at ha
  rw [Bool.and_eq_true, decide_eq_true_eq, List.all_eq_true] at ha
  rw [mem_prods a]
  refine ⟨ha.1, fun i hi r hr => ?_⟩
  have := ha.2 i (List.mem_range.2 (by omega))
  rw [hr] at this
  exact inB_iff.1 this

set_option maxHeartbeats 1000000 in
theorem refare_calls (v : Value) (h : Hs) (A : Option Addr) (c : Nat) (l : List Int) (w : World) (H : HsAt w v h) (HL : SlA w 1 gI A c l) (hlc : h.clocks.length ≤ 1000) :
    Calls Try.prog 72 #[v, .slice A l.length c] w (Ret (.bool (areErrB h l)) w) := by
  have H0 := H
  obtain ⟨A2, c2, A3, c3, A4, c4, rfl, H2, H3, H4⟩ := H
  obtain ⟨W1, hW1⟩ : ∃ W1, W1 = w.alloc (.cells #[.int .i64 h.hour, .int .i64 h.grace, .slice A2 h.clocks.length c2, .slice A3 h.tickets.length c3, .slice A4 h.clips.length c4] 26) := ⟨_, rfl⟩
  have hb1 : Below w.heap.size w W1 := by rw [hW1]; exact gA (Below.refl _ _)
  have hB : BlkAt W1 w.heap.size 26 [.int .i64 h.hour, .int .i64 h.grace, .slice A2 h.clocks.length c2, .slice A3 h.tickets.length c3, .slice A4 h.clips.length c4] := by rw [hW1]; exact BlkAt.new _ _ _
  have H1 := H0.below hb1
  have q0 := hB.cell 0
  have q1 := hB.cell 1
  have q2 := hB.cell 2
  have q3 := hB.cell 3
  have q4 := hB.cell 4
  simp only [List.getElem?_cons_zero, List.getElem?_cons_succ] at q0 q1 q2 q3 q4
  have hBl := hB.lt
  have hlm := HL.2.1
  by_cases hl : l.length = h.clocks.length
  · have hl1 : ((l.length : Int) != (h.clocks.length : Int)) = false := by simp [hl]
    have HLE := Lib.hid hl
    clear hl
    go_enter Try.func72, Try.ntmps72
    go_wp2
    rw [← hW1]
    clear hW1
    go_loopw [5] (fun i wr => ∃ k : Nat, k ≤ l.length ∧ i = .int .i64 k ∧ (∀ j, j < k → ∀ (y : Int) (r : Rg), l[j]? = some y → h.clocks[j]? = some r → inB y r.lo r.hi = true) ∧ Below W1.heap.size W1 wr) (fun i _ => l.length - (intOf i).toNat)
    case atStart => exact ⟨0, Nat.zero_le _, rfl, fun j hj => absurd hj (Nat.not_lt_zero _), Below.refl _ _⟩
    case round =>
      obtain ⟨k, hk, rfl, hall, hb⟩ := hrel
      have HALL := Lib.hid hall
      clear hall
      have p2 := (hb.cell (p := ⟨w.heap.size, 2, none⟩) hBl).trans q2
      have hBr := Nat.lt_of_lt_of_le hBl hb.size
      by_cases hlt : k < l.length
      · have hlt1 : (k : Int) < (l.length : Int) := by omega
        have hlt2 : (k : Int) < (h.clocks.length : Int) := by have := HLE.out; omega
        have hk0 : (0 : Int) ≤ (k : Int) := Int.natCast_nonneg _
        obtain ⟨bt, ot, y, rfl, hbt, hy, st0⟩ := ((HL.below hb1).below hb).atI hlt
        obtain ⟨bc, oc, r, rfl, hbc, hr, sc0, sc1⟩ := (H2.below (hb1.trans (hb.mono hb1.size))).atR (i := k) (by omega)
        have C0 := Lib.hid (fun x => refis_calls y r (later wr x))
        cases hin : inB y r.lo r.hi with
        | false =>
          rw [hin] at C0
          have HR := Lib.hid (are_false HLE.out hy hr hin)
          clear hy hr hin
          go_wp2
          refine region_later (by kernel_rfl) (by kernel_rfl) ?_
          repeat (go_big_quiet_step (first | with_reducible exact quiet_ret (C0.out _)))
          refine wpQuiet_nil ?_
          rintro W' ⟨u, rfl⟩
          go_wp2
          go_ret
          exact ret_mk (ret_bool HR.out.symm) (hb1.trans (Below.mono (later_below hb hb.size) hb1.size))
        | true =>
          rw [hin] at C0
          have HI := Lib.hid hin
          have HY := Lib.hid hy
          have HRR := Lib.hid hr
          clear hy hr hin
          go_wp2
          refine region_later (by kernel_rfl) (by kernel_rfl) ?_
          repeat (go_big_quiet_step (first | with_reducible exact quiet_ret (C0.out _)))
          refine wpQuiet_nil ?_
          rintro W' ⟨u, rfl⟩
          go_wp2
          go_roundw
          case rel => exact ⟨k + 1, by omega, by go_num, fun j hj y' r' hy' hr' => by
            rcases Nat.lt_succ_iff_lt_or_eq.1 hj with hj | rfl
            · exact HALL.out j hj y' r' hy' hr'
            · rw [HY.out] at hy'
              rw [HRR.out] at hr'
              cases hy'
              cases hr'
              exact HI.out, later_below hb hb.size⟩
          case measure => simp [intOf]; omega
      · obtain rfl : k = l.length := by omega
        have HR := Lib.hid (are_true HLE.out fun k y r hy hr => HALL.out k (List.getElem?_eq_some_iff.1 hy).1 y r hy hr)
        go_wp2
        go_ret
        exact ret_mk (ret_bool HR.out.symm) (hb1.trans (hb.mono hb1.size))
  · have hl1 : ((l.length : Int) != (h.clocks.length : Int)) = true := by simp; omega
    have HR := Lib.hid (show areErrB h l = false by unfold areErrB; rw [decide_eq_false hl]; rfl)
    clear hl
    go_enter Try.func72, Try.ntmps72
    go_wp2
    go_ret
    rw [← hW1]
    exact ret_mk (ret_bool HR.out.symm) hb1

theorem refistruth_calls (v : Value) (h : Hs) (A : Option Addr) (c : Nat) (l : List Int) (w : World) (H : HsAt w v h) (HL : SlA w 1 gI A c l) (hf : h.fault = 0) :
    Calls Try.prog 71 #[v, .slice A l.length c] w (Ret (.bool (areErrB h l && h.risingB l [])) w) := by
  have H0 := H
  obtain ⟨A2, c2, A3, c3, A4, c4, rfl, H2, H3, H4⟩ := H
  obtain ⟨W1, hW1⟩ : ∃ W1, W1 = w.alloc (.cells #[.int .i64 h.hour, .int .i64 h.grace, .slice A2 h.clocks.length c2, .slice A3 h.tickets.length c3, .slice A4 h.clips.length c4] 26) := ⟨_, rfl⟩
  have hb1 : Below w.heap.size w W1 := by rw [hW1]; exact gA (Below.refl _ _)
  have hB : BlkAt W1 w.heap.size 26 [.int .i64 h.hour, .int .i64 h.grace, .slice A2 h.clocks.length c2, .slice A3 h.tickets.length c3, .slice A4 h.clips.length c4] := by rw [hW1]; exact BlkAt.new _ _ _
  have H1 := H0.below hb1
  have q0 := hB.cell 0
  have q1 := hB.cell 1
  have q2 := hB.cell 2
  have q3 := hB.cell 3
  have q4 := hB.cell 4
  simp only [List.getElem?_cons_zero, List.getElem?_cons_succ] at q0 q1 q2 q3 q4
  have hBl := hB.lt
  have HL1 := HL.below hb1
  have hlc : h.clocks.length ≤ 1000 := by have := (small_iff.1 (fault_zero hf).1).1; omega
  have hp : h.clips.length ≤ 10 := (small_iff.1 (fault_zero hf).1).2.2
  have C0 := Lib.hid (fun x => refare_calls _ h A c l (later W1 x) (H1.below (below_later W1 x)) (HL1.below (below_later W1 x)) hlc)
  cases ha : areErrB h l with
  | false =>
    rw [ha] at C0
    have HF := Lib.hid hf
    clear ha hf
    go_enter Try.func71, Try.ntmps71
    go_wp2
    rw [← hW1]
    clear hW1
    refine region_later (by kernel_rfl) (by kernel_rfl) ?_
    repeat (go_big_quiet_step (first | with_reducible exact quiet_ret (C0.out _)))
    refine wpQuiet_nil ?_
    rintro W' ⟨u, rfl⟩
    go_wp2
    go_ret
    exact ret_mk rfl (later_below hb1 hb1.size)
  | true =>
    have hm := are_mem hf ha
    have hok := prods_ok (fun _ hr => fault_clock hf hr) hm
    have hln := prods_length _ _ hm
    have hfull : 0 ≤ h.fullB ∧ h.fullB ≤ 4096 := by
      unfold Hs.fullB
      generalize h.clips.length = n at hp
      revert n
      decide
    have C1 := Lib.hid (fun x => (show Calls Try.prog 63 _ (later W1 x) (Ret (.int .i64 h.fullB) (later W1 x)) from reffull_calls _ h (later W1 x) (H1.below (below_later W1 x)) hf))
    have C2 := Lib.hid (fun x => refrising_calls _ h A c l h.fullB (later W1 x) (H1.below (below_later W1 x)) (HL1.below (below_later W1 x)) hln hok hf hfull)
    rw [rising_full hf l] at C2
    rw [ha] at C0
    obtain ⟨ri, hri⟩ : ∃ b, b = h.risingB l [] := ⟨_, rfl⟩
    rw [← hri] at C2 ⊢
    have HF := Lib.hid hf
    clear ha hf hm hok hln hri
    go_enter Try.func71, Try.ntmps71
    go_wp2
    rw [← hW1]
    clear hW1
    refine region_later (by kernel_rfl) (by kernel_rfl) ?_
    repeat (go_big_quiet_step (first | with_reducible exact quiet_ret (C0.out _) | with_reducible exact quiet_ret (C1.out _) | with_reducible exact quiet_ret (C2.out _)))
    refine wpQuiet_nil ?_
    rintro W' ⟨u, rfl⟩
    go_wp2
    go_ret
    exact ret_mk rfl (later_below hb1 hb1.size)
end Go.Proofs.Ytcngnfnljkkjgaa
