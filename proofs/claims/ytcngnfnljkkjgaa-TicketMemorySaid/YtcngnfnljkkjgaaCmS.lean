/-
The reference: whether a tub is open, from which minute on it is free, and the bounds of that.
-/
import Derived.Test.YtcngnfnljkkjgaaCmR
import Derived.Test.YtcngnfnljkkjgaaCmJ
namespace Go.Proofs.Ytcngnfnljkkjgaa
open Go.RowKit
attribute [local go_sem] cell_later frozen_later lt_later le_later

theorem any_succ {p : Nat → Bool} {k : Nat} (h : (List.range k).any p = false) (hk : p k = false) : (List.range (k + 1)).any p = false := by
  rw [List.range_succ, List.any_append, h]
  simp [hk]

set_option maxHeartbeats 2000000 in
theorem refopen_calls (v : Value) (h : Hs) (tub : Int) (w : World) (H : HsAt w v h) (hlc : h.clips.length ≤ 1000) (hlt' : h.tickets.length ≤ 1000) :
    Calls Try.prog 40 #[v, .int .i64 tub] w (Ret (.bool (h.openB tub)) w) := by
  have H0 := H
  obtain ⟨A2, c2, A3, c3, A4, c4, rfl, H2, H3, H4⟩ := H
  obtain ⟨W1, hW1⟩ : ∃ W1, W1 = w.alloc (.cells #[.int .i64 h.hour, .int .i64 h.grace, .slice A2 h.clocks.length c2, .slice A3 h.tickets.length c3, .slice A4 h.clips.length c4] 26) := ⟨_, rfl⟩
  have hb1 : Below w.heap.size w W1 := by rw [hW1]; exact gA (Below.refl _ _)
  have hB : BlkAt W1 w.heap.size 26 [.int .i64 h.hour, .int .i64 h.grace, .slice A2 h.clocks.length c2, .slice A3 h.tickets.length c3, .slice A4 h.clips.length c4] := by rw [hW1]; exact BlkAt.new _ _ _
  have H1 := H0.below hb1
  have q0 := hB.cell 0
  have q1 := hB.cell 1
  have q2 := hB.cell 2
  have q3 := hB.cell 3
  have q4 := hB.cell 4
  simp only [List.getElem?_cons_zero, List.getElem?_cons_succ] at q0 q1 q2 q3 q4
  have hBl := hB.lt
  have H3' := H3.below hb1
  go_enter Try.func40, Try.ntmps40
  go_wp2
  rw [← hW1]
  clear hW1
  go_loopw [5] (fun i wr => ∃ k : Nat, k ≤ h.tickets.length ∧ i = .int .i64 k ∧ (List.range k).any (h.openAt tub) = false ∧ Below W1.heap.size W1 wr) (fun i _ => h.tickets.length - (intOf i).toNat)
  case atStart => exact ⟨0, Nat.zero_le _, rfl, rfl, Below.refl _ _⟩
  case round =>
    obtain ⟨k, hk, rfl, hall, hb⟩ := hrel
    have HA := Lib.hid hall
    clear hall
    have p0 := (hb.cell (p := ⟨w.heap.size, 0, none⟩) hBl).trans q0
    have p1 := (hb.cell (p := ⟨w.heap.size, 1, none⟩) hBl).trans q1
    have p2 := (hb.cell (p := ⟨w.heap.size, 2, none⟩) hBl).trans q2
    have p3 := (hb.cell (p := ⟨w.heap.size, 3, none⟩) hBl).trans q3
    have p4 := (hb.cell (p := ⟨w.heap.size, 4, none⟩) hBl).trans q4
    have hBr : w.heap.size < wr.heap.size := Nat.lt_of_lt_of_le hBl hb.size
    by_cases hlt : k < h.tickets.length
    · have hlt1 : (k : Int) < (h.tickets.length : Int) := by omega
      have hk0 : (0 : Int) ≤ (k : Int) := Int.natCast_nonneg _
      obtain ⟨b, off, x, rfl, hbl, hx, s0, s1⟩ := (H3'.below hb).atT hlt
      have hat : h.openAt tub k = (decide (x.tub = tub) && decide ((h.ofI (k : Int)).length = 1)) := by
        rw [Hs.openAt, hx, ofI_length, ← ofs_length]
      by_cases ht : x.tub = tub
      · have ht1 : (x.tub == tub) = true := by simp [ht]
        by_cases hn : (h.ofI (k : Int)).length = 1
        · have hn1 : (((h.ofI (k : Int)).length : Int) == 1) = true := by simp only [beq_iff_eq]; omega
          have hR := Lib.hid (show h.openB tub = true from any_range_true hlt (by rw [hat, ht, hn]; simp))
          clear hx hat ht hn
          go_wp2_with (fail)
          refine (refof_calls _ h _ _ (H1.below hb) hlc).mono ?_
          (rintro e w' ⟨A, c, rfl, ⟨z, rfl⟩, -⟩)
          go_wp2
          go_ret
          exact ret_mk (ret_bool hR.out.symm) (hb1.trans (Below.mono (later_below hb hb.size) hb1.size))
        · have hn1 : (((h.ofI (k : Int)).length : Int) == 1) = false := by rw [beq_eq_false_iff_ne]; omega
          have HN := Lib.hid (any_succ HA.out (show h.openAt tub k = false by rw [hat]; simp [hn]))
          clear hx hat ht hn
          go_wp2_with (fail)
          refine (refof_calls _ h _ _ (H1.below hb) hlc).mono ?_
          (rintro e w' ⟨A, c, rfl, ⟨z, rfl⟩, -⟩)
          go_wp2
          go_roundw
          case rel => exact ⟨k + 1, by omega, by go_num, HN.out, later_below hb hb.size⟩
          case measure => simp [intOf]; omega
      · have ht1 : (x.tub == tub) = false := by simp [ht]
        have HN := Lib.hid (any_succ HA.out (show h.openAt tub k = false by rw [hat]; simp [ht]))
        clear hx hat ht
        go_wp2
        go_roundw
        case rel => exact ⟨k + 1, by omega, by go_num, HN.out, hb⟩
        case measure => simp [intOf]; omega
    · obtain rfl : k = h.tickets.length := by omega
      have hR := Lib.hid (show h.openB tub = false from HA.out)
      go_wp2
      go_ret
      exact ret_mk (ret_bool hR.out.symm) (hb1.trans (hb.mono hb1.size))

theorem from_step (h : Hs) (e : List Int) (tub : Int) (k : Nat) : (List.range (k + 1)).foldl (h.fromAt e tub) 0 = h.fromAt e tub ((List.range k).foldl (h.fromAt e tub) 0) k := by
  rw [List.range_succ, List.foldl_append]
  rfl

set_option maxHeartbeats 4000000 in
theorem reffrom_calls (v : Value) (h : Hs) (E : Option Addr) (ce : Nat) (e : List Int) (tub : Int) (w : World) (H : HsAt w v h) (HE : SlA w 1 gI E ce e) (hl : e.length = h.clocks.length) (he : ErrOk e) (hf : h.fault = 0) :
    Calls Try.prog 98 #[v, .slice E e.length ce, .int .i64 tub] w (Ret (.int .i64 (h.fromB e tub)) w) := by
  have H0 := H
  obtain ⟨A2, c2, A3, c3, A4, c4, rfl, H2, H3, H4⟩ := H
  obtain ⟨W1, hW1⟩ : ∃ W1, W1 = w.alloc (.cells #[.int .i64 h.hour, .int .i64 h.grace, .slice A2 h.clocks.length c2, .slice A3 h.tickets.length c3, .slice A4 h.clips.length c4] 26) := ⟨_, rfl⟩
  have hb1 : Below w.heap.size w W1 := by rw [hW1]; exact gA (Below.refl _ _)
  have hB : BlkAt W1 w.heap.size 26 [.int .i64 h.hour, .int .i64 h.grace, .slice A2 h.clocks.length c2, .slice A3 h.tickets.length c3, .slice A4 h.clips.length c4] := by rw [hW1]; exact BlkAt.new _ _ _
  have H1 := H0.below hb1
  have q0 := hB.cell 0
  have q1 := hB.cell 1
  have q2 := hB.cell 2
  have q3 := hB.cell 3
  have q4 := hB.cell 4
  simp only [List.getElem?_cons_zero, List.getElem?_cons_succ] at q0 q1 q2 q3 q4
  have hBl := hB.lt
  have H3' := H3.below hb1
  have HEE := HE.below hb1
  have hlc : h.clips.length ≤ 1000 := by have := (small_iff.1 (fault_zero hf).1).2.2; omega
  have ht6 : h.tickets.length ≤ 6 := (small_iff.1 (fault_zero hf).1).2.1
  have hcl : ∀ (i : Nat) (x : Cp), h.clips[i]? = some x → (0 ≤ x.ck ∧ x.ck < e.length) ∧ (0 ≤ x.mn ∧ x.mn ≤ 1439) := fun i x hx => by
    have := fault_clips hf (List.mem_of_getElem? hx)
    rw [hl]
    omega
  have HCL := Lib.hid hcl
  have HF := Lib.hid hf
  clear hcl hl hf
  go_enter Try.func98, Try.ntmps98
  go_wp2
  rw [← hW1]
  clear hW1
  go_loopw [7, 8] (fun n i wr => ∃ k : Nat, k ≤ h.tickets.length ∧ i = .int .i64 k ∧ n = .int .i64 ((List.range k).foldl (h.fromAt e tub) 0) ∧ Below W1.heap.size W1 wr) (fun _ i _ => h.tickets.length - (intOf i).toNat)
  case atStart => exact ⟨0, Nat.zero_le _, rfl, rfl, Below.refl _ _⟩
  case round =>
    obtain ⟨k, hk, rfl, rfl, hb⟩ := hrel
    have hst := from_step h e tub k
    obtain ⟨N, hN⟩ : ∃ N, N = (List.range k).foldl (h.fromAt e tub) 0 := ⟨_, rfl⟩
    rw [← hN] at hst ⊢
    have p0 := (hb.cell (p := ⟨w.heap.size, 0, none⟩) hBl).trans q0
    have p1 := (hb.cell (p := ⟨w.heap.size, 1, none⟩) hBl).trans q1
    have p2 := (hb.cell (p := ⟨w.heap.size, 2, none⟩) hBl).trans q2
    have p3 := (hb.cell (p := ⟨w.heap.size, 3, none⟩) hBl).trans q3
    have p4 := (hb.cell (p := ⟨w.heap.size, 4, none⟩) hBl).trans q4
    have hBr : w.heap.size < wr.heap.size := Nat.lt_of_lt_of_le hBl hb.size
    by_cases hlt : k < h.tickets.length
    · have hlt1 : (k : Int) < (h.tickets.length : Int) := by omega
      have hk0 : (0 : Int) ≤ (k : Int) := Int.natCast_nonneg _
      obtain ⟨b, off, x, rfl, hbl, hx, s0, s1⟩ := (H3'.below hb).atT hlt
      by_cases ht : x.tub = tub
      · have ht1 : (x.tub == tub) = true := by simp [ht]
        by_cases hn : (h.ofN (k : Int)).length = 2
        · obtain ⟨n0, n1, x0, x1, e1, hx0, hx1, e2⟩ := of_both hn
          have hI : h.ofI (k : Int) = [(n0 : Int), (n1 : Int)] := by rw [Hs.ofI, e1]; rfl
          have hS : (List.range (k + 1)).foldl (h.fromAt e tub) 0 = max N (tru e x1) := by
            rw [hst, Hs.fromAt, hx, e2]
            simp [ht]
          have HS := Lib.hid hS
          have HI := Lib.hid hI
          have HX1 := Lib.hid hx1
          clear hx hst hN ht hn e1 e2 hx0 hx1 hI hS
          go_wp2_with (fail)
          refine (refof_calls _ h _ _ (H1.below hb) hlc).mono ?_
          rw [HI.out]
          (rintro e' w' ⟨A, c, rfl, ⟨z, rfl⟩, hsl⟩)
          simp only [List.length_cons, List.length_nil]
          obtain ⟨p, ofp, y1, rfl, hpl, hy1, t1⟩ := hsl.atI (i := 1) (by simp)
          simp only [List.getElem?_cons_zero, List.getElem?_cons_succ, Option.some.injEq] at hy1
          subst hy1
          have s0' := ((below_later wr z).cell (p := ⟨b, off + k * 2, none⟩) hbl).trans s0
          have hb2 : Below W1.heap.size W1 (later wr z) := later_below hb hb.size
          obtain ⟨W2, hW2⟩ : ∃ W2, W2 = later wr z := ⟨_, rfl⟩
          have hbw : Below wr.heap.size wr W2 := by rw [hW2]; exact below_later wr z
          rw [← hW2] at hpl t1 s0' hb2 ⊢
          clear hW2 hsl s0
          have r0 := (hbw.cell (p := ⟨w.heap.size, 0, none⟩) hBr).trans p0
          have r1 := (hbw.cell (p := ⟨w.heap.size, 1, none⟩) hBr).trans p1
          have r2 := (hbw.cell (p := ⟨w.heap.size, 2, none⟩) hBr).trans p2
          have r3 := (hbw.cell (p := ⟨w.heap.size, 3, none⟩) hBr).trans p3
          have r4 := (hbw.cell (p := ⟨w.heap.size, 4, none⟩) hBr).trans p4
          have hBr2 := Nat.lt_of_lt_of_le hBr hbw.size
          have hbl2 := Nat.lt_of_lt_of_le hbl hbw.size
          have C0 := Lib.hid (fun X => reftrue_calls _ h E ce e n1 x1 (later W2 X) (H1.below (hb2.trans ((below_later W2 X).mono hb2.size))) (HEE.below (hb2.trans ((below_later W2 X).mono hb2.size))) HX1.out (HCL.out n1 x1 HX1.out).1 (HCL.out n1 x1 HX1.out).2 he)
          obtain ⟨T, hT⟩ : ∃ T, T = tru e x1 := ⟨_, rfl⟩
          rw [← hT] at C0 HS
          clear hT p0 p1 p2 p3 p4 hbl
          by_cases hmax : N < T
          · have hm2 : ¬ T ≤ N := by omega
            have HS2 := Lib.hid (HS.out.trans (show max N T = T by omega))
            go_wp2
            refine region_later (by kernel_rfl) (by kernel_rfl) ?_
            repeat (go_big_quiet_step (first | with_reducible exact quiet_ret (C0.out _)))
            refine wpQuiet_nil ?_
            rintro W' ⟨u, rfl⟩
            go_wp2
            go_roundw
            case rel => exact ⟨k + 1, by omega, by go_num, by rw [HS2.out], later_below hb2 hb2.size⟩
            case measure => simp [intOf]; omega
          · have hm2 : T ≤ N := by omega
            have HS2 := Lib.hid (HS.out.trans (show max N T = N by omega))
            go_wp2
            refine region_later (by kernel_rfl) (by kernel_rfl) ?_
            repeat (go_big_quiet_step (first | with_reducible exact quiet_ret (C0.out _)))
            refine wpQuiet_nil ?_
            rintro W' ⟨u, rfl⟩
            go_wp2
            go_roundw
            case rel => exact ⟨k + 1, by omega, by go_num, by rw [HS2.out], later_below hb2 hb2.size⟩
            case measure => simp [intOf]; omega
        · have hn1 : (((h.ofI (k : Int)).length : Int) == 2) = false := by rw [beq_eq_false_iff_ne, ofI_length]; omega
          have hS : (List.range (k + 1)).foldl (h.fromAt e tub) 0 = N := by
            rw [hst, Hs.fromAt, hx]
            simp only
            rw [if_neg]
            rintro ⟨-, h2⟩
            rw [ofs_length] at h2
            exact hn h2
          have HS := Lib.hid hS
          clear hx hst hN ht hn hS
          go_wp2_with (fail)
          refine (refof_calls _ h _ _ (H1.below hb) hlc).mono ?_
          (rintro e' w' ⟨A, c, rfl, ⟨z, rfl⟩, -⟩)
          go_wp2
          go_roundw
          case rel => exact ⟨k + 1, by omega, by go_num, by rw [HS.out], later_below hb hb.size⟩
          case measure => simp [intOf]; omega
      · have ht1 : (x.tub == tub) = false := by simp [ht]
        have hS : (List.range (k + 1)).foldl (h.fromAt e tub) 0 = N := by
          rw [hst, Hs.fromAt, hx]
          simp only
          rw [if_neg]
          rintro ⟨h1, -⟩
          exact ht h1
        have HS := Lib.hid hS
        clear hx hst hN ht hS
        go_wp2_with (fail)
        refine (refof_calls _ h _ _ (H1.below hb) hlc).mono ?_
        (rintro e' w' ⟨A, c, rfl, ⟨z, rfl⟩, -⟩)
        go_wp2
        go_roundw
        case rel => exact ⟨k + 1, by omega, by go_num, by rw [HS.out], later_below hb hb.size⟩
        case measure => simp [intOf]; omega
    · obtain rfl : k = h.tickets.length := by omega
      have hR := Lib.hid (show N = h.fromB e tub from hN)
      clear hN hst
      go_wp2
      go_ret
      exact ret_mk (ret_int hR.out) (hb1.trans (hb.mono hb1.size))

set_option maxHeartbeats 2000000 in
theorem reffree_calls (v : Value) (h : Hs) (A : Option Addr) (c : Nat) (l : List (List Int)) (tub : Int) (w : World) (H : HsAt w v h) (HL : LsAt w A c l) (hok : ErrsOk h l) (hf : h.fault = 0) :
    Calls Try.prog 41 #[v, .slice A l.length c, .int .i64 tub] w (Ret (.agg #[.int .i64 (loR l fun e => h.fromB e tub), .int .i64 (hiR l fun e => h.fromB e tub)]) w) := by
  have hlb := HL.2.1
  have H0 := H
  obtain ⟨A2, c2, A3, c3, A4, c4, rfl, H2, H3, H4⟩ := H
  go_enter Try.func41, Try.ntmps41
  go_wp2_with (fail)
  refine (refempty_calls _).mono ?_
  (rintro e w' hr; first | ((with_reducible replace hr := Ret.up hr); obtain ⟨rfl, z, rfl⟩ := hr) | (obtain ⟨rfl, z, rfl⟩ := hr))
  go_wp2
  obtain ⟨b5, hb5⟩ : ∃ b, b = (later ((w.alloc (.cells #[.int .i64 h.hour, .int .i64 h.grace, .slice A2 h.clocks.length c2, .slice A3 h.tickets.length c3, .slice A4 h.clips.length c4] 26)).alloc (.cells #[.int .i64 0, .int .i64 0] 44)) z).heap.size := ⟨_, rfl⟩
  obtain ⟨W1, hW1⟩ : ∃ W1, W1 = (later ((w.alloc (.cells #[.int .i64 h.hour, .int .i64 h.grace, .slice A2 h.clocks.length c2, .slice A3 h.tickets.length c3, .slice A4 h.clips.length c4] 26)).alloc (.cells #[.int .i64 0, .int .i64 0] 44)) z).alloc (.cells #[.int .i64 1099511627776, .int .i64 (-1099511627776)] 44) := ⟨_, rfl⟩
  have hb1 : Below w.heap.size w W1 := by rw [hW1]; exact (by repeat (first | exact Below.refl _ _ | (with_reducible assumption) | apply gL | apply gA | apply gD | apply gN | (refine gS ?_ (by first | (simp; done) | (simp; omega) | omega))))
  have hB4 : BlkAt W1 (w.heap.size + 1) 44 [.int .i64 0, .int .i64 0] := by rw [hW1]; exact (by have := BlkAt.new (w.alloc (.cells #[.int .i64 h.hour, .int .i64 h.grace, .slice A2 h.clocks.length c2, .slice A3 h.tickets.length c3, .slice A4 h.clips.length c4] 26)) 44 [.int .i64 0, .int .i64 0]; rw [World.size_alloc] at this; exact this.later.alloc _)
  have hB5 : BlkAt W1 b5 44 [.int .i64 1099511627776, .int .i64 (-1099511627776)] := by rw [hW1, hb5]; exact BlkAt.new _ _ _
  have hb5l : (w.heap.size + 1) < b5 := by
    have := size_later ((w.alloc (.cells #[.int .i64 h.hour, .int .i64 h.grace, .slice A2 h.clocks.length c2, .slice A3 h.tickets.length c3, .slice A4 h.clips.length c4] 26)).alloc (.cells #[.int .i64 0, .int .i64 0] 44)) z
    rw [hb5]
    simp at this ⊢
    omega
  rw [← hW1]
  simp only [← hb5]
  have hB0 : BlkAt W1 w.heap.size 26 [.int .i64 h.hour, .int .i64 h.grace, .slice A2 h.clocks.length c2, .slice A3 h.tickets.length c3, .slice A4 h.clips.length c4] := by rw [hW1]; exact ((BlkAt.new _ _ _).alloc _).later.alloc _
  clear hW1 hb5
  go_loopw [8] (fun i wr => ∃ k : Nat, k ≤ l.length ∧ i = .int .i64 k ∧ KeepX b5 W1 wr ∧ BlkAt wr b5 44 [.int .i64 (((l.take k).map fun e => h.fromB e tub).foldl min 1099511627776), .int .i64 (((l.take k).map fun e => h.fromB e tub).foldl max (-1099511627776))]) (fun i _ => l.length - (intOf i).toNat)
  case atStart => exact ⟨0, Nat.zero_le _, rfl, KeepX.refl _ _, hB5⟩
  case round =>
    obtain ⟨k, hk, rfl, hkx, hX⟩ := hrel
    obtain ⟨LO, hLO⟩ : ∃ x, x = ((l.take k).map fun e => h.fromB e tub).foldl min 1099511627776 := ⟨_, rfl⟩
    obtain ⟨HI, hHI⟩ : ∃ x, x = ((l.take k).map fun e => h.fromB e tub).foldl max (-1099511627776) := ⟨_, rfl⟩
    rw [← hLO, ← hHI] at hX
    have hlow0 : Below w.heap.size w wr := hkx.low hb1 (by omega) hb1.size
    by_cases hlt : k < l.length
    · have hlt1 : (k : Int) < (l.length : Int) := by omega
      have hki : (0 : Int) ≤ (k : Int) := Int.natCast_nonneg _
      obtain ⟨b, off, e, B, d, rfl, hbl, hx, s0, hsl, -⟩ := HL.at hlt
      have hem := hok e (List.mem_of_getElem? hx)
      have hL1 := fold_take (g := min) (f := fun e => h.fromB e tub) (a := 1099511627776) hx
      have hH1 := fold_take (g := max) (f := fun e => h.fromB e tub) (a := -1099511627776) hx
      rw [← hLO] at hL1
      rw [← hHI] at hH1
      have C0 := Lib.hid (fun X (hX : Below w.heap.size w X) => reffrom_calls _ h B d e tub X (H0.below hX) (hsl.below hX) hem.2 hem.1 hf)
      obtain ⟨y, hy⟩ : ∃ y, y = h.fromB e tub := ⟨_, rfl⟩
      rw [← hy] at hL1 hH1 C0
      have HL1 := Lib.hid hL1
      have HH1 := Lib.hid hH1
      have s0 := (hlow0.cell (p := ⟨b, off + k, none⟩) hbl).trans s0
      have hbl' := Nat.lt_of_lt_of_le hbl hlow0.size
      have x0 := hX.cell 0
      have x1 := hX.cell 1
      have fr0 := hX.frozen 0
      have fr1 := hX.frozen 1
      have hH0 := hkx.blk hB0 (by omega)
      have q0 := hH0.cell 0
      have q1 := hH0.cell 1
      have q2 := hH0.cell 2
      have q3 := hH0.cell 3
      have q4 := hH0.cell 4
      simp only [List.getElem?_cons_zero, List.getElem?_cons_succ] at x0 x1 q0 q1 q2 q3 q4
      have hlx := hX.lt
      have hlh := hH0.lt
      clear hx hy hL1 hH1 hLO hHI hem hbl hsl
      go_wp2
      obtain ⟨C, hC⟩ : ∃ C, C = Same [⟨b5, 0, none⟩, ⟨b5, 1, none⟩, ⟨b, off + k, none⟩, ⟨w.heap.size, 0, none⟩, ⟨w.heap.size, 1, none⟩, ⟨w.heap.size, 2, none⟩, ⟨w.heap.size, 3, none⟩, ⟨w.heap.size, 4, none⟩] wr := ⟨_, rfl⟩
      obtain ⟨G, hG⟩ : ∃ G, G = held C wr.drew := ⟨_, rfl⟩
      have hfs : ∀ a ∈ ([⟨b5, 0, none⟩, ⟨b5, 1, none⟩, ⟨b, off + k, none⟩, ⟨w.heap.size, 0, none⟩, ⟨w.heap.size, 1, none⟩, ⟨w.heap.size, 2, none⟩, ⟨w.heap.size, 3, none⟩, ⟨w.heap.size, 4, none⟩] : List Addr), ∀ u, wr.cell? a = some u → ∀ x, (G x).cell? a = some u := fun a ha u hu x => by
        rw [hG, hC]
        exact same_held hu ha x
      have g0 := hfs _ (by simp) _ x0
      have g1 := hfs _ (by simp) _ x1
      have g2 := hfs _ (by simp) _ s0
      have g3 := hfs _ (by simp) _ q0
      have g4 := hfs _ (by simp) _ q1
      have g5 := hfs _ (by simp) _ q2
      have g6 := hfs _ (by simp) _ q3
      have g7 := hfs _ (by simp) _ q4
      clear hfs
      refine region_sk C [[], [], [], [], [2, 3], [4], [], [1, 5, 6], [0, 7, 7], [8, 8, 0, 1, 2, 3, 4, 5, 6, 7, 8]] (.qs [0, 1, 2, 3, 4, 5, 6] (.one 7 (.one 8 .done))) 9 (by kernel_rfl) (by kernel_rfl) (by kernel_rfl) (by rw [hC]; exact same_drew) ?_
      refine wpSk_qs (w0 := wr.drew) (by rw [hC]; exact same_drew) ?_
      rw [← hG]
      have HC' := Lib.hid hC
      clear hG hC
      simp only [List.filterMap_cons, List.filterMap_nil, List.getElem?_toArray, List.getElem?_cons_zero, List.getElem?_cons_succ]
      change wpQuiet _ _ _ _ [_, _, _, _, _, _, _] _
      repeat (go_big_quiet_step (fail))
      refine wpQuiet_nil ?_
      clear g0 g1 g2 g3 g4 g5 g6 g7
      have hCb : ∀ V, Below wr.heap.size wr V → C V := fun V hV => by
        rw [HC'.out]
        exact same_below hV (by simp only [List.mem_cons, List.not_mem_nil, or_false]; rintro a (rfl | rfl | rfl | rfl | rfl | rfl | rfl | rfl) <;> assumption)
      have HCB := Lib.hid hCb
      clear hCb
      refine wpSk_one rfl (fun K hK => ?_)
      go_simp
      refine (C0.out _ (hlow0.trans ((gD (Below.refl _ _)).mono hlow0.size))).mono ?_
      rintro e' w' ⟨rfl, z2, rfl⟩
      obtain ⟨V, hV, hbV⟩ : ∃ V, V = later wr.drew z2 ∧ Below wr.heap.size wr V := ⟨_, rfl, Below.trans (gD (Below.refl _ _)) (below_later wr.drew z2)⟩
      rw [← hV]
      clear hV
      refine hK.out _ _ (HCB.out _ hbV) ?_
      clear hK K
      refine wpSk_one rfl (fun K hK => ?_)
      go_simp
      refine (refwider_calls _ _ _ _).mono ?_
      rintro e' w' ⟨rfl, z3, rfl⟩
      obtain ⟨V2, hV2, hbV2⟩ : ∃ V2, V2 = later V z3 ∧ Below wr.heap.size wr V2 := ⟨_, rfl, later_below hbV hbV.size⟩
      rw [← hV2]
      clear hV2
      refine hK.out _ _ (HCB.out _ hbV2) ?_
      clear hK K
      have hXV := hX.of_below hbV2 hlx
      have x0 := hXV.cell 0
      have x1 := hXV.cell 1
      have fr0 := hXV.frozen 0
      have fr1 := hXV.frozen 1
      simp only [List.getElem?_cons_zero, List.getElem?_cons_succ] at x0 x1
      have hlx := hXV.lt
      refine wpSk_done rfl (fun K hK => ?_)
      go_simp
      refine hK.out _ _ (noPanic_mk ?_)
      clear hK K
      go_wp2
      go_roundw
      case rel => exact ⟨k + 1, by omega, by go_num, ((hkx.trans (KeepX.of_below hbV2)).trans (KeepX.set_ _ _ _)).trans (KeepX.set_ _ _ _), by rw [HL1.out, HH1.out]; exact (hXV.set_ 0 _).set_ 1 _⟩
      case measure => simp [intOf]; omega
    · obtain rfl : k = l.length := by omega
      rw [List.take_length] at hLO hHI
      have HLO := Lib.hid (show LO = loR l (fun e => h.fromB e tub) from hLO)
      have HHI := Lib.hid (show HI = hiR l (fun e => h.fromB e tub) from hHI)
      clear hLO hHI
      have hR := hkx.blk hB4 (by omega)
      have x0 := hX.cell 0
      have x1 := hX.cell 1
      have r0 := hR.cell 0
      have r1 := hR.cell 1
      have u0 := hR.frozen 0
      have u1 := hR.frozen 1
      simp only [List.getElem?_cons_zero, List.getElem?_cons_succ] at x0 x1 r0 r1
      have hlr := hR.lt
      have hlx := hX.lt
      go_wp2
      obtain ⟨W5, hW5⟩ : ∃ W5, W5 = (wr.setCell ⟨w.heap.size + 1, 0, none⟩ (.int .i64 LO)).setCell ⟨w.heap.size + 1, 1, none⟩ (.int .i64 HI) := ⟨_, rfl⟩
      rw [← hW5]
      have hB6 := (hR.set_ 0 (.int .i64 LO)).set_ 1 (.int .i64 HI)
      rw [← hW5] at hB6
      have hk5 : KeepX (w.heap.size + 1) wr W5 := by rw [hW5]; exact (KeepX.set_ _ _ _).trans (KeepX.set_ _ _ _)
      clear hW5
      have c0 := hB6.cell 0
      have c1 := hB6.cell 1
      simp at c0 c1
      have hlow : Below w.heap.size w wr := hkx.low hb1 (by omega) hb1.size
      refine bodyPost_ret (v := .agg #[.int .i64 LO, .int .i64 HI]) ?hr rfl (ret_mk (by rw [HLO.out, HHI.out]) (hk5.low hlow (by omega) hlow.size))
      case hr => simp [results, Try.results41, go_sem, c0, c1]
end Go.Proofs.Ytcngnfnljkkjgaa
