/-
TicketOnce: the walk.
-/
import Derived.Test.YtcngnfnljkkjgaaLwOnceP
namespace Go.Proofs.Ytcngnfnljkkjgaa
open Go.RowKit
attribute [local go_sem] cell_later frozen_later lt_later le_later

theorem ready_parts {h : Hs} (hr : h.readyB = true) : h.clocks.length ≤ 1000 ∧ h.tickets.length ≤ 1000 ∧ h.clips.length ≤ 1000 ∧ h.fault = 0 := by
  simp only [Hs.readyB, Bool.and_eq_true, decide_eq_true_eq] at hr
  obtain ⟨h1, h2, h3⟩ := thin_iff.1 hr.1
  exact ⟨by omega, by omega, by omega, hr.2⟩
theorem ask_bad {h : Hs} (hf : h.fault = 0) (ha : h.askE 0 ≠ 0) : h.askE 0 = 11 := by
  unfold Hs.askE at ha ⊢
  simp only [hf, ne_eq, not_true_eq_false, if_false] at ha ⊢
  by_cases ht : h.truths = []
  · rw [if_pos ht]
  · rw [if_neg ht] at ha; exact absurd rfl ha

set_option maxRecDepth 100000 in
set_option maxHeartbeats 4000000 in
theorem once_calls (v : Value) (h : Hs) (w : World) (H : HsAt w v h) :
    Calls Try.prog 10 #[v] w (Ret (.bool true) w) := by
  have H0 := H
  obtain ⟨A2, c2, A3, c3, A4, c4, rfl, H2, H3, H4⟩ := H
  obtain ⟨W1, hW1⟩ : ∃ W1, W1 = w.alloc (.cells #[.int .i64 h.hour, .int .i64 h.grace, .slice A2 h.clocks.length c2, .slice A3 h.tickets.length c3, .slice A4 h.clips.length c4] 26) := ⟨_, rfl⟩
  have hb1 : Below w.heap.size w W1 := by rw [hW1]; exact gA (Below.refl _ _)
  have hB : BlkAt W1 w.heap.size 26 [.int .i64 h.hour, .int .i64 h.grace, .slice A2 h.clocks.length c2, .slice A3 h.tickets.length c3, .slice A4 h.clips.length c4] := by rw [hW1]; exact BlkAt.new _ _ _
  have H1 := H0.below hb1
  have q0 := hB.cell 0
  have q1 := hB.cell 1
  have q2 := hB.cell 2
  have q3 := hB.cell 3
  have q4 := hB.cell 4
  simp only [List.getElem?_cons_zero, List.getElem?_cons_succ] at q0 q1 q2 q3 q4
  have hBl := hB.lt
  cases hr : h.readyB with
  | false =>
    go_enter Try.func10, Try.ntmps10
    go_wp2_with (fail)
    rw [← hW1]
    clear hW1
    refine (ready_calls _ h _ H1).mono ?_
    (rintro e w' hr; first | ((with_reducible replace hr := Ret.up hr); obtain ⟨rfl, z, rfl⟩ := hr) | (obtain ⟨rfl, z, rfl⟩ := hr))
    go_wp2_with (fail)
    refine (awake_calls _).mono ?_
    (rintro e w' hr; first | ((with_reducible replace hr := Ret.up hr); obtain ⟨rfl, z, rfl⟩ := hr) | (obtain ⟨rfl, z, rfl⟩ := hr))
    go_wp2
    go_ret
    exact ret_mk rfl (later_below hb1 hb1.size)
  | true =>
    obtain ⟨hl2, hl3, hl4, hf⟩ := ready_parts hr
    have HF := Lib.hid hf
    have ht6 : h.tickets.length ≤ 6 := (small_iff.1 (fault_zero hf).1).2.1
    clear hf
    by_cases ha : h.askE 0 = 0
    · have HA := Lib.hid ha
      have hlen := long_len ha
      clear ha
      go_enter Try.func10, Try.ntmps10
      go_wp2_with (fail)
      rw [← hW1]
      clear hW1
      refine (ready_calls _ h _ H1).mono ?_
      (rintro e w' hr; first | ((with_reducible replace hr := Ret.up hr); obtain ⟨rfl, z, rfl⟩ := hr) | (obtain ⟨rfl, z, rfl⟩ := hr))
      go_wp2_with (fail)
      refine (house_calls _ h _ (H1.below (below_later _ _)) hl2 hl3 hl4).mono ?_
      rintro e w' hr
      replace hr := RetHs.up hr
      obtain ⟨v, rfl, ⟨z, rfl⟩, HH⟩ := hr
      go_wp2_with (fail)
      have CA := paid_all_calls v h _ HH
      rw [HA.out] at CA
      refine CA.mono ?_
      clear CA HH
      (rintro e w' hr; first | ((with_reducible replace hr := Ret.up hr); obtain ⟨rfl, z, rfl⟩ := hr) | (obtain ⟨rfl, z, rfl⟩ := hr))
      go_wp2_with (fail)
      refine (house_calls _ h _ (H1.below (below_later _ _)) hl2 hl3 hl4).mono ?_
      rintro e w' hr
      replace hr := RetHs.up hr
      obtain ⟨v, rfl, ⟨z, rfl⟩, HH⟩ := hr
      go_wp2_with (fail)
      have CA := long_all_calls v h _ HH
      rw [HA.out] at CA
      refine CA.mono ?_
      clear CA HH
      (rintro e w' hr; replace hr := RetSlN.up hr; obtain ⟨A, c, rfl, ⟨z, rfl⟩, hsl⟩ := hr)
      rw [hlen]
      have HLEN := Lib.hid hlen
      clear hlen
      go_wp2
      go_loopw [7, 8, 9] (fun nv al i wr => ∃ k : Nat, k ≤ h.tickets.length ∧ i = .int .i64 k ∧ nv = .bool (h.nvL k) ∧ al = .bool (h.alL k) ∧ Below (later W1 z).heap.size (later W1 z) wr) (fun _ _ i _ => h.tickets.length - (intOf i).toNat)
      case atStart => exact ⟨0, Nat.zero_le _, rfl, rfl, rfl, Below.refl _ _⟩
      case round =>
        obtain ⟨k, hk, rfl, rfl, rfl, hb⟩ := hrel
        by_cases hlt : k < h.tickets.length
        · have hlt1 : (k : Int) < (h.tickets.length : Int) := by omega
          have hk0 : (0 : Int) ≤ (k : Int) := Int.natCast_nonneg _
          obtain ⟨bb, off, y, rfl, hbl, hy, s0⟩ := (hsl.below hb).atI (i := k) (by rw [HLEN.out]; exact hlt)
          have hy3 : y = 1 ∨ y = 2 ∨ y = 3 := by
            rw [long_get HA.out hlt] at hy
            cases hy
            exact verdict_cases _ _
          have HNV := Lib.hid (nvL_step hy)
          have HAL := Lib.hid (alL_step hy)
          clear hy
          obtain ⟨nv, hnv⟩ : ∃ b, b = h.nvL k := ⟨_, rfl⟩
          obtain ⟨al, hal⟩ : ∃ b, b = h.alL k := ⟨_, rfl⟩
          rw [← hnv] at HNV ⊢
          rw [← hal] at HAL ⊢
          clear hnv hal
          cases nv <;> cases al <;> rcases hy3 with rfl | rfl | rfl
          all_goals
            go_wp2
            refine region_later (by kernel_rfl) (by kernel_rfl) ?_
            repeat (go_big_quiet_step (fail))
            refine wpQuiet_nil ?_
            rintro W' ⟨u, rfl⟩
            go_wp2
            go_roundw
            case rel => exact ⟨k + 1, by omega, by go_num, by rw [HNV.out]; rfl, by rw [HAL.out]; rfl, later_below hb hb.size⟩
            case measure => simp [intOf]; omega
        · obtain rfl : k = h.tickets.length := by omega
          go_wp2
          go_loopw [7, 8, 10] (fun nv al i wr => ∃ a : Nat, a ≤ h.tickets.length ∧ i = .int .i64 a ∧ nv = .bool (h.nvL h.tickets.length && h.nvC a) ∧ al = .bool (h.alL h.tickets.length || h.alC a) ∧ Below (later W1 z).heap.size (later W1 z) wr) (fun _ _ i _ => h.tickets.length - (intOf i).toNat)
          case atStart => exact ⟨0, Nat.zero_le _, rfl, by rw [show h.nvC 0 = true from rfl, Bool.and_true], by rw [show h.alC 0 = false from rfl, Bool.or_false], hb⟩
          case round =>
            obtain ⟨a, hk, rfl, rfl, rfl, hb⟩ := hrel
            have hbw : Below W1.heap.size W1 wr := Below.trans (below_later W1 z) (hb.mono (size_later W1 z))
            have p3 := (hbw.cell (p := ⟨w.heap.size, 3, none⟩) hBl).trans q3
            have hBr : w.heap.size < wr.heap.size := Nat.lt_of_lt_of_le hBl hbw.size
            by_cases hlt : a < h.tickets.length
            · have hlt1 : (a : Int) < (h.tickets.length : Int) := by omega
              have ha0 : (0 : Int) ≤ (a : Int) := Int.natCast_nonneg _
              go_wp2
              go_loopw [7, 8, 11] (fun nv al i wr => ∃ b : Nat, b ≤ a ∧ i = .int .i64 b ∧ nv = .bool ((h.nvL h.tickets.length && h.nvC a) && h.nvR a b) ∧ al = .bool ((h.alL h.tickets.length || h.alC a) || h.alR a b) ∧ Below (later W1 z).heap.size (later W1 z) wr) (fun _ _ i _ => a - (intOf i).toNat)
              case atStart => exact ⟨0, Nat.zero_le _, rfl, by rw [show h.nvR a 0 = true from rfl, Bool.and_true], by rw [show h.alR a 0 = false from rfl, Bool.or_false], hb⟩
              case round =>
                obtain ⟨b, hkb, rfl, rfl, rfl, hb⟩ := hrel
                have hbw : Below W1.heap.size W1 wr := Below.trans (below_later W1 z) (hb.mono (size_later W1 z))
                have p0 := (hbw.cell (p := ⟨w.heap.size, 0, none⟩) hBl).trans q0
                have p1 := (hbw.cell (p := ⟨w.heap.size, 1, none⟩) hBl).trans q1
                have p2 := (hbw.cell (p := ⟨w.heap.size, 2, none⟩) hBl).trans q2
                have p3 := (hbw.cell (p := ⟨w.heap.size, 3, none⟩) hBl).trans q3
                have p4 := (hbw.cell (p := ⟨w.heap.size, 4, none⟩) hBl).trans q4
                have hBr : w.heap.size < wr.heap.size := Nat.lt_of_lt_of_le hBl hbw.size
                by_cases hlb : b < a
                · have hlb1 : (b : Int) < (a : Int) := by omega
                  have hb0 : (0 : Int) ≤ (b : Int) := Int.natCast_nonneg _
                  obtain ⟨y, hy⟩ : ∃ y, y = h.clashV (a : Int) (b : Int) := ⟨_, rfl⟩
                  have hy3 : y = 1 ∨ y = 2 ∨ y = 3 := by
                    rw [hy, clash_val HA.out hlb hlt]
                    exact verdict_cases _ _
                  have hnr := nvR_step h a b
                  have har := alR_step h a b
                  rw [← hy] at hnr har
                  obtain ⟨nv, hnv⟩ : ∃ x, x = ((h.nvL h.tickets.length && h.nvC a) && h.nvR a b) := ⟨_, rfl⟩
                  obtain ⟨al, hal⟩ : ∃ x, x = ((h.alL h.tickets.length || h.alC a) || h.alR a b) := ⟨_, rfl⟩
                  have HNV := Lib.hid (show ((h.nvL h.tickets.length && h.nvC a) && h.nvR a (b + 1)) = (nv && decide (y = 2)) by rw [hnr, hnv, Bool.and_assoc, Bool.and_assoc, Bool.and_assoc])
                  have HAL := Lib.hid (show ((h.alL h.tickets.length || h.alC a) || h.alR a (b + 1)) = (al || decide (y = 1)) by rw [har, hal, Bool.or_assoc, Bool.or_assoc, Bool.or_assoc])
                  rw [← hnv, ← hal]
                  clear hnr har hnv hal
                  have HY := Lib.hid hy
                  clear hy
                  go_wp2_with (fail)
                  refine (house_calls _ h _ (H1.below hbw) hl2 hl3 hl4).mono ?_
                  rintro e w' ⟨v2, rfl, ⟨z2, rfl⟩, HH⟩
                  go_wp2_with (fail)
                  have CA := clash_all_calls v2 h a b _ HH
                  rw [clash_ok HA.out hlb hlt, ← HY.out] at CA
                  refine CA.mono ?_
                  clear CA HH HY
                  (rintro e w' hr; first | ((with_reducible replace hr := Ret.up hr); obtain ⟨rfl, z, rfl⟩ := hr) | (obtain ⟨rfl, z, rfl⟩ := hr))
                  cases nv <;> cases al <;> rcases hy3 with rfl | rfl | rfl
                  all_goals
                    go_wp2
                    go_roundw
                    case rel => exact ⟨b + 1, by omega, by go_num, by rw [HNV.out]; rfl, by rw [HAL.out]; rfl, later_below hb hb.size⟩
                    case measure => simp [intOf]; omega
                · obtain rfl : b = a := by omega
                  go_wp2
                  go_roundw
                  case rel => exact ⟨b + 1, by omega, by go_num, by rw [nvC_step, Bool.and_assoc], by rw [alC_step, Bool.or_assoc], hb⟩
                  case measure => simp [intOf]; omega
            · obtain rfl : a = h.tickets.length := by omega
              have h1 := once_never HA.out
              have h2 := once_always HA.out
              have h3 := verdict_cases h.truths h.paidB
              rw [show verdictB h.truths h.paidB = h.paidV by simp [Hs.paidV, HA.out]] at h3
              obtain ⟨p, hp⟩ : ∃ p, p = h.paidV := ⟨_, rfl⟩
              obtain ⟨nv, hnv⟩ : ∃ x, x = (h.nvL h.tickets.length && h.nvC h.tickets.length) := ⟨_, rfl⟩
              obtain ⟨al, hal⟩ : ∃ x, x = (h.alL h.tickets.length || h.alC h.tickets.length) := ⟨_, rfl⟩
              rw [← hp] at h1 h2 h3 ⊢
              rw [← hnv] at h1 ⊢
              rw [← hal] at h2 ⊢
              clear hp hnv hal
              have h4 : (nv = true ∧ al = false ∧ p = 1) ∨ (nv = false ∧ al = true ∧ p = 2) ∨ (nv = false ∧ al = false ∧ p = 2) ∨ (nv = false ∧ al = false ∧ p = 3) := by
                cases nv <;> cases al <;> rcases h3 with h3 | h3 | h3 <;> simp_all
              clear h1 h2 h3
              rcases h4 with ⟨rfl, rfl, rfl⟩ | ⟨rfl, rfl, rfl⟩ | ⟨rfl, rfl, rfl⟩ | ⟨rfl, rfl, rfl⟩
              all_goals
                go_wp2_with (fail)
                refine (awake_calls _).mono ?_
                (rintro e w' hr; first | ((with_reducible replace hr := Ret.up hr); obtain ⟨rfl, z, rfl⟩ := hr) | (obtain ⟨rfl, z, rfl⟩ := hr))
                go_wp2
                go_ret
                exact ret_mk rfl (hb1.trans (Below.mono (later_below hbw hbw.size) hb1.size))
    · have hask := Lib.hid (ask_bad HF.out ha)
      clear ha
      go_enter Try.func10, Try.ntmps10
      go_wp2_with (fail)
      rw [← hW1]
      clear hW1
      refine (ready_calls _ h _ H1).mono ?_
      (rintro e w' hr; first | ((with_reducible replace hr := Ret.up hr); obtain ⟨rfl, z, rfl⟩ := hr) | (obtain ⟨rfl, z, rfl⟩ := hr))
      go_wp2_with (fail)
      refine (house_calls _ h _ (H1.below (below_later _ _)) hl2 hl3 hl4).mono ?_
      rintro e w' hr
      replace hr := RetHs.up hr
      obtain ⟨v, rfl, ⟨z, rfl⟩, HH⟩ := hr
      go_wp2_with (fail)
      have CA := paid_all_calls v h _ HH
      rw [hask.out] at CA
      refine CA.mono ?_
      clear CA HH
      (rintro e w' hr; first | ((with_reducible replace hr := Ret.up hr); obtain ⟨rfl, z, rfl⟩ := hr) | (obtain ⟨rfl, z, rfl⟩ := hr))
      go_wp2_with (fail)
      refine (house_calls _ h _ (H1.below (below_later _ _)) hl2 hl3 hl4).mono ?_
      rintro e w' hr
      replace hr := RetHs.up hr
      obtain ⟨v, rfl, ⟨z, rfl⟩, HH⟩ := hr
      go_wp2_with (fail)
      have CA := long_all_calls v h _ HH
      rw [hask.out] at CA
      refine CA.mono ?_
      clear CA HH
      (rintro e w' hr; replace hr := RetSlN.up hr; obtain ⟨A, c, rfl, ⟨z, rfl⟩, hsl⟩ := hr)
      go_wp2_with (fail)
      refine (awake_calls _).mono ?_
      (rintro e w' hr; first | ((with_reducible replace hr := Ret.up hr); obtain ⟨rfl, z, rfl⟩ := hr) | (obtain ⟨rfl, z, rfl⟩ := hr))
      go_wp2
      go_ret
      exact ret_mk rfl (later_below hb1 hb1.size)
end Go.Proofs.Ytcngnfnljkkjgaa
