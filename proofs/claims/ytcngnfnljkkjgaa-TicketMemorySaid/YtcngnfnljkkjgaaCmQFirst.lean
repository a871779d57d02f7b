/-
TicketFirst: the walk.
-/
import Derived.Test.YtcngnfnljkkjgaaCmX
import Derived.Test.YtcngnfnljkkjgaaCmV
namespace Go.Proofs.Ytcngnfnljkkjgaa
open Go.RowKit
attribute [local go_sem] cell_later frozen_later lt_later le_later

theorem ready_of {h : Hs} (hr : h.readyB = true) : h.clocks.length ≤ 1000 ∧ h.tickets.length ≤ 1000 ∧ h.clips.length ≤ 1000 ∧ h.fault = 0 ∧ h.clips.length ≤ 10 := by
  obtain ⟨h1, h2, h3, hf⟩ := ready_parts hr
  exact ⟨h1, h2, h3, hf, (small_iff.1 (fault_zero hf).1).2.2⟩
theorem some_len (h : Hs) (B : Int) : (h.someB B).clips.length ≤ h.clips.length := (some_sub h B).length_le

set_option maxRecDepth 100000 in
set_option maxHeartbeats 4000000 in
theorem lawfirst_calls (v : Value) (h : Hs) (w : World) (H : HsAt w v h) :
    Calls Try.prog 17 #[v] w (Ret (.bool true) w) := by
  have H0 := H
  obtain ⟨A2, c2, A3, c3, A4, c4, rfl, H2, H3, H4⟩ := H
  obtain ⟨W1, hW1⟩ : ∃ W1, W1 = w.alloc (.cells #[.int .i64 h.hour, .int .i64 h.grace, .slice A2 h.clocks.length c2, .slice A3 h.tickets.length c3, .slice A4 h.clips.length c4] 26) := ⟨_, rfl⟩
  have hb1 : Below w.heap.size w W1 := by rw [hW1]; exact gA (Below.refl _ _)
  have hB : BlkAt W1 w.heap.size 26 [.int .i64 h.hour, .int .i64 h.grace, .slice A2 h.clocks.length c2, .slice A3 h.tickets.length c3, .slice A4 h.clips.length c4] := by rw [hW1]; exact BlkAt.new _ _ _
  have H1 := H0.below hb1
  have q0 := hB.cell 0
  have q1 := hB.cell 1
  have q2 := hB.cell 2
  have q3 := hB.cell 3
  have q4 := hB.cell 4
  simp only [List.getElem?_cons_zero, List.getElem?_cons_succ] at q0 q1 q2 q3 q4
  have hBl := hB.lt
  cases hr : h.readyB with
  | false =>
    go_enter Try.func17, Try.ntmps17
    go_wp2_with (fail)
    rw [← hW1]
    clear hW1
    refine (ready_calls _ h _ H1).mono ?_
    (rintro e w' hr; first | ((with_reducible replace hr := Ret.up hr); obtain ⟨rfl, z, rfl⟩ := hr) | (obtain ⟨rfl, z, rfl⟩ := hr))
    go_wp2_with (fail)
    refine (awake_calls _).mono ?_
    (rintro e w' hr; first | ((with_reducible replace hr := Ret.up hr); obtain ⟨rfl, z, rfl⟩ := hr) | (obtain ⟨rfl, z, rfl⟩ := hr))
    go_wp2
    go_ret
    exact ret_mk rfl (later_below hb1 hb1.size)
  | true =>
    obtain ⟨hl2, hl3, hl4, hf, hl10⟩ := ready_of hr
    cases hk : h.firstO with
    | none =>
      have ha := first_none hf hk
      have HV := Lib.hid (show h.firstV = 0 by unfold Hs.firstV; rw [hk]; simp [hf])
      have HE := Lib.hid (show h.firstE = 7 by unfold Hs.firstE; rw [hk]; simp [hf])
      have HA := Lib.hid ha
      clear ha hf hk
      go_enter Try.func17, Try.ntmps17
      go_wp2_with (fail)
      rw [← hW1]
      clear hW1
      refine (ready_calls _ h _ H1).mono ?_
      (rintro e w' hr; first | ((with_reducible replace hr := Ret.up hr); obtain ⟨rfl, z, rfl⟩ := hr) | (obtain ⟨rfl, z, rfl⟩ := hr))
      go_wp2_with (fail)
      refine (house_calls _ h _ (H1.below (below_later _ _)) hl2 hl3 hl4).mono ?_
      rintro e w' hr
      replace hr := RetHs.up hr
      obtain ⟨v, rfl, ⟨z, rfl⟩, HH⟩ := hr
      go_wp2_with (fail)
      have CA := first_calls v h _ HH
      rw [HV.out, HE.out] at CA
      refine CA.mono ?_
      clear CA HH
      (rintro e w' hr; first | ((with_reducible replace hr := Ret.up hr); obtain ⟨rfl, z, rfl⟩ := hr) | (obtain ⟨rfl, z, rfl⟩ := hr))
      go_wp2_with (fail)
      refine (house_calls _ h _ (H1.below (below_later _ _)) hl2 hl3 hl4).mono ?_
      rintro e w' hr
      replace hr := RetHs.up hr
      obtain ⟨v, rfl, ⟨z, rfl⟩, HH⟩ := hr
      go_wp2_with (fail)
      have CA := clocks_calls v h _ HH
      rw [HA.out] at CA
      refine CA.mono ?_
      clear CA HH
      (rintro e w' hr; replace hr := RetSlN.up hr; obtain ⟨A, c, rfl, ⟨z, rfl⟩, -⟩ := hr)
      go_wp2_with (fail)
      refine (awake_calls _).mono ?_
      (rintro e w' hr; first | ((with_reducible replace hr := Ret.up hr); obtain ⟨rfl, z, rfl⟩ := hr) | (obtain ⟨rfl, z, rfl⟩ := hr))
      go_wp2
      go_ret
      exact ret_mk rfl (later_below hb1 hb1.size)
    | some k =>
      obtain ⟨hkl, hg1, hg2⟩ := first_some hf hk
      have hki : (k : Int) ≤ 9 := by omega
      have hk0 : (0 : Int) ≤ (k : Int) := Int.natCast_nonneg _
      have hin : inB (k : Int) 0 ((h.clips.length : Int) - 1) = true := inB_iff.2 ⟨by omega, by omega⟩
      have hp : (1 : Int) ≤ 2 ^ k ∧ (2 : Int) ^ k ≤ 512 := by
        have hk9 : k ≤ 9 := by omega
        clear hg1 hg2 hkl hki hk0 hin hk
        revert k
        decide
      obtain ⟨u1, u2⟩ := hp
      have HV := Lib.hid (show h.firstV = (k : Int) by unfold Hs.firstV; rw [hk]; simp [hf])
      have HE := Lib.hid (show h.firstE = 0 by unfold Hs.firstE; rw [hk]; simp [hf])
      have HA1 := Lib.hid hg1
      have HA2 := Lib.hid hg2
      have HIN := Lib.hid hin
      have hs1 := Nat.le_trans (some_len h (2 ^ k - 1)) hl4
      have hs2 := Nat.le_trans (some_len h (2 * 2 ^ k - 1)) hl4
      clear hf hk hg1 hg2 hin
      go_enter Try.func17, Try.ntmps17
      go_wp2_with (fail)
      rw [← hW1]
      clear hW1
      refine (ready_calls _ h _ H1).mono ?_
      (rintro e w' hr; first | ((with_reducible replace hr := Ret.up hr); obtain ⟨rfl, z, rfl⟩ := hr) | (obtain ⟨rfl, z, rfl⟩ := hr))
      go_wp2_with (fail)
      refine (house_calls _ h _ (H1.below (below_later _ _)) hl2 hl3 hl4).mono ?_
      rintro e w' hr
      replace hr := RetHs.up hr
      obtain ⟨v, rfl, ⟨z, rfl⟩, HH⟩ := hr
      go_wp2_with (fail)
      have CA := first_calls v h _ HH
      rw [HV.out, HE.out] at CA
      refine CA.mono ?_
      clear CA HH
      (rintro e w' hr; first | ((with_reducible replace hr := Ret.up hr); obtain ⟨rfl, z, rfl⟩ := hr) | (obtain ⟨rfl, z, rfl⟩ := hr))
      go_wp2_with (fail)
      refine (refin_calls _ _ _ _).mono ?_
      rw [HIN.out]
      (rintro e w' hr; first | ((with_reducible replace hr := Ret.up hr); obtain ⟨rfl, z, rfl⟩ := hr) | (obtain ⟨rfl, z, rfl⟩ := hr))
      go_wp2_with (fail)
      refine (some_calls _ h (2 ^ k - 1) _ (H1.below (below_later _ _)) hl10 (by omega)).mono ?_
      rintro e w' hr
      replace hr := RetHs.up hr
      obtain ⟨v, rfl, ⟨z, rfl⟩, HH⟩ := hr
      go_wp2_with (fail)
      refine (house_calls _ (h.someB (2 ^ k - 1)) _ HH hl2 hl3 hs1).mono ?_
      rintro e w' hr
      replace hr := RetHs.up hr
      obtain ⟨v, rfl, ⟨z, rfl⟩, HH⟩ := hr
      go_wp2_with (fail)
      have CA := clocks_calls v (h.someB (2 ^ k - 1)) _ HH
      rw [HA1.out] at CA
      refine CA.mono ?_
      clear CA HH
      (rintro e w' hr; replace hr := RetSlN.up hr; obtain ⟨A, c, rfl, ⟨z, rfl⟩, -⟩ := hr)
      go_wp2_with (fail)
      refine (some_calls _ h (2 * 2 ^ k - 1) _ (H1.below (below_later _ _)) hl10 (by omega)).mono ?_
      rintro e w' hr
      replace hr := RetHs.up hr
      obtain ⟨v, rfl, ⟨z, rfl⟩, HH⟩ := hr
      go_wp2_with (fail)
      refine (house_calls _ (h.someB (2 * 2 ^ k - 1)) _ HH hl2 hl3 hs2).mono ?_
      rintro e w' hr
      replace hr := RetHs.up hr
      obtain ⟨v, rfl, ⟨z, rfl⟩, HH⟩ := hr
      go_wp2_with (fail)
      have CA := clocks_calls v (h.someB (2 * 2 ^ k - 1)) _ HH
      rw [HA2.out] at CA
      refine CA.mono ?_
      clear CA HH
      (rintro e w' hr; replace hr := RetSlN.up hr; obtain ⟨A, c, rfl, ⟨z, rfl⟩, -⟩ := hr)
      go_wp2_with (fail)
      refine (awake_calls _).mono ?_
      (rintro e w' hr; first | ((with_reducible replace hr := Ret.up hr); obtain ⟨rfl, z, rfl⟩ := hr) | (obtain ⟨rfl, z, rfl⟩ := hr))
      go_wp2
      go_ret
      exact ret_mk rfl (later_below hb1 hb1.size)
end Go.Proofs.Ytcngnfnljkkjgaa
