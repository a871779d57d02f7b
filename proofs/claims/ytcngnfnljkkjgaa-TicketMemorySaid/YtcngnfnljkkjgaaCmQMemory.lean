/-
TicketMemory: the walk.
-/
import Derived.Test.YtcngnfnljkkjgaaCmMe
import Derived.Test.YtcngnfnljkkjgaaCmQPlays
namespace Go.Proofs.Ytcngnfnljkkjgaa
open Go.RowKit
attribute [local go_sem] cell_later frozen_later lt_later le_later

set_option maxRecDepth 100000 in
set_option maxHeartbeats 8000000 in
theorem lawmemory_calls (v : Value) (h : Hs) (A : Option Addr) (c : Nat) (l : List Int) (w : World) (H : HsAt w v h) (HL0 : SlA w 1 gI A c l) (hz0 : A = none → c = 0) :
    Calls Try.prog 19 #[v, .slice A l.length c] w (Ret (.bool true) w) := by
  have H0 := H
  obtain ⟨A2, c2, A3, c3, A4, c4, rfl, H2, H3, H4⟩ := H
  obtain ⟨W1, hW1⟩ : ∃ W1, W1 = w.alloc (.cells #[.int .i64 h.hour, .int .i64 h.grace, .slice A2 h.clocks.length c2, .slice A3 h.tickets.length c3, .slice A4 h.clips.length c4] 26) := ⟨_, rfl⟩
  have hb1 : Below w.heap.size w W1 := by rw [hW1]; exact gA (Below.refl _ _)
  have hB : BlkAt W1 w.heap.size 26 [.int .i64 h.hour, .int .i64 h.grace, .slice A2 h.clocks.length c2, .slice A3 h.tickets.length c3, .slice A4 h.clips.length c4] := by rw [hW1]; exact BlkAt.new _ _ _
  have H1 := H0.below hb1
  have q0 := hB.cell 0
  have q1 := hB.cell 1
  have q2 := hB.cell 2
  have q3 := hB.cell 3
  have q4 := hB.cell 4
  simp only [List.getElem?_cons_zero, List.getElem?_cons_succ] at q0 q1 q2 q3 q4
  have hBl := hB.lt
  have hlm := HL0.2.1
  have HZ := Lib.hid hz0
  have HT := Lib.hid (HL0.below hb1)
  clear hz0 HL0
  cases hr : h.thinB with
  | false =>
    go_enter Try.func19, Try.ntmps19
    go_wp2_with (fail)
    rw [← hW1]
    clear hW1
    refine (thin_calls _ h _ H1).mono ?_
    (rintro e w' hr; first | ((with_reducible replace hr := Ret.up hr); obtain ⟨rfl, z, rfl⟩ := hr) | (obtain ⟨rfl, z, rfl⟩ := hr))
    go_wp2_with (fail)
    refine (awake_calls _).mono ?_
    (rintro e w' hr; first | ((with_reducible replace hr := Ret.up hr); obtain ⟨rfl, z, rfl⟩ := hr) | (obtain ⟨rfl, z, rfl⟩ := hr))
    go_wp2
    go_ret
    exact ret_mk rfl (later_below hb1 hb1.size)
  | true =>
    obtain ⟨hl2, hl3, hl4⟩ := thin_parts3 hr
    by_cases h30 : 30 < l.length
    · have h31 : (30 : Int) < (l.length : Int) := by omega
      go_enter Try.func19, Try.ntmps19
      go_wp2_with (fail)
      rw [← hW1]
      clear hW1
      refine (thin_calls _ h _ H1).mono ?_
      (rintro e w' hr; first | ((with_reducible replace hr := Ret.up hr); obtain ⟨rfl, z, rfl⟩ := hr) | (obtain ⟨rfl, z, rfl⟩ := hr))
      go_wp2_with (fail)
      refine (awake_calls _).mono ?_
      (rintro e w' hr; first | ((with_reducible replace hr := Ret.up hr); obtain ⟨rfl, z, rfl⟩ := hr) | (obtain ⟨rfl, z, rfl⟩ := hr))
      go_wp2
      go_ret
      exact ret_mk rfl (later_below hb1 hb1.size)
    · have h31 : (l.length : Int) ≤ 30 := by omega
      have hll : l.length ≤ 1000 := by omega
      clear h30
      go_enter Try.func19, Try.ntmps19
      go_wp2_with (fail)
      rw [← hW1]
      clear hW1
      refine (thin_calls _ h _ H1).mono ?_
      (rintro e w' hr; first | ((with_reducible replace hr := Ret.up hr); obtain ⟨rfl, z, rfl⟩ := hr) | (obtain ⟨rfl, z, rfl⟩ := hr))
      obtain ⟨W2, hWW2⟩ : ∃ X, X = later W1 z := ⟨_, rfl⟩
      have hn : Below W1.heap.size W1 W2 := by rw [hWW2]; exact below_later _ _
      rw [← hWW2] 
      clear hWW2
      replace H1 := H1.below hn
      replace q0 := (hn.cell (p := ⟨w.heap.size, 0, none⟩) hBl).trans q0
      replace q1 := (hn.cell (p := ⟨w.heap.size, 1, none⟩) hBl).trans q1
      replace q2 := (hn.cell (p := ⟨w.heap.size, 2, none⟩) hBl).trans q2
      replace q3 := (hn.cell (p := ⟨w.heap.size, 3, none⟩) hBl).trans q3
      replace q4 := (hn.cell (p := ⟨w.heap.size, 4, none⟩) hBl).trans q4
      replace hBl := Nat.lt_of_lt_of_le hBl hn.size
      replace hb1 := hb1.trans (hn.mono hb1.size)
      replace HT := Lib.hid (HT.out.below hn)
      clear hn
      go_wp2_with (fail)
      refine (house_calls _ h _ (by first | with_reducible exact H1 | exact H1.below (below_later _ _)) hl2 hl3 hl4).mono ?_
      (rintro e w' hr; first | ((with_reducible replace hr := RetHs.up hr); obtain ⟨v, rfl, ⟨z, rfl⟩, HH⟩ := hr) | (obtain ⟨v, rfl, ⟨z, rfl⟩, HH⟩ := hr))
      go_wp2_with (fail)
      obtain ⟨W3, hWW3⟩ : ∃ X, X = later W2 z := ⟨_, rfl⟩
      have hn : Below W2.heap.size W2 W3 := by rw [hWW3]; exact below_later _ _
      rw [← hWW3] at HH ⊢
      clear hWW3
      replace H1 := H1.below hn
      replace q0 := (hn.cell (p := ⟨w.heap.size, 0, none⟩) hBl).trans q0
      replace q1 := (hn.cell (p := ⟨w.heap.size, 1, none⟩) hBl).trans q1
      replace q2 := (hn.cell (p := ⟨w.heap.size, 2, none⟩) hBl).trans q2
      replace q3 := (hn.cell (p := ⟨w.heap.size, 3, none⟩) hBl).trans q3
      replace q4 := (hn.cell (p := ⟨w.heap.size, 4, none⟩) hBl).trans q4
      replace hBl := Nat.lt_of_lt_of_le hBl hn.size
      replace hb1 := hb1.trans (hn.mono hb1.size)
      replace HT := Lib.hid (HT.out.below hn)
      clear hn
      refine (list_calls A c l _ HT.out hll HZ.out).mono ?_
      (rintro e w' hr; obtain ⟨A9, c9, rfl, ⟨z, rfl⟩, hsl⟩ := hr)
      obtain ⟨W4, hWW4⟩ : ∃ X, X = later W3 z := ⟨_, rfl⟩
      have hn : Below W3.heap.size W3 W4 := by rw [hWW4]; exact below_later _ _
      rw [← hWW4] at hsl ⊢
      clear hWW4
      replace H1 := H1.below hn
      replace q0 := (hn.cell (p := ⟨w.heap.size, 0, none⟩) hBl).trans q0
      replace q1 := (hn.cell (p := ⟨w.heap.size, 1, none⟩) hBl).trans q1
      replace q2 := (hn.cell (p := ⟨w.heap.size, 2, none⟩) hBl).trans q2
      replace q3 := (hn.cell (p := ⟨w.heap.size, 3, none⟩) hBl).trans q3
      replace q4 := (hn.cell (p := ⟨w.heap.size, 4, none⟩) hBl).trans q4
      replace hBl := Nat.lt_of_lt_of_le hBl hn.size
      replace hb1 := hb1.trans (hn.mono hb1.size)
      replace HT := Lib.hid (HT.out.below hn)
      replace HH := HH.below hn
      clear hn
      have HX := HH
      obtain ⟨B2, d2, B3, d3, B4, d4, rfl, -, -, -⟩ := HH
      obtain ⟨bx, hbx⟩ : ∃ b, b = W4.heap.size := ⟨_, rfl⟩
      obtain ⟨W5, hW5⟩ : ∃ X, X = W4.alloc (.cells #[.int .i64 h.hour, .int .i64 h.grace, .slice B2 h.clocks.length d2, .slice B3 h.tickets.length d3, .slice B4 h.clips.length d4] 36) := ⟨_, rfl⟩
      have hn : Below W4.heap.size W4 W5 := by rw [hW5]; exact gA (Below.refl _ _)
      have hX : BlkAt W5 bx 36 [.int .i64 h.hour, .int .i64 h.grace, .slice B2 h.clocks.length d2, .slice B3 h.tickets.length d3, .slice B4 h.clips.length d4] := by rw [hW5, hbx]; exact BlkAt.new _ _ _
      go_wp2
      rw [← hW5, ← hbx]
      clear hW5 hbx
      replace H1 := H1.below hn
      replace q0 := (hn.cell (p := ⟨w.heap.size, 0, none⟩) hBl).trans q0
      replace q1 := (hn.cell (p := ⟨w.heap.size, 1, none⟩) hBl).trans q1
      replace q2 := (hn.cell (p := ⟨w.heap.size, 2, none⟩) hBl).trans q2
      replace q3 := (hn.cell (p := ⟨w.heap.size, 3, none⟩) hBl).trans q3
      replace q4 := (hn.cell (p := ⟨w.heap.size, 4, none⟩) hBl).trans q4
      replace hBl := Nat.lt_of_lt_of_le hBl hn.size
      replace hb1 := hb1.trans (hn.mono hb1.size)
      replace HT := Lib.hid (HT.out.below hn)
      replace HX := HX.below hn
      have HO := Lib.hid (hsl.below hn)
      clear hn hsl
      have x0 := hX.cell 0
      have x1 := hX.cell 1
      have x2 := hX.cell 2
      have x3 := hX.cell 3
      have x4 := hX.cell 4
      have hxl := hX.lt
      simp only [List.getElem?_cons_zero, List.getElem?_cons_succ] at x0 x1 x2 x3 x4
      clear hX
      obtain ⟨PE, hPE⟩ : ∃ p, p = h.playE l := ⟨_, rfl⟩
      obtain ⟨AE, hAE⟩ : ∃ p, p = h.askE 0 := ⟨_, rfl⟩
      obtain ⟨FE, hFE⟩ : ∃ p, p = h.fault := ⟨_, rfl⟩
      obtain ⟨PL, hPL⟩ : ∃ p, p = h.playL l := ⟨_, rfl⟩
      obtain ⟨CL, hCL⟩ : ∃ p, p = h.clocksL := ⟨_, rfl⟩
      obtain ⟨RL, hRL⟩ : ∃ p, p = h.hoursL := ⟨_, rfl⟩
      obtain ⟨GL, hGL⟩ : ∃ p, p = h.longL := ⟨_, rfl⟩
      obtain ⟨VL, hVL⟩ : ∃ p, p = h.leaveL := ⟨_, rfl⟩
      have HPE := Lib.hid hPE
      have HAE := Lib.hid hAE
      have HFE := Lib.hid hFE
      have HPL := Lib.hid hPL
      have HCL := Lib.hid hCL
      have HRL := Lib.hid hRL
      have HGL := Lib.hid hGL
      have HVL := Lib.hid hVL
      clear hPE hAE hFE hPL hCL hRL hGL hVL
      go_loopw [7] (fun i wr => ∃ k : Nat, k ≤ 2 ∧ i = .int .i64 k ∧ Below W5.heap.size W5 wr) (fun i _ => 2 - (intOf i).toNat)
      case atStart => exact ⟨0, Nat.zero_le _, rfl, Below.refl _ _⟩
      case round =>
        obtain ⟨k, hk, rfl, hb⟩ := hrel
        by_cases hlt : k < 2
        · have hlt1 : (k : Int) < 2 := by omega
          have hk0 : (0 : Int) ≤ (k : Int) := Int.natCast_nonneg _
          replace H1 := H1.below hb
          replace q0 := (hb.cell (p := ⟨w.heap.size, 0, none⟩) hBl).trans q0
          replace q1 := (hb.cell (p := ⟨w.heap.size, 1, none⟩) hBl).trans q1
          replace q2 := (hb.cell (p := ⟨w.heap.size, 2, none⟩) hBl).trans q2
          replace q3 := (hb.cell (p := ⟨w.heap.size, 3, none⟩) hBl).trans q3
          replace q4 := (hb.cell (p := ⟨w.heap.size, 4, none⟩) hBl).trans q4
          replace hBl := Nat.lt_of_lt_of_le hBl hb.size
          replace hb1 := hb1.trans (hb.mono hb1.size)
          replace HX := HX.below hb
          replace x0 := (hb.cell (p := ⟨bx, 0, none⟩) hxl).trans x0
          replace x1 := (hb.cell (p := ⟨bx, 1, none⟩) hxl).trans x1
          replace x2 := (hb.cell (p := ⟨bx, 2, none⟩) hxl).trans x2
          replace x3 := (hb.cell (p := ⟨bx, 3, none⟩) hxl).trans x3
          replace x4 := (hb.cell (p := ⟨bx, 4, none⟩) hxl).trans x4
          replace hxl := Nat.lt_of_lt_of_le hxl hb.size
          replace HT := Lib.hid (HT.out.below hb)
          replace HO := Lib.hid (HO.out.below hb)
          have HB := Lib.hid hb
          have HS1 := Lib.hid H1
          have HSX := Lib.hid HX
          have HST := Lib.hid HT.out
          have HSO := Lib.hid HO.out
          have HSB := Lib.hid hb1
          have HQ0 := Lib.hid q0
          have HQ1 := Lib.hid q1
          have HQ2 := Lib.hid q2
          have HQ3 := Lib.hid q3
          have HQ4 := Lib.hid q4
          have HQL := Lib.hid hBl
          have HX0 := Lib.hid x0
          have HX1 := Lib.hid x1
          have HX2 := Lib.hid x2
          have HX3 := Lib.hid x3
          have HX4 := Lib.hid x4
          have HXL := Lib.hid hxl
          have HBW := Lib.hid (Below.refl wr.heap.size wr)
          clear hb
          go_wp2_with (fail)
          refine (house_calls _ h _ (by first | with_reducible exact H1 | exact H1.below (below_later _ _)) hl2 hl3 hl4).mono ?_
          (rintro e w' hr; first | ((with_reducible replace hr := RetHs.up hr); obtain ⟨v, rfl, ⟨z, rfl⟩, HH⟩ := hr) | (obtain ⟨v, rfl, ⟨z, rfl⟩, HH⟩ := hr))
          go_wp2_with (fail)
          obtain ⟨W6, hWW6⟩ : ∃ X, X = later wr z := ⟨_, rfl⟩
          have hn : Below wr.heap.size wr W6 := by rw [hWW6]; exact below_later _ _
          rw [← hWW6] at HH ⊢
          clear hWW6
          replace H1 := H1.below hn
          replace q0 := (hn.cell (p := ⟨w.heap.size, 0, none⟩) hBl).trans q0
          replace q1 := (hn.cell (p := ⟨w.heap.size, 1, none⟩) hBl).trans q1
          replace q2 := (hn.cell (p := ⟨w.heap.size, 2, none⟩) hBl).trans q2
          replace q3 := (hn.cell (p := ⟨w.heap.size, 3, none⟩) hBl).trans q3
          replace q4 := (hn.cell (p := ⟨w.heap.size, 4, none⟩) hBl).trans q4
          replace hBl := Nat.lt_of_lt_of_le hBl hn.size
          replace hb1 := hb1.trans (hn.mono hb1.size)
          replace HX := HX.below hn
          replace x0 := (hn.cell (p := ⟨bx, 0, none⟩) hxl).trans x0
          replace x1 := (hn.cell (p := ⟨bx, 1, none⟩) hxl).trans x1
          replace x2 := (hn.cell (p := ⟨bx, 2, none⟩) hxl).trans x2
          replace x3 := (hn.cell (p := ⟨bx, 3, none⟩) hxl).trans x3
          replace x4 := (hn.cell (p := ⟨bx, 4, none⟩) hxl).trans x4
          replace hxl := Nat.lt_of_lt_of_le hxl hn.size
          replace HT := Lib.hid (HT.out.below hn)
          replace HO := Lib.hid (HO.out.below hn)
          replace HBW := Lib.hid (HBW.out.trans (hn.mono HBW.out.size))
          clear hn
          refine (list_calls A c l _ HT.out hll HZ.out).mono ?_
          (rintro e w' hr; obtain ⟨A20, c20, rfl, ⟨z, rfl⟩, hsl⟩ := hr)
          obtain ⟨W7, hWW7⟩ : ∃ X, X = later W6 z := ⟨_, rfl⟩
          have hn : Below W6.heap.size W6 W7 := by rw [hWW7]; exact below_later _ _
          rw [← hWW7] at hsl ⊢
          clear hWW7
          replace H1 := H1.below hn
          replace q0 := (hn.cell (p := ⟨w.heap.size, 0, none⟩) hBl).trans q0
          replace q1 := (hn.cell (p := ⟨w.heap.size, 1, none⟩) hBl).trans q1
          replace q2 := (hn.cell (p := ⟨w.heap.size, 2, none⟩) hBl).trans q2
          replace q3 := (hn.cell (p := ⟨w.heap.size, 3, none⟩) hBl).trans q3
          replace q4 := (hn.cell (p := ⟨w.heap.size, 4, none⟩) hBl).trans q4
          replace hBl := Nat.lt_of_lt_of_le hBl hn.size
          replace hb1 := hb1.trans (hn.mono hb1.size)
          replace HX := HX.below hn
          replace x0 := (hn.cell (p := ⟨bx, 0, none⟩) hxl).trans x0
          replace x1 := (hn.cell (p := ⟨bx, 1, none⟩) hxl).trans x1
          replace x2 := (hn.cell (p := ⟨bx, 2, none⟩) hxl).trans x2
          replace x3 := (hn.cell (p := ⟨bx, 3, none⟩) hxl).trans x3
          replace x4 := (hn.cell (p := ⟨bx, 4, none⟩) hxl).trans x4
          replace hxl := Nat.lt_of_lt_of_le hxl hn.size
          replace HT := Lib.hid (HT.out.below hn)
          replace HO := Lib.hid (HO.out.below hn)
          replace HBW := Lib.hid (HBW.out.trans (hn.mono HBW.out.size))
          replace HH := HH.below hn
          clear hn
          go_wp2_with (fail)
          have CA := play_calls _ h A20 c20 l _ HH hsl
          rw [← HPE.out, ← HPL.out] at CA
          clear hsl
          refine CA.mono ?_
          clear CA HH
          (rintro e w' hr; first | ((with_reducible replace hr := RetSlN.up hr); obtain ⟨A10, c10, rfl, ⟨z, rfl⟩, hsl⟩ := hr) | (obtain ⟨A10, c10, rfl, ⟨z, rfl⟩, hsl⟩ := hr))
          obtain ⟨W8, hWW8⟩ : ∃ X, X = later W7 z := ⟨_, rfl⟩
          have hn : Below W7.heap.size W7 W8 := by rw [hWW8]; exact below_later _ _
          rw [← hWW8] at hsl ⊢
          clear hWW8
          replace H1 := H1.below hn
          replace q0 := (hn.cell (p := ⟨w.heap.size, 0, none⟩) hBl).trans q0
          replace q1 := (hn.cell (p := ⟨w.heap.size, 1, none⟩) hBl).trans q1
          replace q2 := (hn.cell (p := ⟨w.heap.size, 2, none⟩) hBl).trans q2
          replace q3 := (hn.cell (p := ⟨w.heap.size, 3, none⟩) hBl).trans q3
          replace q4 := (hn.cell (p := ⟨w.heap.size, 4, none⟩) hBl).trans q4
          replace hBl := Nat.lt_of_lt_of_le hBl hn.size
          replace hb1 := hb1.trans (hn.mono hb1.size)
          replace HX := HX.below hn
          replace x0 := (hn.cell (p := ⟨bx, 0, none⟩) hxl).trans x0
          replace x1 := (hn.cell (p := ⟨bx, 1, none⟩) hxl).trans x1
          replace x2 := (hn.cell (p := ⟨bx, 2, none⟩) hxl).trans x2
          replace x3 := (hn.cell (p := ⟨bx, 3, none⟩) hxl).trans x3
          replace x4 := (hn.cell (p := ⟨bx, 4, none⟩) hxl).trans x4
          replace hxl := Nat.lt_of_lt_of_le hxl hn.size
          replace HT := Lib.hid (HT.out.below hn)
          replace HO := Lib.hid (HO.out.below hn)
          replace HBW := Lib.hid (HBW.out.trans (hn.mono HBW.out.size))
          have HS6 := Lib.hid hsl
          clear hn hsl
          go_wp2_with (fail)
          refine (house_calls _ h _ (by first | with_reducible exact H1 | exact H1.below (below_later _ _)) hl2 hl3 hl4).mono ?_
          (rintro e w' hr; first | ((with_reducible replace hr := RetHs.up hr); obtain ⟨v, rfl, ⟨z, rfl⟩, HH⟩ := hr) | (obtain ⟨v, rfl, ⟨z, rfl⟩, HH⟩ := hr))
          go_wp2_with (fail)
          have CA := clocks_calls _ h _ HH
          rw [← HAE.out, ← HCL.out] at CA
          refine CA.mono ?_
          clear CA HH
          (rintro e w' hr; first | ((with_reducible replace hr := RetSlN.up hr); obtain ⟨A11, c11, rfl, ⟨z, rfl⟩, hsl⟩ := hr) | (obtain ⟨A11, c11, rfl, ⟨z, rfl⟩, hsl⟩ := hr))
          obtain ⟨W9, hWW9⟩ : ∃ X, X = later W8 z := ⟨_, rfl⟩
          have hn : Below W8.heap.size W8 W9 := by rw [hWW9]; exact below_later _ _
          rw [← hWW9] at hsl ⊢
          clear hWW9
          replace H1 := H1.below hn
          replace q0 := (hn.cell (p := ⟨w.heap.size, 0, none⟩) hBl).trans q0
          replace q1 := (hn.cell (p := ⟨w.heap.size, 1, none⟩) hBl).trans q1
          replace q2 := (hn.cell (p := ⟨w.heap.size, 2, none⟩) hBl).trans q2
          replace q3 := (hn.cell (p := ⟨w.heap.size, 3, none⟩) hBl).trans q3
          replace q4 := (hn.cell (p := ⟨w.heap.size, 4, none⟩) hBl).trans q4
          replace hBl := Nat.lt_of_lt_of_le hBl hn.size
          replace hb1 := hb1.trans (hn.mono hb1.size)
          replace HX := HX.below hn
          replace x0 := (hn.cell (p := ⟨bx, 0, none⟩) hxl).trans x0
          replace x1 := (hn.cell (p := ⟨bx, 1, none⟩) hxl).trans x1
          replace x2 := (hn.cell (p := ⟨bx, 2, none⟩) hxl).trans x2
          replace x3 := (hn.cell (p := ⟨bx, 3, none⟩) hxl).trans x3
          replace x4 := (hn.cell (p := ⟨bx, 4, none⟩) hxl).trans x4
          replace hxl := Nat.lt_of_lt_of_le hxl hn.size
          replace HT := Lib.hid (HT.out.below hn)
          replace HO := Lib.hid (HO.out.below hn)
          replace HS6 := Lib.hid (HS6.out.below hn)
          replace HBW := Lib.hid (HBW.out.trans (hn.mono HBW.out.size))
          have HS7 := Lib.hid hsl
          clear hn hsl
          go_wp2_with (fail)
          refine (house_calls _ h _ (by first | with_reducible exact H1 | exact H1.below (below_later _ _)) hl2 hl3 hl4).mono ?_
          (rintro e w' hr; first | ((with_reducible replace hr := RetHs.up hr); obtain ⟨v, rfl, ⟨z, rfl⟩, HH⟩ := hr) | (obtain ⟨v, rfl, ⟨z, rfl⟩, HH⟩ := hr))
          go_wp2_with (fail)
          have CA := hours_all_calls _ h _ HH
          rw [← HAE.out, ← HRL.out] at CA
          refine CA.mono ?_
          clear CA HH
          (rintro e w' hr; first | ((with_reducible replace hr := RetSlN.up hr); obtain ⟨A12, c12, rfl, ⟨z, rfl⟩, hsl⟩ := hr) | (obtain ⟨A12, c12, rfl, ⟨z, rfl⟩, hsl⟩ := hr))
          obtain ⟨W10, hWW10⟩ : ∃ X, X = later W9 z := ⟨_, rfl⟩
          have hn : Below W9.heap.size W9 W10 := by rw [hWW10]; exact below_later _ _
          rw [← hWW10] at hsl ⊢
          clear hWW10
          replace H1 := H1.below hn
          replace q0 := (hn.cell (p := ⟨w.heap.size, 0, none⟩) hBl).trans q0
          replace q1 := (hn.cell (p := ⟨w.heap.size, 1, none⟩) hBl).trans q1
          replace q2 := (hn.cell (p := ⟨w.heap.size, 2, none⟩) hBl).trans q2
          replace q3 := (hn.cell (p := ⟨w.heap.size, 3, none⟩) hBl).trans q3
          replace q4 := (hn.cell (p := ⟨w.heap.size, 4, none⟩) hBl).trans q4
          replace hBl := Nat.lt_of_lt_of_le hBl hn.size
          replace hb1 := hb1.trans (hn.mono hb1.size)
          replace HX := HX.below hn
          replace x0 := (hn.cell (p := ⟨bx, 0, none⟩) hxl).trans x0
          replace x1 := (hn.cell (p := ⟨bx, 1, none⟩) hxl).trans x1
          replace x2 := (hn.cell (p := ⟨bx, 2, none⟩) hxl).trans x2
          replace x3 := (hn.cell (p := ⟨bx, 3, none⟩) hxl).trans x3
          replace x4 := (hn.cell (p := ⟨bx, 4, none⟩) hxl).trans x4
          replace hxl := Nat.lt_of_lt_of_le hxl hn.size
          replace HT := Lib.hid (HT.out.below hn)
          replace HO := Lib.hid (HO.out.below hn)
          replace HS6 := Lib.hid (HS6.out.below hn)
          replace HS7 := Lib.hid (HS7.out.below hn)
          replace HBW := Lib.hid (HBW.out.trans (hn.mono HBW.out.size))
          have HS8 := Lib.hid hsl
          clear hn hsl
          go_wp2_with (fail)
          refine (house_calls _ h _ (by first | with_reducible exact H1 | exact H1.below (below_later _ _)) hl2 hl3 hl4).mono ?_
          (rintro e w' hr; first | ((with_reducible replace hr := RetHs.up hr); obtain ⟨v, rfl, ⟨z, rfl⟩, HH⟩ := hr) | (obtain ⟨v, rfl, ⟨z, rfl⟩, HH⟩ := hr))
          go_wp2_with (fail)
          have CA := long_all_calls _ h _ HH
          rw [← HAE.out, ← HGL.out] at CA
          refine CA.mono ?_
          clear CA HH
          (rintro e w' hr; first | ((with_reducible replace hr := RetSlN.up hr); obtain ⟨A13, c13, rfl, ⟨z, rfl⟩, hsl⟩ := hr) | (obtain ⟨A13, c13, rfl, ⟨z, rfl⟩, hsl⟩ := hr))
          obtain ⟨W11, hWW11⟩ : ∃ X, X = later W10 z := ⟨_, rfl⟩
          have hn : Below W10.heap.size W10 W11 := by rw [hWW11]; exact below_later _ _
          rw [← hWW11] at hsl ⊢
          clear hWW11
          replace H1 := H1.below hn
          replace q0 := (hn.cell (p := ⟨w.heap.size, 0, none⟩) hBl).trans q0
          replace q1 := (hn.cell (p := ⟨w.heap.size, 1, none⟩) hBl).trans q1
          replace q2 := (hn.cell (p := ⟨w.heap.size, 2, none⟩) hBl).trans q2
          replace q3 := (hn.cell (p := ⟨w.heap.size, 3, none⟩) hBl).trans q3
          replace q4 := (hn.cell (p := ⟨w.heap.size, 4, none⟩) hBl).trans q4
          replace hBl := Nat.lt_of_lt_of_le hBl hn.size
          replace hb1 := hb1.trans (hn.mono hb1.size)
          replace HX := HX.below hn
          replace x0 := (hn.cell (p := ⟨bx, 0, none⟩) hxl).trans x0
          replace x1 := (hn.cell (p := ⟨bx, 1, none⟩) hxl).trans x1
          replace x2 := (hn.cell (p := ⟨bx, 2, none⟩) hxl).trans x2
          replace x3 := (hn.cell (p := ⟨bx, 3, none⟩) hxl).trans x3
          replace x4 := (hn.cell (p := ⟨bx, 4, none⟩) hxl).trans x4
          replace hxl := Nat.lt_of_lt_of_le hxl hn.size
          replace HT := Lib.hid (HT.out.below hn)
          replace HO := Lib.hid (HO.out.below hn)
          replace HS6 := Lib.hid (HS6.out.below hn)
          replace HS7 := Lib.hid (HS7.out.below hn)
          replace HS8 := Lib.hid (HS8.out.below hn)
          replace HBW := Lib.hid (HBW.out.trans (hn.mono HBW.out.size))
          have HS9 := Lib.hid hsl
          clear hn hsl
          go_wp2_with (fail)
          refine (house_calls _ h _ (by first | with_reducible exact H1 | exact H1.below (below_later _ _)) hl2 hl3 hl4).mono ?_
          (rintro e w' hr; first | ((with_reducible replace hr := RetHs.up hr); obtain ⟨v, rfl, ⟨z, rfl⟩, HH⟩ := hr) | (obtain ⟨v, rfl, ⟨z, rfl⟩, HH⟩ := hr))
          go_wp2_with (fail)
          have CA := leave_calls _ h _ HH
          rw [← HFE.out, ← HVL.out] at CA
          refine CA.mono ?_
          clear CA HH
          (rintro e w' hr; first | ((with_reducible replace hr := RetSlN.up hr); obtain ⟨A14, c14, rfl, ⟨z, rfl⟩, hsl⟩ := hr) | (obtain ⟨A14, c14, rfl, ⟨z, rfl⟩, hsl⟩ := hr))
          obtain ⟨W12, hWW12⟩ : ∃ X, X = later W11 z := ⟨_, rfl⟩
          have hn : Below W11.heap.size W11 W12 := by rw [hWW12]; exact below_later _ _
          rw [← hWW12] at hsl ⊢
          clear hWW12
          replace H1 := H1.below hn
          replace q0 := (hn.cell (p := ⟨w.heap.size, 0, none⟩) hBl).trans q0
          replace q1 := (hn.cell (p := ⟨w.heap.size, 1, none⟩) hBl).trans q1
          replace q2 := (hn.cell (p := ⟨w.heap.size, 2, none⟩) hBl).trans q2
          replace q3 := (hn.cell (p := ⟨w.heap.size, 3, none⟩) hBl).trans q3
          replace q4 := (hn.cell (p := ⟨w.heap.size, 4, none⟩) hBl).trans q4
          replace hBl := Nat.lt_of_lt_of_le hBl hn.size
          replace hb1 := hb1.trans (hn.mono hb1.size)
          replace HX := HX.below hn
          replace x0 := (hn.cell (p := ⟨bx, 0, none⟩) hxl).trans x0
          replace x1 := (hn.cell (p := ⟨bx, 1, none⟩) hxl).trans x1
          replace x2 := (hn.cell (p := ⟨bx, 2, none⟩) hxl).trans x2
          replace x3 := (hn.cell (p := ⟨bx, 3, none⟩) hxl).trans x3
          replace x4 := (hn.cell (p := ⟨bx, 4, none⟩) hxl).trans x4
          replace hxl := Nat.lt_of_lt_of_le hxl hn.size
          replace HT := Lib.hid (HT.out.below hn)
          replace HO := Lib.hid (HO.out.below hn)
          replace HS6 := Lib.hid (HS6.out.below hn)
          replace HS7 := Lib.hid (HS7.out.below hn)
          replace HS8 := Lib.hid (HS8.out.below hn)
          replace HS9 := Lib.hid (HS9.out.below hn)
          replace HBW := Lib.hid (HBW.out.trans (hn.mono HBW.out.size))
          have HS10 := Lib.hid hsl
          clear hn hsl
          go_wp2_with (fail)
          have CA := fr_play _ h A9 c9 l _ HX HO.out
          rw [← HPE.out, ← HPL.out] at CA
          refine CA.mono ?_
          clear CA
          (rintro e w' hr; obtain ⟨A15, c15, rfl, ⟨z, rfl⟩, hsl, hfr⟩ := hr)
          obtain ⟨W13, hWW13⟩ : ∃ X, X = later W12 z := ⟨_, rfl⟩
          have hn : Below W12.heap.size W12 W13 := by rw [hWW13]; exact below_later _ _
          rw [← hWW13] at hsl hfr ⊢
          clear hWW13
          replace H1 := H1.below hn
          replace q0 := (hn.cell (p := ⟨w.heap.size, 0, none⟩) hBl).trans q0
          replace q1 := (hn.cell (p := ⟨w.heap.size, 1, none⟩) hBl).trans q1
          replace q2 := (hn.cell (p := ⟨w.heap.size, 2, none⟩) hBl).trans q2
          replace q3 := (hn.cell (p := ⟨w.heap.size, 3, none⟩) hBl).trans q3
          replace q4 := (hn.cell (p := ⟨w.heap.size, 4, none⟩) hBl).trans q4
          replace hBl := Nat.lt_of_lt_of_le hBl hn.size
          replace hb1 := hb1.trans (hn.mono hb1.size)
          replace HX := HX.below hn
          replace x0 := (hn.cell (p := ⟨bx, 0, none⟩) hxl).trans x0
          replace x1 := (hn.cell (p := ⟨bx, 1, none⟩) hxl).trans x1
          replace x2 := (hn.cell (p := ⟨bx, 2, none⟩) hxl).trans x2
          replace x3 := (hn.cell (p := ⟨bx, 3, none⟩) hxl).trans x3
          replace x4 := (hn.cell (p := ⟨bx, 4, none⟩) hxl).trans x4
          replace hxl := Nat.lt_of_lt_of_le hxl hn.size
          have hB6 := HBW.out.size
          replace HT := Lib.hid (HT.out.below hn)
          replace HO := Lib.hid (HO.out.below hn)
          replace HS6 := Lib.hid (HS6.out.below hn)
          replace HS7 := Lib.hid (HS7.out.below hn)
          replace HS8 := Lib.hid (HS8.out.below hn)
          replace HS9 := Lib.hid (HS9.out.below hn)
          replace HS10 := Lib.hid (HS10.out.below hn)
          replace HBW := Lib.hid (HBW.out.trans (hn.mono HBW.out.size))
          have hT6 := hn.size
          have HR6 := Lib.hid hsl
          have HF6 := Lib.hid hfr
          have HL6 := Lib.hid hfr.lt
          clear hn hsl hfr
          go_wp2_with (fail)
          have CA := fr_clocks _ h _ HX
          rw [← HAE.out, ← HCL.out] at CA
          refine CA.mono ?_
          clear CA
          (rintro e w' hr; obtain ⟨A16, c16, rfl, ⟨z, rfl⟩, hsl, hfr⟩ := hr)
          obtain ⟨W14, hWW14⟩ : ∃ X, X = later W13 z := ⟨_, rfl⟩
          have hn : Below W13.heap.size W13 W14 := by rw [hWW14]; exact below_later _ _
          rw [← hWW14] at hsl hfr ⊢
          clear hWW14
          replace H1 := H1.below hn
          replace q0 := (hn.cell (p := ⟨w.heap.size, 0, none⟩) hBl).trans q0
          replace q1 := (hn.cell (p := ⟨w.heap.size, 1, none⟩) hBl).trans q1
          replace q2 := (hn.cell (p := ⟨w.heap.size, 2, none⟩) hBl).trans q2
          replace q3 := (hn.cell (p := ⟨w.heap.size, 3, none⟩) hBl).trans q3
          replace q4 := (hn.cell (p := ⟨w.heap.size, 4, none⟩) hBl).trans q4
          replace hBl := Nat.lt_of_lt_of_le hBl hn.size
          replace hb1 := hb1.trans (hn.mono hb1.size)
          replace HX := HX.below hn
          replace x0 := (hn.cell (p := ⟨bx, 0, none⟩) hxl).trans x0
          replace x1 := (hn.cell (p := ⟨bx, 1, none⟩) hxl).trans x1
          replace x2 := (hn.cell (p := ⟨bx, 2, none⟩) hxl).trans x2
          replace x3 := (hn.cell (p := ⟨bx, 3, none⟩) hxl).trans x3
          replace x4 := (hn.cell (p := ⟨bx, 4, none⟩) hxl).trans x4
          replace hxl := Nat.lt_of_lt_of_le hxl hn.size
          have hB7 := HBW.out.size
          replace HT := Lib.hid (HT.out.below hn)
          replace HO := Lib.hid (HO.out.below hn)
          replace HS6 := Lib.hid (HS6.out.below hn)
          replace HS7 := Lib.hid (HS7.out.below hn)
          replace HS8 := Lib.hid (HS8.out.below hn)
          replace HS9 := Lib.hid (HS9.out.below hn)
          replace HS10 := Lib.hid (HS10.out.below hn)
          replace HR6 := Lib.hid (HR6.out.below hn)
          replace HF6 := Lib.hid (HF6.out.below hn)
          replace HBW := Lib.hid (HBW.out.trans (hn.mono HBW.out.size))
          have hT7 := hn.size
          have HR7 := Lib.hid hsl
          have HF7 := Lib.hid hfr
          have HL7 := Lib.hid hfr.lt
          clear hn hsl hfr
          go_wp2_with (fail)
          have CA := fr_hours _ h _ HX
          rw [← HAE.out, ← HRL.out] at CA
          refine CA.mono ?_
          clear CA
          (rintro e w' hr; obtain ⟨A17, c17, rfl, ⟨z, rfl⟩, hsl, hfr⟩ := hr)
          obtain ⟨W15, hWW15⟩ : ∃ X, X = later W14 z := ⟨_, rfl⟩
          have hn : Below W14.heap.size W14 W15 := by rw [hWW15]; exact below_later _ _
          rw [← hWW15] at hsl hfr ⊢
          clear hWW15
          replace H1 := H1.below hn
          replace q0 := (hn.cell (p := ⟨w.heap.size, 0, none⟩) hBl).trans q0
          replace q1 := (hn.cell (p := ⟨w.heap.size, 1, none⟩) hBl).trans q1
          replace q2 := (hn.cell (p := ⟨w.heap.size, 2, none⟩) hBl).trans q2
          replace q3 := (hn.cell (p := ⟨w.heap.size, 3, none⟩) hBl).trans q3
          replace q4 := (hn.cell (p := ⟨w.heap.size, 4, none⟩) hBl).trans q4
          replace hBl := Nat.lt_of_lt_of_le hBl hn.size
          replace hb1 := hb1.trans (hn.mono hb1.size)
          replace HX := HX.below hn
          replace x0 := (hn.cell (p := ⟨bx, 0, none⟩) hxl).trans x0
          replace x1 := (hn.cell (p := ⟨bx, 1, none⟩) hxl).trans x1
          replace x2 := (hn.cell (p := ⟨bx, 2, none⟩) hxl).trans x2
          replace x3 := (hn.cell (p := ⟨bx, 3, none⟩) hxl).trans x3
          replace x4 := (hn.cell (p := ⟨bx, 4, none⟩) hxl).trans x4
          replace hxl := Nat.lt_of_lt_of_le hxl hn.size
          have hB8 := HBW.out.size
          replace HT := Lib.hid (HT.out.below hn)
          replace HO := Lib.hid (HO.out.below hn)
          replace HS6 := Lib.hid (HS6.out.below hn)
          replace HS7 := Lib.hid (HS7.out.below hn)
          replace HS8 := Lib.hid (HS8.out.below hn)
          replace HS9 := Lib.hid (HS9.out.below hn)
          replace HS10 := Lib.hid (HS10.out.below hn)
          replace HR6 := Lib.hid (HR6.out.below hn)
          replace HF6 := Lib.hid (HF6.out.below hn)
          replace HR7 := Lib.hid (HR7.out.below hn)
          replace HF7 := Lib.hid (HF7.out.below hn)
          replace HBW := Lib.hid (HBW.out.trans (hn.mono HBW.out.size))
          have hT8 := hn.size
          have HR8 := Lib.hid hsl
          have HF8 := Lib.hid hfr
          have HL8 := Lib.hid hfr.lt
          clear hn hsl hfr
          go_wp2_with (fail)
          have CA := fr_long _ h _ HX
          rw [← HAE.out, ← HGL.out] at CA
          refine CA.mono ?_
          clear CA
          (rintro e w' hr; obtain ⟨A18, c18, rfl, ⟨z, rfl⟩, hsl, hfr⟩ := hr)
          obtain ⟨W16, hWW16⟩ : ∃ X, X = later W15 z := ⟨_, rfl⟩
          have hn : Below W15.heap.size W15 W16 := by rw [hWW16]; exact below_later _ _
          rw [← hWW16] at hsl hfr ⊢
          clear hWW16
          replace H1 := H1.below hn
          replace q0 := (hn.cell (p := ⟨w.heap.size, 0, none⟩) hBl).trans q0
          replace q1 := (hn.cell (p := ⟨w.heap.size, 1, none⟩) hBl).trans q1
          replace q2 := (hn.cell (p := ⟨w.heap.size, 2, none⟩) hBl).trans q2
          replace q3 := (hn.cell (p := ⟨w.heap.size, 3, none⟩) hBl).trans q3
          replace q4 := (hn.cell (p := ⟨w.heap.size, 4, none⟩) hBl).trans q4
          replace hBl := Nat.lt_of_lt_of_le hBl hn.size
          replace hb1 := hb1.trans (hn.mono hb1.size)
          replace HX := HX.below hn
          replace x0 := (hn.cell (p := ⟨bx, 0, none⟩) hxl).trans x0
          replace x1 := (hn.cell (p := ⟨bx, 1, none⟩) hxl).trans x1
          replace x2 := (hn.cell (p := ⟨bx, 2, none⟩) hxl).trans x2
          replace x3 := (hn.cell (p := ⟨bx, 3, none⟩) hxl).trans x3
          replace x4 := (hn.cell (p := ⟨bx, 4, none⟩) hxl).trans x4
          replace hxl := Nat.lt_of_lt_of_le hxl hn.size
          have hB9 := HBW.out.size
          replace HT := Lib.hid (HT.out.below hn)
          replace HO := Lib.hid (HO.out.below hn)
          replace HS6 := Lib.hid (HS6.out.below hn)
          replace HS7 := Lib.hid (HS7.out.below hn)
          replace HS8 := Lib.hid (HS8.out.below hn)
          replace HS9 := Lib.hid (HS9.out.below hn)
          replace HS10 := Lib.hid (HS10.out.below hn)
          replace HR6 := Lib.hid (HR6.out.below hn)
          replace HF6 := Lib.hid (HF6.out.below hn)
          replace HR7 := Lib.hid (HR7.out.below hn)
          replace HF7 := Lib.hid (HF7.out.below hn)
          replace HR8 := Lib.hid (HR8.out.below hn)
          replace HF8 := Lib.hid (HF8.out.below hn)
          replace HBW := Lib.hid (HBW.out.trans (hn.mono HBW.out.size))
          have hT9 := hn.size
          have HR9 := Lib.hid hsl
          have HF9 := Lib.hid hfr
          have HL9 := Lib.hid hfr.lt
          clear hn hsl hfr
          go_wp2_with (fail)
          have CA := fr_leave _ h _ HX
          rw [← HFE.out, ← HVL.out] at CA
          refine CA.mono ?_
          clear CA
          (rintro e w' hr; obtain ⟨A19, c19, rfl, ⟨z, rfl⟩, hsl, hfr⟩ := hr)
          obtain ⟨W17, hWW17⟩ : ∃ X, X = later W16 z := ⟨_, rfl⟩
          have hn : Below W16.heap.size W16 W17 := by rw [hWW17]; exact below_later _ _
          rw [← hWW17] at hsl hfr ⊢
          clear hWW17
          replace H1 := H1.below hn
          replace q0 := (hn.cell (p := ⟨w.heap.size, 0, none⟩) hBl).trans q0
          replace q1 := (hn.cell (p := ⟨w.heap.size, 1, none⟩) hBl).trans q1
          replace q2 := (hn.cell (p := ⟨w.heap.size, 2, none⟩) hBl).trans q2
          replace q3 := (hn.cell (p := ⟨w.heap.size, 3, none⟩) hBl).trans q3
          replace q4 := (hn.cell (p := ⟨w.heap.size, 4, none⟩) hBl).trans q4
          replace hBl := Nat.lt_of_lt_of_le hBl hn.size
          replace hb1 := hb1.trans (hn.mono hb1.size)
          replace HX := HX.below hn
          replace x0 := (hn.cell (p := ⟨bx, 0, none⟩) hxl).trans x0
          replace x1 := (hn.cell (p := ⟨bx, 1, none⟩) hxl).trans x1
          replace x2 := (hn.cell (p := ⟨bx, 2, none⟩) hxl).trans x2
          replace x3 := (hn.cell (p := ⟨bx, 3, none⟩) hxl).trans x3
          replace x4 := (hn.cell (p := ⟨bx, 4, none⟩) hxl).trans x4
          replace hxl := Nat.lt_of_lt_of_le hxl hn.size
          have hB10 := HBW.out.size
          replace HT := Lib.hid (HT.out.below hn)
          replace HO := Lib.hid (HO.out.below hn)
          replace HS6 := Lib.hid (HS6.out.below hn)
          replace HS7 := Lib.hid (HS7.out.below hn)
          replace HS8 := Lib.hid (HS8.out.below hn)
          replace HS9 := Lib.hid (HS9.out.below hn)
          replace HS10 := Lib.hid (HS10.out.below hn)
          replace HR6 := Lib.hid (HR6.out.below hn)
          replace HF6 := Lib.hid (HF6.out.below hn)
          replace HR7 := Lib.hid (HR7.out.below hn)
          replace HF7 := Lib.hid (HF7.out.below hn)
          replace HR8 := Lib.hid (HR8.out.below hn)
          replace HF8 := Lib.hid (HF8.out.below hn)
          replace HR9 := Lib.hid (HR9.out.below hn)
          replace HF9 := Lib.hid (HF9.out.below hn)
          replace HBW := Lib.hid (HBW.out.trans (hn.mono HBW.out.size))
          have hT10 := hn.size
          have HR10 := Lib.hid hsl
          have HF10 := Lib.hid hfr
          have HL10 := Lib.hid hfr.lt
          clear hn hsl hfr
          go_wp2_with (fail)
          refine (ints_calls A10 A15 c10 c15 PL PL _ (by first | with_reducible exact HS6.out | exact HS6.out.below (below_later _ _)) (by first | with_reducible exact HR6.out | exact HR6.out.below (below_later _ _))).mono ?_
          rw [decide_eq_true rfl]
          (rintro e w' hr; first | ((with_reducible replace hr := Ret.up hr); obtain ⟨rfl, z, rfl⟩ := hr) | (obtain ⟨rfl, z, rfl⟩ := hr))
          go_wp2_with (fail)
          refine (ranges_calls A11 A16 c11 c16 CL _ (by first | with_reducible exact HS7.out | exact HS7.out.below (below_later _ _)) (by first | with_reducible exact HR7.out | exact HR7.out.below (below_later _ _))).mono ?_
          (rintro e w' hr; first | ((with_reducible replace hr := Ret.up hr); obtain ⟨rfl, z, rfl⟩ := hr) | (obtain ⟨rfl, z, rfl⟩ := hr))
          go_wp2_with (fail)
          refine (ranges_calls A12 A17 c12 c17 RL _ (by first | with_reducible exact HS8.out | exact HS8.out.below (below_later _ _)) (by first | with_reducible exact HR8.out | exact HR8.out.below (below_later _ _))).mono ?_
          (rintro e w' hr; first | ((with_reducible replace hr := Ret.up hr); obtain ⟨rfl, z, rfl⟩ := hr) | (obtain ⟨rfl, z, rfl⟩ := hr))
          go_wp2_with (fail)
          refine (ints_calls A13 A18 c13 c18 GL GL _ (by first | with_reducible exact HS9.out | exact HS9.out.below (below_later _ _)) (by first | with_reducible exact HR9.out | exact HR9.out.below (below_later _ _))).mono ?_
          rw [decide_eq_true rfl]
          (rintro e w' hr; first | ((with_reducible replace hr := Ret.up hr); obtain ⟨rfl, z, rfl⟩ := hr) | (obtain ⟨rfl, z, rfl⟩ := hr))
          go_wp2_with (fail)
          refine (ints_calls A14 A19 c14 c19 VL VL _ (by first | with_reducible exact HS10.out | exact HS10.out.below (below_later _ _)) (by first | with_reducible exact HR10.out | exact HR10.out.below (below_later _ _))).mono ?_
          rw [decide_eq_true rfl]
          (rintro e w' hr; first | ((with_reducible replace hr := Ret.up hr); obtain ⟨rfl, z, rfl⟩ := hr) | (obtain ⟨rfl, z, rfl⟩ := hr))
          obtain ⟨W18, hWW18⟩ : ∃ X, X = later W17 z := ⟨_, rfl⟩
          have hn : Below W17.heap.size W17 W18 := by rw [hWW18]; exact below_later _ _
          rw [← hWW18] 
          clear hWW18
          replace H1 := H1.below hn
          replace q0 := (hn.cell (p := ⟨w.heap.size, 0, none⟩) hBl).trans q0
          replace q1 := (hn.cell (p := ⟨w.heap.size, 1, none⟩) hBl).trans q1
          replace q2 := (hn.cell (p := ⟨w.heap.size, 2, none⟩) hBl).trans q2
          replace q3 := (hn.cell (p := ⟨w.heap.size, 3, none⟩) hBl).trans q3
          replace q4 := (hn.cell (p := ⟨w.heap.size, 4, none⟩) hBl).trans q4
          replace hBl := Nat.lt_of_lt_of_le hBl hn.size
          replace hb1 := hb1.trans (hn.mono hb1.size)
          replace HX := HX.below hn
          replace x0 := (hn.cell (p := ⟨bx, 0, none⟩) hxl).trans x0
          replace x1 := (hn.cell (p := ⟨bx, 1, none⟩) hxl).trans x1
          replace x2 := (hn.cell (p := ⟨bx, 2, none⟩) hxl).trans x2
          replace x3 := (hn.cell (p := ⟨bx, 3, none⟩) hxl).trans x3
          replace x4 := (hn.cell (p := ⟨bx, 4, none⟩) hxl).trans x4
          replace hxl := Nat.lt_of_lt_of_le hxl hn.size
          replace HT := Lib.hid (HT.out.below hn)
          replace HO := Lib.hid (HO.out.below hn)
          replace HS6 := Lib.hid (HS6.out.below hn)
          replace HS7 := Lib.hid (HS7.out.below hn)
          replace HS8 := Lib.hid (HS8.out.below hn)
          replace HS9 := Lib.hid (HS9.out.below hn)
          replace HS10 := Lib.hid (HS10.out.below hn)
          replace HR6 := Lib.hid (HR6.out.below hn)
          replace HF6 := Lib.hid (HF6.out.below hn)
          replace HR7 := Lib.hid (HR7.out.below hn)
          replace HF7 := Lib.hid (HF7.out.below hn)
          replace HR8 := Lib.hid (HR8.out.below hn)
          replace HF8 := Lib.hid (HF8.out.below hn)
          replace HR9 := Lib.hid (HR9.out.below hn)
          replace HF9 := Lib.hid (HF9.out.below hn)
          replace HR10 := Lib.hid (HR10.out.below hn)
          replace HF10 := Lib.hid (HF10.out.below hn)
          replace HBW := Lib.hid (HBW.out.trans (hn.mono HBW.out.size))
          clear hn
          go_wp2_with (fail)
          refine (over_calls A16 A15 c16 c15 CL PL wr.heap.size _ HR7.out.2.1 (HF7.out.le hB7) HR6.out.2.1 (HF6.out.le hB6)).mono ?_
          rintro e V1 ⟨rfl, hov, hkb⟩
          have HG8 := Lib.hid (HF8.out.over hkb (HL7.out.le (by omega)) (HL6.out.le (by omega)))
          have HG9 := Lib.hid (HF9.out.over hkb (HL7.out.le (by omega)) (HL6.out.le (by omega)))
          have HG10 := Lib.hid (HF10.out.over hkb (HL7.out.le (by omega)) (HL6.out.le (by omega)))
          have HOV := Lib.hid hov
          clear hov hkb
          go_wp2_with (fail)
          refine (over_calls A17 A18 c17 c18 RL GL wr.heap.size _ HR8.out.2.1 (HG8.out.le hB8) HR9.out.2.1 (HG9.out.le hB9)).mono ?_
          rintro e V2 ⟨rfl, hov2, hkb2⟩
          have HG11 := Lib.hid (HG10.out.over hkb2 (HL8.out.le (by omega)) (HL9.out.le (by omega)))
          have HOV2 := Lib.hid hov2
          clear hov2 hkb2
          go_wp2_with (fail)
          refine (over_calls none A19 0 c19 ([] : List Rg) VL wr.heap.size _ (Nat.zero_le _) (fun hh => absurd rfl hh) HR10.out.2.1 (HG11.out.le hB10)).mono ?_
          rintro e V3 ⟨rfl, hov3, -⟩
          have hfin : Below wr.heap.size wr V3 := HBW.out.trans (HOV.out.trans (HOV2.out.trans hov3))
          clear hov3 HOV HOV2 HBW HG8 HG9 HG10 HG11 HF6 HF7 HF8 HF9 HF10 HR6 HR7 HR8 HR9 HR10 HL6 HL7 HL8 HL9 HL10 hB6 hB7 hB8 hB9 hB10 hT6 hT7 hT8 hT9 hT10 HS6 HS7 HS8 HS9 HS10
          clear H1 HX q0 q1 q2 q3 q4 x0 x1 x2 x3 x4 hBl hxl hb1 HT HO
          have H1 := HS1.out.below hfin
          have HX := HSX.out.below hfin
          have HT := Lib.hid (HST.out.below hfin)
          have HO := Lib.hid (HSO.out.below hfin)
          have hb1 := HSB.out.trans (hfin.mono HSB.out.size)
          have q0 := (hfin.cell (p := ⟨w.heap.size, 0, none⟩) HQL.out).trans HQ0.out
          have q1 := (hfin.cell (p := ⟨w.heap.size, 1, none⟩) HQL.out).trans HQ1.out
          have q2 := (hfin.cell (p := ⟨w.heap.size, 2, none⟩) HQL.out).trans HQ2.out
          have q3 := (hfin.cell (p := ⟨w.heap.size, 3, none⟩) HQL.out).trans HQ3.out
          have q4 := (hfin.cell (p := ⟨w.heap.size, 4, none⟩) HQL.out).trans HQ4.out
          have hBl := Nat.lt_of_lt_of_le HQL.out hfin.size
          have x0 := (hfin.cell (p := ⟨bx, 0, none⟩) HXL.out).trans HX0.out
          have x1 := (hfin.cell (p := ⟨bx, 1, none⟩) HXL.out).trans HX1.out
          have x2 := (hfin.cell (p := ⟨bx, 2, none⟩) HXL.out).trans HX2.out
          have x3 := (hfin.cell (p := ⟨bx, 3, none⟩) HXL.out).trans HX3.out
          have x4 := (hfin.cell (p := ⟨bx, 4, none⟩) HXL.out).trans HX4.out
          have hxl := Nat.lt_of_lt_of_le HXL.out hfin.size
          have HFI := Lib.hid hfin
          clear hfin HS1 HSX HST HSO HSB HQ0 HQ1 HQ2 HQ3 HQ4 HX0 HX1 HX2 HX3 HX4 HQL HXL
          go_upto_region 22 with (fail)
          obtain ⟨L, hL⟩ : ∃ L : List Addr, L = [⟨w.heap.size, 0, none⟩, ⟨w.heap.size, 1, none⟩, ⟨w.heap.size, 2, none⟩, ⟨w.heap.size, 3, none⟩, ⟨w.heap.size, 4, none⟩, ⟨bx, 0, none⟩, ⟨bx, 1, none⟩, ⟨bx, 2, none⟩, ⟨bx, 3, none⟩, ⟨bx, 4, none⟩] := ⟨_, rfl⟩
          obtain ⟨C, hC⟩ : ∃ C, C = Same L V3 := ⟨_, rfl⟩
          obtain ⟨G, hG⟩ : ∃ G, G = held C V3.drew := ⟨_, rfl⟩
          have hfs : ∀ a ∈ L, ∀ u, V3.cell? a = some u → ∀ x, (G x).cell? a = some u := fun a ha u hu x => by
            rw [hG, hC]
            exact same_held hu ha x
          have hCb : ∀ V, Below V3.heap.size V3 V → C V := fun V hV => by
            rw [hC]
            refine same_below hV ?_
            rw [hL]
            simp only [List.mem_cons, List.not_mem_nil, or_false]
            rintro a (rfl | rfl | rfl | rfl | rfl | rfl | rfl | rfl | rfl | rfl) <;> assumption
          have f0 := hfs _ (by rw [hL]; simp) _ q0
          have f1 := hfs _ (by rw [hL]; simp) _ q1
          have f2 := hfs _ (by rw [hL]; simp) _ q2
          have f3 := hfs _ (by rw [hL]; simp) _ q3
          have f4 := hfs _ (by rw [hL]; simp) _ q4
          have g0 := hfs _ (by rw [hL]; simp) _ x0
          have g1 := hfs _ (by rw [hL]; simp) _ x1
          have g2 := hfs _ (by rw [hL]; simp) _ x2
          have g3 := hfs _ (by rw [hL]; simp) _ x3
          have g4 := hfs _ (by rw [hL]; simp) _ x4
          have HCB := Lib.hid hCb
          have hCd : C V3.drew := hCb _ (gD (Below.refl _ _))
          clear hfs hC hL hCb
          refine region_sk C [[], [], [1], [0, 2, 2], [3], [4, 3], [5], [5], [6, 7, 5, 5], [8, 5], [5, 9]] (.qs [0, 1] (.one 2 (.one 3 (.qs [4, 5, 6, 7] (.one 8 (.qs [9] .done)))))) 10 (by kernel_rfl) (by kernel_rfl) (by kernel_rfl) hCd ?_
          refine wpSk_qs (w0 := V3.drew) hCd ?_
          rw [← hG]
          clear hG
          simp only [List.filterMap_cons, List.filterMap_nil, List.getElem?_toArray, List.getElem?_cons_zero, List.getElem?_cons_succ]
          change wpQuiet _ _ _ _ [_, _] _
          repeat (go_big_quiet_step (fail))
          refine wpQuiet_nil ?_
          clear f0 f1 f2 f3 f4 g0 g1 g2 g3 g4
          refine wpSk_one rfl (fun K hK => ?_)
          go_simp
          refine (house_calls _ h _ (H1.below (gD (Below.refl _ _))) hl2 hl3 hl4).mono ?_
          rintro e w' ⟨v, rfl, ⟨z, rfl⟩, HH⟩
          have hbV : Below V3.heap.size V3 (later V3.drew z) := Below.trans (gD (Below.refl _ _)) (below_later V3.drew z)
          refine hK.out _ _ (HCB.out _ hbV) ?_
          clear hK K
          obtain ⟨V4, hV4⟩ : ∃ V4, V4 = later V3.drew z := ⟨_, rfl⟩
          rw [← hV4] at HH hbV ⊢
          clear hV4
          refine wpSk_one rfl (fun K hK => ?_)
          go_simp
          refine (equal_calls _ v h _ (HX.below hbV) HH).mono ?_
          (rintro e w' hr; obtain ⟨rfl, z, rfl⟩ := hr)
          have hbU : Below V3.heap.size V3 (later V4 z) := later_below hbV hbV.size
          refine hK.out _ _ (HCB.out _ hbU) ?_
          clear hK K HH
          obtain ⟨V5, hV5⟩ : ∃ V5, V5 = later V4 z := ⟨_, rfl⟩
          rw [← hV5] at hbU ⊢
          clear hV5 hbV
          obtain ⟨G, hG⟩ : ∃ G, G = held C V5 := ⟨_, rfl⟩
          refine wpSk_qs (w0 := V5) (HCB.out _ hbU) ?_
          rw [← hG]
          clear hG
          simp only [List.filterMap_cons, List.filterMap_nil, List.getElem?_toArray, List.getElem?_cons_zero, List.getElem?_cons_succ]
          change wpQuiet _ _ _ _ [_, _, _, _] _
          repeat (go_big_quiet_step (fail))
          refine wpQuiet_nil ?_
          refine wpSk_one rfl (fun K hK => ?_)
          go_simp
          refine (ints_calls A9 A c9 c l l _ (HO.out.below hbU) (HT.out.below hbU)).mono ?_
          rw [decide_eq_true rfl]
          (rintro e w' hr; obtain ⟨rfl, z, rfl⟩ := hr)
          have hbT : Below V3.heap.size V3 (later V5 z) := later_below hbU hbU.size
          refine hK.out _ _ (HCB.out _ hbT) ?_
          clear hK K
          obtain ⟨V6, hV6⟩ : ∃ V6, V6 = later V5 z := ⟨_, rfl⟩
          rw [← hV6] at hbT ⊢
          clear hV6 hbU
          obtain ⟨G, hG⟩ : ∃ G, G = held C V6 := ⟨_, rfl⟩
          refine wpSk_qs (w0 := V6) (HCB.out _ hbT) ?_
          rw [← hG]
          clear hG
          simp only [List.filterMap_cons, List.filterMap_nil, List.getElem?_toArray, List.getElem?_cons_zero, List.getElem?_cons_succ]
          change wpQuiet _ _ _ _ [_] _
          repeat (go_big_quiet_step (fail))
          refine wpQuiet_nil ?_
          refine wpSk_done rfl (fun K hK => ?_)
          go_simp
          refine hK.out _ _ (noPanic_mk ?_)
          clear hK K
          go_wp2
          go_roundw
          case rel => exact ⟨k + 1, by omega, by go_num, HB.out.trans ((HFI.out.trans (hbT.mono HFI.out.size)).mono HB.out.size)⟩
          case measure => simp [intOf]; omega
        · obtain rfl : k = 2 := by omega
          go_wp2_with (fail)
          refine (awake_calls _).mono ?_
          (rintro e w' hr; first | ((with_reducible replace hr := Ret.up hr); obtain ⟨rfl, z, rfl⟩ := hr) | (obtain ⟨rfl, z, rfl⟩ := hr))
          go_wp2
          go_ret
          exact ret_mk rfl (hb1.trans (Below.mono (later_below hb hb.size) hb1.size))
end Go.Proofs.Ytcngnfnljkkjgaa
