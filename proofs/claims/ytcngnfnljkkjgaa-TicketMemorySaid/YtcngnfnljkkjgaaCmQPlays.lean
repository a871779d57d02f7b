/-
TicketPlays: the walk.
-/
import Derived.Test.YtcngnfnljkkjgaaCmAr
import Derived.Test.YtcngnfnljkkjgaaCmPi
import Derived.Test.YtcngnfnljkkjgaaCmQFirst
namespace Go.Proofs.Ytcngnfnljkkjgaa
open Go.RowKit
attribute [local go_sem] cell_later frozen_later lt_later le_later

theorem thin_parts3 {h : Hs} (ht : h.thinB = true) : h.clocks.length ≤ 1000 ∧ h.tickets.length ≤ 1000 ∧ h.clips.length ≤ 1000 := by
  obtain ⟨h1, h2, h3⟩ := thin_iff.1 ht
  exact ⟨by omega, by omega, by omega⟩
theorem plays_cases (h : Hs) (l : List Int) : (h.fault ≠ 0 ∧ h.playE l = h.fault ∧ h.playL l = [] ∧ h.proveB l = false) ∨ (h.fault = 0 ∧ areErrB h l = false ∧ h.playE l = 2 ∧ h.playL l = [] ∧ h.proveB l = false) ∨
    (h.fault = 0 ∧ areErrB h l = true ∧ h.playE l = 0 ∧ h.playL l = h.clips.map (tru l) ∧ h.proveB l = h.risingB l []) := by
  by_cases hf : h.fault = 0
  · cases ha : areErrB h l with
    | false =>
      have h1 : h.playE l = 2 := by simp [Hs.playE, hf, ha]
      exact .inr (.inl ⟨hf, rfl, h1, by rw [Hs.playL, h1]; rfl, by simp [Hs.proveB, ha]⟩)
    | true =>
      have h1 : h.playE l = 0 := by simp [Hs.playE, hf, ha]
      exact .inr (.inr ⟨hf, rfl, h1, by rw [Hs.playL, if_pos h1], by simp [Hs.proveB, hf, ha]⟩)
  · have h1 : h.playE l = h.fault := by simp [Hs.playE, hf]
    exact .inl ⟨hf, h1, by rw [Hs.playL, if_neg (by rw [h1]; exact hf)], by simp [Hs.proveB, hf]⟩

set_option maxRecDepth 100000 in
set_option maxHeartbeats 4000000 in
theorem lawplays_calls (v : Value) (h : Hs) (A : Option Addr) (c : Nat) (l : List Int) (w : World) (H : HsAt w v h) (HL0 : SlA w 1 gI A c l) (hz0 : A = none → c = 0) :
    Calls Try.prog 20 #[v, .slice A l.length c] w (Ret (.bool true) w) := by
  have H0 := H
  obtain ⟨A2, c2, A3, c3, A4, c4, rfl, H2, H3, H4⟩ := H
  obtain ⟨W1, hW1⟩ : ∃ W1, W1 = w.alloc (.cells #[.int .i64 h.hour, .int .i64 h.grace, .slice A2 h.clocks.length c2, .slice A3 h.tickets.length c3, .slice A4 h.clips.length c4] 26) := ⟨_, rfl⟩
  have hb1 : Below w.heap.size w W1 := by rw [hW1]; exact gA (Below.refl _ _)
  have hB : BlkAt W1 w.heap.size 26 [.int .i64 h.hour, .int .i64 h.grace, .slice A2 h.clocks.length c2, .slice A3 h.tickets.length c3, .slice A4 h.clips.length c4] := by rw [hW1]; exact BlkAt.new _ _ _
  have H1 := H0.below hb1
  have q0 := hB.cell 0
  have q1 := hB.cell 1
  have q2 := hB.cell 2
  have q3 := hB.cell 3
  have q4 := hB.cell 4
  simp only [List.getElem?_cons_zero, List.getElem?_cons_succ] at q0 q1 q2 q3 q4
  have hBl := hB.lt
  have hlm := HL0.2.1
  have HZ := Lib.hid hz0
  have HL := Lib.hid (HL0.below hb1)
  clear hz0 HL0
  cases hr : h.thinB with
  | false =>
    go_enter Try.func20, Try.ntmps20
    go_wp2_with (fail)
    rw [← hW1]
    clear hW1
    refine (thin_calls _ h _ H1).mono ?_
    (rintro e w' hr; first | ((with_reducible replace hr := Ret.up hr); obtain ⟨rfl, z, rfl⟩ := hr) | (obtain ⟨rfl, z, rfl⟩ := hr))
    go_wp2_with (fail)
    refine (awake_calls _).mono ?_
    (rintro e w' hr; first | ((with_reducible replace hr := Ret.up hr); obtain ⟨rfl, z, rfl⟩ := hr) | (obtain ⟨rfl, z, rfl⟩ := hr))
    go_wp2
    go_ret
    exact ret_mk rfl (later_below hb1 hb1.size)
  | true =>
    obtain ⟨hl2, hl3, hl4⟩ := thin_parts3 hr
    by_cases h30 : 30 < l.length
    · have h31 : (30 : Int) < (l.length : Int) := by omega
      go_enter Try.func20, Try.ntmps20
      go_wp2_with (fail)
      rw [← hW1]
      clear hW1
      refine (thin_calls _ h _ H1).mono ?_
      (rintro e w' hr; first | ((with_reducible replace hr := Ret.up hr); obtain ⟨rfl, z, rfl⟩ := hr) | (obtain ⟨rfl, z, rfl⟩ := hr))
      go_wp2_with (fail)
      refine (awake_calls _).mono ?_
      (rintro e w' hr; first | ((with_reducible replace hr := Ret.up hr); obtain ⟨rfl, z, rfl⟩ := hr) | (obtain ⟨rfl, z, rfl⟩ := hr))
      go_wp2
      go_ret
      exact ret_mk rfl (later_below hb1 hb1.size)
    · have h31 : (l.length : Int) ≤ 30 := by omega
      have hll : l.length ≤ 1000 := by omega
      have hpc := plays_cases h l
      obtain ⟨PE, hPE⟩ : ∃ x, x = h.playE l := ⟨_, rfl⟩
      obtain ⟨PL, hPL⟩ : ∃ x, x = h.playL l := ⟨_, rfl⟩
      obtain ⟨PB, hPB⟩ : ∃ x, x = h.proveB l := ⟨_, rfl⟩
      obtain ⟨FA, hFA⟩ : ∃ x, x = h.fault := ⟨_, rfl⟩
      have HPC := Lib.hid hpc
      have HPE := Lib.hid hPE
      have HPL := Lib.hid hPL
      have HPB := Lib.hid hPB
      have HFA := Lib.hid hFA
      clear hpc hPE hPL hPB hFA
      go_enter Try.func20, Try.ntmps20
      go_wp2_with (fail)
      rw [← hW1]
      clear hW1
      refine (thin_calls _ h _ H1).mono ?_
      (rintro e w' hr; first | ((with_reducible replace hr := Ret.up hr); obtain ⟨rfl, z, rfl⟩ := hr) | (obtain ⟨rfl, z, rfl⟩ := hr))
      go_wp2_with (fail)
      refine (house_calls _ h _ (by first | with_reducible exact H1 | exact H1.below (below_later _ _)) hl2 hl3 hl4).mono ?_
      (rintro e w' hr; first | ((with_reducible replace hr := RetHs.up hr); obtain ⟨v, rfl, ⟨z, rfl⟩, HH⟩ := hr) | (obtain ⟨v, rfl, ⟨z, rfl⟩, HH⟩ := hr))
      go_wp2_with (fail)
      obtain ⟨W2, hWW2⟩ : ∃ X, X = later W1 z := ⟨_, rfl⟩
      have hn : Below W1.heap.size W1 W2 := by rw [hWW2]; exact below_later _ _
      rw [← hWW2] at HH ⊢
      clear hWW2
      replace H1 := H1.below hn
      replace q0 := (hn.cell (p := ⟨w.heap.size, 0, none⟩) hBl).trans q0
      replace q1 := (hn.cell (p := ⟨w.heap.size, 1, none⟩) hBl).trans q1
      replace q2 := (hn.cell (p := ⟨w.heap.size, 2, none⟩) hBl).trans q2
      replace q3 := (hn.cell (p := ⟨w.heap.size, 3, none⟩) hBl).trans q3
      replace q4 := (hn.cell (p := ⟨w.heap.size, 4, none⟩) hBl).trans q4
      replace hBl := Nat.lt_of_lt_of_le hBl hn.size
      replace hb1 := hb1.trans (hn.mono hb1.size)
      replace HL := Lib.hid (HL.out.below hn)
      clear hn
      refine (listF_calls A c l W2 HL.out hll HZ.out).mono ?_
      (rintro e w' ⟨AM, cM, rfl, ⟨z, rfl⟩, hsm, -, -⟩)
      have CA := play_calls v h AM cM l (later W2 z) (HH.below (below_later _ _)) hsm
      rw [← HPE.out, ← HPL.out] at CA
      have CA := Lib.hid CA
      clear HH hsm
      go_wp2_with (fail)
      refine CA.out.mono ?_
      clear CA
      (rintro e w' hr; replace hr := RetSlN.up hr; obtain ⟨A5, c5, rfl, ⟨z, rfl⟩, hsl⟩ := hr)
      obtain ⟨W3, hWW3⟩ : ∃ X, X = later W2 z := ⟨_, rfl⟩
      have hn : Below W2.heap.size W2 W3 := by rw [hWW3]; exact below_later _ _
      rw [← hWW3] at hsl ⊢
      clear hWW3
      replace H1 := H1.below hn
      replace q0 := (hn.cell (p := ⟨w.heap.size, 0, none⟩) hBl).trans q0
      replace q1 := (hn.cell (p := ⟨w.heap.size, 1, none⟩) hBl).trans q1
      replace q2 := (hn.cell (p := ⟨w.heap.size, 2, none⟩) hBl).trans q2
      replace q3 := (hn.cell (p := ⟨w.heap.size, 3, none⟩) hBl).trans q3
      replace q4 := (hn.cell (p := ⟨w.heap.size, 4, none⟩) hBl).trans q4
      replace hBl := Nat.lt_of_lt_of_le hBl hn.size
      replace hb1 := hb1.trans (hn.mono hb1.size)
      replace HL := Lib.hid (HL.out.below hn)
      have hPm := hsl.2.1
      have HS3 := Lib.hid hsl
      clear hn hsl
      go_wp2_with (fail)
      refine (house_calls _ h _ (by first | with_reducible exact H1 | exact H1.below (below_later _ _)) hl2 hl3 hl4).mono ?_
      (rintro e w' hr; first | ((with_reducible replace hr := RetHs.up hr); obtain ⟨v, rfl, ⟨z, rfl⟩, HH⟩ := hr) | (obtain ⟨v, rfl, ⟨z, rfl⟩, HH⟩ := hr))
      go_wp2_with (fail)
      obtain ⟨W4, hWW4⟩ : ∃ X, X = later W3 z := ⟨_, rfl⟩
      have hn : Below W3.heap.size W3 W4 := by rw [hWW4]; exact below_later _ _
      rw [← hWW4] at HH ⊢
      clear hWW4
      replace H1 := H1.below hn
      replace q0 := (hn.cell (p := ⟨w.heap.size, 0, none⟩) hBl).trans q0
      replace q1 := (hn.cell (p := ⟨w.heap.size, 1, none⟩) hBl).trans q1
      replace q2 := (hn.cell (p := ⟨w.heap.size, 2, none⟩) hBl).trans q2
      replace q3 := (hn.cell (p := ⟨w.heap.size, 3, none⟩) hBl).trans q3
      replace q4 := (hn.cell (p := ⟨w.heap.size, 4, none⟩) hBl).trans q4
      replace hBl := Nat.lt_of_lt_of_le hBl hn.size
      replace hb1 := hb1.trans (hn.mono hb1.size)
      replace HL := Lib.hid (HL.out.below hn)
      replace HS3 := Lib.hid (HS3.out.below hn)
      clear hn
      refine (listF_calls A c l W4 HL.out hll HZ.out).mono ?_
      (rintro e w' ⟨AM, cM, rfl, ⟨z, rfl⟩, hsm, -, -⟩)
      have CA := prove_calls v h AM cM l (later W4 z) (HH.below (below_later _ _)) hsm
      rw [← HPB.out] at CA
      have CA := Lib.hid CA
      clear HH hsm
      go_wp2_with (fail)
      refine CA.out.mono ?_
      clear CA
      (rintro e w' hr; first | ((with_reducible replace hr := Ret.up hr); obtain ⟨rfl, z, rfl⟩ := hr) | (obtain ⟨rfl, z, rfl⟩ := hr))
      have CF := law_fault_calls _ h (later W4 z) (H1.below (below_later W4 z)) hl4
      rw [← HFA.out] at CF
      have CF := Lib.hid CF
      go_wp2_with (fail)
      refine CF.out.mono ?_
      clear CF
      (rintro e w' hr; first | ((with_reducible replace hr := Ret.up hr); obtain ⟨rfl, z, rfl⟩ := hr) | (obtain ⟨rfl, z, rfl⟩ := hr))
      go_wp2_with (fail)
      refine (house_calls _ h _ (by first | with_reducible exact H1 | exact H1.below (below_later _ _)) hl2 hl3 hl4).mono ?_
      (rintro e w' hr; first | ((with_reducible replace hr := RetHs.up hr); obtain ⟨v, rfl, ⟨z, rfl⟩, HH⟩ := hr) | (obtain ⟨v, rfl, ⟨z, rfl⟩, HH⟩ := hr))
      go_wp2_with (fail)
      have CA := check_calls v h _ HH
      rw [← HFA.out] at CA
      refine CA.mono ?_
      clear CA HH
      (rintro e w' hr; first | ((with_reducible replace hr := Ret.up hr); obtain ⟨rfl, z, rfl⟩ := hr) | (obtain ⟨rfl, z, rfl⟩ := hr))
      obtain ⟨W5, hWW5⟩ : ∃ X, X = later W4 z := ⟨_, rfl⟩
      have hn : Below W4.heap.size W4 W5 := by rw [hWW5]; exact below_later _ _
      rw [← hWW5] 
      clear hWW5
      replace H1 := H1.below hn
      replace q0 := (hn.cell (p := ⟨w.heap.size, 0, none⟩) hBl).trans q0
      replace q1 := (hn.cell (p := ⟨w.heap.size, 1, none⟩) hBl).trans q1
      replace q2 := (hn.cell (p := ⟨w.heap.size, 2, none⟩) hBl).trans q2
      replace q3 := (hn.cell (p := ⟨w.heap.size, 3, none⟩) hBl).trans q3
      replace q4 := (hn.cell (p := ⟨w.heap.size, 4, none⟩) hBl).trans q4
      replace hBl := Nat.lt_of_lt_of_le hBl hn.size
      replace hb1 := hb1.trans (hn.mono hb1.size)
      replace HL := Lib.hid (HL.out.below hn)
      replace HS3 := Lib.hid (HS3.out.below hn)
      clear hn
      rcases HPC.out with ⟨hf, k1, k2, k3⟩ | ⟨hf, ha, k1, k2, k3⟩ | ⟨hf, ha, k1, k2, k3⟩
      · rw [← HFA.out] at hf k1
        obtain rfl : PE = FA := HPE.out.trans k1
        obtain rfl : PL = [] := HPL.out.trans k2
        obtain rfl : PB = false := HPB.out.trans k3
        have hf1 : (PE != 0) = true := by simpa using hf
        have hf2 : (PE == 0) = false := by simpa using hf
        clear hf k1 k2 k3 hPm
        simp only [List.length_nil]
        go_wp2_with (fail)
        refine (awake_calls _).mono ?_
        (rintro e w' hr; first | ((with_reducible replace hr := Ret.up hr); obtain ⟨rfl, z, rfl⟩ := hr) | (obtain ⟨rfl, z, rfl⟩ := hr))
        go_wp2
        go_ret
        exact ret_mk rfl (later_below hb1 hb1.size)
      · rw [← HFA.out] at hf
        obtain rfl : FA = 0 := hf
        obtain rfl : PE = 2 := HPE.out.trans k1
        obtain rfl : PL = [] := HPL.out.trans k2
        obtain rfl : PB = false := HPB.out.trans k3
        have C0 := refistruth_calls _ h A c l W5 H1 HL.out HFA.out.symm
        have C1 := fun x => refare_calls _ h A c l (later W5 x) (H1.below (below_later W5 x)) (HL.out.below (below_later W5 x)) hl2
        rw [ha] at C0 C1
        rw [Bool.false_and] at C0
        have C0 := Lib.hid C0
        have C1 := Lib.hid C1
        clear k1 k2 k3 hPm ha
        simp only [List.length_nil]
        go_wp2_with (fail)
        refine C0.out.mono ?_
        clear C0
        (rintro e w' hr; first | ((with_reducible replace hr := Ret.up hr); obtain ⟨rfl, z, rfl⟩ := hr) | (obtain ⟨rfl, z, rfl⟩ := hr))
        go_wp2_with (fail)
        refine (C1.out _).mono ?_
        clear C1
        (rintro e w' hr; first | ((with_reducible replace hr := Ret.up hr); obtain ⟨rfl, z, rfl⟩ := hr) | (obtain ⟨rfl, z, rfl⟩ := hr))
        go_wp2_with (fail)
        refine (awake_calls _).mono ?_
        (rintro e w' hr; first | ((with_reducible replace hr := Ret.up hr); obtain ⟨rfl, z, rfl⟩ := hr) | (obtain ⟨rfl, z, rfl⟩ := hr))
        go_wp2
        go_ret
        exact ret_mk rfl (later_below hb1 hb1.size)
      · rw [← HFA.out] at hf
        obtain rfl : FA = 0 := hf
        obtain rfl : PE = 0 := HPE.out.trans k1
        obtain rfl : PL = h.clips.map (tru l) := HPL.out.trans k2
        have C0 := refistruth_calls _ h A c l W5 H1 HL.out HFA.out.symm
        have C1 := fun x => refare_calls _ h A c l (later W5 x) (H1.below (below_later W5 x)) (HL.out.below (below_later W5 x)) hl2
        rw [ha] at C0 C1
        rw [Bool.true_and, ← k3, ← HPB.out] at C0
        have C0 := Lib.hid C0
        have C1 := Lib.hid C1
        have HAR := Lib.hid ha
        clear k1 k2 k3 hPm ha
        rw [List.length_map]
        cases PB
        all_goals
          go_wp2_with (fail)
          refine C0.out.mono ?_
          clear C0
          (rintro e w' hr; first | ((with_reducible replace hr := Ret.up hr); obtain ⟨rfl, z, rfl⟩ := hr) | (obtain ⟨rfl, z, rfl⟩ := hr))
          go_wp2_with (fail)
          refine (C1.out _).mono ?_
          clear C1
          (rintro e w' hr; first | ((with_reducible replace hr := Ret.up hr); obtain ⟨rfl, z, rfl⟩ := hr) | (obtain ⟨rfl, z, rfl⟩ := hr))
          obtain ⟨W6, hWW6⟩ : ∃ X, X = later W5 z := ⟨_, rfl⟩
          have hn : Below W5.heap.size W5 W6 := by rw [hWW6]; exact below_later _ _
          rw [← hWW6] 
          clear hWW6
          replace H1 := H1.below hn
          replace q0 := (hn.cell (p := ⟨w.heap.size, 0, none⟩) hBl).trans q0
          replace q1 := (hn.cell (p := ⟨w.heap.size, 1, none⟩) hBl).trans q1
          replace q2 := (hn.cell (p := ⟨w.heap.size, 2, none⟩) hBl).trans q2
          replace q3 := (hn.cell (p := ⟨w.heap.size, 3, none⟩) hBl).trans q3
          replace q4 := (hn.cell (p := ⟨w.heap.size, 4, none⟩) hBl).trans q4
          replace hBl := Nat.lt_of_lt_of_le hBl hn.size
          replace hb1 := hb1.trans (hn.mono hb1.size)
          replace HL := Lib.hid (HL.out.below hn)
          replace HS3 := Lib.hid (HS3.out.below hn)
          clear hn
          have hm := are_mem HFA.out.symm HAR.out
          have hok := prods_ok (fun _ hr => fault_clock HFA.out.symm hr) hm
          have hln := prods_length _ _ hm
          have HOK := Lib.hid (And.intro hok hln)
          clear hm hok hln
          go_wp2
          go_loopw [9] (fun i wr => ∃ k : Nat, k ≤ h.clips.length ∧ i = .int .i64 k ∧ Below W6.heap.size W6 wr) (fun i _ => h.clips.length - (intOf i).toNat)
          case atStart => exact ⟨0, Nat.zero_le _, rfl, Below.refl _ _⟩
          case round =>
            obtain ⟨k, hk, rfl, hb⟩ := hrel
            by_cases hlt : k < h.clips.length
            · have hlt1 : (k : Int) < (h.clips.length : Int) := by omega
              have hk0 : (0 : Int) ≤ (k : Int) := Int.natCast_nonneg _
              obtain ⟨cl, hcl⟩ : ∃ c, h.clips[k]? = some c := ⟨_, List.getElem?_eq_getElem hlt⟩
              obtain ⟨b7, o7, ym, rfl, hb7l, hym, sm0⟩ := (HS3.out.below hb).atI (i := k) (by rw [List.length_map]; exact hlt)
              rw [List.getElem?_map, hcl] at hym
              have hym : tru l cl = ym := Option.some.inj hym
              have hcv := fault_clips HFA.out.symm (List.mem_of_getElem? hcl)
              have C2 := fun x => reftrue_calls _ h A c l k cl (later wr x) ((H1.below hb).below (below_later wr x)) ((HL.out.below hb).below (below_later wr x)) hcl (by rw [HOK.out.2]; exact ⟨hcv.2.2.1, hcv.2.2.2.1⟩) hcv.2.2.2.2 HOK.out.1
              rw [hym] at C2
              have C2 := Lib.hid C2
              have hyn : (ym != ym) = false := by simp
              have p0 := (hb.cell (p := ⟨w.heap.size, 0, none⟩) hBl).trans q0
              have p1 := (hb.cell (p := ⟨w.heap.size, 1, none⟩) hBl).trans q1
              have p2 := (hb.cell (p := ⟨w.heap.size, 2, none⟩) hBl).trans q2
              have p3 := (hb.cell (p := ⟨w.heap.size, 3, none⟩) hBl).trans q3
              have p4 := (hb.cell (p := ⟨w.heap.size, 4, none⟩) hBl).trans q4
              have hBr := Nat.lt_of_lt_of_le hBl hb.size
              clear hcl hym hcv
              go_wp2
              refine region_later (by kernel_rfl) (by kernel_rfl) ?_
              repeat (go_big_quiet_step (first | with_reducible exact quiet_ret (C2.out _)))
              refine wpQuiet_nil ?_
              rintro W' ⟨u, rfl⟩
              go_wp2
              go_roundw
              case rel => exact ⟨k + 1, by omega, by go_num, later_below hb hb.size⟩
              case measure => simp [intOf]; omega
            · obtain rfl : k = h.clips.length := by omega
              go_wp2_with (fail)
              refine (awake_calls _).mono ?_
              (rintro e w' hr; first | ((with_reducible replace hr := Ret.up hr); obtain ⟨rfl, z, rfl⟩ := hr) | (obtain ⟨rfl, z, rfl⟩ := hr))
              go_wp2
              go_ret
              exact ret_mk rfl (hb1.trans (Below.mono (later_below hb hb.size) hb1.size))
end Go.Proofs.Ytcngnfnljkkjgaa
