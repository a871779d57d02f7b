/-
TicketTubs: the walk.
-/
import Derived.Test.YtcngnfnljkkjgaaCmPi
import Derived.Test.YtcngnfnljkkjgaaCmV
import Derived.Test.YtcngnfnljkkjgaaCmY
import Derived.Test.YtcngnfnljkkjgaaCmS
import Derived.Test.YtcngnfnljkkjgaaCmO
import Derived.Test.YtcngnfnljkkjgaaCmQFirst
import Derived.Deep.Cut
namespace Go.Proofs.Ytcngnfnljkkjgaa
open Go.RowKit
attribute [local go_sem] cell_later frozen_later lt_later le_later

theorem rem_nat {n : Nat} (c : Int) (hn : 0 < n) : ∃ k : Nat, (k : Int) = c % (n : Int) ∧ k < n := by
  have h1 := Int.emod_nonneg c (show (n : Int) ≠ 0 by omega)
  have h2 := Int.emod_lt_of_pos c (show (0 : Int) < (n : Int) by omega)
  exact ⟨(c % (n : Int)).toNat, by omega, by omega⟩
theorem free_at {h : Hs} (ha : h.askE 0 = 0) {tub : Int} (ht : 0 ≤ tub ∧ tub ≤ 8) : (h.openB tub = true ∧ h.freeE tub = 8) ∨ (h.openB tub = false ∧ h.freeE tub = 0 ∧ h.freeV tub = ⟨loB h.truths fun e => h.fromB e tub, hiB h.truths fun e => h.fromB e tub⟩) := by
  obtain ⟨hf, -, hne⟩ := askE_zero ha
  have hin : inB tub 0 8 = true := inB_iff.2 ht
  cases ho : h.openB tub with
  | true =>
    refine .inl ⟨rfl, ?_⟩
    simp [Hs.freeE, Hs.freeDue, hin, ho, Hs.askE, hf]
  | false =>
    have h0 : h.freeE tub = 0 := by simp [Hs.freeE, Hs.freeDue, hin, ho, ha]
    exact .inr ⟨rfl, h0, by rw [Hs.freeV, if_pos h0]⟩

set_option maxRecDepth 100000 in
set_option maxHeartbeats 4000000 in
theorem lawtubs_calls (v : Value) (h : Hs) (av bv wv : Int) (w : World) (H : HsAt w v h) (hav : 0 ≤ av ∧ av ≤ 255) (hbv : 0 ≤ bv ∧ bv ≤ 255) (hwv : 0 ≤ wv ∧ wv ≤ 65535) :
    Calls Try.prog 16 #[v, .int .u8 av, .int .u8 bv, .int .u16 wv] w (Ret (.bool true) w) := by
  have H0 := H
  obtain ⟨A2, c2, A3, c3, A4, c4, rfl, H2, H3, H4⟩ := H
  obtain ⟨W1, hW1⟩ : ∃ W1, W1 = w.alloc (.cells #[.int .i64 h.hour, .int .i64 h.grace, .slice A2 h.clocks.length c2, .slice A3 h.tickets.length c3, .slice A4 h.clips.length c4] 26) := ⟨_, rfl⟩
  have hb1 : Below w.heap.size w W1 := by rw [hW1]; exact gA (Below.refl _ _)
  have hB : BlkAt W1 w.heap.size 26 [.int .i64 h.hour, .int .i64 h.grace, .slice A2 h.clocks.length c2, .slice A3 h.tickets.length c3, .slice A4 h.clips.length c4] := by rw [hW1]; exact BlkAt.new _ _ _
  have H1 := H0.below hb1
  have q0 := hB.cell 0
  have q1 := hB.cell 1
  have q2 := hB.cell 2
  have q3 := hB.cell 3
  have q4 := hB.cell 4
  simp only [List.getElem?_cons_zero, List.getElem?_cons_succ] at q0 q1 q2 q3 q4
  have hBl := hB.lt
  cases hr : h.readyB with
  | false =>
    go_enter Try.func16, Try.ntmps16
    go_wp2_with (fail)
    rw [← hW1]
    clear hW1
    refine (ready_calls _ h _ H1).mono ?_
    (rintro e w' hr; first | ((with_reducible replace hr := Ret.up hr); obtain ⟨rfl, z, rfl⟩ := hr) | (obtain ⟨rfl, z, rfl⟩ := hr))
    go_wp2_with (fail)
    refine (awake_calls _).mono ?_
    (rintro e w' hr; first | ((with_reducible replace hr := Ret.up hr); obtain ⟨rfl, z, rfl⟩ := hr) | (obtain ⟨rfl, z, rfl⟩ := hr))
    go_wp2
    go_ret
    exact ret_mk rfl (later_below hb1 hb1.size)
  | true =>
    obtain ⟨hl2, hl3, hl4, hf, hl10⟩ := ready_of hr
    by_cases ht2 : h.tickets.length < 2
    · have ht3 : (h.tickets.length : Int) < 2 := by omega
      go_enter Try.func16, Try.ntmps16
      go_wp2_with (fail)
      rw [← hW1]
      clear hW1
      refine (ready_calls _ h _ H1).mono ?_
      (rintro e w' hr; first | ((with_reducible replace hr := Ret.up hr); obtain ⟨rfl, z, rfl⟩ := hr) | (obtain ⟨rfl, z, rfl⟩ := hr))
      go_wp2_with (fail)
      refine (awake_calls _).mono ?_
      (rintro e w' hr; first | ((with_reducible replace hr := Ret.up hr); obtain ⟨rfl, z, rfl⟩ := hr) | (obtain ⟨rfl, z, rfl⟩ := hr))
      go_wp2
      go_ret
      exact ret_mk rfl (later_below hb1 hb1.size)
    · have ht3 : (2 : Int) ≤ (h.tickets.length : Int) := by omega
      have htp : (0 : Int) < (h.tickets.length : Int) := by omega
      obtain ⟨a, hka, hal⟩ := rem_nat (n := h.tickets.length) av (by omega)
      obtain ⟨b, hkb, hbl⟩ := rem_nat (n := h.tickets.length) bv (by omega)
      have HKA := Lib.hid hka
      have HKB := Lib.hid hkb
      have HF := Lib.hid hf
      have htt := (valid_parts hf).2.2
      have ht30 : h.tickets.length ≤ 30 := by have := (small_iff.1 (fault_zero hf).1).2.1; omega
      have HTT := Lib.hid htt
      clear hka hkb hf htt
      go_enter Try.func16, Try.ntmps16
      go_wp2_with (fail)
      rw [← hW1]
      clear hW1
      refine (ready_calls _ h _ H1).mono ?_
      (rintro e w' hr; first | ((with_reducible replace hr := Ret.up hr); obtain ⟨rfl, z, rfl⟩ := hr) | (obtain ⟨rfl, z, rfl⟩ := hr))
      obtain ⟨W2, hWW2⟩ : ∃ X, X = later W1 z := ⟨_, rfl⟩
      have hn : Below W1.heap.size W1 W2 := by rw [hWW2]; exact below_later _ _
      rw [← hWW2] 
      clear hWW2
      replace H1 := H1.below hn
      replace q0 := (hn.cell (p := ⟨w.heap.size, 0, none⟩) hBl).trans q0
      replace q1 := (hn.cell (p := ⟨w.heap.size, 1, none⟩) hBl).trans q1
      replace q2 := (hn.cell (p := ⟨w.heap.size, 2, none⟩) hBl).trans q2
      replace q3 := (hn.cell (p := ⟨w.heap.size, 3, none⟩) hBl).trans q3
      replace q4 := (hn.cell (p := ⟨w.heap.size, 4, none⟩) hBl).trans q4
      replace hBl := Nat.lt_of_lt_of_le hBl hn.size
      replace hb1 := hb1.trans (hn.mono hb1.size)
      clear hn
      go_wp2
      refine region_later (by kernel_rfl) (by kernel_rfl) ?_
      repeat (go_big_quiet_step (fail))
      refine wpQuiet_nil ?_
      rintro W' ⟨u, rfl⟩
      obtain ⟨W3, hWW3⟩ : ∃ X, X = later W2 u := ⟨_, rfl⟩
      have hn : Below W2.heap.size W2 W3 := by rw [hWW3]; exact below_later _ _
      rw [← hWW3] 
      clear hWW3
      replace H1 := H1.below hn
      replace q0 := (hn.cell (p := ⟨w.heap.size, 0, none⟩) hBl).trans q0
      replace q1 := (hn.cell (p := ⟨w.heap.size, 1, none⟩) hBl).trans q1
      replace q2 := (hn.cell (p := ⟨w.heap.size, 2, none⟩) hBl).trans q2
      replace q3 := (hn.cell (p := ⟨w.heap.size, 3, none⟩) hBl).trans q3
      replace q4 := (hn.cell (p := ⟨w.heap.size, 4, none⟩) hBl).trans q4
      replace hBl := Nat.lt_of_lt_of_le hBl hn.size
      replace hb1 := hb1.trans (hn.mono hb1.size)
      clear hn
      rw [← HKA.out, ← HKB.out]
      have ha0 : (0 : Int) ≤ (a : Int) := Int.natCast_nonneg _
      have ha1 : (a : Int) < (h.tickets.length : Int) := by omega
      have hb00 : (0 : Int) ≤ (b : Int) := Int.natCast_nonneg _
      have hb11 : (b : Int) < (h.tickets.length : Int) := by omega
      by_cases hab : a = b
      · have hab1 : ((a : Int) == (b : Int)) = true := by simp [hab]
        clear hab
        go_wp2_with (fail)
        refine (awake_calls _).mono ?_
        (rintro e w' hr; first | ((with_reducible replace hr := Ret.up hr); obtain ⟨rfl, z, rfl⟩ := hr) | (obtain ⟨rfl, z, rfl⟩ := hr))
        go_wp2
        go_ret
        exact ret_mk rfl (later_below hb1 hb1.size)
      · have hab1 : ((a : Int) == (b : Int)) = false := beq_eq_false_iff_ne.2 (by omega)
        by_cases hk : h.askE 0 = 0
        · obtain ⟨e1, e2, e3, e4⟩ := clashV_symm h hal hbl hab hk
          have HE1 := Lib.hid e1
          have HE2 := Lib.hid e2
          have HE3 := Lib.hid e3
          have HE4 := Lib.hid e4
          have HA := Lib.hid hk
          have hne := (askE_zero hk).2.2
          have hR : h.truR ≠ [] := fun hh => hne ((truR_nil HF.out).1 hh)
          obtain ⟨kk, -, hpk, -⟩ := pick_mem (n := wv) hR
          have hTR := List.mem_of_getElem? hpk
          have hT := (mem_truR HF.out _).1 hTR
          have hTok := truR_ok HF.out hTR
          obtain ⟨T, hTT⟩ : ∃ T, T = h.pickL wv := ⟨_, rfl⟩
          have CP := Lib.hid (fun x => pick_calls _ h wv (later W3 x) (H1.below (below_later W3 x)) HF.out hwv hR)
          rw [← hTT] at hpk hTR hT hTok CP
          obtain ⟨hp1, hp2⟩ := play_at HF.out hT
          have HP1 := Lib.hid hp1
          have HP2 := Lib.hid hp2
          have HT := Lib.hid hT
          have HTOK := Lib.hid hTok
          have HNE := Lib.hid hne
          obtain ⟨V, hV⟩ : ∃ V, V = verdictB h.truths (fun e => h.clashB e a b) := ⟨_, rfl⟩
          rw [← hV] at HE3 HE4
          have hst : steadyB V (h.clashB T a b) = true := by
            rw [hV]
            exact steady_at (p := fun e => h.clashB e a b) hT
          have hV3 := verdict_cases h.truths (fun e => h.clashB e a b)
          rw [← hV] at hV3
          have HST := Lib.hid hst
          have HV := Lib.hid hV
          clear e1 e2 e3 e4 hk hne hR hpk hTR hT hTok hTT hp1 hp2 hV hst hab
          go_wp2_with (fail)
          refine (house_calls _ h _ (by first | with_reducible exact H1 | exact H1.below (below_later _ _)) hl2 hl3 hl4).mono ?_
          (rintro e w' hr; first | ((with_reducible replace hr := RetHs.up hr); obtain ⟨v, rfl, ⟨z, rfl⟩, HH⟩ := hr) | (obtain ⟨v, rfl, ⟨z, rfl⟩, HH⟩ := hr))
          go_wp2_with (fail)
          have CA := clash_all_calls v h (a : Int) (b : Int) _ HH
          rw [HE1.out, HE3.out] at CA
          refine CA.mono ?_
          clear CA HH
          (rintro e w' hr; first | ((with_reducible replace hr := Ret.up hr); obtain ⟨rfl, z, rfl⟩ := hr) | (obtain ⟨rfl, z, rfl⟩ := hr))
          go_wp2_with (fail)
          refine (house_calls _ h _ (by first | with_reducible exact H1 | exact H1.below (below_later _ _)) hl2 hl3 hl4).mono ?_
          (rintro e w' hr; first | ((with_reducible replace hr := RetHs.up hr); obtain ⟨v, rfl, ⟨z, rfl⟩, HH⟩ := hr) | (obtain ⟨v, rfl, ⟨z, rfl⟩, HH⟩ := hr))
          go_wp2_with (fail)
          have CA := clash_all_calls v h (b : Int) (a : Int) _ HH
          rw [HE2.out, HE4.out] at CA
          refine CA.mono ?_
          clear CA HH
          (rintro e w' hr; first | ((with_reducible replace hr := Ret.up hr); obtain ⟨rfl, z, rfl⟩ := hr) | (obtain ⟨rfl, z, rfl⟩ := hr))
          go_wp2_with (fail)
          refine (CP.out _).mono ?_
          clear CP
          (rintro e w' hr; replace hr := RetPick.up hr; obtain ⟨AT, cT, rfl, ⟨z, rfl⟩, hsl, hzT⟩ := hr)
          obtain ⟨W4, hWW4⟩ : ∃ X, X = later W3 z := ⟨_, rfl⟩
          have hn : Below W3.heap.size W3 W4 := by rw [hWW4]; exact below_later _ _
          rw [← hWW4] at hsl ⊢
          clear hWW4
          replace H1 := H1.below hn
          replace q0 := (hn.cell (p := ⟨w.heap.size, 0, none⟩) hBl).trans q0
          replace q1 := (hn.cell (p := ⟨w.heap.size, 1, none⟩) hBl).trans q1
          replace q2 := (hn.cell (p := ⟨w.heap.size, 2, none⟩) hBl).trans q2
          replace q3 := (hn.cell (p := ⟨w.heap.size, 3, none⟩) hBl).trans q3
          replace q4 := (hn.cell (p := ⟨w.heap.size, 4, none⟩) hBl).trans q4
          replace hBl := Nat.lt_of_lt_of_le hBl hn.size
          replace hb1 := hb1.trans (hn.mono hb1.size)
          have HST4 := Lib.hid hsl
          have HZT := Lib.hid hzT
          clear hn hsl hzT
          obtain ⟨ta, hta⟩ : ∃ t, h.tickets[a]? = some t := ⟨_, List.getElem?_eq_getElem hal⟩
          obtain ⟨tb, htb⟩ : ∃ t, h.tickets[b]? = some t := ⟨_, List.getElem?_eq_getElem hbl⟩
          obtain ⟨b3, o3, xa, hA3, hb3l, hxa, sa0, -⟩ := (H3.below hb1).atT hal
          cases hA3
          rw [hta] at hxa
          cases hxa
          have htub := (HTT.out ta (List.mem_of_getElem? hta)).1
          have hD : ((tb.tub != ta.tub) = false) ∨ ((tb.tub != ta.tub) = true ∧ (V != 2) = false) := by
            by_cases he : tb.tub = ta.tub
            · exact .inl (by simp [he])
            · refine .inr ⟨by simpa using he, ?_⟩
              have : V = 2 := by
                rw [HV.out]
                exact clash_tubs (by simp only [Hs.tubAt, hta, htb]; exact fun h => he h.symm) HNE.out
              simp [this]
          have HD := Lib.hid hD
          have HTA := Lib.hid hta
          have HTB := Lib.hid htb
          have hfa := free_at HA.out htub
          obtain ⟨fl, hfl⟩ : ∃ x, x = (h.freeV ta.tub).lo := ⟨_, rfl⟩
          obtain ⟨fh, hfh⟩ : ∃ x, x = (h.freeV ta.tub).hi := ⟨_, rfl⟩
          obtain ⟨fe, hfe⟩ : ∃ x, x = h.freeE ta.tub := ⟨_, rfl⟩
          have HFA := Lib.hid hfa
          have HFL := Lib.hid hfl
          have HFH := Lib.hid hfh
          have HFE := Lib.hid hfe
          clear hD hta htb hfa hfl hfh hfe htub
          go_wp2_with (fail)
          refine (house_calls _ h _ (by first | with_reducible exact H1 | exact H1.below (below_later _ _)) hl2 hl3 hl4).mono ?_
          (rintro e w' hr; first | ((with_reducible replace hr := RetHs.up hr); obtain ⟨v, rfl, ⟨z, rfl⟩, HH⟩ := hr) | (obtain ⟨v, rfl, ⟨z, rfl⟩, HH⟩ := hr))
          go_wp2_with (fail)
          have CA := free_calls v h ta.tub _ HH hl4 ht30
          rw [← HFL.out, ← HFH.out, ← HFE.out] at CA
          refine CA.mono ?_
          clear CA HH
          (rintro e w' hr; first | ((with_reducible replace hr := Ret.up hr); obtain ⟨rfl, z, rfl⟩ := hr) | (obtain ⟨rfl, z, rfl⟩ := hr))
          go_wp2_with (fail)
          have hBR := BlkAt.new (later W4 z) 42 [.int .i64 fl, .int .i64 fh]
          obtain ⟨bR, hbR⟩ : ∃ b, b = (later W4 z).heap.size := ⟨_, rfl⟩
          rw [← hbR] at hBR ⊢
          clear hbR
          obtain ⟨W5, hWW5⟩ : ∃ X, X = ((later W4 z).alloc (.cells #[.int .i64 fl, .int .i64 fh] 42)) := ⟨_, rfl⟩
          have hn : Below W4.heap.size W4 W5 := by rw [hWW5]; exact (gA (below_later _ _))
          rw [← hWW5] at hBR ⊢
          clear hWW5
          replace H1 := H1.below hn
          replace q0 := (hn.cell (p := ⟨w.heap.size, 0, none⟩) hBl).trans q0
          replace q1 := (hn.cell (p := ⟨w.heap.size, 1, none⟩) hBl).trans q1
          replace q2 := (hn.cell (p := ⟨w.heap.size, 2, none⟩) hBl).trans q2
          replace q3 := (hn.cell (p := ⟨w.heap.size, 3, none⟩) hBl).trans q3
          replace q4 := (hn.cell (p := ⟨w.heap.size, 4, none⟩) hBl).trans q4
          replace hBl := Nat.lt_of_lt_of_le hBl hn.size
          replace hb1 := hb1.trans (hn.mono hb1.size)
          replace HST4 := Lib.hid (HST4.out.below hn)
          have r0 := hBR.cell 0
          have r1 := hBR.cell 1
          have hbRl := hBR.lt
          simp only [List.getElem?_cons_zero, List.getElem?_cons_succ] at r0 r1
          clear hn hBR
          refine (house_calls _ h _ H1 hl2 hl3 hl4).mono ?_
          (rintro e w' ⟨v, rfl, ⟨z, rfl⟩, HH⟩)
          obtain ⟨W6, hWW6⟩ : ∃ X, X = later W5 z := ⟨_, rfl⟩
          have hn : Below W5.heap.size W5 W6 := by rw [hWW6]; exact below_later _ _
          rw [← hWW6] at HH ⊢
          clear hWW6
          replace H1 := H1.below hn
          replace q0 := (hn.cell (p := ⟨w.heap.size, 0, none⟩) hBl).trans q0
          replace q1 := (hn.cell (p := ⟨w.heap.size, 1, none⟩) hBl).trans q1
          replace q2 := (hn.cell (p := ⟨w.heap.size, 2, none⟩) hBl).trans q2
          replace q3 := (hn.cell (p := ⟨w.heap.size, 3, none⟩) hBl).trans q3
          replace q4 := (hn.cell (p := ⟨w.heap.size, 4, none⟩) hBl).trans q4
          replace hBl := Nat.lt_of_lt_of_le hBl hn.size
          replace hb1 := hb1.trans (hn.mono hb1.size)
          replace HST4 := Lib.hid (HST4.out.below hn)
          replace r0 := (hn.cell (p := ⟨bR, 0, none⟩) hbRl).trans r0
          replace r1 := (hn.cell (p := ⟨bR, 1, none⟩) hbRl).trans r1
          replace hbRl := Nat.lt_of_lt_of_le hbRl hn.size
          clear hn
          go_wp2_with (fail)
          have hTl : T.length ≤ 1000 := by rw [HTOK.out.2]; exact hl2
          refine (listF_calls AT cT T W6 HST4.out hTl HZT.out).mono ?_
          (rintro e w' ⟨AM, cM, rfl, ⟨z, rfl⟩, hsm, -, -⟩)
          have CA := play_calls v h AM cM T (later W6 z) (HH.below (below_later _ _)) hsm
          rw [HP1.out, HP2.out] at CA
          have CA := Lib.hid CA
          clear HH hsm
          go_wp2_with (fail)
          refine CA.out.mono ?_
          clear CA
          (rintro e w' hr; replace hr := RetSlN.up hr; obtain ⟨A7, c7, rfl, ⟨z, rfl⟩, hsl⟩ := hr)
          rw [List.length_map]
          obtain ⟨W7, hWW7⟩ : ∃ X, X = later W6 z := ⟨_, rfl⟩
          have hn : Below W6.heap.size W6 W7 := by rw [hWW7]; exact below_later _ _
          rw [← hWW7] at hsl ⊢
          clear hWW7
          replace H1 := H1.below hn
          replace q0 := (hn.cell (p := ⟨w.heap.size, 0, none⟩) hBl).trans q0
          replace q1 := (hn.cell (p := ⟨w.heap.size, 1, none⟩) hBl).trans q1
          replace q2 := (hn.cell (p := ⟨w.heap.size, 2, none⟩) hBl).trans q2
          replace q3 := (hn.cell (p := ⟨w.heap.size, 3, none⟩) hBl).trans q3
          replace q4 := (hn.cell (p := ⟨w.heap.size, 4, none⟩) hBl).trans q4
          replace hBl := Nat.lt_of_lt_of_le hBl hn.size
          replace hb1 := hb1.trans (hn.mono hb1.size)
          replace HST4 := Lib.hid (HST4.out.below hn)
          replace r0 := (hn.cell (p := ⟨bR, 0, none⟩) hbRl).trans r0
          replace r1 := (hn.cell (p := ⟨bR, 1, none⟩) hbRl).trans r1
          replace hbRl := Nat.lt_of_lt_of_le hbRl hn.size
          have HS7 := Lib.hid hsl
          clear hn hsl
          go_upto_region 14 with (fail)
          go_cut [151] from 105 (fun s wr => s = .bool false ∧ Below W7.heap.size W7 wr)
          case first =>
            obtain ⟨b3', o3', xb, hA3, hb3w, hxb, sb0, -⟩ := (H3.below hb1).atT hbl
            cases hA3
            rw [HTB.out] at hxb
            cases hxb
            have C0 := Lib.hid (refclash_calls _ h AT cT T a b W7 H1 HST4.out HTOK.out.2 HTOK.out.1 HF.out hal hbl)
            obtain ⟨cb, hcb⟩ : ∃ x, x = h.clashB T a b := ⟨_, rfl⟩
            have hst := HST.out
            rw [← hcb] at C0 hst
            have C1 := Lib.hid (fun x => steady_calls V cb (later W7 x) hst)
            clear hcb hst
            rcases HD.out with hd | ⟨hd, hd2⟩
            · go_wp2_with (fail)
              refine C0.out.mono ?_
              (rintro e w' hr; first | ((with_reducible replace hr := Ret.up hr); obtain ⟨rfl, z, rfl⟩ := hr) | (obtain ⟨rfl, z, rfl⟩ := hr))
              go_wp2_with (fail)
              refine (C1.out _).mono ?_
              (rintro e w' hr; first | ((with_reducible replace hr := Ret.up hr); obtain ⟨rfl, z, rfl⟩ := hr) | (obtain ⟨rfl, z, rfl⟩ := hr))
              go_wp2
              go_meet
              case rel => exact ⟨rfl, below_later _ _⟩
            · go_wp2_with (fail)
              refine C0.out.mono ?_
              (rintro e w' hr; first | ((with_reducible replace hr := Ret.up hr); obtain ⟨rfl, z, rfl⟩ := hr) | (obtain ⟨rfl, z, rfl⟩ := hr))
              go_wp2_with (fail)
              refine (C1.out _).mono ?_
              (rintro e w' hr; first | ((with_reducible replace hr := Ret.up hr); obtain ⟨rfl, z, rfl⟩ := hr) | (obtain ⟨rfl, z, rfl⟩ := hr))
              go_wp2
              go_meet
              case rel => exact ⟨rfl, below_later _ _⟩
          case rest =>
            obtain ⟨rfl, hb8⟩ := hcut
            obtain ⟨W8, hW8⟩ : ∃ X, X = wc := ⟨_, rfl⟩
            rw [← hW8] at hb8 ⊢
            clear hW8
            replace H1 := H1.below hb8
            replace q0 := (hb8.cell (p := ⟨w.heap.size, 0, none⟩) hBl).trans q0
            replace q1 := (hb8.cell (p := ⟨w.heap.size, 1, none⟩) hBl).trans q1
            replace q2 := (hb8.cell (p := ⟨w.heap.size, 2, none⟩) hBl).trans q2
            replace q3 := (hb8.cell (p := ⟨w.heap.size, 3, none⟩) hBl).trans q3
            replace q4 := (hb8.cell (p := ⟨w.heap.size, 4, none⟩) hBl).trans q4
            replace hBl := Nat.lt_of_lt_of_le hBl hb8.size
            replace hb1 := hb1.trans (hb8.mono hb1.size)
            replace HST4 := Lib.hid (HST4.out.below hb8)
            replace r0 := (hb8.cell (p := ⟨bR, 0, none⟩) hbRl).trans r0
            replace r1 := (hb8.cell (p := ⟨bR, 1, none⟩) hbRl).trans r1
            replace hbRl := Nat.lt_of_lt_of_le hbRl hb8.size
            replace HS7 := Lib.hid (HS7.out.below hb8)
            clear hb8
            rcases HFA.out with ⟨ho, h8⟩ | ⟨ho, h0, hv⟩
            · obtain rfl : fe = 8 := HFE.out.trans h8
              have CO := refopen_calls _ h ta.tub W8 H1 hl4 hl3
              rw [ho] at CO
              have CO := Lib.hid CO
              clear ho h8
              go_wp2_with (fail)
              refine CO.out.mono ?_
              (rintro e w' hr; first | ((with_reducible replace hr := Ret.up hr); obtain ⟨rfl, z, rfl⟩ := hr) | (obtain ⟨rfl, z, rfl⟩ := hr))
              go_wp2_with (fail)
              refine (awake_calls _).mono ?_
              (rintro e w' hr; first | ((with_reducible replace hr := Ret.up hr); obtain ⟨rfl, z, rfl⟩ := hr) | (obtain ⟨rfl, z, rfl⟩ := hr))
              go_wp2
              go_ret
              exact ret_mk rfl (later_below hb1 hb1.size)
            · obtain rfl : fe = 0 := HFE.out.trans h0
              have hmax := tub_from HF.out HT.out ho
              have hlo : fl ≤ h.fromB T ta.tub ∧ h.fromB T ta.tub ≤ fh := by
                rw [HFL.out, HFH.out, hv]
                exact ⟨lo_le (f := fun e => h.fromB e ta.tub) HT.out, le_hi (f := fun e => h.fromB e ta.tub) HT.out⟩
              rw [← hmax] at hlo
              have HLO := Lib.hid hlo
              clear ho h0 hv hmax hlo
              go_wp2
              go_loopw [22, 23] (fun nv i wr => ∃ k : Nat, k ≤ h.clips.length ∧ i = .int .i64 k ∧ nv = .int .i64 (h.tubMax T ta.tub k) ∧ Below W8.heap.size W8 wr) (fun _ i _ => h.clips.length - (intOf i).toNat)
              case atStart => exact ⟨0, Nat.zero_le _, rfl, rfl, Below.refl _ _⟩
              case round =>
                obtain ⟨k, hk, rfl, rfl, hb⟩ := hrel
                obtain ⟨N, hN⟩ : ∃ N, N = h.tubMax T ta.tub k := ⟨_, rfl⟩
                rw [← hN]
                by_cases hlt : k < h.clips.length
                · have hlt1 : (k : Int) < (h.clips.length : Int) := by omega
                  have hk0 : (0 : Int) ≤ (k : Int) := Int.natCast_nonneg _
                  have hbw := hb1.trans (hb.mono hb1.size)
                  obtain ⟨b4, o4, c, rfl, hb4l, hc, s0, s1, s2⟩ := (H4.below hbw).atC hlt
                  have hcv := fault_clips HF.out (List.mem_of_getElem? hc)
                  obtain ⟨tn, htn⟩ : ∃ n : Nat, (n : Int) = c.tk := ⟨c.tk.toNat, by omega⟩
                  have htnl : tn < h.tickets.length := by omega
                  obtain ⟨b3', o3', xt, hA3, hb3w, hxt, st0, -⟩ := (H3.below hbw).atT htnl
                  cases hA3
                  obtain ⟨b7, o7, ym, rfl, hb7l, hym, sm0⟩ := (HS7.out.below hb).atI (i := k) (by rw [List.length_map]; exact hlt)
                  rw [List.getElem?_map, hc] at hym
                  have hym : ym = tru T c := (Option.some.inj hym).symm
                  have hst := tubMax_step (e := T) (tub := ta.tub) hc
                  rw [← hN, ← hym, ← htn, Int.toNat_natCast, Hs.tubAt, hxt] at hst
                  simp only at hst
                  rw [← htn] at s0
                  have htn0 : (0 : Int) ≤ (tn : Int) := Int.natCast_nonneg _
                  have htn1 : (tn : Int) < (h.tickets.length : Int) := by omega
                  have p3 := (hb.cell (p := ⟨w.heap.size, 3, none⟩) hBl).trans q3
                  have p4 := (hb.cell (p := ⟨w.heap.size, 4, none⟩) hBl).trans q4
                  have hBr := Nat.lt_of_lt_of_le hBl hb.size
                  by_cases he : xt.tub = ta.tub
                  · have he1 : (xt.tub == ta.tub) = true := by simp [he]
                    rw [if_pos he] at hst
                    by_cases hm : N < ym
                    · have HST := Lib.hid (hst.trans (show max N ym = ym by omega))
                      clear hst he hym hc hcv htn hxt hN
                      go_wp2
                      refine region_later (by kernel_rfl) (by kernel_rfl) ?_
                      repeat (go_big_quiet_step (fail))
                      refine wpQuiet_nil ?_
                      rintro W' ⟨u, rfl⟩
                      go_wp2
                      go_roundw
                      case rel => exact ⟨k + 1, by omega, by go_num, by rw [HST.out], later_below hb hb.size⟩
                      case measure => simp [intOf]; omega
                    · have HST := Lib.hid (hst.trans (show max N ym = N by omega))
                      clear hst he hym hc hcv htn hxt hN
                      go_wp2
                      refine region_later (by kernel_rfl) (by kernel_rfl) ?_
                      repeat (go_big_quiet_step (fail))
                      refine wpQuiet_nil ?_
                      rintro W' ⟨u, rfl⟩
                      go_wp2
                      go_roundw
                      case rel => exact ⟨k + 1, by omega, by go_num, by rw [HST.out], later_below hb hb.size⟩
                      case measure => simp [intOf]; omega
                  · have he1 : (xt.tub == ta.tub) = false := by simpa using he
                    rw [if_neg he] at hst
                    have HST := Lib.hid hst
                    clear hst he hym hc hcv htn hxt hN
                    go_wp2
                    refine region_later (by kernel_rfl) (by kernel_rfl) ?_
                    repeat (go_big_quiet_step (fail))
                    refine wpQuiet_nil ?_
                    rintro W' ⟨u, rfl⟩
                    go_wp2
                    go_roundw
                    case rel => exact ⟨k + 1, by omega, by go_num, by rw [HST.out], later_below hb hb.size⟩
                    case measure => simp [intOf]; omega
                · obtain rfl : k = h.clips.length := by omega
                  rw [← hN] at HLO
                  have hlo1 := HLO.out.1
                  have hhi1 := HLO.out.2
                  have t0 := (hb.cell (p := ⟨bR, 0, none⟩) hbRl).trans r0
                  have t1 := (hb.cell (p := ⟨bR, 1, none⟩) hbRl).trans r1
                  have hbRw := Nat.lt_of_lt_of_le hbRl hb.size
                  clear hN
                  go_wp2_with (fail)
                  refine (in_calls N fl fh _ hlo1 hhi1).mono ?_
                  (rintro e w' hr; first | ((with_reducible replace hr := Ret.up hr); obtain ⟨rfl, z, rfl⟩ := hr) | (obtain ⟨rfl, z, rfl⟩ := hr))
                  go_wp2_with (fail)
                  refine (awake_calls _).mono ?_
                  (rintro e w' hr; first | ((with_reducible replace hr := Ret.up hr); obtain ⟨rfl, z, rfl⟩ := hr) | (obtain ⟨rfl, z, rfl⟩ := hr))
                  go_wp2
                  go_ret
                  exact ret_mk rfl (hb1.trans (Below.mono (later_below hb hb.size) hb1.size))
        · have hk11 := ask_bad HF.out hk
          have HR := Lib.hid (show h.truR = [] from Decidable.byContradiction fun hh => hk (by rw [ask_of_can HF.out, if_pos ((can_iff h).2 fun h0 => hh ((truR_nil HF.out).2 h0))]))
          have e1 := (clash_ask h hal hbl hab).trans hk11
          have e2 := (clash_ask h hbl hal (fun e => hab e.symm)).trans hk11
          have HE1 := Lib.hid e1
          have HE2 := Lib.hid e2
          have HV1 := Lib.hid (show h.clashV (a : Int) (b : Int) = 0 by rw [Hs.clashV, e1]; rfl)
          have HV2 := Lib.hid (show h.clashV (b : Int) (a : Int) = 0 by rw [Hs.clashV, e2]; rfl)
          clear hk hk11 e1 e2 hab
          go_wp2_with (fail)
          refine (house_calls _ h _ (by first | with_reducible exact H1 | exact H1.below (below_later _ _)) hl2 hl3 hl4).mono ?_
          (rintro e w' hr; first | ((with_reducible replace hr := RetHs.up hr); obtain ⟨v, rfl, ⟨z, rfl⟩, HH⟩ := hr) | (obtain ⟨v, rfl, ⟨z, rfl⟩, HH⟩ := hr))
          go_wp2_with (fail)
          have CA := clash_all_calls v h (a : Int) (b : Int) _ HH
          rw [HE1.out, HV1.out] at CA
          refine CA.mono ?_
          clear CA HH
          (rintro e w' hr; first | ((with_reducible replace hr := Ret.up hr); obtain ⟨rfl, z, rfl⟩ := hr) | (obtain ⟨rfl, z, rfl⟩ := hr))
          go_wp2_with (fail)
          refine (house_calls _ h _ (by first | with_reducible exact H1 | exact H1.below (below_later _ _)) hl2 hl3 hl4).mono ?_
          (rintro e w' hr; first | ((with_reducible replace hr := RetHs.up hr); obtain ⟨v, rfl, ⟨z, rfl⟩, HH⟩ := hr) | (obtain ⟨v, rfl, ⟨z, rfl⟩, HH⟩ := hr))
          go_wp2_with (fail)
          have CA := clash_all_calls v h (b : Int) (a : Int) _ HH
          rw [HE2.out, HV2.out] at CA
          refine CA.mono ?_
          clear CA HH
          (rintro e w' hr; first | ((with_reducible replace hr := Ret.up hr); obtain ⟨rfl, z, rfl⟩ := hr) | (obtain ⟨rfl, z, rfl⟩ := hr))
          go_wp2_with (fail)
          refine (pick_none _ h wv _ (H1.below (below_later _ _)) HF.out HR.out).mono ?_
          (rintro e w' hr; first | ((with_reducible replace hr := Ret.up hr); obtain ⟨rfl, z, rfl⟩ := hr) | (obtain ⟨rfl, z, rfl⟩ := hr))
          go_wp2_with (fail)
          refine (awake_calls _).mono ?_
          (rintro e w' hr; first | ((with_reducible replace hr := Ret.up hr); obtain ⟨rfl, z, rfl⟩ := hr) | (obtain ⟨rfl, z, rfl⟩ := hr))
          go_wp2
          go_ret
          exact ret_mk rfl (later_below hb1 hb1.size)
end Go.Proofs.Ytcngnfnljkkjgaa
