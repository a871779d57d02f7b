/-
TicketLooks: the walk.
-/
import Derived.Test.YtcngnfnljkkjgaaCmT
import Derived.Test.YtcngnfnljkkjgaaCmO
namespace Go.Proofs.Ytcngnfnljkkjgaa
open Go.RowKit
attribute [local go_sem] cell_later frozen_later lt_later le_later

set_option maxHeartbeats 2000000 in
theorem reflook_calls (v : Value) (h : Hs) (A : Option Addr) (c : Nat) (l : List (List Int)) (w : World) (H : HsAt w v h) (HL : LsAt w A c l) (hok : ErrsOk h l) (hc : 0 < h.clocks.length) (hl2 : h.clocks.length ≤ 1000) :
    Calls Try.prog 43 #[v, .slice A l.length c] w (Ret (.tuple #[.int .i64 (lookRUp l (h.clocks.length - 1)).1, .int .i64 (lookRUp l (h.clocks.length - 1)).2]) w) := by
  have H0 := H
  obtain ⟨A2, c2, A3, c3, A4, c4, rfl, H2, H3, H4⟩ := H
  obtain ⟨W1, hW1⟩ : ∃ W1, W1 = w.alloc (.cells #[.int .i64 h.hour, .int .i64 h.grace, .slice A2 h.clocks.length c2, .slice A3 h.tickets.length c3, .slice A4 h.clips.length c4] 26) := ⟨_, rfl⟩
  have hb1 : Below w.heap.size w W1 := by rw [hW1]; exact gA (Below.refl _ _)
  have hB : BlkAt W1 w.heap.size 26 [.int .i64 h.hour, .int .i64 h.grace, .slice A2 h.clocks.length c2, .slice A3 h.tickets.length c3, .slice A4 h.clips.length c4] := by rw [hW1]; exact BlkAt.new _ _ _
  have H1 := H0.below hb1
  have q0 := hB.cell 0
  have q1 := hB.cell 1
  have q2 := hB.cell 2
  have q3 := hB.cell 3
  have q4 := hB.cell 4
  simp only [List.getElem?_cons_zero, List.getElem?_cons_succ] at q0 q1 q2 q3 q4
  have hBl := hB.lt
  have HLS := HL.below hb1
  have hok2 : ∀ e ∈ l, ErrOk e ∧ e.length = h.clocks.length := hok
  go_enter Try.func43, Try.ntmps43
  go_wp2_with (fail)
  rw [← hW1]
  clear hW1
  refine (refleaves_calls A c l 0 h.clocks.length W1 HLS hok2 hc).mono ?_
  (rintro e w' ⟨rfl, z, rfl⟩)
  obtain ⟨W2, hW2⟩ : ∃ W2, W2 = later W1 z := ⟨_, rfl⟩
  have hb2 : Below W1.heap.size W1 W2 := by rw [hW2]; exact below_later W1 z
  rw [← hW2]
  clear hW2
  go_wp2
  go_loopw [6, 7, 8] (fun cc ll i wr => ∃ k : Nat, k + 1 ≤ h.clocks.length ∧ i = .int .i64 ((k + 1 : Nat) : Int) ∧ cc = .int .i64 (lookRUp l k).1 ∧ ll = .int .i64 (lookRUp l k).2 ∧ Below W1.heap.size W1 wr) (fun _ _ i _ => h.clocks.length - (intOf i).toNat)
  case atStart => exact ⟨0, hc, rfl, rfl, rfl, hb2⟩
  case round =>
    obtain ⟨k, hk, rfl, rfl, rfl, hb⟩ := hrel
    have hS := lookRUp_snoc l k
    obtain ⟨cc, hcc⟩ : ∃ c, c = (lookRUp l k).1 := ⟨_, rfl⟩
    obtain ⟨ll, hll⟩ : ∃ c, c = (lookRUp l k).2 := ⟨_, rfl⟩
    have p0 := (hb.cell (p := ⟨w.heap.size, 0, none⟩) hBl).trans q0
    have p1 := (hb.cell (p := ⟨w.heap.size, 1, none⟩) hBl).trans q1
    have p2 := (hb.cell (p := ⟨w.heap.size, 2, none⟩) hBl).trans q2
    have hBr : w.heap.size < wr.heap.size := Nat.lt_of_lt_of_le hBl hb.size
    by_cases hlt : k + 1 < h.clocks.length
    · have hlt1 : ((k + 1 : Nat) : Int) < (h.clocks.length : Int) := by omega
      have C0 := Lib.hid (fun X (hX : Below W1.heap.size W1 X) => refleaves_calls A c l (k + 1) h.clocks.length X (HLS.below hX) hok2 hlt)
      unfold lookRStep at hS
      obtain ⟨T, hT⟩ : ∃ T, T = leavesR l ((k + 1 : Nat) : Int) := ⟨_, rfl⟩
      rw [← hll, ← hT] at hS
      rw [← hT] at C0
      rw [← hcc, ← hll]
      obtain ⟨K, hK⟩ : ∃ K : Int, K = ((k + 1 : Nat) : Int) := ⟨_, rfl⟩
      have HK := Lib.hid hK
      rw [← hK] at C0 hlt1 hS ⊢
      have hK0 : 0 ≤ K := by omega
      have hK1 : K ≤ 1000 := by omega
      clear hK
      by_cases hmin : T < ll
      · rw [if_pos hmin] at hS
        have HS := Lib.hid hS
        clear hS hT hcc hll
        go_wp2_with (fail)
        refine (C0.out _ hb).mono ?_
        (rintro e w' hr; first | ((with_reducible replace hr := Ret.up hr); obtain ⟨rfl, z, rfl⟩ := hr) | (obtain ⟨rfl, z, rfl⟩ := hr))
        go_wp2
        have hk2 := HK.out
        go_roundw
        case rel => exact ⟨k + 1, by omega, congrArg (Value.int .i64) (by omega), by rw [HS.out], by rw [HS.out], later_below hb hb.size⟩
        case measure => simp [intOf]; omega
      · rw [if_neg hmin] at hS
        have HS := Lib.hid (show (lookRUp l (k + 1)).1 = cc ∧ (lookRUp l (k + 1)).2 = ll by rw [hS]; exact ⟨hcc.symm, hll.symm⟩)
        clear hS hT hcc hll
        go_wp2_with (fail)
        refine (C0.out _ hb).mono ?_
        (rintro e w' hr; first | ((with_reducible replace hr := Ret.up hr); obtain ⟨rfl, z, rfl⟩ := hr) | (obtain ⟨rfl, z, rfl⟩ := hr))
        go_wp2
        have hk2 := HK.out
        go_roundw
        case rel => exact ⟨k + 1, by omega, congrArg (Value.int .i64) (by omega), by rw [HS.out.1], by rw [HS.out.2], later_below hb hb.size⟩
        case measure => simp [intOf]; omega
    · have hE : h.clocks.length - 1 = k := by omega
      have hN : ¬ ((k + 1 : Nat) : Int) < (h.clocks.length : Int) := by omega
      have HR := Lib.hid (show (lookRUp l (h.clocks.length - 1)).1 = cc ∧ (lookRUp l (h.clocks.length - 1)).2 = ll by rw [hE]; exact ⟨hcc.symm, hll.symm⟩)
      rw [← hcc, ← hll]
      clear hE hcc hll hS
      go_wp2
      refine bodyPost_ret (v := .tuple #[.int .i64 cc, .int .i64 ll]) ?hr rfl (ret_mk (by rw [HR.out.1, HR.out.2]) (hb1.trans (hb.mono hb1.size)))
      case hr => simp [results, Try.results43, go_sem]

theorem thin_partsK {h : Hs} (ht : h.thinB = true) : h.clocks.length ≤ 1000 ∧ h.tickets.length ≤ 1000 ∧ h.clips.length ≤ 1000 := by
  obtain ⟨h1, h2, h3⟩ := thin_iff.1 ht
  exact ⟨by omega, by omega, by omega⟩
theorem look_wants (h : Hs) : (h.askE 0 ≠ 0 ∧ h.lookE = h.askE 0 ∧ h.lookV = (0, 0)) ∨ (h.askE 0 = 0 ∧ h.clocks.length = 0 ∧ h.lookE = 7 ∧ h.lookV = (0, 0)) ∨ (h.askE 0 = 0 ∧ 0 < h.clocks.length ∧ h.lookE = 0 ∧ h.lookV = lookRUp h.truR (h.clocks.length - 1)) := by
  by_cases ha : h.askE 0 = 0
  · by_cases hc : h.clocks.length = 0
    · have hE : h.lookE = 7 := by rw [Hs.lookE, if_neg (by simp [ha]), if_pos hc]
      exact .inr (.inl ⟨ha, hc, hE, by rw [Hs.lookV, hE]; rfl⟩)
    · have hE : h.lookE = 0 := by rw [Hs.lookE, if_neg (by simp [ha]), if_neg hc]
      refine .inr (.inr ⟨ha, by omega, hE, ?_⟩)
      rw [Hs.lookV, if_pos hE, look_plain (askE_zero ha).1 _ (by omega)]
      congr 1
      omega
  · have hE : h.lookE = h.askE 0 := by rw [Hs.lookE, if_pos ha]
    exact .inl ⟨ha, hE, by rw [Hs.lookV, hE, if_neg ha]⟩

set_option maxRecDepth 100000 in
set_option maxHeartbeats 4000000 in
theorem looks_calls (v : Value) (h : Hs) (w : World) (H : HsAt w v h) :
    Calls Try.prog 7 #[v] w (Ret (.bool true) w) := by
  have H0 := H
  obtain ⟨A2, c2, A3, c3, A4, c4, rfl, H2, H3, H4⟩ := H
  obtain ⟨W1, hW1⟩ : ∃ W1, W1 = w.alloc (.cells #[.int .i64 h.hour, .int .i64 h.grace, .slice A2 h.clocks.length c2, .slice A3 h.tickets.length c3, .slice A4 h.clips.length c4] 26) := ⟨_, rfl⟩
  have hb1 : Below w.heap.size w W1 := by rw [hW1]; exact gA (Below.refl _ _)
  have hB : BlkAt W1 w.heap.size 26 [.int .i64 h.hour, .int .i64 h.grace, .slice A2 h.clocks.length c2, .slice A3 h.tickets.length c3, .slice A4 h.clips.length c4] := by rw [hW1]; exact BlkAt.new _ _ _
  have H1 := H0.below hb1
  have q0 := hB.cell 0
  have q1 := hB.cell 1
  have q2 := hB.cell 2
  have q3 := hB.cell 3
  have q4 := hB.cell 4
  simp only [List.getElem?_cons_zero, List.getElem?_cons_succ] at q0 q1 q2 q3 q4
  have hBl := hB.lt
  cases hr : h.thinB with
  | false =>
    go_enter Try.func7, Try.ntmps7
    go_wp2_with (fail)
    rw [← hW1]
    clear hW1
    refine (thin_calls _ h _ H1).mono ?_
    (rintro e w' hr; first | ((with_reducible replace hr := Ret.up hr); obtain ⟨rfl, z, rfl⟩ := hr) | (obtain ⟨rfl, z, rfl⟩ := hr))
    go_wp2_with (fail)
    refine (awake_calls _).mono ?_
    (rintro e w' hr; first | ((with_reducible replace hr := Ret.up hr); obtain ⟨rfl, z, rfl⟩ := hr) | (obtain ⟨rfl, z, rfl⟩ := hr))
    go_wp2
    go_ret
    exact ret_mk rfl (later_below hb1 hb1.size)
  | true =>
    obtain ⟨hl2, hl3, hl4⟩ := thin_partsK hr
    rcases look_wants h with ⟨ha, hE, hV⟩ | ⟨ha, hc, hE, hV⟩ | ⟨ha, hc, hE, hV⟩
    · obtain ⟨X, hX⟩ : ∃ X, X = h.askE 0 := ⟨_, rfl⟩
      have hX1 : (X != 0) = true := by rw [hX]; simpa using ha
      have hX2 : (X == 0) = false := by rw [hX]; simpa using ha
      rw [← hX] at hE
      have HE := Lib.hid hE
      have HV := Lib.hid hV
      have HA := Lib.hid hX.symm
      clear ha hE hV hX
      go_enter Try.func7, Try.ntmps7
      go_wp2_with (fail)
      rw [← hW1]
      clear hW1
      refine (thin_calls _ h _ H1).mono ?_
      (rintro e w' hr; first | ((with_reducible replace hr := Ret.up hr); obtain ⟨rfl, z, rfl⟩ := hr) | (obtain ⟨rfl, z, rfl⟩ := hr))
      go_wp2_with (fail)
      refine (house_calls _ h _ (H1.below (below_later _ _)) hl2 hl3 hl4).mono ?_
      rintro e w' hr
      replace hr := RetHs.up hr
      obtain ⟨v, rfl, ⟨z, rfl⟩, HH⟩ := hr
      go_wp2_with (fail)
      have CA := look_calls v h _ HH
      rw [HE.out, HV.out] at CA
      refine CA.mono ?_
      clear CA HH
      (rintro e w' hr; first | ((with_reducible replace hr := Ret.up hr); obtain ⟨rfl, z, rfl⟩ := hr) | (obtain ⟨rfl, z, rfl⟩ := hr))
      go_wp2_with (fail)
      have CS := sure_calls _ h (later W1 z) (H1.below (below_later W1 z)) hl4
      rw [HA.out] at CS
      refine CS.mono ?_
      clear CS
      (rintro e w' hr; replace hr := RetSure.up hr; obtain ⟨B, d, rfl, ⟨z, rfl⟩, hls⟩ := hr)
      obtain ⟨W3, hW3⟩ : ∃ W3, W3 = later W1 z := ⟨_, rfl⟩
      have hb3 : Below W1.heap.size W1 W3 := by rw [hW3]; exact below_later W1 z
      rw [← hW3] at hls ⊢
      clear hW3
      have HLS := Lib.hid hls
      clear hls
      have r0 := (hb3.cell (p := ⟨w.heap.size, 0, none⟩) hBl).trans q0
      have r1 := (hb3.cell (p := ⟨w.heap.size, 1, none⟩) hBl).trans q1
      have r2 := (hb3.cell (p := ⟨w.heap.size, 2, none⟩) hBl).trans q2
      have r3 := (hb3.cell (p := ⟨w.heap.size, 3, none⟩) hBl).trans q3
      have r4 := (hb3.cell (p := ⟨w.heap.size, 4, none⟩) hBl).trans q4
      have hBl3 := Nat.lt_of_lt_of_le hBl hb3.size
      clear q0 q1 q2 q3 q4
      go_wp2_with (fail)
      refine (awake_calls _).mono ?_
      (rintro e w' hr; first | ((with_reducible replace hr := Ret.up hr); obtain ⟨rfl, z, rfl⟩ := hr) | (obtain ⟨rfl, z, rfl⟩ := hr))
      go_wp2
      go_ret
      exact ret_mk rfl (hb1.trans (Below.mono (later_below hb3 hb3.size) hb1.size))
    · have hc1 : ((h.clocks.length : Int) == 0) = true := by simp [hc]
      have HE := Lib.hid hE
      have HV := Lib.hid hV
      have HA := Lib.hid ha
      clear hc ha hE hV
      go_enter Try.func7, Try.ntmps7
      go_wp2_with (fail)
      rw [← hW1]
      clear hW1
      refine (thin_calls _ h _ H1).mono ?_
      (rintro e w' hr; first | ((with_reducible replace hr := Ret.up hr); obtain ⟨rfl, z, rfl⟩ := hr) | (obtain ⟨rfl, z, rfl⟩ := hr))
      go_wp2_with (fail)
      refine (house_calls _ h _ (H1.below (below_later _ _)) hl2 hl3 hl4).mono ?_
      rintro e w' hr
      replace hr := RetHs.up hr
      obtain ⟨v, rfl, ⟨z, rfl⟩, HH⟩ := hr
      go_wp2_with (fail)
      have CA := look_calls v h _ HH
      rw [HE.out, HV.out] at CA
      refine CA.mono ?_
      clear CA HH
      (rintro e w' hr; first | ((with_reducible replace hr := Ret.up hr); obtain ⟨rfl, z, rfl⟩ := hr) | (obtain ⟨rfl, z, rfl⟩ := hr))
      go_wp2_with (fail)
      have CS := sure_calls _ h (later W1 z) (H1.below (below_later W1 z)) hl4
      rw [HA.out] at CS
      refine CS.mono ?_
      clear CS
      (rintro e w' hr; replace hr := RetSure.up hr; obtain ⟨B, d, rfl, ⟨z, rfl⟩, hls⟩ := hr)
      obtain ⟨W3, hW3⟩ : ∃ W3, W3 = later W1 z := ⟨_, rfl⟩
      have hb3 : Below W1.heap.size W1 W3 := by rw [hW3]; exact below_later W1 z
      rw [← hW3] at hls ⊢
      clear hW3
      have HLS := Lib.hid hls
      clear hls
      have r0 := (hb3.cell (p := ⟨w.heap.size, 0, none⟩) hBl).trans q0
      have r1 := (hb3.cell (p := ⟨w.heap.size, 1, none⟩) hBl).trans q1
      have r2 := (hb3.cell (p := ⟨w.heap.size, 2, none⟩) hBl).trans q2
      have r3 := (hb3.cell (p := ⟨w.heap.size, 3, none⟩) hBl).trans q3
      have r4 := (hb3.cell (p := ⟨w.heap.size, 4, none⟩) hBl).trans q4
      have hBl3 := Nat.lt_of_lt_of_le hBl hb3.size
      clear q0 q1 q2 q3 q4
      go_wp2_with (fail)
      refine (awake_calls _).mono ?_
      (rintro e w' hr; first | ((with_reducible replace hr := Ret.up hr); obtain ⟨rfl, z, rfl⟩ := hr) | (obtain ⟨rfl, z, rfl⟩ := hr))
      go_wp2
      go_ret
      exact ret_mk rfl (hb1.trans (Below.mono (later_below hb3 hb3.size) hb1.size))
    · have hc1 : ((h.clocks.length : Int) == 0) = false := beq_eq_false_iff_ne.2 (by omega)
      have HF := Lib.hid (askE_zero ha).1
      have HS := Lib.hid (show h.sureL = h.truR by rw [Hs.sureL, if_pos ha])
      have HC := Lib.hid hc
      have HE := Lib.hid hE
      have HV := Lib.hid hV
      have HA := Lib.hid ha
      clear hc ha hE hV
      go_enter Try.func7, Try.ntmps7
      go_wp2_with (fail)
      rw [← hW1]
      clear hW1
      refine (thin_calls _ h _ H1).mono ?_
      (rintro e w' hr; first | ((with_reducible replace hr := Ret.up hr); obtain ⟨rfl, z, rfl⟩ := hr) | (obtain ⟨rfl, z, rfl⟩ := hr))
      go_wp2_with (fail)
      refine (house_calls _ h _ (H1.below (below_later _ _)) hl2 hl3 hl4).mono ?_
      rintro e w' hr
      replace hr := RetHs.up hr
      obtain ⟨v, rfl, ⟨z, rfl⟩, HH⟩ := hr
      go_wp2_with (fail)
      have CA := look_calls v h _ HH
      rw [HE.out, HV.out] at CA
      refine CA.mono ?_
      clear CA HH
      (rintro e w' hr; first | ((with_reducible replace hr := Ret.up hr); obtain ⟨rfl, z, rfl⟩ := hr) | (obtain ⟨rfl, z, rfl⟩ := hr))
      go_wp2_with (fail)
      have CS := sure_calls _ h (later W1 z) (H1.below (below_later W1 z)) hl4
      rw [HA.out] at CS
      refine CS.mono ?_
      clear CS
      (rintro e w' hr; replace hr := RetSure.up hr; obtain ⟨B, d, rfl, ⟨z, rfl⟩, hls⟩ := hr)
      obtain ⟨W3, hW3⟩ : ∃ W3, W3 = later W1 z := ⟨_, rfl⟩
      have hb3 : Below W1.heap.size W1 W3 := by rw [hW3]; exact below_later W1 z
      rw [← hW3] at hls ⊢
      clear hW3
      have HLS := Lib.hid hls
      clear hls
      have r0 := (hb3.cell (p := ⟨w.heap.size, 0, none⟩) hBl).trans q0
      have r1 := (hb3.cell (p := ⟨w.heap.size, 1, none⟩) hBl).trans q1
      have r2 := (hb3.cell (p := ⟨w.heap.size, 2, none⟩) hBl).trans q2
      have r3 := (hb3.cell (p := ⟨w.heap.size, 3, none⟩) hBl).trans q3
      have r4 := (hb3.cell (p := ⟨w.heap.size, 4, none⟩) hBl).trans q4
      have hBl3 := Nat.lt_of_lt_of_le hBl hb3.size
      clear q0 q1 q2 q3 q4
      have HLS' := HLS.out
      rw [HS.out] at HLS' ⊢
      have HLS2 := Lib.hid HLS'
      clear HLS HLS'
      go_wp2_with (fail)
      refine (reflook_calls _ h B d h.truR W3 (H1.below hb3) HLS2.out (truR_errs HF.out) HC.out hl2).mono ?_
      (rintro e w' hr; first | ((with_reducible replace hr := Ret.up hr); obtain ⟨rfl, z, rfl⟩ := hr) | (obtain ⟨rfl, z, rfl⟩ := hr))
      go_wp2_with (fail)
      refine (awake_calls _).mono ?_
      (rintro e w' hr; first | ((with_reducible replace hr := Ret.up hr); obtain ⟨rfl, z, rfl⟩ := hr) | (obtain ⟨rfl, z, rfl⟩ := hr))
      go_wp2
      go_ret
      exact ret_mk rfl (hb1.trans (Below.mono (later_below hb3 hb3.size) hb1.size))
end Go.Proofs.Ytcngnfnljkkjgaa
