/-
Bits of numbers that are not negative, and the number of a list's bits, element by element: with no program in sight.
TicketLeft: the walk.
-/
import Derived.Test.YtcngnfnljkkjgaaCmU
import Derived.Lib.QuoteBits
import Derived.Test.YtcngnfnljkkjgaaCmQFirst
namespace Go.Proofs.Ytcngnfnljkkjgaa
open Go.RowKit

theorem ofI64 (a : Nat) (ha : a < 65536) : (BitVec.ofInt 64 (a : Int)).toNat = a := by
  rw [BitVec.ofInt_natCast, BitVec.toNat_ofNat]
  exact Nat.mod_eq_of_lt (by omega)
theorem or_i64 (a b : Nat) (ha : a < 4096) (hb : b < 4096) : bits .or .i64 (a : Int) (b : Int) = ((a ||| b : Nat) : Int) := by
  have hx : a ||| b < 2 ^ 12 := Nat.or_lt_two_pow (by omega) (by omega)
  show IntKind.i64.wrap ((BitVec.ofInt 64 (a : Int) ||| BitVec.ofInt 64 (b : Int)).toNat : Int) = _
  rw [BitVec.toNat_or, ofI64 a (by omega), ofI64 b (by omega)]
  exact Lib.wrap_i64_small _ (by omega)
theorem and_i64 (a b : Nat) (ha : a < 65536) (hb : b < 65536) : bits .and .i64 (a : Int) (b : Int) = ((a &&& b : Nat) : Int) := by
  have hx : a &&& b < 2 ^ 16 := Nat.and_lt_two_pow _ (by omega)
  show IntKind.i64.wrap ((BitVec.ofInt 64 (a : Int) &&& BitVec.ofInt 64 (b : Int)).toNat : Int) = _
  rw [BitVec.toNat_and, ofI64 a (by omega), ofI64 b (by omega)]
  exact Lib.wrap_i64_small _ (by omega)
theorem enc_snoc : ∀ (s : List Int) (x : Int), encS (s ++ [x]) = encS s ||| 2 ^ x.toNat
  | [], x => by simp [encS]
  | y :: s, x => by
    rw [List.cons_append, encS, enc_snoc s x, encS, Nat.or_assoc]
theorem enc_take {l : List Int} {k m : Nat} (hx : l[k]? = some (m : Int)) : encS (l.take (k + 1)) = encS (l.take k) ||| 2 ^ m := by
  rw [List.take_add_one, hx]
  show encS (l.take k ++ [(m : Int)]) = _
  rw [enc_snoc]
  simp
theorem enc_take_lt {n : Nat} {l : List Int} (h : ∀ x ∈ l, 0 ≤ x ∧ x < (n : Int)) (k : Nat) : encS (l.take k) < 2 ^ n := enc_lt fun x hx => h x (List.mem_of_mem_take hx)
end Go.Proofs.Ytcngnfnljkkjgaa
namespace Go.Proofs.Ytcngnfnljkkjgaa
open Go.RowKit
attribute [local go_sem] cell_later frozen_later lt_later le_later

theorem left_elem {h : Hs} (hf : h.fault = 0) {k : Nat} {y : Int} (hy : h.leaveL[k]? = some y) : ∃ m : Nat, y = (m : Int) ∧ m < h.clips.length := by
  have := (leave_spec hf).1.2 y (List.mem_of_getElem? hy)
  exact ⟨y.toNat, by omega, by omega⟩
theorem left_incr {h : Hs} (hf : h.fault = 0) {k : Nat} {x y : Int} (hx : h.leaveL[k]? = some x) (hy : h.leaveL[k + 1]? = some y) : x < y := by
  have := (leave_spec hf).1.1
  rw [List.pairwise_iff_getElem] at this
  obtain ⟨h1, e1⟩ := List.getElem?_eq_some_iff.1 hx
  obtain ⟨h2, e2⟩ := List.getElem?_eq_some_iff.1 hy
  have := this k (k + 1) h1 h2 (by omega)
  rwa [e1, e2] at this

set_option maxRecDepth 100000 in
set_option maxHeartbeats 4000000 in
theorem lawleft_calls (v : Value) (h : Hs) (tr : Int) (w : World) (H : HsAt w v h) (htr : 0 ≤ tr ∧ tr ≤ 65535) :
    Calls Try.prog 18 #[v, .int .u16 tr] w (Ret (.bool true) w) := by
  have H0 := H
  obtain ⟨A2, c2, A3, c3, A4, c4, rfl, H2, H3, H4⟩ := H
  obtain ⟨W1, hW1⟩ : ∃ W1, W1 = w.alloc (.cells #[.int .i64 h.hour, .int .i64 h.grace, .slice A2 h.clocks.length c2, .slice A3 h.tickets.length c3, .slice A4 h.clips.length c4] 26) := ⟨_, rfl⟩
  have hb1 : Below w.heap.size w W1 := by rw [hW1]; exact gA (Below.refl _ _)
  have hB : BlkAt W1 w.heap.size 26 [.int .i64 h.hour, .int .i64 h.grace, .slice A2 h.clocks.length c2, .slice A3 h.tickets.length c3, .slice A4 h.clips.length c4] := by rw [hW1]; exact BlkAt.new _ _ _
  have H1 := H0.below hb1
  have q0 := hB.cell 0
  have q1 := hB.cell 1
  have q2 := hB.cell 2
  have q3 := hB.cell 3
  have q4 := hB.cell 4
  simp only [List.getElem?_cons_zero, List.getElem?_cons_succ] at q0 q1 q2 q3 q4
  have hBl := hB.lt
  cases hr : h.readyB with
  | false =>
    go_enter Try.func18, Try.ntmps18
    go_wp2_with (fail)
    rw [← hW1]
    clear hW1
    refine (ready_calls _ h _ H1).mono ?_
    (rintro e w' hr; first | ((with_reducible replace hr := Ret.up hr); obtain ⟨rfl, z, rfl⟩ := hr) | (obtain ⟨rfl, z, rfl⟩ := hr))
    go_wp2_with (fail)
    refine (awake_calls _).mono ?_
    (rintro e w' hr; first | ((with_reducible replace hr := Ret.up hr); obtain ⟨rfl, z, rfl⟩ := hr) | (obtain ⟨rfl, z, rfl⟩ := hr))
    go_wp2
    go_ret
    exact ret_mk rfl (later_below hb1 hb1.size)
  | true =>
    obtain ⟨hl2, hl3, hl4, hf, hl10⟩ := ready_of hr
    have HF := Lib.hid hf
    clear hf
    go_enter Try.func18, Try.ntmps18
    go_wp2_with (fail)
    rw [← hW1]
    clear hW1
    refine (ready_calls _ h _ H1).mono ?_
    (rintro e w' hr; first | ((with_reducible replace hr := Ret.up hr); obtain ⟨rfl, z, rfl⟩ := hr) | (obtain ⟨rfl, z, rfl⟩ := hr))
    go_wp2_with (fail)
    refine (house_calls _ h _ (by first | with_reducible exact H1 | exact H1.below (below_later _ _)) hl2 hl3 hl4).mono ?_
    (rintro e w' hr; first | ((with_reducible replace hr := RetHs.up hr); obtain ⟨v, rfl, ⟨z, rfl⟩, HH⟩ := hr) | (obtain ⟨v, rfl, ⟨z, rfl⟩, HH⟩ := hr))
    go_wp2_with (fail)
    have CA := leave_calls v h _ HH
    rw [HF.out] at CA
    refine CA.mono ?_
    clear CA HH
    (rintro e w' hr; replace hr := RetSlN.up hr; obtain ⟨A, c, rfl, ⟨z, rfl⟩, hsl⟩ := hr)
    obtain ⟨W2, hWW2⟩ : ∃ X, X = later W1 z := ⟨_, rfl⟩
    have hn : Below W1.heap.size W1 W2 := by rw [hWW2]; exact below_later _ _
    rw [← hWW2] at hsl ⊢
    clear hWW2
    replace H1 := H1.below hn
    replace q0 := (hn.cell (p := ⟨w.heap.size, 0, none⟩) hBl).trans q0
    replace q1 := (hn.cell (p := ⟨w.heap.size, 1, none⟩) hBl).trans q1
    replace q2 := (hn.cell (p := ⟨w.heap.size, 2, none⟩) hBl).trans q2
    replace q3 := (hn.cell (p := ⟨w.heap.size, 3, none⟩) hBl).trans q3
    replace q4 := (hn.cell (p := ⟨w.heap.size, 4, none⟩) hBl).trans q4
    replace hBl := Nat.lt_of_lt_of_le hBl hn.size
    replace hb1 := hb1.trans (hn.mono hb1.size)
    clear hn
    have hll := hsl.2.1
    have hlc : h.leaveL.length ≤ h.clips.length := by
      have := inc_len (leave_spec HF.out).1 (Nat.zero_le _)
      omega
    have hbits := enc_take_lt (n := h.clips.length) (l := h.leaveL) (fun x hx => by have := (leave_spec HF.out).1.2 x hx; omega)
    have HSL := Lib.hid hsl
    clear hsl
    go_wp2
    go_loopw [7, 8] (fun nb i wr => ∃ k : Nat, k ≤ h.leaveL.length ∧ i = .int .i64 k ∧ nb = .int .i64 ((encS (h.leaveL.take k) : Nat) : Int) ∧ Below W2.heap.size W2 wr) (fun _ i _ => h.leaveL.length - (intOf i).toNat)
    case atStart => exact ⟨0, Nat.zero_le _, rfl, rfl, Below.refl _ _⟩
    case round =>
      obtain ⟨k, hk, rfl, rfl, hb⟩ := hrel
      have p4 := (hb.cell (p := ⟨w.heap.size, 4, none⟩) hBl).trans q4
      have hBr := Nat.lt_of_lt_of_le hBl hb.size
      obtain ⟨N, hN⟩ : ∃ N, N = encS (h.leaveL.take k) := ⟨_, rfl⟩
      have hNb := hbits k
      rw [← hN] at hNb ⊢
      by_cases hlt : k < h.leaveL.length
      · have hlt1 : (k : Int) < (h.leaveL.length : Int) := by omega
        have hk0 : (0 : Int) ≤ (k : Int) := Int.natCast_nonneg _
        obtain ⟨b, off, y, rfl, hbl, hy, s0⟩ := (HSL.out.below hb).atI hlt
        obtain ⟨m, rfl, hml⟩ := left_elem HF.out hy
        have hst := enc_take hy
        rw [← hN] at hst
        have HST := Lib.hid hst
        have HY := Lib.hid hy
        have hm0 : (0 : Int) ≤ (m : Int) := Int.natCast_nonneg _
        have hm9 : (m : Int) ≤ 9 := by omega
        have g1 : decide ((m : Int) < 0) = false := decide_eq_false (by omega)
        have hpw : (1 : Int) ≤ 2 ^ m ∧ (2 : Int) ^ m ≤ 512 := by
          have hm : m ≤ 9 := by omega
          clear HST HY hml hm0 hm9 g1 s0 hst hy hbl
          revert m
          decide
        obtain ⟨u1, u2⟩ := hpw
        have HOR := Lib.hid (show bits .or .i64 (N : Int) (2 ^ m) = ((encS (h.leaveL.take (k + 1)) : Nat) : Int) by
          have h1 := Nat.pow_le_pow_right (n := 2) (by decide) hl10
          have h2 : 2 ^ m ≤ 2 ^ 9 := Nat.pow_le_pow_right (by decide) (by omega)
          have := or_i64 N (2 ^ m) (by omega) (by omega)
          rw [HST.out, ← this]
          norm_cast)
        have g2 : decide (h.clips.length ≤ m) = false := decide_eq_false (by omega)
        clear hst hy hN
        by_cases hkz : k = 0
        · have g3 : decide (0 < k) = false := decide_eq_false (by omega)
          have g4 : decide ((0 : Int) < (k : Int)) = false := decide_eq_false (by omega)
          clear hkz
          go_wp2
          refine region_later (by kernel_rfl) (by kernel_rfl) ?_
          repeat (go_big_quiet_step (fail))
          refine wpQuiet_nil ?_
          rintro W' ⟨u, rfl⟩
          go_wp2
          go_roundw
          case rel => exact ⟨k + 1, by omega, by go_num, by rw [HOR.out], later_below hb hb.size⟩
          case measure => simp [intOf]; omega
        · obtain ⟨j, hj⟩ : ∃ j, k = j + 1 := ⟨k - 1, by omega⟩
          obtain ⟨b', off', x, hA, hbl', hx, s1⟩ := (HSL.out.below hb).atI (i := j) (by omega)
          cases hA
          have hxm := left_incr HF.out hx (by rw [← hj]; exact HY.out)
          have g3 : decide (0 < k) = true := decide_eq_true (by omega)
          have g4 : decide ((0 : Int) < (k : Int)) = true := decide_eq_true (by omega)
          have g5 : decide ((m : Int) ≤ x) = false := decide_eq_false (by omega)
          have hkj : (k : Int) - 1 = (j : Int) := by omega
          have hj0 : (0 : Int) ≤ (j : Int) := Int.natCast_nonneg _
          have hj1 : (j : Int) < (h.leaveL.length : Int) := by omega
          clear hkz hx hj
          go_wp2
          refine region_later (by kernel_rfl) (by kernel_rfl) ?_
          repeat (go_big_quiet_step (fail))
          refine wpQuiet_nil ?_
          rintro W' ⟨u, rfl⟩
          go_wp2
          go_roundw
          case rel => exact ⟨k + 1, by omega, by go_num, by rw [HOR.out], later_below hb hb.size⟩
          case measure => simp [intOf]; omega
      · obtain rfl : k = h.leaveL.length := by omega
        rw [List.take_length] at hN
        obtain ⟨M, hM⟩ : ∃ M, M = 2 ^ h.clips.length := ⟨_, rfl⟩
        have hMI : ((M : Nat) : Int) = 2 ^ h.clips.length := by rw [hM]; norm_cast
        have hMb := pow_small h.clips.length hl10
        rw [← hM] at hMb hNb
        have hfb : h.fullB = (M : Int) - 1 := by rw [Hs.fullB, hMI]
        obtain ⟨b, hbb⟩ : ∃ b, b = tr.toNat % M := ⟨_, rfl⟩
        have hbM : b < M := by rw [hbb]; exact Nat.mod_lt _ (by omega)
        obtain ⟨B1, hB1⟩ : ∃ B, B = h.fullB - (N : Int) := ⟨_, rfl⟩
        obtain ⟨B2, hB2⟩ : ∃ B, B = h.fullB - (b : Int) := ⟨_, rfl⟩
        have hBx1 : 0 ≤ B1 ∧ B1 ≤ 4096 := by omega
        have hBx2 : 0 ≤ B2 ∧ B2 ≤ 4096 := by omega
        have R1 : bits .and .i64 tr ((M : Int) - 1) = (b : Int) := by
          have := and_i64 tr.toNat (M - 1) (by omega) (by omega)
          rw [hM, Nat.and_two_pow_sub_one_eq_mod, ← hM, ← hbb] at this
          rw [← this]
          congr 1 <;> omega
        have R2 : bits .andNot .i64 ((M : Int) - 1) (N : Int) = B1 := by
          have := andnot_full (n := h.clips.length) (k := N) hl10 (by omega)
          rw [hB1, hfb, hMI]
          exact this
        have R3 : bits .andNot .i64 ((M : Int) - 1) (b : Int) = B2 := by
          have := andnot_full (n := h.clips.length) (k := b) hl10 (by omega)
          rw [hB2, hfb, hMI]
          exact this
        have HA1 := Lib.hid (show (h.someB B1).askE 0 = 0 by rw [hB1, hN]; exact (left_bits HF.out).2)
        have hA2 : (h.someB B2).askE 0 = 11 ∨ ((h.someB B2).askE 0 = 0 ∧ shorterB (bitsL (b : Int)) h.leaveL = false) := by
          rw [hB2]
          exact left_try HF.out (by omega)
        have HA2 := Lib.hid hA2
        have CF := Lib.hid (fun V (hV : HsAt V (.agg #[.int .i64 h.hour, .int .i64 h.grace, .slice A2 h.clocks.length c2, .slice A3 h.tickets.length c3, .slice A4 h.clips.length c4]) h) => (show Calls Try.prog 63 _ V (Ret (.int .i64 ((M : Int) - 1)) V) by
          have := reffull_calls _ h V hV HF.out
          rwa [← hMI] at this))
        clear hN hM hMI hfb hbb hB1 hB2 hA2 p4 hBr
        replace H1 := H1.below hb
        replace q0 := (hb.cell (p := ⟨w.heap.size, 0, none⟩) hBl).trans q0
        replace q1 := (hb.cell (p := ⟨w.heap.size, 1, none⟩) hBl).trans q1
        replace q2 := (hb.cell (p := ⟨w.heap.size, 2, none⟩) hBl).trans q2
        replace q3 := (hb.cell (p := ⟨w.heap.size, 3, none⟩) hBl).trans q3
        replace q4 := (hb.cell (p := ⟨w.heap.size, 4, none⟩) hBl).trans q4
        replace hBl := Nat.lt_of_lt_of_le hBl hb.size
        replace hb1 := hb1.trans (hb.mono hb1.size)
        replace HSL := Lib.hid (HSL.out.below hb)
        go_wp2_with (fail)
        refine (CF.out wr H1).mono ?_
        (rintro e w' ⟨rfl, z, rfl⟩)
        obtain ⟨W3, hWW3⟩ : ∃ X, X = later wr z := ⟨_, rfl⟩
        have hn : Below wr.heap.size wr W3 := by rw [hWW3]; exact below_later _ _
        rw [← hWW3] 
        clear hWW3
        replace H1 := H1.below hn
        replace q0 := (hn.cell (p := ⟨w.heap.size, 0, none⟩) hBl).trans q0
        replace q1 := (hn.cell (p := ⟨w.heap.size, 1, none⟩) hBl).trans q1
        replace q2 := (hn.cell (p := ⟨w.heap.size, 2, none⟩) hBl).trans q2
        replace q3 := (hn.cell (p := ⟨w.heap.size, 3, none⟩) hBl).trans q3
        replace q4 := (hn.cell (p := ⟨w.heap.size, 4, none⟩) hBl).trans q4
        replace hBl := Nat.lt_of_lt_of_le hBl hn.size
        replace hb1 := hb1.trans (hn.mono hb1.size)
        replace HSL := Lib.hid (HSL.out.below hn)
        clear hn
        go_wp2
        obtain ⟨C, hC⟩ : ∃ C, C = Same [⟨w.heap.size, 0, none⟩, ⟨w.heap.size, 1, none⟩, ⟨w.heap.size, 2, none⟩, ⟨w.heap.size, 3, none⟩, ⟨w.heap.size, 4, none⟩] W3 := ⟨_, rfl⟩
        obtain ⟨G, hG⟩ : ∃ G, G = held C W3.drew := ⟨_, rfl⟩
        have hfs : ∀ a ∈ ([⟨w.heap.size, 0, none⟩, ⟨w.heap.size, 1, none⟩, ⟨w.heap.size, 2, none⟩, ⟨w.heap.size, 3, none⟩, ⟨w.heap.size, 4, none⟩] : List Addr), ∀ u, W3.cell? a = some u → ∀ x, (G x).cell? a = some u := fun a ha u hu x => by
          rw [hG, hC]
          exact same_held hu ha x
        have g0 := hfs _ (by simp) _ q0
        have g1 := hfs _ (by simp) _ q1
        have g2 := hfs _ (by simp) _ q2
        have g3 := hfs _ (by simp) _ q3
        have g4 := hfs _ (by simp) _ q4
        clear hfs
        refine region_sk C [[], [], [1], [], [2, 3], [0, 4, 2], [5, 5], [6, 6], [7], [8], [8], [9, 7, 0, 1, 2, 3, 4, 5, 6, 7, 8, 9], [10, 11, 0, 1, 2, 3, 4, 5, 6, 7, 8, 9, 10, 11]] (.qs [0, 1, 3] (.one 2 (.one 4 (.one 5 (.one 6 (.one 7 (.one 8 (.qs [9, 10] (.one 11 .done))))))))) 12 (by kernel_rfl) (by kernel_rfl) (by kernel_rfl) (by rw [hC]; exact same_drew) ?_
        refine wpSk_qs (w0 := W3.drew) (by rw [hC]; exact same_drew) ?_
        rw [← hG]
        have HC' := Lib.hid hC
        clear hG hC
        simp only [List.filterMap_cons, List.filterMap_nil, List.getElem?_toArray, List.getElem?_cons_zero, List.getElem?_cons_succ]
        change wpQuiet _ _ _ _ [_, _, _] _
        repeat (go_big_quiet_step (fail))
        refine wpQuiet_nil ?_
        clear g0 g1 g2 g3 g4
        have hCb : ∀ V, Below W3.heap.size W3 V → C V := fun V hV => by
          rw [HC'.out]
          exact same_below hV (by simp only [List.mem_cons, List.not_mem_nil, or_false]; rintro a (rfl | rfl | rfl | rfl | rfl) <;> assumption)
        have HCB := Lib.hid hCb
        clear hCb
        refine wpSk_one rfl (fun K hK => ?_)
        go_simp
        refine (CF.out W3.drew (H1.below (gD (Below.refl _ _)))).mono ?_
        (rintro e w' ⟨rfl, z, rfl⟩)
        obtain ⟨V1, hV, hbV1⟩ : ∃ V, V = later W3.drew z ∧ Below W3.heap.size W3 V := ⟨_, rfl, Below.trans (gD (Below.refl _ _)) (below_later W3.drew z)⟩
        rw [← hV]
        clear hV
        refine hK.out _ _ (HCB.out _ hbV1) ?_
        clear hK K
        refine wpSk_one rfl (fun K hK => ?_)
        go_simp
        refine hK.out _ _ (HCB.out _ hbV1) ?_
        clear hK K
        refine wpSk_one rfl (fun K hK => ?_)
        go_simp
        refine (some_calls _ h B1 V1 (H1.below hbV1) hl10 hBx1).mono ?_
        (rintro e w' ⟨v, rfl, ⟨z, rfl⟩, HH⟩)
        obtain ⟨V2, hV, hbV2⟩ : ∃ V, V = later V1 z ∧ Below W3.heap.size W3 V := ⟨_, rfl, later_below hbV1 hbV1.size⟩
        rw [← hV] at HH ⊢
        clear hV
        refine hK.out _ _ (HCB.out _ hbV2) ?_
        clear hK K
        refine wpSk_one rfl (fun K hK => ?_)
        go_simp
        refine (house_calls _ (h.someB B1) V2 HH hl2 hl3 (Nat.le_trans (some_len h B1) hl4)).mono ?_
        (rintro e w' ⟨v, rfl, ⟨z, rfl⟩, HH⟩)
        obtain ⟨V3, hV, hbV3⟩ : ∃ V, V = later V2 z ∧ Below W3.heap.size W3 V := ⟨_, rfl, later_below hbV2 hbV2.size⟩
        rw [← hV] at HH ⊢
        clear hV
        refine hK.out _ _ (HCB.out _ hbV3) ?_
        clear hK K
        refine wpSk_one rfl (fun K hK => ?_)
        go_simp
        have CA := clocks_calls v (h.someB B1) V3 HH
        rw [HA1.out] at CA
        refine CA.mono ?_
        clear CA HH
        (rintro e w' ⟨X, cx, rfl, ⟨z, rfl⟩, -⟩)
        obtain ⟨W4, hV, hbW4⟩ : ∃ V, V = later V3 z ∧ Below W3.heap.size W3 V := ⟨_, rfl, later_below hbV3 hbV3.size⟩
        rw [← hV]
        clear hV
        refine hK.out _ _ (HCB.out _ hbW4) ?_
        clear hK K
        refine wpSk_one rfl (fun K hK => ?_)
        go_simp
        refine hK.out _ _ (HCB.out _ hbW4) ?_
        clear hK K
        refine wpSk_qs (w0 := W4) (HCB.out _ hbW4) ?_
        simp only [List.filterMap_cons, List.filterMap_nil, List.getElem?_toArray, List.getElem?_cons_zero, List.getElem?_cons_succ]
        change wpQuiet _ _ _ _ [_, _] _
        repeat (go_big_quiet_step (fail))
        refine wpQuiet_nil ?_
        refine wpSk_one rfl (fun K hK => ?_)
        go_simp
        refine hK.out _ _ (HCB.out _ hbW4) ?_
        clear hK K
        refine wpSk_done rfl (fun K hK => ?_)
        go_simp
        refine hK.out _ _ (noPanic_mk ?_)
        clear hK K HCB HC'
        replace H1 := H1.below hbW4
        replace q0 := (hbW4.cell (p := ⟨w.heap.size, 0, none⟩) hBl).trans q0
        replace q1 := (hbW4.cell (p := ⟨w.heap.size, 1, none⟩) hBl).trans q1
        replace q2 := (hbW4.cell (p := ⟨w.heap.size, 2, none⟩) hBl).trans q2
        replace q3 := (hbW4.cell (p := ⟨w.heap.size, 3, none⟩) hBl).trans q3
        replace q4 := (hbW4.cell (p := ⟨w.heap.size, 4, none⟩) hBl).trans q4
        replace hBl := Nat.lt_of_lt_of_le hBl hbW4.size
        replace hb1 := hb1.trans (hbW4.mono hb1.size)
        replace HSL := Lib.hid (HSL.out.below hbW4)
        go_wp2
        rcases HA2.out with h11 | ⟨h0, hsh⟩
        · have HA3 := Lib.hid h11
          obtain ⟨C, hC⟩ : ∃ C, C = Same [⟨w.heap.size, 0, none⟩, ⟨w.heap.size, 1, none⟩, ⟨w.heap.size, 2, none⟩, ⟨w.heap.size, 3, none⟩, ⟨w.heap.size, 4, none⟩] W4 := ⟨_, rfl⟩
          obtain ⟨G, hG⟩ : ∃ G, G = held C W4.drew := ⟨_, rfl⟩
          have hfs : ∀ a ∈ ([⟨w.heap.size, 0, none⟩, ⟨w.heap.size, 1, none⟩, ⟨w.heap.size, 2, none⟩, ⟨w.heap.size, 3, none⟩, ⟨w.heap.size, 4, none⟩] : List Addr), ∀ u, W4.cell? a = some u → ∀ x, (G x).cell? a = some u := fun a ha u hu x => by
            rw [hG, hC]
            exact same_held hu ha x
          have g0 := hfs _ (by simp) _ q0
          have g1 := hfs _ (by simp) _ q1
          have g2 := hfs _ (by simp) _ q2
          have g3 := hfs _ (by simp) _ q3
          have g4 := hfs _ (by simp) _ q4
          clear hfs
          refine region_sk C [[], [], [1], [], [2, 3], [0, 4, 2], [5, 5], [6, 6], [7], [8], [8], [9, 7, 0, 1, 2, 3, 4, 5, 6, 7, 8, 9], [10, 11, 0, 1, 2, 3, 4, 5, 6, 7, 8, 9, 10, 11]] (.qs [0, 1, 3] (.one 2 (.one 4 (.one 5 (.one 6 (.one 7 (.one 8 (.qs [9, 10] (.one 11 .done))))))))) 12 (by kernel_rfl) (by kernel_rfl) (by kernel_rfl) (by rw [hC]; exact same_drew) ?_
          refine wpSk_qs (w0 := W4.drew) (by rw [hC]; exact same_drew) ?_
          rw [← hG]
          have HC' := Lib.hid hC
          clear hG hC
          simp only [List.filterMap_cons, List.filterMap_nil, List.getElem?_toArray, List.getElem?_cons_zero, List.getElem?_cons_succ]
          change wpQuiet _ _ _ _ [_, _, _] _
          repeat (go_big_quiet_step (fail))
          refine wpQuiet_nil ?_
          clear g0 g1 g2 g3 g4
          have hCb : ∀ V, Below W4.heap.size W4 V → C V := fun V hV => by
            rw [HC'.out]
            exact same_below hV (by simp only [List.mem_cons, List.not_mem_nil, or_false]; rintro a (rfl | rfl | rfl | rfl | rfl) <;> assumption)
          have HCB := Lib.hid hCb
          clear hCb
          refine wpSk_one rfl (fun K hK => ?_)
          go_simp
          refine (CF.out W4.drew (H1.below (gD (Below.refl _ _)))).mono ?_
          (rintro e w' ⟨rfl, z, rfl⟩)
          obtain ⟨V1, hV, hbV1⟩ : ∃ V, V = later W4.drew z ∧ Below W4.heap.size W4 V := ⟨_, rfl, Below.trans (gD (Below.refl _ _)) (below_later W4.drew z)⟩
          rw [← hV]
          clear hV
          refine hK.out _ _ (HCB.out _ hbV1) ?_
          clear hK K
          refine wpSk_one rfl (fun K hK => ?_)
          go_simp
          refine hK.out _ _ (HCB.out _ hbV1) ?_
          clear hK K
          refine wpSk_one rfl (fun K hK => ?_)
          go_simp
          refine (some_calls _ h B2 V1 (H1.below hbV1) hl10 hBx2).mono ?_
          (rintro e w' ⟨v, rfl, ⟨z, rfl⟩, HH⟩)
          obtain ⟨V2, hV, hbV2⟩ : ∃ V, V = later V1 z ∧ Below W4.heap.size W4 V := ⟨_, rfl, later_below hbV1 hbV1.size⟩
          rw [← hV] at HH ⊢
          clear hV
          refine hK.out _ _ (HCB.out _ hbV2) ?_
          clear hK K
          refine wpSk_one rfl (fun K hK => ?_)
          go_simp
          refine (house_calls _ (h.someB B2) V2 HH hl2 hl3 (Nat.le_trans (some_len h B2) hl4)).mono ?_
          (rintro e w' ⟨v, rfl, ⟨z, rfl⟩, HH⟩)
          obtain ⟨V3, hV, hbV3⟩ : ∃ V, V = later V2 z ∧ Below W4.heap.size W4 V := ⟨_, rfl, later_below hbV2 hbV2.size⟩
          rw [← hV] at HH ⊢
          clear hV
          refine hK.out _ _ (HCB.out _ hbV3) ?_
          clear hK K
          refine wpSk_one rfl (fun K hK => ?_)
          go_simp
          have CA := clocks_calls v (h.someB B2) V3 HH
          rw [HA3.out] at CA
          refine CA.mono ?_
          clear CA HH
          (rintro e w' ⟨X, cx, rfl, ⟨z, rfl⟩, -⟩)
          obtain ⟨W5, hV, hbW5⟩ : ∃ V, V = later V3 z ∧ Below W4.heap.size W4 V := ⟨_, rfl, later_below hbV3 hbV3.size⟩
          rw [← hV]
          clear hV
          refine hK.out _ _ (HCB.out _ hbW5) ?_
          clear hK K
          refine wpSk_one rfl (fun K hK => ?_)
          go_simp
          refine hK.out _ _ (HCB.out _ hbW5) ?_
          clear hK K
          refine wpSk_qs (w0 := W5) (HCB.out _ hbW5) ?_
          simp only [List.filterMap_cons, List.filterMap_nil, List.getElem?_toArray, List.getElem?_cons_zero, List.getElem?_cons_succ]
          change wpQuiet _ _ _ _ [_, _] _
          repeat (go_big_quiet_step (fail))
          refine wpQuiet_nil ?_
          refine wpSk_one rfl (fun K hK => ?_)
          go_simp
          refine hK.out _ _ (HCB.out _ hbW5) ?_
          clear hK K
          refine wpSk_done rfl (fun K hK => ?_)
          go_simp
          refine hK.out _ _ (noPanic_mk ?_)
          clear hK K HCB HC'
          replace H1 := H1.below hbW5
          replace q0 := (hbW5.cell (p := ⟨w.heap.size, 0, none⟩) hBl).trans q0
          replace q1 := (hbW5.cell (p := ⟨w.heap.size, 1, none⟩) hBl).trans q1
          replace q2 := (hbW5.cell (p := ⟨w.heap.size, 2, none⟩) hBl).trans q2
          replace q3 := (hbW5.cell (p := ⟨w.heap.size, 3, none⟩) hBl).trans q3
          replace q4 := (hbW5.cell (p := ⟨w.heap.size, 4, none⟩) hBl).trans q4
          replace hBl := Nat.lt_of_lt_of_le hBl hbW5.size
          replace hb1 := hb1.trans (hbW5.mono hb1.size)
          replace HSL := Lib.hid (HSL.out.below hbW5)
          go_wp2_with (fail)
          refine (awake_calls _).mono ?_
          (rintro e w' hr; first | ((with_reducible replace hr := Ret.up hr); obtain ⟨rfl, z, rfl⟩ := hr) | (obtain ⟨rfl, z, rfl⟩ := hr))
          go_wp2
          go_ret
          exact ret_mk rfl (later_below hb1 hb1.size)
        · have HA3 := Lib.hid h0
          obtain ⟨C, hC⟩ : ∃ C, C = Same [⟨w.heap.size, 0, none⟩, ⟨w.heap.size, 1, none⟩, ⟨w.heap.size, 2, none⟩, ⟨w.heap.size, 3, none⟩, ⟨w.heap.size, 4, none⟩] W4 := ⟨_, rfl⟩
          obtain ⟨G, hG⟩ : ∃ G, G = held C W4.drew := ⟨_, rfl⟩
          have hfs : ∀ a ∈ ([⟨w.heap.size, 0, none⟩, ⟨w.heap.size, 1, none⟩, ⟨w.heap.size, 2, none⟩, ⟨w.heap.size, 3, none⟩, ⟨w.heap.size, 4, none⟩] : List Addr), ∀ u, W4.cell? a = some u → ∀ x, (G x).cell? a = some u := fun a ha u hu x => by
            rw [hG, hC]
            exact same_held hu ha x
          have g0 := hfs _ (by simp) _ q0
          have g1 := hfs _ (by simp) _ q1
          have g2 := hfs _ (by simp) _ q2
          have g3 := hfs _ (by simp) _ q3
          have g4 := hfs _ (by simp) _ q4
          clear hfs
          refine region_sk C [[], [], [1], [], [2, 3], [0, 4, 2], [5, 5], [6, 6], [7], [8], [8], [9, 7, 0, 1, 2, 3, 4, 5, 6, 7, 8, 9], [10, 11, 0, 1, 2, 3, 4, 5, 6, 7, 8, 9, 10, 11]] (.qs [0, 1, 3] (.one 2 (.one 4 (.one 5 (.one 6 (.one 7 (.one 8 (.qs [9, 10] (.one 11 .done))))))))) 12 (by kernel_rfl) (by kernel_rfl) (by kernel_rfl) (by rw [hC]; exact same_drew) ?_
          refine wpSk_qs (w0 := W4.drew) (by rw [hC]; exact same_drew) ?_
          rw [← hG]
          have HC' := Lib.hid hC
          clear hG hC
          simp only [List.filterMap_cons, List.filterMap_nil, List.getElem?_toArray, List.getElem?_cons_zero, List.getElem?_cons_succ]
          change wpQuiet _ _ _ _ [_, _, _] _
          repeat (go_big_quiet_step (fail))
          refine wpQuiet_nil ?_
          clear g0 g1 g2 g3 g4
          have hCb : ∀ V, Below W4.heap.size W4 V → C V := fun V hV => by
            rw [HC'.out]
            exact same_below hV (by simp only [List.mem_cons, List.not_mem_nil, or_false]; rintro a (rfl | rfl | rfl | rfl | rfl) <;> assumption)
          have HCB := Lib.hid hCb
          clear hCb
          refine wpSk_one rfl (fun K hK => ?_)
          go_simp
          refine (CF.out W4.drew (H1.below (gD (Below.refl _ _)))).mono ?_
          (rintro e w' ⟨rfl, z, rfl⟩)
          obtain ⟨V1, hV, hbV1⟩ : ∃ V, V = later W4.drew z ∧ Below W4.heap.size W4 V := ⟨_, rfl, Below.trans (gD (Below.refl _ _)) (below_later W4.drew z)⟩
          rw [← hV]
          clear hV
          refine hK.out _ _ (HCB.out _ hbV1) ?_
          clear hK K
          refine wpSk_one rfl (fun K hK => ?_)
          go_simp
          refine hK.out _ _ (HCB.out _ hbV1) ?_
          clear hK K
          refine wpSk_one rfl (fun K hK => ?_)
          go_simp
          refine (some_calls _ h B2 V1 (H1.below hbV1) hl10 hBx2).mono ?_
          (rintro e w' ⟨v, rfl, ⟨z, rfl⟩, HH⟩)
          obtain ⟨V2, hV, hbV2⟩ : ∃ V, V = later V1 z ∧ Below W4.heap.size W4 V := ⟨_, rfl, later_below hbV1 hbV1.size⟩
          rw [← hV] at HH ⊢
          clear hV
          refine hK.out _ _ (HCB.out _ hbV2) ?_
          clear hK K
          refine wpSk_one rfl (fun K hK => ?_)
          go_simp
          refine (house_calls _ (h.someB B2) V2 HH hl2 hl3 (Nat.le_trans (some_len h B2) hl4)).mono ?_
          (rintro e w' ⟨v, rfl, ⟨z, rfl⟩, HH⟩)
          obtain ⟨V3, hV, hbV3⟩ : ∃ V, V = later V2 z ∧ Below W4.heap.size W4 V := ⟨_, rfl, later_below hbV2 hbV2.size⟩
          rw [← hV] at HH ⊢
          clear hV
          refine hK.out _ _ (HCB.out _ hbV3) ?_
          clear hK K
          refine wpSk_one rfl (fun K hK => ?_)
          go_simp
          have CA := clocks_calls v (h.someB B2) V3 HH
          rw [HA3.out] at CA
          refine CA.mono ?_
          clear CA HH
          (rintro e w' ⟨X, cx, rfl, ⟨z, rfl⟩, -⟩)
          obtain ⟨W5, hV, hbW5⟩ : ∃ V, V = later V3 z ∧ Below W4.heap.size W4 V := ⟨_, rfl, later_below hbV3 hbV3.size⟩
          rw [← hV]
          clear hV
          refine hK.out _ _ (HCB.out _ hbW5) ?_
          clear hK K
          refine wpSk_one rfl (fun K hK => ?_)
          go_simp
          refine hK.out _ _ (HCB.out _ hbW5) ?_
          clear hK K
          refine wpSk_qs (w0 := W5) (HCB.out _ hbW5) ?_
          simp only [List.filterMap_cons, List.filterMap_nil, List.getElem?_toArray, List.getElem?_cons_zero, List.getElem?_cons_succ]
          change wpQuiet _ _ _ _ [_, _] _
          repeat (go_big_quiet_step (fail))
          refine wpQuiet_nil ?_
          refine wpSk_one rfl (fun K hK => ?_)
          go_simp
          refine hK.out _ _ (HCB.out _ hbW5) ?_
          clear hK K
          refine wpSk_done rfl (fun K hK => ?_)
          go_simp
          refine hK.out _ _ (noPanic_mk ?_)
          clear hK K HCB HC'
          replace H1 := H1.below hbW5
          replace q0 := (hbW5.cell (p := ⟨w.heap.size, 0, none⟩) hBl).trans q0
          replace q1 := (hbW5.cell (p := ⟨w.heap.size, 1, none⟩) hBl).trans q1
          replace q2 := (hbW5.cell (p := ⟨w.heap.size, 2, none⟩) hBl).trans q2
          replace q3 := (hbW5.cell (p := ⟨w.heap.size, 3, none⟩) hBl).trans q3
          replace q4 := (hbW5.cell (p := ⟨w.heap.size, 4, none⟩) hBl).trans q4
          replace hBl := Nat.lt_of_lt_of_le hBl hbW5.size
          replace hb1 := hb1.trans (hbW5.mono hb1.size)
          replace HSL := Lib.hid (HSL.out.below hbW5)
          go_wp2_with (fail)
          refine (refbits_calls (b : Int) W5 (by omega) (by omega)).mono ?_
          (rintro e w' ⟨X, cx, rfl, ⟨z, rfl⟩, hsx⟩)
          have CS := refshorter_calls X A cx c (bitsL (b : Int)) h.leaveL (later W5 z) hsx (HSL.out.below (below_later W5 z))
          rw [hsh] at CS
          have CS := Lib.hid CS
          clear hsx
          go_wp2_with (fail)
          refine CS.out.mono ?_
          (rintro e w' hr; first | ((with_reducible replace hr := Ret.up hr); obtain ⟨rfl, z, rfl⟩ := hr) | (obtain ⟨rfl, z, rfl⟩ := hr))
          go_wp2_with (fail)
          refine (awake_calls _).mono ?_
          (rintro e w' hr; first | ((with_reducible replace hr := Ret.up hr); obtain ⟨rfl, z, rfl⟩ := hr) | (obtain ⟨rfl, z, rfl⟩ := hr))
          go_wp2
          go_ret
          exact ret_mk rfl (later_below hb1 hb1.size)
end Go.Proofs.Ytcngnfnljkkjgaa
