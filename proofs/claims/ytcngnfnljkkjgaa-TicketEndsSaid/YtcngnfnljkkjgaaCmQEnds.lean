/-
TicketEnds: the walk.
-/
import Derived.Test.YtcngnfnljkkjgaaCmZ
import Derived.Test.YtcngnfnljkkjgaaCmN
import Derived.Test.YtcngnfnljkkjgaaCmY
import Derived.Test.YtcngnfnljkkjgaaCmV
import Derived.Test.YtcngnfnljkkjgaaCmQFirst
namespace Go.Proofs.Ytcngnfnljkkjgaa
open Go.RowKit
attribute [local go_sem] cell_later frozen_later lt_later le_later

theorem rem_nat {n : Nat} (c : Int) (hn : 0 < n) : ∃ k : Nat, (k : Int) = c % (n : Int) ∧ k < n := by
  have h1 := Int.emod_nonneg c (show (n : Int) ≠ 0 by omega)
  have h2 := Int.emod_lt_of_pos c (show (0 : Int) < (n : Int) by omega)
  exact ⟨(c % (n : Int)).toNat, by omega, by omega⟩

/-- Which end a truth reaches. -/
def Hs.endP (h : Hs) (kc kt : Nat) (e : List Int) : Nat → Bool
  | 0 => err e (kc : Int) == (h.clockR kc).lo
  | 1 => err e (kc : Int) == (h.clockR kc).hi
  | 2 => h.hoursB e (kt : Int) == (h.hourR kt).lo
  | _ => h.hoursB e (kt : Int) == (h.hourR kt).hi
theorem bits_or {m k : Nat} (hm : m < 16) (hk : k < 4) : m ||| 2 ^ k < 16 := by
  have h1 : 2 ^ k < 2 ^ 4 := Nat.pow_lt_pow_right (by decide) hk
  exact Nat.or_lt_two_pow (n := 4) hm h1
theorem bits_all : ∀ m, m < 16 → m.testBit 0 = true → m.testBit 1 = true → m.testBit 2 = true → m.testBit 3 = true → m = 15 := by decide
theorem ends_any {h : Hs} (ha : h.askE 0 = 0) (kc kt : Nat) : (h.truR.any fun e => h.endP kc kt e 0) = true ∧ (h.truR.any fun e => h.endP kc kt e 1) = true ∧ (h.truR.any fun e => h.endP kc kt e 2) = true ∧ (h.truR.any fun e => h.endP kc kt e 3) = true := by
  obtain ⟨⟨e1, m1, x1⟩, e2, m2, x2⟩ := ends_clock ha kc
  obtain ⟨⟨e3, m3, x3⟩, e4, m4, x4⟩ := ends_hour ha kt
  simp only [List.any_eq_true]
  exact ⟨⟨e1, m1, by simp [Hs.endP, x1]⟩, ⟨e2, m2, by simp [Hs.endP, x2]⟩, ⟨e3, m3, by simp [Hs.endP, x3]⟩, ⟨e4, m4, by simp [Hs.endP, x4]⟩⟩
theorem any_take {l : List (List Int)} {p : List Int → Bool} {k : Nat} {e : List Int} (he : l[k]? = some e) : (l.take (k + 1)).any p = ((l.take k).any p || p e) := by
  rw [List.take_add_one, he, List.any_append]
  simp

set_option maxRecDepth 100000 in
set_option maxHeartbeats 4000000 in
theorem lawends_calls (v : Value) (h : Hs) (cv ov : Int) (w : World) (H : HsAt w v h) (hcv : 0 ≤ cv ∧ cv ≤ 255) (hov : 0 ≤ ov ∧ ov ≤ 255) :
    Calls Try.prog 9 #[v, .int .u8 cv, .int .u8 ov] w (Ret (.bool true) w) := by
  have H0 := H
  obtain ⟨A2, c2, A3, c3, A4, c4, rfl, H2, H3, H4⟩ := H
  obtain ⟨W1, hW1⟩ : ∃ W1, W1 = w.alloc (.cells #[.int .i64 h.hour, .int .i64 h.grace, .slice A2 h.clocks.length c2, .slice A3 h.tickets.length c3, .slice A4 h.clips.length c4] 26) := ⟨_, rfl⟩
  have hb1 : Below w.heap.size w W1 := by rw [hW1]; exact gA (Below.refl _ _)
  have hB : BlkAt W1 w.heap.size 26 [.int .i64 h.hour, .int .i64 h.grace, .slice A2 h.clocks.length c2, .slice A3 h.tickets.length c3, .slice A4 h.clips.length c4] := by rw [hW1]; exact BlkAt.new _ _ _
  have H1 := H0.below hb1
  have q0 := hB.cell 0
  have q1 := hB.cell 1
  have q2 := hB.cell 2
  have q3 := hB.cell 3
  have q4 := hB.cell 4
  simp only [List.getElem?_cons_zero, List.getElem?_cons_succ] at q0 q1 q2 q3 q4
  have hBl := hB.lt
  cases hr : h.readyB with
  | false =>
    go_enter Try.func9, Try.ntmps9
    go_wp2_with (fail)
    rw [← hW1]
    clear hW1
    refine (ready_calls _ h _ H1).mono ?_
    (rintro e w' hr; first | ((with_reducible replace hr := Ret.up hr); obtain ⟨rfl, z, rfl⟩ := hr) | (obtain ⟨rfl, z, rfl⟩ := hr))
    go_wp2_with (fail)
    refine (awake_calls _).mono ?_
    (rintro e w' hr; first | ((with_reducible replace hr := Ret.up hr); obtain ⟨rfl, z, rfl⟩ := hr) | (obtain ⟨rfl, z, rfl⟩ := hr))
    go_wp2
    go_ret
    exact ret_mk rfl (later_below hb1 hb1.size)
  | true =>
    obtain ⟨hl2, hl3, hl4, hf, hl10⟩ := ready_of hr
    by_cases hc0 : h.clocks.length = 0
    · have hc1 : ((h.clocks.length : Int) == 0) = true := by simp [hc0]
      clear hc0
      go_enter Try.func9, Try.ntmps9
      go_wp2_with (fail)
      rw [← hW1]
      clear hW1
      refine (ready_calls _ h _ H1).mono ?_
      (rintro e w' hr; first | ((with_reducible replace hr := Ret.up hr); obtain ⟨rfl, z, rfl⟩ := hr) | (obtain ⟨rfl, z, rfl⟩ := hr))
      go_wp2_with (fail)
      refine (awake_calls _).mono ?_
      (rintro e w' hr; first | ((with_reducible replace hr := Ret.up hr); obtain ⟨rfl, z, rfl⟩ := hr) | (obtain ⟨rfl, z, rfl⟩ := hr))
      go_wp2
      go_ret
      exact ret_mk rfl (later_below hb1 hb1.size)
    · have hc1 : ((h.clocks.length : Int) == 0) = false := beq_eq_false_iff_ne.2 (by omega)
      have hcp : (0 : Int) < (h.clocks.length : Int) := by omega
      by_cases ht0 : h.tickets.length = 0
      · have ht1 : ((h.tickets.length : Int) == 0) = true := by simp [ht0]
        clear ht0 hc0
        go_enter Try.func9, Try.ntmps9
        go_wp2_with (fail)
        rw [← hW1]
        clear hW1
        refine (ready_calls _ h _ H1).mono ?_
        (rintro e w' hr; first | ((with_reducible replace hr := Ret.up hr); obtain ⟨rfl, z, rfl⟩ := hr) | (obtain ⟨rfl, z, rfl⟩ := hr))
        go_wp2_with (fail)
        refine (awake_calls _).mono ?_
        (rintro e w' hr; first | ((with_reducible replace hr := Ret.up hr); obtain ⟨rfl, z, rfl⟩ := hr) | (obtain ⟨rfl, z, rfl⟩ := hr))
        go_wp2
        go_ret
        exact ret_mk rfl (later_below hb1 hb1.size)
      · have ht1 : ((h.tickets.length : Int) == 0) = false := beq_eq_false_iff_ne.2 (by omega)
        have htp : (0 : Int) < (h.tickets.length : Int) := by omega
        obtain ⟨kc, hkc, hkcl⟩ := rem_nat (n := h.clocks.length) cv (by omega)
        obtain ⟨kt, hkt, hktl⟩ := rem_nat (n := h.tickets.length) ov (by omega)
        have HKC := Lib.hid hkc
        have HKT := Lib.hid hkt
        have HF := Lib.hid hf
        clear hkc hkt hf hc0 ht0
        go_enter Try.func9, Try.ntmps9
        go_wp2_with (fail)
        rw [← hW1]
        clear hW1
        refine (ready_calls _ h _ H1).mono ?_
        (rintro e w' hr; first | ((with_reducible replace hr := Ret.up hr); obtain ⟨rfl, z, rfl⟩ := hr) | (obtain ⟨rfl, z, rfl⟩ := hr))
        obtain ⟨W2, hWW2⟩ : ∃ X, X = later W1 z := ⟨_, rfl⟩
        have hn : Below W1.heap.size W1 W2 := by rw [hWW2]; exact below_later _ _
        rw [← hWW2] 
        clear hWW2
        replace H1 := H1.below hn
        replace q0 := (hn.cell (p := ⟨w.heap.size, 0, none⟩) hBl).trans q0
        replace q1 := (hn.cell (p := ⟨w.heap.size, 1, none⟩) hBl).trans q1
        replace q2 := (hn.cell (p := ⟨w.heap.size, 2, none⟩) hBl).trans q2
        replace q3 := (hn.cell (p := ⟨w.heap.size, 3, none⟩) hBl).trans q3
        replace q4 := (hn.cell (p := ⟨w.heap.size, 4, none⟩) hBl).trans q4
        replace hBl := Nat.lt_of_lt_of_le hBl hn.size
        replace hb1 := hb1.trans (hn.mono hb1.size)
        clear hn
        go_wp2
        refine region_later (by kernel_rfl) (by kernel_rfl) ?_
        repeat (go_big_quiet_step (fail))
        refine wpQuiet_nil ?_
        rintro W' ⟨u, rfl⟩
        obtain ⟨W3, hWW3⟩ : ∃ X, X = later W2 u := ⟨_, rfl⟩
        have hn : Below W2.heap.size W2 W3 := by rw [hWW3]; exact below_later _ _
        rw [← hWW3] 
        clear hWW3
        replace H1 := H1.below hn
        replace q0 := (hn.cell (p := ⟨w.heap.size, 0, none⟩) hBl).trans q0
        replace q1 := (hn.cell (p := ⟨w.heap.size, 1, none⟩) hBl).trans q1
        replace q2 := (hn.cell (p := ⟨w.heap.size, 2, none⟩) hBl).trans q2
        replace q3 := (hn.cell (p := ⟨w.heap.size, 3, none⟩) hBl).trans q3
        replace q4 := (hn.cell (p := ⟨w.heap.size, 4, none⟩) hBl).trans q4
        replace hBl := Nat.lt_of_lt_of_le hBl hn.size
        replace hb1 := hb1.trans (hn.mono hb1.size)
        clear hn
        go_wp2_with (fail)
        rw [← HKC.out, ← HKT.out]
        clear HKC HKT
        by_cases ha : h.askE 0 = 0
        · have HLA := Lib.hid (cl_len ha)
          have HLB := Lib.hid (hr_len ha)
          have HA := Lib.hid ha
          have HS := Lib.hid (show h.sureL = h.truR by rw [Hs.sureL, if_pos ha])
          clear ha
          refine (house_calls _ h _ (by first | with_reducible exact H1 | exact H1.below (below_later _ _)) hl2 hl3 hl4).mono ?_
          (rintro e w' hr; first | ((with_reducible replace hr := RetHs.up hr); obtain ⟨v, rfl, ⟨z, rfl⟩, HH⟩ := hr) | (obtain ⟨v, rfl, ⟨z, rfl⟩, HH⟩ := hr))
          go_wp2_with (fail)
          have CA := clocks_calls v h _ HH
          rw [HA.out] at CA
          refine CA.mono ?_
          clear CA HH
          (rintro e w' hr; first | ((with_reducible replace hr := RetSlN.up hr); obtain ⟨A5, c5, rfl, ⟨z, rfl⟩, hsl⟩ := hr) | (obtain ⟨A5, c5, rfl, ⟨z, rfl⟩, hsl⟩ := hr))
          rw [HLA.out]
          obtain ⟨W4, hWW4⟩ : ∃ X, X = later W3 z := ⟨_, rfl⟩
          have hn : Below W3.heap.size W3 W4 := by rw [hWW4]; exact below_later _ _
          rw [← hWW4] at hsl ⊢
          clear hWW4
          replace H1 := H1.below hn
          replace q0 := (hn.cell (p := ⟨w.heap.size, 0, none⟩) hBl).trans q0
          replace q1 := (hn.cell (p := ⟨w.heap.size, 1, none⟩) hBl).trans q1
          replace q2 := (hn.cell (p := ⟨w.heap.size, 2, none⟩) hBl).trans q2
          replace q3 := (hn.cell (p := ⟨w.heap.size, 3, none⟩) hBl).trans q3
          replace q4 := (hn.cell (p := ⟨w.heap.size, 4, none⟩) hBl).trans q4
          replace hBl := Nat.lt_of_lt_of_le hBl hn.size
          replace hb1 := hb1.trans (hn.mono hb1.size)
          have HS4 := Lib.hid hsl
          clear hn hsl
          go_wp2_with (fail)
          refine (house_calls _ h _ (by first | with_reducible exact H1 | exact H1.below (below_later _ _)) hl2 hl3 hl4).mono ?_
          (rintro e w' hr; first | ((with_reducible replace hr := RetHs.up hr); obtain ⟨v, rfl, ⟨z, rfl⟩, HH⟩ := hr) | (obtain ⟨v, rfl, ⟨z, rfl⟩, HH⟩ := hr))
          go_wp2_with (fail)
          have CA := hours_all_calls v h _ HH
          rw [HA.out] at CA
          refine CA.mono ?_
          clear CA HH
          (rintro e w' hr; first | ((with_reducible replace hr := RetSlN.up hr); obtain ⟨A6, c6, rfl, ⟨z, rfl⟩, hsl⟩ := hr) | (obtain ⟨A6, c6, rfl, ⟨z, rfl⟩, hsl⟩ := hr))
          rw [HLB.out]
          obtain ⟨W5, hWW5⟩ : ∃ X, X = later W4 z := ⟨_, rfl⟩
          have hn : Below W4.heap.size W4 W5 := by rw [hWW5]; exact below_later _ _
          rw [← hWW5] at hsl ⊢
          clear hWW5
          replace H1 := H1.below hn
          replace q0 := (hn.cell (p := ⟨w.heap.size, 0, none⟩) hBl).trans q0
          replace q1 := (hn.cell (p := ⟨w.heap.size, 1, none⟩) hBl).trans q1
          replace q2 := (hn.cell (p := ⟨w.heap.size, 2, none⟩) hBl).trans q2
          replace q3 := (hn.cell (p := ⟨w.heap.size, 3, none⟩) hBl).trans q3
          replace q4 := (hn.cell (p := ⟨w.heap.size, 4, none⟩) hBl).trans q4
          replace hBl := Nat.lt_of_lt_of_le hBl hn.size
          replace hb1 := hb1.trans (hn.mono hb1.size)
          have HS5 := Lib.hid hsl
          replace HS4 := Lib.hid (HS4.out.below hn)
          clear hn hsl
          go_wp2_with (fail)
          have CS := sure_calls _ h W5 H1 hl4
          rw [HA.out, HS.out] at CS
          refine CS.mono ?_
          clear CS
          (rintro e w' hr; obtain ⟨B, d, rfl, ⟨z, rfl⟩, hls⟩ := hr)
          obtain ⟨W6, hWW6⟩ : ∃ X, X = later W5 z := ⟨_, rfl⟩
          have hn : Below W5.heap.size W5 W6 := by rw [hWW6]; exact below_later _ _
          rw [← hWW6] at hls ⊢
          clear hWW6
          replace H1 := H1.below hn
          replace q0 := (hn.cell (p := ⟨w.heap.size, 0, none⟩) hBl).trans q0
          replace q1 := (hn.cell (p := ⟨w.heap.size, 1, none⟩) hBl).trans q1
          replace q2 := (hn.cell (p := ⟨w.heap.size, 2, none⟩) hBl).trans q2
          replace q3 := (hn.cell (p := ⟨w.heap.size, 3, none⟩) hBl).trans q3
          replace q4 := (hn.cell (p := ⟨w.heap.size, 4, none⟩) hBl).trans q4
          replace hBl := Nat.lt_of_lt_of_le hBl hn.size
          replace hb1 := hb1.trans (hn.mono hb1.size)
          replace HS4 := Lib.hid (HS4.out.below hn)
          replace HS5 := Lib.hid (HS5.out.below hn)
          have hlb := hls.2.1
          have HLS := Lib.hid hls
          clear hn hls
          go_wp2
          go_loopw [15, 16] (fun mv iv wr => ∃ (i m : Nat), i ≤ h.truR.length ∧ iv = .int .i64 i ∧ mv = .int .i64 m ∧ m < 16 ∧ (∀ j, j < 4 → m.testBit j = (h.truR.take i).any fun e => h.endP kc kt e j) ∧ Below W6.heap.size W6 wr) (fun _ i _ => h.truR.length - (intOf i).toNat)
          case atStart => exact ⟨0, 0, Nat.zero_le _, rfl, rfl, by decide, fun j _ => by simp, Below.refl _ _⟩
          case round =>
            obtain ⟨i, m, hi, rfl, rfl, hm, hbits, hb⟩ := hrel
            have HBI := Lib.hid hbits
            clear hbits
            by_cases hlt : i < h.truR.length
            · have hlt1 : (i : Int) < (h.truR.length : Int) := by omega
              have hi0 : (0 : Int) ≤ (i : Int) := Int.natCast_nonneg _
              obtain ⟨b, off, e, B', d', rfl, hbl, he, s0, hsl, -⟩ := (HLS.out.below hb).at hlt
              have heo := truR_errs HF.out e (List.mem_of_getElem? he)
              obtain ⟨p, ofp, y, rfl, hpl, hy, t0⟩ := hsl.atI (i := kc) (by rw [heo.2]; exact hkcl)
              have hyv : err e (kc : Int) = y := by simp [err, List.getD_eq_getElem?_getD, hy]
              obtain ⟨ba, oa, ya, rfl, hba, hya, sa0, sa1⟩ := (HS4.out.below hb).atR (i := kc) (by rw [HLA.out]; exact hkcl)
              obtain ⟨bb, ob, yb, rfl, hbb, hyb, sb0, sb1⟩ := (HS5.out.below hb).atR (i := kt) (by rw [HLB.out]; exact hktl)
              rw [cl_get HA.out hkcl] at hya
              rw [hr_get HA.out hktl] at hyb
              have hya := Option.some.inj hya
              have hyb := Option.some.inj hyb
              have p0 := (hb.cell (p := ⟨w.heap.size, 0, none⟩) hBl).trans q0
              have p1 := (hb.cell (p := ⟨w.heap.size, 1, none⟩) hBl).trans q1
              have p2 := (hb.cell (p := ⟨w.heap.size, 2, none⟩) hBl).trans q2
              have p3 := (hb.cell (p := ⟨w.heap.size, 3, none⟩) hBl).trans q3
              have p4 := (hb.cell (p := ⟨w.heap.size, 4, none⟩) hBl).trans q4
              have hBr := Nat.lt_of_lt_of_le hBl hb.size
              obtain ⟨X, hX⟩ : ∃ X, X = h.hoursB e (kt : Int) := ⟨_, rfl⟩
              have C0 := Lib.hid (fun x => refhours_calls _ h (some ⟨p, ofp, none⟩) d' e kt (later wr x) (H1.below (hb.trans ((below_later wr x).mono hb.size))) (hsl.below (below_later wr x)) heo.2 heo.1 HF.out hktl)
              rw [← hX] at C0
              have hE0 : h.endP kc kt e 0 = (y == ya.lo) := by simp only [Hs.endP, hyv, hya]
              have hE1 : h.endP kc kt e 1 = (y == ya.hi) := by simp only [Hs.endP, hyv, hya]
              have hE2 : h.endP kc kt e 2 = (X == yb.lo) := by simp only [Hs.endP, ← hX, hyb]
              have hE3 : h.endP kc kt e 3 = (X == yb.hi) := by simp only [Hs.endP, ← hX, hyb]
              have HE := Lib.hid (And.intro hE0 (And.intro hE1 (And.intro hE2 hE3)))
              have HEM := Lib.hid he
              have hel := heo.2
              have hk1 : (kc : Int) < (e.length : Int) := by omega
              have hkc0 : (0 : Int) ≤ (kc : Int) := Int.natCast_nonneg _
              have hkt0 : (0 : Int) ≤ (kt : Int) := Int.natCast_nonneg _
              have hkc1 : (kc : Int) < (h.clocks.length : Int) := by omega
              have hkt1 : (kt : Int) < (h.tickets.length : Int) := by omega
              clear hE0 hE1 hE2 hE3 hX hyv hya hyb hy he heo hsl hel
              go_wp2
              refine region_later (by kernel_rfl) (by kernel_rfl) ?_
              repeat (go_big_quiet_step (first | with_reducible exact quiet_ret (C0.out _)))
              refine wpQuiet_nil ?_
              rintro W' ⟨u, rfl⟩
              obtain ⟨W7, hW7⟩ : ∃ X, X = later wr u := ⟨_, rfl⟩
              have hb7 : Below wr.heap.size wr W7 := by rw [hW7]; exact below_later _ _
              rw [← hW7]
              clear hW7 C0
              have s0 := (hb7.cell (p := ⟨b, off + i, none⟩) hbl).trans s0
              have t0 := (hb7.cell (p := ⟨p, ofp + kc, none⟩) hpl).trans t0
              have sa0 := (hb7.cell (p := ⟨ba, oa + kc * 2, none⟩) hba).trans sa0
              have sa1 := (hb7.cell (p := ⟨ba, oa + kc * 2 + 1, none⟩) hba).trans sa1
              have sb0 := (hb7.cell (p := ⟨bb, ob + kt * 2, none⟩) hbb).trans sb0
              have sb1 := (hb7.cell (p := ⟨bb, ob + kt * 2 + 1, none⟩) hbb).trans sb1
              have hbl := Nat.lt_of_lt_of_le hbl hb7.size
              have hpl := Nat.lt_of_lt_of_le hpl hb7.size
              have hba := Nat.lt_of_lt_of_le hba hb7.size
              have hbb := Nat.lt_of_lt_of_le hbb hb7.size
              clear p0 p1 p2 p3 p4
              go_wp2
              obtain ⟨C, hC⟩ : ∃ C, C = Same [⟨b, off + i, none⟩, ⟨p, ofp + kc, none⟩, ⟨ba, oa + kc * 2, none⟩, ⟨ba, oa + kc * 2 + 1, none⟩, ⟨bb, ob + kt * 2, none⟩, ⟨bb, ob + kt * 2 + 1, none⟩] W7 := ⟨_, rfl⟩
              obtain ⟨G, hG⟩ : ∃ G, G = held C W7.drew := ⟨_, rfl⟩
              have hfs : ∀ a ∈ ([⟨b, off + i, none⟩, ⟨p, ofp + kc, none⟩, ⟨ba, oa + kc * 2, none⟩, ⟨ba, oa + kc * 2 + 1, none⟩, ⟨bb, ob + kt * 2, none⟩, ⟨bb, ob + kt * 2 + 1, none⟩] : List Addr), ∀ u, W7.cell? a = some u → ∀ x, (G x).cell? a = some u := fun a ha u hu x => by
                rw [hG, hC]
                exact same_held hu ha x
              have f0 := hfs _ (by simp) _ s0
              have f1 := hfs _ (by simp) _ t0
              have f2 := hfs _ (by simp) _ sa0
              have f3 := hfs _ (by simp) _ sa1
              have f4 := hfs _ (by simp) _ sb0
              have f5 := hfs _ (by simp) _ sb1
              clear hfs
              refine region_sk C [[], [], [0, 1], [2], [], [3, 4], [5], [], [], [7, 8], [9], [10], [6, 11], [], [], [13, 14], [15], [], [16, 17], [18], [], [], [20, 21], [22], [23], [19, 24], [], [], [], [27, 28], [29], [30], [26, 31], [], [], [], [34, 35], [36], [37], [33, 38], [12, 25, 32, 39], [], [41, 40, 0, 1, 2, 3, 4, 5, 6, 7, 8, 9, 10, 11, 12, 13, 14, 15, 16, 17, 18, 19, 20, 21, 22, 23, 24, 25, 26, 27, 28, 29, 30, 31, 32, 33, 34, 35, 36, 37, 38, 39, 40, 41]] (.qs [0, 1, 2, 3, 4, 5, 6, 7, 8, 9, 10, 11, 12, 13] (.qs [14, 15, 16, 17, 18, 19, 20, 21, 22, 23, 24, 25, 26] (.qs [27, 28, 29, 30, 31, 32, 33, 34, 35, 36, 37, 38, 39, 40] (.one 41 .done)))) 42 (by kernel_rfl) (by kernel_rfl) (by kernel_rfl) (by rw [hC]; exact same_drew) ?_
              refine wpSk_qs (w0 := W7.drew) (by rw [hC]; exact same_drew) ?_
              rw [← hG]
              have HC' := Lib.hid hC
              have HG := Lib.hid hG
              have hCw : C W7.drew := by rw [hC]; exact same_drew
              clear hG hC
              simp only [List.filterMap_cons, List.filterMap_nil, List.getElem?_toArray, List.getElem?_cons_zero, List.getElem?_cons_succ]
              change wpQuiet _ _ _ _ [_, _, _, _, _, _, _, _, _, _, _, _, _, _] _
              repeat (go_big_quiet_step (fail))
              refine wpQuiet_nil ?_
              refine wpSk_qs (w0 := W7.drew) hCw ?_
              rw [← HG.out]
              simp only [List.filterMap_cons, List.filterMap_nil, List.getElem?_toArray, List.getElem?_cons_zero, List.getElem?_cons_succ]
              change wpQuiet _ _ _ _ [_, _, _, _, _, _, _, _, _, _, _, _, _] _
              repeat (go_big_quiet_step (fail))
              refine wpQuiet_nil ?_
              refine wpSk_qs (w0 := W7.drew) hCw ?_
              rw [← HG.out]
              simp only [List.filterMap_cons, List.filterMap_nil, List.getElem?_toArray, List.getElem?_cons_zero, List.getElem?_cons_succ]
              change wpQuiet _ _ _ _ [_, _, _, _, _, _, _, _, _, _, _, _, _, _] _
              repeat (go_big_quiet_step (fail))
              refine wpQuiet_nil ?_
              clear f0 f1 f2 f3 f4 f5
              obtain ⟨E0, hE0⟩ : ∃ x, x = (y == ya.lo) := ⟨_, rfl⟩
              obtain ⟨E1, hE1⟩ : ∃ x, x = (y == ya.hi) := ⟨_, rfl⟩
              obtain ⟨E2, hE2⟩ : ∃ x, x = (X == yb.lo) := ⟨_, rfl⟩
              obtain ⟨E3, hE3⟩ : ∃ x, x = (X == yb.hi) := ⟨_, rfl⟩
              rw [← hE0, ← hE1, ← hE2, ← hE3]
              have HE := HE.out
              rw [← hE0, ← hE1, ← hE2, ← hE3] at HE
              have HE := Lib.hid HE
              clear hE0 hE1 hE2 hE3
              have hCb : ∀ V, Below W7.heap.size W7 V → C V := fun V hV => by
                rw [HC'.out]
                exact same_below hV (by simp only [List.mem_cons, List.not_mem_nil, or_false]; rintro a (rfl | rfl | rfl | rfl | rfl | rfl) <;> assumption)
              refine wpSk_one rfl (fun K hK => ?_)
              go_simp
              refine hK.out _ _ (hCb _ (gA (gD (Below.refl _ _)))) ?_
              clear hK K
              refine wpSk_done rfl (fun K hK => ?_)
              go_simp
              refine hK.out _ _ (noPanic_mk ?_)
              clear hK K
              obtain ⟨W8, hW8⟩ : ∃ X, X = (W7.alloc (.cells #[.bool E0, .bool E1, .bool E2, .bool E3] 70)).drew := ⟨_, rfl⟩
              have hb8 : Below W7.heap.size W7 W8 := by rw [hW8]; exact gD (gA (Below.refl _ _))
              have hBe : BlkAt W8 W7.heap.size 70 [.bool E0, .bool E1, .bool E2, .bool E3] := by
                rw [hW8]
                exact (BlkAt.new W7 70 [.bool E0, .bool E1, .bool E2, .bool E3]).of_below (gD (Below.refl _ _)) (by rw [World.size_alloc]; exact Nat.lt_succ_self _)
              obtain ⟨be, hbe⟩ : ∃ b, b = W7.heap.size := ⟨_, rfl⟩
              go_wp2
              rw [← hW8]
              rw [← hbe] at hBe ⊢
              have hb68 : Below W6.heap.size W6 W8 := hb.trans ((hb7.trans (hb8.mono hb7.size)).mono hb.size)
              have HBE := Lib.hid hBe
              clear hW8 hbe hBe hb8 hb7 s0 t0 sa0 sa1 sb0 sb1 hBr HC' HG hCw hCb
              obtain ⟨EE, hEE⟩ : ∃ EE : Nat → Bool, EE = fun j => [E0, E1, E2, E3].getD j false := ⟨_, rfl⟩
              have hcell : ∀ j, j < 4 → W8.cell? ⟨be, j, none⟩ = some (.bool (EE j)) := by
                intro j hj
                rw [HBE.out.cell, hEE]
                have : j = 0 ∨ j = 1 ∨ j = 2 ∨ j = 3 := by omega
                rcases this with rfl | rfl | rfl | rfl <;> rfl
              have HCL := Lib.hid hcell
              have HEE := Lib.hid hEE
              have hbel := HBE.out.lt
              clear hcell hEE
              go_loopw [15, 19] (fun mv jv wr2 => ∃ (j m' : Nat), j ≤ 4 ∧ jv = .int .i64 j ∧ mv = .int .i64 m' ∧ m' < 16 ∧ (∀ b, b < 4 → m'.testBit b = (m.testBit b || (decide (b < j) && EE b))) ∧ Below W8.heap.size W8 wr2) (fun _ j _ => 4 - (intOf j).toNat)
              case atStart => exact ⟨0, m, by decide, rfl, rfl, hm, fun b _ => by simp, Below.refl _ _⟩
              case round =>
                obtain ⟨j, m', hj, rfl, rfl, hm', hbits', hb9⟩ := hrel
                have HB9 := Lib.hid hbits'
                clear hbits'
                by_cases hj4 : j < 4
                · have hj1 : (j : Int) < 4 := by omega
                  have hj0 : (0 : Int) ≤ (j : Int) := Int.natCast_nonneg _
                  have hc := (hb9.cell (p := ⟨be, j, none⟩) hbel).trans (HCL.out j hj4)
                  have hpw : (1 : Int) ≤ 2 ^ j ∧ (2 : Int) ^ j ≤ 8 := by
                    clear HB9 hc hj1 hj0 hj
                    revert j
                    decide
                  obtain ⟨u1, u2⟩ := hpw
                  have HOR := Lib.hid (show bits .or .i64 (m' : Int) (2 ^ j) = ((m' ||| 2 ^ j : Nat) : Int) by
                    have h2 : 2 ^ j < 2 ^ 4 := Nat.pow_lt_pow_right (by decide) hj4
                    have := or_i64 m' (2 ^ j) (by omega) (by omega)
                    rw [← this]
                    norm_cast)
                  cases hE : EE j with
                  | true =>
                    rw [hE] at hc
                    have HE2 := Lib.hid hE
                    clear hE
                    go_wp2
                    go_roundw
                    case rel => exact ⟨j + 1, m' ||| 2 ^ j, by omega, by go_num, by rw [HOR.out], bits_or hm' hj4, fun b hb4 => by
                      rw [Nat.testBit_or, HB9.out b hb4, Nat.testBit_two_pow]
                      by_cases hbj : b < j
                      · simp [hbj, show b < j + 1 by omega, show ¬ j = b by omega]
                      · by_cases hbe : j = b
                        · subst hbe
                          simp [HE2.out]
                        · simp [hbj, hbe, show ¬ b < j + 1 by omega], hb9⟩
                    case measure => simp [intOf]; omega
                  | false =>
                    rw [hE] at hc
                    have HE2 := Lib.hid hE
                    clear hE
                    go_wp2
                    go_roundw
                    case rel => exact ⟨j + 1, m', by omega, by go_num, rfl, hm', fun b hb4 => by
                      rw [HB9.out b hb4]
                      by_cases hbj : b < j
                      · simp [hbj, show b < j + 1 by omega]
                      · by_cases hbe : j = b
                        · subst hbe
                          simp [HE2.out]
                        · simp [hbj, show ¬ b < j + 1 by omega], hb9⟩
                    case measure => simp [intOf]; omega
                · obtain rfl : j = 4 := by omega
                  go_wp2
                  go_roundw
                  case rel => exact ⟨i + 1, m', by omega, by go_num, rfl, hm', fun b hb4 => by
                    rw [HB9.out b hb4, any_take HEM.out, HBI.out b hb4]
                    congr 1
                    obtain ⟨x0, x1, x2, x3⟩ := HE.out
                    have hd : decide (b < 4) = true := decide_eq_true hb4
                    rw [hd, Bool.true_and, HEE.out]
                    have : b = 0 ∨ b = 1 ∨ b = 2 ∨ b = 3 := by omega
                    rcases this with rfl | rfl | rfl | rfl
                    · rw [x0]; rfl
                    · rw [x1]; rfl
                    · rw [x2]; rfl
                    · rw [x3]; rfl, hb68.trans (hb9.mono hb68.size)⟩
                  case measure => simp [intOf]; omega
            · obtain rfl : i = h.truR.length := by omega
              have h15 : m = 15 := by
                obtain ⟨x0, x1, x2, x3⟩ := ends_any HA.out kc kt
                have hB := HBI.out
                rw [List.take_length] at hB
                exact bits_all m hm ((hB 0 (by decide)).trans x0) ((hB 1 (by decide)).trans x1) ((hB 2 (by decide)).trans x2) ((hB 3 (by decide)).trans x3)
              subst h15
              go_wp2_with (fail)
              refine (awake_calls _).mono ?_
              (rintro e w' hr; first | ((with_reducible replace hr := Ret.up hr); obtain ⟨rfl, z, rfl⟩ := hr) | (obtain ⟨rfl, z, rfl⟩ := hr))
              go_wp2
              go_ret
              exact ret_mk rfl (hb1.trans (Below.mono (later_below hb hb.size) hb1.size))
        · have ha := ask_bad HF.out ha
          have HA := Lib.hid ha
          have HS := Lib.hid (show h.sureL = [] by rw [Hs.sureL, ha]; rfl)
          clear ha
          refine (house_calls _ h _ (by first | with_reducible exact H1 | exact H1.below (below_later _ _)) hl2 hl3 hl4).mono ?_
          (rintro e w' hr; first | ((with_reducible replace hr := RetHs.up hr); obtain ⟨v, rfl, ⟨z, rfl⟩, HH⟩ := hr) | (obtain ⟨v, rfl, ⟨z, rfl⟩, HH⟩ := hr))
          go_wp2_with (fail)
          have CA := clocks_calls v h _ HH
          rw [HA.out] at CA
          refine CA.mono ?_
          clear CA HH
          (rintro e w' hr; first | ((with_reducible replace hr := RetSlN.up hr); obtain ⟨A5, c5, rfl, ⟨z, rfl⟩, hsl⟩ := hr) | (obtain ⟨A5, c5, rfl, ⟨z, rfl⟩, hsl⟩ := hr))
          clear hsl
          go_wp2_with (fail)
          refine (house_calls _ h _ (by first | with_reducible exact H1 | exact H1.below (below_later _ _)) hl2 hl3 hl4).mono ?_
          (rintro e w' hr; first | ((with_reducible replace hr := RetHs.up hr); obtain ⟨v, rfl, ⟨z, rfl⟩, HH⟩ := hr) | (obtain ⟨v, rfl, ⟨z, rfl⟩, HH⟩ := hr))
          go_wp2_with (fail)
          have CA := hours_all_calls v h _ HH
          rw [HA.out] at CA
          refine CA.mono ?_
          clear CA HH
          (rintro e w' hr; first | ((with_reducible replace hr := RetSlN.up hr); obtain ⟨A6, c6, rfl, ⟨z, rfl⟩, hsl⟩ := hr) | (obtain ⟨A6, c6, rfl, ⟨z, rfl⟩, hsl⟩ := hr))
          clear hsl
          go_wp2_with (fail)
          have CS := sure_calls _ h (later W3 z) (H1.below (below_later W3 z)) hl4
          rw [HA.out, HS.out] at CS
          refine CS.mono ?_
          clear CS
          (rintro e w' hr; replace hr := RetSure.up hr; obtain ⟨B, d, rfl, ⟨z, rfl⟩, -⟩ := hr)
          simp only [List.length_nil]
          go_wp2_with (fail)
          refine (awake_calls _).mono ?_
          (rintro e w' hr; first | ((with_reducible replace hr := Ret.up hr); obtain ⟨rfl, z, rfl⟩ := hr) | (obtain ⟨rfl, z, rfl⟩ := hr))
          go_wp2
          go_ret
          exact ret_mk rfl (later_below hb1 hb1.size)
end Go.Proofs.Ytcngnfnljkkjgaa
