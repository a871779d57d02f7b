/-
The reference: whether some clips have a truth.
The reference: the first wrong clip; the numbers of bits.
The reference: the numbers of bits; which list is before another one.
The reference: which list is before another one.
The reference: the smallest set.
The smallest set, and the first wrong clip: the reference's are the program's. With no program in sight.
The smallest set, and the first wrong clip: what some clips can is the same. With no program in sight.
-/
import Derived.Test.YtcngnfnljkkjgaaCmN
import Derived.Test.YtcngnfnljkkjgaaCmK
import Derived.Test.YtcngnfnljkkjgaaCmJ
namespace Go.Proofs.Ytcngnfnljkkjgaa
open Go.RowKit
attribute [local go_sem] cell_later frozen_later lt_later le_later

def Hs.canR (h : Hs) (B : Int) : Bool := (List.range (manyR h.clocks).toNat).any fun (i : Nat) => h.risR (nthE h.clocks (i : Int)) B

set_option maxHeartbeats 2000000 in
theorem refcan_calls (v : Value) (h : Hs) (B : Int) (w : World) (H : HsAt w v h) (hf : h.fault = 0) (hBx : 0 ≤ B ∧ B ≤ 4096) :
    Calls Try.prog 103 #[v, .int .i64 B] w (Ret (.bool (h.canR B)) w) := by
  have H0 := H
  obtain ⟨A2, c2, A3, c3, A4, c4, rfl, H2, H3, H4⟩ := H
  obtain ⟨W1, hW1⟩ : ∃ W1, W1 = w.alloc (.cells #[.int .i64 h.hour, .int .i64 h.grace, .slice A2 h.clocks.length c2, .slice A3 h.tickets.length c3, .slice A4 h.clips.length c4] 26) := ⟨_, rfl⟩
  have hb1 : Below w.heap.size w W1 := by rw [hW1]; exact gA (Below.refl _ _)
  have hB : BlkAt W1 w.heap.size 26 [.int .i64 h.hour, .int .i64 h.grace, .slice A2 h.clocks.length c2, .slice A3 h.tickets.length c3, .slice A4 h.clips.length c4] := by rw [hW1]; exact BlkAt.new _ _ _
  have H1 := H0.below hb1
  have q0 := hB.cell 0
  have q1 := hB.cell 1
  have q2 := hB.cell 2
  have q3 := hB.cell 3
  have q4 := hB.cell 4
  simp only [List.getElem?_cons_zero, List.getElem?_cons_succ] at q0 q1 q2 q3 q4
  have hBl := hB.lt
  have hc4 : h.clocks.length ≤ 4 := (small_iff.1 (fault_zero hf).1).1
  have HOF := Lib.hid (off_of hf)
  have HFF := Lib.hid hf
  obtain ⟨-, hm1, hm2⟩ := manyR_eq hf
  obtain ⟨K, hM⟩ : ∃ K : Nat, (K : Int) = manyR h.clocks := ⟨(manyR h.clocks).toNat, by omega⟩
  rw [← hM] at hm1 hm2
  have hmt : K ≤ 2000 := by omega
  have HM := Lib.hid hM
  have HBd := Lib.hid hBx
  clear hM hf hBx
  go_enter Try.func103, Try.ntmps103
  go_wp2
  rw [← hW1]
  clear hW1
  go_loopw [5] (fun i wr => ∃ k : Nat, k ≤ K ∧ i = .int .i64 k ∧ (List.range k).any (fun (i : Nat) => h.risR (nthE h.clocks (i : Int)) B) = false ∧ Below W1.heap.size W1 wr) (fun i _ => K - (intOf i).toNat)
  case atStart => exact ⟨0, Nat.zero_le _, rfl, rfl, Below.refl _ _⟩
  case round =>
    obtain ⟨k, hk, rfl, hall, hb⟩ := hrel
    have HALL := Lib.hid hall
    clear hall
    have p0 := (hb.cell (p := ⟨w.heap.size, 0, none⟩) hBl).trans q0
    have p1 := (hb.cell (p := ⟨w.heap.size, 1, none⟩) hBl).trans q1
    have p2 := (hb.cell (p := ⟨w.heap.size, 2, none⟩) hBl).trans q2
    have p3 := (hb.cell (p := ⟨w.heap.size, 3, none⟩) hBl).trans q3
    have p4 := (hb.cell (p := ⟨w.heap.size, 4, none⟩) hBl).trans q4
    have hBr : w.heap.size < wr.heap.size := Nat.lt_of_lt_of_le hBl hb.size
    have hMC := refmany_calls _ h wr (H1.below hb) hc4 HOF.out
    rw [← HM.out] at hMC
    have HMC := Lib.hid hMC
    clear hMC
    by_cases hlt : k < K
    · have hlt1 : (k : Int) < (K : Int) := by omega
      have hk0 : (0 : Int) ≤ (k : Int) := Int.natCast_nonneg _
      go_wp2_with (fail)
      refine HMC.out.mono ?_
      (rintro e w' hr; first | ((with_reducible replace hr := Ret.up hr); obtain ⟨rfl, z, rfl⟩ := hr) | (obtain ⟨rfl, z, rfl⟩ := hr))
      obtain ⟨W2, hW2⟩ : ∃ W2, W2 = later wr z := ⟨_, rfl⟩
      have hb2 : Below wr.heap.size wr W2 := by rw [hW2]; exact below_later wr z
      rw [← hW2]
      clear hW2
      have r0 := (hb2.cell (p := ⟨w.heap.size, 0, none⟩) hBr).trans p0
      have r1 := (hb2.cell (p := ⟨w.heap.size, 1, none⟩) hBr).trans p1
      have r2 := (hb2.cell (p := ⟨w.heap.size, 2, none⟩) hBr).trans p2
      have r3 := (hb2.cell (p := ⟨w.heap.size, 3, none⟩) hBr).trans p3
      have r4 := (hb2.cell (p := ⟨w.heap.size, 4, none⟩) hBr).trans p4
      have hBr2 : w.heap.size < W2.heap.size := Nat.lt_of_lt_of_le hBr hb2.size
      have hb12 : Below W1.heap.size W1 W2 := hb.trans (hb2.mono hb.size)
      clear p0 p1 p2 p3 p4
      go_wp2
      obtain ⟨C, hC⟩ : ∃ C, C = Same [⟨w.heap.size, 0, none⟩, ⟨w.heap.size, 1, none⟩, ⟨w.heap.size, 2, none⟩, ⟨w.heap.size, 3, none⟩, ⟨w.heap.size, 4, none⟩] W2 := ⟨_, rfl⟩
      obtain ⟨G, hG⟩ : ∃ G, G = held C W2.drew := ⟨_, rfl⟩
      have hfs : ∀ a ∈ ([⟨w.heap.size, 0, none⟩, ⟨w.heap.size, 1, none⟩, ⟨w.heap.size, 2, none⟩, ⟨w.heap.size, 3, none⟩, ⟨w.heap.size, 4, none⟩] : List Addr), ∀ u, W2.cell? a = some u → ∀ x, (G x).cell? a = some u := fun a ha u hu x => by
        rw [hG, hC]
        exact same_held hu ha x
      have g3 := hfs _ (by simp) _ r0
      have g4 := hfs _ (by simp) _ r1
      have g5 := hfs _ (by simp) _ r2
      have g6 := hfs _ (by simp) _ r3
      have g7 := hfs _ (by simp) _ r4
      clear hfs
      refine region_sk C [[], [], [], [1, 2], [], [0, 3, 4, 3]] (.qs [0, 1, 2, 4] (.one 3 .done)) 5 (by kernel_rfl) (by kernel_rfl) (by kernel_rfl) (by rw [hC]; exact same_drew) ?_
      refine wpSk_qs (w0 := W2.drew) (by rw [hC]; exact same_drew) ?_
      rw [← hG]
      have HC' := Lib.hid hC
      clear hG hC
      simp only [List.filterMap_cons, List.filterMap_nil, List.getElem?_toArray, List.getElem?_cons_zero, List.getElem?_cons_succ]
      change wpQuiet _ _ _ _ [_, _, _, _] _
      repeat (go_big_quiet_step (fail))
      refine wpQuiet_nil ?_
      clear g3 g4 g5 g6 g7
      have hCb : ∀ V, Below W2.heap.size W2 V → C V := fun V hV => by
        rw [HC'.out]
        exact same_below hV (by simp only [List.mem_cons, List.not_mem_nil, or_false]; rintro a (rfl | rfl | rfl | rfl | rfl) <;> assumption)
      have HCB := Lib.hid hCb
      clear hCb
      refine wpSk_one rfl (fun K' hK' => ?_)
      go_simp
      refine (refnth_calls _ h k W2.drew (H1.below (hb12.trans ((gD (Below.refl _ _)).mono hb12.size))) HFF.out hk0 (by omega)).mono ?_
      (rintro e w' hr; obtain ⟨A, c, rfl, ⟨z2, rfl⟩, hsl, -, -⟩ := hr)
      rw [nthE_length]
      obtain ⟨V, hV, hbV⟩ : ∃ V, V = later W2.drew z2 ∧ Below W2.heap.size W2 V := ⟨_, rfl, Below.trans (gD (Below.refl _ _)) (below_later W2.drew z2)⟩
      rw [← hV] at hsl ⊢
      clear hV
      have HSL := Lib.hid hsl
      clear hsl
      refine hK'.out _ _ (HCB.out _ hbV) ?_
      clear hK' K'
      have CR := refrising_calls _ h A c (nthE h.clocks (k : Int)) B V (H1.below (hb12.trans (hbV.mono hb12.size))) HSL.out (nthE_length _ _) (nthE_ok _ HOF.out _) HFF.out HBd.out
      rw [nthE_length] at CR
      have CR := Lib.hid CR
      have hst := List.range_succ (n := k)
      obtain ⟨ri, hri⟩ : ∃ b, b = h.risR (nthE h.clocks (k : Int)) B := ⟨_, rfl⟩
      rw [← hri] at CR
      have HRI := Lib.hid hri
      clear hri hst
      refine wpSk_done rfl (fun K' hK' => ?_)
      go_simp
      refine CR.out.mono ?_
      clear CR
      (rintro e w' ⟨rfl, z3, rfl⟩)
      obtain ⟨W3, hW3, hb3⟩ : ∃ W3, W3 = later V z3 ∧ Below wr.heap.size wr W3 := ⟨_, rfl, hb2.trans ((later_below hbV hbV.size).mono hb2.size)⟩
      rw [← hW3]
      clear hW3
      refine hK'.out _ _ (noPanic_mk ?_)
      clear hK' K'
      cases ri with
      | false =>
        go_wp2
        go_roundw
        case rel => exact ⟨k + 1, by omega, by go_num, by rw [List.range_succ, List.any_append, HALL.out]; simp [← HRI.out], hb.trans (hb3.mono hb.size)⟩
        case measure => simp [intOf]; omega
      | true =>
        have hR := Lib.hid (show h.canR B = true by
          rw [Hs.canR, List.any_eq_true]
          exact ⟨k, List.mem_range.2 (by rw [← HM.out]; omega), HRI.out.symm⟩)
        go_wp2
        go_ret
        exact ret_mk (ret_bool hR.out.symm) (hb1.trans (Below.mono (hb.trans (hb3.mono hb.size)) hb1.size))
    · obtain rfl : k = K := by omega
      have hR := Lib.hid (show h.canR B = false by rw [Hs.canR, ← HM.out, Int.toNat_natCast]; exact HALL.out)
      go_wp2_with (fail)
      refine HMC.out.mono ?_
      (rintro e w' hr; first | ((with_reducible replace hr := Ret.up hr); obtain ⟨rfl, z, rfl⟩ := hr) | (obtain ⟨rfl, z, rfl⟩ := hr))
      go_wp2
      go_ret
      exact ret_mk (ret_bool hR.out.symm) (hb1.trans (Below.mono (later_below hb hb.size) hb1.size))
end Go.Proofs.Ytcngnfnljkkjgaa
namespace Go.Proofs.Ytcngnfnljkkjgaa
open Go.RowKit
attribute [local go_sem] cell_later frozen_later lt_later le_later

def Hs.firstAt (h : Hs) (k : Nat) : Bool := h.canR (2 * 2 ^ k - 1)
def Hs.firstR (h : Hs) : Option Nat := (List.range h.clips.length).find? fun k => !h.firstAt k
def Hs.firstI (h : Hs) : Int := match h.firstR with
  | some k => k
  | none => -1

set_option maxHeartbeats 2000000 in
theorem reffirst_calls (v : Value) (h : Hs) (w : World) (H : HsAt w v h) (hf : h.fault = 0) :
    Calls Try.prog 48 #[v] w (Ret (.int .i64 h.firstI) w) := by
  have H0 := H
  obtain ⟨A2, c2, A3, c3, A4, c4, rfl, H2, H3, H4⟩ := H
  obtain ⟨W1, hW1⟩ : ∃ W1, W1 = w.alloc (.cells #[.int .i64 h.hour, .int .i64 h.grace, .slice A2 h.clocks.length c2, .slice A3 h.tickets.length c3, .slice A4 h.clips.length c4] 26) := ⟨_, rfl⟩
  have hb1 : Below w.heap.size w W1 := by rw [hW1]; exact gA (Below.refl _ _)
  have hB : BlkAt W1 w.heap.size 26 [.int .i64 h.hour, .int .i64 h.grace, .slice A2 h.clocks.length c2, .slice A3 h.tickets.length c3, .slice A4 h.clips.length c4] := by rw [hW1]; exact BlkAt.new _ _ _
  have H1 := H0.below hb1
  have q0 := hB.cell 0
  have q1 := hB.cell 1
  have q2 := hB.cell 2
  have q3 := hB.cell 3
  have q4 := hB.cell 4
  simp only [List.getElem?_cons_zero, List.getElem?_cons_succ] at q0 q1 q2 q3 q4
  have hBl := hB.lt
  have hp : h.clips.length ≤ 10 := (small_iff.1 (fault_zero hf).1).2.2
  have hpI : (h.clips.length : Int) ≤ 10 := by omega
  have HFF := Lib.hid hf
  clear hf
  go_enter Try.func48, Try.ntmps48
  go_wp2
  rw [← hW1]
  clear hW1
  go_loopw [3] (fun i wr => ∃ k : Nat, k ≤ h.clips.length ∧ i = .int .i64 k ∧ (∀ j, j < k → h.firstAt j = true) ∧ Below W1.heap.size W1 wr) (fun i _ => h.clips.length - (intOf i).toNat)
  case atStart => exact ⟨0, Nat.zero_le _, rfl, fun j hj => absurd hj (Nat.not_lt_zero _), Below.refl _ _⟩
  case round =>
    obtain ⟨k, hk, rfl, hall, hb⟩ := hrel
    have HALL := Lib.hid hall
    clear hall
    have p0 := (hb.cell (p := ⟨w.heap.size, 0, none⟩) hBl).trans q0
    have p1 := (hb.cell (p := ⟨w.heap.size, 1, none⟩) hBl).trans q1
    have p2 := (hb.cell (p := ⟨w.heap.size, 2, none⟩) hBl).trans q2
    have p3 := (hb.cell (p := ⟨w.heap.size, 3, none⟩) hBl).trans q3
    have p4 := (hb.cell (p := ⟨w.heap.size, 4, none⟩) hBl).trans q4
    have hBr : w.heap.size < wr.heap.size := Nat.lt_of_lt_of_le hBl hb.size
    by_cases hlt : k < h.clips.length
    · have hlt1 : (k : Int) < (h.clips.length : Int) := by omega
      have hk0 : (0 : Int) ≤ (k : Int) := Int.natCast_nonneg _
      have hkI : (k : Int) ≤ 9 := by omega
      have hpow : (2 : Int) ≤ 2 * 2 ^ k ∧ (2 : Int) * 2 ^ k ≤ 1024 := by
        have hk9 : k ≤ 9 := by omega
        clear HALL
        clear p0 p1 p2 p3 p4 hlt hlt1 hk hk0 hkI
        revert k
        decide
      obtain ⟨u1, u2⟩ := hpow
      have C0 := Lib.hid (refcan_calls _ h (2 * 2 ^ k - 1) wr (H1.below hb) HFF.out (by omega))
      have C0 := C0.out
      rw [show h.canR (2 * 2 ^ k - 1) = h.firstAt k from rfl] at C0
      have C0 := Lib.hid C0
      cases hc : h.firstAt k with
      | true =>
        rw [hc] at C0
        have HC := Lib.hid hc
        clear hc
        go_wp2_with (fail)
        refine C0.out.mono ?_
        (rintro e w' hr; first | ((with_reducible replace hr := Ret.up hr); obtain ⟨rfl, z, rfl⟩ := hr) | (obtain ⟨rfl, z, rfl⟩ := hr))
        go_wp2
        go_roundw
        case rel => exact ⟨k + 1, by omega, by go_num, fun j hj => by
          rcases Nat.lt_succ_iff_lt_or_eq.1 hj with h1 | rfl
          · exact HALL.out j h1
          · exact HC.out, later_below hb hb.size⟩
        case measure => simp [intOf]; omega
      | false =>
        rw [hc] at C0
        have hR := Lib.hid (show h.firstI = (k : Int) by
          have : h.firstR = some k := by
            rw [Hs.firstR, List.find?_eq_some_iff_append]
            refine ⟨by rw [hc]; rfl, List.range k, (List.range' (k + 1) (h.clips.length - k - 1)), ?_, fun a ha => ?_⟩
            · rw [List.range_eq_range', List.range_eq_range', range'_split hlt]
              simp
            · rw [HALL.out a (List.mem_range.1 ha)]; rfl
          rw [Hs.firstI, this])
        clear hc
        go_wp2_with (fail)
        refine C0.out.mono ?_
        (rintro e w' hr; first | ((with_reducible replace hr := Ret.up hr); obtain ⟨rfl, z, rfl⟩ := hr) | (obtain ⟨rfl, z, rfl⟩ := hr))
        go_wp2
        go_ret
        exact ret_mk (ret_int hR.out.symm) (hb1.trans (Below.mono (later_below hb hb.size) hb1.size))
    · obtain rfl : k = h.clips.length := by omega
      have hR := Lib.hid (show h.firstI = -1 by
        have : h.firstR = none := by
          rw [Hs.firstR, List.find?_eq_none]
          intro x hx
          rw [HALL.out x (List.mem_range.1 hx)]
          decide
        rw [Hs.firstI, this])
      go_wp2
      go_ret
      exact ret_mk (ret_int hR.out.symm) (hb1.trans (hb.mono hb1.size))
end Go.Proofs.Ytcngnfnljkkjgaa
namespace Go.Proofs.Ytcngnfnljkkjgaa
open Go.RowKit
attribute [local go_sem] cell_later frozen_later lt_later le_later

def bitsUp (B : Int) (k : Nat) : List Int := ((List.range k).filter (bitI B)).map fun (i : Nat) => (i : Int)
def bitsL (B : Int) : List Int := bitsUp B 12
theorem bits_step (B : Int) (k : Nat) : bitsUp B (k + 1) = bitsUp B k ++ (if bitI B k = true then [(k : Int)] else []) := by
  unfold bitsUp
  rw [List.range_succ, List.filter_append, List.map_append]
  congr 1
  cases hb : bitI B k <;> simp [hb]
theorem bits_len (B : Int) (k : Nat) : (bitsUp B k).length ≤ k := by
  unfold bitsUp
  rw [List.length_map]
  exact Nat.le_trans (List.length_filter_le _ _) (by simp)
theorem bits_done {B : Int} {k : Nat} (hk : k ≤ 12) (hz : B / 2 ^ k = 0) : bitsUp B k = bitsL B := by
  have key : ∀ d, bitsUp B (k + d) = bitsUp B k := by
    intro d
    induction d with
    | zero => rfl
    | succ d ih =>
      rw [← Nat.add_assoc, bits_step, ih]
      have : B / 2 ^ (k + d) = 0 := by
        rw [Int.pow_add, ← Int.ediv_ediv_of_nonneg (by exact Int.le_of_lt (Int.pow_pos (by decide))), hz]
        exact Int.zero_ediv _
      simp [bitI, this]
  have := key (12 - k)
  rw [show k + (12 - k) = 12 by omega] at this
  exact this.symm

set_option maxRecDepth 100000 in
set_option maxHeartbeats 1000000 in
theorem refbits_calls (B : Int) (w : World) (h0 : 0 ≤ B) (h1 : B < 4096) :
    Calls Try.prog 65 #[.int .i64 B] w (RetSl 1 gI (bitsL B) w) := by
  obtain ⟨i0, hi, hz0, hz1, hz2⟩ := info_parts infoInt
  go_enter Try.func65, Try.ntmps65
  go_wp2
  go_loopw [3, 4] (fun v i wr => ∃ k : Nat, k ≤ 12 ∧ i = .int .i64 k ∧ Below w.heap.size w wr ∧ wr.ownsRow w.heap.size 3 1 v (bitsUp B k).length ((bitsUp B k).flatMap gI))
    (fun _ i _ => 12 - (intOf i).toNat)
  case atStart => exact ⟨0, Nat.zero_le _, rfl, Below.refl _ _, World.ownsRow_nil _ _ _ _⟩
  case round =>
    obtain ⟨k, hk, rfl, hb, hown⟩ := hrel
    have hlen := bits_len B k
    have hk0 : (0 : Int) ≤ (k : Int) := Int.natCast_nonneg _
    have hkI : (k : Int) ≤ 12 := by omega
    by_cases hlt : 0 < B / 2 ^ k
    · have hk12 : k < 12 := by
        rcases Nat.lt_or_ge k 12 with h | h
        · exact h
        · obtain rfl : k = 12 := by omega
          rw [show (2 : Int) ^ 12 = 4096 by decide] at hlt
          omega
      have HS := Lib.hid (bits_step B k)
      have hem : (B / 2 ^ k).tmod 2 = B / 2 ^ k % 2 := Int.tmod_eq_emod_of_nonneg (by omega)
      have HEM := Lib.hid hem
      clear hem
      cases hbi : (B / 2 ^ k % 2 == 1) with
      | true =>
        have HT := Lib.hid (show bitI B k = true by rw [bitI, HEM.out]; exact hbi)
        go_wp2_with (at_builtin; refine wpList_append_own _ rfl _ _ 47 rfl w.heap.size 3 i0 (.int .i64 0) 1 8 Try.underlying47 hi hz0 hz1 hz2 rfl (by decide) _ _ _ rfl (hown.alloc _) ⟨wr.heap.size, 0, none⟩ 1 1 (gI (k : Int)) rfl rfl ?c1 ?c2 ?c3 ?c4 ?c5 ?_)
        case c1 => exact news_new _ _ rfl (gI (k : Int)) _
        case c2 => simp [gI, Value.oneCell']
        case c3 => unfold maxLen; omega
        case c4 => omega
        case c5 => have := hb.size; simp; omega
        intro v' w1 hown1 hg1 _
        have hb2 := grown_below (w := w) (hb.alloc hb.size _) (hown.alloc _) (Nat.le_refl _) hg1
        go_wp2
        go_roundw
        case rel => exact ⟨k + 1, by omega, by go_num, hb2, by rw [HS.out, HT.out]; simpa using hown1⟩
        case measure => simp [intOf]; omega
      | false =>
        have HT := Lib.hid (show bitI B k = false by rw [bitI, HEM.out]; exact hbi)
        go_wp2
        go_roundw
        case rel => exact ⟨k + 1, by omega, by go_num, hb, by rw [HS.out, HT.out]; simpa using hown⟩
        case measure => simp [intOf]; omega
    · have hz : B / 2 ^ k = 0 := by
        have hd0 : 0 ≤ B / 2 ^ k := Int.ediv_nonneg h0 (Int.le_of_lt (Int.pow_pos (by decide)))
        omega
      rw [bits_done hk hz] at hown hlen
      go_wp2
      obtain ⟨A, c, rfl, hs⟩ := SlA.of_own (k := 1) (g := gI) (l := bitsL B) hown (fun _ _ => rfl) rfl (by omega)
      go_ret
      exact ⟨A, c, rfl, later_ex hb, hs⟩
end Go.Proofs.Ytcngnfnljkkjgaa
namespace Go.Proofs.Ytcngnfnljkkjgaa
open Go.RowKit
attribute [local go_sem] cell_later frozen_later lt_later le_later

def lexB : List Int → List Int → Bool
  | _, [] => false
  | [], _ :: _ => true
  | a :: s, b :: t => if a = b then lexB s t else decide (a < b)
def shorterB (a b : List Int) : Bool := decide (a.length < b.length) || (decide (a.length = b.length) && lexB a b)
theorem lex_drop : ∀ (k : Nat) (a b : List Int), k ≤ a.length → k ≤ b.length → a.take k = b.take k → lexB a b = lexB (a.drop k) (b.drop k)
  | 0, a, b, _, _, _ => rfl
  | k + 1, [], b, h, _, _ => absurd h (by simp)
  | k + 1, a :: s, [], _, h, _ => absurd h (by simp)
  | k + 1, x :: s, y :: t, h1, h2, h3 => by
    simp only [List.take_succ_cons, List.cons.injEq] at h3
    simp only [lexB, h3.1, if_true, List.drop_succ_cons]
    exact lex_drop k s t (by simpa using h1) (by simpa using h2) h3.2
theorem drop_at {l : List Int} {k : Nat} {x : Int} (h : l[k]? = some x) : l.drop k = x :: l.drop (k + 1) := by
  obtain ⟨hk, rfl⟩ := List.getElem?_eq_some_iff.1 h
  exact List.drop_eq_getElem_cons hk

set_option maxHeartbeats 1000000 in
theorem reflex_calls (A B : Option Addr) (c d : Nat) (a b : List Int) (w : World) (HA : SlA w 1 gI A c a) (HB : SlA w 1 gI B d b) :
    Calls Try.prog 110 #[.slice A a.length c, .slice B b.length d] w (Ret (.bool (lexB a b)) w) := by
  have ha := HA.2.1
  have hb := HB.2.1
  go_enter Try.func110, Try.ntmps110
  go_wp2
  go_loopw [5] (fun i wr => ∃ k : Nat, (k ≤ a.length ∧ k ≤ b.length) ∧ i = .int .i64 k ∧ a.take k = b.take k ∧ ∃ x, wr = later w x) (fun i _ => a.length - (intOf i).toNat)
  case atStart => exact ⟨0, ⟨Nat.zero_le _, Nat.zero_le _⟩, rfl, rfl, later_ex (Below.refl _ _)⟩
  case round =>
    obtain ⟨k, ⟨hk, hk'⟩, rfl, htk, x, rfl⟩ := hrel
    have HD := Lib.hid (lex_drop k a b hk hk' htk)
    have HT := Lib.hid htk
    clear htk
    have hk0 : (0 : Int) ≤ (k : Int) := Int.natCast_nonneg _
    by_cases hlt : k < a.length
    · have hlt1 : (k : Int) < (a.length : Int) := by omega
      by_cases hlt' : k < b.length
      · have hlt2 : (k : Int) < (b.length : Int) := by omega
        obtain ⟨p, off, y, rfl, hpl, hy, s0⟩ := HA.atI hlt
        obtain ⟨q, ofq, z, rfl, hql, hz, t0⟩ := HB.atI hlt'
        have HY := Lib.hid hy
        have HZ := Lib.hid hz
        clear hy hz
        by_cases hyz : y = z
        · have hn : (y != z) = false := by simp [hyz]
          have HE := Lib.hid hyz
          clear hyz
          go_wp2
          refine region_later (by kernel_rfl) (by kernel_rfl) ?_
          repeat (go_big_quiet_step (fail))
          refine wpQuiet_nil ?_
          rintro W' ⟨u, rfl⟩
          go_wp2
          go_roundw
          case rel => exact ⟨k + 1, ⟨by omega, by omega⟩, by go_num, by rw [take_step HY.out, take_step HZ.out, HT.out, HE.out], later_ex (by repeat (first | exact Below.refl _ _ | (with_reducible assumption) | apply gL | apply gA | apply gD | apply gN | (refine gS ?_ (by first | (simp; done) | (simp; omega) | omega))))⟩
          case measure => simp [intOf]; omega
        · have hn : (y != z) = true := by simp [hyz]
          have HR := Lib.hid (show lexB a b = decide (y < z) by
            rw [HD.out, drop_at HY.out, drop_at HZ.out, lexB, if_neg hyz])
          clear hyz
          by_cases hyz : y < z
          · have HR2 := Lib.hid (HR.out.trans (decide_eq_true hyz))
            go_wp2
            refine region_later (by kernel_rfl) (by kernel_rfl) ?_
            repeat (go_big_quiet_step (fail))
            refine wpQuiet_nil ?_
            rintro W' ⟨u, rfl⟩
            obtain ⟨W2, hW2⟩ : ∃ W2, W2 = later (later w x) u := ⟨_, rfl⟩
            have hb2 : Below w.heap.size w W2 := by rw [hW2]; exact (by repeat (first | exact Below.refl _ _ | (with_reducible assumption) | apply gL | apply gA | apply gD | apply gN | (refine gS ?_ (by first | (simp; done) | (simp; omega) | omega))))
            rw [← hW2]
            clear hW2
            have s1 := (hb2.cell (p := ⟨p, off + k, none⟩) hpl).trans s0
            have t1 := (hb2.cell (p := ⟨q, ofq + k, none⟩) hql).trans t0
            have hpl2 := Nat.lt_of_lt_of_le hpl hb2.size
            have hql2 := Nat.lt_of_lt_of_le hql hb2.size
            go_wp2
            refine region_later (by kernel_rfl) (by kernel_rfl) ?_
            repeat (go_big_quiet_step (fail))
            refine wpQuiet_nil ?_
            rintro W' ⟨u2, rfl⟩
            go_wp2
            go_ret
            exact ret_mk (ret_bool HR2.out.symm) (later_below hb2 hb2.size)
          · go_wp2
            refine region_later (by kernel_rfl) (by kernel_rfl) ?_
            repeat (go_big_quiet_step (fail))
            refine wpQuiet_nil ?_
            rintro W' ⟨u, rfl⟩
            obtain ⟨W2, hW2⟩ : ∃ W2, W2 = later (later w x) u := ⟨_, rfl⟩
            have hb2 : Below w.heap.size w W2 := by rw [hW2]; exact (by repeat (first | exact Below.refl _ _ | (with_reducible assumption) | apply gL | apply gA | apply gD | apply gN | (refine gS ?_ (by first | (simp; done) | (simp; omega) | omega))))
            rw [← hW2]
            clear hW2
            have s1 := (hb2.cell (p := ⟨p, off + k, none⟩) hpl).trans s0
            have t1 := (hb2.cell (p := ⟨q, ofq + k, none⟩) hql).trans t0
            have hpl2 := Nat.lt_of_lt_of_le hpl hb2.size
            have hql2 := Nat.lt_of_lt_of_le hql hb2.size
            go_wp2
            refine region_later (by kernel_rfl) (by kernel_rfl) ?_
            repeat (go_big_quiet_step (fail))
            refine wpQuiet_nil ?_
            rintro W' ⟨u2, rfl⟩
            go_wp2
            go_ret
            exact ret_mk (ret_bool HR.out.symm) (later_below hb2 hb2.size)
      · have hN : ¬ (k : Int) < (b.length : Int) := by omega
        have hN2 : ¬ (a.length : Int) < (b.length : Int) := by omega
        have HR2 := Lib.hid (show lexB a b = false by
          rw [HD.out, show b.drop k = [] from List.drop_eq_nil_of_le (by omega)]
          cases a.drop k <;> rfl)
        go_wp2
        go_ret
        exact ret_mk (ret_bool HR2.out.symm) (by repeat (first | exact Below.refl _ _ | (with_reducible assumption) | apply gL | apply gA | apply gD | apply gN | (refine gS ?_ (by first | (simp; done) | (simp; omega) | omega))))
    · have hN : ¬ (k : Int) < (a.length : Int) := by omega
      by_cases hlt' : k < b.length
      · have hN2 : (a.length : Int) < (b.length : Int) := by omega
        have HR2 := Lib.hid (show lexB a b = true by
          rw [HD.out, show a.drop k = [] from List.drop_eq_nil_of_le (by omega), drop_at (List.getElem?_eq_getElem hlt')]
          rfl)
        go_wp2
        go_ret
        exact ret_mk (ret_bool HR2.out.symm) (by repeat (first | exact Below.refl _ _ | (with_reducible assumption) | apply gL | apply gA | apply gD | apply gN | (refine gS ?_ (by first | (simp; done) | (simp; omega) | omega))))
      · have hN2 : ¬ (a.length : Int) < (b.length : Int) := by omega
        have HR2 := Lib.hid (show lexB a b = false by
          rw [HD.out, show b.drop k = [] from List.drop_eq_nil_of_le (by omega)]
          cases a.drop k <;> rfl)
        go_wp2
        go_ret
        exact ret_mk (ret_bool HR2.out.symm) (by repeat (first | exact Below.refl _ _ | (with_reducible assumption) | apply gL | apply gA | apply gD | apply gN | (refine gS ?_ (by first | (simp; done) | (simp; omega) | omega))))

set_option maxHeartbeats 1000000 in
theorem refshorter_calls (A B : Option Addr) (c d : Nat) (a b : List Int) (w : World) (HA : SlA w 1 gI A c a) (HB : SlA w 1 gI B d b) :
    Calls Try.prog 64 #[.slice A a.length c, .slice B b.length d] w (Ret (.bool (shorterB a b)) w) := by
  have C0 := Lib.hid (reflex_calls A B c d a b w HA HB)
  by_cases h1 : a.length < b.length
  · have d1 : (a.length : Int) < (b.length : Int) := by omega
    have HR := Lib.hid (show shorterB a b = true by simp [shorterB, h1])
    go_enter Try.func64, Try.ntmps64
    go_wp2_with (fail)
    go_ret
    exact ret_mk (ret_bool HR.out.symm) (by repeat (first | exact Below.refl _ _ | (with_reducible assumption) | apply gL | apply gA | apply gD | apply gN | (refine gS ?_ (by first | (simp; done) | (simp; omega) | omega))))
  · have d1 : ¬ (a.length : Int) < (b.length : Int) := by omega
    by_cases h2 : a.length = b.length
    · have d2 : ((a.length : Int) == (b.length : Int)) = true := by simp [h2]
      have HR := Lib.hid (show shorterB a b = lexB a b by simp [shorterB, h2])
      have C0 := C0.out
      rw [← HR.out] at C0
      have C0 := Lib.hid C0
      clear h2
      cases hx : shorterB a b with
      | true =>
        rw [hx] at C0
        go_enter Try.func64, Try.ntmps64
        go_wp2_with (fail)
        refine C0.out.mono ?_
        (rintro e w' hr; first | ((with_reducible replace hr := Ret.up hr); obtain ⟨rfl, z, rfl⟩ := hr) | (obtain ⟨rfl, z, rfl⟩ := hr))
        go_wp2
        go_ret
        exact ret_mk rfl (by repeat (first | exact Below.refl _ _ | (with_reducible assumption) | apply gL | apply gA | apply gD | apply gN | (refine gS ?_ (by first | (simp; done) | (simp; omega) | omega))))
      | false =>
        rw [hx] at C0
        go_enter Try.func64, Try.ntmps64
        go_wp2_with (fail)
        refine C0.out.mono ?_
        (rintro e w' hr; first | ((with_reducible replace hr := Ret.up hr); obtain ⟨rfl, z, rfl⟩ := hr) | (obtain ⟨rfl, z, rfl⟩ := hr))
        go_wp2
        go_ret
        exact ret_mk rfl (by repeat (first | exact Below.refl _ _ | (with_reducible assumption) | apply gL | apply gA | apply gD | apply gN | (refine gS ?_ (by first | (simp; done) | (simp; omega) | omega))))
    · have d2 : ((a.length : Int) == (b.length : Int)) = false := by simp; omega
      have HR := Lib.hid (show shorterB a b = false by simp [shorterB, h1, h2])
      clear h2
      go_enter Try.func64, Try.ntmps64
      go_wp2_with (fail)
      go_ret
      exact ret_mk (ret_bool HR.out.symm) (by repeat (first | exact Below.refl _ _ | (with_reducible assumption) | apply gL | apply gA | apply gD | apply gN | (refine gS ?_ (by first | (simp; done) | (simp; omega) | omega))))
end Go.Proofs.Ytcngnfnljkkjgaa
namespace Go.Proofs.Ytcngnfnljkkjgaa
open Go.RowKit
attribute [local go_sem] cell_later frozen_later lt_later le_later

theorem andnot_all : ((List.range 11).all fun n => (List.range (2 ^ n)).all fun k => bits .andNot .i64 (2 ^ n - 1) (k : Int) == 2 ^ n - 1 - (k : Int)) = true := by kernel_rfl
theorem andnot_full {n k : Nat} (hn : n ≤ 10) (hk : k < 2 ^ n) : bits .andNot .i64 (2 ^ n - 1) (k : Int) = 2 ^ n - 1 - (k : Int) := by
  have h1 := List.all_eq_true.1 andnot_all n (List.mem_range.2 (by omega))
  have h2 := List.all_eq_true.1 h1 k (List.mem_range.2 hk)
  exact eq_of_beq h2

def Hs.lvStep (h : Hs) (best : List Int) (b : Nat) : List Int := if (shorterB (bitsL (b : Int)) best && h.canR (h.fullB - (b : Int))) = true then bitsL (b : Int) else best
def Hs.lvUp (h : Hs) (k : Nat) : List Int := (List.range k).foldl h.lvStep (bitsL h.fullB)
def Hs.leaveRL (h : Hs) : List Int := h.lvUp (2 ^ h.clips.length)
theorem lvUp_step (h : Hs) (k : Nat) : h.lvUp (k + 1) = h.lvStep (h.lvUp k) k := by
  unfold Hs.lvUp
  rw [List.range_succ, List.foldl_append]
  rfl
theorem pow_small : ∀ n, n ≤ 10 → 1 ≤ 2 ^ n ∧ 2 ^ n ≤ 1024 := by decide
theorem bitsL_len (B : Int) : (bitsL B).length ≤ 12 := bits_len B 12

set_option maxRecDepth 100000 in
set_option maxHeartbeats 2000000 in
theorem refleave_calls (v : Value) (h : Hs) (w : World) (H : HsAt w v h) (hf : h.fault = 0) :
    Calls Try.prog 47 #[v] w (RetSl 1 gI h.leaveRL w) := by
  have H0 := H
  obtain ⟨A2, c2, A3, c3, A4, c4, rfl, H2, H3, H4⟩ := H
  obtain ⟨W1, hW1⟩ : ∃ W1, W1 = w.alloc (.cells #[.int .i64 h.hour, .int .i64 h.grace, .slice A2 h.clocks.length c2, .slice A3 h.tickets.length c3, .slice A4 h.clips.length c4] 26) := ⟨_, rfl⟩
  have hb1 : Below w.heap.size w W1 := by rw [hW1]; exact gA (Below.refl _ _)
  have hB : BlkAt W1 w.heap.size 26 [.int .i64 h.hour, .int .i64 h.grace, .slice A2 h.clocks.length c2, .slice A3 h.tickets.length c3, .slice A4 h.clips.length c4] := by rw [hW1]; exact BlkAt.new _ _ _
  have H1 := H0.below hb1
  have q0 := hB.cell 0
  have q1 := hB.cell 1
  have q2 := hB.cell 2
  have q3 := hB.cell 3
  have q4 := hB.cell 4
  simp only [List.getElem?_cons_zero, List.getElem?_cons_succ] at q0 q1 q2 q3 q4
  have hBl := hB.lt
  have hp : h.clips.length ≤ 10 := (small_iff.1 (fault_zero hf).1).2.2
  obtain ⟨hP1, hP2⟩ := pow_small _ hp
  obtain ⟨N, hN⟩ : ∃ N, N = 2 ^ h.clips.length := ⟨_, rfl⟩
  have hNI : ((2 : Int) ^ h.clips.length) = (N : Int) := by rw [hN]; norm_cast
  have hFB : h.fullB = (N : Int) - 1 := by rw [Hs.fullB, hNI]
  have HAN : ∀ k, k < N → bits .andNot .i64 ((N : Int) - 1) (k : Int) = (N : Int) - 1 - (k : Int) := fun k hk => by
    have := andnot_full (n := h.clips.length) (k := k) hp (by omega)
    rwa [hNI] at this
  have HAN := Lib.hid HAN
  have CF := fun X (hX : Below W1.heap.size W1 X) => reffull_calls _ h X (H1.below hX) hf
  rw [hNI] at CF
  have CF := Lib.hid CF
  rw [← hN] at hP1 hP2
  have HFF := Lib.hid hf
  have HFB := Lib.hid hFB
  have HN := Lib.hid hN
  clear hf hFB hNI hN
  go_enter Try.func47, Try.ntmps47
  go_wp2_with (fail)
  rw [← hW1]
  clear hW1
  refine (CF.out W1 (Below.refl _ _)).mono ?_
  (rintro e w' ⟨rfl, z, rfl⟩)
  go_wp2_with (fail)
  refine (refbits_calls ((N : Int) - 1) _ (by omega) (by omega)).mono ?_
  (rintro e w' hr; obtain ⟨A, c, rfl, ⟨z2, rfl⟩, hsl⟩ := hr)
  have hlu : h.lvUp 0 = bitsL ((N : Int) - 1) := by rw [← HFB.out]; rfl
  rw [← hlu] at hsl ⊢
  obtain ⟨W2, hW2⟩ : ∃ W2, W2 = later (later W1 z) z2 := ⟨_, rfl⟩
  have hb2 : Below W1.heap.size W1 W2 := by rw [hW2]; exact later_below (below_later W1 z) (size_later W1 z)
  rw [← hW2] at hsl ⊢
  clear hW2 hlu
  go_wp2
  go_loopw [3, 4] (fun v i wr => ∃ k : Nat, k ≤ N ∧ i = .int .i64 k ∧ Below W1.heap.size W1 wr ∧ ∃ A c, v = .slice A (h.lvUp k).length c ∧ SlA wr 1 gI A c (h.lvUp k)) (fun _ i _ => N - (intOf i).toNat)
  case atStart => exact ⟨0, Nat.zero_le _, rfl, hb2, A, c, rfl, hsl⟩
  case round =>
    obtain ⟨k, hk, rfl, hb, E, d, rfl, hse⟩ := hrel
    have hk0 : (0 : Int) ≤ (k : Int) := Int.natCast_nonneg _
    have p0 := (hb.cell (p := ⟨w.heap.size, 0, none⟩) hBl).trans q0
    have p1 := (hb.cell (p := ⟨w.heap.size, 1, none⟩) hBl).trans q1
    have p2 := (hb.cell (p := ⟨w.heap.size, 2, none⟩) hBl).trans q2
    have p3 := (hb.cell (p := ⟨w.heap.size, 3, none⟩) hBl).trans q3
    have p4 := (hb.cell (p := ⟨w.heap.size, 4, none⟩) hBl).trans q4
    have hBr : w.heap.size < wr.heap.size := Nat.lt_of_lt_of_le hBl hb.size
    have hst := lvUp_step h k
    unfold Hs.lvStep at hst
    rw [HFB.out] at hst
    by_cases hlt : k < N
    · have hlt1 : (k : Int) ≤ (N : Int) - 1 := by omega
      have HAK := HAN.out k hlt
      have HSE := Lib.hid hse
      have HST := Lib.hid hst
      clear hse hst
      go_wp2_with (fail)
      refine (CF.out wr hb).mono ?_
      (rintro e w' ⟨rfl, z, rfl⟩)
      go_wp2_with (fail)
      refine (refbits_calls (k : Int) _ hk0 (by omega)).mono ?_
      (rintro e w' hr; obtain ⟨B, f, rfl, ⟨z2, rfl⟩, hsb⟩ := hr)
      obtain ⟨W3, hW3⟩ : ∃ W3, W3 = later (later wr z) z2 := ⟨_, rfl⟩
      have hb3 : Below wr.heap.size wr W3 := by rw [hW3]; exact later_below (below_later wr z) (size_later wr z)
      rw [← hW3] at hsb ⊢
      clear hW3
      have r0 := (hb3.cell (p := ⟨w.heap.size, 0, none⟩) hBr).trans p0
      have r1 := (hb3.cell (p := ⟨w.heap.size, 1, none⟩) hBr).trans p1
      have r2 := (hb3.cell (p := ⟨w.heap.size, 2, none⟩) hBr).trans p2
      have r3 := (hb3.cell (p := ⟨w.heap.size, 3, none⟩) hBr).trans p3
      have r4 := (hb3.cell (p := ⟨w.heap.size, 4, none⟩) hBr).trans p4
      have hBr3 := Nat.lt_of_lt_of_le hBr hb3.size
      clear p0 p1 p2 p3 p4
      have hb13 : Below W1.heap.size W1 W3 := hb.trans (hb3.mono hb.size)
      have C0 := Lib.hid (fun x => refshorter_calls B E f d (bitsL (k : Int)) (h.lvUp k) (later W3 x) (hsb.below (below_later W3 x)) (HSE.out.below (hb3.trans ((below_later W3 x).mono hb3.size))))
      have C1 := Lib.hid (fun x => CF.out (later W3 x) (hb13.trans ((below_later W3 x).mono hb13.size)))
      have C2 := Lib.hid (fun x => refcan_calls _ h ((N : Int) - 1 - (k : Int)) (later W3 x) (H1.below (hb13.trans ((below_later W3 x).mono hb13.size))) HFF.out (by omega))
      have HSB := Lib.hid hsb
      clear hsb
      cases hs : shorterB (bitsL (k : Int)) (h.lvUp k) with
      | false =>
        have C0 := C0.out
        simp only [hs] at C0
        have C0 := Lib.hid C0
        have HS2 := Lib.hid (HST.out.trans (show _ = h.lvUp k by rw [hs]; rfl))
        clear hs HST
        obtain ⟨L, hL⟩ : ∃ L, L = h.lvUp k := ⟨_, rfl⟩
        have HSE := HSE.out
        have HS2 := HS2.out
        rw [← hL] at C0 HSE HS2 ⊢
        have HSE := Lib.hid HSE
        have HS2 := Lib.hid HS2
        clear hL
        go_wp2
        refine region_later (by kernel_rfl) (by kernel_rfl) ?_
        repeat (go_big_quiet_step (first | with_reducible exact quiet_ret (C0.out _) | with_reducible exact quiet_ret (C1.out _) | with_reducible exact quiet_ret (C2.out _)))
        refine wpQuiet_nil ?_
        rintro W' ⟨u, rfl⟩
        go_wp2
        go_roundw
        case rel => exact ⟨k + 1, by omega, by go_num, later_below hb13 hb13.size, E, d, by rw [HS2.out], by rw [HS2.out]; exact HSE.out.below (hb3.trans ((below_later W3 u).mono hb3.size))⟩
        case measure => simp [intOf]; omega
      | true =>
        have C0 := C0.out
        simp only [hs] at C0
        have C0 := Lib.hid C0
        cases hc : h.canR ((N : Int) - 1 - (k : Int)) with
        | false =>
          have C2 := C2.out
          simp only [hc] at C2
          have C2 := Lib.hid C2
          have HS2 := Lib.hid (HST.out.trans (show _ = h.lvUp k by rw [hs, hc]; rfl))
          clear hs hc HST
          obtain ⟨L, hL⟩ : ∃ L, L = h.lvUp k := ⟨_, rfl⟩
          have HSE := HSE.out
          have HS2 := HS2.out
          rw [← hL] at C0 HSE HS2 ⊢
          have HSE := Lib.hid HSE
          have HS2 := Lib.hid HS2
          clear hL
          go_wp2
          refine region_later (by kernel_rfl) (by kernel_rfl) ?_
          repeat (go_big_quiet_step (first | with_reducible exact quiet_ret (C0.out _) | with_reducible exact quiet_ret (C1.out _) | with_reducible exact quiet_ret (C2.out _)))
          refine wpQuiet_nil ?_
          rintro W' ⟨u, rfl⟩
          go_wp2
          go_roundw
          case rel => exact ⟨k + 1, by omega, by go_num, later_below hb13 hb13.size, E, d, by rw [HS2.out], by rw [HS2.out]; exact HSE.out.below (hb3.trans ((below_later W3 u).mono hb3.size))⟩
          case measure => simp [intOf]; omega
        | true =>
          have C2 := C2.out
          simp only [hc] at C2
          have C2 := Lib.hid C2
          have HS2 := Lib.hid (HST.out.trans (show _ = bitsL (k : Int) by rw [hs, hc]; rfl))
          clear hs hc HST
          obtain ⟨L, hL⟩ : ∃ L, L = h.lvUp k := ⟨_, rfl⟩
          obtain ⟨M, hM⟩ : ∃ M, M = bitsL (k : Int) := ⟨_, rfl⟩
          have HSB := HSB.out
          have HS2 := HS2.out
          rw [← hM] at HSB HS2 C0 ⊢
          rw [← hL] at C0 ⊢
          have HSB := Lib.hid HSB
          have HS2 := Lib.hid HS2
          clear hL hM
          go_wp2
          refine region_later (by kernel_rfl) (by kernel_rfl) ?_
          repeat (go_big_quiet_step (first | with_reducible exact quiet_ret (C0.out _) | with_reducible exact quiet_ret (C1.out _) | with_reducible exact quiet_ret (C2.out _)))
          refine wpQuiet_nil ?_
          rintro W' ⟨u, rfl⟩
          go_wp2
          go_roundw
          case rel => exact ⟨k + 1, by omega, by go_num, later_below hb13 hb13.size, B, f, by rw [HS2.out], by rw [HS2.out]; exact HSB.out.below (below_later W3 u)⟩
          case measure => simp [intOf]; omega
    · obtain rfl : k = N := by omega
      have hlt1 : ¬ (k : Int) ≤ (k : Int) - 1 := by omega
      have HR := Lib.hid (show h.lvUp k = h.leaveRL by rw [Hs.leaveRL, HN.out])
      have hse := hse
      rw [HR.out] at hse ⊢
      have HSE := Lib.hid hse
      clear hse hst
      go_wp2_with (fail)
      refine (CF.out wr hb).mono ?_
      (rintro e w' ⟨rfl, z, rfl⟩)
      go_wp2
      go_ret
      exact ⟨E, d, rfl, later_ex (hb1.trans (Below.mono (later_below hb hb.size) hb1.size)), HSE.out.below (below_later wr z)⟩
end Go.Proofs.Ytcngnfnljkkjgaa
namespace Go.Proofs.Ytcngnfnljkkjgaa
open Go.RowKit

/-! Lists in increasing order. -/
def Inc (n frm : Nat) (s : List Int) : Prop := s.Pairwise (· < ·) ∧ ∀ x ∈ s, (frm : Int) ≤ x ∧ x < (n : Int)
theorem inc_nil (n frm : Nat) : Inc n frm [] := ⟨List.Pairwise.nil, by simp⟩
theorem inc_cons {n frm : Nat} {x : Int} {s : List Int} : Inc n frm (x :: s) ↔ ∃ i : Nat, x = (i : Int) ∧ frm ≤ i ∧ i < n ∧ Inc n (i + 1) s := by
  unfold Inc
  rw [List.pairwise_cons]
  constructor
  · rintro ⟨⟨h1, h2⟩, h3⟩
    have hx := h3 x (by simp)
    refine ⟨x.toNat, by omega, by omega, by omega, h2, fun y hy => ?_⟩
    have := h1 y hy
    have := h3 y (by simp [hy])
    omega
  · rintro ⟨i, rfl, hi1, hi2, h2, h3⟩
    refine ⟨⟨fun y hy => ?_, h2⟩, fun y hy => ?_⟩
    · have := h3 y hy
      omega
    · rcases List.mem_cons.1 hy with rfl | hy
      · omega
      · have := h3 y hy
        omega
theorem inc_len : ∀ {s : List Int} {n frm : Nat}, Inc n frm s → frm ≤ n → frm + s.length ≤ n
  | [], n, frm, _, h => by simpa using h
  | x :: s, n, frm, h, _ => by
    obtain ⟨i, -, h1, h2, h3⟩ := inc_cons.1 h
    have := inc_len h3 (by omega)
    simp only [List.length_cons]
    omega
theorem sorted_ext : ∀ {a b : List Int}, a.Pairwise (· < ·) → b.Pairwise (· < ·) → (∀ x, x ∈ a ↔ x ∈ b) → a = b
  | [], [], _, _, _ => rfl
  | [], y :: b, _, _, h => absurd ((h y).2 (by simp)) (by simp)
  | x :: a, [], _, _, h => absurd ((h x).1 (by simp)) (by simp)
  | x :: a, y :: b, ha, hb, h => by
    rw [List.pairwise_cons] at ha hb
    have hxy : x = y := by
      rcases List.mem_cons.1 ((h x).1 (by simp)) with h1 | h1
      · exact h1
      · rcases List.mem_cons.1 ((h y).2 (by simp)) with h2 | h2
        · exact h2.symm
        · have := hb.1 x h1
          have := ha.1 y h2
          omega
    subst hxy
    congr 1
    refine sorted_ext ha.2 hb.2 fun z => ⟨fun hz => ?_, fun hz => ?_⟩
    · have := ha.1 z hz
      rcases List.mem_cons.1 ((h z).1 (by simp [hz])) with h1 | h1
      · omega
      · exact h1
    · have := hb.1 z hz
      rcases List.mem_cons.1 ((h z).2 (by simp [hz])) with h1 | h1
      · omega
      · exact h1

/-! Bits. -/
theorem bit_nat (b i : Nat) : bitI (b : Int) i = b.testBit i := by
  have h1 : (b : Int) / 2 ^ i = ((b / 2 ^ i : Nat) : Int) := by norm_cast
  rw [bitI, h1, Nat.testBit_eq_decide_div_mod_eq, Int.tmod_eq_emod_of_nonneg (Int.natCast_nonneg _)]
  generalize b / 2 ^ i = q
  rw [Bool.eq_iff_iff]
  simp only [beq_iff_eq, decide_eq_true_eq]
  omega
theorem mem_bits {b : Nat} {x : Int} : x ∈ bitsL (b : Int) ↔ ∃ i : Nat, x = (i : Int) ∧ i < 12 ∧ b.testBit i = true := by
  unfold bitsL bitsUp
  simp only [List.mem_map, List.mem_filter, List.mem_range, bit_nat]
  constructor
  · rintro ⟨i, ⟨h1, h2⟩, rfl⟩
    exact ⟨i, rfl, h1, h2⟩
  · rintro ⟨i, rfl, h1, h2⟩
    exact ⟨i, ⟨h1, h2⟩, rfl⟩
theorem bits_sorted (B : Int) : (bitsL B).Pairwise (· < ·) := by
  unfold bitsL bitsUp
  rw [List.pairwise_map]
  refine List.Pairwise.filter _ ?_
  have h : (List.range 12).Pairwise (· < ·) := List.pairwise_lt_range
  exact h.imp fun hab => by omega
theorem bits_inc {n b : Nat} (hb : b < 2 ^ n) : Inc n 0 (bitsL (b : Int)) := by
  refine ⟨bits_sorted _, fun x hx => ?_⟩
  obtain ⟨i, rfl, -, h2⟩ := mem_bits.1 hx
  have : i < n := by
    rcases Nat.lt_or_ge i n with h | h
    · exact h
    · rw [Nat.testBit_lt_two_pow (Nat.lt_of_lt_of_le hb (Nat.pow_le_pow_right (by decide) h))] at h2
      cases h2
  omega
def encS : List Int → Nat
  | [] => 0
  | x :: s => 2 ^ x.toNat ||| encS s
theorem enc_bit : ∀ {s : List Int}, (∀ x ∈ s, 0 ≤ x) → ∀ i : Nat, (encS s).testBit i = true ↔ (i : Int) ∈ s
  | [], _, i => by simp [encS]
  | x :: s, h, i => by
    have h0 := h x (by simp)
    rw [encS, Nat.testBit_or, Bool.or_eq_true, enc_bit (fun y hy => h y (by simp [hy])) i, Nat.testBit_two_pow, List.mem_cons, decide_eq_true_eq]
    refine or_congr ?_ Iff.rfl
    omega
theorem enc_lt : ∀ {s : List Int} {n : Nat}, (∀ x ∈ s, 0 ≤ x ∧ x < (n : Int)) → encS s < 2 ^ n
  | [], n, _ => Nat.two_pow_pos n
  | x :: s, n, h => by
    have h0 := h x (by simp)
    exact Nat.or_lt_two_pow (Nat.pow_lt_pow_right (by decide) (by omega)) (enc_lt fun y hy => h y (by simp [hy]))
theorem bits_enc {n : Nat} (hn : n ≤ 12) {s : List Int} (h : Inc n 0 s) : bitsL (encS s : Nat) = s := by
  refine sorted_ext (bits_sorted _) h.1 fun x => ?_
  rw [mem_bits]
  constructor
  · rintro ⟨i, rfl, -, h2⟩
    exact (enc_bit (fun y hy => by have := h.2 y hy; omega) i).1 h2
  · intro hx
    have hb := h.2 x hx
    refine ⟨x.toNat, by omega, by omega, (enc_bit (fun y hy => by have := h.2 y hy; omega) _).2 ?_⟩
    rwa [show ((x.toNat : Nat) : Int) = x by omega]

/-! The order. -/
theorem lex_irrefl : ∀ a, lexB a a = false
  | [] => rfl
  | x :: a => by simp [lexB, lex_irrefl a]
theorem lex_trans : ∀ {a b c : List Int}, lexB a b = true → lexB b c = true → lexB a c = true
  | _, _, [], _, h => by simp [lexB] at h
  | [], _, _ :: _, _, _ => rfl
  | _ :: _, [], _ :: _, h, _ => by simp [lexB] at h
  | x :: a, y :: b, z :: c, h1, h2 => by
    simp only [lexB] at h1 h2 ⊢
    by_cases e1 : x = y <;> by_cases e2 : y = z
    · subst e1; subst e2
      simp only [if_true] at h1 h2 ⊢
      exact lex_trans h1 h2
    · subst e1
      simp only [e2, if_false] at h2 ⊢
      exact h2
    · subst e2
      simp only [e1, if_false] at h1 ⊢
      exact h1
    · simp only [e1, e2, if_false, decide_eq_true_eq] at h1 h2
      rw [if_neg (by omega)]
      exact decide_eq_true (by omega)
theorem lex_eq : ∀ {a b : List Int}, a.length = b.length → lexB a b = false → lexB b a = false → a = b
  | [], [], _, _, _ => rfl
  | [], _ :: _, h, _, _ => by simp at h
  | _ :: _, [], h, _, _ => by simp at h
  | x :: a, y :: b, h, h1, h2 => by
    simp only [lexB] at h1 h2
    by_cases e : x = y
    · subst e
      simp only [if_true] at h1 h2
      rw [lex_eq (by simpa using h) h1 h2]
    · have e' : ¬ y = x := fun h => e h.symm
      simp only [e, e', if_false, decide_eq_false_iff_not] at h1 h2
      omega
theorem short_iff {a b : List Int} : shorterB a b = true ↔ a.length < b.length ∨ (a.length = b.length ∧ lexB a b = true) := by simp [shorterB]
theorem short_irrefl (a : List Int) : shorterB a a = false := by
  rw [← Bool.not_eq_true, short_iff, lex_irrefl]
  simp
theorem short_trans {a b c : List Int} (h1 : shorterB a b = true) (h2 : shorterB b c = true) : shorterB a c = true := by
  rw [short_iff] at *
  rcases h1 with h1 | ⟨h1, h3⟩ <;> rcases h2 with h2 | ⟨h2, h4⟩
  · exact .inl (by omega)
  · exact .inl (by omega)
  · exact .inl (by omega)
  · exact .inr ⟨by omega, lex_trans h3 h4⟩
theorem short_eq {a b : List Int} (h1 : shorterB a b = false) (h2 : shorterB b a = false) : a = b := by
  rw [← Bool.not_eq_true, short_iff] at h1 h2
  have hl : a.length = b.length := by
    rcases Nat.lt_trichotomy a.length b.length with h | h | h
    · exact absurd (.inl h) h1
    · exact h
    · exact absurd (.inl h) h2
  refine lex_eq hl ?_ ?_
  · cases h : lexB a b
    · rfl
    · exact absurd (.inr ⟨hl, h⟩) h1
  · cases h : lexB b a
    · rfl
    · exact absurd (.inr ⟨hl.symm, h⟩) h2

/-! The program's search. -/
theorem lv_spec (h : Hs) : ∀ (m frm : Nat) (out : List Int), frm ≤ h.clips.length →
    (h.lv m out frm = none → ∀ s, s.length = m → Inc h.clips.length frm s → h.canB (out ++ s) = false) ∧
    (∀ r, h.lv m out frm = some r → ∃ s, r = out ++ s ∧ s.length = m ∧ Inc h.clips.length frm s ∧ h.canB r = true ∧ ∀ t, t.length = m → Inc h.clips.length frm t → h.canB (out ++ t) = true → lexB t s = false)
  | 0, frm, out, _ => by
    constructor
    · intro hn s hs _
      rw [List.length_eq_zero_iff.1 hs, List.append_nil]
      cases hc : h.canB out
      · rfl
      · simp [Hs.lv, hc] at hn
    · intro r hr
      cases hc : h.canB out
      · simp [Hs.lv, hc] at hr
      · simp only [Hs.lv, hc, if_true, Option.some.injEq] at hr
        subst hr
        refine ⟨[], by simp, rfl, inc_nil _ _, hc, fun t ht _ _ => ?_⟩
        rw [List.length_eq_zero_iff.1 ht]
        rfl
  | m + 1, frm, out, hf => by
    have hin : ∀ (i : Nat) (s : List Int), s.length = m → frm ≤ i → i < h.clips.length → Inc h.clips.length (i + 1) s → i ∈ List.range' frm (h.clips.length - m - frm) := by
      intro i s hs h1 h2 h3
      have := inc_len h3 (by omega)
      rw [List.mem_range'_1]
      omega
    constructor
    · intro hn s hs hinc
      cases s with
      | nil => simp at hs
      | cons x s =>
        obtain ⟨i, rfl, h1, h2, h3⟩ := inc_cons.1 hinc
        simp only [List.length_cons, Nat.add_right_cancel_iff] at hs
        rw [Hs.lv, List.findSome?_eq_none_iff] at hn
        have h4 := hn i (hin i s hs h1 h2 h3)
        have := (lv_spec h m (i + 1) (out ++ [(i : Int)]) (by omega)).1 h4 s hs h3
        rwa [List.append_assoc] at this
    · intro r hr
      rw [Hs.lv, List.findSome?_eq_some_iff] at hr
      obtain ⟨l1, i, l2, hl, hi, hn⟩ := hr
      have hmem : i ∈ List.range' frm (h.clips.length - m - frm) := by rw [hl]; simp
      have hib := List.mem_range'_1.1 hmem
      obtain ⟨s, rfl, h2, h3, h4, h5⟩ := (lv_spec h m (i + 1) (out ++ [(i : Int)]) (by omega)).2 r hi
      refine ⟨(i : Int) :: s, by simp, by simp [h2], inc_cons.2 ⟨i, rfl, by omega, by omega, h3⟩, h4, fun t ht hinc hc => ?_⟩
      cases t with
      | nil => simp at ht
      | cons x t =>
        obtain ⟨j, rfl, g1, g2, g3⟩ := inc_cons.1 hinc
        simp only [List.length_cons, Nat.add_right_cancel_iff] at ht
        have hjm := hin j t ht g1 g2 g3
        have hc' : h.canB ((out ++ [(j : Int)]) ++ t) = true := by rw [List.append_assoc]; exact hc
        have hsort : (l1 ++ i :: l2).Pairwise (· < ·) := by rw [← hl]; exact List.pairwise_lt_range'
        rw [hl, List.mem_append, List.mem_cons] at hjm
        rcases hjm with hj | rfl | hj
        · rw [(lv_spec h m (j + 1) (out ++ [(j : Int)]) (by omega)).1 (hn j hj) t ht g3] at hc'
          cases hc'
        · simp only [lexB, if_true]
          exact h5 t ht g3 hc'
        · have h6 := (List.pairwise_append.1 hsort).2.1
          have h7 := (List.pairwise_cons.1 h6).1 j hj
          simp only [lexB]
          rw [if_neg (by omega)]
          exact decide_eq_false (by omega)
theorem leaveO_spec {h : Hs} {r : List Int} (hr : h.leaveO = some r) : Inc h.clips.length 0 r ∧ h.canB r = true ∧ ∀ t, Inc h.clips.length 0 t → h.canB t = true → shorterB t r = false := by
  rw [Hs.leaveO, List.findSome?_eq_some_iff] at hr
  obtain ⟨l1, m, l2, hl, hi, hn⟩ := hr
  obtain ⟨s, h1, h2, h3, h4, h5⟩ := (lv_spec h m 0 [] (Nat.zero_le _)).2 r hi
  rw [List.nil_append] at h1
  subst h1
  refine ⟨h3, h4, fun t ht hc => ?_⟩
  rw [← Bool.not_eq_true, short_iff]
  rintro (h6 | ⟨h6, h7⟩)
  · have hsort : (l1 ++ m :: l2).Pairwise (· < ·) := by rw [← hl]; exact List.pairwise_lt_range'
    have hlt := inc_len ht (Nat.zero_le _)
    have hm : t.length ∈ l1 ++ m :: l2 := by
      rw [← hl, List.mem_range'_1]
      omega
    rw [List.mem_append, List.mem_cons] at hm
    rcases hm with hm | hm | hm
    · have := (lv_spec h t.length 0 [] (Nat.zero_le _)).1 (hn _ hm) t rfl ht
      rw [List.nil_append, hc] at this
      cases this
    · omega
    · have := (List.pairwise_cons.1 (List.pairwise_append.1 hsort).2.1).1 _ hm
      omega
  · rw [h5 t (by omega) ht hc] at h7
    cases h7
end Go.Proofs.Ytcngnfnljkkjgaa
namespace Go.Proofs.Ytcngnfnljkkjgaa
open Go.RowKit

theorem nth_any {h : Hs} (hf : h.fault = 0) (p : List Int → Bool) : ((List.range (manyR h.clocks).toNat).any fun (i : Nat) => p (nthE h.clocks (i : Int))) = (prods h.clocks).any p := by
  have hs := sizeP_pos h.clocks (off_of hf)
  rw [Bool.eq_iff_iff, List.any_eq_true, List.any_eq_true, many_sizeP hf]
  constructor
  · rintro ⟨i, -, hp⟩
    exact ⟨_, nth_mem _ (off_of hf) _, hp⟩
  · rintro ⟨e, he, hp⟩
    obtain ⟨h1, h2, h3⟩ := enc_nth _ (off_of hf) e he
    refine ⟨(encE h.clocks e).toNat, List.mem_range.2 (by omega), ?_⟩
    rw [Int.toNat_of_nonneg h1, h3]
    exact hp
theorem ris_iff {h : Hs} {e : List Int} {B : Int} : h.risR e B = true ↔ ∀ k i, k < i → i < h.clips.length → bitI B k = true → bitI B i = true → h.trI e k ≤ h.trI e i := by
  simp only [Hs.risR, Hs.rowOk, List.all_eq_true, List.mem_range, Hs.pairOk, Bool.not_eq_true', Bool.and_eq_false_iff, decide_eq_false_iff_not]
  constructor
  · intro h1 k i hki hi b1 b2
    rcases h1 i hi k hki with h2 | h2 | h2
    · rw [b2] at h2; cases h2
    · rw [b1] at h2; cases h2
    · omega
  · intro h1 i hi k hki
    cases b2 : bitI B i
    · exact .inl rfl
    · cases b1 : bitI B k
      · exact .inr (.inl rfl)
      · exact .inr (.inr (by have := h1 k i hki hi b1 b2; omega))
theorem tr_at {h : Hs} {e : List Int} {i : Nat} (hi : i < h.clips.length) : h.trI e i = tru e h.clips[i] := by simp [Hs.trI, hi]
theorem rising_iff {h : Hs} {e out : List Int} : h.risingB e out = true ↔ ∀ k i, k < i → i < h.clips.length → (k : Int) ∉ out → (i : Int) ∉ out → h.trI e k ≤ h.trI e i := by
  rw [Hs.risingB, nondec_pair, keptM, List.pairwise_map, List.pairwise_filter, List.pairwise_iff_getElem]
  simp only [List.length_zipIdx, List.getElem_zipIdx, Nat.zero_add, Bool.not_eq_true', List.contains_eq_mem, decide_eq_false_iff_not]
  constructor
  · intro h1 k i hki hi b1 b2
    rw [tr_at hi, tr_at (Nat.lt_trans hki hi)]
    exact h1 k i (Nat.lt_trans hki hi) hi hki b1 b2
  · intro h1 k i hk hi hki b1 b2
    have := h1 k i hki hi b1 b2
    rwa [tr_at hi, tr_at hk] at this
theorem can_bits {h : Hs} (hf : h.fault = 0) {b : Nat} (hb : b < 2 ^ h.clips.length) : h.canR (h.fullB - (b : Int)) = h.canB (bitsL (b : Int)) := by
  have hp : h.clips.length ≤ 10 := (small_iff.1 (fault_zero hf).1).2.2
  rw [Hs.canR, nth_any hf (fun e => h.risR e (h.fullB - (b : Int))), Hs.canB]
  congr 1
  funext e
  have hc : h.fullB - (b : Int) = ((2 ^ h.clips.length - (b + 1) : Nat) : Int) := by
    have h2 : ((2 ^ h.clips.length : Nat) : Int) = (2 : Int) ^ h.clips.length := by norm_cast
    rw [Hs.fullB, ← h2]
    omega
  have hbit : ∀ i, i < h.clips.length → (bitI (h.fullB - (b : Int)) i = true ↔ (i : Int) ∉ bitsL (b : Int)) := by
    intro i hi
    rw [hc, bit_nat, Nat.testBit_two_pow_sub_succ hb, mem_bits, Bool.and_eq_true, decide_eq_true_eq, Bool.not_eq_true']
    constructor
    · rintro ⟨-, h1⟩ ⟨j, hj, -, h2⟩
      obtain rfl : i = j := by omega
      rw [h1] at h2
      cases h2
    · intro h1
      refine ⟨hi, ?_⟩
      cases h2 : b.testBit i
      · rfl
      · exact absurd ⟨i, rfl, by omega, h2⟩ h1
  rw [Bool.eq_iff_iff, ris_iff, rising_iff]
  constructor
  · intro h1 k i hki hi b1 b2
    exact h1 k i hki hi ((hbit k (by omega)).2 b1) ((hbit i hi).2 b2)
  · intro h1 k i hki hi b1 b2
    exact h1 k i hki hi ((hbit k (by omega)).1 b1) ((hbit i hi).1 b2)
theorem first_good {h : Hs} (hf : h.fault = 0) {k : Nat} (hk : k < h.clips.length) : h.firstAt k = h.goodAt k := by
  rw [Hs.firstAt, Hs.canR, nth_any hf (fun e => h.risR e (2 * 2 ^ k - 1)), Hs.goodAt, Hs.canB]
  show (prods h.clocks).any _ = (prods h.clocks).any _
  congr 1
  funext e
  have hc : (2 : Int) * 2 ^ k - 1 = ((2 ^ (k + 1) - (0 + 1) : Nat) : Int) := by
    have h2 : ((2 ^ k : Nat) : Int) = (2 : Int) ^ k := by norm_cast
    rw [← h2, Nat.pow_succ]
    have := Nat.two_pow_pos k
    omega
  have hbit : ∀ i, bitI ((2 : Int) * 2 ^ k - 1) i = true ↔ i < k + 1 := by
    intro i
    rw [hc, bit_nat, Nat.testBit_two_pow_sub_succ (Nat.two_pow_pos _)]
    simp
  have hlen : (h.upto (k + 1)).clips.length = k + 1 := by
    show (h.clips.take (k + 1)).length = k + 1
    rw [List.length_take]
    omega
  have htr : ∀ i, i < k + 1 → (h.upto (k + 1)).trI e i = h.trI e i := by
    intro i hi
    show (match (h.clips.take (k + 1))[i]? with | some c => tru e c | none => 0) = (match h.clips[i]? with | some c => tru e c | none => 0)
    rw [List.getElem?_take_of_lt hi]
  rw [Bool.eq_iff_iff, ris_iff, rising_iff, hlen]
  constructor
  · intro h1 a i hai hi _ _
    rw [htr a (by omega), htr i hi]
    exact h1 a i hai (by omega) ((hbit a).2 (by omega)) ((hbit i).2 hi)
  · intro h1 a i hai hi b1 b2
    have hi2 := (hbit i).1 b2
    have := h1 a i hai hi2 (by simp) (by simp)
    rwa [htr a (by omega), htr i hi2] at this

theorem lvUp_spec {h : Hs} (hf : h.fault = 0) : ∀ k, k ≤ 2 ^ h.clips.length → (∃ b, b < 2 ^ h.clips.length ∧ h.lvUp k = bitsL (b : Nat)) ∧ h.canB (h.lvUp k) = true ∧ ∀ b, b < k → h.canB (bitsL (b : Nat)) = true → shorterB (bitsL (b : Nat)) (h.lvUp k) = false
  | 0, _ => by
    have hp : h.clips.length ≤ 10 := (small_iff.1 (fault_zero hf).1).2.2
    have hpos := Nat.two_pow_pos h.clips.length
    have hc : h.fullB = ((2 ^ h.clips.length - (0 + 1) : Nat) : Int) := by
      have h2 : ((2 ^ h.clips.length : Nat) : Int) = (2 : Int) ^ h.clips.length := by norm_cast
      rw [Hs.fullB, ← h2]
      omega
    refine ⟨⟨2 ^ h.clips.length - (0 + 1), by omega, by rw [← hc]; rfl⟩, ?_, fun b hb => absurd hb (Nat.not_lt_zero _)⟩
    show h.canB (bitsL h.fullB) = true
    refine canB_all (fun r hr => (off_parts (off_of hf r hr)).2.1) fun i hi => ?_
    rw [hc, mem_bits]
    refine ⟨i, rfl, by omega, ?_⟩
    rw [Nat.testBit_two_pow_sub_succ hpos]
    simp [hi]
  | k + 1, hk => by
    obtain ⟨h1, h2, h3⟩ := lvUp_spec hf k (by omega)
    rw [lvUp_step, Hs.lvStep, can_bits hf (by omega)]
    split
    · next hc =>
      rw [Bool.and_eq_true] at hc
      refine ⟨⟨k, by omega, rfl⟩, hc.2, fun b hb hcb => ?_⟩
      rcases Nat.lt_succ_iff_lt_or_eq.1 hb with h4 | rfl
      · cases h5 : shorterB (bitsL (b : Nat)) (bitsL (k : Nat))
        · rfl
        · have := short_trans h5 hc.1
          rw [h3 b h4 hcb] at this
          cases this
      · exact short_irrefl _
    · next hc =>
      refine ⟨h1, h2, fun b hb hcb => ?_⟩
      rcases Nat.lt_succ_iff_lt_or_eq.1 hb with h4 | rfl
      · exact h3 b h4 hcb
      · cases h5 : shorterB (bitsL (b : Nat)) (h.lvUp b)
        · rfl
        · exact absurd (by rw [Bool.and_eq_true]; exact ⟨h5, hcb⟩) hc
theorem leave_plain {h : Hs} (hf : h.fault = 0) : h.leaveRL = h.leaveL := by
  have hp : h.clips.length ≤ 10 := (small_iff.1 (fault_zero hf).1).2.2
  obtain ⟨r, hr⟩ := leaveO_some (h := h) (fun r hr => (off_parts (off_of hf r hr)).2.1)
  have hL : h.leaveL = r := by rw [Hs.leaveL, if_pos hf, hr]; rfl
  obtain ⟨a1, a2, a3⟩ := leaveO_spec hr
  obtain ⟨⟨b, b1, b2⟩, b3, b4⟩ := lvUp_spec hf (2 ^ h.clips.length) (Nat.le_refl _)
  rw [hL]
  show h.lvUp (2 ^ h.clips.length) = r
  refine short_eq (a3 _ (by rw [b2]; exact bits_inc b1) b3) ?_
  have he := bits_enc (n := h.clips.length) (by omega) a1
  have hlt : encS r < 2 ^ h.clips.length := enc_lt fun x hx => by have := a1.2 x hx; omega
  have := b4 (encS r) hlt (by rw [he]; exact a2)
  rwa [he] at this
theorem first_plain {h : Hs} (hf : h.fault = 0) : h.firstR = h.firstO := by
  have key : ∀ l : List Nat, (∀ k ∈ l, k < h.clips.length) → l.find? (fun k => !h.firstAt k) = l.find? (fun k => !h.goodAt k) := by
    intro l
    induction l with
    | nil => intro _; rfl
    | cons k l ih =>
      intro hl
      rw [List.find?_cons, List.find?_cons, first_good hf (hl k (by simp)), ih (fun x hx => hl x (by simp [hx]))]
  exact key _ fun k hk => List.mem_range.1 hk
end Go.Proofs.Ytcngnfnljkkjgaa
