/-
All is paid once always, if and only if no ticket stayed too long in any truth and no two tickets clash in any; if some ticket stayed too long always, or two clash always, it never is: with no program in sight.
The reference's true minutes, and whether they do not decrease.
The reference's errors with a number.
The reference's truths.
The reference's truths are the program's, in another order; what hangs on them as a set alone is the same: with no program in sight.
The reference's hours of a ticket; whether it stayed too long.
-/
import Derived.Test.YtcngnfnljkkjgaaCmM
import Derived.Test.YtcngnfnljkkjgaaCmL
import Derived.Test.YtcngnfnljkkjgaaCmJ
namespace Go.Proofs.Ytcngnfnljkkjgaa
open Go.RowKit

theorem verdict_cases (l : List (List Int)) (p : List Int → Bool) : verdictB l p = 1 ∨ verdictB l p = 2 ∨ verdictB l p = 3 := by
  unfold verdictB
  split
  · exact .inl rfl
  · split
    · exact .inr (.inr rfl)
    · exact .inr (.inl rfl)
theorem verdict_one {l : List (List Int)} {p : List Int → Bool} : verdictB l p = 1 ↔ ∀ e ∈ l, p e = true := by
  unfold verdictB
  rw [← List.all_eq_true]
  by_cases h1 : l.all p = true
  · rw [if_pos h1]; exact ⟨fun _ => h1, fun _ => rfl⟩
  · rw [if_neg h1]
    refine ⟨fun h => ?_, fun h => absurd h h1⟩
    split at h <;> cases h
theorem verdict_two {l : List (List Int)} {p : List Int → Bool} (hl : l ≠ []) : verdictB l p = 2 ↔ ∀ e ∈ l, p e = false := by
  unfold verdictB
  constructor
  · intro h e he
    split at h
    · cases h
    · split at h
      · cases h
      · next h2 =>
        simp only [List.any_eq_true, not_exists, not_and, Bool.not_eq_true] at h2
        exact h2 e he
  · intro h
    obtain ⟨e, t, rfl⟩ := List.exists_cons_of_ne_nil hl
    have he := h e (by simp)
    have h1 : ¬ ((e :: t).all p = true) := by
      rw [List.all_eq_true]
      intro hh
      rw [hh e (by simp)] at he
      cases he
    have h2 : ¬ ((e :: t).any p = true) := by
      rw [List.any_eq_true]
      rintro ⟨x, hx, hpx⟩
      rw [h x hx] at hpx
      cases hpx
    rw [if_neg h1, if_neg h2]

/-- Never, of all tickets and of all pairs below a; always, of one of them. -/
def Hs.nvL (h : Hs) (k : Nat) : Bool := (h.longL.take k).all fun v => decide (v = 2)
def Hs.alL (h : Hs) (k : Nat) : Bool := (h.longL.take k).any fun v => decide (v = 1)
def Hs.nvR (h : Hs) (a b : Nat) : Bool := (List.range b).all fun (y : Nat) => decide (h.clashV (a : Int) (y : Int) = 2)
def Hs.alR (h : Hs) (a b : Nat) : Bool := (List.range b).any fun (y : Nat) => decide (h.clashV (a : Int) (y : Int) = 1)
def Hs.nvC (h : Hs) (a : Nat) : Bool := (List.range a).all fun x => h.nvR x x
def Hs.alC (h : Hs) (a : Nat) : Bool := (List.range a).any fun x => h.alR x x

theorem nvL_step {h : Hs} {k : Nat} {y : Int} (hy : h.longL[k]? = some y) : h.nvL (k + 1) = (h.nvL k && decide (y = 2)) := by
  unfold Hs.nvL
  rw [List.take_add_one, hy, List.all_append]
  simp
theorem alL_step {h : Hs} {k : Nat} {y : Int} (hy : h.longL[k]? = some y) : h.alL (k + 1) = (h.alL k || decide (y = 1)) := by
  unfold Hs.alL
  rw [List.take_add_one, hy, List.any_append]
  simp
theorem nvR_step (h : Hs) (a b : Nat) : h.nvR a (b + 1) = (h.nvR a b && decide (h.clashV (a : Int) (b : Int) = 2)) := by
  unfold Hs.nvR
  rw [List.range_succ, List.all_append]
  simp
theorem alR_step (h : Hs) (a b : Nat) : h.alR a (b + 1) = (h.alR a b || decide (h.clashV (a : Int) (b : Int) = 1)) := by
  unfold Hs.alR
  rw [List.range_succ, List.any_append]
  simp
theorem nvC_step (h : Hs) (a : Nat) : h.nvC (a + 1) = (h.nvC a && h.nvR a a) := by
  unfold Hs.nvC
  rw [List.range_succ, List.all_append]
  simp
theorem alC_step (h : Hs) (a : Nat) : h.alC (a + 1) = (h.alC a || h.alR a a) := by
  unfold Hs.alC
  rw [List.range_succ, List.any_append]
  simp

theorem long_get {h : Hs} (ha : h.askE 0 = 0) {k : Nat} (hk : k < h.tickets.length) : h.longL[k]? = some (h.longV k) := by
  simp [Hs.longL, ha, hk]
theorem long_len {h : Hs} (ha : h.askE 0 = 0) : h.longL.length = h.tickets.length := by simp [Hs.longL, ha]
theorem clash_ok {h : Hs} (ha : h.askE 0 = 0) {a b : Nat} (hab : b < a) (hk : a < h.tickets.length) : h.clashE (a : Int) (b : Int) = 0 := by
  have h1 : h.ticketB (a : Int) = true := by simp [Hs.ticketB, inB]; omega
  have h2 : h.ticketB (b : Int) = true := by simp [Hs.ticketB, inB]; omega
  have h3 : ¬ ((a : Int) = (b : Int)) := by omega
  simp [Hs.clashE, Hs.clashDue, h1, h2, h3, ha]
theorem clash_val {h : Hs} (ha : h.askE 0 = 0) {a b : Nat} (hab : b < a) (hk : a < h.tickets.length) : h.clashV (a : Int) (b : Int) = verdictB h.truths (fun e => h.clashB e a b) := by
  simp [Hs.clashV, clash_ok ha hab hk]

theorem once_never {h : Hs} (ha : h.askE 0 = 0) : (h.nvL h.tickets.length && h.nvC h.tickets.length) = true ↔ h.paidV = 1 := by
  have hne : h.truths ≠ [] := (askE_zero ha).2.2
  have hp : h.paidV = verdictB h.truths h.paidB := by simp [Hs.paidV, ha]
  rw [hp, verdict_one, Bool.and_eq_true]
  constructor
  · rintro ⟨h1, h2⟩ e he
    rw [Hs.paidB, List.all_eq_true]
    intro i hi
    have hi := List.mem_range.1 hi
    rw [Hs.okAt, Bool.and_eq_true]
    constructor
    · rw [Hs.nvL, ← long_len ha, List.take_length, List.all_eq_true] at h1
      have := h1 _ (List.mem_of_getElem? (long_get ha hi))
      simp only [decide_eq_true_eq] at this
      rw [Hs.longV, verdict_two hne] at this
      rw [this e he]
      rfl
    · rw [List.all_eq_true]
      intro k hk
      have hk := List.mem_range.1 hk
      rw [Hs.nvC, List.all_eq_true] at h2
      have := h2 i (List.mem_range.2 hi)
      rw [Hs.nvR, List.all_eq_true] at this
      have := this k (List.mem_range.2 hk)
      simp only [decide_eq_true_eq] at this
      rw [clash_val ha hk hi, verdict_two hne] at this
      rw [this e he]
      rfl
  · intro h1
    have hok : ∀ e ∈ h.truths, ∀ i, i < h.tickets.length → h.longB e i = false ∧ ∀ k, k < i → h.clashB e i k = false := by
      intro e he i hi
      have := h1 e he
      rw [Hs.paidB, List.all_eq_true] at this
      have := this i (List.mem_range.2 hi)
      rw [Hs.okAt, Bool.and_eq_true, List.all_eq_true] at this
      refine ⟨by simpa using this.1, fun k hk => by simpa using this.2 k (List.mem_range.2 hk)⟩
    constructor
    · rw [Hs.nvL, ← long_len ha, List.take_length, List.all_eq_true]
      intro x hx
      obtain ⟨k, hk⟩ := List.mem_iff_getElem?.1 hx
      have hlt : k < h.tickets.length := by rw [← long_len ha]; exact (List.getElem?_eq_some_iff.1 hk).1
      rw [long_get ha hlt] at hk
      cases hk
      simp only [decide_eq_true_eq]
      rw [Hs.longV, verdict_two hne]
      exact fun e he => (hok e he k hlt).1
    · rw [Hs.nvC, List.all_eq_true]
      intro a ha'
      have hlt := List.mem_range.1 ha'
      rw [Hs.nvR, List.all_eq_true]
      intro b hb
      have hb := List.mem_range.1 hb
      simp only [decide_eq_true_eq]
      rw [clash_val ha hb hlt, verdict_two hne]
      exact fun e he => (hok e he a hlt).2 b hb
theorem once_always {h : Hs} (ha : h.askE 0 = 0) (h1 : (h.alL h.tickets.length || h.alC h.tickets.length) = true) : h.paidV = 2 := by
  have hne : h.truths ≠ [] := (askE_zero ha).2.2
  have hp : h.paidV = verdictB h.truths h.paidB := by simp [Hs.paidV, ha]
  rw [hp, verdict_two hne]
  intro e he
  rw [Hs.paidB, List.all_eq_false]
  rw [Bool.or_eq_true] at h1
  rcases h1 with h1 | h1
  · rw [Hs.alL, ← long_len ha, List.take_length, List.any_eq_true] at h1
    obtain ⟨x, hx, hx1⟩ := h1
    obtain ⟨k, hk⟩ := List.mem_iff_getElem?.1 hx
    have hlt : k < h.tickets.length := by rw [← long_len ha]; exact (List.getElem?_eq_some_iff.1 hk).1
    rw [long_get ha hlt] at hk
    cases hk
    simp only [decide_eq_true_eq] at hx1
    rw [Hs.longV, verdict_one] at hx1
    exact ⟨k, List.mem_range.2 hlt, by simp [Hs.okAt, hx1 e he]⟩
  · rw [Hs.alC, List.any_eq_true] at h1
    obtain ⟨a, ha', h2⟩ := h1
    have hlt := List.mem_range.1 ha'
    rw [Hs.alR, List.any_eq_true] at h2
    obtain ⟨b, hb, h3⟩ := h2
    have hb := List.mem_range.1 hb
    simp only [decide_eq_true_eq] at h3
    rw [clash_val ha hb hlt, verdict_one] at h3
    refine ⟨a, List.mem_range.2 hlt, ?_⟩
    have : ((List.range a).all fun k => !h.clashB e a k) = false := by
      rw [List.all_eq_false]
      exact ⟨b, List.mem_range.2 hb, by simp [h3 e he]⟩
    simp [Hs.okAt, this]
end Go.Proofs.Ytcngnfnljkkjgaa
namespace Go.Proofs.Ytcngnfnljkkjgaa
open Go.RowKit
attribute [local go_sem] cell_later frozen_later lt_later le_later

set_option maxHeartbeats 1000000 in
theorem reftrue_calls (v : Value) (h : Hs) (A : Option Addr) (c : Nat) (e : List Int) (i : Nat) (x : Cp) (w : World) (H : HsAt w v h) (HE : SlA w 1 gI A c e) (hx : h.clips[i]? = some x) (hck : 0 ≤ x.ck ∧ x.ck < e.length) (hmn : 0 ≤ x.mn ∧ x.mn ≤ 1439) (he : ErrOk e) :
    Calls Try.prog 73 #[v, .slice A e.length c, .int .i64 i] w (Ret (.int .i64 (tru e x)) w) := by
  obtain ⟨A2, c2, A3, c3, A4, c4, rfl, H2, H3, H4⟩ := H
  have hlt : i < h.clips.length := (List.getElem?_eq_some_iff.1 hx).1
  have hlt1 : (i : Int) < (h.clips.length : Int) := by omega
  have hi0 : (0 : Int) ≤ (i : Int) := Int.natCast_nonneg _
  obtain ⟨b, off, x', rfl, hbl, hx', s0, s1, s2⟩ := H4.atC hlt
  rw [hx] at hx'
  cases hx'
  obtain ⟨k, hk⟩ : ∃ k : Nat, x.ck = (k : Int) := ⟨x.ck.toNat, by omega⟩
  have hk1 : k < e.length := by omega
  obtain ⟨p, ofp, y, rfl, hpl, hy, t0⟩ := HE.atI hk1
  have hyv : y = e.getD k 0 := by simp [List.getD_eq_getElem?_getD, hy]
  have hyb : -30 ≤ y ∧ y ≤ 30 := by rw [hyv]; exact he k
  obtain ⟨y1, y2⟩ := hyb
  have hR := Lib.hid (show tru e x = x.mn - y by rw [tru, err, hk, hyv]; rfl)
  obtain ⟨m1, m2⟩ := hmn
  rw [hk] at s1
  have hkI : (k : Int) < (e.length : Int) := by omega
  have hk0 : (0 : Int) ≤ (k : Int) := Int.natCast_nonneg _
  clear hx hck hyv hy hk
  go_enter Try.func73, Try.ntmps73
  go_wp2
  obtain ⟨W2, hW2⟩ : ∃ W2, W2 = (w.alloc (.cells #[.int .i64 h.hour, .int .i64 h.grace, .slice A2 h.clocks.length c2, .slice A3 h.tickets.length c3, .slice (some ⟨b, off, none⟩) h.clips.length c4] 26)).alloc (.cells #[.int .i64 x.tk, .int .i64 k, .int .i64 x.mn] 74) := ⟨_, rfl⟩
  have hb2 : Below w.heap.size w W2 := by rw [hW2]; exact gA (gA (Below.refl _ _))
  have hB2 : BlkAt W2 (w.heap.size + 1) 74 [.int .i64 x.tk, .int .i64 k, .int .i64 x.mn] := by
    rw [hW2]
    have := BlkAt.new (w.alloc (.cells #[.int .i64 h.hour, .int .i64 h.grace, .slice A2 h.clocks.length c2, .slice A3 h.tickets.length c3, .slice (some ⟨b, off, none⟩) h.clips.length c4] 26)) 74 [.int .i64 x.tk, .int .i64 k, .int .i64 x.mn]
    rw [World.size_alloc] at this
    exact this
  rw [← hW2]
  clear hW2
  have r1 := hB2.cell 1
  have r2 := hB2.cell 2
  simp only [List.getElem?_cons_zero, List.getElem?_cons_succ] at r1 r2
  have hrl := hB2.lt
  have t0 := (hb2.cell (p := ⟨p, ofp + k, none⟩) hpl).trans t0
  have hpl := Nat.lt_of_lt_of_le hpl hb2.size
  refine region_later (by kernel_rfl) (by kernel_rfl) ?_
  repeat (go_big_quiet_step (fail))
  refine wpQuiet_nil ?_
  rintro W' ⟨u, rfl⟩
  go_wp2
  go_ret
  exact ret_mk (ret_int hR.out.symm) (later_below hb2 hb2.size)

/-- Bit i of a number; the true minute of clip i; that two clips of a set do not fall. -/
def bitI (B : Int) (i : Nat) : Bool := (B / 2 ^ i).tmod 2 == 1
def Hs.trI (h : Hs) (e : List Int) (i : Nat) : Int := match h.clips[i]? with
  | some c => tru e c
  | none => 0
def Hs.pairOk (h : Hs) (e : List Int) (B : Int) (i k : Nat) : Bool := !(bitI B i && (bitI B k && decide (h.trI e i < h.trI e k)))
def Hs.rowOk (h : Hs) (e : List Int) (B : Int) (i : Nat) : Bool := (List.range i).all (h.pairOk e B i)
def Hs.risR (h : Hs) (e : List Int) (B : Int) : Bool := (List.range h.clips.length).all (h.rowOk e B)
theorem all_succ {p : Nat → Bool} {k : Nat} (h : (List.range k).all p = true) (hk : p k = true) : (List.range (k + 1)).all p = true := by
  rw [List.range_succ, List.all_append, h]
  simp [hk]

set_option maxHeartbeats 2000000 in
theorem refrising_calls (v : Value) (h : Hs) (A : Option Addr) (c : Nat) (e : List Int) (B : Int) (w : World) (H : HsAt w v h) (HE : SlA w 1 gI A c e) (hl : e.length = h.clocks.length) (he : ErrOk e) (hf : h.fault = 0) (hBd : 0 ≤ B ∧ B ≤ 4096) :
    Calls Try.prog 106 #[v, .slice A e.length c, .int .i64 B] w (Ret (.bool (h.risR e B)) w) := by
  have H0 := H
  obtain ⟨A2, c2, A3, c3, A4, c4, rfl, H2, H3, H4⟩ := H
  obtain ⟨W1, hW1⟩ : ∃ W1, W1 = w.alloc (.cells #[.int .i64 h.hour, .int .i64 h.grace, .slice A2 h.clocks.length c2, .slice A3 h.tickets.length c3, .slice A4 h.clips.length c4] 26) := ⟨_, rfl⟩
  have hb1 : Below w.heap.size w W1 := by rw [hW1]; exact gA (Below.refl _ _)
  have hB : BlkAt W1 w.heap.size 26 [.int .i64 h.hour, .int .i64 h.grace, .slice A2 h.clocks.length c2, .slice A3 h.tickets.length c3, .slice A4 h.clips.length c4] := by rw [hW1]; exact BlkAt.new _ _ _
  have H1 := H0.below hb1
  have q0 := hB.cell 0
  have q1 := hB.cell 1
  have q2 := hB.cell 2
  have q3 := hB.cell 3
  have q4 := hB.cell 4
  simp only [List.getElem?_cons_zero, List.getElem?_cons_succ] at q0 q1 q2 q3 q4
  have hBl := hB.lt
  have hp : h.clips.length ≤ 10 := (small_iff.1 (fault_zero hf).1).2.2
  have hpI : (h.clips.length : Int) ≤ 10 := by omega
  have hcl : ∀ (i : Nat) (x : Cp), h.clips[i]? = some x → (0 ≤ x.ck ∧ x.ck < e.length) ∧ (0 ≤ x.mn ∧ x.mn ≤ 1439) := fun i x hx => by
    have := fault_clips hf (List.mem_of_getElem? hx)
    rw [hl]
    omega
  have HCL := Lib.hid hcl
  have HL := Lib.hid hl
  have HEE := HE.below hb1
  obtain ⟨hB1, hB2⟩ := hBd
  clear hcl hl
  go_enter Try.func106, Try.ntmps106
  go_wp2
  rw [← hW1]
  clear hW1
  go_loopw [7] (fun i wr => ∃ k : Nat, k ≤ h.clips.length ∧ i = .int .i64 k ∧ (List.range k).all (h.rowOk e B) = true ∧ Below W1.heap.size W1 wr) (fun i _ => h.clips.length - (intOf i).toNat)
  case atStart => exact ⟨0, Nat.zero_le _, rfl, rfl, Below.refl _ _⟩
  case round =>
    obtain ⟨i, hk, rfl, hall, hb⟩ := hrel
    have HA := Lib.hid hall
    clear hall
    have p4 := (hb.cell (p := ⟨w.heap.size, 4, none⟩) hBl).trans q4
    have hBr : w.heap.size < wr.heap.size := Nat.lt_of_lt_of_le hBl hb.size
    by_cases hlt : i < h.clips.length
    · have hlt1 : (i : Int) < (h.clips.length : Int) := by omega
      have hi0 : (0 : Int) ≤ (i : Int) := Int.natCast_nonneg _
      go_wp2
      go_loopw [8] (fun j wr => ∃ k : Nat, k ≤ i ∧ j = .int .i64 k ∧ (List.range k).all (h.pairOk e B i) = true ∧ Below W1.heap.size W1 wr) (fun j _ => i - (intOf j).toNat)
      case atStart => exact ⟨0, Nat.zero_le _, rfl, rfl, hb⟩
      case round =>
        obtain ⟨k, hk2, rfl, hall, hb⟩ := hrel
        have HK := Lib.hid hall
        clear hall
        by_cases hlk : k < i
        · have hlk1 : (k : Int) < (i : Int) := by omega
          have hk0 : (0 : Int) ≤ (k : Int) := Int.natCast_nonneg _
          have hBr : w.heap.size < wr.heap.size := Nat.lt_of_lt_of_le hBl hb.size
          cases hbi : ((B / 2 ^ i).tmod 2 == 1) with
          | false =>
            have HN := Lib.hid (all_succ HK.out (show h.pairOk e B i k = true by simp only [Hs.pairOk, bitI, hbi, Bool.false_and, Bool.not_false]))
            go_wp2
            refine region_later (by kernel_rfl) (by kernel_rfl) ?_
            repeat (go_big_quiet_step (fail))
            refine wpQuiet_nil ?_
            rintro W' ⟨u, rfl⟩
            go_wp2
            go_roundw
            case rel => exact ⟨k + 1, by omega, by go_num, HN.out, later_below hb hb.size⟩
            case measure => simp [intOf]; omega
          | true =>
            cases hbk : ((B / 2 ^ k).tmod 2 == 1) with
            | false =>
              have HN := Lib.hid (all_succ HK.out (show h.pairOk e B i k = true by simp only [Hs.pairOk, bitI, hbk, Bool.false_and, Bool.and_false, Bool.not_false]))
              go_wp2
              refine region_later (by kernel_rfl) (by kernel_rfl) ?_
              repeat (go_big_quiet_step (fail))
              refine wpQuiet_nil ?_
              rintro W' ⟨u, rfl⟩
              go_wp2
              go_roundw
              case rel => exact ⟨k + 1, by omega, by go_num, HN.out, later_below hb hb.size⟩
              case measure => simp [intOf]; omega
            | true =>
              have p0 := (hb.cell (p := ⟨w.heap.size, 0, none⟩) hBl).trans q0
              have p1 := (hb.cell (p := ⟨w.heap.size, 1, none⟩) hBl).trans q1
              have p2 := (hb.cell (p := ⟨w.heap.size, 2, none⟩) hBl).trans q2
              have p3 := (hb.cell (p := ⟨w.heap.size, 3, none⟩) hBl).trans q3
              have p4 := (hb.cell (p := ⟨w.heap.size, 4, none⟩) hBl).trans q4
              obtain ⟨xi, hxi⟩ : ∃ x, h.clips[i]? = some x := ⟨h.clips[i], List.getElem?_eq_getElem hlt⟩
              obtain ⟨xk, hxk⟩ : ∃ x, h.clips[k]? = some x := ⟨h.clips[k], List.getElem?_eq_getElem (by omega)⟩
              have hti : h.trI e i = tru e xi := by simp [Hs.trI, hxi]
              have htk : h.trI e k = tru e xk := by simp [Hs.trI, hxk]
              have Ci := Lib.hid (fun x => reftrue_calls _ h A c e i xi (later wr x) (H1.below (hb.trans ((below_later wr x).mono hb.size))) (HEE.below (hb.trans ((below_later wr x).mono hb.size))) hxi (HCL.out i xi hxi).1 (HCL.out i xi hxi).2 he)
              have Ck := Lib.hid (fun x => reftrue_calls _ h A c e k xk (later wr x) (H1.below (hb.trans ((below_later wr x).mono hb.size))) (HEE.below (hb.trans ((below_later wr x).mono hb.size))) hxk (HCL.out k xk hxk).1 (HCL.out k xk hxk).2 he)
              by_cases hlt3 : tru e xi < tru e xk
              · have hR := Lib.hid (show h.risR e B = false by
                  rw [Hs.risR, List.all_eq_false]
                  refine ⟨i, List.mem_range.2 hlt, ?_⟩
                  rw [Bool.not_eq_true, Hs.rowOk, List.all_eq_false]
                  refine ⟨k, List.mem_range.2 hlk, ?_⟩
                  simp only [Hs.pairOk, bitI, hbi, hbk, hti, htk, hlt3, decide_true, Bool.and_self, Bool.not_true, Bool.false_eq_true, not_false_eq_true])
                clear hxi hxk hti htk
                go_wp2
                refine region_later (by kernel_rfl) (by kernel_rfl) ?_
                repeat (go_big_quiet_step (first | with_reducible exact quiet_ret (Ci.out _) | with_reducible exact quiet_ret (Ck.out _)))
                refine wpQuiet_nil ?_
                rintro W' ⟨u, rfl⟩
                go_wp2
                go_ret
                exact ret_mk (ret_bool hR.out.symm) (hb1.trans (Below.mono (later_below hb hb.size) hb1.size))
              · have HN := Lib.hid (all_succ HK.out (show h.pairOk e B i k = true by simp only [Hs.pairOk, hti, htk, hlt3, decide_false, Bool.and_false, Bool.not_false]))
                clear hxi hxk hti htk
                go_wp2
                refine region_later (by kernel_rfl) (by kernel_rfl) ?_
                repeat (go_big_quiet_step (first | with_reducible exact quiet_ret (Ci.out _) | with_reducible exact quiet_ret (Ck.out _)))
                refine wpQuiet_nil ?_
                rintro W' ⟨u, rfl⟩
                go_wp2
                go_roundw
                case rel => exact ⟨k + 1, by omega, by go_num, HN.out, later_below hb hb.size⟩
                case measure => simp [intOf]; omega
        · obtain rfl : k = i := by omega
          have HN := Lib.hid (all_succ HA.out (show h.rowOk e B k = true from HK.out))
          go_wp2
          go_roundw
          case rel => exact ⟨k + 1, by omega, by go_num, HN.out, hb⟩
          case measure => simp [intOf]; omega
    · obtain rfl : i = h.clips.length := by omega
      have hR := Lib.hid (show h.risR e B = true from HA.out)
      go_wp2
      go_ret
      exact ret_mk (ret_bool hR.out.symm) (hb1.trans (hb.mono hb1.size))

theorem reffull_calls (v : Value) (h : Hs) (w : World) (H : HsAt w v h) (hf : h.fault = 0) :
    Calls Try.prog 63 #[v] w (Ret (.int .i64 (2 ^ h.clips.length - 1)) w) := by
  obtain ⟨A2, c2, A3, c3, A4, c4, rfl, H2, H3, H4⟩ := H
  have hp : h.clips.length ≤ 10 := (small_iff.1 (fault_zero hf).1).2.2
  have hpI : (h.clips.length : Int) ≤ 10 := by omega
  obtain ⟨n, hn⟩ : ∃ n, n = h.clips.length := ⟨_, rfl⟩
  rw [← hn] at hp hpI ⊢
  have hpow : (1 : Int) ≤ 2 ^ n ∧ (2 : Int) ^ n ≤ 1024 := by
    clear hn hpI
    revert n
    decide
  obtain ⟨h1, h2⟩ := hpow
  clear hn
  go_enter Try.func63, Try.ntmps63
  go_wp2
  go_ret
  exact ret_mk rfl (by repeat (first | exact Below.refl _ _ | (with_reducible assumption) | apply gL | apply gA | apply gD | apply gN | (refine gS ?_ (by first | (simp; done) | (simp; omega) | omega))))
end Go.Proofs.Ytcngnfnljkkjgaa
namespace Go.Proofs.Ytcngnfnljkkjgaa
open Go.RowKit
attribute [local go_sem] cell_later frozen_later lt_later le_later

/-- The errors with a number, the first clock's fastest; what is left of the number. -/
def nthE : List Rg → Int → List Int
  | [], _ => []
  | r :: l, n => (r.lo + n % r.size) :: nthE l (n / r.size)
def nthM : List Rg → Int → Int
  | [], n => n
  | r :: l, n => nthM l (n / r.size)
theorem nthE_snoc : ∀ (l : List Rg) (r : Rg) (n : Int), nthE (l ++ [r]) n = nthE l n ++ [r.lo + nthM l n % r.size]
  | [], r, n => rfl
  | x :: l, r, n => by simp [nthE, nthM, nthE_snoc l r]
theorem nthM_snoc : ∀ (l : List Rg) (r : Rg) (n : Int), nthM (l ++ [r]) n = nthM l n / r.size
  | [], r, n => rfl
  | x :: l, r, n => by simp [nthM, nthM_snoc l r]
theorem nthE_length : ∀ (l : List Rg) (n : Int), (nthE l n).length = l.length
  | [], n => rfl
  | x :: l, n => by simp [nthE, nthE_length l]
theorem tdiv_bd {n s : Int} (h0 : 0 ≤ n) (h1 : n ≤ 3000) (hs : 1 ≤ s) : 0 ≤ n / s ∧ n / s ≤ 3000 := by
  refine ⟨Int.ediv_nonneg h0 (by omega), ?_⟩
  have := Int.ediv_le_self (b := s) h0
  omega
theorem nthM_bd : ∀ (l : List Rg), (∀ r ∈ l, r.offB = true) → ∀ n, 0 ≤ n → n ≤ 3000 → 0 ≤ nthM l n ∧ nthM l n ≤ 3000
  | [], _, n, h0, h1 => ⟨h0, h1⟩
  | r :: l, h, n, h0, h1 => by
    obtain ⟨-, -, -, hs, -⟩ := off_parts (h r (by simp))
    have := tdiv_bd h0 h1 hs
    exact nthM_bd l (fun x hx => h x (by simp [hx])) _ this.1 this.2
theorem tmod_bd {n s : Int} (hs : 1 ≤ s) : 0 ≤ n % s ∧ n % s < s := by
  exact ⟨Int.emod_nonneg n (by omega), Int.emod_lt_of_pos n (by omega)⟩

/-- What a call leaves that hands back a list in memory of its own. -/
def RetSlF (l : List Int) (w : World) (e : Ending) (w' : World) : Prop :=
  ∃ A c, e = .returned (.slice A l.length c) ∧ (∃ x, w' = later w x) ∧ SlA w' 1 gI A c l ∧ (∀ a, A = some a → w.heap.size ≤ a.block) ∧ (A = none → c = 0)
theorem RetSlF.up {l : List Int} {w x w' : World} {e : Ending} (h : RetSlF l (later w x) e w') : RetSlF l w e w' := by
  obtain ⟨A, c, he, ⟨y, rfl⟩, hs, ha, hz⟩ := h
  exact ⟨A, c, he, later_ex (later_below (below_later w x) (size_later w x)), hs, fun a h => Nat.le_trans (size_later w x) (ha a h), hz⟩
theorem SlA.of_ownF {w : World} {base : Nat} {v : Value} {n : Nat} {l : List Int} (h : w.ownsRow base 3 1 v n (l.flatMap gI)) (hn : l.length = n) (hb : n ≤ 140737488355328) :
    ∃ A c, v = .slice A l.length c ∧ SlA w 1 gI A c l ∧ (∀ a, A = some a → base ≤ a.block) ∧ (A = none → c = 0) := by
  obtain ⟨A, c, hv, hs⟩ := SlA.of_own (k := 1) (g := gI) (l := l) h (fun _ _ => rfl) hn hb
  rcases h.2 with ⟨e, h0⟩ | ⟨b, cap, cur, e, hbb, -⟩
  · rw [hv] at e
    simp only [Value.slice.injEq] at e
    obtain ⟨rfl, -, rfl⟩ := e
    exact ⟨_, _, hv, hs, fun a ha => (by cases ha), fun _ => rfl⟩
  · rw [hv] at e
    simp only [Value.slice.injEq] at e
    obtain ⟨rfl, -, rfl⟩ := e
    exact ⟨_, _, hv, hs, fun a ha => (by cases ha; exact hbb), fun hh => (by cases hh)⟩

set_option maxHeartbeats 2000000 in
theorem refnth_calls (v : Value) (h : Hs) (n0 : Int) (w : World) (H : HsAt w v h) (hf : h.fault = 0) (hn0 : 0 ≤ n0) (hn1 : n0 ≤ 3000) :
    Calls Try.prog 105 #[v, .int .i64 n0] w (RetSlF (nthE h.clocks n0) w) := by
  have H0 := H
  obtain ⟨A2, c2, A3, c3, A4, c4, rfl, H2, H3, H4⟩ := H
  obtain ⟨i0, hi, hz0, hz1, hz2⟩ := info_parts infoInt
  obtain ⟨W1, hW1⟩ : ∃ W1, W1 = w.alloc (.cells #[.int .i64 h.hour, .int .i64 h.grace, .slice A2 h.clocks.length c2, .slice A3 h.tickets.length c3, .slice A4 h.clips.length c4] 26) := ⟨_, rfl⟩
  have hb1 : Below w.heap.size w W1 := by rw [hW1]; exact gA (Below.refl _ _)
  have hB : BlkAt W1 w.heap.size 26 [.int .i64 h.hour, .int .i64 h.grace, .slice A2 h.clocks.length c2, .slice A3 h.tickets.length c3, .slice A4 h.clips.length c4] := by rw [hW1]; exact BlkAt.new _ _ _
  have H1 := H0.below hb1
  have q0 := hB.cell 0
  have q1 := hB.cell 1
  have q2 := hB.cell 2
  have q3 := hB.cell 3
  have q4 := hB.cell 4
  simp only [List.getElem?_cons_zero, List.getElem?_cons_succ] at q0 q1 q2 q3 q4
  have hBl := hB.lt
  have hc4 : h.clocks.length ≤ 4 := (small_iff.1 (fault_zero hf).1).1
  have hoff : ∀ r ∈ h.clocks, r.offB = true := fun r hr => by
    have := fault_clock hf hr
    simp [Rg.offB]
    omega
  have HOF := Lib.hid hoff
  have H2' := H2.below hb1
  clear hoff
  go_enter Try.func105, Try.ntmps105
  go_wp2
  rw [← hW1]
  clear hW1
  go_loopw [1, 5, 6] (fun n v i wr => ∃ k : Nat, k ≤ h.clocks.length ∧ i = .int .i64 k ∧ n = .int .i64 (nthM (h.clocks.take k) n0) ∧ Below W1.heap.size W1 wr ∧ wr.ownsRow W1.heap.size 3 1 v k ((nthE (h.clocks.take k) n0).flatMap gI)) (fun _ _ i _ => h.clocks.length - (intOf i).toNat)
  case atStart => exact ⟨0, Nat.zero_le _, rfl, rfl, Below.refl _ _, World.ownsRow_nil _ _ _ _⟩
  case round =>
    obtain ⟨k, hk, rfl, rfl, hb, hown⟩ := hrel
    have HOWN := Lib.hid hown
    clear hown
    have p2 := (hb.cell (p := ⟨w.heap.size, 2, none⟩) hBl).trans q2
    have hBr : w.heap.size < wr.heap.size := Nat.lt_of_lt_of_le hBl hb.size
    by_cases hlt : k < h.clocks.length
    · have hlt1 : (k : Int) < (h.clocks.length : Int) := by omega
      have hk0 : (0 : Int) ≤ (k : Int) := Int.natCast_nonneg _
      obtain ⟨b, off, x, rfl, hbl, hx, s0, s1⟩ := (H2'.below hb).atR hlt
      obtain ⟨x1, x2, x3, x4, x5⟩ := off_parts (HOF.out x (List.mem_of_getElem? hx))
      obtain ⟨y1, y2⟩ := nthM_bd (h.clocks.take k) (fun r hr => HOF.out r (List.mem_of_mem_take hr)) n0 hn0 hn1
      have hT : h.clocks.take (k + 1) = h.clocks.take k ++ [x] := by rw [List.take_add_one, hx]; rfl
      have hE := nthE_snoc (h.clocks.take k) x n0
      have hM := nthM_snoc (h.clocks.take k) x n0
      rw [← hT] at hE hM
      obtain ⟨N, hN⟩ : ∃ N, N = nthM (h.clocks.take k) n0 := ⟨_, rfl⟩
      rw [← hN] at y1 y2 hE hM ⊢
      obtain ⟨m1, m2⟩ := tmod_bd (n := N) x4
      obtain ⟨d1, d2⟩ := tdiv_bd y1 y2 x4
      have HE := Lib.hid hE
      have HM := Lib.hid hM
      clear hT hE hM hN hx
      go_wp2
      obtain ⟨W2, hW2⟩ : ∃ W2, W2 = wr.alloc (.cells #[.int .i64 x.lo, .int .i64 x.hi] 44) := ⟨_, rfl⟩
      have hb2 : Below wr.heap.size wr W2 := by rw [hW2]; exact gA (Below.refl _ _)
      have hBx : BlkAt W2 wr.heap.size 44 [.int .i64 x.lo, .int .i64 x.hi] := by rw [hW2]; exact BlkAt.new _ _ _
      obtain ⟨bx, hbx⟩ : ∃ b, b = wr.heap.size := ⟨_, rfl⟩
      rw [← hW2]
      rw [← hbx] at hBx ⊢
      have HBX := Lib.hid hbx
      clear hW2 hbx
      have r0 := hBx.cell 0
      have r1 := hBx.cell 1
      simp only [List.getElem?_cons_zero, List.getElem?_cons_succ] at r0 r1
      have hbxl := hBx.lt
      obtain ⟨C, hC⟩ : ∃ C, C = Same [⟨bx, 0, none⟩, ⟨bx, 1, none⟩] W2 := ⟨_, rfl⟩
      obtain ⟨G, hG⟩ : ∃ G, G = held C W2.drew := ⟨_, rfl⟩
      have hfs : ∀ a ∈ ([⟨bx, 0, none⟩, ⟨bx, 1, none⟩] : List Addr), ∀ u, W2.cell? a = some u → ∀ x, (G x).cell? a = some u := fun a ha u hu x => by
        rw [hG, hC]
        exact same_held hu ha x
      have f0 := hfs _ (by simp) _ r0
      have f1 := hfs _ (by simp) _ r1
      clear hfs
      refine region_sk C [[], [], [1], [], [], [4], [3, 5], [2, 6], [7], [0, 8, 5], [], [], [11, 9], [10, 12], [9, 12, 0, 1, 2, 3, 4, 5, 6, 7, 8, 9], [13, 14, 0, 1, 2, 3, 4, 5, 6, 7, 8, 9, 10, 11, 12, 13, 14]] (.qs [0, 1, 2, 3, 4, 10, 11] (.one 5 (.qs [6, 7] (.one 8 (.one 9 (.one 12 (.qs [13, 14] .done))))))) 15 (by kernel_rfl) (by kernel_rfl) (by kernel_rfl) (by rw [hC]; exact same_drew) ?_
      refine wpSk_qs (w0 := W2.drew) (by rw [hC]; exact same_drew) ?_
      rw [← hG]
      have HC' := Lib.hid hC
      have HG := Lib.hid hG
      clear hG hC
      simp only [List.filterMap_cons, List.filterMap_nil, List.getElem?_toArray, List.getElem?_cons_zero, List.getElem?_cons_succ]
      change wpQuiet _ _ _ _ [_, _, _, _, _, _, _] _
      repeat (go_big_quiet_step (fail))
      refine wpQuiet_nil ?_
      clear f0 f1
      have hCb : ∀ V, Below W2.heap.size W2 V → C V := fun V hV => by
        rw [HC'.out]
        exact same_below hV (by simp only [List.mem_cons, List.not_mem_nil, or_false]; rintro a (rfl | rfl) <;> assumption)
      have HCB := Lib.hid hCb
      clear hCb
      refine wpSk_one rfl (fun K hK => ?_)
      go_simp
      refine (refsize_calls x _ ⟨by omega, by omega, by omega, by omega⟩).mono ?_
      rintro e w' ⟨rfl, z, rfl⟩
      obtain ⟨V, hV, hbV⟩ : ∃ V, V = later W2.drew z ∧ Below W2.heap.size W2 V := ⟨_, rfl, Below.trans (gD (Below.refl _ _)) (below_later W2.drew z)⟩
      rw [← hV]
      clear hV
      refine hK.out _ _ (HCB.out _ hbV) ?_
      clear hK K
      refine wpSk_qs (w0 := W2.drew) (HCB.out _ (gD (Below.refl _ _))) ?_
      rw [← HG.out]
      simp only [List.filterMap_cons, List.filterMap_nil, List.getElem?_toArray, List.getElem?_cons_zero, List.getElem?_cons_succ]
      change wpQuiet _ _ _ _ [_, _] _
      repeat (go_big_quiet_step (fail))
      refine wpQuiet_nil ?_
      obtain ⟨y, hy⟩ : ∃ y, y = x.lo + N % x.size := ⟨_, rfl⟩
      rw [← hy] at HE ⊢
      have HY := Lib.hid hy
      clear hy
      refine wpSk_one rfl (fun K hK => ?_)
      go_simp
      have hbV2 : Below W2.heap.size W2 (V.alloc (.cells #[.int .i64 y] 3)) := gA hbV
      have hn2 := news_new V _ rfl (gI y) 3
      obtain ⟨bv, hbv⟩ : ∃ b, b = V.heap.size := ⟨_, rfl⟩
      rw [← hbv] at hn2 ⊢
      obtain ⟨V2, hV2, hbV2⟩ : ∃ V2, V2 = V.alloc (.cells #[.int .i64 y] 3) ∧ Below W2.heap.size W2 V2 := ⟨_, rfl, hbV2⟩
      have hn3 : ∀ (j : Nat) (u : Value), (gI y)[j]? = some u → V2.cell? ((⟨bv, 0, none⟩ : Addr).add j) = some u := by rw [hV2]; exact hn2
      rw [← hV2]
      clear hV2 hbv hn2
      refine hK.out _ _ (HCB.out _ hbV2) ?_
      clear hK K
      refine wpSk_one rfl (fun K hK => ?_)
      rw [if_pos (by rfl)]
      have hown2 : V2.ownsRow W1.heap.size 3 1 u5 k ((nthE (h.clocks.take k) n0).flatMap gI) := own_below (own_below HOWN.out hb2) hbV2
      have hbz := hb2.size
      refine wp_append_own _ _ 47 rfl W1.heap.size 3 i0 (.int .i64 0) 1 8 Try.underlying47 hi hz0 hz1 hz2 rfl (by decide) _ _ _ rfl hown2 ⟨bv, 0, none⟩ 1 1 (gI y) rfl rfl hn3 ?c2 ?c3 ?c4 ?c5 ?_
      case c2 => simp [gI, Value.oneCell']
      case c3 => unfold maxLen; omega
      case c4 => omega
      case c5 => have := hb.size; have := hbV2.size; omega
      intro v' w1 hown1 hg1 _
      have hb9 : Below W1.heap.size W1 w1 := grown_below (w := W1) ((hb.trans (hb2.mono hb.size)).trans (hbV2.mono (Nat.le_trans hb.size hbz))) hown2 (Nat.le_refl _) hg1
      have hne : ∀ j, u5.ownBlock = some j → j < bx := fun j hj => by have := (HOWN.out.lt j hj).2; rw [HBX.out]; exact this
      have hX9 : BlkAt w1 bx 44 [.int .i64 x.lo, .int .i64 x.hi] := (hg1.block bx (Nat.lt_of_lt_of_le hbxl hbV2.size) (fun e => by have := hne bx e.symm; omega)).trans (hBx.of_below hbV2 hbxl)
      have hC9 : ∀ V, Below w1.heap.size w1 V → C V := fun V hV => by
        rw [HC'.out]
        intro a ha
        simp only [List.mem_cons, List.not_mem_nil, or_false] at ha
        have a0 := (hX9.of_below hV hX9.lt).cell 0
        have a1 := (hX9.of_below hV hX9.lt).cell 1
        simp only [List.getElem?_cons_zero, List.getElem?_cons_succ] at a0 a1
        rcases ha with rfl | rfl
        · rw [a0, r0]
        · rw [a1, r1]
      have HC9 := Lib.hid hC9
      have HN := Lib.hid hown1
      clear hown1 hg1 hne hown2 hn3 hC9
      simp only [Act.put, List.setIfInBounds_toArray]
      refine hK.out _ _ (HC9.out _ (Below.refl _ _)) ?_
      clear hK K
      refine wpSk_one rfl (fun K hK => ?_)
      go_simp
      refine (refsize_calls x _ ⟨by omega, by omega, by omega, by omega⟩).mono ?_
      rintro e w' ⟨rfl, z2, rfl⟩
      refine hK.out _ _ (HC9.out _ (below_later _ _)) ?_
      clear hK K
      refine wpSk_qs (w0 := W2.drew) (HCB.out _ (gD (Below.refl _ _))) ?_
      rw [← HG.out]
      simp only [List.filterMap_cons, List.filterMap_nil, List.getElem?_toArray, List.getElem?_cons_zero, List.getElem?_cons_succ]
      change wpQuiet _ _ _ _ [_, _] _
      repeat (go_big_quiet_step (fail))
      refine wpQuiet_nil ?_
      refine wpSk_done rfl (fun K hK => ?_)
      go_simp
      refine hK.out _ _ (noPanic_mk ?_)
      clear hK K
      go_wp2
      go_roundw
      case rel => exact ⟨k + 1, by omega, by go_num, by rw [HM.out], later_below hb9 hb9.size, by rw [HE.out, List.flatMap_append]; exact own_later (by simpa using HN.out)⟩
      case measure => simp [intOf]; omega
    · obtain rfl : k = h.clocks.length := by omega
      obtain ⟨A, c, rfl, hs, hsa, hsz⟩ := SlA.of_ownF (l := nthE h.clocks n0) (by have := HOWN.out; rwa [List.take_length] at this) (nthE_length _ _) (by omega)
      have HSA := Lib.hid hsa
      have HSZ := Lib.hid hsz
      clear hsa hsz
      go_wp2
      go_ret
      exact ⟨A, c, by rw [nthE_length]; rfl, later_ex (hb1.trans (hb.mono hb1.size)), hs, fun a ha => Nat.le_trans hb1.size (HSA.out a ha), HSZ.out⟩
end Go.Proofs.Ytcngnfnljkkjgaa
namespace Go.Proofs.Ytcngnfnljkkjgaa
open Go.RowKit
attribute [local go_sem] cell_later frozen_later lt_later le_later

/-- The truths, in the reference's order. -/
def Hs.fullB (h : Hs) : Int := 2 ^ h.clips.length - 1
def Hs.truUp (h : Hs) (k : Nat) : List (List Int) := ((List.range k).map fun (i : Nat) => nthE h.clocks (i : Int)).filter fun e => h.risR e h.fullB
def Hs.truR (h : Hs) : List (List Int) := h.truUp (manyR h.clocks).toNat
theorem truUp_step (h : Hs) (k : Nat) : h.truUp (k + 1) = h.truUp k ++ (if h.risR (nthE h.clocks (k : Int)) h.fullB = true then [nthE h.clocks (k : Int)] else []) := by
  unfold Hs.truUp
  rw [List.range_succ, List.map_append, List.filter_append]
  congr 1
  simp only [List.map_cons, List.map_nil, List.filter_cons, List.filter_nil]
theorem truUp_length (h : Hs) (k : Nat) : (h.truUp k).length ≤ k := by
  unfold Hs.truUp
  exact Nat.le_trans (List.length_filter_le _ _) (by simp)

/-- A list of lists in memory. -/
def LsAt (w : World) (A : Option Addr) (c : Nat) (l : List (List Int)) : Prop :=
  l.length ≤ c ∧ l.length ≤ 140737488355328 ∧ (l ≠ [] → ∃ b off, A = some ⟨b, off, none⟩ ∧ b < w.heap.size ∧ ∀ (i : Nat) (e : List Int), l[i]? = some e → ∃ B d, w.cell? ⟨b, off + i, none⟩ = some (.slice B e.length d) ∧ SlA w 1 gI B d e ∧ (B = none → d = 0))
theorem LsAt.below {w w' : World} {A : Option Addr} {c : Nat} {l : List (List Int)} (h : LsAt w A c l) (hb : Below w.heap.size w w') : LsAt w' A c l :=
  ⟨h.1, h.2.1, fun hn => by
    obtain ⟨b, off, e, hlt, hc⟩ := h.2.2 hn
    refine ⟨b, off, e, Nat.lt_of_lt_of_le hlt hb.size, fun i e he => ?_⟩
    obtain ⟨B, d, h1, h2, h3⟩ := hc i e he
    exact ⟨B, d, (hb.cell (p := ⟨b, off + i, none⟩) hlt).trans h1, h2.below hb, h3⟩⟩
theorem LsAt.at {w : World} {A : Option Addr} {c : Nat} {l : List (List Int)} (h : LsAt w A c l) {i : Nat} (hi : i < l.length) : ∃ b off e B d, A = some ⟨b, off, none⟩ ∧ b < w.heap.size ∧ l[i]? = some e ∧ w.cell? ⟨b, off + i, none⟩ = some (.slice B e.length d) ∧ SlA w 1 gI B d e ∧ (B = none → d = 0) := by
  obtain ⟨b, off, e, hlt, hc⟩ := h.2.2 (by intro e; simp [e] at hi)
  obtain ⟨B, d, h1, h2, h3⟩ := hc i _ (List.getElem?_eq_getElem hi)
  exact ⟨b, off, _, B, d, e, hlt, List.getElem?_eq_getElem hi, h1, h2, h3⟩
/-- What a call leaves that hands back a list of lists. -/
def RetLs (l : List (List Int)) (w : World) (e : Ending) (w' : World) : Prop := ∃ A c, e = .returned (.slice A l.length c) ∧ (∃ x, w' = later w x) ∧ LsAt w' A c l
theorem RetLs.up {l : List (List Int)} {w x w' : World} {e : Ending} (h : RetLs l (later w x) e w') : RetLs l w e w' := by
  obtain ⟨A, c, he, ⟨y, rfl⟩, hs⟩ := h
  exact ⟨A, c, he, later_ex (later_below (below_later w x) (size_later w x)), hs⟩

/-- The elements of a row that is being made, each in memory of its own. -/
def ElAt (w : World) (v : Value) (vs : List Value) (l : List (List Int)) : Prop :=
  vs.length = l.length ∧ ∀ (i : Nat) (e : List Int), l[i]? = some e → ∃ B d, vs[i]? = some (.slice B e.length d) ∧ SlA w 1 gI B d e ∧ (B = none → d = 0) ∧ (e ≠ [] → ∀ a, B = some a → a.block < w.heap.size ∧ v.ownBlock ≠ some a.block)
theorem ElAt.nil (w : World) : ElAt w (.slice none 0 0) [] [] := ⟨rfl, fun i e h => by simp at h⟩
theorem ElAt.below {w w' : World} {v : Value} {vs : List Value} {l : List (List Int)} (h : ElAt w v vs l) (hb : Below w.heap.size w w') : ElAt w' v vs l :=
  ⟨h.1, fun i e he => by
    obtain ⟨B, d, h1, h2, h3, h4⟩ := h.2 i e he
    exact ⟨B, d, h1, h2.below hb, h3, fun hne a ha => ⟨Nat.lt_of_lt_of_le (h4 hne a ha).1 hb.size, (h4 hne a ha).2⟩⟩⟩
theorem ElAt.grown {w w' : World} {v v' : Value} {vs : List Value} {l : List (List Int)} {e : List Int} {B : Option Addr} {d : Nat} (h : ElAt w v vs l) (hg : w.grownBy w' v.ownBlock) (ho : v'.ownBlock = v.ownBlock ∨ v'.ownBlock = some w.heap.size)
    (hB : SlA w 1 gI B d e) (hz : B = none → d = 0) (hlt : e ≠ [] → ∀ a, B = some a → a.block < w.heap.size ∧ v.ownBlock ≠ some a.block) : ElAt w' v' (vs ++ [.slice B e.length d]) (l ++ [e]) := by
  have keep : ∀ (x : List Int) (X : Option Addr) (f : Nat), SlA w 1 gI X f x → (x ≠ [] → ∀ a, X = some a → a.block < w.heap.size ∧ v.ownBlock ≠ some a.block) → SlA w' 1 gI X f x ∧ (x ≠ [] → ∀ a, X = some a → a.block < w'.heap.size ∧ v'.ownBlock ≠ some a.block) := by
    intro x X f hs hx
    refine ⟨⟨hs.1, hs.2.1, fun hn => ?_⟩, fun hne a ha => ?_⟩
    · obtain ⟨b, off, e, hl, hc⟩ := hs.2.2 hn
      have hb := hx hn _ e
      refine ⟨b, off, e, Nat.lt_of_lt_of_le hl hg.size, fun i y hy j u hu => ?_⟩
      exact (World.cell?_of_block (w := w) (a := ⟨b, off + i * 1 + j, none⟩) (hg.block b hl (fun e2 => hb.2 e2.symm))).trans (hc i y hy j u hu)
    · have hb := hx hne a ha
      refine ⟨Nat.lt_of_lt_of_le hb.1 hg.size, ?_⟩
      rcases ho with ho | ho
      · rw [ho]; exact hb.2
      · rw [ho]; intro hh; have := Option.some.inj hh; omega
  refine ⟨by simp [h.1], fun i x hx => ?_⟩
  rcases Nat.lt_trichotomy i l.length with hi | hi | hi
  · rw [List.getElem?_append_left hi] at hx
    obtain ⟨X, f, h1, h2, h3, h4⟩ := h.2 i x hx
    obtain ⟨k1, k2⟩ := keep x X f h2 h4
    exact ⟨X, f, by rw [List.getElem?_append_left (by rw [h.1]; exact hi)]; exact h1, k1, h3, k2⟩
  · subst hi
    simp only [List.getElem?_append_right (Nat.le_refl _), Nat.sub_self, List.getElem?_cons_zero, Option.some.injEq] at hx
    subst hx
    obtain ⟨k1, k2⟩ := keep e B d hB hlt
    exact ⟨B, d, by rw [← h.1]; simp, k1, hz, k2⟩
  · rw [List.getElem?_eq_none (by simp; omega)] at hx
    cases hx
theorem LsAt.of_own {w : World} {base : Nat} {v : Value} {n : Nat} {vs : List Value} {l : List (List Int)} (h : w.ownsRow base 47 1 v n vs) (hv : ElAt w v vs l) (hn : l.length = n) (hb : n ≤ 140737488355328) :
    ∃ A c, v = .slice A l.length c ∧ LsAt w A c l := by
  rcases h.2 with ⟨rfl, h0⟩ | ⟨b, cap, cur, rfl, _, hh, hnc, hcap, hsz, htake⟩
  · have hl : l = [] := List.eq_nil_of_length_eq_zero (by omega)
    subst hl
    exact ⟨none, 0, rfl, Nat.le_refl _, by simp, fun hne => absurd rfl hne⟩
  · refine ⟨some ⟨b, 0, none⟩, cap, by rw [hn], by omega, by omega, fun hne => ⟨b, 0, rfl, ?_, fun i e he => ?_⟩⟩
    · rcases Nat.lt_or_ge b w.heap.size with hlt | hge
      · exact hlt
      · rw [Array.getElem?_eq_none hge] at hh; cases hh
    · obtain ⟨B, d, h1, h2, h3, -⟩ := hv.2 i e he
      refine ⟨B, d, ?_, h2, h3⟩
      have hlt : i < n * 1 := by
        have := (List.getElem?_eq_some_iff.1 he).1
        omega
      rw [← htake, List.getElem?_take_of_lt hlt] at h1
      unfold World.cell?
      simp only [hh, Nat.zero_add]
      simpa using h1
theorem infoSint : (Try.prog.info? 47).map (fun i => (i.zero, i.size, i.bytes)) = some (some (.slice none 0 0), 1, 24) := by kernel_rfl
theorem manyR_eq {h : Hs} (hf : h.fault = 0) : manyR h.clocks = manyTo h.clocks ∧ 1 ≤ manyR h.clocks ∧ manyR h.clocks ≤ 2000 := by
  have hoff : ∀ r ∈ h.clocks, r.offB = true := fun r hr => by
    have := fault_clock hf hr
    simp [Rg.offB]
    omega
  obtain ⟨h1, h2, -⟩ := many_both h.clocks hoff
  have h3 := (fault_zero hf).2.2.2
  rcases h1 with ⟨h4, h5⟩ | ⟨h4, h5⟩ <;> omega
theorem nthE_ok : ∀ (l : List Rg), (∀ r ∈ l, r.offB = true) → ∀ n, ErrOk (nthE l n)
  | [], _, n => fun i => by simp [nthE]
  | r :: l, h, n => fun i => by
    obtain ⟨h1, h2, h3, h4, h5⟩ := off_parts (h r (by simp))
    cases i with
    | zero =>
      have := tmod_bd (n := n) h4
      simp only [nthE, List.getD_cons_zero]
      unfold Rg.size at *
      omega
    | succ i =>
      simp only [nthE, List.getD_cons_succ]
      exact nthE_ok l (fun x hx => h x (by simp [hx])) _ i

theorem wpList_append_at {P : Program} (w : World) {ops : Array Oper} {rest : List Oper} {o : Oper} {a : Act} {Q : Exit → Act → World → Prop} (hgd : o.guard = none) (s x : Operand) (t : TypeId)
    (ho : o.op = .call { callee := .builtin .append, args := #[s, x], argTypes := #[t, t] })
    (base : Nat) (e : TypeId) (i : TypeInfo) (z : Value) (size bytes : Nat) (ht : P.underlying t = some (.slice e)) (hi : P.info? e = some i) (hz : i.zero = some z)
    (hsize : i.size = size) (hby : i.bytes = bytes) (hzs : z.cells.size = size) (hsz : 0 < size)
    (v : Value) (n : Nat) (xs : List Value) (hs : a.eval s = v) (hown : w.ownsRow base e size v n xs)
    (ad : Addr) (m c : Nat) (news : List Value) (hx : a.eval x = .slice (some ad) m c) (hl : news.length = m * size) (hnews : ∀ j u, news[j]? = some u → w.cell? (ad.add j) = some u) (h1 : ∀ u ∈ news, u.oneCell' = true)
    (h63 : n + m ≤ maxLen) (hbytes : (n + m) * bytes ≤ 140737488355328) (hbase : base ≤ w.heap.size)
    (h : ∀ v' w', w'.ownsRow base e size v' (n + m) (xs ++ news) → w.grownBy w' v.ownBlock → (v'.ownBlock = v.ownBlock ∨ v'.ownBlock = some w.heap.size) → wpList P ops Q rest (a.put o.dst v') w') : wpList P ops Q (o :: rest) a w :=
  wpList_plain hgd fun _ hK => wp_append_own s x t ho base e i z size bytes ht hi hz hsize hby hzs hsz v n xs hs hown ad m c news hx hl hnews h1 h63 hbytes hbase fun v' w' h2 h3 h4 => hK _ _ (h v' w' h2 h3 h4)

set_option maxHeartbeats 2000000 in
theorem reftruths_calls (v : Value) (h : Hs) (w : World) (H : HsAt w v h) (hf : h.fault = 0) :
    Calls Try.prog 54 #[v] w (RetLs h.truR w) := by
  have H0 := H
  obtain ⟨A2, c2, A3, c3, A4, c4, rfl, H2, H3, H4⟩ := H
  obtain ⟨i0, hi, hz0, hz1, hz2⟩ := info_parts infoSint
  obtain ⟨W1, hW1⟩ : ∃ W1, W1 = w.alloc (.cells #[.int .i64 h.hour, .int .i64 h.grace, .slice A2 h.clocks.length c2, .slice A3 h.tickets.length c3, .slice A4 h.clips.length c4] 26) := ⟨_, rfl⟩
  have hb1 : Below w.heap.size w W1 := by rw [hW1]; exact gA (Below.refl _ _)
  have hB : BlkAt W1 w.heap.size 26 [.int .i64 h.hour, .int .i64 h.grace, .slice A2 h.clocks.length c2, .slice A3 h.tickets.length c3, .slice A4 h.clips.length c4] := by rw [hW1]; exact BlkAt.new _ _ _
  have H1 := H0.below hb1
  have q0 := hB.cell 0
  have q1 := hB.cell 1
  have q2 := hB.cell 2
  have q3 := hB.cell 3
  have q4 := hB.cell 4
  simp only [List.getElem?_cons_zero, List.getElem?_cons_succ] at q0 q1 q2 q3 q4
  have hBl := hB.lt
  have hc4 : h.clocks.length ≤ 4 := (small_iff.1 (fault_zero hf).1).1
  have hp10 : h.clips.length ≤ 10 := (small_iff.1 (fault_zero hf).1).2.2
  have hoff : ∀ r ∈ h.clocks, r.offB = true := fun r hr => by
    have := fault_clock hf hr
    simp [Rg.offB]
    omega
  have HOF := Lib.hid hoff
  have HFF := Lib.hid hf
  clear hoff
  obtain ⟨-, hm1, hm2⟩ := manyR_eq hf
  obtain ⟨K, hM⟩ : ∃ K : Nat, (K : Int) = manyR h.clocks := ⟨(manyR h.clocks).toNat, by omega⟩
  rw [← hM] at hm1 hm2
  have hfull : (0 : Int) ≤ h.fullB ∧ h.fullB ≤ 4096 := by
    unfold Hs.fullB
    generalize h.clips.length = n at hp10
    revert n
    decide
  have hmt : K ≤ 2000 := by omega
  have HM := Lib.hid hM
  clear hM hf
  go_enter Try.func54, Try.ntmps54
  go_wp2
  rw [← hW1]
  clear hW1
  go_loopw [3, 4] (fun v i wr => ∃ (k : Nat) (vs : List Value), k ≤ K ∧ i = .int .i64 k ∧ Below W1.heap.size W1 wr ∧ wr.ownsRow W1.heap.size 47 1 v (h.truUp k).length vs ∧ ElAt wr v vs (h.truUp k)) (fun _ i _ => K - (intOf i).toNat)
  case atStart => exact ⟨0, [], Nat.zero_le _, rfl, Below.refl _ _, World.ownsRow_nil _ _ _ _, ElAt.nil _⟩
  case round =>
    obtain ⟨k, vs, hk, rfl, hb, hown, hel⟩ := hrel
    have HOWN := Lib.hid hown
    have HEL := Lib.hid hel
    clear hown hel
    have p0 := (hb.cell (p := ⟨w.heap.size, 0, none⟩) hBl).trans q0
    have p1 := (hb.cell (p := ⟨w.heap.size, 1, none⟩) hBl).trans q1
    have p2 := (hb.cell (p := ⟨w.heap.size, 2, none⟩) hBl).trans q2
    have p3 := (hb.cell (p := ⟨w.heap.size, 3, none⟩) hBl).trans q3
    have p4 := (hb.cell (p := ⟨w.heap.size, 4, none⟩) hBl).trans q4
    have hBr : w.heap.size < wr.heap.size := Nat.lt_of_lt_of_le hBl hb.size
    have hMC := refmany_calls _ h wr (H1.below hb) hc4 HOF.out
    rw [← HM.out] at hMC
    have HMC := Lib.hid hMC
    clear hMC
    by_cases hlt : k < K
    · have hlt1 : (k : Int) < (K : Int) := by omega
      have hk0 : (0 : Int) ≤ (k : Int) := Int.natCast_nonneg _
      have HST := Lib.hid (truUp_step h k)
      have htl := truUp_length h k
      go_wp2_with (fail)
      refine HMC.out.mono ?_
      (rintro e w' hr; first | ((with_reducible replace hr := Ret.up hr); obtain ⟨rfl, z, rfl⟩ := hr) | (obtain ⟨rfl, z, rfl⟩ := hr))
      go_wp2_with (fail)
      refine (refnth_calls _ h k _ (H1.below (hb.trans ((below_later wr z).mono hb.size))) HFF.out hk0 (by omega)).mono ?_
      (rintro e w' hr; obtain ⟨A, c, rfl, ⟨z2, rfl⟩, hsl, hfr, hnz⟩ := hr)
      rw [nthE_length]
      obtain ⟨W2, hW2, hb2⟩ : ∃ W2, W2 = later (later wr z) z2 ∧ Below wr.heap.size wr W2 := ⟨_, rfl, Below.trans (below_later wr z) ((below_later _ _).mono (size_later wr z))⟩
      rw [← hW2] at hsl ⊢
      have hfr2 : ∀ a, A = some a → wr.heap.size ≤ a.block := fun a ha => Nat.le_trans (size_later wr z) (hfr a ha)
      have HFR := Lib.hid hfr2
      have HNZ := Lib.hid hnz
      clear hW2 hfr hnz hfr2
      have r0 := (hb2.cell (p := ⟨w.heap.size, 0, none⟩) hBr).trans p0
      have r1 := (hb2.cell (p := ⟨w.heap.size, 1, none⟩) hBr).trans p1
      have r2 := (hb2.cell (p := ⟨w.heap.size, 2, none⟩) hBr).trans p2
      have r3 := (hb2.cell (p := ⟨w.heap.size, 3, none⟩) hBr).trans p3
      have r4 := (hb2.cell (p := ⟨w.heap.size, 4, none⟩) hBr).trans p4
      have hBr2 : w.heap.size < W2.heap.size := Nat.lt_of_lt_of_le hBr hb2.size
      clear p0 p1 p2 p3 p4
      go_wp2
      have CF := Lib.hid (fun x => (show Calls Try.prog 63 _ (later W2 x) (Ret (.int .i64 h.fullB) (later W2 x)) from reffull_calls _ h (later W2 x) (H1.below (hb.trans ((hb2.trans ((below_later W2 x).mono hb2.size)).mono hb.size))) HFF.out))
      have CR := Lib.hid (fun x => by
        have := refrising_calls _ h A c (nthE h.clocks (k : Int)) h.fullB (later W2 x) (H1.below (hb.trans ((hb2.trans ((below_later W2 x).mono hb2.size)).mono hb.size))) (hsl.below (below_later W2 x)) (nthE_length _ _) (nthE_ok _ HOF.out _) HFF.out hfull
        rw [nthE_length] at this
        exact this)
      have HSL := Lib.hid hsl
      clear hsl
      obtain ⟨ri, hri⟩ : ∃ b, b = h.risR (nthE h.clocks (k : Int)) h.fullB := ⟨_, rfl⟩
      rw [← hri] at HST CR
      clear hri
      refine region_later (by kernel_rfl) (by kernel_rfl) ?_
      repeat (go_big_quiet_step (first | with_reducible exact quiet_ret (CF.out _) | with_reducible exact quiet_ret (CR.out _)))
      refine wpQuiet_nil ?_
      rintro W' ⟨u, rfl⟩
      clear CF CR
      have hb3 : Below wr.heap.size wr (later W2 u) := later_below hb2 (Nat.le_trans hb2.size (Nat.le_refl _))
      obtain ⟨W3, hW3, hb3⟩ : ∃ W3, W3 = later W2 u ∧ Below wr.heap.size wr W3 := ⟨_, rfl, hb3⟩
      have hsl3 : SlA W3 1 gI A c (nthE h.clocks (k : Int)) := by rw [hW3]; exact HSL.out.below (below_later W2 u)
      have HSL3 := Lib.hid hsl3
      rw [← hW3]
      clear hW3 hsl3 HSL
      have hb4 : Below W1.heap.size W1 W3 := hb.trans (hb3.mono hb.size)
      cases ri with
      | false =>
        go_wp2
        go_roundw
        case rel => exact ⟨k + 1, vs, by omega, by go_num, hb4, by rw [HST.out]; simpa using own_below HOWN.out hb3, by rw [HST.out]; simpa using HEL.out.below hb3⟩
        case measure => simp [intOf]; omega
      | true =>
        have hkl := Nat.le_trans hb.size hb3.size
        go_wp2_with (at_builtin; refine wpList_append_at _ rfl _ _ 38 rfl W1.heap.size 47 i0 (.slice none 0 0) 1 24 Try.underlying38 hi hz0 hz1 hz2 rfl (by decide) _ _ _ rfl ((own_below HOWN.out hb3).alloc _) ⟨W3.heap.size, 0, none⟩ 1 1 [.slice A h.clocks.length c] rfl rfl ?c1 ?c2 ?c3 ?c4 ?c5 ?_)
        case c2 => simp [Value.oneCell']
        case c3 => unfold maxLen; omega
        case c4 => omega
        case c5 => exact Nat.le_trans hkl (by simp)
        intro v' w1 hown1 hg1 hob
        have hb9 := grown_below (w := W1) (hb4.alloc hb4.size (.cells #[.slice A h.clocks.length c] 47)) ((own_below HOWN.out hb3).alloc _) (Nat.le_refl _) hg1
        have hel := ElAt.grown (v' := v') (e := nthE h.clocks (k : Int)) (B := A) (d := c) ((HEL.out.below hb3).below (gA (o := .cells #[.slice A h.clocks.length c] 47) (Below.refl _ _))) hg1 (by rw [World.size_alloc]; exact hob) (HSL3.out.below (gA (Below.refl _ _))) HNZ.out (fun hne a ha => by
          obtain ⟨bb, off, e, hl, -⟩ := HSL3.out.2.2 hne
          rw [ha] at e
          have e := Option.some.inj e
          refine ⟨by rw [e]; simp; omega, fun hh => ?_⟩
          have h1 := (HOWN.out.lt a.block hh).2
          have h2 := HFR.out a ha
          omega)
        rw [nthE_length] at hel
        have HEL9 := Lib.hid hel
        have HN := Lib.hid hown1
        clear hown1 hg1 hob hel
        go_wp2
        go_roundw
        case rel => exact ⟨k + 1, vs ++ [.slice A h.clocks.length c], by omega, by go_num, hb9, by rw [HST.out]; simpa using HN.out, by rw [HST.out]; exact HEL9.out⟩
        case measure => simp [intOf]; omega
    · obtain rfl : k = K := by omega
      have hR : h.truUp k = h.truR := by rw [Hs.truR, ← HM.out, Int.toNat_natCast]
      have htl := truUp_length h k
      obtain ⟨A, c, rfl, hls⟩ := LsAt.of_own HOWN.out HEL.out rfl (by omega)
      rw [hR] at hls
      have HLS := Lib.hid hls
      have HR := Lib.hid hR
      clear hls hR htl HOWN HEL
      go_wp2_with (fail)
      refine HMC.out.mono ?_
      (rintro e w' hr; first | ((with_reducible replace hr := Ret.up hr); obtain ⟨rfl, z, rfl⟩ := hr) | (obtain ⟨rfl, z, rfl⟩ := hr))
      go_wp2
      go_ret
      exact ⟨A, c, by rw [HR.out]; rfl, later_ex (hb1.trans (Below.mono (later_below hb hb.size) hb1.size)), HLS.out.below (below_later _ _)⟩
end Go.Proofs.Ytcngnfnljkkjgaa
namespace Go.Proofs.Ytcngnfnljkkjgaa
open Go.RowKit

theorem nondec_pair : ∀ (l : List Int), nondec l = true ↔ l.Pairwise (· ≤ ·)
  | [] => by simp [nondec]
  | [a] => by simp [nondec]
  | a :: b :: l => by
    rw [nondec, Bool.and_eq_true, decide_eq_true_eq, nondec_pair (b :: l), List.pairwise_cons (a := a)]
    constructor
    · rintro ⟨h1, h2⟩
      refine ⟨fun x hx => ?_, h2⟩
      rcases List.mem_cons.1 hx with rfl | hx
      · exact h1
      · exact Int.le_trans h1 (List.rel_of_pairwise_cons h2 hx)
    · rintro ⟨h1, h2⟩
      exact ⟨h1 b (by simp), h2⟩
theorem kept_all (e : List Int) (l : List Cp) : keptM e [] l = l.map (tru e) := by
  unfold keptM
  rw [List.filter_eq_self.2 (by simp)]
  apply List.ext_getElem?
  intro i
  simp only [List.getElem?_map, List.getElem?_zipIdx]
  cases l[i]? <;> rfl
theorem full_bit : ∀ n, n ≤ 10 → ∀ i, i < n → bitI (2 ^ n - 1) i = true := by decide
theorem rising_full {h : Hs} (hf : h.fault = 0) (e : List Int) : h.risR e h.fullB = h.risingB e [] := by
  have hp : h.clips.length ≤ 10 := (small_iff.1 (fault_zero hf).1).2.2
  have hb := full_bit h.clips.length hp
  rw [Bool.eq_iff_iff, Hs.risingB, nondec_pair, kept_all, List.pairwise_iff_getElem]
  simp only [Hs.risR, Hs.rowOk, List.all_eq_true, List.mem_range, List.length_map, List.getElem_map]
  constructor
  · intro h1 k i hk hi hki
    have := h1 i hi k hki
    simp only [Hs.pairOk, Hs.fullB, hb i hi, hb k hk, Bool.true_and, Bool.not_eq_true', decide_eq_false_iff_not] at this
    have e1 : h.trI e i = tru e h.clips[i] := by simp [Hs.trI, hi]
    have e2 : h.trI e k = tru e h.clips[k] := by simp [Hs.trI, hk]
    rw [e1, e2] at this
    omega
  · intro h1 i hi k hki
    have hk : k < h.clips.length := Nat.lt_trans hki hi
    have := h1 k i hk hi hki
    simp only [Hs.pairOk, Hs.fullB, hb i hi, hb k hk, Bool.true_and, Bool.not_eq_true', decide_eq_false_iff_not]
    have e1 : h.trI e i = tru e h.clips[i] := by simp [Hs.trI, hi]
    have e2 : h.trI e k = tru e h.clips[k] := by simp [Hs.trI, hk]
    rw [e1, e2]
    omega

/-- How many errors there are; the number of some. -/
def sizeP : List Rg → Int
  | [] => 1
  | r :: l => r.size * sizeP l
def encE : List Rg → List Int → Int
  | r :: l, x :: e => (x - r.lo) + r.size * encE l e
  | _, _ => 0
theorem sizeP_pos : ∀ (l : List Rg), (∀ r ∈ l, r.offB = true) → 1 ≤ sizeP l
  | [], _ => by simp [sizeP]
  | r :: l, h => by
    obtain ⟨-, -, -, h4, -⟩ := off_parts (h r (by simp))
    have ih := sizeP_pos l fun x hx => h x (by simp [hx])
    have := many_step h4 ih
    unfold sizeP
    omega
theorem prods_cons {r : Rg} {l : List Rg} (h : ∀ x ∈ r :: l, x.offB = true) {x : Int} {e : List Int} : x :: e ∈ prods (r :: l) ↔ (r.lo ≤ x ∧ x ≤ r.hi) ∧ e ∈ prods l := by
  have h1 : ∀ y ∈ r :: l, y.lo ≤ y.hi := fun y hy => (off_parts (h y hy)).2.1
  have h2 : ∀ y ∈ l, y.lo ≤ y.hi := fun y hy => h1 y (by simp [hy])
  rw [mem_prods h1, mem_prods h2]
  constructor
  · rintro ⟨hl, hb⟩
    refine ⟨by simpa using hb 0 (by simp) r rfl, by simpa using hl, fun i hi y hy => ?_⟩
    simpa using hb (i + 1) (by simp; omega) y (by simpa using hy)
  · rintro ⟨hx, hl, hb⟩
    refine ⟨by simp [hl], fun i hi y hy => ?_⟩
    cases i with
    | zero => simp only [List.getElem?_cons_zero, Option.some.injEq] at hy; subst hy; simpa using hx
    | succ i => simpa using hb i (by simpa using hi) y (by simpa using hy)
theorem nth_mem : ∀ (l : List Rg), (∀ r ∈ l, r.offB = true) → ∀ n, nthE l n ∈ prods l
  | [], _, n => by simp [nthE, prods]
  | r :: l, h, n => by
    obtain ⟨-, -, -, h4, -⟩ := off_parts (h r (by simp))
    have hm := tmod_bd (n := n) h4
    rw [nthE, prods_cons h]
    refine ⟨?_, nth_mem l (fun x hx => h x (by simp [hx])) _⟩
    unfold Rg.size at *
    omega
theorem enc_nth : ∀ (l : List Rg), (∀ r ∈ l, r.offB = true) → ∀ e ∈ prods l, 0 ≤ encE l e ∧ encE l e < sizeP l ∧ nthE l (encE l e) = e
  | [], _, e, he => by
    simp only [prods, List.mem_singleton] at he
    subst he
    simp [encE, sizeP, nthE]
  | r :: l, h, [], he => by
    have := prods_length _ _ he
    simp at this
  | r :: l, h, x :: e, he => by
    obtain ⟨-, -, -, h4, -⟩ := off_parts (h r (by simp))
    obtain ⟨hx, he'⟩ := (prods_cons h).1 he
    obtain ⟨i1, i2, i3⟩ := enc_nth l (fun y hy => h y (by simp [hy])) e he'
    have hxs : 0 ≤ x - r.lo ∧ x - r.lo < r.size := by unfold Rg.size; omega
    have hmul : r.size * encE l e + r.size ≤ r.size * sizeP l := by
      have := Int.mul_le_mul_of_nonneg_left (show encE l e + 1 ≤ sizeP l by omega) (show (0 : Int) ≤ r.size by omega)
      rw [Int.mul_add, Int.mul_one] at this
      exact this
    have hmul0 : 0 ≤ r.size * encE l e := Int.mul_nonneg (by omega) i1
    refine ⟨by unfold encE; omega, by unfold encE sizeP; omega, ?_⟩
    have hd : (x - r.lo + r.size * encE l e) % r.size = x - r.lo := by
      rw [Int.add_mul_emod_self_left, Int.emod_eq_of_lt hxs.1 hxs.2]
    have hq : (x - r.lo + r.size * encE l e) / r.size = encE l e := by
      rw [Int.add_mul_ediv_left _ _ (by omega), Int.ediv_eq_zero_of_lt hxs.1 hxs.2, Int.zero_add]
    simp only [encE, nthE, hd, hq, i3]
    congr 1
    omega
theorem fold_ge : ∀ (l : List Rg), (∀ r ∈ l, r.offB = true) → ∀ a : Int, 1 ≤ a → a ≤ 3000 → a ≤ l.foldl (fun m r => min 3000 (m * r.size)) a
  | [], _, a, _, _ => Int.le_refl _
  | r :: l, h, a, h1, h2 => by
    obtain ⟨-, -, -, h4, -⟩ := off_parts (h r (by simp))
    have := many_step h1 h4
    exact Int.le_trans (by omega) (fold_ge l (fun x hx => h x (by simp [hx])) (min 3000 (a * r.size)) (by omega) (by omega))
theorem fold_prod : ∀ (l : List Rg), (∀ r ∈ l, r.offB = true) → ∀ a : Int, 1 ≤ a → a ≤ 3000 → l.foldl (fun m r => min 3000 (m * r.size)) a ≤ 2000 → l.foldl (fun m r => min 3000 (m * r.size)) a = a * sizeP l
  | [], _, a, _, _, _ => by simp [sizeP]
  | r :: l, h, a, h1, h2, h3 => by
    obtain ⟨-, -, -, h4, -⟩ := off_parts (h r (by simp))
    have h5 := many_step h1 h4
    have h6 := fold_ge l (fun x hx => h x (by simp [hx])) (min 3000 (a * r.size)) (by omega) (by omega)
    rw [List.foldl_cons] at h3 ⊢
    have h7 : min 3000 (a * r.size) = a * r.size := by omega
    rw [fold_prod l (fun x hx => h x (by simp [hx])) _ (by omega) (by omega) h3, h7, sizeP, Int.mul_assoc]
theorem off_of {h : Hs} (hf : h.fault = 0) : ∀ r ∈ h.clocks, r.offB = true := fun r hr => by
  have := fault_clock hf hr
  simp [Rg.offB]
  omega
theorem many_sizeP {h : Hs} (hf : h.fault = 0) : manyR h.clocks = sizeP h.clocks := by
  have := fold_prod h.clocks (off_of hf) 1 (by omega) (by omega) (manyR_eq hf).2.2
  rw [Int.one_mul] at this
  exact this

/-- The same truths. -/
theorem mem_truR {h : Hs} (hf : h.fault = 0) (e : List Int) : e ∈ h.truR ↔ e ∈ h.truths := by
  rw [Hs.truR, Hs.truUp, Hs.truths, List.mem_filter, List.mem_filter, rising_full hf]
  refine and_congr_left fun _ => ?_
  rw [List.mem_map, many_sizeP hf]
  have hs := sizeP_pos h.clocks (off_of hf)
  constructor
  · rintro ⟨i, -, rfl⟩
    exact nth_mem _ (off_of hf) _
  · intro he
    obtain ⟨h1, h2, h3⟩ := enc_nth _ (off_of hf) e he
    refine ⟨(encE h.clocks e).toNat, List.mem_range.2 (by omega), ?_⟩
    rw [Int.toNat_of_nonneg h1, h3]
theorem truR_nil {h : Hs} (hf : h.fault = 0) : h.truR = [] ↔ h.truths = [] := by
  rw [List.eq_nil_iff_forall_not_mem, List.eq_nil_iff_forall_not_mem]
  exact forall_congr' fun e => by rw [mem_truR hf]
theorem truR_ok {h : Hs} (hf : h.fault = 0) {e : List Int} (he : e ∈ h.truR) : ErrOk e ∧ e.length = h.clocks.length := by
  rw [mem_truR hf] at he
  exact ⟨truth_ok hf he, prods_length _ _ (List.mem_filter.1 he).1⟩

theorem foldl_min : ∀ (l : List Int) (a : Int), l.foldl min a ≤ a ∧ (∀ x ∈ l, l.foldl min a ≤ x) ∧ (l.foldl min a = a ∨ l.foldl min a ∈ l)
  | [], a => ⟨Int.le_refl _, by simp, .inl rfl⟩
  | y :: l, a => by
    obtain ⟨h1, h2, h3⟩ := foldl_min l (min a y)
    rw [List.foldl_cons]
    refine ⟨by omega, fun x hx => ?_, ?_⟩
    · rcases List.mem_cons.1 hx with rfl | hx
      · omega
      · exact h2 x hx
    · rcases h3 with h3 | h3
      · rcases Int.le_total a y with h4 | h4
        · exact .inl (by rw [h3]; omega)
        · exact .inr (by rw [h3, show min a y = y by omega]; simp)
      · exact .inr (by simp [h3])
theorem foldl_max : ∀ (l : List Int) (a : Int), a ≤ l.foldl max a ∧ (∀ x ∈ l, x ≤ l.foldl max a) ∧ (l.foldl max a = a ∨ l.foldl max a ∈ l)
  | [], a => ⟨Int.le_refl _, by simp, .inl rfl⟩
  | y :: l, a => by
    obtain ⟨h1, h2, h3⟩ := foldl_max l (max a y)
    rw [List.foldl_cons]
    refine ⟨by omega, fun x hx => ?_, ?_⟩
    · rcases List.mem_cons.1 hx with rfl | hx
      · omega
      · exact h2 x hx
    · rcases h3 with h3 | h3
      · rcases Int.le_total y a with h4 | h4
        · exact .inl (by rw [h3]; omega)
        · exact .inr (by rw [h3, show max a y = y by omega]; simp)
      · exact .inr (by simp [h3])
/-- The reference's bounds: they begin far off. -/
def loR (l : List (List Int)) (f : List Int → Int) : Int := (l.map f).foldl min 1099511627776
def hiR (l : List (List Int)) (f : List Int → Int) : Int := (l.map f).foldl max (-1099511627776)
theorem bounds_R {l m : List (List Int)} (hm : ∀ e, e ∈ l ↔ e ∈ m) (hne : m ≠ []) {f : List Int → Int} (hf : ∀ e ∈ m, -1099511627776 ≤ f e ∧ f e ≤ 1099511627776) : loR l f = loB m f ∧ hiR l f = hiB m f := by
  obtain ⟨x, t, rfl⟩ := List.exists_cons_of_ne_nil hne
  obtain ⟨a1, a2, a3⟩ := foldl_min (l.map f) 1099511627776
  obtain ⟨b1, b2, b3⟩ := foldl_min ((x :: t).map f) (f x)
  obtain ⟨c1, c2, c3⟩ := foldl_max (l.map f) (-1099511627776)
  obtain ⟨d1, d2, d3⟩ := foldl_max ((x :: t).map f) (f x)
  have hl : ∀ e ∈ x :: t, f e ∈ l.map f := fun e he => List.mem_map.2 ⟨e, (hm e).2 he, rfl⟩
  have hr : ∀ y ∈ l.map f, y ∈ (x :: t).map f := fun y hy => by
    obtain ⟨e, he, rfl⟩ := List.mem_map.1 hy
    exact List.mem_map.2 ⟨e, (hm e).1 he, rfl⟩
  have hxm : f x ∈ (x :: t).map f := by simp
  have hfx := hf x (by simp)
  have hlx := a2 _ (hl x (by simp))
  have hcx := c2 _ (hl x (by simp))
  constructor
  · show (l.map f).foldl min 1099511627776 = ((x :: t).map f).foldl min (f x)
    have hb : ((x :: t).map f).foldl min (f x) ∈ (x :: t).map f := by
      rcases b3 with b3 | b3
      · rw [b3]; exact hxm
      · exact b3
    obtain ⟨e, he, hee⟩ := List.mem_map.1 hb
    have h1 := a2 _ (hl e he)
    have h2 : ((x :: t).map f).foldl min (f x) ≤ (l.map f).foldl min 1099511627776 := by
      rcases a3 with a3 | a3
      · omega
      · exact b2 _ (hr _ a3)
    omega
  · show (l.map f).foldl max (-1099511627776) = ((x :: t).map f).foldl max (f x)
    have hb : ((x :: t).map f).foldl max (f x) ∈ (x :: t).map f := by
      rcases d3 with d3 | d3
      · rw [d3]; exact hxm
      · exact d3
    obtain ⟨e, he, hee⟩ := List.mem_map.1 hb
    have h1 := c2 _ (hl e he)
    have h2 : (l.map f).foldl max (-1099511627776) ≤ ((x :: t).map f).foldl max (f x) := by
      rcases c3 with c3 | c3
      · omega
      · exact d2 _ (hr _ c3)
    omega
/-- The reference's verdict: it counts. -/
def verdictR (l : List (List Int)) (p : List Int → Bool) : Int := if l.countP p = l.length then 1 else if l.countP p = 0 then 2 else 3
theorem verdict_R {l m : List (List Int)} (hm : ∀ e, e ∈ l ↔ e ∈ m) (p : List Int → Bool) : verdictR l p = verdictB m p := by
  have hall : l.countP p = l.length ↔ m.all p = true := by
    rw [List.countP_eq_length, List.all_eq_true]
    exact ⟨fun h e he => h e ((hm e).2 he), fun h e he => h e ((hm e).1 he)⟩
  have hany : l.countP p = 0 ↔ ¬ m.any p = true := by
    rw [List.countP_eq_zero, List.any_eq_true]
    constructor
    · rintro h ⟨e, he, hp⟩
      exact h e ((hm e).2 he) hp
    · intro h e he hp
      exact h ⟨e, (hm e).1 he, hp⟩
  unfold verdictR verdictB
  by_cases h1 : m.all p = true
  · rw [if_pos (hall.2 h1), if_pos h1]
  · rw [if_neg (fun h => h1 (hall.1 h)), if_neg h1]
    by_cases h2 : m.any p = true
    · rw [if_neg (fun h => (hany.1 h) h2), if_pos h2]
    · rw [if_pos (hany.2 h2), if_neg h2]
end Go.Proofs.Ytcngnfnljkkjgaa
namespace Go.Proofs.Ytcngnfnljkkjgaa
open Go.RowKit
attribute [local go_sem] cell_later frozen_later lt_later le_later

theorem ofN_two {h : Hs} (hf : h.fault = 0) {t : Nat} (ht : t < h.tickets.length) : (h.ofN (t : Int)).length ≤ 2 := by
  have := (fault_zero hf).2.2.1
  rw [Hs.twoB, List.all_eq_true] at this
  have := this t (List.mem_range.2 ht)
  rw [ofs_length] at this
  simpa using this
/-- The two clips of a ticket. -/
theorem of_both {h : Hs} {t : Int} (h2 : (h.ofN t).length = 2) : ∃ n0 n1 c0 c1, h.ofN t = [n0, n1] ∧ h.clips[n0]? = some c0 ∧ h.clips[n1]? = some c1 ∧ h.ofs t = [c0, c1] := by
  obtain ⟨n0, n1, e⟩ : ∃ n0 n1, h.ofN t = [n0, n1] := by
    match h.ofN t, h2 with
    | [a, b], _ => exact ⟨a, b, rfl⟩
  obtain ⟨c0, h0⟩ := ofN_some (h := h) (t := t) (i := n0) (by rw [e]; simp)
  obtain ⟨c1, h1⟩ := ofN_some (h := h) (t := t) (i := n1) (by rw [e]; simp)
  refine ⟨n0, n1, c0, c1, e, h0, h1, ?_⟩
  rw [← ofN_ofs, e]
  simp [h0, h1]
theorem of_one {h : Hs} {t : Int} (h2 : (h.ofN t).length = 1) : ∃ n0 c0, h.ofN t = [n0] ∧ h.clips[n0]? = some c0 ∧ h.ofs t = [c0] := by
  obtain ⟨n0, e⟩ : ∃ n0, h.ofN t = [n0] := by
    match h.ofN t, h2 with
    | [a], _ => exact ⟨a, rfl⟩
  obtain ⟨c0, h0⟩ := ofN_some (h := h) (t := t) (i := n0) (by rw [e]; simp)
  refine ⟨n0, c0, e, h0, ?_⟩
  rw [← ofN_ofs, e]
  simp [h0]
theorem hours_up {s k : Int} {j : Nat} (hk : 1 ≤ k) (h1 : j = 0 ∨ ((j : Int) - 1) * k < s) (h2 : ¬ (j : Int) * k < s) : (max 0 s + k - 1) / k = (j : Int) := by
  have e : ((j : Int) - 1) * k = (j : Int) * k - k := by rw [Int.sub_mul, Int.one_mul]
  have e2 : ((j : Int) + 1) * k = (j : Int) * k + k := by rw [Int.add_mul, Int.one_mul]
  have e3 : 0 ≤ (j : Int) * k := Int.mul_nonneg (by omega) (by omega)
  have hle : (j : Int) ≤ (max 0 s + k - 1) / k := by
    rw [Int.le_ediv_iff_mul_le (by omega)]
    rcases h1 with h1 | h1
    · subst h1; simp; omega
    · omega
  have hlt : (max 0 s + k - 1) / k < (j : Int) + 1 := by
    rw [Int.ediv_lt_iff_lt_mul (by omega)]
    omega
  omega

set_option maxHeartbeats 2000000 in
theorem refhours_calls (v : Value) (h : Hs) (E : Option Addr) (ce : Nat) (e : List Int) (t : Nat) (w : World) (H : HsAt w v h) (HE : SlA w 1 gI E ce e) (hl : e.length = h.clocks.length) (he : ErrOk e) (hf : h.fault = 0) (ht : t < h.tickets.length) :
    Calls Try.prog 50 #[v, .slice E e.length ce, .int .i64 t] w (Ret (.int .i64 (h.hoursB e t)) w) := by
  have H0 := H
  obtain ⟨A2, c2, A3, c3, A4, c4, rfl, H2, H3, H4⟩ := H
  obtain ⟨W1, hW1⟩ : ∃ W1, W1 = w.alloc (.cells #[.int .i64 h.hour, .int .i64 h.grace, .slice A2 h.clocks.length c2, .slice A3 h.tickets.length c3, .slice A4 h.clips.length c4] 26) := ⟨_, rfl⟩
  have hb1 : Below w.heap.size w W1 := by rw [hW1]; exact gA (Below.refl _ _)
  have hB : BlkAt W1 w.heap.size 26 [.int .i64 h.hour, .int .i64 h.grace, .slice A2 h.clocks.length c2, .slice A3 h.tickets.length c3, .slice A4 h.clips.length c4] := by rw [hW1]; exact BlkAt.new _ _ _
  have H1 := H0.below hb1
  have q0 := hB.cell 0
  have q1 := hB.cell 1
  have q2 := hB.cell 2
  have q3 := hB.cell 3
  have q4 := hB.cell 4
  simp only [List.getElem?_cons_zero, List.getElem?_cons_succ] at q0 q1 q2 q3 q4
  have hBl := hB.lt
  have hp : h.clips.length ≤ 1000 := by have := (small_iff.1 (fault_zero hf).1).2.2; omega
  obtain ⟨g1, g2, g3, g4⟩ := fault_hour hf
  have hn2 := ofN_two hf ht
  have HEE := HE.below hb1
  by_cases hlen : (h.ofN (t : Int)).length < 2
  · have hR := Lib.hid (show h.hoursB e t = 0 from hoursB_none (by rw [ofs_length]; exact hlen))
    have hl1 : ((h.ofI (t : Int)).length : Int) < 2 := by rw [ofI_length]; omega
    clear hlen hn2 hl
    go_enter Try.func50, Try.ntmps50
    go_wp2_with (fail)
    rw [← hW1]
    clear hW1
    refine (refof_calls _ h _ _ H1 hp).mono ?_
    (rintro e w' hr; first | ((with_reducible replace hr := RetSl.up hr); obtain ⟨A, c, rfl, ⟨z, rfl⟩, hsl⟩ := hr) | (obtain ⟨A, c, rfl, ⟨z, rfl⟩, hsl⟩ := hr))
    go_wp2
    go_ret
    exact ret_mk (ret_int hR.out.symm) (later_below hb1 hb1.size)
  · obtain ⟨n0, n1, x0, x1, e1, hx0, hx1, e2⟩ := of_both (h := h) (t := (t : Int)) (by omega)
    have hI : h.ofI (t : Int) = [(n0 : Int), (n1 : Int)] := by rw [Hs.ofI, e1]; rfl
    have hR := Lib.hid (show h.hoursB e t = (max 0 (tru e x1 - tru e x0 - h.grace) + h.hour - 1) / h.hour by rw [Hs.hoursB, e2])
    have hcl : ∀ (i : Nat) (x : Cp), h.clips[i]? = some x → (0 ≤ x.ck ∧ x.ck < e.length) ∧ (0 ≤ x.mn ∧ x.mn ≤ 1439) := fun i x hx => by
      have := fault_clips hf (List.mem_of_getElem? hx)
      rw [hl]
      omega
    have hb0 := err_bd he x0.ck
    have hb9 := err_bd he x1.ck
    have t0 : -30 ≤ tru e x0 ∧ tru e x0 ≤ 1469 := by have := (hcl n0 x0 hx0).2; unfold tru; omega
    have t1 : -30 ≤ tru e x1 ∧ tru e x1 ≤ 1469 := by have := (hcl n1 x1 hx1).2; unfold tru; omega
    obtain ⟨t00, t01⟩ := t0
    obtain ⟨t10, t11⟩ := t1
    have HX0 := Lib.hid hx0
    have HX1 := Lib.hid hx1
    have HC0 := Lib.hid (hcl n0 x0 hx0)
    have HC1 := Lib.hid (hcl n1 x1 hx1)
    clear hcl hx0 hx1 e1 e2 hlen hn2 hb0 hb9 hl
    go_enter Try.func50, Try.ntmps50
    go_wp2_with (fail)
    rw [← hW1]
    clear hW1
    refine (refof_calls _ h _ _ H1 hp).mono ?_
    rw [hI]
    (rintro e w' hr; first | ((with_reducible replace hr := RetSl.up hr); obtain ⟨A, c, rfl, ⟨z, rfl⟩, hsl⟩ := hr) | (obtain ⟨A, c, rfl, ⟨z, rfl⟩, hsl⟩ := hr))
    simp only [List.length_cons, List.length_nil]
    obtain ⟨p, off, y0, rfl, hpl, hy0, s0⟩ := hsl.atI (i := 0) (by simp)
    obtain ⟨p', off', y1, hA', -, hy1, s1⟩ := hsl.atI (i := 1) (by simp)
    cases hA'
    simp only [List.getElem?_cons_zero, List.getElem?_cons_succ, Option.some.injEq] at hy0 hy1
    subst hy0 hy1
    simp only [Nat.add_zero] at s0
    obtain ⟨W2, hW2, hb2⟩ : ∃ W2, W2 = later W1 z ∧ Below W1.heap.size W1 W2 := ⟨_, rfl, below_later W1 z⟩
    rw [← hW2] at hpl s0 s1 ⊢
    clear hW2 hsl
    have r0 := (hb2.cell (p := ⟨w.heap.size, 0, none⟩) hBl).trans q0
    have r1 := (hb2.cell (p := ⟨w.heap.size, 1, none⟩) hBl).trans q1
    have r2 := (hb2.cell (p := ⟨w.heap.size, 2, none⟩) hBl).trans q2
    have r3 := (hb2.cell (p := ⟨w.heap.size, 3, none⟩) hBl).trans q3
    have r4 := (hb2.cell (p := ⟨w.heap.size, 4, none⟩) hBl).trans q4
    have hBl2 := Nat.lt_of_lt_of_le hBl hb2.size
    have C0 := Lib.hid (fun x => reftrue_calls _ h E ce e n0 x0 (later W2 x) (H1.below (hb2.trans ((below_later W2 x).mono hb2.size))) (HEE.below (hb2.trans ((below_later W2 x).mono hb2.size))) HX0.out HC0.out.1 HC0.out.2 he)
    have C1 := Lib.hid (fun x => reftrue_calls _ h E ce e n1 x1 (later W2 x) (H1.below (hb2.trans ((below_later W2 x).mono hb2.size))) (HEE.below (hb2.trans ((below_later W2 x).mono hb2.size))) HX1.out HC1.out.1 HC1.out.2 he)
    clear q0 q1 q2 q3 q4
    go_wp2
    refine region_later (by kernel_rfl) (by kernel_rfl) ?_
    repeat (go_big_quiet_step (first | with_reducible exact quiet_ret (C0.out _) | with_reducible exact quiet_ret (C1.out _)))
    refine wpQuiet_nil ?_
    rintro W' ⟨u, rfl⟩
    obtain ⟨W3, hW3, hb3⟩ : ∃ W3, W3 = later W2 u ∧ Below W2.heap.size W2 W3 := ⟨_, rfl, below_later W2 u⟩
    rw [← hW3]
    clear hW3
    have r0 := (hb3.cell (p := ⟨w.heap.size, 0, none⟩) hBl2).trans r0
    have hBl3 := Nat.lt_of_lt_of_le hBl2 hb3.size
    obtain ⟨s, hs⟩ : ∃ s, s = tru e x1 - tru e x0 - h.grace := ⟨_, rfl⟩
    have hs1 : s ≤ 1500 := by omega
    rw [← hs] at hR ⊢
    clear hs C0 C1
    go_wp2
    go_loopw [9] (fun i wr => ∃ j : Nat, i = .int .i64 j ∧ (j = 0 ∨ ((j : Int) - 1) * h.hour < s) ∧ j ≤ 1501 ∧ wr = W3) (fun i _ => 1600 - (intOf i).toNat)
    case atStart => exact ⟨0, rfl, .inl rfl, by omega, rfl⟩
    case round =>
      obtain ⟨j, rfl, hj, hj1, rfl⟩ := hrel
      have HJ := Lib.hid hj
      clear hj
      have hj0 : (0 : Int) ≤ (j : Int) := Int.natCast_nonneg _
      have hjI : (j : Int) ≤ 1501 := by omega
      have hm0 : 0 ≤ (j : Int) * h.hour := Int.mul_nonneg hj0 (by omega)
      have hm1 : (j : Int) * h.hour ≤ 1501 * 120 := Int.le_trans (Int.mul_le_mul_of_nonneg_right hjI (by omega)) (Int.mul_le_mul_of_nonneg_left g2 (by omega))
      have hm2 : (j : Int) ≤ (j : Int) * h.hour := by
        have := Int.mul_le_mul_of_nonneg_left g1 hj0
        omega
      by_cases hlt : (j : Int) * h.hour < s
      · go_wp2
        go_roundw
        case rel => exact ⟨j + 1, by go_num, .inr (by rw [show (((j + 1 : Nat) : Int) - 1) = (j : Int) by omega]; exact hlt), by omega, (by first | rfl | trivial)⟩
        case measure => simp [intOf]; omega
      · have hR2 := Lib.hid (hR.out.trans (hours_up g1 HJ.out hlt))
        go_wp2
        go_ret
        exact ret_mk (ret_int hR2.out.symm) (hb1.trans (Below.mono (hb2.trans (hb3.mono hb2.size)) hb1.size))

set_option maxHeartbeats 1000000 in
theorem reflong_calls (v : Value) (h : Hs) (E : Option Addr) (ce : Nat) (e : List Int) (t : Nat) (w : World) (H : HsAt w v h) (HE : SlA w 1 gI E ce e) (hl : e.length = h.clocks.length) (he : ErrOk e) (hf : h.fault = 0) (ht : t < h.tickets.length) :
    Calls Try.prog 75 #[v, .slice E e.length ce, .int .i64 t] w (Ret (.bool (h.longB e t)) w) := by
  have H0 := H
  obtain ⟨A2, c2, A3, c3, A4, c4, rfl, H2, H3, H4⟩ := H
  obtain ⟨W1, hW1⟩ : ∃ W1, W1 = w.alloc (.cells #[.int .i64 h.hour, .int .i64 h.grace, .slice A2 h.clocks.length c2, .slice A3 h.tickets.length c3, .slice A4 h.clips.length c4] 26) := ⟨_, rfl⟩
  have hb1 : Below w.heap.size w W1 := by rw [hW1]; exact gA (Below.refl _ _)
  have hB : BlkAt W1 w.heap.size 26 [.int .i64 h.hour, .int .i64 h.grace, .slice A2 h.clocks.length c2, .slice A3 h.tickets.length c3, .slice A4 h.clips.length c4] := by rw [hW1]; exact BlkAt.new _ _ _
  have H1 := H0.below hb1
  have q0 := hB.cell 0
  have q1 := hB.cell 1
  have q2 := hB.cell 2
  have q3 := hB.cell 3
  have q4 := hB.cell 4
  simp only [List.getElem?_cons_zero, List.getElem?_cons_succ] at q0 q1 q2 q3 q4
  have hBl := hB.lt
  have HEE := HE.below hb1
  obtain ⟨b, off, x, rfl, hbl, hx, s0, s1⟩ := (H3.below hb1).atT ht
  have ht1 : (t : Int) < (h.tickets.length : Int) := by omega
  have ht0 : (0 : Int) ≤ (t : Int) := Int.natCast_nonneg _
  have hR := Lib.hid (show h.longB e t = decide (x.hours < h.hoursB e t) by simp [Hs.longB, hx])
  have C0 := Lib.hid (fun z => refhours_calls _ h E ce e t (later W1 z) (H1.below (below_later W1 z)) (HEE.below (below_later W1 z)) hl he hf ht)
  obtain ⟨n, hn⟩ : ∃ n, n = h.hoursB e t := ⟨_, rfl⟩
  rw [← hn] at hR C0
  clear hx hn hl ht
  go_enter Try.func75, Try.ntmps75
  go_wp2
  rw [← hW1]
  clear hW1
  refine region_later (by kernel_rfl) (by kernel_rfl) ?_
  repeat (go_big_quiet_step (first | with_reducible exact quiet_ret (C0.out _)))
  refine wpQuiet_nil ?_
  rintro W' ⟨u, rfl⟩
  go_wp2
  go_ret
  refine ret_mk (ret_bool ?_) (later_below hb1 hb1.size)
  rw [hR.out]
end Go.Proofs.Ytcngnfnljkkjgaa
