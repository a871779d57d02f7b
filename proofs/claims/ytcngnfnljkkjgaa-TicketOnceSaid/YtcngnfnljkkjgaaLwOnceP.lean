/-
All is paid once always, if and only if no ticket stayed too long in any truth and no two tickets clash in any; if some ticket stayed too long always, or two clash always, it never is: with no program in sight.
-/
import Derived.Test.YtcngnfnljkkjgaaRfHouse
import Derived.Test.YtcngnfnljkkjgaaTkAwake
import Derived.Test.YtcngnfnljkkjgaaTkAns6
namespace Go.Proofs.Ytcngnfnljkkjgaa
open Go.RowKit

theorem verdict_cases (l : List (List Int)) (p : List Int → Bool) : verdictB l p = 1 ∨ verdictB l p = 2 ∨ verdictB l p = 3 := by
  unfold verdictB
  split
  · exact .inl rfl
  · split
    · exact .inr (.inr rfl)
    · exact .inr (.inl rfl)
theorem verdict_one {l : List (List Int)} {p : List Int → Bool} : verdictB l p = 1 ↔ ∀ e ∈ l, p e = true := by
  unfold verdictB
  rw [← List.all_eq_true]
  by_cases h1 : l.all p = true
  · rw [if_pos h1]; exact ⟨fun _ => h1, fun _ => rfl⟩
  · rw [if_neg h1]
    refine ⟨fun h => ?_, fun h => absurd h h1⟩
    split at h <;> cases h
theorem verdict_two {l : List (List Int)} {p : List Int → Bool} (hl : l ≠ []) : verdictB l p = 2 ↔ ∀ e ∈ l, p e = false := by
  unfold verdictB
  constructor
  · intro h e he
    split at h
    · cases h
    · split at h
      · cases h
      · next h2 =>
        simp only [List.any_eq_true, not_exists, not_and, Bool.not_eq_true] at h2
        exact h2 e he
  · intro h
    obtain ⟨e, t, rfl⟩ := List.exists_cons_of_ne_nil hl
    have he := h e (by simp)
    have h1 : ¬ ((e :: t).all p = true) := by
      rw [List.all_eq_true]
      intro hh
      rw [hh e (by simp)] at he
      cases he
    have h2 : ¬ ((e :: t).any p = true) := by
      rw [List.any_eq_true]
      rintro ⟨x, hx, hpx⟩
      rw [h x hx] at hpx
      cases hpx
    rw [if_neg h1, if_neg h2]

/-- Never, of all tickets and of all pairs below a; always, of one of them. -/
def Hs.nvL (h : Hs) (k : Nat) : Bool := (h.longL.take k).all fun v => decide (v = 2)
def Hs.alL (h : Hs) (k : Nat) : Bool := (h.longL.take k).any fun v => decide (v = 1)
def Hs.nvR (h : Hs) (a b : Nat) : Bool := (List.range b).all fun (y : Nat) => decide (h.clashV (a : Int) (y : Int) = 2)
def Hs.alR (h : Hs) (a b : Nat) : Bool := (List.range b).any fun (y : Nat) => decide (h.clashV (a : Int) (y : Int) = 1)
def Hs.nvC (h : Hs) (a : Nat) : Bool := (List.range a).all fun x => h.nvR x x
def Hs.alC (h : Hs) (a : Nat) : Bool := (List.range a).any fun x => h.alR x x

theorem nvL_step {h : Hs} {k : Nat} {y : Int} (hy : h.longL[k]? = some y) : h.nvL (k + 1) = (h.nvL k && decide (y = 2)) := by
  unfold Hs.nvL
  rw [List.take_add_one, hy, List.all_append]
  simp
theorem alL_step {h : Hs} {k : Nat} {y : Int} (hy : h.longL[k]? = some y) : h.alL (k + 1) = (h.alL k || decide (y = 1)) := by
  unfold Hs.alL
  rw [List.take_add_one, hy, List.any_append]
  simp
theorem nvR_step (h : Hs) (a b : Nat) : h.nvR a (b + 1) = (h.nvR a b && decide (h.clashV (a : Int) (b : Int) = 2)) := by
  unfold Hs.nvR
  rw [List.range_succ, List.all_append]
  simp
theorem alR_step (h : Hs) (a b : Nat) : h.alR a (b + 1) = (h.alR a b || decide (h.clashV (a : Int) (b : Int) = 1)) := by
  unfold Hs.alR
  rw [List.range_succ, List.any_append]
  simp
theorem nvC_step (h : Hs) (a : Nat) : h.nvC (a + 1) = (h.nvC a && h.nvR a a) := by
  unfold Hs.nvC
  rw [List.range_succ, List.all_append]
  simp
theorem alC_step (h : Hs) (a : Nat) : h.alC (a + 1) = (h.alC a || h.alR a a) := by
  unfold Hs.alC
  rw [List.range_succ, List.any_append]
  simp

theorem long_get {h : Hs} (ha : h.askE 0 = 0) {k : Nat} (hk : k < h.tickets.length) : h.longL[k]? = some (h.longV k) := by
  simp [Hs.longL, ha, hk]
theorem long_len {h : Hs} (ha : h.askE 0 = 0) : h.longL.length = h.tickets.length := by simp [Hs.longL, ha]
theorem clash_ok {h : Hs} (ha : h.askE 0 = 0) {a b : Nat} (hab : b < a) (hk : a < h.tickets.length) : h.clashE (a : Int) (b : Int) = 0 := by
  have h1 : h.ticketB (a : Int) = true := by simp [Hs.ticketB, inB]; omega
  have h2 : h.ticketB (b : Int) = true := by simp [Hs.ticketB, inB]; omega
  have h3 : ¬ ((a : Int) = (b : Int)) := by omega
  simp [Hs.clashE, Hs.clashDue, h1, h2, h3, ha]
theorem clash_val {h : Hs} (ha : h.askE 0 = 0) {a b : Nat} (hab : b < a) (hk : a < h.tickets.length) : h.clashV (a : Int) (b : Int) = verdictB h.truths (fun e => h.clashB e a b) := by
  simp [Hs.clashV, clash_ok ha hab hk]

theorem once_never {h : Hs} (ha : h.askE 0 = 0) : (h.nvL h.tickets.length && h.nvC h.tickets.length) = true ↔ h.paidV = 1 := by
  have hne : h.truths ≠ [] := (askE_zero ha).2.2
  have hp : h.paidV = verdictB h.truths h.paidB := by simp [Hs.paidV, ha]
  rw [hp, verdict_one, Bool.and_eq_true]
  constructor
  · rintro ⟨h1, h2⟩ e he
    rw [Hs.paidB, List.all_eq_true]
    intro i hi
    have hi := List.mem_range.1 hi
    rw [Hs.okAt, Bool.and_eq_true]
    constructor
    · rw [Hs.nvL, ← long_len ha, List.take_length, List.all_eq_true] at h1
      have := h1 _ (List.mem_of_getElem? (long_get ha hi))
      simp only [decide_eq_true_eq] at this
      rw [Hs.longV, verdict_two hne] at this
      rw [this e he]
      rfl
    · rw [List.all_eq_true]
      intro k hk
      have hk := List.mem_range.1 hk
      rw [Hs.nvC, List.all_eq_true] at h2
      have := h2 i (List.mem_range.2 hi)
      rw [Hs.nvR, List.all_eq_true] at this
      have := this k (List.mem_range.2 hk)
      simp only [decide_eq_true_eq] at this
      rw [clash_val ha hk hi, verdict_two hne] at this
      rw [this e he]
      rfl
  · intro h1
    have hok : ∀ e ∈ h.truths, ∀ i, i < h.tickets.length → h.longB e i = false ∧ ∀ k, k < i → h.clashB e i k = false := by
      intro e he i hi
      have := h1 e he
      rw [Hs.paidB, List.all_eq_true] at this
      have := this i (List.mem_range.2 hi)
      rw [Hs.okAt, Bool.and_eq_true, List.all_eq_true] at this
      refine ⟨by simpa using this.1, fun k hk => by simpa using this.2 k (List.mem_range.2 hk)⟩
    constructor
    · rw [Hs.nvL, ← long_len ha, List.take_length, List.all_eq_true]
      intro x hx
      obtain ⟨k, hk⟩ := List.mem_iff_getElem?.1 hx
      have hlt : k < h.tickets.length := by rw [← long_len ha]; exact (List.getElem?_eq_some_iff.1 hk).1
      rw [long_get ha hlt] at hk
      cases hk
      simp only [decide_eq_true_eq]
      rw [Hs.longV, verdict_two hne]
      exact fun e he => (hok e he k hlt).1
    · rw [Hs.nvC, List.all_eq_true]
      intro a ha'
      have hlt := List.mem_range.1 ha'
      rw [Hs.nvR, List.all_eq_true]
      intro b hb
      have hb := List.mem_range.1 hb
      simp only [decide_eq_true_eq]
      rw [clash_val ha hb hlt, verdict_two hne]
      exact fun e he => (hok e he a hlt).2 b hb
theorem once_always {h : Hs} (ha : h.askE 0 = 0) (h1 : (h.alL h.tickets.length || h.alC h.tickets.length) = true) : h.paidV = 2 := by
  have hne : h.truths ≠ [] := (askE_zero ha).2.2
  have hp : h.paidV = verdictB h.truths h.paidB := by simp [Hs.paidV, ha]
  rw [hp, verdict_two hne]
  intro e he
  rw [Hs.paidB, List.all_eq_false]
  rw [Bool.or_eq_true] at h1
  rcases h1 with h1 | h1
  · rw [Hs.alL, ← long_len ha, List.take_length, List.any_eq_true] at h1
    obtain ⟨x, hx, hx1⟩ := h1
    obtain ⟨k, hk⟩ := List.mem_iff_getElem?.1 hx
    have hlt : k < h.tickets.length := by rw [← long_len ha]; exact (List.getElem?_eq_some_iff.1 hk).1
    rw [long_get ha hlt] at hk
    cases hk
    simp only [decide_eq_true_eq] at hx1
    rw [Hs.longV, verdict_one] at hx1
    exact ⟨k, List.mem_range.2 hlt, by simp [Hs.okAt, hx1 e he]⟩
  · rw [Hs.alC, List.any_eq_true] at h1
    obtain ⟨a, ha', h2⟩ := h1
    have hlt := List.mem_range.1 ha'
    rw [Hs.alR, List.any_eq_true] at h2
    obtain ⟨b, hb, h3⟩ := h2
    have hb := List.mem_range.1 hb
    simp only [decide_eq_true_eq] at h3
    rw [clash_val ha hb hlt, verdict_one] at h3
    refine ⟨a, List.mem_range.2 hlt, ?_⟩
    have : ((List.range a).all fun k => !h.clashB e a k) = false := by
      rw [List.all_eq_false]
      exact ⟨b, List.mem_range.2 hb, by simp [h3 e he]⟩
    simp [Hs.okAt, this]
end Go.Proofs.Ytcngnfnljkkjgaa
