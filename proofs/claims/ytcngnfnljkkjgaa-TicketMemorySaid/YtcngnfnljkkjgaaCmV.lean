/-
Tools of the plain laws: bounds and verdicts over lists of truths; what is valid; the smallest set. With no program in sight.
Some of the clips: with no program in sight.
One tub: with no program in sight.
In each truth, and at both ends: with no program in sight.
The laws' small words: in, inside, kept, steady, each where it holds.
-/
import Derived.Test.YtcngnfnljkkjgaaCmU
import Derived.Test.YtcngnfnljkkjgaaCmT
import Derived.Test.YtcngnfnljkkjgaaCmO
namespace Go.Proofs.Ytcngnfnljkkjgaa
open Go.RowKit

/-! Bounds and verdicts over lists of truths. -/
theorem lo_le {l : List (List Int)} {f : List Int → Int} {e : List Int} (he : e ∈ l) : loB l f ≤ f e :=
  (foldl_min (l.map f) (f (l.headD []))).2.1 _ (List.mem_map.2 ⟨e, he, rfl⟩)
theorem le_hi {l : List (List Int)} {f : List Int → Int} {e : List Int} (he : e ∈ l) : f e ≤ hiB l f :=
  (foldl_max (l.map f) (f (l.headD []))).2.1 _ (List.mem_map.2 ⟨e, he, rfl⟩)
theorem lo_at {l : List (List Int)} {f : List Int → Int} (hl : l ≠ []) : ∃ e ∈ l, loB l f = f e := by
  obtain ⟨x, t, rfl⟩ := List.exists_cons_of_ne_nil hl
  rcases (foldl_min ((x :: t).map f) (f x)).2.2 with h | h
  · exact ⟨x, by simp, h⟩
  · obtain ⟨e, he, hx⟩ := List.mem_map.1 h
    exact ⟨e, he, hx.symm⟩
theorem hi_at {l : List (List Int)} {f : List Int → Int} (hl : l ≠ []) : ∃ e ∈ l, hiB l f = f e := by
  obtain ⟨x, t, rfl⟩ := List.exists_cons_of_ne_nil hl
  rcases (foldl_max ((x :: t).map f) (f x)).2.2 with h | h
  · exact ⟨x, by simp, h⟩
  · obtain ⟨e, he, hx⟩ := List.mem_map.1 h
    exact ⟨e, he, hx.symm⟩
/-- Over a part, with smaller values: the bounds. -/
theorem lo_mono {l m : List (List Int)} {f g : List Int → Int} (hl : l ≠ []) (h : ∀ e ∈ l, e ∈ m ∧ g e ≤ f e) : loB m g ≤ loB l f := by
  obtain ⟨e, he, hx⟩ := lo_at (f := f) hl
  rw [hx]
  exact Int.le_trans (lo_le (h e he).1) (h e he).2
theorem hi_mono {l m : List (List Int)} {f g : List Int → Int} (hl : l ≠ []) (h : ∀ e ∈ l, e ∈ m ∧ f e ≤ g e) : hiB l f ≤ hiB m g := by
  obtain ⟨e, he, hx⟩ := hi_at (f := f) hl
  rw [hx]
  exact Int.le_trans (h e he).2 (le_hi (h e he).1)
theorem lo_le_hi {l : List (List Int)} {f : List Int → Int} (hl : l ≠ []) : loB l f ≤ hiB l f := by
  obtain ⟨e, he, hx⟩ := lo_at (f := f) hl
  rw [hx]
  exact le_hi he
theorem lo_map {l : List (List Int)} (s : List Int → List Int) (f g : List Int → Int) (c : Int) (hl : l ≠ []) (h : ∀ e ∈ l, f (s e) = g e + c) : loB (l.map s) f = loB l g + c := by
  have hm : l.map s ≠ [] := by simpa using hl
  obtain ⟨e, he, hx⟩ := lo_at (f := f) hm
  obtain ⟨e', he', rfl⟩ := List.mem_map.1 he
  obtain ⟨d, hd, hy⟩ := lo_at (f := g) hl
  have h1 := lo_le (f := g) he'
  have h2 := lo_le (f := f) (List.mem_map.2 ⟨d, hd, rfl⟩ : s d ∈ l.map s)
  have h3 := h e' he'
  have h4 := h d hd
  omega
theorem hi_map {l : List (List Int)} (s : List Int → List Int) (f g : List Int → Int) (c : Int) (hl : l ≠ []) (h : ∀ e ∈ l, f (s e) = g e + c) : hiB (l.map s) f = hiB l g + c := by
  have hm : l.map s ≠ [] := by simpa using hl
  obtain ⟨e, he, hx⟩ := hi_at (f := f) hm
  obtain ⟨e', he', rfl⟩ := List.mem_map.1 he
  obtain ⟨d, hd, hy⟩ := hi_at (f := g) hl
  have h1 := le_hi (f := g) he'
  have h2 := le_hi (f := f) (List.mem_map.2 ⟨d, hd, rfl⟩ : s d ∈ l.map s)
  have h3 := h e' he'
  have h4 := h d hd
  omega
theorem verdict_map (l : List (List Int)) (s : List Int → List Int) {p q : List Int → Bool} (h : ∀ e ∈ l, p (s e) = q e) : verdictB (l.map s) p = verdictB l q := by
  have h1 : (l.map s).all p = l.all q := by
    rw [Bool.eq_iff_iff, List.all_eq_true, List.all_eq_true]
    constructor
    · intro hh e he
      rw [← h e he]
      exact hh _ (List.mem_map.2 ⟨e, he, rfl⟩)
    · intro hh x hx
      obtain ⟨e, he, rfl⟩ := List.mem_map.1 hx
      rw [h e he]
      exact hh e he
  have h2 : (l.map s).any p = l.any q := by
    rw [Bool.eq_iff_iff, List.any_eq_true, List.any_eq_true]
    constructor
    · rintro ⟨x, hx, hp⟩
      obtain ⟨e, he, rfl⟩ := List.mem_map.1 hx
      exact ⟨e, he, by rw [← h e he]; exact hp⟩
    · rintro ⟨e, he, hp⟩
      exact ⟨s e, List.mem_map.2 ⟨e, he, rfl⟩, by rw [h e he]; exact hp⟩
  unfold verdictB
  rw [h1, h2]

/-! What is valid. -/
theorem fault_of {h : Hs} (h1 : h.smallB = true) (h2 : h.argB = true) (h3 : h.twoB = true) (h4 : manyTo h.clocks ≤ 2000) : h.fault = 0 := by
  unfold Hs.fault
  rw [h1, h2, h3]
  simp only [Bool.true_eq_false, if_false]
  rw [if_neg (by omega)]
theorem mem_truths {h : Hs} {e : List Int} : e ∈ h.truths ↔ e ∈ prods h.clocks ∧ h.risingB e [] = true := by
  rw [Hs.truths, List.mem_filter]
theorem can_iff (h : Hs) : h.canB [] = true ↔ h.truths ≠ [] := by
  rw [Hs.canB, List.any_eq_true]
  constructor
  · rintro ⟨e, he, hr⟩ hn
    have : e ∈ h.truths := List.mem_filter.2 ⟨he, hr⟩
    rw [hn] at this
    cases this
  · intro hn
    obtain ⟨e, he⟩ := List.exists_mem_of_ne_nil _ hn
    obtain ⟨h1, h2⟩ := List.mem_filter.1 he
    exact ⟨e, h1, h2⟩
theorem ask_of_can {h : Hs} (hf : h.fault = 0) : h.askE 0 = if h.canB [] = true then 0 else 11 := by
  unfold Hs.askE
  simp only [hf, ne_eq, not_true_eq_false, if_false]
  by_cases hc : h.canB [] = true
  · rw [if_pos hc, if_neg ((can_iff h).1 hc)]
  · rw [if_neg hc]
    rw [if_pos]
    exact Decidable.byContradiction fun hn => hc ((can_iff h).2 hn)
theorem leave_spec {h : Hs} (hf : h.fault = 0) : Inc h.clips.length 0 h.leaveL ∧ h.canB h.leaveL = true ∧ ∀ t, Inc h.clips.length 0 t → h.canB t = true → shorterB t h.leaveL = false := by
  obtain ⟨r, hr⟩ := leaveO_some (h := h) (fun r hr => (off_parts (off_of hf r hr)).2.1)
  have hL : h.leaveL = r := by rw [Hs.leaveL, if_pos hf, hr]; rfl
  rw [hL]
  exact leaveO_spec hr
theorem leave_nil {h : Hs} (hf : h.fault = 0) : h.leaveL = [] ↔ h.truths ≠ [] := by
  obtain ⟨h1, h2, h3⟩ := leave_spec hf
  rw [← can_iff]
  constructor
  · intro hl
    rw [hl] at h2
    exact h2
  · intro hc
    have := h3 [] (inc_nil _ _) hc
    rw [← Bool.not_eq_true, short_iff] at this
    cases hl : h.leaveL with
    | nil => rfl
    | cons x l =>
      rw [hl] at this
      exact absurd (.inl (by simp)) this
theorem leave_min {h : Hs} (hf : h.fault = 0) {t : List Int} (ht : Inc h.clips.length 0 t) (hc : h.canB t = true) : h.leaveL.length ≤ t.length := by
  have := (leave_spec hf).2.2 t ht hc
  rw [← Bool.not_eq_true, short_iff] at this
  omega
theorem prods_ne : ∀ (l : List Rg), (∀ r ∈ l, r.lo ≤ r.hi) → prods l ≠ []
  | [], _ => by simp [prods]
  | r :: l, h => by
    obtain ⟨e, he⟩ := List.exists_mem_of_ne_nil _ (prods_ne l fun x hx => h x (by simp [hx]))
    have h0 := h r (by simp)
    intro hn
    have : (r.lo + ((0 : Nat) : Int)) :: e ∈ prods (r :: l) := by
      simp only [prods, List.mem_flatMap, List.mem_range, List.mem_map]
      exact ⟨0, by unfold Rg.size; omega, e, he, rfl⟩
    rw [hn] at this
    cases this
end Go.Proofs.Ytcngnfnljkkjgaa
namespace Go.Proofs.Ytcngnfnljkkjgaa
open Go.RowKit

/-! Some of the clips. -/
def Hs.someC (h : Hs) (B : Int) (k : Nat) : List Cp := (List.range k).filterMap fun i => if bitI B i = true then h.clips[i]? else none
def Hs.someB (h : Hs) (B : Int) : Hs := { h with clips := h.someC B h.clips.length }
theorem someC_step {h : Hs} {B : Int} {k : Nat} {c : Cp} (hc : h.clips[k]? = some c) : h.someC B (k + 1) = h.someC B k ++ (if bitI B k = true then [c] else []) := by
  unfold Hs.someC
  rw [List.range_succ, List.filterMap_append]
  congr 1
  by_cases hb : bitI B k = true
  · simp [hb, hc]
  · simp [hb]
theorem someC_sub {h : Hs} {B : Int} : ∀ k, k ≤ h.clips.length → (h.someC B k).Sublist (h.clips.take k)
  | 0, _ => by simp [Hs.someC]
  | k + 1, hk => by
    have ih := someC_sub (h := h) (B := B) k (by omega)
    have hc : h.clips[k]? = some h.clips[k] := List.getElem?_eq_getElem (by omega)
    rw [someC_step hc, List.take_add_one, hc]
    refine ih.append ?_
    split
    · simp
    · simp
theorem some_sub (h : Hs) (B : Int) : (h.someB B).clips.Sublist h.clips := by
  have := someC_sub (h := h) (B := B) h.clips.length (Nat.le_refl _)
  rwa [List.take_length] at this
theorem sub_fault {h x : Hs} (hf : h.fault = 0) (h1 : x.hour = h.hour) (h2 : x.grace = h.grace) (h3 : x.clocks = h.clocks) (h4 : x.tickets = h.tickets) (hs : x.clips.Sublist h.clips) : x.fault = 0 := by
  obtain ⟨f1, f2, f3, f4⟩ := fault_zero hf
  obtain ⟨a1, a2, a3, a4, a5⟩ := arg_iff.1 f2
  have hl := hs.length_le
  refine fault_of ?_ (arg_iff.2 ⟨by rw [h1]; exact a1, by rw [h2]; exact a2, by rw [h3]; exact a3, by rw [h4]; exact a4, ?_⟩) ?_ (by rw [h3]; exact f4)
  · rw [small_iff] at *
    rw [h3, h4]
    omega
  · rw [List.all_eq_true] at *
    intro c hc
    have := a5 c (hs.subset hc)
    simpa [Hs.clipB, Hs.ticketB, h3, h4] using this
  · rw [Hs.twoB, List.all_eq_true] at *
    rw [h4]
    intro i hi
    have := f3 i hi
    rw [decide_eq_true_eq] at *
    exact Nat.le_trans (hs.filter _).length_le this
theorem some_fault {h : Hs} (hf : h.fault = 0) (B : Int) : (h.someB B).fault = 0 := sub_fault hf rfl rfl rfl rfl (some_sub h B)
theorem some_rising (h : Hs) (B : Int) (e : List Int) : (h.someB B).risingB e [] = h.risR e B := by
  rw [Bool.eq_iff_iff, Hs.risingB, kept_all, nondec_pair, List.pairwise_map, ris_iff]
  show (h.someC B h.clips.length).Pairwise _ ↔ _
  unfold Hs.someC
  rw [List.pairwise_filterMap, List.pairwise_iff_getElem]
  simp only [List.length_range, List.getElem_range]
  constructor
  · intro h1 k i hki hi bk bi
    have := h1 k i (by omega) hi hki h.clips[k] (by rw [if_pos bk]; exact List.getElem?_eq_getElem _) h.clips[i] (by rw [if_pos bi]; exact List.getElem?_eq_getElem _)
    rwa [tr_at hi, tr_at (Nat.lt_trans hki hi)]
  · intro h1 k i hk hi hki c hc d hd
    by_cases bk : bitI B k = true
    · by_cases bi : bitI B i = true
      · rw [if_pos bk, List.getElem?_eq_getElem hk] at hc
        rw [if_pos bi, List.getElem?_eq_getElem hi] at hd
        cases hc
        cases hd
        have := h1 k i hki hi bk bi
        rwa [tr_at hi, tr_at hk] at this
      · rw [if_neg bi] at hd
        cases hd
    · rw [if_neg bk] at hc
      cases hc
theorem some_can {h : Hs} (hf : h.fault = 0) (B : Int) : (h.someB B).canB [] = h.canR B := by
  rw [Hs.canR, nth_any hf (fun e => h.risR e B), Hs.canB]
  show (prods h.clocks).any _ = _
  congr 1
  funext e
  exact some_rising h B e
theorem some_ask {h : Hs} (hf : h.fault = 0) (B : Int) : (h.someB B).askE 0 = if h.canR B = true then 0 else 11 := by
  rw [ask_of_can (some_fault hf B), some_can hf]
theorem can_none {h : Hs} (hf : h.fault = 0) : h.canR 0 = true := by
  rw [Hs.canR, nth_any hf (fun e => h.risR e 0), List.any_eq_true]
  obtain ⟨e, he⟩ := List.exists_mem_of_ne_nil _ (prods_ne h.clocks fun r hr => (off_parts (off_of hf r hr)).2.1)
  refine ⟨e, he, ris_iff.2 fun k i hki hi bk bi => ?_⟩
  have : bitI 0 k = false := by simp [bitI]
  rw [this] at bk
  cases bk
/-- The first wrong clip. -/
theorem first_some {h : Hs} (hf : h.fault = 0) {k : Nat} (hk : h.firstO = some k) : k < h.clips.length ∧ (h.someB (2 ^ k - 1)).askE 0 = 0 ∧ (h.someB (2 * 2 ^ k - 1)).askE 0 = 11 := by
  rw [Hs.firstO, List.find?_eq_some_iff_append] at hk
  obtain ⟨hg, ls, ms, hr, hall⟩ := hk
  have hlt : k < h.clips.length := List.mem_range.1 (by rw [hr]; simp)
  have hbefore : ∀ j, j < k → h.goodAt j = true := by
    intro j hj
    have hsort : (ls ++ k :: ms).Pairwise (· < ·) := by rw [← hr]; exact List.pairwise_lt_range
    have hm : j ∈ ls ++ k :: ms := by rw [← hr]; exact List.mem_range.2 (by omega)
    rcases List.mem_append.1 hm with hm | hm
    · simpa using hall j hm
    · rcases List.mem_cons.1 hm with rfl | hm
      · omega
      · have := (List.pairwise_cons.1 (List.pairwise_append.1 hsort).2.1).1 j hm
        omega
  have h1 : h.canR (2 * 2 ^ k - 1) = false := by
    have := first_good hf hlt
    rw [Hs.firstAt] at this
    rw [this]
    simpa using hg
  have h2 : h.canR (2 ^ k - 1) = true := by
    cases k with
    | zero => simpa using can_none hf
    | succ j =>
      have := first_good hf (show j < h.clips.length by omega)
      rw [Hs.firstAt, hbefore j (by omega)] at this
      rwa [Int.pow_succ, Int.mul_comm]
  refine ⟨hlt, ?_, ?_⟩
  · rw [some_ask hf, if_pos h2]
  · rw [some_ask hf, if_neg (by rw [h1]; decide)]
theorem upto_full (h : Hs) {k : Nat} (hk : h.clips.length ≤ k) : h.upto k = h := by
  unfold Hs.upto
  rw [List.take_of_length_le hk]
theorem first_none {h : Hs} (hf : h.fault = 0) (hn : h.firstO = none) : h.askE 0 = 0 := by
  rw [ask_of_can hf, if_pos]
  rw [Hs.firstO, List.find?_eq_none] at hn
  cases hl : h.clips.length with
  | zero =>
    rw [← upto_full h (k := 0) (by omega), Hs.canB, List.any_eq_true]
    obtain ⟨e, he⟩ := List.exists_mem_of_ne_nil _ (prods_ne h.clocks fun r hr => (off_parts (off_of hf r hr)).2.1)
    exact ⟨e, he, by simp [Hs.risingB, Hs.upto, keptM, nondec]⟩
  | succ k =>
    have := hn k (List.mem_range.2 (by omega))
    rw [Hs.goodAt, upto_full h (by omega)] at this
    simpa using this
/-- The smallest set. -/
theorem left_bits {h : Hs} (hf : h.fault = 0) : encS h.leaveL < 2 ^ h.clips.length ∧ (h.someB (h.fullB - (encS h.leaveL : Nat))).askE 0 = 0 := by
  obtain ⟨h1, h2, h3⟩ := leave_spec hf
  have hp : h.clips.length ≤ 10 := (small_iff.1 (fault_zero hf).1).2.2
  have hlt : encS h.leaveL < 2 ^ h.clips.length := enc_lt fun x hx => by have := h1.2 x hx; omega
  refine ⟨hlt, ?_⟩
  rw [some_ask hf, can_bits hf hlt, bits_enc (n := h.clips.length) (by omega) h1, if_pos h2]
theorem left_try {h : Hs} (hf : h.fault = 0) {b : Nat} (hb : b < 2 ^ h.clips.length) : (h.someB (h.fullB - (b : Nat))).askE 0 = 11 ∨ ((h.someB (h.fullB - (b : Nat))).askE 0 = 0 ∧ shorterB (bitsL (b : Int)) h.leaveL = false) := by
  rw [some_ask hf, can_bits hf hb]
  by_cases hc : h.canB (bitsL (b : Int)) = true
  · rw [if_pos hc]
    exact .inr ⟨rfl, (leave_spec hf).2.2 _ (bits_inc hb) hc⟩
  · rw [if_neg hc]
    exact .inl rfl
end Go.Proofs.Ytcngnfnljkkjgaa
namespace Go.Proofs.Ytcngnfnljkkjgaa
open Go.RowKit

/-! One tub. -/
theorem clash_symm (h : Hs) (e : List Int) (a b : Nat) : h.clashB e a b = h.clashB e b a := by
  unfold Hs.clashB
  rw [Bool.and_comm (beforeB e (h.ofs (a : Int)) (h.ofs (b : Int)))]
  have : (h.tubAt a == h.tubAt b) = (h.tubAt b == h.tubAt a) := by
    rw [Bool.eq_iff_iff, beq_iff_eq, beq_iff_eq]
    exact eq_comm
  rw [this]
  cases (h.ofs (a : Int)).isEmpty <;> cases (h.ofs (b : Int)).isEmpty <;> simp
theorem clashV_symm (h : Hs) {a b : Nat} (ha : a < h.tickets.length) (hb : b < h.tickets.length) (hab : a ≠ b) (ha0 : h.askE 0 = 0) : h.clashE (a : Int) (b : Int) = 0 ∧ h.clashE (b : Int) (a : Int) = 0 ∧
    h.clashV (a : Int) (b : Int) = verdictB h.truths (fun e => h.clashB e a b) ∧ h.clashV (b : Int) (a : Int) = verdictB h.truths (fun e => h.clashB e a b) := by
  have h1 : h.ticketB (a : Int) = true := by simp [Hs.ticketB, inB]; omega
  have h2 : h.ticketB (b : Int) = true := by simp [Hs.ticketB, inB]; omega
  have h3 : ¬ ((a : Int) = (b : Int)) := by omega
  have h4 : ¬ ((b : Int) = (a : Int)) := by omega
  have e1 : h.clashE (a : Int) (b : Int) = 0 := by simp [Hs.clashE, Hs.clashDue, h1, h2, h3, ha0]
  have e2 : h.clashE (b : Int) (a : Int) = 0 := by simp [Hs.clashE, Hs.clashDue, h1, h2, h4, ha0]
  refine ⟨e1, e2, by simp [Hs.clashV, e1], ?_⟩
  simp only [Hs.clashV, e2, if_true, Int.toNat_natCast]
  congr 1
  funext e
  exact clash_symm h e b a
theorem clash_ask (h : Hs) {a b : Nat} (ha : a < h.tickets.length) (hb : b < h.tickets.length) (hab : a ≠ b) : h.clashE (a : Int) (b : Int) = h.askE 0 := by
  have h1 : h.ticketB (a : Int) = true := by simp [Hs.ticketB, inB]; omega
  have h2 : h.ticketB (b : Int) = true := by simp [Hs.ticketB, inB]; omega
  have h3 : ¬ ((a : Int) = (b : Int)) := by omega
  simp [Hs.clashE, Hs.clashDue, h1, h2, h3]
theorem clash_tubs {h : Hs} {a b : Nat} (hne : h.tubAt a ≠ h.tubAt b) (ht : h.truths ≠ []) : verdictB h.truths (fun e => h.clashB e a b) = 2 := by
  rw [verdict_two ht]
  intro e _
  have : (h.tubAt a == h.tubAt b) = false := by simpa using hne
  simp [Hs.clashB, this]
/-- What is steady. -/
def steadyB (v : Int) (b : Bool) : Bool := inB v 1 3 && ((v != 1 || b) && (v != 2 || !b))
theorem steady_at {l : List (List Int)} {p : List Int → Bool} {e : List Int} (he : e ∈ l) : steadyB (verdictB l p) (p e) = true := by
  have hl : l ≠ [] := List.ne_nil_of_mem he
  rcases verdict_cases l p with h1 | h1 | h1
  · have := verdict_one.1 h1 e he
    rw [h1, this]
    decide
  · have := (verdict_two hl).1 h1 e he
    rw [h1, this]
    decide
  · rw [h1]
    cases p e <;> decide
/-- The greatest true minute of the clips of a tub's tickets. -/
def Hs.tubMax (h : Hs) (e : List Int) (tub : Int) (k : Nat) : Int := (List.range k).foldl (fun n i => match h.clips[i]? with
  | some c => if h.tubAt c.tk.toNat = tub then max n (tru e c) else n
  | none => n) 0
theorem tubMax_step {h : Hs} {e : List Int} {tub : Int} {k : Nat} {c : Cp} (hc : h.clips[k]? = some c) : h.tubMax e tub (k + 1) = if h.tubAt c.tk.toNat = tub then max (h.tubMax e tub k) (tru e c) else h.tubMax e tub k := by
  unfold Hs.tubMax
  rw [List.range_succ, List.foldl_append]
  simp only [List.foldl_cons, List.foldl_nil, hc]
theorem tubMax_spec (h : Hs) (e : List Int) (tub : Int) : ∀ k, k ≤ h.clips.length → 0 ≤ h.tubMax e tub k ∧ (∀ i c, i < k → h.clips[i]? = some c → h.tubAt c.tk.toNat = tub → tru e c ≤ h.tubMax e tub k) ∧ (h.tubMax e tub k = 0 ∨ ∃ i c, i < k ∧ h.clips[i]? = some c ∧ h.tubAt c.tk.toNat = tub ∧ h.tubMax e tub k = tru e c)
  | 0, _ => ⟨Int.le_refl _, fun i c hi => absurd hi (Nat.not_lt_zero _), .inl rfl⟩
  | k + 1, hk => by
    obtain ⟨h1, h2, h3⟩ := tubMax_spec h e tub k (by omega)
    have hc : h.clips[k]? = some h.clips[k] := List.getElem?_eq_getElem (by omega)
    rw [tubMax_step hc]
    by_cases ht : h.tubAt h.clips[k].tk.toNat = tub
    · rw [if_pos ht]
      refine ⟨by omega, fun i c hi hic hct => ?_, ?_⟩
      · rcases Nat.lt_succ_iff_lt_or_eq.1 hi with hi | rfl
        · have := h2 i c hi hic hct
          omega
        · rw [hc] at hic
          cases hic
          omega
      · by_cases hm : h.tubMax e tub k ≤ tru e h.clips[k]
        · exact .inr ⟨k, _, by omega, hc, ht, by omega⟩
        · rcases h3 with h3 | ⟨i, c, hi, hic, hct, hx⟩
          · exact .inl (by omega)
          · exact .inr ⟨i, c, by omega, hic, hct, by omega⟩
    · rw [if_neg ht]
      refine ⟨h1, fun i c hi hic hct => ?_, ?_⟩
      · rcases Nat.lt_succ_iff_lt_or_eq.1 hi with hi | rfl
        · exact h2 i c hi hic hct
        · rw [hc] at hic
          cases hic
          exact absurd hct ht
      · rcases h3 with h3 | ⟨i, c, hi, hic, hct, hx⟩
        · exact .inl h3
        · exact .inr ⟨i, c, by omega, hic, hct, hx⟩
theorem fold_from (h : Hs) (e : List Int) (tub : Int) : ∀ k, k ≤ h.tickets.length → 0 ≤ (List.range k).foldl (h.fromAt e tub) 0 ∧ (∀ i x, i < k → h.tickets[i]? = some x → x.tub = tub → (h.ofs (i : Int)).length = 2 → tru e ((h.ofs (i : Int)).getD 1 ⟨0, 0, 0⟩) ≤ (List.range k).foldl (h.fromAt e tub) 0) ∧
    ((List.range k).foldl (h.fromAt e tub) 0 = 0 ∨ ∃ i x, i < k ∧ h.tickets[i]? = some x ∧ x.tub = tub ∧ (h.ofs (i : Int)).length = 2 ∧ (List.range k).foldl (h.fromAt e tub) 0 = tru e ((h.ofs (i : Int)).getD 1 ⟨0, 0, 0⟩))
  | 0, _ => ⟨Int.le_refl _, fun i c hi => absurd hi (Nat.not_lt_zero _), .inl rfl⟩
  | k + 1, hk => by
    obtain ⟨h1, h2, h3⟩ := fold_from h e tub k (by omega)
    have hc : h.tickets[k]? = some h.tickets[k] := List.getElem?_eq_getElem (by omega)
    have hs : (List.range (k + 1)).foldl (h.fromAt e tub) 0 = h.fromAt e tub ((List.range k).foldl (h.fromAt e tub) 0) k := by
      rw [List.range_succ, List.foldl_append]
      rfl
    obtain ⟨N, hN⟩ : ∃ N, N = (List.range k).foldl (h.fromAt e tub) 0 := ⟨_, rfl⟩
    rw [hs]
    rw [← hN] at h1 h2 h3 ⊢
    have hstep : h.fromAt e tub N k = if h.tickets[k].tub = tub ∧ (h.ofs (k : Int)).length = 2 then max N (tru e ((h.ofs (k : Int)).getD 1 ⟨0, 0, 0⟩)) else N := by
      unfold Hs.fromAt
      rw [hc]
    rw [hstep]
    by_cases ht : h.tickets[k].tub = tub ∧ (h.ofs (k : Int)).length = 2
    · rw [if_pos ht]
      refine ⟨by omega, fun i c hi hic hct hl => ?_, ?_⟩
      · rcases Nat.lt_succ_iff_lt_or_eq.1 hi with hi | rfl
        · have := h2 i c hi hic hct hl
          omega
        · omega
      · by_cases hm : N ≤ tru e ((h.ofs (k : Int)).getD 1 ⟨0, 0, 0⟩)
        · exact .inr ⟨k, _, by omega, hc, ht.1, ht.2, by omega⟩
        · rcases h3 with h3 | ⟨i, c, hi, hic, hct, hl, hx⟩
          · exact .inl (by omega)
          · exact .inr ⟨i, c, by omega, hic, hct, hl, by omega⟩
    · rw [if_neg ht]
      refine ⟨h1, fun i c hi hic hct hl => ?_, ?_⟩
      · rcases Nat.lt_succ_iff_lt_or_eq.1 hi with hi | rfl
        · exact h2 i c hi hic hct hl
        · rw [hc] at hic
          cases hic
          exact absurd ⟨hct, hl⟩ ht
      · rcases h3 with h3 | ⟨i, c, hi, hic, hct, hl, hx⟩
        · exact .inl h3
        · exact .inr ⟨i, c, by omega, hic, hct, hl, hx⟩
theorem open_false {h : Hs} {tub : Int} (ho : h.openB tub = false) {i : Nat} {x : Tk} (hx : h.tickets[i]? = some x) (ht : x.tub = tub) : (h.ofs (i : Int)).length ≠ 1 := by
  rw [Hs.openB, List.any_eq_false] at ho
  have hi : i < h.tickets.length := by
    rcases Nat.lt_or_ge i h.tickets.length with hh | hh
    · exact hh
    · rw [List.getElem?_eq_none hh] at hx
      cases hx
  have := ho i (List.mem_range.2 hi)
  unfold Hs.openAt at this
  rw [hx] at this
  simpa [ht] using this
theorem tub_from {h : Hs} (hf : h.fault = 0) {e : List Int} (he : e ∈ h.truths) {tub : Int} (ho : h.openB tub = false) : h.tubMax e tub h.clips.length = h.fromB e tub := by
  obtain ⟨a1, a2, a3⟩ := tubMax_spec h e tub h.clips.length (Nat.le_refl _)
  obtain ⟨b1, b2, b3⟩ := fold_from h e tub h.tickets.length (Nat.le_refl _)
  change 0 ≤ h.fromB e tub at b1
  change ∀ i x, i < h.tickets.length → h.tickets[i]? = some x → x.tub = tub → (h.ofs (i : Int)).length = 2 → tru e ((h.ofs (i : Int)).getD 1 ⟨0, 0, 0⟩) ≤ h.fromB e tub at b2
  change h.fromB e tub = 0 ∨ ∃ i x, i < h.tickets.length ∧ h.tickets[i]? = some x ∧ x.tub = tub ∧ (h.ofs (i : Int)).length = 2 ∧ h.fromB e tub = tru e ((h.ofs (i : Int)).getD 1 ⟨0, 0, 0⟩) at b3
  have hr := (mem_truths.1 he).2
  apply Int.le_antisymm
  · rcases a3 with a3 | ⟨i, c, hi, hic, hct, hx⟩
    · omega
    · have hcm := List.mem_of_getElem? hic
      obtain ⟨g1, g2, -⟩ := fault_clips hf hcm
      obtain ⟨t, ht⟩ : ∃ t : Nat, (t : Int) = c.tk := ⟨c.tk.toNat, by omega⟩
      have htl : t < h.tickets.length := by omega
      have hgt : h.tickets[t]? = some h.tickets[t] := List.getElem?_eq_getElem htl
      have htub : h.tickets[t].tub = tub := by
        rw [← hct, ← ht, Int.toNat_natCast, Hs.tubAt, hgt]
      have hmo : c ∈ h.ofs (t : Int) := List.mem_filter.2 ⟨hcm, by simp [ht]⟩
      have hle2 : (h.ofs (t : Int)).length ≤ 2 := by
        have := (fault_zero hf).2.2.1
        rw [Hs.twoB, List.all_eq_true] at this
        simpa using this t (List.mem_range.2 htl)
      have hne1 := open_false ho hgt htub
      have hpos := List.length_pos_of_mem hmo
      have hl2 : (h.ofs (t : Int)).length = 2 := by omega
      have h2 := b2 t _ htl hgt htub hl2
      rw [hx]
      refine Int.le_trans ?_ h2
      have hpw : (h.ofs (t : Int)).Pairwise fun c d => tru e c ≤ tru e d := by
        rw [Hs.risingB, kept_all, nondec_pair, List.pairwise_map] at hr
        exact hr.filter _
      cases ho2 : h.ofs (t : Int) with
      | nil => rw [ho2] at hl2; cases hl2
      | cons c0 l =>
        cases l with
        | nil => rw [ho2] at hl2; cases hl2
        | cons c1 l =>
          rw [ho2] at hpw hmo hl2
          have : l = [] := List.eq_nil_of_length_eq_zero (by simpa using hl2)
          subst this
          show tru e c ≤ tru e c1
          simp only [List.mem_cons, List.not_mem_nil, or_false] at hmo
          rcases hmo with rfl | rfl
          · exact (List.pairwise_cons.1 hpw).1 c1 (by simp)
          · exact Int.le_refl _
  · rcases b3 with b3 | ⟨i, x, hi, hix, hxt, hl, hx⟩
    · omega
    · rw [hx]
      obtain ⟨c, hc⟩ : ∃ c, (h.ofs (i : Int))[1]? = some c := ⟨_, List.getElem?_eq_getElem (by omega)⟩
      have hd : (h.ofs (i : Int)).getD 1 ⟨0, 0, 0⟩ = c := by rw [List.getD_eq_getElem?_getD, hc]; rfl
      rw [hd]
      obtain ⟨hm, hk⟩ := List.mem_filter.1 (List.mem_of_getElem? hc)
      obtain ⟨j, hj⟩ := List.mem_iff_getElem?.1 hm
      have hjl : j < h.clips.length := (List.getElem?_eq_some_iff.1 hj).1
      refine a2 j c hjl hj ?_
      have hk : c.tk = (i : Int) := by simpa using hk
      rw [hk, Int.toNat_natCast, Hs.tubAt, hix]
      exact hxt
end Go.Proofs.Ytcngnfnljkkjgaa
namespace Go.Proofs.Ytcngnfnljkkjgaa
open Go.RowKit

/-! In each truth. -/
theorem upto_rising {h : Hs} {e : List Int} (hr : h.risingB e [] = true) (k : Nat) : (h.upto k).risingB e [] = true := by
  rw [Hs.risingB, kept_all, nondec_pair, List.pairwise_map] at *
  exact hr.sublist (List.take_sublist _ _)
theorem truth_first {h : Hs} (ht : h.truths ≠ []) : h.firstO = none := by
  obtain ⟨e, he⟩ := List.exists_mem_of_ne_nil _ ht
  obtain ⟨h1, h2⟩ := mem_truths.1 he
  rw [Hs.firstO, List.find?_eq_none]
  intro k _
  have : h.goodAt k = true := by
    rw [Hs.goodAt, Hs.canB, List.any_eq_true]
    exact ⟨e, h1, upto_rising h2 _⟩
  rw [this]
  decide
theorem truth_firstE {h : Hs} (hf : h.fault = 0) (ht : h.truths ≠ []) : h.firstE = 7 := by
  unfold Hs.firstE
  rw [truth_first ht]
  simp [hf]
theorem are_errs {h : Hs} (hf : h.fault = 0) {e : List Int} (he : e ∈ prods h.clocks) : areErrB h e = true := by
  have a : ∀ y ∈ h.clocks, y.lo ≤ y.hi := fun y hy => (off_parts (off_of hf y hy)).2.1
  obtain ⟨h1, h2⟩ := (mem_prods a).1 he
  unfold areErrB
  rw [Bool.and_eq_true, decide_eq_true_eq, List.all_eq_true]
  refine ⟨h1, fun i hi => ?_⟩
  have hi := List.mem_range.1 hi
  have hi2 : i < h.clocks.length := by omega
  have := h2 i hi2 _ (List.getElem?_eq_getElem hi2)
  rw [List.getElem?_eq_getElem hi2]
  simpa [inB] using this
theorem truth_prove {h : Hs} (hf : h.fault = 0) {e : List Int} (he : e ∈ h.truths) : h.proveB e = true := by
  obtain ⟨h1, h2⟩ := mem_truths.1 he
  simp [Hs.proveB, hf, are_errs hf h1, h2]
theorem truth_in_clock {h : Hs} {e : List Int} (he : e ∈ h.truths) (k : Nat) : (h.clockR k).lo ≤ err e (k : Int) ∧ err e (k : Int) ≤ (h.clockR k).hi := by
  simp only [Hs.clockR]
  exact ⟨lo_le (f := fun e => err e (k : Int)) he, le_hi (f := fun e => err e (k : Int)) he⟩
theorem truth_in_hour {h : Hs} {e : List Int} (he : e ∈ h.truths) (k : Nat) : (h.hourR k).lo ≤ h.hoursB e (k : Int) ∧ h.hoursB e (k : Int) ≤ (h.hourR k).hi := by
  simp only [Hs.hourR]
  exact ⟨lo_le (f := fun e => h.hoursB e (k : Int)) he, le_hi (f := fun e => h.hoursB e (k : Int)) he⟩
/-! Both ends. -/
theorem ends_clock {h : Hs} (ha : h.askE 0 = 0) (k : Nat) : (∃ e ∈ h.truR, err e (k : Int) = (h.clockR k).lo) ∧ (∃ e ∈ h.truR, err e (k : Int) = (h.clockR k).hi) := by
  obtain ⟨hf, -, hne⟩ := askE_zero ha
  obtain ⟨e, he, hx⟩ := lo_at (f := fun e => err e (k : Int)) hne
  obtain ⟨d, hd, hy⟩ := hi_at (f := fun e => err e (k : Int)) hne
  exact ⟨⟨e, (mem_truR hf e).2 he, hx.symm⟩, ⟨d, (mem_truR hf d).2 hd, hy.symm⟩⟩
theorem ends_hour {h : Hs} (ha : h.askE 0 = 0) (k : Nat) : (∃ e ∈ h.truR, h.hoursB e (k : Int) = (h.hourR k).lo) ∧ (∃ e ∈ h.truR, h.hoursB e (k : Int) = (h.hourR k).hi) := by
  obtain ⟨hf, -, hne⟩ := askE_zero ha
  obtain ⟨e, he, hx⟩ := lo_at (f := fun e => h.hoursB e (k : Int)) hne
  obtain ⟨d, hd, hy⟩ := hi_at (f := fun e => h.hoursB e (k : Int)) hne
  exact ⟨⟨e, (mem_truR hf e).2 he, hx.symm⟩, ⟨d, (mem_truR hf d).2 hd, hy.symm⟩⟩
end Go.Proofs.Ytcngnfnljkkjgaa
namespace Go.Proofs.Ytcngnfnljkkjgaa
open Go.RowKit
attribute [local go_sem] cell_later frozen_later lt_later le_later

theorem in_calls (n lo hi : Int) (w : World) (h1 : lo ≤ n) (h2 : n ≤ hi) : Calls Try.prog 61 #[.int .i64 n, .agg #[.int .i64 lo, .int .i64 hi]] w (Ret (.bool true) w) := by
  go_enter Try.func61, Try.ntmps61
  go_wp2
  go_ret
  exact ret_mk rfl (by repeat (first | exact Below.refl _ _ | (with_reducible assumption) | apply gL | apply gA | apply gD | apply gN | (refine gS ?_ (by first | (simp; done) | (simp; omega) | omega))))

set_option maxHeartbeats 1000000 in
theorem inside_calls (A B : Option Addr) (c d : Nat) (a b : List Rg) (w : World) (HA : SlA w 2 gR A c a) (HB : SlA w 2 gR B d b) (hl : a.length = b.length)
    (hin : ∀ (i : Nat) (x y : Rg), a[i]? = some x → b[i]? = some y → y.lo ≤ x.lo ∧ x.hi ≤ y.hi) :
    Calls Try.prog 52 #[.slice A a.length c, .slice B b.length d] w (Ret (.bool true) w) := by
  have ha := HA.2.1
  have hb := HB.2.1
  have hl1 : ((a.length : Int) != (b.length : Int)) = false := by simp [hl]
  have HL := Lib.hid hl
  have HIN := Lib.hid hin
  clear hl hin
  go_enter Try.func52, Try.ntmps52
  go_wp2
  go_loopw [5] (fun i wr => ∃ k : Nat, k ≤ a.length ∧ i = .int .i64 k ∧ ∃ x, wr = later w x) (fun i _ => a.length - (intOf i).toNat)
  case atStart => exact ⟨0, Nat.zero_le _, rfl, later_ex (Below.refl _ _)⟩
  case round =>
    obtain ⟨k, hk, rfl, x, rfl⟩ := hrel
    by_cases hlt : k < a.length
    · have hlt1 : (k : Int) < (a.length : Int) := by omega
      have hlt2 : (k : Int) < (b.length : Int) := by have := HL.out; omega
      have hk0 : (0 : Int) ≤ (k : Int) := Int.natCast_nonneg _
      obtain ⟨p, off, y, rfl, hpl, hy, s0, s1⟩ := HA.atR hlt
      obtain ⟨q, ofq, z, rfl, hql, hz, t0, t1⟩ := HB.atR (i := k) (by omega)
      obtain ⟨g1, g2⟩ := HIN.out k y z hy hz
      have g3 : decide (y.lo < z.lo) = false := decide_eq_false (by omega)
      have g4 : decide (z.hi < y.hi) = false := decide_eq_false (by omega)
      clear hy hz
      go_wp2
      refine region_later (by kernel_rfl) (by kernel_rfl) ?_
      repeat (go_big_quiet_step (fail))
      refine wpQuiet_nil ?_
      rintro W' ⟨u, rfl⟩
      go_wp2
      go_roundw
      case rel => exact ⟨k + 1, by omega, by go_num, later_ex (by repeat (first | exact Below.refl _ _ | (with_reducible assumption) | apply gL | apply gA | apply gD | apply gN | (refine gS ?_ (by first | (simp; done) | (simp; omega) | omega))))⟩
      case measure => simp [intOf]; omega
    · obtain rfl : k = a.length := by omega
      go_wp2
      go_ret
      exact ret_mk rfl (by repeat (first | exact Below.refl _ _ | (with_reducible assumption) | apply gL | apply gA | apply gD | apply gN | (refine gS ?_ (by first | (simp; done) | (simp; omega) | omega))))

set_option maxHeartbeats 1000000 in
theorem kept_calls (A B : Option Addr) (c d : Nat) (a b : List Int) (w : World) (HA : SlA w 1 gI A c a) (HB : SlA w 1 gI B d b) (hl : a.length = b.length)
    (hin : ∀ (i : Nat) (x y : Int), a[i]? = some x → b[i]? = some y → x ≠ 3 → y = x) :
    Calls Try.prog 53 #[.slice A a.length c, .slice B b.length d] w (Ret (.bool true) w) := by
  have ha := HA.2.1
  have hb := HB.2.1
  have hl1 : ((a.length : Int) == (b.length : Int)) = true := by simp [hl]
  have HL := Lib.hid hl
  have HIN := Lib.hid hin
  clear hl hin
  go_enter Try.func53, Try.ntmps53
  go_wp2
  go_loopw [5] (fun i wr => ∃ k : Nat, k ≤ a.length ∧ i = .int .i64 k ∧ ∃ x, wr = later w x) (fun i _ => a.length - (intOf i).toNat)
  case atStart => exact ⟨0, Nat.zero_le _, rfl, later_ex (Below.refl _ _)⟩
  case round =>
    obtain ⟨k, hk, rfl, x, rfl⟩ := hrel
    by_cases hlt : k < a.length
    · have hlt1 : (k : Int) < (a.length : Int) := by omega
      have hlt2 : (k : Int) < (b.length : Int) := by have := HL.out; omega
      have hk0 : (0 : Int) ≤ (k : Int) := Int.natCast_nonneg _
      obtain ⟨p, off, y, rfl, hpl, hy, s0⟩ := HA.atI hlt
      obtain ⟨q, ofq, z, rfl, hql, hz, t0⟩ := HB.atI (i := k) (by omega)
      have g1 := HIN.out k y z hy hz
      by_cases h3 : y = 3
      · have h31 : (y != 3) = false := by simp [h3]
        clear hy hz g1 h3
        go_wp2
        refine region_later (by kernel_rfl) (by kernel_rfl) ?_
        repeat (go_big_quiet_step (fail))
        refine wpQuiet_nil ?_
        rintro W' ⟨u, rfl⟩
        go_wp2
        go_roundw
        case rel => exact ⟨k + 1, by omega, by go_num, later_ex (by repeat (first | exact Below.refl _ _ | (with_reducible assumption) | apply gL | apply gA | apply gD | apply gN | (refine gS ?_ (by first | (simp; done) | (simp; omega) | omega))))⟩
        case measure => simp [intOf]; omega
      · have h31 : (y != 3) = true := by simpa using h3
        have h32 : (y != z) = false := by simp [g1 h3]
        clear hy hz g1 h3
        go_wp2
        refine region_later (by kernel_rfl) (by kernel_rfl) ?_
        repeat (go_big_quiet_step (fail))
        refine wpQuiet_nil ?_
        rintro W' ⟨u, rfl⟩
        go_wp2
        go_roundw
        case rel => exact ⟨k + 1, by omega, by go_num, later_ex (by repeat (first | exact Below.refl _ _ | (with_reducible assumption) | apply gL | apply gA | apply gD | apply gN | (refine gS ?_ (by first | (simp; done) | (simp; omega) | omega))))⟩
        case measure => simp [intOf]; omega
    · obtain rfl : k = a.length := by omega
      go_wp2
      go_ret
      exact ret_mk rfl (by repeat (first | exact Below.refl _ _ | (with_reducible assumption) | apply gL | apply gA | apply gD | apply gN | (refine gS ?_ (by first | (simp; done) | (simp; omega) | omega))))

theorem steady_cases {v : Int} {b : Bool} (h : steadyB v b = true) : (v = 1 ∧ b = true) ∨ (v = 2 ∧ b = false) ∨ v = 3 := by
  simp only [steadyB, Bool.and_eq_true, inB_iff, Bool.or_eq_true, bne_iff_ne, ne_eq, Bool.not_eq_true'] at h
  obtain ⟨⟨h1, h2⟩, h3, h4⟩ := h
  by_cases e1 : v = 1
  · rcases h3 with h3 | h3
    · exact absurd e1 h3
    · exact .inl ⟨e1, h3⟩
  · by_cases e2 : v = 2
    · rcases h4 with h4 | h4
      · exact absurd e2 h4
      · exact .inr (.inl ⟨e2, h4⟩)
    · exact .inr (.inr (by omega))
theorem steady_calls (v : Int) (b : Bool) (w : World) (h : steadyB v b = true) : Calls Try.prog 59 #[.int .i64 v, .bool b] w (Ret (.bool true) w) := by
  rcases steady_cases h with ⟨rfl, rfl⟩ | ⟨rfl, rfl⟩ | rfl
  · go_enter Try.func59, Try.ntmps59
    go_wp2_with (fail)
    refine (refin_calls _ _ _ _).mono ?_
    rw [show inB 1 1 3 = true from rfl]
    (rintro e w' hr; first | ((with_reducible replace hr := Ret.up hr); obtain ⟨rfl, z, rfl⟩ := hr) | (obtain ⟨rfl, z, rfl⟩ := hr))
    go_wp2
    go_ret
    exact ret_mk rfl (by repeat (first | exact Below.refl _ _ | (with_reducible assumption) | apply gL | apply gA | apply gD | apply gN | (refine gS ?_ (by first | (simp; done) | (simp; omega) | omega))))
  · go_enter Try.func59, Try.ntmps59
    go_wp2_with (fail)
    refine (refin_calls _ _ _ _).mono ?_
    rw [show inB 2 1 3 = true from rfl]
    (rintro e w' hr; first | ((with_reducible replace hr := Ret.up hr); obtain ⟨rfl, z, rfl⟩ := hr) | (obtain ⟨rfl, z, rfl⟩ := hr))
    go_wp2
    go_ret
    exact ret_mk rfl (by repeat (first | exact Below.refl _ _ | (with_reducible assumption) | apply gL | apply gA | apply gD | apply gN | (refine gS ?_ (by first | (simp; done) | (simp; omega) | omega))))
  · cases b <;>
    · go_enter Try.func59, Try.ntmps59
      go_wp2_with (fail)
      refine (refin_calls _ _ _ _).mono ?_
      rw [show inB 3 1 3 = true from rfl]
      (rintro e w' hr; first | ((with_reducible replace hr := Ret.up hr); obtain ⟨rfl, z, rfl⟩ := hr) | (obtain ⟨rfl, z, rfl⟩ := hr))
      go_wp2
      go_ret
      exact ret_mk rfl (by repeat (first | exact Below.refl _ _ | (with_reducible assumption) | apply gL | apply gA | apply gD | apply gN | (refine gS ?_ (by first | (simp; done) | (simp; omega) | omega))))
end Go.Proofs.Ytcngnfnljkkjgaa
