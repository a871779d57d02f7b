/-
The plain words, more: lists that do not decrease; the clips that are kept; the errors of the clocks, one after the other; truths.
-/
import Derived.Test.YtcngnfnljkkjgaaTkPure
namespace Go.Proofs.Ytcngnfnljkkjgaa

/-- A list that does not decrease. -/
def nondec : List Int → Bool
  | [] => true
  | [_] => true
  | a :: b :: l => decide (a ≤ b) && nondec (b :: l)
theorem nondec_snoc : ∀ (l : List Int) (n : Int), nondec (l ++ [n]) = (nondec l && (l.isEmpty || decide (l.getLastD 0 ≤ n)))
  | [], n => by simp [nondec]
  | [a], n => by simp [nondec]
  | a :: b :: l, n => by
    have ih := nondec_snoc (b :: l) n
    simp only [List.cons_append] at ih ⊢
    simp only [nondec, ih]
    simp [Bool.and_assoc]

/-- The true minutes of the clips that are not left out. -/
def keptM (e : List Int) (out : List Int) (l : List Cp) : List Int := (l.zipIdx.filter fun p => !out.contains (p.2 : Int)).map fun p => tru e p.1
theorem keptM_snoc (e : List Int) (out : List Int) (l : List Cp) (c : Cp) : keptM e out (l ++ [c]) = keptM e out l ++ (if out.contains (l.length : Int) then [] else [tru e c]) := by
  unfold keptM
  rw [List.zipIdx_append, List.filter_append, List.map_append]
  simp only [List.zipIdx_singleton, Nat.zero_add, List.filter_cons, List.filter_nil]
  cases h : out.contains (l.length : Int) <;> simp
theorem idx_nonneg (l : List Int) (v : Int) : decide (0 ≤ idx l v) = l.contains v := by
  unfold idx
  cases h : l.findIdx? (· == v) with
  | none =>
    rw [List.findIdx?_eq_none_iff] at h
    have : l.contains v = false := by
      rw [Bool.eq_false_iff]
      intro hc
      rw [List.contains_iff_mem] at hc
      simpa using h v hc
    rw [this]
    decide
  | some i =>
    rw [List.findIdx?_eq_some_iff_getElem] at h
    obtain ⟨hi, h1, _⟩ := h
    have : l.contains v = true := by
      rw [List.contains_iff_mem]
      have : l[i] = v := by simpa using h1
      rw [← this]
      exact List.getElem_mem hi
    rw [this]
    simp
/-- Whether clips may be left out with some errors. -/
def Hs.risingB (h : Hs) (e : List Int) (out : List Int) : Bool := nondec (keptM e out h.clips)

/-- All errors of some clocks: the first clock's outermost. -/
def prods : List Rg → List (List Int)
  | [] => [[]]
  | r :: l => (List.range r.size.toNat).flatMap fun (n : Nat) => (prods l).map fun e => (r.lo + (n : Int)) :: e
def Hs.truths (h : Hs) : List (List Int) := (prods h.clocks).filter fun e => h.risingB e []
def Hs.canB (h : Hs) (out : List Int) : Bool := (prods h.clocks).any fun e => h.risingB e out

/-- Errors that are small. -/
def ErrOk (e : List Int) : Prop := ∀ i, -30 ≤ e.getD i 0 ∧ e.getD i 0 ≤ 30
/-- Clips by clocks 0 to 3, at a minute of a day. -/
def ClipsOk (l : List Cp) : Prop := ∀ c ∈ l, 0 ≤ c.ck ∧ c.ck < 4 ∧ 0 ≤ c.mn ∧ c.mn ≤ 1439

theorem inB_iff {n lo hi : Int} : inB n lo hi = true ↔ lo ≤ n ∧ n ≤ hi := by simp [inB]

theorem fault_zero {h : Hs} (hf : h.fault = 0) : h.smallB = true ∧ h.argB = true ∧ h.twoB = true ∧ manyTo h.clocks ≤ 2000 := by
  unfold Hs.fault at hf
  cases h1 : h.smallB <;> cases h2 : h.argB <;> cases h3 : h.twoB <;> simp [h1, h2, h3] at hf ⊢
  omega
theorem small_iff {h : Hs} : h.smallB = true ↔ h.clocks.length ≤ 4 ∧ h.tickets.length ≤ 6 ∧ h.clips.length ≤ 10 := by simp [Hs.smallB]
theorem arg_iff {h : Hs} : h.argB = true ↔ inB h.hour 1 120 = true ∧ inB h.grace 0 60 = true ∧ h.clocks.all Rg.offB = true ∧ h.tickets.all Tk.validB = true ∧ h.clips.all h.clipB = true := by simp [Hs.argB]
theorem fault_clips {h : Hs} (hf : h.fault = 0) {c : Cp} (hc : c ∈ h.clips) : 0 ≤ c.tk ∧ c.tk < h.tickets.length ∧ 0 ≤ c.ck ∧ c.ck < h.clocks.length ∧ 0 ≤ c.mn ∧ c.mn ≤ 1439 := by
  obtain ⟨_, h2, _, _⟩ := fault_zero hf
  obtain ⟨_, _, _, _, h5⟩ := arg_iff.1 h2
  have := List.all_eq_true.1 h5 c hc
  simp only [Hs.clipB, Hs.ticketB, Bool.and_eq_true, inB_iff] at this
  omega
theorem fault_clock {h : Hs} (hf : h.fault = 0) {r : Rg} (hr : r ∈ h.clocks) : -30 ≤ r.lo ∧ r.lo ≤ r.hi ∧ r.hi ≤ 30 := by
  obtain ⟨_, h2, _, _⟩ := fault_zero hf
  obtain ⟨_, _, h3, _, _⟩ := arg_iff.1 h2
  exact offB_iff.1 (List.all_eq_true.1 h3 r hr)
theorem clipsOk_of {h : Hs} (hf : h.fault = 0) : ClipsOk h.clips := fun c hc => by
  have h1 := fault_clips hf hc
  have h2 := small_iff.1 (fault_zero hf).1
  omega

/-- What comes out of the enumeration: one number of each range. -/
theorem mem_prods : ∀ {l : List Rg}, (∀ r ∈ l, r.lo ≤ r.hi) → ∀ {e : List Int}, e ∈ prods l ↔ e.length = l.length ∧ ∀ i, i < l.length → ∀ r, l[i]? = some r → r.lo ≤ e.getD i 0 ∧ e.getD i 0 ≤ r.hi
  | [], _, e => by
    simp only [prods, List.mem_singleton, List.length_nil]
    constructor
    · rintro rfl; simp
    · rintro ⟨h, _⟩; exact List.eq_nil_of_length_eq_zero h
  | r :: l, hl, e => by
    have ih := @mem_prods l (fun x hx => hl x (by simp [hx]))
    have h0 := hl r (by simp)
    simp only [prods, List.mem_flatMap, List.mem_range, List.mem_map]
    constructor
    · rintro ⟨n, hn, e', he', rfl⟩
      obtain ⟨h1, h2⟩ := ih.1 he'
      refine ⟨by simp [h1], fun i hi x hx => ?_⟩
      cases i with
      | zero =>
        simp only [List.getElem?_cons_zero, Option.some.injEq] at hx
        subst hx
        simp only [List.getD_cons_zero]
        unfold Rg.size at hn
        omega
      | succ i =>
        simp only [List.getElem?_cons_succ] at hx
        simpa using h2 i (by simpa using hi) x hx
    · rintro ⟨h1, h2⟩
      cases e with
      | nil => simp at h1
      | cons x e =>
        have hx := h2 0 (by simp) r rfl
        simp only [List.getD_cons_zero] at hx
        refine ⟨(x - r.lo).toNat, by unfold Rg.size; omega, e, ih.2 ⟨by simpa using h1, fun i hi y hy => ?_⟩, by congr 1; omega⟩
        have := h2 (i + 1) (by simpa using hi) y (by simpa using hy)
        simpa using this
theorem prods_ok {l : List Rg} (hl : ∀ r ∈ l, -30 ≤ r.lo ∧ r.lo ≤ r.hi ∧ r.hi ≤ 30) {e : List Int} (he : e ∈ prods l) : ErrOk e := fun i => by
  obtain ⟨h1, h2⟩ := (mem_prods (fun r hr => (hl r hr).2.1)).1 he
  rcases Nat.lt_or_ge i l.length with hi | hi
  · have := h2 i hi _ (List.getElem?_eq_getElem hi)
    have := hl l[i] (List.getElem_mem hi)
    omega
  · rw [List.getD_eq_getElem?_getD, List.getElem?_eq_none (by omega)]
    simp

end Go.Proofs.Ytcngnfnljkkjgaa
