/-
The plain words: a house, its errors, true minutes, truths, over lists and integers, with no program in sight.
-/
namespace Go.Proofs.Ytcngnfnljkkjgaa

structure Rg where
  lo : Int
  hi : Int
  deriving DecidableEq, Repr
structure Tk where
  tub : Int
  hours : Int
  deriving DecidableEq, Repr
structure Cp where
  tk : Int
  ck : Int
  mn : Int
  deriving DecidableEq, Repr
structure Hs where
  hour : Int
  grace : Int
  clocks : List Rg
  tickets : List Tk
  clips : List Cp
  deriving DecidableEq, Repr

def inB (n lo hi : Int) : Bool := decide (lo ≤ n) && decide (n ≤ hi)
def Rg.offB (r : Rg) : Bool := decide (-30 ≤ r.lo) && (decide (r.lo ≤ r.hi) && decide (r.hi ≤ 30))
def Rg.size (r : Rg) : Int := r.hi - r.lo + 1
def Tk.validB (t : Tk) : Bool := inB t.tub 0 8 && inB t.hours 0 9
def Hs.ticketB (h : Hs) (n : Int) : Bool := inB n 0 ((h.tickets.length : Int) - 1)
def Hs.clipB (h : Hs) (c : Cp) : Bool := h.ticketB c.tk && (inB c.ck 0 ((h.clocks.length : Int) - 1) && inB c.mn 0 1439)
def Hs.ofs (h : Hs) (t : Int) : List Cp := h.clips.filter (fun c => c.tk == t)
/-- The first place of a number; -1 if there is none. -/
def idx (l : List Int) (v : Int) : Int := match l.findIdx? (· == v) with
  | some i => i
  | none => -1
/-- The error of a clock. -/
def err (e : List Int) (ck : Int) : Int := e.getD ck.toNat 0
/-- The true minute of a clip. -/
def tru (e : List Int) (c : Cp) : Int := c.mn - err e c.ck

/-- Few enough of each; each is valid; no ticket has more than two clips; how many errors there are, at most 2001; the error of a house. -/
def Hs.smallB (h : Hs) : Bool := decide (h.clocks.length ≤ 4) && (decide (h.tickets.length ≤ 6) && decide (h.clips.length ≤ 10))
def Hs.argB (h : Hs) : Bool := inB h.hour 1 120 && (inB h.grace 0 60 && (h.clocks.all Rg.offB && (h.tickets.all Tk.validB && h.clips.all h.clipB)))
def Hs.twoB (h : Hs) : Bool := (List.range h.tickets.length).all fun i => decide ((h.ofs i).length ≤ 2)
def manyTo (l : List Rg) : Int := l.foldl (fun m r => min (m * r.size) 2001) 1
def Hs.fault (h : Hs) : Int := if h.smallB = false then 3 else if h.argB = false then 1 else if h.twoB = false then 1 else if 2000 < manyTo h.clocks then 3 else 0

theorem snoc_ind {α : Type} {P : List α → Prop} (h0 : P []) (h1 : ∀ l x, P l → P (l ++ [x])) (l : List α) : P l := by
  have : ∀ m : List α, P m.reverse := by
    intro m
    induction m with
    | nil => exact h0
    | cons x m ih => rw [List.reverse_cons]; exact h1 _ _ ih
  simpa using this l.reverse
theorem offB_iff {r : Rg} : r.offB = true ↔ -30 ≤ r.lo ∧ r.lo ≤ r.hi ∧ r.hi ≤ 30 := by
  simp [Rg.offB]
theorem manyTo_snoc (l : List Rg) (r : Rg) : manyTo (l ++ [r]) = min (manyTo l * r.size) 2001 := by
  simp [manyTo]
theorem manyTo_bd : ∀ (l : List Rg), (∀ r ∈ l, r.offB = true) → 1 ≤ manyTo l ∧ manyTo l ≤ 2001 := by
  refine snoc_ind (fun _ => by simp [manyTo]) fun l r ih => ?_
  · intro h
    have h1 := ih (fun x hx => h x (by simp [hx]))
    have h2 := offB_iff.1 (h r (by simp))
    rw [manyTo_snoc]
    have : 1 ≤ r.size := by unfold Rg.size; omega
    have : 1 * 1 ≤ manyTo l * r.size := Int.mul_le_mul h1.1 this (by omega) (by omega)
    omega

/-- The first element that fails a test; -1 if there is none. -/
def idxP {α : Type} (p : α → Bool) (l : List α) : Int := match l.findIdx? (fun x => !p x) with
  | some i => i
  | none => -1
theorem idxP_at {α : Type} {p : α → Bool} {l : List α} {k : Nat} {x : α} (hk : l[k]? = some x) (hx : p x = false) (hj : ∀ j, j < k → ∀ y, l[j]? = some y → p y = true) : idxP p l = k := by
  have hlt : k < l.length := (List.getElem?_eq_some_iff.1 hk).1
  have : l.findIdx? (fun x => !p x) = some k := by
    rw [List.findIdx?_eq_some_iff_getElem]
    refine ⟨hlt, ?_, ?_⟩
    · rw [(List.getElem?_eq_some_iff.1 hk).2, hx]; rfl
    · intro j hjk
      rw [hj j hjk _ (List.getElem?_eq_getElem (by omega))]
      decide
  simp [idxP, this]
theorem idxP_no {α : Type} {p : α → Bool} {l : List α} (hj : ∀ j, j < l.length → ∀ y, l[j]? = some y → p y = true) : idxP p l = -1 := by
  have : l.findIdx? (fun x => !p x) = none := by
    rw [List.findIdx?_eq_none_iff]
    intro y hy
    obtain ⟨j, hj1, hj2⟩ := List.getElem_of_mem hy
    rw [hj j hj1 y (by rw [← hj2]; exact List.getElem?_eq_getElem hj1)]
    rfl
  simp [idxP, this]
theorem idxP_all {α : Type} (p : α → Bool) (l : List α) : (!decide (0 ≤ idxP p l)) = l.all p := by
  unfold idxP
  cases h : l.findIdx? (fun x => !p x) with
  | none =>
    rw [List.findIdx?_eq_none_iff] at h
    have : l.all p = true := by rw [List.all_eq_true]; intro x hx; simpa using h x hx
    simp [this]
  | some i =>
    rw [List.findIdx?_eq_some_iff_getElem] at h
    obtain ⟨hi, h1, _⟩ := h
    have : l.all p = false := by rw [List.all_eq_false]; exact ⟨l[i], List.getElem_mem hi, by simpa using h1⟩
    simp [this]


end Go.Proofs.Ytcngnfnljkkjgaa
