/-
The plain words: a house, its errors, true minutes, truths, over lists and integers, with no program in sight.
The words that all texts of this seat share: the world later than a given one, what a call that only computes leaves, and a region that draws its order met once.
How lists of numbers and of structs, and a house, lie in memory.
The small functions of the program: what each returns.
More small functions of the program: tickets, clips, true minutes, the place of a number in a list.
-/
import Derived.Test.YtcngnfnljkkjgaaProg
import Derived.WalkKit
import Derived.WalkLawsBesides
import Derived.WalkSpells
import Derived.Outline
import Derived.Deep.QuietTactic
import Derived.BigQuiet
import Derived.KernelRfl
import Derived.Lib.Hide
namespace Go.Proofs.Ytcngnfnljkkjgaa

structure Rg where
  lo : Int
  hi : Int
  deriving DecidableEq, Repr
structure Tk where
  tub : Int
  hours : Int
  deriving DecidableEq, Repr
structure Cp where
  tk : Int
  ck : Int
  mn : Int
  deriving DecidableEq, Repr
structure Hs where
  hour : Int
  grace : Int
  clocks : List Rg
  tickets : List Tk
  clips : List Cp
  deriving DecidableEq, Repr

def inB (n lo hi : Int) : Bool := decide (lo ≤ n) && decide (n ≤ hi)
def Rg.offB (r : Rg) : Bool := decide (-30 ≤ r.lo) && (decide (r.lo ≤ r.hi) && decide (r.hi ≤ 30))
def Rg.size (r : Rg) : Int := r.hi - r.lo + 1
def Tk.validB (t : Tk) : Bool := inB t.tub 0 8 && inB t.hours 0 9
def Hs.ticketB (h : Hs) (n : Int) : Bool := inB n 0 ((h.tickets.length : Int) - 1)
def Hs.clipB (h : Hs) (c : Cp) : Bool := h.ticketB c.tk && (inB c.ck 0 ((h.clocks.length : Int) - 1) && inB c.mn 0 1439)
def Hs.ofs (h : Hs) (t : Int) : List Cp := h.clips.filter (fun c => c.tk == t)
/-- The first place of a number; -1 if there is none. -/
def idx (l : List Int) (v : Int) : Int := match l.findIdx? (· == v) with
  | some i => i
  | none => -1
/-- The error of a clock. -/
def err (e : List Int) (ck : Int) : Int := e.getD ck.toNat 0
/-- The true minute of a clip. -/
def tru (e : List Int) (c : Cp) : Int := c.mn - err e c.ck

/-- Few enough of each; each is valid; no ticket has more than two clips; how many errors there are, at most 2001; the error of a house. -/
def Hs.smallB (h : Hs) : Bool := decide (h.clocks.length ≤ 4) && (decide (h.tickets.length ≤ 6) && decide (h.clips.length ≤ 10))
def Hs.argB (h : Hs) : Bool := inB h.hour 1 120 && (inB h.grace 0 60 && (h.clocks.all Rg.offB && (h.tickets.all Tk.validB && h.clips.all h.clipB)))
def Hs.twoB (h : Hs) : Bool := (List.range h.tickets.length).all fun i => decide ((h.ofs i).length ≤ 2)
def manyTo (l : List Rg) : Int := l.foldl (fun m r => min (m * r.size) 2001) 1
def Hs.fault (h : Hs) : Int := if h.smallB = false then 3 else if h.argB = false then 1 else if h.twoB = false then 1 else if 2000 < manyTo h.clocks then 3 else 0

theorem snoc_ind {α : Type} {P : List α → Prop} (h0 : P []) (h1 : ∀ l x, P l → P (l ++ [x])) (l : List α) : P l := by
  have : ∀ m : List α, P m.reverse := by
    intro m
    induction m with
    | nil => exact h0
    | cons x m ih => rw [List.reverse_cons]; exact h1 _ _ ih
  simpa using this l.reverse
theorem offB_iff {r : Rg} : r.offB = true ↔ -30 ≤ r.lo ∧ r.lo ≤ r.hi ∧ r.hi ≤ 30 := by
  simp [Rg.offB]
theorem manyTo_snoc (l : List Rg) (r : Rg) : manyTo (l ++ [r]) = min (manyTo l * r.size) 2001 := by
  simp [manyTo]
theorem manyTo_bd : ∀ (l : List Rg), (∀ r ∈ l, r.offB = true) → 1 ≤ manyTo l ∧ manyTo l ≤ 2001 := by
  refine snoc_ind (fun _ => by simp [manyTo]) fun l r ih => ?_
  · intro h
    have h1 := ih (fun x hx => h x (by simp [hx]))
    have h2 := offB_iff.1 (h r (by simp))
    rw [manyTo_snoc]
    have : 1 ≤ r.size := by unfold Rg.size; omega
    have : 1 * 1 ≤ manyTo l * r.size := Int.mul_le_mul h1.1 this (by omega) (by omega)
    omega

/-- The first element that fails a test; -1 if there is none. -/
def idxP {α : Type} (p : α → Bool) (l : List α) : Int := match l.findIdx? (fun x => !p x) with
  | some i => i
  | none => -1
theorem idxP_at {α : Type} {p : α → Bool} {l : List α} {k : Nat} {x : α} (hk : l[k]? = some x) (hx : p x = false) (hj : ∀ j, j < k → ∀ y, l[j]? = some y → p y = true) : idxP p l = k := by
  have hlt : k < l.length := (List.getElem?_eq_some_iff.1 hk).1
  have : l.findIdx? (fun x => !p x) = some k := by
    rw [List.findIdx?_eq_some_iff_getElem]
    refine ⟨hlt, ?_, ?_⟩
    · rw [(List.getElem?_eq_some_iff.1 hk).2, hx]; rfl
    · intro j hjk
      rw [hj j hjk _ (List.getElem?_eq_getElem (by omega))]
      decide
  simp [idxP, this]
theorem idxP_no {α : Type} {p : α → Bool} {l : List α} (hj : ∀ j, j < l.length → ∀ y, l[j]? = some y → p y = true) : idxP p l = -1 := by
  have : l.findIdx? (fun x => !p x) = none := by
    rw [List.findIdx?_eq_none_iff]
    intro y hy
    obtain ⟨j, hj1, hj2⟩ := List.getElem_of_mem hy
    rw [hj j hj1 y (by rw [← hj2]; exact List.getElem?_eq_getElem hj1)]
    rfl
  simp [idxP, this]
theorem idxP_all {α : Type} (p : α → Bool) (l : List α) : (!decide (0 ≤ idxP p l)) = l.all p := by
  unfold idxP
  cases h : l.findIdx? (fun x => !p x) with
  | none =>
    rw [List.findIdx?_eq_none_iff] at h
    have : l.all p = true := by rw [List.all_eq_true]; intro x hx; simpa using h x hx
    simp [this]
  | some i =>
    rw [List.findIdx?_eq_some_iff_getElem] at h
    obtain ⟨hi, h1, _⟩ := h
    have : l.all p = false := by rw [List.all_eq_false]; exact ⟨l[i], List.getElem_mem hi, by simpa using h1⟩
    simp [this]


end Go.Proofs.Ytcngnfnljkkjgaa
namespace Go.Proofs.Ytcngnfnljkkjgaa
open Go.RowKit

/-- A world in which all of w is as it was: x if it is one, else w itself. -/
noncomputable def later (w x : World) : World := by
  classical exact if Below w.heap.size w x then x else w

theorem below_later (w x : World) : Below w.heap.size w (later w x) := by
  unfold later
  split
  · assumption
  · exact Below.refl _ _

theorem later_of {w x : World} (h : Below w.heap.size w x) : x = later w x := by
  unfold later
  rw [if_pos h]

theorem later_ex {w x : World} (h : Below w.heap.size w x) : ∃ y, x = later w y := ⟨x, later_of h⟩

theorem cell_later {w x : World} {a : Addr} (h : a.block < w.heap.size) : (later w x).cell? a = w.cell? a := (below_later w x).cell h
theorem frozen_later {w x : World} {a : Addr} (h : a.block < w.heap.size) : (later w x).frozen? a = w.frozen? a := (below_later w x).frozen h
theorem size_later (w x : World) : w.heap.size ≤ (later w x).heap.size := (below_later w x).size
theorem lt_later {w x : World} {b : Nat} (h : b < w.heap.size) : (b < (later w x).heap.size) = True := by
  have := size_later w x
  simp only [eq_iff_iff, iff_true]
  omega
theorem le_later {w x : World} {b : Nat} (h : b < w.heap.size) : (b ≤ (later w x).heap.size) = True := by
  have := size_later w x
  simp only [eq_iff_iff, iff_true]
  omega
theorem block_later {w x : World} {b : Nat} (h : b < w.heap.size) : (later w x).heap[b]? = w.heap[b]? := (below_later w x).block b h

/-- What a call that only computes leaves: the value, and a world in which all is as it was. -/
def Ret (v : Value) (w : World) (e : Ending) (w' : World) : Prop := e = .returned v ∧ ∃ x, w' = later w x

theorem ret_mk {v : Value} {w w' : World} {e : Ending} (he : e = .returned v) (h : Below w.heap.size w w') : Ret v w e w' := ⟨he, later_ex h⟩

theorem drew_below {B : Nat} {w w' : World} (h : Below B w w') : Below B w w'.drew := h.drew
theorem later_below {B : Nat} {w w' x : World} (h : Below B w w') (hB : B ≤ w'.heap.size) : Below B w (later w' x) := h.trans ((below_later w' x).mono hB)

/-- Later than what is later. -/
theorem Ret.up {v : Value} {w x w' : World} {e : Ending} (h : Ret v (later w x) e w') : Ret v w e w' := by
  obtain ⟨he, y, rfl⟩ := h
  exact ⟨he, later_ex (later_below (below_later w x) (size_later w x))⟩

/-- A quiet call at a world later than w. -/
theorem quiet_ret {P : Program} {f : FuncId} {args : Array Value} {w x : World} {v : Value} (h : Calls P f args (later w x) (Ret v (later w x))) :
    Calls P f args (later w x) fun e w'' => e = .returned v ∧ ∃ y, w'' = later w y :=
  h.mono fun _ _ ⟨he, y, hy⟩ => ⟨he, by
    subst hy
    exact later_ex (later_below (below_later w x) (size_later w x))⟩

/-- A region that draws its order, whose operations read and whose calls only compute: met once, in the order of the text. -/
theorem region_later {P : Program} {id : Nat} {Q : Exit → Act → World → Prop} {a : Act} {w : World} {l : List Oper} (hm : P.follows .mixedOrders = true) (hB : Region.lexB .any l.toArray = true)
    (h : wpQuiet P l.toArray (fun w' => ∃ x, w' = later w x) (fun a' => ∀ w', (∃ x, w' = later w x) → Q .normal a' w') l a) : (Code.region id l.toArray true).wp P Q a w :=
  wp_region_quiet (C := fun w' => ∃ x, w' = later w x) hm hB (later_ex ((Below.refl _ _).drew)) (by simpa using h)

theorem gL {w w' x : World} (h : Below w.heap.size w w') : Below w.heap.size w (later w' x) := later_below h h.size
theorem gA {w w' : World} {o : Obj} (h : Below w.heap.size w w') : Below w.heap.size w (w'.alloc o) := h.alloc h.size o
theorem gD {w w' : World} (h : Below w.heap.size w w') : Below w.heap.size w w'.drew := h.drew
theorem gN {w w' : World} {n : Nat} (h : Below w.heap.size w w') : Below w.heap.size w (w'.drewN n) := ⟨h.os, h.tape, h.output, h.size, h.block⟩
theorem gS {w w' : World} {a : Addr} {v : Value} (h : Below w.heap.size w w') (ha : w.heap.size ≤ a.block) : Below w.heap.size w (w'.setCell a v) := h.setCell ha v

theorem below_mono_of {w w1 w' : World} (h : Below w.heap.size w w1) (k : Below w1.heap.size w1 w') : Below w.heap.size w1 w' := k.mono h.size
theorem ret_int {k : IntKind} {a b : Int} (h : a = b) : Ending.returned (.int k a) = .returned (.int k b) := by rw [h]
theorem ret_bool {a b : Bool} (h : a = b) : Ending.returned (.bool a) = .returned (.bool b) := by rw [h]

end Go.Proofs.Ytcngnfnljkkjgaa
namespace Go.Proofs.Ytcngnfnljkkjgaa
open Go.RowKit

/-- The cells of a range, a ticket, a clip, a number, the errors of four clocks. -/
def gR (r : Rg) : List Value := [.int .i64 r.lo, .int .i64 r.hi]
def gT (t : Tk) : List Value := [.int .i64 t.tub, .int .i64 t.hours]
def gC (c : Cp) : List Value := [.int .i64 c.tk, .int .i64 c.ck, .int .i64 c.mn]
def gI (n : Int) : List Value := [.int .i64 n]
/-- The errors of the clocks as an array of four. -/
def e4 (e : List Int) : List Value := [.int .i64 (e.getD 0 0), .int .i64 (e.getD 1 0), .int .i64 (e.getD 2 0), .int .i64 (e.getD 3 0)]

/-- A list in memory, k cells an element. -/
def SlA {α : Type} (w : World) (k : Nat) (g : α → List Value) (A : Option Addr) (c : Nat) (l : List α) : Prop :=
  l.length ≤ c ∧ l.length ≤ 140737488355328 ∧ (l ≠ [] → ∃ b off, A = some ⟨b, off, none⟩ ∧ b < w.heap.size ∧ ∀ (i : Nat) (x : α), l[i]? = some x → ∀ (j : Nat) (u : Value), (g x)[j]? = some u → w.cell? ⟨b, off + i * k + j, none⟩ = some u)

section
variable {α : Type} {w w' : World} {k : Nat} {g : α → List Value} {A : Option Addr} {c : Nat} {l : List α}
theorem SlA.below (h : SlA w k g A c l) (hb : Below w.heap.size w w') : SlA w' k g A c l :=
  ⟨h.1, h.2.1, fun hn => by
    obtain ⟨b, off, e, hlt, hc⟩ := h.2.2 hn
    exact ⟨b, off, e, Nat.lt_of_lt_of_le hlt hb.size, fun i x hx j u hu => (hb.cell (p := ⟨b, _, none⟩) hlt).trans (hc i x hx j u hu)⟩⟩
theorem SlA.bel {B : Nat} {w0 : World} (h : SlA w0 k g A c l) (hB : w0.heap.size ≤ B) (hb : Below B w0 w') : SlA w' k g A c l := h.below (hb.mono hB)
theorem SlA.at (h : SlA w k g A c l) {i : Nat} (hi : i < l.length) : ∃ b off x, A = some ⟨b, off, none⟩ ∧ b < w.heap.size ∧ l[i]? = some x ∧ ∀ (j : Nat) (u : Value), (g x)[j]? = some u → w.cell? ⟨b, off + i * k + j, none⟩ = some u := by
  obtain ⟨b, off, e, hlt, hc⟩ := h.2.2 (by intro e; simp [e] at hi)
  exact ⟨b, off, l[i], e, hlt, List.getElem?_eq_getElem hi, hc i _ (List.getElem?_eq_getElem hi)⟩
theorem SlA.nil (w : World) (k : Nat) (g : α → List Value) (A : Option Addr) {c : Nat} : SlA w k g A c [] := ⟨Nat.zero_le _, Nat.zero_le _, fun h => absurd rfl h⟩
end

theorem SlA.atI {w : World} {A : Option Addr} {c : Nat} {l : List Int} (h : SlA w 1 gI A c l) {i : Nat} (hi : i < l.length) :
    ∃ b off x, A = some ⟨b, off, none⟩ ∧ b < w.heap.size ∧ l[i]? = some x ∧ w.cell? ⟨b, off + i, none⟩ = some (.int .i64 x) := by
  obtain ⟨b, off, x, e, hlt, hx, hc⟩ := h.at hi
  exact ⟨b, off, x, e, hlt, hx, by have := hc 0 _ rfl; simpa using this⟩
theorem SlA.atR {w : World} {A : Option Addr} {c : Nat} {l : List Rg} (h : SlA w 2 gR A c l) {i : Nat} (hi : i < l.length) :
    ∃ b off x, A = some ⟨b, off, none⟩ ∧ b < w.heap.size ∧ l[i]? = some x ∧ w.cell? ⟨b, off + i * 2, none⟩ = some (.int .i64 x.lo) ∧ w.cell? ⟨b, off + i * 2 + 1, none⟩ = some (.int .i64 x.hi) := by
  obtain ⟨b, off, x, e, hlt, hx, hc⟩ := h.at hi
  exact ⟨b, off, x, e, hlt, hx, hc 0 _ rfl, hc 1 _ rfl⟩
theorem SlA.atT {w : World} {A : Option Addr} {c : Nat} {l : List Tk} (h : SlA w 2 gT A c l) {i : Nat} (hi : i < l.length) :
    ∃ b off x, A = some ⟨b, off, none⟩ ∧ b < w.heap.size ∧ l[i]? = some x ∧ w.cell? ⟨b, off + i * 2, none⟩ = some (.int .i64 x.tub) ∧ w.cell? ⟨b, off + i * 2 + 1, none⟩ = some (.int .i64 x.hours) := by
  obtain ⟨b, off, x, e, hlt, hx, hc⟩ := h.at hi
  exact ⟨b, off, x, e, hlt, hx, hc 0 _ rfl, hc 1 _ rfl⟩
theorem SlA.atC {w : World} {A : Option Addr} {c : Nat} {l : List Cp} (h : SlA w 3 gC A c l) {i : Nat} (hi : i < l.length) :
    ∃ b off x, A = some ⟨b, off, none⟩ ∧ b < w.heap.size ∧ l[i]? = some x ∧ w.cell? ⟨b, off + i * 3, none⟩ = some (.int .i64 x.tk) ∧ w.cell? ⟨b, off + i * 3 + 1, none⟩ = some (.int .i64 x.ck) ∧
      w.cell? ⟨b, off + i * 3 + 2, none⟩ = some (.int .i64 x.mn) := by
  obtain ⟨b, off, x, e, hlt, hx, hc⟩ := h.at hi
  exact ⟨b, off, x, e, hlt, hx, hc 0 _ rfl, hc 1 _ rfl, hc 2 _ rfl⟩

theorem flat_at {α : Type} {g : α → List Value} {k : Nat} : ∀ {l : List α}, (∀ x ∈ l, (g x).length = k) → ∀ (i : Nat) (x : α), l[i]? = some x → ∀ (j : Nat) (u : Value), (g x)[j]? = some u → (l.flatMap g)[i * k + j]? = some u
  | [], _, i, x, hi, _, _, _ => by simp at hi
  | y :: l, hg, 0, x, hi, j, u, hu => by
    simp only [List.getElem?_cons_zero, Option.some.injEq] at hi
    subst hi
    have hj : j < (g y).length := (List.getElem?_eq_some_iff.1 hu).1
    rw [List.flatMap_cons, Nat.zero_mul, Nat.zero_add, List.getElem?_append_left hj]
    exact hu
  | y :: l, hg, i + 1, x, hi, j, u, hu => by
    have hy := hg y (by simp)
    rw [List.flatMap_cons, List.getElem?_append_right (by rw [hy, Nat.add_mul]; omega), hy]
    have : (i + 1) * k + j - k = i * k + j := by rw [Nat.add_mul]; omega
    rw [this]
    exact flat_at (fun z hz => hg z (by simp [hz])) i x (by simpa using hi) j u hu
theorem flat_length {α : Type} {g : α → List Value} {k : Nat} : ∀ {l : List α}, (∀ x ∈ l, (g x).length = k) → (l.flatMap g).length = l.length * k
  | [], _ => by simp
  | y :: l, hg => by
    rw [List.flatMap_cons, List.length_append, hg y (by simp), flat_length (fun z hz => hg z (by simp [hz])), List.length_cons, Nat.add_mul]
    omega

/-- A row of the call's own reads as a list. -/
theorem SlA.of_own {α : Type} {w : World} {base : Nat} {e : TypeId} {k : Nat} {g : α → List Value} {v : Value} {n : Nat} {l : List α} (h : w.ownsRow base e k v n (l.flatMap g)) (hg : ∀ x ∈ l, (g x).length = k) (hn : l.length = n) (hb : n ≤ 140737488355328) :
    ∃ A c, v = .slice A l.length c ∧ SlA w k g A c l := by
  rcases h.2 with ⟨rfl, h0⟩ | ⟨b, cap, cur, rfl, _, hh, hnc, hcap, hsz, htake⟩
  · have hl : l = [] := List.eq_nil_of_length_eq_zero (by omega)
    subst hl
    exact ⟨none, 0, by simp, SlA.nil _ _ _ _⟩
  · refine ⟨some ⟨b, 0, none⟩, cap, by rw [hn], by omega, by omega, fun hne => ⟨b, 0, rfl, ?_, fun i x hx j u hu => ?_⟩⟩
    · rcases Nat.lt_or_ge b w.heap.size with hlt | hge
      · exact hlt
      · rw [Array.getElem?_eq_none hge] at hh; cases hh
    · have h1 := flat_at hg i x hx j u hu
      have hlt : i * k + j < n * k := by
        have := (List.getElem?_eq_some_iff.1 h1).1
        rw [flat_length hg, hn] at this
        exact this
      rw [← htake, List.getElem?_take_of_lt hlt] at h1
      unfold World.cell?
      simp only [hh, Nat.zero_add]
      simpa using h1

/-- The cells of a block just laid. -/
theorem news_new (w : World) (b : Nat) (hb : b = w.heap.size) (cs : List Value) (t : TypeId) : ∀ (j : Nat) (u : Value), cs[j]? = some u → (w.alloc (.cells cs.toArray t)).cell? ((⟨b, 0, none⟩ : Addr).add j) = some u := by
  subst hb
  intro j u hu
  have : ((⟨w.heap.size, 0, none⟩ : Addr).add j) = ⟨w.heap.size, j, none⟩ := by
    unfold Addr.add
    split
    · next h => rw [h]
    · simp
  rw [this, World.cell?_alloc_new]
  simpa using hu

theorem grown_below {w w1 w' : World} {base : Nat} {e : TypeId} {k n : Nat} {v : Value} {xs : List Value} (hb : Below w.heap.size w w1) (ho : w1.ownsRow base e k v n xs) (hbase : w.heap.size ≤ base) (hg : w1.grownBy w' v.ownBlock) : Below w.heap.size w w' :=
  hb.grown hg hb.size (fun j hj => Nat.le_trans hbase (ho.lt j hj).1)

/-- What a call leaves that hands back a list in new memory. -/
def RetSl {α : Type} (k : Nat) (g : α → List Value) (l : List α) (w : World) (e : Ending) (w' : World) : Prop :=
  ∃ A c, e = .returned (.slice A l.length c) ∧ (∃ x, w' = later w x) ∧ SlA w' k g A c l

theorem RetSl.up {α : Type} {k : Nat} {g : α → List Value} {l : List α} {w x w' : World} {e : Ending} (h : RetSl k g l (later w x) e w') : RetSl k g l w e w' := by
  obtain ⟨A, c, he, ⟨y, rfl⟩, hs⟩ := h
  exact ⟨A, c, he, later_ex (later_below (below_later w x) (size_later w x)), hs⟩

/-- A house in memory. -/
def HsAt (w : World) (v : Value) (h : Hs) : Prop :=
  ∃ A2 c2 A3 c3 A4 c4, v = .agg #[.int .i64 h.hour, .int .i64 h.grace, .slice A2 h.clocks.length c2, .slice A3 h.tickets.length c3, .slice A4 h.clips.length c4] ∧
    SlA w 2 gR A2 c2 h.clocks ∧ SlA w 2 gT A3 c3 h.tickets ∧ SlA w 3 gC A4 c4 h.clips
theorem HsAt.below {w w' : World} {v : Value} {h : Hs} (H : HsAt w v h) (hb : Below w.heap.size w w') : HsAt w' v h := by
  obtain ⟨A2, c2, A3, c3, A4, c4, e, h2, h3, h4⟩ := H
  exact ⟨A2, c2, A3, c3, A4, c4, e, h2.below hb, h3.below hb, h4.below hb⟩

end Go.Proofs.Ytcngnfnljkkjgaa
namespace Go.Proofs.Ytcngnfnljkkjgaa
open Go.RowKit
attribute [local go_sem] cell_later frozen_later lt_later le_later

theorem within_calls (n lo hi : Int) (w : World) : Calls Try.prog 113 #[.int .i64 n, .int .i64 lo, .int .i64 hi] w (Ret (.bool (inB n lo hi)) w) := by
  by_cases h1 : lo ≤ n
  · have h1b : decide (lo ≤ n) = true := by simpa using h1
    have hfin : inB n lo hi = decide (n ≤ hi) := by simp [inB, h1]
    have HF := Lib.hid hfin
    clear hfin h1
    go_enter Try.func113, Try.ntmps113
    go_wp2
    go_ret
    exact ret_mk (ret_bool HF.out.symm) (Below.refl _ _)
  · have h1b : decide (lo ≤ n) = false := by simpa using h1
    have hfin : inB n lo hi = false := by simp [inB, h1]
    have HF := Lib.hid hfin
    clear hfin h1
    go_enter Try.func113, Try.ntmps113
    go_wp2
    go_ret
    exact ret_mk (ret_bool HF.out.symm) (Below.refl _ _)

theorem tub_calls (n : Int) (w : World) : Calls Try.prog 94 #[.int .i64 n] w (Ret (.bool (inB n 0 8)) w) := by
  go_enter Try.func94, Try.ntmps94
  go_wp2_with (go_at_call 113; refine (within_calls _ _ _ _).mono ?_; rintro e w' ⟨rfl, x, rfl⟩)
  go_ret
  exact ret_mk rfl (below_later _ _)

theorem size_calls (lo hi : Int) (w : World) (h1 : -1000 ≤ lo) (h2 : lo ≤ 1000) (h3 : -1000 ≤ hi) (h4 : hi ≤ 1000) :
    Calls Try.prog 99 #[.agg #[.int .i64 lo, .int .i64 hi]] w (Ret (.int .i64 (hi - lo + 1)) w) := by
  go_enter Try.func99, Try.ntmps99
  go_wp2
  go_ret
  exact ret_mk rfl ((Below.refl _ _).alloc (Nat.le_refl _) _)

theorem off_calls (lo hi : Int) (w : World) : Calls Try.prog 115 #[.agg #[.int .i64 lo, .int .i64 hi]] w (Ret (.bool (Rg.offB ⟨lo, hi⟩)) w) := by
  by_cases h1 : -30 ≤ lo
  · have h1b : decide (-30 ≤ lo) = true := by simpa using h1
    by_cases h2 : lo ≤ hi
    · have h2b : decide (lo ≤ hi) = true := by simpa using h2
      have HF := Lib.hid (show Rg.offB ⟨lo, hi⟩ = decide (hi ≤ 30) by simp [Rg.offB, h1, h2])
      clear h1 h2
      go_enter Try.func115, Try.ntmps115
      go_wp2
      go_ret
      exact ret_mk (ret_bool HF.out.symm) ((Below.refl _ _).alloc (Nat.le_refl _) _)
    · have h2b : decide (lo ≤ hi) = false := by simpa using h2
      have HF := Lib.hid (show Rg.offB ⟨lo, hi⟩ = false by simp [Rg.offB, h2])
      clear h1 h2
      go_enter Try.func115, Try.ntmps115
      go_wp2
      go_ret
      exact ret_mk (ret_bool HF.out.symm) ((Below.refl _ _).alloc (Nat.le_refl _) _)
  · have h1b : decide (-30 ≤ lo) = false := by simpa using h1
    have HF := Lib.hid (show Rg.offB ⟨lo, hi⟩ = false by simp [Rg.offB, h1])
    clear h1
    go_enter Try.func115, Try.ntmps115
    go_wp2
    go_ret
    exact ret_mk (ret_bool HF.out.symm) ((Below.refl _ _).alloc (Nat.le_refl _) _)

theorem has_calls (lo hi n : Int) (w : World) : Calls Try.prog 125 #[.agg #[.int .i64 lo, .int .i64 hi], .int .i64 n] w (Ret (.bool (inB n lo hi)) w) := by
  go_enter Try.func125, Try.ntmps125
  go_wp2_with (go_at_call 113; refine (within_calls _ _ _ _).mono ?_; rintro e w' ⟨rfl, x, rfl⟩)
  go_ret
  exact ret_mk rfl (by repeat (first | exact Below.refl _ _ | (with_reducible assumption) | apply gL | apply gA | apply gD | apply gN | (refine gS ?_ (by first | (simp; done) | (simp; omega) | omega))))

theorem valid_calls (a b : Int) (w : World) : Calls Try.prog 117 #[.agg #[.int .i64 a, .int .i64 b]] w (Ret (.bool (Tk.validB ⟨a, b⟩)) w) := by
  by_cases h1 : inB a 0 8 = true
  · have HF := Lib.hid (show Tk.validB ⟨a, b⟩ = inB b 0 9 by simp [Tk.validB, h1])
    go_enter Try.func117, Try.ntmps117
    go_wp2_with (first
      | (go_at_call 94; refine (tub_calls _ _).mono ?_; rintro e w' ⟨rfl, x, rfl⟩)
      | (go_at_call 113; refine (within_calls _ _ _ _).mono ?_; rintro e w' ⟨rfl, x, rfl⟩))
    go_ret
    exact ret_mk (ret_bool HF.out.symm) (by repeat (first | exact Below.refl _ _ | (with_reducible assumption) | apply gL | apply gA | apply gD | apply gN | (refine gS ?_ (by first | (simp; done) | (simp; omega) | omega))))
  · have h1 : inB a 0 8 = false := by simpa using h1
    have HF := Lib.hid (show Tk.validB ⟨a, b⟩ = false by simp [Tk.validB, h1])
    go_enter Try.func117, Try.ntmps117
    go_wp2_with (first
      | (go_at_call 94; refine (tub_calls _ _).mono ?_; rintro e w' ⟨rfl, x, rfl⟩)
      | (go_at_call 113; refine (within_calls _ _ _ _).mono ?_; rintro e w' ⟨rfl, x, rfl⟩))
    go_ret
    exact ret_mk (ret_bool HF.out.symm) (by repeat (first | exact Below.refl _ _ | (with_reducible assumption) | apply gL | apply gA | apply gD | apply gN | (refine gS ?_ (by first | (simp; done) | (simp; omega) | omega))))
end Go.Proofs.Ytcngnfnljkkjgaa
namespace Go.Proofs.Ytcngnfnljkkjgaa
open Go.RowKit
attribute [local go_sem] cell_later frozen_later lt_later le_later

theorem ticket_calls (v : Value) (h : Hs) (n : Int) (w : World) (H : HsAt w v h) (hl : h.tickets.length ≤ 140737488355328) :
    Calls Try.prog 90 #[v, .int .i64 n] w (Ret (.bool (h.ticketB n)) w) := by
  obtain ⟨A2, c2, A3, c3, A4, c4, rfl, -, -, -⟩ := H
  go_enter Try.func90, Try.ntmps90
  go_wp2_with (go_at_call 113; refine (within_calls _ _ _ _).mono ?_; rintro e w' ⟨rfl, x, rfl⟩)
  go_ret
  exact ret_mk rfl (by repeat (first | exact Below.refl _ _ | (with_reducible assumption) | apply gL | apply gA | apply gD | apply gN | (refine gS ?_ (by first | (simp; done) | (simp; omega) | omega))))

theorem clip_calls (v : Value) (h : Hs) (c : Cp) (w : World) (H : HsAt w v h) (hl : h.tickets.length ≤ 140737488355328) (hl2 : h.clocks.length ≤ 140737488355328) :
    Calls Try.prog 112 #[v, .agg #[.int .i64 c.tk, .int .i64 c.ck, .int .i64 c.mn]] w (Ret (.bool (h.clipB c)) w) := by
  have H0 := H
  obtain ⟨A2, c2, A3, c3, A4, c4, rfl, -, -, -⟩ := H
  by_cases h1 : h.ticketB c.tk = true
  · by_cases h2 : inB c.ck 0 ((h.clocks.length : Int) - 1) = true
    · have HF := Lib.hid (show h.clipB c = inB c.mn 0 1439 by simp [Hs.clipB, h1, h2])
      go_enter Try.func112, Try.ntmps112
      go_wp2_with (first
        | (go_at_call 90; refine (ticket_calls _ h _ _ ?hh hl).mono ?_; (case hh => exact H0.below (by repeat (first | exact Below.refl _ _ | (with_reducible assumption) | apply gL | apply gA | apply gD | apply gN | (refine gS ?_ (by first | (simp; done) | (simp; omega) | omega))))); rintro e w' ⟨rfl, x, rfl⟩)
        | (go_at_call 113; refine (within_calls _ _ _ _).mono ?_; rintro e w' ⟨rfl, x, rfl⟩))
      go_ret
      exact ret_mk (ret_bool HF.out.symm) (by repeat (first | exact Below.refl _ _ | (with_reducible assumption) | apply gL | apply gA | apply gD | apply gN | (refine gS ?_ (by first | (simp; done) | (simp; omega) | omega))))
    · have h2 : inB c.ck 0 ((h.clocks.length : Int) - 1) = false := by simpa using h2
      have HF := Lib.hid (show h.clipB c = false by simp [Hs.clipB, h2])
      go_enter Try.func112, Try.ntmps112
      go_wp2_with (first
        | (go_at_call 90; refine (ticket_calls _ h _ _ ?hh hl).mono ?_; (case hh => exact H0.below (by repeat (first | exact Below.refl _ _ | (with_reducible assumption) | apply gL | apply gA | apply gD | apply gN | (refine gS ?_ (by first | (simp; done) | (simp; omega) | omega))))); rintro e w' ⟨rfl, x, rfl⟩)
        | (go_at_call 113; refine (within_calls _ _ _ _).mono ?_; rintro e w' ⟨rfl, x, rfl⟩))
      go_ret
      exact ret_mk (ret_bool HF.out.symm) (by repeat (first | exact Below.refl _ _ | (with_reducible assumption) | apply gL | apply gA | apply gD | apply gN | (refine gS ?_ (by first | (simp; done) | (simp; omega) | omega))))
  · have h1 : h.ticketB c.tk = false := by simpa using h1
    have HF := Lib.hid (show h.clipB c = false by simp [Hs.clipB, h1])
    go_enter Try.func112, Try.ntmps112
    go_wp2_with (first
      | (go_at_call 90; refine (ticket_calls _ h _ _ ?hh hl).mono ?_; (case hh => exact H0.below (by repeat (first | exact Below.refl _ _ | (with_reducible assumption) | apply gL | apply gA | apply gD | apply gN | (refine gS ?_ (by first | (simp; done) | (simp; omega) | omega))))); rintro e w' ⟨rfl, x, rfl⟩))
    go_ret
    exact ret_mk (ret_bool HF.out.symm) (by repeat (first | exact Below.refl _ _ | (with_reducible assumption) | apply gL | apply gA | apply gD | apply gN | (refine gS ?_ (by first | (simp; done) | (simp; omega) | omega))))

theorem idx_at {l : List Int} {v : Int} {k : Nat} (hk : l[k]? = some v) (hj : ∀ j, j < k → ∀ x, l[j]? = some x → x ≠ v) : idx l v = k := by
  have hlt : k < l.length := (List.getElem?_eq_some_iff.1 hk).1
  have : l.findIdx? (· == v) = some k := by
    rw [List.findIdx?_eq_some_iff_getElem]
    refine ⟨hlt, ?_, ?_⟩
    · have := (List.getElem?_eq_some_iff.1 hk).2
      simp [this]
    · intro j hjk
      have := hj j hjk _ (List.getElem?_eq_getElem (by omega))
      simpa using this
  simp [idx, this]
theorem idx_no {l : List Int} {v : Int} (hj : ∀ j, j < l.length → ∀ x, l[j]? = some x → x ≠ v) : idx l v = -1 := by
  have : l.findIdx? (· == v) = none := by
    rw [List.findIdx?_eq_none_iff]
    intro x hx
    obtain ⟨j, hj1, hj2⟩ := List.getElem_of_mem hx
    have := hj j hj1 x (by rw [← hj2]; exact List.getElem?_eq_getElem hj1)
    simpa using this
  simp [idx, this]

theorem index_calls (A : Option Addr) (c : Nat) (l : List Int) (v : Int) (w : World) (H : SlA w 1 gI A c l) :
    Calls Try.prog 136 #[.slice A l.length c, .int .i64 v] w (Ret (.int .i64 (idx l v)) w) := by
  have hc1 := H.1
  have hc2 := H.2.1
  go_enter Try.func136, Try.ntmps136
  go_wp2
  go_loop [5, 8] (fun _ i => ∃ k : Nat, k ≤ l.length ∧ i = .int .i64 k ∧ ∀ j, j < k → ∀ x, l[j]? = some x → x ≠ v) (fun _ i => l.length - (intOf i).toNat)
  case atStart => exact ⟨0, Nat.zero_le _, rfl, fun j h => by omega⟩
  case round =>
    obtain ⟨k, hk, rfl, hj⟩ := hrel
    have HJ := Lib.hid hj
    clear hj
    by_cases hlt : k < l.length
    · obtain ⟨b, off, x, rfl, hb, hx, h1⟩ := H.atI hlt
      have HX := Lib.hid hx
      clear hx
      by_cases he : v = x
      · subst he
        go_wp2
        go_ret
        exact ret_mk (ret_int (idx_at HX.out HJ.out).symm) (by repeat (first | exact Below.refl _ _ | (with_reducible assumption) | apply gL | apply gA | apply gD | apply gN | (refine gS ?_ (by first | (simp; done) | (simp; omega) | omega))))
      · have he1 : (v == x) = false := by simpa using he
        have HE := Lib.hid he
        clear he
        go_wp2
        go_round
        case rel => exact ⟨k + 1, by omega, by go_num, fun j hj y hy => by
          rcases Nat.lt_or_ge j k with h | h
          · exact HJ.out j h y hy
          · obtain rfl : j = k := by omega
            rw [HX.out] at hy
            cases hy
            exact fun e => HE.out e.symm⟩
        case measure => simp [intOf]; omega
    · obtain rfl : k = l.length := by omega
      go_wp2
      go_ret
      exact ret_mk (ret_int (idx_no HJ.out).symm) (by repeat (first | exact Below.refl _ _ | (with_reducible assumption) | apply gL | apply gA | apply gD | apply gN | (refine gS ?_ (by first | (simp; done) | (simp; omega) | omega))))

theorem contains_calls (A : Option Addr) (c : Nat) (l : List Int) (v : Int) (w : World) (H : SlA w 1 gI A c l) :
    Calls Try.prog 126 #[.slice A l.length c, .int .i64 v] w (Ret (.bool (decide (0 ≤ idx l v))) w) := by
  go_enter Try.func126, Try.ntmps126
  go_wp2_with (go_at_call 136; refine (index_calls _ _ _ _ _ H).mono ?_; rintro e w' ⟨rfl, x, rfl⟩)
  go_ret
  exact ret_mk rfl (by repeat (first | exact Below.refl _ _ | (with_reducible assumption) | apply gL | apply gA | apply gD | apply gN | (refine gS ?_ (by first | (simp; done) | (simp; omega) | omega))))

theorem minute_calls (e : List Int) (c : Cp) (w : World) (h0 : 0 ≤ c.ck) (h1 : c.ck < 4) (hb1 : -1000 ≤ err e c.ck) (hb2 : err e c.ck ≤ 1000) (hm1 : -10000 ≤ c.mn) (hm2 : c.mn ≤ 10000) :
    Calls Try.prog 108 #[.agg (e4 e).toArray, .agg #[.int .i64 c.tk, .int .i64 c.ck, .int .i64 c.mn]] w (Ret (.int .i64 (tru e c)) w) := by
  have hcell : ∀ W : World, ((W.alloc (.cells (e4 e).toArray 119)).alloc (.cells #[.int .i64 c.tk, .int .i64 c.ck, .int .i64 c.mn] 104)).cell? ⟨W.heap.size, c.ck.toNat, none⟩ = some (.int .i64 (err e c.ck)) := by
    intro W
    rw [World.cell?_alloc_lt _ _ _ (by simp), World.cell?_alloc_new]
    have : c.ck.toNat = 0 ∨ c.ck.toNat = 1 ∨ c.ck.toNat = 2 ∨ c.ck.toNat = 3 := by omega
    rcases this with h | h | h | h <;> simp [e4, err, h]
  go_enter Try.func108, Try.ntmps108
  go_wp2
  go_quiet (fail)
  go_wp2
  go_ret
  exact ret_mk rfl (by repeat (first | exact Below.refl _ _ | (with_reducible assumption) | apply gL | apply gA | apply gD | apply gN | (refine gS ?_ (by first | (simp; done) | (simp; omega) | omega))))
end Go.Proofs.Ytcngnfnljkkjgaa
