/-
The words that all texts of this seat share: the world later than a given one, what a call that only computes leaves, and a region that draws its order met once.
-/
import Derived.Test.YtcngnfnljkkjgaaProg
import Derived.WalkKit
import Derived.WalkLawsBesides
import Derived.WalkSpells
import Derived.Outline
import Derived.Deep.QuietTactic
import Derived.BigQuiet
import Derived.KernelRfl
import Derived.Lib.Hide
namespace Go.Proofs.Ytcngnfnljkkjgaa
open Go.RowKit

/-- A world in which all of w is as it was: x if it is one, else w itself. -/
noncomputable def later (w x : World) : World := by
  classical exact if Below w.heap.size w x then x else w

theorem below_later (w x : World) : Below w.heap.size w (later w x) := by
  unfold later
  split
  · assumption
  · exact Below.refl _ _

theorem later_of {w x : World} (h : Below w.heap.size w x) : x = later w x := by
  unfold later
  rw [if_pos h]

theorem later_ex {w x : World} (h : Below w.heap.size w x) : ∃ y, x = later w y := ⟨x, later_of h⟩

theorem cell_later {w x : World} {a : Addr} (h : a.block < w.heap.size) : (later w x).cell? a = w.cell? a := (below_later w x).cell h
theorem frozen_later {w x : World} {a : Addr} (h : a.block < w.heap.size) : (later w x).frozen? a = w.frozen? a := (below_later w x).frozen h
theorem size_later (w x : World) : w.heap.size ≤ (later w x).heap.size := (below_later w x).size
theorem lt_later {w x : World} {b : Nat} (h : b < w.heap.size) : (b < (later w x).heap.size) = True := by
  have := size_later w x
  simp only [eq_iff_iff, iff_true]
  omega
theorem le_later {w x : World} {b : Nat} (h : b < w.heap.size) : (b ≤ (later w x).heap.size) = True := by
  have := size_later w x
  simp only [eq_iff_iff, iff_true]
  omega
theorem block_later {w x : World} {b : Nat} (h : b < w.heap.size) : (later w x).heap[b]? = w.heap[b]? := (below_later w x).block b h

/-- What a call that only computes leaves: the value, and a world in which all is as it was. -/
def Ret (v : Value) (w : World) (e : Ending) (w' : World) : Prop := e = .returned v ∧ ∃ x, w' = later w x

theorem ret_mk {v : Value} {w w' : World} {e : Ending} (he : e = .returned v) (h : Below w.heap.size w w') : Ret v w e w' := ⟨he, later_ex h⟩

theorem drew_below {B : Nat} {w w' : World} (h : Below B w w') : Below B w w'.drew := h.drew
theorem later_below {B : Nat} {w w' x : World} (h : Below B w w') (hB : B ≤ w'.heap.size) : Below B w (later w' x) := h.trans ((below_later w' x).mono hB)

/-- Later than what is later. -/
theorem Ret.up {v : Value} {w x w' : World} {e : Ending} (h : Ret v (later w x) e w') : Ret v w e w' := by
  obtain ⟨he, y, rfl⟩ := h
  exact ⟨he, later_ex (later_below (below_later w x) (size_later w x))⟩

/-- A quiet call at a world later than w. -/
theorem quiet_ret {P : Program} {f : FuncId} {args : Array Value} {w x : World} {v : Value} (h : Calls P f args (later w x) (Ret v (later w x))) :
    Calls P f args (later w x) fun e w'' => e = .returned v ∧ ∃ y, w'' = later w y :=
  h.mono fun _ _ ⟨he, y, hy⟩ => ⟨he, by
    subst hy
    exact later_ex (later_below (below_later w x) (size_later w x))⟩

/-- A region that draws its order, whose operations read and whose calls only compute: met once, in the order of the text. -/
theorem region_later {P : Program} {id : Nat} {Q : Exit → Act → World → Prop} {a : Act} {w : World} {l : List Oper} (hm : P.follows .mixedOrders = true) (hB : Region.lexB .any l.toArray = true)
    (h : wpQuiet P l.toArray (fun w' => ∃ x, w' = later w x) (fun a' => ∀ w', (∃ x, w' = later w x) → Q .normal a' w') l a) : (Code.region id l.toArray true).wp P Q a w :=
  wp_region_quiet (C := fun w' => ∃ x, w' = later w x) hm hB (later_ex ((Below.refl _ _).drew)) (by simpa using h)

theorem gL {w w' x : World} (h : Below w.heap.size w w') : Below w.heap.size w (later w' x) := later_below h h.size
theorem gA {w w' : World} {o : Obj} (h : Below w.heap.size w w') : Below w.heap.size w (w'.alloc o) := h.alloc h.size o
theorem gD {w w' : World} (h : Below w.heap.size w w') : Below w.heap.size w w'.drew := h.drew
theorem gN {w w' : World} {n : Nat} (h : Below w.heap.size w w') : Below w.heap.size w (w'.drewN n) := ⟨h.os, h.tape, h.output, h.size, h.block⟩
theorem gS {w w' : World} {a : Addr} {v : Value} (h : Below w.heap.size w w') (ha : w.heap.size ≤ a.block) : Below w.heap.size w (w'.setCell a v) := h.setCell ha v

theorem below_mono_of {w w1 w' : World} (h : Below w.heap.size w w1) (k : Below w1.heap.size w1 w') : Below w.heap.size w1 w' := k.mono h.size
theorem ret_int {k : IntKind} {a b : Int} (h : a = b) : Ending.returned (.int k a) = .returned (.int k b) := by rw [h]
theorem ret_bool {a b : Bool} (h : a = b) : Ending.returned (.bool a) = .returned (.bool b) := by rw [h]

end Go.Proofs.Ytcngnfnljkkjgaa
