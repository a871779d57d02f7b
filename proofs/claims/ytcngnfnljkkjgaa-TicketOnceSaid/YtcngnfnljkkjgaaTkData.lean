/-
How lists of numbers and of structs, and a house, lie in memory.
-/
import Derived.Test.YtcngnfnljkkjgaaTkBase
import Derived.Test.YtcngnfnljkkjgaaTkPure
namespace Go.Proofs.Ytcngnfnljkkjgaa
open Go.RowKit

/-- The cells of a range, a ticket, a clip, a number, the errors of four clocks. -/
def gR (r : Rg) : List Value := [.int .i64 r.lo, .int .i64 r.hi]
def gT (t : Tk) : List Value := [.int .i64 t.tub, .int .i64 t.hours]
def gC (c : Cp) : List Value := [.int .i64 c.tk, .int .i64 c.ck, .int .i64 c.mn]
def gI (n : Int) : List Value := [.int .i64 n]
/-- The errors of the clocks as an array of four. -/
def e4 (e : List Int) : List Value := [.int .i64 (e.getD 0 0), .int .i64 (e.getD 1 0), .int .i64 (e.getD 2 0), .int .i64 (e.getD 3 0)]

/-- A list in memory, k cells an element. -/
def SlA {α : Type} (w : World) (k : Nat) (g : α → List Value) (A : Option Addr) (c : Nat) (l : List α) : Prop :=
  l.length ≤ c ∧ l.length ≤ 140737488355328 ∧ (l ≠ [] → ∃ b off, A = some ⟨b, off, none⟩ ∧ b < w.heap.size ∧ ∀ (i : Nat) (x : α), l[i]? = some x → ∀ (j : Nat) (u : Value), (g x)[j]? = some u → w.cell? ⟨b, off + i * k + j, none⟩ = some u)

section
variable {α : Type} {w w' : World} {k : Nat} {g : α → List Value} {A : Option Addr} {c : Nat} {l : List α}
theorem SlA.below (h : SlA w k g A c l) (hb : Below w.heap.size w w') : SlA w' k g A c l :=
  ⟨h.1, h.2.1, fun hn => by
    obtain ⟨b, off, e, hlt, hc⟩ := h.2.2 hn
    exact ⟨b, off, e, Nat.lt_of_lt_of_le hlt hb.size, fun i x hx j u hu => (hb.cell (p := ⟨b, _, none⟩) hlt).trans (hc i x hx j u hu)⟩⟩
theorem SlA.bel {B : Nat} {w0 : World} (h : SlA w0 k g A c l) (hB : w0.heap.size ≤ B) (hb : Below B w0 w') : SlA w' k g A c l := h.below (hb.mono hB)
theorem SlA.at (h : SlA w k g A c l) {i : Nat} (hi : i < l.length) : ∃ b off x, A = some ⟨b, off, none⟩ ∧ b < w.heap.size ∧ l[i]? = some x ∧ ∀ (j : Nat) (u : Value), (g x)[j]? = some u → w.cell? ⟨b, off + i * k + j, none⟩ = some u := by
  obtain ⟨b, off, e, hlt, hc⟩ := h.2.2 (by intro e; simp [e] at hi)
  exact ⟨b, off, l[i], e, hlt, List.getElem?_eq_getElem hi, hc i _ (List.getElem?_eq_getElem hi)⟩
theorem SlA.nil (w : World) (k : Nat) (g : α → List Value) (A : Option Addr) {c : Nat} : SlA w k g A c [] := ⟨Nat.zero_le _, Nat.zero_le _, fun h => absurd rfl h⟩
end

theorem SlA.atI {w : World} {A : Option Addr} {c : Nat} {l : List Int} (h : SlA w 1 gI A c l) {i : Nat} (hi : i < l.length) :
    ∃ b off x, A = some ⟨b, off, none⟩ ∧ b < w.heap.size ∧ l[i]? = some x ∧ w.cell? ⟨b, off + i, none⟩ = some (.int .i64 x) := by
  obtain ⟨b, off, x, e, hlt, hx, hc⟩ := h.at hi
  exact ⟨b, off, x, e, hlt, hx, by have := hc 0 _ rfl; simpa using this⟩
theorem SlA.atR {w : World} {A : Option Addr} {c : Nat} {l : List Rg} (h : SlA w 2 gR A c l) {i : Nat} (hi : i < l.length) :
    ∃ b off x, A = some ⟨b, off, none⟩ ∧ b < w.heap.size ∧ l[i]? = some x ∧ w.cell? ⟨b, off + i * 2, none⟩ = some (.int .i64 x.lo) ∧ w.cell? ⟨b, off + i * 2 + 1, none⟩ = some (.int .i64 x.hi) := by
  obtain ⟨b, off, x, e, hlt, hx, hc⟩ := h.at hi
  exact ⟨b, off, x, e, hlt, hx, hc 0 _ rfl, hc 1 _ rfl⟩
theorem SlA.atT {w : World} {A : Option Addr} {c : Nat} {l : List Tk} (h : SlA w 2 gT A c l) {i : Nat} (hi : i < l.length) :
    ∃ b off x, A = some ⟨b, off, none⟩ ∧ b < w.heap.size ∧ l[i]? = some x ∧ w.cell? ⟨b, off + i * 2, none⟩ = some (.int .i64 x.tub) ∧ w.cell? ⟨b, off + i * 2 + 1, none⟩ = some (.int .i64 x.hours) := by
  obtain ⟨b, off, x, e, hlt, hx, hc⟩ := h.at hi
  exact ⟨b, off, x, e, hlt, hx, hc 0 _ rfl, hc 1 _ rfl⟩
theorem SlA.atC {w : World} {A : Option Addr} {c : Nat} {l : List Cp} (h : SlA w 3 gC A c l) {i : Nat} (hi : i < l.length) :
    ∃ b off x, A = some ⟨b, off, none⟩ ∧ b < w.heap.size ∧ l[i]? = some x ∧ w.cell? ⟨b, off + i * 3, none⟩ = some (.int .i64 x.tk) ∧ w.cell? ⟨b, off + i * 3 + 1, none⟩ = some (.int .i64 x.ck) ∧
      w.cell? ⟨b, off + i * 3 + 2, none⟩ = some (.int .i64 x.mn) := by
  obtain ⟨b, off, x, e, hlt, hx, hc⟩ := h.at hi
  exact ⟨b, off, x, e, hlt, hx, hc 0 _ rfl, hc 1 _ rfl, hc 2 _ rfl⟩

theorem flat_at {α : Type} {g : α → List Value} {k : Nat} : ∀ {l : List α}, (∀ x ∈ l, (g x).length = k) → ∀ (i : Nat) (x : α), l[i]? = some x → ∀ (j : Nat) (u : Value), (g x)[j]? = some u → (l.flatMap g)[i * k + j]? = some u
  | [], _, i, x, hi, _, _, _ => by simp at hi
  | y :: l, hg, 0, x, hi, j, u, hu => by
    simp only [List.getElem?_cons_zero, Option.some.injEq] at hi
    subst hi
    have hj : j < (g y).length := (List.getElem?_eq_some_iff.1 hu).1
    rw [List.flatMap_cons, Nat.zero_mul, Nat.zero_add, List.getElem?_append_left hj]
    exact hu
  | y :: l, hg, i + 1, x, hi, j, u, hu => by
    have hy := hg y (by simp)
    rw [List.flatMap_cons, List.getElem?_append_right (by rw [hy, Nat.add_mul]; omega), hy]
    have : (i + 1) * k + j - k = i * k + j := by rw [Nat.add_mul]; omega
    rw [this]
    exact flat_at (fun z hz => hg z (by simp [hz])) i x (by simpa using hi) j u hu
theorem flat_length {α : Type} {g : α → List Value} {k : Nat} : ∀ {l : List α}, (∀ x ∈ l, (g x).length = k) → (l.flatMap g).length = l.length * k
  | [], _ => by simp
  | y :: l, hg => by
    rw [List.flatMap_cons, List.length_append, hg y (by simp), flat_length (fun z hz => hg z (by simp [hz])), List.length_cons, Nat.add_mul]
    omega

/-- A row of the call's own reads as a list. -/
theorem SlA.of_own {α : Type} {w : World} {base : Nat} {e : TypeId} {k : Nat} {g : α → List Value} {v : Value} {n : Nat} {l : List α} (h : w.ownsRow base e k v n (l.flatMap g)) (hg : ∀ x ∈ l, (g x).length = k) (hn : l.length = n) (hb : n ≤ 140737488355328) :
    ∃ A c, v = .slice A l.length c ∧ SlA w k g A c l := by
  rcases h.2 with ⟨rfl, h0⟩ | ⟨b, cap, cur, rfl, _, hh, hnc, hcap, hsz, htake⟩
  · have hl : l = [] := List.eq_nil_of_length_eq_zero (by omega)
    subst hl
    exact ⟨none, 0, by simp, SlA.nil _ _ _ _⟩
  · refine ⟨some ⟨b, 0, none⟩, cap, by rw [hn], by omega, by omega, fun hne => ⟨b, 0, rfl, ?_, fun i x hx j u hu => ?_⟩⟩
    · rcases Nat.lt_or_ge b w.heap.size with hlt | hge
      · exact hlt
      · rw [Array.getElem?_eq_none hge] at hh; cases hh
    · have h1 := flat_at hg i x hx j u hu
      have hlt : i * k + j < n * k := by
        have := (List.getElem?_eq_some_iff.1 h1).1
        rw [flat_length hg, hn] at this
        exact this
      rw [← htake, List.getElem?_take_of_lt hlt] at h1
      unfold World.cell?
      simp only [hh, Nat.zero_add]
      simpa using h1

/-- The cells of a block just laid. -/
theorem news_new (w : World) (b : Nat) (hb : b = w.heap.size) (cs : List Value) (t : TypeId) : ∀ (j : Nat) (u : Value), cs[j]? = some u → (w.alloc (.cells cs.toArray t)).cell? ((⟨b, 0, none⟩ : Addr).add j) = some u := by
  subst hb
  intro j u hu
  have : ((⟨w.heap.size, 0, none⟩ : Addr).add j) = ⟨w.heap.size, j, none⟩ := by
    unfold Addr.add
    split
    · next h => rw [h]
    · simp
  rw [this, World.cell?_alloc_new]
  simpa using hu

theorem grown_below {w w1 w' : World} {base : Nat} {e : TypeId} {k n : Nat} {v : Value} {xs : List Value} (hb : Below w.heap.size w w1) (ho : w1.ownsRow base e k v n xs) (hbase : w.heap.size ≤ base) (hg : w1.grownBy w' v.ownBlock) : Below w.heap.size w w' :=
  hb.grown hg hb.size (fun j hj => Nat.le_trans hbase (ho.lt j hj).1)

/-- What a call leaves that hands back a list in new memory. -/
def RetSl {α : Type} (k : Nat) (g : α → List Value) (l : List α) (w : World) (e : Ending) (w' : World) : Prop :=
  ∃ A c, e = .returned (.slice A l.length c) ∧ (∃ x, w' = later w x) ∧ SlA w' k g A c l

theorem RetSl.up {α : Type} {k : Nat} {g : α → List Value} {l : List α} {w x w' : World} {e : Ending} (h : RetSl k g l (later w x) e w') : RetSl k g l w e w' := by
  obtain ⟨A, c, he, ⟨y, rfl⟩, hs⟩ := h
  exact ⟨A, c, he, later_ex (later_below (below_later w x) (size_later w x)), hs⟩

/-- A house in memory. -/
def HsAt (w : World) (v : Value) (h : Hs) : Prop :=
  ∃ A2 c2 A3 c3 A4 c4, v = .agg #[.int .i64 h.hour, .int .i64 h.grace, .slice A2 h.clocks.length c2, .slice A3 h.tickets.length c3, .slice A4 h.clips.length c4] ∧
    SlA w 2 gR A2 c2 h.clocks ∧ SlA w 2 gT A3 c3 h.tickets ∧ SlA w 3 gC A4 c4 h.clips
theorem HsAt.below {w w' : World} {v : Value} {h : Hs} (H : HsAt w v h) (hb : Below w.heap.size w w') : HsAt w' v h := by
  obtain ⟨A2, c2, A3, c3, A4, c4, e, h2, h3, h4⟩ := H
  exact ⟨A2, c2, A3, c3, A4, c4, e, h2.below hb, h3.below hb, h4.below hb⟩

end Go.Proofs.Ytcngnfnljkkjgaa
