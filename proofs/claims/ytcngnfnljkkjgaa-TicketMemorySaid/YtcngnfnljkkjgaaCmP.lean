/-
How a house that comes in reads: its lists are lists of numbers.
-/
import Derived.Test.YtcngnfnljkkjgaaCmM
import Derived.Test.YtcngnfnljkkjgaaRows
import Derived.ProofKit
import Derived.OpenShut
import Derived.ChangeOld
import Derived.Below
import Derived.Deep.SlicePairs
namespace Go.Proofs.Ytcngnfnljkkjgaa
open Go.RowKit Go.ChangeShapes Go.WideShapes Go.ChangeAt Go.Deep

section
variable {H : Type} {enc : TypeId × Value → H} {w : World}

/-- A struct of integers. -/
def IntsF (fs : Array Field) : Prop := ∀ (j : Nat) (f : Field), fs[j]? = some f → f.offset = j ∧ Try.prog.cellsOf f.type = 1 ∧ Try.prog.underlying f.type = some (.int .i64)
theorem elem_ints {e : TypeId} {fs : Array Field} (he : Try.prog.underlying e = some (.struct fs)) (hi : IntsF fs) {n : Nat} {cs : List Value} {x : DataW H × List MemPlace} (h : DataW.trod enc Try.prog w 0 (fun _ => true) true n e cs = some x) :
    cs.length = Try.prog.cellsOf e ∧ ∀ j, j < fs.size → ∃ k : Int, cs[j]? = some (.int .i64 k) := by
  obtain ⟨xs, m, rfl, -, hlen, hxl, hf⟩ := DataW.trod_struct he h
  refine ⟨hlen, fun j hj => ?_⟩
  obtain ⟨h1, h2, h3⟩ := hi j _ (Array.getElem?_eq_getElem hj)
  have := hf j _ (Array.getElem?_eq_getElem hj)
  rw [h1, h2, List.getElem?_eq_getElem (by omega)] at this
  obtain ⟨k, hk, -⟩ := DataW.trod_int h3 this
  refine ⟨k, ?_⟩
  have h4 : ((cs.drop j).take 1)[0]? = some (.int .i64 k) := by rw [hk]; rfl
  rw [List.getElem?_take_of_lt (by omega), List.getElem?_drop] at h4
  simpa using h4

/-- A slice of such structs reads as a list. -/
theorem open_structs {α : Type} [Inhabited α] {t e : TypeId} {fs : Array Field} {k : Nat} {g : α → List Value} (ht : Try.prog.underlying t = some (.slice e)) (he : Try.prog.underlying e = some (.struct fs)) (hk : Try.prog.cellsOf e = k) (hk0 : 0 < k)
    (hg : ∀ cs : List Value, cs.length = k → (∀ j, j < fs.size → ∃ n : Int, cs[j]? = some (.int .i64 n)) → ∃ a, g a = cs) (hi : IntsF fs)
    {n : Nat} {cs : List Value} {x : DataW H × List MemPlace} (h : DataW.trod enc Try.prog w 0 (fun _ => true) true n t cs = some x) (hb : 1 ≤ Try.prog.bytesOf e) (hw : ∀ n ∈ x.1.weights Try.prog t, n ≤ reachBytes) :
    ∃ (A : Option Addr) (c : Nat) (l : List α), cs = [.slice A l.length c] ∧ SlA w k g A c l ∧ (A = none → c = 0) := by
  rcases open_slice ht h with ⟨rfl, -⟩ | ⟨a, len, cap, m, n', D, Pl, rfl, -, hl, hm, hmm, rfl, hx⟩
  · exact ⟨none, 0, [], rfl, SlA.nil _ _ _ _, fun _ => rfl⟩
  · simp only [if_true] at hmm
    subst hmm
    have hlb : len ≤ reachBytes := by
      have := hw ((((List.range len).map D).length + ((List.range (m - len)).map fun j => D (len + j)).length) * Try.prog.bytesOf e) (by simp [DataW.weights, ht])
      simp only [List.length_map, List.length_range] at this
      have h2 := Nat.mul_le_mul_left (len + (m - len)) hb
      omega
    have each : ∀ i, i < len → ∃ b : α, ∀ (j : Nat) (u : Value), (g b)[j]? = some u → w.cell? ((a.add (i * k)).add j) = some u := by
      intro i hi'
      obtain ⟨cs', h1, h2⟩ := hx i (by omega)
      rw [hk] at h1
      obtain ⟨-, hlen, hcell⟩ := World.cells?_some h1
      obtain ⟨-, hints⟩ := elem_ints he hi h2
      obtain ⟨b, hb⟩ := hg cs' hlen hints
      refine ⟨b, fun j u hu => ?_⟩
      rw [hb] at hu
      have hj : j < k := by rw [← hlen]; exact (List.getElem?_eq_some_iff.1 hu).1
      rw [hcell j hj, hu]
    obtain ⟨q, hq⟩ := choose_lt each
    refine ⟨some a, m, (List.range len).map q, by simp, ⟨by simpa using hl, by simp; unfold reachBytes at hlb; omega, fun hne => ?_⟩, fun h => by cases h⟩
    have hpos : 0 < len := by
      rcases Nat.eq_zero_or_pos len with h0 | h0
      · subst h0; exact absurd rfl hne
      · exact h0
    have hsp : a.spot = none ∧ a.block < w.heap.size := by
      obtain ⟨cs', h1, h2⟩ := hx 0 (by omega)
      rw [hk] at h1
      obtain ⟨-, hlen, hcell⟩ := World.cells?_some h1
      have h3 := hcell 0 (by omega)
      rw [List.getElem?_eq_getElem (by omega), show (a.add (0 * k)).add 0 = a by simp [Addr.add]] at h3
      exact ⟨World.cell?_spot h3, World.block_lt_of_cell? w _ h3⟩
    obtain ⟨b, off, spot⟩ := a
    obtain ⟨rfl, hbl⟩ := hsp
    refine ⟨b, off, rfl, hbl, fun i x hx' j u hu => ?_⟩
    rw [List.getElem?_map] at hx'
    obtain ⟨i', hi', rfl⟩ := Option.map_eq_some_iff.1 hx'
    have hlt : i < len := by
      have := (List.getElem?_eq_some_iff.1 hi').1
      simpa using this
    have : i' = i := by
      rw [List.getElem?_range hlt] at hi'
      exact (Option.some.inj hi').symm
    subst this
    have := hq i' hlt j u hu
    rw [add_add, add_plain] at this
    rwa [← Nat.add_assoc] at this

theorem len2 {cs : List Value} (h : cs.length = 2) : ∃ a b, cs = [a, b] := by
  match cs, h with
  | [a, b], _ => exact ⟨a, b, rfl⟩
theorem len3 {cs : List Value} (h : cs.length = 3) : ∃ a b c, cs = [a, b, c] := by
  match cs, h with
  | [a, b, c], _ => exact ⟨a, b, c, rfl⟩
instance : Inhabited Rg := ⟨⟨0, 0⟩⟩
instance : Inhabited Tk := ⟨⟨0, 0⟩⟩
instance : Inhabited Cp := ⟨⟨0, 0, 0⟩⟩
theorem gR_all {fs : Array Field} (hf : fs.size = 2) (cs : List Value) (hl : cs.length = 2) (h : ∀ j, j < fs.size → ∃ n : Int, cs[j]? = some (.int .i64 n)) : ∃ r, gR r = cs := by
  obtain ⟨a, b, rfl⟩ := len2 hl
  obtain ⟨x, hx⟩ := h 0 (by omega)
  obtain ⟨y, hy⟩ := h 1 (by omega)
  simp only [List.getElem?_cons_zero, List.getElem?_cons_succ, Option.some.injEq] at hx hy
  exact ⟨⟨x, y⟩, by simp [gR, hx, hy]⟩
theorem gT_all {fs : Array Field} (hf : fs.size = 2) (cs : List Value) (hl : cs.length = 2) (h : ∀ j, j < fs.size → ∃ n : Int, cs[j]? = some (.int .i64 n)) : ∃ r, gT r = cs := by
  obtain ⟨a, b, rfl⟩ := len2 hl
  obtain ⟨x, hx⟩ := h 0 (by omega)
  obtain ⟨y, hy⟩ := h 1 (by omega)
  simp only [List.getElem?_cons_zero, List.getElem?_cons_succ, Option.some.injEq] at hx hy
  exact ⟨⟨x, y⟩, by simp [gT, hx, hy]⟩
theorem gC_all {fs : Array Field} (hf : fs.size = 3) (cs : List Value) (hl : cs.length = 3) (h : ∀ j, j < fs.size → ∃ n : Int, cs[j]? = some (.int .i64 n)) : ∃ r, gC r = cs := by
  obtain ⟨a, b, c, rfl⟩ := len3 hl
  obtain ⟨x, hx⟩ := h 0 (by omega)
  obtain ⟨y, hy⟩ := h 1 (by omega)
  obtain ⟨z, hz⟩ := h 2 (by omega)
  simp only [List.getElem?_cons_zero, List.getElem?_cons_succ, Option.some.injEq] at hx hy hz
  exact ⟨⟨x, y, z⟩, by simp [gC, hx, hy, hz]⟩
theorem array5 {cs : Array Value} (h : cs.size = 5) : ∃ a b c d e, cs = #[a, b, c, d, e] := by
  match cs, h with
  | ⟨[a, b, c, d, e]⟩, _ => exact ⟨a, b, c, d, e, rfl⟩

end
theorem cells_house : Try.prog.cellsOf 26 = 5 := by kernel_rfl
theorem cells_int : Try.prog.cellsOf 3 = 1 := by kernel_rfl
theorem cells_sRange : Try.prog.cellsOf 22 = 1 := by kernel_rfl
theorem cells_sTicket : Try.prog.cellsOf 23 = 1 := by kernel_rfl
theorem cells_sClip : Try.prog.cellsOf 24 = 1 := by kernel_rfl
theorem cells_Range : Try.prog.cellsOf 44 = 2 := by kernel_rfl
theorem cells_Ticket : Try.prog.cellsOf 80 = 2 := by kernel_rfl
theorem cells_Clip : Try.prog.cellsOf 74 = 3 := by kernel_rfl
theorem bytes_Range : Try.prog.bytesOf 44 = 16 := by kernel_rfl
theorem bytes_Ticket : Try.prog.bytesOf 80 = 16 := by kernel_rfl
theorem bytes_Clip : Try.prog.bytesOf 74 = 24 := by kernel_rfl
theorem int_field {f : Field} {j : Nat} (h1 : f.offset = j) (h2 : f.type = 3) : f.offset = j ∧ Try.prog.cellsOf f.type = 1 ∧ Try.prog.underlying f.type = some (.int .i64) := ⟨h1, by rw [h2]; exact cells_int, by rw [h2]; exact Try.underlying3⟩
theorem fields2 {f0 f1 : Field} (h0 : f0.offset = 0 ∧ f0.type = 3) (h1 : f1.offset = 1 ∧ f1.type = 3) : IntsF #[f0, f1] := by
  intro j f hf
  match j, hf with
  | 0, hf => cases hf; exact int_field h0.1 h0.2
  | 1, hf => cases hf; exact int_field h1.1 h1.2
theorem fields3 {f0 f1 f2 : Field} (h0 : f0.offset = 0 ∧ f0.type = 3) (h1 : f1.offset = 1 ∧ f1.type = 3) (h2 : f2.offset = 2 ∧ f2.type = 3) : IntsF #[f0, f1, f2] := by
  intro j f hf
  match j, hf with
  | 0, hf => cases hf; exact int_field h0.1 h0.2
  | 1, hf => cases hf; exact int_field h1.1 h1.2
  | 2, hf => cases hf; exact int_field h2.1 h2.2

section
variable {H : Type} {enc : TypeId × Value → H} {w : World}
set_option maxRecDepth 100000 in
/-- A house that comes in. -/
theorem open_house5 {r : Reach} {b0 : Nat} {t t2 t3 t4 e2 e3 e4 : TypeId} {fs fs2 fs3 fs4 : Array Field} {f0 f1 f2 f3 f4 : Field} {v : Value} {d : DataW H} {p : List MemPlace} (ht : Try.prog.underlying t = some (.struct fs)) (hfl : fs = #[f0, f1, f2, f3, f4]) (hC : Try.prog.cellsOf t = 5)
    (o0 : f0.offset = 0 ∧ f0.type = 3) (o1 : f1.offset = 1 ∧ f1.type = 3) (o2 : f2.offset = 2 ∧ f2.type = t2) (o3 : f3.offset = 3 ∧ f3.type = t3) (o4 : f4.offset = 4 ∧ f4.type = t4)
    (k2 : Try.prog.cellsOf t2 = 1) (k3 : Try.prog.cellsOf t3 = 1) (k4 : Try.prog.cellsOf t4 = 1)
    (u2 : Try.prog.underlying t2 = some (.slice e2)) (u3 : Try.prog.underlying t3 = some (.slice e3)) (u4 : Try.prog.underlying t4 = some (.slice e4))
    (s2 : Try.prog.underlying e2 = some (.struct fs2)) (s3 : Try.prog.underlying e3 = some (.struct fs3)) (s4 : Try.prog.underlying e4 = some (.struct fs4))
    (c2 : Try.prog.cellsOf e2 = 2) (c3 : Try.prog.cellsOf e3 = 2) (c4 : Try.prog.cellsOf e4 = 3) (b2 : 1 ≤ Try.prog.bytesOf e2) (b3 : 1 ≤ Try.prog.bytesOf e3) (b4 : 1 ≤ Try.prog.bytesOf e4)
    (z2 : fs2.size = 2) (z3 : fs3.size = 2) (z4 : fs4.size = 3) (i2 : IntsF fs2) (i3 : IntsF fs3) (i4 : IntsF fs4)
    (hv : Value.okWide Try.prog w r b0 t v) (h : DataW.Trod enc Try.prog w 0 (fun _ => true) true t v d p) (hw : ∀ n ∈ d.weights Try.prog t, n ≤ reachBytes) :
    ∃ hs, HsAt w v hs := by
  obtain ⟨cs, rfl, hsz⟩ := okWide_struct ht hv
  obtain ⟨a0, a1, a2, a3, a4, rfl⟩ := array5 (hsz.trans hC)
  obtain ⟨fuel, hf⟩ := h
  obtain ⟨xs, m, rfl, hd, -, hxl, hfs⟩ := DataW.trod_struct ht hf
  subst hfl
  match xs, hxl with
  | [y0, y1, y2, y3, y4], _ =>
    have g0 := hfs 0 f0 rfl
    have g1 := hfs 1 f1 rfl
    have g2 := hfs 2 f2 rfl
    have g3 := hfs 3 f3 rfl
    have g4 := hfs 4 f4 rfl
    rw [o0.1, o0.2, cells_int] at g0
    rw [o1.1, o1.2, cells_int] at g1
    rw [o2.1, o2.2, k2] at g2
    rw [o3.1, o3.2, k3] at g3
    rw [o4.1, o4.2, k4] at g4
    simp [Value.cells] at g0 g1 g2 g3 g4
    have hd1 : d = .agg [y0.1, y1.1, y2.1, y3.1, y4.1] := by
      simp only [List.map_cons, List.map_nil, Prod.mk.injEq] at hd
      exact hd.1
    have hwj : ∀ (j : Nat) (tt : TypeId) (y : DataW H), ([3, 3, t2, t3, t4] : List TypeId)[j]? = some tt → ([y0.1, y1.1, y2.1, y3.1, y4.1] : List (DataW H))[j]? = some y → ∀ n ∈ y.weights Try.prog tt, n ≤ reachBytes := by
      intro j tt y h1 h2 n hn
      refine hw n ?_
      rw [hd1]
      simp only [DataW.weights, ht]
      have : (#[f0, f1, f2, f3, f4] : Array Field).toList.map (fun f => f.type) = [3, 3, t2, t3, t4] := by simp [o0.2, o1.2, o2.2, o3.2, o4.2]
      rw [this]
      exact DataW.weights_mem_each h1 h2 n hn
    obtain ⟨n0, h0, -⟩ := DataW.trod_int Try.underlying3 g0
    obtain ⟨n1, h1, -⟩ := DataW.trod_int Try.underlying3 g1
    simp only [List.cons.injEq, and_true] at h0 h1
    subst h0 h1
    obtain ⟨A2, d2, l2, e2', H2, -⟩ := open_structs (g := gR) u2 s2 c2 (by omega) (gR_all z2) i2 g2 b2 (hwj 2 _ _ rfl rfl)
    obtain ⟨A3, d3, l3, e3', H3, -⟩ := open_structs (g := gT) u3 s3 c3 (by omega) (gT_all z3) i3 g3 b3 (hwj 3 _ _ rfl rfl)
    obtain ⟨A4, d4, l4, e4', H4, -⟩ := open_structs (g := gC) u4 s4 c4 (by omega) (gC_all z4) i4 g4 b4 (hwj 4 _ _ rfl rfl)
    simp only [List.cons.injEq, and_true] at e2' e3' e4'
    subst e2' e3' e4'
    exact ⟨⟨n0, n1, l2, l3, l4⟩, A2, d2, A3, d3, A4, d4, rfl, H2, H3, H4⟩
end
end Go.Proofs.Ytcngnfnljkkjgaa
