/-
How a clip that comes in reads; how many clips a house that comes in can hold.
-/
import Derived.Test.YtcngnfnljkkjgaaCmP
namespace Go.Proofs.Ytcngnfnljkkjgaa
open Go.RowKit Go.ChangeShapes Go.WideShapes Go.ChangeAt Go.Deep

section
variable {H : Type} {enc : TypeId × Value → H} {w : World}
theorem array3 {cs : Array Value} (h : cs.size = 3) : ∃ a b c, cs = #[a, b, c] := by
  match cs, h with
  | ⟨[a, b, c]⟩, _ => exact ⟨a, b, c, rfl⟩
set_option maxRecDepth 100000 in
theorem open_clip {r : Reach} {b0 : Nat} {t : TypeId} {fs : Array Field} {v : Value} {d : DataW H} {p : List MemPlace} (ht : Try.prog.underlying t = some (.struct fs)) (hC : Try.prog.cellsOf t = 3) (hz : fs.size = 3) (hi : IntsF fs)
    (hv : Value.okWide Try.prog w r b0 t v) (h : DataW.Trod enc Try.prog w 0 (fun _ => true) true t v d p) : ∃ c : Cp, v = .agg #[.int .i64 c.tk, .int .i64 c.ck, .int .i64 c.mn] := by
  obtain ⟨cs, rfl, hsz⟩ := okWide_struct ht hv
  obtain ⟨a0, a1, a2, rfl⟩ := array3 (hsz.trans hC)
  obtain ⟨fuel, hf⟩ := h
  obtain ⟨-, hints⟩ := elem_ints ht hi hf
  obtain ⟨x, hx⟩ := hints 0 (by omega)
  obtain ⟨y, hy⟩ := hints 1 (by omega)
  obtain ⟨z, hz⟩ := hints 2 (by omega)
  simp [Value.cells] at hx hy hz
  exact ⟨⟨x, y, z⟩, by rw [hx, hy, hz]⟩
set_option maxRecDepth 100000 in
theorem house_clips {t t2 t3 t4 e4 : TypeId} {fs : Array Field} {f0 f1 f2 f3 f4 : Field} {v : Value} {d : DataW H} {p : List MemPlace} (ht : Try.prog.underlying t = some (.struct fs)) (hfl : fs = #[f0, f1, f2, f3, f4])
    (o0 : f0.offset = 0 ∧ f0.type = 3) (o1 : f1.offset = 1 ∧ f1.type = 3) (o2 : f2.offset = 2 ∧ f2.type = t2) (o3 : f3.offset = 3 ∧ f3.type = t3) (o4 : f4.offset = 4 ∧ f4.type = t4)
    (k4 : Try.prog.cellsOf t4 = 1) (u4 : Try.prog.underlying t4 = some (.slice e4)) (b4 : Try.prog.bytesOf e4 = 24)
    (h : DataW.Trod enc Try.prog w 0 (fun _ => true) true t v d p) (hw : ∀ n ∈ d.weights Try.prog t, n ≤ reachBytes) {hs : Hs} (HH : HsAt w v hs) : hs.clips.length * 24 + 24 ≤ 140737488355328 := by
  obtain ⟨A2, d2, A3, d3, A4, d4, rfl, -, -, -⟩ := HH
  obtain ⟨fuel, hf⟩ := h
  obtain ⟨xs, m, rfl, hd, -, hxl, hfs⟩ := DataW.trod_struct ht hf
  subst hfl
  match xs, hxl with
  | [y0, y1, y2, y3, y4], _ =>
    have g4 := hfs 4 f4 rfl
    rw [o4.1, o4.2, k4] at g4
    simp [Value.cells] at g4
    have hd1 : d = .agg [y0.1, y1.1, y2.1, y3.1, y4.1] := by
      simp only [List.map_cons, List.map_nil, Prod.mk.injEq] at hd
      exact hd.1
    have hw4 : ∀ n ∈ y4.1.weights Try.prog t4, n ≤ reachBytes := by
      intro n hn
      refine hw n ?_
      rw [hd1]
      simp only [DataW.weights, ht]
      have : (#[f0, f1, f2, f3, f4] : Array Field).toList.map (fun f => f.type) = [3, 3, t2, t3, t4] := by simp [o0.2, o1.2, o2.2, o3.2, o4.2]
      rw [this]
      exact DataW.weights_mem_each (j := 4) rfl rfl n hn
    rcases open_slice u4 g4 with ⟨hc, -⟩ | ⟨a, len, cap, m, n', D, Pl, hc, -, hl, hm, hmm, hdp, hx⟩
    · simp only [List.cons.injEq, and_true, Value.slice.injEq] at hc
      obtain ⟨-, hl0, -⟩ := hc
      rw [hl0]
      omega
    · simp only [List.cons.injEq, and_true, Value.slice.injEq] at hc
      obtain ⟨-, hl0, -⟩ := hc
      rw [hdp] at hw4
      have := hw4 ((((List.range len).map D).length + ((List.range (m - len)).map fun j => D (len + j)).length) * Try.prog.bytesOf e4) (by simp [DataW.weights, u4])
      simp only [List.length_map, List.length_range, b4] at this
      unfold reachBytes at this
      rw [hl0]
      omega
end
end Go.Proofs.Ytcngnfnljkkjgaa
