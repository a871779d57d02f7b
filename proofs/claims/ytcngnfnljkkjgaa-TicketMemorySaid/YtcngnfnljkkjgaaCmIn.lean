/-
How a list of numbers that comes in reads.
-/
import Derived.Test.YtcngnfnljkkjgaaCmP
namespace Go.Proofs.Ytcngnfnljkkjgaa
open Go.RowKit Go.ChangeShapes Go.WideShapes Go.ChangeAt Go.Deep

section
variable {H : Type} {enc : TypeId × Value → H} {w : World}
theorem bytes_int : Try.prog.bytesOf 3 = 8 := by kernel_rfl
set_option maxRecDepth 100000 in
theorem open_intlist {r : Reach} {b0 : Nat} {v : Value} {d : DataW H} {p : List MemPlace} {t e : TypeId} (ht : Try.prog.underlying t = some (.slice e)) (he : Try.prog.underlying e = some (.int .i64)) (hk : Try.prog.cellsOf e = 1) (hb8 : Try.prog.bytesOf e = 8)
    (hv : Value.okWide Try.prog w r b0 t v) (hd : DataW.Trod enc Try.prog w 0 (fun _ => true) true t v d p) (hw : ∀ n ∈ d.weights Try.prog t, n ≤ reachBytes) :
    ∃ (A : Option Addr) (c : Nat) (l : List Int), v = .slice A l.length c ∧ SlA w 1 gI A c l ∧ (A = none → c = 0) := by
  obtain ⟨fuel, h⟩ := hd
  obtain ⟨a', len', cap', rfl⟩ := okWide_slice ht hv
  simp only [Value.cells, List.toList_toArray] at h
  rcases open_slice ht h with ⟨hc, -⟩ | ⟨a, len, cap, m, n', D, Pl, hc, -, hl, hm, hmm, hdp, hx⟩
  · simp only [List.cons.injEq, and_true, Value.slice.injEq] at hc
    obtain ⟨rfl, rfl, rfl⟩ := hc
    exact ⟨none, 0, [], rfl, SlA.nil _ _ _ _, fun _ => rfl⟩
  · simp only [List.cons.injEq, and_true, Value.slice.injEq] at hc
    obtain ⟨rfl, rfl, rfl⟩ := hc
    simp only [Prod.mk.injEq] at hdp
    obtain ⟨rfl, -⟩ := hdp
    simp only [if_true] at hmm
    subst hmm
    have hlb : len' ≤ reachBytes := by
      have := hw ((((List.range len').map D).length + ((List.range (m - len')).map fun j => D (len' + j)).length) * Try.prog.bytesOf e) (by simp [DataW.weights, ht])
      simp only [List.length_map, List.length_range, hb8] at this
      omega
    have each : ∀ i, i < len' → ∃ b : Int, w.cell? (a.add (i * 1)) = some (.int .i64 b) := by
      intro i hi'
      obtain ⟨cs', h1, h2⟩ := hx i (by omega)
      rw [hk] at h1
      obtain ⟨-, hlen, hcell⟩ := World.cells?_some h1
      obtain ⟨k, hck, -⟩ := DataW.trod_int he h2
      refine ⟨k, ?_⟩
      have := hcell 0 (by omega)
      rw [hck] at this
      simpa [Addr.add] using this
    obtain ⟨q, hq⟩ := choose_lt each
    refine ⟨some a, m, (List.range len').map q, by simp, ⟨by simpa using hl, by simp; unfold reachBytes at hlb; omega, fun hne => ?_⟩, fun h => by cases h⟩
    have hpos : 0 < len' := by
      rcases Nat.eq_zero_or_pos len' with h0 | h0
      · subst h0; exact absurd rfl hne
      · exact h0
    have hsp : a.spot = none ∧ a.block < w.heap.size := by
      have h3 := hq 0 hpos
      rw [show a.add (0 * 1) = a by simp [Addr.add]] at h3
      exact ⟨World.cell?_spot h3, World.block_lt_of_cell? w _ h3⟩
    obtain ⟨b, off, spot⟩ := a
    obtain ⟨rfl, hbl⟩ := hsp
    refine ⟨b, off, rfl, hbl, fun i x hx' j u hu => ?_⟩
    rw [List.getElem?_map] at hx'
    obtain ⟨i', hi', rfl⟩ := Option.map_eq_some_iff.1 hx'
    have hlt : i < len' := by
      have := (List.getElem?_eq_some_iff.1 hi').1
      simpa using this
    have : i' = i := by
      rw [List.getElem?_range hlt] at hi'
      exact (Option.some.inj hi').symm
    subst this
    have hj : j = 0 := by
      have := (List.getElem?_eq_some_iff.1 hu).1
      simp only [gI, List.length_singleton] at this
      omega
    subst hj
    simp only [gI, List.getElem?_cons_zero, Option.some.injEq] at hu
    have := hq i' hlt
    rw [add_plain] at this
    rw [Nat.add_zero, ← hu]
    exact this
end
end Go.Proofs.Ytcngnfnljkkjgaa
