/-
The map of how many truths have an error of a clock: its entries one after the other.
-/
import Derived.Test.YtcngnfnljkkjgaaCmE
import Derived.MapKept
import Derived.WideKeyEntry
namespace Go.Proofs.Ytcngnfnljkkjgaa
open Go.RowKit

theorem equal_spot (a b c d : Int) (w : World) : (Op.equal 132 (.agg #[.int .i64 a, .int .i64 b]) (.agg #[.int .i64 c, .int .i64 d])).run Try.prog w = .ok (a == c && b == d) w := by
  unfold Op.equal Op.maxDepth
  by_cases h1 : a = c <;> by_cases h2 : b = d <;> simp [go_sem, h1, h2]
theorem checkKey_spot (e : Bool) (a b : Int) (w : World) : (Instr.checkKey e 10000 132 (.agg #[.int .i64 a, .int .i64 b])).run Try.prog w = .ok () w := by kernel_rfl

/-- One entry: the clock, its error, how many; and its place. -/
def entry (x : Int × Int × Int) (i : Nat) : MapEntry := { key := .agg #[.int .i64 x.1, .int .i64 x.2.1], val := .int .i64 x.2.2, born := i }
def entries (l : List (Int × Int × Int)) : List MapEntry := l.zipIdx.map fun p => entry p.1 p.2
def MapAt (w : World) (r : Nat) (l : List (Int × Int × Int)) : Prop := w.heap[r]? = some (.map (entries l).toArray l.length)
/-- How many an error has. -/
def cnt (l : List (Int × Int × Int)) (c o : Int) : Int := match l.find? fun x => c == x.1 && o == x.2.1 with
  | some x => x.2.2
  | none => 0
def bump (l : List (Int × Int × Int)) (c o : Int) : List (Int × Int × Int) :=
  match l.findIdx? fun x => c == x.1 && o == x.2.1 with
  | some i => l.set i (c, o, cnt l c o + 1)
  | none => l ++ [(c, o, 1)]

theorem findAsking_spot (c o : Int) (w : World) : ∀ (l : List (Int × Int × Int)) (i k : Nat),
    (Instr.findAsking 132 (.agg #[.int .i64 c, .int .i64 o]) ((l.zipIdx k).map fun p => entry p.1 p.2) i).run Try.prog w =
      .ok ((l.findIdx? fun x => c == x.1 && o == x.2.1).map fun j => (i + j, Value.int .i64 ((l.getD j (0, 0, 0)).2.2))) w := by
  intro l
  induction l with
  | nil => intro i k; simp [Instr.findAsking]
  | cons x l ih =>
    intro i k
    simp only [List.zipIdx_cons, List.map_cons, Instr.findAsking, Sem.run_bind]
    simp only [entry, equal_spot, Result.andThen, List.findIdx?_cons]
    cases h : (c == x.1 && o == x.2.1)
    · have := ih (i + 1) (k + 1)
      simp only [entry] at this
      simp [this, Option.map_map, Function.comp_def, Nat.add_assoc, Nat.add_comm 1]
    · simp
theorem findKey_spot (c o : Int) (w : World) (l : List (Int × Int × Int)) :
    (Instr.findKey 132 (.agg #[.int .i64 c, .int .i64 o]) (entries l)).run Try.prog w =
      .ok ((l.findIdx? fun x => c == x.1 && o == x.2.1).map fun j => (j, Value.int .i64 ((l.getD j (0, 0, 0)).2.2))) w := by
  have h := findAsking_spot c o w l 0 0
  unfold Instr.findKey
  have hu : (underlying 132).run Try.prog w = .ok (.struct (Try.prog.fieldsOf 132)) w := by kernel_rfl
  simp only [Sem.run_bind, hu, Result.andThen]
  cases l with
  | nil => simp [entries, Instr.findNow]
  | cons x l =>
    have : Instr.findNow (.struct (Try.prog.fieldsOf 132)) (.agg #[.int .i64 c, .int .i64 o]) (entries (x :: l)) 0 = none := by
      simp [entries, Instr.findNow, Instr.sameNow]
    simp only [this]
    simpa [entries] using h

theorem under_map : Try.prog.underlying 127 = some (.map 132 3) := by kernel_rfl
theorem zero_int (w : World) : (zeroValue 3).run Try.prog w = .ok (.int .i64 0) w := by kernel_rfl

theorem entries_length (l : List (Int × Int × Int)) : (entries l).length = l.length := by simp [entries]
theorem entries_at (l : List (Int × Int × Int)) (j : Nat) : (entries l)[j]? = l[j]?.map fun x => entry x j := by
  simp only [entries, List.getElem?_map, List.getElem?_zipIdx]
  cases l[j]? <;> simp
theorem getObj_map {w : World} {r : Nat} {l : List (Int × Int × Int)} (h : MapAt w r l) : (getObj r).run Try.prog w = .ok (.map (entries l).toArray l.length) w := by
  unfold MapAt at h
  simp [getObj, Sem.run, h]
theorem setObj_map {w : World} {r : Nat} {l : List (Int × Int × Int)} (o : Obj) (h : MapAt w r l) : (setObj r o).run Try.prog w = .ok () (w.putObj r o) := by
  unfold MapAt at h
  simp [setObj, Sem.run, h, World.putObj]
theorem cnt_of_some {l : List (Int × Int × Int)} {c o : Int} {j : Nat} (h : (l.findIdx? fun x => c == x.1 && o == x.2.1) = some j) : cnt l c o = (l.getD j (0, 0, 0)).2.2 ∧ l[j]? = some (c, o, cnt l c o) := by
  rw [List.findIdx?_eq_some_iff_getElem] at h
  obtain ⟨hj, h1, h2⟩ := h
  have hf : (l.find? fun x => c == x.1 && o == x.2.1) = some l[j] := by
    rw [List.find?_eq_some_iff_getElem]
    exact ⟨h1, j, hj, rfl, fun k hk => by have h3 := h2 k hk; revert h3; generalize (c == l[k].1 && o == l[k].2.1) = b; cases b <;> simp⟩
  have hc : cnt l c o = l[j].2.2 := by rw [cnt, hf]
  rw [Bool.and_eq_true, beq_iff_eq, beq_iff_eq] at h1
  refine ⟨by rw [hc, List.getD_eq_getElem?_getD, List.getElem?_eq_getElem hj]; rfl, ?_⟩
  rw [List.getElem?_eq_getElem hj, hc, h1.1, h1.2]
theorem cnt_of_none {l : List (Int × Int × Int)} {c o : Int} (h : (l.findIdx? fun x => c == x.1 && o == x.2.1) = none) : cnt l c o = 0 := by
  rw [List.findIdx?_eq_none_iff] at h
  have hf : (l.find? fun x => c == x.1 && o == x.2.1) = none := by
    rw [List.find?_eq_none]
    intro x hx
    simpa using h x hx
  rw [cnt, hf]

theorem lookup_spot {w : World} {r : Nat} {l : List (Int × Int × Int)} (h : MapAt w r l) (c o : Int) :
    (Instr.lookup 127 (.map (some r)) (.agg #[.int .i64 c, .int .i64 o]) false).run Try.prog w = .ok (.int .i64 (cnt l c o)) w := by
  unfold Instr.lookup
  simp only [Sem.run_bind, run_underlying under_map, Result.andThen, getObj_map h, Sem.run_pure, checkKey_spot, findKey_spot]
  cases hf : (l.findIdx? fun x => c == x.1 && o == x.2.1) with
  | none => simp [cnt_of_none hf]
  | some j => simp [(cnt_of_some hf).1]

/-- The map behind 'mapEntry': the entry is there; and its stamp. -/
def touch (l : List (Int × Int × Int)) (c o : Int) : List (Int × Int × Int) × Nat :=
  match l.findIdx? fun x => c == x.1 && o == x.2.1 with
  | some j => (l, j)
  | none => (l ++ [(c, o, 0)], l.length)
theorem cnt_touch (l : List (Int × Int × Int)) (c o : Int) : cnt (touch l c o).1 c o = cnt l c o := by
  unfold touch
  cases hf : (l.findIdx? fun x => c == x.1 && o == x.2.1) with
  | some j => rfl
  | none =>
    rw [cnt_of_none hf]
    have : (l.find? fun x => c == x.1 && o == x.2.1) = none := by
      rw [List.find?_eq_none]
      rw [List.findIdx?_eq_none_iff] at hf
      intro x hx
      simpa using hf x hx
    simp [cnt, List.find?_append, this]
theorem entries_snoc (l : List (Int × Int × Int)) (x : Int × Int × Int) : entries (l ++ [x]) = entries l ++ [entry x l.length] := by
  simp [entries, List.zipIdx_append]
theorem entries_set (l : List (Int × Int × Int)) (j : Nat) (x : Int × Int × Int) : entries (l.set j x) = (entries l).set j (entry x j) := by
  apply List.ext_getElem?
  intro i
  rw [entries_at, List.getElem?_set, List.getElem?_set, entries_length, entries_at]
  by_cases h : j = i
  · subst h
    by_cases h2 : j < l.length <;> simp [h2]
  · simp [h]
theorem mapEntry_spot {w : World} {r : Nat} {l : List (Int × Int × Int)} (h : MapAt w r l) (c o : Int) :
    ∃ O, (Instr.mapEntry 127 (.map (some r)) (.agg #[.int .i64 c, .int .i64 o])).run Try.prog w = .ok (.tuple #[.int .i64 (cnt l c o), .int .i64 (touch l c o).2]) (w.putObj r O) ∧ O = .map (entries (touch l c o).1).toArray (touch l c o).1.length := by
  unfold Instr.mapEntry
  simp only [Sem.run_bind, run_underlying under_map, Result.andThen, getObj_map h, checkKey_spot, findKey_spot]
  cases hf : (l.findIdx? fun x => c == x.1 && o == x.2.1) with
  | none =>
    refine ⟨_, ?_, rfl⟩
    simp [Result.andThen, cnt_of_none hf, touch, hf, setObj_map _ h, entries_snoc, entry, goInt]
  | some j =>
    obtain ⟨h1, h2⟩ := cnt_of_some hf
    refine ⟨_, ?_, rfl⟩
    have he : (entries l)[j]? = some (entry (c, o, cnt l c o) j) := by rw [entries_at, h2]; rfl
    have hmod : (entries l).modify j (fun e => { key := .agg #[.int .i64 c, .int .i64 o], val := e.val, born := e.born }) = entries l := by
      apply List.ext_getElem?
      intro i
      rw [List.getElem?_modify]
      by_cases hij : j = i
      · subst hij
        simp [he, entry]
      · simp [hij]
    have h3 : (l[j]?.getD (0, 0, 0)).2.2 = cnt l c o := by rw [h1, List.getD_eq_getElem?_getD]
    simp [touch, hf, setObj_map _ h, he, entry, Instr.keyThatStays, Instr.sameBits, hmod, goInt, h3, Result.andThen]
theorem entryStore_spot {w : World} {r : Nat} {l : List (Int × Int × Int)} (h : MapAt w r l) (j : Nat) (x : Int × Int × Int) (hj : l[j]? = some x) (n : Int) :
    (Instr.entryStore 127 (.map (some r)) (.int .i64 j) (.int .i64 n)).run Try.prog w = .ok () (w.putObj r (.map (entries (l.set j (x.1, x.2.1, n))).toArray l.length)) := by
  unfold Instr.entryStore
  have hjl : j < l.length := (List.getElem?_eq_some_iff.1 hj).1
  have hfind : (entries l).toArray.findIdx? (fun e => (e.born : Int) == (j : Int)) = some j := by
    rw [Go.WideElems.findIdx_arr]
    have hnd : ((entries l).map (·.born)).Nodup := by
      have : (entries l).map (·.born) = List.range l.length := by
        apply List.ext_getElem?
        intro i
        rw [List.getElem?_map, entries_at]
        by_cases hi : i < l.length
        · simp [hi, entry]
        · simp [hi]
      rw [this]
      exact List.nodup_range
    have := Go.WideElems.findIdx_born hnd (j := j) (e0 := entry x j) (by rw [entries_at, hj]; rfl)
    exact this
  have he : (entries l)[j]? = some (entry x j) := by rw [entries_at, hj]; rfl
  have hmod : (entries l).modify j (fun e => { key := e.key, val := .int .i64 n, born := e.born }) = entries (l.set j (x.1, x.2.1, n)) := by
    rw [entries_set]
    apply List.ext_getElem?
    intro i
    rw [List.getElem?_modify, List.getElem?_set]
    by_cases hij : j = i
    · subst hij
      simp only [if_pos, he, entries_length, hjl, Option.map_eq_map, Option.map_some]
      rfl
    · simp [hij]
  simp only [Sem.run_bind, getObj_map h, Result.andThen]
  simp [asInt, asIntOf, hfind, setObj_map _ h, hmod]
end Go.Proofs.Ytcngnfnljkkjgaa
