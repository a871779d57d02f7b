/-
The plain words, for a house at work: its truths one after the other; how many have an error of a clock.
-/
import Derived.Test.YtcngnfnljkkjgaaTkRegion
namespace Go.Proofs.Ytcngnfnljkkjgaa
open Go.RowKit

def key4 (e : List Int) : Int × Int × Int × Int := (e.getD 0 0, e.getD 1 0, e.getD 2 0, e.getD 3 0)
theorem prods_length : ∀ (l : List Rg) (e : List Int), e ∈ prods l → e.length = l.length
  | [], e, h => by simp [prods] at h; simp [h]
  | r :: l, e, h => by
    simp only [prods, List.mem_flatMap, List.mem_map] at h
    obtain ⟨n, -, e', he', rfl⟩ := h
    simp [prods_length l e' he']
theorem prods_nodup : ∀ (l : List Rg), (prods l).Pairwise (fun a b => a ≠ b)
  | [] => by simp [prods]
  | r :: l => by
    simp only [prods]
    rw [List.pairwise_flatMap]
    refine ⟨fun n _ => ?_, ?_⟩
    · rw [List.pairwise_map]
      exact (prods_nodup l).imp (fun hab he => hab (by simpa using he))
    · refine List.Pairwise.imp ?_ (List.pairwise_lt_range (n := r.size.toNat))
      intro a b hab x hx y hy he
      simp only [List.mem_map] at hx hy
      obtain ⟨x', -, rfl⟩ := hx
      obtain ⟨y', -, rfl⟩ := hy
      simp only [List.cons.injEq] at he
      omega
theorem key4_inj : ∀ {a b : List Int}, a.length = b.length → a.length ≤ 4 → key4 a = key4 b → a = b
  | [], [], _, _, _ => rfl
  | [_], [_], _, _, h => by simp [key4] at h; simp [h]
  | [_, _], [_, _], _, _, h => by simp [key4] at h; simp [h]
  | [_, _, _], [_, _, _], _, _, h => by simp [key4] at h; simp [h]
  | [_, _, _, _], [_, _, _, _], _, _, h => by simp [key4] at h; simp [h]
  | _ :: _ :: _ :: _ :: _ :: _, _, _, h, _ => by simp at h
  | [], _ :: _, h, _, _ => by simp at h
  | [_], [], h, _, _ => by simp at h
  | [_], _ :: _ :: _, h, _, _ => by simp at h
  | [_, _], [], h, _, _ => by simp at h
  | [_, _], [_], h, _, _ => by simp at h
  | [_, _], _ :: _ :: _ :: _, h, _, _ => by simp at h
  | [_, _, _], [], h, _, _ => by simp at h
  | [_, _, _], [_], h, _, _ => by simp at h
  | [_, _, _], [_, _], h, _, _ => by simp at h
  | [_, _, _], _ :: _ :: _ :: _ :: _, h, _, _ => by simp at h
  | [_, _, _, _], [], h, _, _ => by simp at h
  | [_, _, _, _], [_], h, _, _ => by simp at h
  | [_, _, _, _], [_, _], h, _, _ => by simp at h
  | [_, _, _, _], [_, _, _], h, _, _ => by simp at h
  | [_, _, _, _], _ :: _ :: _ :: _ :: _ :: _, h, _, _ => by simp at h
/-- The truths among the first errors. -/
def Hs.trueOf (h : Hs) (l : List (List Int)) : List (List Int) := l.filter fun e => h.risingB e []
theorem trueOf_yes {h : Hs} (pre : List (List Int)) {p : List Int} (hr : h.risingB p [] = true) : h.trueOf (pre ++ [p]) = h.trueOf pre ++ [p] := by
  simp [Hs.trueOf, hr]
theorem trueOf_no {h : Hs} (pre : List (List Int)) {p : List Int} (hr : h.risingB p [] = false) : h.trueOf (pre ++ [p]) = h.trueOf pre := by
  simp [Hs.trueOf, hr]
theorem trueOf_length (h : Hs) (l : List (List Int)) : (h.trueOf l).length ≤ l.length := List.length_filter_le _ _
theorem last_ne {h : Hs} (hn : h.clocks.length ≤ 4) {pre : List (List Int)} {p q : List Int} (hp : (pre ++ [p]) <+: prods h.clocks) (hq : (h.trueOf pre).getLast? = some q) : key4 q ≠ key4 p := by
  have hqm : q ∈ pre := (List.mem_filter.1 (List.mem_of_getLast? hq)).1
  have hnd := (prods_nodup h.clocks).sublist hp.sublist
  rw [List.pairwise_append] at hnd
  intro hk
  have h1 := prods_length _ _ (hp.subset (List.mem_append_left _ hqm))
  have h2 := prods_length _ _ (hp.subset (List.mem_append_right pre (List.mem_singleton.2 rfl)))
  exact hnd.2.2 q hqm p (by simp) (key4_inj (h1.trans h2.symm) (by omega) hk)
theorem flatMap_const_length {α β : Type} {f : α → List β} {k : Nat} : ∀ (l : List α), (∀ x ∈ l, (f x).length = k) → (l.flatMap f).length = l.length * k
  | [], _ => by simp
  | x :: l, h => by rw [List.flatMap_cons, List.length_append, h x (by simp), flatMap_const_length l (fun y hy => h y (by simp [hy])), List.length_cons, Nat.add_mul]; omega
theorem prods_count : ∀ (l : List Rg), (∀ r ∈ l, -30 ≤ r.lo ∧ r.lo ≤ r.hi ∧ r.hi ≤ 30) → (prods l).length ≤ 61 ^ l.length
  | [], _ => by simp [prods]
  | r :: l, h => by
    have h1 := prods_count l (fun x hx => h x (by simp [hx]))
    have h2 := h r (by simp)
    simp only [prods]
    rw [flatMap_const_length (k := (prods l).length) _ (fun n _ => by simp), List.length_range, List.length_cons, Nat.pow_succ, Nat.mul_comm]
    have : r.size.toNat ≤ 61 := by unfold Rg.size; omega
    exact Nat.mul_le_mul h1 this
theorem pre_count {h : Hs} (hn : h.clocks.length ≤ 4) (hr : ∀ r ∈ h.clocks, -30 ≤ r.lo ∧ r.lo ≤ r.hi ∧ r.hi ≤ 30) {l : List (List Int)} (hp : l <+: prods h.clocks) : l.length ≤ 13845841 := by
  have h1 := hp.length_le
  have h2 := prods_count _ hr
  have h3 : 61 ^ h.clocks.length ≤ 61 ^ 4 := Nat.pow_le_pow_right (by omega) hn
  omega

/-- How many have this error of a clock. -/
def countT (T : List (List Int)) (c o : Int) : Int := ((T.filter fun e => e.getD c.toNat 0 == o).length : Int)
theorem countT_snoc (T : List (List Int)) (p : List Int) (c o : Int) : countT (T ++ [p]) c o = countT T c o + if p.getD c.toNat 0 = o then 1 else 0 := by
  unfold countT
  rw [List.filter_append, List.length_append]
  by_cases h : p.getD c.toNat 0 = o
  · rw [if_pos h, List.filter_cons, if_pos (by simpa using h)]
    simp
  · rw [if_neg h, List.filter_cons, if_neg (by simpa using h)]
    simp

/-- The map with one more at a key. -/
def bumpM (l : List (Int × Int × Int)) (c o : Int) : List (Int × Int × Int) := (touch l c o).1.set (touch l c o).2 (c, o, cnt l c o + 1)
def bumpR (l : List (Int × Int × Int)) (c o : Int) : List (Int × Int × Int) :=
  match l with
  | [] => [(c, o, 1)]
  | x :: l => if (c == x.1 && o == x.2.1) = true then (c, o, x.2.2 + 1) :: l else x :: bumpR l c o
theorem touch_cons_no {x : Int × Int × Int} {l : List (Int × Int × Int)} {c o : Int} (h : (c == x.1 && o == x.2.1) = false) : touch (x :: l) c o = (x :: (touch l c o).1, (touch l c o).2 + 1) := by
  unfold touch
  rw [List.findIdx?_cons, h]
  cases hf : (l.findIdx? fun x => c == x.1 && o == x.2.1) <;> simp
theorem cnt_cons_no {x : Int × Int × Int} {l : List (Int × Int × Int)} {c o : Int} (h : (c == x.1 && o == x.2.1) = false) : cnt (x :: l) c o = cnt l c o := by
  simp [cnt, h]
theorem cnt_cons_yes {x : Int × Int × Int} {l : List (Int × Int × Int)} {c o : Int} (h : (c == x.1 && o == x.2.1) = true) : cnt (x :: l) c o = x.2.2 := by
  simp [cnt, h]
theorem bumpM_eq : ∀ (l : List (Int × Int × Int)) (c o : Int), bumpM l c o = bumpR l c o
  | [], c, o => by simp [bumpM, touch, bumpR, cnt]
  | x :: l, c, o => by
    cases h : (c == x.1 && o == x.2.1)
    · simp [bumpM, bumpR, touch_cons_no h, cnt_cons_no h, h]
      exact bumpM_eq l c o
    · have ht : touch (x :: l) c o = (x :: l, 0) := by simp [touch, List.findIdx?_cons, h]
      simp [bumpM, bumpR, ht, h, cnt_cons_yes h]
theorem cnt_bumpR : ∀ (l : List (Int × Int × Int)) (c o c' o' : Int), cnt (bumpR l c o) c' o' = cnt l c' o' + if c' = c ∧ o' = o then 1 else 0
  | [], c, o, c', o' => by
    by_cases h : c' = c ∧ o' = o
    · obtain ⟨rfl, rfl⟩ := h
      simp [bumpR, cnt]
    · have : (c' == c && o' == o) = false := by rw [Bool.eq_false_iff]; intro hh; simp at hh; exact h hh
      simp only [bumpR, cnt, List.find?_cons, this, List.find?_nil]
      simp [h]
  | x :: l, c, o, c', o' => by
    cases hx : (c == x.1 && o == x.2.1)
    · rw [bumpR, if_neg (by simp [hx])]
      cases hy : (c' == x.1 && o' == x.2.1)
      · rw [cnt_cons_no hy, cnt_cons_no hy]
        exact cnt_bumpR l c o c' o'
      · rw [cnt_cons_yes hy, cnt_cons_yes hy, if_neg, Int.add_zero]
        rintro ⟨rfl, rfl⟩
        rw [hx] at hy
        cases hy
    · rw [bumpR, if_pos hx]
      simp only [Bool.and_eq_true, beq_iff_eq] at hx
      obtain ⟨rfl, rfl⟩ := hx
      by_cases h : c' = x.1 ∧ o' = x.2.1
      · obtain ⟨rfl, rfl⟩ := h
        rw [cnt_cons_yes (by simp), cnt_cons_yes (by simp), if_pos ⟨rfl, rfl⟩]
      · have : (c' == x.1 && o' == x.2.1) = false := by rw [Bool.eq_false_iff]; intro hh; simp at hh; exact h hh
        rw [cnt_cons_no (x := (x.1, x.2.1, x.2.2 + 1)) this, cnt_cons_no this, if_neg h, Int.add_zero]
theorem cnt_bump (l : List (Int × Int × Int)) (c o c' o' : Int) : cnt (bumpM l c o) c' o' = cnt l c' o' + if c' = c ∧ o' = o then 1 else 0 := by
  rw [bumpM_eq]; exact cnt_bumpR l c o c' o'
theorem touch_at (l : List (Int × Int × Int)) (c o : Int) : (touch l c o).1[(touch l c o).2]? = some (c, o, cnt l c o) := by
  unfold touch
  cases hf : (l.findIdx? fun x => c == x.1 && o == x.2.1) with
  | some j => exact (cnt_of_some hf).2
  | none => simp [cnt_of_none hf]
theorem touch_length (l : List (Int × Int × Int)) (c o : Int) : (bumpM l c o).length = (touch l c o).1.length := by simp [bumpM]
end Go.Proofs.Ytcngnfnljkkjgaa
