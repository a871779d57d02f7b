/-
The reference's error of a house.
-/
import Derived.Test.YtcngnfnljkkjgaaRfOf
namespace Go.Proofs.Ytcngnfnljkkjgaa
open Go.RowKit
attribute [local go_sem] cell_later frozen_later lt_later le_later

/-- How many errors there are, at most 3000. -/
def manyR (l : List Rg) : Int := l.foldl (fun m r => min 3000 (m * r.size)) 1
theorem manyR_snoc (l : List Rg) (r : Rg) : manyR (l ++ [r]) = min 3000 (manyR l * r.size) := by simp [manyR, List.foldl_append]
theorem off_parts {r : Rg} (h : r.offB = true) : -30 ≤ r.lo ∧ r.lo ≤ r.hi ∧ r.hi ≤ 30 ∧ 1 ≤ r.size ∧ r.size ≤ 61 := by
  simp only [Rg.offB, Bool.and_eq_true, decide_eq_true_eq] at h
  unfold Rg.size
  omega
theorem many_step {a s : Int} (ha : 1 ≤ a) (hs : 1 ≤ s) : a ≤ a * s := by
  have := Int.mul_le_mul_of_nonneg_left hs (show (0 : Int) ≤ a by omega)
  omega
theorem many_both : ∀ (l : List Rg), (∀ r ∈ l, r.offB = true) → (manyR l = manyTo l ∧ manyTo l ≤ 2000 ∨ 2000 < manyR l ∧ 2000 < manyTo l) ∧ 1 ≤ manyR l ∧ manyR l ≤ 3000 := by
  intro l
  induction l using snoc_ind with
  | h0 => intro _; refine ⟨.inl ⟨rfl, by decide⟩, by decide, by decide⟩
  | h1 l r ih =>
    intro h
    obtain ⟨h1, h2, h3⟩ := ih fun x hx => h x (by simp [hx])
    obtain ⟨-, -, -, hs1, hs2⟩ := off_parts (h r (by simp))
    have hb := manyTo_bd l fun x hx => h x (by simp [hx])
    rw [manyR_snoc, manyTo_snoc]
    have e1 := many_step h2 hs1
    have e2 := many_step hb.1 hs1
    rcases h1 with ⟨h4, h5⟩ | ⟨h4, h5⟩
    · rw [h4] at e1 ⊢
      refine ⟨?_, by omega, by omega⟩
      by_cases hp : manyTo l * r.size ≤ 2000
      · exact .inl ⟨by omega, by omega⟩
      · exact .inr ⟨by omega, by omega⟩
    · exact ⟨.inr ⟨by omega, by omega⟩, by omega, by omega⟩

theorem all_take {α : Type} {p : α → Bool} {l : List α} {k : Nat} {x : α} (h : (l.take k).all p = true) (hx : l[k]? = some x) (hp : p x = true) : (l.take (k + 1)).all p = true := by
  rw [List.take_add_one, hx, List.all_append, h]
  simp [hp]
theorem all_fails {α : Type} {p : α → Bool} {l : List α} {k : Nat} {x : α} (hx : l[k]? = some x) (hp : p x = false) : l.all p = false := by
  rw [List.all_eq_false]
  exact ⟨x, List.mem_of_getElem? hx, by simp [hp]⟩

set_option maxHeartbeats 1000000 in
theorem refmany_calls (v : Value) (h : Hs) (w : World) (H : HsAt w v h) (hn : h.clocks.length ≤ 4) (ho : ∀ r ∈ h.clocks, r.offB = true) :
    Calls Try.prog 104 #[v] w (Ret (.int .i64 (manyR h.clocks)) w) := by
  obtain ⟨A2, c2, A3, c3, A4, c4, rfl, H2, -, -⟩ := H
  obtain ⟨W1, hW1⟩ : ∃ W1, W1 = w.alloc (.cells #[.int .i64 h.hour, .int .i64 h.grace, .slice A2 h.clocks.length c2, .slice A3 h.tickets.length c3, .slice A4 h.clips.length c4] 26) := ⟨_, rfl⟩
  have hb1 : Below w.heap.size w W1 := by rw [hW1]; exact gA (Below.refl _ _)
  have hB : BlkAt W1 w.heap.size 26 [.int .i64 h.hour, .int .i64 h.grace, .slice A2 h.clocks.length c2, .slice A3 h.tickets.length c3, .slice A4 h.clips.length c4] := by rw [hW1]; exact BlkAt.new _ _ _
  have H2' := H2.below hb1
  have hnI : (h.clocks.length : Int) ≤ 4 := by omega
  have HO := Lib.hid ho
  clear ho
  go_enter Try.func104, Try.ntmps104
  go_wp2
  rw [← hW1]
  clear hW1
  go_loopw [3, 4] (fun v i wr => ∃ k : Nat, k ≤ h.clocks.length ∧ i = .int .i64 k ∧ v = .int .i64 (manyR (h.clocks.take k)) ∧ Below W1.heap.size W1 wr)
    (fun _ i _ => h.clocks.length - (intOf i).toNat)
  case atStart => exact ⟨0, Nat.zero_le _, rfl, rfl, Below.refl _ _⟩
  case round =>
    obtain ⟨k, hk, rfl, rfl, hb⟩ := hrel
    have q2 := (hB.of_below hb hB.lt).cell 2
    simp only [List.getElem?_cons_zero, List.getElem?_cons_succ] at q2
    have hBl : w.heap.size < wr.heap.size := Nat.lt_of_lt_of_le hB.lt hb.size
    obtain ⟨-, m1, m2⟩ := many_both (h.clocks.take k) fun r hr => HO.out r (List.mem_of_mem_take hr)
    obtain ⟨M, hM⟩ : ∃ M, M = manyR (h.clocks.take k) := ⟨_, rfl⟩
    rw [← hM] at m1 m2 ⊢
    by_cases hlt : k < h.clocks.length
    · have hlt1 : (k : Int) < (h.clocks.length : Int) := by omega
      have hk0 : (0 : Int) ≤ (k : Int) := Int.natCast_nonneg _
      obtain ⟨b, off, x, rfl, hbl, hx, h1, h2⟩ := (H2'.below hb).atR hlt
      obtain ⟨x1, x2, x3, x4, x5⟩ := off_parts (HO.out x (List.mem_of_getElem? hx))
      have e1 := many_step m1 x4
      have e2 : M * x.size ≤ 3000 * 61 := Int.le_trans (Int.mul_le_mul_of_nonneg_right m2 (by omega)) (Int.mul_le_mul_of_nonneg_left x5 (by omega))
      have hS := Lib.hid (show manyR (h.clocks.take (k + 1)) = min 3000 (M * x.size) by rw [List.take_add_one, hx, hM]; exact manyR_snoc _ _)
      clear hx hM
      go_wp2_with (first
        | (go_at_call 124; refine (refsize_calls x _ ⟨by omega, by omega, by omega, by omega⟩).mono ?_; (rintro e w' hr; first | ((with_reducible replace hr := Ret.up hr); obtain ⟨rfl, z, rfl⟩ := hr) | (obtain ⟨rfl, z, rfl⟩ := hr))))
      go_roundw
      case rel => exact ⟨k + 1, by omega, by go_num, by rw [hS.out]; congr 1; omega, later_below hb hb.size⟩
      case measure => simp [intOf]; omega
    · obtain rfl : k = h.clocks.length := by omega
      have hM' := Lib.hid (show M = manyR h.clocks by rw [hM, List.take_length])
      clear hM
      go_wp2
      go_ret
      exact ret_mk (ret_int hM'.out) (hb1.trans (hb.mono hb1.size))

theorem fault_small {h : Hs} (h1 : h.smallB = false) : h.fault = 3 := by simp [Hs.fault, h1]
theorem fault_arg {h : Hs} (h1 : h.smallB = true) (h2 : h.argB = false) : h.fault = 1 := by simp [Hs.fault, h1, h2]
theorem fault_two {h : Hs} (h1 : h.smallB = true) (h2 : h.argB = true) (h3 : h.twoB = false) : h.fault = 1 := by simp [Hs.fault, h1, h2, h3]
theorem fault_many {h : Hs} (h1 : h.smallB = true) (h2 : h.argB = true) (h3 : h.twoB = true) (h4 : 2000 < manyTo h.clocks) : h.fault = 3 := by simp [Hs.fault, h1, h2, h3, h4]
theorem fault_none {h : Hs} (h1 : h.smallB = true) (h2 : h.argB = true) (h3 : h.twoB = true) (h4 : ¬ 2000 < manyTo h.clocks) : h.fault = 0 := by simp [Hs.fault, h1, h2, h3, h4]
theorem fault_one {h : Hs} (h1 : h.smallB = true) (h2 : h.argB = false ∨ h.twoB = false) : h.fault = 1 := by
  cases ha : h.argB with
  | false => exact fault_arg h1 ha
  | true =>
    rcases h2 with h2 | h2
    · rw [ha] at h2; cases h2
    · exact fault_two h1 ha h2
theorem two_no {h : Hs} {k : Nat} (hk : k < h.tickets.length) (h2 : 2 < (h.ofI (k : Int)).length) : h.twoB = false := by
  unfold Hs.twoB
  rw [List.all_eq_false]
  refine ⟨k, List.mem_range.2 hk, ?_⟩
  rw [ofs_length, ← ofI_length]
  simp
  omega
theorem two_step {h : Hs} {k : Nat} (h1 : (List.range k).all (fun (i : Nat) => decide ((h.ofs (i : Int)).length ≤ 2)) = true) (h2 : ¬ 2 < (h.ofI (k : Int)).length) : (List.range (k + 1)).all (fun (i : Nat) => decide ((h.ofs (i : Int)).length ≤ 2)) = true := by
  rw [List.range_succ, List.all_append, h1]
  rw [ofI_length, ← ofs_length] at h2
  simp
  omega
theorem arg_no {h : Hs} (h1 : inB h.hour 1 120 = false ∨ inB h.grace 0 60 = false ∨ h.clocks.all Rg.offB = false ∨ h.tickets.all Tk.validB = false ∨ h.clips.all h.clipB = false) : h.argB = false := by
  unfold Hs.argB
  rcases h1 with h1 | h1 | h1 | h1 | h1 <;> simp only [h1, Bool.false_and, Bool.and_false]
theorem arg_yes {h : Hs} (h1 : inB h.hour 1 120 = true) (h2 : inB h.grace 0 60 = true) (h3 : h.clocks.all Rg.offB = true) (h4 : h.tickets.all Tk.validB = true) (h5 : h.clips.all h.clipB = true) : h.argB = true := by
  simp only [Hs.argB, h1, h2, h3, h4, h5, Bool.and_self]
theorem valid_no {t : Tk} (h : inB t.tub 0 8 = false ∨ inB t.hours 0 9 = false) : t.validB = false := by
  unfold Tk.validB
  rcases h with h | h <;> simp only [h, Bool.false_and, Bool.and_false]
theorem clip_no {h : Hs} {c : Cp} (h1 : inB c.tk 0 ((h.tickets.length : Int) - 1) = false ∨ inB c.ck 0 ((h.clocks.length : Int) - 1) = false ∨ inB c.mn 0 1439 = false) : h.clipB c = false := by
  unfold Hs.clipB Hs.ticketB
  rcases h1 with h1 | h1 | h1 <;> simp only [h1, Bool.false_and, Bool.and_false]
end Go.Proofs.Ytcngnfnljkkjgaa
