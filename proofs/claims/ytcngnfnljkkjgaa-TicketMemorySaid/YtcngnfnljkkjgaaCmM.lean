/-
The reference's small functions: how many numbers a range has, whether a number is in one, how thin a house is, the numbers of a ticket's clips, how many errors there are.
The reference's error of a house.
The reference's error of a house: the walk.
The laws' copy of a house: new lists of the same clocks, tickets and clips.
-/
import Derived.Test.YtcngnfnljkkjgaaCmK
import Derived.Test.YtcngnfnljkkjgaaCmJ
namespace Go.Proofs.Ytcngnfnljkkjgaa
open Go.RowKit
attribute [local go_sem] cell_later frozen_later lt_later le_later

theorem refsize_calls (r : Rg) (w : World) (hr : -1000000 ≤ r.lo ∧ r.lo ≤ 1000000 ∧ -1000000 ≤ r.hi ∧ r.hi ≤ 1000000) : Calls Try.prog 124 #[.agg #[.int .i64 r.lo, .int .i64 r.hi]] w (Ret (.int .i64 r.size) w) := by
  obtain ⟨h1, h2, h3, h4⟩ := hr
  have hR := Lib.hid (show r.size = r.hi - r.lo + 1 from rfl)
  go_enter Try.func124, Try.ntmps124
  go_wp2
  go_ret
  exact ret_mk (ret_int hR.out.symm) (by repeat (first | exact Below.refl _ _ | (with_reducible assumption) | apply gL | apply gA | apply gD | apply gN | (refine gS ?_ (by first | (simp; done) | (simp; omega) | omega))))
theorem refis_calls (n : Int) (r : Rg) (w : World) : Calls Try.prog 121 #[.int .i64 n, .agg #[.int .i64 r.lo, .int .i64 r.hi]] w (Ret (.bool (inB n r.lo r.hi)) w) := by
  go_enter Try.func121, Try.ntmps121
  go_wp2_with (fail)
  refine (refin_calls _ _ _ _).mono ?_
  (rintro e w' hr; first | ((with_reducible replace hr := Ret.up hr); obtain ⟨rfl, z, rfl⟩ := hr) | (obtain ⟨rfl, z, rfl⟩ := hr))
  go_wp2
  go_ret
  exact ret_mk rfl (by repeat (first | exact Below.refl _ _ | (with_reducible assumption) | apply gL | apply gA | apply gD | apply gN | (refine gS ?_ (by first | (simp; done) | (simp; omega) | omega))))

def Hs.thinB (h : Hs) : Bool := decide (h.clocks.length ≤ 30) && (decide (h.tickets.length ≤ 30) && decide (h.clips.length ≤ 30))
theorem thin_iff {h : Hs} : h.thinB = true ↔ h.clocks.length ≤ 30 ∧ h.tickets.length ≤ 30 ∧ h.clips.length ≤ 30 := by simp [Hs.thinB]
theorem thin_calls (v : Value) (h : Hs) (w : World) (H : HsAt w v h) : Calls Try.prog 22 #[v] w (Ret (.bool h.thinB) w) := by
  obtain ⟨A2, c2, A3, c3, A4, c4, rfl, H2, H3, H4⟩ := H
  by_cases h1 : h.clocks.length ≤ 30
  · have d1 : ¬ 30 < (h.clocks.length : Int) := by omega
    by_cases h2 : h.tickets.length ≤ 30
    · have d2 : ¬ 30 < (h.tickets.length : Int) := by omega
      by_cases h3 : h.clips.length ≤ 30
      · have d3 : ¬ 30 < (h.clips.length : Int) := by omega
        have hR := Lib.hid (show h.thinB = true by simp [Hs.thinB, h1, h2, h3])
        go_enter Try.func22, Try.ntmps22
        go_wp2
        go_ret
        exact ret_mk (ret_bool hR.out.symm) (by repeat (first | exact Below.refl _ _ | (with_reducible assumption) | apply gL | apply gA | apply gD | apply gN | (refine gS ?_ (by first | (simp; done) | (simp; omega) | omega))))
      · have d3 : 30 < (h.clips.length : Int) := by omega
        have hR := Lib.hid (show h.thinB = false by simp [Hs.thinB, h3])
        go_enter Try.func22, Try.ntmps22
        go_wp2
        go_ret
        exact ret_mk (ret_bool hR.out.symm) (by repeat (first | exact Below.refl _ _ | (with_reducible assumption) | apply gL | apply gA | apply gD | apply gN | (refine gS ?_ (by first | (simp; done) | (simp; omega) | omega))))
    · have d2 : 30 < (h.tickets.length : Int) := by omega
      have hR := Lib.hid (show h.thinB = false by simp [Hs.thinB, h2])
      go_enter Try.func22, Try.ntmps22
      go_wp2
      go_ret
      exact ret_mk (ret_bool hR.out.symm) (by repeat (first | exact Below.refl _ _ | (with_reducible assumption) | apply gL | apply gA | apply gD | apply gN | (refine gS ?_ (by first | (simp; done) | (simp; omega) | omega))))
  · have d1 : 30 < (h.clocks.length : Int) := by omega
    have hR := Lib.hid (show h.thinB = false by simp [Hs.thinB, h1])
    go_enter Try.func22, Try.ntmps22
    go_wp2
    go_ret
    exact ret_mk (ret_bool hR.out.symm) (by repeat (first | exact Below.refl _ _ | (with_reducible assumption) | apply gL | apply gA | apply gD | apply gN | (refine gS ?_ (by first | (simp; done) | (simp; omega) | omega))))

/-- The numbers of a ticket's clips. -/
def Hs.tkIs (h : Hs) (t : Int) (i : Nat) : Bool := match h.clips[i]? with
  | some c => c.tk == t
  | none => false
def Hs.ofN (h : Hs) (t : Int) : List Nat := (List.range h.clips.length).filter (h.tkIs t)
def Hs.ofI (h : Hs) (t : Int) : List Int := (h.ofN t).map fun (i : Nat) => (i : Int)
theorem ofI_length (h : Hs) (t : Int) : (h.ofI t).length = (h.ofN t).length := by simp [Hs.ofI]
theorem tk_step {h : Hs} {t : Int} {k : Nat} {x : Cp} (hx : h.clips[k]? = some x) : ((List.range (k + 1)).filter (h.tkIs t)).map (fun (i : Nat) => (i : Int)) = ((List.range k).filter (h.tkIs t)).map (fun (i : Nat) => (i : Int)) ++ (if x.tk == t then [(k : Int)] else []) := by
  rw [List.range_succ, List.filter_append, List.map_append]
  congr 1
  have : h.tkIs t k = (x.tk == t) := by simp [Hs.tkIs, hx]
  rw [List.filter_cons, this]
  cases x.tk == t <;> rfl
theorem of_pairs {h : Hs} {t : Int} : ∀ k, k ≤ h.clips.length → ((List.range k).filter (h.tkIs t)).filterMap (fun i => h.clips[i]?) = (h.clips.take k).filter fun c => c.tk == t
  | 0, _ => by simp
  | k + 1, hk => by
    obtain ⟨x, hx⟩ : ∃ x, h.clips[k]? = some x := ⟨h.clips[k], List.getElem?_eq_getElem (by omega)⟩
    rw [ofs_step hx, List.range_succ, List.filter_append, List.filterMap_append, of_pairs k (by omega)]
    congr 1
    have : h.tkIs t k = (x.tk == t) := by simp [Hs.tkIs, hx]
    rw [List.filter_cons, this]
    cases x.tk == t <;> simp [hx]
theorem ofN_ofs (h : Hs) (t : Int) : (h.ofN t).filterMap (fun i => h.clips[i]?) = h.ofs t := by
  have := of_pairs (h := h) (t := t) h.clips.length (Nat.le_refl _)
  rwa [List.take_length] at this
theorem filterMap_all {α β : Type} {f : α → Option β} : ∀ {l : List α}, (∀ x ∈ l, ∃ y, f x = some y) → (l.filterMap f).length = l.length ∧ ∀ (i : Nat) (x : α), l[i]? = some x → (l.filterMap f)[i]? = f x
  | [], _ => ⟨rfl, fun i x hx => by simp at hx⟩
  | x :: l, h => by
    obtain ⟨y, hy⟩ := h x (by simp)
    obtain ⟨h1, h2⟩ := filterMap_all (l := l) fun z hz => h z (by simp [hz])
    rw [List.filterMap_cons_some hy]
    refine ⟨by simp [h1], fun i z hz => ?_⟩
    cases i with
    | zero => simp only [List.getElem?_cons_zero, Option.some.injEq] at hz ⊢; rw [← hz, hy]
    | succ i => simp only [List.getElem?_cons_succ] at hz ⊢; exact h2 i z hz
theorem ofN_some {h : Hs} {t : Int} {i : Nat} (hi : i ∈ h.ofN t) : ∃ c, h.clips[i]? = some c := by
  have h1 := List.mem_range.1 (List.mem_filter.1 hi).1
  exact ⟨h.clips[i], List.getElem?_eq_getElem h1⟩
theorem ofs_length (h : Hs) (t : Int) : (h.ofs t).length = (h.ofN t).length := by
  rw [← ofN_ofs]
  exact (filterMap_all fun i hi => ofN_some hi).1
theorem ofs_get {h : Hs} {t : Int} {i n : Nat} (hi : (h.ofN t)[i]? = some n) : (h.ofs t)[i]? = h.clips[n]? := by
  rw [← ofN_ofs]
  exact (filterMap_all fun i hi => ofN_some hi).2 i n hi

set_option maxHeartbeats 1000000 in
theorem refof_calls (v : Value) (h : Hs) (t : Int) (w : World) (H : HsAt w v h) (hl : h.clips.length ≤ 1000) :
    Calls Try.prog 97 #[v, .int .i64 t] w (RetSl 1 gI (h.ofI t) w) := by
  obtain ⟨i0, hi, hz0, hz1, hz2⟩ := info_parts infoInt
  obtain ⟨A2, c2, A3, c3, A4, c4, rfl, -, -, H4⟩ := H
  obtain ⟨W1, hW1⟩ : ∃ W1, W1 = w.alloc (.cells #[.int .i64 h.hour, .int .i64 h.grace, .slice A2 h.clocks.length c2, .slice A3 h.tickets.length c3, .slice A4 h.clips.length c4] 26) := ⟨_, rfl⟩
  have hb1 : Below w.heap.size w W1 := by rw [hW1]; exact gA (Below.refl _ _)
  have hB : BlkAt W1 w.heap.size 26 [.int .i64 h.hour, .int .i64 h.grace, .slice A2 h.clocks.length c2, .slice A3 h.tickets.length c3, .slice A4 h.clips.length c4] := by rw [hW1]; exact BlkAt.new _ _ _
  have H4' := H4.below hb1
  go_enter Try.func97, Try.ntmps97
  go_wp2
  rw [← hW1]
  clear hW1
  go_loopw [5, 6] (fun v i wr => ∃ k : Nat, k ≤ h.clips.length ∧ i = .int .i64 k ∧ Below W1.heap.size W1 wr ∧ wr.ownsRow W1.heap.size 3 1 v (((List.range k).filter (h.tkIs t)).map fun (i : Nat) => (i : Int)).length ((((List.range k).filter (h.tkIs t)).map fun (i : Nat) => (i : Int)).flatMap gI))
    (fun _ i _ => h.clips.length - (intOf i).toNat)
  case atStart => exact ⟨0, Nat.zero_le _, rfl, Below.refl _ _, World.ownsRow_nil _ _ _ _⟩
  case round =>
    obtain ⟨k, hk, rfl, hb, hown⟩ := hrel
    have q4 := (hB.of_below hb hB.lt).cell 4
    simp only [List.getElem?_cons_zero, List.getElem?_cons_succ] at q4
    have hBl : w.heap.size < wr.heap.size := Nat.lt_of_lt_of_le hB.lt hb.size
    have hlen : (((List.range k).filter (h.tkIs t)).map fun (i : Nat) => (i : Int)).length ≤ k := by
      rw [List.length_map]
      exact Nat.le_trans (List.length_filter_le _ _) (by simp)
    by_cases hlt : k < h.clips.length
    · have hlt1 : (k : Int) < (h.clips.length : Int) := by omega
      have hk0 : (0 : Int) ≤ (k : Int) := Int.natCast_nonneg _
      obtain ⟨b, off, x, rfl, hbl, hx, h1, h2, h3⟩ := (H4'.below hb).atC hlt
      have HS := Lib.hid (tk_step (t := t) hx)
      clear hx
      by_cases he : (x.tk == t) = true
      · go_wp2_with (at_builtin; refine wpList_append_own _ rfl _ _ 47 rfl W1.heap.size 3 i0 (.int .i64 0) 1 8 Try.underlying47 hi hz0 hz1 hz2 rfl (by decide) _ _ _ rfl (hown.alloc _) ⟨wr.heap.size, 0, none⟩ 1 1 (gI (k : Int)) rfl rfl ?c1 ?c2 ?c3 ?c4 ?c5 ?_)
        case c1 => exact news_new _ _ rfl (gI (k : Int)) _
        case c2 => simp [gI, Value.oneCell']
        case c3 => unfold maxLen; omega
        case c4 => omega
        case c5 => have := hb.size; simp; omega
        intro v' w1 hown1 hg1 _
        have hb2 := grown_below (w := W1) (hb.alloc hb.size _) (hown.alloc _) (Nat.le_refl _) hg1
        go_wp2
        go_roundw
        case rel => exact ⟨k + 1, by omega, by go_num, hb2, by rw [HS.out, he]; simpa using hown1⟩
        case measure => simp [intOf]; omega
      · have he : (x.tk == t) = false := by simpa using he
        go_wp2
        go_roundw
        case rel => exact ⟨k + 1, by omega, by go_num, hb, by rw [HS.out, he]; simpa using hown⟩
        case measure => simp [intOf]; omega
    · obtain rfl : k = h.clips.length := by omega
      go_wp2
      obtain ⟨A, c, rfl, hs⟩ := SlA.of_own (k := 1) (g := gI) (l := h.ofI t) hown (fun _ _ => rfl) rfl (by omega)
      go_ret
      exact ⟨A, c, rfl, later_ex (hb1.trans (hb.mono hb1.size)), hs⟩
end Go.Proofs.Ytcngnfnljkkjgaa
namespace Go.Proofs.Ytcngnfnljkkjgaa
open Go.RowKit
attribute [local go_sem] cell_later frozen_later lt_later le_later

/-- How many errors there are, at most 3000. -/
def manyR (l : List Rg) : Int := l.foldl (fun m r => min 3000 (m * r.size)) 1
theorem manyR_snoc (l : List Rg) (r : Rg) : manyR (l ++ [r]) = min 3000 (manyR l * r.size) := by simp [manyR, List.foldl_append]
theorem off_parts {r : Rg} (h : r.offB = true) : -30 ≤ r.lo ∧ r.lo ≤ r.hi ∧ r.hi ≤ 30 ∧ 1 ≤ r.size ∧ r.size ≤ 61 := by
  simp only [Rg.offB, Bool.and_eq_true, decide_eq_true_eq] at h
  unfold Rg.size
  omega
theorem many_step {a s : Int} (ha : 1 ≤ a) (hs : 1 ≤ s) : a ≤ a * s := by
  have := Int.mul_le_mul_of_nonneg_left hs (show (0 : Int) ≤ a by omega)
  omega
theorem many_both : ∀ (l : List Rg), (∀ r ∈ l, r.offB = true) → (manyR l = manyTo l ∧ manyTo l ≤ 2000 ∨ 2000 < manyR l ∧ 2000 < manyTo l) ∧ 1 ≤ manyR l ∧ manyR l ≤ 3000 := by
  intro l
  induction l using snoc_ind with
  | h0 => intro _; refine ⟨.inl ⟨rfl, by decide⟩, by decide, by decide⟩
  | h1 l r ih =>
    intro h
    obtain ⟨h1, h2, h3⟩ := ih fun x hx => h x (by simp [hx])
    obtain ⟨-, -, -, hs1, hs2⟩ := off_parts (h r (by simp))
    have hb := manyTo_bd l fun x hx => h x (by simp [hx])
    rw [manyR_snoc, manyTo_snoc]
    have e1 := many_step h2 hs1
    have e2 := many_step hb.1 hs1
    rcases h1 with ⟨h4, h5⟩ | ⟨h4, h5⟩
    · rw [h4] at e1 ⊢
      refine ⟨?_, by omega, by omega⟩
      by_cases hp : manyTo l * r.size ≤ 2000
      · exact .inl ⟨by omega, by omega⟩
      · exact .inr ⟨by omega, by omega⟩
    · exact ⟨.inr ⟨by omega, by omega⟩, by omega, by omega⟩

theorem all_take {α : Type} {p : α → Bool} {l : List α} {k : Nat} {x : α} (h : (l.take k).all p = true) (hx : l[k]? = some x) (hp : p x = true) : (l.take (k + 1)).all p = true := by
  rw [List.take_add_one, hx, List.all_append, h]
  simp [hp]
theorem all_fails {α : Type} {p : α → Bool} {l : List α} {k : Nat} {x : α} (hx : l[k]? = some x) (hp : p x = false) : l.all p = false := by
  rw [List.all_eq_false]
  exact ⟨x, List.mem_of_getElem? hx, by simp [hp]⟩

set_option maxHeartbeats 1000000 in
theorem refmany_calls (v : Value) (h : Hs) (w : World) (H : HsAt w v h) (hn : h.clocks.length ≤ 4) (ho : ∀ r ∈ h.clocks, r.offB = true) :
    Calls Try.prog 104 #[v] w (Ret (.int .i64 (manyR h.clocks)) w) := by
  obtain ⟨A2, c2, A3, c3, A4, c4, rfl, H2, -, -⟩ := H
  obtain ⟨W1, hW1⟩ : ∃ W1, W1 = w.alloc (.cells #[.int .i64 h.hour, .int .i64 h.grace, .slice A2 h.clocks.length c2, .slice A3 h.tickets.length c3, .slice A4 h.clips.length c4] 26) := ⟨_, rfl⟩
  have hb1 : Below w.heap.size w W1 := by rw [hW1]; exact gA (Below.refl _ _)
  have hB : BlkAt W1 w.heap.size 26 [.int .i64 h.hour, .int .i64 h.grace, .slice A2 h.clocks.length c2, .slice A3 h.tickets.length c3, .slice A4 h.clips.length c4] := by rw [hW1]; exact BlkAt.new _ _ _
  have H2' := H2.below hb1
  have hnI : (h.clocks.length : Int) ≤ 4 := by omega
  have HO := Lib.hid ho
  clear ho
  go_enter Try.func104, Try.ntmps104
  go_wp2
  rw [← hW1]
  clear hW1
  go_loopw [3, 4] (fun v i wr => ∃ k : Nat, k ≤ h.clocks.length ∧ i = .int .i64 k ∧ v = .int .i64 (manyR (h.clocks.take k)) ∧ Below W1.heap.size W1 wr)
    (fun _ i _ => h.clocks.length - (intOf i).toNat)
  case atStart => exact ⟨0, Nat.zero_le _, rfl, rfl, Below.refl _ _⟩
  case round =>
    obtain ⟨k, hk, rfl, rfl, hb⟩ := hrel
    have q2 := (hB.of_below hb hB.lt).cell 2
    simp only [List.getElem?_cons_zero, List.getElem?_cons_succ] at q2
    have hBl : w.heap.size < wr.heap.size := Nat.lt_of_lt_of_le hB.lt hb.size
    obtain ⟨-, m1, m2⟩ := many_both (h.clocks.take k) fun r hr => HO.out r (List.mem_of_mem_take hr)
    obtain ⟨M, hM⟩ : ∃ M, M = manyR (h.clocks.take k) := ⟨_, rfl⟩
    rw [← hM] at m1 m2 ⊢
    by_cases hlt : k < h.clocks.length
    · have hlt1 : (k : Int) < (h.clocks.length : Int) := by omega
      have hk0 : (0 : Int) ≤ (k : Int) := Int.natCast_nonneg _
      obtain ⟨b, off, x, rfl, hbl, hx, h1, h2⟩ := (H2'.below hb).atR hlt
      obtain ⟨x1, x2, x3, x4, x5⟩ := off_parts (HO.out x (List.mem_of_getElem? hx))
      have e1 := many_step m1 x4
      have e2 : M * x.size ≤ 3000 * 61 := Int.le_trans (Int.mul_le_mul_of_nonneg_right m2 (by omega)) (Int.mul_le_mul_of_nonneg_left x5 (by omega))
      have hS := Lib.hid (show manyR (h.clocks.take (k + 1)) = min 3000 (M * x.size) by rw [List.take_add_one, hx, hM]; exact manyR_snoc _ _)
      clear hx hM
      go_wp2_with (first
        | (go_at_call 124; refine (refsize_calls x _ ⟨by omega, by omega, by omega, by omega⟩).mono ?_; (rintro e w' hr; first | ((with_reducible replace hr := Ret.up hr); obtain ⟨rfl, z, rfl⟩ := hr) | (obtain ⟨rfl, z, rfl⟩ := hr))))
      go_roundw
      case rel => exact ⟨k + 1, by omega, by go_num, by rw [hS.out]; congr 1; omega, later_below hb hb.size⟩
      case measure => simp [intOf]; omega
    · obtain rfl : k = h.clocks.length := by omega
      have hM' := Lib.hid (show M = manyR h.clocks by rw [hM, List.take_length])
      clear hM
      go_wp2
      go_ret
      exact ret_mk (ret_int hM'.out) (hb1.trans (hb.mono hb1.size))

theorem fault_small {h : Hs} (h1 : h.smallB = false) : h.fault = 3 := by simp [Hs.fault, h1]
theorem fault_arg {h : Hs} (h1 : h.smallB = true) (h2 : h.argB = false) : h.fault = 1 := by simp [Hs.fault, h1, h2]
theorem fault_two {h : Hs} (h1 : h.smallB = true) (h2 : h.argB = true) (h3 : h.twoB = false) : h.fault = 1 := by simp [Hs.fault, h1, h2, h3]
theorem fault_many {h : Hs} (h1 : h.smallB = true) (h2 : h.argB = true) (h3 : h.twoB = true) (h4 : 2000 < manyTo h.clocks) : h.fault = 3 := by simp [Hs.fault, h1, h2, h3, h4]
theorem fault_none {h : Hs} (h1 : h.smallB = true) (h2 : h.argB = true) (h3 : h.twoB = true) (h4 : ¬ 2000 < manyTo h.clocks) : h.fault = 0 := by simp [Hs.fault, h1, h2, h3, h4]
theorem fault_one {h : Hs} (h1 : h.smallB = true) (h2 : h.argB = false ∨ h.twoB = false) : h.fault = 1 := by
  cases ha : h.argB with
  | false => exact fault_arg h1 ha
  | true =>
    rcases h2 with h2 | h2
    · rw [ha] at h2; cases h2
    · exact fault_two h1 ha h2
theorem two_no {h : Hs} {k : Nat} (hk : k < h.tickets.length) (h2 : 2 < (h.ofI (k : Int)).length) : h.twoB = false := by
  unfold Hs.twoB
  rw [List.all_eq_false]
  refine ⟨k, List.mem_range.2 hk, ?_⟩
  rw [ofs_length, ← ofI_length]
  simp
  omega
theorem two_step {h : Hs} {k : Nat} (h1 : (List.range k).all (fun (i : Nat) => decide ((h.ofs (i : Int)).length ≤ 2)) = true) (h2 : ¬ 2 < (h.ofI (k : Int)).length) : (List.range (k + 1)).all (fun (i : Nat) => decide ((h.ofs (i : Int)).length ≤ 2)) = true := by
  rw [List.range_succ, List.all_append, h1]
  rw [ofI_length, ← ofs_length] at h2
  simp
  omega
theorem arg_no {h : Hs} (h1 : inB h.hour 1 120 = false ∨ inB h.grace 0 60 = false ∨ h.clocks.all Rg.offB = false ∨ h.tickets.all Tk.validB = false ∨ h.clips.all h.clipB = false) : h.argB = false := by
  unfold Hs.argB
  rcases h1 with h1 | h1 | h1 | h1 | h1 <;> simp only [h1, Bool.false_and, Bool.and_false]
theorem arg_yes {h : Hs} (h1 : inB h.hour 1 120 = true) (h2 : inB h.grace 0 60 = true) (h3 : h.clocks.all Rg.offB = true) (h4 : h.tickets.all Tk.validB = true) (h5 : h.clips.all h.clipB = true) : h.argB = true := by
  simp only [Hs.argB, h1, h2, h3, h4, h5, Bool.and_self]
theorem valid_no {t : Tk} (h : inB t.tub 0 8 = false ∨ inB t.hours 0 9 = false) : t.validB = false := by
  unfold Tk.validB
  rcases h with h | h <;> simp only [h, Bool.false_and, Bool.and_false]
theorem clip_no {h : Hs} {c : Cp} (h1 : inB c.tk 0 ((h.tickets.length : Int) - 1) = false ∨ inB c.ck 0 ((h.clocks.length : Int) - 1) = false ∨ inB c.mn 0 1439 = false) : h.clipB c = false := by
  unfold Hs.clipB Hs.ticketB
  rcases h1 with h1 | h1 | h1 <;> simp only [h1, Bool.false_and, Bool.and_false]
end Go.Proofs.Ytcngnfnljkkjgaa
namespace Go.Proofs.Ytcngnfnljkkjgaa
open Go.RowKit
attribute [local go_sem] cell_later frozen_later lt_later le_later

set_option maxRecDepth 100000 in
set_option maxHeartbeats 4000000 in
theorem reffault_calls (v : Value) (h : Hs) (w : World) (H : HsAt w v h) (hlc : h.clips.length ≤ 1000) :
    Calls Try.prog 93 #[v] w (Ret (.int .i64 h.fault) w) := by
  have H0 := H
  obtain ⟨A2, c2, A3, c3, A4, c4, rfl, H2, H3, H4⟩ := H
  by_cases hsm : h.smallB = true
  · have hs3 := small_iff.1 hsm
    have d1 : ¬ 4 < (h.clocks.length : Int) := by omega
    have d2 : ¬ 6 < (h.tickets.length : Int) := by omega
    have d3 : ¬ 10 < (h.clips.length : Int) := by omega
    have HSM := Lib.hid hsm
    clear hsm hs3
    obtain ⟨W1, hW1⟩ : ∃ W1, W1 = w.alloc (.cells #[.int .i64 h.hour, .int .i64 h.grace, .slice A2 h.clocks.length c2, .slice A3 h.tickets.length c3, .slice A4 h.clips.length c4] 26) := ⟨_, rfl⟩
    have hb1 : Below w.heap.size w W1 := by rw [hW1]; exact gA (Below.refl _ _)
    have hB : BlkAt W1 w.heap.size 26 [.int .i64 h.hour, .int .i64 h.grace, .slice A2 h.clocks.length c2, .slice A3 h.tickets.length c3, .slice A4 h.clips.length c4] := by rw [hW1]; exact BlkAt.new _ _ _
    have hBl := hB.lt
    cases e1 : inB h.hour 1 120 with
    | false =>
      have hR := Lib.hid (fault_arg HSM.out (arg_no (.inl e1)))
      go_enter Try.func93, Try.ntmps93
      go_wp2_with (first | (go_at_call 37; refine (refin_calls _ _ _ _).mono ?_; (rintro e w' hr; first | ((with_reducible replace hr := Ret.up hr); obtain ⟨rfl, z, rfl⟩ := hr) | (obtain ⟨rfl, z, rfl⟩ := hr))))
      go_ret
      exact ret_mk (ret_int hR.out.symm) (by rw [← hW1]; exact later_below hb1 hb1.size)
    | true =>
      cases e2 : inB h.grace 0 60 with
      | false =>
        have hR := Lib.hid (fault_arg HSM.out (arg_no (.inr (.inl e2))))
        go_enter Try.func93, Try.ntmps93
        go_wp2_with (first | (go_at_call 37; refine (refin_calls _ _ _ _).mono ?_; (rintro e w' hr; first | ((with_reducible replace hr := Ret.up hr); obtain ⟨rfl, z, rfl⟩ := hr) | (obtain ⟨rfl, z, rfl⟩ := hr))))
        go_ret
        exact ret_mk (ret_int hR.out.symm) (by rw [← hW1]; exact later_below hb1 hb1.size)
      | true =>
        have E1 := Lib.hid e1
        have E2 := Lib.hid e2
        have H2' := H2.below hb1
        have H3' := H3.below hb1
        have H4' := H4.below hb1
        have dd1 : (h.clocks.length : Int) ≤ 4 := by omega
        have dd2 : (h.tickets.length : Int) ≤ 6 := by omega
        have dd3 : (h.clips.length : Int) ≤ 10 := by omega
        go_enter Try.func93, Try.ntmps93
        go_wp2_with (first | (go_at_call 37; refine (refin_calls _ _ _ _).mono ?_; (rintro e w' hr; first | ((with_reducible replace hr := Ret.up hr); obtain ⟨rfl, z, rfl⟩ := hr) | (obtain ⟨rfl, z, rfl⟩ := hr))))
        clear e1 e2
        rw [← hW1]
        clear hW1
        go_loopw [3] (fun i wr => ∃ k : Nat, k ≤ h.clocks.length ∧ i = .int .i64 k ∧ (h.clocks.take k).all Rg.offB = true ∧ Below W1.heap.size W1 wr) (fun i _ => h.clocks.length - (intOf i).toNat)
        case atStart => exact ⟨0, Nat.zero_le _, rfl, rfl, below_later _ _⟩
        case round =>
          obtain ⟨k, hk, rfl, hall, hb⟩ := hrel
          have HA := Lib.hid hall
          clear hall
          have q2 := (hB.of_below hb hB.lt).cell 2
          have q4 := (hB.of_below hb hB.lt).cell 4
          simp only [List.getElem?_cons_zero, List.getElem?_cons_succ] at q2 q4
          have hBr : w.heap.size < wr.heap.size := Nat.lt_of_lt_of_le hBl hb.size
          by_cases hlt : k < h.clocks.length
          · have hlt1 : (k : Int) < (h.clocks.length : Int) := by omega
            have hk0 : (0 : Int) ≤ (k : Int) := Int.natCast_nonneg _
            obtain ⟨b, off, x, rfl, hbl, hx, s0, s1⟩ := (H2'.below hb).atR hlt
            by_cases x1 : x.lo < -30
            · have hR := Lib.hid (fault_arg HSM.out (arg_no (.inr (.inr (.inl (all_fails hx (by simp [Rg.offB]; omega)))))))
              clear hx
              go_wp2
              go_ret
              exact ret_mk (ret_int hR.out.symm) (hb1.trans (Below.mono (gA hb) hb1.size))
            · by_cases x2 : x.hi < x.lo
              · have hR := Lib.hid (fault_arg HSM.out (arg_no (.inr (.inr (.inl (all_fails hx (by simp [Rg.offB]; omega)))))))
                clear hx
                go_wp2
                go_ret
                exact ret_mk (ret_int hR.out.symm) (hb1.trans (Below.mono (gA hb) hb1.size))
              · by_cases x3 : 30 < x.hi
                · have hR := Lib.hid (fault_arg HSM.out (arg_no (.inr (.inr (.inl (all_fails hx (by simp [Rg.offB]; omega)))))))
                  clear hx
                  go_wp2
                  go_ret
                  exact ret_mk (ret_int hR.out.symm) (hb1.trans (Below.mono (gA hb) hb1.size))
                · have HN := Lib.hid (all_take HA.out hx (by simp [Rg.offB]; omega))
                  clear hx
                  go_wp2
                  go_roundw
                  case rel => exact ⟨k + 1, by omega, by go_num, HN.out, gA hb⟩
                  case measure => simp [intOf]; omega
          · obtain rfl : k = h.clocks.length := by omega
            have HO := Lib.hid (show h.clocks.all Rg.offB = true by have := HA.out; rwa [List.take_length] at this)
            clear HA hlt hk
            go_wp2
            go_loopw [5] (fun i wr => ∃ k : Nat, k ≤ h.clips.length ∧ i = .int .i64 k ∧ (h.clips.take k).all h.clipB = true ∧ Below W1.heap.size W1 wr) (fun i _ => h.clips.length - (intOf i).toNat)
            case atStart => exact ⟨0, Nat.zero_le _, rfl, rfl, hb⟩
            case round =>
              obtain ⟨k, hk, rfl, hall, hb⟩ := hrel
              have HA := Lib.hid hall
              clear hall
              have q2 := (hB.of_below hb hB.lt).cell 2
              have q3 := (hB.of_below hb hB.lt).cell 3
              have q4 := (hB.of_below hb hB.lt).cell 4
              simp only [List.getElem?_cons_zero, List.getElem?_cons_succ] at q2 q3 q4
              have hBr : w.heap.size < wr.heap.size := Nat.lt_of_lt_of_le hBl hb.size
              by_cases hlt : k < h.clips.length
              · have hlt1 : (k : Int) < (h.clips.length : Int) := by omega
                have hk0 : (0 : Int) ≤ (k : Int) := Int.natCast_nonneg _
                obtain ⟨b, off, x, rfl, hbl, hx, s0, s1, s2⟩ := (H4'.below hb).atC hlt
                cases e5 : inB x.tk 0 ((h.tickets.length : Int) - 1) with
                | false =>
                  have hR := Lib.hid (fault_arg HSM.out (arg_no (.inr (.inr (.inr (.inr (all_fails hx (clip_no (.inl e5)))))))))
                  clear hx
                  go_wp2_with (first | (go_at_call 37; refine (refin_calls _ _ _ _).mono ?_; (rintro e w' hr; first | ((with_reducible replace hr := Ret.up hr); obtain ⟨rfl, z, rfl⟩ := hr) | (obtain ⟨rfl, z, rfl⟩ := hr))))
                  go_ret
                  exact ret_mk (ret_int hR.out.symm) (hb1.trans (Below.mono (later_below (gA hb) (gA hb).size) hb1.size))
                | true =>
                  cases e6 : inB x.ck 0 ((h.clocks.length : Int) - 1) with
                  | false =>
                    have hR := Lib.hid (fault_arg HSM.out (arg_no (.inr (.inr (.inr (.inr (all_fails hx (clip_no (.inr (.inl e6))))))))))
                    clear hx
                    go_wp2_with (first | (go_at_call 37; refine (refin_calls _ _ _ _).mono ?_; (rintro e w' hr; first | ((with_reducible replace hr := Ret.up hr); obtain ⟨rfl, z, rfl⟩ := hr) | (obtain ⟨rfl, z, rfl⟩ := hr))))
                    go_ret
                    exact ret_mk (ret_int hR.out.symm) (hb1.trans (Below.mono (later_below (gA hb) (gA hb).size) hb1.size))
                  | true =>
                    cases e7 : inB x.mn 0 1439 with
                    | false =>
                      have hR := Lib.hid (fault_arg HSM.out (arg_no (.inr (.inr (.inr (.inr (all_fails hx (clip_no (.inr (.inr e7))))))))))
                      clear hx
                      go_wp2_with (first | (go_at_call 37; refine (refin_calls _ _ _ _).mono ?_; (rintro e w' hr; first | ((with_reducible replace hr := Ret.up hr); obtain ⟨rfl, z, rfl⟩ := hr) | (obtain ⟨rfl, z, rfl⟩ := hr))))
                      go_ret
                      exact ret_mk (ret_int hR.out.symm) (hb1.trans (Below.mono (later_below (gA hb) (gA hb).size) hb1.size))
                    | true =>
                      have HN := Lib.hid (all_take HA.out hx (by unfold Hs.clipB Hs.ticketB; rw [e5, e6, e7]; rfl))
                      clear hx
                      go_wp2_with (first | (go_at_call 37; refine (refin_calls _ _ _ _).mono ?_; (rintro e w' hr; first | ((with_reducible replace hr := Ret.up hr); obtain ⟨rfl, z, rfl⟩ := hr) | (obtain ⟨rfl, z, rfl⟩ := hr))))
                      go_roundw
                      case rel => exact ⟨k + 1, by omega, by go_num, HN.out, later_below (gA hb) (gA hb).size⟩
                      case measure => simp [intOf]; omega
              · obtain rfl : k = h.clips.length := by omega
                have HC := Lib.hid (show h.clips.all h.clipB = true by have := HA.out; rwa [List.take_length] at this)
                clear HA hlt hk
                go_wp2
                go_loopw [7] (fun i wr => ∃ k : Nat, k ≤ h.tickets.length ∧ i = .int .i64 k ∧ (h.tickets.take k).all Tk.validB = true ∧ (List.range k).all (fun (i : Nat) => decide ((h.ofs (i : Int)).length ≤ 2)) = true ∧ Below W1.heap.size W1 wr) (fun i _ => h.tickets.length - (intOf i).toNat)
                case atStart => exact ⟨0, Nat.zero_le _, rfl, rfl, rfl, hb⟩
                case round =>
                  obtain ⟨k, hk, rfl, hall, hof, hb⟩ := hrel
                  have HA := Lib.hid hall
                  have HF := Lib.hid hof
                  clear hall hof
                  have q3 := (hB.of_below hb hB.lt).cell 3
                  have q0 := (hB.of_below hb hB.lt).cell 0
                  have q1 := (hB.of_below hb hB.lt).cell 1
                  have q2 := (hB.of_below hb hB.lt).cell 2
                  have q4 := (hB.of_below hb hB.lt).cell 4
                  simp only [List.getElem?_cons_zero, List.getElem?_cons_succ] at q0 q1 q2 q3 q4
                  have hBr : w.heap.size < wr.heap.size := Nat.lt_of_lt_of_le hBl hb.size
                  by_cases hlt : k < h.tickets.length
                  · have hlt1 : (k : Int) < (h.tickets.length : Int) := by omega
                    have hk0 : (0 : Int) ≤ (k : Int) := Int.natCast_nonneg _
                    obtain ⟨b, off, x, rfl, hbl, hx, s0, s1⟩ := (H3'.below hb).atT hlt
                    cases e5 : inB x.tub 0 8 with
                    | false =>
                      have hR := Lib.hid (fault_arg HSM.out (arg_no (.inr (.inr (.inr (.inl (all_fails hx (valid_no (.inl e5)))))))))
                      clear hx
                      go_wp2_with (first | (go_at_call 37; refine (refin_calls _ _ _ _).mono ?_; (rintro e w' hr; first | ((with_reducible replace hr := Ret.up hr); obtain ⟨rfl, z, rfl⟩ := hr) | (obtain ⟨rfl, z, rfl⟩ := hr))))
                      go_ret
                      exact ret_mk (ret_int hR.out.symm) (hb1.trans (Below.mono (later_below hb hb.size) hb1.size))
                    | true =>
                      cases e6 : inB x.hours 0 9 with
                      | false =>
                        have hR := Lib.hid (fault_arg HSM.out (arg_no (.inr (.inr (.inr (.inl (all_fails hx (valid_no (.inr e6)))))))))
                        clear hx
                        go_wp2_with (first | (go_at_call 37; refine (refin_calls _ _ _ _).mono ?_; (rintro e w' hr; first | ((with_reducible replace hr := Ret.up hr); obtain ⟨rfl, z, rfl⟩ := hr) | (obtain ⟨rfl, z, rfl⟩ := hr))))
                        go_ret
                        exact ret_mk (ret_int hR.out.symm) (hb1.trans (Below.mono (later_below hb hb.size) hb1.size))
                      | true =>
                        by_cases e7 : 2 < (h.ofI (k : Int)).length
                        · have hR := Lib.hid (fault_one HSM.out (.inr (two_no hlt e7)))
                          have e8 : 2 < ((h.ofI (k : Int)).length : Int) := by omega
                          clear hx e7
                          go_wp2_with (first
                            | (go_at_call 37; refine (refin_calls _ _ _ _).mono ?_; (rintro e w' hr; first | ((with_reducible replace hr := Ret.up hr); obtain ⟨rfl, z, rfl⟩ := hr) | (obtain ⟨rfl, z, rfl⟩ := hr)))
                            | (go_at_call 97; refine (refof_calls _ h _ _ ?hh hlc).mono ?_; (case hh => exact H0.below (hb1.trans (Below.mono (later_below hb hb.size) hb1.size))); (rintro e w' hr; first | ((with_reducible replace hr := RetSl.up hr); obtain ⟨A, c, rfl, ⟨z, rfl⟩, hsl⟩ := hr) | (obtain ⟨A, c, rfl, ⟨z, rfl⟩, hsl⟩ := hr))))
                          go_ret
                          exact ret_mk (ret_int hR.out.symm) (hb1.trans (Below.mono (later_below hb hb.size) hb1.size))
                        · have HN := Lib.hid (all_take HA.out hx (by unfold Tk.validB; rw [e5, e6]; rfl))
                          have HN2 := Lib.hid (two_step HF.out e7)
                          have e8 : ¬ 2 < ((h.ofI (k : Int)).length : Int) := by omega
                          clear hx e7
                          go_wp2_with (first
                            | (go_at_call 37; refine (refin_calls _ _ _ _).mono ?_; (rintro e w' hr; first | ((with_reducible replace hr := Ret.up hr); obtain ⟨rfl, z, rfl⟩ := hr) | (obtain ⟨rfl, z, rfl⟩ := hr)))
                            | (go_at_call 97; refine (refof_calls _ h _ _ ?hh hlc).mono ?_; (case hh => exact H0.below (hb1.trans (Below.mono (later_below hb hb.size) hb1.size))); (rintro e w' hr; first | ((with_reducible replace hr := RetSl.up hr); obtain ⟨A, c, rfl, ⟨z, rfl⟩, hsl⟩ := hr) | (obtain ⟨A, c, rfl, ⟨z, rfl⟩, hsl⟩ := hr))))
                          go_roundw
                          case rel => exact ⟨k + 1, by omega, by go_num, HN.out, HN2.out, later_below hb hb.size⟩
                          case measure => simp [intOf]; omega
                  · obtain rfl : k = h.tickets.length := by omega
                    have HT := Lib.hid (show h.tickets.all Tk.validB = true by have := HA.out; rwa [List.take_length] at this)
                    have HAR := Lib.hid (arg_yes E1.out E2.out HO.out HT.out HC.out)
                    have hoff : ∀ r ∈ h.clocks, r.offB = true := fun r hr => by have := HO.out; rw [List.all_eq_true] at this; exact this r hr
                    obtain ⟨mb, -, -⟩ := many_both h.clocks hoff
                    have HOF := Lib.hid hoff
                    have hn4 : h.clocks.length ≤ 4 := by omega
                    by_cases hm : 2000 < manyR h.clocks
                    · have hR := Lib.hid (fault_many HSM.out HAR.out HF.out (by rcases mb with ⟨m1, m2⟩ | ⟨m1, m2⟩ <;> omega))
                      clear mb hoff
                      go_wp2_with (first
                        | (go_at_call 104; refine (refmany_calls _ h _ ?hh hn4 HOF.out).mono ?_; (case hh => exact H0.below (hb1.trans (Below.mono hb hb1.size))); (rintro e w' hr; first | ((with_reducible replace hr := Ret.up hr); obtain ⟨rfl, z, rfl⟩ := hr) | (obtain ⟨rfl, z, rfl⟩ := hr))))
                      go_ret
                      exact ret_mk (ret_int hR.out.symm) (hb1.trans (Below.mono (later_below hb hb.size) hb1.size))
                    · have hR := Lib.hid (fault_none HSM.out HAR.out HF.out (by rcases mb with ⟨m1, m2⟩ | ⟨m1, m2⟩ <;> omega))
                      clear mb hoff
                      go_wp2_with (first
                        | (go_at_call 104; refine (refmany_calls _ h _ ?hh hn4 HOF.out).mono ?_; (case hh => exact H0.below (hb1.trans (Below.mono hb hb1.size))); (rintro e w' hr; first | ((with_reducible replace hr := Ret.up hr); obtain ⟨rfl, z, rfl⟩ := hr) | (obtain ⟨rfl, z, rfl⟩ := hr))))
                      go_ret
                      exact ret_mk (ret_int hR.out.symm) (hb1.trans (Below.mono (later_below hb hb.size) hb1.size))
  · have hsm : h.smallB = false := by simpa using hsm
    have hR := Lib.hid (fault_small hsm)
    by_cases d1 : 4 < h.clocks.length
    · have d1 : 4 < (h.clocks.length : Int) := by omega
      go_enter Try.func93, Try.ntmps93
      go_wp2
      go_ret
      exact ret_mk (ret_int hR.out.symm) (by repeat (first | exact Below.refl _ _ | (with_reducible assumption) | apply gL | apply gA | apply gD | apply gN | (refine gS ?_ (by first | (simp; done) | (simp; omega) | omega))))
    · have d1' : ¬ 4 < (h.clocks.length : Int) := by omega
      by_cases d2 : 6 < h.tickets.length
      · have d2 : 6 < (h.tickets.length : Int) := by omega
        clear d1
        go_enter Try.func93, Try.ntmps93
        go_wp2
        go_ret
        exact ret_mk (ret_int hR.out.symm) (by repeat (first | exact Below.refl _ _ | (with_reducible assumption) | apply gL | apply gA | apply gD | apply gN | (refine gS ?_ (by first | (simp; done) | (simp; omega) | omega))))
      · have d2' : ¬ 6 < (h.tickets.length : Int) := by omega
        have d3 : 10 < (h.clips.length : Int) := by
          simp only [Hs.smallB, Bool.and_eq_false_iff, decide_eq_false_iff_not] at hsm
          omega
        clear d1 d2
        go_enter Try.func93, Try.ntmps93
        go_wp2
        go_ret
        exact ret_mk (ret_int hR.out.symm) (by repeat (first | exact Below.refl _ _ | (with_reducible assumption) | apply gL | apply gA | apply gD | apply gN | (refine gS ?_ (by first | (simp; done) | (simp; omega) | omega))))
theorem law_fault_calls (v : Value) (h : Hs) (w : World) (H : HsAt w v h) (hlc : h.clips.length ≤ 1000) :
    Calls Try.prog 36 #[v] w (Ret (.int .i64 h.fault) w) := by
  have H0 := H
  obtain ⟨A2, c2, A3, c3, A4, c4, rfl, H2, H3, H4⟩ := H
  go_enter Try.func36, Try.ntmps36
  go_wp2_with (fail)
  refine (reffault_calls _ h _ (H0.below (by repeat (first | exact Below.refl _ _ | (with_reducible assumption) | apply gL | apply gA | apply gD | apply gN | (refine gS ?_ (by first | (simp; done) | (simp; omega) | omega))))) hlc).mono ?_
  (rintro e w' hr; first | ((with_reducible replace hr := Ret.up hr); obtain ⟨rfl, z, rfl⟩ := hr) | (obtain ⟨rfl, z, rfl⟩ := hr))
  go_wp2
  go_ret
  exact ret_mk rfl (by repeat (first | exact Below.refl _ _ | (with_reducible assumption) | apply gL | apply gA | apply gD | apply gN | (refine gS ?_ (by first | (simp; done) | (simp; omega) | omega))))

/-- A house that a statement can use. -/
def Hs.readyB (h : Hs) : Bool := h.thinB && decide (h.fault = 0)
theorem ready_calls (v : Value) (h : Hs) (w : World) (H : HsAt w v h) :
    Calls Try.prog 49 #[v] w (Ret (.bool h.readyB) w) := by
  have H0 := H
  obtain ⟨A2, c2, A3, c3, A4, c4, rfl, H2, H3, H4⟩ := H
  cases ht : h.thinB with
  | false =>
    have hR := Lib.hid (show h.readyB = false by simp [Hs.readyB, ht])
    go_enter Try.func49, Try.ntmps49
    go_wp2_with (fail)
    refine (thin_calls _ h _ (H0.below (by repeat (first | exact Below.refl _ _ | (with_reducible assumption) | apply gL | apply gA | apply gD | apply gN | (refine gS ?_ (by first | (simp; done) | (simp; omega) | omega)))))).mono ?_
    (rintro e w' hr; first | ((with_reducible replace hr := Ret.up hr); obtain ⟨rfl, z, rfl⟩ := hr) | (obtain ⟨rfl, z, rfl⟩ := hr))
    go_wp2
    go_ret
    exact ret_mk (ret_bool hR.out.symm) (by repeat (first | exact Below.refl _ _ | (with_reducible assumption) | apply gL | apply gA | apply gD | apply gN | (refine gS ?_ (by first | (simp; done) | (simp; omega) | omega))))
  | true =>
    have hlc : h.clips.length ≤ 1000 := by have := (thin_iff.1 ht).2.2; omega
    by_cases hf : h.fault = 0
    · have hR := Lib.hid (show h.readyB = true by simp [Hs.readyB, ht, hf])
      go_enter Try.func49, Try.ntmps49
      go_wp2_with (fail)
      refine (thin_calls _ h _ (H0.below (by repeat (first | exact Below.refl _ _ | (with_reducible assumption) | apply gL | apply gA | apply gD | apply gN | (refine gS ?_ (by first | (simp; done) | (simp; omega) | omega)))))).mono ?_
      (rintro e w' hr; first | ((with_reducible replace hr := Ret.up hr); obtain ⟨rfl, z, rfl⟩ := hr) | (obtain ⟨rfl, z, rfl⟩ := hr))
      go_wp2_with (fail)
      refine (reffault_calls _ h _ (H0.below (by repeat (first | exact Below.refl _ _ | (with_reducible assumption) | apply gL | apply gA | apply gD | apply gN | (refine gS ?_ (by first | (simp; done) | (simp; omega) | omega))))) hlc).mono ?_
      (rintro e w' hr; first | ((with_reducible replace hr := Ret.up hr); obtain ⟨rfl, z, rfl⟩ := hr) | (obtain ⟨rfl, z, rfl⟩ := hr))
      go_wp2
      go_ret
      exact ret_mk (ret_bool hR.out.symm) (by repeat (first | exact Below.refl _ _ | (with_reducible assumption) | apply gL | apply gA | apply gD | apply gN | (refine gS ?_ (by first | (simp; done) | (simp; omega) | omega))))
    · have hR := Lib.hid (show h.readyB = false by simp [Hs.readyB, hf])
      have hf1 : (h.fault == 0) = false := by simpa using hf
      go_enter Try.func49, Try.ntmps49
      go_wp2_with (fail)
      refine (thin_calls _ h _ (H0.below (by repeat (first | exact Below.refl _ _ | (with_reducible assumption) | apply gL | apply gA | apply gD | apply gN | (refine gS ?_ (by first | (simp; done) | (simp; omega) | omega)))))).mono ?_
      (rintro e w' hr; first | ((with_reducible replace hr := Ret.up hr); obtain ⟨rfl, z, rfl⟩ := hr) | (obtain ⟨rfl, z, rfl⟩ := hr))
      go_wp2_with (fail)
      refine (reffault_calls _ h _ (H0.below (by repeat (first | exact Below.refl _ _ | (with_reducible assumption) | apply gL | apply gA | apply gD | apply gN | (refine gS ?_ (by first | (simp; done) | (simp; omega) | omega))))) hlc).mono ?_
      (rintro e w' hr; first | ((with_reducible replace hr := Ret.up hr); obtain ⟨rfl, z, rfl⟩ := hr) | (obtain ⟨rfl, z, rfl⟩ := hr))
      go_wp2
      go_ret
      exact ret_mk (ret_bool hR.out.symm) (by repeat (first | exact Below.refl _ _ | (with_reducible assumption) | apply gL | apply gA | apply gD | apply gN | (refine gS ?_ (by first | (simp; done) | (simp; omega) | omega))))
end Go.Proofs.Ytcngnfnljkkjgaa
namespace Go.Proofs.Ytcngnfnljkkjgaa
open Go.RowKit
attribute [local go_sem] cell_later frozen_later lt_later le_later

theorem KeepX.grown {b : Nat} {W A B : World} {row : Option Nat} (h : KeepX b W A) (hg : A.grownBy B row) (hr : ∀ k, row = some k → W.heap.size ≤ k) : KeepX b W B := by
  have hb : Below W.heap.size A B := (Below.refl W.heap.size A).grown hg h.size hr
  exact ⟨hb.os.trans h.os, hb.tape.trans h.tape, hb.output.trans h.output, Nat.le_trans h.size hb.size, fun k hk hkb => (hb.block k hk).trans (h.block k hk hkb)⟩
theorem own_lt {w : World} {base : Nat} {e : TypeId} {k n : Nat} {v : Value} {xs : List Value} (h : w.ownsRow base e k v n xs) : ∀ j, v.ownBlock = some j → base ≤ j := fun j hj => (h.lt j hj).1
theorem own_set' {W : World} {base : Nat} {e : TypeId} {k : Nat} {v : Value} {n g i : Nat} {u : Value} {xs : List Value} (h : W.ownsRow base e k v n xs) (hg : g < base) : (W.setCell ⟨g, i, none⟩ u).ownsRow base e k v n xs := by
  obtain ⟨h6, h7⟩ := h
  refine ⟨h6, ?_⟩
  rcases h7 with h7 | ⟨b, cap, cur, h8, h9, h10, h11⟩
  · exact .inl h7
  · exact .inr ⟨b, cap, cur, h8, h9, (Below.heap_setCell _ _ _ _ (by show b ≠ g; omega)).trans h10, h11⟩
theorem infoTicket : (Try.prog.info? 114).map (fun i => (i.zero, i.size, i.bytes)) = some (some (.agg #[.int .i64 0, .int .i64 0]), 2, 16) := by kernel_rfl
theorem flat_take {α : Type} {g : α → List Value} {l : List α} {k : Nat} {x : α} (hx : l[k]? = some x) : (l.take (k + 1)).flatMap g = (l.take k).flatMap g ++ g x := by
  rw [List.take_add_one, hx]
  simp

set_option maxRecDepth 100000 in
set_option maxHeartbeats 4000000 in
theorem house_calls (v : Value) (h : Hs) (w : World) (H : HsAt w v h) (hl2 : h.clocks.length ≤ 1000) (hl3 : h.tickets.length ≤ 1000) (hl4 : h.clips.length ≤ 1000) :
    Calls Try.prog 25 #[v] w (RetHs h w) := by
  obtain ⟨A2, c2, A3, c3, A4, c4, rfl, H2, H3, H4⟩ := H
  obtain ⟨i0, hi, hz0, hz1, hz2⟩ := info_parts infoRange
  obtain ⟨j0, hj, hy0, hy1, hy2⟩ := info_parts infoTicket
  obtain ⟨k0, hk, hx0, hx1, hx2⟩ := info_parts infoClip
  obtain ⟨W1, hW1⟩ : ∃ W1, W1 = ((w.alloc (.cells #[.int .i64 h.hour, .int .i64 h.grace, .slice A2 h.clocks.length c2, .slice A3 h.tickets.length c3, .slice A4 h.clips.length c4] 26)).alloc (.cells #[.int .i64 0, .int .i64 0, .slice none 0 0, .slice none 0 0, .slice none 0 0] 36)).alloc (.cells #[.int .i64 h.hour, .int .i64 h.grace, .slice none 0 0, .slice none 0 0, .slice none 0 0] 36) := ⟨_, rfl⟩
  have hs1 : W1.heap.size = w.heap.size + 3 := by rw [hW1]; simp
  have hb1 : Below w.heap.size w W1 := by rw [hW1]; exact gA (gA (gA (Below.refl _ _)))
  have hB0 : BlkAt W1 w.heap.size 26 [.int .i64 h.hour, .int .i64 h.grace, .slice A2 h.clocks.length c2, .slice A3 h.tickets.length c3, .slice A4 h.clips.length c4] := by rw [hW1]; exact ((BlkAt.new _ _ _).alloc _).alloc _
  have hB1 : BlkAt W1 (w.heap.size + 1) 36 [.int .i64 0, .int .i64 0, .slice none 0 0, .slice none 0 0, .slice none 0 0] := by
    rw [hW1]
    have := BlkAt.new (w.alloc (.cells #[.int .i64 h.hour, .int .i64 h.grace, .slice A2 h.clocks.length c2, .slice A3 h.tickets.length c3, .slice A4 h.clips.length c4] 26)) 36 [.int .i64 0, .int .i64 0, .slice none 0 0, .slice none 0 0, .slice none 0 0]
    rw [World.size_alloc] at this
    exact this.alloc _
  have hB2 : BlkAt W1 (w.heap.size + 2) 36 [.int .i64 h.hour, .int .i64 h.grace, .slice none 0 0, .slice none 0 0, .slice none 0 0] := by
    rw [hW1]
    have := BlkAt.new ((w.alloc (.cells #[.int .i64 h.hour, .int .i64 h.grace, .slice A2 h.clocks.length c2, .slice A3 h.tickets.length c3, .slice A4 h.clips.length c4] 26)).alloc (.cells #[.int .i64 0, .int .i64 0, .slice none 0 0, .slice none 0 0, .slice none 0 0] 36)) 36 [.int .i64 h.hour, .int .i64 h.grace, .slice none 0 0, .slice none 0 0, .slice none 0 0]
    simp only [World.size_alloc] at this
    exact this
  have HS1 := Lib.hid hs1
  clear hs1
  go_enter Try.func25, Try.ntmps25
  go_wp2
  rw [← hW1]
  clear hW1
  rw [show w.heap.size + 1 + 1 = w.heap.size + 2 from rfl]
  have hsw := hB0.lt
  obtain ⟨b2, hb2⟩ : ∃ b, b = w.heap.size + 2 := ⟨_, rfl⟩
  obtain ⟨b1, hb1'⟩ : ∃ b, b = w.heap.size + 1 := ⟨_, rfl⟩
  rw [← hb2] at hB2 ⊢
  rw [← hb1'] at hB1 ⊢
  have HB2 := Lib.hid hb2
  have HB1 := Lib.hid hb1'
  clear hb2 hb1'
  have hb2l : b2 < W1.heap.size := hB2.lt
  have H2' := H2.below hb1
  have H3' := H3.below hb1
  have H4' := H4.below hb1
  have hnot : ∀ (α : Type) (k : Nat) (g : α → List Value) (A : Option Addr) (c : Nat) (l : List α), SlA w k g A c l → l ≠ [] → ∀ a, A = some a → a.block < w.heap.size := fun α k g A c l hs hne a ha => by
    obtain ⟨b, off, e, hlt, -⟩ := hs.2.2 hne
    rw [ha] at e
    cases e
    exact hlt
  -- the clocks
  go_loopw [4] (fun i wr => ∃ (k : Nat) (v : Value), k ≤ h.clocks.length ∧ i = .int .i64 k ∧ KeepX b2 W1 wr ∧ BlkAt wr b2 36 [.int .i64 h.hour, .int .i64 h.grace, v, .slice none 0 0, .slice none 0 0] ∧ wr.ownsRow W1.heap.size 42 2 v k ((h.clocks.take k).flatMap gR)) (fun i _ => h.clocks.length - (intOf i).toNat)
  case atStart => exact ⟨0, _, Nat.zero_le _, rfl, KeepX.refl _ _, hB2, World.ownsRow_nil _ _ _ _⟩
  case round =>
    obtain ⟨k, vv, hk', rfl, hkx, hX, hown⟩ := hrel
    have hC0 := hkx.blk hB0 (by have := HB2.out; omega)
    have q2 := hC0.cell 2
    have x2 := hX.cell 2
    have fx := hX.frozen 2
    simp only [List.getElem?_cons_zero, List.getElem?_cons_succ] at q2 x2
    have hl0 := hC0.lt
    have hlx := hX.lt
    have HOWN := Lib.hid hown
    clear hown
    by_cases hlt : k < h.clocks.length
    · have hlt1 : (k : Int) < (h.clocks.length : Int) := by omega
      have hk0 : (0 : Int) ≤ (k : Int) := Int.natCast_nonneg _
      obtain ⟨b, off, x, e2, hbl, hx, s0, s1⟩ := H2.atR hlt
      subst e2
      have HF := Lib.hid (flat_take (g := gR) hx)
      clear hx
      have t0 := (hkx.cell ((hb1.cell (p := ⟨b, off + k * 2, none⟩) hbl).trans s0) (by show b ≠ b2; have := HB2.out; omega))
      have t1 := (hkx.cell ((hb1.cell (p := ⟨b, off + k * 2 + 1, none⟩) hbl).trans s1) (by show b ≠ b2; have := HB2.out; omega))
      have hblr : b < wr.heap.size := Nat.lt_of_lt_of_le hbl (Nat.le_trans hb1.size hkx.size)
      have HBL := Lib.hid hbl
      clear s0 s1 hbl
      go_wp2
      obtain ⟨C, hC⟩ : ∃ C, C = Same [⟨b2, 2, none⟩, ⟨w.heap.size, 2, none⟩, ⟨b, off + k * 2, none⟩, ⟨b, off + k * 2 + 1, none⟩] wr := ⟨_, rfl⟩
      obtain ⟨G, hG⟩ : ∃ G, G = held C wr.drew := ⟨_, rfl⟩
      have hfs : ∀ a ∈ ([⟨b2, 2, none⟩, ⟨w.heap.size, 2, none⟩, ⟨b, off + k * 2, none⟩, ⟨b, off + k * 2 + 1, none⟩] : List Addr), ∀ u, wr.cell? a = some u → ∀ x, (G x).cell? a = some u := fun a ha u hu x => by
        rw [hG, hC]
        exact same_held hu ha x
      have f0 := hfs _ (by simp) _ x2
      have f1 := hfs _ (by simp) _ q2
      have f2 := hfs _ (by simp) _ t0
      have f3 := hfs _ (by simp) _ t1
      clear hfs
      refine region_sk C [[], [0], [], [2], [], [3, 4], [5], [6], [7], [1, 8, 7], [0, 1, 2, 3, 4, 5, 6, 7, 8, 9], [10, 9, 9, 0, 1, 2, 3, 4, 5, 6, 7, 8, 9]] (.qs [0, 1, 2, 3, 4, 5, 6] (.one 7 (.one 8 (.one 9 (.one 10 .done))))) 11 (by kernel_rfl) (by kernel_rfl) (by kernel_rfl) (by rw [hC]; exact same_drew) ?_
      refine wpSk_qs (w0 := wr.drew) (by rw [hC]; exact same_drew) ?_
      rw [← hG]
      have HC' := Lib.hid hC
      clear hG hC
      simp only [List.filterMap_cons, List.filterMap_nil, List.getElem?_toArray, List.getElem?_cons_zero, List.getElem?_cons_succ]
      change wpQuiet _ _ _ _ [_, _, _, _, _, _, _] _
      repeat (go_big_quiet_step (fail))
      refine wpQuiet_nil ?_
      clear f0 f1 f2 f3
      have hCb : ∀ V, Below wr.heap.size wr V → C V := fun V hV => by
        rw [HC'.out]
        exact same_below hV (by simp only [List.mem_cons, List.not_mem_nil, or_false]; rintro a (rfl | rfl | rfl | rfl) <;> assumption)
      have HCB := Lib.hid hCb
      clear hCb
      refine wpSk_one rfl (fun K hK => ?_)
      go_simp
      refine (to_calls _ _ _).mono ?_
      rintro e w' ⟨rfl, z, rfl⟩
      obtain ⟨V, hV, hbV⟩ : ∃ V, V = later wr.drew z ∧ Below wr.heap.size wr V := ⟨_, rfl, Below.trans (gD (Below.refl _ _)) (below_later wr.drew z)⟩
      rw [← hV]
      clear hV
      refine hK.out _ _ (HCB.out _ hbV) ?_
      clear hK K
      refine wpSk_one rfl (fun K hK => ?_)
      go_simp
      have hbV2 : Below wr.heap.size wr (V.alloc (.cells #[.int .i64 x.lo, .int .i64 x.hi] 42)) := gA hbV
      have hn2 := news_new V _ rfl (gR x) 42
      obtain ⟨bv, hbv⟩ : ∃ b, b = V.heap.size := ⟨_, rfl⟩
      rw [← hbv] at hn2 ⊢
      obtain ⟨V2, hV2, hbV2⟩ : ∃ V2, V2 = V.alloc (.cells #[.int .i64 x.lo, .int .i64 x.hi] 42) ∧ Below wr.heap.size wr V2 := ⟨_, rfl, hbV2⟩
      have hn3 : ∀ (j : Nat) (u : Value), (gR x)[j]? = some u → V2.cell? ((⟨bv, 0, none⟩ : Addr).add j) = some u := by rw [hV2]; exact hn2
      rw [← hV2]
      clear hV2 hbv hn2
      refine hK.out _ _ (HCB.out _ hbV2) ?_
      clear hK K
      refine wpSk_one rfl (fun K hK => ?_)
      rw [if_pos (by rfl)]
      have hown2 : V2.ownsRow W1.heap.size 42 2 vv k ((h.clocks.take k).flatMap gR) := own_below HOWN.out hbV2
      refine wp_append_own _ _ 29 rfl W1.heap.size 42 i0 (.agg #[.int .i64 0, .int .i64 0]) 2 16 Try.underlying29 hi hz0 hz1 hz2 rfl (by decide) _ _ _ rfl hown2 ⟨bv, 0, none⟩ 1 1 (gR x) rfl rfl hn3 ?c2 ?c3 ?c4 ?c5 ?_
      case c2 => simp [gR, Value.oneCell']
      case c3 => unfold maxLen; omega
      case c4 => omega
      case c5 => exact Nat.le_trans hkx.size hbV2.size
      intro v' w1 hown1 hg1 _
      obtain ⟨Av, cv, rfl⟩ : ∃ A c, v' = .slice A (k + 1) c := by
        rcases hown1.2 with ⟨-, h0⟩ | ⟨_, _, _, e, -⟩
        · omega
        · exact ⟨_, _, e⟩
      have hne : ∀ j, vv.ownBlock = some j → W1.heap.size ≤ j := own_lt hown2
      have hsame : ∀ a : Addr, a.block < W1.heap.size → w1.cell? a = wr.cell? a := fun a ha =>
        (World.cell?_of_block (w := V2) (hg1.block a.block (Nat.lt_of_lt_of_le ha (Nat.le_trans hkx.size hbV2.size)) (fun e => by have := hne a.block e.symm; omega))).trans (hbV2.cell (Nat.lt_of_lt_of_le ha hkx.size))
      have hkw : KeepX b2 W1 w1 := (hkx.trans (KeepX.of_below hbV2)).grown hg1 hne
      have hX1 : BlkAt w1 b2 36 [.int .i64 h.hour, .int .i64 h.grace, vv, .slice none 0 0, .slice none 0 0] := (hg1.block b2 (Nat.lt_of_lt_of_le hb2l (Nat.le_trans hkx.size hbV2.size)) (fun e => by have := hne b2 e.symm; omega)).trans (hX.of_below hbV2 hX.lt)
      have hfz := hX1.frozen 2
      have hlx1 := hX1.lt
      have hbW : b < W1.heap.size := Nat.lt_of_lt_of_le HBL.out hb1.size
      have hC1 : C w1 := by
        rw [HC'.out]
        intro a ha
        refine hsame a ?_
        simp only [List.mem_cons, List.not_mem_nil, or_false] at ha
        rcases ha with rfl | rfl | rfl | rfl <;> assumption
      have y2 := (hsame ⟨b2, 2, none⟩ hb2l).trans x2
      have HN := Lib.hid hown1
      clear hown1 hg1 hsame hne hown2 hn3
      simp only [Act.put, List.setIfInBounds_toArray]
      refine hK.out _ _ hC1 ?_
      clear hK K
      refine wpSk_one rfl (fun K hK => ?_)
      go_simp
      refine hK.out _ _ hC1 ?_
      clear hK K
      refine wpSk_done rfl (fun K hK => ?_)
      go_simp
      refine hK.out _ _ (noPanic_mk ?_)
      clear hK K
      go_wp2
      go_roundw
      case rel => exact ⟨k + 1, .slice Av (k + 1) cv, by omega, by go_num, hkw.trans (KeepX.set_ _ _ _), hX1.set_ 2 _, by rw [HF.out]; exact own_set' HN.out hb2l⟩
      case measure => simp [intOf]; omega
    · obtain rfl : k = h.clocks.length := by omega
      obtain ⟨X2, d2, rfl, hsl2⟩ := SlA.of_own (k := 2) (g := gR) (l := h.clocks) (by have := HOWN.out; rwa [List.take_length] at this) (fun _ _ => rfl) rfl (by omega)
      have hlow2 : ∀ a, X2 = some a → W1.heap.size ≤ a.block := fun a ha => own_lt HOWN.out a.block (by rw [ha]; rfl)
      clear HOWN
      go_wp2
      obtain ⟨W2, hW2⟩ : ∃ W2, W2 = wr := ⟨_, rfl⟩
      subst hW2
      have hk12 := hkx
      have hb22 := hX.lt
      have hXX := hX
      clear hkx hX hC0 q2 x2 fx hl0 hlx
      -- the tickets
      go_loopw [5] (fun i wr => ∃ (k : Nat) (v : Value), k ≤ h.tickets.length ∧ i = .int .i64 k ∧ KeepX b2 W2 wr ∧ BlkAt wr b2 36 [.int .i64 h.hour, .int .i64 h.grace, .slice X2 h.clocks.length d2, v, .slice none 0 0] ∧ wr.ownsRow W2.heap.size 114 2 v k ((h.tickets.take k).flatMap gT)) (fun i _ => h.tickets.length - (intOf i).toNat)
      case atStart => exact ⟨0, _, Nat.zero_le _, rfl, KeepX.refl _ _, hXX, World.ownsRow_nil _ _ _ _⟩
      case round =>
        obtain ⟨k, vv, hk', rfl, hkx, hX, hown⟩ := hrel
        have hkx1 := hk12.trans hkx
        have hC0 := hkx1.blk hB0 (by have := HB2.out; omega)
        have q2 := hC0.cell 3
        have x2 := hX.cell 3
        have fx := hX.frozen 3
        simp only [List.getElem?_cons_zero, List.getElem?_cons_succ] at q2 x2
        have hl0 := hC0.lt
        have hlx := hX.lt
        have HOWN := Lib.hid hown
        clear hown
        by_cases hlt : k < h.tickets.length
        · have hlt1 : (k : Int) < (h.tickets.length : Int) := by omega
          have hk0 : (0 : Int) ≤ (k : Int) := Int.natCast_nonneg _
          obtain ⟨b, off, x, e2, hbl, hx, s0, s1⟩ := H3.atT hlt
          subst e2
          have HF := Lib.hid (flat_take (g := gT) hx)
          clear hx
          have t0 := (hkx1.cell ((hb1.cell (p := ⟨b, off + k * 2, none⟩) hbl).trans s0) (by show b ≠ b2; have := HB2.out; omega))
          have t1 := (hkx1.cell ((hb1.cell (p := ⟨b, off + k * 2 + 1, none⟩) hbl).trans s1) (by show b ≠ b2; have := HB2.out; omega))
          have hblr : b < wr.heap.size := Nat.lt_of_lt_of_le hbl (Nat.le_trans hb1.size hkx1.size)
          have HBL := Lib.hid hbl
          clear s0 s1 hbl
          go_wp2
          obtain ⟨C, hC⟩ : ∃ C, C = Same [⟨b2, 3, none⟩, ⟨w.heap.size, 3, none⟩, ⟨b, off + k * 2, none⟩, ⟨b, off + k * 2 + 1, none⟩] wr := ⟨_, rfl⟩
          obtain ⟨G, hG⟩ : ∃ G, G = held C wr.drew := ⟨_, rfl⟩
          have hfs : ∀ a ∈ ([⟨b2, 3, none⟩, ⟨w.heap.size, 3, none⟩, ⟨b, off + k * 2, none⟩, ⟨b, off + k * 2 + 1, none⟩] : List Addr), ∀ u, wr.cell? a = some u → ∀ x, (G x).cell? a = some u := fun a ha u hu x => by
            rw [hG, hC]
            exact same_held hu ha x
          have f0 := hfs _ (by simp) _ x2
          have f1 := hfs _ (by simp) _ q2
          have f2 := hfs _ (by simp) _ t0
          have f3 := hfs _ (by simp) _ t1
          clear hfs
          refine region_sk C [[], [0], [], [2], [], [3, 4], [5], [6], [], [8], [], [9, 10], [11], [12], [7, 13], [14], [1, 15], [0, 1, 2, 3, 4, 5, 6, 7, 8, 9, 10, 11, 12, 13, 14, 15, 16], [17, 16, 16, 0, 1, 2, 3, 4, 5, 6, 7, 8, 9, 10, 11, 12, 13, 14, 15, 16]] (.qs [0, 1, 2, 3, 4, 5, 6, 7, 8, 9, 10, 11, 12, 13, 14] (.one 15 (.one 16 (.one 17 .done)))) 18 (by kernel_rfl) (by kernel_rfl) (by kernel_rfl) (by rw [hC]; exact same_drew) ?_
          refine wpSk_qs (w0 := wr.drew) (by rw [hC]; exact same_drew) ?_
          rw [← hG]
          have HC' := Lib.hid hC
          clear hG hC
          simp only [List.filterMap_cons, List.filterMap_nil, List.getElem?_toArray, List.getElem?_cons_zero, List.getElem?_cons_succ]
          change wpQuiet _ _ _ _ [_, _, _, _, _, _, _, _, _, _, _, _, _, _, _] _
          repeat (go_big_quiet_step (fail))
          refine wpQuiet_nil ?_
          clear f0 f1 f2 f3
          have hCb : ∀ V, Below wr.heap.size wr V → C V := fun V hV => by
            rw [HC'.out]
            exact same_below hV (by simp only [List.mem_cons, List.not_mem_nil, or_false]; rintro a (rfl | rfl | rfl | rfl) <;> assumption)
          have HCB := Lib.hid hCb
          clear hCb
          refine wpSk_one rfl (fun K hK => ?_)
          go_simp
          have hn2 := news_new wr _ rfl (gT x) 114
          obtain ⟨bv, hbv⟩ : ∃ b, b = wr.heap.size := ⟨_, rfl⟩
          obtain ⟨V2, hV2, hbV2⟩ : ∃ V2, V2 = (wr.alloc (.cells #[.int .i64 x.tub, .int .i64 x.hours] 114)).drew ∧ Below wr.heap.size wr V2 := ⟨_, rfl, gD (gA (Below.refl _ _))⟩
          have hn3 : ∀ (j : Nat) (u : Value), (gT x)[j]? = some u → V2.cell? ((⟨bv, 0, none⟩ : Addr).add j) = some u := by rw [hV2, hbv]; exact hn2
          rw [← hV2]
          rw [← hbv]
          clear hV2 hbv hn2
          refine hK.out _ _ (HCB.out _ hbV2) ?_
          clear hK K
          refine wpSk_one rfl (fun K hK => ?_)
          rw [if_pos (by rfl)]
          have hown2 : V2.ownsRow W2.heap.size 114 2 vv k ((h.tickets.take k).flatMap gT) := own_below HOWN.out hbV2
          refine wp_append_own _ _ 33 rfl W2.heap.size 114 j0 (.agg #[.int .i64 0, .int .i64 0]) 2 16 Try.underlying33 hj hy0 hy1 hy2 rfl (by decide) _ _ _ rfl hown2 ⟨bv, 0, none⟩ 1 1 (gT x) rfl rfl hn3 ?c2 ?c3 ?c4 ?c5 ?_
          case c2 => simp [gT, Value.oneCell']
          case c3 => unfold maxLen; omega
          case c4 => omega
          case c5 => exact Nat.le_trans hkx.size hbV2.size
          intro v' w1 hown1 hg1 _
          have hb2l := hb22
          obtain ⟨Av, cv, rfl⟩ : ∃ A c, v' = .slice A (k + 1) c := by
            rcases hown1.2 with ⟨-, h0⟩ | ⟨_, _, _, e, -⟩
            · omega
            · exact ⟨_, _, e⟩
          have hne : ∀ j, vv.ownBlock = some j → W2.heap.size ≤ j := own_lt hown2
          have hsame : ∀ a : Addr, a.block < W2.heap.size → w1.cell? a = wr.cell? a := fun a ha =>
            (World.cell?_of_block (w := V2) (hg1.block a.block (Nat.lt_of_lt_of_le ha (Nat.le_trans hkx.size hbV2.size)) (fun e => by have := hne a.block e.symm; omega))).trans (hbV2.cell (Nat.lt_of_lt_of_le ha hkx.size))
          have hkw : KeepX b2 W2 w1 := (hkx.trans (KeepX.of_below hbV2)).grown hg1 hne
          have hX1 : BlkAt w1 b2 36 [.int .i64 h.hour, .int .i64 h.grace, .slice X2 h.clocks.length d2, vv, .slice none 0 0] := (hg1.block b2 (Nat.lt_of_lt_of_le hb2l (Nat.le_trans hkx.size hbV2.size)) (fun e => by have := hne b2 e.symm; omega)).trans (hX.of_below hbV2 hX.lt)
          have hfz := hX1.frozen 3
          have hlx1 := hX1.lt
          have hbW : b < W2.heap.size := Nat.lt_of_lt_of_le HBL.out (Nat.le_trans hb1.size hk12.size)
          have hwW : w.heap.size < W2.heap.size := Nat.lt_of_lt_of_le hsw hk12.size
          have hC1 : C w1 := by
            rw [HC'.out]
            intro a ha
            refine hsame a ?_
            simp only [List.mem_cons, List.not_mem_nil, or_false] at ha
            rcases ha with rfl | rfl | rfl | rfl <;> assumption
          have y2 := (hsame ⟨b2, 3, none⟩ hb2l).trans x2
          have HN := Lib.hid hown1
          clear hown1 hg1 hsame hne hown2 hn3
          simp only [Act.put, List.setIfInBounds_toArray]
          refine hK.out _ _ hC1 ?_
          clear hK K
          refine wpSk_one rfl (fun K hK => ?_)
          go_simp
          refine hK.out _ _ hC1 ?_
          clear hK K
          refine wpSk_done rfl (fun K hK => ?_)
          go_simp
          refine hK.out _ _ (noPanic_mk ?_)
          clear hK K
          go_wp2
          go_roundw
          case rel => exact ⟨k + 1, .slice Av (k + 1) cv, by omega, by go_num, hkw.trans (KeepX.set_ _ _ _), hX1.set_ 3 _, by rw [HF.out]; exact own_set' HN.out hb2l⟩
          case measure => simp [intOf]; omega
        · obtain rfl : k = h.tickets.length := by omega
          obtain ⟨X3, d3, rfl, hsl3⟩ := SlA.of_own (k := 2) (g := gT) (l := h.tickets) (by have := HOWN.out; rwa [List.take_length] at this) (fun _ _ => rfl) rfl (by omega)
          have hlow3 : ∀ a, X3 = some a → W2.heap.size ≤ a.block := fun a ha => own_lt HOWN.out a.block (by rw [ha]; rfl)
          clear HOWN
          go_wp2
          obtain ⟨W3, hW3⟩ : ∃ W3, W3 = wr := ⟨_, rfl⟩
          subst hW3
          have hk13 := hkx1
          have hk23 := hkx
          have hb23 := hX.lt
          have hXX3 := hX
          clear hkx hkx1 hX hC0 q2 x2 fx hl0 hlx
          -- the clips
          go_loopw [6] (fun i wr => ∃ (k : Nat) (v : Value), k ≤ h.clips.length ∧ i = .int .i64 k ∧ KeepX b2 W3 wr ∧ BlkAt wr b2 36 [.int .i64 h.hour, .int .i64 h.grace, .slice X2 h.clocks.length d2, .slice X3 h.tickets.length d3, v] ∧ wr.ownsRow W3.heap.size 104 3 v k ((h.clips.take k).flatMap gC)) (fun i _ => h.clips.length - (intOf i).toNat)
          case atStart => exact ⟨0, _, Nat.zero_le _, rfl, KeepX.refl _ _, hXX3, World.ownsRow_nil _ _ _ _⟩
          case round =>
            obtain ⟨k, vv, hk', rfl, hkx, hX, hown⟩ := hrel
            have hkx1 := hk13.trans hkx
            have hC0 := hkx1.blk hB0 (by have := HB2.out; omega)
            have q2 := hC0.cell 4
            have x2 := hX.cell 4
            have fx := hX.frozen 4
            simp only [List.getElem?_cons_zero, List.getElem?_cons_succ] at q2 x2
            have hl0 := hC0.lt
            have hlx := hX.lt
            have HOWN := Lib.hid hown
            clear hown
            by_cases hlt : k < h.clips.length
            · have hlt1 : (k : Int) < (h.clips.length : Int) := by omega
              have hk0 : (0 : Int) ≤ (k : Int) := Int.natCast_nonneg _
              obtain ⟨b, off, x, e2, hbl, hx, s0, s1, s2⟩ := H4.atC hlt
              subst e2
              have HF := Lib.hid (flat_take (g := gC) hx)
              clear hx
              have t0 := (hkx1.cell ((hb1.cell (p := ⟨b, off + k * 3, none⟩) hbl).trans s0) (by show b ≠ b2; have := HB2.out; omega))
              have t1 := (hkx1.cell ((hb1.cell (p := ⟨b, off + k * 3 + 1, none⟩) hbl).trans s1) (by show b ≠ b2; have := HB2.out; omega))
              have t2 := (hkx1.cell ((hb1.cell (p := ⟨b, off + k * 3 + 2, none⟩) hbl).trans s2) (by show b ≠ b2; have := HB2.out; omega))
              have hblr : b < wr.heap.size := Nat.lt_of_lt_of_le hbl (Nat.le_trans hb1.size hkx1.size)
              clear s0 s1 s2 hbl
              go_wp2_with (at_builtin; refine wpList_append_own _ rfl _ _ 34 rfl W3.heap.size 104 k0 (.agg #[.int .i64 0, .int .i64 0, .int .i64 0]) 3 24 Try.underlying34 hk hx0 hx1 hx2 rfl (by decide) _ _ _ rfl ((HOWN.out.alloc _).alloc _) ⟨wr.heap.size + 1, 0, none⟩ 1 1 (gC x) rfl rfl ?c1 ?c2 ?c3 ?c4 ?c5 ?_)
              case c1 => exact news_new _ _ (by simp) (gC x) _
              case c2 => simp [gC, Value.oneCell']
              case c3 => unfold maxLen; omega
              case c4 => omega
              case c5 => have := hkx.size; simp; omega
              intro v' w1 hown1 hg1 _
              obtain ⟨V2, hV2⟩ : ∃ V2, V2 = (wr.alloc (.cells #[.int .i64 x.tk, .int .i64 x.ck, .int .i64 x.mn] 74)).alloc (.cells #[.int .i64 x.tk, .int .i64 x.ck, .int .i64 x.mn] 104) := ⟨_, rfl⟩
              have hbV2 : Below wr.heap.size wr V2 := by rw [hV2]; exact gA (gA (Below.refl _ _))
              have hown2 : V2.ownsRow W3.heap.size 104 3 vv k ((h.clips.take k).flatMap gC) := own_below HOWN.out hbV2
              have hg1 : V2.grownBy w1 vv.ownBlock := by rw [hV2]; exact hg1
              clear hV2
              have hb2l := hb23
              obtain ⟨Av, cv, rfl⟩ : ∃ A c, v' = .slice A (k + 1) c := by
                rcases hown1.2 with ⟨-, h0⟩ | ⟨_, _, _, e, -⟩
                · omega
                · exact ⟨_, _, e⟩
              have hne : ∀ j, vv.ownBlock = some j → W3.heap.size ≤ j := own_lt hown2
              have hsame : ∀ a : Addr, a.block < W3.heap.size → w1.cell? a = wr.cell? a := fun a ha =>
                (World.cell?_of_block (w := V2) (hg1.block a.block (Nat.lt_of_lt_of_le ha (Nat.le_trans hkx.size hbV2.size)) (fun e => by have := hne a.block e.symm; omega))).trans (hbV2.cell (Nat.lt_of_lt_of_le ha hkx.size))
              have hkw : KeepX b2 W3 w1 := (hkx.trans (KeepX.of_below hbV2)).grown hg1 hne
              have hX1 : BlkAt w1 b2 36 [.int .i64 h.hour, .int .i64 h.grace, .slice X2 h.clocks.length d2, .slice X3 h.tickets.length d3, vv] := (hg1.block b2 (Nat.lt_of_lt_of_le hb2l (Nat.le_trans hkx.size hbV2.size)) (fun e => by have := hne b2 e.symm; omega)).trans (hX.of_below hbV2 hX.lt)
              have hfz := hX1.frozen 4
              have hlx1 := hX1.lt
              have y2 := (hsame ⟨b2, 4, none⟩ hb2l).trans x2
              have HN := Lib.hid hown1
              clear hown1 hg1 hsame hne hown2
              go_wp2
              go_roundw
              case rel => exact ⟨k + 1, .slice Av (k + 1) cv, by omega, by go_num, hkw.trans (KeepX.set_ _ _ _), hX1.set_ 4 _, by rw [HF.out]; exact own_set' HN.out hb2l⟩
              case measure => simp [intOf]; omega
            · obtain rfl : k = h.clips.length := by omega
              obtain ⟨X4, d4, rfl, hsl4⟩ := SlA.of_own (k := 3) (g := gC) (l := h.clips) (by have := HOWN.out; rwa [List.take_length] at this) (fun _ _ => rfl) rfl (by omega)
              have hlow4 : ∀ a, X4 = some a → W3.heap.size ≤ a.block := fun a ha => own_lt HOWN.out a.block (by rw [ha]; rfl)
              clear HOWN x2
              have s2 := hkx.sl (hk23.sl hsl2 (fun _ a ha => by have := hlow2 a ha; omega)) (fun _ a ha => by have := hlow2 a ha; omega)
              have s3 := hkx.sl hsl3 (fun _ a ha => by have := hlow3 a ha; omega)
              have hR := hkx1.blk hB1 (by have := HB2.out; have := HB1.out; omega)
              have x0 := hX.cell 0
              have x1 := hX.cell 1
              have x2 := hX.cell 2
              have x3 := hX.cell 3
              have x4 := hX.cell 4
              have r0 := hR.cell 0
              have r1 := hR.cell 1
              have r2 := hR.cell 2
              have r3 := hR.cell 3
              have r4 := hR.cell 4
              have u0 := hR.frozen 0
              have u1 := hR.frozen 1
              have u2 := hR.frozen 2
              have u3 := hR.frozen 3
              have u4 := hR.frozen 4
              simp only [List.getElem?_cons_zero, List.getElem?_cons_succ] at x0 x1 x2 x3 x4 r0 r1 r2 r3 r4
              have hlr := hR.lt
              go_wp2
              obtain ⟨W5, hW5⟩ : ∃ W5, W5 = ((((wr.setCell ⟨b1, 0, none⟩ (.int .i64 h.hour)).setCell ⟨b1, 1, none⟩ (.int .i64 h.grace)).setCell ⟨b1, 2, none⟩ (.slice X2 h.clocks.length d2)).setCell ⟨b1, 3, none⟩ (.slice X3 h.tickets.length d3)).setCell ⟨b1, 4, none⟩ (.slice X4 h.clips.length d4) := ⟨_, rfl⟩
              rw [← hW5]
              have hB5 := ((((hR.set_ 0 (.int .i64 h.hour)).set_ 1 (.int .i64 h.grace)).set_ 2 (.slice X2 h.clocks.length d2)).set_ 3 (.slice X3 h.tickets.length d3)).set_ 4 (.slice X4 h.clips.length d4)
              rw [← hW5] at hB5
              have hk5 : KeepX b1 wr W5 := by
                rw [hW5]
                exact ((((KeepX.set_ _ _ _).trans (KeepX.set_ _ _ _)).trans (KeepX.set_ _ _ _)).trans (KeepX.set_ _ _ _)).trans (KeepX.set_ _ _ _)
              clear hW5
              have c0 := hB5.cell 0
              have c1 := hB5.cell 1
              have c2 := hB5.cell 2
              have c3 := hB5.cell 3
              have c4 := hB5.cell 4
              simp at c0 c1 c2 c3 c4
              have hlow : Below w.heap.size w wr := hkx1.low hb1 (by have := HB2.out; omega) hb1.size
              have hg1 := HB1.out
              have hg2 := HS1.out
              refine bodyPost_ret (v := .agg #[.int .i64 h.hour, .int .i64 h.grace, .slice X2 h.clocks.length d2, .slice X3 h.tickets.length d3, .slice X4 h.clips.length d4]) ?hr rfl
                ⟨_, rfl, later_ex (hk5.low hlow (by omega) hlow.size), X2, d2, X3, d3, X4, d4, rfl, hk5.sl s2 (fun _ a ha => by have := hlow2 a ha; omega), hk5.sl s3 (fun _ a ha => by have := hlow3 a ha; have := hk12.size; omega), hk5.sl hsl4 (fun _ a ha => by have := hlow4 a ha; have := hk13.size; omega)⟩
              case hr => simp [results, Try.results25, go_sem, c0, c1, c2, c3, c4]
end Go.Proofs.Ytcngnfnljkkjgaa
