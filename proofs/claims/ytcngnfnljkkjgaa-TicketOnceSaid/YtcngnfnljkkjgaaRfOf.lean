/-
The reference's small functions: how many numbers a range has, whether a number is in one, how thin a house is, the numbers of a ticket's clips, how many errors there are.
-/
import Derived.Test.YtcngnfnljkkjgaaTkLeave3
import Derived.Test.YtcngnfnljkkjgaaTkHelp2
namespace Go.Proofs.Ytcngnfnljkkjgaa
open Go.RowKit
attribute [local go_sem] cell_later frozen_later lt_later le_later

theorem refsize_calls (r : Rg) (w : World) (hr : -1000000 ≤ r.lo ∧ r.lo ≤ 1000000 ∧ -1000000 ≤ r.hi ∧ r.hi ≤ 1000000) : Calls Try.prog 124 #[.agg #[.int .i64 r.lo, .int .i64 r.hi]] w (Ret (.int .i64 r.size) w) := by
  obtain ⟨h1, h2, h3, h4⟩ := hr
  have hR := Lib.hid (show r.size = r.hi - r.lo + 1 from rfl)
  go_enter Try.func124, Try.ntmps124
  go_wp2
  go_ret
  exact ret_mk (ret_int hR.out.symm) (by repeat (first | exact Below.refl _ _ | (with_reducible assumption) | apply gL | apply gA | apply gD | apply gN | (refine gS ?_ (by first | (simp; done) | (simp; omega) | omega))))
theorem refis_calls (n : Int) (r : Rg) (w : World) : Calls Try.prog 121 #[.int .i64 n, .agg #[.int .i64 r.lo, .int .i64 r.hi]] w (Ret (.bool (inB n r.lo r.hi)) w) := by
  go_enter Try.func121, Try.ntmps121
  go_wp2_with (fail)
  refine (refin_calls _ _ _ _).mono ?_
  (rintro e w' hr; first | ((with_reducible replace hr := Ret.up hr); obtain ⟨rfl, z, rfl⟩ := hr) | (obtain ⟨rfl, z, rfl⟩ := hr))
  go_wp2
  go_ret
  exact ret_mk rfl (by repeat (first | exact Below.refl _ _ | (with_reducible assumption) | apply gL | apply gA | apply gD | apply gN | (refine gS ?_ (by first | (simp; done) | (simp; omega) | omega))))

def Hs.thinB (h : Hs) : Bool := decide (h.clocks.length ≤ 30) && (decide (h.tickets.length ≤ 30) && decide (h.clips.length ≤ 30))
theorem thin_iff {h : Hs} : h.thinB = true ↔ h.clocks.length ≤ 30 ∧ h.tickets.length ≤ 30 ∧ h.clips.length ≤ 30 := by simp [Hs.thinB]
theorem thin_calls (v : Value) (h : Hs) (w : World) (H : HsAt w v h) : Calls Try.prog 22 #[v] w (Ret (.bool h.thinB) w) := by
  obtain ⟨A2, c2, A3, c3, A4, c4, rfl, H2, H3, H4⟩ := H
  by_cases h1 : h.clocks.length ≤ 30
  · have d1 : ¬ 30 < (h.clocks.length : Int) := by omega
    by_cases h2 : h.tickets.length ≤ 30
    · have d2 : ¬ 30 < (h.tickets.length : Int) := by omega
      by_cases h3 : h.clips.length ≤ 30
      · have d3 : ¬ 30 < (h.clips.length : Int) := by omega
        have hR := Lib.hid (show h.thinB = true by simp [Hs.thinB, h1, h2, h3])
        go_enter Try.func22, Try.ntmps22
        go_wp2
        go_ret
        exact ret_mk (ret_bool hR.out.symm) (by repeat (first | exact Below.refl _ _ | (with_reducible assumption) | apply gL | apply gA | apply gD | apply gN | (refine gS ?_ (by first | (simp; done) | (simp; omega) | omega))))
      · have d3 : 30 < (h.clips.length : Int) := by omega
        have hR := Lib.hid (show h.thinB = false by simp [Hs.thinB, h3])
        go_enter Try.func22, Try.ntmps22
        go_wp2
        go_ret
        exact ret_mk (ret_bool hR.out.symm) (by repeat (first | exact Below.refl _ _ | (with_reducible assumption) | apply gL | apply gA | apply gD | apply gN | (refine gS ?_ (by first | (simp; done) | (simp; omega) | omega))))
    · have d2 : 30 < (h.tickets.length : Int) := by omega
      have hR := Lib.hid (show h.thinB = false by simp [Hs.thinB, h2])
      go_enter Try.func22, Try.ntmps22
      go_wp2
      go_ret
      exact ret_mk (ret_bool hR.out.symm) (by repeat (first | exact Below.refl _ _ | (with_reducible assumption) | apply gL | apply gA | apply gD | apply gN | (refine gS ?_ (by first | (simp; done) | (simp; omega) | omega))))
  · have d1 : 30 < (h.clocks.length : Int) := by omega
    have hR := Lib.hid (show h.thinB = false by simp [Hs.thinB, h1])
    go_enter Try.func22, Try.ntmps22
    go_wp2
    go_ret
    exact ret_mk (ret_bool hR.out.symm) (by repeat (first | exact Below.refl _ _ | (with_reducible assumption) | apply gL | apply gA | apply gD | apply gN | (refine gS ?_ (by first | (simp; done) | (simp; omega) | omega))))

/-- The numbers of a ticket's clips. -/
def Hs.tkIs (h : Hs) (t : Int) (i : Nat) : Bool := match h.clips[i]? with
  | some c => c.tk == t
  | none => false
def Hs.ofN (h : Hs) (t : Int) : List Nat := (List.range h.clips.length).filter (h.tkIs t)
def Hs.ofI (h : Hs) (t : Int) : List Int := (h.ofN t).map fun (i : Nat) => (i : Int)
theorem ofI_length (h : Hs) (t : Int) : (h.ofI t).length = (h.ofN t).length := by simp [Hs.ofI]
theorem tk_step {h : Hs} {t : Int} {k : Nat} {x : Cp} (hx : h.clips[k]? = some x) : ((List.range (k + 1)).filter (h.tkIs t)).map (fun (i : Nat) => (i : Int)) = ((List.range k).filter (h.tkIs t)).map (fun (i : Nat) => (i : Int)) ++ (if x.tk == t then [(k : Int)] else []) := by
  rw [List.range_succ, List.filter_append, List.map_append]
  congr 1
  have : h.tkIs t k = (x.tk == t) := by simp [Hs.tkIs, hx]
  rw [List.filter_cons, this]
  cases x.tk == t <;> rfl
theorem of_pairs {h : Hs} {t : Int} : ∀ k, k ≤ h.clips.length → ((List.range k).filter (h.tkIs t)).filterMap (fun i => h.clips[i]?) = (h.clips.take k).filter fun c => c.tk == t
  | 0, _ => by simp
  | k + 1, hk => by
    obtain ⟨x, hx⟩ : ∃ x, h.clips[k]? = some x := ⟨h.clips[k], List.getElem?_eq_getElem (by omega)⟩
    rw [ofs_step hx, List.range_succ, List.filter_append, List.filterMap_append, of_pairs k (by omega)]
    congr 1
    have : h.tkIs t k = (x.tk == t) := by simp [Hs.tkIs, hx]
    rw [List.filter_cons, this]
    cases x.tk == t <;> simp [hx]
theorem ofN_ofs (h : Hs) (t : Int) : (h.ofN t).filterMap (fun i => h.clips[i]?) = h.ofs t := by
  have := of_pairs (h := h) (t := t) h.clips.length (Nat.le_refl _)
  rwa [List.take_length] at this
theorem filterMap_all {α β : Type} {f : α → Option β} : ∀ {l : List α}, (∀ x ∈ l, ∃ y, f x = some y) → (l.filterMap f).length = l.length ∧ ∀ (i : Nat) (x : α), l[i]? = some x → (l.filterMap f)[i]? = f x
  | [], _ => ⟨rfl, fun i x hx => by simp at hx⟩
  | x :: l, h => by
    obtain ⟨y, hy⟩ := h x (by simp)
    obtain ⟨h1, h2⟩ := filterMap_all (l := l) fun z hz => h z (by simp [hz])
    rw [List.filterMap_cons_some hy]
    refine ⟨by simp [h1], fun i z hz => ?_⟩
    cases i with
    | zero => simp only [List.getElem?_cons_zero, Option.some.injEq] at hz ⊢; rw [← hz, hy]
    | succ i => simp only [List.getElem?_cons_succ] at hz ⊢; exact h2 i z hz
theorem ofN_some {h : Hs} {t : Int} {i : Nat} (hi : i ∈ h.ofN t) : ∃ c, h.clips[i]? = some c := by
  have h1 := List.mem_range.1 (List.mem_filter.1 hi).1
  exact ⟨h.clips[i], List.getElem?_eq_getElem h1⟩
theorem ofs_length (h : Hs) (t : Int) : (h.ofs t).length = (h.ofN t).length := by
  rw [← ofN_ofs]
  exact (filterMap_all fun i hi => ofN_some hi).1
theorem ofs_get {h : Hs} {t : Int} {i n : Nat} (hi : (h.ofN t)[i]? = some n) : (h.ofs t)[i]? = h.clips[n]? := by
  rw [← ofN_ofs]
  exact (filterMap_all fun i hi => ofN_some hi).2 i n hi

set_option maxHeartbeats 1000000 in
theorem refof_calls (v : Value) (h : Hs) (t : Int) (w : World) (H : HsAt w v h) (hl : h.clips.length ≤ 1000) :
    Calls Try.prog 97 #[v, .int .i64 t] w (RetSl 1 gI (h.ofI t) w) := by
  obtain ⟨i0, hi, hz0, hz1, hz2⟩ := info_parts infoInt
  obtain ⟨A2, c2, A3, c3, A4, c4, rfl, -, -, H4⟩ := H
  obtain ⟨W1, hW1⟩ : ∃ W1, W1 = w.alloc (.cells #[.int .i64 h.hour, .int .i64 h.grace, .slice A2 h.clocks.length c2, .slice A3 h.tickets.length c3, .slice A4 h.clips.length c4] 26) := ⟨_, rfl⟩
  have hb1 : Below w.heap.size w W1 := by rw [hW1]; exact gA (Below.refl _ _)
  have hB : BlkAt W1 w.heap.size 26 [.int .i64 h.hour, .int .i64 h.grace, .slice A2 h.clocks.length c2, .slice A3 h.tickets.length c3, .slice A4 h.clips.length c4] := by rw [hW1]; exact BlkAt.new _ _ _
  have H4' := H4.below hb1
  go_enter Try.func97, Try.ntmps97
  go_wp2
  rw [← hW1]
  clear hW1
  go_loopw [5, 6] (fun v i wr => ∃ k : Nat, k ≤ h.clips.length ∧ i = .int .i64 k ∧ Below W1.heap.size W1 wr ∧ wr.ownsRow W1.heap.size 3 1 v (((List.range k).filter (h.tkIs t)).map fun (i : Nat) => (i : Int)).length ((((List.range k).filter (h.tkIs t)).map fun (i : Nat) => (i : Int)).flatMap gI))
    (fun _ i _ => h.clips.length - (intOf i).toNat)
  case atStart => exact ⟨0, Nat.zero_le _, rfl, Below.refl _ _, World.ownsRow_nil _ _ _ _⟩
  case round =>
    obtain ⟨k, hk, rfl, hb, hown⟩ := hrel
    have q4 := (hB.of_below hb hB.lt).cell 4
    simp only [List.getElem?_cons_zero, List.getElem?_cons_succ] at q4
    have hBl : w.heap.size < wr.heap.size := Nat.lt_of_lt_of_le hB.lt hb.size
    have hlen : (((List.range k).filter (h.tkIs t)).map fun (i : Nat) => (i : Int)).length ≤ k := by
      rw [List.length_map]
      exact Nat.le_trans (List.length_filter_le _ _) (by simp)
    by_cases hlt : k < h.clips.length
    · have hlt1 : (k : Int) < (h.clips.length : Int) := by omega
      have hk0 : (0 : Int) ≤ (k : Int) := Int.natCast_nonneg _
      obtain ⟨b, off, x, rfl, hbl, hx, h1, h2, h3⟩ := (H4'.below hb).atC hlt
      have HS := Lib.hid (tk_step (t := t) hx)
      clear hx
      by_cases he : (x.tk == t) = true
      · go_wp2_with (at_builtin; refine wpList_append_own _ rfl _ _ 47 rfl W1.heap.size 3 i0 (.int .i64 0) 1 8 Try.underlying47 hi hz0 hz1 hz2 rfl (by decide) _ _ _ rfl (hown.alloc _) ⟨wr.heap.size, 0, none⟩ 1 1 (gI (k : Int)) rfl rfl ?c1 ?c2 ?c3 ?c4 ?c5 ?_)
        case c1 => exact news_new _ _ rfl (gI (k : Int)) _
        case c2 => simp [gI, Value.oneCell']
        case c3 => unfold maxLen; omega
        case c4 => omega
        case c5 => have := hb.size; simp; omega
        intro v' w1 hown1 hg1 _
        have hb2 := grown_below (w := W1) (hb.alloc hb.size _) (hown.alloc _) (Nat.le_refl _) hg1
        go_wp2
        go_roundw
        case rel => exact ⟨k + 1, by omega, by go_num, hb2, by rw [HS.out, he]; simpa using hown1⟩
        case measure => simp [intOf]; omega
      · have he : (x.tk == t) = false := by simpa using he
        go_wp2
        go_roundw
        case rel => exact ⟨k + 1, by omega, by go_num, hb, by rw [HS.out, he]; simpa using hown⟩
        case measure => simp [intOf]; omega
    · obtain rfl : k = h.clips.length := by omega
      go_wp2
      obtain ⟨A, c, rfl, hs⟩ := SlA.of_own (k := 1) (g := gI) (l := h.ofI t) hown (fun _ _ => rfl) rfl (by omega)
      go_ret
      exact ⟨A, c, rfl, later_ex (hb1.trans (hb.mono hb1.size)), hs⟩
end Go.Proofs.Ytcngnfnljkkjgaa
