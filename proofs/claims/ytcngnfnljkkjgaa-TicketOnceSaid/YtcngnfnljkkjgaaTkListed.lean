/-
A list as the errors of the clocks.
-/
import Derived.Test.YtcngnfnljkkjgaaTkRise
namespace Go.Proofs.Ytcngnfnljkkjgaa
open Go.RowKit
attribute [local go_sem] cell_later frozen_later lt_later le_later

/-- A block that is known whole. -/
def BlkAt (w : World) (g : Nat) (t : TypeId) (cs : List Value) : Prop := w.heap[g]? = some (.cells cs.toArray t (0, 0))
theorem BlkAt.lt {w : World} {g : Nat} {t : TypeId} {cs : List Value} (h : BlkAt w g t cs) : g < w.heap.size := by
  rcases Nat.lt_or_ge g w.heap.size with hlt | hge
  · exact hlt
  · unfold BlkAt at h; rw [Array.getElem?_eq_none hge] at h; cases h
theorem BlkAt.cell {w : World} {g : Nat} {t : TypeId} {cs : List Value} (h : BlkAt w g t cs) (i : Nat) : w.cell? ⟨g, i, none⟩ = cs[i]? := by
  unfold BlkAt at h
  simp [World.cell?, h]
theorem BlkAt.frozen {w : World} {g : Nat} {t : TypeId} {cs : List Value} (h : BlkAt w g t cs) (i : Nat) : w.frozen? ⟨g, i, none⟩ = false := by
  unfold BlkAt at h
  simp [World.frozen?, h]
theorem BlkAt.new (w : World) (t : TypeId) (cs : List Value) : BlkAt (w.alloc (.cells cs.toArray t)) w.heap.size t cs := heap_alloc_new w _
theorem BlkAt.set_ {w : World} {g : Nat} {t : TypeId} {cs : List Value} (h : BlkAt w g t cs) (i : Nat) (u : Value) : BlkAt (w.setCell ⟨g, i, none⟩ u) g t (cs.set i u) := by
  unfold BlkAt at h ⊢
  simp [World.setCell, Array.getElem?_modify, h]
theorem BlkAt.of_below {B : Nat} {w w' : World} {g : Nat} {t : TypeId} {cs : List Value} (h : BlkAt w g t cs) (hb : Below B w w') (hg : g < B) : BlkAt w' g t cs := (hb.block g hg).trans h
theorem BlkAt.later {w x : World} {g : Nat} {t : TypeId} {cs : List Value} (h : BlkAt w g t cs) : BlkAt (later w x) g t cs := h.of_below (below_later w x) h.lt
theorem BlkAt.alloc {w : World} {g : Nat} {t : TypeId} {cs : List Value} (h : BlkAt w g t cs) (o : Obj) : BlkAt (w.alloc o) g t cs := (Below.heap_alloc w o g h.lt).trans h

def areErrB (h : Hs) (l : List Int) : Bool := decide (l.length = h.clocks.length) && (List.range l.length).all fun i => match h.clocks[i]? with
  | some r => inB (l.getD i 0) r.lo r.hi
  | none => false

theorem e4_set {l : List Int} {k : Nat} {n : Int} (hk : k < 4) (hx : l[k]? = some n) : (e4 (l.take k)).set k (.int .i64 n) = e4 (l.take (k + 1)) := by
  have : k = 0 ∨ k = 1 ∨ k = 2 ∨ k = 3 := by omega
  have hg : ∀ i, (l.take (k + 1)).getD i 0 = if i = k then n else (l.take k).getD i 0 := by
    intro i
    simp only [List.getD_eq_getElem?_getD, List.getElem?_take]
    by_cases h : i = k
    · subst h; simp [hx]
    · simp only [h, if_false]
      by_cases h2 : i < k
      · rw [if_pos (by omega), if_pos h2]
      · rw [if_neg (by omega), if_neg h2]
  unfold e4
  simp only [hg]
  rcases this with rfl | rfl | rfl | rfl <;> simp

/-- What 'listed' leaves. -/
def RetListed (h : Hs) (l : List Int) (w : World) (e : Ending) (w' : World) : Prop :=
  ∃ a0 a1 a2 a3 : Int, (areErrB h l = true → e4 l = [.int .i64 a0, .int .i64 a1, .int .i64 a2, .int .i64 a3]) ∧
    e = .returned (.tuple #[.agg #[.int .i64 a0, .int .i64 a1, .int .i64 a2, .int .i64 a3], .bool (areErrB h l)]) ∧ ∃ x, w' = later w x

theorem RetListed.up {h : Hs} {l : List Int} {w x w' : World} {e : Ending} (H : RetListed h l (later w x) e w') : RetListed h l w e w' := by
  obtain ⟨a0, a1, a2, a3, h4, he, y, rfl⟩ := H
  exact ⟨a0, a1, a2, a3, h4, he, later_ex (later_below (below_later w x) (size_later w x))⟩

set_option maxHeartbeats 1000000 in
theorem listed_calls (v : Value) (h : Hs) (A : Option Addr) (c : Nat) (l : List Int) (w : World) (H : HsAt w v h) (HL : SlA w 1 gI A c l) (hn : h.clocks.length ≤ 4) :
    Calls Try.prog 107 #[v, .slice A l.length c] w (RetListed h l w) := by
  obtain ⟨A2, c2, A3, c3, A4, c4, rfl, H2, H3, H4⟩ := H
  have hl2 := HL.2.1
  by_cases hlen : l.length = h.clocks.length
  · have hne : ((l.length : Int) != (h.clocks.length : Int)) = false := by simp [hlen]
    have HN := Lib.hid hlen
    have hl4 : l.length ≤ 4 := by omega
    have hl5 : l.length ≤ h.clocks.length := by omega
    clear hlen
    go_enter Try.func107, Try.ntmps107
    go_wp2
    obtain ⟨g, hg⟩ : ∃ g, g = w.heap.size + 1 := ⟨_, rfl⟩
    obtain ⟨W1, hW1⟩ : ∃ W1, W1 = (w.alloc (.cells #[.int .i64 h.hour, .int .i64 h.grace, .slice A2 h.clocks.length c2, .slice A3 h.tickets.length c3, .slice A4 h.clips.length c4] 36)).alloc (.cells #[.int .i64 0, .int .i64 0, .int .i64 0, .int .i64 0] 119) := ⟨_, rfl⟩
    have hb1 : Below w.heap.size w W1 := by rw [hW1]; exact gA (gA (Below.refl _ _))
    have k2 : W1.cell? ⟨w.heap.size, 2, none⟩ = some (.slice A2 h.clocks.length c2) := by rw [hW1]; simp [go_sem]
    have hk : BlkAt W1 g 119 (e4 (l.take 0)) := by
      rw [hW1, hg]
      have := BlkAt.new (w.alloc (.cells #[.int .i64 h.hour, .int .i64 h.grace, .slice A2 h.clocks.length c2, .slice A3 h.tickets.length c3, .slice A4 h.clips.length c4] 36)) 119 (e4 (l.take 0))
      rw [World.size_alloc] at this
      exact this
    have hlt1 : w.heap.size < g := by omega
    rw [← hW1, ← hg]
    clear hW1
    have H2' := H2.below hb1
    have HL' := HL.below hb1
    have HG := Lib.hid hg
    clear hg
    go_loopw [17] (fun i wr => Below g W1 wr ∧ ∃ k : Nat, k ≤ l.length ∧ i = .int .i64 k ∧ BlkAt wr g 119 (e4 (l.take k)) ∧ ∀ j, j < k → ∀ r, h.clocks[j]? = some r → inB (l.getD j 0) r.lo r.hi = true) (fun i _ => l.length - (intOf i).toNat)
    case atStart => exact ⟨Below.refl _ _, 0, Nat.zero_le _, rfl, hk, fun j hj => by omega⟩
    case round =>
      obtain ⟨hb, k, hk, rfl, hB, hj⟩ := hrel
      have HJ := Lib.hid hj
      clear hj
      have kc := (hb.cell (p := ⟨w.heap.size, 2, none⟩) hlt1).trans k2
      by_cases hlt : k < l.length
      · have hbw : Below w.heap.size w wr := hb1.trans (hb.mono (Nat.le_of_lt hlt1))
        obtain ⟨b1, off1, n, rfl, hbl1, hx, g1⟩ := (HL.below hbw).atI hlt
        obtain ⟨b2, off2, r, rfl, hbl2, hr, g2, g3⟩ := (H2.below hbw).atR (i := k) (by omega)
        have HX := Lib.hid hx
        have HR := Lib.hid hr
        clear hx hr
        have hgl := hB.lt
        obtain ⟨u, hu⟩ : ∃ u, wr.cell? ⟨g, k, none⟩ = some u := ⟨_, (hB.cell k).trans (List.getElem?_eq_getElem (by simp [e4]; omega))⟩
        have hfz := hB.frozen k
        by_cases hin : inB n r.lo r.hi = true
        · go_wp2_with (first
            | (go_at_call 125; refine (has_calls _ _ _ _).mono ?_; (rintro e w' hr; first | ((with_reducible replace hr := Ret.up hr); obtain ⟨rfl, z, rfl⟩ := hr) | (obtain ⟨rfl, z, rfl⟩ := hr))))
          go_roundw
          case rel => exact ⟨(later_below hb (Nat.le_of_lt hgl)).setCell (Nat.le_refl _) _, k + 1, by omega, by go_num, by
            have := (hB.later (x := z)).set_ k (.int .i64 n)
            rw [e4_set (by omega) HX.out] at this
            exact this, fun j hj r' hr' => by
            rcases Nat.lt_or_ge j k with h' | h'
            · exact HJ.out j h' r' hr'
            · obtain rfl : j = k := by omega
              rw [HR.out] at hr'
              cases hr'
              rw [List.getD_eq_getElem?_getD, HX.out]
              exact hin⟩
          case measure => simp [intOf]; omega
        · have hin : inB n r.lo r.hi = false := by simpa using hin
          have kk := fun i => hB.cell i
          have kf := fun i => hB.frozen i
          have kk0 := kk 0
          have kk1 := kk 1
          have kk2 := kk 2
          have kk3 := kk 3
          have kf0 := kf 0
          have kf1 := kf 1
          have kf2 := kf 2
          have kf3 := kf 3
          clear kk kf
          obtain ⟨a0, a1, a2, a3, h4⟩ : ∃ a0 a1 a2 a3 : Int, e4 (l.take k) = [.int .i64 a0, .int .i64 a1, .int .i64 a2, .int .i64 a3] := ⟨_, _, _, _, rfl⟩
          rw [h4] at kk0 kk1 kk2 kk3
          simp only [List.getElem?_cons_zero, List.getElem?_cons_succ] at kk0 kk1 kk2 kk3
          clear h4
          go_wp2_with (first
            | (go_at_call 125; refine (has_calls _ _ _ _).mono ?_; (rintro e w' hr; first | ((with_reducible replace hr := Ret.up hr); obtain ⟨rfl, z, rfl⟩ := hr) | (obtain ⟨rfl, z, rfl⟩ := hr))))
          have HF := Lib.hid (show areErrB h l = false by
            rw [areErrB, Bool.and_eq_false_iff]
            refine .inr (List.all_eq_false.2 ⟨k, by simpa using hlt, ?_⟩)
            rw [HR.out]
            simp [List.getD_eq_getElem?_getD, HX.out, hin])
          refine bodyPost_ret (v := .tuple #[.agg #[.int .i64 a0, .int .i64 a1, .int .i64 a2, .int .i64 a3], .bool false]) ?hr rfl ⟨a0, a1, a2, a3, (fun h => by rw [HF.out] at h; cases h), by rw [HF.out], later_ex ?hbb⟩
          case hr => simp [results, Try.results107, go_sem, *]
          case hbb => exact (by repeat (first | exact Below.refl _ _ | (with_reducible assumption) | apply gL | apply gA | apply gD | apply gN | (refine gS ?_ (by first | (simp; done) | (simp; omega) | omega))))
      · obtain rfl : k = l.length := by omega
        have hbw : Below w.heap.size w wr := hb1.trans (hb.mono (Nat.le_of_lt hlt1))
        have hgl := hB.lt
        rw [List.take_length] at hB
        have kk0 := hB.cell 0
        have kk1 := hB.cell 1
        have kk2 := hB.cell 2
        have kk3 := hB.cell 3
        have kf0 := hB.frozen 0
        have kf1 := hB.frozen 1
        have kf2 := hB.frozen 2
        have kf3 := hB.frozen 3
        have HF := Lib.hid (show areErrB h l = true by
          rw [areErrB, Bool.and_eq_true]
          refine ⟨by simpa using HN.out, List.all_eq_true.2 fun j hj => ?_⟩
          have hj' : j < l.length := by simpa using hj
          rw [List.getElem?_eq_getElem (by omega)]
          exact HJ.out j hj' _ (List.getElem?_eq_getElem (by omega)))
        obtain ⟨a0, a1, a2, a3, h4⟩ : ∃ a0 a1 a2 a3 : Int, e4 l = [.int .i64 a0, .int .i64 a1, .int .i64 a2, .int .i64 a3] := ⟨_, _, _, _, rfl⟩
        rw [h4] at kk0 kk1 kk2 kk3
        simp only [List.getElem?_cons_zero, List.getElem?_cons_succ] at kk0 kk1 kk2 kk3
        have HE := Lib.hid h4
        clear h4
        go_wp2
        refine bodyPost_ret (v := .tuple #[.agg #[.int .i64 a0, .int .i64 a1, .int .i64 a2, .int .i64 a3], .bool true]) ?hr rfl ⟨a0, a1, a2, a3, (fun _ => HE.out), by rw [HF.out], later_ex ?hbb⟩
        case hr => simp [results, Try.results107, go_sem, *]
        case hbb => exact (by repeat (first | exact Below.refl _ _ | (with_reducible assumption) | apply gL | apply gA | apply gD | apply gN | (refine gS ?_ (by first | (simp; done) | (simp; omega) | omega))))
  · have HF := Lib.hid (show areErrB h l = false by simp [areErrB, hlen])
    have hne : ((l.length : Int) != (h.clocks.length : Int)) = true := by simp; omega
    have HN := Lib.hid hlen
    clear hlen
    go_enter Try.func107, Try.ntmps107
    go_wp2
    refine bodyPost_ret (v := .tuple #[.agg #[.int .i64 0, .int .i64 0, .int .i64 0, .int .i64 0], .bool false]) ?hr rfl ⟨0, 0, 0, 0, (fun h => by rw [HF.out] at h; cases h), by rw [HF.out], later_ex (by repeat (first | exact Below.refl _ _ | (with_reducible assumption) | apply gL | apply gA | apply gD | apply gN | (refine gS ?_ (by first | (simp; done) | (simp; omega) | omega))))⟩
    case hr => simp [results, Try.results107, go_sem]
end Go.Proofs.Ytcngnfnljkkjgaa
