/-
Equal answers, and what is written into them.
Two houses that read alike are equal.
-/
import Derived.Test.YtcngnfnljkkjgaaCmFr
import Derived.Test.YtcngnfnljkkjgaaCmQFirst
import Derived.Deep.Cut
namespace Go.Proofs.Ytcngnfnljkkjgaa
open Go.RowKit
attribute [local go_sem] cell_later frozen_later lt_later le_later

set_option maxHeartbeats 1000000 in
theorem ranges_calls (A B : Option Addr) (c d : Nat) (a : List Rg) (w : World) (HA : SlA w 2 gR A c a) (HB : SlA w 2 gR B d a) :
    Calls Try.prog 66 #[.slice A a.length c, .slice B a.length d] w (Ret (.bool true) w) := by
  have ha := HA.2.1
  go_enter Try.func66, Try.ntmps66
  go_wp2
  go_loopw [5] (fun i wr => ∃ k : Nat, k ≤ a.length ∧ i = .int .i64 k ∧ ∃ x, wr = later w x) (fun i _ => a.length - (intOf i).toNat)
  case atStart => exact ⟨0, Nat.zero_le _, rfl, later_ex (Below.refl _ _)⟩
  case round =>
    obtain ⟨k, hk, rfl, x, rfl⟩ := hrel
    by_cases hlt : k < a.length
    · have hlt1 : (k : Int) < (a.length : Int) := by omega
      have hk0 : (0 : Int) ≤ (k : Int) := Int.natCast_nonneg _
      obtain ⟨p, off, y, rfl, hpl, hy, s0, s1⟩ := HA.atR hlt
      obtain ⟨q, ofq, z, rfl, hql, hz, t0, t1⟩ := HB.atR hlt
      rw [hy] at hz
      cases hz
      clear hy
      go_wp2
      refine region_later (by kernel_rfl) (by kernel_rfl) ?_
      repeat (go_big_quiet_step (fail))
      refine wpQuiet_nil ?_
      rintro W' ⟨u, rfl⟩
      go_wp2
      go_roundw
      case rel => exact ⟨k + 1, by omega, by go_num, later_ex (by repeat (first | exact Below.refl _ _ | (with_reducible assumption) | apply gL | apply gA | apply gD | apply gN | (refine gS ?_ (by first | (simp; done) | (simp; omega) | omega))))⟩
      case measure => simp [intOf]; omega
    · obtain rfl : k = a.length := by omega
      go_wp2
      go_ret
      exact ret_mk rfl (by repeat (first | exact Below.refl _ _ | (with_reducible assumption) | apply gL | apply gA | apply gD | apply gN | (refine gS ?_ (by first | (simp; done) | (simp; omega) | omega))))

theorem Fr.set1 {W : World} {B : Nat} {A : Option Addr} {b : Nat} {l : List Int} (hA : A = some ⟨b, 0, none⟩) (hB : B ≤ b) (h : OwnS W gI 3 b l) {k : Nat} (hk : k < l.length) (u : Int) : Fr (W.setCell ⟨b, k, none⟩ (.int .i64 u)) gI 3 B A (l.set k u) := fun _ => by
  have := h.set (k := 1) (fun _ _ => rfl) (List.getElem?_eq_getElem hk) (j := 0) (u := .int .i64 u) (y := u) (by decide) rfl
  rw [Nat.mul_one, Nat.add_zero] at this
  exact ⟨b, hA, hB, this⟩
theorem Fr.set2 {W : World} {B : Nat} {A : Option Addr} {b : Nat} {l : List Rg} (hA : A = some ⟨b, 0, none⟩) (hB : B ≤ b) (h : OwnS W gR 42 b l) {k : Nat} (hk : k < l.length) (u v : Int) : Fr ((W.setCell ⟨b, k * 2, none⟩ (.int .i64 u)).setCell ⟨b, k * 2 + 1, none⟩ (.int .i64 v)) gR 42 B A (l.set k ⟨u, v⟩) := fun _ => by
  have g1 := h.set (k := 2) (fun _ _ => rfl) (List.getElem?_eq_getElem hk) (j := 0) (u := .int .i64 u) (y := ⟨u, l[k].hi⟩) (by decide) rfl
  rw [Nat.add_zero] at g1
  have g2 := g1.set (k := 2) (fun _ _ => rfl) (i := k) (x := ⟨u, l[k].hi⟩) (by rw [List.getElem?_set_self hk]) (j := 1) (u := .int .i64 v) (y := ⟨u, v⟩) (by decide) rfl
  rw [List.set_set] at g2
  exact ⟨b, hA, hB, g2⟩
theorem blk_ne {w : World} {a b : Nat} {s t : TypeId} {xs ys : List Value} (h : BlkAt w a s xs) (k : BlkAt w b t ys) (hst : s ≠ t) : a ≠ b := by
  rintro rfl
  unfold BlkAt at h k
  rw [h] at k
  injection k with k
  injection k with _ k
  exact hst k
theorem ows_ows {α β : Type} {w : World} {g : α → List Value} {g' : β → List Value} {a b : Nat} {s t : TypeId} {l : List α} {l' : List β} (h : OwnS w g s a l) (k : OwnS w g' t b l') (hst : s ≠ t) : a ≠ b := by
  obtain ⟨r, h⟩ := h
  obtain ⟨r', k⟩ := k
  exact blk_ne h k hst

/-- What is changed lies in two rows. -/
def KeptBut {α β : Type} (A D : Option Addr) (l : List α) (m : List β) (w w' : World) : Prop := ∀ n, n < w.heap.size → (l ≠ [] → ∀ a, A = some a → a.block ≠ n) → (m ≠ [] → ∀ a, D = some a → a.block ≠ n) → w'.heap[n]? = w.heap[n]?
theorem KeptBut.setA {α β : Type} {A D : Option Addr} {l : List α} {m : List β} {w w' : World} {b i : Nat} {u : Value} (h : KeptBut A D l m w w') (hA : A = some ⟨b, 0, none⟩) (hl : l ≠ []) : KeptBut A D l m w (w'.setCell ⟨b, i, none⟩ u) := by
  intro n hn h1 h2
  have hne : n ≠ (⟨b, i, none⟩ : Addr).block := fun e => h1 hl _ hA e.symm
  exact (Below.heap_setCell _ _ _ _ hne).trans (h n hn h1 h2)
theorem KeptBut.setD {α β : Type} {A D : Option Addr} {l : List α} {m : List β} {w w' : World} {b i : Nat} {u : Value} (h : KeptBut A D l m w w') (hD : D = some ⟨b, 0, none⟩) (hm : m ≠ []) : KeptBut A D l m w (w'.setCell ⟨b, i, none⟩ u) := by
  intro n hn h1 h2
  have hne : n ≠ (⟨b, i, none⟩ : Addr).block := fun e => h2 hm _ hD e.symm
  exact (Below.heap_setCell _ _ _ _ hne).trans (h n hn h1 h2)
theorem ne_of_lt {α : Type} {l : List α} {k : Nat} (h : k < l.length) : l ≠ [] := by
  rintro rfl
  simp at h
/-- A row below a height. -/
def Lt {α : Type} (A : Option Addr) (l : List α) (T : Nat) : Prop := l ≠ [] → ∀ a, A = some a → a.block < T
theorem Fr.lt {α : Type} {W : World} {g : α → List Value} {e : TypeId} {B : Nat} {A : Option Addr} {l : List α} (h : Fr W g e B A l) : Lt A l W.heap.size := fun hn a ha => by
  obtain ⟨b, e1, -, e3⟩ := h hn
  rw [e1] at ha
  cases ha
  exact e3.lt
theorem Lt.le {α : Type} {A : Option Addr} {l : List α} {T T' : Nat} (h : Lt A l T) (hT : T ≤ T') : Lt A l T' := fun hn a ha => Nat.lt_of_lt_of_le (h hn a ha) hT
theorem Fr.over {α β γ : Type} {A D X : Option Addr} {l : List α} {m : List β} {x : List γ} {w w' : World} {g : γ → List Value} {e : TypeId} {B : Nat} (h : Fr w g e B X x) (hK : KeptBut A D l m w w') (hA : Lt A l B) (hD : Lt D m B) : Fr w' g e B X x := fun hn => by
  obtain ⟨b, e1, e2, e3⟩ := h hn
  have hlt := e3.lt
  obtain ⟨rest, e3⟩ := e3
  exact ⟨b, e1, e2, rest, (hK b hlt (fun hn a ha => by have := hA hn a ha; omega) (fun hn a ha => by have := hD hn a ha; omega)).trans e3⟩

set_option maxHeartbeats 1000000 in
theorem over_calls (A D : Option Addr) (c d : Nat) (l : List Rg) (m : List Int) (B : Nat) (w : World) (ha : l.length ≤ 140737488355328) (FA : Fr w gR 42 B A l) (hd : m.length ≤ 140737488355328) (FD : Fr w gI 3 B D m) :
    Calls Try.prog 67 #[.slice A l.length c, .slice D m.length d] w (fun e w' => e = .returned (.tuple #[]) ∧ Below B w w' ∧ KeptBut A D l m w w') := by
  go_enter Try.func67, Try.ntmps67
  go_wp2
  go_loopw [4] (fun i wr => ∃ (k : Nat) (l' : List Rg), k ≤ l.length ∧ i = .int .i64 k ∧ l'.length = l.length ∧ Fr wr gR 42 B A l' ∧ Fr wr gI 3 B D m ∧ Below B w wr ∧ Hid (KeptBut A D l m w wr)) (fun i _ => l.length - (intOf i).toNat)
  case atStart => exact ⟨0, l, Nat.zero_le _, rfl, rfl, FA, FD, Below.refl _ _, Lib.hid fun _ _ _ _ => rfl⟩
  case round =>
    obtain ⟨k, l', hk, rfl, hl', FA', FD', hb, HKB⟩ := hrel
    by_cases hlt : k < l.length
    · have hlt1 : (k : Int) < (l.length : Int) := by omega
      have hk0 : (0 : Int) ≤ (k : Int) := Int.natCast_nonneg _
      obtain ⟨b, rfl, hbB, hO⟩ := FA' (by rintro rfl; simp at hl'; omega)
      obtain ⟨p, off, y, hA, hpl, -, s0, s1⟩ := (hO.sl (c := l'.length) (k := 2) (fun _ _ => rfl) (Nat.le_refl _) (by omega)).atR (i := k) (by omega)
      cases hA
      rw [Nat.zero_add] at s0 s1
      have z0 := hO.frozen (k * 2)
      have z1 := hO.frozen (k * 2 + 1)
      have hgl := hO.lt
      have HO := Lib.hid hO
      have HL' := Lib.hid hl'
      clear hO hl'
      go_wp2
      go_roundw
      case rel =>
        refine ⟨k + 1, l'.set k ⟨-7, -8⟩, by omega, by go_num, by rw [List.length_set]; exact HL'.out, Fr.set2 rfl hbB HO.out (by rw [HL'.out]; exact hlt) _ _, fun hn => ?_, (hb.setCell hbB _).setCell hbB _, Lib.hid ((HKB.out.setA rfl (ne_of_lt hlt)).setA rfl (ne_of_lt hlt))⟩
        obtain ⟨b2, e1, e2, e3⟩ := FD' hn
        have hne := ows_ows e3 HO.out (by decide)
        exact ⟨b2, e1, e2, (e3.far _ hne).far _ hne⟩
      case measure => simp [intOf]; omega
    · obtain rfl : k = l.length := by omega
      clear FA' hl'
      go_wp2
      go_loopw [5] (fun i wr => ∃ (k : Nat) (m' : List Int), k ≤ m.length ∧ i = .int .i64 k ∧ m'.length = m.length ∧ Fr wr gI 3 B D m' ∧ Below B w wr ∧ Hid (KeptBut A D l m w wr)) (fun i _ => m.length - (intOf i).toNat)
      case atStart => exact ⟨0, m, Nat.zero_le _, rfl, rfl, FD', hb, HKB⟩
      case round =>
        obtain ⟨k, m', hk, rfl, hm', FD', hb, HKB⟩ := hrel
        by_cases hlt : k < m.length
        · have hlt1 : (k : Int) < (m.length : Int) := by omega
          have hk0 : (0 : Int) ≤ (k : Int) := Int.natCast_nonneg _
          obtain ⟨b, rfl, hbB, hO⟩ := FD' (by rintro rfl; simp at hm'; omega)
          obtain ⟨p, off, y, hA, hpl, -, s0⟩ := (hO.sl (c := m'.length) (k := 1) (fun _ _ => rfl) (Nat.le_refl _) (by omega)).atI (i := k) (by omega)
          cases hA
          rw [Nat.zero_add] at s0
          have z0 := hO.frozen k
          have hgl := hO.lt
          have HO := Lib.hid hO
          have HM' := Lib.hid hm'
          clear hO hm'
          go_wp2
          go_roundw
          case rel => exact ⟨k + 1, m'.set k (-9), by omega, by go_num, by rw [List.length_set]; exact HM'.out, Fr.set1 rfl hbB HO.out (by rw [HM'.out]; exact hlt) _, hb.setCell hbB _, Lib.hid (HKB.out.setD rfl (ne_of_lt hlt))⟩
          case measure => simp [intOf]; omega
        · obtain rfl : k = m.length := by omega
          go_wp2
          refine bodyPost_end (v := .tuple #[]) ?hr rfl ⟨rfl, hb, HKB.out⟩
          case hr => simp [results, Try.results67, go_sem]
end Go.Proofs.Ytcngnfnljkkjgaa
namespace Go.Proofs.Ytcngnfnljkkjgaa
open Go.RowKit
attribute [local go_sem] cell_later frozen_later lt_later le_later

set_option maxHeartbeats 4000000 in
theorem equal_calls (v u : Value) (h : Hs) (w : World) (H : HsAt w v h) (K : HsAt w u h) :
    Calls Try.prog 68 #[v, u] w (Ret (.bool true) w) := by
  obtain ⟨A2, c2, A3, c3, A4, c4, rfl, H2, H3, H4⟩ := H
  obtain ⟨B2, d2, B3, d3, B4, d4, rfl, K2, K3, K4⟩ := K
  obtain ⟨W1, hW1⟩ : ∃ W1, W1 = (w.alloc (.cells #[.int .i64 h.hour, .int .i64 h.grace, .slice A2 h.clocks.length c2, .slice A3 h.tickets.length c3, .slice A4 h.clips.length c4] 36)).alloc (.cells #[.int .i64 h.hour, .int .i64 h.grace, .slice B2 h.clocks.length d2, .slice B3 h.tickets.length d3, .slice B4 h.clips.length d4] 36) := ⟨_, rfl⟩
  have hb1 : Below w.heap.size w W1 := by rw [hW1]; exact gA (gA (Below.refl _ _))
  have hP : BlkAt W1 w.heap.size 36 [.int .i64 h.hour, .int .i64 h.grace, .slice A2 h.clocks.length c2, .slice A3 h.tickets.length c3, .slice A4 h.clips.length c4] := by rw [hW1]; exact (BlkAt.new _ _ _).alloc _
  obtain ⟨bq, hbq⟩ : ∃ b, b = w.heap.size + 1 := ⟨_, rfl⟩
  have hQ : BlkAt W1 bq 36 [.int .i64 h.hour, .int .i64 h.grace, .slice B2 h.clocks.length d2, .slice B3 h.tickets.length d3, .slice B4 h.clips.length d4] := by rw [hW1, hbq]; exact blk_new1 _ _ _ _
  have q0 := hP.cell 0
  have q1 := hP.cell 1
  have q2 := hP.cell 2
  have q3 := hP.cell 3
  have q4 := hP.cell 4
  have x0 := hQ.cell 0
  have x1 := hQ.cell 1
  have x2 := hQ.cell 2
  have x3 := hQ.cell 3
  have x4 := hQ.cell 4
  have hql := hP.lt
  have hxl := hQ.lt
  simp only [List.getElem?_cons_zero, List.getElem?_cons_succ] at q0 q1 q2 q3 q4 x0 x1 x2 x3 x4
  have G2 := Lib.hid (H2.below hb1)
  have G3 := Lib.hid (H3.below hb1)
  have G4 := Lib.hid (H4.below hb1)
  have J2 := Lib.hid (K2.below hb1)
  have J3 := Lib.hid (K3.below hb1)
  have J4 := Lib.hid (K4.below hb1)
  have ht := H3.2.1
  have hc := H4.2.1
  clear H2 H3 H4 K2 K3 K4 hP hQ
  have CR := Lib.hid (ranges_calls A2 B2 c2 d2 h.clocks W1 G2.out J2.out)
  go_enter Try.func68, Try.ntmps68
  go_upto_region 1 with (fail)
  rw [← hW1, ← hbq]
  clear hW1 hbq
  go_wp2_with (fail)
  refine CR.out.mono ?_
  clear CR
  (rintro e w' hr; first | ((with_reducible replace hr := Ret.up hr); obtain ⟨rfl, z, rfl⟩ := hr) | (obtain ⟨rfl, z, rfl⟩ := hr))
  go_wp2
  go_loopw [5] (fun i wr => ∃ k : Nat, k ≤ h.tickets.length ∧ i = .int .i64 k ∧ ∃ x, wr = later W1 x) (fun i _ => h.tickets.length - (intOf i).toNat)
  case atStart => exact ⟨0, Nat.zero_le _, rfl, _, rfl⟩
  case round =>
    obtain ⟨k, hk, rfl, x, rfl⟩ := hrel
    by_cases hlt : k < h.tickets.length
    · have hlt1 : (k : Int) < (h.tickets.length : Int) := by omega
      have hk0 : (0 : Int) ≤ (k : Int) := Int.natCast_nonneg _
      obtain ⟨p, off, y, rfl, hpl, hy, s0, s1⟩ := G3.out.atT hlt
      obtain ⟨q, ofq, z, rfl, hql, hz, t0, t1⟩ := J3.out.atT hlt
      rw [hy] at hz
      cases hz
      clear hy
      go_wp2
      refine region_later (by kernel_rfl) (by kernel_rfl) ?_
      repeat (go_big_quiet_step (fail))
      refine wpQuiet_nil ?_
      rintro W' ⟨u, rfl⟩
      go_wp2
      go_roundw
      case rel => exact ⟨k + 1, by omega, by go_num, later_ex (by repeat (first | exact Below.refl _ _ | (with_reducible assumption) | apply gL | apply gA | apply gD | apply gN | (refine gS ?_ (by first | (simp; done) | (simp; omega) | omega))))⟩
      case measure => simp [intOf]; omega
    · obtain rfl : k = h.tickets.length := by omega
      go_wp2
      go_loopw [6] (fun i wr => ∃ k : Nat, k ≤ h.clips.length ∧ i = .int .i64 k ∧ ∃ x, wr = later W1 x) (fun i _ => h.clips.length - (intOf i).toNat)
      case atStart => exact ⟨0, Nat.zero_le _, rfl, _, rfl⟩
      case round =>
        obtain ⟨k, hk, rfl, x, rfl⟩ := hrel
        by_cases hlt : k < h.clips.length
        · have hlt1 : (k : Int) < (h.clips.length : Int) := by omega
          have hk0 : (0 : Int) ≤ (k : Int) := Int.natCast_nonneg _
          obtain ⟨p, off, y, rfl, hpl, hy, s0, s1, s2⟩ := G4.out.atC hlt
          obtain ⟨q, ofq, z, rfl, hql, hz, t0, t1, t2⟩ := J4.out.atC hlt
          rw [hy] at hz
          cases hz
          clear hy
          go_wp2
          refine region_later (by kernel_rfl) (by kernel_rfl) ?_
          repeat (go_big_quiet_step (fail))
          refine wpQuiet_nil ?_
          rintro W' ⟨u, rfl⟩
          go_wp2
          go_roundw
          case rel => exact ⟨k + 1, by omega, by go_num, later_ex (by repeat (first | exact Below.refl _ _ | (with_reducible assumption) | apply gL | apply gA | apply gD | apply gN | (refine gS ?_ (by first | (simp; done) | (simp; omega) | omega))))⟩
          case measure => simp [intOf]; omega
        · obtain rfl : k = h.clips.length := by omega
          go_wp2
          go_ret
          exact ret_mk rfl (later_below hb1 hb1.size)
end Go.Proofs.Ytcngnfnljkkjgaa
