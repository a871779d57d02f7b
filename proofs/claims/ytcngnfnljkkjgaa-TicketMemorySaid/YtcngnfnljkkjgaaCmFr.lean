/-
What a call leaves that hands back a list in fresh memory of its own.
The bounds of the clocks and of the hours, in fresh memory.
Who stayed too long, in fresh memory.
The true minutes, in fresh memory.
The smallest set of clips that can be left out, in fresh memory.
-/
import Derived.Test.YtcngnfnljkkjgaaCmC2
import Derived.Test.YtcngnfnljkkjgaaCmI
import Derived.Test.YtcngnfnljkkjgaaCmC
import Derived.Test.YtcngnfnljkkjgaaCmK
import Derived.WalkMore
namespace Go.Proofs.Ytcngnfnljkkjgaa
open Go.RowKit
attribute [local go_sem] cell_later frozen_later lt_later le_later

/-- A list in memory of its own, made behind a height. -/
def Fr {α : Type} (W : World) (g : α → List Value) (e : TypeId) (B : Nat) (A : Option Addr) (l : List α) : Prop := l ≠ [] → ∃ b, A = some ⟨b, 0, none⟩ ∧ B ≤ b ∧ OwnS W g e b l
theorem Fr.le {α : Type} {W : World} {g : α → List Value} {e : TypeId} {B B' : Nat} {A : Option Addr} {l : List α} (h : Fr W g e B A l) (hB : B' ≤ B) : Fr W g e B' A l := fun hn => by
  obtain ⟨b, h1, h2, h3⟩ := h hn
  exact ⟨b, h1, Nat.le_trans hB h2, h3⟩
theorem Fr.below {α : Type} {W W' : World} {g : α → List Value} {e : TypeId} {B : Nat} {A : Option Addr} {l : List α} (h : Fr W g e B A l) (hb : Below W.heap.size W W') : Fr W' g e B A l := fun hn => by
  obtain ⟨b, h1, h2, h3⟩ := h hn
  exact ⟨b, h1, h2, h3.below hb⟩
theorem Fr.of_own {α : Type} {w : World} {base : Nat} {e : TypeId} {k : Nat} {g : α → List Value} {v : Value} {n : Nat} {l : List α} (h : w.ownsRow base e k v n (l.flatMap g)) (hg : ∀ x ∈ l, (g x).length = k) (hn : l.length = n) (hb : n ≤ 140737488355328) :
    ∃ A c, v = .slice A l.length c ∧ SlA w k g A c l ∧ Fr w g e base A l := by
  obtain ⟨A, c, hv, hs⟩ := SlA.of_own h hg hn hb
  refine ⟨A, c, hv, hs, fun hne => ?_⟩
  rcases h.2 with ⟨-, h0⟩ | ⟨b, cap, cur, e', hbb, hh, -, -, -, htake⟩
  · exfalso
    exact hne (List.eq_nil_of_length_eq_zero (by omega))
  · rw [hv] at e'
    simp only [Value.slice.injEq] at e'
    refine ⟨b, e'.1, hbb, cur.toList.drop (n * k), ?_⟩
    unfold BlkAt
    rw [hh, ← htake, List.take_append_drop]
def RetFr {α : Type} (k : Nat) (g : α → List Value) (e : TypeId) (l : List α) (n : Int) (w : World) (E : Ending) (w' : World) : Prop :=
  ∃ A c, E = .returned (.tuple #[.slice A l.length c, .int .i64 n]) ∧ (∃ x, w' = later w x) ∧ SlA w' k g A c l ∧ Fr w' g e w.heap.size A l
theorem RetFr.up {α : Type} {k : Nat} {g : α → List Value} {t : TypeId} {l : List α} {n : Int} {w x w' : World} {e : Ending} (h : RetFr k g t l n (later w x) e w') : RetFr k g t l n w e w' := by
  obtain ⟨A, c, he, ⟨y, rfl⟩, hs, hf⟩ := h
  exact ⟨A, c, he, later_ex (later_below (below_later w x) (size_later w x)), hs, hf.le (size_later w x)⟩
theorem retFr_nil {α : Type} {k : Nat} {g : α → List Value} {t : TypeId} {l : List α} {n : Int} {w w' : World} {e : Ending} (hl : l = []) (he : e = .returned (.tuple #[.slice none 0 0, .int .i64 n])) (hb : Below w.heap.size w w') : RetFr k g t l n w e w' := by
  subst hl
  exact ⟨none, 0, he, later_ex hb, SlA.nil _ _ _ _, fun h => absurd rfl h⟩
end Go.Proofs.Ytcngnfnljkkjgaa
namespace Go.Proofs.Ytcngnfnljkkjgaa
open Go.RowKit
attribute [local go_sem] cell_later frozen_later lt_later le_later

set_option maxHeartbeats 2000000 in
theorem fr_clocks (v : Value) (h : Hs) (w : World) (H : HsAt w v h) :
    Calls Try.prog 24 #[v] w (RetFr 2 gR 42 h.clocksL (h.askE 0) w) := by
  have H0 := H
  obtain ⟨A2, c2, A3, c3, A4, c4, rfl, H2, H3, H4⟩ := H
  by_cases ha : h.askE 0 = 0
  · obtain ⟨hf, -, hne⟩ := askE_zero ha
    have hlen : h.clocks.length ≤ 6 := by have := (small_iff.1 (fault_zero hf).1).1; omega
    have HL := Lib.hid (show h.clocksL = (List.range h.clocks.length).map h.clockR by rw [Hs.clocksL, if_pos ha])
    have HA := Lib.hid ha
    have HF := Lib.hid hf
    have HNE := Lib.hid hne
    obtain ⟨i0, hi, hz0, hz1, hz2⟩ := info_parts infoRange
    have hc4 : h.clocks.length ≤ 4 := (small_iff.1 (fault_zero hf).1).1
    clear ha hf hne
    go_enter Try.func24, Try.ntmps24
    go_wp2_with (first | (go_at_call 79; refine (asked_ok _ h 0 _ ?hh HA.out).mono ?_; (case hh => exact H0.below (by repeat (first | exact Below.refl _ _ | (with_reducible assumption) | apply gL | apply gA | apply gD | apply gN | (refine gS ?_ (by first | (simp; done) | (simp; omega) | omega))))); (rintro e w' hr; (first | (with_reducible replace hr := RetWk.up hr) | skip); obtain ⟨g, rfl, ⟨z, rfl⟩, hwk⟩ := hr)))
    obtain ⟨W1, hW1⟩ : ∃ W1, W1 = later (w.alloc (.cells #[.int .i64 h.hour, .int .i64 h.grace, .slice A2 h.clocks.length c2, .slice A3 h.tickets.length c3, .slice A4 h.clips.length c4] 36)) z := ⟨_, rfl⟩
    have hb1 : Below w.heap.size w W1 := by rw [hW1]; exact (by repeat (first | exact Below.refl _ _ | (with_reducible assumption) | apply gL | apply gA | apply gD | apply gN | (refine gS ?_ (by first | (simp; done) | (simp; omega) | omega))))
    rw [← hW1] at hwk ⊢
    clear hW1
    go_loopw [6, 19] (fun v i wr => ∃ k : Nat, k ≤ h.clocks.length ∧ i = .int .i64 k ∧ Below W1.heap.size W1 wr ∧ wr.ownsRow W1.heap.size 42 2 v k (((List.range k).map h.clockR).flatMap gR)) (fun _ i _ => h.clocks.length - (intOf i).toNat)
    case atStart => exact ⟨0, Nat.zero_le _, rfl, Below.refl _ _, World.ownsRow_nil _ _ _ _⟩
    case round =>
      obtain ⟨k, hk, rfl, hb, hown⟩ := hrel
      have hbw : Below w.heap.size w wr := hb1.trans (hb.mono hb1.size)
      by_cases hlt : k < h.clocks.length
      · have hlt1 : (k : Int) < (h.clocks.length : Int) := by omega
        have hk0 : (0 : Int) ≤ (k : Int) := Int.natCast_nonneg _
        have hwk' := hwk.below hb
        have hcall := bounds_off g h k (fun e => err e k) wr hwk' HF HNE (Lib.hid (fun x e' _ _ _ _ hm he hbx => workoff_calls _ e' (Lib.hid he) k x (by omega) (by omega)))
        obtain ⟨R, hR⟩ : ∃ R, R = h.clockR k := ⟨_, rfl⟩
        have hRl : R.lo = loB h.truths (fun e => err e k) := by rw [hR]; rfl
        have hRh : R.hi = hiB h.truths (fun e => err e k) := by rw [hR]; rfl
        rw [← hRl, ← hRh] at hcall
        have HS := Lib.hid (show (List.range (k + 1)).map h.clockR = (List.range k).map h.clockR ++ [R] by rw [range_snoc, hR])
        have HCA := Lib.hid hcall
        clear hcall hR hRl hRh
        go_wp2_with (first
          | (go_at_call 81; refine HCA.out.mono ?_; (rintro e w' hr; first | ((with_reducible replace hr := Ret.up hr); obtain ⟨rfl, z, rfl⟩ := hr) | (obtain ⟨rfl, z, rfl⟩ := hr)))
          | (at_builtin; refine wpList_append_own _ rfl _ _ 29 rfl W1.heap.size 42 i0 (.agg #[.int .i64 0, .int .i64 0]) 2 16 Try.underlying29 hi hz0 hz1 hz2 rfl (by decide) _ _ _ rfl ((own_later hown).alloc _) ⟨(later wr z).heap.size, 0, none⟩ 1 1 (gR R) rfl rfl ?c1 ?c2 ?c3 ?c4 ?c5 ?_))
        case c1 => exact news_new _ _ rfl (gR R) _
        case c2 => simp [gR, Value.oneCell']
        case c3 => unfold maxLen; omega
        case c4 => omega
        case c5 => have := hb.size; have := size_later wr z; simp; omega
        intro v' w1 hown1 hg1 _
        have hb2 := grown_below (w := W1) (by exact gA (later_below hb hb.size)) ((own_later (x := z) hown).alloc (.cells #[.int .i64 R.lo, .int .i64 R.hi] 42)) (Nat.le_refl _) hg1
        go_wp2
        go_roundw
        case rel => exact ⟨k + 1, by omega, by go_num, hb2, by rw [HS.out]; simpa using hown1⟩
        case measure => simp [intOf]; omega
      · obtain rfl : k = h.clocks.length := by omega
        go_wp2
        obtain ⟨A, c, rfl, hs, hfr⟩ := Fr.of_own (k := 2) (g := gR) (l := (List.range h.clocks.length).map h.clockR) hown (fun _ _ => rfl) (by simp) (by omega)
        go_ret2
        exact ⟨A, c, by rw [HL.out, HA.out]; rfl, later_ex hbw, by rw [HL.out]; exact hs, by rw [HL.out]; exact hfr.le hb1.size⟩
  · have HE := Lib.hid ha
    have hb : (h.askE 0 != 0) = true := by simpa using ha
    have HL := Lib.hid (show h.clocksL = [] by rw [Hs.clocksL, if_neg ha])
    go_enter Try.func24, Try.ntmps24
    go_wp2_with (first | (go_at_call 79; refine (asked_bad _ h 0 _ ?hh HE.out).mono ?_; (case hh => exact H0.below (by repeat (first | exact Below.refl _ _ | (with_reducible assumption) | apply gL | apply gA | apply gD | apply gN | (refine gS ?_ (by first | (simp; done) | (simp; omega) | omega))))); (rintro e w' hr; first | ((with_reducible replace hr := Ret.up hr); obtain ⟨rfl, z, rfl⟩ := hr) | (obtain ⟨rfl, z, rfl⟩ := hr))))
    go_ret2
    exact retFr_nil HL.out rfl (by repeat (first | exact Below.refl _ _ | (with_reducible assumption) | apply gL | apply gA | apply gD | apply gN | (refine gS ?_ (by first | (simp; done) | (simp; omega) | omega))))
set_option maxHeartbeats 2000000 in
theorem fr_hours (v : Value) (h : Hs) (w : World) (H : HsAt w v h) :
    Calls Try.prog 26 #[v] w (RetFr 2 gR 42 h.hoursL (h.askE 0) w) := by
  have H0 := H
  obtain ⟨A2, c2, A3, c3, A4, c4, rfl, H2, H3, H4⟩ := H
  by_cases ha : h.askE 0 = 0
  · obtain ⟨hf, -, hne⟩ := askE_zero ha
    have hlen : h.tickets.length ≤ 6 := (small_iff.1 (fault_zero hf).1).2.1
    have HL := Lib.hid (show h.hoursL = (List.range h.tickets.length).map h.hourR by rw [Hs.hoursL, if_pos ha])
    have HA := Lib.hid ha
    have HF := Lib.hid hf
    have HNE := Lib.hid hne
    obtain ⟨i0, hi, hz0, hz1, hz2⟩ := info_parts infoRange
    have hc4 : h.clocks.length ≤ 4 := (small_iff.1 (fault_zero hf).1).1
    clear ha hf hne
    go_enter Try.func26, Try.ntmps26
    go_wp2_with (first | (go_at_call 79; refine (asked_ok _ h 0 _ ?hh HA.out).mono ?_; (case hh => exact H0.below (by repeat (first | exact Below.refl _ _ | (with_reducible assumption) | apply gL | apply gA | apply gD | apply gN | (refine gS ?_ (by first | (simp; done) | (simp; omega) | omega))))); (rintro e w' hr; (first | (with_reducible replace hr := RetWk.up hr) | skip); obtain ⟨g, rfl, ⟨z, rfl⟩, hwk⟩ := hr)))
    obtain ⟨W1, hW1⟩ : ∃ W1, W1 = later (w.alloc (.cells #[.int .i64 h.hour, .int .i64 h.grace, .slice A2 h.clocks.length c2, .slice A3 h.tickets.length c3, .slice A4 h.clips.length c4] 36)) z := ⟨_, rfl⟩
    have hb1 : Below w.heap.size w W1 := by rw [hW1]; exact (by repeat (first | exact Below.refl _ _ | (with_reducible assumption) | apply gL | apply gA | apply gD | apply gN | (refine gS ?_ (by first | (simp; done) | (simp; omega) | omega))))
    rw [← hW1] at hwk ⊢
    clear hW1
    go_loopw [6, 19] (fun v i wr => ∃ k : Nat, k ≤ h.tickets.length ∧ i = .int .i64 k ∧ Below W1.heap.size W1 wr ∧ wr.ownsRow W1.heap.size 42 2 v k (((List.range k).map h.hourR).flatMap gR)) (fun _ i _ => h.tickets.length - (intOf i).toNat)
    case atStart => exact ⟨0, Nat.zero_le _, rfl, Below.refl _ _, World.ownsRow_nil _ _ _ _⟩
    case round =>
      obtain ⟨k, hk, rfl, hb, hown⟩ := hrel
      have hbw : Below w.heap.size w wr := hb1.trans (hb.mono hb1.size)
      by_cases hlt : k < h.tickets.length
      · have hlt1 : (k : Int) < (h.tickets.length : Int) := by omega
        have hk0 : (0 : Int) ≤ (k : Int) := Int.natCast_nonneg _
        have hwk' := hwk.below hb
        have hcall := bounds_hours g h k (fun e => h.hoursB e k) wr hwk' HF HNE (Lib.hid (fun x e' _ _ _ _ hm he hbx => hours_calls g h e' (Lib.hid he) (Lib.hid (truth_ok HF.out hm)) k x (hwk'.below hbx) HF))
        obtain ⟨R, hR⟩ : ∃ R, R = h.hourR k := ⟨_, rfl⟩
        have hRl : R.lo = loB h.truths (fun e => h.hoursB e k) := by rw [hR]; rfl
        have hRh : R.hi = hiB h.truths (fun e => h.hoursB e k) := by rw [hR]; rfl
        rw [← hRl, ← hRh] at hcall
        have HS := Lib.hid (show (List.range (k + 1)).map h.hourR = (List.range k).map h.hourR ++ [R] by rw [range_snoc, hR])
        have HCA := Lib.hid hcall
        clear hcall hR hRl hRh
        go_wp2_with (first
          | (go_at_call 81; refine HCA.out.mono ?_; (rintro e w' hr; first | ((with_reducible replace hr := Ret.up hr); obtain ⟨rfl, z, rfl⟩ := hr) | (obtain ⟨rfl, z, rfl⟩ := hr)))
          | (at_builtin; refine wpList_append_own _ rfl _ _ 29 rfl W1.heap.size 42 i0 (.agg #[.int .i64 0, .int .i64 0]) 2 16 Try.underlying29 hi hz0 hz1 hz2 rfl (by decide) _ _ _ rfl ((own_later hown).alloc _) ⟨(later wr z).heap.size, 0, none⟩ 1 1 (gR R) rfl rfl ?c1 ?c2 ?c3 ?c4 ?c5 ?_))
        case c1 => exact news_new _ _ rfl (gR R) _
        case c2 => simp [gR, Value.oneCell']
        case c3 => unfold maxLen; omega
        case c4 => omega
        case c5 => have := hb.size; have := size_later wr z; simp; omega
        intro v' w1 hown1 hg1 _
        have hb2 := grown_below (w := W1) (by exact gA (later_below hb hb.size)) ((own_later (x := z) hown).alloc (.cells #[.int .i64 R.lo, .int .i64 R.hi] 42)) (Nat.le_refl _) hg1
        go_wp2
        go_roundw
        case rel => exact ⟨k + 1, by omega, by go_num, hb2, by rw [HS.out]; simpa using hown1⟩
        case measure => simp [intOf]; omega
      · obtain rfl : k = h.tickets.length := by omega
        go_wp2
        obtain ⟨A, c, rfl, hs, hfr⟩ := Fr.of_own (k := 2) (g := gR) (l := (List.range h.tickets.length).map h.hourR) hown (fun _ _ => rfl) (by simp) (by omega)
        go_ret2
        exact ⟨A, c, by rw [HL.out, HA.out]; rfl, later_ex hbw, by rw [HL.out]; exact hs, by rw [HL.out]; exact hfr.le hb1.size⟩
  · have HE := Lib.hid ha
    have hb : (h.askE 0 != 0) = true := by simpa using ha
    have HL := Lib.hid (show h.hoursL = [] by rw [Hs.hoursL, if_neg ha])
    go_enter Try.func26, Try.ntmps26
    go_wp2_with (first | (go_at_call 79; refine (asked_bad _ h 0 _ ?hh HE.out).mono ?_; (case hh => exact H0.below (by repeat (first | exact Below.refl _ _ | (with_reducible assumption) | apply gL | apply gA | apply gD | apply gN | (refine gS ?_ (by first | (simp; done) | (simp; omega) | omega))))); (rintro e w' hr; first | ((with_reducible replace hr := Ret.up hr); obtain ⟨rfl, z, rfl⟩ := hr) | (obtain ⟨rfl, z, rfl⟩ := hr))))
    go_ret2
    exact retFr_nil HL.out rfl (by repeat (first | exact Below.refl _ _ | (with_reducible assumption) | apply gL | apply gA | apply gD | apply gN | (refine gS ?_ (by first | (simp; done) | (simp; omega) | omega))))
end Go.Proofs.Ytcngnfnljkkjgaa
namespace Go.Proofs.Ytcngnfnljkkjgaa
open Go.RowKit
attribute [local go_sem] cell_later frozen_later lt_later le_later

set_option maxHeartbeats 2000000 in
theorem fr_long (v : Value) (h : Hs) (w : World) (H : HsAt w v h) :
    Calls Try.prog 31 #[v] w (RetFr 1 gI 3 h.longL (h.askE 0) w) := by
  have H0 := H
  obtain ⟨A2, c2, A3, c3, A4, c4, rfl, H2, H3, H4⟩ := H
  by_cases ha : h.askE 0 = 0
  · obtain ⟨hf, -, hne⟩ := askE_zero ha
    have hlen : h.tickets.length ≤ 6 := (small_iff.1 (fault_zero hf).1).2.1
    have HL := Lib.hid (show h.longL = (List.range h.tickets.length).map h.longV by rw [Hs.longL, if_pos ha])
    have HA := Lib.hid ha
    have HF := Lib.hid hf
    obtain ⟨i0, hi, hz0, hz1, hz2⟩ := info_parts infoInt
    clear ha hf hne
    go_enter Try.func31, Try.ntmps31
    go_wp2_with (first | (go_at_call 79; refine (asked_ok _ h 0 _ ?hh HA.out).mono ?_; (case hh => exact H0.below (by repeat (first | exact Below.refl _ _ | (with_reducible assumption) | apply gL | apply gA | apply gD | apply gN | (refine gS ?_ (by first | (simp; done) | (simp; omega) | omega))))); (rintro e w' hr; (first | (with_reducible replace hr := RetWk.up hr) | skip); obtain ⟨g, rfl, ⟨z, rfl⟩, hwk⟩ := hr)))
    obtain ⟨W1, hW1⟩ : ∃ W1, W1 = (later (w.alloc (.cells #[.int .i64 h.hour, .int .i64 h.grace, .slice A2 h.clocks.length c2, .slice A3 h.tickets.length c3, .slice A4 h.clips.length c4] 36)) z).alloc (.cells #[.pointer (some ⟨g, 0, none⟩)] 106) := ⟨_, rfl⟩
    have hb1 : Below w.heap.size w W1 := by rw [hW1]; exact (by repeat (first | exact Below.refl _ _ | (with_reducible assumption) | apply gL | apply gA | apply gD | apply gN | (refine gS ?_ (by first | (simp; done) | (simp; omega) | omega))))
    obtain ⟨p, hp⟩ : ∃ p, p = (later (w.alloc (.cells #[.int .i64 h.hour, .int .i64 h.grace, .slice A2 h.clocks.length c2, .slice A3 h.tickets.length c3, .slice A4 h.clips.length c4] 36)) z).heap.size := ⟨_, rfl⟩
    have hwk1 : WkAt W1 g h := by rw [hW1]; exact hwk.below (gA (Below.refl _ _))
    have hB1 : BlkAt W1 p 106 [.pointer (some ⟨g, 0, none⟩)] := by rw [hW1, hp]; exact BlkAt.new _ _ _
    rw [← hW1, ← hp]
    clear hW1 hp hwk
    have hpl := hB1.lt
    go_loopw [6, 19] (fun v i wr => ∃ k : Nat, k ≤ h.tickets.length ∧ i = .int .i64 k ∧ Below W1.heap.size W1 wr ∧ wr.ownsRow W1.heap.size 3 1 v k (((List.range k).map h.longV).flatMap gI)) (fun _ i _ => h.tickets.length - (intOf i).toNat)
    case atStart => exact ⟨0, Nat.zero_le _, rfl, Below.refl _ _, World.ownsRow_nil _ _ _ _⟩
    case round =>
      obtain ⟨k, hk, rfl, hb, hown⟩ := hrel
      have hbw : Below w.heap.size w wr := hb1.trans (hb.mono hb1.size)
      by_cases hlt : k < h.tickets.length
      · have hlt1 : (k : Int) < (h.tickets.length : Int) := by omega
        have hk0 : (0 : Int) ≤ (k : Int) := Int.natCast_nonneg _
        obtain ⟨W2, hW2⟩ : ∃ W2, W2 = wr.alloc (.cells #[.int .i64 k] 3) := ⟨_, rfl⟩
        have hb2 : Below wr.heap.size wr W2 := by rw [hW2]; exact gA (Below.refl _ _)
        have hB2 : BlkAt W2 wr.heap.size 3 [.int .i64 k] := by rw [hW2]; exact BlkAt.new _ _ _
        have hBp := (hB1.of_below hb hpl).of_below hb2 (Nat.lt_of_lt_of_le hpl hb.size)
        have hwk' := (hwk1.below hb).below hb2
        have kp : W2.cell? ⟨p, 0, none⟩ = some (.pointer (some ⟨g, 0, none⟩)) := (hBp.cell 0).trans rfl
        have kq : W2.cell? ⟨wr.heap.size, 0, none⟩ = some (.int .i64 k) := (hB2.cell 0).trans rfl
        have hbp2 := hBp.lt
        have hbq2 := hB2.lt
        have hown2 := hown.alloc (.cells #[.int .i64 k] 3)
        rw [← hW2] at hown2
        have hcall := verdict_long g h (.pointer (some ⟨p, 0, none⟩)) (.pointer (some ⟨wr.heap.size, 0, none⟩)) (fun e => h.longB e k) W2 hwk' HF
          (Lib.hid (fun x e' _ _ _ _ hm he hbx => longd_calls g h e' (Lib.hid he) (Lib.hid (truth_ok HF.out hm)) k hlt x (hwk'.below hbx) HF p wr.heap.size ((hbx.cell (p := ⟨p, 0, none⟩) hbp2).trans kp) ((hbx.cell (p := ⟨wr.heap.size, 0, none⟩) hbq2).trans kq)))
        obtain ⟨R, hR⟩ : ∃ R, R = h.longV k := ⟨_, rfl⟩
        have hRv : R = verdictB h.truths (fun e => h.longB e k) := hR
        rw [← hRv] at hcall
        have HS := Lib.hid (show (List.range (k + 1)).map h.longV = (List.range k).map h.longV ++ [R] by rw [range_snoc, hR])
        have HCA := Lib.hid hcall
        have hsz2 : W2.heap.size = wr.heap.size + 1 := by rw [hW2]; simp
        have HSZ := Lib.hid hsz2
        clear hcall hR hRv hB2 hBp hwk' hsz2
        have kpr : wr.cell? ⟨p, 0, none⟩ = some (.pointer (some ⟨g, 0, none⟩)) := (hb.cell (p := ⟨p, 0, none⟩) hpl).trans ((hB1.cell 0).trans rfl)
        have hplr : p < wr.heap.size := Nat.lt_of_lt_of_le hpl hb.size
        have HW2 := Lib.hid hW2
        clear hW2
        go_wp2_with (first
          | (go_at_call 85; rw [← HW2.out]; refine HCA.out.mono ?_; (rintro e w' hr; first | ((with_reducible replace hr := Ret.up hr); obtain ⟨rfl, z, rfl⟩ := hr) | (obtain ⟨rfl, z, rfl⟩ := hr)))
          | (at_builtin; refine wpList_append_own _ rfl _ _ 47 rfl W1.heap.size 3 i0 (.int .i64 0) 1 8 Try.underlying47 hi hz0 hz1 hz2 rfl (by decide) _ _ _ rfl ((own_later hown2).alloc _) ⟨(later W2 z).heap.size, 0, none⟩ 1 1 (gI R) rfl rfl ?c1 ?c2 ?c3 ?c4 ?c5 ?_))
        case c1 => exact news_new _ _ rfl (gI R) _
        case c2 => simp [gI, Value.oneCell']
        case c3 => unfold maxLen; omega
        case c4 => omega
        case c5 => have := hb.size; have := HSZ.out; have := size_later W2 z; simp; omega
        intro v' w1 hown1 hg1 _
        have hb3 := grown_below (w := W1) (by exact gA (later_below (hb.trans (hb2.mono hb.size)) (hb.trans (hb2.mono hb.size)).size)) ((own_later (x := z) hown2).alloc (.cells #[.int .i64 R] 3)) (Nat.le_refl _) hg1
        go_wp2
        go_roundw
        case rel => exact ⟨k + 1, by omega, by go_num, hb3, by rw [HS.out]; simpa using hown1⟩
        case measure => simp [intOf]; omega
      · obtain rfl : k = h.tickets.length := by omega
        go_wp2
        obtain ⟨A, c, rfl, hs, hfr⟩ := Fr.of_own (k := 1) (g := gI) (l := (List.range h.tickets.length).map h.longV) hown (fun _ _ => rfl) (by simp) (by omega)
        go_ret2
        exact ⟨A, c, by rw [HL.out, HA.out]; rfl, later_ex hbw, by rw [HL.out]; exact hs, by rw [HL.out]; exact hfr.le hb1.size⟩
  · have HE := Lib.hid ha
    have hb : (h.askE 0 != 0) = true := by simpa using ha
    have HL := Lib.hid (show h.longL = [] by rw [Hs.longL, if_neg ha])
    go_enter Try.func31, Try.ntmps31
    go_wp2_with (first | (go_at_call 79; refine (asked_bad _ h 0 _ ?hh HE.out).mono ?_; (case hh => exact H0.below (by repeat (first | exact Below.refl _ _ | (with_reducible assumption) | apply gL | apply gA | apply gD | apply gN | (refine gS ?_ (by first | (simp; done) | (simp; omega) | omega))))); (rintro e w' hr; first | ((with_reducible replace hr := Ret.up hr); obtain ⟨rfl, z, rfl⟩ := hr) | (obtain ⟨rfl, z, rfl⟩ := hr))))
    go_ret2
    exact retFr_nil HL.out rfl (by repeat (first | exact Below.refl _ _ | (with_reducible assumption) | apply gL | apply gA | apply gD | apply gN | (refine gS ?_ (by first | (simp; done) | (simp; omega) | omega))))
end Go.Proofs.Ytcngnfnljkkjgaa
namespace Go.Proofs.Ytcngnfnljkkjgaa
open Go.RowKit
attribute [local go_sem] cell_later frozen_later lt_later le_later

set_option maxHeartbeats 1000000 in
theorem fr_play (v : Value) (h : Hs) (A : Option Addr) (c : Nat) (l : List Int) (w : World) (H : HsAt w v h) (HL : SlA w 1 gI A c l) :
    Calls Try.prog 57 #[v, .slice A l.length c] w (RetFr 1 gI 3 (h.playL l) (h.playE l) w) := by
  have H0 := H
  obtain ⟨A2, c2, A3, c3, A4, c4, rfl, H2, H3, H4⟩ := H
  by_cases hf : h.fault = 0
  · have hf1 : (h.fault != 0) = false := by simp [hf]
    have HF := Lib.hid hf
    have hn : h.clocks.length ≤ 4 := (small_iff.1 (fault_zero hf).1).1
    have hp : h.clips.length ≤ 10 := (small_iff.1 (fault_zero hf).1).2.2
    clear hf
    by_cases ha : areErrB h l = true
    · have HC := Lib.hid (clipsOk_of HF.out)
      have HE := Lib.hid (areErr_ok HF.out ha)
      have HP := Lib.hid (show h.playE l = 0 by simp [Hs.playE, HF.out, ha])
      have HPL := Lib.hid (show h.playL l = h.clips.map (tru l) by simp [Hs.playL, HP.out])
      obtain ⟨i0, hi, hz0, hz1, hz2⟩ := info_parts infoInt
      go_enter Try.func57, Try.ntmps57
      go_wp2_with (first
        | (go_at_call 70; refine (check_calls _ h _ ?hh).mono ?_; (case hh => exact H0.below (by repeat (first | exact Below.refl _ _ | (with_reducible assumption) | apply gL | apply gA | apply gD | apply gN | (refine gS ?_ (by first | (simp; done) | (simp; omega) | omega))))); (rintro e w' hr; first | ((with_reducible replace hr := Ret.up hr); obtain ⟨rfl, z, rfl⟩ := hr) | (obtain ⟨rfl, z, rfl⟩ := hr)))
        | (go_at_call 107; refine (listed_calls _ h _ _ l _ ?hh ?hs hn).mono ?_; (case hh => exact H0.below (by repeat (first | exact Below.refl _ _ | (with_reducible assumption) | apply gL | apply gA | apply gD | apply gN | (refine gS ?_ (by first | (simp; done) | (simp; omega) | omega))))); (case hs => exact HL.below (by repeat (first | exact Below.refl _ _ | (with_reducible assumption) | apply gL | apply gA | apply gD | apply gN | (refine gS ?_ (by first | (simp; done) | (simp; omega) | omega))))); (rintro e w' hr; (first | (with_reducible replace hr := RetListed.up hr) | skip); obtain ⟨a0, a1, a2, a3, h4, rfl, z, rfl⟩ := hr); have HE4 := Lib.hid (h4 ha); clear h4))
      obtain ⟨W1, hW1⟩ : ∃ W1, W1 = (later (w.alloc (.cells #[.int .i64 h.hour, .int .i64 h.grace, .slice A2 h.clocks.length c2, .slice A3 h.tickets.length c3, .slice A4 h.clips.length c4] 36)) z).alloc (.cells #[.int .i64 a0, .int .i64 a1, .int .i64 a2, .int .i64 a3] 119) := ⟨_, rfl⟩
      have hb1 : Below w.heap.size w W1 := by rw [hW1]; exact (by repeat (first | exact Below.refl _ _ | (with_reducible assumption) | apply gL | apply gA | apply gD | apply gN | (refine gS ?_ (by first | (simp; done) | (simp; omega) | omega))))
      obtain ⟨g, hg⟩ : ∃ g, g = (later (w.alloc (.cells #[.int .i64 h.hour, .int .i64 h.grace, .slice A2 h.clocks.length c2, .slice A3 h.tickets.length c3, .slice A4 h.clips.length c4] 36)) z).heap.size := ⟨_, rfl⟩
      have k0 : W1.cell? ⟨g, 0, none⟩ = some (.int .i64 a0) := by rw [hW1, hg]; simp [go_sem]
      have k1 : W1.cell? ⟨g, 1, none⟩ = some (.int .i64 a1) := by rw [hW1, hg]; simp [go_sem]
      have k2 : W1.cell? ⟨g, 2, none⟩ = some (.int .i64 a2) := by rw [hW1, hg]; simp [go_sem]
      have k3 : W1.cell? ⟨g, 3, none⟩ = some (.int .i64 a3) := by rw [hW1, hg]; simp [go_sem]
      have hgl : g < W1.heap.size := by rw [hW1, hg]; simp
      rw [← hW1, ← hg]
      clear hW1 hg
      go_loopw [9, 28] (fun v i wr => ∃ k : Nat, k ≤ h.clips.length ∧ i = .int .i64 k ∧ Below W1.heap.size W1 wr ∧ wr.ownsRow W1.heap.size 3 1 v k (((h.clips.take k).map (tru l)).flatMap gI))
        (fun _ i _ => h.clips.length - (intOf i).toNat)
      case atStart => exact ⟨0, Nat.zero_le _, rfl, Below.refl _ _, World.ownsRow_nil _ _ _ _⟩
      case round =>
        obtain ⟨k, hk, rfl, hb, hown⟩ := hrel
        have hbw : Below w.heap.size w wr := hb1.trans (hb.mono hb1.size)
        by_cases hlt : k < h.clips.length
        · obtain ⟨b, off, x, rfl, hbl, hx, g1, g2, g3⟩ := (H4.below hbw).atC hlt
          obtain ⟨m1, m2, m3, m4⟩ := HC.out x (List.mem_of_getElem? hx)
          have HS := Lib.hid (show (h.clips.take (k + 1)).map (tru l) = (h.clips.take k).map (tru l) ++ [tru l x] by rw [List.take_add_one, hx]; simp)
          clear hx
          have q0 := (hb.cell (p := ⟨g, 0, none⟩) hgl).trans k0
          have q1 := (hb.cell (p := ⟨g, 1, none⟩) hgl).trans k1
          have q2 := (hb.cell (p := ⟨g, 2, none⟩) hgl).trans k2
          have q3 := (hb.cell (p := ⟨g, 3, none⟩) hgl).trans k3
          have hgr : g < wr.heap.size := Nat.lt_of_lt_of_le hgl hb.size
          go_wp2_with (first
            | (go_at_call 108; refine (minute_calls4 l HE4 HE x _ m1 m2 m3 m4).mono ?_; (rintro e w' hr; first | ((with_reducible replace hr := Ret.up hr); obtain ⟨rfl, z, rfl⟩ := hr) | (obtain ⟨rfl, z, rfl⟩ := hr)))
            | (at_builtin; refine wpList_append_own _ rfl _ _ 47 rfl W1.heap.size 3 i0 (.int .i64 0) 1 8 Try.underlying47 hi hz0 hz1 hz2 rfl (by decide) _ _ _ rfl ((own_later (hown.alloc _)).alloc _) ⟨(later (wr.alloc (.cells #[.int .i64 x.tk, .int .i64 x.ck, .int .i64 x.mn] 104)) z).heap.size, 0, none⟩ 1 1 (gI (tru l x)) rfl rfl ?c1 ?c2 ?c3 ?c4 ?c5 ?_))
          case c1 => exact news_new _ _ (by simp) (gI (tru l x)) _
          case c2 => simp [gI, Value.oneCell']
          case c3 => unfold maxLen; omega
          case c4 => omega
          case c5 => have := hb.size; have := size_later (wr.alloc (.cells #[.int .i64 x.tk, .int .i64 x.ck, .int .i64 x.mn] 104)) z; simp at this ⊢; omega
          intro v' w1 hown1 hg1 _
          have hb2 := grown_below (by exact (by repeat (first | exact Below.refl _ _ | (with_reducible assumption) | apply gL | apply gA | apply gD | apply gN | (refine gS ?_ (by first | (simp; done) | (simp; omega) | omega))))) ((own_later (x := z) (hown.alloc (.cells #[.int .i64 x.tk, .int .i64 x.ck, .int .i64 x.mn] 104))).alloc (.cells #[.int .i64 (tru l x)] 3)) (Nat.le_refl _) hg1
          go_wp2
          go_roundw
          case rel => exact ⟨k + 1, by omega, by go_num, hb2, by rw [HS.out]; simpa using hown1⟩
          case measure => simp [intOf]; omega
        · obtain rfl : k = h.clips.length := by omega
          rw [List.take_length] at hown
          go_wp2
          obtain ⟨A, c, rfl, hs, hfr⟩ := Fr.of_own (k := 1) (g := gI) (l := h.clips.map (tru l)) hown (fun _ _ => rfl) (by simp) (by omega)
          go_ret2
          exact ⟨A, c, by rw [HPL.out, HP.out]; rfl, later_ex hbw, by rw [HPL.out]; exact hs, by rw [HPL.out]; exact hfr.le hb1.size⟩
    · have ha : areErrB h l = false := by simpa using ha
      have HP := Lib.hid (show h.playE l = 2 by simp [Hs.playE, HF.out, ha])
      have HPL := Lib.hid (show h.playL l = [] by simp [Hs.playL, HP.out])
      go_enter Try.func57, Try.ntmps57
      go_wp2_with (first
        | (go_at_call 70; refine (check_calls _ h _ ?hh).mono ?_; (case hh => exact H0.below (by repeat (first | exact Below.refl _ _ | (with_reducible assumption) | apply gL | apply gA | apply gD | apply gN | (refine gS ?_ (by first | (simp; done) | (simp; omega) | omega))))); (rintro e w' hr; first | ((with_reducible replace hr := Ret.up hr); obtain ⟨rfl, z, rfl⟩ := hr) | (obtain ⟨rfl, z, rfl⟩ := hr)))
        | (go_at_call 107; refine (listed_calls _ h _ _ l _ ?hh ?hs hn).mono ?_; (case hh => exact H0.below (by repeat (first | exact Below.refl _ _ | (with_reducible assumption) | apply gL | apply gA | apply gD | apply gN | (refine gS ?_ (by first | (simp; done) | (simp; omega) | omega))))); (case hs => exact HL.below (by repeat (first | exact Below.refl _ _ | (with_reducible assumption) | apply gL | apply gA | apply gD | apply gN | (refine gS ?_ (by first | (simp; done) | (simp; omega) | omega))))); (rintro e w' hr; (first | (with_reducible replace hr := RetListed.up hr) | skip); obtain ⟨a0, a1, a2, a3, h4, rfl, z, rfl⟩ := hr); clear h4))
      go_ret2
      exact retFr_nil HPL.out (by rw [HP.out]; rfl) (by repeat (first | exact Below.refl _ _ | (with_reducible assumption) | apply gL | apply gA | apply gD | apply gN | (refine gS ?_ (by first | (simp; done) | (simp; omega) | omega))))
  · have hf1 : (h.fault != 0) = true := by simpa using hf
    have HP := Lib.hid (show h.playE l = h.fault by simp [Hs.playE, hf])
    have HPL := Lib.hid (show h.playL l = [] by simp [Hs.playL, HP.out, hf])
    have HF := Lib.hid hf
    clear hf
    go_enter Try.func57, Try.ntmps57
    go_wp2_with (first
        | (go_at_call 70; refine (check_calls _ h _ ?hh).mono ?_; (case hh => exact H0.below (by repeat (first | exact Below.refl _ _ | (with_reducible assumption) | apply gL | apply gA | apply gD | apply gN | (refine gS ?_ (by first | (simp; done) | (simp; omega) | omega))))); (rintro e w' hr; first | ((with_reducible replace hr := Ret.up hr); obtain ⟨rfl, z, rfl⟩ := hr) | (obtain ⟨rfl, z, rfl⟩ := hr))))
    go_ret2
    exact retFr_nil HPL.out (by rw [HP.out]; rfl) (by repeat (first | exact Below.refl _ _ | (with_reducible assumption) | apply gL | apply gA | apply gD | apply gN | (refine gS ?_ (by first | (simp; done) | (simp; omega) | omega))))
end Go.Proofs.Ytcngnfnljkkjgaa
namespace Go.Proofs.Ytcngnfnljkkjgaa
open Go.RowKit
attribute [local go_sem] cell_later frozen_later lt_later le_later

def RetLvF (bf B : Nat) (r : Option (List Int)) (W : World) (e : Ending) (W' : World) : Prop :=
  e = .returned (.bool r.isSome) ∧ KeepX bf W W' ∧ ∃ v, BlkAt W' bf 47 [v] ∧ ∀ s, r = some s → ∃ A c, v = .slice A s.length c ∧ SlA W' 1 gI A c s ∧ Fr W' gI 3 B A s
theorem own_factsF {w : World} {base : Nat} {v : Value} {n : Nat} {l : List Int} (h : w.ownsRow base 3 1 v n (l.flatMap gI)) (hl : l.length = n) (hpos : 0 < n) (hb : n ≤ 140737488355328) :
    ∃ A c, v = .slice A l.length c ∧ SlA w 1 gI A c l ∧ (∀ a, A = some a → base ≤ a.block) ∧ (A = none → c = 0) ∧ Fr w gI 3 base A l := by
  obtain ⟨A, c, hv, hs, h1, h2⟩ := own_facts h hl hpos hb
  obtain ⟨A', c', hv', -, h3⟩ := Fr.of_own (k := 1) (g := gI) (l := l) h (fun _ _ => rfl) hl hb
  rw [hv] at hv'
  simp only [Value.slice.injEq] at hv'
  exact ⟨A, c, hv, hs, h1, h2, by rw [hv'.1]; exact h3⟩

set_option maxHeartbeats 4000000 in
theorem leave_inF (h : Hs) (A2 : Option Addr) (c2 : Nat) (A3 : Option Addr) (c3 : Nat) (A4 : Option Addr) (c4 : Nat) (w0 : World) (bf bh bl : Nat) (hf : Hid (h.fault = 0))
    (H : HsAt w0 (.agg #[.int .i64 h.hour, .int .i64 h.grace, .slice A2 h.clocks.length c2, .slice A3 h.tickets.length c3, .slice A4 h.clips.length c4]) h) :
    ∀ (m : Nat) (out : List Int) (frm : Nat) (A : Option Addr) (c : Nat) (W : World), LvAt h A2 c2 A3 c3 A4 c4 w0 bf bh bl W → SlA W 1 gI A c out → Fr W gI 3 w0.heap.size A out → (out ≠ [] → ∀ a, A = some a → a.block ≠ bf) → (A = none → c = 0) → out.length + m ≤ 20 → frm ≤ 20 →
      Calls Try.prog 101 #[.slice A out.length c, .int .i64 frm, .int .i64 m, .pointer (some ⟨bf, 0, none⟩), .pointer (some ⟨bh, 0, none⟩), .pointer (some ⟨bl, 0, none⟩)] W (RetLvF bf w0.heap.size (h.lv m out frm) W) := by
  have hn : h.clocks.length ≤ 4 := (small_iff.1 (fault_zero hf.out).1).1
  have hp : h.clips.length ≤ 10 := (small_iff.1 (fault_zero hf.out).1).2.2
  have HC := Lib.hid (clipsOk_of hf.out)
  have HR := Lib.hid (fun r hr => fault_clock hf.out (r := r) hr)
  intro m
  induction m with
  | zero =>
    intro out frm A c W L HO hFr hA hz hl hfr
    obtain ⟨v, hv⟩ := L.hf
    have z0 := hv.cell 0
    have zf := hv.frozen 0
    have q0 := L.hh.cell 0
    have q1 := L.hh.cell 1
    have q2 := L.hh.cell 2
    have q3 := L.hh.cell 3
    have q4 := L.hh.cell 4
    simp only [List.getElem?_cons_zero, List.getElem?_cons_succ] at z0 q0 q1 q2 q3 q4
    have nh := L.nh
    have hbf := hv.lt
    have hbh := L.hh.lt
    obtain ⟨W1, hW1⟩ : ∃ W1, W1 = W.setCell ⟨bf, 0, none⟩ (.slice A out.length c) := ⟨_, rfl⟩
    have hk1 : KeepX bf W W1 := by rw [hW1]; exact KeepX.set_ _ _ _
    have hv1 : BlkAt W1 bf 47 [.slice A out.length c] := by rw [hW1]; exact hv.set_ 0 _
    have L1 := L.keep hk1 hv1
    have HO1 := hk1.sl HO hA
    have hF1 : Fr W1 gI 3 w0.heap.size A out := fun hn => by
      obtain ⟨b, e1, e2, e3⟩ := hFr hn
      exact ⟨b, e1, e2, e3.keep hk1 (hA hn _ e1)⟩
    have HF1 := Lib.hid hF1
    clear hF1 hFr
    have hpo := possible_calls _ h A c out W1 (H.below L1.low) HO1 hn HR.out HC.out (by omega)
    have HPO := Lib.hid hpo
    have HW1 := Lib.hid hW1
    clear hpo hW1
    go_enter Try.func101, Try.ntmps101
    go_wp2_with (first | (go_at_call 100; rw [← HW1.out]; refine HPO.out.mono ?_; (rintro e w' hr; first | ((with_reducible replace hr := Ret.up hr); obtain ⟨rfl, z, rfl⟩ := hr) | (obtain ⟨rfl, z, rfl⟩ := hr))))
    go_ret
    refine ⟨?_, hk1.trans (KeepX.of_below (below_later _ _)), .slice A out.length c, hv1.later, fun s hs => ?_⟩
    · show _ = Ending.returned (.bool (if h.canB out = true then some out else none).isSome)
      cases h.canB out <;> rfl
    · have hs' : (if h.canB out = true then some out else none) = some s := hs
      split at hs'
      · cases hs'
        exact ⟨A, c, rfl, HO1.below (below_later _ _), HF1.out.below (below_later _ _)⟩
      · cases hs'
  | succ m ih =>
    intro out frm A c W L HO hFr hA hz hl hfr
    have IH := Lib.hid ih
    clear ih hFr
    obtain ⟨cnt, hcnt⟩ : ∃ n, n = h.clips.length - m - frm := ⟨_, rfl⟩
    have HLV := Lib.hid (show h.lv (m + 1) out frm = (List.range' frm cnt).findSome? (fun (i : Nat) => h.lv m (out ++ [(i : Int)]) (i + 1)) by rw [hcnt]; rfl)
    have hfb : (frm : Int) ≤ 20 := by omega
    obtain ⟨M, hM⟩ : ∃ M : Int, M = ((m + 1 : Nat) : Int) := ⟨_, rfl⟩
    rw [← hM]
    have hM1 : M - 1 = (m : Int) := by omega
    have hm0 : 1 ≤ M := by omega
    have hm9 : M ≤ 20 := by omega
    have hmz : (M == 0) = false := by simp; omega
    have HM := Lib.hid hM
    clear hM
    have hpI : (h.clips.length : Int) ≤ 10 := by omega
    obtain ⟨i0, hi0, hz0, hz1, hz2⟩ := info_parts infoInt
    go_enter Try.func101, Try.ntmps101
    go_wp2
    go_loopw [10] (fun i wr => ∃ k : Nat, k ≤ cnt ∧ i = .int .i64 ((frm + k : Nat) : Int) ∧ (List.range' frm k).findSome? (fun (i : Nat) => h.lv m (out ++ [(i : Int)]) (i + 1)) = none ∧ KeepX bf W wr ∧ LvAt h A2 c2 A3 c3 A4 c4 w0 bf bh bl wr) (fun i _ => frm + cnt - (intOf i).toNat)
    case atStart => exact ⟨0, Nat.zero_le _, rfl, rfl, KeepX.refl _ _, L⟩
    case round =>
      obtain ⟨k, hk, rfl, hnone, hkx, Lr⟩ := hrel
      have HN := Lib.hid hnone
      clear hnone
      have q4 := Lr.hh.cell 4
      have ql := Lr.hl.cell 0
      simp only [List.getElem?_cons_zero, List.getElem?_cons_succ] at q4 ql
      have hbh := Lr.hh.lt
      have hbl := Lr.hl.lt
      have HOr := hkx.sl HO hA
      have hfk0 : (0 : Int) ≤ ((frm + k : Nat) : Int) := Int.natCast_nonneg _
      obtain ⟨i, hi⟩ : ∃ i, i = frm + k := ⟨_, rfl⟩
      rw [← hi] at hfk0 ⊢
      by_cases hlt : k < cnt
      · have hle : (i : Int) ≤ (h.clips.length : Int) - M := by have := HM.out; omega
        have hi10 : (i : Int) ≤ 10 := by omega
        have HI := Lib.hid hi
        clear hi
        cases hr : h.lv m (out ++ [(i : Int)]) (i + 1) with
        | none =>
          have HNX := Lib.hid (show (List.range' frm (k + 1)).findSome? (fun (i : Nat) => h.lv m (out ++ [(i : Int)]) (i + 1)) = none from find_next HN.out (by rw [← HI.out]; exact hr))
          go_wp2
          obtain ⟨C, hC⟩ : ∃ C, C = Same [⟨bl, 0, none⟩] wr := ⟨_, rfl⟩
          obtain ⟨G, hG⟩ : ∃ G, G = held C wr.drew := ⟨_, rfl⟩
          have fl : ∀ x, (G x).cell? ⟨bl, 0, none⟩ = some (lvFn bf bh bl) := fun x => by
            rw [hG, hC]
            exact same_held ql (by simp) x
          unfold lvFn at fl
          refine region_sched C [0, 1, 3, 6, 7, 8, 9] (.two 2 4 (.one 4 (.one 5 .done)) (.one 2 (.one 5 .done))) 10 (by kernel_rfl) (by kernel_rfl) (by rw [hC]; exact same_drew) ?_
          rw [← hG]
          have HC' := Lib.hid hC
          clear hG hC
          simp only [List.filterMap_cons, List.filterMap_nil, List.getElem?_cons_zero, List.getElem?_cons_succ]
          change wpQuiet _ _ _ _ [_, _, _, _, _, _, _] _
          repeat (go_big_quiet_step (fail))
          refine wpQuiet_nil ?_
          clear fl
          refine wpSch_two rfl rfl (fun K hK => ?_) (fun K hK => ?_)
          · go_simp
            refine (clone_calls A c out _ (HOr.below (gD (Below.refl _ _))) (by omega) hz).mono ?_
            rintro e' w' ⟨A6, c6, rfl, ⟨z, rfl⟩, hown⟩
            have hbz : Below wr.heap.size wr (later wr.drew z) := Below.trans (gD (Below.refl _ _)) (below_later wr.drew z)
            refine hK.out _ _ (by rw [HC'.out]; exact same_below hbz (by simp; omega)) ?_
            clear hK K
            obtain ⟨W6, hW6⟩ : ∃ W6, W6 = later wr.drew z := ⟨_, rfl⟩
            rw [← hW6] at hown hbz ⊢
            clear hW6
            refine wpSch_one rfl (fun K hK => ?_)
            go_simp
            have hb7 : Below wr.heap.size wr (W6.alloc (.cells #[.int .i64 i] 3)) := gA hbz
            refine hK.out _ _ (by rw [HC'.out]; exact same_below hb7 (by simp; omega)) ?_
            clear hK K
            refine wpSch_one rfl (fun K hK => ?_)
            rw [if_pos (by rfl)]
            refine wp_append_own _ _ 47 rfl wr.heap.size 3 i0 (.int .i64 0) 1 8 Try.underlying47 hi0 hz0 hz1 hz2 rfl (by decide) _ _ _ rfl (hown.alloc _) ⟨W6.heap.size, 0, none⟩ 1 1 [.int .i64 i] rfl rfl ?c1 ?c2 ?c3 ?c4 ?c5 ?_
            case c1 => exact news_new _ _ rfl [.int .i64 i] _
            case c2 => simp [Value.oneCell']
            case c3 => unfold maxLen; omega
            case c4 => omega
            case c5 => exact hb7.size
            intro v' w1 hown1 hg1 hob
            obtain ⟨A5, c5, rfl, hs5, hA5, hz5, hf5⟩ := own_factsF (l := out ++ [(i : Int)]) (by simpa [gI] using hown1) (by simp) (by simp) (by simp; omega)
            have hB1 : Below wr.heap.size wr w1 := grown_below hb7 (hown.alloc _) (Nat.le_refl _) hg1
            have hk1 : KeepX bf wr w1 := KeepX.of_below hB1
            obtain ⟨vb, hvb⟩ := Lr.hf
            have L1 := Lr.keep hk1 (hvb.of_below hB1 hvb.lt)
            have ihc := IH.out (out ++ [(i : Int)]) (i + 1) A5 c5 w1 L1 hs5 (hf5.le (by have := Lr.low.size; omega)) (fun _ a ha => by have := hA5 a ha; have := hvb.lt; omega) hz5 (by simp; omega) (by omega)
            rw [show (out ++ [(i : Int)]).length = out.length + 1 by simp] at ihc ⊢
            rw [show ((i + 1 : Nat) : Int) = (i : Int) + 1 by omega, hr] at ihc
            have hC1 : C w1 := by
              rw [HC'.out]
              intro a ha
              simp only [List.mem_cons, List.not_mem_nil, or_false] at ha
              subst ha
              exact hB1.cell hbl
            have IHC := Lib.hid ihc
            have HK1 := Lib.hid hk1
            clear ihc hk1 hown1 hg1 hob hs5 hA5 hz5 hf5
            simp only [Act.put, List.setIfInBounds_toArray]
            refine hK.out _ _ hC1 ?_
            clear hK K
            refine wpSch_done rfl (fun K hK => ?_)
            go_simp
            refine IHC.out.mono ?_
            rintro e' W' ⟨rfl, hkx', v2, hv2, hs2⟩
            have HS2 := Lib.hid hs2
            clear hs2
            refine hK.out _ _ (noPanic_mk ?_)
            clear hK K IHC hC1 hvb
            simp only [Option.isSome_none]
            go_wp2
            go_roundw
            case rel => exact ⟨k + 1, by omega, by rw [HI.out]; congr 1, HNX.out, (hkx.trans HK1.out).trans hkx', L1.keep hkx' hv2⟩
            case measure => rw [HI.out]; simp [intOf]; omega
          · go_simp
            obtain ⟨W6, hW6⟩ : ∃ W6, W6 = (wr.alloc (.cells #[.int .i64 i] 3)).drew := ⟨_, rfl⟩
            have hb6 : Below wr.heap.size wr W6 := by rw [hW6]; exact gD (gA (Below.refl _ _))
            have hn6 : ∀ (j : Nat) (u : Value), ([.int .i64 i] : List Value)[j]? = some u → W6.cell? ((⟨wr.heap.size, 0, none⟩ : Addr).add j) = some u := fun j u hu => by
              have := news_new wr _ rfl [.int .i64 i] 3 j u hu
              rw [hW6]
              simpa [go_sem] using this
            rw [← hW6]
            clear hW6
            refine hK.out _ _ (by rw [HC'.out]; exact same_below hb6 (by simp; omega)) ?_
            clear hK K
            refine wpSch_one rfl (fun K hK => ?_)
            go_simp
            refine (clone_calls A c out _ (HOr.below hb6) (by omega) hz).mono ?_
            rintro e' w' ⟨A6, c6, rfl, ⟨z, rfl⟩, hown⟩
            have hb7 : Below wr.heap.size wr (later W6 z) := later_below hb6 hb6.size
            refine hK.out _ _ (by rw [HC'.out]; exact same_below hb7 (by simp; omega)) ?_
            clear hK K
            refine wpSch_one rfl (fun K hK => ?_)
            rw [if_pos (by rfl)]
            refine wp_append_own _ _ 47 rfl W6.heap.size 3 i0 (.int .i64 0) 1 8 Try.underlying47 hi0 hz0 hz1 hz2 rfl (by decide) _ _ _ rfl hown ⟨wr.heap.size, 0, none⟩ 1 1 [.int .i64 i] rfl rfl ?c1 ?c2 ?c3 ?c4 ?c5 ?_
            case c1 =>
              intro j u hu
              have := hn6 j u hu
              exact ((below_later W6 z).cell (World.block_lt_of_cell? W6 _ this)).trans this
            case c2 => simp [Value.oneCell']
            case c3 => unfold maxLen; omega
            case c4 => omega
            case c5 => exact size_later _ _
            intro v' w1 hown1 hg1 hob
            have hb6s := hb6.size
            obtain ⟨A5, c5, rfl, hs5, hA5, hz5, hf5⟩ := own_factsF (l := out ++ [(i : Int)]) (by simpa [gI] using hown1) (by simp) (by simp) (by simp; omega)
            have hB1 : Below wr.heap.size wr w1 := grown_below hb7 hown hb6s hg1
            have hk1 : KeepX bf wr w1 := KeepX.of_below hB1
            obtain ⟨vb, hvb⟩ := Lr.hf
            have L1 := Lr.keep hk1 (hvb.of_below hB1 hvb.lt)
            have ihc := IH.out (out ++ [(i : Int)]) (i + 1) A5 c5 w1 L1 hs5 (hf5.le (by have := Lr.low.size; omega)) (fun _ a ha => by have := hA5 a ha; have := hvb.lt; omega) hz5 (by simp; omega) (by omega)
            rw [show (out ++ [(i : Int)]).length = out.length + 1 by simp] at ihc ⊢
            rw [show ((i + 1 : Nat) : Int) = (i : Int) + 1 by omega, hr] at ihc
            have hC1 : C w1 := by
              rw [HC'.out]
              intro a ha
              simp only [List.mem_cons, List.not_mem_nil, or_false] at ha
              subst ha
              exact hB1.cell hbl
            have IHC := Lib.hid ihc
            have HK1 := Lib.hid hk1
            clear ihc hk1 hown1 hg1 hob hs5 hA5 hz5 hf5
            simp only [Act.put, List.setIfInBounds_toArray]
            refine hK.out _ _ hC1 ?_
            clear hK K
            refine wpSch_done rfl (fun K hK => ?_)
            go_simp
            refine IHC.out.mono ?_
            rintro e' W' ⟨rfl, hkx', v2, hv2, hs2⟩
            have HS2 := Lib.hid hs2
            clear hs2
            refine hK.out _ _ (noPanic_mk ?_)
            clear hK K IHC hC1 hvb
            simp only [Option.isSome_none]
            go_wp2
            go_roundw
            case rel => exact ⟨k + 1, by omega, by rw [HI.out]; congr 1, HNX.out, (hkx.trans HK1.out).trans hkx', L1.keep hkx' hv2⟩
            case measure => rw [HI.out]; simp [intOf]; omega
        | some s =>
          have HSX := Lib.hid (show h.lv (m + 1) out frm = some s by rw [HLV.out]; exact find_at hlt HN.out (by rw [← HI.out]; exact hr))
          go_wp2
          obtain ⟨C, hC⟩ : ∃ C, C = Same [⟨bl, 0, none⟩] wr := ⟨_, rfl⟩
          obtain ⟨G, hG⟩ : ∃ G, G = held C wr.drew := ⟨_, rfl⟩
          have fl : ∀ x, (G x).cell? ⟨bl, 0, none⟩ = some (lvFn bf bh bl) := fun x => by
            rw [hG, hC]
            exact same_held ql (by simp) x
          unfold lvFn at fl
          refine region_sched C [0, 1, 3, 6, 7, 8, 9] (.two 2 4 (.one 4 (.one 5 .done)) (.one 2 (.one 5 .done))) 10 (by kernel_rfl) (by kernel_rfl) (by rw [hC]; exact same_drew) ?_
          rw [← hG]
          have HC' := Lib.hid hC
          clear hG hC
          simp only [List.filterMap_cons, List.filterMap_nil, List.getElem?_cons_zero, List.getElem?_cons_succ]
          change wpQuiet _ _ _ _ [_, _, _, _, _, _, _] _
          repeat (go_big_quiet_step (fail))
          refine wpQuiet_nil ?_
          clear fl
          refine wpSch_two rfl rfl (fun K hK => ?_) (fun K hK => ?_)
          · go_simp
            refine (clone_calls A c out _ (HOr.below (gD (Below.refl _ _))) (by omega) hz).mono ?_
            rintro e' w' ⟨A6, c6, rfl, ⟨z, rfl⟩, hown⟩
            have hbz : Below wr.heap.size wr (later wr.drew z) := Below.trans (gD (Below.refl _ _)) (below_later wr.drew z)
            refine hK.out _ _ (by rw [HC'.out]; exact same_below hbz (by simp; omega)) ?_
            clear hK K
            obtain ⟨W6, hW6⟩ : ∃ W6, W6 = later wr.drew z := ⟨_, rfl⟩
            rw [← hW6] at hown hbz ⊢
            clear hW6
            refine wpSch_one rfl (fun K hK => ?_)
            go_simp
            have hb7 : Below wr.heap.size wr (W6.alloc (.cells #[.int .i64 i] 3)) := gA hbz
            refine hK.out _ _ (by rw [HC'.out]; exact same_below hb7 (by simp; omega)) ?_
            clear hK K
            refine wpSch_one rfl (fun K hK => ?_)
            rw [if_pos (by rfl)]
            refine wp_append_own _ _ 47 rfl wr.heap.size 3 i0 (.int .i64 0) 1 8 Try.underlying47 hi0 hz0 hz1 hz2 rfl (by decide) _ _ _ rfl (hown.alloc _) ⟨W6.heap.size, 0, none⟩ 1 1 [.int .i64 i] rfl rfl ?c1 ?c2 ?c3 ?c4 ?c5 ?_
            case c1 => exact news_new _ _ rfl [.int .i64 i] _
            case c2 => simp [Value.oneCell']
            case c3 => unfold maxLen; omega
            case c4 => omega
            case c5 => exact hb7.size
            intro v' w1 hown1 hg1 hob
            obtain ⟨A5, c5, rfl, hs5, hA5, hz5, hf5⟩ := own_factsF (l := out ++ [(i : Int)]) (by simpa [gI] using hown1) (by simp) (by simp) (by simp; omega)
            have hB1 : Below wr.heap.size wr w1 := grown_below hb7 (hown.alloc _) (Nat.le_refl _) hg1
            have hk1 : KeepX bf wr w1 := KeepX.of_below hB1
            obtain ⟨vb, hvb⟩ := Lr.hf
            have L1 := Lr.keep hk1 (hvb.of_below hB1 hvb.lt)
            have ihc := IH.out (out ++ [(i : Int)]) (i + 1) A5 c5 w1 L1 hs5 (hf5.le (by have := Lr.low.size; omega)) (fun _ a ha => by have := hA5 a ha; have := hvb.lt; omega) hz5 (by simp; omega) (by omega)
            rw [show (out ++ [(i : Int)]).length = out.length + 1 by simp] at ihc ⊢
            rw [show ((i + 1 : Nat) : Int) = (i : Int) + 1 by omega, hr] at ihc
            have hC1 : C w1 := by
              rw [HC'.out]
              intro a ha
              simp only [List.mem_cons, List.not_mem_nil, or_false] at ha
              subst ha
              exact hB1.cell hbl
            have IHC := Lib.hid ihc
            have HK1 := Lib.hid hk1
            clear ihc hk1 hown1 hg1 hob hs5 hA5 hz5 hf5
            simp only [Act.put, List.setIfInBounds_toArray]
            refine hK.out _ _ hC1 ?_
            clear hK K
            refine wpSch_done rfl (fun K hK => ?_)
            go_simp
            refine IHC.out.mono ?_
            rintro e' W' ⟨rfl, hkx', v2, hv2, hs2⟩
            have HS2 := Lib.hid hs2
            clear hs2
            refine hK.out _ _ (noPanic_mk ?_)
            clear hK K IHC hC1 hvb
            simp only [Option.isSome_some]
            go_wp2
            go_ret
            exact ⟨by rw [HSX.out]; rfl, (hkx.trans HK1.out).trans hkx', v2, hv2, fun s' hs' => HS2.out s' (by rw [HSX.out] at hs'; exact hs')⟩
          · go_simp
            obtain ⟨W6, hW6⟩ : ∃ W6, W6 = (wr.alloc (.cells #[.int .i64 i] 3)).drew := ⟨_, rfl⟩
            have hb6 : Below wr.heap.size wr W6 := by rw [hW6]; exact gD (gA (Below.refl _ _))
            have hn6 : ∀ (j : Nat) (u : Value), ([.int .i64 i] : List Value)[j]? = some u → W6.cell? ((⟨wr.heap.size, 0, none⟩ : Addr).add j) = some u := fun j u hu => by
              have := news_new wr _ rfl [.int .i64 i] 3 j u hu
              rw [hW6]
              simpa [go_sem] using this
            rw [← hW6]
            clear hW6
            refine hK.out _ _ (by rw [HC'.out]; exact same_below hb6 (by simp; omega)) ?_
            clear hK K
            refine wpSch_one rfl (fun K hK => ?_)
            go_simp
            refine (clone_calls A c out _ (HOr.below hb6) (by omega) hz).mono ?_
            rintro e' w' ⟨A6, c6, rfl, ⟨z, rfl⟩, hown⟩
            have hb7 : Below wr.heap.size wr (later W6 z) := later_below hb6 hb6.size
            refine hK.out _ _ (by rw [HC'.out]; exact same_below hb7 (by simp; omega)) ?_
            clear hK K
            refine wpSch_one rfl (fun K hK => ?_)
            rw [if_pos (by rfl)]
            refine wp_append_own _ _ 47 rfl W6.heap.size 3 i0 (.int .i64 0) 1 8 Try.underlying47 hi0 hz0 hz1 hz2 rfl (by decide) _ _ _ rfl hown ⟨wr.heap.size, 0, none⟩ 1 1 [.int .i64 i] rfl rfl ?c1 ?c2 ?c3 ?c4 ?c5 ?_
            case c1 =>
              intro j u hu
              have := hn6 j u hu
              exact ((below_later W6 z).cell (World.block_lt_of_cell? W6 _ this)).trans this
            case c2 => simp [Value.oneCell']
            case c3 => unfold maxLen; omega
            case c4 => omega
            case c5 => exact size_later _ _
            intro v' w1 hown1 hg1 hob
            have hb6s := hb6.size
            obtain ⟨A5, c5, rfl, hs5, hA5, hz5, hf5⟩ := own_factsF (l := out ++ [(i : Int)]) (by simpa [gI] using hown1) (by simp) (by simp) (by simp; omega)
            have hB1 : Below wr.heap.size wr w1 := grown_below hb7 hown hb6s hg1
            have hk1 : KeepX bf wr w1 := KeepX.of_below hB1
            obtain ⟨vb, hvb⟩ := Lr.hf
            have L1 := Lr.keep hk1 (hvb.of_below hB1 hvb.lt)
            have ihc := IH.out (out ++ [(i : Int)]) (i + 1) A5 c5 w1 L1 hs5 (hf5.le (by have := Lr.low.size; omega)) (fun _ a ha => by have := hA5 a ha; have := hvb.lt; omega) hz5 (by simp; omega) (by omega)
            rw [show (out ++ [(i : Int)]).length = out.length + 1 by simp] at ihc ⊢
            rw [show ((i + 1 : Nat) : Int) = (i : Int) + 1 by omega, hr] at ihc
            have hC1 : C w1 := by
              rw [HC'.out]
              intro a ha
              simp only [List.mem_cons, List.not_mem_nil, or_false] at ha
              subst ha
              exact hB1.cell hbl
            have IHC := Lib.hid ihc
            have HK1 := Lib.hid hk1
            clear ihc hk1 hown1 hg1 hob hs5 hA5 hz5 hf5
            simp only [Act.put, List.setIfInBounds_toArray]
            refine hK.out _ _ hC1 ?_
            clear hK K
            refine wpSch_done rfl (fun K hK => ?_)
            go_simp
            refine IHC.out.mono ?_
            rintro e' W' ⟨rfl, hkx', v2, hv2, hs2⟩
            have HS2 := Lib.hid hs2
            clear hs2
            refine hK.out _ _ (noPanic_mk ?_)
            clear hK K IHC hC1 hvb
            simp only [Option.isSome_some]
            go_wp2
            go_ret
            exact ⟨by rw [HSX.out]; rfl, (hkx.trans HK1.out).trans hkx', v2, hv2, fun s' hs' => HS2.out s' (by rw [HSX.out] at hs'; exact hs')⟩
      · obtain rfl : k = cnt := by omega
        have hle : ¬ (i : Int) ≤ (h.clips.length : Int) - M := by have := HM.out; omega
        have HF := Lib.hid (show h.lv (m + 1) out frm = none by rw [HLV.out, HN.out])
        have HI := Lib.hid hi
        clear hi
        go_wp2
        go_ret
        obtain ⟨v, hv⟩ := Lr.hf
        exact ⟨by rw [HF.out]; rfl, hkx, v, hv, fun s hs => by rw [HF.out] at hs; cases hs⟩

set_option maxHeartbeats 2000000 in
theorem fr_leave (v : Value) (h : Hs) (w : World) (H : HsAt w v h) :
    Calls Try.prog 45 #[v] w (RetFr 1 gI 3 h.leaveL h.fault w) := by
  have H0 := H
  obtain ⟨A2, c2, A3, c3, A4, c4, rfl, H2, H3, H4⟩ := H
  by_cases hf : h.fault = 0
  · have hf1 : (h.fault != 0) = false := by simp [hf]
    have HF := Lib.hid hf
    have hp : h.clips.length ≤ 10 := (small_iff.1 (fault_zero hf).1).2.2
    obtain ⟨s0, hs0⟩ := leaveO_some (h := h) (fun r hr => (fault_clock hf hr).2.1)
    have HS0 := Lib.hid hs0
    have HL := Lib.hid (show h.leaveL = s0 by rw [Hs.leaveL, if_pos hf, hs0]; rfl)
    clear hf hs0
    go_enter Try.func45, Try.ntmps45
    go_wp2
    go_step3
    go_wp2_with (first
      | (go_at_call 70; refine (check_calls _ h _ ?hh).mono ?_; (case hh => exact H0.below (by repeat (first | exact Below.refl _ _ | (with_reducible assumption) | apply gL | apply gA | apply gD | apply gN | (refine gS ?_ (by first | (simp; done) | (simp; omega) | omega))))); (rintro e w' hr; first | ((with_reducible replace hr := Ret.up hr); obtain ⟨rfl, z, rfl⟩ := hr) | (obtain ⟨rfl, z, rfl⟩ := hr))))
    obtain ⟨bf, hbf⟩ : ∃ b, b = (later (w.alloc (.cells #[.int .i64 h.hour, .int .i64 h.grace, .slice A2 h.clocks.length c2, .slice A3 h.tickets.length c3, .slice A4 h.clips.length c4] 36)) z).heap.size := ⟨_, rfl⟩
    obtain ⟨W1, hW1⟩ : ∃ W1, W1 = ((later (w.alloc (.cells #[.int .i64 h.hour, .int .i64 h.grace, .slice A2 h.clocks.length c2, .slice A3 h.tickets.length c3, .slice A4 h.clips.length c4] 36)) z).alloc (.cells #[.slice none 0 0] 47)).alloc (.cells #[lvFn (later (w.alloc (.cells #[.int .i64 h.hour, .int .i64 h.grace, .slice A2 h.clocks.length c2, .slice A3 h.tickets.length c3, .slice A4 h.clips.length c4] 36)) z).heap.size w.heap.size ((later (w.alloc (.cells #[.int .i64 h.hour, .int .i64 h.grace, .slice A2 h.clocks.length c2, .slice A3 h.tickets.length c3, .slice A4 h.clips.length c4] 36)) z).heap.size + 1)] 134) := ⟨_, rfl⟩
    have hb1 : Below w.heap.size w W1 := by rw [hW1]; exact (by repeat (first | exact Below.refl _ _ | (with_reducible assumption) | apply gL | apply gA | apply gD | apply gN | (refine gS ?_ (by first | (simp; done) | (simp; omega) | omega))))
    have hlb : w.heap.size < bf := by
      have := size_later (w.alloc (.cells #[.int .i64 h.hour, .int .i64 h.grace, .slice A2 h.clocks.length c2, .slice A3 h.tickets.length c3, .slice A4 h.clips.length c4] 36)) z
      rw [hbf]
      simp at this ⊢
      omega
    have hBf : BlkAt W1 bf 47 [.slice none 0 0] := by rw [hW1, hbf]; exact (BlkAt.new _ _ _).alloc _
    have hBl : BlkAt W1 (bf + 1) 134 [lvFn bf w.heap.size (bf + 1)] := by
      rw [hW1, hbf]
      have := BlkAt.new ((later (w.alloc (.cells #[.int .i64 h.hour, .int .i64 h.grace, .slice A2 h.clocks.length c2, .slice A3 h.tickets.length c3, .slice A4 h.clips.length c4] 36)) z).alloc (.cells #[.slice none 0 0] 47)) 134 [lvFn (later (w.alloc (.cells #[.int .i64 h.hour, .int .i64 h.grace, .slice A2 h.clocks.length c2, .slice A3 h.tickets.length c3, .slice A4 h.clips.length c4] 36)) z).heap.size w.heap.size ((later (w.alloc (.cells #[.int .i64 h.hour, .int .i64 h.grace, .slice A2 h.clocks.length c2, .slice A3 h.tickets.length c3, .slice A4 h.clips.length c4] 36)) z).heap.size + 1)]
      rw [World.size_alloc] at this
      exact this
    have hBh : BlkAt W1 w.heap.size 36 [.int .i64 h.hour, .int .i64 h.grace, .slice A2 h.clocks.length c2, .slice A3 h.tickets.length c3, .slice A4 h.clips.length c4] := by
      rw [hW1]
      exact ((BlkAt.new w _ _).later.alloc _).alloc _
    unfold lvFn at hW1
    rw [← hW1]
    simp only [← hbf]
    clear hW1 hbf
    have L : LvAt h A2 c2 A3 c3 A4 c4 w bf w.heap.size (bf + 1) W1 := ⟨hb1, hBh, hBl, ⟨_, hBf⟩, by omega, by omega, by omega⟩
    have q4 := hBh.cell 4
    simp only [List.getElem?_cons_zero, List.getElem?_cons_succ] at q4
    have hq1 := hBh.lt
    have hpI : (h.clips.length : Int) ≤ 10 := by omega
    go_step3
    go_wp2
    go_loopw [18] (fun i wr => ∃ m : Nat, m ≤ h.clips.length + 1 ∧ i = .int .i64 m ∧ (List.range' 0 m).findSome? (fun m => h.lv m [] 0) = none ∧ KeepX bf W1 wr ∧ LvAt h A2 c2 A3 c3 A4 c4 w bf w.heap.size (bf + 1) wr) (fun i _ => h.clips.length + 1 - (intOf i).toNat)
    case atStart => exact ⟨0, Nat.zero_le _, rfl, rfl, KeepX.refl _ _, L⟩
    case round =>
      obtain ⟨m, hm, rfl, hnone, hkx, Lr⟩ := hrel
      have HN := Lib.hid hnone
      clear hnone
      by_cases hlt : m < h.clips.length + 1
      · have hlt1 : (m : Int) < (h.clips.length : Int) + 1 := by omega
        have hm0 : (0 : Int) ≤ (m : Int) := Int.natCast_nonneg _
        have ql := Lr.hl.cell 0
        simp only [List.getElem?_cons_zero] at ql
        unfold lvFn at ql
        have hbl := Lr.hl.lt
        have ihc := leave_inF h A2 c2 A3 c3 A4 c4 w bf w.heap.size (bf + 1) HF H0 m [] 0 none 0 wr Lr (SlA.nil _ _ _ _) (fun hh => absurd rfl hh) (fun hh => absurd rfl hh) (fun _ => rfl) (by simp; omega) (by omega)
        cases hr : h.lv m [] 0 with
        | none =>
          rw [hr] at ihc
          have IHC := Lib.hid ihc
          clear ihc
          go_wp2_with (fail)
          refine IHC.out.mono ?_
          rintro e' W' ⟨rfl, hkx', v2, hv2, hs2⟩
          clear hs2 IHC
          simp only [Option.isSome_none]
          go_wp2
          go_roundw
          case rel => exact ⟨m + 1, by omega, by go_num, find_next HN.out (by simpa using hr), hkx.trans hkx', Lr.keep hkx' hv2⟩
          case measure => simp [intOf]; omega
        | some s =>
          rw [hr] at ihc
          have IHC := Lib.hid ihc
          have hso : h.leaveO = some s := find_at hlt HN.out (by simpa using hr)
          obtain rfl : s = s0 := by rw [HS0.out] at hso; exact (Option.some.inj hso).symm
          clear ihc hso
          go_wp2_with (fail)
          refine IHC.out.mono ?_
          rintro e' W' ⟨rfl, hkx', v2, hv2, hs2⟩
          obtain ⟨A5, c5, rfl, hs5, hf5⟩ := hs2 s rfl
          clear hs2 IHC
          simp only [Option.isSome_some]
          have f0 := hv2.cell 0
          simp only [List.getElem?_cons_zero] at f0
          go_wp2
          rw [Exit.noGoto_ret]
          go_ret2
          exact ⟨A5, c5, by rw [HL.out, HF.out]; rfl, later_ex (hkx'.low Lr.low (by omega) Lr.low.size), by rw [HL.out]; exact hs5, by rw [HL.out]; exact hf5⟩
      · exfalso
        obtain rfl : m = h.clips.length + 1 := by omega
        have h1 := HS0.out
        rw [Hs.leaveO, HN.out] at h1
        cases h1
  · have hf1 : (h.fault != 0) = true := by simpa using hf
    have HL := Lib.hid (show h.leaveL = [] by simp [Hs.leaveL, hf])
    clear hf
    go_enter Try.func45, Try.ntmps45
    go_wp2
    go_step3
    go_wp2_with (first
      | (go_at_call 70; refine (check_calls _ h _ ?hh).mono ?_; (case hh => exact H0.below (by repeat (first | exact Below.refl _ _ | (with_reducible assumption) | apply gL | apply gA | apply gD | apply gN | (refine gS ?_ (by first | (simp; done) | (simp; omega) | omega))))); (rintro e w' hr; first | ((with_reducible replace hr := Ret.up hr); obtain ⟨rfl, z, rfl⟩ := hr) | (obtain ⟨rfl, z, rfl⟩ := hr))))
    rw [Exit.noGoto_ret]
    go_ret2
    exact retFr_nil HL.out rfl (by repeat (first | exact Below.refl _ _ | (with_reducible assumption) | apply gL | apply gA | apply gD | apply gN | (refine gS ?_ (by first | (simp; done) | (simp; omega) | omega))))
end Go.Proofs.Ytcngnfnljkkjgaa
