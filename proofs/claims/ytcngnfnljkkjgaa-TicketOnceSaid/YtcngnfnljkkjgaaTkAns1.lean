/-
The bounds of the errors of all clocks, of the hours of all tickets.
-/
import Derived.Test.YtcngnfnljkkjgaaTkWork4
namespace Go.Proofs.Ytcngnfnljkkjgaa
open Go.RowKit
attribute [local go_sem] cell_later frozen_later lt_later le_later

theorem askE_zero {h : Hs} {due : Int} (ha : h.askE due = 0) : h.fault = 0 ∧ due = 0 ∧ h.truths ≠ [] := by
  unfold Hs.askE at ha
  by_cases h1 : h.fault = 0
  · by_cases h2 : due = 0
    · by_cases h3 : h.truths = []
      · simp [h1, h2, h3] at ha
      · exact ⟨h1, h2, h3⟩
    · simp [h1, h2] at ha
  · simp [h1] at ha

theorem asked_bad (v : Value) (h : Hs) (due : Int) (w : World) (H : HsAt w v h) (ha : h.askE due ≠ 0) :
    Calls Try.prog 79 #[v, .int .i64 due] w (Ret (.tuple #[.pointer none, .int .i64 (h.askE due)]) w) :=
  (asked_calls v h due w H).mono fun e w' hr => by
    obtain ⟨hx, (⟨-, he⟩ | ⟨h0, -⟩)⟩ := hr
    · exact ⟨he, hx⟩
    · exact absurd h0 ha
def RetWk (h : Hs) (w : World) (e : Ending) (w' : World) : Prop := ∃ g, e = .returned (.tuple #[.pointer (some ⟨g, 0, none⟩), .int .i64 0]) ∧ (∃ x, w' = later w x) ∧ WkAt w' g h
theorem RetWk.up {h : Hs} {w x w' : World} {e : Ending} (H : RetWk h (later w x) e w') : RetWk h w e w' := by
  obtain ⟨g, he, ⟨y, rfl⟩, hk⟩ := H
  exact ⟨g, he, later_ex (later_below (below_later w x) (size_later w x)), hk⟩
theorem asked_ok (v : Value) (h : Hs) (due : Int) (w : World) (H : HsAt w v h) (ha : h.askE due = 0) :
    Calls Try.prog 79 #[v, .int .i64 due] w (RetWk h w) :=
  (asked_calls v h due w H).mono fun e w' hr => by
    obtain ⟨hx, (⟨h0, -⟩ | ⟨-, g, he, hk⟩)⟩ := hr
    · exact absurd ha h0
    · exact ⟨g, he, hx, hk⟩

theorem infoRange : (Try.prog.info? 42).map (fun i => (i.zero, i.size, i.bytes)) = some (some (.agg #[.int .i64 0, .int .i64 0]), 2, 16) := by kernel_rfl

def Hs.clockR (h : Hs) (i : Nat) : Rg := ⟨loB h.truths fun e => err e i, hiB h.truths fun e => err e i⟩
def Hs.hourR (h : Hs) (i : Nat) : Rg := ⟨loB h.truths fun e => h.hoursB e i, hiB h.truths fun e => h.hoursB e i⟩
def Hs.clocksL (h : Hs) : List Rg := if h.askE 0 = 0 then (List.range h.clocks.length).map h.clockR else []
def Hs.hoursL (h : Hs) : List Rg := if h.askE 0 = 0 then (List.range h.tickets.length).map h.hourR else []
theorem range_snoc {α : Type} (f : Nat → α) (k : Nat) : (List.range (k + 1)).map f = (List.range k).map f ++ [f k] := by
  rw [List.range_succ, List.map_append]; rfl
theorem truth_ok {h : Hs} (hf : h.fault = 0) {e : List Int} (he : e ∈ h.truths) : ErrOk e := prods_ok (fun _ hr => fault_clock hf hr) (List.mem_filter.1 he).1

set_option maxHeartbeats 2000000 in
theorem clocks_calls (v : Value) (h : Hs) (w : World) (H : HsAt w v h) :
    Calls Try.prog 24 #[v] w (RetSlN 2 gR h.clocksL (h.askE 0) w) := by
  have H0 := H
  obtain ⟨A2, c2, A3, c3, A4, c4, rfl, H2, H3, H4⟩ := H
  by_cases ha : h.askE 0 = 0
  · obtain ⟨hf, -, hne⟩ := askE_zero ha
    have hlen : h.clocks.length ≤ 6 := by have := (small_iff.1 (fault_zero hf).1).1; omega
    have HL := Lib.hid (show h.clocksL = (List.range h.clocks.length).map h.clockR by rw [Hs.clocksL, if_pos ha])
    have HA := Lib.hid ha
    have HF := Lib.hid hf
    have HNE := Lib.hid hne
    obtain ⟨i0, hi, hz0, hz1, hz2⟩ := info_parts infoRange
    have hc4 : h.clocks.length ≤ 4 := (small_iff.1 (fault_zero hf).1).1
    clear ha hf hne
    go_enter Try.func24, Try.ntmps24
    go_wp2_with (first | (go_at_call 79; refine (asked_ok _ h 0 _ ?hh HA.out).mono ?_; (case hh => exact H0.below (by repeat (first | exact Below.refl _ _ | (with_reducible assumption) | apply gL | apply gA | apply gD | apply gN | (refine gS ?_ (by first | (simp; done) | (simp; omega) | omega))))); (rintro e w' hr; (first | (with_reducible replace hr := RetWk.up hr) | skip); obtain ⟨g, rfl, ⟨z, rfl⟩, hwk⟩ := hr)))
    obtain ⟨W1, hW1⟩ : ∃ W1, W1 = later (w.alloc (.cells #[.int .i64 h.hour, .int .i64 h.grace, .slice A2 h.clocks.length c2, .slice A3 h.tickets.length c3, .slice A4 h.clips.length c4] 36)) z := ⟨_, rfl⟩
    have hb1 : Below w.heap.size w W1 := by rw [hW1]; exact (by repeat (first | exact Below.refl _ _ | (with_reducible assumption) | apply gL | apply gA | apply gD | apply gN | (refine gS ?_ (by first | (simp; done) | (simp; omega) | omega))))
    rw [← hW1] at hwk ⊢
    clear hW1
    go_loopw [6, 19] (fun v i wr => ∃ k : Nat, k ≤ h.clocks.length ∧ i = .int .i64 k ∧ Below W1.heap.size W1 wr ∧ wr.ownsRow W1.heap.size 42 2 v k (((List.range k).map h.clockR).flatMap gR)) (fun _ i _ => h.clocks.length - (intOf i).toNat)
    case atStart => exact ⟨0, Nat.zero_le _, rfl, Below.refl _ _, World.ownsRow_nil _ _ _ _⟩
    case round =>
      obtain ⟨k, hk, rfl, hb, hown⟩ := hrel
      have hbw : Below w.heap.size w wr := hb1.trans (hb.mono hb1.size)
      by_cases hlt : k < h.clocks.length
      · have hlt1 : (k : Int) < (h.clocks.length : Int) := by omega
        have hk0 : (0 : Int) ≤ (k : Int) := Int.natCast_nonneg _
        have hwk' := hwk.below hb
        have hcall := bounds_off g h k (fun e => err e k) wr hwk' HF HNE (Lib.hid (fun x e' _ _ _ _ hm he hbx => workoff_calls _ e' (Lib.hid he) k x (by omega) (by omega)))
        obtain ⟨R, hR⟩ : ∃ R, R = h.clockR k := ⟨_, rfl⟩
        have hRl : R.lo = loB h.truths (fun e => err e k) := by rw [hR]; rfl
        have hRh : R.hi = hiB h.truths (fun e => err e k) := by rw [hR]; rfl
        rw [← hRl, ← hRh] at hcall
        have HS := Lib.hid (show (List.range (k + 1)).map h.clockR = (List.range k).map h.clockR ++ [R] by rw [range_snoc, hR])
        have HCA := Lib.hid hcall
        clear hcall hR hRl hRh
        go_wp2_with (first
          | (go_at_call 81; refine HCA.out.mono ?_; (rintro e w' hr; first | ((with_reducible replace hr := Ret.up hr); obtain ⟨rfl, z, rfl⟩ := hr) | (obtain ⟨rfl, z, rfl⟩ := hr)))
          | (at_builtin; refine wpList_append_own _ rfl _ _ 29 rfl W1.heap.size 42 i0 (.agg #[.int .i64 0, .int .i64 0]) 2 16 Try.underlying29 hi hz0 hz1 hz2 rfl (by decide) _ _ _ rfl ((own_later hown).alloc _) ⟨(later wr z).heap.size, 0, none⟩ 1 1 (gR R) rfl rfl ?c1 ?c2 ?c3 ?c4 ?c5 ?_))
        case c1 => exact news_new _ _ rfl (gR R) _
        case c2 => simp [gR, Value.oneCell']
        case c3 => unfold maxLen; omega
        case c4 => omega
        case c5 => have := hb.size; have := size_later wr z; simp; omega
        intro v' w1 hown1 hg1 _
        have hb2 := grown_below (w := W1) (by exact gA (later_below hb hb.size)) ((own_later (x := z) hown).alloc (.cells #[.int .i64 R.lo, .int .i64 R.hi] 42)) (Nat.le_refl _) hg1
        go_wp2
        go_roundw
        case rel => exact ⟨k + 1, by omega, by go_num, hb2, by rw [HS.out]; simpa using hown1⟩
        case measure => simp [intOf]; omega
      · obtain rfl : k = h.clocks.length := by omega
        go_wp2
        obtain ⟨A, c, rfl, hs⟩ := SlA.of_own (k := 2) (g := gR) (l := (List.range h.clocks.length).map h.clockR) hown (fun _ _ => rfl) (by simp) (by omega)
        go_ret2
        exact ⟨A, c, by rw [HL.out, HA.out]; rfl, later_ex hbw, by rw [HL.out]; exact hs⟩
  · have HE := Lib.hid ha
    have hb : (h.askE 0 != 0) = true := by simpa using ha
    have HL := Lib.hid (show h.clocksL = [] by rw [Hs.clocksL, if_neg ha])
    go_enter Try.func24, Try.ntmps24
    go_wp2_with (first | (go_at_call 79; refine (asked_bad _ h 0 _ ?hh HE.out).mono ?_; (case hh => exact H0.below (by repeat (first | exact Below.refl _ _ | (with_reducible assumption) | apply gL | apply gA | apply gD | apply gN | (refine gS ?_ (by first | (simp; done) | (simp; omega) | omega))))); (rintro e w' hr; first | ((with_reducible replace hr := Ret.up hr); obtain ⟨rfl, z, rfl⟩ := hr) | (obtain ⟨rfl, z, rfl⟩ := hr))))
    go_ret2
    exact retSlN_nil HL.out rfl (by repeat (first | exact Below.refl _ _ | (with_reducible assumption) | apply gL | apply gA | apply gD | apply gN | (refine gS ?_ (by first | (simp; done) | (simp; omega) | omega))))
set_option maxHeartbeats 2000000 in
theorem hours_all_calls (v : Value) (h : Hs) (w : World) (H : HsAt w v h) :
    Calls Try.prog 26 #[v] w (RetSlN 2 gR h.hoursL (h.askE 0) w) := by
  have H0 := H
  obtain ⟨A2, c2, A3, c3, A4, c4, rfl, H2, H3, H4⟩ := H
  by_cases ha : h.askE 0 = 0
  · obtain ⟨hf, -, hne⟩ := askE_zero ha
    have hlen : h.tickets.length ≤ 6 := (small_iff.1 (fault_zero hf).1).2.1
    have HL := Lib.hid (show h.hoursL = (List.range h.tickets.length).map h.hourR by rw [Hs.hoursL, if_pos ha])
    have HA := Lib.hid ha
    have HF := Lib.hid hf
    have HNE := Lib.hid hne
    obtain ⟨i0, hi, hz0, hz1, hz2⟩ := info_parts infoRange
    have hc4 : h.clocks.length ≤ 4 := (small_iff.1 (fault_zero hf).1).1
    clear ha hf hne
    go_enter Try.func26, Try.ntmps26
    go_wp2_with (first | (go_at_call 79; refine (asked_ok _ h 0 _ ?hh HA.out).mono ?_; (case hh => exact H0.below (by repeat (first | exact Below.refl _ _ | (with_reducible assumption) | apply gL | apply gA | apply gD | apply gN | (refine gS ?_ (by first | (simp; done) | (simp; omega) | omega))))); (rintro e w' hr; (first | (with_reducible replace hr := RetWk.up hr) | skip); obtain ⟨g, rfl, ⟨z, rfl⟩, hwk⟩ := hr)))
    obtain ⟨W1, hW1⟩ : ∃ W1, W1 = later (w.alloc (.cells #[.int .i64 h.hour, .int .i64 h.grace, .slice A2 h.clocks.length c2, .slice A3 h.tickets.length c3, .slice A4 h.clips.length c4] 36)) z := ⟨_, rfl⟩
    have hb1 : Below w.heap.size w W1 := by rw [hW1]; exact (by repeat (first | exact Below.refl _ _ | (with_reducible assumption) | apply gL | apply gA | apply gD | apply gN | (refine gS ?_ (by first | (simp; done) | (simp; omega) | omega))))
    rw [← hW1] at hwk ⊢
    clear hW1
    go_loopw [6, 19] (fun v i wr => ∃ k : Nat, k ≤ h.tickets.length ∧ i = .int .i64 k ∧ Below W1.heap.size W1 wr ∧ wr.ownsRow W1.heap.size 42 2 v k (((List.range k).map h.hourR).flatMap gR)) (fun _ i _ => h.tickets.length - (intOf i).toNat)
    case atStart => exact ⟨0, Nat.zero_le _, rfl, Below.refl _ _, World.ownsRow_nil _ _ _ _⟩
    case round =>
      obtain ⟨k, hk, rfl, hb, hown⟩ := hrel
      have hbw : Below w.heap.size w wr := hb1.trans (hb.mono hb1.size)
      by_cases hlt : k < h.tickets.length
      · have hlt1 : (k : Int) < (h.tickets.length : Int) := by omega
        have hk0 : (0 : Int) ≤ (k : Int) := Int.natCast_nonneg _
        have hwk' := hwk.below hb
        have hcall := bounds_hours g h k (fun e => h.hoursB e k) wr hwk' HF HNE (Lib.hid (fun x e' _ _ _ _ hm he hbx => hours_calls g h e' (Lib.hid he) (Lib.hid (truth_ok HF.out hm)) k x (hwk'.below hbx) HF))
        obtain ⟨R, hR⟩ : ∃ R, R = h.hourR k := ⟨_, rfl⟩
        have hRl : R.lo = loB h.truths (fun e => h.hoursB e k) := by rw [hR]; rfl
        have hRh : R.hi = hiB h.truths (fun e => h.hoursB e k) := by rw [hR]; rfl
        rw [← hRl, ← hRh] at hcall
        have HS := Lib.hid (show (List.range (k + 1)).map h.hourR = (List.range k).map h.hourR ++ [R] by rw [range_snoc, hR])
        have HCA := Lib.hid hcall
        clear hcall hR hRl hRh
        go_wp2_with (first
          | (go_at_call 81; refine HCA.out.mono ?_; (rintro e w' hr; first | ((with_reducible replace hr := Ret.up hr); obtain ⟨rfl, z, rfl⟩ := hr) | (obtain ⟨rfl, z, rfl⟩ := hr)))
          | (at_builtin; refine wpList_append_own _ rfl _ _ 29 rfl W1.heap.size 42 i0 (.agg #[.int .i64 0, .int .i64 0]) 2 16 Try.underlying29 hi hz0 hz1 hz2 rfl (by decide) _ _ _ rfl ((own_later hown).alloc _) ⟨(later wr z).heap.size, 0, none⟩ 1 1 (gR R) rfl rfl ?c1 ?c2 ?c3 ?c4 ?c5 ?_))
        case c1 => exact news_new _ _ rfl (gR R) _
        case c2 => simp [gR, Value.oneCell']
        case c3 => unfold maxLen; omega
        case c4 => omega
        case c5 => have := hb.size; have := size_later wr z; simp; omega
        intro v' w1 hown1 hg1 _
        have hb2 := grown_below (w := W1) (by exact gA (later_below hb hb.size)) ((own_later (x := z) hown).alloc (.cells #[.int .i64 R.lo, .int .i64 R.hi] 42)) (Nat.le_refl _) hg1
        go_wp2
        go_roundw
        case rel => exact ⟨k + 1, by omega, by go_num, hb2, by rw [HS.out]; simpa using hown1⟩
        case measure => simp [intOf]; omega
      · obtain rfl : k = h.tickets.length := by omega
        go_wp2
        obtain ⟨A, c, rfl, hs⟩ := SlA.of_own (k := 2) (g := gR) (l := (List.range h.tickets.length).map h.hourR) hown (fun _ _ => rfl) (by simp) (by omega)
        go_ret2
        exact ⟨A, c, by rw [HL.out, HA.out]; rfl, later_ex hbw, by rw [HL.out]; exact hs⟩
  · have HE := Lib.hid ha
    have hb : (h.askE 0 != 0) = true := by simpa using ha
    have HL := Lib.hid (show h.hoursL = [] by rw [Hs.hoursL, if_neg ha])
    go_enter Try.func26, Try.ntmps26
    go_wp2_with (first | (go_at_call 79; refine (asked_bad _ h 0 _ ?hh HE.out).mono ?_; (case hh => exact H0.below (by repeat (first | exact Below.refl _ _ | (with_reducible assumption) | apply gL | apply gA | apply gD | apply gN | (refine gS ?_ (by first | (simp; done) | (simp; omega) | omega))))); (rintro e w' hr; first | ((with_reducible replace hr := Ret.up hr); obtain ⟨rfl, z, rfl⟩ := hr) | (obtain ⟨rfl, z, rfl⟩ := hr))))
    go_ret2
    exact retSlN_nil HL.out rfl (by repeat (first | exact Below.refl _ _ | (with_reducible assumption) | apply gL | apply gA | apply gD | apply gN | (refine gS ?_ (by first | (simp; done) | (simp; omega) | omega))))
end Go.Proofs.Ytcngnfnljkkjgaa
