/-
The minimum of two numbers by the library, the range that has one number more, and lists tested by a function.
A list of ranges tested by a function: each has errors of a clock.
A list of tickets tested by a function: each is valid.
A list of clips tested by a function: each is one of the house.
-/
import Derived.Test.YtcngnfnljkkjgaaCmA
import Derived.Deep.RegionHeld3
namespace Go.Proofs.Ytcngnfnljkkjgaa
open Go.RowKit
attribute [local go_sem] cell_later frozen_later lt_later le_later

theorem slicesMin_calls (A : Option Addr) (c : Nat) (a b : Int) (w : World) (H : SlA w 1 gI A c [a, b]) :
    Calls Try.prog 133 #[.slice A 2 c] w (Ret (.int .i64 (min a b)) w) := by
  have hc1 := H.1
  have hc2 := H.2.1
  obtain ⟨g, off, x, rfl, hb, hx, h1⟩ := H.atI (i := 0) (by simp)
  obtain ⟨g', off', y, he, hb', hy, h2⟩ := H.atI (i := 1) (by simp)
  cases he
  cases hx
  cases hy
  simp only [Nat.add_zero] at h1
  have hm : (if b < a then b else a) = min a b := by omega
  have HM := Lib.hid hm
  clear hm
  go_enter Try.func133, Try.ntmps133
  go_wp2
  go_loop [3, 4] (fun m i => (m = .int .i64 a ∧ i = .int .i64 1) ∨ (m = .int .i64 (min a b) ∧ i = .int .i64 2)) (fun _ i => 2 - (intOf i).toNat)
  case atStart => exact .inl ⟨rfl, rfl⟩
  case round =>
    rcases hrel with ⟨rfl, rfl⟩ | ⟨rfl, rfl⟩
    · by_cases hlt : b < a
      · go_wp2
        go_round
        case rel => exact .inr ⟨by rw [← HM.out, if_pos hlt], rfl⟩
        case measure => simp [intOf]
      · go_wp2
        go_round
        case rel => exact .inr ⟨by rw [← HM.out, if_neg hlt], rfl⟩
        case measure => simp [intOf]
    · go_wp2
      go_ret
      exact ret_mk rfl (by repeat (first | exact Below.refl _ _ | (with_reducible assumption) | apply gL | apply gA | apply gD | apply gN | (refine gS ?_ (by first | (simp; done) | (simp; omega) | omega))))

theorem minimum_calls (A : Option Addr) (c : Nat) (a b : Int) (w : World) (H : SlA w 1 gI A c [a, b]) :
    Calls Try.prog 120 #[.slice A 2 c] w (Ret (.int .i64 (min a b)) w) := by
  go_enter Try.func120, Try.ntmps120
  go_wp2_with (go_at_call 133; refine (slicesMin_calls _ _ _ _ _ H).mono ?_; rintro e w' ⟨rfl, x, rfl⟩)
  go_ret
  exact ret_mk rfl (by repeat (first | exact Below.refl _ _ | (with_reducible assumption) | apply gL | apply gA | apply gD | apply gN | (refine gS ?_ (by first | (simp; done) | (simp; omega) | omega))))

theorem sl2_of {w : World} {g : Nat} {a b : Int} {c : Nat} (h0 : w.cell? ⟨g, 0, none⟩ = some (.int .i64 a)) (h1 : w.cell? ⟨g, 1, none⟩ = some (.int .i64 b)) (hc : 2 ≤ c) : SlA w 1 gI (some ⟨g, 0, none⟩) c [a, b] :=
  ⟨hc, by simp, fun _ => ⟨g, 0, rfl, World.block_lt_of_cell? w _ h0, fun i x hx j u hu => by
    match i, hx with
    | 0, hx => cases hx; match j, hu with | 0, hu => cases hu; simpa using h0
    | 1, hx => cases hx; match j, hu with | 0, hu => cases hu; simpa using h1⟩⟩

theorem wider_calls (lo hi n : Int) (w : World) : Calls Try.prog 123 #[.agg #[.int .i64 lo, .int .i64 hi], .int .i64 n] w (Ret (.agg #[.int .i64 (min lo n), .int .i64 (max hi n)]) w) := by
  have hm : (if hi < n then n else hi) = max hi n := by omega
  go_enter Try.func123, Try.ntmps123
  go_wp2
  go_region_held3 (fun W => W.cell? ⟨w.heap.size, 0, none⟩ = some (.int .i64 lo) ∧ W.cell? ⟨w.heap.size, 1, none⟩ = some (.int .i64 hi))
    (first | go_keep | (go_split_ands; simp [*, go_sem]))
    (first | (go_at_call 120; refine (minimum_calls _ _ lo n _ ?hs).mono ?_; (case hs => exact sl2_of (by simp [go_sem]) (by simp [go_sem]) (by omega)); rintro e w' ⟨rfl, x, rfl⟩))
  all_goals
    go_wp2
    refine bodyPost_ret (v := .agg #[.int .i64 (min lo n), .int .i64 (max hi n)]) ?hr rfl (ret_mk rfl (by repeat (first | exact Below.refl _ _ | (with_reducible assumption) | apply gL | apply gA | apply gD | apply gN | (refine gS ?_ (by first | (simp; done) | (simp; omega) | omega)))))
    case hr => simp [results, Try.results123, go_sem]
end Go.Proofs.Ytcngnfnljkkjgaa
namespace Go.Proofs.Ytcngnfnljkkjgaa
open Go.RowKit
attribute [local go_sem] cell_later frozen_later lt_later le_later

theorem allRd_calls (x : Rg) (g : Nat) (w : World) (hg : w.cell? ⟨g, 0, none⟩ = some (.func (.func 115) #[] #[])) :
    Calls Try.prog 128 #[.agg #[.int .i64 x.lo, .int .i64 x.hi], .pointer (some ⟨g, 0, none⟩)] w (Ret (.bool (!x.offB)) w) := by
  have hlt := World.block_lt_of_cell? w _ hg
  go_enter Try.func128, Try.ntmps128
  go_wp2_with (go_at_call 115; refine (off_calls _ _ _).mono ?_; rintro e w' ⟨rfl, y, rfl⟩)
  go_ret
  exact ret_mk rfl (by repeat (first | exact Below.refl _ _ | (with_reducible assumption) | apply gL | apply gA | apply gD | apply gN | (refine gS ?_ (by first | (simp; done) | (simp; omega) | omega))))

set_option maxHeartbeats 400000 in
theorem indexR_calls (A : Option Addr) (c : Nat) (l : List Rg) (g : Nat) (w : World) (H : SlA w 2 gR A c l) (hg : w.cell? ⟨g, 0, none⟩ = some (.func (.func 115) #[] #[])) :
    Calls Try.prog 137 #[.slice A l.length c, .func (.func 128) #[] #[.pointer (some ⟨g, 0, none⟩)]] w (Ret (.int .i64 (idxP Rg.offB l)) w) := by
  have hc1 := H.1
  have hc2 := H.2.1
  have hlt := World.block_lt_of_cell? w _ hg
  go_enter Try.func137, Try.ntmps137
  go_wp2
  go_loopw [5, 8] (fun _ i wr => (∃ x, wr = later w x) ∧ ∃ k : Nat, k ≤ l.length ∧ i = .int .i64 k ∧ ∀ j, j < k → ∀ y, l[j]? = some y → y.offB = true) (fun _ i _ => l.length - (intOf i).toNat)
  case atStart => exact ⟨later_ex (Below.refl _ _), 0, Nat.zero_le _, rfl, fun j h => by omega⟩
  case round =>
    obtain ⟨⟨z, rfl⟩, k, hk, rfl, hj⟩ := hrel
    have HJ := Lib.hid hj
    clear hj
    by_cases hlt : k < l.length
    · obtain ⟨b, off, x, rfl, hb, hx, h1, h2⟩ := H.atR hlt
      have HX := Lib.hid hx
      clear hx
      by_cases he : x.offB = true
      · go_wp2_with (go_at_call 128; refine (allRd_calls x _ _ ?hg).mono ?_; (case hg => exact (cell_later (by assumption)).trans hg); rintro e w' ⟨rfl, y, rfl⟩)
        go_roundw
        case rel => exact ⟨later_ex (by repeat (first | exact Below.refl _ _ | (with_reducible assumption) | apply gL | apply gA | apply gD | apply gN | (refine gS ?_ (by first | (simp; done) | (simp; omega) | omega)))), k + 1, by omega, by go_num, fun j hj y hy => by
          rcases Nat.lt_or_ge j k with h | h
          · exact HJ.out j h y hy
          · obtain rfl : j = k := by omega
            rw [HX.out] at hy
            cases hy
            exact he⟩
        case measure => simp [intOf]; omega
      · have he : x.offB = false := by simpa using he
        go_wp2_with (go_at_call 128; refine (allRd_calls x _ _ ?hg).mono ?_; (case hg => exact (cell_later (by assumption)).trans hg); rintro e w' ⟨rfl, y, rfl⟩)
        go_ret
        exact ret_mk (ret_int (idxP_at HX.out he HJ.out).symm) (by repeat (first | exact Below.refl _ _ | (with_reducible assumption) | apply gL | apply gA | apply gD | apply gN | (refine gS ?_ (by first | (simp; done) | (simp; omega) | omega))))
    · obtain rfl : k = l.length := by omega
      go_wp2
      go_ret
      exact ret_mk (ret_int (idxP_no HJ.out).symm) (by repeat (first | exact Below.refl _ _ | (with_reducible assumption) | apply gL | apply gA | apply gD | apply gN | (refine gS ?_ (by first | (simp; done) | (simp; omega) | omega))))

theorem containsR_calls (A : Option Addr) (c : Nat) (l : List Rg) (g : Nat) (w : World) (H : SlA w 2 gR A c l) (hg : w.cell? ⟨g, 0, none⟩ = some (.func (.func 115) #[] #[])) :
    Calls Try.prog 127 #[.slice A l.length c, .func (.func 128) #[] #[.pointer (some ⟨g, 0, none⟩)]] w (Ret (.bool (decide (0 ≤ idxP Rg.offB l))) w) := by
  go_enter Try.func127, Try.ntmps127
  go_wp2_with (go_at_call 137; refine (indexR_calls _ _ _ _ _ H hg).mono ?_; rintro e w' ⟨rfl, x, rfl⟩)
  go_ret
  exact ret_mk rfl (by repeat (first | exact Below.refl _ _ | (with_reducible assumption) | apply gL | apply gA | apply gD | apply gN | (refine gS ?_ (by first | (simp; done) | (simp; omega) | omega))))

theorem allR_calls (A : Option Addr) (c : Nat) (l : List Rg) (w : World) (H : SlA w 2 gR A c l) :
    Calls Try.prog 114 #[.slice A l.length c, .func (.func 115) #[] #[]] w (Ret (.bool (l.all Rg.offB)) w) := by
  have HF := Lib.hid (idxP_all Rg.offB l)
  go_enter Try.func114, Try.ntmps114
  go_wp2_with (go_at_call 127; refine (containsR_calls _ _ l _ _ ?hs ?hg).mono ?_; (case hs => exact H.below (by repeat (first | exact Below.refl _ _ | (with_reducible assumption) | apply gL | apply gA | apply gD | apply gN | (refine gS ?_ (by first | (simp; done) | (simp; omega) | omega))))); (case hg => simp [go_sem]); rintro e w' ⟨rfl, x, rfl⟩)
  go_ret
  exact ret_mk (ret_bool HF.out) (by repeat (first | exact Below.refl _ _ | (with_reducible assumption) | apply gL | apply gA | apply gD | apply gN | (refine gS ?_ (by first | (simp; done) | (simp; omega) | omega))))
end Go.Proofs.Ytcngnfnljkkjgaa
namespace Go.Proofs.Ytcngnfnljkkjgaa
open Go.RowKit
attribute [local go_sem] cell_later frozen_later lt_later le_later

theorem allTd_calls (x : Tk) (g : Nat) (w : World) (hg : w.cell? ⟨g, 0, none⟩ = some (.func (.func 117) #[] #[])) :
    Calls Try.prog 130 #[.agg #[.int .i64 x.tub, .int .i64 x.hours], .pointer (some ⟨g, 0, none⟩)] w (Ret (.bool (!x.validB)) w) := by
  have hlt := World.block_lt_of_cell? w _ hg
  go_enter Try.func130, Try.ntmps130
  go_wp2_with (go_at_call 117; refine (valid_calls _ _ _).mono ?_; rintro e w' ⟨rfl, y, rfl⟩)
  go_ret
  exact ret_mk rfl (by repeat (first | exact Below.refl _ _ | (with_reducible assumption) | apply gL | apply gA | apply gD | apply gN | (refine gS ?_ (by first | (simp; done) | (simp; omega) | omega))))

set_option maxHeartbeats 400000 in
theorem indexT_calls (A : Option Addr) (c : Nat) (l : List Tk) (g : Nat) (w : World) (H : SlA w 2 gT A c l) (hg : w.cell? ⟨g, 0, none⟩ = some (.func (.func 117) #[] #[])) :
    Calls Try.prog 138 #[.slice A l.length c, .func (.func 130) #[] #[.pointer (some ⟨g, 0, none⟩)]] w (Ret (.int .i64 (idxP Tk.validB l)) w) := by
  have hc1 := H.1
  have hc2 := H.2.1
  have hlt := World.block_lt_of_cell? w _ hg
  go_enter Try.func138, Try.ntmps138
  go_wp2
  go_loopw [5, 8] (fun _ i wr => (∃ x, wr = later w x) ∧ ∃ k : Nat, k ≤ l.length ∧ i = .int .i64 k ∧ ∀ j, j < k → ∀ y, l[j]? = some y → y.validB = true) (fun _ i _ => l.length - (intOf i).toNat)
  case atStart => exact ⟨later_ex (Below.refl _ _), 0, Nat.zero_le _, rfl, fun j h => by omega⟩
  case round =>
    obtain ⟨⟨z, rfl⟩, k, hk, rfl, hj⟩ := hrel
    have HJ := Lib.hid hj
    clear hj
    by_cases hlt : k < l.length
    · obtain ⟨b, off, x, rfl, hb, hx, h1, h2⟩ := H.atT hlt
      have HX := Lib.hid hx
      clear hx
      by_cases he : x.validB = true
      · go_wp2_with (go_at_call 130; refine (allTd_calls x _ _ ?hg).mono ?_; (case hg => exact (cell_later (by assumption)).trans hg); rintro e w' ⟨rfl, y, rfl⟩)
        go_roundw
        case rel => exact ⟨later_ex (by repeat (first | exact Below.refl _ _ | (with_reducible assumption) | apply gL | apply gA | apply gD | apply gN | (refine gS ?_ (by first | (simp; done) | (simp; omega) | omega)))), k + 1, by omega, by go_num, fun j hj y hy => by
          rcases Nat.lt_or_ge j k with h | h
          · exact HJ.out j h y hy
          · obtain rfl : j = k := by omega
            rw [HX.out] at hy
            cases hy
            exact he⟩
        case measure => simp [intOf]; omega
      · have he : x.validB = false := by simpa using he
        go_wp2_with (go_at_call 130; refine (allTd_calls x _ _ ?hg).mono ?_; (case hg => exact (cell_later (by assumption)).trans hg); rintro e w' ⟨rfl, y, rfl⟩)
        go_ret
        exact ret_mk (ret_int (idxP_at HX.out he HJ.out).symm) (by repeat (first | exact Below.refl _ _ | (with_reducible assumption) | apply gL | apply gA | apply gD | apply gN | (refine gS ?_ (by first | (simp; done) | (simp; omega) | omega))))
    · obtain rfl : k = l.length := by omega
      go_wp2
      go_ret
      exact ret_mk (ret_int (idxP_no HJ.out).symm) (by repeat (first | exact Below.refl _ _ | (with_reducible assumption) | apply gL | apply gA | apply gD | apply gN | (refine gS ?_ (by first | (simp; done) | (simp; omega) | omega))))

theorem containsT_calls (A : Option Addr) (c : Nat) (l : List Tk) (g : Nat) (w : World) (H : SlA w 2 gT A c l) (hg : w.cell? ⟨g, 0, none⟩ = some (.func (.func 117) #[] #[])) :
    Calls Try.prog 129 #[.slice A l.length c, .func (.func 130) #[] #[.pointer (some ⟨g, 0, none⟩)]] w (Ret (.bool (decide (0 ≤ idxP Tk.validB l))) w) := by
  go_enter Try.func129, Try.ntmps129
  go_wp2_with (go_at_call 138; refine (indexT_calls _ _ _ _ _ H hg).mono ?_; rintro e w' ⟨rfl, x, rfl⟩)
  go_ret
  exact ret_mk rfl (by repeat (first | exact Below.refl _ _ | (with_reducible assumption) | apply gL | apply gA | apply gD | apply gN | (refine gS ?_ (by first | (simp; done) | (simp; omega) | omega))))

theorem allT_calls (A : Option Addr) (c : Nat) (l : List Tk) (w : World) (H : SlA w 2 gT A c l) :
    Calls Try.prog 116 #[.slice A l.length c, .func (.func 117) #[] #[]] w (Ret (.bool (l.all Tk.validB)) w) := by
  have HF := Lib.hid (idxP_all Tk.validB l)
  go_enter Try.func116, Try.ntmps116
  go_wp2_with (go_at_call 129; refine (containsT_calls _ _ l _ _ ?hs ?hg).mono ?_; (case hs => exact H.below (by repeat (first | exact Below.refl _ _ | (with_reducible assumption) | apply gL | apply gA | apply gD | apply gN | (refine gS ?_ (by first | (simp; done) | (simp; omega) | omega))))); (case hg => simp [go_sem]); rintro e w' ⟨rfl, x, rfl⟩)
  go_ret
  exact ret_mk (ret_bool HF.out) (by repeat (first | exact Below.refl _ _ | (with_reducible assumption) | apply gL | apply gA | apply gD | apply gN | (refine gS ?_ (by first | (simp; done) | (simp; omega) | omega))))
end Go.Proofs.Ytcngnfnljkkjgaa
namespace Go.Proofs.Ytcngnfnljkkjgaa
open Go.RowKit
attribute [local go_sem] cell_later frozen_later lt_later le_later

theorem allCd_calls (v : Value) (h : Hs) (hl : h.tickets.length ≤ 140737488355328) (hl2 : h.clocks.length ≤ 140737488355328) (x : Cp) (g : Nat) (w : World) (HV : HsAt w v h) (hg : w.cell? ⟨g, 0, none⟩ = some (.func (.func 112) #[v] #[])) :
    Calls Try.prog 132 #[.agg #[.int .i64 x.tk, .int .i64 x.ck, .int .i64 x.mn], .pointer (some ⟨g, 0, none⟩)] w (Ret (.bool (!h.clipB x)) w) := by
  have hlt := World.block_lt_of_cell? w _ hg
  go_enter Try.func132, Try.ntmps132
  go_wp2_with (go_at_call 112; refine (clip_calls v h x _ ?hh hl hl2).mono ?_; (case hh => exact HV.below (by repeat (first | exact Below.refl _ _ | (with_reducible assumption) | apply gL | apply gA | apply gD | apply gN | (refine gS ?_ (by first | (simp; done) | (simp; omega) | omega))))); rintro e w' ⟨rfl, y, rfl⟩)
  go_ret
  exact ret_mk rfl (by repeat (first | exact Below.refl _ _ | (with_reducible assumption) | apply gL | apply gA | apply gD | apply gN | (refine gS ?_ (by first | (simp; done) | (simp; omega) | omega))))

set_option maxHeartbeats 400000 in
theorem indexC_calls (v : Value) (h : Hs) (hl : h.tickets.length ≤ 140737488355328) (hl2 : h.clocks.length ≤ 140737488355328) (A : Option Addr) (c : Nat) (l : List Cp) (g : Nat) (w : World) (HV : HsAt w v h) (H : SlA w 3 gC A c l) (hg : w.cell? ⟨g, 0, none⟩ = some (.func (.func 112) #[v] #[])) :
    Calls Try.prog 139 #[.slice A l.length c, .func (.func 132) #[] #[.pointer (some ⟨g, 0, none⟩)]] w (Ret (.int .i64 (idxP h.clipB l)) w) := by
  have hc1 := H.1
  have hc2 := H.2.1
  have hlt := World.block_lt_of_cell? w _ hg
  go_enter Try.func139, Try.ntmps139
  go_wp2
  go_loopw [5, 8] (fun _ i wr => (∃ x, wr = later w x) ∧ ∃ k : Nat, k ≤ l.length ∧ i = .int .i64 k ∧ ∀ j, j < k → ∀ y, l[j]? = some y → h.clipB y = true) (fun _ i _ => l.length - (intOf i).toNat)
  case atStart => exact ⟨later_ex (Below.refl _ _), 0, Nat.zero_le _, rfl, fun j h => by omega⟩
  case round =>
    obtain ⟨⟨z, rfl⟩, k, hk, rfl, hj⟩ := hrel
    have HJ := Lib.hid hj
    clear hj
    by_cases hlt : k < l.length
    · obtain ⟨b, off, x, rfl, hb, hx, h1, h2, h3⟩ := H.atC hlt
      have HX := Lib.hid hx
      clear hx
      by_cases he : h.clipB x = true
      · go_wp2_with (go_at_call 132; refine (allCd_calls v h hl hl2 x _ _ ?hv ?hg).mono ?_; (case hv => exact HV.below (by repeat (first | exact Below.refl _ _ | (with_reducible assumption) | apply gL | apply gA | apply gD | apply gN | (refine gS ?_ (by first | (simp; done) | (simp; omega) | omega))))); (case hg => exact (cell_later (by assumption)).trans hg); rintro e w' ⟨rfl, y, rfl⟩)
        go_roundw
        case rel => exact ⟨later_ex (by repeat (first | exact Below.refl _ _ | (with_reducible assumption) | apply gL | apply gA | apply gD | apply gN | (refine gS ?_ (by first | (simp; done) | (simp; omega) | omega)))), k + 1, by omega, by go_num, fun j hj y hy => by
          rcases Nat.lt_or_ge j k with h | h
          · exact HJ.out j h y hy
          · obtain rfl : j = k := by omega
            rw [HX.out] at hy
            cases hy
            exact he⟩
        case measure => simp [intOf]; omega
      · have he : h.clipB x = false := by simpa using he
        go_wp2_with (go_at_call 132; refine (allCd_calls v h hl hl2 x _ _ ?hv ?hg).mono ?_; (case hv => exact HV.below (by repeat (first | exact Below.refl _ _ | (with_reducible assumption) | apply gL | apply gA | apply gD | apply gN | (refine gS ?_ (by first | (simp; done) | (simp; omega) | omega))))); (case hg => exact (cell_later (by assumption)).trans hg); rintro e w' ⟨rfl, y, rfl⟩)
        go_ret
        exact ret_mk (ret_int (idxP_at HX.out he HJ.out).symm) (by repeat (first | exact Below.refl _ _ | (with_reducible assumption) | apply gL | apply gA | apply gD | apply gN | (refine gS ?_ (by first | (simp; done) | (simp; omega) | omega))))
    · obtain rfl : k = l.length := by omega
      go_wp2
      go_ret
      exact ret_mk (ret_int (idxP_no HJ.out).symm) (by repeat (first | exact Below.refl _ _ | (with_reducible assumption) | apply gL | apply gA | apply gD | apply gN | (refine gS ?_ (by first | (simp; done) | (simp; omega) | omega))))

theorem containsC_calls (v : Value) (h : Hs) (hl : h.tickets.length ≤ 140737488355328) (hl2 : h.clocks.length ≤ 140737488355328) (A : Option Addr) (c : Nat) (l : List Cp) (g : Nat) (w : World) (HV : HsAt w v h) (H : SlA w 3 gC A c l) (hg : w.cell? ⟨g, 0, none⟩ = some (.func (.func 112) #[v] #[])) :
    Calls Try.prog 131 #[.slice A l.length c, .func (.func 132) #[] #[.pointer (some ⟨g, 0, none⟩)]] w (Ret (.bool (decide (0 ≤ idxP h.clipB l))) w) := by
  go_enter Try.func131, Try.ntmps131
  go_wp2_with (go_at_call 139; refine (indexC_calls v h hl hl2 _ _ _ _ _ HV H hg).mono ?_; rintro e w' ⟨rfl, x, rfl⟩)
  go_ret
  exact ret_mk rfl (by repeat (first | exact Below.refl _ _ | (with_reducible assumption) | apply gL | apply gA | apply gD | apply gN | (refine gS ?_ (by first | (simp; done) | (simp; omega) | omega))))

theorem allC_calls (v : Value) (h : Hs) (hl : h.tickets.length ≤ 140737488355328) (hl2 : h.clocks.length ≤ 140737488355328) (A : Option Addr) (c : Nat) (l : List Cp) (w : World) (HV : HsAt w v h) (H : SlA w 3 gC A c l) :
    Calls Try.prog 118 #[.slice A l.length c, .func (.func 112) #[v] #[]] w (Ret (.bool (l.all h.clipB)) w) := by
  have HF := Lib.hid (idxP_all h.clipB l)
  go_enter Try.func118, Try.ntmps118
  go_wp2_with (go_at_call 131; refine (containsC_calls v h hl hl2 _ _ l _ _ ?hv ?hs ?hg).mono ?_; (case hv => exact HV.below (by repeat (first | exact Below.refl _ _ | (with_reducible assumption) | apply gL | apply gA | apply gD | apply gN | (refine gS ?_ (by first | (simp; done) | (simp; omega) | omega))))); (case hs => exact H.below (by repeat (first | exact Below.refl _ _ | (with_reducible assumption) | apply gL | apply gA | apply gD | apply gN | (refine gS ?_ (by first | (simp; done) | (simp; omega) | omega))))); (case hg => simp [go_sem]); rintro e w' ⟨rfl, x, rfl⟩)
  go_ret
  exact ret_mk (ret_bool HF.out) (by repeat (first | exact Below.refl _ _ | (with_reducible assumption) | apply gL | apply gA | apply gD | apply gN | (refine gS ?_ (by first | (simp; done) | (simp; omega) | omega))))
end Go.Proofs.Ytcngnfnljkkjgaa
