/-
The clips of a ticket.
The error of a house.
The plain words, more: lists that do not decrease; the clips that are kept; the errors of the clocks, one after the other; truths.
Whether the true minutes of some clips do not decrease.
A list as the errors of the clocks.
The true minutes of all clips.
-/
import Derived.Test.YtcngnfnljkkjgaaCmB
import Derived.Maps.AppendAt
import Derived.Test.YtcngnfnljkkjgaaCmA
namespace Go.Proofs.Ytcngnfnljkkjgaa
open Go.RowKit
attribute [local go_sem] cell_later frozen_later lt_later le_later

theorem infoClip : (Try.prog.info? 104).map (fun i => (i.zero, i.size, i.bytes)) = some (some (.agg #[.int .i64 0, .int .i64 0, .int .i64 0]), 3, 24) := by kernel_rfl

theorem ofs_step {h : Hs} {t : Int} {k : Nat} {x : Cp} (hx : h.clips[k]? = some x) : ((h.clips.take (k + 1)).filter fun c => c.tk == t) = ((h.clips.take k).filter fun c => c.tk == t) ++ (if x.tk == t then [x] else []) := by
  rw [List.take_add_one, hx, List.filter_append]
  simp [List.filter_cons]

set_option maxHeartbeats 400000 in
theorem of_calls (v : Value) (h : Hs) (t : Int) (w : World) (H : HsAt w v h) (hl : h.clips.length ≤ 1000) :
    Calls Try.prog 119 #[v, .int .i64 t] w (RetSl 3 gC (h.ofs t) w) := by
  obtain ⟨i0, hi, hz0, hz1, hz2⟩ := info_parts infoClip
  obtain ⟨A2, c2, A3, c3, A4, c4, rfl, -, -, H4⟩ := H
  go_enter Try.func119, Try.ntmps119
  go_wp2
  go_loopw [4, 10] (fun v i wr => ∃ k : Nat, k ≤ h.clips.length ∧ i = .int .i64 k ∧ Below w.heap.size w wr ∧ wr.ownsRow w.heap.size 104 3 v ((h.clips.take k).filter fun c => c.tk == t).length (((h.clips.take k).filter fun c => c.tk == t).flatMap gC))
    (fun _ i _ => h.clips.length - (intOf i).toNat)
  case atStart => exact ⟨0, Nat.zero_le _, rfl, (by repeat (first | exact Below.refl _ _ | (with_reducible assumption) | apply gL | apply gA | apply gD | apply gN | (refine gS ?_ (by first | (simp; done) | (simp; omega) | omega)))), World.ownsRow_nil _ _ _ _⟩
  case round =>
    obtain ⟨k, hk, rfl, hb, hown⟩ := hrel
    by_cases hlt : k < h.clips.length
    · obtain ⟨b, off, x, rfl, hbl, hx, h1, h2, h3⟩ := (H4.below hb).atC hlt
      have HS := Lib.hid (ofs_step (t := t) hx)
      clear hx
      by_cases he : (x.tk == t) = true
      · have hlen : ((h.clips.take k).filter fun c => c.tk == t).length ≤ k := Nat.le_trans (List.length_filter_le _ _) (List.length_take_le _ _)
        go_wp2_with (at_builtin; refine wpList_append_own _ rfl _ _ 34 rfl w.heap.size 104 i0 (.agg #[.int .i64 0, .int .i64 0, .int .i64 0]) 3 24 Try.underlying34 hi hz0 hz1 hz2 rfl (by decide) _ _ _ rfl ((hown.alloc _).alloc _) ⟨wr.heap.size + 1, 0, none⟩ 1 1 (gC x) rfl rfl ?c1 ?c2 ?c3 ?c4 ?c5 ?_)
        case c1 => exact news_new _ _ (by simp) (gC x) _
        case c2 => simp [gC, Value.oneCell']
        case c3 => unfold maxLen; omega
        case c4 => omega
        case c5 => have := hb.size; simp; omega
        intro v' w1 hown1 hg1 _
        have hb1 := grown_below ((hb.alloc hb.size _).alloc (by have := hb.size; simp; omega) _) ((hown.alloc _).alloc _) (Nat.le_refl _) hg1
        go_wp2
        go_roundw
        case rel => exact ⟨k + 1, by omega, by go_num, hb1, by rw [HS.out, he]; simpa using hown1⟩
        case measure => simp [intOf]; omega
      · have he : (x.tk == t) = false := by simpa using he
        go_wp2
        go_roundw
        case rel => exact ⟨k + 1, by omega, by go_num, (hb.alloc hb.size _), by rw [HS.out, he]; simpa using hown.alloc _⟩
        case measure => simp [intOf]; omega
    · obtain rfl : k = h.clips.length := by omega
      go_wp2
      rw [List.take_length] at hown
      obtain ⟨A, c, rfl, hs⟩ := SlA.of_own (k := 3) (g := gC) (l := h.ofs t) hown (fun _ _ => rfl) rfl (Nat.le_trans (List.length_filter_le _ _) (by omega))
      go_ret
      exact ⟨A, c, rfl, later_ex hb, hs⟩
end Go.Proofs.Ytcngnfnljkkjgaa
namespace Go.Proofs.Ytcngnfnljkkjgaa
open Go.RowKit
attribute [local go_sem] cell_later frozen_later lt_later le_later

set_option maxHeartbeats 1000000 in
theorem check_calls (v : Value) (h : Hs) (w : World) (H : HsAt w v h) :
    Calls Try.prog 70 #[v] w (Ret (.int .i64 h.fault) w) := by
  have H0 := H
  obtain ⟨A2, c2, A3, c3, A4, c4, rfl, H2, H3, H4⟩ := H
  have n2 := H2.2.1
  have n3 := H3.2.1
  have n4 := H4.2.1
  by_cases hs : h.smallB = true
  · have hs' := hs
    simp only [Hs.smallB, Bool.and_eq_true, decide_eq_true_eq] at hs'
    obtain ⟨s2, s3, s4⟩ := hs'
    have HS := Lib.hid hs
    clear hs
    by_cases ha : h.argB = true
    · have ha' := ha
      simp only [Hs.argB, Bool.and_eq_true] at ha'
      obtain ⟨a1, a2, a3, a4, a5⟩ := ha'
      go_enter Try.func70, Try.ntmps70
      go_wp2_with (first
        | (go_at_call 113; refine (within_calls _ _ _ _).mono ?_; (rintro e w' hr; first | ((with_reducible replace hr := Ret.up hr); obtain ⟨rfl, z, rfl⟩ := hr) | (obtain ⟨rfl, z, rfl⟩ := hr)))
        | (go_at_call 114; refine (allR_calls _ _ _ _ ?hs).mono ?_; (case hs => exact H2.below (by repeat (first | exact Below.refl _ _ | (with_reducible assumption) | apply gL | apply gA | apply gD | apply gN | (refine gS ?_ (by first | (simp; done) | (simp; omega) | omega))))); (rintro e w' hr; first | ((with_reducible replace hr := Ret.up hr); obtain ⟨rfl, z, rfl⟩ := hr) | (obtain ⟨rfl, z, rfl⟩ := hr)))
        | (go_at_call 116; refine (allT_calls _ _ _ _ ?hs).mono ?_; (case hs => exact H3.below (by repeat (first | exact Below.refl _ _ | (with_reducible assumption) | apply gL | apply gA | apply gD | apply gN | (refine gS ?_ (by first | (simp; done) | (simp; omega) | omega))))); (rintro e w' hr; first | ((with_reducible replace hr := Ret.up hr); obtain ⟨rfl, z, rfl⟩ := hr) | (obtain ⟨rfl, z, rfl⟩ := hr)))
        | (go_at_call 118; refine (allC_calls _ h n3 n2 _ _ _ _ ?hv ?hs).mono ?_; (case hv => exact H0.below (by repeat (first | exact Below.refl _ _ | (with_reducible assumption) | apply gL | apply gA | apply gD | apply gN | (refine gS ?_ (by first | (simp; done) | (simp; omega) | omega))))); (case hs => exact H4.below (by repeat (first | exact Below.refl _ _ | (with_reducible assumption) | apply gL | apply gA | apply gD | apply gN | (refine gS ?_ (by first | (simp; done) | (simp; omega) | omega))))); (rintro e w' hr; first | ((with_reducible replace hr := Ret.up hr); obtain ⟨rfl, z, rfl⟩ := hr) | (obtain ⟨rfl, z, rfl⟩ := hr))))
      go_loopw [60] (fun i wr => (∃ x, wr = later (w.alloc (.cells #[.int .i64 h.hour, .int .i64 h.grace, .slice A2 h.clocks.length c2, .slice A3 h.tickets.length c3, .slice A4 h.clips.length c4] 36)) x) ∧
          ∃ k : Nat, k ≤ h.tickets.length ∧ i = .int .i64 k ∧ ∀ j : Nat, j < k → (h.ofs j).length ≤ 2) (fun i _ => h.tickets.length - (intOf i).toNat)
      case atStart => exact ⟨later_ex (by repeat (first | exact Below.refl _ _ | (with_reducible assumption) | apply gL | apply gA | apply gD | apply gN | (refine gS ?_ (by first | (simp; done) | (simp; omega) | omega)))), 0, Nat.zero_le _, rfl, fun j hj => by omega⟩
      case round =>
        obtain ⟨⟨x, rfl⟩, k, hk, rfl, hj⟩ := hrel
        have HJ := Lib.hid hj
        clear hj
        by_cases hlt : k < h.tickets.length
        · by_cases h2 : (h.ofs k).length ≤ 2
          · go_wp2_with (go_at_call 119; refine (of_calls _ h _ _ ?hh (by omega)).mono ?_; (case hh => exact H0.below (by repeat (first | exact Below.refl _ _ | (with_reducible assumption) | apply gL | apply gA | apply gD | apply gN | (refine gS ?_ (by first | (simp; done) | (simp; omega) | omega))))); (rintro e w' hr; first | ((with_reducible replace hr := RetSl.up hr); obtain ⟨A, c, rfl, ⟨z, rfl⟩, hsl⟩ := hr) | (obtain ⟨A, c, rfl, ⟨z, rfl⟩, hsl⟩ := hr)))
            go_roundw
            case rel => exact ⟨later_ex (by repeat (first | exact Below.refl _ _ | (with_reducible assumption) | apply gL | apply gA | apply gD | apply gN | (refine gS ?_ (by first | (simp; done) | (simp; omega) | omega)))), k + 1, by omega, by go_num, fun j hj => by
              rcases Nat.lt_or_ge j k with h' | h'
              · exact HJ.out j h'
              · obtain rfl : j = k := by omega
                exact h2⟩
            case measure => simp [intOf]; omega
          · have HF := Lib.hid (show h.fault = 1 by
              have : h.twoB = false := by
                rw [Hs.twoB, List.all_eq_false]
                exact ⟨k, by simpa using hlt, by simpa using h2⟩
              simp [Hs.fault, HS.out, ha, this])
            go_wp2_with (go_at_call 119; refine (of_calls _ h _ _ ?hh (by omega)).mono ?_; (case hh => exact H0.below (by repeat (first | exact Below.refl _ _ | (with_reducible assumption) | apply gL | apply gA | apply gD | apply gN | (refine gS ?_ (by first | (simp; done) | (simp; omega) | omega))))); (rintro e w' hr; first | ((with_reducible replace hr := RetSl.up hr); obtain ⟨A, c, rfl, ⟨z, rfl⟩, hsl⟩ := hr) | (obtain ⟨A, c, rfl, ⟨z, rfl⟩, hsl⟩ := hr)))
            go_ret
            exact ret_mk (ret_int HF.out.symm) (by repeat (first | exact Below.refl _ _ | (with_reducible assumption) | apply gL | apply gA | apply gD | apply gN | (refine gS ?_ (by first | (simp; done) | (simp; omega) | omega))))
        · obtain rfl : k = h.tickets.length := by omega
          have h2 : h.twoB = true := by
            rw [Hs.twoB, List.all_eq_true]
            intro j hj
            simpa using HJ.out j (by simpa using hj)
          have H2B := Lib.hid h2
          clear h2
          have hoff : ∀ (j : Nat) (r : Rg), h.clocks[j]? = some r → r.offB = true := fun j r hr => List.all_eq_true.1 a3 r (List.mem_of_getElem? hr)
          have HO := Lib.hid hoff
          clear hoff
          have HMB := Lib.hid (fun (k : Nat) => manyTo_bd (h.clocks.take k) (fun r hr => List.all_eq_true.1 a3 r (List.mem_of_mem_take hr)))
          go_wp2
          go_loopw [5, 72] (fun m i wr => (∃ x, wr = later (w.alloc (.cells #[.int .i64 h.hour, .int .i64 h.grace, .slice A2 h.clocks.length c2, .slice A3 h.tickets.length c3, .slice A4 h.clips.length c4] 36)) x) ∧
              ∃ k : Nat, k ≤ h.clocks.length ∧ i = .int .i64 k ∧ m = .int .i64 (manyTo (h.clocks.take k))) (fun _ i _ => h.clocks.length - (intOf i).toNat)
          case atStart => exact ⟨⟨_, rfl⟩, 0, Nat.zero_le _, rfl, by simp [manyTo]⟩
          case round =>
            obtain ⟨⟨x, rfl⟩, k, hk, rfl, rfl⟩ := hrel
            by_cases hlt : k < h.clocks.length
            · obtain ⟨b, off, r, rfl, hbl, hr, h1, h2⟩ := H2.atR hlt
              have ho := offB_iff.1 (HO.out k r hr)
              have hsn := Lib.hid (show manyTo (h.clocks.take (k + 1)) = min (manyTo (h.clocks.take k) * (r.hi - r.lo + 1)) 2001 by
                rw [List.take_add_one, hr]; exact manyTo_snoc _ _)
              clear hr
              have hmb := HMB.out k
              obtain ⟨o1, o2, o3⟩ := ho
              obtain ⟨m1, m2⟩ := hmb
              generalize manyTo (h.clocks.take k) = M at *
              have hp1 : 0 ≤ M * (r.hi - r.lo + 1) := Int.mul_nonneg (by omega) (by omega)
              have hp2 : M * (r.hi - r.lo + 1) ≤ 2001 * 61 := Int.mul_le_mul m2 (by omega) (by omega) (by omega)
              have hw : IntKind.i64.wrap (M * (r.hi - r.lo + 1)) = M * (r.hi - r.lo + 1) := IntWalk.i64_in _ (by omega)
              go_wp2_with (first
                | (go_at_call 99; refine (size_calls _ _ _ (by omega) (by omega) (by omega) (by omega)).mono ?_; (rintro e w' hr; first | ((with_reducible replace hr := Ret.up hr); obtain ⟨rfl, z, rfl⟩ := hr) | (obtain ⟨rfl, z, rfl⟩ := hr)))
                | (go_at_call 120; refine (minimum_calls _ _ (M * (r.hi - r.lo + 1)) 2001 _ ?hs).mono ?_; (case hs => exact sl2_of (by simp [go_sem]) (by simp [go_sem]) (by omega)); (rintro e w' hr; first | ((with_reducible replace hr := Ret.up hr); obtain ⟨rfl, z, rfl⟩ := hr) | (obtain ⟨rfl, z, rfl⟩ := hr))))
              go_roundw
              case rel => exact ⟨later_ex (by repeat (first | exact Below.refl _ _ | (with_reducible assumption) | apply gL | apply gA | apply gD | apply gN | (refine gS ?_ (by first | (simp; done) | (simp; omega) | omega)))), k + 1, by omega, by go_num, by rw [hsn.out]⟩
              case measure => simp [intOf]; omega
            · obtain rfl : k = h.clocks.length := by omega
              rw [List.take_length]
              by_cases hb : 2000 < manyTo h.clocks
              · have HF := Lib.hid (show h.fault = 3 by simp [Hs.fault, HS.out, ha, H2B.out, hb])
                go_wp2
                go_ret
                exact ret_mk (ret_int HF.out.symm) (by repeat (first | exact Below.refl _ _ | (with_reducible assumption) | apply gL | apply gA | apply gD | apply gN | (refine gS ?_ (by first | (simp; done) | (simp; omega) | omega))))
              · have HF := Lib.hid (show h.fault = 0 by simp [Hs.fault, HS.out, ha, H2B.out, hb])
                go_wp2
                go_ret
                exact ret_mk (ret_int HF.out.symm) (by repeat (first | exact Below.refl _ _ | (with_reducible assumption) | apply gL | apply gA | apply gD | apply gN | (refine gS ?_ (by first | (simp; done) | (simp; omega) | omega))))
    · have ha : h.argB = false := by simpa using ha
      have HF := Lib.hid (show h.fault = 1 by simp [Hs.fault, HS.out, ha])
      have hc : inB h.hour 1 120 = false ∨ (inB h.hour 1 120 = true ∧ inB h.grace 0 60 = false) ∨ (inB h.hour 1 120 = true ∧ inB h.grace 0 60 = true ∧ h.clocks.all Rg.offB = false) ∨
          (inB h.hour 1 120 = true ∧ inB h.grace 0 60 = true ∧ h.clocks.all Rg.offB = true ∧ h.tickets.all Tk.validB = false) ∨
          (inB h.hour 1 120 = true ∧ inB h.grace 0 60 = true ∧ h.clocks.all Rg.offB = true ∧ h.tickets.all Tk.validB = true ∧ h.clips.all h.clipB = false) := by
        unfold Hs.argB at ha
        generalize inB h.hour 1 120 = b1 at *
        generalize inB h.grace 0 60 = b2 at *
        generalize h.clocks.all Rg.offB = b3 at *
        generalize h.tickets.all Tk.validB = b4 at *
        generalize h.clips.all h.clipB = b5 at *
        revert ha
        cases b1 <;> cases b2 <;> cases b3 <;> cases b4 <;> cases b5 <;> decide
      clear ha
      rcases hc with a1 | ⟨a1, a2⟩ | ⟨a1, a2, a3⟩ | ⟨a1, a2, a3, a4⟩ | ⟨a1, a2, a3, a4, a5⟩
      all_goals
        go_enter Try.func70, Try.ntmps70
        go_wp2_with (first
          | (go_at_call 113; refine (within_calls _ _ _ _).mono ?_; (rintro e w' hr; first | ((with_reducible replace hr := Ret.up hr); obtain ⟨rfl, z, rfl⟩ := hr) | (obtain ⟨rfl, z, rfl⟩ := hr)))
          | (go_at_call 114; refine (allR_calls _ _ _ _ ?hs).mono ?_; (case hs => exact H2.below (by repeat (first | exact Below.refl _ _ | (with_reducible assumption) | apply gL | apply gA | apply gD | apply gN | (refine gS ?_ (by first | (simp; done) | (simp; omega) | omega))))); (rintro e w' hr; first | ((with_reducible replace hr := Ret.up hr); obtain ⟨rfl, z, rfl⟩ := hr) | (obtain ⟨rfl, z, rfl⟩ := hr)))
          | (go_at_call 116; refine (allT_calls _ _ _ _ ?hs).mono ?_; (case hs => exact H3.below (by repeat (first | exact Below.refl _ _ | (with_reducible assumption) | apply gL | apply gA | apply gD | apply gN | (refine gS ?_ (by first | (simp; done) | (simp; omega) | omega))))); (rintro e w' hr; first | ((with_reducible replace hr := Ret.up hr); obtain ⟨rfl, z, rfl⟩ := hr) | (obtain ⟨rfl, z, rfl⟩ := hr)))
          | (go_at_call 118; refine (allC_calls _ h n3 n2 _ _ _ _ ?hv ?hs).mono ?_; (case hv => exact H0.below (by repeat (first | exact Below.refl _ _ | (with_reducible assumption) | apply gL | apply gA | apply gD | apply gN | (refine gS ?_ (by first | (simp; done) | (simp; omega) | omega))))); (case hs => exact H4.below (by repeat (first | exact Below.refl _ _ | (with_reducible assumption) | apply gL | apply gA | apply gD | apply gN | (refine gS ?_ (by first | (simp; done) | (simp; omega) | omega))))); (rintro e w' hr; first | ((with_reducible replace hr := Ret.up hr); obtain ⟨rfl, z, rfl⟩ := hr) | (obtain ⟨rfl, z, rfl⟩ := hr))))
        go_ret
        exact ret_mk (ret_int HF.out.symm) (by repeat (first | exact Below.refl _ _ | (with_reducible assumption) | apply gL | apply gA | apply gD | apply gN | (refine gS ?_ (by first | (simp; done) | (simp; omega) | omega))))
  · have hs : h.smallB = false := by simpa using hs
    have HF := Lib.hid (show h.fault = 3 by simp [Hs.fault, hs])
    have hc : 4 < h.clocks.length ∨ (h.clocks.length ≤ 4 ∧ 6 < h.tickets.length) ∨ (h.clocks.length ≤ 4 ∧ h.tickets.length ≤ 6 ∧ 10 < h.clips.length) := by
      simp only [Hs.smallB, Bool.and_eq_false_iff, decide_eq_false_iff_not] at hs
      omega
    clear hs
    rcases hc with s2 | ⟨s2, s3⟩ | ⟨s2, s3, s4⟩
    all_goals
      go_enter Try.func70, Try.ntmps70
      go_wp2
      go_ret
      exact ret_mk (ret_int HF.out.symm) (by repeat (first | exact Below.refl _ _ | (with_reducible assumption) | apply gL | apply gA | apply gD | apply gN | (refine gS ?_ (by first | (simp; done) | (simp; omega) | omega))))
end Go.Proofs.Ytcngnfnljkkjgaa
namespace Go.Proofs.Ytcngnfnljkkjgaa

/-- A list that does not decrease. -/
def nondec : List Int → Bool
  | [] => true
  | [_] => true
  | a :: b :: l => decide (a ≤ b) && nondec (b :: l)
theorem nondec_snoc : ∀ (l : List Int) (n : Int), nondec (l ++ [n]) = (nondec l && (l.isEmpty || decide (l.getLastD 0 ≤ n)))
  | [], n => by simp [nondec]
  | [a], n => by simp [nondec]
  | a :: b :: l, n => by
    have ih := nondec_snoc (b :: l) n
    simp only [List.cons_append] at ih ⊢
    simp only [nondec, ih]
    simp [Bool.and_assoc]

/-- The true minutes of the clips that are not left out. -/
def keptM (e : List Int) (out : List Int) (l : List Cp) : List Int := (l.zipIdx.filter fun p => !out.contains (p.2 : Int)).map fun p => tru e p.1
theorem keptM_snoc (e : List Int) (out : List Int) (l : List Cp) (c : Cp) : keptM e out (l ++ [c]) = keptM e out l ++ (if out.contains (l.length : Int) then [] else [tru e c]) := by
  unfold keptM
  rw [List.zipIdx_append, List.filter_append, List.map_append]
  simp only [List.zipIdx_singleton, Nat.zero_add, List.filter_cons, List.filter_nil]
  cases h : out.contains (l.length : Int) <;> simp
theorem idx_nonneg (l : List Int) (v : Int) : decide (0 ≤ idx l v) = l.contains v := by
  unfold idx
  cases h : l.findIdx? (· == v) with
  | none =>
    rw [List.findIdx?_eq_none_iff] at h
    have : l.contains v = false := by
      rw [Bool.eq_false_iff]
      intro hc
      rw [List.contains_iff_mem] at hc
      simpa using h v hc
    rw [this]
    decide
  | some i =>
    rw [List.findIdx?_eq_some_iff_getElem] at h
    obtain ⟨hi, h1, _⟩ := h
    have : l.contains v = true := by
      rw [List.contains_iff_mem]
      have : l[i] = v := by simpa using h1
      rw [← this]
      exact List.getElem_mem hi
    rw [this]
    simp
/-- Whether clips may be left out with some errors. -/
def Hs.risingB (h : Hs) (e : List Int) (out : List Int) : Bool := nondec (keptM e out h.clips)

/-- All errors of some clocks: the first clock's outermost. -/
def prods : List Rg → List (List Int)
  | [] => [[]]
  | r :: l => (List.range r.size.toNat).flatMap fun (n : Nat) => (prods l).map fun e => (r.lo + (n : Int)) :: e
def Hs.truths (h : Hs) : List (List Int) := (prods h.clocks).filter fun e => h.risingB e []
def Hs.canB (h : Hs) (out : List Int) : Bool := (prods h.clocks).any fun e => h.risingB e out

/-- Errors that are small. -/
def ErrOk (e : List Int) : Prop := ∀ i, -30 ≤ e.getD i 0 ∧ e.getD i 0 ≤ 30
/-- Clips by clocks 0 to 3, at a minute of a day. -/
def ClipsOk (l : List Cp) : Prop := ∀ c ∈ l, 0 ≤ c.ck ∧ c.ck < 4 ∧ 0 ≤ c.mn ∧ c.mn ≤ 1439

theorem inB_iff {n lo hi : Int} : inB n lo hi = true ↔ lo ≤ n ∧ n ≤ hi := by simp [inB]

theorem fault_zero {h : Hs} (hf : h.fault = 0) : h.smallB = true ∧ h.argB = true ∧ h.twoB = true ∧ manyTo h.clocks ≤ 2000 := by
  unfold Hs.fault at hf
  cases h1 : h.smallB <;> cases h2 : h.argB <;> cases h3 : h.twoB <;> simp [h1, h2, h3] at hf ⊢
  omega
theorem small_iff {h : Hs} : h.smallB = true ↔ h.clocks.length ≤ 4 ∧ h.tickets.length ≤ 6 ∧ h.clips.length ≤ 10 := by simp [Hs.smallB]
theorem arg_iff {h : Hs} : h.argB = true ↔ inB h.hour 1 120 = true ∧ inB h.grace 0 60 = true ∧ h.clocks.all Rg.offB = true ∧ h.tickets.all Tk.validB = true ∧ h.clips.all h.clipB = true := by simp [Hs.argB]
theorem fault_clips {h : Hs} (hf : h.fault = 0) {c : Cp} (hc : c ∈ h.clips) : 0 ≤ c.tk ∧ c.tk < h.tickets.length ∧ 0 ≤ c.ck ∧ c.ck < h.clocks.length ∧ 0 ≤ c.mn ∧ c.mn ≤ 1439 := by
  obtain ⟨_, h2, _, _⟩ := fault_zero hf
  obtain ⟨_, _, _, _, h5⟩ := arg_iff.1 h2
  have := List.all_eq_true.1 h5 c hc
  simp only [Hs.clipB, Hs.ticketB, Bool.and_eq_true, inB_iff] at this
  omega
theorem fault_clock {h : Hs} (hf : h.fault = 0) {r : Rg} (hr : r ∈ h.clocks) : -30 ≤ r.lo ∧ r.lo ≤ r.hi ∧ r.hi ≤ 30 := by
  obtain ⟨_, h2, _, _⟩ := fault_zero hf
  obtain ⟨_, _, h3, _, _⟩ := arg_iff.1 h2
  exact offB_iff.1 (List.all_eq_true.1 h3 r hr)
theorem clipsOk_of {h : Hs} (hf : h.fault = 0) : ClipsOk h.clips := fun c hc => by
  have h1 := fault_clips hf hc
  have h2 := small_iff.1 (fault_zero hf).1
  omega

/-- What comes out of the enumeration: one number of each range. -/
theorem mem_prods : ∀ {l : List Rg}, (∀ r ∈ l, r.lo ≤ r.hi) → ∀ {e : List Int}, e ∈ prods l ↔ e.length = l.length ∧ ∀ i, i < l.length → ∀ r, l[i]? = some r → r.lo ≤ e.getD i 0 ∧ e.getD i 0 ≤ r.hi
  | [], _, e => by
    simp only [prods, List.mem_singleton, List.length_nil]
    constructor
    · rintro rfl; simp
    · rintro ⟨h, _⟩; exact List.eq_nil_of_length_eq_zero h
  | r :: l, hl, e => by
    have ih := @mem_prods l (fun x hx => hl x (by simp [hx]))
    have h0 := hl r (by simp)
    simp only [prods, List.mem_flatMap, List.mem_range, List.mem_map]
    constructor
    · rintro ⟨n, hn, e', he', rfl⟩
      obtain ⟨h1, h2⟩ := ih.1 he'
      refine ⟨by simp [h1], fun i hi x hx => ?_⟩
      cases i with
      | zero =>
        simp only [List.getElem?_cons_zero, Option.some.injEq] at hx
        subst hx
        simp only [List.getD_cons_zero]
        unfold Rg.size at hn
        omega
      | succ i =>
        simp only [List.getElem?_cons_succ] at hx
        simpa using h2 i (by simpa using hi) x hx
    · rintro ⟨h1, h2⟩
      cases e with
      | nil => simp at h1
      | cons x e =>
        have hx := h2 0 (by simp) r rfl
        simp only [List.getD_cons_zero] at hx
        refine ⟨(x - r.lo).toNat, by unfold Rg.size; omega, e, ih.2 ⟨by simpa using h1, fun i hi y hy => ?_⟩, by congr 1; omega⟩
        have := h2 (i + 1) (by simpa using hi) y (by simpa using hy)
        simpa using this
theorem prods_ok {l : List Rg} (hl : ∀ r ∈ l, -30 ≤ r.lo ∧ r.lo ≤ r.hi ∧ r.hi ≤ 30) {e : List Int} (he : e ∈ prods l) : ErrOk e := fun i => by
  obtain ⟨h1, h2⟩ := (mem_prods (fun r hr => (hl r hr).2.1)).1 he
  rcases Nat.lt_or_ge i l.length with hi | hi
  · have := h2 i hi _ (List.getElem?_eq_getElem hi)
    have := hl l[i] (List.getElem_mem hi)
    omega
  · rw [List.getD_eq_getElem?_getD, List.getElem?_eq_none (by omega)]
    simp

end Go.Proofs.Ytcngnfnljkkjgaa
namespace Go.Proofs.Ytcngnfnljkkjgaa
open Go.RowKit
attribute [local go_sem] cell_later frozen_later lt_later le_later

theorem tru_bd {e : List Int} {c : Cp} (he : ErrOk e) (h3 : 0 ≤ c.mn) (h4 : c.mn ≤ 1439) : -30 ≤ tru e c ∧ tru e c ≤ 1469 := by
  have := he c.ck.toNat
  unfold tru err
  omega
theorem err_bd {e : List Int} (he : ErrOk e) (i : Int) : -30 ≤ err e i ∧ err e i ≤ 30 := he i.toNat

theorem minute_calls4 {e0 e1 e2 e3 : Int} (e : List Int) (H4 : Hid (e4 e = [.int .i64 e0, .int .i64 e1, .int .i64 e2, .int .i64 e3])) (he : Hid (ErrOk e)) (c : Cp) (w : World) (h0 : 0 ≤ c.ck) (h1 : c.ck < 4) (hm1 : 0 ≤ c.mn) (hm2 : c.mn ≤ 1439) :
    Calls Try.prog 108 #[.agg #[.int .i64 e0, .int .i64 e1, .int .i64 e2, .int .i64 e3], .agg #[.int .i64 c.tk, .int .i64 c.ck, .int .i64 c.mn]] w (Ret (.int .i64 (tru e c)) w) := by
  have hb := err_bd he.out c.ck
  have := minute_calls e c w h0 h1 (by omega) (by omega) (by omega) (by omega)
  rw [H4.out] at this
  exact this

/-- What the loop holds after some clips. -/
def RiseF (l : List Int) (b : Bool) (n : Int) : Prop := nondec l = true ∧ b = !l.isEmpty ∧ n = l.getLastD 0
theorem RiseF.first {l : List Int} {n m : Int} (h : RiseF l false n) : RiseF (l ++ [m]) true m := by
  obtain ⟨h1, h2, _⟩ := h
  have : l = [] := by simpa using h2
  subst this
  exact ⟨rfl, rfl, rfl⟩
theorem RiseF.next {l : List Int} {n m : Int} (h : RiseF l true n) (hm : ¬ m < n) : RiseF (l ++ [m]) true m := by
  obtain ⟨h1, h2, h3⟩ := h
  refine ⟨?_, by simp, by simp⟩
  rw [nondec_snoc, h1, ← h3]
  simp
  omega
theorem RiseF.stop {l : List Int} {n m : Int} (h : RiseF l true n) (hm : m < n) : nondec (l ++ [m]) = false := by
  obtain ⟨h1, h2, h3⟩ := h
  have h2 : l.isEmpty = false := by simpa using h2
  rw [nondec_snoc, h1, h2, ← h3]
  simp
  omega
theorem nondec_append : ∀ (l m : List Int), nondec l = false → nondec (l ++ m) = false
  | [], m, h => by simp [nondec] at h
  | [_], m, h => by simp [nondec] at h
  | a :: b :: l, m, h => by
    simp only [nondec, Bool.and_eq_false_iff] at h
    simp only [List.cons_append, nondec, Bool.and_eq_false_iff]
    rcases h with h | h
    · exact .inl h
    · exact .inr (by simpa using nondec_append (b :: l) m h)
theorem keptM_take (e : List Int) (out : List Int) : ∀ (l : List Cp) (k : Nat), ∃ m, keptM e out l = keptM e out (l.take k) ++ m := by
  refine snoc_ind (fun k => ⟨[], by simp [keptM]⟩) fun l c ih k => ?_
  rcases Nat.lt_or_ge l.length k with hk | hk
  · exact ⟨[], by rw [List.take_of_length_le (by simp; omega), List.append_nil]⟩
  · obtain ⟨m, hm⟩ := ih k
    refine ⟨m ++ (if out.contains (l.length : Int) then [] else [tru e c]), ?_⟩
    rw [List.take_append_of_le_length hk, keptM_snoc, hm, List.append_assoc]

set_option maxHeartbeats 1000000 in
theorem rising_calls (v : Value) (h : Hs) (e : List Int) (A : Option Addr) (c : Nat) (out : List Int) (w : World) (H : HsAt w v h) (HO : SlA w 1 gI A c out) (he : ErrOk e) (hc : ClipsOk h.clips) (hl : h.clips.length ≤ 1000) :
    Calls Try.prog 111 #[v, .agg (e4 e).toArray, .slice A out.length c] w (Ret (.bool (h.risingB e out)) w) := by
  obtain ⟨A2, c2, A3, c3, A4, c4, rfl, H2, H3, H4⟩ := H
  have HE := Lib.hid he
  have HC := Lib.hid hc
  clear he hc
  obtain ⟨e0, e1, e2, e3, h4⟩ : ∃ e0 e1 e2 e3 : Int, e4 e = [.int .i64 e0, .int .i64 e1, .int .i64 e2, .int .i64 e3] := ⟨_, _, _, _, rfl⟩
  rw [h4]
  have HE4 := Lib.hid h4
  clear h4
  go_enter Try.func111, Try.ntmps111
  go_wp2
  obtain ⟨W1, hW1⟩ : ∃ W1, W1 = (w.alloc (.cells #[.int .i64 h.hour, .int .i64 h.grace, .slice A2 h.clocks.length c2, .slice A3 h.tickets.length c3, .slice A4 h.clips.length c4] 36)).alloc (.cells #[.int .i64 e0, .int .i64 e1, .int .i64 e2, .int .i64 e3] 119) := ⟨_, rfl⟩
  have hb1 : Below w.heap.size w W1 := by rw [hW1]; exact gA (gA (Below.refl _ _))
  have k0 : W1.cell? ⟨w.heap.size + 1, 0, none⟩ = some (.int .i64 e0) := by rw [hW1]; simp [go_sem]
  have k1 : W1.cell? ⟨w.heap.size + 1, 1, none⟩ = some (.int .i64 e1) := by rw [hW1]; simp [go_sem]
  have k2 : W1.cell? ⟨w.heap.size + 1, 2, none⟩ = some (.int .i64 e2) := by rw [hW1]; simp [go_sem]
  have k3 : W1.cell? ⟨w.heap.size + 1, 3, none⟩ = some (.int .i64 e3) := by rw [hW1]; simp [go_sem]
  have hlt0 : w.heap.size < W1.heap.size := by rw [hW1]; simp; omega
  have hlt1 : w.heap.size + 1 < W1.heap.size := by rw [hW1]; simp
  rw [← hW1]
  clear hW1
  have H4' := H4.below hb1
  have HO' := HO.below hb1
  go_loopw [7, 8, 15] (fun last is i wr => (∃ x, wr = later W1 x) ∧ ∃ (k : Nat) (b : Bool) (n : Int), k ≤ h.clips.length ∧ i = .int .i64 k ∧ is = .bool b ∧ last = .int .i64 n ∧ RiseF (keptM e out (h.clips.take k)) b n) (fun _ _ i _ => h.clips.length - (intOf i).toNat)
  case atStart => exact ⟨later_ex (Below.refl _ _), 0, false, 0, Nat.zero_le _, rfl, rfl, rfl, rfl, rfl, rfl⟩
  case round =>
    obtain ⟨⟨x, rfl⟩, k, bs, n, hk, rfl, rfl, rfl, hn⟩ := hrel
    by_cases hlt : k < h.clips.length
    · obtain ⟨b, off, c, rfl, hbl, hx, g1, g2, g3⟩ := H4'.atC hlt
      obtain ⟨m1, m2, m3, m4⟩ := HC.out c (List.mem_of_getElem? hx)
      have htb := tru_bd HE.out m3 m4
      have hs := keptM_snoc e out (h.clips.take k) c
      rw [List.length_take, Nat.min_eq_left (by omega), ← idx_nonneg] at hs
      have HS := Lib.hid (show keptM e out (h.clips.take (k + 1)) = keptM e out (h.clips.take k) ++ (if decide (0 ≤ idx out k) = true then [] else [tru e c]) by rw [List.take_add_one, hx]; exact hs)
      clear hs hx
      by_cases ho : 0 ≤ idx out k
      · have ho1 : decide (0 ≤ idx out k) = true := by simpa using ho
        go_wp2_with (first
          | (go_at_call 126; refine (contains_calls _ _ _ _ _ ?hs).mono ?_; (case hs => exact HO'.below (by repeat (first | exact Below.refl _ _ | (with_reducible assumption) | apply gL | apply gA | apply gD | apply gN | (refine gS ?_ (by first | (simp; done) | (simp; omega) | omega))))); (rintro e w' hr; first | ((with_reducible replace hr := Ret.up hr); obtain ⟨rfl, z, rfl⟩ := hr) | (obtain ⟨rfl, z, rfl⟩ := hr))))
        go_roundw
        case rel => exact ⟨later_ex (by repeat (first | exact Below.refl _ _ | (with_reducible assumption) | apply gL | apply gA | apply gD | apply gN | (refine gS ?_ (by first | (simp; done) | (simp; omega) | omega)))), k + 1, bs, n, by omega, by go_num, rfl, rfl, by rw [HS.out, ho1, if_pos rfl, List.append_nil]; exact hn⟩
        case measure => simp [intOf]; omega
      · have ho1 : decide (0 ≤ idx out k) = false := by simpa using ho
        have HS2 := Lib.hid (show keptM e out (h.clips.take (k + 1)) = keptM e out (h.clips.take k) ++ [tru e c] by rw [HS.out, ho1]; rfl)
        clear HS
        cases bs
        · go_wp2_with (first
            | (go_at_call 126; refine (contains_calls _ _ _ _ _ ?hs).mono ?_; (case hs => exact HO'.below (by repeat (first | exact Below.refl _ _ | (with_reducible assumption) | apply gL | apply gA | apply gD | apply gN | (refine gS ?_ (by first | (simp; done) | (simp; omega) | omega))))); (rintro e w' hr; first | ((with_reducible replace hr := Ret.up hr); obtain ⟨rfl, z, rfl⟩ := hr) | (obtain ⟨rfl, z, rfl⟩ := hr)))
            | (go_at_call 108; refine (minute_calls4 e HE4 HE c _ m1 m2 m3 m4).mono ?_; (rintro e w' hr; first | ((with_reducible replace hr := Ret.up hr); obtain ⟨rfl, z, rfl⟩ := hr) | (obtain ⟨rfl, z, rfl⟩ := hr))))
          go_roundw
          case rel => exact ⟨later_ex (by repeat (first | exact Below.refl _ _ | (with_reducible assumption) | apply gL | apply gA | apply gD | apply gN | (refine gS ?_ (by first | (simp; done) | (simp; omega) | omega)))), k + 1, true, tru e c, by omega, by go_num, rfl, rfl, by rw [HS2.out]; exact hn.first⟩
          case measure => simp [intOf]; omega
        · by_cases hlast : tru e c < n
          · have HF := Lib.hid (show h.risingB e out = false by
              obtain ⟨m, hm⟩ := keptM_take e out h.clips (k + 1)
              rw [Hs.risingB, hm, HS2.out]
              exact nondec_append _ _ (hn.stop hlast))
            go_wp2_with (first
              | (go_at_call 126; refine (contains_calls _ _ _ _ _ ?hs).mono ?_; (case hs => exact HO'.below (by repeat (first | exact Below.refl _ _ | (with_reducible assumption) | apply gL | apply gA | apply gD | apply gN | (refine gS ?_ (by first | (simp; done) | (simp; omega) | omega))))); (rintro e w' hr; first | ((with_reducible replace hr := Ret.up hr); obtain ⟨rfl, z, rfl⟩ := hr) | (obtain ⟨rfl, z, rfl⟩ := hr)))
              | (go_at_call 108; refine (minute_calls4 e HE4 HE c _ m1 m2 m3 m4).mono ?_; (rintro e w' hr; first | ((with_reducible replace hr := Ret.up hr); obtain ⟨rfl, z, rfl⟩ := hr) | (obtain ⟨rfl, z, rfl⟩ := hr))))
            go_ret
            exact ret_mk (ret_bool HF.out.symm) (hb1.trans (below_mono_of hb1 (by repeat (first | exact Below.refl _ _ | (with_reducible assumption) | apply gL | apply gA | apply gD | apply gN | (refine gS ?_ (by first | (simp; done) | (simp; omega) | omega))))))
          · go_wp2_with (first
              | (go_at_call 126; refine (contains_calls _ _ _ _ _ ?hs).mono ?_; (case hs => exact HO'.below (by repeat (first | exact Below.refl _ _ | (with_reducible assumption) | apply gL | apply gA | apply gD | apply gN | (refine gS ?_ (by first | (simp; done) | (simp; omega) | omega))))); (rintro e w' hr; first | ((with_reducible replace hr := Ret.up hr); obtain ⟨rfl, z, rfl⟩ := hr) | (obtain ⟨rfl, z, rfl⟩ := hr)))
              | (go_at_call 108; refine (minute_calls4 e HE4 HE c _ m1 m2 m3 m4).mono ?_; (rintro e w' hr; first | ((with_reducible replace hr := Ret.up hr); obtain ⟨rfl, z, rfl⟩ := hr) | (obtain ⟨rfl, z, rfl⟩ := hr))))
            go_roundw
            case rel => exact ⟨later_ex (by repeat (first | exact Below.refl _ _ | (with_reducible assumption) | apply gL | apply gA | apply gD | apply gN | (refine gS ?_ (by first | (simp; done) | (simp; omega) | omega)))), k + 1, true, tru e c, by omega, by go_num, rfl, rfl, by rw [HS2.out]; exact hn.next (by omega)⟩
            case measure => simp [intOf]; omega
    · obtain rfl : k = h.clips.length := by omega
      rw [List.take_length] at hn
      have HF := Lib.hid (show h.risingB e out = true from hn.1)
      go_wp2
      go_ret
      exact ret_mk (ret_bool HF.out.symm) (hb1.trans (below_mono_of hb1 (by repeat (first | exact Below.refl _ _ | (with_reducible assumption) | apply gL | apply gA | apply gD | apply gN | (refine gS ?_ (by first | (simp; done) | (simp; omega) | omega))))))

theorem rising_calls4 {e0 e1 e2 e3 : Int} (v : Value) (h : Hs) (e : List Int) (H4 : Hid (e4 e = [.int .i64 e0, .int .i64 e1, .int .i64 e2, .int .i64 e3])) (A : Option Addr) (c : Nat) (out : List Int) (w : World) (H : HsAt w v h) (HO : SlA w 1 gI A c out) (he : ErrOk e) (hc : ClipsOk h.clips) (hl : h.clips.length ≤ 1000) :
    Calls Try.prog 111 #[v, .agg #[.int .i64 e0, .int .i64 e1, .int .i64 e2, .int .i64 e3], .slice A out.length c] w (Ret (.bool (h.risingB e out)) w) := by
  have := rising_calls v h e A c out w H HO he hc hl
  rw [H4.out] at this
  exact this
end Go.Proofs.Ytcngnfnljkkjgaa
namespace Go.Proofs.Ytcngnfnljkkjgaa
open Go.RowKit
attribute [local go_sem] cell_later frozen_later lt_later le_later

/-- A block that is known whole. -/
def BlkAt (w : World) (g : Nat) (t : TypeId) (cs : List Value) : Prop := w.heap[g]? = some (.cells cs.toArray t (0, 0))
theorem BlkAt.lt {w : World} {g : Nat} {t : TypeId} {cs : List Value} (h : BlkAt w g t cs) : g < w.heap.size := by
  rcases Nat.lt_or_ge g w.heap.size with hlt | hge
  · exact hlt
  · unfold BlkAt at h; rw [Array.getElem?_eq_none hge] at h; cases h
theorem BlkAt.cell {w : World} {g : Nat} {t : TypeId} {cs : List Value} (h : BlkAt w g t cs) (i : Nat) : w.cell? ⟨g, i, none⟩ = cs[i]? := by
  unfold BlkAt at h
  simp [World.cell?, h]
theorem BlkAt.frozen {w : World} {g : Nat} {t : TypeId} {cs : List Value} (h : BlkAt w g t cs) (i : Nat) : w.frozen? ⟨g, i, none⟩ = false := by
  unfold BlkAt at h
  simp [World.frozen?, h]
theorem BlkAt.new (w : World) (t : TypeId) (cs : List Value) : BlkAt (w.alloc (.cells cs.toArray t)) w.heap.size t cs := heap_alloc_new w _
theorem BlkAt.set_ {w : World} {g : Nat} {t : TypeId} {cs : List Value} (h : BlkAt w g t cs) (i : Nat) (u : Value) : BlkAt (w.setCell ⟨g, i, none⟩ u) g t (cs.set i u) := by
  unfold BlkAt at h ⊢
  simp [World.setCell, Array.getElem?_modify, h]
theorem BlkAt.of_below {B : Nat} {w w' : World} {g : Nat} {t : TypeId} {cs : List Value} (h : BlkAt w g t cs) (hb : Below B w w') (hg : g < B) : BlkAt w' g t cs := (hb.block g hg).trans h
theorem BlkAt.later {w x : World} {g : Nat} {t : TypeId} {cs : List Value} (h : BlkAt w g t cs) : BlkAt (later w x) g t cs := h.of_below (below_later w x) h.lt
theorem BlkAt.alloc {w : World} {g : Nat} {t : TypeId} {cs : List Value} (h : BlkAt w g t cs) (o : Obj) : BlkAt (w.alloc o) g t cs := (Below.heap_alloc w o g h.lt).trans h

def areErrB (h : Hs) (l : List Int) : Bool := decide (l.length = h.clocks.length) && (List.range l.length).all fun i => match h.clocks[i]? with
  | some r => inB (l.getD i 0) r.lo r.hi
  | none => false

theorem e4_set {l : List Int} {k : Nat} {n : Int} (hk : k < 4) (hx : l[k]? = some n) : (e4 (l.take k)).set k (.int .i64 n) = e4 (l.take (k + 1)) := by
  have : k = 0 ∨ k = 1 ∨ k = 2 ∨ k = 3 := by omega
  have hg : ∀ i, (l.take (k + 1)).getD i 0 = if i = k then n else (l.take k).getD i 0 := by
    intro i
    simp only [List.getD_eq_getElem?_getD, List.getElem?_take]
    by_cases h : i = k
    · subst h; simp [hx]
    · simp only [h, if_false]
      by_cases h2 : i < k
      · rw [if_pos (by omega), if_pos h2]
      · rw [if_neg (by omega), if_neg h2]
  unfold e4
  simp only [hg]
  rcases this with rfl | rfl | rfl | rfl <;> simp

/-- What 'listed' leaves. -/
def RetListed (h : Hs) (l : List Int) (w : World) (e : Ending) (w' : World) : Prop :=
  ∃ a0 a1 a2 a3 : Int, (areErrB h l = true → e4 l = [.int .i64 a0, .int .i64 a1, .int .i64 a2, .int .i64 a3]) ∧
    e = .returned (.tuple #[.agg #[.int .i64 a0, .int .i64 a1, .int .i64 a2, .int .i64 a3], .bool (areErrB h l)]) ∧ ∃ x, w' = later w x

theorem RetListed.up {h : Hs} {l : List Int} {w x w' : World} {e : Ending} (H : RetListed h l (later w x) e w') : RetListed h l w e w' := by
  obtain ⟨a0, a1, a2, a3, h4, he, y, rfl⟩ := H
  exact ⟨a0, a1, a2, a3, h4, he, later_ex (later_below (below_later w x) (size_later w x))⟩

set_option maxHeartbeats 1000000 in
theorem listed_calls (v : Value) (h : Hs) (A : Option Addr) (c : Nat) (l : List Int) (w : World) (H : HsAt w v h) (HL : SlA w 1 gI A c l) (hn : h.clocks.length ≤ 4) :
    Calls Try.prog 107 #[v, .slice A l.length c] w (RetListed h l w) := by
  obtain ⟨A2, c2, A3, c3, A4, c4, rfl, H2, H3, H4⟩ := H
  have hl2 := HL.2.1
  by_cases hlen : l.length = h.clocks.length
  · have hne : ((l.length : Int) != (h.clocks.length : Int)) = false := by simp [hlen]
    have HN := Lib.hid hlen
    have hl4 : l.length ≤ 4 := by omega
    have hl5 : l.length ≤ h.clocks.length := by omega
    clear hlen
    go_enter Try.func107, Try.ntmps107
    go_wp2
    obtain ⟨g, hg⟩ : ∃ g, g = w.heap.size + 1 := ⟨_, rfl⟩
    obtain ⟨W1, hW1⟩ : ∃ W1, W1 = (w.alloc (.cells #[.int .i64 h.hour, .int .i64 h.grace, .slice A2 h.clocks.length c2, .slice A3 h.tickets.length c3, .slice A4 h.clips.length c4] 36)).alloc (.cells #[.int .i64 0, .int .i64 0, .int .i64 0, .int .i64 0] 119) := ⟨_, rfl⟩
    have hb1 : Below w.heap.size w W1 := by rw [hW1]; exact gA (gA (Below.refl _ _))
    have k2 : W1.cell? ⟨w.heap.size, 2, none⟩ = some (.slice A2 h.clocks.length c2) := by rw [hW1]; simp [go_sem]
    have hk : BlkAt W1 g 119 (e4 (l.take 0)) := by
      rw [hW1, hg]
      have := BlkAt.new (w.alloc (.cells #[.int .i64 h.hour, .int .i64 h.grace, .slice A2 h.clocks.length c2, .slice A3 h.tickets.length c3, .slice A4 h.clips.length c4] 36)) 119 (e4 (l.take 0))
      rw [World.size_alloc] at this
      exact this
    have hlt1 : w.heap.size < g := by omega
    rw [← hW1, ← hg]
    clear hW1
    have H2' := H2.below hb1
    have HL' := HL.below hb1
    have HG := Lib.hid hg
    clear hg
    go_loopw [17] (fun i wr => Below g W1 wr ∧ ∃ k : Nat, k ≤ l.length ∧ i = .int .i64 k ∧ BlkAt wr g 119 (e4 (l.take k)) ∧ ∀ j, j < k → ∀ r, h.clocks[j]? = some r → inB (l.getD j 0) r.lo r.hi = true) (fun i _ => l.length - (intOf i).toNat)
    case atStart => exact ⟨Below.refl _ _, 0, Nat.zero_le _, rfl, hk, fun j hj => by omega⟩
    case round =>
      obtain ⟨hb, k, hk, rfl, hB, hj⟩ := hrel
      have HJ := Lib.hid hj
      clear hj
      have kc := (hb.cell (p := ⟨w.heap.size, 2, none⟩) hlt1).trans k2
      by_cases hlt : k < l.length
      · have hbw : Below w.heap.size w wr := hb1.trans (hb.mono (Nat.le_of_lt hlt1))
        obtain ⟨b1, off1, n, rfl, hbl1, hx, g1⟩ := (HL.below hbw).atI hlt
        obtain ⟨b2, off2, r, rfl, hbl2, hr, g2, g3⟩ := (H2.below hbw).atR (i := k) (by omega)
        have HX := Lib.hid hx
        have HR := Lib.hid hr
        clear hx hr
        have hgl := hB.lt
        obtain ⟨u, hu⟩ : ∃ u, wr.cell? ⟨g, k, none⟩ = some u := ⟨_, (hB.cell k).trans (List.getElem?_eq_getElem (by simp [e4]; omega))⟩
        have hfz := hB.frozen k
        by_cases hin : inB n r.lo r.hi = true
        · go_wp2_with (first
            | (go_at_call 125; refine (has_calls _ _ _ _).mono ?_; (rintro e w' hr; first | ((with_reducible replace hr := Ret.up hr); obtain ⟨rfl, z, rfl⟩ := hr) | (obtain ⟨rfl, z, rfl⟩ := hr))))
          go_roundw
          case rel => exact ⟨(later_below hb (Nat.le_of_lt hgl)).setCell (Nat.le_refl _) _, k + 1, by omega, by go_num, by
            have := (hB.later (x := z)).set_ k (.int .i64 n)
            rw [e4_set (by omega) HX.out] at this
            exact this, fun j hj r' hr' => by
            rcases Nat.lt_or_ge j k with h' | h'
            · exact HJ.out j h' r' hr'
            · obtain rfl : j = k := by omega
              rw [HR.out] at hr'
              cases hr'
              rw [List.getD_eq_getElem?_getD, HX.out]
              exact hin⟩
          case measure => simp [intOf]; omega
        · have hin : inB n r.lo r.hi = false := by simpa using hin
          have kk := fun i => hB.cell i
          have kf := fun i => hB.frozen i
          have kk0 := kk 0
          have kk1 := kk 1
          have kk2 := kk 2
          have kk3 := kk 3
          have kf0 := kf 0
          have kf1 := kf 1
          have kf2 := kf 2
          have kf3 := kf 3
          clear kk kf
          obtain ⟨a0, a1, a2, a3, h4⟩ : ∃ a0 a1 a2 a3 : Int, e4 (l.take k) = [.int .i64 a0, .int .i64 a1, .int .i64 a2, .int .i64 a3] := ⟨_, _, _, _, rfl⟩
          rw [h4] at kk0 kk1 kk2 kk3
          simp only [List.getElem?_cons_zero, List.getElem?_cons_succ] at kk0 kk1 kk2 kk3
          clear h4
          go_wp2_with (first
            | (go_at_call 125; refine (has_calls _ _ _ _).mono ?_; (rintro e w' hr; first | ((with_reducible replace hr := Ret.up hr); obtain ⟨rfl, z, rfl⟩ := hr) | (obtain ⟨rfl, z, rfl⟩ := hr))))
          have HF := Lib.hid (show areErrB h l = false by
            rw [areErrB, Bool.and_eq_false_iff]
            refine .inr (List.all_eq_false.2 ⟨k, by simpa using hlt, ?_⟩)
            rw [HR.out]
            simp [List.getD_eq_getElem?_getD, HX.out, hin])
          refine bodyPost_ret (v := .tuple #[.agg #[.int .i64 a0, .int .i64 a1, .int .i64 a2, .int .i64 a3], .bool false]) ?hr rfl ⟨a0, a1, a2, a3, (fun h => by rw [HF.out] at h; cases h), by rw [HF.out], later_ex ?hbb⟩
          case hr => simp [results, Try.results107, go_sem, *]
          case hbb => exact (by repeat (first | exact Below.refl _ _ | (with_reducible assumption) | apply gL | apply gA | apply gD | apply gN | (refine gS ?_ (by first | (simp; done) | (simp; omega) | omega))))
      · obtain rfl : k = l.length := by omega
        have hbw : Below w.heap.size w wr := hb1.trans (hb.mono (Nat.le_of_lt hlt1))
        have hgl := hB.lt
        rw [List.take_length] at hB
        have kk0 := hB.cell 0
        have kk1 := hB.cell 1
        have kk2 := hB.cell 2
        have kk3 := hB.cell 3
        have kf0 := hB.frozen 0
        have kf1 := hB.frozen 1
        have kf2 := hB.frozen 2
        have kf3 := hB.frozen 3
        have HF := Lib.hid (show areErrB h l = true by
          rw [areErrB, Bool.and_eq_true]
          refine ⟨by simpa using HN.out, List.all_eq_true.2 fun j hj => ?_⟩
          have hj' : j < l.length := by simpa using hj
          rw [List.getElem?_eq_getElem (by omega)]
          exact HJ.out j hj' _ (List.getElem?_eq_getElem (by omega)))
        obtain ⟨a0, a1, a2, a3, h4⟩ : ∃ a0 a1 a2 a3 : Int, e4 l = [.int .i64 a0, .int .i64 a1, .int .i64 a2, .int .i64 a3] := ⟨_, _, _, _, rfl⟩
        rw [h4] at kk0 kk1 kk2 kk3
        simp only [List.getElem?_cons_zero, List.getElem?_cons_succ] at kk0 kk1 kk2 kk3
        have HE := Lib.hid h4
        clear h4
        go_wp2
        refine bodyPost_ret (v := .tuple #[.agg #[.int .i64 a0, .int .i64 a1, .int .i64 a2, .int .i64 a3], .bool true]) ?hr rfl ⟨a0, a1, a2, a3, (fun _ => HE.out), by rw [HF.out], later_ex ?hbb⟩
        case hr => simp [results, Try.results107, go_sem, *]
        case hbb => exact (by repeat (first | exact Below.refl _ _ | (with_reducible assumption) | apply gL | apply gA | apply gD | apply gN | (refine gS ?_ (by first | (simp; done) | (simp; omega) | omega))))
  · have HF := Lib.hid (show areErrB h l = false by simp [areErrB, hlen])
    have hne : ((l.length : Int) != (h.clocks.length : Int)) = true := by simp; omega
    have HN := Lib.hid hlen
    clear hlen
    go_enter Try.func107, Try.ntmps107
    go_wp2
    refine bodyPost_ret (v := .tuple #[.agg #[.int .i64 0, .int .i64 0, .int .i64 0, .int .i64 0], .bool false]) ?hr rfl ⟨0, 0, 0, 0, (fun h => by rw [HF.out] at h; cases h), by rw [HF.out], later_ex (by repeat (first | exact Below.refl _ _ | (with_reducible assumption) | apply gL | apply gA | apply gD | apply gN | (refine gS ?_ (by first | (simp; done) | (simp; omega) | omega))))⟩
    case hr => simp [results, Try.results107, go_sem]
end Go.Proofs.Ytcngnfnljkkjgaa
namespace Go.Proofs.Ytcngnfnljkkjgaa
open Go.RowKit
attribute [local go_sem] cell_later frozen_later lt_later le_later

theorem own_below {w w' : World} {base : Nat} {e : TypeId} {k : Nat} {v : Value} {n : Nat} {xs : List Value} (h : w.ownsRow base e k v n xs) (hb : Below w.heap.size w w') : w'.ownsRow base e k v n xs := by
  obtain ⟨h1, h2⟩ := h
  refine ⟨h1, ?_⟩
  rcases h2 with h2 | ⟨g, cap, cur, hv, hg, hh, r⟩
  · exact Or.inl h2
  · refine Or.inr ⟨g, cap, cur, hv, hg, ?_, r⟩
    rw [hb.block g (Array.getElem?_eq_some_iff.1 hh).1]
    exact hh
theorem own_later {w x : World} {base : Nat} {e : TypeId} {k : Nat} {v : Value} {n : Nat} {xs : List Value} (h : w.ownsRow base e k v n xs) : (later w x).ownsRow base e k v n xs := own_below h (below_later w x)

/-- What a call leaves that hands back a list in new memory, and a number. -/
def RetSlN {α : Type} (k : Nat) (g : α → List Value) (l : List α) (n : Int) (w : World) (e : Ending) (w' : World) : Prop :=
  ∃ A c, e = .returned (.tuple #[.slice A l.length c, .int .i64 n]) ∧ (∃ x, w' = later w x) ∧ SlA w' k g A c l
theorem RetSlN.up {α : Type} {k : Nat} {g : α → List Value} {l : List α} {n : Int} {w x w' : World} {e : Ending} (h : RetSlN k g l n (later w x) e w') : RetSlN k g l n w e w' := by
  obtain ⟨A, c, he, ⟨y, rfl⟩, hs⟩ := h
  exact ⟨A, c, he, later_ex (later_below (below_later w x) (size_later w x)), hs⟩
theorem retSlN_nil {α : Type} {k : Nat} {g : α → List Value} {l : List α} {n : Int} {w w' : World} {e : Ending} (hl : l = []) (he : e = .returned (.tuple #[.slice none 0 0, .int .i64 n])) (hb : Below w.heap.size w w') : RetSlN k g l n w e w' := by
  subst hl
  exact ⟨none, 0, he, later_ex hb, SlA.nil _ _ _ _⟩

theorem infoInt : (Try.prog.info? 3).map (fun i => (i.zero, i.size, i.bytes)) = some (some (.int .i64 0), 1, 8) := by kernel_rfl

def Hs.playE (h : Hs) (l : List Int) : Int := if h.fault ≠ 0 then h.fault else if areErrB h l = true then 0 else 2
def Hs.playL (h : Hs) (l : List Int) : List Int := if h.playE l = 0 then h.clips.map (tru l) else []

theorem areErr_ok {h : Hs} {l : List Int} (hf : h.fault = 0) (hl : areErrB h l = true) : ErrOk l := fun i => by
  rw [areErrB, Bool.and_eq_true, List.all_eq_true] at hl
  obtain ⟨h1, h2⟩ := hl
  have h1 : l.length = h.clocks.length := by simpa using h1
  rcases Nat.lt_or_ge i l.length with hi | hi
  · have := h2 i (by simpa using hi)
    rw [List.getElem?_eq_getElem (by omega)] at this
    have := inB_iff.1 this
    have hc := fault_clock hf (List.getElem_mem (show i < h.clocks.length by omega))
    omega
  · rw [List.getD_eq_getElem?_getD, List.getElem?_eq_none hi]
    simp

set_option maxHeartbeats 1000000 in
theorem play_calls (v : Value) (h : Hs) (A : Option Addr) (c : Nat) (l : List Int) (w : World) (H : HsAt w v h) (HL : SlA w 1 gI A c l) :
    Calls Try.prog 57 #[v, .slice A l.length c] w (RetSlN 1 gI (h.playL l) (h.playE l) w) := by
  have H0 := H
  obtain ⟨A2, c2, A3, c3, A4, c4, rfl, H2, H3, H4⟩ := H
  by_cases hf : h.fault = 0
  · have hf1 : (h.fault != 0) = false := by simp [hf]
    have HF := Lib.hid hf
    have hn : h.clocks.length ≤ 4 := (small_iff.1 (fault_zero hf).1).1
    have hp : h.clips.length ≤ 10 := (small_iff.1 (fault_zero hf).1).2.2
    clear hf
    by_cases ha : areErrB h l = true
    · have HC := Lib.hid (clipsOk_of HF.out)
      have HE := Lib.hid (areErr_ok HF.out ha)
      have HP := Lib.hid (show h.playE l = 0 by simp [Hs.playE, HF.out, ha])
      have HPL := Lib.hid (show h.playL l = h.clips.map (tru l) by simp [Hs.playL, HP.out])
      obtain ⟨i0, hi, hz0, hz1, hz2⟩ := info_parts infoInt
      go_enter Try.func57, Try.ntmps57
      go_wp2_with (first
        | (go_at_call 70; refine (check_calls _ h _ ?hh).mono ?_; (case hh => exact H0.below (by repeat (first | exact Below.refl _ _ | (with_reducible assumption) | apply gL | apply gA | apply gD | apply gN | (refine gS ?_ (by first | (simp; done) | (simp; omega) | omega))))); (rintro e w' hr; first | ((with_reducible replace hr := Ret.up hr); obtain ⟨rfl, z, rfl⟩ := hr) | (obtain ⟨rfl, z, rfl⟩ := hr)))
        | (go_at_call 107; refine (listed_calls _ h _ _ l _ ?hh ?hs hn).mono ?_; (case hh => exact H0.below (by repeat (first | exact Below.refl _ _ | (with_reducible assumption) | apply gL | apply gA | apply gD | apply gN | (refine gS ?_ (by first | (simp; done) | (simp; omega) | omega))))); (case hs => exact HL.below (by repeat (first | exact Below.refl _ _ | (with_reducible assumption) | apply gL | apply gA | apply gD | apply gN | (refine gS ?_ (by first | (simp; done) | (simp; omega) | omega))))); (rintro e w' hr; (first | (with_reducible replace hr := RetListed.up hr) | skip); obtain ⟨a0, a1, a2, a3, h4, rfl, z, rfl⟩ := hr); have HE4 := Lib.hid (h4 ha); clear h4))
      obtain ⟨W1, hW1⟩ : ∃ W1, W1 = (later (w.alloc (.cells #[.int .i64 h.hour, .int .i64 h.grace, .slice A2 h.clocks.length c2, .slice A3 h.tickets.length c3, .slice A4 h.clips.length c4] 36)) z).alloc (.cells #[.int .i64 a0, .int .i64 a1, .int .i64 a2, .int .i64 a3] 119) := ⟨_, rfl⟩
      have hb1 : Below w.heap.size w W1 := by rw [hW1]; exact (by repeat (first | exact Below.refl _ _ | (with_reducible assumption) | apply gL | apply gA | apply gD | apply gN | (refine gS ?_ (by first | (simp; done) | (simp; omega) | omega))))
      obtain ⟨g, hg⟩ : ∃ g, g = (later (w.alloc (.cells #[.int .i64 h.hour, .int .i64 h.grace, .slice A2 h.clocks.length c2, .slice A3 h.tickets.length c3, .slice A4 h.clips.length c4] 36)) z).heap.size := ⟨_, rfl⟩
      have k0 : W1.cell? ⟨g, 0, none⟩ = some (.int .i64 a0) := by rw [hW1, hg]; simp [go_sem]
      have k1 : W1.cell? ⟨g, 1, none⟩ = some (.int .i64 a1) := by rw [hW1, hg]; simp [go_sem]
      have k2 : W1.cell? ⟨g, 2, none⟩ = some (.int .i64 a2) := by rw [hW1, hg]; simp [go_sem]
      have k3 : W1.cell? ⟨g, 3, none⟩ = some (.int .i64 a3) := by rw [hW1, hg]; simp [go_sem]
      have hgl : g < W1.heap.size := by rw [hW1, hg]; simp
      rw [← hW1, ← hg]
      clear hW1 hg
      go_loopw [9, 28] (fun v i wr => ∃ k : Nat, k ≤ h.clips.length ∧ i = .int .i64 k ∧ Below W1.heap.size W1 wr ∧ wr.ownsRow W1.heap.size 3 1 v k (((h.clips.take k).map (tru l)).flatMap gI))
        (fun _ i _ => h.clips.length - (intOf i).toNat)
      case atStart => exact ⟨0, Nat.zero_le _, rfl, Below.refl _ _, World.ownsRow_nil _ _ _ _⟩
      case round =>
        obtain ⟨k, hk, rfl, hb, hown⟩ := hrel
        have hbw : Below w.heap.size w wr := hb1.trans (hb.mono hb1.size)
        by_cases hlt : k < h.clips.length
        · obtain ⟨b, off, x, rfl, hbl, hx, g1, g2, g3⟩ := (H4.below hbw).atC hlt
          obtain ⟨m1, m2, m3, m4⟩ := HC.out x (List.mem_of_getElem? hx)
          have HS := Lib.hid (show (h.clips.take (k + 1)).map (tru l) = (h.clips.take k).map (tru l) ++ [tru l x] by rw [List.take_add_one, hx]; simp)
          clear hx
          have q0 := (hb.cell (p := ⟨g, 0, none⟩) hgl).trans k0
          have q1 := (hb.cell (p := ⟨g, 1, none⟩) hgl).trans k1
          have q2 := (hb.cell (p := ⟨g, 2, none⟩) hgl).trans k2
          have q3 := (hb.cell (p := ⟨g, 3, none⟩) hgl).trans k3
          have hgr : g < wr.heap.size := Nat.lt_of_lt_of_le hgl hb.size
          go_wp2_with (first
            | (go_at_call 108; refine (minute_calls4 l HE4 HE x _ m1 m2 m3 m4).mono ?_; (rintro e w' hr; first | ((with_reducible replace hr := Ret.up hr); obtain ⟨rfl, z, rfl⟩ := hr) | (obtain ⟨rfl, z, rfl⟩ := hr)))
            | (at_builtin; refine wpList_append_own _ rfl _ _ 47 rfl W1.heap.size 3 i0 (.int .i64 0) 1 8 Try.underlying47 hi hz0 hz1 hz2 rfl (by decide) _ _ _ rfl ((own_later (hown.alloc _)).alloc _) ⟨(later (wr.alloc (.cells #[.int .i64 x.tk, .int .i64 x.ck, .int .i64 x.mn] 104)) z).heap.size, 0, none⟩ 1 1 (gI (tru l x)) rfl rfl ?c1 ?c2 ?c3 ?c4 ?c5 ?_))
          case c1 => exact news_new _ _ (by simp) (gI (tru l x)) _
          case c2 => simp [gI, Value.oneCell']
          case c3 => unfold maxLen; omega
          case c4 => omega
          case c5 => have := hb.size; have := size_later (wr.alloc (.cells #[.int .i64 x.tk, .int .i64 x.ck, .int .i64 x.mn] 104)) z; simp at this ⊢; omega
          intro v' w1 hown1 hg1 _
          have hb2 := grown_below (by exact (by repeat (first | exact Below.refl _ _ | (with_reducible assumption) | apply gL | apply gA | apply gD | apply gN | (refine gS ?_ (by first | (simp; done) | (simp; omega) | omega))))) ((own_later (x := z) (hown.alloc (.cells #[.int .i64 x.tk, .int .i64 x.ck, .int .i64 x.mn] 104))).alloc (.cells #[.int .i64 (tru l x)] 3)) (Nat.le_refl _) hg1
          go_wp2
          go_roundw
          case rel => exact ⟨k + 1, by omega, by go_num, hb2, by rw [HS.out]; simpa using hown1⟩
          case measure => simp [intOf]; omega
        · obtain rfl : k = h.clips.length := by omega
          rw [List.take_length] at hown
          go_wp2
          obtain ⟨A, c, rfl, hs⟩ := SlA.of_own (k := 1) (g := gI) (l := h.clips.map (tru l)) hown (fun _ _ => rfl) (by simp) (by omega)
          go_ret2
          exact ⟨A, c, by rw [HPL.out, HP.out]; rfl, later_ex hbw, by rw [HPL.out]; exact hs⟩
    · have ha : areErrB h l = false := by simpa using ha
      have HP := Lib.hid (show h.playE l = 2 by simp [Hs.playE, HF.out, ha])
      have HPL := Lib.hid (show h.playL l = [] by simp [Hs.playL, HP.out])
      go_enter Try.func57, Try.ntmps57
      go_wp2_with (first
        | (go_at_call 70; refine (check_calls _ h _ ?hh).mono ?_; (case hh => exact H0.below (by repeat (first | exact Below.refl _ _ | (with_reducible assumption) | apply gL | apply gA | apply gD | apply gN | (refine gS ?_ (by first | (simp; done) | (simp; omega) | omega))))); (rintro e w' hr; first | ((with_reducible replace hr := Ret.up hr); obtain ⟨rfl, z, rfl⟩ := hr) | (obtain ⟨rfl, z, rfl⟩ := hr)))
        | (go_at_call 107; refine (listed_calls _ h _ _ l _ ?hh ?hs hn).mono ?_; (case hh => exact H0.below (by repeat (first | exact Below.refl _ _ | (with_reducible assumption) | apply gL | apply gA | apply gD | apply gN | (refine gS ?_ (by first | (simp; done) | (simp; omega) | omega))))); (case hs => exact HL.below (by repeat (first | exact Below.refl _ _ | (with_reducible assumption) | apply gL | apply gA | apply gD | apply gN | (refine gS ?_ (by first | (simp; done) | (simp; omega) | omega))))); (rintro e w' hr; (first | (with_reducible replace hr := RetListed.up hr) | skip); obtain ⟨a0, a1, a2, a3, h4, rfl, z, rfl⟩ := hr); clear h4))
      go_ret2
      exact retSlN_nil HPL.out (by rw [HP.out]; rfl) (by repeat (first | exact Below.refl _ _ | (with_reducible assumption) | apply gL | apply gA | apply gD | apply gN | (refine gS ?_ (by first | (simp; done) | (simp; omega) | omega))))
  · have hf1 : (h.fault != 0) = true := by simpa using hf
    have HP := Lib.hid (show h.playE l = h.fault by simp [Hs.playE, hf])
    have HPL := Lib.hid (show h.playL l = [] by simp [Hs.playL, HP.out, hf])
    have HF := Lib.hid hf
    clear hf
    go_enter Try.func57, Try.ntmps57
    go_wp2_with (first
        | (go_at_call 70; refine (check_calls _ h _ ?hh).mono ?_; (case hh => exact H0.below (by repeat (first | exact Below.refl _ _ | (with_reducible assumption) | apply gL | apply gA | apply gD | apply gN | (refine gS ?_ (by first | (simp; done) | (simp; omega) | omega))))); (rintro e w' hr; first | ((with_reducible replace hr := Ret.up hr); obtain ⟨rfl, z, rfl⟩ := hr) | (obtain ⟨rfl, z, rfl⟩ := hr))))
    go_ret2
    exact retSlN_nil HPL.out (by rw [HP.out]; rfl) (by repeat (first | exact Below.refl _ _ | (with_reducible assumption) | apply gL | apply gA | apply gD | apply gN | (refine gS ?_ (by first | (simp; done) | (simp; omega) | omega))))
end Go.Proofs.Ytcngnfnljkkjgaa
