/-
The error of a house.
-/
import Derived.Test.YtcngnfnljkkjgaaTkOf
namespace Go.Proofs.Ytcngnfnljkkjgaa
open Go.RowKit
attribute [local go_sem] cell_later frozen_later lt_later le_later

set_option maxHeartbeats 1000000 in
theorem check_calls (v : Value) (h : Hs) (w : World) (H : HsAt w v h) :
    Calls Try.prog 70 #[v] w (Ret (.int .i64 h.fault) w) := by
  have H0 := H
  obtain ⟨A2, c2, A3, c3, A4, c4, rfl, H2, H3, H4⟩ := H
  have n2 := H2.2.1
  have n3 := H3.2.1
  have n4 := H4.2.1
  by_cases hs : h.smallB = true
  · have hs' := hs
    simp only [Hs.smallB, Bool.and_eq_true, decide_eq_true_eq] at hs'
    obtain ⟨s2, s3, s4⟩ := hs'
    have HS := Lib.hid hs
    clear hs
    by_cases ha : h.argB = true
    · have ha' := ha
      simp only [Hs.argB, Bool.and_eq_true] at ha'
      obtain ⟨a1, a2, a3, a4, a5⟩ := ha'
      go_enter Try.func70, Try.ntmps70
      go_wp2_with (first
        | (go_at_call 113; refine (within_calls _ _ _ _).mono ?_; (rintro e w' hr; first | ((with_reducible replace hr := Ret.up hr); obtain ⟨rfl, z, rfl⟩ := hr) | (obtain ⟨rfl, z, rfl⟩ := hr)))
        | (go_at_call 114; refine (allR_calls _ _ _ _ ?hs).mono ?_; (case hs => exact H2.below (by repeat (first | exact Below.refl _ _ | (with_reducible assumption) | apply gL | apply gA | apply gD | apply gN | (refine gS ?_ (by first | (simp; done) | (simp; omega) | omega))))); (rintro e w' hr; first | ((with_reducible replace hr := Ret.up hr); obtain ⟨rfl, z, rfl⟩ := hr) | (obtain ⟨rfl, z, rfl⟩ := hr)))
        | (go_at_call 116; refine (allT_calls _ _ _ _ ?hs).mono ?_; (case hs => exact H3.below (by repeat (first | exact Below.refl _ _ | (with_reducible assumption) | apply gL | apply gA | apply gD | apply gN | (refine gS ?_ (by first | (simp; done) | (simp; omega) | omega))))); (rintro e w' hr; first | ((with_reducible replace hr := Ret.up hr); obtain ⟨rfl, z, rfl⟩ := hr) | (obtain ⟨rfl, z, rfl⟩ := hr)))
        | (go_at_call 118; refine (allC_calls _ h n3 n2 _ _ _ _ ?hv ?hs).mono ?_; (case hv => exact H0.below (by repeat (first | exact Below.refl _ _ | (with_reducible assumption) | apply gL | apply gA | apply gD | apply gN | (refine gS ?_ (by first | (simp; done) | (simp; omega) | omega))))); (case hs => exact H4.below (by repeat (first | exact Below.refl _ _ | (with_reducible assumption) | apply gL | apply gA | apply gD | apply gN | (refine gS ?_ (by first | (simp; done) | (simp; omega) | omega))))); (rintro e w' hr; first | ((with_reducible replace hr := Ret.up hr); obtain ⟨rfl, z, rfl⟩ := hr) | (obtain ⟨rfl, z, rfl⟩ := hr))))
      go_loopw [60] (fun i wr => (∃ x, wr = later (w.alloc (.cells #[.int .i64 h.hour, .int .i64 h.grace, .slice A2 h.clocks.length c2, .slice A3 h.tickets.length c3, .slice A4 h.clips.length c4] 36)) x) ∧
          ∃ k : Nat, k ≤ h.tickets.length ∧ i = .int .i64 k ∧ ∀ j : Nat, j < k → (h.ofs j).length ≤ 2) (fun i _ => h.tickets.length - (intOf i).toNat)
      case atStart => exact ⟨later_ex (by repeat (first | exact Below.refl _ _ | (with_reducible assumption) | apply gL | apply gA | apply gD | apply gN | (refine gS ?_ (by first | (simp; done) | (simp; omega) | omega)))), 0, Nat.zero_le _, rfl, fun j hj => by omega⟩
      case round =>
        obtain ⟨⟨x, rfl⟩, k, hk, rfl, hj⟩ := hrel
        have HJ := Lib.hid hj
        clear hj
        by_cases hlt : k < h.tickets.length
        · by_cases h2 : (h.ofs k).length ≤ 2
          · go_wp2_with (go_at_call 119; refine (of_calls _ h _ _ ?hh (by omega)).mono ?_; (case hh => exact H0.below (by repeat (first | exact Below.refl _ _ | (with_reducible assumption) | apply gL | apply gA | apply gD | apply gN | (refine gS ?_ (by first | (simp; done) | (simp; omega) | omega))))); (rintro e w' hr; first | ((with_reducible replace hr := RetSl.up hr); obtain ⟨A, c, rfl, ⟨z, rfl⟩, hsl⟩ := hr) | (obtain ⟨A, c, rfl, ⟨z, rfl⟩, hsl⟩ := hr)))
            go_roundw
            case rel => exact ⟨later_ex (by repeat (first | exact Below.refl _ _ | (with_reducible assumption) | apply gL | apply gA | apply gD | apply gN | (refine gS ?_ (by first | (simp; done) | (simp; omega) | omega)))), k + 1, by omega, by go_num, fun j hj => by
              rcases Nat.lt_or_ge j k with h' | h'
              · exact HJ.out j h'
              · obtain rfl : j = k := by omega
                exact h2⟩
            case measure => simp [intOf]; omega
          · have HF := Lib.hid (show h.fault = 1 by
              have : h.twoB = false := by
                rw [Hs.twoB, List.all_eq_false]
                exact ⟨k, by simpa using hlt, by simpa using h2⟩
              simp [Hs.fault, HS.out, ha, this])
            go_wp2_with (go_at_call 119; refine (of_calls _ h _ _ ?hh (by omega)).mono ?_; (case hh => exact H0.below (by repeat (first | exact Below.refl _ _ | (with_reducible assumption) | apply gL | apply gA | apply gD | apply gN | (refine gS ?_ (by first | (simp; done) | (simp; omega) | omega))))); (rintro e w' hr; first | ((with_reducible replace hr := RetSl.up hr); obtain ⟨A, c, rfl, ⟨z, rfl⟩, hsl⟩ := hr) | (obtain ⟨A, c, rfl, ⟨z, rfl⟩, hsl⟩ := hr)))
            go_ret
            exact ret_mk (ret_int HF.out.symm) (by repeat (first | exact Below.refl _ _ | (with_reducible assumption) | apply gL | apply gA | apply gD | apply gN | (refine gS ?_ (by first | (simp; done) | (simp; omega) | omega))))
        · obtain rfl : k = h.tickets.length := by omega
          have h2 : h.twoB = true := by
            rw [Hs.twoB, List.all_eq_true]
            intro j hj
            simpa using HJ.out j (by simpa using hj)
          have H2B := Lib.hid h2
          clear h2
          have hoff : ∀ (j : Nat) (r : Rg), h.clocks[j]? = some r → r.offB = true := fun j r hr => List.all_eq_true.1 a3 r (List.mem_of_getElem? hr)
          have HO := Lib.hid hoff
          clear hoff
          have HMB := Lib.hid (fun (k : Nat) => manyTo_bd (h.clocks.take k) (fun r hr => List.all_eq_true.1 a3 r (List.mem_of_mem_take hr)))
          go_wp2
          go_loopw [5, 72] (fun m i wr => (∃ x, wr = later (w.alloc (.cells #[.int .i64 h.hour, .int .i64 h.grace, .slice A2 h.clocks.length c2, .slice A3 h.tickets.length c3, .slice A4 h.clips.length c4] 36)) x) ∧
              ∃ k : Nat, k ≤ h.clocks.length ∧ i = .int .i64 k ∧ m = .int .i64 (manyTo (h.clocks.take k))) (fun _ i _ => h.clocks.length - (intOf i).toNat)
          case atStart => exact ⟨⟨_, rfl⟩, 0, Nat.zero_le _, rfl, by simp [manyTo]⟩
          case round =>
            obtain ⟨⟨x, rfl⟩, k, hk, rfl, rfl⟩ := hrel
            by_cases hlt : k < h.clocks.length
            · obtain ⟨b, off, r, rfl, hbl, hr, h1, h2⟩ := H2.atR hlt
              have ho := offB_iff.1 (HO.out k r hr)
              have hsn := Lib.hid (show manyTo (h.clocks.take (k + 1)) = min (manyTo (h.clocks.take k) * (r.hi - r.lo + 1)) 2001 by
                rw [List.take_add_one, hr]; exact manyTo_snoc _ _)
              clear hr
              have hmb := HMB.out k
              obtain ⟨o1, o2, o3⟩ := ho
              obtain ⟨m1, m2⟩ := hmb
              generalize manyTo (h.clocks.take k) = M at *
              have hp1 : 0 ≤ M * (r.hi - r.lo + 1) := Int.mul_nonneg (by omega) (by omega)
              have hp2 : M * (r.hi - r.lo + 1) ≤ 2001 * 61 := Int.mul_le_mul m2 (by omega) (by omega) (by omega)
              have hw : IntKind.i64.wrap (M * (r.hi - r.lo + 1)) = M * (r.hi - r.lo + 1) := IntWalk.i64_in _ (by omega)
              go_wp2_with (first
                | (go_at_call 99; refine (size_calls _ _ _ (by omega) (by omega) (by omega) (by omega)).mono ?_; (rintro e w' hr; first | ((with_reducible replace hr := Ret.up hr); obtain ⟨rfl, z, rfl⟩ := hr) | (obtain ⟨rfl, z, rfl⟩ := hr)))
                | (go_at_call 120; refine (minimum_calls _ _ (M * (r.hi - r.lo + 1)) 2001 _ ?hs).mono ?_; (case hs => exact sl2_of (by simp [go_sem]) (by simp [go_sem]) (by omega)); (rintro e w' hr; first | ((with_reducible replace hr := Ret.up hr); obtain ⟨rfl, z, rfl⟩ := hr) | (obtain ⟨rfl, z, rfl⟩ := hr))))
              go_roundw
              case rel => exact ⟨later_ex (by repeat (first | exact Below.refl _ _ | (with_reducible assumption) | apply gL | apply gA | apply gD | apply gN | (refine gS ?_ (by first | (simp; done) | (simp; omega) | omega)))), k + 1, by omega, by go_num, by rw [hsn.out]⟩
              case measure => simp [intOf]; omega
            · obtain rfl : k = h.clocks.length := by omega
              rw [List.take_length]
              by_cases hb : 2000 < manyTo h.clocks
              · have HF := Lib.hid (show h.fault = 3 by simp [Hs.fault, HS.out, ha, H2B.out, hb])
                go_wp2
                go_ret
                exact ret_mk (ret_int HF.out.symm) (by repeat (first | exact Below.refl _ _ | (with_reducible assumption) | apply gL | apply gA | apply gD | apply gN | (refine gS ?_ (by first | (simp; done) | (simp; omega) | omega))))
              · have HF := Lib.hid (show h.fault = 0 by simp [Hs.fault, HS.out, ha, H2B.out, hb])
                go_wp2
                go_ret
                exact ret_mk (ret_int HF.out.symm) (by repeat (first | exact Below.refl _ _ | (with_reducible assumption) | apply gL | apply gA | apply gD | apply gN | (refine gS ?_ (by first | (simp; done) | (simp; omega) | omega))))
    · have ha : h.argB = false := by simpa using ha
      have HF := Lib.hid (show h.fault = 1 by simp [Hs.fault, HS.out, ha])
      have hc : inB h.hour 1 120 = false ∨ (inB h.hour 1 120 = true ∧ inB h.grace 0 60 = false) ∨ (inB h.hour 1 120 = true ∧ inB h.grace 0 60 = true ∧ h.clocks.all Rg.offB = false) ∨
          (inB h.hour 1 120 = true ∧ inB h.grace 0 60 = true ∧ h.clocks.all Rg.offB = true ∧ h.tickets.all Tk.validB = false) ∨
          (inB h.hour 1 120 = true ∧ inB h.grace 0 60 = true ∧ h.clocks.all Rg.offB = true ∧ h.tickets.all Tk.validB = true ∧ h.clips.all h.clipB = false) := by
        unfold Hs.argB at ha
        generalize inB h.hour 1 120 = b1 at *
        generalize inB h.grace 0 60 = b2 at *
        generalize h.clocks.all Rg.offB = b3 at *
        generalize h.tickets.all Tk.validB = b4 at *
        generalize h.clips.all h.clipB = b5 at *
        revert ha
        cases b1 <;> cases b2 <;> cases b3 <;> cases b4 <;> cases b5 <;> decide
      clear ha
      rcases hc with a1 | ⟨a1, a2⟩ | ⟨a1, a2, a3⟩ | ⟨a1, a2, a3, a4⟩ | ⟨a1, a2, a3, a4, a5⟩
      all_goals
        go_enter Try.func70, Try.ntmps70
        go_wp2_with (first
          | (go_at_call 113; refine (within_calls _ _ _ _).mono ?_; (rintro e w' hr; first | ((with_reducible replace hr := Ret.up hr); obtain ⟨rfl, z, rfl⟩ := hr) | (obtain ⟨rfl, z, rfl⟩ := hr)))
          | (go_at_call 114; refine (allR_calls _ _ _ _ ?hs).mono ?_; (case hs => exact H2.below (by repeat (first | exact Below.refl _ _ | (with_reducible assumption) | apply gL | apply gA | apply gD | apply gN | (refine gS ?_ (by first | (simp; done) | (simp; omega) | omega))))); (rintro e w' hr; first | ((with_reducible replace hr := Ret.up hr); obtain ⟨rfl, z, rfl⟩ := hr) | (obtain ⟨rfl, z, rfl⟩ := hr)))
          | (go_at_call 116; refine (allT_calls _ _ _ _ ?hs).mono ?_; (case hs => exact H3.below (by repeat (first | exact Below.refl _ _ | (with_reducible assumption) | apply gL | apply gA | apply gD | apply gN | (refine gS ?_ (by first | (simp; done) | (simp; omega) | omega))))); (rintro e w' hr; first | ((with_reducible replace hr := Ret.up hr); obtain ⟨rfl, z, rfl⟩ := hr) | (obtain ⟨rfl, z, rfl⟩ := hr)))
          | (go_at_call 118; refine (allC_calls _ h n3 n2 _ _ _ _ ?hv ?hs).mono ?_; (case hv => exact H0.below (by repeat (first | exact Below.refl _ _ | (with_reducible assumption) | apply gL | apply gA | apply gD | apply gN | (refine gS ?_ (by first | (simp; done) | (simp; omega) | omega))))); (case hs => exact H4.below (by repeat (first | exact Below.refl _ _ | (with_reducible assumption) | apply gL | apply gA | apply gD | apply gN | (refine gS ?_ (by first | (simp; done) | (simp; omega) | omega))))); (rintro e w' hr; first | ((with_reducible replace hr := Ret.up hr); obtain ⟨rfl, z, rfl⟩ := hr) | (obtain ⟨rfl, z, rfl⟩ := hr))))
        go_ret
        exact ret_mk (ret_int HF.out.symm) (by repeat (first | exact Below.refl _ _ | (with_reducible assumption) | apply gL | apply gA | apply gD | apply gN | (refine gS ?_ (by first | (simp; done) | (simp; omega) | omega))))
  · have hs : h.smallB = false := by simpa using hs
    have HF := Lib.hid (show h.fault = 3 by simp [Hs.fault, hs])
    have hc : 4 < h.clocks.length ∨ (h.clocks.length ≤ 4 ∧ 6 < h.tickets.length) ∨ (h.clocks.length ≤ 4 ∧ h.tickets.length ≤ 6 ∧ 10 < h.clips.length) := by
      simp only [Hs.smallB, Bool.and_eq_false_iff, decide_eq_false_iff_not] at hs
      omega
    clear hs
    rcases hc with s2 | ⟨s2, s3⟩ | ⟨s2, s3, s4⟩
    all_goals
      go_enter Try.func70, Try.ntmps70
      go_wp2
      go_ret
      exact ret_mk (ret_int HF.out.symm) (by repeat (first | exact Below.refl _ _ | (with_reducible assumption) | apply gL | apply gA | apply gD | apply gN | (refine gS ?_ (by first | (simp; done) | (simp; omega) | omega))))
end Go.Proofs.Ytcngnfnljkkjgaa
