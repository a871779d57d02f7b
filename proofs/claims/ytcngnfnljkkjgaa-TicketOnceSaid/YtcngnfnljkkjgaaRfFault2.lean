/-
The reference's error of a house: the walk.
-/
import Derived.Test.YtcngnfnljkkjgaaRfFault
namespace Go.Proofs.Ytcngnfnljkkjgaa
open Go.RowKit
attribute [local go_sem] cell_later frozen_later lt_later le_later

set_option maxRecDepth 100000 in
set_option maxHeartbeats 4000000 in
theorem reffault_calls (v : Value) (h : Hs) (w : World) (H : HsAt w v h) (hlc : h.clips.length ≤ 1000) :
    Calls Try.prog 93 #[v] w (Ret (.int .i64 h.fault) w) := by
  have H0 := H
  obtain ⟨A2, c2, A3, c3, A4, c4, rfl, H2, H3, H4⟩ := H
  by_cases hsm : h.smallB = true
  · have hs3 := small_iff.1 hsm
    have d1 : ¬ 4 < (h.clocks.length : Int) := by omega
    have d2 : ¬ 6 < (h.tickets.length : Int) := by omega
    have d3 : ¬ 10 < (h.clips.length : Int) := by omega
    have HSM := Lib.hid hsm
    clear hsm hs3
    obtain ⟨W1, hW1⟩ : ∃ W1, W1 = w.alloc (.cells #[.int .i64 h.hour, .int .i64 h.grace, .slice A2 h.clocks.length c2, .slice A3 h.tickets.length c3, .slice A4 h.clips.length c4] 26) := ⟨_, rfl⟩
    have hb1 : Below w.heap.size w W1 := by rw [hW1]; exact gA (Below.refl _ _)
    have hB : BlkAt W1 w.heap.size 26 [.int .i64 h.hour, .int .i64 h.grace, .slice A2 h.clocks.length c2, .slice A3 h.tickets.length c3, .slice A4 h.clips.length c4] := by rw [hW1]; exact BlkAt.new _ _ _
    have hBl := hB.lt
    cases e1 : inB h.hour 1 120 with
    | false =>
      have hR := Lib.hid (fault_arg HSM.out (arg_no (.inl e1)))
      go_enter Try.func93, Try.ntmps93
      go_wp2_with (first | (go_at_call 37; refine (refin_calls _ _ _ _).mono ?_; (rintro e w' hr; first | ((with_reducible replace hr := Ret.up hr); obtain ⟨rfl, z, rfl⟩ := hr) | (obtain ⟨rfl, z, rfl⟩ := hr))))
      go_ret
      exact ret_mk (ret_int hR.out.symm) (by rw [← hW1]; exact later_below hb1 hb1.size)
    | true =>
      cases e2 : inB h.grace 0 60 with
      | false =>
        have hR := Lib.hid (fault_arg HSM.out (arg_no (.inr (.inl e2))))
        go_enter Try.func93, Try.ntmps93
        go_wp2_with (first | (go_at_call 37; refine (refin_calls _ _ _ _).mono ?_; (rintro e w' hr; first | ((with_reducible replace hr := Ret.up hr); obtain ⟨rfl, z, rfl⟩ := hr) | (obtain ⟨rfl, z, rfl⟩ := hr))))
        go_ret
        exact ret_mk (ret_int hR.out.symm) (by rw [← hW1]; exact later_below hb1 hb1.size)
      | true =>
        have E1 := Lib.hid e1
        have E2 := Lib.hid e2
        have H2' := H2.below hb1
        have H3' := H3.below hb1
        have H4' := H4.below hb1
        have dd1 : (h.clocks.length : Int) ≤ 4 := by omega
        have dd2 : (h.tickets.length : Int) ≤ 6 := by omega
        have dd3 : (h.clips.length : Int) ≤ 10 := by omega
        go_enter Try.func93, Try.ntmps93
        go_wp2_with (first | (go_at_call 37; refine (refin_calls _ _ _ _).mono ?_; (rintro e w' hr; first | ((with_reducible replace hr := Ret.up hr); obtain ⟨rfl, z, rfl⟩ := hr) | (obtain ⟨rfl, z, rfl⟩ := hr))))
        clear e1 e2
        rw [← hW1]
        clear hW1
        go_loopw [3] (fun i wr => ∃ k : Nat, k ≤ h.clocks.length ∧ i = .int .i64 k ∧ (h.clocks.take k).all Rg.offB = true ∧ Below W1.heap.size W1 wr) (fun i _ => h.clocks.length - (intOf i).toNat)
        case atStart => exact ⟨0, Nat.zero_le _, rfl, rfl, below_later _ _⟩
        case round =>
          obtain ⟨k, hk, rfl, hall, hb⟩ := hrel
          have HA := Lib.hid hall
          clear hall
          have q2 := (hB.of_below hb hB.lt).cell 2
          have q4 := (hB.of_below hb hB.lt).cell 4
          simp only [List.getElem?_cons_zero, List.getElem?_cons_succ] at q2 q4
          have hBr : w.heap.size < wr.heap.size := Nat.lt_of_lt_of_le hBl hb.size
          by_cases hlt : k < h.clocks.length
          · have hlt1 : (k : Int) < (h.clocks.length : Int) := by omega
            have hk0 : (0 : Int) ≤ (k : Int) := Int.natCast_nonneg _
            obtain ⟨b, off, x, rfl, hbl, hx, s0, s1⟩ := (H2'.below hb).atR hlt
            by_cases x1 : x.lo < -30
            · have hR := Lib.hid (fault_arg HSM.out (arg_no (.inr (.inr (.inl (all_fails hx (by simp [Rg.offB]; omega)))))))
              clear hx
              go_wp2
              go_ret
              exact ret_mk (ret_int hR.out.symm) (hb1.trans (Below.mono (gA hb) hb1.size))
            · by_cases x2 : x.hi < x.lo
              · have hR := Lib.hid (fault_arg HSM.out (arg_no (.inr (.inr (.inl (all_fails hx (by simp [Rg.offB]; omega)))))))
                clear hx
                go_wp2
                go_ret
                exact ret_mk (ret_int hR.out.symm) (hb1.trans (Below.mono (gA hb) hb1.size))
              · by_cases x3 : 30 < x.hi
                · have hR := Lib.hid (fault_arg HSM.out (arg_no (.inr (.inr (.inl (all_fails hx (by simp [Rg.offB]; omega)))))))
                  clear hx
                  go_wp2
                  go_ret
                  exact ret_mk (ret_int hR.out.symm) (hb1.trans (Below.mono (gA hb) hb1.size))
                · have HN := Lib.hid (all_take HA.out hx (by simp [Rg.offB]; omega))
                  clear hx
                  go_wp2
                  go_roundw
                  case rel => exact ⟨k + 1, by omega, by go_num, HN.out, gA hb⟩
                  case measure => simp [intOf]; omega
          · obtain rfl : k = h.clocks.length := by omega
            have HO := Lib.hid (show h.clocks.all Rg.offB = true by have := HA.out; rwa [List.take_length] at this)
            clear HA hlt hk
            go_wp2
            go_loopw [5] (fun i wr => ∃ k : Nat, k ≤ h.clips.length ∧ i = .int .i64 k ∧ (h.clips.take k).all h.clipB = true ∧ Below W1.heap.size W1 wr) (fun i _ => h.clips.length - (intOf i).toNat)
            case atStart => exact ⟨0, Nat.zero_le _, rfl, rfl, hb⟩
            case round =>
              obtain ⟨k, hk, rfl, hall, hb⟩ := hrel
              have HA := Lib.hid hall
              clear hall
              have q2 := (hB.of_below hb hB.lt).cell 2
              have q3 := (hB.of_below hb hB.lt).cell 3
              have q4 := (hB.of_below hb hB.lt).cell 4
              simp only [List.getElem?_cons_zero, List.getElem?_cons_succ] at q2 q3 q4
              have hBr : w.heap.size < wr.heap.size := Nat.lt_of_lt_of_le hBl hb.size
              by_cases hlt : k < h.clips.length
              · have hlt1 : (k : Int) < (h.clips.length : Int) := by omega
                have hk0 : (0 : Int) ≤ (k : Int) := Int.natCast_nonneg _
                obtain ⟨b, off, x, rfl, hbl, hx, s0, s1, s2⟩ := (H4'.below hb).atC hlt
                cases e5 : inB x.tk 0 ((h.tickets.length : Int) - 1) with
                | false =>
                  have hR := Lib.hid (fault_arg HSM.out (arg_no (.inr (.inr (.inr (.inr (all_fails hx (clip_no (.inl e5)))))))))
                  clear hx
                  go_wp2_with (first | (go_at_call 37; refine (refin_calls _ _ _ _).mono ?_; (rintro e w' hr; first | ((with_reducible replace hr := Ret.up hr); obtain ⟨rfl, z, rfl⟩ := hr) | (obtain ⟨rfl, z, rfl⟩ := hr))))
                  go_ret
                  exact ret_mk (ret_int hR.out.symm) (hb1.trans (Below.mono (later_below (gA hb) (gA hb).size) hb1.size))
                | true =>
                  cases e6 : inB x.ck 0 ((h.clocks.length : Int) - 1) with
                  | false =>
                    have hR := Lib.hid (fault_arg HSM.out (arg_no (.inr (.inr (.inr (.inr (all_fails hx (clip_no (.inr (.inl e6))))))))))
                    clear hx
                    go_wp2_with (first | (go_at_call 37; refine (refin_calls _ _ _ _).mono ?_; (rintro e w' hr; first | ((with_reducible replace hr := Ret.up hr); obtain ⟨rfl, z, rfl⟩ := hr) | (obtain ⟨rfl, z, rfl⟩ := hr))))
                    go_ret
                    exact ret_mk (ret_int hR.out.symm) (hb1.trans (Below.mono (later_below (gA hb) (gA hb).size) hb1.size))
                  | true =>
                    cases e7 : inB x.mn 0 1439 with
                    | false =>
                      have hR := Lib.hid (fault_arg HSM.out (arg_no (.inr (.inr (.inr (.inr (all_fails hx (clip_no (.inr (.inr e7))))))))))
                      clear hx
                      go_wp2_with (first | (go_at_call 37; refine (refin_calls _ _ _ _).mono ?_; (rintro e w' hr; first | ((with_reducible replace hr := Ret.up hr); obtain ⟨rfl, z, rfl⟩ := hr) | (obtain ⟨rfl, z, rfl⟩ := hr))))
                      go_ret
                      exact ret_mk (ret_int hR.out.symm) (hb1.trans (Below.mono (later_below (gA hb) (gA hb).size) hb1.size))
                    | true =>
                      have HN := Lib.hid (all_take HA.out hx (by unfold Hs.clipB Hs.ticketB; rw [e5, e6, e7]; rfl))
                      clear hx
                      go_wp2_with (first | (go_at_call 37; refine (refin_calls _ _ _ _).mono ?_; (rintro e w' hr; first | ((with_reducible replace hr := Ret.up hr); obtain ⟨rfl, z, rfl⟩ := hr) | (obtain ⟨rfl, z, rfl⟩ := hr))))
                      go_roundw
                      case rel => exact ⟨k + 1, by omega, by go_num, HN.out, later_below (gA hb) (gA hb).size⟩
                      case measure => simp [intOf]; omega
              · obtain rfl : k = h.clips.length := by omega
                have HC := Lib.hid (show h.clips.all h.clipB = true by have := HA.out; rwa [List.take_length] at this)
                clear HA hlt hk
                go_wp2
                go_loopw [7] (fun i wr => ∃ k : Nat, k ≤ h.tickets.length ∧ i = .int .i64 k ∧ (h.tickets.take k).all Tk.validB = true ∧ (List.range k).all (fun (i : Nat) => decide ((h.ofs (i : Int)).length ≤ 2)) = true ∧ Below W1.heap.size W1 wr) (fun i _ => h.tickets.length - (intOf i).toNat)
                case atStart => exact ⟨0, Nat.zero_le _, rfl, rfl, rfl, hb⟩
                case round =>
                  obtain ⟨k, hk, rfl, hall, hof, hb⟩ := hrel
                  have HA := Lib.hid hall
                  have HF := Lib.hid hof
                  clear hall hof
                  have q3 := (hB.of_below hb hB.lt).cell 3
                  have q0 := (hB.of_below hb hB.lt).cell 0
                  have q1 := (hB.of_below hb hB.lt).cell 1
                  have q2 := (hB.of_below hb hB.lt).cell 2
                  have q4 := (hB.of_below hb hB.lt).cell 4
                  simp only [List.getElem?_cons_zero, List.getElem?_cons_succ] at q0 q1 q2 q3 q4
                  have hBr : w.heap.size < wr.heap.size := Nat.lt_of_lt_of_le hBl hb.size
                  by_cases hlt : k < h.tickets.length
                  · have hlt1 : (k : Int) < (h.tickets.length : Int) := by omega
                    have hk0 : (0 : Int) ≤ (k : Int) := Int.natCast_nonneg _
                    obtain ⟨b, off, x, rfl, hbl, hx, s0, s1⟩ := (H3'.below hb).atT hlt
                    cases e5 : inB x.tub 0 8 with
                    | false =>
                      have hR := Lib.hid (fault_arg HSM.out (arg_no (.inr (.inr (.inr (.inl (all_fails hx (valid_no (.inl e5)))))))))
                      clear hx
                      go_wp2_with (first | (go_at_call 37; refine (refin_calls _ _ _ _).mono ?_; (rintro e w' hr; first | ((with_reducible replace hr := Ret.up hr); obtain ⟨rfl, z, rfl⟩ := hr) | (obtain ⟨rfl, z, rfl⟩ := hr))))
                      go_ret
                      exact ret_mk (ret_int hR.out.symm) (hb1.trans (Below.mono (later_below hb hb.size) hb1.size))
                    | true =>
                      cases e6 : inB x.hours 0 9 with
                      | false =>
                        have hR := Lib.hid (fault_arg HSM.out (arg_no (.inr (.inr (.inr (.inl (all_fails hx (valid_no (.inr e6)))))))))
                        clear hx
                        go_wp2_with (first | (go_at_call 37; refine (refin_calls _ _ _ _).mono ?_; (rintro e w' hr; first | ((with_reducible replace hr := Ret.up hr); obtain ⟨rfl, z, rfl⟩ := hr) | (obtain ⟨rfl, z, rfl⟩ := hr))))
                        go_ret
                        exact ret_mk (ret_int hR.out.symm) (hb1.trans (Below.mono (later_below hb hb.size) hb1.size))
                      | true =>
                        by_cases e7 : 2 < (h.ofI (k : Int)).length
                        · have hR := Lib.hid (fault_one HSM.out (.inr (two_no hlt e7)))
                          have e8 : 2 < ((h.ofI (k : Int)).length : Int) := by omega
                          clear hx e7
                          go_wp2_with (first
                            | (go_at_call 37; refine (refin_calls _ _ _ _).mono ?_; (rintro e w' hr; first | ((with_reducible replace hr := Ret.up hr); obtain ⟨rfl, z, rfl⟩ := hr) | (obtain ⟨rfl, z, rfl⟩ := hr)))
                            | (go_at_call 97; refine (refof_calls _ h _ _ ?hh hlc).mono ?_; (case hh => exact H0.below (hb1.trans (Below.mono (later_below hb hb.size) hb1.size))); (rintro e w' hr; first | ((with_reducible replace hr := RetSl.up hr); obtain ⟨A, c, rfl, ⟨z, rfl⟩, hsl⟩ := hr) | (obtain ⟨A, c, rfl, ⟨z, rfl⟩, hsl⟩ := hr))))
                          go_ret
                          exact ret_mk (ret_int hR.out.symm) (hb1.trans (Below.mono (later_below hb hb.size) hb1.size))
                        · have HN := Lib.hid (all_take HA.out hx (by unfold Tk.validB; rw [e5, e6]; rfl))
                          have HN2 := Lib.hid (two_step HF.out e7)
                          have e8 : ¬ 2 < ((h.ofI (k : Int)).length : Int) := by omega
                          clear hx e7
                          go_wp2_with (first
                            | (go_at_call 37; refine (refin_calls _ _ _ _).mono ?_; (rintro e w' hr; first | ((with_reducible replace hr := Ret.up hr); obtain ⟨rfl, z, rfl⟩ := hr) | (obtain ⟨rfl, z, rfl⟩ := hr)))
                            | (go_at_call 97; refine (refof_calls _ h _ _ ?hh hlc).mono ?_; (case hh => exact H0.below (hb1.trans (Below.mono (later_below hb hb.size) hb1.size))); (rintro e w' hr; first | ((with_reducible replace hr := RetSl.up hr); obtain ⟨A, c, rfl, ⟨z, rfl⟩, hsl⟩ := hr) | (obtain ⟨A, c, rfl, ⟨z, rfl⟩, hsl⟩ := hr))))
                          go_roundw
                          case rel => exact ⟨k + 1, by omega, by go_num, HN.out, HN2.out, later_below hb hb.size⟩
                          case measure => simp [intOf]; omega
                  · obtain rfl : k = h.tickets.length := by omega
                    have HT := Lib.hid (show h.tickets.all Tk.validB = true by have := HA.out; rwa [List.take_length] at this)
                    have HAR := Lib.hid (arg_yes E1.out E2.out HO.out HT.out HC.out)
                    have hoff : ∀ r ∈ h.clocks, r.offB = true := fun r hr => by have := HO.out; rw [List.all_eq_true] at this; exact this r hr
                    obtain ⟨mb, -, -⟩ := many_both h.clocks hoff
                    have HOF := Lib.hid hoff
                    have hn4 : h.clocks.length ≤ 4 := by omega
                    by_cases hm : 2000 < manyR h.clocks
                    · have hR := Lib.hid (fault_many HSM.out HAR.out HF.out (by rcases mb with ⟨m1, m2⟩ | ⟨m1, m2⟩ <;> omega))
                      clear mb hoff
                      go_wp2_with (first
                        | (go_at_call 104; refine (refmany_calls _ h _ ?hh hn4 HOF.out).mono ?_; (case hh => exact H0.below (hb1.trans (Below.mono hb hb1.size))); (rintro e w' hr; first | ((with_reducible replace hr := Ret.up hr); obtain ⟨rfl, z, rfl⟩ := hr) | (obtain ⟨rfl, z, rfl⟩ := hr))))
                      go_ret
                      exact ret_mk (ret_int hR.out.symm) (hb1.trans (Below.mono (later_below hb hb.size) hb1.size))
                    · have hR := Lib.hid (fault_none HSM.out HAR.out HF.out (by rcases mb with ⟨m1, m2⟩ | ⟨m1, m2⟩ <;> omega))
                      clear mb hoff
                      go_wp2_with (first
                        | (go_at_call 104; refine (refmany_calls _ h _ ?hh hn4 HOF.out).mono ?_; (case hh => exact H0.below (hb1.trans (Below.mono hb hb1.size))); (rintro e w' hr; first | ((with_reducible replace hr := Ret.up hr); obtain ⟨rfl, z, rfl⟩ := hr) | (obtain ⟨rfl, z, rfl⟩ := hr))))
                      go_ret
                      exact ret_mk (ret_int hR.out.symm) (hb1.trans (Below.mono (later_below hb hb.size) hb1.size))
  · have hsm : h.smallB = false := by simpa using hsm
    have hR := Lib.hid (fault_small hsm)
    by_cases d1 : 4 < h.clocks.length
    · have d1 : 4 < (h.clocks.length : Int) := by omega
      go_enter Try.func93, Try.ntmps93
      go_wp2
      go_ret
      exact ret_mk (ret_int hR.out.symm) (by repeat (first | exact Below.refl _ _ | (with_reducible assumption) | apply gL | apply gA | apply gD | apply gN | (refine gS ?_ (by first | (simp; done) | (simp; omega) | omega))))
    · have d1' : ¬ 4 < (h.clocks.length : Int) := by omega
      by_cases d2 : 6 < h.tickets.length
      · have d2 : 6 < (h.tickets.length : Int) := by omega
        clear d1
        go_enter Try.func93, Try.ntmps93
        go_wp2
        go_ret
        exact ret_mk (ret_int hR.out.symm) (by repeat (first | exact Below.refl _ _ | (with_reducible assumption) | apply gL | apply gA | apply gD | apply gN | (refine gS ?_ (by first | (simp; done) | (simp; omega) | omega))))
      · have d2' : ¬ 6 < (h.tickets.length : Int) := by omega
        have d3 : 10 < (h.clips.length : Int) := by
          simp only [Hs.smallB, Bool.and_eq_false_iff, decide_eq_false_iff_not] at hsm
          omega
        clear d1 d2
        go_enter Try.func93, Try.ntmps93
        go_wp2
        go_ret
        exact ret_mk (ret_int hR.out.symm) (by repeat (first | exact Below.refl _ _ | (with_reducible assumption) | apply gL | apply gA | apply gD | apply gN | (refine gS ?_ (by first | (simp; done) | (simp; omega) | omega))))
theorem law_fault_calls (v : Value) (h : Hs) (w : World) (H : HsAt w v h) (hlc : h.clips.length ≤ 1000) :
    Calls Try.prog 36 #[v] w (Ret (.int .i64 h.fault) w) := by
  have H0 := H
  obtain ⟨A2, c2, A3, c3, A4, c4, rfl, H2, H3, H4⟩ := H
  go_enter Try.func36, Try.ntmps36
  go_wp2_with (fail)
  refine (reffault_calls _ h _ (H0.below (by repeat (first | exact Below.refl _ _ | (with_reducible assumption) | apply gL | apply gA | apply gD | apply gN | (refine gS ?_ (by first | (simp; done) | (simp; omega) | omega))))) hlc).mono ?_
  (rintro e w' hr; first | ((with_reducible replace hr := Ret.up hr); obtain ⟨rfl, z, rfl⟩ := hr) | (obtain ⟨rfl, z, rfl⟩ := hr))
  go_wp2
  go_ret
  exact ret_mk rfl (by repeat (first | exact Below.refl _ _ | (with_reducible assumption) | apply gL | apply gA | apply gD | apply gN | (refine gS ?_ (by first | (simp; done) | (simp; omega) | omega))))

/-- A house that a statement can use. -/
def Hs.readyB (h : Hs) : Bool := h.thinB && decide (h.fault = 0)
theorem ready_calls (v : Value) (h : Hs) (w : World) (H : HsAt w v h) :
    Calls Try.prog 49 #[v] w (Ret (.bool h.readyB) w) := by
  have H0 := H
  obtain ⟨A2, c2, A3, c3, A4, c4, rfl, H2, H3, H4⟩ := H
  cases ht : h.thinB with
  | false =>
    have hR := Lib.hid (show h.readyB = false by simp [Hs.readyB, ht])
    go_enter Try.func49, Try.ntmps49
    go_wp2_with (fail)
    refine (thin_calls _ h _ (H0.below (by repeat (first | exact Below.refl _ _ | (with_reducible assumption) | apply gL | apply gA | apply gD | apply gN | (refine gS ?_ (by first | (simp; done) | (simp; omega) | omega)))))).mono ?_
    (rintro e w' hr; first | ((with_reducible replace hr := Ret.up hr); obtain ⟨rfl, z, rfl⟩ := hr) | (obtain ⟨rfl, z, rfl⟩ := hr))
    go_wp2
    go_ret
    exact ret_mk (ret_bool hR.out.symm) (by repeat (first | exact Below.refl _ _ | (with_reducible assumption) | apply gL | apply gA | apply gD | apply gN | (refine gS ?_ (by first | (simp; done) | (simp; omega) | omega))))
  | true =>
    have hlc : h.clips.length ≤ 1000 := by have := (thin_iff.1 ht).2.2; omega
    by_cases hf : h.fault = 0
    · have hR := Lib.hid (show h.readyB = true by simp [Hs.readyB, ht, hf])
      go_enter Try.func49, Try.ntmps49
      go_wp2_with (fail)
      refine (thin_calls _ h _ (H0.below (by repeat (first | exact Below.refl _ _ | (with_reducible assumption) | apply gL | apply gA | apply gD | apply gN | (refine gS ?_ (by first | (simp; done) | (simp; omega) | omega)))))).mono ?_
      (rintro e w' hr; first | ((with_reducible replace hr := Ret.up hr); obtain ⟨rfl, z, rfl⟩ := hr) | (obtain ⟨rfl, z, rfl⟩ := hr))
      go_wp2_with (fail)
      refine (reffault_calls _ h _ (H0.below (by repeat (first | exact Below.refl _ _ | (with_reducible assumption) | apply gL | apply gA | apply gD | apply gN | (refine gS ?_ (by first | (simp; done) | (simp; omega) | omega))))) hlc).mono ?_
      (rintro e w' hr; first | ((with_reducible replace hr := Ret.up hr); obtain ⟨rfl, z, rfl⟩ := hr) | (obtain ⟨rfl, z, rfl⟩ := hr))
      go_wp2
      go_ret
      exact ret_mk (ret_bool hR.out.symm) (by repeat (first | exact Below.refl _ _ | (with_reducible assumption) | apply gL | apply gA | apply gD | apply gN | (refine gS ?_ (by first | (simp; done) | (simp; omega) | omega))))
    · have hR := Lib.hid (show h.readyB = false by simp [Hs.readyB, hf])
      have hf1 : (h.fault == 0) = false := by simpa using hf
      go_enter Try.func49, Try.ntmps49
      go_wp2_with (fail)
      refine (thin_calls _ h _ (H0.below (by repeat (first | exact Below.refl _ _ | (with_reducible assumption) | apply gL | apply gA | apply gD | apply gN | (refine gS ?_ (by first | (simp; done) | (simp; omega) | omega)))))).mono ?_
      (rintro e w' hr; first | ((with_reducible replace hr := Ret.up hr); obtain ⟨rfl, z, rfl⟩ := hr) | (obtain ⟨rfl, z, rfl⟩ := hr))
      go_wp2_with (fail)
      refine (reffault_calls _ h _ (H0.below (by repeat (first | exact Below.refl _ _ | (with_reducible assumption) | apply gL | apply gA | apply gD | apply gN | (refine gS ?_ (by first | (simp; done) | (simp; omega) | omega))))) hlc).mono ?_
      (rintro e w' hr; first | ((with_reducible replace hr := Ret.up hr); obtain ⟨rfl, z, rfl⟩ := hr) | (obtain ⟨rfl, z, rfl⟩ := hr))
      go_wp2
      go_ret
      exact ret_mk (ret_bool hR.out.symm) (by repeat (first | exact Below.refl _ _ | (with_reducible assumption) | apply gL | apply gA | apply gD | apply gN | (refine gS ?_ (by first | (simp; done) | (simp; omega) | omega))))
end Go.Proofs.Ytcngnfnljkkjgaa
