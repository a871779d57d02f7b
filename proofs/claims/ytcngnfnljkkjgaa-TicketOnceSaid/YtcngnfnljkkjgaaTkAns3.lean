/-
Whether all is paid once.
-/
import Derived.Test.YtcngnfnljkkjgaaTkWork5
namespace Go.Proofs.Ytcngnfnljkkjgaa
open Go.RowKit
attribute [local go_sem] cell_later frozen_later lt_later le_later

def Hs.okAt (h : Hs) (e : List Int) (i : Nat) : Bool := !h.longB e i && (List.range i).all fun k => !h.clashB e i k
def Hs.paidB (h : Hs) (e : List Int) : Bool := (List.range h.tickets.length).all (h.okAt e)
theorem all_range_false {p : Nat → Bool} {n k : Nat} (hk : k < n) (hp : p k = false) : (List.range n).all p = false := by
  rw [List.all_eq_false]
  exact ⟨k, List.mem_range.2 hk, by simp [hp]⟩
theorem all_range_snoc {p : Nat → Bool} {k : Nat} (h1 : (List.range k).all p = true) (h2 : p k = true) : (List.range (k + 1)).all p = true := by
  rw [List.range_succ, List.all_append, h1]
  simp [h2]

set_option maxHeartbeats 2000000 in
theorem paid_calls (g : Nat) (h : Hs) (e : List Int) {e0 e1 e2 e3 : Int} (H4 : Hid (e4 e = [.int .i64 e0, .int .i64 e1, .int .i64 e2, .int .i64 e3])) (he : Hid (ErrOk e)) (w : World) (H : WkAt w g h) (hf : Hid (h.fault = 0)) :
    Calls Try.prog 88 #[.pointer (some ⟨g, 0, none⟩), .agg #[.int .i64 e0, .int .i64 e1, .int .i64 e2, .int .i64 e3]] w (Ret (.bool (h.paidB e)) w) := by
  have H0 := H
  obtain ⟨A2, c2, A3, c3, A4, c4, A5, c5, r, l, h2, h3, h4, h5, h6, h7, h8⟩ := H
  have ht6 : h.tickets.length ≤ 6 := (small_iff.1 (fault_zero hf.out).1).2.1
  have hgl := h8.lt
  have kk3 := h8.cell 3
  simp only [List.getElem?_cons_zero, List.getElem?_cons_succ] at kk3
  obtain ⟨W1, hW1⟩ : ∃ W1, W1 = w.alloc (.cells #[.int .i64 e0, .int .i64 e1, .int .i64 e2, .int .i64 e3] 119) := ⟨_, rfl⟩
  have hb1 : Below w.heap.size w W1 := by rw [hW1]; exact (by repeat (first | exact Below.refl _ _ | (with_reducible assumption) | apply gL | apply gA | apply gD | apply gN | (refine gS ?_ (by first | (simp; done) | (simp; omega) | omega))))
  have hB1 : BlkAt W1 w.heap.size 119 [.int .i64 e0, .int .i64 e1, .int .i64 e2, .int .i64 e3] := by rw [hW1]; exact BlkAt.new _ _ _
  have q0 := hB1.cell 0
  have q1 := hB1.cell 1
  have q2 := hB1.cell 2
  have q3 := hB1.cell 3
  simp only [List.getElem?_cons_zero, List.getElem?_cons_succ] at q0 q1 q2 q3
  have hq := hB1.lt
  have hwk1 := H0.below hb1
  clear h2 h3 h4 h5 h6 h7 h8 H0
  go_enter Try.func88, Try.ntmps88
  go_wp2
  rw [← hW1]
  clear hW1 kk3
  go_loopw [13] (fun i wr => ∃ k : Nat, k ≤ h.tickets.length ∧ i = .int .i64 k ∧ (List.range k).all (h.okAt e) = true ∧ ∃ x, wr = later W1 x) (fun i _ => h.tickets.length - (intOf i).toNat)
  case atStart => exact ⟨0, Nat.zero_le _, rfl, rfl, later_ex (Below.refl _ _)⟩
  case round =>
    obtain ⟨k, hk, rfl, hall, x, rfl⟩ := hrel
    have HALL := Lib.hid hall
    clear hall
    by_cases hlt : k < h.tickets.length
    · have hlt1 : (k : Int) < (h.tickets.length : Int) := by omega
      have hk0 : (0 : Int) ≤ (k : Int) := Int.natCast_nonneg _
      by_cases hlg : h.longB e k = true
      · have HR := Lib.hid (show h.paidB e = false from all_range_false hlt (by simp [Hs.okAt, hlg]))
        go_wp2_with (first | (go_at_call 87; refine (long_calls g h e H4 he k hlt _ ?hw hf).mono ?_; (case hw => exact hwk1.below (by repeat (first | exact Below.refl _ _ | (with_reducible assumption) | apply gL | apply gA | apply gD | apply gN | (refine gS ?_ (by first | (simp; done) | (simp; omega) | omega))))); rw [hlg]; (rintro e w' hr; first | ((with_reducible replace hr := Ret.up hr); obtain ⟨rfl, z, rfl⟩ := hr) | (obtain ⟨rfl, z, rfl⟩ := hr))))
        go_ret
        exact ret_mk (ret_bool HR.out.symm) (hb1.trans (below_mono_of hb1 (by repeat (first | exact Below.refl _ _ | (with_reducible assumption) | apply gL | apply gA | apply gD | apply gN | (refine gS ?_ (by first | (simp; done) | (simp; omega) | omega))))))
      · have hlg : h.longB e k = false := by simpa using hlg
        go_wp2_with (first | (go_at_call 87; refine (long_calls g h e H4 he k hlt _ ?hw hf).mono ?_; (case hw => exact hwk1.below (by repeat (first | exact Below.refl _ _ | (with_reducible assumption) | apply gL | apply gA | apply gD | apply gN | (refine gS ?_ (by first | (simp; done) | (simp; omega) | omega))))); rw [hlg]; (rintro e w' hr; first | ((with_reducible replace hr := Ret.up hr); obtain ⟨rfl, z, rfl⟩ := hr) | (obtain ⟨rfl, z, rfl⟩ := hr))))
        have HLG := Lib.hid hlg
        clear hlg
        go_loopw [21] (fun i wr => ∃ j : Nat, j ≤ k ∧ i = .int .i64 j ∧ (List.range j).all (fun j => !h.clashB e k j) = true ∧ ∃ x, wr = later W1 x) (fun i _ => k - (intOf i).toNat)
        case atStart => exact ⟨0, Nat.zero_le _, rfl, rfl, later_ex (by repeat (first | exact Below.refl _ _ | (with_reducible assumption) | apply gL | apply gA | apply gD | apply gN | (refine gS ?_ (by first | (simp; done) | (simp; omega) | omega))))⟩
        case round =>
          obtain ⟨j, hj, rfl, hall2, y, rfl⟩ := hrel
          have HALL2 := Lib.hid hall2
          clear hall2
          by_cases hlj : j < k
          · have hlj1 : (j : Int) < (k : Int) := by omega
            have hj0 : (0 : Int) ≤ (j : Int) := Int.natCast_nonneg _
            by_cases hcl : h.clashB e k j = true
            · have HR := Lib.hid (show h.paidB e = false from all_range_false hlt (by
                rw [Hs.okAt, all_range_false (p := fun j => !h.clashB e k j) hlj (by simp [hcl])]; simp))
              go_wp2_with (first | (go_at_call 92; refine (clash_calls g h e H4 he k j hlt (by omega) _ ?hw hf).mono ?_; (case hw => exact hwk1.below (by repeat (first | exact Below.refl _ _ | (with_reducible assumption) | apply gL | apply gA | apply gD | apply gN | (refine gS ?_ (by first | (simp; done) | (simp; omega) | omega))))); rw [hcl]; (rintro e w' hr; first | ((with_reducible replace hr := Ret.up hr); obtain ⟨rfl, z, rfl⟩ := hr) | (obtain ⟨rfl, z, rfl⟩ := hr))))
              go_ret
              exact ret_mk (ret_bool HR.out.symm) (hb1.trans (below_mono_of hb1 (by repeat (first | exact Below.refl _ _ | (with_reducible assumption) | apply gL | apply gA | apply gD | apply gN | (refine gS ?_ (by first | (simp; done) | (simp; omega) | omega))))))
            · have hcl : h.clashB e k j = false := by simpa using hcl
              go_wp2_with (first | (go_at_call 92; refine (clash_calls g h e H4 he k j hlt (by omega) _ ?hw hf).mono ?_; (case hw => exact hwk1.below (by repeat (first | exact Below.refl _ _ | (with_reducible assumption) | apply gL | apply gA | apply gD | apply gN | (refine gS ?_ (by first | (simp; done) | (simp; omega) | omega))))); rw [hcl]; (rintro e w' hr; first | ((with_reducible replace hr := Ret.up hr); obtain ⟨rfl, z, rfl⟩ := hr) | (obtain ⟨rfl, z, rfl⟩ := hr))))
              go_roundw
              case rel => exact ⟨j + 1, by omega, by go_num, all_range_snoc HALL2.out (by simp [hcl]), later_ex (by repeat (first | exact Below.refl _ _ | (with_reducible assumption) | apply gL | apply gA | apply gD | apply gN | (refine gS ?_ (by first | (simp; done) | (simp; omega) | omega))))⟩
              case measure => simp [intOf]; omega
          · obtain rfl : j = k := by omega
            go_wp2
            go_roundw
            case rel => exact ⟨j + 1, by omega, by go_num, all_range_snoc HALL.out (by rw [Hs.okAt, HLG.out, HALL2.out]; rfl), later_ex (by repeat (first | exact Below.refl _ _ | (with_reducible assumption) | apply gL | apply gA | apply gD | apply gN | (refine gS ?_ (by first | (simp; done) | (simp; omega) | omega))))⟩
            case measure => simp [intOf]; omega
    · obtain rfl : k = h.tickets.length := by omega
      have HR := Lib.hid (show h.paidB e = true from HALL.out)
      go_wp2
      go_ret
      exact ret_mk (ret_bool HR.out.symm) (hb1.trans (below_mono_of hb1 (by repeat (first | exact Below.refl _ _ | (with_reducible assumption) | apply gL | apply gA | apply gD | apply gN | (refine gS ?_ (by first | (simp; done) | (simp; omega) | omega))))))

def Hs.paidV (h : Hs) : Int := if h.askE 0 = 0 then verdictB h.truths h.paidB else 0
theorem paid_all_calls (v : Value) (h : Hs) (w : World) (H : HsAt w v h) :
    Calls Try.prog 32 #[v] w (Ret (.tuple #[.int .i64 h.paidV, .int .i64 (h.askE 0)]) w) := by
  have H0 := H
  obtain ⟨A2, c2, A3, c3, A4, c4, rfl, H2, H3, H4⟩ := H
  by_cases ha : h.askE 0 = 0
  · obtain ⟨hf, -, hne⟩ := askE_zero ha
    have HL := Lib.hid (show h.paidV = verdictB h.truths h.paidB by rw [Hs.paidV, if_pos ha])
    have HA := Lib.hid ha
    have HF := Lib.hid hf
    clear ha hf hne
    go_enter Try.func32, Try.ntmps32
    go_wp2_with (first
      | (go_at_call 79; refine (asked_ok _ h 0 _ ?hh HA.out).mono ?_; (case hh => exact H0.below (by repeat (first | exact Below.refl _ _ | (with_reducible assumption) | apply gL | apply gA | apply gD | apply gN | (refine gS ?_ (by first | (simp; done) | (simp; omega) | omega))))); (rintro e w' hr; (first | (with_reducible replace hr := RetWk.up hr) | skip); obtain ⟨g, rfl, ⟨z, rfl⟩, hwk⟩ := hr))
      | (go_at_call 85; refine (verdict_paid g h _ h.paidB _ hwk HF (Lib.hid (fun x e' _ _ _ _ hm he hbx => paid_calls g h e' (Lib.hid he) (Lib.hid (truth_ok HF.out hm)) x (hwk.below hbx) HF))).mono ?_; (rintro e w' hr; first | ((with_reducible replace hr := Ret.up hr); obtain ⟨rfl, z, rfl⟩ := hr) | (obtain ⟨rfl, z, rfl⟩ := hr))))
    go_ret2
    exact ret_mk (by rw [HL.out, HA.out]; rfl) (by repeat (first | exact Below.refl _ _ | (with_reducible assumption) | apply gL | apply gA | apply gD | apply gN | (refine gS ?_ (by first | (simp; done) | (simp; omega) | omega))))
  · have HE := Lib.hid ha
    have hb : (h.askE 0 != 0) = true := by simpa using ha
    have HL := Lib.hid (show h.paidV = 0 by rw [Hs.paidV, if_neg ha])
    go_enter Try.func32, Try.ntmps32
    go_wp2_with (first | (go_at_call 79; refine (asked_bad _ h 0 _ ?hh HE.out).mono ?_; (case hh => exact H0.below (by repeat (first | exact Below.refl _ _ | (with_reducible assumption) | apply gL | apply gA | apply gD | apply gN | (refine gS ?_ (by first | (simp; done) | (simp; omega) | omega))))); (rintro e w' hr; first | ((with_reducible replace hr := Ret.up hr); obtain ⟨rfl, z, rfl⟩ := hr) | (obtain ⟨rfl, z, rfl⟩ := hr))))
    go_ret2
    exact ret_mk (by rw [HL.out]; rfl) (by repeat (first | exact Below.refl _ _ | (with_reducible assumption) | apply gL | apply gA | apply gD | apply gN | (refine gS ?_ (by first | (simp; done) | (simp; omega) | omega))))
end Go.Proofs.Ytcngnfnljkkjgaa
