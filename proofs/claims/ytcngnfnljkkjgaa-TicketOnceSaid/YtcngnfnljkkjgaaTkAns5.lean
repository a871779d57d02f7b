/-
From which minute on a tub is free.
-/
import Derived.Test.YtcngnfnljkkjgaaTkAns4
namespace Go.Proofs.Ytcngnfnljkkjgaa
open Go.RowKit
attribute [local go_sem] cell_later frozen_later lt_later le_later

def Hs.openAt (h : Hs) (tub : Int) (i : Nat) : Bool := match h.tickets[i]? with
  | some x => decide (x.tub = tub) && decide ((h.ofs i).length = 1)
  | none => false
def Hs.openB (h : Hs) (tub : Int) : Bool := (List.range h.tickets.length).any (h.openAt tub)
theorem any_range_true {p : Nat → Bool} {n k : Nat} (hk : k < n) (hp : p k = true) : (List.range n).any p = true := by
  rw [List.any_eq_true]
  exact ⟨k, List.mem_range.2 hk, hp⟩
theorem any_range_snoc {p : Nat → Bool} {k : Nat} (h1 : (List.range k).any p = false) (h2 : p k = false) : (List.range (k + 1)).any p = false := by
  rw [List.range_succ, List.any_append, h1]
  simp [h2]

set_option maxHeartbeats 2000000 in
theorem open_calls (v : Value) (h : Hs) (tub : Int) (w : World) (H : HsAt w v h) (hl : h.clips.length ≤ 1000) (ht6 : h.tickets.length ≤ 30) :
    Calls Try.prog 95 #[v, .int .i64 tub] w (Ret (.bool (h.openB tub)) w) := by
  have H0 := H
  obtain ⟨A2, c2, A3, c3, A4, c4, rfl, H2, H3, H4⟩ := H
  go_enter Try.func95, Try.ntmps95
  go_wp2
  obtain ⟨W1, hW1⟩ : ∃ W1, W1 = w.alloc (.cells #[.int .i64 h.hour, .int .i64 h.grace, .slice A2 h.clocks.length c2, .slice A3 h.tickets.length c3, .slice A4 h.clips.length c4] 36) := ⟨_, rfl⟩
  have hb1 : Below w.heap.size w W1 := by rw [hW1]; exact (by repeat (first | exact Below.refl _ _ | (with_reducible assumption) | apply gL | apply gA | apply gD | apply gN | (refine gS ?_ (by first | (simp; done) | (simp; omega) | omega))))
  have hB1 : BlkAt W1 w.heap.size 36 [.int .i64 h.hour, .int .i64 h.grace, .slice A2 h.clocks.length c2, .slice A3 h.tickets.length c3, .slice A4 h.clips.length c4] := by rw [hW1]; exact BlkAt.new _ _ _
  have q0 := hB1.cell 0
  have q1 := hB1.cell 1
  have q2 := hB1.cell 2
  have q3 := hB1.cell 3
  have q4 := hB1.cell 4
  simp only [List.getElem?_cons_zero, List.getElem?_cons_succ] at q0 q1 q2 q3 q4
  have hq := hB1.lt
  have hhs1 := H0.below hb1
  have h31 := H3.below hb1
  rw [← hW1]
  clear hW1
  go_loopw [10] (fun i wr => ∃ k : Nat, k ≤ h.tickets.length ∧ i = .int .i64 k ∧ (List.range k).any (h.openAt tub) = false ∧ ∃ x, wr = later W1 x) (fun i _ => h.tickets.length - (intOf i).toNat)
  case atStart => exact ⟨0, Nat.zero_le _, rfl, rfl, later_ex (Below.refl _ _)⟩
  case round =>
    obtain ⟨k, hk, rfl, hall, x, rfl⟩ := hrel
    have HALL := Lib.hid hall
    clear hall
    by_cases hlt : k < h.tickets.length
    · have hlt1 : (k : Int) < (h.tickets.length : Int) := by omega
      have hk0 : (0 : Int) ≤ (k : Int) := Int.natCast_nonneg _
      obtain ⟨b, off, tk, rfl, hbl, htk, t0, t1⟩ := h31.atT hlt
      have HO := Lib.hid (show h.openAt tub k = (decide (tk.tub = tub) && decide ((h.ofs k).length = 1)) by rw [Hs.openAt, htk])
      clear htk
      by_cases ht : tk.tub = tub
      · have ht1 : (tk.tub == tub) = true := by simpa using ht
        by_cases hl1 : (h.ofs k).length = 1
        · have HR := Lib.hid (show h.openB tub = true from any_range_true hlt (by rw [HO.out]; simp [ht, hl1]))
          have HL := Lib.hid hl1
          clear ht hl1
          go_wp2_with (first | (go_at_call 119; refine (of_calls _ h k _ ?hh hl).mono ?_; (case hh => exact hhs1.below (by repeat (first | exact Below.refl _ _ | (with_reducible assumption) | apply gL | apply gA | apply gD | apply gN | (refine gS ?_ (by first | (simp; done) | (simp; omega) | omega))))); (rintro e w' hr; first | ((with_reducible replace hr := RetSl.up hr); obtain ⟨A, c, rfl, ⟨z, rfl⟩, hsl⟩ := hr) | (obtain ⟨A, c, rfl, ⟨z, rfl⟩, hsl⟩ := hr)); rw [HL.out]))
          go_ret
          exact ret_mk (ret_bool HR.out.symm) (hb1.trans (below_mono_of hb1 (by repeat (first | exact Below.refl _ _ | (with_reducible assumption) | apply gL | apply gA | apply gD | apply gN | (refine gS ?_ (by first | (simp; done) | (simp; omega) | omega))))))
        · have hl2 : (((h.ofs k).length : Int) == 1) = false := by simp; omega
          have HN := Lib.hid (show h.openAt tub k = false by rw [HO.out]; simp [hl1])
          clear ht hl1
          go_wp2_with (first | (go_at_call 119; refine (of_calls _ h k _ ?hh hl).mono ?_; (case hh => exact hhs1.below (by repeat (first | exact Below.refl _ _ | (with_reducible assumption) | apply gL | apply gA | apply gD | apply gN | (refine gS ?_ (by first | (simp; done) | (simp; omega) | omega))))); (rintro e w' hr; first | ((with_reducible replace hr := RetSl.up hr); obtain ⟨A, c, rfl, ⟨z, rfl⟩, hsl⟩ := hr) | (obtain ⟨A, c, rfl, ⟨z, rfl⟩, hsl⟩ := hr))))
          go_roundw
          case rel => exact ⟨k + 1, by omega, by go_num, any_range_snoc HALL.out HN.out, later_ex (by repeat (first | exact Below.refl _ _ | (with_reducible assumption) | apply gL | apply gA | apply gD | apply gN | (refine gS ?_ (by first | (simp; done) | (simp; omega) | omega))))⟩
          case measure => simp [intOf]; omega
      · have ht1 : (tk.tub == tub) = false := by simpa using ht
        have HN := Lib.hid (show h.openAt tub k = false by rw [HO.out]; simp [ht])
        clear ht
        go_wp2
        go_roundw
        case rel => exact ⟨k + 1, by omega, by go_num, any_range_snoc HALL.out HN.out, later_ex (by repeat (first | exact Below.refl _ _ | (with_reducible assumption) | apply gL | apply gA | apply gD | apply gN | (refine gS ?_ (by first | (simp; done) | (simp; omega) | omega))))⟩
        case measure => simp [intOf]; omega
    · obtain rfl : k = h.tickets.length := by omega
      have HR := Lib.hid (show h.openB tub = false from HALL.out)
      go_wp2
      go_ret
      exact ret_mk (ret_bool HR.out.symm) (hb1.trans (below_mono_of hb1 (by repeat (first | exact Below.refl _ _ | (with_reducible assumption) | apply gL | apply gA | apply gD | apply gN | (refine gS ?_ (by first | (simp; done) | (simp; omega) | omega))))))

def Hs.freeDue (h : Hs) (n : Int) : Int := if inB n 0 8 = true then (if h.openB n = true then 8 else 0) else 2
def Hs.freeE (h : Hs) (n : Int) : Int := h.askE (h.freeDue n)
def Hs.freeV (h : Hs) (n : Int) : Rg := if h.freeE n = 0 then ⟨loB h.truths fun e => h.fromB e n, hiB h.truths fun e => h.fromB e n⟩ else ⟨0, 0⟩

set_option maxHeartbeats 2000000 in
theorem free_calls (v : Value) (h : Hs) (n : Int) (w : World) (H : HsAt w v h) (hl : h.clips.length ≤ 1000) (ht6 : h.tickets.length ≤ 30) :
    Calls Try.prog 39 #[v, .int .i64 n] w (Ret (.tuple #[.agg #[.int .i64 (h.freeV n).lo, .int .i64 (h.freeV n).hi], .int .i64 (h.freeE n)]) w) := by
  have H0 := H
  obtain ⟨A2, c2, A3, c3, A4, c4, rfl, H2, H3, H4⟩ := H
  by_cases h1 : inB n 0 8 = true
  · by_cases h2 : h.openB n = true
    · have hE : h.askE 8 ≠ 0 := askE_due (by decide)
      have hD := Lib.hid (show h.freeE n = h.askE 8 by rw [Hs.freeE, Hs.freeDue, if_pos h1, if_pos h2])
      have hb : (h.askE 8 != 0) = true := by simpa using hE
      have HE := Lib.hid hE
      have HL := Lib.hid (show h.freeV n = ⟨0, 0⟩ by rw [Hs.freeV, hD.out, if_neg hE])
      clear hE
      go_enter Try.func39, Try.ntmps39
      go_wp2_with (first
        | (go_at_call 94; refine (tub_calls _ _).mono ?_; rw [h1]; (rintro e w' hr; first | ((with_reducible replace hr := Ret.up hr); obtain ⟨rfl, z, rfl⟩ := hr) | (obtain ⟨rfl, z, rfl⟩ := hr)))
        | (go_at_call 95; refine (open_calls _ h n _ ?hh hl ht6).mono ?_; (case hh => exact H0.below (by repeat (first | exact Below.refl _ _ | (with_reducible assumption) | apply gL | apply gA | apply gD | apply gN | (refine gS ?_ (by first | (simp; done) | (simp; omega) | omega))))); rw [h2]; (rintro e w' hr; first | ((with_reducible replace hr := Ret.up hr); obtain ⟨rfl, z, rfl⟩ := hr) | (obtain ⟨rfl, z, rfl⟩ := hr)))
        | (go_at_call 79; refine (asked_bad _ h 8 _ ?hh HE.out).mono ?_; (case hh => exact H0.below (by repeat (first | exact Below.refl _ _ | (with_reducible assumption) | apply gL | apply gA | apply gD | apply gN | (refine gS ?_ (by first | (simp; done) | (simp; omega) | omega))))); (rintro e w' hr; first | ((with_reducible replace hr := Ret.up hr); obtain ⟨rfl, z, rfl⟩ := hr) | (obtain ⟨rfl, z, rfl⟩ := hr))))
      refine bodyPost_ret (v := .tuple #[.agg #[.int .i64 0, .int .i64 0], .int .i64 (h.askE 8)]) ?hr rfl (ret_mk (by rw [HL.out, hD.out]) (by repeat (first | exact Below.refl _ _ | (with_reducible assumption) | apply gL | apply gA | apply gD | apply gN | (refine gS ?_ (by first | (simp; done) | (simp; omega) | omega)))))
      case hr => simp [results, Try.results39, go_sem]
    · have h2 : h.openB n = false := by simpa using h2
      have hD := Lib.hid (show h.freeE n = h.askE 0 by rw [Hs.freeE, Hs.freeDue, if_pos h1, if_neg (by simp [h2])])
      by_cases ha : h.askE 0 = 0
      · obtain ⟨hf, -, hne⟩ := askE_zero ha
        have HL := Lib.hid (show h.freeV n = ⟨loB h.truths fun e => h.fromB e n, hiB h.truths fun e => h.fromB e n⟩ by rw [Hs.freeV, hD.out, if_pos ha])
        have HA := Lib.hid ha
        have HF := Lib.hid hf
        have HNE := Lib.hid hne
        clear ha hf hne
        go_enter Try.func39, Try.ntmps39
        go_wp2_with (first
          | (go_at_call 94; refine (tub_calls _ _).mono ?_; rw [h1]; (rintro e w' hr; first | ((with_reducible replace hr := Ret.up hr); obtain ⟨rfl, z, rfl⟩ := hr) | (obtain ⟨rfl, z, rfl⟩ := hr)))
          | (go_at_call 95; refine (open_calls _ h n _ ?hh hl ht6).mono ?_; (case hh => exact H0.below (by repeat (first | exact Below.refl _ _ | (with_reducible assumption) | apply gL | apply gA | apply gD | apply gN | (refine gS ?_ (by first | (simp; done) | (simp; omega) | omega))))); rw [h2]; (rintro e w' hr; first | ((with_reducible replace hr := Ret.up hr); obtain ⟨rfl, z, rfl⟩ := hr) | (obtain ⟨rfl, z, rfl⟩ := hr)))
          | (go_at_call 79; refine (asked_ok _ h 0 _ ?hh HA.out).mono ?_; (case hh => exact H0.below (by repeat (first | exact Below.refl _ _ | (with_reducible assumption) | apply gL | apply gA | apply gD | apply gN | (refine gS ?_ (by first | (simp; done) | (simp; omega) | omega))))); (rintro e w' hr; (first | (with_reducible replace hr := RetWk.up hr) | skip); obtain ⟨g, rfl, ⟨z, rfl⟩, hwk⟩ := hr))
          | (go_at_call 81; refine (bounds_from g h n (fun e => h.fromB e n) _ hwk HF HNE (Lib.hid (fun x e' _ _ _ _ hm he hbx => from_calls g h e' (Lib.hid he) (Lib.hid (truth_ok HF.out hm)) n x (hwk.below hbx) HF))).mono ?_; (rintro e w' hr; first | ((with_reducible replace hr := Ret.up hr); obtain ⟨rfl, z, rfl⟩ := hr) | (obtain ⟨rfl, z, rfl⟩ := hr))))
        refine bodyPost_ret (v := .tuple #[.agg #[.int .i64 (loB h.truths fun e => h.fromB e n), .int .i64 (hiB h.truths fun e => h.fromB e n)], .int .i64 0]) ?hr rfl (ret_mk (by rw [HL.out, hD.out, HA.out]) (by repeat (first | exact Below.refl _ _ | (with_reducible assumption) | apply gL | apply gA | apply gD | apply gN | (refine gS ?_ (by first | (simp; done) | (simp; omega) | omega)))))
        case hr => simp [results, Try.results39, go_sem]
      · have hb : (h.askE 0 != 0) = true := by simpa using ha
        have HE := Lib.hid ha
        have HL := Lib.hid (show h.freeV n = ⟨0, 0⟩ by rw [Hs.freeV, hD.out, if_neg ha])
        clear ha
        go_enter Try.func39, Try.ntmps39
        go_wp2_with (first
          | (go_at_call 94; refine (tub_calls _ _).mono ?_; rw [h1]; (rintro e w' hr; first | ((with_reducible replace hr := Ret.up hr); obtain ⟨rfl, z, rfl⟩ := hr) | (obtain ⟨rfl, z, rfl⟩ := hr)))
          | (go_at_call 95; refine (open_calls _ h n _ ?hh hl ht6).mono ?_; (case hh => exact H0.below (by repeat (first | exact Below.refl _ _ | (with_reducible assumption) | apply gL | apply gA | apply gD | apply gN | (refine gS ?_ (by first | (simp; done) | (simp; omega) | omega))))); rw [h2]; (rintro e w' hr; first | ((with_reducible replace hr := Ret.up hr); obtain ⟨rfl, z, rfl⟩ := hr) | (obtain ⟨rfl, z, rfl⟩ := hr)))
          | (go_at_call 79; refine (asked_bad _ h 0 _ ?hh HE.out).mono ?_; (case hh => exact H0.below (by repeat (first | exact Below.refl _ _ | (with_reducible assumption) | apply gL | apply gA | apply gD | apply gN | (refine gS ?_ (by first | (simp; done) | (simp; omega) | omega))))); (rintro e w' hr; first | ((with_reducible replace hr := Ret.up hr); obtain ⟨rfl, z, rfl⟩ := hr) | (obtain ⟨rfl, z, rfl⟩ := hr))))
        refine bodyPost_ret (v := .tuple #[.agg #[.int .i64 0, .int .i64 0], .int .i64 (h.askE 0)]) ?hr rfl (ret_mk (by rw [HL.out, hD.out]) (by repeat (first | exact Below.refl _ _ | (with_reducible assumption) | apply gL | apply gA | apply gD | apply gN | (refine gS ?_ (by first | (simp; done) | (simp; omega) | omega)))))
        case hr => simp [results, Try.results39, go_sem]
  · have hD := Lib.hid (show h.freeE n = h.askE 2 by rw [Hs.freeE, Hs.freeDue, if_neg h1])
    have h1 : inB n 0 8 = false := by simpa using h1
    have hE : h.askE 2 ≠ 0 := askE_due (by decide)
    have hb : (h.askE 2 != 0) = true := by simpa using hE
    have HE := Lib.hid hE
    have HL := Lib.hid (show h.freeV n = ⟨0, 0⟩ by rw [Hs.freeV, hD.out, if_neg hE])
    clear hE
    go_enter Try.func39, Try.ntmps39
    go_wp2_with (first
      | (go_at_call 94; refine (tub_calls _ _).mono ?_; rw [h1]; (rintro e w' hr; first | ((with_reducible replace hr := Ret.up hr); obtain ⟨rfl, z, rfl⟩ := hr) | (obtain ⟨rfl, z, rfl⟩ := hr)))
      | (go_at_call 79; refine (asked_bad _ h 2 _ ?hh HE.out).mono ?_; (case hh => exact H0.below (by repeat (first | exact Below.refl _ _ | (with_reducible assumption) | apply gL | apply gA | apply gD | apply gN | (refine gS ?_ (by first | (simp; done) | (simp; omega) | omega))))); (rintro e w' hr; first | ((with_reducible replace hr := Ret.up hr); obtain ⟨rfl, z, rfl⟩ := hr) | (obtain ⟨rfl, z, rfl⟩ := hr))))
    refine bodyPost_ret (v := .tuple #[.agg #[.int .i64 0, .int .i64 0], .int .i64 (h.askE 2)]) ?hr rfl (ret_mk (by rw [HL.out, hD.out]) (by repeat (first | exact Below.refl _ _ | (with_reducible assumption) | apply gL | apply gA | apply gD | apply gN | (refine gS ?_ (by first | (simp; done) | (simp; omega) | omega)))))
    case hr => simp [results, Try.results39, go_sem]
end Go.Proofs.Ytcngnfnljkkjgaa
