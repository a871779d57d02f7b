/-
From which minute on a tub is free.
The clock to compare.
Whether errors are a truth; the first wrong clip.
A region that draws its order, of which two operations may come in either order behind those that are met first.
The smallest set of clips that can be left out: the copy, and the closure that tries.
The closure that tries sets of clips of one size.
A region that draws its order, met in a mixed way: operations that yield one value in every world of a class, and between them operations that come alone.
-/
import Derived.Test.YtcngnfnljkkjgaaCmI
namespace Go.Proofs.Ytcngnfnljkkjgaa
open Go.RowKit
attribute [local go_sem] cell_later frozen_later lt_later le_later

def Hs.openAt (h : Hs) (tub : Int) (i : Nat) : Bool := match h.tickets[i]? with
  | some x => decide (x.tub = tub) && decide ((h.ofs i).length = 1)
  | none => false
def Hs.openB (h : Hs) (tub : Int) : Bool := (List.range h.tickets.length).any (h.openAt tub)
theorem any_range_true {p : Nat → Bool} {n k : Nat} (hk : k < n) (hp : p k = true) : (List.range n).any p = true := by
  rw [List.any_eq_true]
  exact ⟨k, List.mem_range.2 hk, hp⟩
theorem any_range_snoc {p : Nat → Bool} {k : Nat} (h1 : (List.range k).any p = false) (h2 : p k = false) : (List.range (k + 1)).any p = false := by
  rw [List.range_succ, List.any_append, h1]
  simp [h2]

set_option maxHeartbeats 2000000 in
theorem open_calls (v : Value) (h : Hs) (tub : Int) (w : World) (H : HsAt w v h) (hl : h.clips.length ≤ 1000) (ht6 : h.tickets.length ≤ 30) :
    Calls Try.prog 95 #[v, .int .i64 tub] w (Ret (.bool (h.openB tub)) w) := by
  have H0 := H
  obtain ⟨A2, c2, A3, c3, A4, c4, rfl, H2, H3, H4⟩ := H
  go_enter Try.func95, Try.ntmps95
  go_wp2
  obtain ⟨W1, hW1⟩ : ∃ W1, W1 = w.alloc (.cells #[.int .i64 h.hour, .int .i64 h.grace, .slice A2 h.clocks.length c2, .slice A3 h.tickets.length c3, .slice A4 h.clips.length c4] 36) := ⟨_, rfl⟩
  have hb1 : Below w.heap.size w W1 := by rw [hW1]; exact (by repeat (first | exact Below.refl _ _ | (with_reducible assumption) | apply gL | apply gA | apply gD | apply gN | (refine gS ?_ (by first | (simp; done) | (simp; omega) | omega))))
  have hB1 : BlkAt W1 w.heap.size 36 [.int .i64 h.hour, .int .i64 h.grace, .slice A2 h.clocks.length c2, .slice A3 h.tickets.length c3, .slice A4 h.clips.length c4] := by rw [hW1]; exact BlkAt.new _ _ _
  have q0 := hB1.cell 0
  have q1 := hB1.cell 1
  have q2 := hB1.cell 2
  have q3 := hB1.cell 3
  have q4 := hB1.cell 4
  simp only [List.getElem?_cons_zero, List.getElem?_cons_succ] at q0 q1 q2 q3 q4
  have hq := hB1.lt
  have hhs1 := H0.below hb1
  have h31 := H3.below hb1
  rw [← hW1]
  clear hW1
  go_loopw [10] (fun i wr => ∃ k : Nat, k ≤ h.tickets.length ∧ i = .int .i64 k ∧ (List.range k).any (h.openAt tub) = false ∧ ∃ x, wr = later W1 x) (fun i _ => h.tickets.length - (intOf i).toNat)
  case atStart => exact ⟨0, Nat.zero_le _, rfl, rfl, later_ex (Below.refl _ _)⟩
  case round =>
    obtain ⟨k, hk, rfl, hall, x, rfl⟩ := hrel
    have HALL := Lib.hid hall
    clear hall
    by_cases hlt : k < h.tickets.length
    · have hlt1 : (k : Int) < (h.tickets.length : Int) := by omega
      have hk0 : (0 : Int) ≤ (k : Int) := Int.natCast_nonneg _
      obtain ⟨b, off, tk, rfl, hbl, htk, t0, t1⟩ := h31.atT hlt
      have HO := Lib.hid (show h.openAt tub k = (decide (tk.tub = tub) && decide ((h.ofs k).length = 1)) by rw [Hs.openAt, htk])
      clear htk
      by_cases ht : tk.tub = tub
      · have ht1 : (tk.tub == tub) = true := by simpa using ht
        by_cases hl1 : (h.ofs k).length = 1
        · have HR := Lib.hid (show h.openB tub = true from any_range_true hlt (by rw [HO.out]; simp [ht, hl1]))
          have HL := Lib.hid hl1
          clear ht hl1
          go_wp2_with (first | (go_at_call 119; refine (of_calls _ h k _ ?hh hl).mono ?_; (case hh => exact hhs1.below (by repeat (first | exact Below.refl _ _ | (with_reducible assumption) | apply gL | apply gA | apply gD | apply gN | (refine gS ?_ (by first | (simp; done) | (simp; omega) | omega))))); (rintro e w' hr; first | ((with_reducible replace hr := RetSl.up hr); obtain ⟨A, c, rfl, ⟨z, rfl⟩, hsl⟩ := hr) | (obtain ⟨A, c, rfl, ⟨z, rfl⟩, hsl⟩ := hr)); rw [HL.out]))
          go_ret
          exact ret_mk (ret_bool HR.out.symm) (hb1.trans (below_mono_of hb1 (by repeat (first | exact Below.refl _ _ | (with_reducible assumption) | apply gL | apply gA | apply gD | apply gN | (refine gS ?_ (by first | (simp; done) | (simp; omega) | omega))))))
        · have hl2 : (((h.ofs k).length : Int) == 1) = false := by simp; omega
          have HN := Lib.hid (show h.openAt tub k = false by rw [HO.out]; simp [hl1])
          clear ht hl1
          go_wp2_with (first | (go_at_call 119; refine (of_calls _ h k _ ?hh hl).mono ?_; (case hh => exact hhs1.below (by repeat (first | exact Below.refl _ _ | (with_reducible assumption) | apply gL | apply gA | apply gD | apply gN | (refine gS ?_ (by first | (simp; done) | (simp; omega) | omega))))); (rintro e w' hr; first | ((with_reducible replace hr := RetSl.up hr); obtain ⟨A, c, rfl, ⟨z, rfl⟩, hsl⟩ := hr) | (obtain ⟨A, c, rfl, ⟨z, rfl⟩, hsl⟩ := hr))))
          go_roundw
          case rel => exact ⟨k + 1, by omega, by go_num, any_range_snoc HALL.out HN.out, later_ex (by repeat (first | exact Below.refl _ _ | (with_reducible assumption) | apply gL | apply gA | apply gD | apply gN | (refine gS ?_ (by first | (simp; done) | (simp; omega) | omega))))⟩
          case measure => simp [intOf]; omega
      · have ht1 : (tk.tub == tub) = false := by simpa using ht
        have HN := Lib.hid (show h.openAt tub k = false by rw [HO.out]; simp [ht])
        clear ht
        go_wp2
        go_roundw
        case rel => exact ⟨k + 1, by omega, by go_num, any_range_snoc HALL.out HN.out, later_ex (by repeat (first | exact Below.refl _ _ | (with_reducible assumption) | apply gL | apply gA | apply gD | apply gN | (refine gS ?_ (by first | (simp; done) | (simp; omega) | omega))))⟩
        case measure => simp [intOf]; omega
    · obtain rfl : k = h.tickets.length := by omega
      have HR := Lib.hid (show h.openB tub = false from HALL.out)
      go_wp2
      go_ret
      exact ret_mk (ret_bool HR.out.symm) (hb1.trans (below_mono_of hb1 (by repeat (first | exact Below.refl _ _ | (with_reducible assumption) | apply gL | apply gA | apply gD | apply gN | (refine gS ?_ (by first | (simp; done) | (simp; omega) | omega))))))

def Hs.freeDue (h : Hs) (n : Int) : Int := if inB n 0 8 = true then (if h.openB n = true then 8 else 0) else 2
def Hs.freeE (h : Hs) (n : Int) : Int := h.askE (h.freeDue n)
def Hs.freeV (h : Hs) (n : Int) : Rg := if h.freeE n = 0 then ⟨loB h.truths fun e => h.fromB e n, hiB h.truths fun e => h.fromB e n⟩ else ⟨0, 0⟩

set_option maxHeartbeats 2000000 in
theorem free_calls (v : Value) (h : Hs) (n : Int) (w : World) (H : HsAt w v h) (hl : h.clips.length ≤ 1000) (ht6 : h.tickets.length ≤ 30) :
    Calls Try.prog 39 #[v, .int .i64 n] w (Ret (.tuple #[.agg #[.int .i64 (h.freeV n).lo, .int .i64 (h.freeV n).hi], .int .i64 (h.freeE n)]) w) := by
  have H0 := H
  obtain ⟨A2, c2, A3, c3, A4, c4, rfl, H2, H3, H4⟩ := H
  by_cases h1 : inB n 0 8 = true
  · by_cases h2 : h.openB n = true
    · have hE : h.askE 8 ≠ 0 := askE_due (by decide)
      have hD := Lib.hid (show h.freeE n = h.askE 8 by rw [Hs.freeE, Hs.freeDue, if_pos h1, if_pos h2])
      have hb : (h.askE 8 != 0) = true := by simpa using hE
      have HE := Lib.hid hE
      have HL := Lib.hid (show h.freeV n = ⟨0, 0⟩ by rw [Hs.freeV, hD.out, if_neg hE])
      clear hE
      go_enter Try.func39, Try.ntmps39
      go_wp2_with (first
        | (go_at_call 94; refine (tub_calls _ _).mono ?_; rw [h1]; (rintro e w' hr; first | ((with_reducible replace hr := Ret.up hr); obtain ⟨rfl, z, rfl⟩ := hr) | (obtain ⟨rfl, z, rfl⟩ := hr)))
        | (go_at_call 95; refine (open_calls _ h n _ ?hh hl ht6).mono ?_; (case hh => exact H0.below (by repeat (first | exact Below.refl _ _ | (with_reducible assumption) | apply gL | apply gA | apply gD | apply gN | (refine gS ?_ (by first | (simp; done) | (simp; omega) | omega))))); rw [h2]; (rintro e w' hr; first | ((with_reducible replace hr := Ret.up hr); obtain ⟨rfl, z, rfl⟩ := hr) | (obtain ⟨rfl, z, rfl⟩ := hr)))
        | (go_at_call 79; refine (asked_bad _ h 8 _ ?hh HE.out).mono ?_; (case hh => exact H0.below (by repeat (first | exact Below.refl _ _ | (with_reducible assumption) | apply gL | apply gA | apply gD | apply gN | (refine gS ?_ (by first | (simp; done) | (simp; omega) | omega))))); (rintro e w' hr; first | ((with_reducible replace hr := Ret.up hr); obtain ⟨rfl, z, rfl⟩ := hr) | (obtain ⟨rfl, z, rfl⟩ := hr))))
      refine bodyPost_ret (v := .tuple #[.agg #[.int .i64 0, .int .i64 0], .int .i64 (h.askE 8)]) ?hr rfl (ret_mk (by rw [HL.out, hD.out]) (by repeat (first | exact Below.refl _ _ | (with_reducible assumption) | apply gL | apply gA | apply gD | apply gN | (refine gS ?_ (by first | (simp; done) | (simp; omega) | omega)))))
      case hr => simp [results, Try.results39, go_sem]
    · have h2 : h.openB n = false := by simpa using h2
      have hD := Lib.hid (show h.freeE n = h.askE 0 by rw [Hs.freeE, Hs.freeDue, if_pos h1, if_neg (by simp [h2])])
      by_cases ha : h.askE 0 = 0
      · obtain ⟨hf, -, hne⟩ := askE_zero ha
        have HL := Lib.hid (show h.freeV n = ⟨loB h.truths fun e => h.fromB e n, hiB h.truths fun e => h.fromB e n⟩ by rw [Hs.freeV, hD.out, if_pos ha])
        have HA := Lib.hid ha
        have HF := Lib.hid hf
        have HNE := Lib.hid hne
        clear ha hf hne
        go_enter Try.func39, Try.ntmps39
        go_wp2_with (first
          | (go_at_call 94; refine (tub_calls _ _).mono ?_; rw [h1]; (rintro e w' hr; first | ((with_reducible replace hr := Ret.up hr); obtain ⟨rfl, z, rfl⟩ := hr) | (obtain ⟨rfl, z, rfl⟩ := hr)))
          | (go_at_call 95; refine (open_calls _ h n _ ?hh hl ht6).mono ?_; (case hh => exact H0.below (by repeat (first | exact Below.refl _ _ | (with_reducible assumption) | apply gL | apply gA | apply gD | apply gN | (refine gS ?_ (by first | (simp; done) | (simp; omega) | omega))))); rw [h2]; (rintro e w' hr; first | ((with_reducible replace hr := Ret.up hr); obtain ⟨rfl, z, rfl⟩ := hr) | (obtain ⟨rfl, z, rfl⟩ := hr)))
          | (go_at_call 79; refine (asked_ok _ h 0 _ ?hh HA.out).mono ?_; (case hh => exact H0.below (by repeat (first | exact Below.refl _ _ | (with_reducible assumption) | apply gL | apply gA | apply gD | apply gN | (refine gS ?_ (by first | (simp; done) | (simp; omega) | omega))))); (rintro e w' hr; (first | (with_reducible replace hr := RetWk.up hr) | skip); obtain ⟨g, rfl, ⟨z, rfl⟩, hwk⟩ := hr))
          | (go_at_call 81; refine (bounds_from g h n (fun e => h.fromB e n) _ hwk HF HNE (Lib.hid (fun x e' _ _ _ _ hm he hbx => from_calls g h e' (Lib.hid he) (Lib.hid (truth_ok HF.out hm)) n x (hwk.below hbx) HF))).mono ?_; (rintro e w' hr; first | ((with_reducible replace hr := Ret.up hr); obtain ⟨rfl, z, rfl⟩ := hr) | (obtain ⟨rfl, z, rfl⟩ := hr))))
        refine bodyPost_ret (v := .tuple #[.agg #[.int .i64 (loB h.truths fun e => h.fromB e n), .int .i64 (hiB h.truths fun e => h.fromB e n)], .int .i64 0]) ?hr rfl (ret_mk (by rw [HL.out, hD.out, HA.out]) (by repeat (first | exact Below.refl _ _ | (with_reducible assumption) | apply gL | apply gA | apply gD | apply gN | (refine gS ?_ (by first | (simp; done) | (simp; omega) | omega)))))
        case hr => simp [results, Try.results39, go_sem]
      · have hb : (h.askE 0 != 0) = true := by simpa using ha
        have HE := Lib.hid ha
        have HL := Lib.hid (show h.freeV n = ⟨0, 0⟩ by rw [Hs.freeV, hD.out, if_neg ha])
        clear ha
        go_enter Try.func39, Try.ntmps39
        go_wp2_with (first
          | (go_at_call 94; refine (tub_calls _ _).mono ?_; rw [h1]; (rintro e w' hr; first | ((with_reducible replace hr := Ret.up hr); obtain ⟨rfl, z, rfl⟩ := hr) | (obtain ⟨rfl, z, rfl⟩ := hr)))
          | (go_at_call 95; refine (open_calls _ h n _ ?hh hl ht6).mono ?_; (case hh => exact H0.below (by repeat (first | exact Below.refl _ _ | (with_reducible assumption) | apply gL | apply gA | apply gD | apply gN | (refine gS ?_ (by first | (simp; done) | (simp; omega) | omega))))); rw [h2]; (rintro e w' hr; first | ((with_reducible replace hr := Ret.up hr); obtain ⟨rfl, z, rfl⟩ := hr) | (obtain ⟨rfl, z, rfl⟩ := hr)))
          | (go_at_call 79; refine (asked_bad _ h 0 _ ?hh HE.out).mono ?_; (case hh => exact H0.below (by repeat (first | exact Below.refl _ _ | (with_reducible assumption) | apply gL | apply gA | apply gD | apply gN | (refine gS ?_ (by first | (simp; done) | (simp; omega) | omega))))); (rintro e w' hr; first | ((with_reducible replace hr := Ret.up hr); obtain ⟨rfl, z, rfl⟩ := hr) | (obtain ⟨rfl, z, rfl⟩ := hr))))
        refine bodyPost_ret (v := .tuple #[.agg #[.int .i64 0, .int .i64 0], .int .i64 (h.askE 0)]) ?hr rfl (ret_mk (by rw [HL.out, hD.out]) (by repeat (first | exact Below.refl _ _ | (with_reducible assumption) | apply gL | apply gA | apply gD | apply gN | (refine gS ?_ (by first | (simp; done) | (simp; omega) | omega)))))
        case hr => simp [results, Try.results39, go_sem]
  · have hD := Lib.hid (show h.freeE n = h.askE 2 by rw [Hs.freeE, Hs.freeDue, if_neg h1])
    have h1 : inB n 0 8 = false := by simpa using h1
    have hE : h.askE 2 ≠ 0 := askE_due (by decide)
    have hb : (h.askE 2 != 0) = true := by simpa using hE
    have HE := Lib.hid hE
    have HL := Lib.hid (show h.freeV n = ⟨0, 0⟩ by rw [Hs.freeV, hD.out, if_neg hE])
    clear hE
    go_enter Try.func39, Try.ntmps39
    go_wp2_with (first
      | (go_at_call 94; refine (tub_calls _ _).mono ?_; rw [h1]; (rintro e w' hr; first | ((with_reducible replace hr := Ret.up hr); obtain ⟨rfl, z, rfl⟩ := hr) | (obtain ⟨rfl, z, rfl⟩ := hr)))
      | (go_at_call 79; refine (asked_bad _ h 2 _ ?hh HE.out).mono ?_; (case hh => exact H0.below (by repeat (first | exact Below.refl _ _ | (with_reducible assumption) | apply gL | apply gA | apply gD | apply gN | (refine gS ?_ (by first | (simp; done) | (simp; omega) | omega))))); (rintro e w' hr; first | ((with_reducible replace hr := Ret.up hr); obtain ⟨rfl, z, rfl⟩ := hr) | (obtain ⟨rfl, z, rfl⟩ := hr))))
    refine bodyPost_ret (v := .tuple #[.agg #[.int .i64 0, .int .i64 0], .int .i64 (h.askE 2)]) ?hr rfl (ret_mk (by rw [HL.out, hD.out]) (by repeat (first | exact Below.refl _ _ | (with_reducible assumption) | apply gL | apply gA | apply gD | apply gN | (refine gS ?_ (by first | (simp; done) | (simp; omega) | omega)))))
    case hr => simp [results, Try.results39, go_sem]
end Go.Proofs.Ytcngnfnljkkjgaa
namespace Go.Proofs.Ytcngnfnljkkjgaa
open Go.RowKit
attribute [local go_sem] cell_later frozen_later lt_later le_later

def Hs.mostUp (h : Hs) (i : Nat) (lo : Int) (k : Nat) : Int := (List.range k).foldl (fun m n => max m (countT h.truths i (lo + (n : Nat)))) 0
def Hs.mostAt (h : Hs) (i : Nat) : Int := match h.clocks[i]? with
  | some r => h.mostUp i r.lo r.size.toNat
  | none => 0
def Hs.lookStep (h : Hs) (s : Int × Int) (i : Nat) : Int × Int := if h.mostAt i < s.2 then ((i : Int), h.mostAt i) else s
def Hs.lookUp (h : Hs) (k : Nat) : Int × Int := (List.range k).foldl h.lookStep (0, (h.truths.length : Int) + 1)
def Hs.lookE (h : Hs) : Int := if h.askE 0 ≠ 0 then h.askE 0 else if h.clocks.length = 0 then 7 else 0
def Hs.lookV (h : Hs) : Int × Int := if h.lookE = 0 then h.lookUp h.clocks.length else (0, 0)
theorem mostUp_snoc (h : Hs) (i : Nat) (lo : Int) (k : Nat) : h.mostUp i lo (k + 1) = max (h.mostUp i lo k) (countT h.truths i (lo + (k : Nat))) := by
  unfold Hs.mostUp
  rw [List.range_succ, List.foldl_append]
  rfl
theorem lookUp_snoc (h : Hs) (k : Nat) : h.lookUp (k + 1) = h.lookStep (h.lookUp k) k := by
  unfold Hs.lookUp
  rw [List.range_succ, List.foldl_append]
  rfl

theorem look_ret {h : Hs} {a b c : Int} {w w' : World} (h1 : h.lookV = (a, b)) (h2 : h.lookE = c) (hb : Below w.heap.size w w') : Ret (.tuple #[.int .i64 h.lookV.1, .int .i64 h.lookV.2, .int .i64 h.lookE]) w (.returned (.tuple #[.int .i64 a, .int .i64 b, .int .i64 c])) w' :=
  ret_mk (by rw [h1, h2]) hb

set_option maxHeartbeats 2000000 in
theorem look_calls (v : Value) (h : Hs) (w : World) (H : HsAt w v h) :
    Calls Try.prog 42 #[v] w (Ret (.tuple #[.int .i64 h.lookV.1, .int .i64 h.lookV.2, .int .i64 h.lookE]) w) := by
  have H0 := H
  obtain ⟨A2, c2, A3, c3, A4, c4, rfl, H2, H3, H4⟩ := H
  by_cases ha : h.askE 0 = 0
  · obtain ⟨hf, -, hne⟩ := askE_zero ha
    have HA := Lib.hid ha
    have HF := Lib.hid hf
    by_cases hc : h.clocks.length = 0
    · have hE := Lib.hid (show h.lookE = 7 by simp [Hs.lookE, ha, hc])
      have hV := Lib.hid (show h.lookV = (0, 0) by rw [Hs.lookV, hE.out]; rfl)
      have hc1 : ((h.clocks.length : Int) == 0) = true := by simp [hc]
      clear ha hf hne hc
      go_enter Try.func42, Try.ntmps42
      go_wp2_with (first
        | (go_at_call 79; refine (asked_ok _ h 0 _ ?hh HA.out).mono ?_; (case hh => exact H0.below (by repeat (first | exact Below.refl _ _ | (with_reducible assumption) | apply gL | apply gA | apply gD | apply gN | (refine gS ?_ (by first | (simp; done) | (simp; omega) | omega))))); (rintro e w' hr; (first | (with_reducible replace hr := RetWk.up hr) | skip); obtain ⟨g, rfl, ⟨z, rfl⟩, hwk⟩ := hr)))
      refine bodyPost_ret (v := .tuple #[.int .i64 0, .int .i64 0, .int .i64 7]) ?hr rfl (look_ret hV.out hE.out (by repeat (first | exact Below.refl _ _ | (with_reducible assumption) | apply gL | apply gA | apply gD | apply gN | (refine gS ?_ (by first | (simp; done) | (simp; omega) | omega)))))
      case hr => simp [results, Try.results42, go_sem]
    · have hE := Lib.hid (show h.lookE = 0 by simp [Hs.lookE, ha, hc])
      have hV := Lib.hid (show h.lookV = h.lookUp h.clocks.length by rw [Hs.lookV, hE.out]; rfl)
      have hc1 : ((h.clocks.length : Int) == 0) = false := by simpa using hc
      have htc := truths_count hf
      have hc4 : h.clocks.length ≤ 4 := (small_iff.1 (fault_zero hf).1).1
      clear ha hf hne hc
      go_enter Try.func42, Try.ntmps42
      go_wp2_with (first
        | (go_at_call 79; refine (asked_ok _ h 0 _ ?hh HA.out).mono ?_; (case hh => exact H0.below (by repeat (first | exact Below.refl _ _ | (with_reducible assumption) | apply gL | apply gA | apply gD | apply gN | (refine gS ?_ (by first | (simp; done) | (simp; omega) | omega))))); (rintro e w' hr; (first | (with_reducible replace hr := RetWk.up hr) | skip); obtain ⟨g, rfl, ⟨z, rfl⟩, hwk⟩ := hr);
            obtain ⟨A2', c2', A3', c3', A4', c4', A5', c5', r, l, -, -, -, hs5, hmap, hcn, hbox⟩ := hwk;
            have b5 := hbox.cell 5; have b6 := hbox.cell 6; simp only [List.getElem?_cons_zero, List.getElem?_cons_succ] at b5 b6; have hgl := hbox.lt; have HCN := Lib.hid hcn; have HMP := Lib.hid hmap; clear hbox hs5 hcn hmap))
      obtain ⟨W1, hW1⟩ : ∃ W1, W1 = later (w.alloc (.cells #[.int .i64 h.hour, .int .i64 h.grace, .slice A2 h.clocks.length c2, .slice A3 h.tickets.length c3, .slice A4 h.clips.length c4] 36)) z := ⟨_, rfl⟩
      have hb1 : Below w.heap.size w W1 := by rw [hW1]; exact (by repeat (first | exact Below.refl _ _ | (with_reducible assumption) | apply gL | apply gA | apply gD | apply gN | (refine gS ?_ (by first | (simp; done) | (simp; omega) | omega))))
      rw [← hW1] at b6 b5 hgl HMP ⊢
      have h21 := H2.below hb1
      clear hW1
      go_loopw [2, 3, 31] (fun c v i wr => ∃ k : Nat, k ≤ h.clocks.length ∧ i = .int .i64 k ∧ c = .int .i64 (h.lookUp k).1 ∧ v = .int .i64 (h.lookUp k).2 ∧ ∃ x, wr = later W1 x) (fun _ _ i _ => h.clocks.length - (intOf i).toNat)
      case atStart => exact ⟨0, Nat.zero_le _, rfl, rfl, rfl, later_ex (Below.refl _ _)⟩
      case round =>
        obtain ⟨k, hk, rfl, rfl, rfl, x, rfl⟩ := hrel
        by_cases hlt : k < h.clocks.length
        · have hlt1 : (k : Int) < (h.clocks.length : Int) := by omega
          have hk0 : (0 : Int) ≤ (k : Int) := Int.natCast_nonneg _
          obtain ⟨b, off, rg, rfl, hbl, hrg, t0, t1⟩ := h21.atR hlt
          obtain ⟨r1, r2, r3⟩ := fault_clock HF.out (List.mem_of_getElem? hrg)
          obtain ⟨cc, hcc⟩ : ∃ n, n = (h.lookUp k).1 := ⟨_, rfl⟩
          obtain ⟨ll, hll⟩ : ∃ n, n = (h.lookUp k).2 := ⟨_, rfl⟩
          have HS := Lib.hid (show h.lookUp (k + 1) = if h.mostUp k rg.lo rg.size.toNat < ll then ((k : Int), h.mostUp k rg.lo rg.size.toNat) else (cc, ll) by
            rw [lookUp_snoc, Hs.lookStep, Hs.mostAt, hrg, hll, hcc])
          rw [← hcc, ← hll]
          clear hcc hll hrg
          go_wp2_with (first | (go_at_call 99; refine (size_calls _ _ _ (by omega) (by omega) (by omega) (by omega)).mono ?_; (rintro e w' hr; first | ((with_reducible replace hr := Ret.up hr); obtain ⟨rfl, z, rfl⟩ := hr) | (obtain ⟨rfl, z, rfl⟩ := hr))))
          obtain ⟨W2, hW2⟩ : ∃ W2, W2 = later ((later W1 x).alloc (.cells #[.int .i64 rg.lo, .int .i64 rg.hi] 42)) z := ⟨_, rfl⟩
          obtain ⟨q, hq⟩ : ∃ q, q = (later W1 x).heap.size := ⟨_, rfl⟩
          have hb2 : Below W1.heap.size W1 W2 := by rw [hW2]; exact (by repeat (first | exact Below.refl _ _ | (with_reducible assumption) | apply gL | apply gA | apply gD | apply gN | (refine gS ?_ (by first | (simp; done) | (simp; omega) | omega))))
          have kq : W2.cell? ⟨q, 0, none⟩ = some (.int .i64 rg.lo) := by rw [hW2, hq]; simp [go_sem]
          have kq1 : W2.cell? ⟨q, 1, none⟩ = some (.int .i64 rg.hi) := by rw [hW2, hq]; simp [go_sem]
          rw [← hW2, ← hq]
          clear hW2 hq
          have hql := World.block_lt_of_cell? W2 _ kq
          simp only at hql
          have y6 := (hb2.cell (p := ⟨g, 6, none⟩) hgl).trans b6
          have hgl2 : g < W2.heap.size := Nat.lt_of_lt_of_le hgl hb2.size
          have hM2 : MapAt W2 r l := (hb2.block r (World.block_lt_of_map HMP.out)).trans HMP.out
          have HM2 := Lib.hid hM2
          obtain ⟨sz, hsz⟩ : ∃ n, n = rg.size.toNat := ⟨_, rfl⟩
          have hsz1 : (sz : Int) = rg.hi - rg.lo + 1 := by rw [hsz]; unfold Rg.size; omega
          rw [← hsz] at HS
          rw [← hsz1]
          have hsb : (sz : Int) ≤ 61 := by omega
          have HSZ := Lib.hid hsz1
          clear hM2 hsz hsz1
          go_loopw [8, 38] (fun m i wr => ∃ n : Nat, n ≤ sz ∧ i = .int .i64 n ∧ m = .int .i64 (h.mostUp k rg.lo n) ∧ ∃ x, wr = later W2 x) (fun _ i _ => sz - (intOf i).toNat)
          case atStart => exact ⟨0, Nat.zero_le _, rfl, rfl, later_ex (Below.refl _ _)⟩
          case round =>
            obtain ⟨n, hn, rfl, rfl, y, rfl⟩ := hrel
            by_cases hln : n < sz
            · have hln1 : (n : Int) < (sz : Int) := by omega
              have hn0 : (0 : Int) ≤ (n : Int) := Int.natCast_nonneg _
              obtain ⟨mm, hmm⟩ : ∃ m, m = h.mostUp k rg.lo n := ⟨_, rfl⟩
              obtain ⟨cv, hcv⟩ : ∃ c, c = countT h.truths k (rg.lo + (n : Nat)) := ⟨_, rfl⟩
              have hmx : (if mm < cv then cv else mm) = max mm cv := by omega
              have HS2 := Lib.hid (show h.mostUp k rg.lo (n + 1) = max mm cv by rw [mostUp_snoc, hmm, hcv])
              have fl : ∀ u, (Instr.lookup 127 (.map (some r)) (.agg #[.int .i64 k, .int .i64 (rg.lo + (n : Nat))]) false).run Try.prog (later (later W2 y) u) = .ok (.int .i64 cv) (later (later W2 y) u) := fun u => by
                have hb : Below W2.heap.size W2 (later (later W2 y) u) := (by repeat (first | exact Below.refl _ _ | (with_reducible assumption) | apply gL | apply gA | apply gD | apply gN | (refine gS ?_ (by first | (simp; done) | (simp; omega) | omega))))
                have := lookup_spot (w := later (later W2 y) u) (r := r) (l := l) ((hb.block r (World.block_lt_of_map HM2.out)).trans HM2.out) k (rg.lo + (n : Nat))
                rw [HCN.out _ _ hk0 hlt1, ← hcv] at this
                exact this
              rw [← hmm]
              clear hmm hcv
              go_wp2
              refine region_later (by kernel_rfl) (by kernel_rfl) ?_
              repeat (go_big_quiet_step (fail))
              refine wpQuiet_nil ?_
              rintro W' ⟨u, rfl⟩
              clear fl
              go_wp2
              go_roundw
              case rel => exact ⟨n + 1, by omega, by go_num, by rw [HS2.out], later_ex (by repeat (first | exact Below.refl _ _ | (with_reducible assumption) | apply gL | apply gA | apply gD | apply gN | (refine gS ?_ (by first | (simp; done) | (simp; omega) | omega))))⟩
              case measure => simp [intOf]; omega
            · obtain rfl : n = sz := by omega
              obtain ⟨mm, hmm⟩ : ∃ m, m = h.mostUp k rg.lo n := ⟨_, rfl⟩
              rw [← hmm] at HS ⊢
              clear hmm
              by_cases hml : mm < ll
              · have HS2 := Lib.hid (show h.lookUp (k + 1) = ((k : Int), mm) by rw [HS.out, if_pos hml])
                go_wp2
                go_roundw
                case rel => exact ⟨k + 1, by omega, by go_num, by rw [HS2.out], by rw [HS2.out], later_ex (later_below hb2 hb2.size)⟩
                case measure => simp [intOf]; omega
              · have HS2 := Lib.hid (show h.lookUp (k + 1) = (cc, ll) by rw [HS.out, if_neg hml])
                go_wp2
                go_roundw
                case rel => exact ⟨k + 1, by omega, by go_num, by rw [HS2.out], by rw [HS2.out], later_ex (later_below hb2 hb2.size)⟩
                case measure => simp [intOf]; omega
        · obtain rfl : k = h.clocks.length := by omega
          go_wp2
          refine bodyPost_ret (v := .tuple #[.int .i64 (h.lookUp h.clocks.length).1, .int .i64 (h.lookUp h.clocks.length).2, .int .i64 0]) ?hr rfl (look_ret hV.out hE.out (hb1.trans (below_mono_of hb1 (by repeat (first | exact Below.refl _ _ | (with_reducible assumption) | apply gL | apply gA | apply gD | apply gN | (refine gS ?_ (by first | (simp; done) | (simp; omega) | omega)))))))
          case hr => simp [results, Try.results42, go_sem]
  · have HE := Lib.hid ha
    have hb : (h.askE 0 != 0) = true := by simpa using ha
    have hE := Lib.hid (show h.lookE = h.askE 0 by simp [Hs.lookE, ha])
    have hV := Lib.hid (show h.lookV = (0, 0) by rw [Hs.lookV, hE.out, if_neg ha])
    clear ha
    go_enter Try.func42, Try.ntmps42
    go_wp2_with (first | (go_at_call 79; refine (asked_bad _ h 0 _ ?hh HE.out).mono ?_; (case hh => exact H0.below (by repeat (first | exact Below.refl _ _ | (with_reducible assumption) | apply gL | apply gA | apply gD | apply gN | (refine gS ?_ (by first | (simp; done) | (simp; omega) | omega))))); (rintro e w' hr; first | ((with_reducible replace hr := Ret.up hr); obtain ⟨rfl, z, rfl⟩ := hr) | (obtain ⟨rfl, z, rfl⟩ := hr))))
    refine bodyPost_ret (v := .tuple #[.int .i64 0, .int .i64 0, .int .i64 (h.askE 0)]) ?hr rfl (look_ret hV.out hE.out (by repeat (first | exact Below.refl _ _ | (with_reducible assumption) | apply gL | apply gA | apply gD | apply gN | (refine gS ?_ (by first | (simp; done) | (simp; omega) | omega)))))
    case hr => simp [results, Try.results42, go_sem]
end Go.Proofs.Ytcngnfnljkkjgaa
namespace Go.Proofs.Ytcngnfnljkkjgaa
open Go.RowKit
attribute [local go_sem] cell_later frozen_later lt_later le_later

def Hs.proveB (h : Hs) (l : List Int) : Bool := decide (h.fault = 0) && (areErrB h l && h.risingB l [])

set_option maxHeartbeats 1000000 in
theorem prove_calls (v : Value) (h : Hs) (A : Option Addr) (c : Nat) (l : List Int) (w : World) (H : HsAt w v h) (HL : SlA w 1 gI A c l) :
    Calls Try.prog 69 #[v, .slice A l.length c] w (Ret (.bool (h.proveB l)) w) := by
  have H0 := H
  obtain ⟨A2, c2, A3, c3, A4, c4, rfl, H2, H3, H4⟩ := H
  by_cases hf : h.fault = 0
  · have hf1 : (h.fault != 0) = false := by simp [hf]
    have HF := Lib.hid hf
    have hn : h.clocks.length ≤ 4 := (small_iff.1 (fault_zero hf).1).1
    have hp : h.clips.length ≤ 1000 := by have := (small_iff.1 (fault_zero hf).1).2.2; omega
    clear hf
    by_cases ha : areErrB h l = true
    · have HC := Lib.hid (clipsOk_of HF.out)
      have HE := Lib.hid (areErr_ok HF.out ha)
      have HP := Lib.hid (show h.proveB l = h.risingB l [] by simp [Hs.proveB, HF.out, ha])
      go_enter Try.func69, Try.ntmps69
      go_wp2_with (first
        | (go_at_call 70; refine (check_calls _ h _ ?hh).mono ?_; (case hh => exact H0.below (by repeat (first | exact Below.refl _ _ | (with_reducible assumption) | apply gL | apply gA | apply gD | apply gN | (refine gS ?_ (by first | (simp; done) | (simp; omega) | omega))))); (rintro e w' hr; first | ((with_reducible replace hr := Ret.up hr); obtain ⟨rfl, z, rfl⟩ := hr) | (obtain ⟨rfl, z, rfl⟩ := hr)))
        | (go_at_call 107; refine (listed_calls _ h _ _ l _ ?hh ?hs hn).mono ?_; (case hh => exact H0.below (by repeat (first | exact Below.refl _ _ | (with_reducible assumption) | apply gL | apply gA | apply gD | apply gN | (refine gS ?_ (by first | (simp; done) | (simp; omega) | omega))))); (case hs => exact HL.below (by repeat (first | exact Below.refl _ _ | (with_reducible assumption) | apply gL | apply gA | apply gD | apply gN | (refine gS ?_ (by first | (simp; done) | (simp; omega) | omega))))); (rintro e w' hr; (first | (with_reducible replace hr := RetListed.up hr) | skip); obtain ⟨a0, a1, a2, a3, h4, rfl, z, rfl⟩ := hr); have HE4 := Lib.hid (h4 ha); clear h4)
        | (go_at_call 111; refine (rising_calls4 _ h l HE4 none 0 [] _ ?hh (SlA.nil _ _ _ _) HE.out HC.out hp).mono ?_; (case hh => exact H0.below (by repeat (first | exact Below.refl _ _ | (with_reducible assumption) | apply gL | apply gA | apply gD | apply gN | (refine gS ?_ (by first | (simp; done) | (simp; omega) | omega))))); (rintro e w' hr; first | ((with_reducible replace hr := Ret.up hr); obtain ⟨rfl, z, rfl⟩ := hr) | (obtain ⟨rfl, z, rfl⟩ := hr))))
      go_ret
      exact ret_mk (ret_bool HP.out.symm) (by repeat (first | exact Below.refl _ _ | (with_reducible assumption) | apply gL | apply gA | apply gD | apply gN | (refine gS ?_ (by first | (simp; done) | (simp; omega) | omega))))
    · have ha : areErrB h l = false := by simpa using ha
      have HP := Lib.hid (show h.proveB l = false by simp [Hs.proveB, ha])
      go_enter Try.func69, Try.ntmps69
      go_wp2_with (first
        | (go_at_call 70; refine (check_calls _ h _ ?hh).mono ?_; (case hh => exact H0.below (by repeat (first | exact Below.refl _ _ | (with_reducible assumption) | apply gL | apply gA | apply gD | apply gN | (refine gS ?_ (by first | (simp; done) | (simp; omega) | omega))))); (rintro e w' hr; first | ((with_reducible replace hr := Ret.up hr); obtain ⟨rfl, z, rfl⟩ := hr) | (obtain ⟨rfl, z, rfl⟩ := hr)))
        | (go_at_call 107; refine (listed_calls _ h _ _ l _ ?hh ?hs hn).mono ?_; (case hh => exact H0.below (by repeat (first | exact Below.refl _ _ | (with_reducible assumption) | apply gL | apply gA | apply gD | apply gN | (refine gS ?_ (by first | (simp; done) | (simp; omega) | omega))))); (case hs => exact HL.below (by repeat (first | exact Below.refl _ _ | (with_reducible assumption) | apply gL | apply gA | apply gD | apply gN | (refine gS ?_ (by first | (simp; done) | (simp; omega) | omega))))); (rintro e w' hr; (first | (with_reducible replace hr := RetListed.up hr) | skip); obtain ⟨a0, a1, a2, a3, h4, rfl, z, rfl⟩ := hr); clear h4))
      go_ret
      exact ret_mk (ret_bool HP.out.symm) (by repeat (first | exact Below.refl _ _ | (with_reducible assumption) | apply gL | apply gA | apply gD | apply gN | (refine gS ?_ (by first | (simp; done) | (simp; omega) | omega))))
  · have hf1 : (h.fault != 0) = true := by simpa using hf
    have HP := Lib.hid (show h.proveB l = false by simp [Hs.proveB, hf])
    clear hf
    go_enter Try.func69, Try.ntmps69
    go_wp2_with (first
      | (go_at_call 70; refine (check_calls _ h _ ?hh).mono ?_; (case hh => exact H0.below (by repeat (first | exact Below.refl _ _ | (with_reducible assumption) | apply gL | apply gA | apply gD | apply gN | (refine gS ?_ (by first | (simp; done) | (simp; omega) | omega))))); (rintro e w' hr; first | ((with_reducible replace hr := Ret.up hr); obtain ⟨rfl, z, rfl⟩ := hr) | (obtain ⟨rfl, z, rfl⟩ := hr))))
    go_ret
    exact ret_mk (ret_bool HP.out.symm) (by repeat (first | exact Below.refl _ _ | (with_reducible assumption) | apply gL | apply gA | apply gD | apply gN | (refine gS ?_ (by first | (simp; done) | (simp; omega) | omega))))

def Hs.upto (h : Hs) (k : Nat) : Hs := { h with clips := h.clips.take k }
def Hs.goodAt (h : Hs) (k : Nat) : Bool := (h.upto (k + 1)).canB []
def Hs.firstO (h : Hs) : Option Nat := (List.range h.clips.length).find? fun k => !h.goodAt k
def Hs.firstE (h : Hs) : Int := if h.fault ≠ 0 then h.fault else match h.firstO with
  | some _ => 0
  | none => 7
def Hs.firstV (h : Hs) : Int := if h.fault ≠ 0 then 0 else match h.firstO with
  | some k => k
  | none => 0
theorem SlA.take {α : Type} {w : World} {k : Nat} {g : α → List Value} {A : Option Addr} {c : Nat} {l : List α} (h : SlA w k g A c l) (n : Nat) : SlA w k g A c (l.take n) := by
  have hl : (l.take n).length ≤ l.length := by simp; omega
  refine ⟨Nat.le_trans hl h.1, Nat.le_trans hl h.2.1, fun hne => ?_⟩
  obtain ⟨b, off, e, hlt, hc⟩ := h.2.2 (fun hh => hne (by simp [hh]))
  exact ⟨b, off, e, hlt, fun i x hx j u hu => hc i x (by
    rw [List.getElem?_take] at hx
    split at hx
    · exact hx
    · cases hx) j u hu⟩
theorem find_first {p : Nat → Bool} {n k : Nat} (hk : k < n) (h1 : (List.range k).all p = true) (h2 : p k = false) : (List.range n).find? (fun j => !p j) = some k := by
  rw [List.find?_range_eq_some]
  refine ⟨by simp [h2], List.mem_range.2 hk, fun j hj => ?_⟩
  have := List.all_eq_true.1 h1 j (List.mem_range.2 hj)
  simp [this]
theorem find_none {p : Nat → Bool} {n : Nat} (h1 : (List.range n).all p = true) : (List.range n).find? (fun j => !p j) = none := by
  rw [List.find?_eq_none]
  intro j hj
  have := List.all_eq_true.1 h1 j hj
  simp [this]

set_option maxHeartbeats 2000000 in
theorem first_calls (v : Value) (h : Hs) (w : World) (H : HsAt w v h) :
    Calls Try.prog 44 #[v] w (Ret (.tuple #[.int .i64 h.firstV, .int .i64 h.firstE]) w) := by
  have H0 := H
  obtain ⟨A2, c2, A3, c3, A4, c4, rfl, H2, H3, H4⟩ := H
  by_cases hf : h.fault = 0
  · have hf1 : (h.fault != 0) = false := by simp [hf]
    have HF := Lib.hid hf
    have hn : h.clocks.length ≤ 4 := (small_iff.1 (fault_zero hf).1).1
    have hp : h.clips.length ≤ 10 := (small_iff.1 (fault_zero hf).1).2.2
    have HC := Lib.hid (clipsOk_of hf)
    have HR := Lib.hid (fun r hr => fault_clock hf (r := r) hr)
    clear hf
    go_enter Try.func44, Try.ntmps44
    go_wp2_with (first
      | (go_at_call 70; refine (check_calls _ h _ ?hh).mono ?_; (case hh => exact H0.below (by repeat (first | exact Below.refl _ _ | (with_reducible assumption) | apply gL | apply gA | apply gD | apply gN | (refine gS ?_ (by first | (simp; done) | (simp; omega) | omega))))); (rintro e w' hr; first | ((with_reducible replace hr := Ret.up hr); obtain ⟨rfl, z, rfl⟩ := hr) | (obtain ⟨rfl, z, rfl⟩ := hr))))
    obtain ⟨W1, hW1⟩ : ∃ W1, W1 = (later (w.alloc (.cells #[.int .i64 h.hour, .int .i64 h.grace, .slice A2 h.clocks.length c2, .slice A3 h.tickets.length c3, .slice A4 h.clips.length c4] 36)) z).alloc (.cells #[.int .i64 h.hour, .int .i64 h.grace, .slice A2 h.clocks.length c2, .slice A3 h.tickets.length c3, .slice A4 h.clips.length c4] 36) := ⟨_, rfl⟩
    obtain ⟨b5, hb5⟩ : ∃ b, b = (later (w.alloc (.cells #[.int .i64 h.hour, .int .i64 h.grace, .slice A2 h.clocks.length c2, .slice A3 h.tickets.length c3, .slice A4 h.clips.length c4] 36)) z).heap.size := ⟨_, rfl⟩
    have hb1 : Below w.heap.size w W1 := by rw [hW1]; exact (by repeat (first | exact Below.refl _ _ | (with_reducible assumption) | apply gL | apply gA | apply gD | apply gN | (refine gS ?_ (by first | (simp; done) | (simp; omega) | omega))))
    have hB5 : BlkAt W1 b5 36 [.int .i64 h.hour, .int .i64 h.grace, .slice A2 h.clocks.length c2, .slice A3 h.tickets.length c3, .slice A4 h.clips.length c4] := by rw [hW1, hb5]; exact BlkAt.new _ _ _
    have q4 : W1.cell? ⟨w.heap.size, 4, none⟩ = some (.slice A4 h.clips.length c4) := by rw [hW1]; simp [go_sem]
    have hlb : w.heap.size < b5 := by
      have := size_later (w.alloc (.cells #[.int .i64 h.hour, .int .i64 h.grace, .slice A2 h.clocks.length c2, .slice A3 h.tickets.length c3, .slice A4 h.clips.length c4] 36)) z
      rw [hb5]
      simp at this ⊢
      omega
    rw [← hW1, ← hb5]
    clear hW1 hb5
    go_loopw [16] (fun i wr => ∃ k : Nat, k ≤ h.clips.length ∧ i = .int .i64 k ∧ (List.range k).all h.goodAt = true ∧ KeepX b5 W1 wr ∧ ∃ sv, BlkAt wr b5 36 [.int .i64 h.hour, .int .i64 h.grace, .slice A2 h.clocks.length c2, .slice A3 h.tickets.length c3, sv]) (fun i _ => h.clips.length - (intOf i).toNat)
    case atStart => exact ⟨0, Nat.zero_le _, rfl, rfl, KeepX.refl _ _, _, hB5⟩
    case round =>
      obtain ⟨k, hk, rfl, hall, hkx, sv, hBk⟩ := hrel
      have HALL := Lib.hid hall
      clear hall
      have hbwr : Below w.heap.size w wr := hkx.low hb1 (by omega) hb1.size
      by_cases hlt : k < h.clips.length
      · have hlt1 : (k : Int) < (h.clips.length : Int) := by omega
        have hk0 : (0 : Int) ≤ (k : Int) := Int.natCast_nonneg _
        obtain ⟨b, off, x, rfl, -, -, -⟩ := H4.atC hlt
        have hcap := H4.1
        have hcap1 : (k : Int) + 1 ≤ (c4 : Int) := by omega
        have d4 := hkx.cell q4 (by show w.heap.size ≠ b5; omega)
        have z0 := hBk.cell 0
        have z1 := hBk.cell 1
        have z2 := hBk.cell 2
        have z3 := hBk.cell 3
        have z4 := hBk.cell 4
        have zf := hBk.frozen 4
        simp only [List.getElem?_cons_zero, List.getElem?_cons_succ] at z0 z1 z2 z3 z4
        obtain ⟨W2, hW2⟩ : ∃ W2, W2 = wr.setCell ⟨b5, 4, none⟩ (.slice (some ⟨b, off, none⟩) (k + 1) c4) := ⟨_, rfl⟩
        have hb2 : Below w.heap.size w W2 := by rw [hW2]; exact gS hbwr (by simp; omega)
        have hB2 := hBk.set_ 4 (.slice (some ⟨b, off, none⟩) (k + 1) c4)
        rw [← hW2] at hB2
        have hkx2 : KeepX b5 W1 W2 := by rw [hW2]; exact hkx.trans (KeepX.set_ _ _ _)
        have hlen : (h.clips.take (k + 1)).length = k + 1 := by simp; omega
        have hpo := possible_calls (.agg #[.int .i64 h.hour, .int .i64 h.grace, .slice A2 h.clocks.length c2, .slice A3 h.tickets.length c3, .slice (some ⟨b, off, none⟩) (k + 1) c4]) (h.upto (k + 1)) none 0 [] W2
          (by
            refine ⟨A2, c2, A3, c3, some ⟨b, off, none⟩, c4, ?_, H2.below hb2, H3.below hb2, (H4.take (k + 1)).below hb2⟩
            show _ = Value.agg #[.int .i64 h.hour, .int .i64 h.grace, .slice A2 h.clocks.length c2, .slice A3 h.tickets.length c3, .slice (some ⟨b, off, none⟩) (h.clips.take (k + 1)).length c4]
            rw [hlen]) (SlA.nil _ _ _ _) hn HR.out (fun c hc => HC.out c (List.mem_of_mem_take hc)) (by show (h.clips.take (k + 1)).length ≤ 1000; omega)
        have HPO := Lib.hid hpo
        have HW2 := Lib.hid hW2
        clear hpo hlen hW2
        have hd4 := World.block_lt_of_cell? wr _ d4
        simp only at hd4
        by_cases hgd : h.goodAt k = true
        · go_wp2_with (first | (go_at_call 100; rw [← HW2.out]; refine HPO.out.mono ?_; rw [show (h.upto (k + 1)).canB [] = true from hgd]; (rintro e w' hr; first | ((with_reducible replace hr := Ret.up hr); obtain ⟨rfl, z, rfl⟩ := hr) | (obtain ⟨rfl, z, rfl⟩ := hr))))
          go_roundw
          case rel => exact ⟨k + 1, by omega, by go_num, all_range_snoc HALL.out hgd, hkx2.trans (KeepX.of_below (below_later _ _)), _, hB2.later⟩
          case measure => simp [intOf]; omega
        · have hgd : h.goodAt k = false := by simpa using hgd
          have hfo := find_first hlt HALL.out hgd
          have HE := Lib.hid (show h.firstE = 0 by rw [Hs.firstE, if_neg (by simp [HF.out]), Hs.firstO, hfo])
          have HV := Lib.hid (show h.firstV = k by rw [Hs.firstV, if_neg (by simp [HF.out]), Hs.firstO, hfo])
          clear hfo
          go_wp2_with (first | (go_at_call 100; rw [← HW2.out]; refine HPO.out.mono ?_; rw [show (h.upto (k + 1)).canB [] = false from hgd]; (rintro e w' hr; first | ((with_reducible replace hr := Ret.up hr); obtain ⟨rfl, z, rfl⟩ := hr) | (obtain ⟨rfl, z, rfl⟩ := hr))))
          go_ret2
          exact ret_mk (by rw [HE.out, HV.out]; rfl) (hb2.trans (below_mono_of hb2 (by repeat (first | exact Below.refl _ _ | (with_reducible assumption) | apply gL | apply gA | apply gD | apply gN | (refine gS ?_ (by first | (simp; done) | (simp; omega) | omega))))))
      · obtain rfl : k = h.clips.length := by omega
        have hfo := find_none HALL.out
        have HE := Lib.hid (show h.firstE = 7 by rw [Hs.firstE, if_neg (by simp [HF.out]), Hs.firstO, hfo])
        have HV := Lib.hid (show h.firstV = 0 by rw [Hs.firstV, if_neg (by simp [HF.out]), Hs.firstO, hfo])
        clear hfo
        go_wp2
        go_ret2
        exact ret_mk (by rw [HE.out, HV.out]; rfl) hbwr
  · have hf1 : (h.fault != 0) = true := by simpa using hf
    have HE := Lib.hid (show h.firstE = h.fault by simp [Hs.firstE, hf])
    have HV := Lib.hid (show h.firstV = 0 by simp [Hs.firstV, hf])
    clear hf
    go_enter Try.func44, Try.ntmps44
    go_wp2_with (first
      | (go_at_call 70; refine (check_calls _ h _ ?hh).mono ?_; (case hh => exact H0.below (by repeat (first | exact Below.refl _ _ | (with_reducible assumption) | apply gL | apply gA | apply gD | apply gN | (refine gS ?_ (by first | (simp; done) | (simp; omega) | omega))))); (rintro e w' hr; first | ((with_reducible replace hr := Ret.up hr); obtain ⟨rfl, z, rfl⟩ := hr) | (obtain ⟨rfl, z, rfl⟩ := hr))))
    go_ret2
    exact ret_mk (by rw [HE.out, HV.out]; rfl) (by repeat (first | exact Below.refl _ _ | (with_reducible assumption) | apply gL | apply gA | apply gD | apply gN | (refine gS ?_ (by first | (simp; done) | (simp; omega) | omega))))
end Go.Proofs.Ytcngnfnljkkjgaa
namespace Go.Proofs.Ytcngnfnljkkjgaa
open Go.RowKit

inductive Sch where
  | done : Sch
  | one : Nat → Sch → Sch
  | two : Nat → Nat → Sch → Sch → Sch
def Sch.len : Sch → Nat
  | .done => 0
  | .one _ s => s.len + 1
  | .two _ _ s _ => s.len + 1
def schB (md : Region.Mode) (ops : Array Oper) (n : Nat) : Sch → Array Bool → Bool
  | .done, listed => decide (Region.ready md ops listed = [n]) && decide (Region.ready md ops (listed.setIfInBounds n true) = [])
  | .one k s, listed => decide (Region.ready md ops listed = [k]) && (decide (k < n) && schB md ops n s (listed.setIfInBounds k true))
  | .two j k s t, listed => decide (Region.ready md ops listed = [j, k]) && (decide (j < n) && (decide (k < n) && (decide (s.len = t.len) && (schB md ops n s (listed.setIfInBounds j true) && schB md ops n t (listed.setIfInBounds k true)))))
def wpSch (P : Program) (ops : Array Oper) (Q : Exit → Act → World → Prop) (S : World → Prop) (n : Nat) : Sch → Act → World → Prop
  | .done, a, w => wpOp P ops Q n (Q .normal) a w
  | .one k s, a, w => wpOp P ops Q k (fun a' w' => S w' ∧ wpSch P ops Q S n s a' w') a w
  | .two j k s t, a, w => wpOp P ops Q j (fun a' w' => S w' ∧ wpSch P ops Q S n s a' w') a w ∧ wpOp P ops Q k (fun a' w' => S w' ∧ wpSch P ops Q S n t a' w') a w
def permS (md : Region.Mode) (ops : Array Oper) (n : Nat) (s : Sch) : List Nat → Array Bool → Bool
  | [], listed => schB md ops n s listed
  | k :: l, listed => (Region.ready md ops listed).contains k && (Region.free md ops listed k && (decide (k < n) && ((match ops[k]? with | some o => plainOp o.op | none => false) && permS md ops n s l (listed.setIfInBounds k true))))

section
variable {P : Program} {ops : Array Oper} {Q : Exit → Act → World → Prop} {md : Region.Mode} {S : World → Prop} {n : Nat}
theorem wpT_sch : ∀ (s : Sch) (listed : Array Bool) (a : Act) (w : World), schB md ops n s listed = true → wpSch P ops Q S n s a w → wpT P md ops Q S n s.len listed a w
  | .done, listed, a, w, hB, h => by
    simp only [schB, Bool.and_eq_true, decide_eq_true_eq] at hB
    exact ⟨hB.1, hB.2, h⟩
  | .one k s, listed, a, w, hB, h => by
    simp only [schB, Bool.and_eq_true, decide_eq_true_eq] at hB
    obtain ⟨h1, h2, h3⟩ := hB
    refine ⟨by rw [h1]; simp, fun i hi => ?_⟩
    rw [h1] at hi
    have hik : i = k := by simpa using hi
    subst hik
    exact ⟨h2, wpOp_mono (fun a' w' h' => ⟨h'.1, wpT_sch s _ a' w' h3 h'.2⟩) h⟩
  | .two j k s t, listed, a, w, hB, h => by
    simp only [schB, Bool.and_eq_true, decide_eq_true_eq] at hB
    obtain ⟨h1, h2, h3, h4, h5, h6⟩ := hB
    refine ⟨by rw [h1]; simp, fun i hi => ?_⟩
    rw [h1] at hi
    simp only [List.mem_cons, List.not_mem_nil, or_false] at hi
    rcases hi with rfl | rfl
    · exact ⟨h2, wpOp_mono (fun a' w' h' => ⟨h'.1, wpT_sch s _ a' w' h5 h'.2⟩) h.1⟩
    · refine ⟨h3, wpOp_mono (fun a' w' h' => ⟨h'.1, ?_⟩) h.2⟩
      rw [h4]
      exact wpT_sch t _ a' w' h6 h'.2

theorem wpT_permS {s : Sch} {w : World} (hsel : Region.noSelect ops = true) (hQ : ∀ c a d v w, Q (.panic c) (Act.put a d v) w → Q (.panic c) a w) (hs : Region.sinkB md ops n = true) (hc : Region.chainB md ops n = true) (hn : n < ops.size) (hS : S w) :
    ∀ (pre : List Nat) (listed : Array Bool) (a : Act), HeadInv md ops n listed → permS md ops n s pre listed = true →
      wpQuiet P ops S (fun a' => wpSch P ops Q S n s a' w) (pre.filterMap fun i => ops[i]?) a → wpT P md ops Q S n (pre.length + s.len) listed a w
  | [], listed, a, _, hB, h => by
    rw [List.length_nil, Nat.zero_add]
    exact wpT_sch s listed a w hB h
  | k :: l, listed, a, inv, hB, h => by
    simp only [permS, Bool.and_eq_true, decide_eq_true_eq] at hB
    obtain ⟨hr, hf, hkn, hp, hB'⟩ := hB
    have hr' : k ∈ Region.ready md ops listed := by simpa using hr
    obtain ⟨_, o, ho, _⟩ := mem_ready.1 hr'
    rw [ho] at hp
    rw [List.filterMap_cons, ho] at h
    have hst : qOp P ops S k (wpQuiet P ops S (fun a' => wpSch P ops Q S n s a' w) (l.filterMap fun i => ops[i]?)) a := by unfold qOp; simp only [ho]; exact h
    obtain ⟨v, hy, hK⟩ := yieldsIn_of_qOp ho hst
    rw [List.length_cons, Nat.add_right_comm]
    exact wpT_first ho (Region.noSelect_spec hsel) (fun c a w => hQ c a _ v w) hs hc hn hkn _ listed a w inv (Region.free_spec ho hf) hr' (yieldsIf_of_in hp hy) hS
      (wpT_permS hsel hQ hs hc hn hS l _ _ (inv.set hr' hkn) hB' hK)

def regionS (ops : Array Oper) (pre : List Nat) (s : Sch) (n : Nat) : Bool :=
  Region.noSelect ops && (Region.sinkB .any ops n && (Region.chainB .any ops n && (decide (pre.length + s.len + 1 = ops.size) && (decide (n < ops.size) && permS .any ops n s pre (Array.replicate ops.size false)))))

theorem region_sched {id : Nat} {l : List Oper} {a : Act} {w : World} (C : World → Prop) (pre : List Nat) (s : Sch) (n : Nat) (hm : P.follows .mixedOrders = true) (hB : regionS l.toArray pre s n = true) (hC : C w.drew)
    (h : wpQuiet P l.toArray (fun w' => ∃ x, w' = held C w.drew x) (fun a' => wpSch P l.toArray (NoPanic Q) C n s a' w.drew) (pre.filterMap fun i => l[i]?) a) : (Code.region id l.toArray true).wp P Q a w := by
  rw [held_eq hC] at h
  simp only [regionS, Bool.and_eq_true, decide_eq_true_eq] at hB
  obtain ⟨h1, h2, h3, h4, h5, h6⟩ := hB
  have inv0 : HeadInv .any l.toArray n (Array.replicate l.toArray.size false) :=
    ⟨by simp, fun j oj _ hl => (by rw [getD_replicate_false] at hl; cases hl), fun t _ ht => getD_in (by simpa using ht) (getD_replicate_false _ _)⟩
  have := wpAny_of_T _ _ _ _ (wpT_permS (Q := NoPanic Q) h1 (fun _ _ _ _ _ h => h) h2 h3 h5 hC pre _ a inv0 h6 (by simpa using h))
  rw [h4] at this
  exact wp_region_noPanic (wp_region_any hm this)

theorem wpSch_one {k : Nat} {s : Sch} {a : Act} {w : World} {o : Oper} (ho : ops[k]? = some o)
    (h : ∀ K : Act → World → Prop, Hid (∀ a w, S w → wpSch P ops Q S n s a w → K a w) → if Region.wanted o (yielded ops a.tmps) = true then Oper.wp P o a w K Q else K (a.put o.dst undef) w) : wpSch P ops Q S n (.one k s) a w :=
  wpOp_step ho (fun K hK => h K (Lib.hid fun a w hS hT => hK a w ⟨hS, hT⟩))
theorem wpSch_two {j k : Nat} {s t : Sch} {a : Act} {w : World} {o p : Oper} (ho : ops[j]? = some o) (hp : ops[k]? = some p)
    (h1 : ∀ K : Act → World → Prop, Hid (∀ a w, S w → wpSch P ops Q S n s a w → K a w) → if Region.wanted o (yielded ops a.tmps) = true then Oper.wp P o a w K Q else K (a.put o.dst undef) w)
    (h2 : ∀ K : Act → World → Prop, Hid (∀ a w, S w → wpSch P ops Q S n t a w → K a w) → if Region.wanted p (yielded ops a.tmps) = true then Oper.wp P p a w K Q else K (a.put p.dst undef) w) : wpSch P ops Q S n (.two j k s t) a w :=
  ⟨wpOp_step ho (fun K hK => h1 K (Lib.hid fun a w hS hT => hK a w ⟨hS, hT⟩)), wpOp_step hp (fun K hK => h2 K (Lib.hid fun a w hS hT => hK a w ⟨hS, hT⟩))⟩
theorem wpSch_done {a : Act} {w : World} {o : Oper} (ho : ops[n]? = some o)
    (h : ∀ K : Act → World → Prop, Hid (∀ a w, Q .normal a w → K a w) → if Region.wanted o (yielded ops a.tmps) = true then Oper.wp P o a w K Q else K (a.put o.dst undef) w) : wpSch P ops Q S n .done a w :=
  wpOp_step ho (fun K hK => h K (Lib.hid hK))
end
end Go.Proofs.Ytcngnfnljkkjgaa
namespace Go.Proofs.Ytcngnfnljkkjgaa
open Go.RowKit
attribute [local go_sem] cell_later frozen_later lt_later le_later

/-- What the copy leaves: a list of the call's own. -/
def RetOwn (l : List Int) (w : World) (e : Ending) (w' : World) : Prop :=
  ∃ A c, e = .returned (.slice A l.length c) ∧ (∃ x, w' = later w x) ∧ w'.ownsRow w.heap.size 3 1 (.slice A l.length c) l.length (l.flatMap gI)

theorem sl_cells {w : World} {A : Option Addr} {c : Nat} {l : List Int} {b off : Nat} (h : SlA w 1 gI A c l) (hA : A = some ⟨b, off, none⟩) : ∀ j u, (l.flatMap gI)[j]? = some u → w.cell? ((⟨b, off, none⟩ : Addr).add j) = some u := by
  intro j u hu
  have hj : j < l.length := by
    have := (List.getElem?_eq_some_iff.1 hu).1
    rw [flat_length (k := 1) (fun _ _ => rfl)] at this
    omega
  obtain ⟨b', off', x, e, hlt, hx, hc⟩ := h.atI hj
  rw [hA] at e
  cases e
  have h1 := flat_at (g := gI) (k := 1) (fun _ _ => rfl) j x hx 0 (.int .i64 x) rfl
  rw [Nat.mul_one, Nat.add_zero, hu] at h1
  cases h1
  have : ((⟨b, off, none⟩ : Addr).add j) = ⟨b, off + j, none⟩ := by
    unfold Addr.add
    split
    · next h => rw [h]; rfl
    · rfl
  rw [this]
  exact hc

theorem equal_nil (A : Option Addr) (n c : Nat) (w : World) : (Op.equal 47 (.slice A n c) (.slice none 0 0)).run Try.prog w = .ok A.isNone w := by
  have hu : Try.prog.underlying 47 = some (.slice 3) := by kernel_rfl
  obtain ⟨d, hd⟩ : ∃ d, 10000 = d + 1 := ⟨9999, rfl⟩
  unfold Op.equal Op.maxDepth
  rw [hd, Op.equalIn]
  simp only [Sem.run_bind, run_underlying hu, Result.andThen_ok]
  cases A <;> rfl
theorem eql_nil (A : Option Addr) (n c : Nat) (w : World) : (binOp .eql 47 (.slice A n c) (.slice none 0 0)).run Try.prog w = .ok (.bool A.isNone) w := by
  unfold binOp
  simp [equal_nil]
theorem eqGuard_nil (A : Option Addr) (n c : Nat) (x y : Operand) (B : Option Addr) (m d : Nat) : eqGuard .eql 47 x y (.slice A n c) (.slice B m d) = pure () := rfl
attribute [local go_sem] eql_nil eqGuard_nil

set_option maxHeartbeats 1000000 in
theorem clone_calls (A : Option Addr) (c : Nat) (l : List Int) (w : World) (H : SlA w 1 gI A c l) (hl : l.length ≤ 1000) (hz : A = none → c = 0) :
    Calls Try.prog 102 #[.slice A l.length c] w (RetOwn l w) := by
  obtain ⟨i0, hi, hz0, hz1, hz2⟩ := info_parts infoInt
  cases hA : A with
  | none =>
    have hln : l = [] := by
      cases hl : l with
      | nil => rfl
      | cons x l' =>
        obtain ⟨b, off, e, -⟩ := H.2.2 (by rw [hl]; simp)
        rw [hA] at e
        cases e
    subst hln
    obtain rfl := hz hA
    go_enter Try.func102, Try.ntmps102
    go_wp2
    go_ret
    exact ⟨none, 0, rfl, later_ex (Below.refl _ _), World.ownsRow_nil _ _ _ _⟩
  | some a =>
    subst hA
    by_cases hn : l = []
    · subst hn
      go_enter Try.func102, Try.ntmps102
      go_wp2
      go_ret
      exact ⟨some ⟨w.heap.size, 0, none⟩, 0, rfl, later_ex (by repeat (first | exact Below.refl _ _ | (with_reducible assumption) | apply gL | apply gA | apply gD | apply gN | (refine gS ?_ (by first | (simp; done) | (simp; omega) | omega)))), rfl, .inr ⟨w.heap.size, 0, #[], rfl, Nat.le_refl _, World.alloc_heap_new w _, Nat.le_refl _, by unfold maxLen; omega, rfl, rfl⟩⟩
    · obtain ⟨b, off, e, hlt, -⟩ := H.2.2 hn
      cases e
      have hcs := sl_cells H rfl
      have hown : (w.alloc (.cells #[] 3)).ownsRow w.heap.size 3 1 (.slice (some ⟨w.heap.size, 0, none⟩) 0 0) 0 [] :=
        ⟨rfl, .inr ⟨w.heap.size, 0, #[], rfl, Nat.le_refl _, World.alloc_heap_new w _, Nat.le_refl _, by unfold maxLen; omega, rfl, rfl⟩⟩
      have hcs2 : ∀ j u, (l.flatMap gI)[j]? = some u → (w.alloc (.cells #[] 3)).cell? ((⟨b, off, none⟩ : Addr).add j) = some u := fun j u hu => by
        have := hcs j u hu
        rw [← this]
        exact (gA (o := .cells #[] 3) (Below.refl w.heap.size w)).cell (World.block_lt_of_cell? w _ this)
      have HCS := Lib.hid hcs2
      have HOW := Lib.hid hown
      clear hcs hcs2 hown
      go_enter Try.func102, Try.ntmps102
      go_wp2_with (at_builtin; refine wpList_append_own _ rfl _ _ 47 rfl w.heap.size 3 i0 (.int .i64 0) 1 8 Try.underlying47 hi hz0 hz1 hz2 rfl (by decide) _ _ _ rfl HOW.out ⟨b, off, none⟩ l.length c (l.flatMap gI) rfl (flat_length (fun _ _ => rfl)) HCS.out ?c2 ?c3 ?c4 ?c5 ?_)
      case c2 =>
        intro u hu
        obtain ⟨x, -, hx⟩ := List.mem_flatMap.1 hu
        simp only [gI, List.mem_singleton] at hx
        subst hx
        rfl
      case c3 => unfold maxLen; omega
      case c4 => omega
      case c5 => simp
      intro v' w1 hown1 hg1 _
      have hb2 := grown_below (w := w) (gA (Below.refl _ _)) HOW.out (Nat.le_refl _) hg1
      have hpos := List.length_pos_iff.2 hn
      obtain ⟨A', c', rfl⟩ : ∃ A c, v' = .slice A l.length c := by
        rcases hown1.2 with ⟨-, h0⟩ | ⟨b, cap, cur, e, -⟩
        · omega
        · exact ⟨_, _, e⟩
      go_wp2
      go_ret
      exact ⟨A', c', rfl, later_ex hb2, hown1⟩
end Go.Proofs.Ytcngnfnljkkjgaa
namespace Go.Proofs.Ytcngnfnljkkjgaa
open Go.RowKit
attribute [local go_sem] cell_later frozen_later lt_later le_later

/-- The first set of so many clips more, from one on, that can be left out. -/
def Hs.lv (h : Hs) : Nat → List Int → Nat → Option (List Int)
  | 0, out, _ => if h.canB out = true then some out else none
  | m + 1, out, frm => (List.range' frm (h.clips.length - m - frm)).findSome? fun (i : Nat) => h.lv m (out ++ [(i : Int)]) (i + 1)
theorem range'_split {a n k : Nat} (hk : k < n) : List.range' a n = List.range' a k ++ (a + k) :: List.range' (a + k + 1) (n - k - 1) := by
  have h1 : n = k + (1 + (n - k - 1)) := by omega
  rw [h1, ← List.range'_append_1, ← List.range'_append_1]
  simp
theorem find_at {α : Type} {f : Nat → Option α} {a n k : Nat} {s : α} (hk : k < n) (h1 : (List.range' a k).findSome? f = none) (h2 : f (a + k) = some s) : (List.range' a n).findSome? f = some s := by
  rw [range'_split hk, List.findSome?_append, h1]
  simp [h2]
theorem find_next {α : Type} {f : Nat → Option α} {a k : Nat} (h1 : (List.range' a k).findSome? f = none) (h2 : f (a + k) = none) : (List.range' a (k + 1)).findSome? f = none := by
  rw [range'_split (k := k) (by omega), List.findSome?_append, h1]
  simp [h2]

def lvFn (bf bh bl : Nat) : Value := .func (.func 101) #[] #[.pointer (some ⟨bf, 0, none⟩), .pointer (some ⟨bh, 0, none⟩), .pointer (some ⟨bl, 0, none⟩)]
structure LvAt (h : Hs) (A2 : Option Addr) (c2 : Nat) (A3 : Option Addr) (c3 : Nat) (A4 : Option Addr) (c4 : Nat) (w0 : World) (bf bh bl : Nat) (W : World) : Prop where
  low : Below w0.heap.size w0 W
  hh : BlkAt W bh 36 [.int .i64 h.hour, .int .i64 h.grace, .slice A2 h.clocks.length c2, .slice A3 h.tickets.length c3, .slice A4 h.clips.length c4]
  hl : BlkAt W bl 134 [lvFn bf bh bl]
  hf : ∃ v, BlkAt W bf 47 [v]
  nh : bh ≠ bf
  nl : bl ≠ bf
  nw : w0.heap.size ≤ bf
theorem LvAt.keep {h : Hs} {A2 A3 A4 : Option Addr} {c2 c3 c4 : Nat} {w0 : World} {bf bh bl : Nat} {W W' : World} {v : Value} (H : LvAt h A2 c2 A3 c3 A4 c4 w0 bf bh bl W) (k : KeepX bf W W') (hv : BlkAt W' bf 47 [v]) : LvAt h A2 c2 A3 c3 A4 c4 w0 bf bh bl W' :=
  ⟨k.low H.low H.nw H.low.size, k.blk H.hh H.nh, k.blk H.hl H.nl, ⟨v, hv⟩, H.nh, H.nl, H.nw⟩
def RetLv (bf : Nat) (r : Option (List Int)) (W : World) (e : Ending) (W' : World) : Prop :=
  e = .returned (.bool r.isSome) ∧ KeepX bf W W' ∧ ∃ v, BlkAt W' bf 47 [v] ∧ ∀ s, r = some s → ∃ A c, v = .slice A s.length c ∧ SlA W' 1 gI A c s

theorem own_facts {w : World} {base : Nat} {v : Value} {n : Nat} {l : List Int} (h : w.ownsRow base 3 1 v n (l.flatMap gI)) (hl : l.length = n) (hpos : 0 < n) (hb : n ≤ 140737488355328) :
    ∃ A c, v = .slice A l.length c ∧ SlA w 1 gI A c l ∧ (∀ a, A = some a → base ≤ a.block) ∧ (A = none → c = 0) := by
  obtain ⟨A, c, hv, hs⟩ := SlA.of_own (k := 1) (g := gI) (l := l) h (fun _ _ => rfl) hl hb
  rcases h.2 with ⟨-, h0⟩ | ⟨b, cap, cur, e, hbb, -⟩
  · omega
  · rw [hv] at e
    cases e
    exact ⟨_, _, hv, hs, fun a ha => by cases ha; exact hbb, fun hh => by cases hh⟩

set_option maxHeartbeats 4000000 in
theorem leave_in (h : Hs) (A2 : Option Addr) (c2 : Nat) (A3 : Option Addr) (c3 : Nat) (A4 : Option Addr) (c4 : Nat) (w0 : World) (bf bh bl : Nat) (hf : Hid (h.fault = 0))
    (H : HsAt w0 (.agg #[.int .i64 h.hour, .int .i64 h.grace, .slice A2 h.clocks.length c2, .slice A3 h.tickets.length c3, .slice A4 h.clips.length c4]) h) :
    ∀ (m : Nat) (out : List Int) (frm : Nat) (A : Option Addr) (c : Nat) (W : World), LvAt h A2 c2 A3 c3 A4 c4 w0 bf bh bl W → SlA W 1 gI A c out → (out ≠ [] → ∀ a, A = some a → a.block ≠ bf) → (A = none → c = 0) → out.length + m ≤ 20 → frm ≤ 20 →
      Calls Try.prog 101 #[.slice A out.length c, .int .i64 frm, .int .i64 m, .pointer (some ⟨bf, 0, none⟩), .pointer (some ⟨bh, 0, none⟩), .pointer (some ⟨bl, 0, none⟩)] W (RetLv bf (h.lv m out frm) W) := by
  have hn : h.clocks.length ≤ 4 := (small_iff.1 (fault_zero hf.out).1).1
  have hp : h.clips.length ≤ 10 := (small_iff.1 (fault_zero hf.out).1).2.2
  have HC := Lib.hid (clipsOk_of hf.out)
  have HR := Lib.hid (fun r hr => fault_clock hf.out (r := r) hr)
  intro m
  induction m with
  | zero =>
    intro out frm A c W L HO hA hz hl hfr
    obtain ⟨v, hv⟩ := L.hf
    have z0 := hv.cell 0
    have zf := hv.frozen 0
    have q0 := L.hh.cell 0
    have q1 := L.hh.cell 1
    have q2 := L.hh.cell 2
    have q3 := L.hh.cell 3
    have q4 := L.hh.cell 4
    simp only [List.getElem?_cons_zero, List.getElem?_cons_succ] at z0 q0 q1 q2 q3 q4
    have nh := L.nh
    have hbf := hv.lt
    have hbh := L.hh.lt
    obtain ⟨W1, hW1⟩ : ∃ W1, W1 = W.setCell ⟨bf, 0, none⟩ (.slice A out.length c) := ⟨_, rfl⟩
    have hk1 : KeepX bf W W1 := by rw [hW1]; exact KeepX.set_ _ _ _
    have hv1 : BlkAt W1 bf 47 [.slice A out.length c] := by rw [hW1]; exact hv.set_ 0 _
    have L1 := L.keep hk1 hv1
    have HO1 := hk1.sl HO hA
    have hpo := possible_calls _ h A c out W1 (H.below L1.low) HO1 hn HR.out HC.out (by omega)
    have HPO := Lib.hid hpo
    have HW1 := Lib.hid hW1
    clear hpo hW1
    go_enter Try.func101, Try.ntmps101
    go_wp2_with (first | (go_at_call 100; rw [← HW1.out]; refine HPO.out.mono ?_; (rintro e w' hr; first | ((with_reducible replace hr := Ret.up hr); obtain ⟨rfl, z, rfl⟩ := hr) | (obtain ⟨rfl, z, rfl⟩ := hr))))
    go_ret
    refine ⟨?_, hk1.trans (KeepX.of_below (below_later _ _)), .slice A out.length c, hv1.later, fun s hs => ?_⟩
    · show _ = Ending.returned (.bool (if h.canB out = true then some out else none).isSome)
      cases h.canB out <;> rfl
    · have hs' : (if h.canB out = true then some out else none) = some s := hs
      split at hs'
      · cases hs'
        exact ⟨A, c, rfl, HO1.below (below_later _ _)⟩
      · cases hs'
  | succ m ih =>
    intro out frm A c W L HO hA hz hl hfr
    have IH := Lib.hid ih
    clear ih
    obtain ⟨cnt, hcnt⟩ : ∃ n, n = h.clips.length - m - frm := ⟨_, rfl⟩
    have HLV := Lib.hid (show h.lv (m + 1) out frm = (List.range' frm cnt).findSome? (fun (i : Nat) => h.lv m (out ++ [(i : Int)]) (i + 1)) by rw [hcnt]; rfl)
    have hfb : (frm : Int) ≤ 20 := by omega
    obtain ⟨M, hM⟩ : ∃ M : Int, M = ((m + 1 : Nat) : Int) := ⟨_, rfl⟩
    rw [← hM]
    have hM1 : M - 1 = (m : Int) := by omega
    have hm0 : 1 ≤ M := by omega
    have hm9 : M ≤ 20 := by omega
    have hmz : (M == 0) = false := by simp; omega
    have HM := Lib.hid hM
    clear hM
    have hpI : (h.clips.length : Int) ≤ 10 := by omega
    obtain ⟨i0, hi0, hz0, hz1, hz2⟩ := info_parts infoInt
    go_enter Try.func101, Try.ntmps101
    go_wp2
    go_loopw [10] (fun i wr => ∃ k : Nat, k ≤ cnt ∧ i = .int .i64 ((frm + k : Nat) : Int) ∧ (List.range' frm k).findSome? (fun (i : Nat) => h.lv m (out ++ [(i : Int)]) (i + 1)) = none ∧ KeepX bf W wr ∧ LvAt h A2 c2 A3 c3 A4 c4 w0 bf bh bl wr) (fun i _ => frm + cnt - (intOf i).toNat)
    case atStart => exact ⟨0, Nat.zero_le _, rfl, rfl, KeepX.refl _ _, L⟩
    case round =>
      obtain ⟨k, hk, rfl, hnone, hkx, Lr⟩ := hrel
      have HN := Lib.hid hnone
      clear hnone
      have q4 := Lr.hh.cell 4
      have ql := Lr.hl.cell 0
      simp only [List.getElem?_cons_zero, List.getElem?_cons_succ] at q4 ql
      have hbh := Lr.hh.lt
      have hbl := Lr.hl.lt
      have HOr := hkx.sl HO hA
      have hfk0 : (0 : Int) ≤ ((frm + k : Nat) : Int) := Int.natCast_nonneg _
      obtain ⟨i, hi⟩ : ∃ i, i = frm + k := ⟨_, rfl⟩
      rw [← hi] at hfk0 ⊢
      by_cases hlt : k < cnt
      · have hle : (i : Int) ≤ (h.clips.length : Int) - M := by have := HM.out; omega
        have hi10 : (i : Int) ≤ 10 := by omega
        have HI := Lib.hid hi
        clear hi
        cases hr : h.lv m (out ++ [(i : Int)]) (i + 1) with
        | none =>
          have HNX := Lib.hid (show (List.range' frm (k + 1)).findSome? (fun (i : Nat) => h.lv m (out ++ [(i : Int)]) (i + 1)) = none from find_next HN.out (by rw [← HI.out]; exact hr))
          go_wp2
          obtain ⟨C, hC⟩ : ∃ C, C = Same [⟨bl, 0, none⟩] wr := ⟨_, rfl⟩
          obtain ⟨G, hG⟩ : ∃ G, G = held C wr.drew := ⟨_, rfl⟩
          have fl : ∀ x, (G x).cell? ⟨bl, 0, none⟩ = some (lvFn bf bh bl) := fun x => by
            rw [hG, hC]
            exact same_held ql (by simp) x
          unfold lvFn at fl
          refine region_sched C [0, 1, 3, 6, 7, 8, 9] (.two 2 4 (.one 4 (.one 5 .done)) (.one 2 (.one 5 .done))) 10 (by kernel_rfl) (by kernel_rfl) (by rw [hC]; exact same_drew) ?_
          rw [← hG]
          have HC' := Lib.hid hC
          clear hG hC
          simp only [List.filterMap_cons, List.filterMap_nil, List.getElem?_cons_zero, List.getElem?_cons_succ]
          change wpQuiet _ _ _ _ [_, _, _, _, _, _, _] _
          repeat (go_big_quiet_step (fail))
          refine wpQuiet_nil ?_
          clear fl
          refine wpSch_two rfl rfl (fun K hK => ?_) (fun K hK => ?_)
          · go_simp
            refine (clone_calls A c out _ (HOr.below (gD (Below.refl _ _))) (by omega) hz).mono ?_
            rintro e' w' ⟨A6, c6, rfl, ⟨z, rfl⟩, hown⟩
            have hbz : Below wr.heap.size wr (later wr.drew z) := Below.trans (gD (Below.refl _ _)) (below_later wr.drew z)
            refine hK.out _ _ (by rw [HC'.out]; exact same_below hbz (by simp; omega)) ?_
            clear hK K
            obtain ⟨W6, hW6⟩ : ∃ W6, W6 = later wr.drew z := ⟨_, rfl⟩
            rw [← hW6] at hown hbz ⊢
            clear hW6
            refine wpSch_one rfl (fun K hK => ?_)
            go_simp
            have hb7 : Below wr.heap.size wr (W6.alloc (.cells #[.int .i64 i] 3)) := gA hbz
            refine hK.out _ _ (by rw [HC'.out]; exact same_below hb7 (by simp; omega)) ?_
            clear hK K
            refine wpSch_one rfl (fun K hK => ?_)
            rw [if_pos (by rfl)]
            refine wp_append_own _ _ 47 rfl wr.heap.size 3 i0 (.int .i64 0) 1 8 Try.underlying47 hi0 hz0 hz1 hz2 rfl (by decide) _ _ _ rfl (hown.alloc _) ⟨W6.heap.size, 0, none⟩ 1 1 [.int .i64 i] rfl rfl ?c1 ?c2 ?c3 ?c4 ?c5 ?_
            case c1 => exact news_new _ _ rfl [.int .i64 i] _
            case c2 => simp [Value.oneCell']
            case c3 => unfold maxLen; omega
            case c4 => omega
            case c5 => exact hb7.size
            intro v' w1 hown1 hg1 hob
            obtain ⟨A5, c5, rfl, hs5, hA5, hz5⟩ := own_facts (l := out ++ [(i : Int)]) (by simpa [gI] using hown1) (by simp) (by simp) (by simp; omega)
            have hB1 : Below wr.heap.size wr w1 := grown_below hb7 (hown.alloc _) (Nat.le_refl _) hg1
            have hk1 : KeepX bf wr w1 := KeepX.of_below hB1
            obtain ⟨vb, hvb⟩ := Lr.hf
            have L1 := Lr.keep hk1 (hvb.of_below hB1 hvb.lt)
            have ihc := IH.out (out ++ [(i : Int)]) (i + 1) A5 c5 w1 L1 hs5 (fun _ a ha => by have := hA5 a ha; have := hvb.lt; omega) hz5 (by simp; omega) (by omega)
            rw [show (out ++ [(i : Int)]).length = out.length + 1 by simp] at ihc ⊢
            rw [show ((i + 1 : Nat) : Int) = (i : Int) + 1 by omega, hr] at ihc
            have hC1 : C w1 := by
              rw [HC'.out]
              intro a ha
              simp only [List.mem_cons, List.not_mem_nil, or_false] at ha
              subst ha
              exact hB1.cell hbl
            have IHC := Lib.hid ihc
            have HK1 := Lib.hid hk1
            clear ihc hk1 hown1 hg1 hob hs5 hA5 hz5
            simp only [Act.put, List.setIfInBounds_toArray]
            refine hK.out _ _ hC1 ?_
            clear hK K
            refine wpSch_done rfl (fun K hK => ?_)
            go_simp
            refine IHC.out.mono ?_
            rintro e' W' ⟨rfl, hkx', v2, hv2, hs2⟩
            have HS2 := Lib.hid hs2
            clear hs2
            refine hK.out _ _ (noPanic_mk ?_)
            clear hK K IHC hC1 hvb
            simp only [Option.isSome_none]
            go_wp2
            go_roundw
            case rel => exact ⟨k + 1, by omega, by rw [HI.out]; congr 1, HNX.out, (hkx.trans HK1.out).trans hkx', L1.keep hkx' hv2⟩
            case measure => rw [HI.out]; simp [intOf]; omega
          · go_simp
            obtain ⟨W6, hW6⟩ : ∃ W6, W6 = (wr.alloc (.cells #[.int .i64 i] 3)).drew := ⟨_, rfl⟩
            have hb6 : Below wr.heap.size wr W6 := by rw [hW6]; exact gD (gA (Below.refl _ _))
            have hn6 : ∀ (j : Nat) (u : Value), ([.int .i64 i] : List Value)[j]? = some u → W6.cell? ((⟨wr.heap.size, 0, none⟩ : Addr).add j) = some u := fun j u hu => by
              have := news_new wr _ rfl [.int .i64 i] 3 j u hu
              rw [hW6]
              simpa [go_sem] using this
            rw [← hW6]
            clear hW6
            refine hK.out _ _ (by rw [HC'.out]; exact same_below hb6 (by simp; omega)) ?_
            clear hK K
            refine wpSch_one rfl (fun K hK => ?_)
            go_simp
            refine (clone_calls A c out _ (HOr.below hb6) (by omega) hz).mono ?_
            rintro e' w' ⟨A6, c6, rfl, ⟨z, rfl⟩, hown⟩
            have hb7 : Below wr.heap.size wr (later W6 z) := later_below hb6 hb6.size
            refine hK.out _ _ (by rw [HC'.out]; exact same_below hb7 (by simp; omega)) ?_
            clear hK K
            refine wpSch_one rfl (fun K hK => ?_)
            rw [if_pos (by rfl)]
            refine wp_append_own _ _ 47 rfl W6.heap.size 3 i0 (.int .i64 0) 1 8 Try.underlying47 hi0 hz0 hz1 hz2 rfl (by decide) _ _ _ rfl hown ⟨wr.heap.size, 0, none⟩ 1 1 [.int .i64 i] rfl rfl ?c1 ?c2 ?c3 ?c4 ?c5 ?_
            case c1 =>
              intro j u hu
              have := hn6 j u hu
              exact ((below_later W6 z).cell (World.block_lt_of_cell? W6 _ this)).trans this
            case c2 => simp [Value.oneCell']
            case c3 => unfold maxLen; omega
            case c4 => omega
            case c5 => exact size_later _ _
            intro v' w1 hown1 hg1 hob
            have hb6s := hb6.size
            obtain ⟨A5, c5, rfl, hs5, hA5, hz5⟩ := own_facts (l := out ++ [(i : Int)]) (by simpa [gI] using hown1) (by simp) (by simp) (by simp; omega)
            have hB1 : Below wr.heap.size wr w1 := grown_below hb7 hown hb6s hg1
            have hk1 : KeepX bf wr w1 := KeepX.of_below hB1
            obtain ⟨vb, hvb⟩ := Lr.hf
            have L1 := Lr.keep hk1 (hvb.of_below hB1 hvb.lt)
            have ihc := IH.out (out ++ [(i : Int)]) (i + 1) A5 c5 w1 L1 hs5 (fun _ a ha => by have := hA5 a ha; have := hvb.lt; omega) hz5 (by simp; omega) (by omega)
            rw [show (out ++ [(i : Int)]).length = out.length + 1 by simp] at ihc ⊢
            rw [show ((i + 1 : Nat) : Int) = (i : Int) + 1 by omega, hr] at ihc
            have hC1 : C w1 := by
              rw [HC'.out]
              intro a ha
              simp only [List.mem_cons, List.not_mem_nil, or_false] at ha
              subst ha
              exact hB1.cell hbl
            have IHC := Lib.hid ihc
            have HK1 := Lib.hid hk1
            clear ihc hk1 hown1 hg1 hob hs5 hA5 hz5
            simp only [Act.put, List.setIfInBounds_toArray]
            refine hK.out _ _ hC1 ?_
            clear hK K
            refine wpSch_done rfl (fun K hK => ?_)
            go_simp
            refine IHC.out.mono ?_
            rintro e' W' ⟨rfl, hkx', v2, hv2, hs2⟩
            have HS2 := Lib.hid hs2
            clear hs2
            refine hK.out _ _ (noPanic_mk ?_)
            clear hK K IHC hC1 hvb
            simp only [Option.isSome_none]
            go_wp2
            go_roundw
            case rel => exact ⟨k + 1, by omega, by rw [HI.out]; congr 1, HNX.out, (hkx.trans HK1.out).trans hkx', L1.keep hkx' hv2⟩
            case measure => rw [HI.out]; simp [intOf]; omega
        | some s =>
          have HSX := Lib.hid (show h.lv (m + 1) out frm = some s by rw [HLV.out]; exact find_at hlt HN.out (by rw [← HI.out]; exact hr))
          go_wp2
          obtain ⟨C, hC⟩ : ∃ C, C = Same [⟨bl, 0, none⟩] wr := ⟨_, rfl⟩
          obtain ⟨G, hG⟩ : ∃ G, G = held C wr.drew := ⟨_, rfl⟩
          have fl : ∀ x, (G x).cell? ⟨bl, 0, none⟩ = some (lvFn bf bh bl) := fun x => by
            rw [hG, hC]
            exact same_held ql (by simp) x
          unfold lvFn at fl
          refine region_sched C [0, 1, 3, 6, 7, 8, 9] (.two 2 4 (.one 4 (.one 5 .done)) (.one 2 (.one 5 .done))) 10 (by kernel_rfl) (by kernel_rfl) (by rw [hC]; exact same_drew) ?_
          rw [← hG]
          have HC' := Lib.hid hC
          clear hG hC
          simp only [List.filterMap_cons, List.filterMap_nil, List.getElem?_cons_zero, List.getElem?_cons_succ]
          change wpQuiet _ _ _ _ [_, _, _, _, _, _, _] _
          repeat (go_big_quiet_step (fail))
          refine wpQuiet_nil ?_
          clear fl
          refine wpSch_two rfl rfl (fun K hK => ?_) (fun K hK => ?_)
          · go_simp
            refine (clone_calls A c out _ (HOr.below (gD (Below.refl _ _))) (by omega) hz).mono ?_
            rintro e' w' ⟨A6, c6, rfl, ⟨z, rfl⟩, hown⟩
            have hbz : Below wr.heap.size wr (later wr.drew z) := Below.trans (gD (Below.refl _ _)) (below_later wr.drew z)
            refine hK.out _ _ (by rw [HC'.out]; exact same_below hbz (by simp; omega)) ?_
            clear hK K
            obtain ⟨W6, hW6⟩ : ∃ W6, W6 = later wr.drew z := ⟨_, rfl⟩
            rw [← hW6] at hown hbz ⊢
            clear hW6
            refine wpSch_one rfl (fun K hK => ?_)
            go_simp
            have hb7 : Below wr.heap.size wr (W6.alloc (.cells #[.int .i64 i] 3)) := gA hbz
            refine hK.out _ _ (by rw [HC'.out]; exact same_below hb7 (by simp; omega)) ?_
            clear hK K
            refine wpSch_one rfl (fun K hK => ?_)
            rw [if_pos (by rfl)]
            refine wp_append_own _ _ 47 rfl wr.heap.size 3 i0 (.int .i64 0) 1 8 Try.underlying47 hi0 hz0 hz1 hz2 rfl (by decide) _ _ _ rfl (hown.alloc _) ⟨W6.heap.size, 0, none⟩ 1 1 [.int .i64 i] rfl rfl ?c1 ?c2 ?c3 ?c4 ?c5 ?_
            case c1 => exact news_new _ _ rfl [.int .i64 i] _
            case c2 => simp [Value.oneCell']
            case c3 => unfold maxLen; omega
            case c4 => omega
            case c5 => exact hb7.size
            intro v' w1 hown1 hg1 hob
            obtain ⟨A5, c5, rfl, hs5, hA5, hz5⟩ := own_facts (l := out ++ [(i : Int)]) (by simpa [gI] using hown1) (by simp) (by simp) (by simp; omega)
            have hB1 : Below wr.heap.size wr w1 := grown_below hb7 (hown.alloc _) (Nat.le_refl _) hg1
            have hk1 : KeepX bf wr w1 := KeepX.of_below hB1
            obtain ⟨vb, hvb⟩ := Lr.hf
            have L1 := Lr.keep hk1 (hvb.of_below hB1 hvb.lt)
            have ihc := IH.out (out ++ [(i : Int)]) (i + 1) A5 c5 w1 L1 hs5 (fun _ a ha => by have := hA5 a ha; have := hvb.lt; omega) hz5 (by simp; omega) (by omega)
            rw [show (out ++ [(i : Int)]).length = out.length + 1 by simp] at ihc ⊢
            rw [show ((i + 1 : Nat) : Int) = (i : Int) + 1 by omega, hr] at ihc
            have hC1 : C w1 := by
              rw [HC'.out]
              intro a ha
              simp only [List.mem_cons, List.not_mem_nil, or_false] at ha
              subst ha
              exact hB1.cell hbl
            have IHC := Lib.hid ihc
            have HK1 := Lib.hid hk1
            clear ihc hk1 hown1 hg1 hob hs5 hA5 hz5
            simp only [Act.put, List.setIfInBounds_toArray]
            refine hK.out _ _ hC1 ?_
            clear hK K
            refine wpSch_done rfl (fun K hK => ?_)
            go_simp
            refine IHC.out.mono ?_
            rintro e' W' ⟨rfl, hkx', v2, hv2, hs2⟩
            have HS2 := Lib.hid hs2
            clear hs2
            refine hK.out _ _ (noPanic_mk ?_)
            clear hK K IHC hC1 hvb
            simp only [Option.isSome_some]
            go_wp2
            go_ret
            exact ⟨by rw [HSX.out]; rfl, (hkx.trans HK1.out).trans hkx', v2, hv2, fun s' hs' => HS2.out s' (by rw [HSX.out] at hs'; exact hs')⟩
          · go_simp
            obtain ⟨W6, hW6⟩ : ∃ W6, W6 = (wr.alloc (.cells #[.int .i64 i] 3)).drew := ⟨_, rfl⟩
            have hb6 : Below wr.heap.size wr W6 := by rw [hW6]; exact gD (gA (Below.refl _ _))
            have hn6 : ∀ (j : Nat) (u : Value), ([.int .i64 i] : List Value)[j]? = some u → W6.cell? ((⟨wr.heap.size, 0, none⟩ : Addr).add j) = some u := fun j u hu => by
              have := news_new wr _ rfl [.int .i64 i] 3 j u hu
              rw [hW6]
              simpa [go_sem] using this
            rw [← hW6]
            clear hW6
            refine hK.out _ _ (by rw [HC'.out]; exact same_below hb6 (by simp; omega)) ?_
            clear hK K
            refine wpSch_one rfl (fun K hK => ?_)
            go_simp
            refine (clone_calls A c out _ (HOr.below hb6) (by omega) hz).mono ?_
            rintro e' w' ⟨A6, c6, rfl, ⟨z, rfl⟩, hown⟩
            have hb7 : Below wr.heap.size wr (later W6 z) := later_below hb6 hb6.size
            refine hK.out _ _ (by rw [HC'.out]; exact same_below hb7 (by simp; omega)) ?_
            clear hK K
            refine wpSch_one rfl (fun K hK => ?_)
            rw [if_pos (by rfl)]
            refine wp_append_own _ _ 47 rfl W6.heap.size 3 i0 (.int .i64 0) 1 8 Try.underlying47 hi0 hz0 hz1 hz2 rfl (by decide) _ _ _ rfl hown ⟨wr.heap.size, 0, none⟩ 1 1 [.int .i64 i] rfl rfl ?c1 ?c2 ?c3 ?c4 ?c5 ?_
            case c1 =>
              intro j u hu
              have := hn6 j u hu
              exact ((below_later W6 z).cell (World.block_lt_of_cell? W6 _ this)).trans this
            case c2 => simp [Value.oneCell']
            case c3 => unfold maxLen; omega
            case c4 => omega
            case c5 => exact size_later _ _
            intro v' w1 hown1 hg1 hob
            have hb6s := hb6.size
            obtain ⟨A5, c5, rfl, hs5, hA5, hz5⟩ := own_facts (l := out ++ [(i : Int)]) (by simpa [gI] using hown1) (by simp) (by simp) (by simp; omega)
            have hB1 : Below wr.heap.size wr w1 := grown_below hb7 hown hb6s hg1
            have hk1 : KeepX bf wr w1 := KeepX.of_below hB1
            obtain ⟨vb, hvb⟩ := Lr.hf
            have L1 := Lr.keep hk1 (hvb.of_below hB1 hvb.lt)
            have ihc := IH.out (out ++ [(i : Int)]) (i + 1) A5 c5 w1 L1 hs5 (fun _ a ha => by have := hA5 a ha; have := hvb.lt; omega) hz5 (by simp; omega) (by omega)
            rw [show (out ++ [(i : Int)]).length = out.length + 1 by simp] at ihc ⊢
            rw [show ((i + 1 : Nat) : Int) = (i : Int) + 1 by omega, hr] at ihc
            have hC1 : C w1 := by
              rw [HC'.out]
              intro a ha
              simp only [List.mem_cons, List.not_mem_nil, or_false] at ha
              subst ha
              exact hB1.cell hbl
            have IHC := Lib.hid ihc
            have HK1 := Lib.hid hk1
            clear ihc hk1 hown1 hg1 hob hs5 hA5 hz5
            simp only [Act.put, List.setIfInBounds_toArray]
            refine hK.out _ _ hC1 ?_
            clear hK K
            refine wpSch_done rfl (fun K hK => ?_)
            go_simp
            refine IHC.out.mono ?_
            rintro e' W' ⟨rfl, hkx', v2, hv2, hs2⟩
            have HS2 := Lib.hid hs2
            clear hs2
            refine hK.out _ _ (noPanic_mk ?_)
            clear hK K IHC hC1 hvb
            simp only [Option.isSome_some]
            go_wp2
            go_ret
            exact ⟨by rw [HSX.out]; rfl, (hkx.trans HK1.out).trans hkx', v2, hv2, fun s' hs' => HS2.out s' (by rw [HSX.out] at hs'; exact hs')⟩
      · obtain rfl : k = cnt := by omega
        have hle : ¬ (i : Int) ≤ (h.clips.length : Int) - M := by have := HM.out; omega
        have HF := Lib.hid (show h.lv (m + 1) out frm = none by rw [HLV.out, HN.out])
        have HI := Lib.hid hi
        clear hi
        go_wp2
        go_ret
        obtain ⟨v, hv⟩ := Lr.hf
        exact ⟨by rw [HF.out]; rfl, hkx, v, hv, fun s hs => by rw [HF.out] at hs; cases hs⟩
end Go.Proofs.Ytcngnfnljkkjgaa
namespace Go.Proofs.Ytcngnfnljkkjgaa
open Go.RowKit

def plainOp2 : Op → Bool
  | .pick .. => true
  | o => plainOp o
theorem plain_value2 {P : Program} {o : Oper} {ρ : Operand → Value} {w w' : World} {n : Next} (hp : plainOp2 o.op = true) (h : (execOp ρ o).run P w = .ok n w') : ∃ u, n = .value u := by
  by_cases h1 : plainOp o.op = true
  · exact plain_value h1 h
  · unfold execOp at h
    cases ho : o.op <;> rw [ho] at hp h h1 <;> first | (exact absurd hp h1) | skip
    all_goals first | exact value_of_bind h | (simp only [Sem.run_bind] at h; exact andThen_value (fun a w1 h1 => by simp at h1; exact ⟨_, h1.1.symm⟩) h)

section
variable {P : Program} {ops : Array Oper} {Q : Exit → Act → World → Prop} {md : Region.Mode} {S : World → Prop} {n : Nat}
theorem yieldsIf_of_in2 {o : Oper} {v : Value} {a : Act} (hp : plainOp2 o.op = true) (hy : YieldsIn P ops S o v a) : YieldsIf P ops S o v a := by
  refine hy.imp (fun ⟨hw, hv⟩ => ⟨hw, fun w hS => ?_⟩) id
  have h := hv w hS
  unfold Oper.quietAt at h
  cases hr : (execOp a.eval o).run P w with
  | ok x w' =>
    obtain ⟨u, rfl⟩ := plain_value2 hp hr
    rw [hr] at h
    obtain ⟨rfl, rfl⟩ := h
    rfl
  | halt x w' => rw [hr] at h; exact h.elim

inductive Sk where
  | done : Sk
  | one : Nat → Sk → Sk
  | qs : List Nat → Sk → Sk
def Sk.len : Sk → Nat
  | .done => 0
  | .one _ s => s.len + 1
  | .qs l s => l.length + s.len

/-- What has been met, as the bits of a number; what each operation waits for, as lists of numbers. -/
def bitsA (n m : Nat) : Array Bool := ((List.range n).map fun i => m.testBit i).toArray
theorem bitsA_size (n m : Nat) : (bitsA n m).size = n := by simp [bitsA]
theorem bitsA_get {n m i : Nat} {d : Bool} (h : i < n) : (bitsA n m).getD i d = m.testBit i := by
  rw [Array.getD_eq_getD_getElem?]
  simp [bitsA, h]
theorem bitsA_zero (n : Nat) : bitsA n 0 = Array.replicate n false := by
  apply Array.ext
  · simp [bitsA]
  · intro i h1 h2
    simp [bitsA]
theorem bitsA_set {n m k : Nat} : (bitsA n m).setIfInBounds k true = bitsA n (m ||| 2 ^ k) := by
  apply Array.ext
  · simp [bitsA]
  · intro i h1 h2
    have h3 : i < (bitsA n m).size := by simpa using h1
    rw [Array.getElem_setIfInBounds h3]
    simp only [bitsA, List.getElem_toArray, List.getElem_map, List.getElem_range, Nat.testBit_or, Nat.testBit_two_pow]
    by_cases hik : k = i
    · simp [hik]
    · simp [hik]
def tabOf (md : Region.Mode) (l : List Oper) : List (List Nat) := l.map fun o => (o.after.toList.filter (Region.binds md)).map fun e => e.on
def readyT (m : Nat) : Nat → List (List Nat) → List Nat
  | _, [] => []
  | i, es :: t => if !m.testBit i && es.all (fun k => m.testBit k) then i :: readyT m (i + 1) t else readyT m (i + 1) t
def inT (n : Nat) (t : List (List Nat)) : Bool := t.all fun es => es.all fun k => decide (k < n)

theorem all_filter_map {md : Region.Mode} (p : Nat → Bool) : ∀ l : List Edge, ((l.filter (Region.binds md)).map fun e => e.on).all p = l.all fun e => !Region.binds md e || p e.on
  | [] => rfl
  | e :: l => by
    rw [List.filter_cons, List.all_cons, ← all_filter_map p l]
    cases Region.binds md e <;> simp
theorem all_congr_mem {α : Type} {p q : α → Bool} : ∀ {l : List α}, (∀ x ∈ l, p x = q x) → l.all p = l.all q
  | [], _ => rfl
  | x :: l, h => by rw [List.all_cons, List.all_cons, h x (by simp), all_congr_mem fun y hy => h y (by simp [hy])]
theorem ready_from {md : Region.Mode} {n m : Nat} {ops : List Oper} : ∀ (l : List Oper) (i : Nat), i + l.length = n → (∀ j, l[j]? = ops[i + j]?) → inT n (tabOf md l) = true →
    (List.range' i l.length).filter (fun i => !(bitsA n m).getD i true && ((ops.toArray[i]?).map (·.after.all fun e => !Region.binds md e || (bitsA n m).getD e.on false)).getD false) = readyT m i (tabOf md l)
  | [], _, _, _, _ => rfl
  | o :: l, i, hi, hl, hT => by
    have hi' : i < n := by simp at hi; omega
    have h0 : ops[i]? = some o := by simpa using (hl 0).symm
    simp only [tabOf, List.map_cons, inT, List.all_cons, Bool.and_eq_true] at hT
    have hT1 : ∀ e ∈ o.after.toList, Region.binds md e = true → e.on < n := fun e he hb => by
      have h1 := hT.1
      rw [List.all_eq_true] at h1
      simpa using h1 e.on (List.mem_map.2 ⟨e, List.mem_filter.2 ⟨he, hb⟩, rfl⟩)
    have ih := ready_from (m := m) (ops := ops) l (i + 1) (by simp at hi; omega) (fun j => by have := hl (j + 1); simp only [List.getElem?_cons_succ] at this; rw [this]; congr 1; omega) hT.2
    rw [List.length_cons, List.range'_succ, List.filter_cons]
    simp only [tabOf, List.map_cons, readyT]
    have hc : (!(bitsA n m).getD i true && ((ops.toArray[i]?).map (·.after.all fun e => !Region.binds md e || (bitsA n m).getD e.on false)).getD false) = (!m.testBit i && ((o.after.toList.filter (Region.binds md)).map fun e => e.on).all fun k => m.testBit k) := by
      rw [bitsA_get hi', all_filter_map]
      simp only [List.getElem?_toArray, h0, Option.map_some, Option.getD_some]
      congr 1
      rw [← Array.all_toList]
      refine all_congr_mem fun e he => ?_
      cases hb : Region.binds md e
      · rfl
      · rw [bitsA_get (hT1 e he hb)]
    rw [hc]
    unfold tabOf at ih
    rw [ih]
theorem ready_bits {md : Region.Mode} {m : Nat} (l : List Oper) (hT : inT l.length (tabOf md l) = true) : Region.ready md l.toArray (bitsA l.length m) = readyT m 0 (tabOf md l) := by
  have := ready_from (md := md) (m := m) (ops := l) l 0 (Nat.zero_add _) (fun j => by rw [Nat.zero_add]) hT
  rw [← this]
  unfold Region.ready
  rw [List.size_toArray, List.range_eq_range']

def permT (ops : List Oper) (tab : List (List Nat)) (n : Nat) (c : Nat → Bool) : List Nat → Nat → Bool
  | [], m => c m
  | k :: l, m => (decide (readyT m 0 tab = [k]) || ((readyT m 0 tab).contains k && Region.free .any ops.toArray (bitsA ops.length m) k)) && (decide (k < n) && ((match ops[k]? with | some o => plainOp2 o.op | none => false) && permT ops tab n c l (m ||| 2 ^ k)))
def skT (ops : List Oper) (tab : List (List Nat)) (n : Nat) : Sk → Nat → Bool
  | .done, m => decide (readyT m 0 tab = [n]) && decide (readyT (m ||| 2 ^ n) 0 tab = [])
  | .one k s, m => decide (readyT m 0 tab = [k]) && (decide (k < n) && skT ops tab n s (m ||| 2 ^ k))
  | .qs l s, m => permT ops tab n (skT ops tab n s) l m
def wpSk (P : Program) (ops : Array Oper) (Q : Exit → Act → World → Prop) (S : World → Prop) (n : Nat) : Sk → Act → World → Prop
  | .done, a, w => wpOp P ops Q n (Q .normal) a w
  | .one k s, a, w => wpOp P ops Q k (fun a' w' => S w' ∧ wpSk P ops Q S n s a' w') a w
  | .qs l s, a, w => wpQuiet P ops S (fun a' => wpSk P ops Q S n s a' w) (l.filterMap fun i => ops[i]?) a
end

section
variable {P : Program} {ops : List Oper} {Q : Exit → Act → World → Prop} {S : World → Prop} {n : Nat}
theorem wpT_permT {w : World} {f : Nat} {c : Nat → Bool} {K : Act → Prop} (hT : inT ops.length (tabOf .any ops) = true) (hsel : Region.noSelect ops.toArray = true) (hQ : ∀ c a d v w, Q (.panic c) (Act.put a d v) w → Q (.panic c) a w) (hs : Region.sinkB .any ops.toArray n = true) (hc : Region.chainB .any ops.toArray n = true) (hn : n < ops.length) (hS : S w)
    (hK : ∀ m a, HeadInv .any ops.toArray n (bitsA ops.length m) → c m = true → K a → wpT P .any ops.toArray Q S n f (bitsA ops.length m) a w) :
    ∀ (pre : List Nat) (m : Nat) (a : Act), HeadInv .any ops.toArray n (bitsA ops.length m) → permT ops (tabOf .any ops) n c pre m = true →
      wpQuiet P ops.toArray S K (pre.filterMap fun i => ops.toArray[i]?) a → wpT P .any ops.toArray Q S n (pre.length + f) (bitsA ops.length m) a w
  | [], m, a, inv, hB, h => by
    rw [List.length_nil, Nat.zero_add]
    exact hK m a inv hB h
  | k :: l, m, a, inv, hB, h => by
    simp only [permT, Bool.and_eq_true, decide_eq_true_eq, Bool.or_eq_true] at hB
    obtain ⟨hor, hkn, hp, hB'⟩ := hB
    rw [← ready_bits _ hT] at hor
    have hr' : k ∈ Region.ready .any ops.toArray (bitsA ops.length m) := by
      rcases hor with h1 | h1
      · rw [h1]; simp
      · simpa using h1.1
    obtain ⟨_, o, ho, _⟩ := mem_ready.1 hr'
    have ho' : ops[k]? = some o := by simpa using ho
    rw [ho'] at hp
    rw [List.filterMap_cons, ho] at h
    have hst : qOp P ops.toArray S k (wpQuiet P ops.toArray S K (l.filterMap fun i => ops.toArray[i]?)) a := by unfold qOp; simp only [ho]; exact h
    obtain ⟨v, hy, hK'⟩ := yieldsIn_of_qOp ho hst
    have hinv := inv.set hr' hkn
    rw [bitsA_set] at hinv
    have ih := wpT_permT hT hsel hQ hs hc hn hS hK l _ _ hinv hB' hK'
    rw [← bitsA_set] at ih
    rw [List.length_cons, Nat.add_right_comm]
    have hyi := yieldsIf_of_in2 hp hy
    rcases hor with h1 | h1
    · refine ⟨by rw [h1]; simp, fun i hi => ?_⟩
      rw [h1] at hi
      have hik : i = k := by simpa using hi
      subst hik
      exact ⟨hkn, hyi.wpOp ho hS ⟨hS, ih⟩⟩
    · exact wpT_first ho (Region.noSelect_spec hsel) (fun c a w => hQ c a _ v w) hs hc (by simpa using hn) hkn _ _ a w inv (Region.free_spec ho h1.2) hr' hyi hS ih

theorem wpT_sk (hT : inT ops.length (tabOf .any ops) = true) (hsel : Region.noSelect ops.toArray = true) (hQ : ∀ c a d v w, Q (.panic c) (Act.put a d v) w → Q (.panic c) a w) (hs : Region.sinkB .any ops.toArray n = true) (hc : Region.chainB .any ops.toArray n = true) (hn : n < ops.length) :
    ∀ (s : Sk) (m : Nat) (a : Act) (w : World), HeadInv .any ops.toArray n (bitsA ops.length m) → S w → skT ops (tabOf .any ops) n s m = true → wpSk P ops.toArray Q S n s a w → wpT P .any ops.toArray Q S n s.len (bitsA ops.length m) a w
  | .done, m, a, w, _, _, hB, h => by
    simp only [skT, Bool.and_eq_true, decide_eq_true_eq] at hB
    rw [← ready_bits _ hT, ← ready_bits _ hT] at hB
    refine ⟨hB.1, ?_, h⟩
    rw [bitsA_set]
    exact hB.2
  | .one k s, m, a, w, inv, _, hB, h => by
    simp only [skT, Bool.and_eq_true, decide_eq_true_eq] at hB
    obtain ⟨h1, h2, h3⟩ := hB
    rw [← ready_bits _ hT] at h1
    refine ⟨by rw [h1]; simp, fun i hi => ?_⟩
    have hi' := hi
    rw [h1] at hi
    have hik : i = k := by simpa using hi
    subst hik
    have hinv := inv.set hi' h2
    rw [bitsA_set] at hinv ⊢
    exact ⟨h2, wpOp_mono (fun a' w' h' => ⟨h'.1, wpT_sk hT hsel hQ hs hc hn s _ a' w' hinv h'.1 h3 h'.2⟩) h⟩
  | .qs l s, m, a, w, inv, hS, hB, h =>
    wpT_permT hT hsel hQ hs hc hn hS (fun m a inv hB h => wpT_sk hT hsel hQ hs hc hn s m a w inv hS hB h) l m a inv hB h

def regionK (ops : List Oper) (tab : List (List Nat)) (s : Sk) (n : Nat) : Bool :=
  Region.noSelect ops.toArray && (Region.sinkB .any ops.toArray n && (Region.chainB .any ops.toArray n && (decide (s.len + 1 = tab.length) && (decide (n < tab.length) && (inT tab.length tab && skT ops tab n s 0)))))

theorem region_sk {id : Nat} {l : List Oper} {a : Act} {w : World} (C : World → Prop) (tab : List (List Nat)) (s : Sk) (n : Nat) (hm : P.follows .mixedOrders = true) (htab : tabOf .any l = tab) (hB : regionK l tab s n = true) (hC : C w.drew)
    (h : wpSk P l.toArray (NoPanic Q) C n s a w.drew) : (Code.region id l.toArray true).wp P Q a w := by
  subst htab
  have hlen : (tabOf .any l).length = l.length := by simp [tabOf]
  simp only [regionK, Bool.and_eq_true, decide_eq_true_eq, hlen] at hB
  obtain ⟨h1, h2, h3, h4, h5, hT, h6⟩ := hB
  have inv0 : HeadInv .any l.toArray n (Array.replicate l.toArray.size false) :=
    ⟨by simp, fun j oj _ hl => (by rw [getD_replicate_false] at hl; cases hl), fun t _ ht => getD_in (by simpa using ht) (getD_replicate_false _ _)⟩
  rw [List.size_toArray, ← bitsA_zero] at inv0
  have := wpAny_of_T _ _ _ _ (wpT_sk (Q := NoPanic Q) hT h1 (fun _ _ _ _ _ h => h) h2 h3 h5 s 0 a w.drew inv0 hC h6 h)
  rw [h4, bitsA_zero] at this
  refine wp_region_noPanic (wp_region_any hm ?_)
  rw [List.size_toArray]
  exact this
end

section
variable {P : Program} {ops : Array Oper} {Q : Exit → Act → World → Prop} {S : World → Prop} {n : Nat}
theorem wpSk_one {k : Nat} {s : Sk} {a : Act} {w : World} {o : Oper} (ho : ops[k]? = some o)
    (h : ∀ K : Act → World → Prop, Hid (∀ a w, S w → wpSk P ops Q S n s a w → K a w) → if Region.wanted o (yielded ops a.tmps) = true then Oper.wp P o a w K Q else K (a.put o.dst undef) w) : wpSk P ops Q S n (.one k s) a w :=
  wpOp_step ho (fun K hK => h K (Lib.hid fun a w hS hT => hK a w ⟨hS, hT⟩))
theorem wpSk_done {a : Act} {w : World} {o : Oper} (ho : ops[n]? = some o)
    (h : ∀ K : Act → World → Prop, Hid (∀ a w, Q .normal a w → K a w) → if Region.wanted o (yielded ops a.tmps) = true then Oper.wp P o a w K Q else K (a.put o.dst undef) w) : wpSk P ops Q S n .done a w :=
  wpOp_step ho (fun K hK => h K (Lib.hid hK))
theorem wpSk_qs {C : World → Prop} {l : List Nat} {s : Sk} {a : Act} {w w0 : World} (hC : C w0)
    (h : wpQuiet P ops (fun w' => ∃ x, w' = held C w0 x) (fun a' => wpSk P ops Q C n s a' w) (l.filterMap fun i => ops[i]?) a) : wpSk P ops Q C n (.qs l s) a w := by
  rw [held_eq hC] at h
  exact h
end
end Go.Proofs.Ytcngnfnljkkjgaa
