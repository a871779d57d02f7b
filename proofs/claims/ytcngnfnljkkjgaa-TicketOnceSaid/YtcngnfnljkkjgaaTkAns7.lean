/-
Whether errors are a truth; the first wrong clip.
-/
import Derived.Test.YtcngnfnljkkjgaaTkAns6
namespace Go.Proofs.Ytcngnfnljkkjgaa
open Go.RowKit
attribute [local go_sem] cell_later frozen_later lt_later le_later

def Hs.proveB (h : Hs) (l : List Int) : Bool := decide (h.fault = 0) && (areErrB h l && h.risingB l [])

set_option maxHeartbeats 1000000 in
theorem prove_calls (v : Value) (h : Hs) (A : Option Addr) (c : Nat) (l : List Int) (w : World) (H : HsAt w v h) (HL : SlA w 1 gI A c l) :
    Calls Try.prog 69 #[v, .slice A l.length c] w (Ret (.bool (h.proveB l)) w) := by
  have H0 := H
  obtain ⟨A2, c2, A3, c3, A4, c4, rfl, H2, H3, H4⟩ := H
  by_cases hf : h.fault = 0
  · have hf1 : (h.fault != 0) = false := by simp [hf]
    have HF := Lib.hid hf
    have hn : h.clocks.length ≤ 4 := (small_iff.1 (fault_zero hf).1).1
    have hp : h.clips.length ≤ 1000 := by have := (small_iff.1 (fault_zero hf).1).2.2; omega
    clear hf
    by_cases ha : areErrB h l = true
    · have HC := Lib.hid (clipsOk_of HF.out)
      have HE := Lib.hid (areErr_ok HF.out ha)
      have HP := Lib.hid (show h.proveB l = h.risingB l [] by simp [Hs.proveB, HF.out, ha])
      go_enter Try.func69, Try.ntmps69
      go_wp2_with (first
        | (go_at_call 70; refine (check_calls _ h _ ?hh).mono ?_; (case hh => exact H0.below (by repeat (first | exact Below.refl _ _ | (with_reducible assumption) | apply gL | apply gA | apply gD | apply gN | (refine gS ?_ (by first | (simp; done) | (simp; omega) | omega))))); (rintro e w' hr; first | ((with_reducible replace hr := Ret.up hr); obtain ⟨rfl, z, rfl⟩ := hr) | (obtain ⟨rfl, z, rfl⟩ := hr)))
        | (go_at_call 107; refine (listed_calls _ h _ _ l _ ?hh ?hs hn).mono ?_; (case hh => exact H0.below (by repeat (first | exact Below.refl _ _ | (with_reducible assumption) | apply gL | apply gA | apply gD | apply gN | (refine gS ?_ (by first | (simp; done) | (simp; omega) | omega))))); (case hs => exact HL.below (by repeat (first | exact Below.refl _ _ | (with_reducible assumption) | apply gL | apply gA | apply gD | apply gN | (refine gS ?_ (by first | (simp; done) | (simp; omega) | omega))))); (rintro e w' hr; (first | (with_reducible replace hr := RetListed.up hr) | skip); obtain ⟨a0, a1, a2, a3, h4, rfl, z, rfl⟩ := hr); have HE4 := Lib.hid (h4 ha); clear h4)
        | (go_at_call 111; refine (rising_calls4 _ h l HE4 none 0 [] _ ?hh (SlA.nil _ _ _ _) HE.out HC.out hp).mono ?_; (case hh => exact H0.below (by repeat (first | exact Below.refl _ _ | (with_reducible assumption) | apply gL | apply gA | apply gD | apply gN | (refine gS ?_ (by first | (simp; done) | (simp; omega) | omega))))); (rintro e w' hr; first | ((with_reducible replace hr := Ret.up hr); obtain ⟨rfl, z, rfl⟩ := hr) | (obtain ⟨rfl, z, rfl⟩ := hr))))
      go_ret
      exact ret_mk (ret_bool HP.out.symm) (by repeat (first | exact Below.refl _ _ | (with_reducible assumption) | apply gL | apply gA | apply gD | apply gN | (refine gS ?_ (by first | (simp; done) | (simp; omega) | omega))))
    · have ha : areErrB h l = false := by simpa using ha
      have HP := Lib.hid (show h.proveB l = false by simp [Hs.proveB, ha])
      go_enter Try.func69, Try.ntmps69
      go_wp2_with (first
        | (go_at_call 70; refine (check_calls _ h _ ?hh).mono ?_; (case hh => exact H0.below (by repeat (first | exact Below.refl _ _ | (with_reducible assumption) | apply gL | apply gA | apply gD | apply gN | (refine gS ?_ (by first | (simp; done) | (simp; omega) | omega))))); (rintro e w' hr; first | ((with_reducible replace hr := Ret.up hr); obtain ⟨rfl, z, rfl⟩ := hr) | (obtain ⟨rfl, z, rfl⟩ := hr)))
        | (go_at_call 107; refine (listed_calls _ h _ _ l _ ?hh ?hs hn).mono ?_; (case hh => exact H0.below (by repeat (first | exact Below.refl _ _ | (with_reducible assumption) | apply gL | apply gA | apply gD | apply gN | (refine gS ?_ (by first | (simp; done) | (simp; omega) | omega))))); (case hs => exact HL.below (by repeat (first | exact Below.refl _ _ | (with_reducible assumption) | apply gL | apply gA | apply gD | apply gN | (refine gS ?_ (by first | (simp; done) | (simp; omega) | omega))))); (rintro e w' hr; (first | (with_reducible replace hr := RetListed.up hr) | skip); obtain ⟨a0, a1, a2, a3, h4, rfl, z, rfl⟩ := hr); clear h4))
      go_ret
      exact ret_mk (ret_bool HP.out.symm) (by repeat (first | exact Below.refl _ _ | (with_reducible assumption) | apply gL | apply gA | apply gD | apply gN | (refine gS ?_ (by first | (simp; done) | (simp; omega) | omega))))
  · have hf1 : (h.fault != 0) = true := by simpa using hf
    have HP := Lib.hid (show h.proveB l = false by simp [Hs.proveB, hf])
    clear hf
    go_enter Try.func69, Try.ntmps69
    go_wp2_with (first
      | (go_at_call 70; refine (check_calls _ h _ ?hh).mono ?_; (case hh => exact H0.below (by repeat (first | exact Below.refl _ _ | (with_reducible assumption) | apply gL | apply gA | apply gD | apply gN | (refine gS ?_ (by first | (simp; done) | (simp; omega) | omega))))); (rintro e w' hr; first | ((with_reducible replace hr := Ret.up hr); obtain ⟨rfl, z, rfl⟩ := hr) | (obtain ⟨rfl, z, rfl⟩ := hr))))
    go_ret
    exact ret_mk (ret_bool HP.out.symm) (by repeat (first | exact Below.refl _ _ | (with_reducible assumption) | apply gL | apply gA | apply gD | apply gN | (refine gS ?_ (by first | (simp; done) | (simp; omega) | omega))))

def Hs.upto (h : Hs) (k : Nat) : Hs := { h with clips := h.clips.take k }
def Hs.goodAt (h : Hs) (k : Nat) : Bool := (h.upto (k + 1)).canB []
def Hs.firstO (h : Hs) : Option Nat := (List.range h.clips.length).find? fun k => !h.goodAt k
def Hs.firstE (h : Hs) : Int := if h.fault ≠ 0 then h.fault else match h.firstO with
  | some _ => 0
  | none => 7
def Hs.firstV (h : Hs) : Int := if h.fault ≠ 0 then 0 else match h.firstO with
  | some k => k
  | none => 0
theorem SlA.take {α : Type} {w : World} {k : Nat} {g : α → List Value} {A : Option Addr} {c : Nat} {l : List α} (h : SlA w k g A c l) (n : Nat) : SlA w k g A c (l.take n) := by
  have hl : (l.take n).length ≤ l.length := by simp; omega
  refine ⟨Nat.le_trans hl h.1, Nat.le_trans hl h.2.1, fun hne => ?_⟩
  obtain ⟨b, off, e, hlt, hc⟩ := h.2.2 (fun hh => hne (by simp [hh]))
  exact ⟨b, off, e, hlt, fun i x hx j u hu => hc i x (by
    rw [List.getElem?_take] at hx
    split at hx
    · exact hx
    · cases hx) j u hu⟩
theorem find_first {p : Nat → Bool} {n k : Nat} (hk : k < n) (h1 : (List.range k).all p = true) (h2 : p k = false) : (List.range n).find? (fun j => !p j) = some k := by
  rw [List.find?_range_eq_some]
  refine ⟨by simp [h2], List.mem_range.2 hk, fun j hj => ?_⟩
  have := List.all_eq_true.1 h1 j (List.mem_range.2 hj)
  simp [this]
theorem find_none {p : Nat → Bool} {n : Nat} (h1 : (List.range n).all p = true) : (List.range n).find? (fun j => !p j) = none := by
  rw [List.find?_eq_none]
  intro j hj
  have := List.all_eq_true.1 h1 j hj
  simp [this]

set_option maxHeartbeats 2000000 in
theorem first_calls (v : Value) (h : Hs) (w : World) (H : HsAt w v h) :
    Calls Try.prog 44 #[v] w (Ret (.tuple #[.int .i64 h.firstV, .int .i64 h.firstE]) w) := by
  have H0 := H
  obtain ⟨A2, c2, A3, c3, A4, c4, rfl, H2, H3, H4⟩ := H
  by_cases hf : h.fault = 0
  · have hf1 : (h.fault != 0) = false := by simp [hf]
    have HF := Lib.hid hf
    have hn : h.clocks.length ≤ 4 := (small_iff.1 (fault_zero hf).1).1
    have hp : h.clips.length ≤ 10 := (small_iff.1 (fault_zero hf).1).2.2
    have HC := Lib.hid (clipsOk_of hf)
    have HR := Lib.hid (fun r hr => fault_clock hf (r := r) hr)
    clear hf
    go_enter Try.func44, Try.ntmps44
    go_wp2_with (first
      | (go_at_call 70; refine (check_calls _ h _ ?hh).mono ?_; (case hh => exact H0.below (by repeat (first | exact Below.refl _ _ | (with_reducible assumption) | apply gL | apply gA | apply gD | apply gN | (refine gS ?_ (by first | (simp; done) | (simp; omega) | omega))))); (rintro e w' hr; first | ((with_reducible replace hr := Ret.up hr); obtain ⟨rfl, z, rfl⟩ := hr) | (obtain ⟨rfl, z, rfl⟩ := hr))))
    obtain ⟨W1, hW1⟩ : ∃ W1, W1 = (later (w.alloc (.cells #[.int .i64 h.hour, .int .i64 h.grace, .slice A2 h.clocks.length c2, .slice A3 h.tickets.length c3, .slice A4 h.clips.length c4] 36)) z).alloc (.cells #[.int .i64 h.hour, .int .i64 h.grace, .slice A2 h.clocks.length c2, .slice A3 h.tickets.length c3, .slice A4 h.clips.length c4] 36) := ⟨_, rfl⟩
    obtain ⟨b5, hb5⟩ : ∃ b, b = (later (w.alloc (.cells #[.int .i64 h.hour, .int .i64 h.grace, .slice A2 h.clocks.length c2, .slice A3 h.tickets.length c3, .slice A4 h.clips.length c4] 36)) z).heap.size := ⟨_, rfl⟩
    have hb1 : Below w.heap.size w W1 := by rw [hW1]; exact (by repeat (first | exact Below.refl _ _ | (with_reducible assumption) | apply gL | apply gA | apply gD | apply gN | (refine gS ?_ (by first | (simp; done) | (simp; omega) | omega))))
    have hB5 : BlkAt W1 b5 36 [.int .i64 h.hour, .int .i64 h.grace, .slice A2 h.clocks.length c2, .slice A3 h.tickets.length c3, .slice A4 h.clips.length c4] := by rw [hW1, hb5]; exact BlkAt.new _ _ _
    have q4 : W1.cell? ⟨w.heap.size, 4, none⟩ = some (.slice A4 h.clips.length c4) := by rw [hW1]; simp [go_sem]
    have hlb : w.heap.size < b5 := by
      have := size_later (w.alloc (.cells #[.int .i64 h.hour, .int .i64 h.grace, .slice A2 h.clocks.length c2, .slice A3 h.tickets.length c3, .slice A4 h.clips.length c4] 36)) z
      rw [hb5]
      simp at this ⊢
      omega
    rw [← hW1, ← hb5]
    clear hW1 hb5
    go_loopw [16] (fun i wr => ∃ k : Nat, k ≤ h.clips.length ∧ i = .int .i64 k ∧ (List.range k).all h.goodAt = true ∧ KeepX b5 W1 wr ∧ ∃ sv, BlkAt wr b5 36 [.int .i64 h.hour, .int .i64 h.grace, .slice A2 h.clocks.length c2, .slice A3 h.tickets.length c3, sv]) (fun i _ => h.clips.length - (intOf i).toNat)
    case atStart => exact ⟨0, Nat.zero_le _, rfl, rfl, KeepX.refl _ _, _, hB5⟩
    case round =>
      obtain ⟨k, hk, rfl, hall, hkx, sv, hBk⟩ := hrel
      have HALL := Lib.hid hall
      clear hall
      have hbwr : Below w.heap.size w wr := hkx.low hb1 (by omega) hb1.size
      by_cases hlt : k < h.clips.length
      · have hlt1 : (k : Int) < (h.clips.length : Int) := by omega
        have hk0 : (0 : Int) ≤ (k : Int) := Int.natCast_nonneg _
        obtain ⟨b, off, x, rfl, -, -, -⟩ := H4.atC hlt
        have hcap := H4.1
        have hcap1 : (k : Int) + 1 ≤ (c4 : Int) := by omega
        have d4 := hkx.cell q4 (by show w.heap.size ≠ b5; omega)
        have z0 := hBk.cell 0
        have z1 := hBk.cell 1
        have z2 := hBk.cell 2
        have z3 := hBk.cell 3
        have z4 := hBk.cell 4
        have zf := hBk.frozen 4
        simp only [List.getElem?_cons_zero, List.getElem?_cons_succ] at z0 z1 z2 z3 z4
        obtain ⟨W2, hW2⟩ : ∃ W2, W2 = wr.setCell ⟨b5, 4, none⟩ (.slice (some ⟨b, off, none⟩) (k + 1) c4) := ⟨_, rfl⟩
        have hb2 : Below w.heap.size w W2 := by rw [hW2]; exact gS hbwr (by simp; omega)
        have hB2 := hBk.set_ 4 (.slice (some ⟨b, off, none⟩) (k + 1) c4)
        rw [← hW2] at hB2
        have hkx2 : KeepX b5 W1 W2 := by rw [hW2]; exact hkx.trans (KeepX.set_ _ _ _)
        have hlen : (h.clips.take (k + 1)).length = k + 1 := by simp; omega
        have hpo := possible_calls (.agg #[.int .i64 h.hour, .int .i64 h.grace, .slice A2 h.clocks.length c2, .slice A3 h.tickets.length c3, .slice (some ⟨b, off, none⟩) (k + 1) c4]) (h.upto (k + 1)) none 0 [] W2
          (by
            refine ⟨A2, c2, A3, c3, some ⟨b, off, none⟩, c4, ?_, H2.below hb2, H3.below hb2, (H4.take (k + 1)).below hb2⟩
            show _ = Value.agg #[.int .i64 h.hour, .int .i64 h.grace, .slice A2 h.clocks.length c2, .slice A3 h.tickets.length c3, .slice (some ⟨b, off, none⟩) (h.clips.take (k + 1)).length c4]
            rw [hlen]) (SlA.nil _ _ _ _) hn HR.out (fun c hc => HC.out c (List.mem_of_mem_take hc)) (by show (h.clips.take (k + 1)).length ≤ 1000; omega)
        have HPO := Lib.hid hpo
        have HW2 := Lib.hid hW2
        clear hpo hlen hW2
        have hd4 := World.block_lt_of_cell? wr _ d4
        simp only at hd4
        by_cases hgd : h.goodAt k = true
        · go_wp2_with (first | (go_at_call 100; rw [← HW2.out]; refine HPO.out.mono ?_; rw [show (h.upto (k + 1)).canB [] = true from hgd]; (rintro e w' hr; first | ((with_reducible replace hr := Ret.up hr); obtain ⟨rfl, z, rfl⟩ := hr) | (obtain ⟨rfl, z, rfl⟩ := hr))))
          go_roundw
          case rel => exact ⟨k + 1, by omega, by go_num, all_range_snoc HALL.out hgd, hkx2.trans (KeepX.of_below (below_later _ _)), _, hB2.later⟩
          case measure => simp [intOf]; omega
        · have hgd : h.goodAt k = false := by simpa using hgd
          have hfo := find_first hlt HALL.out hgd
          have HE := Lib.hid (show h.firstE = 0 by rw [Hs.firstE, if_neg (by simp [HF.out]), Hs.firstO, hfo])
          have HV := Lib.hid (show h.firstV = k by rw [Hs.firstV, if_neg (by simp [HF.out]), Hs.firstO, hfo])
          clear hfo
          go_wp2_with (first | (go_at_call 100; rw [← HW2.out]; refine HPO.out.mono ?_; rw [show (h.upto (k + 1)).canB [] = false from hgd]; (rintro e w' hr; first | ((with_reducible replace hr := Ret.up hr); obtain ⟨rfl, z, rfl⟩ := hr) | (obtain ⟨rfl, z, rfl⟩ := hr))))
          go_ret2
          exact ret_mk (by rw [HE.out, HV.out]; rfl) (hb2.trans (below_mono_of hb2 (by repeat (first | exact Below.refl _ _ | (with_reducible assumption) | apply gL | apply gA | apply gD | apply gN | (refine gS ?_ (by first | (simp; done) | (simp; omega) | omega))))))
      · obtain rfl : k = h.clips.length := by omega
        have hfo := find_none HALL.out
        have HE := Lib.hid (show h.firstE = 7 by rw [Hs.firstE, if_neg (by simp [HF.out]), Hs.firstO, hfo])
        have HV := Lib.hid (show h.firstV = 0 by rw [Hs.firstV, if_neg (by simp [HF.out]), Hs.firstO, hfo])
        clear hfo
        go_wp2
        go_ret2
        exact ret_mk (by rw [HE.out, HV.out]; rfl) hbwr
  · have hf1 : (h.fault != 0) = true := by simpa using hf
    have HE := Lib.hid (show h.firstE = h.fault by simp [Hs.firstE, hf])
    have HV := Lib.hid (show h.firstV = 0 by simp [Hs.firstV, hf])
    clear hf
    go_enter Try.func44, Try.ntmps44
    go_wp2_with (first
      | (go_at_call 70; refine (check_calls _ h _ ?hh).mono ?_; (case hh => exact H0.below (by repeat (first | exact Below.refl _ _ | (with_reducible assumption) | apply gL | apply gA | apply gD | apply gN | (refine gS ?_ (by first | (simp; done) | (simp; omega) | omega))))); (rintro e w' hr; first | ((with_reducible replace hr := Ret.up hr); obtain ⟨rfl, z, rfl⟩ := hr) | (obtain ⟨rfl, z, rfl⟩ := hr))))
    go_ret2
    exact ret_mk (by rw [HE.out, HV.out]; rfl) (by repeat (first | exact Below.refl _ _ | (with_reducible assumption) | apply gL | apply gA | apply gD | apply gN | (refine gS ?_ (by first | (simp; done) | (simp; omega) | omega))))
end Go.Proofs.Ytcngnfnljkkjgaa
