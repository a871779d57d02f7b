/-
The smallest set of clips that can be left out.
-/
import Derived.Test.YtcngnfnljkkjgaaTkLeave2
import Derived.WalkMore
namespace Go.Proofs.Ytcngnfnljkkjgaa
open Go.RowKit
attribute [local go_sem] cell_later frozen_later lt_later le_later

def Hs.leaveO (h : Hs) : Option (List Int) := (List.range' 0 (h.clips.length + 1)).findSome? fun m => h.lv m [] 0
def Hs.leaveL (h : Hs) : List Int := if h.fault = 0 then h.leaveO.getD [] else []

theorem nondec_nil : nondec [] = true := rfl
/-- All clips can be left out. -/
theorem canB_all {h : Hs} (hr : ∀ r ∈ h.clocks, r.lo ≤ r.hi) {out : List Int} (ho : ∀ i : Nat, i < h.clips.length → (i : Int) ∈ out) : h.canB out = true := by
  have hk : ∀ e, keptM e out h.clips = [] := by
    intro e
    unfold keptM
    rw [List.map_eq_nil_iff, List.filter_eq_nil_iff]
    rintro ⟨c, i⟩ hc
    have hi : i < h.clips.length := by have := List.snd_lt_of_mem_zipIdx hc; omega
    have := ho i hi
    simp [this]
  have hne : prods h.clocks ≠ [] := by
    have : (h.clocks.map fun r => r.lo) ∈ prods h.clocks := by
      rw [mem_prods hr]
      refine ⟨by simp, fun i hi r hx => ?_⟩
      have h1 := hr r (List.mem_of_getElem? hx)
      rw [List.getD_eq_getElem?_getD, List.getElem?_map, hx]
      simpa using h1
    intro hh
    rw [hh] at this
    cases this
  obtain ⟨e, l, he⟩ := List.exists_cons_of_ne_nil hne
  rw [Hs.canB, List.any_eq_true]
  exact ⟨e, by rw [he]; simp, by rw [Hs.risingB, hk]; rfl⟩
theorem lv_all {h : Hs} (hr : ∀ r ∈ h.clocks, r.lo ≤ r.hi) : ∀ (m frm : Nat) (out : List Int), m + frm = h.clips.length → (∀ i : Nat, i < frm → (i : Int) ∈ out) → (h.lv m out frm).isSome = true
  | 0, frm, out, hm, ho => by
    have : h.canB out = true := canB_all hr (fun i hi => ho i (by omega))
    simp [Hs.lv, this]
  | m + 1, frm, out, hm, ho => by
    have h1 : h.clips.length - m - frm = 1 := by omega
    have ih := lv_all hr m (frm + 1) (out ++ [(frm : Int)]) (by omega) (fun i hi => by
      rcases Nat.lt_or_ge i frm with h2 | h2
      · exact List.mem_append_left _ (ho i h2)
      · have : i = frm := by omega
        subst this
        simp)
    show ((List.range' frm (h.clips.length - m - frm)).findSome? fun (i : Nat) => h.lv m (out ++ [(i : Int)]) (i + 1)).isSome = true
    rw [h1]
    simpa using ih
theorem leaveO_some {h : Hs} (hr : ∀ r ∈ h.clocks, r.lo ≤ r.hi) : ∃ s, h.leaveO = some s := by
  cases ho : h.leaveO with
  | some s => exact ⟨s, rfl⟩
  | none =>
    rw [Hs.leaveO, List.findSome?_eq_none_iff] at ho
    have h1 := ho h.clips.length (by simp)
    have h2 := lv_all hr h.clips.length 0 [] (by omega) (fun i hi => by omega)
    rw [h1] at h2
    cases h2

set_option maxHeartbeats 2000000 in
theorem leave_calls (v : Value) (h : Hs) (w : World) (H : HsAt w v h) :
    Calls Try.prog 45 #[v] w (RetSlN 1 gI h.leaveL h.fault w) := by
  have H0 := H
  obtain ⟨A2, c2, A3, c3, A4, c4, rfl, H2, H3, H4⟩ := H
  by_cases hf : h.fault = 0
  · have hf1 : (h.fault != 0) = false := by simp [hf]
    have HF := Lib.hid hf
    have hp : h.clips.length ≤ 10 := (small_iff.1 (fault_zero hf).1).2.2
    obtain ⟨s0, hs0⟩ := leaveO_some (h := h) (fun r hr => (fault_clock hf hr).2.1)
    have HS0 := Lib.hid hs0
    have HL := Lib.hid (show h.leaveL = s0 by rw [Hs.leaveL, if_pos hf, hs0]; rfl)
    clear hf hs0
    go_enter Try.func45, Try.ntmps45
    go_wp2
    go_step3
    go_wp2_with (first
      | (go_at_call 70; refine (check_calls _ h _ ?hh).mono ?_; (case hh => exact H0.below (by repeat (first | exact Below.refl _ _ | (with_reducible assumption) | apply gL | apply gA | apply gD | apply gN | (refine gS ?_ (by first | (simp; done) | (simp; omega) | omega))))); (rintro e w' hr; first | ((with_reducible replace hr := Ret.up hr); obtain ⟨rfl, z, rfl⟩ := hr) | (obtain ⟨rfl, z, rfl⟩ := hr))))
    obtain ⟨bf, hbf⟩ : ∃ b, b = (later (w.alloc (.cells #[.int .i64 h.hour, .int .i64 h.grace, .slice A2 h.clocks.length c2, .slice A3 h.tickets.length c3, .slice A4 h.clips.length c4] 36)) z).heap.size := ⟨_, rfl⟩
    obtain ⟨W1, hW1⟩ : ∃ W1, W1 = ((later (w.alloc (.cells #[.int .i64 h.hour, .int .i64 h.grace, .slice A2 h.clocks.length c2, .slice A3 h.tickets.length c3, .slice A4 h.clips.length c4] 36)) z).alloc (.cells #[.slice none 0 0] 47)).alloc (.cells #[lvFn (later (w.alloc (.cells #[.int .i64 h.hour, .int .i64 h.grace, .slice A2 h.clocks.length c2, .slice A3 h.tickets.length c3, .slice A4 h.clips.length c4] 36)) z).heap.size w.heap.size ((later (w.alloc (.cells #[.int .i64 h.hour, .int .i64 h.grace, .slice A2 h.clocks.length c2, .slice A3 h.tickets.length c3, .slice A4 h.clips.length c4] 36)) z).heap.size + 1)] 134) := ⟨_, rfl⟩
    have hb1 : Below w.heap.size w W1 := by rw [hW1]; exact (by repeat (first | exact Below.refl _ _ | (with_reducible assumption) | apply gL | apply gA | apply gD | apply gN | (refine gS ?_ (by first | (simp; done) | (simp; omega) | omega))))
    have hlb : w.heap.size < bf := by
      have := size_later (w.alloc (.cells #[.int .i64 h.hour, .int .i64 h.grace, .slice A2 h.clocks.length c2, .slice A3 h.tickets.length c3, .slice A4 h.clips.length c4] 36)) z
      rw [hbf]
      simp at this ⊢
      omega
    have hBf : BlkAt W1 bf 47 [.slice none 0 0] := by rw [hW1, hbf]; exact (BlkAt.new _ _ _).alloc _
    have hBl : BlkAt W1 (bf + 1) 134 [lvFn bf w.heap.size (bf + 1)] := by
      rw [hW1, hbf]
      have := BlkAt.new ((later (w.alloc (.cells #[.int .i64 h.hour, .int .i64 h.grace, .slice A2 h.clocks.length c2, .slice A3 h.tickets.length c3, .slice A4 h.clips.length c4] 36)) z).alloc (.cells #[.slice none 0 0] 47)) 134 [lvFn (later (w.alloc (.cells #[.int .i64 h.hour, .int .i64 h.grace, .slice A2 h.clocks.length c2, .slice A3 h.tickets.length c3, .slice A4 h.clips.length c4] 36)) z).heap.size w.heap.size ((later (w.alloc (.cells #[.int .i64 h.hour, .int .i64 h.grace, .slice A2 h.clocks.length c2, .slice A3 h.tickets.length c3, .slice A4 h.clips.length c4] 36)) z).heap.size + 1)]
      rw [World.size_alloc] at this
      exact this
    have hBh : BlkAt W1 w.heap.size 36 [.int .i64 h.hour, .int .i64 h.grace, .slice A2 h.clocks.length c2, .slice A3 h.tickets.length c3, .slice A4 h.clips.length c4] := by
      rw [hW1]
      exact ((BlkAt.new w _ _).later.alloc _).alloc _
    unfold lvFn at hW1
    rw [← hW1]
    simp only [← hbf]
    clear hW1 hbf
    have L : LvAt h A2 c2 A3 c3 A4 c4 w bf w.heap.size (bf + 1) W1 := ⟨hb1, hBh, hBl, ⟨_, hBf⟩, by omega, by omega, by omega⟩
    have q4 := hBh.cell 4
    simp only [List.getElem?_cons_zero, List.getElem?_cons_succ] at q4
    have hq1 := hBh.lt
    have hpI : (h.clips.length : Int) ≤ 10 := by omega
    go_step3
    go_wp2
    go_loopw [18] (fun i wr => ∃ m : Nat, m ≤ h.clips.length + 1 ∧ i = .int .i64 m ∧ (List.range' 0 m).findSome? (fun m => h.lv m [] 0) = none ∧ KeepX bf W1 wr ∧ LvAt h A2 c2 A3 c3 A4 c4 w bf w.heap.size (bf + 1) wr) (fun i _ => h.clips.length + 1 - (intOf i).toNat)
    case atStart => exact ⟨0, Nat.zero_le _, rfl, rfl, KeepX.refl _ _, L⟩
    case round =>
      obtain ⟨m, hm, rfl, hnone, hkx, Lr⟩ := hrel
      have HN := Lib.hid hnone
      clear hnone
      by_cases hlt : m < h.clips.length + 1
      · have hlt1 : (m : Int) < (h.clips.length : Int) + 1 := by omega
        have hm0 : (0 : Int) ≤ (m : Int) := Int.natCast_nonneg _
        have ql := Lr.hl.cell 0
        simp only [List.getElem?_cons_zero] at ql
        unfold lvFn at ql
        have hbl := Lr.hl.lt
        have ihc := leave_in h A2 c2 A3 c3 A4 c4 w bf w.heap.size (bf + 1) HF H0 m [] 0 none 0 wr Lr (SlA.nil _ _ _ _) (fun hh => absurd rfl hh) (fun _ => rfl) (by simp; omega) (by omega)
        cases hr : h.lv m [] 0 with
        | none =>
          rw [hr] at ihc
          have IHC := Lib.hid ihc
          clear ihc
          go_wp2_with (fail)
          refine IHC.out.mono ?_
          rintro e' W' ⟨rfl, hkx', v2, hv2, hs2⟩
          clear hs2 IHC
          simp only [Option.isSome_none]
          go_wp2
          go_roundw
          case rel => exact ⟨m + 1, by omega, by go_num, find_next HN.out (by simpa using hr), hkx.trans hkx', Lr.keep hkx' hv2⟩
          case measure => simp [intOf]; omega
        | some s =>
          rw [hr] at ihc
          have IHC := Lib.hid ihc
          have hso : h.leaveO = some s := find_at hlt HN.out (by simpa using hr)
          obtain rfl : s = s0 := by rw [HS0.out] at hso; exact (Option.some.inj hso).symm
          clear ihc hso
          go_wp2_with (fail)
          refine IHC.out.mono ?_
          rintro e' W' ⟨rfl, hkx', v2, hv2, hs2⟩
          obtain ⟨A5, c5, rfl, hs5⟩ := hs2 s rfl
          clear hs2 IHC
          simp only [Option.isSome_some]
          have f0 := hv2.cell 0
          simp only [List.getElem?_cons_zero] at f0
          go_wp2
          rw [Exit.noGoto_ret]
          go_ret2
          exact ⟨A5, c5, by rw [HL.out, HF.out]; rfl, later_ex (hkx'.low Lr.low (by omega) Lr.low.size), by rw [HL.out]; exact hs5⟩
      · exfalso
        obtain rfl : m = h.clips.length + 1 := by omega
        have h1 := HS0.out
        rw [Hs.leaveO, HN.out] at h1
        cases h1
  · have hf1 : (h.fault != 0) = true := by simpa using hf
    have HL := Lib.hid (show h.leaveL = [] by simp [Hs.leaveL, hf])
    clear hf
    go_enter Try.func45, Try.ntmps45
    go_wp2
    go_step3
    go_wp2_with (first
      | (go_at_call 70; refine (check_calls _ h _ ?hh).mono ?_; (case hh => exact H0.below (by repeat (first | exact Below.refl _ _ | (with_reducible assumption) | apply gL | apply gA | apply gD | apply gN | (refine gS ?_ (by first | (simp; done) | (simp; omega) | omega))))); (rintro e w' hr; first | ((with_reducible replace hr := Ret.up hr); obtain ⟨rfl, z, rfl⟩ := hr) | (obtain ⟨rfl, z, rfl⟩ := hr))))
    rw [Exit.noGoto_ret]
    go_ret2
    exact retSlN_nil HL.out rfl (by repeat (first | exact Below.refl _ _ | (with_reducible assumption) | apply gL | apply gA | apply gD | apply gN | (refine gS ?_ (by first | (simp; done) | (simp; omega) | omega))))
end Go.Proofs.Ytcngnfnljkkjgaa
