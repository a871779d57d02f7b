/-
The smallest set of clips that can be left out.
The laws' small helpers: a range, a clip, a copy of a list, whether two lists are equal.
A copy of a list; whether two lists are equal.
The chapter's house.
The chapter's house with one more clip.
The chapter's house with two of its clips exchanged.
What the chapter's examples come to.
-/
import Derived.Test.YtcngnfnljkkjgaaCmJ
import Derived.WalkMore
import Derived.KernelRfl
namespace Go.Proofs.Ytcngnfnljkkjgaa
open Go.RowKit
attribute [local go_sem] cell_later frozen_later lt_later le_later

def Hs.leaveO (h : Hs) : Option (List Int) := (List.range' 0 (h.clips.length + 1)).findSome? fun m => h.lv m [] 0
def Hs.leaveL (h : Hs) : List Int := if h.fault = 0 then h.leaveO.getD [] else []

theorem nondec_nil : nondec [] = true := rfl
/-- All clips can be left out. -/
theorem canB_all {h : Hs} (hr : ∀ r ∈ h.clocks, r.lo ≤ r.hi) {out : List Int} (ho : ∀ i : Nat, i < h.clips.length → (i : Int) ∈ out) : h.canB out = true := by
  have hk : ∀ e, keptM e out h.clips = [] := by
    intro e
    unfold keptM
    rw [List.map_eq_nil_iff, List.filter_eq_nil_iff]
    rintro ⟨c, i⟩ hc
    have hi : i < h.clips.length := by have := List.snd_lt_of_mem_zipIdx hc; omega
    have := ho i hi
    simp [this]
  have hne : prods h.clocks ≠ [] := by
    have : (h.clocks.map fun r => r.lo) ∈ prods h.clocks := by
      rw [mem_prods hr]
      refine ⟨by simp, fun i hi r hx => ?_⟩
      have h1 := hr r (List.mem_of_getElem? hx)
      rw [List.getD_eq_getElem?_getD, List.getElem?_map, hx]
      simpa using h1
    intro hh
    rw [hh] at this
    cases this
  obtain ⟨e, l, he⟩ := List.exists_cons_of_ne_nil hne
  rw [Hs.canB, List.any_eq_true]
  exact ⟨e, by rw [he]; simp, by rw [Hs.risingB, hk]; rfl⟩
theorem lv_all {h : Hs} (hr : ∀ r ∈ h.clocks, r.lo ≤ r.hi) : ∀ (m frm : Nat) (out : List Int), m + frm = h.clips.length → (∀ i : Nat, i < frm → (i : Int) ∈ out) → (h.lv m out frm).isSome = true
  | 0, frm, out, hm, ho => by
    have : h.canB out = true := canB_all hr (fun i hi => ho i (by omega))
    simp [Hs.lv, this]
  | m + 1, frm, out, hm, ho => by
    have h1 : h.clips.length - m - frm = 1 := by omega
    have ih := lv_all hr m (frm + 1) (out ++ [(frm : Int)]) (by omega) (fun i hi => by
      rcases Nat.lt_or_ge i frm with h2 | h2
      · exact List.mem_append_left _ (ho i h2)
      · have : i = frm := by omega
        subst this
        simp)
    show ((List.range' frm (h.clips.length - m - frm)).findSome? fun (i : Nat) => h.lv m (out ++ [(i : Int)]) (i + 1)).isSome = true
    rw [h1]
    simpa using ih
theorem leaveO_some {h : Hs} (hr : ∀ r ∈ h.clocks, r.lo ≤ r.hi) : ∃ s, h.leaveO = some s := by
  cases ho : h.leaveO with
  | some s => exact ⟨s, rfl⟩
  | none =>
    rw [Hs.leaveO, List.findSome?_eq_none_iff] at ho
    have h1 := ho h.clips.length (by simp)
    have h2 := lv_all hr h.clips.length 0 [] (by omega) (fun i hi => by omega)
    rw [h1] at h2
    cases h2

set_option maxHeartbeats 2000000 in
theorem leave_calls (v : Value) (h : Hs) (w : World) (H : HsAt w v h) :
    Calls Try.prog 45 #[v] w (RetSlN 1 gI h.leaveL h.fault w) := by
  have H0 := H
  obtain ⟨A2, c2, A3, c3, A4, c4, rfl, H2, H3, H4⟩ := H
  by_cases hf : h.fault = 0
  · have hf1 : (h.fault != 0) = false := by simp [hf]
    have HF := Lib.hid hf
    have hp : h.clips.length ≤ 10 := (small_iff.1 (fault_zero hf).1).2.2
    obtain ⟨s0, hs0⟩ := leaveO_some (h := h) (fun r hr => (fault_clock hf hr).2.1)
    have HS0 := Lib.hid hs0
    have HL := Lib.hid (show h.leaveL = s0 by rw [Hs.leaveL, if_pos hf, hs0]; rfl)
    clear hf hs0
    go_enter Try.func45, Try.ntmps45
    go_wp2
    go_step3
    go_wp2_with (first
      | (go_at_call 70; refine (check_calls _ h _ ?hh).mono ?_; (case hh => exact H0.below (by repeat (first | exact Below.refl _ _ | (with_reducible assumption) | apply gL | apply gA | apply gD | apply gN | (refine gS ?_ (by first | (simp; done) | (simp; omega) | omega))))); (rintro e w' hr; first | ((with_reducible replace hr := Ret.up hr); obtain ⟨rfl, z, rfl⟩ := hr) | (obtain ⟨rfl, z, rfl⟩ := hr))))
    obtain ⟨bf, hbf⟩ : ∃ b, b = (later (w.alloc (.cells #[.int .i64 h.hour, .int .i64 h.grace, .slice A2 h.clocks.length c2, .slice A3 h.tickets.length c3, .slice A4 h.clips.length c4] 36)) z).heap.size := ⟨_, rfl⟩
    obtain ⟨W1, hW1⟩ : ∃ W1, W1 = ((later (w.alloc (.cells #[.int .i64 h.hour, .int .i64 h.grace, .slice A2 h.clocks.length c2, .slice A3 h.tickets.length c3, .slice A4 h.clips.length c4] 36)) z).alloc (.cells #[.slice none 0 0] 47)).alloc (.cells #[lvFn (later (w.alloc (.cells #[.int .i64 h.hour, .int .i64 h.grace, .slice A2 h.clocks.length c2, .slice A3 h.tickets.length c3, .slice A4 h.clips.length c4] 36)) z).heap.size w.heap.size ((later (w.alloc (.cells #[.int .i64 h.hour, .int .i64 h.grace, .slice A2 h.clocks.length c2, .slice A3 h.tickets.length c3, .slice A4 h.clips.length c4] 36)) z).heap.size + 1)] 134) := ⟨_, rfl⟩
    have hb1 : Below w.heap.size w W1 := by rw [hW1]; exact (by repeat (first | exact Below.refl _ _ | (with_reducible assumption) | apply gL | apply gA | apply gD | apply gN | (refine gS ?_ (by first | (simp; done) | (simp; omega) | omega))))
    have hlb : w.heap.size < bf := by
      have := size_later (w.alloc (.cells #[.int .i64 h.hour, .int .i64 h.grace, .slice A2 h.clocks.length c2, .slice A3 h.tickets.length c3, .slice A4 h.clips.length c4] 36)) z
      rw [hbf]
      simp at this ⊢
      omega
    have hBf : BlkAt W1 bf 47 [.slice none 0 0] := by rw [hW1, hbf]; exact (BlkAt.new _ _ _).alloc _
    have hBl : BlkAt W1 (bf + 1) 134 [lvFn bf w.heap.size (bf + 1)] := by
      rw [hW1, hbf]
      have := BlkAt.new ((later (w.alloc (.cells #[.int .i64 h.hour, .int .i64 h.grace, .slice A2 h.clocks.length c2, .slice A3 h.tickets.length c3, .slice A4 h.clips.length c4] 36)) z).alloc (.cells #[.slice none 0 0] 47)) 134 [lvFn (later (w.alloc (.cells #[.int .i64 h.hour, .int .i64 h.grace, .slice A2 h.clocks.length c2, .slice A3 h.tickets.length c3, .slice A4 h.clips.length c4] 36)) z).heap.size w.heap.size ((later (w.alloc (.cells #[.int .i64 h.hour, .int .i64 h.grace, .slice A2 h.clocks.length c2, .slice A3 h.tickets.length c3, .slice A4 h.clips.length c4] 36)) z).heap.size + 1)]
      rw [World.size_alloc] at this
      exact this
    have hBh : BlkAt W1 w.heap.size 36 [.int .i64 h.hour, .int .i64 h.grace, .slice A2 h.clocks.length c2, .slice A3 h.tickets.length c3, .slice A4 h.clips.length c4] := by
      rw [hW1]
      exact ((BlkAt.new w _ _).later.alloc _).alloc _
    unfold lvFn at hW1
    rw [← hW1]
    simp only [← hbf]
    clear hW1 hbf
    have L : LvAt h A2 c2 A3 c3 A4 c4 w bf w.heap.size (bf + 1) W1 := ⟨hb1, hBh, hBl, ⟨_, hBf⟩, by omega, by omega, by omega⟩
    have q4 := hBh.cell 4
    simp only [List.getElem?_cons_zero, List.getElem?_cons_succ] at q4
    have hq1 := hBh.lt
    have hpI : (h.clips.length : Int) ≤ 10 := by omega
    go_step3
    go_wp2
    go_loopw [18] (fun i wr => ∃ m : Nat, m ≤ h.clips.length + 1 ∧ i = .int .i64 m ∧ (List.range' 0 m).findSome? (fun m => h.lv m [] 0) = none ∧ KeepX bf W1 wr ∧ LvAt h A2 c2 A3 c3 A4 c4 w bf w.heap.size (bf + 1) wr) (fun i _ => h.clips.length + 1 - (intOf i).toNat)
    case atStart => exact ⟨0, Nat.zero_le _, rfl, rfl, KeepX.refl _ _, L⟩
    case round =>
      obtain ⟨m, hm, rfl, hnone, hkx, Lr⟩ := hrel
      have HN := Lib.hid hnone
      clear hnone
      by_cases hlt : m < h.clips.length + 1
      · have hlt1 : (m : Int) < (h.clips.length : Int) + 1 := by omega
        have hm0 : (0 : Int) ≤ (m : Int) := Int.natCast_nonneg _
        have ql := Lr.hl.cell 0
        simp only [List.getElem?_cons_zero] at ql
        unfold lvFn at ql
        have hbl := Lr.hl.lt
        have ihc := leave_in h A2 c2 A3 c3 A4 c4 w bf w.heap.size (bf + 1) HF H0 m [] 0 none 0 wr Lr (SlA.nil _ _ _ _) (fun hh => absurd rfl hh) (fun _ => rfl) (by simp; omega) (by omega)
        cases hr : h.lv m [] 0 with
        | none =>
          rw [hr] at ihc
          have IHC := Lib.hid ihc
          clear ihc
          go_wp2_with (fail)
          refine IHC.out.mono ?_
          rintro e' W' ⟨rfl, hkx', v2, hv2, hs2⟩
          clear hs2 IHC
          simp only [Option.isSome_none]
          go_wp2
          go_roundw
          case rel => exact ⟨m + 1, by omega, by go_num, find_next HN.out (by simpa using hr), hkx.trans hkx', Lr.keep hkx' hv2⟩
          case measure => simp [intOf]; omega
        | some s =>
          rw [hr] at ihc
          have IHC := Lib.hid ihc
          have hso : h.leaveO = some s := find_at hlt HN.out (by simpa using hr)
          obtain rfl : s = s0 := by rw [HS0.out] at hso; exact (Option.some.inj hso).symm
          clear ihc hso
          go_wp2_with (fail)
          refine IHC.out.mono ?_
          rintro e' W' ⟨rfl, hkx', v2, hv2, hs2⟩
          obtain ⟨A5, c5, rfl, hs5⟩ := hs2 s rfl
          clear hs2 IHC
          simp only [Option.isSome_some]
          have f0 := hv2.cell 0
          simp only [List.getElem?_cons_zero] at f0
          go_wp2
          rw [Exit.noGoto_ret]
          go_ret2
          exact ⟨A5, c5, by rw [HL.out, HF.out]; rfl, later_ex (hkx'.low Lr.low (by omega) Lr.low.size), by rw [HL.out]; exact hs5⟩
      · exfalso
        obtain rfl : m = h.clips.length + 1 := by omega
        have h1 := HS0.out
        rw [Hs.leaveO, HN.out] at h1
        cases h1
  · have hf1 : (h.fault != 0) = true := by simpa using hf
    have HL := Lib.hid (show h.leaveL = [] by simp [Hs.leaveL, hf])
    clear hf
    go_enter Try.func45, Try.ntmps45
    go_wp2
    go_step3
    go_wp2_with (first
      | (go_at_call 70; refine (check_calls _ h _ ?hh).mono ?_; (case hh => exact H0.below (by repeat (first | exact Below.refl _ _ | (with_reducible assumption) | apply gL | apply gA | apply gD | apply gN | (refine gS ?_ (by first | (simp; done) | (simp; omega) | omega))))); (rintro e w' hr; first | ((with_reducible replace hr := Ret.up hr); obtain ⟨rfl, z, rfl⟩ := hr) | (obtain ⟨rfl, z, rfl⟩ := hr))))
    rw [Exit.noGoto_ret]
    go_ret2
    exact retSlN_nil HL.out rfl (by repeat (first | exact Below.refl _ _ | (with_reducible assumption) | apply gL | apply gA | apply gD | apply gN | (refine gS ?_ (by first | (simp; done) | (simp; omega) | omega))))
end Go.Proofs.Ytcngnfnljkkjgaa
namespace Go.Proofs.Ytcngnfnljkkjgaa
open Go.RowKit
attribute [local go_sem] cell_later frozen_later lt_later le_later

theorem between_calls (lo hi : Int) (w : World) : Calls Try.prog 51 #[.int .i64 lo, .int .i64 hi] w (Ret (.agg #[.int .i64 lo, .int .i64 hi]) w) := by
  go_enter Try.func51, Try.ntmps51
  go_wp2
  refine bodyPost_ret (v := .agg #[.int .i64 lo, .int .i64 hi]) ?hr rfl (ret_mk rfl (by repeat (first | exact Below.refl _ _ | (with_reducible assumption) | apply gL | apply gA | apply gD | apply gN | (refine gS ?_ (by first | (simp; done) | (simp; omega) | omega)))))
  case hr => simp [results, Try.results51, go_sem]
theorem late_calls (w : World) : Calls Try.prog 78 #[] w (Ret (.agg #[.int .i64 2, .int .i64 0, .int .i64 360]) w) := by
  go_enter Try.func78, Try.ntmps78
  go_wp2
  refine bodyPost_ret (v := .agg #[.int .i64 2, .int .i64 0, .int .i64 360]) ?hr rfl (ret_mk rfl (by repeat (first | exact Below.refl _ _ | (with_reducible assumption) | apply gL | apply gA | apply gD | apply gN | (refine gS ?_ (by first | (simp; done) | (simp; omega) | omega)))))
  case hr => simp [results, Try.results78, go_sem]
theorem to_calls (lo hi : Int) (w : World) : Calls Try.prog 28 #[.agg #[.int .i64 lo, .int .i64 hi]] w (Ret (.agg #[.int .i64 lo, .int .i64 hi]) w) := by
  go_enter Try.func28, Try.ntmps28
  go_wp2
  refine bodyPost_ret (v := .agg #[.int .i64 lo, .int .i64 hi]) ?hr rfl (ret_mk rfl (by repeat (first | exact Below.refl _ _ | (with_reducible assumption) | apply gL | apply gA | apply gD | apply gN | (refine gS ?_ (by first | (simp; done) | (simp; omega) | omega)))))
  case hr => simp [results, Try.results28, go_sem]

theorem refin_calls (n lo hi : Int) (w : World) : Calls Try.prog 37 #[.int .i64 n, .int .i64 lo, .int .i64 hi] w (Ret (.bool (inB n lo hi)) w) := by
  by_cases h1 : lo ≤ n
  · have hR := Lib.hid (show inB n lo hi = decide (n ≤ hi) by simp [inB, h1])
    go_enter Try.func37, Try.ntmps37
    go_wp2
    go_ret
    exact ret_mk (ret_bool hR.out.symm) (Below.refl _ _)
  · have hR := Lib.hid (show inB n lo hi = false by simp [inB, h1])
    go_enter Try.func37, Try.ntmps37
    go_wp2
    go_ret
    exact ret_mk (ret_bool hR.out.symm) (Below.refl _ _)
end Go.Proofs.Ytcngnfnljkkjgaa
namespace Go.Proofs.Ytcngnfnljkkjgaa
open Go.RowKit
attribute [local go_sem] cell_later frozen_later lt_later le_later

theorem take_step {l : List Int} {k : Nat} {x : Int} (h : l[k]? = some x) : l.take (k + 1) = l.take k ++ [x] := by rw [List.take_add_one, h]; rfl

set_option maxHeartbeats 1000000 in
theorem ints_calls (A B : Option Addr) (c d : Nat) (a b : List Int) (w : World) (HA : SlA w 1 gI A c a) (HB : SlA w 1 gI B d b) :
    Calls Try.prog 46 #[.slice A a.length c, .slice B b.length d] w (Ret (.bool (decide (a = b))) w) := by
  have ha := HA.2.1
  have hb := HB.2.1
  by_cases hl : a.length = b.length
  · have hl1 : ((a.length : Int) != (b.length : Int)) = false := by simp [hl]
    have HL := Lib.hid hl
    clear hl
    go_enter Try.func46, Try.ntmps46
    go_wp2
    go_loopw [5] (fun i wr => ∃ k : Nat, k ≤ a.length ∧ i = .int .i64 k ∧ a.take k = b.take k ∧ ∃ x, wr = later w x) (fun i _ => a.length - (intOf i).toNat)
    case atStart => exact ⟨0, Nat.zero_le _, rfl, rfl, later_ex (Below.refl _ _)⟩
    case round =>
      obtain ⟨k, hk, rfl, htk, x, rfl⟩ := hrel
      have HT := Lib.hid htk
      clear htk
      by_cases hlt : k < a.length
      · have hlt1 : (k : Int) < (a.length : Int) := by omega
        have hlt2 : (k : Int) < (b.length : Int) := by have := HL.out; omega
        have hk0 : (0 : Int) ≤ (k : Int) := Int.natCast_nonneg _
        obtain ⟨p, off, y, rfl, hpl, hy, s0⟩ := HA.atI hlt
        obtain ⟨q, ofq, z, rfl, hql, hz, t0⟩ := HB.atI (i := k) (by omega)
        have HY := Lib.hid hy
        have HZ := Lib.hid hz
        clear hy hz
        by_cases hyz : y = z
        · have hn : (y != z) = false := by simp [hyz]
          have HE := Lib.hid hyz
          clear hyz
          go_wp2
          refine region_later (by kernel_rfl) (by kernel_rfl) ?_
          repeat (go_big_quiet_step (fail))
          refine wpQuiet_nil ?_
          rintro W' ⟨u, rfl⟩
          go_wp2
          go_roundw
          case rel => exact ⟨k + 1, by omega, by go_num, by rw [take_step HY.out, take_step HZ.out, HT.out, HE.out], later_ex (by repeat (first | exact Below.refl _ _ | (with_reducible assumption) | apply gL | apply gA | apply gD | apply gN | (refine gS ?_ (by first | (simp; done) | (simp; omega) | omega))))⟩
          case measure => simp [intOf]; omega
        · have hn : (y != z) = true := by simp [hyz]
          have HR := Lib.hid (show decide (a = b) = false by
            rw [decide_eq_false_iff_not]
            intro hab
            have := HY.out
            rw [hab, HZ.out] at this
            exact hyz (Option.some.inj this).symm)
          clear hyz
          go_wp2
          refine region_later (by kernel_rfl) (by kernel_rfl) ?_
          repeat (go_big_quiet_step (fail))
          refine wpQuiet_nil ?_
          rintro W' ⟨u, rfl⟩
          go_wp2
          go_ret
          exact ret_mk (ret_bool HR.out.symm) (by repeat (first | exact Below.refl _ _ | (with_reducible assumption) | apply gL | apply gA | apply gD | apply gN | (refine gS ?_ (by first | (simp; done) | (simp; omega) | omega))))
      · obtain rfl : k = a.length := by omega
        have HR := Lib.hid (show decide (a = b) = true by
          rw [decide_eq_true_iff]
          have := HT.out
          rwa [List.take_length, HL.out, List.take_length] at this)
        go_wp2
        go_ret
        exact ret_mk (ret_bool HR.out.symm) (by repeat (first | exact Below.refl _ _ | (with_reducible assumption) | apply gL | apply gA | apply gD | apply gN | (refine gS ?_ (by first | (simp; done) | (simp; omega) | omega))))
  · have hl1 : ((a.length : Int) != (b.length : Int)) = true := by simp; omega
    have HR := Lib.hid (show decide (a = b) = false by
      rw [decide_eq_false_iff_not]
      exact fun hab => hl (by rw [hab]))
    go_enter Try.func46, Try.ntmps46
    go_wp2
    go_ret
    exact ret_mk (ret_bool HR.out.symm) (by repeat (first | exact Below.refl _ _ | (with_reducible assumption) | apply gL | apply gA | apply gD | apply gN | (refine gS ?_ (by first | (simp; done) | (simp; omega) | omega))))

set_option maxHeartbeats 1000000 in
theorem list_calls (A : Option Addr) (c : Nat) (l : List Int) (w : World) (H : SlA w 1 gI A c l) (hl : l.length ≤ 1000) (hz : A = none → c = 0) :
    Calls Try.prog 58 #[.slice A l.length c] w (RetSl 1 gI l w) := by
  obtain ⟨i0, hi, hz0, hz1, hz2⟩ := info_parts infoInt
  by_cases hn : l = []
  · subst hn
    cases A with
    | none =>
      obtain rfl := hz rfl
      go_enter Try.func58, Try.ntmps58
      go_wp2
      go_ret
      exact ⟨none, 0, rfl, later_ex (Below.refl _ _), SlA.nil _ _ _ _⟩
    | some a =>
      go_enter Try.func58, Try.ntmps58
      go_wp2
      go_ret
      exact ⟨none, 0, rfl, later_ex (Below.refl _ _), SlA.nil _ _ _ _⟩
  · obtain ⟨b, off, rfl, hlt, -⟩ := H.2.2 hn
    have HCS := Lib.hid (sl_cells H rfl)
    go_enter Try.func58, Try.ntmps58
    go_wp2_with (at_builtin; refine wpList_append_own _ rfl _ _ 47 rfl w.heap.size 3 i0 (.int .i64 0) 1 8 Try.underlying47 hi hz0 hz1 hz2 rfl (by decide) _ _ _ rfl (World.ownsRow_nil w _ _ _) ⟨b, off, none⟩ l.length c (l.flatMap gI) rfl (flat_length (fun _ _ => rfl)) HCS.out ?c2 ?c3 ?c4 ?c5 ?_)
    case c2 =>
      intro u hu
      obtain ⟨x, -, hx⟩ := List.mem_flatMap.1 hu
      simp only [gI, List.mem_singleton] at hx
      subst hx
      rfl
    case c3 => unfold maxLen; omega
    case c4 => omega
    case c5 => simp
    intro v' w1 hown1 hg1 _
    have hb2 := grown_below (w := w) (Below.refl _ _) (World.ownsRow_nil w w.heap.size 3 1) (Nat.le_refl _) hg1
    obtain ⟨A', c', rfl, hs⟩ := SlA.of_own (k := 1) (g := gI) (l := l) hown1 (fun _ _ => rfl) (by simp) (by omega)
    go_wp2
    go_ret
    exact ⟨A', c', rfl, later_ex hb2, hs⟩
end Go.Proofs.Ytcngnfnljkkjgaa
namespace Go.Proofs.Ytcngnfnljkkjgaa
open Go.RowKit
attribute [local go_sem] cell_later frozen_later lt_later le_later

theorem lt_later1 {w x : World} {b : Nat} (h : b < w.heap.size) : (b < (later w x).heap.size + 1) = True := by
  have := size_later w x
  simp only [eq_iff_iff, iff_true]
  omega
theorem lt_later2 {w x : World} {b : Nat} (h : b < w.heap.size) : (b < (later w x).heap.size + 1 + 1) = True := by
  have := size_later w x
  simp only [eq_iff_iff, iff_true]
  omega
theorem lt_later3 {w x : World} {b : Nat} (h : b < w.heap.size) : (b < (later w x).heap.size + 1 + 1 + 1) = True := by
  have := size_later w x
  simp only [eq_iff_iff, iff_true]
  omega
attribute [local go_sem] lt_later1 lt_later2 lt_later3

def twoClips : List Cp := [⟨0, 0, 300⟩, ⟨0, 1, 366⟩, ⟨1, 0, 365⟩, ⟨1, 1, 488⟩]
def twoH (grace : Int) (more : List Cp) : Hs := ⟨60, grace, [⟨0, 0⟩, ⟨-5, 5⟩], [⟨0, 1⟩, ⟨0, 2⟩, ⟨1, 0⟩], twoClips ++ more⟩
/-- What a call leaves that hands back a house. -/
def RetHs (h : Hs) (w : World) (e : Ending) (w' : World) : Prop := ∃ v, e = .returned v ∧ (∃ x, w' = later w x) ∧ HsAt w' v h
theorem RetHs.up {h : Hs} {w x w' : World} {e : Ending} (H : RetHs h (later w x) e w') : RetHs h w e w' := by
  obtain ⟨v, he, ⟨y, rfl⟩, hs⟩ := H
  exact ⟨v, he, later_ex (later_below (below_later w x) (size_later w x)), hs⟩

theorem SlA.of_blk {α : Type} {w : World} {b k : Nat} {t : TypeId} {g : α → List Value} {l : List α} (h : BlkAt w b t (l.flatMap g)) (hg : ∀ x ∈ l, (g x).length = k) (hl : l.length ≤ 140737488355328) : SlA w k g (some ⟨b, 0, none⟩) l.length l :=
  ⟨Nat.le_refl _, hl, fun _ => ⟨b, 0, rfl, h.lt, fun i x hx j u hu => by rw [h.cell, Nat.zero_add]; exact flat_at hg i x hx j u hu⟩⟩

/-- What the chapter's house leaves: its clips in a block of their own. -/
def RetTwo (grace : Int) (w : World) (e : Ending) (w' : World) : Prop :=
  ∃ A2 A3 b, e = .returned (.agg #[.int .i64 60, .int .i64 grace, .slice A2 2 2, .slice A3 3 3, .slice (some ⟨b, 0, none⟩) 4 4]) ∧ (∃ x, w' = later w x) ∧
    SlA w' 2 gR A2 2 (twoH grace []).clocks ∧ SlA w' 2 gT A3 3 (twoH grace []).tickets ∧ BlkAt w' b 104 (twoClips.flatMap gC) ∧ w.heap.size ≤ b ∧ (∀ a, A2 = some a → a.block ≠ b ∧ w.heap.size ≤ a.block) ∧ ∀ a, A3 = some a → a.block ≠ b ∧ w.heap.size ≤ a.block

set_option maxHeartbeats 1000000 in
theorem two_new (grace : Int) (w : World) : Calls Try.prog 76 #[.int .i64 grace, .slice none 0 0] w (RetTwo grace w) := by
  go_enter Try.func76, Try.ntmps76
  go_wp2_with (fail)
  refine (between_calls _ _ _).mono ?_
  (rintro e w' hr; first | ((with_reducible replace hr := Ret.up hr); obtain ⟨rfl, z, rfl⟩ := hr) | (obtain ⟨rfl, z, rfl⟩ := hr))
  go_wp2_with (fail)
  refine (between_calls _ _ _).mono ?_
  (rintro e w' hr; first | ((with_reducible replace hr := Ret.up hr); obtain ⟨rfl, z, rfl⟩ := hr) | (obtain ⟨rfl, z, rfl⟩ := hr))
  obtain ⟨W1, hW1⟩ : ∃ W1, W1 = later ((w.alloc (.cells #[.int .i64 0, .int .i64 0, .slice none 0 0, .slice none 0 0, .slice none 0 0] 36)).alloc (.cells #[.int .i64 0, .int .i64 0, .int .i64 300, .int .i64 0, .int .i64 1, .int .i64 366, .int .i64 1, .int .i64 0, .int .i64 365, .int .i64 1, .int .i64 1, .int .i64 488] 104)) z := ⟨_, rfl⟩
  have hb1 : Below w.heap.size w W1 := by rw [hW1]; exact (by repeat (first | exact Below.refl _ _ | (with_reducible assumption) | apply gL | apply gA | apply gD | apply gN | (refine gS ?_ (by first | (simp; done) | (simp; omega) | omega))))
  have hB1 : BlkAt W1 w.heap.size 36 [.int .i64 0, .int .i64 0, .slice none 0 0, .slice none 0 0, .slice none 0 0] := by rw [hW1]; exact ((BlkAt.new w _ _).alloc _).later
  have hB2 : BlkAt W1 (w.heap.size + 1) 104 [.int .i64 0, .int .i64 0, .int .i64 300, .int .i64 0, .int .i64 1, .int .i64 366, .int .i64 1, .int .i64 0, .int .i64 365, .int .i64 1, .int .i64 1, .int .i64 488] := by
    rw [hW1]
    have := BlkAt.new (w.alloc (.cells #[.int .i64 0, .int .i64 0, .slice none 0 0, .slice none 0 0, .slice none 0 0] 36)) 104 [.int .i64 0, .int .i64 0, .int .i64 300, .int .i64 0, .int .i64 1, .int .i64 366, .int .i64 1, .int .i64 0, .int .i64 365, .int .i64 1, .int .i64 1, .int .i64 488]
    rw [World.size_alloc] at this
    exact this.later
  rw [← hW1]
  clear hW1
  have q0 := hB1.cell 0
  have q1 := hB1.cell 1
  have q2 := hB1.cell 2
  have q3 := hB1.cell 3
  have q4 := hB1.cell 4
  have f0 := hB1.frozen 0
  have f1 := hB1.frozen 1
  have f2 := hB1.frozen 2
  have f3 := hB1.frozen 3
  have f4 := hB1.frozen 4
  simp only [List.getElem?_cons_zero, List.getElem?_cons_succ] at q0 q1 q2 q3 q4
  have l0 := hB1.lt
  have l1 : w.heap.size < W1.heap.size + 1 := by omega
  have l2 : w.heap.size < W1.heap.size + 1 + 1 := by omega
  go_wp2
  obtain ⟨W2, hW2⟩ : ∃ W2, W2 = ((((W1.setCell ⟨w.heap.size, 0, none⟩ (.int .i64 60)).setCell ⟨w.heap.size, 1, none⟩ (.int .i64 grace)).setCell ⟨w.heap.size, 2, none⟩ (.slice (some ⟨W1.heap.size, 0, none⟩) 2 2)).setCell ⟨w.heap.size, 3, none⟩ (.slice (some ⟨W1.heap.size + 1, 0, none⟩) 3 3)).setCell ⟨w.heap.size, 4, none⟩ (.slice (some ⟨w.heap.size + 1, 0, none⟩) 4 4) := ⟨_, rfl⟩
  rw [← hW2]
  have hs2 : W2.heap.size = W1.heap.size := by rw [hW2]; simp
  have hb2 : Below w.heap.size w W2 := by rw [hW2]; exact gS (gS (gS (gS (gS hb1 (by simp)) (by simp)) (by simp)) (by simp)) (by simp)
  have hB3 := ((((hB1.set_ 0 (.int .i64 60)).set_ 1 (.int .i64 grace)).set_ 2 (.slice (some ⟨W1.heap.size, 0, none⟩) 2 2)).set_ 3 (.slice (some ⟨W1.heap.size + 1, 0, none⟩) 3 3)).set_ 4 (.slice (some ⟨w.heap.size + 1, 0, none⟩) 4 4)
  rw [← hW2] at hB3
  have hB4 : BlkAt W2 (w.heap.size + 1) 104 (twoClips.flatMap gC) := by
    rw [hW2]
    exact (Below.heap_setCell _ _ _ _ (by simp)).trans ((Below.heap_setCell _ _ _ _ (by simp)).trans ((Below.heap_setCell _ _ _ _ (by simp)).trans ((Below.heap_setCell _ _ _ _ (by simp)).trans ((Below.heap_setCell _ _ _ _ (by simp)).trans hB2))))
  clear hW2
  obtain ⟨W3, hW3⟩ : ∃ W3, W3 = (W2.alloc (.cells #[.int .i64 0, .int .i64 0, .int .i64 (-5), .int .i64 5] 42)).alloc (.cells #[.int .i64 0, .int .i64 1, .int .i64 0, .int .i64 2, .int .i64 1, .int .i64 0] 114) := ⟨_, rfl⟩
  rw [← hW3]
  have hb3 : Below w.heap.size w W3 := by rw [hW3]; exact gA (gA hb2)
  have hH := (hB3.alloc (.cells #[.int .i64 0, .int .i64 0, .int .i64 (-5), .int .i64 5] 42)).alloc (.cells #[.int .i64 0, .int .i64 1, .int .i64 0, .int .i64 2, .int .i64 1, .int .i64 0] 114)
  have hC := (hB4.alloc (.cells #[.int .i64 0, .int .i64 0, .int .i64 (-5), .int .i64 5] 42)).alloc (.cells #[.int .i64 0, .int .i64 1, .int .i64 0, .int .i64 2, .int .i64 1, .int .i64 0] 114)
  have hR : BlkAt W3 W1.heap.size 42 (([⟨0, 0⟩, ⟨-5, 5⟩] : List Rg).flatMap gR) := by
    rw [hW3, ← hs2]
    exact (BlkAt.new W2 _ _).alloc _
  have hT : BlkAt W3 (W1.heap.size + 1) 114 (([⟨0, 1⟩, ⟨0, 2⟩, ⟨1, 0⟩] : List Tk).flatMap gT) := by
    rw [hW3, ← hs2]
    have := BlkAt.new (W2.alloc (.cells #[.int .i64 0, .int .i64 0, .int .i64 (-5), .int .i64 5] 42)) 114 [.int .i64 0, .int .i64 1, .int .i64 0, .int .i64 2, .int .i64 1, .int .i64 0]
    rw [World.size_alloc] at this
    exact this
  rw [← hW3] at hH hC
  have c0 := hH.cell 0
  have c1 := hH.cell 1
  have c2 := hH.cell 2
  have c3 := hH.cell 3
  have c4 := hH.cell 4
  simp at c0 c1 c2 c3 c4
  refine bodyPost_ret (v := .agg #[.int .i64 60, .int .i64 grace, .slice (some ⟨W1.heap.size, 0, none⟩) 2 2, .slice (some ⟨W1.heap.size + 1, 0, none⟩) 3 3, .slice (some ⟨w.heap.size + 1, 0, none⟩) 4 4]) ?hr rfl
    ⟨some ⟨W1.heap.size, 0, none⟩, some ⟨W1.heap.size + 1, 0, none⟩, w.heap.size + 1, rfl, later_ex hb3, SlA.of_blk (l := ([⟨0, 0⟩, ⟨-5, 5⟩] : List Rg)) hR (fun _ _ => rfl) (by decide), SlA.of_blk (l := ([⟨0, 1⟩, ⟨0, 2⟩, ⟨1, 0⟩] : List Tk)) hT (fun _ _ => rfl) (by decide), hC, Nat.le_succ _,
      fun a ha => (by cases ha; have := hB2.lt; show W1.heap.size ≠ _ ∧ _ ≤ W1.heap.size; omega), fun a ha => (by cases ha; have := hB2.lt; show W1.heap.size + 1 ≠ _ ∧ _ ≤ W1.heap.size + 1; omega)⟩
  case hr => simp [results, Try.results76, go_sem, c0, c1, c2, c3, c4]
theorem two_nil (grace : Int) (w : World) : Calls Try.prog 76 #[.int .i64 grace, .slice none 0 0] w (RetHs (twoH grace []) w) :=
  (two_new grace w).mono fun _ _ ⟨A2, A3, b, he, hx, h2, h3, h4, _, _, _⟩ => ⟨_, he, hx, A2, 2, A3, 3, some ⟨b, 0, none⟩, 4, rfl, h2, h3, SlA.of_blk (l := twoClips) h4 (fun _ _ => rfl) (by decide)⟩
end Go.Proofs.Ytcngnfnljkkjgaa
namespace Go.Proofs.Ytcngnfnljkkjgaa
open Go.RowKit
attribute [local go_sem] cell_later frozen_later lt_later le_later

set_option maxHeartbeats 1000000 in
theorem two_one (grace : Int) (b : Nat) (x : Cp) (w : World) (H : BlkAt w b 104 (gC x)) : Calls Try.prog 76 #[.int .i64 grace, .slice (some ⟨b, 0, none⟩) 1 1] w (RetHs (twoH grace [x]) w) := by
  have hbl := H.lt
  obtain ⟨i0, hi, hz0, hz1, hz2⟩ := info_parts infoClip
  go_enter Try.func76, Try.ntmps76
  go_wp2_with (fail)
  refine (between_calls _ _ _).mono ?_
  (rintro e w' hr; first | ((with_reducible replace hr := Ret.up hr); obtain ⟨rfl, z, rfl⟩ := hr) | (obtain ⟨rfl, z, rfl⟩ := hr))
  go_wp2_with (fail)
  refine (between_calls _ _ _).mono ?_
  (rintro e w' hr; first | ((with_reducible replace hr := Ret.up hr); obtain ⟨rfl, z, rfl⟩ := hr) | (obtain ⟨rfl, z, rfl⟩ := hr))
  obtain ⟨W1, hW1⟩ : ∃ W1, W1 = later ((w.alloc (.cells #[.int .i64 0, .int .i64 0, .slice none 0 0, .slice none 0 0, .slice none 0 0] 36)).alloc (.cells #[.int .i64 0, .int .i64 0, .int .i64 300, .int .i64 0, .int .i64 1, .int .i64 366, .int .i64 1, .int .i64 0, .int .i64 365, .int .i64 1, .int .i64 1, .int .i64 488] 104)) z := ⟨_, rfl⟩
  have hb1 : Below w.heap.size w W1 := by rw [hW1]; exact (by repeat (first | exact Below.refl _ _ | (with_reducible assumption) | apply gL | apply gA | apply gD | apply gN | (refine gS ?_ (by first | (simp; done) | (simp; omega) | omega))))
  have hB1 : BlkAt W1 w.heap.size 36 [.int .i64 0, .int .i64 0, .slice none 0 0, .slice none 0 0, .slice none 0 0] := by rw [hW1]; exact ((BlkAt.new w _ _).alloc _).later
  have hB2 : BlkAt W1 (w.heap.size + 1) 104 [.int .i64 0, .int .i64 0, .int .i64 300, .int .i64 0, .int .i64 1, .int .i64 366, .int .i64 1, .int .i64 0, .int .i64 365, .int .i64 1, .int .i64 1, .int .i64 488] := by
    rw [hW1]
    have := BlkAt.new (w.alloc (.cells #[.int .i64 0, .int .i64 0, .slice none 0 0, .slice none 0 0, .slice none 0 0] 36)) 104 [.int .i64 0, .int .i64 0, .int .i64 300, .int .i64 0, .int .i64 1, .int .i64 366, .int .i64 1, .int .i64 0, .int .i64 365, .int .i64 1, .int .i64 1, .int .i64 488]
    rw [World.size_alloc] at this
    exact this.later
  rw [← hW1]
  clear hW1
  have q0 := hB1.cell 0
  have q1 := hB1.cell 1
  have q2 := hB1.cell 2
  have q3 := hB1.cell 3
  have q4 := hB1.cell 4
  have f0 := hB1.frozen 0
  have f1 := hB1.frozen 1
  have f2 := hB1.frozen 2
  have f3 := hB1.frozen 3
  have f4 := hB1.frozen 4
  simp only [List.getElem?_cons_zero, List.getElem?_cons_succ] at q0 q1 q2 q3 q4
  have l0 := hB1.lt
  have l1 : w.heap.size < W1.heap.size + 1 := by omega
  have l2 : w.heap.size < W1.heap.size + 1 + 1 := by omega
  have l3 : w.heap.size < W1.heap.size + 1 + 1 + 1 := by omega
  have hH1 := H.of_below hb1 hbl
  have hown : W1.ownsRow (w.heap.size + 1) 104 3 (.slice (some ⟨w.heap.size + 1, 0, none⟩) 4 4) 4 (twoClips.flatMap gC) :=
    ⟨rfl, .inr ⟨w.heap.size + 1, 4, _, rfl, Nat.le_refl _, hB2, Nat.le_refl _, by unfold maxLen; omega, rfl, rfl⟩⟩
  have HOW := Lib.hid ((hown.alloc (.cells #[.int .i64 0, .int .i64 0, .int .i64 (-5), .int .i64 5] 42)).alloc (.cells #[.int .i64 0, .int .i64 1, .int .i64 0, .int .i64 2, .int .i64 1, .int .i64 0] 114))
  have hX := (hH1.alloc (.cells #[.int .i64 0, .int .i64 0, .int .i64 (-5), .int .i64 5] 42)).alloc (.cells #[.int .i64 0, .int .i64 1, .int .i64 0, .int .i64 2, .int .i64 1, .int .i64 0] 114)
  have HX := Lib.hid hX
  clear hown hX
  go_wp2_with (at_builtin; refine wpList_append_own _ rfl _ _ 34 rfl (w.heap.size + 1) 104 i0 (.agg #[.int .i64 0, .int .i64 0, .int .i64 0]) 3 24 Try.underlying34 hi hz0 hz1 hz2 rfl (by decide) _ _ _ rfl HOW.out ⟨b, 0, none⟩ 1 1 (gC x) rfl rfl ?c1 ?c2 ?c3 ?c4 ?c5 ?_)
  case c1 =>
    intro j u hu
    have : ((⟨b, 0, none⟩ : Addr).add j) = ⟨b, j, none⟩ := by
      unfold Addr.add
      split
      · next h => rw [h]
      · simp
    rw [this, HX.out.cell]
    exact hu
  case c2 => simp [gC, Value.oneCell']
  case c3 => unfold maxLen; omega
  case c4 => omega
  case c5 => simp; omega
  intro v' w1 hown1 hg1 _
  have hsz1 := hg1.size
  simp only [World.size_alloc] at hsz1
  have hHb : BlkAt w1 w.heap.size 36 [.int .i64 0, .int .i64 0, .slice none 0 0, .slice none 0 0, .slice none 0 0] := (hg1.block w.heap.size (by simp; omega) (by simp [Value.ownBlock])).trans ((hB1.alloc _).alloc _)
  have hR : BlkAt w1 W1.heap.size 42 (([⟨0, 0⟩, ⟨-5, 5⟩] : List Rg).flatMap gR) := (hg1.block W1.heap.size (by simp; omega) (by simp [Value.ownBlock]; have := hB2.lt; omega)).trans ((BlkAt.new W1 _ _).alloc _)
  have hT : BlkAt w1 (W1.heap.size + 1) 114 (([⟨0, 1⟩, ⟨0, 2⟩, ⟨1, 0⟩] : List Tk).flatMap gT) := by
    refine (hg1.block (W1.heap.size + 1) (by simp) (by simp [Value.ownBlock]; omega)).trans ?_
    have := BlkAt.new (W1.alloc (.cells #[.int .i64 0, .int .i64 0, .int .i64 (-5), .int .i64 5] 42)) 114 [.int .i64 0, .int .i64 1, .int .i64 0, .int .i64 2, .int .i64 1, .int .i64 0]
    rw [World.size_alloc] at this
    exact this
  have hb3 := grown_below (gA (gA hb1)) HOW.out (by omega) hg1
  have hne : ∀ a, v'.ownBlock = some a → w.heap.size + 1 ≤ a := fun a ha => by
    rcases hown1.2 with ⟨rfl, -⟩ | ⟨bb, _, _, rfl, hbb, -⟩
    · cases ha
    · cases ha; exact hbb
  obtain ⟨A', c', rfl, hs⟩ := SlA.of_own (k := 3) (g := gC) (l := twoClips ++ [x]) (n := 5) (by simpa using hown1) (fun _ _ => rfl) rfl (by omega)
  have q0 := hHb.cell 0
  have q1 := hHb.cell 1
  have q2 := hHb.cell 2
  have q3 := hHb.cell 3
  have q4 := hHb.cell 4
  have f0 := hHb.frozen 0
  have f1 := hHb.frozen 1
  have f2 := hHb.frozen 2
  have f3 := hHb.frozen 3
  have f4 := hHb.frozen 4
  simp only [List.getElem?_cons_zero, List.getElem?_cons_succ] at q0 q1 q2 q3 q4
  have l9 := hHb.lt
  clear hown1 hg1 HOW HX hB1 hB2 hH1 hsz1
  go_wp2
  obtain ⟨W3, hW3⟩ : ∃ W3, W3 = ((((w1.setCell ⟨w.heap.size, 0, none⟩ (.int .i64 60)).setCell ⟨w.heap.size, 1, none⟩ (.int .i64 grace)).setCell ⟨w.heap.size, 2, none⟩ (.slice (some ⟨W1.heap.size, 0, none⟩) 2 2)).setCell ⟨w.heap.size, 3, none⟩ (.slice (some ⟨W1.heap.size + 1, 0, none⟩) 3 3)).setCell ⟨w.heap.size, 4, none⟩ (.slice A' (twoClips.length + 1) c') := ⟨_, rfl⟩
  rw [← hW3]
  have hk : KeepX w.heap.size w1 W3 := by
    rw [hW3]
    exact ((((KeepX.set_ _ _ _).trans (KeepX.set_ _ _ _)).trans (KeepX.set_ _ _ _)).trans (KeepX.set_ _ _ _)).trans (KeepX.set_ _ _ _)
  have hH := ((((hHb.set_ 0 (.int .i64 60)).set_ 1 (.int .i64 grace)).set_ 2 (.slice (some ⟨W1.heap.size, 0, none⟩) 2 2)).set_ 3 (.slice (some ⟨W1.heap.size + 1, 0, none⟩) 3 3)).set_ 4 (.slice A' (twoClips.length + 1) c')
  rw [← hW3] at hH
  have hb9 : Below w.heap.size w W3 := hk.low hb3 (Nat.le_refl _) hb3.size
  clear hW3
  have c0 := hH.cell 0
  have c1 := hH.cell 1
  have c2 := hH.cell 2
  have c3 := hH.cell 3
  have c4 := hH.cell 4
  simp at c0 c1 c2 c3 c4
  refine bodyPost_ret (v := .agg #[.int .i64 60, .int .i64 grace, .slice (some ⟨W1.heap.size, 0, none⟩) 2 2, .slice (some ⟨W1.heap.size + 1, 0, none⟩) 3 3, .slice A' (twoClips.length + 1) c']) ?hr rfl
    ⟨_, rfl, later_ex hb9, some ⟨W1.heap.size, 0, none⟩, 2, some ⟨W1.heap.size + 1, 0, none⟩, 3, A', c', rfl, SlA.of_blk (l := ([⟨0, 0⟩, ⟨-5, 5⟩] : List Rg)) (hk.blk hR (by omega)) (fun _ _ => rfl) (by decide), SlA.of_blk (l := ([⟨0, 1⟩, ⟨0, 2⟩, ⟨1, 0⟩] : List Tk)) (hk.blk hT (by omega)) (fun _ _ => rfl) (by decide),
      hk.sl hs (fun _ a ha => by subst ha; have := hne a.block rfl; omega)⟩
  case hr => simp [results, Try.results76, go_sem, c0, c1, c2, c3, c4]
end Go.Proofs.Ytcngnfnljkkjgaa
namespace Go.Proofs.Ytcngnfnljkkjgaa
open Go.RowKit
attribute [local go_sem] cell_later frozen_later lt_later le_later

def turnedC : List Cp := [⟨0, 0, 300⟩, ⟨1, 0, 365⟩, ⟨0, 1, 366⟩, ⟨1, 1, 488⟩]
def turnedH : Hs := ⟨60, 5, [⟨0, 0⟩, ⟨-5, 5⟩], [⟨0, 1⟩, ⟨0, 2⟩, ⟨1, 0⟩], turnedC⟩

set_option maxHeartbeats 2000000 in
theorem turned_calls (w : World) : Calls Try.prog 77 #[] w (RetHs turnedH w) := by
  go_enter Try.func77, Try.ntmps77
  go_wp2_with (fail)
  refine (two_new 5 _).mono ?_
  rintro e w' ⟨A2, A3, b, rfl, ⟨z, rfl⟩, h2, h3, h4, hbl, hA2, hA3⟩
  obtain ⟨W1, hW1⟩ : ∃ W1, W1 = later (w.alloc (.cells #[.int .i64 0, .int .i64 0, .slice none 0 0, .slice none 0 0, .slice none 0 0] 36)) z := ⟨_, rfl⟩
  have hb1 : Below w.heap.size w W1 := by rw [hW1]; exact (by repeat (first | exact Below.refl _ _ | (with_reducible assumption) | apply gL | apply gA | apply gD | apply gN | (refine gS ?_ (by first | (simp; done) | (simp; omega) | omega))))
  have hB1 : BlkAt W1 w.heap.size 36 [.int .i64 0, .int .i64 0, .slice none 0 0, .slice none 0 0, .slice none 0 0] := by rw [hW1]; exact (BlkAt.new w _ _).later
  rw [← hW1] at h2 h3 h4 ⊢
  clear hW1
  rw [World.size_alloc] at hbl hA2 hA3
  go_wp2
  obtain ⟨W2, hW2⟩ : ∃ W2, W2 = W1.alloc (.cells #[.int .i64 60, .int .i64 5, .slice A2 2 2, .slice A3 3 3, .slice (some ⟨b, 0, none⟩) 4 4] 36) := ⟨_, rfl⟩
  have hbe2 : Below W1.heap.size W1 W2 := by rw [hW2]; exact gA (Below.refl _ _)
  have hX : BlkAt W2 W1.heap.size 36 [.int .i64 60, .int .i64 5, .slice A2 2 2, .slice A3 3 3, .slice (some ⟨b, 0, none⟩) 4 4] := by rw [hW2]; exact BlkAt.new _ _ _
  have hC4 := h4.lt
  have hC5 := h4.of_below hbe2 hC4
  have hR5 := hB1.of_below hbe2 hB1.lt
  have h25 := h2.below hbe2
  have h35 := h3.below hbe2
  have hxl := hX.lt
  have hbx : b ≠ W1.heap.size := by omega
  have hbr : w.heap.size ≠ b := by omega
  have hxr : w.heap.size ≠ W1.heap.size := by have := hB1.lt; omega
  have hb2 : Below w.heap.size w W2 := hb1.trans (hbe2.mono hb1.size)
  rw [← hW2]
  clear hW2 hbe2 hB1 h2 h3 h4 hC4
  have x4 := hX.cell 4
  simp only [List.getElem?_cons_zero, List.getElem?_cons_succ] at x4
  have hC3 := hC5
  simp only [twoClips, List.flatMap_cons, List.flatMap_nil, gC, List.cons_append, List.nil_append, List.append_nil] at hC5
  have k3 := hC5.cell 3
  have k4 := hC5.cell 4
  have k5 := hC5.cell 5
  have k6 := hC5.cell 6
  have k7 := hC5.cell 7
  have k8 := hC5.cell 8
  have f3 := hC5.frozen 3
  have f4 := hC5.frozen 4
  have f5 := hC5.frozen 5
  have f6 := hC5.frozen 6
  have f7 := hC5.frozen 7
  have f8 := hC5.frozen 8
  simp only [List.getElem?_cons_zero, List.getElem?_cons_succ] at k3 k4 k5 k6 k7 k8
  have hbl5 := hC5.lt
  obtain ⟨C, hC⟩ : ∃ C, C = Same [⟨W1.heap.size, 4, none⟩] W2 := ⟨_, rfl⟩
  obtain ⟨G, hG⟩ : ∃ G, G = held C W2.drew := ⟨_, rfl⟩
  have fl : ∀ x, (G x).cell? ⟨W1.heap.size, 4, none⟩ = some (.slice (some ⟨b, 0, none⟩) 4 4) := fun x => by
    rw [hG, hC]
    exact same_held x4 (by simp) x
  refine region_sched C [0, 1, 2, 3, 4, 5, 6, 8, 9, 10] (.two 7 11 (.one 11 (.one 12 (.one 13 (.one 14 .done)))) (.one 7 (.one 12 (.one 13 (.one 14 .done))))) 15 (by kernel_rfl) (by kernel_rfl) (by rw [hC]; exact same_drew) ?_
  rw [← hG]
  have HC := Lib.hid hC
  clear hG hC
  simp only [List.filterMap_cons, List.filterMap_nil, List.getElem?_cons_zero, List.getElem?_cons_succ]
  change wpQuiet _ _ _ _ [_, _, _, _, _, _, _, _, _, _] _
  repeat (go_big_quiet_step (fail))
  refine wpQuiet_nil ?_
  clear fl
  have hCd : C W2.drew := by rw [HC.out]; exact same_drew
  refine wpSch_two rfl rfl (fun K hK => ?_) (fun K hK => ?_)
  · go_simp
    refine hK.out _ _ hCd ?_
    clear hK K
    refine wpSch_one rfl (fun K hK => ?_)
    go_simp
    refine hK.out _ _ hCd ?_
    clear hK K
    refine wpSch_one rfl (fun K hK => ?_)
    go_simp
    refine hK.out _ _ hCd ?_
    clear hK K
    refine wpSch_one rfl (fun K hK => ?_)
    go_simp
    obtain ⟨W3, hW3⟩ : ∃ W3, W3 = (((W2.setCell ⟨b, 3, none⟩ (.int .i64 1)).setCell ⟨b, 4, none⟩ (.int .i64 0)).setCell ⟨b, 5, none⟩ (.int .i64 365)).drew := ⟨_, rfl⟩
    rw [← hW3]
    have hk3 : KeepX b W2 W3 := by
      rw [hW3]
      exact (((KeepX.set_ _ _ _).trans (KeepX.set_ _ _ _)).trans (KeepX.set_ _ _ _)).trans (KeepX.of_below (gD (Below.refl _ _)))
    have hb3 := (((hC5.set_ 3 (.int .i64 1)).set_ 4 (.int .i64 0)).set_ 5 (.int .i64 365))
    have hb3 := hb3.of_below (gD (Below.refl _ _)) hb3.lt
    rw [← hW3] at hb3
    clear hW3
    have hC3' : C W3 := by
      rw [HC.out]
      intro a ha
      simp only [List.mem_cons, List.not_mem_nil, or_false] at ha
      subst ha
      exact (hk3.cell x4 (by exact fun e => hbx e.symm)).trans x4.symm
    refine hK.out _ _ hC3' ?_
    clear hK K
    refine wpSch_one rfl (fun K hK => ?_)
    go_simp
    refine hK.out _ _ hC3' ?_
    clear hK K
    have e6 := hb3.cell 6
    have e7 := hb3.cell 7
    have e8 := hb3.cell 8
    simp at e6 e7 e8
    have g6 := hb3.frozen 6
    have g7 := hb3.frozen 7
    have g8 := hb3.frozen 8
    have hbl3 := hb3.lt
    refine wpSch_done rfl (fun K hK => ?_)
    go_simp
    refine hK.out _ _ (noPanic_mk ?_)
    clear hK K
    obtain ⟨W4, hW4⟩ : ∃ W4, W4 = ((W3.setCell ⟨b, 6, none⟩ (.int .i64 0)).setCell ⟨b, 7, none⟩ (.int .i64 1)).setCell ⟨b, 8, none⟩ (.int .i64 366) := ⟨_, rfl⟩
    rw [← hW4]
    have hk4 : KeepX b W2 W4 := by
      rw [hW4]
      exact ((hk3.trans (KeepX.set_ _ _ _)).trans (KeepX.set_ _ _ _)).trans (KeepX.set_ _ _ _)
    have hb4 := ((hb3.set_ 6 (.int .i64 0)).set_ 7 (.int .i64 1)).set_ 8 (.int .i64 366)
    rw [← hW4] at hb4
    clear hW4
    have hX4 := hk4.blk hX (fun e => hbx e.symm)
    have hR4 := hk4.blk hR5 hbr
    have s2 := hk4.sl h25 (fun _ a ha => (hA2 a ha).1)
    have s3 := hk4.sl h35 (fun _ a ha => (hA3 a ha).1)
    have hlow : Below w.heap.size w W4 := hk4.low hb2 (by omega) hb2.size
    have q0 := hX4.cell 0
    have q1 := hX4.cell 1
    have q2 := hX4.cell 2
    have q3 := hX4.cell 3
    have q4 := hX4.cell 4
    have r0 := hR4.cell 0
    have r1 := hR4.cell 1
    have r2 := hR4.cell 2
    have r3 := hR4.cell 3
    have r4 := hR4.cell 4
    have u0 := hR4.frozen 0
    have u1 := hR4.frozen 1
    have u2 := hR4.frozen 2
    have u3 := hR4.frozen 3
    have u4 := hR4.frozen 4
    simp only [List.getElem?_cons_zero, List.getElem?_cons_succ] at q0 q1 q2 q3 q4 r0 r1 r2 r3 r4
    have l0 := hR4.lt
    have l1 := hX4.lt
    clear hk3 hb3 hC3' g6 g7 g8 hbl3 e6 e7 e8
    go_wp2
    obtain ⟨W5, hW5⟩ : ∃ W5, W5 = ((((W4.setCell ⟨w.heap.size, 0, none⟩ (.int .i64 60)).setCell ⟨w.heap.size, 1, none⟩ (.int .i64 5)).setCell ⟨w.heap.size, 2, none⟩ (.slice A2 2 2)).setCell ⟨w.heap.size, 3, none⟩ (.slice A3 3 3)).setCell ⟨w.heap.size, 4, none⟩ (.slice (some ⟨b, 0, none⟩) 4 4) := ⟨_, rfl⟩
    rw [← hW5]
    have hB5 := ((((hR4.set_ 0 (.int .i64 60)).set_ 1 (.int .i64 5)).set_ 2 (.slice A2 2 2)).set_ 3 (.slice A3 3 3)).set_ 4 (.slice (some ⟨b, 0, none⟩) 4 4)
    rw [← hW5] at hB5
    have hk5 : KeepX w.heap.size W4 W5 := by
      rw [hW5]
      exact ((((KeepX.set_ _ _ _).trans (KeepX.set_ _ _ _)).trans (KeepX.set_ _ _ _)).trans (KeepX.set_ _ _ _)).trans (KeepX.set_ _ _ _)
    clear hW5
    have c0 := hB5.cell 0
    have c1 := hB5.cell 1
    have c2 := hB5.cell 2
    have c3 := hB5.cell 3
    have c4 := hB5.cell 4
    simp at c0 c1 c2 c3 c4
    refine bodyPost_ret (v := .agg #[.int .i64 60, .int .i64 5, .slice A2 2 2, .slice A3 3 3, .slice (some ⟨b, 0, none⟩) 4 4]) ?hr rfl
      ⟨_, rfl, later_ex (hk5.low hlow (Nat.le_refl _) hlow.size), A2, 2, A3, 3, some ⟨b, 0, none⟩, 4, rfl, hk5.sl s2 (fun _ a ha => by have := (hA2 a ha).2; omega), hk5.sl s3 (fun _ a ha => by have := (hA3 a ha).2; omega), SlA.of_blk (l := turnedC) (hk5.blk hb4 (fun e => hbr e.symm)) (fun _ _ => rfl) (by decide)⟩
    case hr => simp [results, Try.results77, go_sem, c0, c1, c2, c3, c4]
  · go_simp
    refine hK.out _ _ hCd ?_
    clear hK K
    refine wpSch_one rfl (fun K hK => ?_)
    go_simp
    refine hK.out _ _ hCd ?_
    clear hK K
    refine wpSch_one rfl (fun K hK => ?_)
    go_simp
    refine hK.out _ _ hCd ?_
    clear hK K
    refine wpSch_one rfl (fun K hK => ?_)
    go_simp
    obtain ⟨W3, hW3⟩ : ∃ W3, W3 = (((W2.setCell ⟨b, 3, none⟩ (.int .i64 1)).setCell ⟨b, 4, none⟩ (.int .i64 0)).setCell ⟨b, 5, none⟩ (.int .i64 365)).drew := ⟨_, rfl⟩
    rw [← hW3]
    have hk3 : KeepX b W2 W3 := by
      rw [hW3]
      exact (((KeepX.set_ _ _ _).trans (KeepX.set_ _ _ _)).trans (KeepX.set_ _ _ _)).trans (KeepX.of_below (gD (Below.refl _ _)))
    have hb3 := (((hC5.set_ 3 (.int .i64 1)).set_ 4 (.int .i64 0)).set_ 5 (.int .i64 365))
    have hb3 := hb3.of_below (gD (Below.refl _ _)) hb3.lt
    rw [← hW3] at hb3
    clear hW3
    have hC3' : C W3 := by
      rw [HC.out]
      intro a ha
      simp only [List.mem_cons, List.not_mem_nil, or_false] at ha
      subst ha
      exact (hk3.cell x4 (by exact fun e => hbx e.symm)).trans x4.symm
    refine hK.out _ _ hC3' ?_
    clear hK K
    refine wpSch_one rfl (fun K hK => ?_)
    go_simp
    refine hK.out _ _ hC3' ?_
    clear hK K
    have e6 := hb3.cell 6
    have e7 := hb3.cell 7
    have e8 := hb3.cell 8
    simp at e6 e7 e8
    have g6 := hb3.frozen 6
    have g7 := hb3.frozen 7
    have g8 := hb3.frozen 8
    have hbl3 := hb3.lt
    refine wpSch_done rfl (fun K hK => ?_)
    go_simp
    refine hK.out _ _ (noPanic_mk ?_)
    clear hK K
    obtain ⟨W4, hW4⟩ : ∃ W4, W4 = ((W3.setCell ⟨b, 6, none⟩ (.int .i64 0)).setCell ⟨b, 7, none⟩ (.int .i64 1)).setCell ⟨b, 8, none⟩ (.int .i64 366) := ⟨_, rfl⟩
    rw [← hW4]
    have hk4 : KeepX b W2 W4 := by
      rw [hW4]
      exact ((hk3.trans (KeepX.set_ _ _ _)).trans (KeepX.set_ _ _ _)).trans (KeepX.set_ _ _ _)
    have hb4 := ((hb3.set_ 6 (.int .i64 0)).set_ 7 (.int .i64 1)).set_ 8 (.int .i64 366)
    rw [← hW4] at hb4
    clear hW4
    have hX4 := hk4.blk hX (fun e => hbx e.symm)
    have hR4 := hk4.blk hR5 hbr
    have s2 := hk4.sl h25 (fun _ a ha => (hA2 a ha).1)
    have s3 := hk4.sl h35 (fun _ a ha => (hA3 a ha).1)
    have hlow : Below w.heap.size w W4 := hk4.low hb2 (by omega) hb2.size
    have q0 := hX4.cell 0
    have q1 := hX4.cell 1
    have q2 := hX4.cell 2
    have q3 := hX4.cell 3
    have q4 := hX4.cell 4
    have r0 := hR4.cell 0
    have r1 := hR4.cell 1
    have r2 := hR4.cell 2
    have r3 := hR4.cell 3
    have r4 := hR4.cell 4
    have u0 := hR4.frozen 0
    have u1 := hR4.frozen 1
    have u2 := hR4.frozen 2
    have u3 := hR4.frozen 3
    have u4 := hR4.frozen 4
    simp only [List.getElem?_cons_zero, List.getElem?_cons_succ] at q0 q1 q2 q3 q4 r0 r1 r2 r3 r4
    have l0 := hR4.lt
    have l1 := hX4.lt
    clear hk3 hb3 hC3' g6 g7 g8 hbl3 e6 e7 e8
    go_wp2
    obtain ⟨W5, hW5⟩ : ∃ W5, W5 = ((((W4.setCell ⟨w.heap.size, 0, none⟩ (.int .i64 60)).setCell ⟨w.heap.size, 1, none⟩ (.int .i64 5)).setCell ⟨w.heap.size, 2, none⟩ (.slice A2 2 2)).setCell ⟨w.heap.size, 3, none⟩ (.slice A3 3 3)).setCell ⟨w.heap.size, 4, none⟩ (.slice (some ⟨b, 0, none⟩) 4 4) := ⟨_, rfl⟩
    rw [← hW5]
    have hB5 := ((((hR4.set_ 0 (.int .i64 60)).set_ 1 (.int .i64 5)).set_ 2 (.slice A2 2 2)).set_ 3 (.slice A3 3 3)).set_ 4 (.slice (some ⟨b, 0, none⟩) 4 4)
    rw [← hW5] at hB5
    have hk5 : KeepX w.heap.size W4 W5 := by
      rw [hW5]
      exact ((((KeepX.set_ _ _ _).trans (KeepX.set_ _ _ _)).trans (KeepX.set_ _ _ _)).trans (KeepX.set_ _ _ _)).trans (KeepX.set_ _ _ _)
    clear hW5
    have c0 := hB5.cell 0
    have c1 := hB5.cell 1
    have c2 := hB5.cell 2
    have c3 := hB5.cell 3
    have c4 := hB5.cell 4
    simp at c0 c1 c2 c3 c4
    refine bodyPost_ret (v := .agg #[.int .i64 60, .int .i64 5, .slice A2 2 2, .slice A3 3 3, .slice (some ⟨b, 0, none⟩) 4 4]) ?hr rfl
      ⟨_, rfl, later_ex (hk5.low hlow (Nat.le_refl _) hlow.size), A2, 2, A3, 3, some ⟨b, 0, none⟩, 4, rfl, hk5.sl s2 (fun _ a ha => by have := (hA2 a ha).2; omega), hk5.sl s3 (fun _ a ha => by have := (hA3 a ha).2; omega), SlA.of_blk (l := turnedC) (hk5.blk hb4 (fun e => hbr e.symm)) (fun _ _ => rfl) (by decide)⟩
    case hr => simp [results, Try.results77, go_sem, c0, c1, c2, c3, c4]
end Go.Proofs.Ytcngnfnljkkjgaa
namespace Go.Proofs.Ytcngnfnljkkjgaa
open Go.RowKit

def lateC : Cp := ⟨2, 0, 360⟩
theorem aw_play : (twoH 5 []).playL [0, 3] = [300, 363, 365, 485] := by kernel_rfl
theorem aw_playE : (twoH 5 []).playE [0, 3] = 0 := by kernel_rfl
theorem aw_clocks : (twoH 5 []).clocksL = [⟨0, 0⟩, ⟨1, 5⟩] := by kernel_rfl
theorem aw_ask5 : (twoH 5 []).askE 0 = 0 := by kernel_rfl
theorem aw_hours : (twoH 3 []).hoursL = [⟨1, 2⟩, ⟨2, 2⟩, ⟨0, 0⟩] := by kernel_rfl
theorem aw_ask3 : (twoH 3 []).askE 0 = 0 := by kernel_rfl
theorem aw_long : (twoH 0 []).longL = [1, 3, 2] := by kernel_rfl
theorem aw_ask0 : (twoH 0 []).askE 0 = 0 := by kernel_rfl
theorem aw_clash : turnedH.clashV 0 1 = 3 := by kernel_rfl
theorem aw_clashE : turnedH.clashE 0 1 = 0 := by kernel_rfl
theorem aw_paid : (twoH 3 []).paidV = 3 := by kernel_rfl
theorem aw_free : (twoH 5 []).freeV 0 = ⟨483, 487⟩ := by kernel_rfl
theorem aw_freeE : (twoH 5 []).freeE 0 = 0 := by kernel_rfl
theorem aw_look : (twoH 5 []).lookV = (1, 1) := by kernel_rfl
theorem aw_lookE : (twoH 5 []).lookE = 0 := by kernel_rfl
theorem aw_first : (twoH 5 [lateC]).firstV = 4 := by kernel_rfl
theorem aw_firstE : (twoH 5 [lateC]).firstE = 0 := by kernel_rfl
theorem aw_leave : (twoH 5 [lateC]).leaveL = [4] := by kernel_rfl
theorem aw_fault : (twoH 5 [lateC]).fault = 0 := by kernel_rfl
end Go.Proofs.Ytcngnfnljkkjgaa
