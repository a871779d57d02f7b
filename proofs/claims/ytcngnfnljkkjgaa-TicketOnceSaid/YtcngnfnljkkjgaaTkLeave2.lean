/-
The closure that tries sets of clips of one size.
-/
import Derived.Test.YtcngnfnljkkjgaaTkLeave
namespace Go.Proofs.Ytcngnfnljkkjgaa
open Go.RowKit
attribute [local go_sem] cell_later frozen_later lt_later le_later

/-- The first set of so many clips more, from one on, that can be left out. -/
def Hs.lv (h : Hs) : Nat → List Int → Nat → Option (List Int)
  | 0, out, _ => if h.canB out = true then some out else none
  | m + 1, out, frm => (List.range' frm (h.clips.length - m - frm)).findSome? fun (i : Nat) => h.lv m (out ++ [(i : Int)]) (i + 1)
theorem range'_split {a n k : Nat} (hk : k < n) : List.range' a n = List.range' a k ++ (a + k) :: List.range' (a + k + 1) (n - k - 1) := by
  have h1 : n = k + (1 + (n - k - 1)) := by omega
  rw [h1, ← List.range'_append_1, ← List.range'_append_1]
  simp
theorem find_at {α : Type} {f : Nat → Option α} {a n k : Nat} {s : α} (hk : k < n) (h1 : (List.range' a k).findSome? f = none) (h2 : f (a + k) = some s) : (List.range' a n).findSome? f = some s := by
  rw [range'_split hk, List.findSome?_append, h1]
  simp [h2]
theorem find_next {α : Type} {f : Nat → Option α} {a k : Nat} (h1 : (List.range' a k).findSome? f = none) (h2 : f (a + k) = none) : (List.range' a (k + 1)).findSome? f = none := by
  rw [range'_split (k := k) (by omega), List.findSome?_append, h1]
  simp [h2]

def lvFn (bf bh bl : Nat) : Value := .func (.func 101) #[] #[.pointer (some ⟨bf, 0, none⟩), .pointer (some ⟨bh, 0, none⟩), .pointer (some ⟨bl, 0, none⟩)]
structure LvAt (h : Hs) (A2 : Option Addr) (c2 : Nat) (A3 : Option Addr) (c3 : Nat) (A4 : Option Addr) (c4 : Nat) (w0 : World) (bf bh bl : Nat) (W : World) : Prop where
  low : Below w0.heap.size w0 W
  hh : BlkAt W bh 36 [.int .i64 h.hour, .int .i64 h.grace, .slice A2 h.clocks.length c2, .slice A3 h.tickets.length c3, .slice A4 h.clips.length c4]
  hl : BlkAt W bl 134 [lvFn bf bh bl]
  hf : ∃ v, BlkAt W bf 47 [v]
  nh : bh ≠ bf
  nl : bl ≠ bf
  nw : w0.heap.size ≤ bf
theorem LvAt.keep {h : Hs} {A2 A3 A4 : Option Addr} {c2 c3 c4 : Nat} {w0 : World} {bf bh bl : Nat} {W W' : World} {v : Value} (H : LvAt h A2 c2 A3 c3 A4 c4 w0 bf bh bl W) (k : KeepX bf W W') (hv : BlkAt W' bf 47 [v]) : LvAt h A2 c2 A3 c3 A4 c4 w0 bf bh bl W' :=
  ⟨k.low H.low H.nw H.low.size, k.blk H.hh H.nh, k.blk H.hl H.nl, ⟨v, hv⟩, H.nh, H.nl, H.nw⟩
def RetLv (bf : Nat) (r : Option (List Int)) (W : World) (e : Ending) (W' : World) : Prop :=
  e = .returned (.bool r.isSome) ∧ KeepX bf W W' ∧ ∃ v, BlkAt W' bf 47 [v] ∧ ∀ s, r = some s → ∃ A c, v = .slice A s.length c ∧ SlA W' 1 gI A c s

theorem own_facts {w : World} {base : Nat} {v : Value} {n : Nat} {l : List Int} (h : w.ownsRow base 3 1 v n (l.flatMap gI)) (hl : l.length = n) (hpos : 0 < n) (hb : n ≤ 140737488355328) :
    ∃ A c, v = .slice A l.length c ∧ SlA w 1 gI A c l ∧ (∀ a, A = some a → base ≤ a.block) ∧ (A = none → c = 0) := by
  obtain ⟨A, c, hv, hs⟩ := SlA.of_own (k := 1) (g := gI) (l := l) h (fun _ _ => rfl) hl hb
  rcases h.2 with ⟨-, h0⟩ | ⟨b, cap, cur, e, hbb, -⟩
  · omega
  · rw [hv] at e
    cases e
    exact ⟨_, _, hv, hs, fun a ha => by cases ha; exact hbb, fun hh => by cases hh⟩

set_option maxHeartbeats 4000000 in
theorem leave_in (h : Hs) (A2 : Option Addr) (c2 : Nat) (A3 : Option Addr) (c3 : Nat) (A4 : Option Addr) (c4 : Nat) (w0 : World) (bf bh bl : Nat) (hf : Hid (h.fault = 0))
    (H : HsAt w0 (.agg #[.int .i64 h.hour, .int .i64 h.grace, .slice A2 h.clocks.length c2, .slice A3 h.tickets.length c3, .slice A4 h.clips.length c4]) h) :
    ∀ (m : Nat) (out : List Int) (frm : Nat) (A : Option Addr) (c : Nat) (W : World), LvAt h A2 c2 A3 c3 A4 c4 w0 bf bh bl W → SlA W 1 gI A c out → (out ≠ [] → ∀ a, A = some a → a.block ≠ bf) → (A = none → c = 0) → out.length + m ≤ 20 → frm ≤ 20 →
      Calls Try.prog 101 #[.slice A out.length c, .int .i64 frm, .int .i64 m, .pointer (some ⟨bf, 0, none⟩), .pointer (some ⟨bh, 0, none⟩), .pointer (some ⟨bl, 0, none⟩)] W (RetLv bf (h.lv m out frm) W) := by
  have hn : h.clocks.length ≤ 4 := (small_iff.1 (fault_zero hf.out).1).1
  have hp : h.clips.length ≤ 10 := (small_iff.1 (fault_zero hf.out).1).2.2
  have HC := Lib.hid (clipsOk_of hf.out)
  have HR := Lib.hid (fun r hr => fault_clock hf.out (r := r) hr)
  intro m
  induction m with
  | zero =>
    intro out frm A c W L HO hA hz hl hfr
    obtain ⟨v, hv⟩ := L.hf
    have z0 := hv.cell 0
    have zf := hv.frozen 0
    have q0 := L.hh.cell 0
    have q1 := L.hh.cell 1
    have q2 := L.hh.cell 2
    have q3 := L.hh.cell 3
    have q4 := L.hh.cell 4
    simp only [List.getElem?_cons_zero, List.getElem?_cons_succ] at z0 q0 q1 q2 q3 q4
    have nh := L.nh
    have hbf := hv.lt
    have hbh := L.hh.lt
    obtain ⟨W1, hW1⟩ : ∃ W1, W1 = W.setCell ⟨bf, 0, none⟩ (.slice A out.length c) := ⟨_, rfl⟩
    have hk1 : KeepX bf W W1 := by rw [hW1]; exact KeepX.set_ _ _ _
    have hv1 : BlkAt W1 bf 47 [.slice A out.length c] := by rw [hW1]; exact hv.set_ 0 _
    have L1 := L.keep hk1 hv1
    have HO1 := hk1.sl HO hA
    have hpo := possible_calls _ h A c out W1 (H.below L1.low) HO1 hn HR.out HC.out (by omega)
    have HPO := Lib.hid hpo
    have HW1 := Lib.hid hW1
    clear hpo hW1
    go_enter Try.func101, Try.ntmps101
    go_wp2_with (first | (go_at_call 100; rw [← HW1.out]; refine HPO.out.mono ?_; (rintro e w' hr; first | ((with_reducible replace hr := Ret.up hr); obtain ⟨rfl, z, rfl⟩ := hr) | (obtain ⟨rfl, z, rfl⟩ := hr))))
    go_ret
    refine ⟨?_, hk1.trans (KeepX.of_below (below_later _ _)), .slice A out.length c, hv1.later, fun s hs => ?_⟩
    · show _ = Ending.returned (.bool (if h.canB out = true then some out else none).isSome)
      cases h.canB out <;> rfl
    · have hs' : (if h.canB out = true then some out else none) = some s := hs
      split at hs'
      · cases hs'
        exact ⟨A, c, rfl, HO1.below (below_later _ _)⟩
      · cases hs'
  | succ m ih =>
    intro out frm A c W L HO hA hz hl hfr
    have IH := Lib.hid ih
    clear ih
    obtain ⟨cnt, hcnt⟩ : ∃ n, n = h.clips.length - m - frm := ⟨_, rfl⟩
    have HLV := Lib.hid (show h.lv (m + 1) out frm = (List.range' frm cnt).findSome? (fun (i : Nat) => h.lv m (out ++ [(i : Int)]) (i + 1)) by rw [hcnt]; rfl)
    have hfb : (frm : Int) ≤ 20 := by omega
    obtain ⟨M, hM⟩ : ∃ M : Int, M = ((m + 1 : Nat) : Int) := ⟨_, rfl⟩
    rw [← hM]
    have hM1 : M - 1 = (m : Int) := by omega
    have hm0 : 1 ≤ M := by omega
    have hm9 : M ≤ 20 := by omega
    have hmz : (M == 0) = false := by simp; omega
    have HM := Lib.hid hM
    clear hM
    have hpI : (h.clips.length : Int) ≤ 10 := by omega
    obtain ⟨i0, hi0, hz0, hz1, hz2⟩ := info_parts infoInt
    go_enter Try.func101, Try.ntmps101
    go_wp2
    go_loopw [10] (fun i wr => ∃ k : Nat, k ≤ cnt ∧ i = .int .i64 ((frm + k : Nat) : Int) ∧ (List.range' frm k).findSome? (fun (i : Nat) => h.lv m (out ++ [(i : Int)]) (i + 1)) = none ∧ KeepX bf W wr ∧ LvAt h A2 c2 A3 c3 A4 c4 w0 bf bh bl wr) (fun i _ => frm + cnt - (intOf i).toNat)
    case atStart => exact ⟨0, Nat.zero_le _, rfl, rfl, KeepX.refl _ _, L⟩
    case round =>
      obtain ⟨k, hk, rfl, hnone, hkx, Lr⟩ := hrel
      have HN := Lib.hid hnone
      clear hnone
      have q4 := Lr.hh.cell 4
      have ql := Lr.hl.cell 0
      simp only [List.getElem?_cons_zero, List.getElem?_cons_succ] at q4 ql
      have hbh := Lr.hh.lt
      have hbl := Lr.hl.lt
      have HOr := hkx.sl HO hA
      have hfk0 : (0 : Int) ≤ ((frm + k : Nat) : Int) := Int.natCast_nonneg _
      obtain ⟨i, hi⟩ : ∃ i, i = frm + k := ⟨_, rfl⟩
      rw [← hi] at hfk0 ⊢
      by_cases hlt : k < cnt
      · have hle : (i : Int) ≤ (h.clips.length : Int) - M := by have := HM.out; omega
        have hi10 : (i : Int) ≤ 10 := by omega
        have HI := Lib.hid hi
        clear hi
        cases hr : h.lv m (out ++ [(i : Int)]) (i + 1) with
        | none =>
          have HNX := Lib.hid (show (List.range' frm (k + 1)).findSome? (fun (i : Nat) => h.lv m (out ++ [(i : Int)]) (i + 1)) = none from find_next HN.out (by rw [← HI.out]; exact hr))
          go_wp2
          obtain ⟨C, hC⟩ : ∃ C, C = Same [⟨bl, 0, none⟩] wr := ⟨_, rfl⟩
          obtain ⟨G, hG⟩ : ∃ G, G = held C wr.drew := ⟨_, rfl⟩
          have fl : ∀ x, (G x).cell? ⟨bl, 0, none⟩ = some (lvFn bf bh bl) := fun x => by
            rw [hG, hC]
            exact same_held ql (by simp) x
          unfold lvFn at fl
          refine region_sched C [0, 1, 3, 6, 7, 8, 9] (.two 2 4 (.one 4 (.one 5 .done)) (.one 2 (.one 5 .done))) 10 (by kernel_rfl) (by kernel_rfl) (by rw [hC]; exact same_drew) ?_
          rw [← hG]
          have HC' := Lib.hid hC
          clear hG hC
          simp only [List.filterMap_cons, List.filterMap_nil, List.getElem?_cons_zero, List.getElem?_cons_succ]
          change wpQuiet _ _ _ _ [_, _, _, _, _, _, _] _
          repeat (go_big_quiet_step (fail))
          refine wpQuiet_nil ?_
          clear fl
          refine wpSch_two rfl rfl (fun K hK => ?_) (fun K hK => ?_)
          · go_simp
            refine (clone_calls A c out _ (HOr.below (gD (Below.refl _ _))) (by omega) hz).mono ?_
            rintro e' w' ⟨A6, c6, rfl, ⟨z, rfl⟩, hown⟩
            have hbz : Below wr.heap.size wr (later wr.drew z) := Below.trans (gD (Below.refl _ _)) (below_later wr.drew z)
            refine hK.out _ _ (by rw [HC'.out]; exact same_below hbz (by simp; omega)) ?_
            clear hK K
            obtain ⟨W6, hW6⟩ : ∃ W6, W6 = later wr.drew z := ⟨_, rfl⟩
            rw [← hW6] at hown hbz ⊢
            clear hW6
            refine wpSch_one rfl (fun K hK => ?_)
            go_simp
            have hb7 : Below wr.heap.size wr (W6.alloc (.cells #[.int .i64 i] 3)) := gA hbz
            refine hK.out _ _ (by rw [HC'.out]; exact same_below hb7 (by simp; omega)) ?_
            clear hK K
            refine wpSch_one rfl (fun K hK => ?_)
            rw [if_pos (by rfl)]
            refine wp_append_own _ _ 47 rfl wr.heap.size 3 i0 (.int .i64 0) 1 8 Try.underlying47 hi0 hz0 hz1 hz2 rfl (by decide) _ _ _ rfl (hown.alloc _) ⟨W6.heap.size, 0, none⟩ 1 1 [.int .i64 i] rfl rfl ?c1 ?c2 ?c3 ?c4 ?c5 ?_
            case c1 => exact news_new _ _ rfl [.int .i64 i] _
            case c2 => simp [Value.oneCell']
            case c3 => unfold maxLen; omega
            case c4 => omega
            case c5 => exact hb7.size
            intro v' w1 hown1 hg1 hob
            obtain ⟨A5, c5, rfl, hs5, hA5, hz5⟩ := own_facts (l := out ++ [(i : Int)]) (by simpa [gI] using hown1) (by simp) (by simp) (by simp; omega)
            have hB1 : Below wr.heap.size wr w1 := grown_below hb7 (hown.alloc _) (Nat.le_refl _) hg1
            have hk1 : KeepX bf wr w1 := KeepX.of_below hB1
            obtain ⟨vb, hvb⟩ := Lr.hf
            have L1 := Lr.keep hk1 (hvb.of_below hB1 hvb.lt)
            have ihc := IH.out (out ++ [(i : Int)]) (i + 1) A5 c5 w1 L1 hs5 (fun _ a ha => by have := hA5 a ha; have := hvb.lt; omega) hz5 (by simp; omega) (by omega)
            rw [show (out ++ [(i : Int)]).length = out.length + 1 by simp] at ihc ⊢
            rw [show ((i + 1 : Nat) : Int) = (i : Int) + 1 by omega, hr] at ihc
            have hC1 : C w1 := by
              rw [HC'.out]
              intro a ha
              simp only [List.mem_cons, List.not_mem_nil, or_false] at ha
              subst ha
              exact hB1.cell hbl
            have IHC := Lib.hid ihc
            have HK1 := Lib.hid hk1
            clear ihc hk1 hown1 hg1 hob hs5 hA5 hz5
            simp only [Act.put, List.setIfInBounds_toArray]
            refine hK.out _ _ hC1 ?_
            clear hK K
            refine wpSch_done rfl (fun K hK => ?_)
            go_simp
            refine IHC.out.mono ?_
            rintro e' W' ⟨rfl, hkx', v2, hv2, hs2⟩
            have HS2 := Lib.hid hs2
            clear hs2
            refine hK.out _ _ (noPanic_mk ?_)
            clear hK K IHC hC1 hvb
            simp only [Option.isSome_none]
            go_wp2
            go_roundw
            case rel => exact ⟨k + 1, by omega, by rw [HI.out]; congr 1, HNX.out, (hkx.trans HK1.out).trans hkx', L1.keep hkx' hv2⟩
            case measure => rw [HI.out]; simp [intOf]; omega
          · go_simp
            obtain ⟨W6, hW6⟩ : ∃ W6, W6 = (wr.alloc (.cells #[.int .i64 i] 3)).drew := ⟨_, rfl⟩
            have hb6 : Below wr.heap.size wr W6 := by rw [hW6]; exact gD (gA (Below.refl _ _))
            have hn6 : ∀ (j : Nat) (u : Value), ([.int .i64 i] : List Value)[j]? = some u → W6.cell? ((⟨wr.heap.size, 0, none⟩ : Addr).add j) = some u := fun j u hu => by
              have := news_new wr _ rfl [.int .i64 i] 3 j u hu
              rw [hW6]
              simpa [go_sem] using this
            rw [← hW6]
            clear hW6
            refine hK.out _ _ (by rw [HC'.out]; exact same_below hb6 (by simp; omega)) ?_
            clear hK K
            refine wpSch_one rfl (fun K hK => ?_)
            go_simp
            refine (clone_calls A c out _ (HOr.below hb6) (by omega) hz).mono ?_
            rintro e' w' ⟨A6, c6, rfl, ⟨z, rfl⟩, hown⟩
            have hb7 : Below wr.heap.size wr (later W6 z) := later_below hb6 hb6.size
            refine hK.out _ _ (by rw [HC'.out]; exact same_below hb7 (by simp; omega)) ?_
            clear hK K
            refine wpSch_one rfl (fun K hK => ?_)
            rw [if_pos (by rfl)]
            refine wp_append_own _ _ 47 rfl W6.heap.size 3 i0 (.int .i64 0) 1 8 Try.underlying47 hi0 hz0 hz1 hz2 rfl (by decide) _ _ _ rfl hown ⟨wr.heap.size, 0, none⟩ 1 1 [.int .i64 i] rfl rfl ?c1 ?c2 ?c3 ?c4 ?c5 ?_
            case c1 =>
              intro j u hu
              have := hn6 j u hu
              exact ((below_later W6 z).cell (World.block_lt_of_cell? W6 _ this)).trans this
            case c2 => simp [Value.oneCell']
            case c3 => unfold maxLen; omega
            case c4 => omega
            case c5 => exact size_later _ _
            intro v' w1 hown1 hg1 hob
            have hb6s := hb6.size
            obtain ⟨A5, c5, rfl, hs5, hA5, hz5⟩ := own_facts (l := out ++ [(i : Int)]) (by simpa [gI] using hown1) (by simp) (by simp) (by simp; omega)
            have hB1 : Below wr.heap.size wr w1 := grown_below hb7 hown hb6s hg1
            have hk1 : KeepX bf wr w1 := KeepX.of_below hB1
            obtain ⟨vb, hvb⟩ := Lr.hf
            have L1 := Lr.keep hk1 (hvb.of_below hB1 hvb.lt)
            have ihc := IH.out (out ++ [(i : Int)]) (i + 1) A5 c5 w1 L1 hs5 (fun _ a ha => by have := hA5 a ha; have := hvb.lt; omega) hz5 (by simp; omega) (by omega)
            rw [show (out ++ [(i : Int)]).length = out.length + 1 by simp] at ihc ⊢
            rw [show ((i + 1 : Nat) : Int) = (i : Int) + 1 by omega, hr] at ihc
            have hC1 : C w1 := by
              rw [HC'.out]
              intro a ha
              simp only [List.mem_cons, List.not_mem_nil, or_false] at ha
              subst ha
              exact hB1.cell hbl
            have IHC := Lib.hid ihc
            have HK1 := Lib.hid hk1
            clear ihc hk1 hown1 hg1 hob hs5 hA5 hz5
            simp only [Act.put, List.setIfInBounds_toArray]
            refine hK.out _ _ hC1 ?_
            clear hK K
            refine wpSch_done rfl (fun K hK => ?_)
            go_simp
            refine IHC.out.mono ?_
            rintro e' W' ⟨rfl, hkx', v2, hv2, hs2⟩
            have HS2 := Lib.hid hs2
            clear hs2
            refine hK.out _ _ (noPanic_mk ?_)
            clear hK K IHC hC1 hvb
            simp only [Option.isSome_none]
            go_wp2
            go_roundw
            case rel => exact ⟨k + 1, by omega, by rw [HI.out]; congr 1, HNX.out, (hkx.trans HK1.out).trans hkx', L1.keep hkx' hv2⟩
            case measure => rw [HI.out]; simp [intOf]; omega
        | some s =>
          have HSX := Lib.hid (show h.lv (m + 1) out frm = some s by rw [HLV.out]; exact find_at hlt HN.out (by rw [← HI.out]; exact hr))
          go_wp2
          obtain ⟨C, hC⟩ : ∃ C, C = Same [⟨bl, 0, none⟩] wr := ⟨_, rfl⟩
          obtain ⟨G, hG⟩ : ∃ G, G = held C wr.drew := ⟨_, rfl⟩
          have fl : ∀ x, (G x).cell? ⟨bl, 0, none⟩ = some (lvFn bf bh bl) := fun x => by
            rw [hG, hC]
            exact same_held ql (by simp) x
          unfold lvFn at fl
          refine region_sched C [0, 1, 3, 6, 7, 8, 9] (.two 2 4 (.one 4 (.one 5 .done)) (.one 2 (.one 5 .done))) 10 (by kernel_rfl) (by kernel_rfl) (by rw [hC]; exact same_drew) ?_
          rw [← hG]
          have HC' := Lib.hid hC
          clear hG hC
          simp only [List.filterMap_cons, List.filterMap_nil, List.getElem?_cons_zero, List.getElem?_cons_succ]
          change wpQuiet _ _ _ _ [_, _, _, _, _, _, _] _
          repeat (go_big_quiet_step (fail))
          refine wpQuiet_nil ?_
          clear fl
          refine wpSch_two rfl rfl (fun K hK => ?_) (fun K hK => ?_)
          · go_simp
            refine (clone_calls A c out _ (HOr.below (gD (Below.refl _ _))) (by omega) hz).mono ?_
            rintro e' w' ⟨A6, c6, rfl, ⟨z, rfl⟩, hown⟩
            have hbz : Below wr.heap.size wr (later wr.drew z) := Below.trans (gD (Below.refl _ _)) (below_later wr.drew z)
            refine hK.out _ _ (by rw [HC'.out]; exact same_below hbz (by simp; omega)) ?_
            clear hK K
            obtain ⟨W6, hW6⟩ : ∃ W6, W6 = later wr.drew z := ⟨_, rfl⟩
            rw [← hW6] at hown hbz ⊢
            clear hW6
            refine wpSch_one rfl (fun K hK => ?_)
            go_simp
            have hb7 : Below wr.heap.size wr (W6.alloc (.cells #[.int .i64 i] 3)) := gA hbz
            refine hK.out _ _ (by rw [HC'.out]; exact same_below hb7 (by simp; omega)) ?_
            clear hK K
            refine wpSch_one rfl (fun K hK => ?_)
            rw [if_pos (by rfl)]
            refine wp_append_own _ _ 47 rfl wr.heap.size 3 i0 (.int .i64 0) 1 8 Try.underlying47 hi0 hz0 hz1 hz2 rfl (by decide) _ _ _ rfl (hown.alloc _) ⟨W6.heap.size, 0, none⟩ 1 1 [.int .i64 i] rfl rfl ?c1 ?c2 ?c3 ?c4 ?c5 ?_
            case c1 => exact news_new _ _ rfl [.int .i64 i] _
            case c2 => simp [Value.oneCell']
            case c3 => unfold maxLen; omega
            case c4 => omega
            case c5 => exact hb7.size
            intro v' w1 hown1 hg1 hob
            obtain ⟨A5, c5, rfl, hs5, hA5, hz5⟩ := own_facts (l := out ++ [(i : Int)]) (by simpa [gI] using hown1) (by simp) (by simp) (by simp; omega)
            have hB1 : Below wr.heap.size wr w1 := grown_below hb7 (hown.alloc _) (Nat.le_refl _) hg1
            have hk1 : KeepX bf wr w1 := KeepX.of_below hB1
            obtain ⟨vb, hvb⟩ := Lr.hf
            have L1 := Lr.keep hk1 (hvb.of_below hB1 hvb.lt)
            have ihc := IH.out (out ++ [(i : Int)]) (i + 1) A5 c5 w1 L1 hs5 (fun _ a ha => by have := hA5 a ha; have := hvb.lt; omega) hz5 (by simp; omega) (by omega)
            rw [show (out ++ [(i : Int)]).length = out.length + 1 by simp] at ihc ⊢
            rw [show ((i + 1 : Nat) : Int) = (i : Int) + 1 by omega, hr] at ihc
            have hC1 : C w1 := by
              rw [HC'.out]
              intro a ha
              simp only [List.mem_cons, List.not_mem_nil, or_false] at ha
              subst ha
              exact hB1.cell hbl
            have IHC := Lib.hid ihc
            have HK1 := Lib.hid hk1
            clear ihc hk1 hown1 hg1 hob hs5 hA5 hz5
            simp only [Act.put, List.setIfInBounds_toArray]
            refine hK.out _ _ hC1 ?_
            clear hK K
            refine wpSch_done rfl (fun K hK => ?_)
            go_simp
            refine IHC.out.mono ?_
            rintro e' W' ⟨rfl, hkx', v2, hv2, hs2⟩
            have HS2 := Lib.hid hs2
            clear hs2
            refine hK.out _ _ (noPanic_mk ?_)
            clear hK K IHC hC1 hvb
            simp only [Option.isSome_some]
            go_wp2
            go_ret
            exact ⟨by rw [HSX.out]; rfl, (hkx.trans HK1.out).trans hkx', v2, hv2, fun s' hs' => HS2.out s' (by rw [HSX.out] at hs'; exact hs')⟩
          · go_simp
            obtain ⟨W6, hW6⟩ : ∃ W6, W6 = (wr.alloc (.cells #[.int .i64 i] 3)).drew := ⟨_, rfl⟩
            have hb6 : Below wr.heap.size wr W6 := by rw [hW6]; exact gD (gA (Below.refl _ _))
            have hn6 : ∀ (j : Nat) (u : Value), ([.int .i64 i] : List Value)[j]? = some u → W6.cell? ((⟨wr.heap.size, 0, none⟩ : Addr).add j) = some u := fun j u hu => by
              have := news_new wr _ rfl [.int .i64 i] 3 j u hu
              rw [hW6]
              simpa [go_sem] using this
            rw [← hW6]
            clear hW6
            refine hK.out _ _ (by rw [HC'.out]; exact same_below hb6 (by simp; omega)) ?_
            clear hK K
            refine wpSch_one rfl (fun K hK => ?_)
            go_simp
            refine (clone_calls A c out _ (HOr.below hb6) (by omega) hz).mono ?_
            rintro e' w' ⟨A6, c6, rfl, ⟨z, rfl⟩, hown⟩
            have hb7 : Below wr.heap.size wr (later W6 z) := later_below hb6 hb6.size
            refine hK.out _ _ (by rw [HC'.out]; exact same_below hb7 (by simp; omega)) ?_
            clear hK K
            refine wpSch_one rfl (fun K hK => ?_)
            rw [if_pos (by rfl)]
            refine wp_append_own _ _ 47 rfl W6.heap.size 3 i0 (.int .i64 0) 1 8 Try.underlying47 hi0 hz0 hz1 hz2 rfl (by decide) _ _ _ rfl hown ⟨wr.heap.size, 0, none⟩ 1 1 [.int .i64 i] rfl rfl ?c1 ?c2 ?c3 ?c4 ?c5 ?_
            case c1 =>
              intro j u hu
              have := hn6 j u hu
              exact ((below_later W6 z).cell (World.block_lt_of_cell? W6 _ this)).trans this
            case c2 => simp [Value.oneCell']
            case c3 => unfold maxLen; omega
            case c4 => omega
            case c5 => exact size_later _ _
            intro v' w1 hown1 hg1 hob
            have hb6s := hb6.size
            obtain ⟨A5, c5, rfl, hs5, hA5, hz5⟩ := own_facts (l := out ++ [(i : Int)]) (by simpa [gI] using hown1) (by simp) (by simp) (by simp; omega)
            have hB1 : Below wr.heap.size wr w1 := grown_below hb7 hown hb6s hg1
            have hk1 : KeepX bf wr w1 := KeepX.of_below hB1
            obtain ⟨vb, hvb⟩ := Lr.hf
            have L1 := Lr.keep hk1 (hvb.of_below hB1 hvb.lt)
            have ihc := IH.out (out ++ [(i : Int)]) (i + 1) A5 c5 w1 L1 hs5 (fun _ a ha => by have := hA5 a ha; have := hvb.lt; omega) hz5 (by simp; omega) (by omega)
            rw [show (out ++ [(i : Int)]).length = out.length + 1 by simp] at ihc ⊢
            rw [show ((i + 1 : Nat) : Int) = (i : Int) + 1 by omega, hr] at ihc
            have hC1 : C w1 := by
              rw [HC'.out]
              intro a ha
              simp only [List.mem_cons, List.not_mem_nil, or_false] at ha
              subst ha
              exact hB1.cell hbl
            have IHC := Lib.hid ihc
            have HK1 := Lib.hid hk1
            clear ihc hk1 hown1 hg1 hob hs5 hA5 hz5
            simp only [Act.put, List.setIfInBounds_toArray]
            refine hK.out _ _ hC1 ?_
            clear hK K
            refine wpSch_done rfl (fun K hK => ?_)
            go_simp
            refine IHC.out.mono ?_
            rintro e' W' ⟨rfl, hkx', v2, hv2, hs2⟩
            have HS2 := Lib.hid hs2
            clear hs2
            refine hK.out _ _ (noPanic_mk ?_)
            clear hK K IHC hC1 hvb
            simp only [Option.isSome_some]
            go_wp2
            go_ret
            exact ⟨by rw [HSX.out]; rfl, (hkx.trans HK1.out).trans hkx', v2, hv2, fun s' hs' => HS2.out s' (by rw [HSX.out] at hs'; exact hs')⟩
      · obtain rfl : k = cnt := by omega
        have hle : ¬ (i : Int) ≤ (h.clips.length : Int) - M := by have := HM.out; omega
        have HF := Lib.hid (show h.lv (m + 1) out frm = none by rw [HLV.out, HN.out])
        have HI := Lib.hid hi
        clear hi
        go_wp2
        go_ret
        obtain ⟨v, hv⟩ := Lr.hf
        exact ⟨by rw [HF.out]; rfl, hkx, v, hv, fun s hs => by rw [HF.out] at hs; cases hs⟩
end Go.Proofs.Ytcngnfnljkkjgaa
