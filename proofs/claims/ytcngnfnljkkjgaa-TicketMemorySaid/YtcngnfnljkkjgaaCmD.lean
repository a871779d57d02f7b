/-
All errors of the clocks come from an iterator: the closure that chooses them clock by clock, and what it asks of a loop's body.
-/
import Derived.Test.YtcngnfnljkkjgaaCmC
import Derived.RangeFuncNested
import Derived.RangeFuncBound
import Derived.RangeFuncCalls
import Derived.RangeFuncLeaves
import Derived.OwnWalkIn
import Derived.TacticsInMore
import Derived.LoopNIn
import Derived.LoopIn
namespace Go.Proofs.Ytcngnfnljkkjgaa
open Go.RowKit
attribute [local go_sem] cell_later frozen_later lt_later le_later
attribute [local go_sem] Oper.semAt_some

theorem roundIn_any {m m' : Nat} {P : Program} {l : Nat} {f : FuncId} {tmps : Array Value} {assign body : Code} {w : World} {R : Ending → World → Prop}
    (h : RoundIn Fence.wide m P l f tmps assign body w R) : RoundIn Fence.wide m' P l f tmps assign body w R := ⟨h.1, fun c cs _ => h.2 c cs (room_wide _)⟩
theorem yieldAt_any {m m' : Nat} {P : Program} {l : Nat} {args : Array Value} {W : World} {R : Ending → World → Prop} (h : YieldAt Fence.wide m P l args W R) : YieldAt Fence.wide m' P l args W R := by
  obtain ⟨fn, tmps, assign, body, hy, hR⟩ := h
  exact ⟨fn, tmps, assign, body, hy, roundIn_any hR⟩
theorem callsIn_any {m m' : Nat} {P : Program} {f : FuncId} {args : Array Value} {w : World} {R : Ending → World → Prop} (h : CallsIn Fence.wide m P f args w R) : CallsIn Fence.wide m' P f args w R := callsIn_wide.2 (callsIn_wide.1 h)

/-- Four numbers as cells. -/
def fV (f : Nat → Int) : List Value := [.int .i64 (f 0), .int .i64 (f 1), .int .i64 (f 2), .int .i64 (f 3)]
theorem fV_set (f : Nat → Int) {c : Nat} (hc : c < 4) (n : Int) : (fV f).set c (.int .i64 n) = fV (fun i => if i = c then n else f i) := by
  have : c = 0 ∨ c = 1 ∨ c = 2 ∨ c = 3 := by omega
  rcases this with rfl | rfl | rfl | rfl <;> simp [fV]

/-- The world W' is as W but for block b, and what is new. -/
structure KeepX (b : Nat) (W W' : World) : Prop where
  os : W'.os = W.os
  tape : W'.tape = W.tape
  output : W'.output = W.output
  size : W.heap.size ≤ W'.heap.size
  block : ∀ k, k < W.heap.size → k ≠ b → W'.heap[k]? = W.heap[k]?
theorem KeepX.refl (b : Nat) (W : World) : KeepX b W W := ⟨rfl, rfl, rfl, Nat.le_refl _, fun _ _ _ => rfl⟩
theorem KeepX.trans {b : Nat} {A B C : World} (h : KeepX b A B) (k : KeepX b B C) : KeepX b A C :=
  ⟨k.os.trans h.os, k.tape.trans h.tape, k.output.trans h.output, Nat.le_trans h.size k.size, fun i hi hb => (k.block i (Nat.lt_of_lt_of_le hi h.size) hb).trans (h.block i hi hb)⟩
theorem KeepX.of_below {b : Nat} {W W' : World} (h : Below W.heap.size W W') : KeepX b W W' := ⟨h.os, h.tape, h.output, h.size, fun k hk _ => h.block k hk⟩
theorem KeepX.set_ {b : Nat} (W : World) (i : Nat) (u : Value) : KeepX b W (W.setCell ⟨b, i, none⟩ u) :=
  ⟨rfl, rfl, rfl, by simp, fun k _ hb => Below.heap_setCell W ⟨b, i, none⟩ u k hb⟩
theorem KeepX.cell {b : Nat} {W W' : World} (h : KeepX b W W') {p : Addr} {v : Value} (hp : W.cell? p = some v) (hb : p.block ≠ b) : W'.cell? p = some v :=
  (World.cell?_of_block (w := W) (h.block p.block (World.block_lt_of_cell? W _ hp) hb)).trans hp
theorem KeepX.sl {α : Type} {b : Nat} {W W' : World} {k : Nat} {g : α → List Value} {A : Option Addr} {c : Nat} {l : List α} (h : KeepX b W W') (H : SlA W k g A c l) (hA : l ≠ [] → ∀ a, A = some a → a.block ≠ b) : SlA W' k g A c l :=
  ⟨H.1, H.2.1, fun hn => by
    obtain ⟨bb, off, e, hlt, hc⟩ := H.2.2 hn
    exact ⟨bb, off, e, Nat.lt_of_lt_of_le hlt h.size, fun i x hx j u hu => h.cell (p := ⟨bb, _, none⟩) (hc i x hx j u hu) (by simpa using hA hn _ e)⟩⟩

/-- What the iterator reads: the house's clocks, yield, itself. -/
structure ItAt (h : Hs) (A2 : Option Addr) (c2 l Bh By Be Bc : Nat) (W : World) : Prop where
  hh : W.cell? ⟨Bh, 2, none⟩ = some (.slice A2 h.clocks.length c2)
  sl : SlA W 2 gR A2 c2 h.clocks
  hy : W.cell? ⟨By, 0, none⟩ = some (.func (.yield l) #[] #[])
  hc : W.cell? ⟨Bc, 0, none⟩ = some (.func (.func 135) #[] #[.pointer (some ⟨Bh, 0, none⟩), .pointer (some ⟨By, 0, none⟩), .pointer (some ⟨Be, 0, none⟩), .pointer (some ⟨Bc, 0, none⟩)])
  nh : Bh ≠ Be
  ny : By ≠ Be
  nc : Bc ≠ Be
  na : h.clocks ≠ [] → ∀ a, A2 = some a → a.block ≠ Be
theorem ItAt.keep {h : Hs} {A2 : Option Addr} {c2 l Bh By Be Bc : Nat} {W W' : World} (H : ItAt h A2 c2 l Bh By Be Bc W) (k : KeepX Be W W') : ItAt h A2 c2 l Bh By Be Bc W' :=
  ⟨k.cell H.hh H.nh, k.sl H.sl H.na, k.cell H.hy H.ny, k.cell H.hc H.nc, H.nh, H.ny, H.nc, H.na⟩

/-- What a call of the closure leaves: all errors with this beginning have come; or some have, and a round has said 'no more'. -/
def ChooseR (I Ix : List (List Int) → World → Prop) (Be : Nat) (n : Nat) (pre ys : List (List Int)) (p : List Int) (e : Ending) (W' : World) : Prop :=
  (e = .returned (.bool true) ∧ I (pre ++ ys) W' ∧ ∃ f, BlkAt W' Be 119 (fV f) ∧ (∀ i, i < p.length → f i = p.getD i 0) ∧ ∀ i, n ≤ i → f i = 0) ∨
  (e = .returned (.bool false) ∧ ∃ zs, zs ≠ [] ∧ zs <+: ys ∧ Ix (pre ++ zs) W')

set_option maxHeartbeats 2000000 in
theorem choose_in (h : Hs) (A2 : Option Addr) (c2 l Bh By Be Bc : Nat) (hn : h.clocks.length ≤ 4) (hr : ∀ r ∈ h.clocks, -30 ≤ r.lo ∧ r.lo ≤ r.hi ∧ r.hi ≤ 30)
    (I Ix : List (List Int) → World → Prop) (hI : ∀ pre W W', I pre W → KeepX Be W W' → I pre W') (hIt : ∀ pre W, I pre W → ItAt h A2 c2 l Bh By Be Bc W)
    (hY : ∀ pre p W, (pre ++ [p]) <+: prods h.clocks → I pre W → YieldAt Fence.wide 0 Try.prog l #[.agg (e4 p).toArray] W fun e W' =>
      (e = .returned (.bool true) ∧ I (pre ++ [p]) W' ∧ W'.heap[Be]? = W.heap[Be]?) ∨ (e = .returned (.bool false) ∧ Ix (pre ++ [p]) W')) :
    ∀ (m c : Nat), c + m = h.clocks.length → ∀ (p : List Int) (f : Nat → Int) (pre : List (List Int)) (W : World), p.length = c → (∀ i, i < c → f i = p.getD i 0) → (∀ i, h.clocks.length ≤ i → f i = 0) →
      (pre ++ (prods (h.clocks.drop c)).map fun e => p ++ e) <+: prods h.clocks → BlkAt W Be 119 (fV f) → I pre W →
      CallsIn Fence.wide 0 Try.prog 135 #[.int .i64 c, .pointer (some ⟨Bh, 0, none⟩), .pointer (some ⟨By, 0, none⟩), .pointer (some ⟨Be, 0, none⟩), .pointer (some ⟨Bc, 0, none⟩)] W
        (ChooseR I Ix Be h.clocks.length pre ((prods (h.clocks.drop c)).map fun e => p ++ e) p) := by
  intro m
  have hdd : ∀ k : Nat, (Fence.wide.depth.isSome = true → 1 ≤ k) := fun k h => by cases h
  induction m with
  | zero =>
    intro c hcm p f pre W hp hf hz hmem hB hi
    obtain rfl : c = h.clocks.length := by omega
    have hpm : (pre ++ [p]) <+: prods h.clocks := by simpa [prods] using hmem
    have It := hIt _ _ hi
    have hh := It.hh
    have hyv := It.hy
    have hall : ∀ i, f i = p.getD i 0 := by
      intro i
      rcases Nat.lt_or_ge i h.clocks.length with h1 | h1
      · exact hf i h1
      · rw [hz i h1, List.getD_eq_getElem?_getD, List.getElem?_eq_none (by omega)]; rfl
    have hfe : fV f = e4 p := by simp only [fV, e4, hall]
    have hB' := hB
    rw [hfe] at hB
    obtain ⟨fn, tmps, assign, body, hyr, hR⟩ := hY pre p W hpm hi
    have hR := roundIn_any (m' := 0 - 1) hR
    obtain ⟨a0, a1, a2, a3, h4⟩ : ∃ a0 a1 a2 a3 : Int, e4 p = [.int .i64 a0, .int .i64 a1, .int .i64 a2, .int .i64 a3] := ⟨_, _, _, _, rfl⟩
    rw [h4] at hB hyr
    have k0 := hB.cell 0
    have k1 := hB.cell 1
    have k2 := hB.cell 2
    have k3 := hB.cell 3
    simp only [List.getElem?_cons_zero, List.getElem?_cons_succ] at k0 k1 k2 k3
    have H4 := Lib.hid h4
    have HA := Lib.hid hall
    have HP := Lib.hid hp
    have HFE := Lib.hid hfe
    clear h4 hall hp hfe hf hz hmem hI hIt hY hr
    refine callsIn_of_wp Try.func135 rfl trivial ?_ rfl
    simp only [Try.ntmps135, List.size_toArray, List.length_cons, List.length_nil, Nat.reduceAdd, Nat.reduceSub, Array.replicate_succ, Array.replicate_zero, List.push_toArray, List.append_toArray, List.nil_append, List.cons_append]
    gi_wp2
    refine ⟨rfl, ?_⟩
    refine hR.mono ?_
    rintro e W' (⟨rfl, hi', hbk⟩ | ⟨rfl, hx⟩)
    · gi_wp2
      go_ret
      exact .inl ⟨rfl, by rw [List.drop_length]; simpa [prods] using hi', f, by unfold BlkAt at hB' ⊢; rw [hbk]; exact hB', (fun i _ => HA.out i), (fun i hi => by rw [HA.out, List.getD_eq_getElem?_getD, List.getElem?_eq_none (by rw [HP.out]; exact hi)]; rfl)⟩
    · gi_wp2
      go_ret
      exact .inr ⟨rfl, [p], by simp, by rw [List.drop_length]; simp [prods], hx⟩
  | succ m ih =>
    intro c hcm p f pre W hp hf hz hmem hB hi
    have hcl : c < h.clocks.length := by omega
    obtain ⟨r, hrc⟩ : ∃ r, h.clocks[c]? = some r := ⟨_, List.getElem?_eq_getElem hcl⟩
    have hdrop : h.clocks.drop c = r :: h.clocks.drop (c + 1) := by
      rw [List.drop_eq_getElem_cons hcl]
      congr 1
      exact (List.getElem?_eq_some_iff.1 hrc).2
    have hrr := hr r (List.mem_of_getElem? hrc)
    have ihc := ih (c + 1) (by omega)
    have hcast : ((c + 1 : Nat) : Int) = (c : Int) + 1 := by omega
    rw [hcast] at ihc
    -- what has come when k rounds are over
    obtain ⟨upto, hup⟩ : ∃ upto : Nat → List (List Int), ∀ k, upto k = ((List.range k).flatMap fun (n : Nat) => (prods (h.clocks.drop (c + 1))).map fun e => p ++ ((r.lo + (n : Int)) :: e)) := ⟨_, fun _ => rfl⟩
    have hupS : ∀ k, upto (k + 1) = upto k ++ (prods (h.clocks.drop (c + 1))).map fun e => (p ++ [r.lo + (k : Int)]) ++ e := by
      intro k
      rw [hup, hup, List.range_succ, List.flatMap_append]
      simp
    have hupAll : ((prods (h.clocks.drop c)).map fun e => p ++ e) = upto r.size.toNat := by
      rw [hup, hdrop]
      simp only [prods, List.map_flatMap, List.map_map]
      rfl
    have hup0 : upto 0 = [] := by rw [hup]; rfl
    rw [hupAll] at hmem ⊢
    have hpre : ∀ k, k ≤ r.size.toNat → upto k <+: upto r.size.toNat := by
      intro k hk
      obtain ⟨d, hd⟩ : ∃ d, r.size.toNat = k + d := ⟨r.size.toNat - k, by omega⟩
      rw [hd]
      clear hd hk
      induction d with
      | zero => exact List.prefix_refl _
      | succ d ihd => exact ihd.trans (by rw [← Nat.add_assoc, hupS]; exact List.prefix_append _ _)
    have It := hIt _ _ hi
    have hh := It.hh
    have hsz := It.sl
    have hne : ((c : Int) == (h.clocks.length : Int)) = false := by simp; omega
    have HUPS := Lib.hid hupS
    have HUP0 := Lib.hid hup0
    have HPRE := Lib.hid hpre
    have HRC := Lib.hid hrc
    have HD := Lib.hid hdrop
    have HP := Lib.hid hp
    have HF := Lib.hid hf
    have HZ := Lib.hid hz
    have HM := Lib.hid hmem
    have HI := Lib.hid hI
    have HIt := Lib.hid hIt
    have HIH := Lib.hid ihc
    obtain ⟨r1, r2, r3⟩ := hrr
    obtain ⟨b, off, r', hA2, hbl, hr', g1, g2⟩ := hsz.atR hcl
    obtain rfl : r' = r := by rw [HRC.out] at hr'; exact (Option.some.inj hr').symm
    subst hA2
    have hc0 : (0 : Int) ≤ (c : Int) := Int.natCast_nonneg _
    have hc1 : (c : Int) < (h.clocks.length : Int) := by omega
    have hsize : r'.size.toNat = (r'.hi - r'.lo + 1).toNat := rfl
    have HSZ := Lib.hid hsize
    clear hupS hup0 hpre hrc hdrop hp hf hz hmem hI hIt ihc ih hY hr hup hupAll hr' hsize hdd
    refine callsIn_of_wp Try.func135 rfl trivial ?_ rfl
    simp only [Try.ntmps135, List.size_toArray, List.length_cons, List.length_nil, Nat.reduceAdd, Nat.reduceSub, Array.replicate_succ, Array.replicate_zero, List.push_toArray, List.append_toArray, List.nil_append, List.cons_append]
    have hfn : ∀ f, Fence.wide.fn f := fun _ => trivial
    have hdep : Fence.wide.depth = none := rfl
    gi_wp2_with (gi_at_call 99; refine (callsIn_wide.2 (size_calls _ _ _ (by omega) (by omega) (by omega) (by omega))).mono ?_; (rintro e w' hr; first | ((with_reducible replace hr := Ret.up hr); obtain ⟨rfl, z, rfl⟩ := hr) | (obtain ⟨rfl, z, rfl⟩ := hr)))
    gi_loopw [22] (fun i wr => ∃ (k : Nat) (f : Nat → Int), k ≤ (r'.hi - r'.lo + 1).toNat ∧ i = .int .i64 k ∧ I (pre ++ upto k) wr ∧ BlkAt wr Be 119 (fV f) ∧ (∀ j, j < c → f j = p.getD j 0) ∧ (∀ j, h.clocks.length ≤ j → f j = 0)) (fun i _ => (r'.hi - r'.lo + 1).toNat - (intOf i).toNat)
    case atStart => exact ⟨0, f, Nat.zero_le _, rfl, by rw [HUP0.out, List.append_nil]; exact HI.out _ _ _ hi (KeepX.of_below (below_later _ _)), hB.later, HF.out, HZ.out⟩
    case round =>
      obtain ⟨k, f', hk, rfl, hi', hB', hf', hz'⟩ := hrel
      have It := HIt.out _ _ hi'
      have hh' := It.hh
      obtain ⟨b', off', r2', he, hbl', hr2, g1', g2'⟩ := It.sl.atR hcl
      cases he
      obtain rfl : r2' = r' := by rw [HRC.out] at hr2; exact (Option.some.inj hr2).symm
      have hgl := hB'.lt
      obtain ⟨u, hu⟩ : ∃ u, wr.cell? ⟨Be, c, none⟩ = some u := ⟨_, (hB'.cell c).trans (List.getElem?_eq_getElem (by simp [fV]; omega))⟩
      have hfz := hB'.frozen c
      have hcc := fun u => (It.keep (KeepX.set_ wr c u)).hc
      by_cases hlt : k < (r2'.hi - r2'.lo + 1).toNat
      · have hlt' : (k : Int) < r2'.hi - r2'.lo + 1 := by omega
        have hnext : CallsIn Fence.wide 0 Try.prog 135 #[.int .i64 ((c : Int) + 1), .pointer (some ⟨Bh, 0, none⟩), .pointer (some ⟨By, 0, none⟩), .pointer (some ⟨Be, 0, none⟩), .pointer (some ⟨Bc, 0, none⟩)] (wr.setCell ⟨Be, c, none⟩ (.int .i64 (r2'.lo + (k : Int))))
            (ChooseR I Ix Be h.clocks.length (pre ++ upto k) ((prods (h.clocks.drop (c + 1))).map fun e => (p ++ [r2'.lo + (k : Int)]) ++ e) (p ++ [r2'.lo + (k : Int)])) := by
          refine HIH.out (p ++ [r2'.lo + (k : Int)]) (fun i => if i = c then r2'.lo + (k : Int) else f' i) (pre ++ upto k) _ (by simp [HP.out]) ?_ ?_ ?_ ?_ (HI.out _ _ _ hi' (KeepX.set_ wr c _))
          · intro i hi2
            by_cases hic : i = c
            · subst hic
              simp [List.getD_eq_getElem?_getD, ← HP.out]
            · simp only [if_neg hic]
              rw [hf' i (by omega), List.getD_eq_getElem?_getD, List.getD_eq_getElem?_getD, List.getElem?_append_left (by rw [HP.out]; omega)]
          · intro i hi2
            simp only [if_neg (show i ≠ c by omega)]
            exact hz' i hi2
          · rw [List.append_assoc, ← HUPS.out]
            refine List.IsPrefix.trans ?_ HM.out
            obtain ⟨t, ht⟩ := HPRE.out (k + 1) (by rw [HSZ.out]; omega)
            exact ⟨t, by rw [List.append_assoc, ht]⟩
          · have := hB'.set_ c (.int .i64 (r2'.lo + (k : Int)))
            rw [fV_set f' (by omega)] at this
            exact this
        have HNX := Lib.hid hnext
        have HF' := Lib.hid hf'
        have HZ' := Lib.hid hz'
        clear hnext hf' hz' hr2
        gi_wp2_with (gi_at_call 135; refine (callsIn_any HNX.out).mono ?_; rintro e W' (⟨rfl, hi2, f2, hB2, hf2, hz2⟩ | ⟨rfl, zs, hzs, hpz, hx⟩))
        · go_roundw
          case rel => exact ⟨k + 1, f2, by omega, by go_num, by rw [HUPS.out, ← List.append_assoc]; exact hi2, hB2, (fun j hj => by
            rw [hf2 j (by simp [HP.out]; omega), List.getD_eq_getElem?_getD, List.getD_eq_getElem?_getD, List.getElem?_append_left (by rw [HP.out]; exact hj)]), hz2⟩
          case measure => simp [intOf]; omega
        · go_ret
          exact .inr ⟨rfl, upto k ++ zs, by simp [hzs], by
            refine List.IsPrefix.trans ?_ (HPRE.out (k + 1) (by rw [HSZ.out]; omega))
            rw [HUPS.out]
            obtain ⟨t, ht⟩ := hpz
            exact ⟨t, by rw [List.append_assoc, ht]⟩, by rw [← List.append_assoc]; exact hx⟩
      · obtain rfl : k = (r2'.hi - r2'.lo + 1).toNat := by omega
        have hge : ¬ ((((r2'.hi - r2'.lo + 1).toNat : Nat) : Int) < r2'.hi - r2'.lo + 1) := by omega
        have HF' := Lib.hid hf'
        have HZ' := Lib.hid hz'
        clear hf' hz'
        gi_wp2
        go_ret
        exact .inl ⟨rfl, by rw [HSZ.out]; exact hi', f', hB', (fun i hi2 => HF'.out i (by rw [← HP.out]; exact hi2)), HZ'.out⟩
end Go.Proofs.Ytcngnfnljkkjgaa
