/-
A loop over all errors of the clocks: what is owed for its body, and what holds behind it.
Whether all clips but some have a truth.
-/
import Derived.Test.YtcngnfnljkkjgaaCmD
import Derived.Laws.EntriesVeiled
namespace Go.Proofs.Ytcngnfnljkkjgaa
open Go.RowKit
attribute [local go_sem] cell_later frozen_later lt_later le_later
attribute [local go_sem] Oper.semAt_some

/-- The world W' is as W but for the blocks from N on, m of them, and what is new. -/
structure KeepR (N m : Nat) (W W' : World) : Prop where
  os : W'.os = W.os
  tape : W'.tape = W.tape
  output : W'.output = W.output
  size : W.heap.size ≤ W'.heap.size
  block : ∀ k, k < W.heap.size → (k < N ∨ N + m ≤ k) → W'.heap[k]? = W.heap[k]?
theorem KeepR.of_X {N m b : Nat} {W W' : World} (h : KeepX b W W') (hb : N ≤ b) (hb2 : b < N + m) : KeepR N m W W' := ⟨h.os, h.tape, h.output, h.size, fun k hk hkk => h.block k hk (by omega)⟩
theorem KeepR.of_below {N m : Nat} {W W' : World} (h : Below W.heap.size W W') : KeepR N m W W' := ⟨h.os, h.tape, h.output, h.size, fun k hk _ => h.block k hk⟩
theorem KeepR.trans {N m : Nat} {A B C : World} (h : KeepR N m A B) (k : KeepR N m B C) : KeepR N m A C :=
  ⟨k.os.trans h.os, k.tape.trans h.tape, k.output.trans h.output, Nat.le_trans h.size k.size, fun i hi hb => (k.block i (Nat.lt_of_lt_of_le hi h.size) hb).trans (h.block i hi hb)⟩
theorem KeepR.wider {N m N' m' : Nat} {W W' : World} (h : KeepR N m W W') (h1 : N' ≤ N) (h2 : N + m ≤ N' + m') : KeepR N' m' W W' := ⟨h.os, h.tape, h.output, h.size, fun k hk hkk => h.block k hk (by omega)⟩
theorem KeepR.put {N m r : Nat} (W : World) (o : Obj) (hr : N ≤ r) (hr2 : r < N + m) : KeepR N m W (W.putObj r o) :=
  ⟨rfl, rfl, rfl, by simp, fun k _ hkk => World.putObj_heap_other (by omega)⟩
/-- The blocks from N on, m of them, lie as they lay. -/
structure PrivKeep (N m : Nat) (W W' : World) : Prop where
  size : W.heap.size ≤ W'.heap.size
  block : ∀ k, N ≤ k → k < N + m → W'.heap[k]? = W.heap[k]?
theorem PrivKeep.refl (N m : Nat) (W : World) : PrivKeep N m W W := ⟨Nat.le_refl _, fun _ _ _ => rfl⟩
theorem PrivKeep.trans {N m : Nat} {A B C : World} (h : PrivKeep N m A B) (k : PrivKeep N m B C) : PrivKeep N m A C := ⟨Nat.le_trans h.size k.size, fun i h1 h2 => (k.block i h1 h2).trans (h.block i h1 h2)⟩
theorem PrivKeep.of_below {N m : Nat} {W W' : World} (h : Below W.heap.size W W') (hN : N + m ≤ W.heap.size) : PrivKeep N m W W' := ⟨h.size, fun k _ h2 => h.block k (by omega)⟩

/-- What is read of the house. -/
def HB (h : Hs) (A2 : Option Addr) (c2 Bh : Nat) (W : World) : Prop := W.cell? ⟨Bh, 2, none⟩ = some (.slice A2 h.clocks.length c2) ∧ SlA W 2 gR A2 c2 h.clocks

set_option maxHeartbeats 1000000 in
theorem lists1_in (h : Hs) (A2 : Option Addr) (c2 l Bh : Nat) (hn : h.clocks.length ≤ 4) (hr : ∀ r ∈ h.clocks, -30 ≤ r.lo ∧ r.lo ≤ r.hi ∧ r.hi ≤ 30) (W : World)
    (I Ix : List (List Int) → World → Prop) (hI : ∀ pre A B, I pre A → KeepR W.heap.size 3 A B → I pre B) (hHB : ∀ pre A, I pre A → HB h A2 c2 Bh A)
    (hY : ∀ pre p A, (pre ++ [p]) <+: prods h.clocks → I pre A → W.heap.size + 3 ≤ A.heap.size → YieldAt Fence.wide 0 Try.prog l #[.agg (e4 p).toArray] A fun e B =>
      (e = .returned (.bool true) ∧ I (pre ++ [p]) B ∧ PrivKeep W.heap.size 3 A B) ∨ (e = .returned (.bool false) ∧ Ix (pre ++ [p]) B))
    (h0 : I [] W) :
    CallsIn Fence.wide 0 Try.prog 134 #[.func (.yield l) #[] #[], .pointer (some ⟨Bh, 0, none⟩)] W fun e B =>
      (∃ v, e = .returned v) ∧ (I (prods h.clocks) B ∨ ∃ zs, zs ≠ [] ∧ zs <+: prods h.clocks ∧ Ix zs B) := by
  have hb0 := hHB _ _ h0
  have hBh : Bh < W.heap.size := by have := World.block_lt_of_cell? W _ hb0.1; simpa using this
  obtain ⟨N, hN⟩ : ∃ N, N = W.heap.size := ⟨_, rfl⟩
  have hA2 : h.clocks ≠ [] → ∀ a, A2 = some a → a.block < N := fun hne a ha => by
    obtain ⟨b, off, e, hlt, _⟩ := hb0.2.2.2 hne
    rw [ha] at e; cases e; rw [hN]; exact hlt
  rw [← hN] at hI hY hBh
  -- the closure's contract, at this house
  have HC := choose_in h A2 c2 l Bh N (N + 1) (N + 1 + 1) hn hr
    (fun pre A => I pre A ∧ ItAt h A2 c2 l Bh N (N + 1) (N + 1 + 1) A ∧ N + 3 ≤ A.heap.size) Ix
    (fun pre A B hA k => ⟨hI pre A B hA.1 (KeepR.of_X k (by omega) (by omega)), hA.2.1.keep k, Nat.le_trans hA.2.2 k.size⟩)
    (fun pre A hA => hA.2.1)
    (fun pre p A hp hA => (hY pre p A hp hA.1 hA.2.2).mono (fun e B hB => by
      rcases hB with ⟨he, hi, hk⟩ | hx
      · refine .inl ⟨he, ⟨hi, ?_, Nat.le_trans hA.2.2 hk.size⟩, hk.block (N + 1) (by omega) (by omega)⟩
        have It := hA.2.1
        have hb := hHB _ _ hi
        exact ⟨hb.1, hb.2, (World.cell?_of_block (w := A) (hk.block N (Nat.le_refl _) (by omega))).trans It.hy, (World.cell?_of_block (w := A) (hk.block (N + 1 + 1) (by omega) (by omega))).trans It.hc, It.nh, It.ny, It.nc, It.na⟩
      · exact .inr hx))
    h.clocks.length 0 (by omega) [] (fun _ => 0) []
  have HC2 := Lib.hid HC
  have HI := Lib.hid hI
  have HHB := Lib.hid hHB
  have HA2 := Lib.hid hA2
  have H0 := Lib.hid h0
  clear HC hI hHB hA2 h0 hY hr
  subst hN
  obtain ⟨W3, hW3⟩ : ∃ W3, W3 = ((W.alloc (.cells #[.func (.yield l) #[] #[]] 121)).alloc (.cells #[.int .i64 0, .int .i64 0, .int .i64 0, .int .i64 0] 119)).alloc
      (.cells #[.func (.func 135) #[] #[.pointer (some ⟨Bh, 0, none⟩), .pointer (some ⟨W.heap.size, 0, none⟩), .pointer (some ⟨W.heap.size + 1, 0, none⟩), .pointer (some ⟨W.heap.size + 1 + 1, 0, none⟩)]] 123) := ⟨_, rfl⟩
  have hb3 : Below W.heap.size W W3 := by rw [hW3]; exact gA (gA (gA (Below.refl _ _)))
  have y3 : W3.cell? ⟨W.heap.size, 0, none⟩ = some (.func (.yield l) #[] #[]) := by rw [hW3]; simp [go_sem]
  have c3 : W3.cell? ⟨W.heap.size + 1 + 1, 0, none⟩ = some (.func (.func 135) #[] #[.pointer (some ⟨Bh, 0, none⟩), .pointer (some ⟨W.heap.size, 0, none⟩), .pointer (some ⟨W.heap.size + 1, 0, none⟩), .pointer (some ⟨W.heap.size + 1 + 1, 0, none⟩)]) := by rw [hW3]; simp [go_sem]
  have b3 : BlkAt W3 (W.heap.size + 1) 119 (fV fun _ => 0) := by
    rw [hW3]
    refine BlkAt.alloc ?_ _
    have := BlkAt.new (W.alloc (.cells #[.func (.yield l) #[] #[]] 121)) 119 (fV fun _ => 0)
    rw [World.size_alloc] at this
    exact this
  have s3 : W.heap.size + 3 ≤ W3.heap.size := by rw [hW3]; simp
  have i3 : I [] W3 := HI.out _ _ _ H0.out (KeepR.of_below hb3)
  have hg3 := HHB.out _ _ i3
  have hgo := HC2.out W3 rfl (fun i hi => absurd hi (by omega)) (fun _ _ => rfl) (by simp) b3
    ⟨i3, ⟨hg3.1, hg3.2, y3, c3, by omega, by omega, by omega, fun hne a ha => by have := HA2.out hne a ha; omega⟩, s3⟩
  rw [hW3] at hgo
  have HGO := Lib.hid hgo
  clear hgo hW3 hb3 y3 c3 b3 s3 i3 hg3 HC2
  have hfn : ∀ f, Fence.wide.fn f := fun _ => trivial
  have hdep : Fence.wide.depth = none := rfl
  refine callsIn_of_wp Try.func134 rfl trivial ?_ rfl
  simp only [Try.ntmps134, List.size_toArray, List.length_cons, List.length_nil, Nat.reduceAdd, Nat.reduceSub, Array.replicate_succ, Array.replicate_zero, List.push_toArray, List.append_toArray, List.nil_append, List.cons_append]
  gi_wp2_with (gi_at_call 135; refine (callsIn_any HGO.out).mono ?_; rintro e B (⟨rfl, hi, -⟩ | ⟨rfl, zs, hne, hpz, hx⟩))
  · go_end0
    exact ⟨⟨_, rfl⟩, .inl (by simpa using hi.1)⟩
  · go_end0
    exact ⟨⟨_, rfl⟩, .inr ⟨zs, hne, by simpa using hpz, by simpa using hx⟩⟩

/-- How the body of a round may be left. -/
def RoundQ (N : Nat) (I : List (List Int) → World → Prop) (Ix : Code → List (List Int) → World → Prop) (xs : List (List Int)) (W : World) : Exit → Act → World → Prop
  | .normal, _, W' => PrivKeep N 5 W W' ∧ I xs W'
  | .ret, _, W' => PrivKeep N 5 W W' ∧ Ix .ret xs W'
  | .exit id, _, W' => PrivKeep N 5 W W' ∧ Ix (.exit id) xs W'
  | .goto t, _, W' => PrivKeep N 5 W W' ∧ Ix (.goto t) xs W'
  | .panic _, _, _ => False
  | .outgrown, _, _ => False

theorem heap_of_priv {N m : Nat} {A B : World} (h : PrivKeep N m A B) {k : Nat} {o : Obj} (h1 : N ≤ k) (h2 : k < N + m) (ho : A.heap[k]? = some o) : B.heap[k]? = some o := (h.block k h1 h2).trans ho

set_option maxHeartbeats 1000000 in
theorem range_lists (h : Hs) (A2 : Option Addr) (c2 Bh : Nat) (hn : h.clocks.length ≤ 4) (hr : ∀ r ∈ h.clocks, -30 ≤ r.lo ∧ r.lo ≤ r.hi ∧ r.hi ≤ 30) {g : Operand} {p0 : Tmp} {assign body : Code} {Q : Exit → Act → World → Prop} {a : Act} {w : World}
    (hg : a.eval g = .func (.func 134) #[] #[.pointer (some ⟨Bh, 0, none⟩)])
    (I : List (List Int) → World → Prop) (Ix : Code → List (List Int) → World → Prop)
    (hI : ∀ pre A B, I pre A → KeepR w.heap.size 5 A B → I pre B) (hIx : ∀ c pre A B, Ix c pre A → KeepR w.heap.size 5 A B → Ix c pre B)
    (hHB : ∀ pre A, I pre A → HB h A2 c2 Bh A) (h0 : I [] w)
    (Ax : List (List Int) → List Int → Act → World → Prop)
    (hAx : ∀ pre p a' A B, Ax pre p a' A → KeepR w.heap.size 5 A B → Ax pre p a' B)
    (hassign : ∀ (l : Nat) (pre : List (List Int)) (p : List Int) (W : World) (K : Act → World → Prop), (pre ++ [p]) <+: prods h.clocks → I pre W → w.heap.size + 5 ≤ W.heap.size → (∀ a' W', PrivKeep w.heap.size 5 W W' → Ax pre p a' W' → K a' W') →
      assign.wpIn (Fence.wide.inRound l) 0 Try.prog (Exit.then K (fun _ _ _ => False)) { tmps := a.tmps.setIfInBounds p0 (.agg (e4 p).toArray), defers := [] } W)
    (hbody : ∀ (l : Nat) (pre : List (List Int)) (p : List Int) (a' : Act) (W : World), (pre ++ [p]) <+: prods h.clocks → w.heap.size + 5 ≤ W.heap.size → Ax pre p a' W → body.wpIn (Fence.wide.inRound l) 0 Try.prog (RoundQ w.heap.size I Ix (pre ++ [p]) W) a' W)
    (hdone : ∀ (D : Nat) (W : World), w.heap.size ≤ D → I (prods h.clocks) W → W.heap[D]? = some (.deferred (some [])) → Q .normal { a with defers := { target := .collected D, args := #[] } :: a.defers } W)
    (hstop : ∀ (D : Nat) (c : Code) (zs : List (List Int)) (W : World), w.heap.size ≤ D → zs ≠ [] → zs <+: prods h.clocks → Ix c zs W → W.heap[D]? = some (.deferred (some [])) → c.wpIn Fence.wide 0 Try.prog Q { a with defers := { target := .collected D, args := #[] } :: a.defers } W) :
    (Code.rangeFunc g #[p0] assign body).wpIn Fence.wide 0 Try.prog Q a w := by
  refine wpIn_rangeFunc ?_
  intro fn hfn
  obtain ⟨rec, hrec⟩ : ∃ rec : LoopState → Option Code → Loop, rec = fun st pe => { state := st, pending := pe, fn, tmps := a.tmps, params := #[p0], assign, body, defers := w.heap.size } := ⟨_, rfl⟩
  obtain ⟨W1, hW1⟩ : ∃ W1, (w.alloc (.deferred (some []))).alloc (.loop (rec .ready none)) = W1 := ⟨_, rfl⟩
  have hb1 : Below w.heap.size w W1 := by rw [← hW1]; exact gA (gA (Below.refl _ _))
  have hs1 : W1.heap.size = w.heap.size + 2 := by rw [← hW1]; simp
  have hL1 : W1.heap[w.heap.size + 1]? = some (.loop (rec .ready none)) := by
    rw [← hW1]; have := World.alloc_heap_new (w.alloc (.deferred (some []))) (.loop (rec .ready none)); rwa [World.size_alloc] at this
  have hK1 : W1.heap[w.heap.size]? = some (.deferred (some [])) := by
    rw [← hW1]; exact (Below.heap_alloc _ _ _ (by simp)).trans (World.alloc_heap_new w _)
  have hI1 : I [] W1 := hI _ _ _ h0 (KeepR.of_below hb1)
  refine ⟨w.heap.size + 1, [{ target := .collected w.heap.size, args := #[] }], W1, { target := .fn (.func 134) #[.pointer (some ⟨Bh, 0, none⟩)], args := #[.func (.yield (w.heap.size + 1)) #[] #[]] }, W1, 134,
    #[.func (.yield (w.heap.size + 1)) #[] #[], .pointer (some ⟨Bh, 0, none⟩)], W1, ?_, ?_, ?_, ?_, (fun hh => by cases hh), ?_⟩
  · rw [← hW1, hrec]; exact run_enterLoop_outer _ _ _ _ _
  · simp only [resolve, hg]
    simp [go_sem]
  · intro f' _; trivial
  · simp [invoke, go_sem]
  · have hgo := lists1_in h A2 c2 (w.heap.size + 1) Bh hn hr W1
      (fun pre W => I pre W ∧ W.heap[w.heap.size + 1]? = some (.loop (rec .ready none)) ∧ W.heap[w.heap.size]? = some (.deferred (some [])))
      (fun pre W => ∃ c, Ix c pre W ∧ W.heap[w.heap.size + 1]? = some (.loop (rec .done (some c))) ∧ W.heap[w.heap.size]? = some (.deferred (some [])))
      (fun pre A B hA k => ⟨hI _ _ _ hA.1 (k.wider (by omega) (by omega)),
        (k.block _ (Array.getElem?_eq_some_iff.1 hA.2.1).1 (by omega)).trans hA.2.1, (k.block _ (Array.getElem?_eq_some_iff.1 hA.2.2).1 (by omega)).trans hA.2.2⟩)
      (fun pre A hA => hHB _ _ hA.1) ?_ ⟨hI1, hL1, hK1⟩
    · refine (callsIn_any hgo).mono ?_
      rintro e W2 ⟨⟨v, rfl⟩, (⟨hi, hl, hk⟩ | ⟨zs, hne, hpz, c, hi, hl, hk⟩)⟩
      · exact ⟨none, _, by have := run_endLoop (P := Try.prog) hl (by rw [hrec]; simp); rw [hrec] at this; exact this,
          hdone _ _ (Nat.le_refl _) (hI _ _ _ hi (KeepR.put _ _ (by omega) (by omega))) ((World.putObj_heap_other (by omega)).trans hk)⟩
      · exact ⟨some c, _, by have := run_endLoop (P := Try.prog) hl (by rw [hrec]; simp); rw [hrec] at this; exact this,
          hstop _ c zs _ (Nat.le_refl _) hne hpz (hIx _ _ _ _ hi (KeepR.put _ _ (by omega) (by omega))) ((World.putObj_heap_other (by omega)).trans hk)⟩
    · -- one round
      rintro pre p W hp ⟨hi, hl, hk⟩ hsz
      rw [hs1] at hsz
      have hsz5 : w.heap.size + 5 ≤ W.heap.size := by omega
      have hy := run_yield (P := Try.prog) (args := #[.agg (e4 p).toArray]) hl (by rw [hrec]; rfl)
      rw [hrec] at hy
      refine ⟨fn, _, assign, body, hy, roundIn_of_wpIn trivial ?_⟩
      have hfold : ((#[p0] : Array Tmp).zip (#[.agg (e4 p).toArray] : Array Value)).foldl (fun t (q : Tmp × Value) => t.setIfInBounds q.1 q.2) a.tmps = a.tmps.setIfInBounds p0 (.agg (e4 p).toArray) := by simp
      clear hy
      have hres := hassign (w.heap.size + 1) pre p W (fun a₁ w₁ => ∃ w₂, (Instr.beginRound (w.heap.size + 1)).run Try.prog w₁ = .ok () w₂ ∧ body.wpIn (Fence.wide.inRound (w.heap.size + 1)) 0 Try.prog
          (roundPost Try.prog (w.heap.size + 1) fun e B => (e = .returned (.bool true) ∧ (I (pre ++ [p]) B ∧ B.heap[w.heap.size + 1]? = some (.loop (rec .ready none)) ∧ B.heap[w.heap.size]? = some (.deferred (some []))) ∧ PrivKeep W1.heap.size 3 W B) ∨
            (e = .returned (.bool false) ∧ ∃ c, Ix c (pre ++ [p]) B ∧ B.heap[w.heap.size + 1]? = some (.loop (rec .done (some c))) ∧ B.heap[w.heap.size]? = some (.deferred (some [])))) a₁ w₂) hp hi hsz5 ?_
      · rw [← hfold] at hres; exact hres
      · intro a' Wa hka hax
        have hla := heap_of_priv hka (by omega) (by omega) hl
        have hkka := heap_of_priv hka (by omega) (by omega) hk
        have hlta := (Array.getElem?_eq_some_iff.1 hla).1
        refine ⟨_, run_beginRound hla (by rw [hrec]), ?_⟩
        have hl2 : (Wa.putObj (w.heap.size + 1) (.loop { rec .ready none with state := .busy })).heap[w.heap.size + 1]? = some (.loop { rec .ready none with state := .busy }) := World.putObj_heap_same hlta
        have hk2 : (Wa.putObj (w.heap.size + 1) (.loop { rec .ready none with state := .busy })).heap[w.heap.size]? = some (.deferred (some [])) := (World.putObj_heap_other (by omega)).trans hkka
        refine wpIn_mono (hbody _ pre p a' _ hp (by have := hka.size; simp; omega) (hAx _ _ _ _ _ hax (KeepR.put _ _ (by omega) (by omega)))) ?_
        have fin : ∀ (jump : Option Code) (W3 : World), PrivKeep w.heap.size 5 (Wa.putObj (w.heap.size + 1) (.loop { rec .ready none with state := .busy })) W3 →
            (Instr.endRound (w.heap.size + 1) jump).run Try.prog W3 = .ok (.bool jump.isNone) (W3.putObj (w.heap.size + 1) (.loop (rec (if jump.isNone then .ready else .done) jump))) ∧
            (W3.putObj (w.heap.size + 1) (.loop (rec (if jump.isNone then .ready else .done) jump))).heap[w.heap.size + 1]? = some (.loop (rec (if jump.isNone then .ready else .done) jump)) ∧
            (W3.putObj (w.heap.size + 1) (.loop (rec (if jump.isNone then .ready else .done) jump))).heap[w.heap.size]? = some (.deferred (some [])) ∧
            PrivKeep W1.heap.size 3 W (W3.putObj (w.heap.size + 1) (.loop (rec (if jump.isNone then .ready else .done) jump))) := fun jump W3 hk3 => by
          have hl3 := heap_of_priv hk3 (by omega) (by omega) hl2
          have := run_endRound (P := Try.prog) jump hl3
          rw [hrec] at this ⊢
          refine ⟨this, World.putObj_heap_same (Array.getElem?_eq_some_iff.1 hl3).1, (World.putObj_heap_other (by omega)).trans (heap_of_priv hk3 (by omega) (by omega) hk2), ?_, ?_⟩
          · have h1 := hka.size; have h2 := hk3.size; simp at h2 ⊢; omega
          · intro k h1 h2
            rw [hs1] at h1 h2
            rw [World.putObj_heap_other (by omega), hk3.block k (by omega) (by omega), World.putObj_heap_other (by omega)]
            exact hka.block k (by omega) (by omega)
        rintro e a3 W3 hq
        cases e with
        | normal =>
          obtain ⟨hk3, hi3⟩ := hq
          obtain ⟨h1, h2, h3, h4⟩ := fin none W3 hk3
          exact ⟨_, _, h1, .inl ⟨rfl, ⟨hI _ _ _ hi3 (KeepR.put _ _ (by omega) (by omega)), h2, h3⟩, h4⟩⟩
        | ret =>
          obtain ⟨hk3, hi3⟩ := hq
          obtain ⟨h1, h2, h3, h4⟩ := fin (some .ret) W3 hk3
          exact ⟨_, _, h1, .inr ⟨rfl, .ret, hIx _ _ _ _ hi3 (KeepR.put _ _ (by omega) (by omega)), h2, h3⟩⟩
        | exit id =>
          obtain ⟨hk3, hi3⟩ := hq
          obtain ⟨h1, h2, h3, h4⟩ := fin (some (.exit id)) W3 hk3
          exact ⟨_, _, h1, .inr ⟨rfl, .exit id, hIx _ _ _ _ hi3 (KeepR.put _ _ (by omega) (by omega)), h2, h3⟩⟩
        | goto t =>
          obtain ⟨hk3, hi3⟩ := hq
          obtain ⟨h1, h2, h3, h4⟩ := fin (some (.goto t)) W3 hk3
          exact ⟨_, _, h1, .inr ⟨rfl, .goto t, hIx _ _ _ _ hi3 (KeepR.put _ _ (by omega) (by omega)), h2, h3⟩⟩
        | panic ch => exact hq.elim
        | outgrown => exact hq.elim
end Go.Proofs.Ytcngnfnljkkjgaa
namespace Go.Proofs.Ytcngnfnljkkjgaa
open Go.RowKit
attribute [local go_sem] cell_later frozen_later lt_later le_later
attribute [local go_sem] Oper.semAt_some

/-- What 'lists' hands back: the iterator over a copy of the house. -/
def RetLists (h : Hs) (A2 : Option Addr) (c2 : Nat) (w : World) (e : Ending) (w' : World) : Prop :=
  ∃ g, e = .returned (.func (.func 134) #[] #[.pointer (some ⟨g, 0, none⟩)]) ∧ (∃ x, w' = later w x) ∧ w'.cell? ⟨g, 2, none⟩ = some (.slice A2 h.clocks.length c2)
theorem RetLists.up {h : Hs} {A2 : Option Addr} {c2 : Nat} {w x w' : World} {e : Ending} (H : RetLists h A2 c2 (later w x) e w') : RetLists h A2 c2 w e w' := by
  obtain ⟨g, he, ⟨y, rfl⟩, hc⟩ := H
  exact ⟨g, he, later_ex (later_below (below_later w x) (size_later w x)), hc⟩
theorem lists_calls (h : Hs) (A2 A3 A4 : Option Addr) (c2 c3 c4 : Nat) (w : World) :
    Calls Try.prog 122 #[.agg #[.int .i64 h.hour, .int .i64 h.grace, .slice A2 h.clocks.length c2, .slice A3 h.tickets.length c3, .slice A4 h.clips.length c4]] w (RetLists h A2 c2 w) := by
  go_enter Try.func122, Try.ntmps122
  go_wp2
  go_ret
  exact ⟨_, rfl, later_ex (by repeat (first | exact Below.refl _ _ | (with_reducible assumption) | apply gL | apply gA | apply gD | apply gN | (refine gS ?_ (by first | (simp; done) | (simp; omega) | omega)))), by simp [go_sem]⟩

theorem below_keepR {N m : Nat} {W0 A B : World} (h : Below N W0 A) (hN : N ≤ W0.heap.size) (k : KeepR N m A B) : Below N W0 B :=
  ⟨k.os.trans h.os, k.tape.trans h.tape, k.output.trans h.output, Nat.le_trans h.size k.size, fun i hi => (k.block i (Nat.lt_of_lt_of_le (Nat.lt_of_lt_of_le hi hN) h.size) (.inl hi)).trans (h.block i hi)⟩
theorem below_put {N r : Nat} {W0 A : World} {o : Obj} (h : Below N W0 A) (hr : N ≤ r) : Below N W0 (A.putObj r o) :=
  ⟨h.os, h.tape, h.output, by simp [h.size], fun i hi => (World.putObj_heap_other (by omega)).trans (h.block i hi)⟩

theorem not_any_of {h : Hs} {out : List Int} (hx : ∀ e ∈ prods h.clocks, h.risingB e out = false) : h.canB out = false := by
  rw [Hs.canB, List.any_eq_false]
  intro e he
  simp [hx e he]

theorem below_set2 {N : Nat} {W0 W : World} (h : Below N W0 W) (p : Addr) (v : Value) : Below N (W0.setCell p v) (W.setCell p v) :=
  ⟨h.os, h.tape, h.output, by simpa using h.size, fun k hk => by
    by_cases e : k = p.block
    · subst e
      simp only [World.setCell, Array.getElem?_modify, if_pos]
      rw [h.block _ hk]
    · rw [Below.heap_setCell _ _ _ _ e, Below.heap_setCell _ _ _ _ e]
      exact h.block k hk⟩
theorem priv_set {N m : Nat} (W : World) (a : Addr) (v : Value) (ha : a.block < N) : PrivKeep N m W (W.setCell a v) := ⟨by simp, fun k h1 _ => Below.heap_setCell _ _ _ _ (by omega)⟩

set_option maxHeartbeats 2000000 in
theorem possible_calls (v : Value) (h : Hs) (A : Option Addr) (c : Nat) (out : List Int) (w : World) (H : HsAt w v h) (HO : SlA w 1 gI A c out) (hn : h.clocks.length ≤ 4) (hr : ∀ r ∈ h.clocks, -30 ≤ r.lo ∧ r.lo ≤ r.hi ∧ r.hi ≤ 30) (hc : ClipsOk h.clips) (hl : h.clips.length ≤ 1000) :
    Calls Try.prog 100 #[v, .slice A out.length c] w (Ret (.bool (h.canB out)) w) := by
  obtain ⟨A2, c2, A3, c3, A4, c4, rfl, H2, H3, H4⟩ := H
  refine (callsIn_wide (n := 0)).1 ?_
  refine callsIn_of_wp_marks Try.func100 rfl trivial ?_ rfl
  have HR := Lib.hid hr
  have HC := Lib.hid hc
  clear hr hc
  have hfn : ∀ f, Fence.wide.fn f := fun _ => trivial
  have hdep : Fence.wide.depth = none := rfl
  simp only [Try.ntmps100, List.size_toArray, List.length_cons, List.length_nil, Nat.reduceAdd, Nat.reduceSub, Array.replicate_succ, Array.replicate_zero, List.push_toArray, List.append_toArray, List.nil_append, List.cons_append]
  gi_wp2_with (gi_at_call 122; refine (callsIn_wide.2 (lists_calls h _ _ _ _ _ _ _)).mono ?_; (rintro e w' hr; (first | (with_reducible replace hr := RetLists.up hr) | skip); obtain ⟨gh, rfl, ⟨z, rfl⟩, hgh⟩ := hr))
  have hb0 : Below w.heap.size w (later (((w.alloc (.cells #[.int .i64 h.hour, .int .i64 h.grace, .slice A2 h.clocks.length c2, .slice A3 h.tickets.length c3, .slice A4 h.clips.length c4] 36)).alloc (.cells #[.slice A out.length c] 47)).alloc (.cells #[.bool false] 4)) z) := (by repeat (first | exact Below.refl _ _ | (with_reducible assumption) | apply gL | apply gA | apply gD | apply gN | (refine gS ?_ (by first | (simp; done) | (simp; omega) | omega))))
  obtain ⟨W0, hW0⟩ : ∃ W0, W0 = later (((w.alloc (.cells #[.int .i64 h.hour, .int .i64 h.grace, .slice A2 h.clocks.length c2, .slice A3 h.tickets.length c3, .slice A4 h.clips.length c4] 36)).alloc (.cells #[.slice A out.length c] 47)).alloc (.cells #[.bool false] 4)) z := ⟨_, rfl⟩
  rw [← hW0] at hgh hb0
  have q0 : W0.cell? ⟨w.heap.size, 0, none⟩ = some (.int .i64 h.hour) := by rw [hW0]; simp [go_sem]
  have q1 : W0.cell? ⟨w.heap.size, 1, none⟩ = some (.int .i64 h.grace) := by rw [hW0]; simp [go_sem]
  have q2 : W0.cell? ⟨w.heap.size, 2, none⟩ = some (.slice A2 h.clocks.length c2) := by rw [hW0]; simp [go_sem]
  have q3 : W0.cell? ⟨w.heap.size, 3, none⟩ = some (.slice A3 h.tickets.length c3) := by rw [hW0]; simp [go_sem]
  have q4 : W0.cell? ⟨w.heap.size, 4, none⟩ = some (.slice A4 h.clips.length c4) := by rw [hW0]; simp [go_sem]
  have q5 : W0.cell? ⟨w.heap.size + 1, 0, none⟩ = some (.slice A out.length c) := by rw [hW0]; simp [go_sem]
  have q6 : W0.cell? ⟨w.heap.size + 1 + 1, 0, none⟩ = some (.bool false) := by rw [hW0]; simp [go_sem]
  have q7 : W0.frozen? ⟨w.heap.size + 1 + 1, 0, none⟩ = false := by rw [hW0]; simp [go_sem]
  have hs0 : w.heap.size + 3 ≤ W0.heap.size := by
    have := size_later (((w.alloc (.cells #[.int .i64 h.hour, .int .i64 h.grace, .slice A2 h.clocks.length c2, .slice A3 h.tickets.length c3, .slice A4 h.clips.length c4] 36)).alloc (.cells #[.slice A out.length c] 47)).alloc (.cells #[.bool false] 4)) z
    rw [hW0]
    simp at this ⊢
    omega
  rw [← hW0]
  clear hW0
  have hgh' := World.block_lt_of_cell? W0 _ hgh
  have hb1 : w.heap.size < W0.heap.size := by omega
  have hb2 : w.heap.size + 1 < W0.heap.size := by omega
  have hb3 : w.heap.size + 1 + 1 < W0.heap.size := by omega
  have hHs0 : HsAt w (.agg #[.int .i64 h.hour, .int .i64 h.grace, .slice A2 h.clocks.length c2, .slice A3 h.tickets.length c3, .slice A4 h.clips.length c4]) h := ⟨A2, c2, A3, c3, A4, c4, rfl, H2, H3, H4⟩
  have H2' := H2.below hb0
  refine range_lists h A2 c2 gh hn HR.out rfl
    (fun pre W => Below W0.heap.size W0 W ∧ ∀ e ∈ pre, h.risingB e out = false)
    (fun cd pre W => cd = .ret ∧ Below W0.heap.size (W0.setCell ⟨w.heap.size + 1 + 1, 0, none⟩ (.bool true)) W ∧ ∃ e ∈ pre, h.risingB e out = true)
    (fun pre A B hA k => ⟨below_keepR hA.1 (Nat.le_refl _) k, hA.2⟩)
    (fun cd pre A B hA k => ⟨hA.1, below_keepR hA.2.1 (by simp) k, hA.2.2⟩)
    (fun pre A hA => ⟨(hA.1.cell (p := ⟨gh, 2, none⟩) hgh').trans hgh, H2'.below hA.1⟩)
    ⟨Below.refl _ _, fun e he => by cases he⟩
    (fun pre p a' W => (Below W0.heap.size W0 W ∧ ∀ e ∈ pre, h.risingB e out = false) ∧ ∃ g5, W0.heap.size + 5 ≤ g5 ∧ BlkAt W g5 119 (e4 p) ∧
      a' = { tmps := #[.agg #[.int .i64 h.hour, .int .i64 h.grace, .slice A2 h.clocks.length c2, .slice A3 h.tickets.length c3, .slice A4 h.clips.length c4], .slice A out.length c, .pointer (some ⟨w.heap.size, 0, none⟩), .pointer (some ⟨w.heap.size + 1, 0, none⟩), .pointer (some ⟨w.heap.size + 1 + 1, 0, none⟩), .pointer (some ⟨g5, 0, none⟩),
        .agg #[.int .i64 h.hour, .int .i64 h.grace, .slice A2 h.clocks.length c2, .slice A3 h.tickets.length c3, .slice A4 h.clips.length c4], .func (.func 134) #[] #[.pointer (some ⟨gh, 0, none⟩)], .agg (e4 p).toArray, undef, undef, undef, undef], defers := [] })
    (fun pre p a' A B hA k => ⟨⟨below_keepR hA.1.1 (Nat.le_refl _) k, hA.1.2⟩, by
      obtain ⟨g5, h1, h2, h3⟩ := hA.2
      exact ⟨g5, h1, (k.block g5 h2.lt (.inr h1)).trans h2, h3⟩⟩)
    ?assign ?body ?done ?stop
  case assign =>
    rintro l pre p W K hp ⟨hb, hno⟩ hsz hK
    obtain ⟨a0, a1, a2, a3, h4⟩ : ∃ a0 a1 a2 a3 : Int, e4 p = [.int .i64 a0, .int .i64 a1, .int .i64 a2, .int .i64 a3] := ⟨_, _, _, _, rfl⟩
    have hnew := BlkAt.new W 119 (e4 p)
    rw [h4] at hK hnew ⊢
    have HN := Lib.hid hno
    have HNW := Lib.hid hnew
    clear hno h4 hnew
    simp only [List.setIfInBounds_toArray, List.set_cons_succ, List.set_cons_zero]
    gi_wp2
    exact hK _ _ (PrivKeep.of_below (gA (Below.refl _ _)) hsz) ⟨⟨hb.alloc hb.size _, HN.out⟩, W.heap.size, hsz, HNW.out, rfl⟩
  case body =>
    rintro l pre p a' W hp hsz ⟨⟨hb, hno⟩, g5, hg5, hB, rfl⟩
    obtain ⟨a0, a1, a2, a3, h4⟩ : ∃ a0 a1 a2 a3 : Int, e4 p = [.int .i64 a0, .int .i64 a1, .int .i64 a2, .int .i64 a3] := ⟨_, _, _, _, rfl⟩
    rw [h4] at hB ⊢
    have HE4 := Lib.hid h4
    have HN := Lib.hid hno
    have HEO := Lib.hid (prods_ok HR.out (hp.subset (List.mem_append_right pre (List.mem_singleton.2 rfl))))
    clear h4 hno
    have k0 := hB.cell 0
    have k1 := hB.cell 1
    have k2 := hB.cell 2
    have k3 := hB.cell 3
    simp only [List.getElem?_cons_zero, List.getElem?_cons_succ] at k0 k1 k2 k3
    have p0 := (hb.cell (p := ⟨w.heap.size, 0, none⟩) hb1).trans q0
    have p1 := (hb.cell (p := ⟨w.heap.size, 1, none⟩) hb1).trans q1
    have p2 := (hb.cell (p := ⟨w.heap.size, 2, none⟩) hb1).trans q2
    have p3 := (hb.cell (p := ⟨w.heap.size, 3, none⟩) hb1).trans q3
    have p4 := (hb.cell (p := ⟨w.heap.size, 4, none⟩) hb1).trans q4
    have p5 := (hb.cell (p := ⟨w.heap.size + 1, 0, none⟩) hb2).trans q5
    have p6 := (hb.cell (p := ⟨w.heap.size + 1 + 1, 0, none⟩) hb3).trans q6
    have p7 := (hb.frozen (p := ⟨w.heap.size + 1 + 1, 0, none⟩) hb3).trans q7
    have hlt3 : w.heap.size + 1 + 1 < W.heap.size := Nat.lt_of_lt_of_le hb3 hb.size
    have hbw : Below w.heap.size w W := hb0.trans (hb.mono hb0.size)
    by_cases hri : h.risingB p out = true
    · gi_wp2_with (gi_at_call 111; refine (CallsIn.inRound l (callsIn_wide.2 (rising_calls4 _ h p HE4 _ _ out _ ?hh ?ho HEO.out HC.out hl))).mono ?_; (case hh => exact hHs0.below hbw); (case ho => exact HO.below hbw); (rintro e w' hr; first | ((with_reducible replace hr := Ret.up hr); obtain ⟨rfl, z, rfl⟩ := hr) | (obtain ⟨rfl, z, rfl⟩ := hr)))
      exact ⟨(PrivKeep.of_below (below_later W z) hsz).trans (priv_set _ _ _ hb3), rfl, below_set2 (later_below hb hb.size) _ _, p, by simp, hri⟩
    · have hri : h.risingB p out = false := by simpa using hri
      gi_wp2_with (gi_at_call 111; refine (CallsIn.inRound l (callsIn_wide.2 (rising_calls4 _ h p HE4 _ _ out _ ?hh ?ho HEO.out HC.out hl))).mono ?_; (case hh => exact hHs0.below hbw); (case ho => exact HO.below hbw); (rintro e w' hr; first | ((with_reducible replace hr := Ret.up hr); obtain ⟨rfl, z, rfl⟩ := hr) | (obtain ⟨rfl, z, rfl⟩ := hr)))
      exact ⟨PrivKeep.of_below (below_later W z) hsz, later_below hb hb.size, fun e he => by
        rcases List.mem_append.1 he with h1 | h1
        · exact HN.out e h1
        · rw [List.mem_singleton.1 h1]; exact hri⟩
  case done =>
    rintro D W hD ⟨hb, hno⟩ hK
    have HF := Lib.hid (not_any_of hno)
    have HNO := Lib.hid hno
    clear hno
    have p6 := (hb.cell (p := ⟨w.heap.size + 1 + 1, 0, none⟩) hb3).trans q6
    have p7 := (hb.frozen (p := ⟨w.heap.size + 1 + 1, 0, none⟩) hb3).trans q7
    have hbw : Below w.heap.size w W := hb0.trans (hb.mono hb0.size)
    gi_wp2
    have hK2 : (W.setCell ⟨w.heap.size + 1 + 1, 0, none⟩ (.bool false)).heap[D]? = some (.deferred (some [])) := (Below.heap_setCell _ _ _ _ (by show D ≠ w.heap.size + 1 + 1; omega)).trans hK
    refine ⟨by simp, .inl ⟨_, _, rfl, run_takeDeferred hK2, ?_⟩⟩
    have hcell : ((W.setCell ⟨w.heap.size + 1 + 1, 0, none⟩ (.bool false)).putObj D (.deferred none)).cell? ⟨w.heap.size + 1 + 1, 0, none⟩ = some (.bool false) :=
      (World.cell?_of_block (w := W.setCell ⟨w.heap.size + 1 + 1, 0, none⟩ (.bool false)) (World.putObj_heap_other (by show w.heap.size + 1 + 1 ≠ D; omega))).trans (World.cell?_setCell_same _ _ _ p6)
    refine ⟨.bool false, by simp [results, Try.results100, go_sem, hcell], ret_mk (ret_bool HF.out.symm) ?_⟩
    exact below_put (gS hbw (by simp; omega)) (by omega)
  case stop =>
    rintro D cd zs W hD hne hpz ⟨rfl, hb, e, he, hre⟩ hK
    have HF := Lib.hid (show h.canB out = true by
      rw [Hs.canB, List.any_eq_true]
      exact ⟨e, hpz.subset he, hre⟩)
    have p6 : W.cell? ⟨w.heap.size + 1 + 1, 0, none⟩ = some (.bool true) := (hb.cell (p := ⟨w.heap.size + 1 + 1, 0, none⟩) hb3).trans (World.cell?_setCell_same _ _ _ q6)
    have hbw : Below w.heap.size w W := (gS hb0 (by simp; omega)).trans (hb.mono (by omega))
    gi_wp2
    refine ⟨by simp, .inl ⟨_, _, rfl, run_takeDeferred hK, ?_⟩⟩
    have hcell : (W.putObj D (.deferred none)).cell? ⟨w.heap.size + 1 + 1, 0, none⟩ = some (.bool true) :=
      (World.cell?_of_block (w := W) (World.putObj_heap_other (by show w.heap.size + 1 + 1 ≠ D; omega))).trans p6
    refine ⟨.bool true, by simp [results, Try.results100, go_sem, hcell], ret_mk (ret_bool HF.out.symm) ?_⟩
    exact below_put hbw (by omega)
end Go.Proofs.Ytcngnfnljkkjgaa
