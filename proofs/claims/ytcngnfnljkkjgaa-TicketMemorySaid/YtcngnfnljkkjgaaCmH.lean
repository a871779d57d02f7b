/-
A region that draws its order and ends in one store: operations that yield one value in every world of a class are met first, in any order that suits; what is left comes one after the other.
The plain words, for a house at work: its truths one after the other; how many have an error of a clock.
A house at work: all its truths, and how many of them have an error of a clock.
What a house at work answers of one truth: an error; the hours of a ticket, and whether it stayed too long.
Whether a ticket stayed too long in a truth; from which minute on a tub is free.
A verdict over all truths; the bounds of an answer over all truths: of whatever function.
-/
import Derived.Test.YtcngnfnljkkjgaaCmG
import Derived.Test.YtcngnfnljkkjgaaCmF
import Derived.StillTail
import Derived.OrdersHeld
namespace Go.Proofs.Ytcngnfnljkkjgaa
open Go.RowKit

def plainOp : Op → Bool
  | .move _ | .assign _ | .load .. | .nilCheck _ | .fieldAddr .. | .indexAddr .. | .build .. | .lookup .. | .extract .. | .binOp .. | .index .. | .field .. | .unOp .. => true
  | _ => false

theorem value_of_bind {P : Program} {s : Sem Value} {w w' : World} {n : Next} (h : (do pure (Next.value (← s)) : Sem Next).run P w = .ok n w') : ∃ u, n = .value u := by
  simp only [Sem.run_bind] at h
  cases hs : s.run P w with
  | ok u w2 => rw [hs] at h; simp at h; exact ⟨u, h.1.symm⟩
  | halt x w2 => rw [hs] at h; simp at h

theorem andThen_value {α : Type} {r : Result α} {k : α → World → Result Next} {n : Next} {w' : World} (hk : ∀ a w1, k a w1 = .ok n w' → ∃ u, n = .value u) (h : r.andThen k = .ok n w') : ∃ u, n = .value u := by
  cases r with
  | ok a w1 => exact hk a w1 h
  | halt x w1 => simp at h

theorem plain_value {P : Program} {o : Oper} {ρ : Operand → Value} {w w' : World} {n : Next} (hp : plainOp o.op = true) (h : (execOp ρ o).run P w = .ok n w') : ∃ u, n = .value u := by
  unfold execOp at h
  cases ho : o.op <;> rw [ho] at hp h <;> simp only [plainOp, Bool.false_eq_true] at hp
  case nilCheck x =>
    simp only at h
    split at h
    · simp [runtimePanic] at h
    · simp [runtimePanic] at h
    · simp [runtimePanic] at h
    · split at h
      · simp [runtimePanic] at h
      · simp only [Sem.run_bind] at h
        refine andThen_value (fun a w1 h1 => ?_) h
        refine andThen_value (fun a w1 h1 => ?_) h1
        simp only [Sem.run_ite] at h1
        split at h1
        · rw [Sem.run_bind] at h1
          refine andThen_value (fun a w1 h1 => ?_) h1
          simp at h1; exact ⟨_, h1.1.symm⟩
        · simp at h1; exact ⟨_, h1.1.symm⟩
      · simp at h; exact ⟨_, h.1.symm⟩
    · simp at h; exact ⟨_, h.1.symm⟩
  case move => simp at h; exact ⟨_, h.1.symm⟩
  case assign => simp at h; exact ⟨_, h.1.symm⟩
  all_goals exact value_of_bind h

section
variable {P : Program} {ops : Array Oper} {Q : Exit → Act → World → Prop} {md : Region.Mode} {S : World → Prop} {n : Nat}

theorem yieldsIf_of_in {o : Oper} {v : Value} {a : Act} (hp : plainOp o.op = true) (hy : YieldsIn P ops S o v a) : YieldsIf P ops S o v a := by
  refine hy.imp (fun ⟨hw, hv⟩ => ⟨hw, fun w hS => ?_⟩) id
  have h := hv w hS
  unfold Oper.quietAt at h
  cases hr : (execOp a.eval o).run P w with
  | ok x w' =>
    obtain ⟨u, rfl⟩ := plain_value hp hr
    rw [hr] at h
    obtain ⟨rfl, rfl⟩ := h
    rfl
  | halt x w' => rw [hr] at h; exact h.elim

/-- Whatever order is picked from here on: behind each operation but the last, number n, S holds. -/
def wpT (P : Program) (md : Region.Mode) (ops : Array Oper) (Q : Exit → Act → World → Prop) (S : World → Prop) (n : Nat) : Nat → Array Bool → Act → World → Prop
  | 0, listed, a, w => Region.ready md ops listed = [n] ∧ Region.ready md ops (listed.setIfInBounds n true) = [] ∧ wpOp P ops Q n (Q .normal) a w
  | f + 1, listed, a, w => Region.ready md ops listed ≠ [] ∧ ∀ i ∈ Region.ready md ops listed, i < n ∧ wpOp P ops Q i (fun a' w' => S w' ∧ wpT P md ops Q S n f (listed.setIfInBounds i true) a' w') a w

theorem wpAny_of_T : ∀ (f : Nat) (listed : Array Bool) (a : Act) (w : World), wpT P md ops Q S n f listed a w → wpAny P md ops Q (f + 1) listed a w
  | 0, _, _, _, ⟨h1, h2, h3⟩ => ⟨(fun h0 => by rw [h1] at h0; cases h0), fun i hi => by
      rw [h1] at hi
      have hin : i = n := by simpa using hi
      subst hin
      exact wpOp_mono (fun a' w' h => ⟨h2, h⟩) h3⟩
  | f + 1, _, _, _, h => ⟨fun h0 => absurd h0 h.1, fun i hi => wpOp_mono (fun a' w' h' => wpAny_of_T f _ a' w' h'.2) (h.2 i hi).2⟩

theorem wpT_first {i : Nat} {oi : Oper} {v : Value} (hi : ops[i]? = some oi) (hsel : ∀ (j : Nat) (o : Oper) cs b, ops[j]? = some o → o.op ≠ .select cs b)
    (hQ : ∀ c a w, Q (.panic c) (a.put oi.dst v) w → Q (.panic c) a w) (hs : Region.sinkB md ops n = true) (hc : Region.chainB md ops n = true) (hn : n < ops.size) (hin : i < n) :
    ∀ (f : Nat) (listed : Array Bool) (a : Act) (w : World), HeadInv md ops n listed →
      (∀ j oj, ops[j]? = some oj → j ≠ i → listed.getD j true = false → (∀ e ∈ oj.after, Region.binds md e = true → e.on ≠ i) → oi.apart ops oj = true) →
      i ∈ Region.ready md ops listed → YieldsIf P ops S oi v a → S w →
      wpT P md ops Q S n f (listed.setIfInBounds i true) (a.put oi.dst v) w → wpT P md ops Q S n (f + 1) listed a w := by
  intro f
  induction f with
  | zero =>
    intro listed a w inv _ hr hy hS H
    have hun := (mem_ready.1 hr).1
    refine ⟨fun h => (by rw [h] at hr; cases hr), fun j hj => ?_⟩
    have hjn : j < n := by
      rcases Nat.lt_or_ge j n with h | h
      · exact h
      · exact absurd hj (tail_waits hs hc hn inv _ i rfl hin hun j h)
    refine ⟨hjn, ?_⟩
    by_cases hji : j = i
    · subst hji; exact hy.wpOp hi hS ⟨hS, H⟩
    · have := ready_mono hj hji
      rw [H.1] at this
      have : j = n := by simpa using this
      omega
  | succ f ih =>
    intro listed a w inv hfree hr hy hS H
    have hun := (mem_ready.1 hr).1
    refine ⟨fun h => (by rw [h] at hr; cases hr), fun j hj => ?_⟩
    have hjn : j < n := by
      rcases Nat.lt_or_ge j n with h | h
      · exact h
      · exact absurd hj (tail_waits hs hc hn inv _ i rfl hin hun j h)
    refine ⟨hjn, ?_⟩
    by_cases hji : j = i
    · subst hji; exact hy.wpOp hi hS ⟨hS, H⟩
    · have h1 := (H.2 j (ready_mono hj hji)).2
      obtain ⟨hjun, oj, hoj, hall⟩ := mem_ready.1 hj
      have hnot : ∀ e ∈ oj.after, Region.binds md e = true → e.on ≠ i := fun e he hb heq => by
        have h1 := hall e he hb
        have h0 := (mem_ready.1 hr).1
        rw [heq] at h1
        rcases Nat.lt_or_ge i listed.size with h' | h'
        · simp [h'] at h0 h1; rw [h0] at h1; cases h1
        · simp [Array.getElem?_eq_none h'] at h1
      have h2 := wpOp_putIf hoj (hfree j oj hoj hji hjun hnot) (fun cs b => hsel i oi cs b hi) (fun cs b => hsel j oj cs b hoj) hQ hy h1
      have hfree' : ∀ k ok, ops[k]? = some ok → k ≠ i → (listed.setIfInBounds j true).getD k true = false →
          (∀ e ∈ ok.after, Region.binds md e = true → e.on ≠ i) → oi.apart ops ok = true := fun k ok hk hki hun hno => by
        refine hfree k ok hk hki ?_ hno
        by_cases hjk : j = k
        · subst hjk; exact hjun
        · rw [getD_set_ne true hjk] at hun; exact hun
      refine wpOp_mono (fun a' w' h3 => ⟨h3.2.1, ih (listed.setIfInBounds j true) a' w' (inv.set hj hjn) hfree' (ready_mono hr (Ne.symm hji)) h3.1 h3.2.1 ?_⟩) h2
      rw [Array.setIfInBounds_comm _ _ hji]
      exact h3.2.2

/-- What is left comes one after the other, n last. -/
def tailB (md : Region.Mode) (ops : Array Oper) (n : Nat) : List Nat → Array Bool → Bool
  | [], listed => decide (Region.ready md ops listed = [n]) && decide (Region.ready md ops (listed.setIfInBounds n true) = [])
  | k :: l, listed => decide (Region.ready md ops listed = [k]) && (decide (k < n) && tailB md ops n l (listed.setIfInBounds k true))
/-- Those that are met first. -/
def permB (md : Region.Mode) (ops : Array Oper) (n : Nat) (tl : List Nat) : List Nat → Array Bool → Bool
  | [], listed => tailB md ops n tl listed
  | k :: l, listed => (Region.ready md ops listed).contains k && (Region.free md ops listed k && (decide (k < n) && ((match ops[k]? with | some o => plainOp o.op | none => false) && permB md ops n tl l (listed.setIfInBounds k true))))
def wpTail (P : Program) (ops : Array Oper) (Q : Exit → Act → World → Prop) (S : World → Prop) (n : Nat) : List Nat → Act → World → Prop
  | [], a, w => wpOp P ops Q n (Q .normal) a w
  | k :: l, a, w => wpOp P ops Q k (fun a' w' => S w' ∧ wpTail P ops Q S n l a' w') a w

theorem wpT_tail : ∀ (tl : List Nat) (listed : Array Bool) (a : Act) (w : World), tailB md ops n tl listed = true → wpTail P ops Q S n tl a w → wpT P md ops Q S n tl.length listed a w
  | [], listed, a, w, hB, h => by
    simp only [tailB, Bool.and_eq_true, decide_eq_true_eq] at hB
    exact ⟨hB.1, hB.2, h⟩
  | k :: l, listed, a, w, hB, h => by
    simp only [tailB, Bool.and_eq_true, decide_eq_true_eq] at hB
    obtain ⟨h1, h2, h3⟩ := hB
    refine ⟨by rw [h1]; simp, fun i hi => ?_⟩
    rw [h1] at hi
    have hik : i = k := by simpa using hi
    subst hik
    exact ⟨h2, wpOp_mono (fun a' w' h' => ⟨h'.1, wpT_tail l _ a' w' h3 h'.2⟩) h⟩

theorem wpT_perm {tl : List Nat} {w : World} (hsel : Region.noSelect ops = true) (hQ : ∀ c a d v w, Q (.panic c) (Act.put a d v) w → Q (.panic c) a w) (hs : Region.sinkB md ops n = true) (hc : Region.chainB md ops n = true) (hn : n < ops.size) (hS : S w) :
    ∀ (pre : List Nat) (listed : Array Bool) (a : Act), HeadInv md ops n listed → permB md ops n tl pre listed = true →
      wpQuiet P ops S (fun a' => wpTail P ops Q S n tl a' w) (pre.filterMap fun i => ops[i]?) a → wpT P md ops Q S n (pre.length + tl.length) listed a w
  | [], listed, a, _, hB, h => by
    rw [List.length_nil, Nat.zero_add]
    exact wpT_tail tl listed a w hB h
  | k :: l, listed, a, inv, hB, h => by
    simp only [permB, Bool.and_eq_true, decide_eq_true_eq] at hB
    obtain ⟨hr, hf, hkn, hp, hB'⟩ := hB
    have hr' : k ∈ Region.ready md ops listed := by simpa using hr
    obtain ⟨_, o, ho, _⟩ := mem_ready.1 hr'
    rw [ho] at hp
    rw [List.filterMap_cons, ho] at h
    have hst : qOp P ops S k (wpQuiet P ops S (fun a' => wpTail P ops Q S n tl a' w) (l.filterMap fun i => ops[i]?)) a := by unfold qOp; simp only [ho]; exact h
    obtain ⟨v, hy, hK⟩ := yieldsIn_of_qOp ho hst
    rw [List.length_cons, Nat.add_right_comm]
    exact wpT_first ho (Region.noSelect_spec hsel) (fun c a w => hQ c a _ v w) hs hc hn hkn _ listed a w inv (Region.free_spec ho hf) hr' (yieldsIf_of_in hp hy) hS
      (wpT_perm hsel hQ hs hc hn hS l _ _ (inv.set hr' hkn) hB' hK)

def regionB (ops : Array Oper) (pre tl : List Nat) (n : Nat) : Bool :=
  Region.noSelect ops && (Region.sinkB .any ops n && (Region.chainB .any ops n && (decide (pre.length + tl.length + 1 = ops.size) && (decide (n < ops.size) && permB .any ops n tl pre (Array.replicate ops.size false)))))

theorem any_perm {l : List Oper} {a : Act} {w : World} (pre tl : List Nat) (n : Nat) (hB : regionB l.toArray pre tl n = true) (hQ : ∀ c a d v w, Q (.panic c) (Act.put a d v) w → Q (.panic c) a w) (hS : S w)
    (h : wpQuiet P l.toArray S (fun a' => wpTail P l.toArray Q S n tl a' w) (pre.filterMap fun i => l[i]?) a) :
    wpAny P .any l.toArray Q l.toArray.size (Array.replicate l.toArray.size false) a w := by
  simp only [regionB, Bool.and_eq_true, decide_eq_true_eq] at hB
  obtain ⟨h1, h2, h3, h4, h5, h6⟩ := hB
  have inv0 : HeadInv .any l.toArray n (Array.replicate l.toArray.size false) :=
    ⟨by simp, fun j oj _ hl => (by rw [getD_replicate_false] at hl; cases hl), fun t _ ht => getD_in (by simpa using ht) (getD_replicate_false _ _)⟩
  have := wpAny_of_T _ _ _ _ (wpT_perm h1 hQ h2 h3 h5 hS pre _ a inv0 h6 (by simpa using h))
  rw [h4] at this
  exact this

/-- A region that draws its order and ends in one store. -/
theorem region_perm {id : Nat} {l : List Oper} {a : Act} {w : World} (S : World → Prop) (pre tl : List Nat) (n : Nat) (hm : P.follows .mixedOrders = true) (hB : regionB l.toArray pre tl n = true) (hQ : ∀ c a d v w, Q (.panic c) (Act.put a d v) w → Q (.panic c) a w) (hS : S w.drew)
    (h : wpQuiet P l.toArray S (fun a' => wpTail P l.toArray Q S n tl a' w.drew) (pre.filterMap fun i => l[i]?) a) : (Code.region id l.toArray true).wp P Q a w :=
  wp_region_any hm (any_perm pre tl n hB hQ hS h)
theorem regionIn_perm {id ln m : Nat} {l : List Oper} {a : Act} {w : World} (S : World → Prop) (pre tl : List Nat) (n : Nat) (hm : P.follows .mixedOrders = true) (hB : regionB l.toArray pre tl n = true) (hL : ¬ LetsOut Q) (hd : ∀ o ∈ l, ∀ c, o.op ≠ .defer c) (hQ : ∀ c a d v w, Q (.panic c) (Act.put a d v) w → Q (.panic c) a w) (hS : S w.drew)
    (h : wpQuiet P l.toArray S (fun a' => wpTail P l.toArray Q S n tl a' w.drew) (pre.filterMap fun i => l[i]?) a) : (Code.region id l.toArray true).wpIn (Fence.wide.inRound ln) m P Q a w :=
  regionIn_any hm hL (by simpa using hd) (any_perm pre tl n hB hQ hS h)

/-- A world in which C holds: x if it does there, else w. -/
noncomputable def held (C : World → Prop) (w x : World) : World := by
  classical exact if C x then x else w
theorem held_spec {C : World → Prop} {w : World} (h : C w) (x : World) : C (held C w x) := by
  unfold held
  split
  · assumption
  · exact h
theorem held_of {C : World → Prop} {w x : World} (h : C x) : x = held C w x := by
  unfold held
  rw [if_pos h]
theorem held_eq {C : World → Prop} {w : World} (h : C w) : (fun w' => ∃ x, w' = held C w x) = C := by
  funext w'
  exact propext ⟨(fun ⟨x, hx⟩ => hx ▸ held_spec h x), fun hw => ⟨w', held_of hw⟩⟩
theorem region_held {id : Nat} {l : List Oper} {a : Act} {w : World} (C : World → Prop) (pre tl : List Nat) (n : Nat) (hm : P.follows .mixedOrders = true) (hB : regionB l.toArray pre tl n = true) (hQ : ∀ c a d v w, Q (.panic c) (Act.put a d v) w → Q (.panic c) a w) (hC : C w.drew)
    (h : wpQuiet P l.toArray (fun w' => ∃ x, w' = held C w.drew x) (fun a' => wpTail P l.toArray Q C n tl a' w.drew) (pre.filterMap fun i => l[i]?) a) : (Code.region id l.toArray true).wp P Q a w :=
  region_perm C pre tl n hm hB hQ hC (by rw [held_eq hC] at h; exact h)
theorem regionIn_held {id ln m : Nat} {l : List Oper} {a : Act} {w : World} (C : World → Prop) (pre tl : List Nat) (n : Nat) (hm : P.follows .mixedOrders = true) (hB : regionB l.toArray pre tl n = true) (hL : ¬ LetsOut Q) (hd : ∀ o ∈ l, ∀ c, o.op ≠ .defer c) (hQ : ∀ c a d v w, Q (.panic c) (Act.put a d v) w → Q (.panic c) a w) (hC : C w.drew)
    (h : wpQuiet P l.toArray (fun w' => ∃ x, w' = held C w.drew x) (fun a' => wpTail P l.toArray Q C n tl a' w.drew) (pre.filterMap fun i => l[i]?) a) : (Code.region id l.toArray true).wpIn (Fence.wide.inRound ln) m P Q a w :=
  regionIn_perm C pre tl n hm hB hL hd hQ hC (by rw [held_eq hC] at h; exact h)

theorem wpTail_cons {k : Nat} {tl : List Nat} {a : Act} {w : World} {o : Oper} (ho : ops[k]? = some o)
    (h : ∀ K : Act → World → Prop, Hid (∀ a w, S w → wpTail P ops Q S n tl a w → K a w) → if Region.wanted o (yielded ops a.tmps) = true then Oper.wp P o a w K Q else K (a.put o.dst undef) w) : wpTail P ops Q S n (k :: tl) a w :=
  wpOp_step ho (fun K hK => h K (Lib.hid fun a w hS hT => hK a w ⟨hS, hT⟩))
theorem wpTail_nil {a : Act} {w : World} {o : Oper} (ho : ops[n]? = some o)
    (h : ∀ K : Act → World → Prop, Hid (∀ a w, Q .normal a w → K a w) → if Region.wanted o (yielded ops a.tmps) = true then Oper.wp P o a w K Q else K (a.put o.dst undef) w) : wpTail P ops Q S n [] a w :=
  wpOp_step ho (fun K hK => h K (Lib.hid hK))
end

theorem wp_append_own {P : Program} {o : Oper} {a : Act} {w : World} {Q : Exit → Act → World → Prop} {K : Act → World → Prop} (s x : Operand) (t : TypeId)
    (ho : o.op = .call { callee := .builtin .append, args := #[s, x], argTypes := #[t, t] })
    (base : Nat) (e : TypeId) (i : TypeInfo) (z : Value) (size bytes : Nat) (ht : P.underlying t = some (.slice e)) (hi : P.info? e = some i) (hz : i.zero = some z)
    (hsize : i.size = size) (hby : i.bytes = bytes) (hzs : z.cells.size = size) (hsz : 0 < size)
    (v : Value) (n : Nat) (xs : List Value) (hs : a.eval s = v) (hown : w.ownsRow base e size v n xs)
    (ad : Addr) (m c : Nat) (news : List Value) (hx : a.eval x = .slice (some ad) m c) (hl : news.length = m * size) (hnews : ∀ j u, news[j]? = some u → w.cell? (ad.add j) = some u) (h1 : ∀ u ∈ news, u.oneCell' = true)
    (h63 : n + m ≤ maxLen) (hbytes : (n + m) * bytes ≤ 140737488355328) (hbase : base ≤ w.heap.size)
    (h : ∀ v' w', w'.ownsRow base e size v' (n + m) (xs ++ news) → w.grownBy w' v.ownBlock → (v'.ownBlock = v.ownBlock ∨ v'.ownBlock = some w.heap.size) → K (a.put o.dst v') w') : o.wp P a w K Q := by
  obtain ⟨v', w', hr, h2, h3, h4, h5⟩ := run_append_own_at (P := P) w base t o.type e i z size bytes ht hi hz hsize hby hzs hsz v n xs hown ad m c news hl hnews h1 h63 hbytes hbase
  unfold Oper.wp execOp
  simp only [ho, resolve, invoke, builtin, Sem.run_bind, Sem.run_pure, Result.andThen_ok, List.map_toArray, List.map_cons, List.map_nil, hs, hx, hr]
  exact h v' w' h2 h3 h5
end Go.Proofs.Ytcngnfnljkkjgaa
namespace Go.Proofs.Ytcngnfnljkkjgaa
open Go.RowKit

def key4 (e : List Int) : Int × Int × Int × Int := (e.getD 0 0, e.getD 1 0, e.getD 2 0, e.getD 3 0)
theorem prods_length : ∀ (l : List Rg) (e : List Int), e ∈ prods l → e.length = l.length
  | [], e, h => by simp [prods] at h; simp [h]
  | r :: l, e, h => by
    simp only [prods, List.mem_flatMap, List.mem_map] at h
    obtain ⟨n, -, e', he', rfl⟩ := h
    simp [prods_length l e' he']
theorem prods_nodup : ∀ (l : List Rg), (prods l).Pairwise (fun a b => a ≠ b)
  | [] => by simp [prods]
  | r :: l => by
    simp only [prods]
    rw [List.pairwise_flatMap]
    refine ⟨fun n _ => ?_, ?_⟩
    · rw [List.pairwise_map]
      exact (prods_nodup l).imp (fun hab he => hab (by simpa using he))
    · refine List.Pairwise.imp ?_ (List.pairwise_lt_range (n := r.size.toNat))
      intro a b hab x hx y hy he
      simp only [List.mem_map] at hx hy
      obtain ⟨x', -, rfl⟩ := hx
      obtain ⟨y', -, rfl⟩ := hy
      simp only [List.cons.injEq] at he
      omega
theorem key4_inj : ∀ {a b : List Int}, a.length = b.length → a.length ≤ 4 → key4 a = key4 b → a = b
  | [], [], _, _, _ => rfl
  | [_], [_], _, _, h => by simp [key4] at h; simp [h]
  | [_, _], [_, _], _, _, h => by simp [key4] at h; simp [h]
  | [_, _, _], [_, _, _], _, _, h => by simp [key4] at h; simp [h]
  | [_, _, _, _], [_, _, _, _], _, _, h => by simp [key4] at h; simp [h]
  | _ :: _ :: _ :: _ :: _ :: _, _, _, h, _ => by simp at h
  | [], _ :: _, h, _, _ => by simp at h
  | [_], [], h, _, _ => by simp at h
  | [_], _ :: _ :: _, h, _, _ => by simp at h
  | [_, _], [], h, _, _ => by simp at h
  | [_, _], [_], h, _, _ => by simp at h
  | [_, _], _ :: _ :: _ :: _, h, _, _ => by simp at h
  | [_, _, _], [], h, _, _ => by simp at h
  | [_, _, _], [_], h, _, _ => by simp at h
  | [_, _, _], [_, _], h, _, _ => by simp at h
  | [_, _, _], _ :: _ :: _ :: _ :: _, h, _, _ => by simp at h
  | [_, _, _, _], [], h, _, _ => by simp at h
  | [_, _, _, _], [_], h, _, _ => by simp at h
  | [_, _, _, _], [_, _], h, _, _ => by simp at h
  | [_, _, _, _], [_, _, _], h, _, _ => by simp at h
  | [_, _, _, _], _ :: _ :: _ :: _ :: _ :: _, h, _, _ => by simp at h
/-- The truths among the first errors. -/
def Hs.trueOf (h : Hs) (l : List (List Int)) : List (List Int) := l.filter fun e => h.risingB e []
theorem trueOf_yes {h : Hs} (pre : List (List Int)) {p : List Int} (hr : h.risingB p [] = true) : h.trueOf (pre ++ [p]) = h.trueOf pre ++ [p] := by
  simp [Hs.trueOf, hr]
theorem trueOf_no {h : Hs} (pre : List (List Int)) {p : List Int} (hr : h.risingB p [] = false) : h.trueOf (pre ++ [p]) = h.trueOf pre := by
  simp [Hs.trueOf, hr]
theorem trueOf_length (h : Hs) (l : List (List Int)) : (h.trueOf l).length ≤ l.length := List.length_filter_le _ _
theorem last_ne {h : Hs} (hn : h.clocks.length ≤ 4) {pre : List (List Int)} {p q : List Int} (hp : (pre ++ [p]) <+: prods h.clocks) (hq : (h.trueOf pre).getLast? = some q) : key4 q ≠ key4 p := by
  have hqm : q ∈ pre := (List.mem_filter.1 (List.mem_of_getLast? hq)).1
  have hnd := (prods_nodup h.clocks).sublist hp.sublist
  rw [List.pairwise_append] at hnd
  intro hk
  have h1 := prods_length _ _ (hp.subset (List.mem_append_left _ hqm))
  have h2 := prods_length _ _ (hp.subset (List.mem_append_right pre (List.mem_singleton.2 rfl)))
  exact hnd.2.2 q hqm p (by simp) (key4_inj (h1.trans h2.symm) (by omega) hk)
theorem flatMap_const_length {α β : Type} {f : α → List β} {k : Nat} : ∀ (l : List α), (∀ x ∈ l, (f x).length = k) → (l.flatMap f).length = l.length * k
  | [], _ => by simp
  | x :: l, h => by rw [List.flatMap_cons, List.length_append, h x (by simp), flatMap_const_length l (fun y hy => h y (by simp [hy])), List.length_cons, Nat.add_mul]; omega
theorem prods_count : ∀ (l : List Rg), (∀ r ∈ l, -30 ≤ r.lo ∧ r.lo ≤ r.hi ∧ r.hi ≤ 30) → (prods l).length ≤ 61 ^ l.length
  | [], _ => by simp [prods]
  | r :: l, h => by
    have h1 := prods_count l (fun x hx => h x (by simp [hx]))
    have h2 := h r (by simp)
    simp only [prods]
    rw [flatMap_const_length (k := (prods l).length) _ (fun n _ => by simp), List.length_range, List.length_cons, Nat.pow_succ, Nat.mul_comm]
    have : r.size.toNat ≤ 61 := by unfold Rg.size; omega
    exact Nat.mul_le_mul h1 this
theorem pre_count {h : Hs} (hn : h.clocks.length ≤ 4) (hr : ∀ r ∈ h.clocks, -30 ≤ r.lo ∧ r.lo ≤ r.hi ∧ r.hi ≤ 30) {l : List (List Int)} (hp : l <+: prods h.clocks) : l.length ≤ 13845841 := by
  have h1 := hp.length_le
  have h2 := prods_count _ hr
  have h3 : 61 ^ h.clocks.length ≤ 61 ^ 4 := Nat.pow_le_pow_right (by omega) hn
  omega

/-- How many have this error of a clock. -/
def countT (T : List (List Int)) (c o : Int) : Int := ((T.filter fun e => e.getD c.toNat 0 == o).length : Int)
theorem countT_snoc (T : List (List Int)) (p : List Int) (c o : Int) : countT (T ++ [p]) c o = countT T c o + if p.getD c.toNat 0 = o then 1 else 0 := by
  unfold countT
  rw [List.filter_append, List.length_append]
  by_cases h : p.getD c.toNat 0 = o
  · rw [if_pos h, List.filter_cons, if_pos (by simpa using h)]
    simp
  · rw [if_neg h, List.filter_cons, if_neg (by simpa using h)]
    simp

/-- The map with one more at a key. -/
def bumpM (l : List (Int × Int × Int)) (c o : Int) : List (Int × Int × Int) := (touch l c o).1.set (touch l c o).2 (c, o, cnt l c o + 1)
def bumpR (l : List (Int × Int × Int)) (c o : Int) : List (Int × Int × Int) :=
  match l with
  | [] => [(c, o, 1)]
  | x :: l => if (c == x.1 && o == x.2.1) = true then (c, o, x.2.2 + 1) :: l else x :: bumpR l c o
theorem touch_cons_no {x : Int × Int × Int} {l : List (Int × Int × Int)} {c o : Int} (h : (c == x.1 && o == x.2.1) = false) : touch (x :: l) c o = (x :: (touch l c o).1, (touch l c o).2 + 1) := by
  unfold touch
  rw [List.findIdx?_cons, h]
  cases hf : (l.findIdx? fun x => c == x.1 && o == x.2.1) <;> simp
theorem cnt_cons_no {x : Int × Int × Int} {l : List (Int × Int × Int)} {c o : Int} (h : (c == x.1 && o == x.2.1) = false) : cnt (x :: l) c o = cnt l c o := by
  simp [cnt, h]
theorem cnt_cons_yes {x : Int × Int × Int} {l : List (Int × Int × Int)} {c o : Int} (h : (c == x.1 && o == x.2.1) = true) : cnt (x :: l) c o = x.2.2 := by
  simp [cnt, h]
theorem bumpM_eq : ∀ (l : List (Int × Int × Int)) (c o : Int), bumpM l c o = bumpR l c o
  | [], c, o => by simp [bumpM, touch, bumpR, cnt]
  | x :: l, c, o => by
    cases h : (c == x.1 && o == x.2.1)
    · simp [bumpM, bumpR, touch_cons_no h, cnt_cons_no h, h]
      exact bumpM_eq l c o
    · have ht : touch (x :: l) c o = (x :: l, 0) := by simp [touch, List.findIdx?_cons, h]
      simp [bumpM, bumpR, ht, h, cnt_cons_yes h]
theorem cnt_bumpR : ∀ (l : List (Int × Int × Int)) (c o c' o' : Int), cnt (bumpR l c o) c' o' = cnt l c' o' + if c' = c ∧ o' = o then 1 else 0
  | [], c, o, c', o' => by
    by_cases h : c' = c ∧ o' = o
    · obtain ⟨rfl, rfl⟩ := h
      simp [bumpR, cnt]
    · have : (c' == c && o' == o) = false := by rw [Bool.eq_false_iff]; intro hh; simp at hh; exact h hh
      simp only [bumpR, cnt, List.find?_cons, this, List.find?_nil]
      simp [h]
  | x :: l, c, o, c', o' => by
    cases hx : (c == x.1 && o == x.2.1)
    · rw [bumpR, if_neg (by simp [hx])]
      cases hy : (c' == x.1 && o' == x.2.1)
      · rw [cnt_cons_no hy, cnt_cons_no hy]
        exact cnt_bumpR l c o c' o'
      · rw [cnt_cons_yes hy, cnt_cons_yes hy, if_neg, Int.add_zero]
        rintro ⟨rfl, rfl⟩
        rw [hx] at hy
        cases hy
    · rw [bumpR, if_pos hx]
      simp only [Bool.and_eq_true, beq_iff_eq] at hx
      obtain ⟨rfl, rfl⟩ := hx
      by_cases h : c' = x.1 ∧ o' = x.2.1
      · obtain ⟨rfl, rfl⟩ := h
        rw [cnt_cons_yes (by simp), cnt_cons_yes (by simp), if_pos ⟨rfl, rfl⟩]
      · have : (c' == x.1 && o' == x.2.1) = false := by rw [Bool.eq_false_iff]; intro hh; simp at hh; exact h hh
        rw [cnt_cons_no (x := (x.1, x.2.1, x.2.2 + 1)) this, cnt_cons_no this, if_neg h, Int.add_zero]
theorem cnt_bump (l : List (Int × Int × Int)) (c o c' o' : Int) : cnt (bumpM l c o) c' o' = cnt l c' o' + if c' = c ∧ o' = o then 1 else 0 := by
  rw [bumpM_eq]; exact cnt_bumpR l c o c' o'
theorem touch_at (l : List (Int × Int × Int)) (c o : Int) : (touch l c o).1[(touch l c o).2]? = some (c, o, cnt l c o) := by
  unfold touch
  cases hf : (l.findIdx? fun x => c == x.1 && o == x.2.1) with
  | some j => exact (cnt_of_some hf).2
  | none => simp [cnt_of_none hf]
theorem touch_length (l : List (Int × Int × Int)) (c o : Int) : (bumpM l c o).length = (touch l c o).1.length := by simp [bumpM]
end Go.Proofs.Ytcngnfnljkkjgaa
namespace Go.Proofs.Ytcngnfnljkkjgaa
open Go.RowKit
attribute [local go_sem] cell_later frozen_later lt_later le_later
attribute [local go_sem] Oper.semAt_some

theorem range_lists2 (h : Hs) (A2 : Option Addr) (c2 Bh : Nat) (hn : h.clocks.length ≤ 4) (hr : ∀ r ∈ h.clocks, -30 ≤ r.lo ∧ r.lo ≤ r.hi ∧ r.hi ≤ 30) {g : Operand} {p0 q : Tmp} {assign body : Code} {Q : Exit → Act → World → Prop} {a : Act} {w : World}
    (hg : a.eval g = .func (.func 134) #[] #[.pointer (some ⟨Bh, 0, none⟩)])
    (I : List (List Int) → World → Prop) (Ix : Code → List (List Int) → World → Prop)
    (hI : ∀ pre A B, I pre A → KeepR w.heap.size 5 A B → I pre B) (hIx : ∀ c pre A B, Ix c pre A → KeepR w.heap.size 5 A B → Ix c pre B)
    (hHB : ∀ pre A, I pre A → HB h A2 c2 Bh A) (h0 : I [] w)
    (J : Nat → List (List Int) → World → Prop) (hJ : ∀ g5 pre A B, J g5 pre A → KeepR w.heap.size 5 A B → J g5 pre B)
    (hassign : ∀ (l : Nat) (pre : List (List Int)) (p : List Int) (W : World) (K : Act → World → Prop), (pre ++ [p]) <+: prods h.clocks → I pre W → w.heap.size + 5 ≤ W.heap.size →
      (∀ g5 W', PrivKeep w.heap.size 5 W W' → J g5 pre W' → w.heap.size + 5 ≤ g5 → BlkAt W' g5 119 (e4 p) → K { tmps := (a.tmps.setIfInBounds p0 (.agg (e4 p).toArray)).setIfInBounds q (.pointer (some ⟨g5, 0, none⟩)), defers := [] } W') →
      assign.wpIn (Fence.wide.inRound l) 0 Try.prog (Exit.then K (fun _ _ _ => False)) { tmps := a.tmps.setIfInBounds p0 (.agg (e4 p).toArray), defers := [] } W)
    (hbody : ∀ (l : Nat) (pre : List (List Int)) (p : List Int) (g5 : Nat) (W : World), (pre ++ [p]) <+: prods h.clocks → w.heap.size + 5 ≤ W.heap.size → J g5 pre W → w.heap.size + 5 ≤ g5 → BlkAt W g5 119 (e4 p) →
      body.wpIn (Fence.wide.inRound l) 0 Try.prog (RoundQ w.heap.size I Ix (pre ++ [p]) W) { tmps := (a.tmps.setIfInBounds p0 (.agg (e4 p).toArray)).setIfInBounds q (.pointer (some ⟨g5, 0, none⟩)), defers := [] } W)
    (hdone : ∀ (D : Nat) (W : World), w.heap.size ≤ D → I (prods h.clocks) W → W.heap[D]? = some (.deferred (some [])) → Q .normal { a with defers := { target := .collected D, args := #[] } :: a.defers } W)
    (hstop : ∀ (D : Nat) (c : Code) (zs : List (List Int)) (W : World), w.heap.size ≤ D → zs ≠ [] → zs <+: prods h.clocks → Ix c zs W → W.heap[D]? = some (.deferred (some [])) → c.wpIn Fence.wide 0 Try.prog Q { a with defers := { target := .collected D, args := #[] } :: a.defers } W) :
    (Code.rangeFunc g #[p0] assign body).wpIn Fence.wide 0 Try.prog Q a w := by
  refine range_lists h A2 c2 Bh hn hr hg I Ix hI hIx hHB h0
    (fun pre p a' W => ∃ g5, J g5 pre W ∧ w.heap.size + 5 ≤ g5 ∧ BlkAt W g5 119 (e4 p) ∧ a' = { tmps := (a.tmps.setIfInBounds p0 (.agg (e4 p).toArray)).setIfInBounds q (.pointer (some ⟨g5, 0, none⟩)), defers := [] })
    (fun pre p a' A B hA k => by
      obtain ⟨g5, h0, h1, h2, h3⟩ := hA
      exact ⟨g5, hJ _ _ _ _ h0 k, h1, (k.block g5 h2.lt (.inr h1)).trans h2, h3⟩)
    (fun l pre p W K hp hi hs hK => hassign l pre p W K hp hi hs (fun g5 W' k1 k2 k3 k4 => hK _ _ k1 ⟨g5, k2, k3, k4, rfl⟩))
    (fun l pre p a' W hp hs hA => by
      obtain ⟨g5, hi, h1, h2, rfl⟩ := hA
      exact hbody l pre p g5 W hp hs hi h1 h2)
    hdone hstop

theorem makeMap_spot (W : World) : (Instr.makeMap 127 none).run Try.prog W = .ok (.map (some W.heap.size)) (W.alloc (.map #[] 0)) := by
  unfold Instr.makeMap
  simp [go_sem]
attribute [local go_sem] makeMap_spot

/-- The house at work in memory. -/
def WkAt (w : World) (g : Nat) (h : Hs) : Prop :=
  ∃ A2 c2 A3 c3 A4 c4 A5 c5 r l, SlA w 2 gR A2 c2 h.clocks ∧ SlA w 2 gT A3 c3 h.tickets ∧ SlA w 3 gC A4 c4 h.clips ∧ SlA w 4 e4 A5 c5 h.truths ∧ MapAt w r l ∧
    (∀ c o : Int, 0 ≤ c → c < h.clocks.length → cnt l c o = countT h.truths c o) ∧
    BlkAt w g 129 [.int .i64 h.hour, .int .i64 h.grace, .slice A2 h.clocks.length c2, .slice A3 h.tickets.length c3, .slice A4 h.clips.length c4, .slice A5 h.truths.length c5, .map (some r)]

def Hs.askE (h : Hs) (due : Int) : Int := if h.fault ≠ 0 then h.fault else if due ≠ 0 then due else if h.truths = [] then 11 else 0
def RetAsked (h : Hs) (due : Int) (w : World) (e : Ending) (w' : World) : Prop :=
  (∃ x, w' = later w x) ∧ ((h.askE due ≠ 0 ∧ e = .returned (.tuple #[.pointer none, .int .i64 (h.askE due)])) ∨
    (h.askE due = 0 ∧ ∃ g, e = .returned (.tuple #[.pointer (some ⟨g, 0, none⟩), .int .i64 0]) ∧ WkAt w' g h))

/-- The world in the rounds: but for the box and the map, all is as it was. -/
structure AskK (g r : Nat) (W0 W : World) : Prop where
  os : W.os = W0.os
  tape : W.tape = W0.tape
  output : W.output = W0.output
  size : W0.heap.size ≤ W.heap.size
  block : ∀ k, k < W0.heap.size → k ≠ g → k ≠ r → W.heap[k]? = W0.heap[k]?
structure AskV (h : Hs) (s2 s3 s4 : Value) (g r : Nat) (W0 : World) (gx : Nat) (vt : Value) (T : List (List Int)) (cn : Int → Int → Int) (W : World) : Prop where
  keep : AskK g r W0 W
  box : BlkAt W g 129 [.int .i64 h.hour, .int .i64 h.grace, s2, s3, s4, vt, .map (some r)]
  own : W.ownsRow (W0.heap.size + 5) 119 4 vt T.length (T.flatMap e4)
  nx : vt.ownBlock ≠ some gx
  map : ∃ l, MapAt W r l ∧ ∀ c o : Int, 0 ≤ c → c < h.clocks.length → cnt l c o = cn c o
def AskI (h : Hs) (s2 s3 s4 : Value) (g r : Nat) (W0 : World) (gx : Nat) (T : List (List Int)) (cn : Int → Int → Int) (W : World) : Prop := ∃ vt, AskV h s2 s3 s4 g r W0 gx vt T cn W

theorem AskK.below {B g r : Nat} {w W0 W : World} (hb : Below B w W0) (hB : B ≤ W0.heap.size) (hg : B ≤ g) (hr : B ≤ r) (k : AskK g r W0 W) : Below B w W :=
  ⟨k.os.trans hb.os, k.tape.trans hb.tape, k.output.trans hb.output, Nat.le_trans hb.size k.size, fun i hi => (k.block i (by omega) (by omega) (by omega)).trans (hb.block i hi)⟩
theorem AskK.keepR {g r : Nat} {W0 A B : World} (k : AskK g r W0 A) (h : KeepR W0.heap.size 5 A B) : AskK g r W0 B :=
  ⟨h.os.trans k.os, h.tape.trans k.tape, h.output.trans k.output, Nat.le_trans k.size h.size, fun i hi h1 h2 => (h.block i (Nat.lt_of_lt_of_le hi k.size) (.inl hi)).trans (k.block i hi h1 h2)⟩
theorem AskK.cell {g r : Nat} {W0 A : World} (k : AskK g r W0 A) {a : Addr} {u : Value} (h : W0.cell? a = some u) (h1 : a.block ≠ g) (h2 : a.block ≠ r) : A.cell? a = some u :=
  (World.cell?_of_block (w := W0) (k.block a.block (World.block_lt_of_cell? W0 a h) h1 h2)).trans h
theorem e4_at (p : List Int) : ∀ {k : Nat}, k < 4 → (e4 p)[k]? = some (.int .i64 (p.getD k 0))
  | 0, _ => rfl
  | 1, _ => rfl
  | 2, _ => rfl
  | 3, _ => rfl
  | _ + 4, h => by omega
theorem countT_bd (T : List (List Int)) (c o : Int) : 0 ≤ countT T c o ∧ countT T c o ≤ T.length := by
  unfold countT
  have := List.length_filter_le (fun e : List Int => e.getD c.toNat 0 == o) T
  omega
theorem priv_put {N r : Nat} (W : World) (o : Obj) (hr : r < N) : PrivKeep N 5 W (W.putObj r o) := ⟨by simp, fun k h1 _ => World.putObj_heap_other (by omega)⟩
theorem World.block_lt_of_map {W : World} {r : Nat} {l : List (Int × Int × Int)} (h : MapAt W r l) : r < W.heap.size := (Array.getElem?_eq_some_iff.1 h).1
theorem recount_at {p : List Int} {k : Nat} {c o' : Int} (a : Int) (h0 : 0 ≤ c) :
    a + (if c < (k : Int) ∧ p.getD c.toNat 0 = o' then 1 else 0) + (if c = (k : Int) ∧ o' = p.getD k 0 then 1 else 0) = a + if c < ((k + 1 : Nat) : Int) ∧ p.getD c.toNat 0 = o' then 1 else 0 := by
  by_cases h1 : c = (k : Int)
  · subst h1
    rw [if_neg (by omega)]
    by_cases h2 : p.getD k 0 = o'
    · rw [if_pos ⟨rfl, h2.symm⟩, if_pos ⟨by omega, by simpa using h2⟩]; omega
    · rw [if_neg (fun hh => h2 hh.2.symm), if_neg (fun hh => h2 (by simpa using hh.2))]; omega
  · rw [if_neg (c := c = (k : Int) ∧ _) (fun hh => h1 hh.1)]
    by_cases h2 : c < (k : Int) ∧ p.getD c.toNat 0 = o'
    · rw [if_pos h2, if_pos ⟨by omega, h2.2⟩]; omega
    · rw [if_neg h2, if_neg (fun hh => h2 ⟨by omega, hh.2⟩)]; omega
theorem SlA.putD {α : Type} {W : World} {k : Nat} {g : α → List Value} {A : Option Addr} {c : Nat} {l : List α} {D : Nat} {o : Obj} (h : SlA W k g A c l) (hD : W.heap[D]? = some (.deferred (some []))) (hg : ∀ y ∈ l, g y ≠ []) : SlA (W.putObj D o) k g A c l :=
  ⟨h.1, h.2.1, fun hne => by
    obtain ⟨b, off, e, hlt, hc⟩ := h.2.2 hne
    have hbD : b ≠ D := by
      rintro rfl
      obtain ⟨y, l', rfl⟩ := List.exists_cons_of_ne_nil hne
      obtain ⟨u, us, hu⟩ := List.exists_cons_of_ne_nil (hg y (by simp))
      have := hc 0 y rfl 0 u (by rw [hu]; rfl)
      unfold World.cell? at this
      rw [hD] at this
      cases this
    exact ⟨b, off, e, by simpa using hlt, fun i y hy j u hu => (World.cell?_of_block (w := W) (World.putObj_heap_other hbD)).trans (hc i y hy j u hu)⟩⟩
theorem priv_grown {N : Nat} {A B : World} {row : Option Nat} (hg1 : A.grownBy B row) (hrow : ∀ k, N ≤ k → k < N + 5 → row ≠ some k) (hs : N + 5 ≤ A.heap.size) : PrivKeep N 5 A B :=
  ⟨hg1.size, fun k h1 h2 => hg1.block k (by omega) (fun e => hrow k h1 h2 e.symm)⟩
theorem own_ne {N : Nat} {W : World} {v : Value} {n k : Nat} {xs : List Value} (h : W.ownsRow (N + 5) 119 4 v n xs) (hk : k < N + 5) : v.ownBlock ≠ some k := by
  rcases h.2 with ⟨rfl, -⟩ | ⟨b, cap, cur, rfl, hb, -⟩
  · simp [Value.ownBlock]
  · simp only [Value.ownBlock, ne_eq, Option.some.injEq]
    omega
theorem own_set {N : Nat} {W : World} {v : Value} {n g i : Nat} {u : Value} {xs : List Value} (h : W.ownsRow (N + 5) 119 4 v n xs) (hg : g < N + 5) : (W.setCell ⟨g, i, none⟩ u).ownsRow (N + 5) 119 4 v n xs := by
  obtain ⟨h6, h7⟩ := h
  refine ⟨h6, ?_⟩
  rcases h7 with h7 | ⟨b, cap, cur, h8, h9, h10, h11⟩
  · exact .inl h7
  · exact .inr ⟨b, cap, cur, h8, h9, (Below.heap_setCell _ _ _ _ (by show b ≠ g; omega)).trans h10, h11⟩
theorem own_put {N : Nat} {W : World} {v : Value} {n r : Nat} {o : Obj} {xs : List Value} (h : W.ownsRow (N + 5) 119 4 v n xs) (hr : r < N + 5) : (W.putObj r o).ownsRow (N + 5) 119 4 v n xs := by
  obtain ⟨h6, h7⟩ := h
  refine ⟨h6, ?_⟩
  rcases h7 with h7 | ⟨b, cap, cur, h8, h9, h10, h11⟩
  · exact .inl h7
  · exact .inr ⟨b, cap, cur, h8, h9, (World.putObj_heap_other (by omega)).trans h10, h11⟩
section
variable {h : Hs} {s2 s3 s4 vt v' : Value} {g r gx : Nat} {W0 A B : World} {T : List (List Int)} {cn cn' : Int → Int → Int}
theorem own_keepR {N : Nat} {v : Value} {n : Nat} {xs : List Value} (h3 : A.ownsRow (N + 5) 119 4 v n xs) (k : KeepR N 5 A B) : B.ownsRow (N + 5) 119 4 v n xs := by
  obtain ⟨h6, h7⟩ := h3
  refine ⟨h6, ?_⟩
  rcases h7 with h7 | ⟨b, cap, cur, h8, h9, h10, h11⟩
  · exact .inl h7
  · exact .inr ⟨b, cap, cur, h8, h9, (k.block b (Array.getElem?_eq_some_iff.1 h10).1 (.inr h9)).trans h10, h11⟩
theorem AskV.keepR (hg : g < W0.heap.size) (hr : r < W0.heap.size) (H : AskV h s2 s3 s4 g r W0 gx vt T cn A) (k : KeepR W0.heap.size 5 A B) : AskV h s2 s3 s4 g r W0 gx vt T cn B := by
  obtain ⟨h1, h2, h3, h4, l, h5, h6⟩ := H
  exact ⟨h1.keepR k, (k.block g (Nat.lt_of_lt_of_le hg h1.size) (.inl hg)).trans h2, own_keepR h3 k, h4, l, (k.block r (Nat.lt_of_lt_of_le hr h1.size) (.inl hr)).trans h5, h6⟩
theorem AskI.keepR (hg : g < W0.heap.size) (hr : r < W0.heap.size) (H : AskI h s2 s3 s4 g r W0 gx T cn A) (k : KeepR W0.heap.size 5 A B) : AskI h s2 s3 s4 g r W0 gx T cn B := by
  obtain ⟨vt, H⟩ := H
  exact ⟨vt, H.keepR hg hr k⟩
theorem AskV.low (H : AskV h s2 s3 s4 g r W0 gx vt T cn A) (k : Below A.heap.size A B) (hg : g < W0.heap.size) (hr : r < W0.heap.size) : AskV h s2 s3 s4 g r W0 gx vt T cn B := H.keepR hg hr (KeepR.of_below k)
theorem AskI.fresh (H : AskI h s2 s3 s4 g r W0 gx T cn A) : AskI h s2 s3 s4 g r W0 A.heap.size T cn A := by
  obtain ⟨vt, h1, h2, h3, h4, h5⟩ := H
  refine ⟨vt, h1, h2, h3, ?_, h5⟩
  rcases h3.2 with ⟨rfl, -⟩ | ⟨b, cap, cur, rfl, -, hh, -⟩
  · simp [Value.ownBlock]
  · have := (Array.getElem?_eq_some_iff.1 hh).1
    simp only [Value.ownBlock, ne_eq, Option.some.injEq]
    omega
theorem AskI.low (H : AskI h s2 s3 s4 g r W0 gx T cn A) (k : Below A.heap.size A B) (hg : g < W0.heap.size) (hr : r < W0.heap.size) : AskI h s2 s3 s4 g r W0 gx T cn B := H.keepR hg hr (KeepR.of_below k)
theorem AskV.old (H : AskV h s2 s3 s4 g r W0 gx vt T cn A) : AskI h s2 s3 s4 g r W0 0 T cn A := by
  obtain ⟨h1, h2, h3, h4, h5⟩ := H
  exact ⟨vt, h1, h2, h3, own_ne h3 (by omega), h5⟩
/-- One truth more. -/
theorem AskV.push {p : List Int} (H : AskV h s2 s3 s4 g r W0 gx vt T cn A) (hg1 : A.grownBy B vt.ownBlock) (hown : B.ownsRow (W0.heap.size + 5) 119 4 v' (T.length + 1) (T.flatMap e4 ++ e4 p)) (hob : v'.ownBlock = vt.ownBlock ∨ v'.ownBlock = some A.heap.size)
    (hgx : gx < A.heap.size) (hg : g < W0.heap.size) (hr : r < W0.heap.size) (hgr : g ≠ r) :
    BlkAt B g 129 [.int .i64 h.hour, .int .i64 h.grace, s2, s3, s4, vt, .map (some r)] ∧ AskV h s2 s3 s4 g r W0 gx v' (T ++ [p]) cn (B.setCell ⟨g, 5, none⟩ v') := by
  obtain ⟨h1, h2, h3, h4, l, h5, h6⟩ := H
  have hlow : ∀ k, k < W0.heap.size → B.heap[k]? = A.heap[k]? := fun k hk => hg1.block k (Nat.lt_of_lt_of_le hk h1.size) (fun e => own_ne h3 (by omega) e.symm)
  have h2' : BlkAt B g 129 [.int .i64 h.hour, .int .i64 h.grace, s2, s3, s4, vt, .map (some r)] := (hlow g hg).trans h2
  refine ⟨h2', ⟨hg1.os.trans h1.os, hg1.tape.trans h1.tape, hg1.output.trans h1.output, by simpa using Nat.le_trans h1.size hg1.size, fun k hk k1 k2 => (Below.heap_setCell _ _ _ _ (by show k ≠ g; exact k1)).trans ((hlow k hk).trans (h1.block k hk k1 k2))⟩, h2'.set_ 5 v', ?_, ?_, l, ?_, h6⟩
  · have := own_set (g := g) (i := 5) (u := v') hown (by omega)
    simpa using this
  · rcases hob with e | e
    · rw [e]; exact h4
    · rw [e]; simp only [ne_eq, Option.some.injEq]; omega
  · exact (Below.heap_setCell _ _ _ _ (by show r ≠ g; omega)).trans ((hlow r hr).trans h5)
/-- The map anew. -/
theorem AskV.put (H : AskV h s2 s3 s4 g r W0 gx vt T cn A) (l : List (Int × Int × Int)) (hr : r < W0.heap.size) (hgr : g ≠ r) (hl : ∀ c o : Int, 0 ≤ c → c < h.clocks.length → cnt l c o = cn' c o) :
    AskV h s2 s3 s4 g r W0 gx vt T cn' (A.putObj r (.map (entries l).toArray l.length)) := by
  obtain ⟨h1, h2, h3, h4, l', h5, h6⟩ := H
  refine ⟨⟨h1.os, h1.tape, h1.output, by simpa using h1.size, fun k hk k1 k2 => (World.putObj_heap_other k2).trans (h1.block k hk k1 k2)⟩, (World.putObj_heap_other hgr).trans h2, own_put h3 (by omega), h4, l, ?_, hl⟩
  exact World.putObj_heap_same (Nat.lt_of_lt_of_le hr h1.size)
theorem AskV.recount (H : AskV h s2 s3 s4 g r W0 gx vt T cn A) (hl : ∀ c o : Int, 0 ≤ c → c < h.clocks.length → cn c o = cn' c o) : AskV h s2 s3 s4 g r W0 gx vt T cn' A := by
  obtain ⟨h1, h2, h3, h4, l', h5, h6⟩ := H
  exact ⟨h1, h2, h3, h4, l', h5, fun c o k1 k2 => (h6 c o k1 k2).trans (hl c o k1 k2)⟩
end

/-- The cells at some addresses are as they were. -/
def Same (l : List Addr) (W V : World) : Prop := ∀ a ∈ l, V.cell? a = W.cell? a
theorem same_drew {l : List Addr} {W : World} : Same l W W.drew := fun a _ => by simp [go_sem]
theorem same_held {l : List Addr} {W : World} {a : Addr} {u : Value} (h : W.cell? a = some u) (ha : a ∈ l) (x : World) : (held (Same l W) W.drew x).cell? a = some u :=
  (held_spec same_drew x a ha).trans h
theorem same_below {l : List Addr} {W V : World} (hb : Below W.heap.size W V) (h : ∀ a ∈ l, a.block < W.heap.size) : Same l W V := fun a ha => hb.cell (h a ha)
theorem infoErrors : (Try.prog.info? 119).map (fun i => (i.zero, i.size, i.bytes)) = some (some (.agg #[.int .i64 0, .int .i64 0, .int .i64 0, .int .i64 0]), 4, 32) := by kernel_rfl
theorem key4_of {p : List Int} {a0 a1 a2 a3 : Int} (h : e4 p = [.int .i64 a0, .int .i64 a1, .int .i64 a2, .int .i64 a3]) : key4 p = (a0, a1, a2, a3) := by
  simp only [e4, List.cons.injEq, Value.int.injEq, true_and, and_true] at h
  obtain ⟨t0, t1, t2, t3⟩ := h
  unfold key4
  rw [t0, t1, t2, t3]
/-- Whether four errors are the same. -/
def eq4 (q0 q1 q2 q3 a0 a1 a2 a3 : Int) : Bool := decide (q0 = a0 ∧ q1 = a1 ∧ q2 = a2 ∧ q3 = a3)
theorem equal_errors (q0 q1 q2 q3 a0 a1 a2 a3 : Int) (w : World) : (Op.equal 119 (.agg #[.int .i64 q0, .int .i64 q1, .int .i64 q2, .int .i64 q3]) (.agg #[.int .i64 a0, .int .i64 a1, .int .i64 a2, .int .i64 a3])).run Try.prog w = .ok (eq4 q0 q1 q2 q3 a0 a1 a2 a3) w := by
  have hu : Try.prog.underlying 119 = some (.array 4 3) := by kernel_rfl
  have hui : Try.prog.underlying 3 = some (.int .i64) := by kernel_rfl
  obtain ⟨d, hd⟩ : ∃ d, 10000 = (d + 1) + 1 := ⟨9998, rfl⟩
  have he : ∀ a b : Int, (Op.equalIn (d + 1) 3 (.int .i64 a) (.int .i64 b)).run Try.prog w = .ok (a == b) w := fun a b => run_equalIn_int w d 3 .i64 .i64 a b hui
  have hs : (sizeOf 3).run Try.prog w = .ok 1 w := by kernel_rfl
  have hp : ∀ (xs : Array Value) (i : Nat) (u : Int), xs[i]? = some (.int .i64 u) → (part 3 xs i).run Try.prog w = .ok (.int .i64 u) w := by
    intro xs i u h
    simp [part, go_sem, h]
  have hr : ∀ {β : Type} (b : β) (f : Nat → β → Sem (ForInStep β)), (forIn [0:4] b f : Sem β) = forIn [0, 1, 2, 3] b f := by
    intro β b f
    rw [Std.Legacy.Range.forIn_eq_forIn_range']
    rfl
  unfold Op.equal Op.maxDepth eq4
  rw [hd, Op.equalIn]
  simp only [Sem.run_bind, run_underlying hu, Result.andThen_ok, hs, hr]
  have x0 := hp #[.int .i64 q0, .int .i64 q1, .int .i64 q2, .int .i64 q3] 0 q0 rfl
  have x1 := hp #[.int .i64 q0, .int .i64 q1, .int .i64 q2, .int .i64 q3] 1 q1 rfl
  have x2 := hp #[.int .i64 q0, .int .i64 q1, .int .i64 q2, .int .i64 q3] 2 q2 rfl
  have x3 := hp #[.int .i64 q0, .int .i64 q1, .int .i64 q2, .int .i64 q3] 3 q3 rfl
  have y0 := hp #[.int .i64 a0, .int .i64 a1, .int .i64 a2, .int .i64 a3] 0 a0 rfl
  have y1 := hp #[.int .i64 a0, .int .i64 a1, .int .i64 a2, .int .i64 a3] 1 a1 rfl
  have y2 := hp #[.int .i64 a0, .int .i64 a1, .int .i64 a2, .int .i64 a3] 2 a2 rfl
  have y3 := hp #[.int .i64 a0, .int .i64 a1, .int .i64 a2, .int .i64 a3] 3 a3 rfl
  clear hp hr hu hui hs
  simp [List.forIn_cons, x0, x1, x2, x3, y0, y1, y2, y3, he]
  by_cases h1 : q0 = a0 <;> by_cases h2 : q1 = a1 <;> by_cases h3 : q2 = a2 <;> by_cases h4 : q3 = a3 <;> simp [h1, h2, h3, h4]
theorem equalIn_errors (q0 q1 q2 q3 a0 a1 a2 a3 : Int) (w : World) : (Op.equalIn 10000 119 (.agg #[.int .i64 q0, .int .i64 q1, .int .i64 q2, .int .i64 q3]) (.agg #[.int .i64 a0, .int .i64 a1, .int .i64 a2, .int .i64 a3])).run Try.prog w = .ok (eq4 q0 q1 q2 q3 a0 a1 a2 a3) w := equal_errors q0 q1 q2 q3 a0 a1 a2 a3 w
theorem eqGuard_errors : Try.prog.eqGuardType Try.prog.depth 119 = false := by kernel_rfl
attribute [local go_sem] equal_errors equalIn_errors eqGuard_errors

set_option maxHeartbeats 4000000 in
theorem asked_calls (v : Value) (h : Hs) (due : Int) (w : World) (H : HsAt w v h) :
    Calls Try.prog 79 #[v, .int .i64 due] w (RetAsked h due w) := by
  have H0 := H
  obtain ⟨A2, c2, A3, c3, A4, c4, rfl, H2, H3, H4⟩ := H
  by_cases hf : h.fault = 0
  · have hf1 : (h.fault != 0) = false := by simp [hf]
    have HF := Lib.hid hf
    clear hf
    by_cases hd : due = 0
    · subst hd
      have hn : h.clocks.length ≤ 4 := (small_iff.1 (fault_zero HF.out).1).1
      have hl : h.clips.length ≤ 1000 := by have := (small_iff.1 (fault_zero HF.out).1).2.2; omega
      have HC := Lib.hid (clipsOk_of HF.out)
      have HR := Lib.hid (fun r hr => fault_clock HF.out (r := r) hr)
      obtain ⟨i0, hi0, hz0, hz1, hz2'⟩ := info_parts infoErrors
      refine (callsIn_wide (n := 0)).1 ?_
      refine callsIn_of_wp_marks Try.func79 rfl trivial ?_ rfl
      have hfn : ∀ f, Fence.wide.fn f := fun _ => trivial
      have hdep : Fence.wide.depth = none := rfl
      simp only [Try.ntmps79, List.size_toArray, List.length_cons, List.length_nil, Nat.reduceAdd, Nat.reduceSub, Array.replicate_succ, Array.replicate_zero, List.push_toArray, List.append_toArray, List.nil_append, List.cons_append]
      gi_wp2_with (first
        | (gi_at_call 70; refine (callsIn_wide.2 (check_calls _ h _ ?hh)).mono ?_; (case hh => exact H0.below (by repeat (first | exact Below.refl _ _ | (with_reducible assumption) | apply gL | apply gA | apply gD | apply gN | (refine gS ?_ (by first | (simp; done) | (simp; omega) | omega))))); (rintro e w' hr; first | ((with_reducible replace hr := Ret.up hr); obtain ⟨rfl, z, rfl⟩ := hr) | (obtain ⟨rfl, z, rfl⟩ := hr));
            have hb1 : Below w.heap.size w (later (w.alloc (.cells #[.int .i64 h.hour, .int .i64 h.grace, .slice A2 h.clocks.length c2, .slice A3 h.tickets.length c3, .slice A4 h.clips.length c4] 36)) z) := (by repeat (first | exact Below.refl _ _ | (with_reducible assumption) | apply gL | apply gA | apply gD | apply gN | (refine gS ?_ (by first | (simp; done) | (simp; omega) | omega))));
            generalize hW1 : later (w.alloc (.cells #[.int .i64 h.hour, .int .i64 h.grace, .slice A2 h.clocks.length c2, .slice A3 h.tickets.length c3, .slice A4 h.clips.length c4] 36)) z = W1 at hb1 ⊢;
            have q0 : W1.cell? ⟨w.heap.size, 0, none⟩ = some (.int .i64 h.hour) := (by rw [← hW1]; simp [go_sem]);
            have q1 : W1.cell? ⟨w.heap.size, 1, none⟩ = some (.int .i64 h.grace) := (by rw [← hW1]; simp [go_sem]);
            have q2 : W1.cell? ⟨w.heap.size, 2, none⟩ = some (.slice A2 h.clocks.length c2) := (by rw [← hW1]; simp [go_sem]);
            have q3 : W1.cell? ⟨w.heap.size, 3, none⟩ = some (.slice A3 h.tickets.length c3) := (by rw [← hW1]; simp [go_sem]);
            have q4 : W1.cell? ⟨w.heap.size, 4, none⟩ = some (.slice A4 h.clips.length c4) := (by rw [← hW1]; simp [go_sem]);
            have hl1 := World.block_lt_of_cell? W1 _ q0;
            have hl2 : w.heap.size < W1.heap.size + 1 := (by simp at hl1; omega);
            have hl3 : w.heap.size < W1.heap.size + 1 + 1 := (by simp at hl1; omega);
            have hl4 : w.heap.size < W1.heap.size + 1 + 1 + 1 := (by simp at hl1; omega);
            simp only at hl1;
            clear hW1)
        | (gi_at_call 122; refine (callsIn_wide.2 (lists_calls h _ _ _ _ _ _ _)).mono ?_; (rintro e w' hr; (first | (with_reducible replace hr := RetLists.up hr) | skip); obtain ⟨gh, rfl, ⟨z2, rfl⟩, hgh⟩ := hr)))
      have hW0 : ∃ W0, W0 = later (((W1.alloc (.map #[] 0)).alloc (.cells #[.int .i64 h.hour, .int .i64 h.grace, .slice A2 h.clocks.length c2, .slice A3 h.tickets.length c3, .slice A4 h.clips.length c4, .slice none 0 0, .map (some W1.heap.size)] 129)).alloc (.cells #[.pointer (some ⟨W1.heap.size + 1, 0, none⟩)] 106)) z2 := ⟨_, rfl⟩
      obtain ⟨W0, hW0⟩ := hW0
      have hbB : Below w.heap.size w W0 := by rw [hW0]; exact hb1.trans (below_mono_of hb1 (by repeat (first | exact Below.refl _ _ | (with_reducible assumption) | apply gL | apply gA | apply gD | apply gN | (refine gS ?_ (by first | (simp; done) | (simp; omega) | omega)))))
      have hbB1 : Below W1.heap.size W1 W0 := by rw [hW0]; exact (by repeat (first | exact Below.refl _ _ | (with_reducible assumption) | apply gL | apply gA | apply gD | apply gN | (refine gS ?_ (by first | (simp; done) | (simp; omega) | omega))))
      have hs0 : W1.heap.size + 3 ≤ W0.heap.size := by
        have := size_later (((W1.alloc (.map #[] 0)).alloc (.cells #[.int .i64 h.hour, .int .i64 h.grace, .slice A2 h.clocks.length c2, .slice A3 h.tickets.length c3, .slice A4 h.clips.length c4, .slice none 0 0, .map (some W1.heap.size)] 129)).alloc (.cells #[.pointer (some ⟨W1.heap.size + 1, 0, none⟩)] 106)) z2
        rw [hW0]
        simp at this ⊢
        omega
      have hbox : BlkAt W0 (W1.heap.size + 1) 129 [.int .i64 h.hour, .int .i64 h.grace, .slice A2 h.clocks.length c2, .slice A3 h.tickets.length c3, .slice A4 h.clips.length c4, .slice none 0 0, .map (some W1.heap.size)] := by
        rw [hW0]
        refine BlkAt.later (BlkAt.alloc ?_ _)
        have := BlkAt.new (W1.alloc (.map #[] 0)) 129 [.int .i64 h.hour, .int .i64 h.grace, .slice A2 h.clocks.length c2, .slice A3 h.tickets.length c3, .slice A4 h.clips.length c4, .slice none 0 0, .map (some W1.heap.size)]
        rw [World.size_alloc] at this
        exact this
      have hmap : MapAt W0 W1.heap.size [] := by
        rw [hW0]
        have h1 : (W1.alloc (.map #[] 0)).heap[W1.heap.size]? = some (.map #[] 0) := World.alloc_heap_new W1 _
        unfold MapAt
        rw [block_later (by simp; omega), Below.heap_alloc _ _ _ (by simp; omega), Below.heap_alloc _ _ _ (by simp)]
        exact h1
      have kq : W0.cell? ⟨W1.heap.size + 1 + 1, 0, none⟩ = some (.pointer (some ⟨W1.heap.size + 1, 0, none⟩)) := by rw [hW0]; simp [go_sem]
      have k0 := (hbB1.cell (p := ⟨w.heap.size, 0, none⟩) hl1).trans q0
      have k1 := (hbB1.cell (p := ⟨w.heap.size, 1, none⟩) hl1).trans q1
      have k2 := (hbB1.cell (p := ⟨w.heap.size, 2, none⟩) hl1).trans q2
      have k3 := (hbB1.cell (p := ⟨w.heap.size, 3, none⟩) hl1).trans q3
      have k4 := (hbB1.cell (p := ⟨w.heap.size, 4, none⟩) hl1).trans q4
      rw [← hW0] at hgh ⊢
      obtain ⟨r, hr⟩ : ∃ r, r = W1.heap.size := ⟨_, rfl⟩
      rw [← hr] at hl1 hs0 hbox hmap kq
      simp only [← hr]
      clear hW0 q0 q1 q2 q3 q4 hl2 hl3 hl4 hbB1 hb1
      clear hr
      have hrN : r < W0.heap.size := by omega
      have hgN : r + 1 < W0.heap.size := by omega
      have hgr : gh ≠ r := by
        rintro rfl
        unfold MapAt at hmap
        unfold World.cell? at hgh
        rw [hmap] at hgh
        cases hgh
      have hH2 : ∀ A, AskK (r + 1) r W0 A → Below w.heap.size w A := fun A k => k.below hbB hbB.size (by omega) (by omega)
      refine range_lists2 h A2 c2 gh hn HR.out (q := 8) rfl (fun pre => AskI h (.slice A2 h.clocks.length c2) (.slice A3 h.tickets.length c3) (.slice A4 h.clips.length c4) (r + 1) r W0 0 (h.trueOf pre) (countT (h.trueOf pre))) (fun _ _ _ => False)
        (fun pre A B hA k => hA.keepR hgN hrN k) (fun c pre A B hA k => hA) ?hb ?h0
        (fun g5 pre => AskI h (.slice A2 h.clocks.length c2) (.slice A3 h.tickets.length c3) (.slice A4 h.clips.length c4) (r + 1) r W0 g5 (h.trueOf pre) (countT (h.trueOf pre)))
        (fun g5 pre A B hA k => hA.keepR hgN hrN k) ?assign ?body ?done ?stop
      case hb =>
        intro pre A hA
        obtain ⟨vt, hA⟩ := hA
        refine ⟨?_, H2.below (hH2 _ hA.keep)⟩
        by_cases hg1 : gh = r + 1
        · rw [hg1, hA.box.cell 2]; rfl
        · exact hA.keep.cell hgh hg1 hgr
      case h0 => exact ⟨_, ⟨rfl, rfl, rfl, Nat.le_refl _, fun _ _ _ _ => rfl⟩, hbox, World.ownsRow_nil _ _ _ _, by simp [Value.ownBlock], [], hmap, fun c o _ _ => by simp [cnt, countT, Hs.trueOf]⟩
      case assign =>
        rintro l pre p W K hp hi hsz hK
        obtain ⟨a0, a1, a2, a3, h4⟩ : ∃ a0 a1 a2 a3 : Int, e4 p = [.int .i64 a0, .int .i64 a1, .int .i64 a2, .int .i64 a3] := ⟨_, _, _, _, rfl⟩
        have hnew := BlkAt.new W 119 (e4 p)
        rw [h4] at hK hnew ⊢
        have HNW := Lib.hid hnew
        clear h4 hnew
        simp only [List.setIfInBounds_toArray, List.set_cons_succ, List.set_cons_zero] at hK ⊢
        have HK := Lib.hid hK
        clear hK
        gi_wp2
        exact HK.out _ _ (PrivKeep.of_below (gA (Below.refl _ _)) hsz) (hi.fresh.low (gA (Below.refl _ _)) hgN hrN) hsz HNW.out
      case body =>
        rintro l pre p g5 W hp hsz ⟨vt, hi⟩ hg5 hB
        obtain ⟨a0, a1, a2, a3, h4⟩ : ∃ a0 a1 a2 a3 : Int, e4 p = [.int .i64 a0, .int .i64 a1, .int .i64 a2, .int .i64 a3] := ⟨_, _, _, _, rfl⟩
        rw [h4] at hB ⊢
        have HE4 := Lib.hid h4
        have HEO := Lib.hid (prods_ok HR.out (hp.subset (List.mem_append_right pre (List.mem_singleton.2 rfl))))
        clear h4
        simp only [List.setIfInBounds_toArray, List.set_cons_succ, List.set_cons_zero]
        have e0 := hB.cell 0
        have e1 := hB.cell 1
        have e2 := hB.cell 2
        have e3 := hB.cell 3
        simp only [List.getElem?_cons_zero, List.getElem?_cons_succ] at e0 e1 e2 e3
        have g5l := hB.lt
        have j0 := hi.keep.cell k0 (by simp; omega) (by simp; omega)
        have j1 := hi.keep.cell k1 (by simp; omega) (by simp; omega)
        have j2 := hi.keep.cell k2 (by simp; omega) (by simp; omega)
        have j3 := hi.keep.cell k3 (by simp; omega) (by simp; omega)
        have j4 := hi.keep.cell k4 (by simp; omega) (by simp; omega)
        have jq := hi.keep.cell kq (by simp) (by simp; omega)
        have hbw := hH2 _ hi.keep
        have hw0 : w.heap.size < W.heap.size := by have := hi.keep.size; omega
        have hw1 : r < W.heap.size := by have := hi.keep.size; omega
        have hw2 : r + 1 < W.heap.size := by have := hi.keep.size; omega
        have hw3 : r + 1 + 1 < W.heap.size := by have := hi.keep.size; omega
        have hbx := hi.box
        have hown := hi.own
        have b5 := hbx.cell 5
        have b6 := hbx.cell 6
        simp only [List.getElem?_cons_zero, List.getElem?_cons_succ] at b5 b6
        have HI := Lib.hid hi
        clear hi
        by_cases hri : h.risingB p [] = true
        · have hris : ∀ x, Calls Try.prog 111 #[.agg #[.int .i64 h.hour, .int .i64 h.grace, .slice A2 h.clocks.length c2, .slice A3 h.tickets.length c3, .slice A4 h.clips.length c4], .agg #[.int .i64 a0, .int .i64 a1, .int .i64 a2, .int .i64 a3], .slice none 0 0] (later W x) (Ret (.bool true) (later W x)) := fun x => by
            have hbx := later_below (x := x) hbw hbw.size
            have := rising_calls4 _ h p HE4 none 0 [] _ (H0.below hbx) (SlA.nil _ _ _ _) HEO.out HC.out hl
            rw [hri] at this
            exact this
          have HRS := Lib.hid hris
          have HRI := Lib.hid hri
          clear hris hri
          gi_wp2
          have hpc := pre_count hn HR.out ((List.prefix_append pre [p]).trans hp)
          have htl := trueOf_length h pre
          have HP := Lib.hid hp
          by_cases hT : h.trueOf pre = []
          · have hlen : ∃ A c, vt = .slice A 0 c := by
              have := hown.2
              rw [hT] at this
              rcases this with ⟨rfl, -⟩ | ⟨b, cap, cur, rfl, -⟩
              · exact ⟨_, _, rfl⟩
              · exact ⟨_, _, rfl⟩
            obtain ⟨Av, cv, rfl⟩ := hlen
            clear hT hown hp
            refine regionIn_later (by kernel_rfl) (by kernel_rfl) (by rintro ⟨_, _, hh⟩; exact hh) (by simp) ?_
            repeat (go_big_quiet_step (exact quiet_ret (HRS.out _)))
            refine wpQuiet_nil ?_
            rintro W' ⟨x, rfl⟩
            gi_wp2
            obtain ⟨W2, hW2⟩ : ∃ W2, W2 = later W x := ⟨_, rfl⟩
            have hk2 : Below W.heap.size W W2 := by rw [hW2]; exact below_later _ _
            rw [← hW2]
            clear hW2
            have hz2 := hk2.size
            have d0 := (hk2.cell (p := ⟨g5, 0, none⟩) g5l).trans e0
            have d1 := (hk2.cell (p := ⟨g5, 1, none⟩) g5l).trans e1
            have d2 := (hk2.cell (p := ⟨g5, 2, none⟩) g5l).trans e2
            have d3 := (hk2.cell (p := ⟨g5, 3, none⟩) g5l).trans e3
            have dq := (hk2.cell (p := ⟨r + 1 + 1, 0, none⟩) hw3).trans jq
            have d5 := (hk2.cell (p := ⟨r + 1, 5, none⟩) hw2).trans b5
            have hi2 := HI.out.low hk2 hgN hrN
            obtain ⟨C, hC⟩ : ∃ C, C = Same [⟨r + 1 + 1, 0, none⟩, ⟨r + 1, 5, none⟩, ⟨g5, 0, none⟩, ⟨g5, 1, none⟩, ⟨g5, 2, none⟩, ⟨g5, 3, none⟩] W2 := ⟨_, rfl⟩
            obtain ⟨G, hG⟩ : ∃ G, G = held C W2.drew := ⟨_, rfl⟩
            have hfs : ∀ a ∈ ([⟨r + 1 + 1, 0, none⟩, ⟨r + 1, 5, none⟩, ⟨g5, 0, none⟩, ⟨g5, 1, none⟩, ⟨g5, 2, none⟩, ⟨g5, 3, none⟩] : List Addr), ∀ u, W2.cell? a = some u → ∀ x, (G x).cell? a = some u := fun a ha u hu x => by
              rw [hG, hC]
              exact same_held hu ha x
            have f0 := hfs _ (by simp) _ d0
            have f1 := hfs _ (by simp) _ d1
            have f2 := hfs _ (by simp) _ d2
            have f3 := hfs _ (by simp) _ d3
            have fq := hfs _ (by simp) _ dq
            have f5 := hfs _ (by simp) _ d5
            clear hfs
            refine regionIn_held C [0, 1, 2, 3, 4, 5] [6, 7, 8, 9] 10 (by kernel_rfl) (by kernel_rfl) (by rintro ⟨_, _, hh⟩; exact hh) (by simp) (fun _ _ _ _ _ h => h) (by rw [hC]; exact same_drew) ?_
            rw [← hG]
            have HC' := Lib.hid hC
            have HG := Lib.hid hG
            clear hC hG
            simp only [List.filterMap_cons, List.filterMap_nil, List.getElem?_cons_zero, List.getElem?_cons_succ]
            change wpQuiet _ _ _ _ [_, _, _, _, _, _] _
            repeat (go_big_quiet_step (fail))
            refine wpQuiet_nil ?_
            clear f0 f1 f2 f3 fq f5
            refine wpTail_cons rfl (fun K hK => ?_)
            go_simp
            obtain ⟨W3, hW3⟩ : ∃ W3, W3 = (W2.alloc (.cells #[.int .i64 a0, .int .i64 a1, .int .i64 a2, .int .i64 a3] 119)).drew := ⟨_, rfl⟩
            rw [← hW3]
            have hk3 : Below W2.heap.size W2 W3 := by rw [hW3]; exact gD (gA (Below.refl _ _))
            have hn3 : ∀ (j : Nat) (u : Value), ([.int .i64 a0, .int .i64 a1, .int .i64 a2, .int .i64 a3] : List Value)[j]? = some u → W3.cell? ((⟨W2.heap.size, 0, none⟩ : Addr).add j) = some u := fun j u hu => by
              have := news_new W2 _ rfl [.int .i64 a0, .int .i64 a1, .int .i64 a2, .int .i64 a3] 119 j u hu
              rw [hW3]
              simpa [go_sem] using this
            have hs3 : W3.heap.size = W2.heap.size + 1 := by rw [hW3]; simp
            have hi3 := hi2.low hk3 hgN hrN
            have hB3 := (hB.of_below hk2 g5l).of_below hk3 (Nat.lt_of_lt_of_le g5l hz2)
            clear hW3
            refine hK.out _ _ (by rw [HC'.out]; exact same_below hk3 (by simp; omega)) ?_
            clear hK K
            refine wpTail_cons rfl (fun K hK => ?_)
            rw [if_pos (by rfl)]
            refine wp_append_own _ _ 126 rfl (W0.heap.size + 5) 119 i0 _ 4 32 Try.underlying126 hi0 hz0 hz1 hz2' rfl (by decide) _ _ _ rfl hi3.own ⟨W2.heap.size, 0, none⟩ 1 1 [.int .i64 a0, .int .i64 a1, .int .i64 a2, .int .i64 a3] rfl rfl hn3 ?c2 ?c3 ?c4 ?c5 ?_
            case c2 => simp [Value.oneCell']
            case c3 => unfold maxLen; omega
            case c4 => omega
            case c5 => omega
            intro v' w1 hown1 hg1 hob
            obtain ⟨Av', cv', rfl⟩ : ∃ A c, v' = .slice A ((h.trueOf pre).length + 1) c := by
              rcases hown1.2 with ⟨-, hz⟩ | ⟨b, cap, cur, e, -⟩
              · omega
              · exact ⟨_, _, e⟩
            have HPU := hi3.push (p := p) hg1 (by rw [HE4.out]; exact hown1) hob (by omega) hgN hrN (by omega)
            obtain ⟨hbx1, hi4⟩ := HPU
            have hpk1 := ((PrivKeep.of_below (N := W0.heap.size) (m := 5) hk2 (by omega)).trans (PrivKeep.of_below hk3 (by omega))).trans (priv_grown hg1 (fun k _ hk => own_ne hi3.own (by omega)) (by omega))
            have hB1 : BlkAt w1 g5 119 [.int .i64 a0, .int .i64 a1, .int .i64 a2, .int .i64 a3] := (hg1.block g5 (by omega) (fun e => hi3.nx e.symm)).trans hB3
            have hq1 : w1.cell? ⟨r + 1 + 1, 0, none⟩ = some (.pointer (some ⟨r + 1, 0, none⟩)) := (World.cell?_of_block (w := W3) (hg1.block (r + 1 + 1) (by omega) (fun e => own_ne hi3.own (by omega) e.symm))).trans ((hk3.cell (p := ⟨r + 1 + 1, 0, none⟩) (by show r + 1 + 1 < _; omega)).trans dq)
            have b51 := hbx1.cell 5
            have b5f := hbx1.frozen 5
            simp only [List.getElem?_cons_zero, List.getElem?_cons_succ] at b51
            have hC1 : C w1 := by
              rw [HC'.out]
              have t0 := hB1.cell 0
              have t1 := hB1.cell 1
              have t2 := hB1.cell 2
              have t3 := hB1.cell 3
              intro a ha
              simp only [List.mem_cons, List.not_mem_nil, or_false] at ha
              rcases ha with rfl | rfl | rfl | rfl | rfl | rfl
              · rw [hq1, dq]
              · rw [b51, d5]
              · rw [t0, d0]; rfl
              · rw [t1, d1]; rfl
              · rw [t2, d2]; rfl
              · rw [t3, d3]; rfl
            simp only [Act.put, List.setIfInBounds_toArray]
            refine hK.out _ _ hC1 ?_
            clear hK K
            refine wpTail_cons rfl (fun K hK => ?_)
            go_simp
            refine hK.out _ _ hC1 ?_
            clear hK K
            refine wpTail_cons rfl (fun K hK => ?_)
            go_simp
            refine hK.out _ _ hC1 ?_
            clear hK K
            refine wpTail_nil rfl (fun K hK => ?_)
            go_simp
            refine hK.out _ _ ?_
            clear hK K
            obtain ⟨W4, hW4⟩ : ∃ W4, W4 = w1.setCell ⟨r + 1, 5, none⟩ (.slice Av' ((h.trueOf pre).length + 1) cv') := ⟨_, rfl⟩
            have hB4 : BlkAt W4 g5 119 [.int .i64 a0, .int .i64 a1, .int .i64 a2, .int .i64 a3] := by
              rw [hW4]
              exact (Below.heap_setCell _ _ _ _ (by show g5 ≠ r + 1; omega)).trans hB1
            have hpk4 : PrivKeep W0.heap.size 5 W W4 := by
              rw [hW4]
              exact hpk1.trans (priv_set _ _ _ (by show r + 1 < _; omega))
            rw [← hW4] at hi4 ⊢
            have n2 := hi4.keep.cell k2 (by simp; omega) (by simp; omega)
            clear hC1 b51 b5f hq1 hB1 hpk1 hbx1 hob hg1 hown1 hW4 hB3 hi3 hs3 hn3 hk3 HG HC' d0 d1 d2 d3 dq d5 hi2 hbx HI hz2 hk2
            clear b5 b6 j0 j1 j2 j3 j4 jq hbw hw0 hw1 hw2 hw3
            gi_wp2
            gi_loopw [66] (fun i wr => ∃ k : Nat, k ≤ h.clocks.length ∧ i = .int .i64 k ∧ PrivKeep W0.heap.size 5 W wr ∧ BlkAt wr g5 119 [.int .i64 a0, .int .i64 a1, .int .i64 a2, .int .i64 a3] ∧
                AskV h (.slice A2 h.clocks.length c2) (.slice A3 h.tickets.length c3) (.slice A4 h.clips.length c4) (r + 1) r W0 g5 (.slice Av' ((h.trueOf pre).length + 1) cv') (h.trueOf pre ++ [p])
                  (fun c o => countT (h.trueOf pre) c o + if c < (k : Int) ∧ p.getD c.toNat 0 = o then 1 else 0) wr) (fun i _ => h.clocks.length - (intOf i).toNat)
            case atStart => exact ⟨0, Nat.zero_le _, rfl, hpk4, hB4, hi4.recount (fun c o h0 _ => by rw [if_neg (by omega), Int.add_zero])⟩
            case round =>
              obtain ⟨k, hk, rfl, hpk, hBr, hir⟩ := hrel
              by_cases hlt : k < h.clocks.length
              · obtain ⟨lm, hlm, hcn⟩ := hir.map
                obtain ⟨o, ho⟩ : ∃ o, o = p.getD k 0 := ⟨_, rfl⟩
                have ek : wr.cell? ⟨g5, k, none⟩ = some (.int .i64 o) := by
                  rw [hBr.cell k, ← HE4.out, ho]
                  exact e4_at p (by omega)
                have hcm := hcn k o (by omega) (by omega)
                rw [if_neg (by omega), Int.add_zero] at hcm
                have hcb := countT_bd (h.trueOf pre) k o
                rw [← hcm] at hcb
                have HCN := Lib.hid hcn
                have HO := Lib.hid ho
                clear hcn hcm ho
                have s2 := hir.keep.cell k2 (by simp; omega) (by simp; omega)
                have sq := hir.keep.cell kq (by simp) (by simp; omega)
                have s6 := hir.box.cell 6
                simp only [List.getElem?_cons_zero, List.getElem?_cons_succ] at s6
                have hlk := fun V hV => lookup_spot (w := V) (r := r) (l := lm) hV k o
                have hlt := fun V hV => lookup_spot (w := V) (r := r) (l := (touch lm k o).1) hV k o
                obtain ⟨mm, hmm⟩ : ∃ mm, mm = cnt lm k o := ⟨_, rfl⟩
                simp only [cnt_touch] at hlt
                rw [← hmm] at hlk hlt hcb
                have HMM := Lib.hid hmm
                clear hmm
                obtain ⟨C2, hC2⟩ : ∃ C2 : World → Prop, C2 = fun V => Same [⟨r + 1 + 1, 0, none⟩, ⟨r + 1, 6, none⟩, ⟨g5, k, none⟩] wr V ∧ (MapAt V r lm ∨ MapAt V r (touch lm k o).1) := ⟨_, rfl⟩
                have hC20 : C2 wr.drew := by rw [hC2]; exact ⟨same_drew, .inl hlm⟩
                obtain ⟨G2, hG2⟩ : ∃ G2, G2 = held C2 wr.drew := ⟨_, rfl⟩
                have hfs : ∀ x, C2 (G2 x) := fun x => by rw [hG2]; exact held_spec hC20 x
                rw [hC2] at hfs
                have fq := fun x => ((hfs x).1 ⟨r + 1 + 1, 0, none⟩ (by simp)).trans sq
                have f6 := fun x => ((hfs x).1 ⟨r + 1, 6, none⟩ (by simp)).trans s6
                have fe := fun x => ((hfs x).1 ⟨g5, k, none⟩ (by simp)).trans ek
                have fl : ∀ x, (Instr.lookup 127 (.map (some r)) (.agg #[.int .i64 k, .int .i64 o]) false).run Try.prog (G2 x) = .ok (.int .i64 mm) (G2 x) := fun x => by
                  rcases (hfs x).2 with h1 | h1
                  · exact hlk _ h1
                  · exact hlt _ h1
                clear hlk hlt hfs
                have hlt : k < h.clocks.length := by omega
                have hk4 : (k : Int) < 4 := by omega
                have hk0 : (0 : Int) ≤ (k : Int) := Int.natCast_nonneg _
                have hkn : (k : Int) < (h.clocks.length : Int) := by omega
                have HC2 := Lib.hid hC2
                clear hC2
                gi_wp2
                refine regionIn_held C2 [0, 1, 2, 3, 4, 5, 6, 7, 8, 9, 10] [11, 12] 13 (by kernel_rfl) (by kernel_rfl) (by rintro ⟨_, _, hh⟩; exact hh) (by simp) (fun _ _ _ _ _ h => h) hC20 ?_
                rw [← hG2]
                clear hG2
                simp only [List.filterMap_cons, List.filterMap_nil, List.getElem?_cons_zero, List.getElem?_cons_succ]
                change wpQuiet _ _ _ _ [_, _, _, _, _, _, _, _, _, _, _] _
                repeat (go_big_quiet_step (fail))
                refine wpQuiet_nil ?_
                clear fq f6 fe fl
                have hlm' : MapAt wr.drew r lm := hlm
                obtain ⟨O, hme, hO⟩ := mapEntry_spot hlm' k o
                rw [← HMM.out] at hme
                obtain ⟨jt, hjt⟩ : ∃ jt, jt = (touch lm k o).2 := ⟨_, rfl⟩
                rw [← hjt] at hme
                obtain ⟨W5, hW5⟩ : ∃ W5, W5 = wr.drew.putObj r O := ⟨_, rfl⟩
                have h5 : AskV h (.slice A2 h.clocks.length c2) (.slice A3 h.tickets.length c3) (.slice A4 h.clips.length c4) (r + 1) r W0 g5 (.slice Av' ((h.trueOf pre).length + 1) cv') (h.trueOf pre ++ [p]) (fun c o' => cnt (touch lm k o).1 c o') W5 := by
                  rw [hW5, hO]
                  exact (hir.low (gD (Below.refl _ _)) hgN hrN).put _ hrN (by omega) (fun _ _ _ _ => rfl)
                have hM5 : MapAt W5 r (touch lm k o).1 := by
                  rw [hW5, hO]
                  exact World.putObj_heap_same (World.block_lt_of_map hlm')
                have hB5 : BlkAt W5 g5 119 [.int .i64 a0, .int .i64 a1, .int .i64 a2, .int .i64 a3] := by
                  rw [hW5]
                  exact (World.putObj_heap_other (by omega)).trans hBr
                have hp5 : PrivKeep W0.heap.size 5 wr W5 := by
                  rw [hW5]
                  exact (PrivKeep.of_below (gD (Below.refl _ _)) (by have := hpk.size; omega)).trans (priv_put _ _ hrN)
                have hq5 : Same [⟨r + 1 + 1, 0, none⟩, ⟨r + 1, 6, none⟩, ⟨g5, k, none⟩] wr W5 := by
                  rw [hW5]
                  intro a ha
                  simp only [List.mem_cons, List.not_mem_nil, or_false] at ha
                  have : a.block ≠ r := by rcases ha with rfl | rfl | rfl <;> simp <;> omega
                  exact (World.cell?_of_block (w := wr.drew) (World.putObj_heap_other this)).trans (by simp [go_sem])
                have hes := entryStore_spot hM5 jt (k, o, mm) (by rw [hjt, HMM.out]; exact touch_at lm k o) (mm + 1)
                rw [← hW5] at hme
                have h6 : AskV h (.slice A2 h.clocks.length c2) (.slice A3 h.tickets.length c3) (.slice A4 h.clips.length c4) (r + 1) r W0 g5 (.slice Av' ((h.trueOf pre).length + 1) cv') (h.trueOf pre ++ [p])
                    (fun c o' => countT (h.trueOf pre) c o' + if c < ((k + 1 : Nat) : Int) ∧ p.getD c.toNat 0 = o' then 1 else 0) (W5.putObj r (.map (entries ((touch lm k o).1.set jt (k, o, mm + 1))).toArray (touch lm k o).1.length)) := by
                  have hb : (touch lm k o).1.set jt (k, o, mm + 1) = bumpM lm k o := by rw [hjt, HMM.out]; rfl
                  rw [hb, ← touch_length]
                  refine h5.put _ hrN (by omega) (fun c o' h0 h1 => ?_)
                  rw [cnt_bump, HCN.out c o' h0 h1, HO.out]
                  exact recount_at _ h0
                obtain ⟨W6, hW6⟩ : ∃ W6, W6 = W5.putObj r (.map (entries ((touch lm k o).1.set jt (k, o, mm + 1))).toArray (touch lm k o).1.length) := ⟨_, rfl⟩
                rw [← hW6] at h6
                have hes' : (Instr.entryStore 127 (.map (some r)) (.int .i64 jt) (.int .i64 (mm + 1))).run Try.prog W5 = .ok () W6 := by rw [hW6]; exact hes
                have hB6 : BlkAt W6 g5 119 [.int .i64 a0, .int .i64 a1, .int .i64 a2, .int .i64 a3] := by
                  rw [hW6]
                  exact (World.putObj_heap_other (by omega)).trans hB5
                have hp6 : PrivKeep W0.heap.size 5 W W6 := by
                  rw [hW6]
                  exact (hpk.trans hp5).trans (priv_put _ _ hrN)
                have hC5 : C2 W5 := by rw [HC2.out]; exact ⟨hq5, .inr hM5⟩
                clear hes hW6 hW5 hO hjt hq5 hp5 hB5 hM5 h5 hlm' hC20 HC2 hlm
                refine wpTail_cons rfl (fun K hK => ?_)
                go_simp
                refine hK.out _ _ hC5 ?_
                clear hK K
                refine wpTail_cons rfl (fun K hK => ?_)
                go_simp
                refine hK.out _ _ hC5 ?_
                clear hK K
                refine wpTail_nil rfl (fun K hK => ?_)
                go_simp
                refine hK.out _ _ ?_
                clear hK K
                gi_wp2
                go_roundw
                case rel => exact ⟨k + 1, by omega, by go_num, hp6, hB6, h6⟩
                case measure => simp [intOf]; omega
              · obtain rfl : k = h.clocks.length := by omega
                gi_wp2
                refine ⟨hpk, ?_⟩
                show AskI _ _ _ _ _ _ _ _ (h.trueOf (pre ++ [p])) (countT (h.trueOf (pre ++ [p]))) _
                rw [trueOf_yes pre HRI.out]
                exact (hir.recount (fun c o _ h1 => by rw [countT_snoc]; simp [h1])).old
          · obtain ⟨m, hm⟩ : ∃ m, (h.trueOf pre).length = m + 1 := ⟨(h.trueOf pre).length - 1, by have := List.length_pos_iff.2 hT; omega⟩
            obtain ⟨q, hq⟩ : ∃ q, (h.trueOf pre)[m]? = some q := ⟨_, List.getElem?_eq_getElem (by omega)⟩
            have hql : (h.trueOf pre).getLast? = some q := by rw [List.getLast?_eq_getElem?, hm]; exact hq
            have hne := last_ne hn hp hql
            obtain ⟨u0, u1, u2, u3, hu4⟩ : ∃ u0 u1 u2 u3 : Int, e4 q = [.int .i64 u0, .int .i64 u1, .int .i64 u2, .int .i64 u3] ∧ key4 q = (u0, u1, u2, u3) := ⟨_, _, _, _, rfl, rfl⟩
            have heq : eq4 u0 u1 u2 u3 a0 a1 a2 a3 = false := by
              have h5 := key4_of HE4.out
              rw [hu4.2, h5] at hne
              simp only [eq4, decide_eq_false_iff_not]
              rintro ⟨t0, t1, t2, t3⟩
              exact hne (by simp [t0, t1, t2, t3])
            obtain ⟨A5, c5, hvt, hs5⟩ := SlA.of_own (k := 4) (g := e4) (l := h.trueOf pre) hown (fun _ _ => rfl) rfl (by omega)
            obtain ⟨b, off, q', hA5, hbl, hq', hcs⟩ := hs5.at (i := m) (by omega)
            obtain rfl : q' = q := by rw [hq] at hq'; exact (Option.some.inj hq').symm
            rw [hu4.1] at hcs
            have s0 := hcs 0 _ rfl
            simp only [Nat.add_zero] at s0
            have s1 := hcs 1 _ rfl
            have s2 := hcs 2 _ rfl
            have s3 := hcs 3 _ rfl
            rw [hm] at hvt
            subst hvt
            subst hA5
            have hmb : (m : Int) < 13845841 := by omega
            have hm0 : (0 : Int) ≤ (m : Int) := Int.natCast_nonneg _
            clear hT hown hp hm hq hql hne hu4 hq' hcs hs5
            refine regionIn_later (by kernel_rfl) (by kernel_rfl) (by rintro ⟨_, _, hh⟩; exact hh) (by simp) ?_
            repeat (go_big_quiet_step (exact quiet_ret (HRS.out _)))
            refine wpQuiet_nil ?_
            rintro W' ⟨x, rfl⟩
            gi_wp2
            obtain ⟨W2, hW2⟩ : ∃ W2, W2 = later W x := ⟨_, rfl⟩
            have hk2 : Below W.heap.size W W2 := by rw [hW2]; exact below_later _ _
            rw [← hW2]
            clear hW2
            have hz2 := hk2.size
            have d0 := (hk2.cell (p := ⟨g5, 0, none⟩) g5l).trans e0
            have d1 := (hk2.cell (p := ⟨g5, 1, none⟩) g5l).trans e1
            have d2 := (hk2.cell (p := ⟨g5, 2, none⟩) g5l).trans e2
            have d3 := (hk2.cell (p := ⟨g5, 3, none⟩) g5l).trans e3
            have dq := (hk2.cell (p := ⟨r + 1 + 1, 0, none⟩) hw3).trans jq
            have d5 := (hk2.cell (p := ⟨r + 1, 5, none⟩) hw2).trans b5
            have hi2 := HI.out.low hk2 hgN hrN
            obtain ⟨C, hC⟩ : ∃ C, C = Same [⟨r + 1 + 1, 0, none⟩, ⟨r + 1, 5, none⟩, ⟨g5, 0, none⟩, ⟨g5, 1, none⟩, ⟨g5, 2, none⟩, ⟨g5, 3, none⟩] W2 := ⟨_, rfl⟩
            obtain ⟨G, hG⟩ : ∃ G, G = held C W2.drew := ⟨_, rfl⟩
            have hfs : ∀ a ∈ ([⟨r + 1 + 1, 0, none⟩, ⟨r + 1, 5, none⟩, ⟨g5, 0, none⟩, ⟨g5, 1, none⟩, ⟨g5, 2, none⟩, ⟨g5, 3, none⟩] : List Addr), ∀ u, W2.cell? a = some u → ∀ x, (G x).cell? a = some u := fun a ha u hu x => by
              rw [hG, hC]
              exact same_held hu ha x
            have f0 := hfs _ (by simp) _ d0
            have f1 := hfs _ (by simp) _ d1
            have f2 := hfs _ (by simp) _ d2
            have f3 := hfs _ (by simp) _ d3
            have fq := hfs _ (by simp) _ dq
            have f5 := hfs _ (by simp) _ d5
            clear hfs
            refine regionIn_held C [0, 1, 2, 3, 4, 5] [6, 7, 8, 9] 10 (by kernel_rfl) (by kernel_rfl) (by rintro ⟨_, _, hh⟩; exact hh) (by simp) (fun _ _ _ _ _ h => h) (by rw [hC]; exact same_drew) ?_
            rw [← hG]
            have HC' := Lib.hid hC
            have HG := Lib.hid hG
            clear hC hG
            simp only [List.filterMap_cons, List.filterMap_nil, List.getElem?_cons_zero, List.getElem?_cons_succ]
            change wpQuiet _ _ _ _ [_, _, _, _, _, _] _
            repeat (go_big_quiet_step (fail))
            refine wpQuiet_nil ?_
            clear f0 f1 f2 f3 fq f5
            refine wpTail_cons rfl (fun K hK => ?_)
            go_simp
            obtain ⟨W3, hW3⟩ : ∃ W3, W3 = (W2.alloc (.cells #[.int .i64 a0, .int .i64 a1, .int .i64 a2, .int .i64 a3] 119)).drew := ⟨_, rfl⟩
            rw [← hW3]
            have hk3 : Below W2.heap.size W2 W3 := by rw [hW3]; exact gD (gA (Below.refl _ _))
            have hn3 : ∀ (j : Nat) (u : Value), ([.int .i64 a0, .int .i64 a1, .int .i64 a2, .int .i64 a3] : List Value)[j]? = some u → W3.cell? ((⟨W2.heap.size, 0, none⟩ : Addr).add j) = some u := fun j u hu => by
              have := news_new W2 _ rfl [.int .i64 a0, .int .i64 a1, .int .i64 a2, .int .i64 a3] 119 j u hu
              rw [hW3]
              simpa [go_sem] using this
            have hs3 : W3.heap.size = W2.heap.size + 1 := by rw [hW3]; simp
            have hi3 := hi2.low hk3 hgN hrN
            have hB3 := (hB.of_below hk2 g5l).of_below hk3 (Nat.lt_of_lt_of_le g5l hz2)
            clear hW3
            refine hK.out _ _ (by rw [HC'.out]; exact same_below hk3 (by simp; omega)) ?_
            clear hK K
            refine wpTail_cons rfl (fun K hK => ?_)
            rw [if_pos (by rfl)]
            refine wp_append_own _ _ 126 rfl (W0.heap.size + 5) 119 i0 _ 4 32 Try.underlying126 hi0 hz0 hz1 hz2' rfl (by decide) _ _ _ rfl hi3.own ⟨W2.heap.size, 0, none⟩ 1 1 [.int .i64 a0, .int .i64 a1, .int .i64 a2, .int .i64 a3] rfl rfl hn3 ?c2 ?c3 ?c4 ?c5 ?_
            case c2 => simp [Value.oneCell']
            case c3 => unfold maxLen; omega
            case c4 => omega
            case c5 => omega
            intro v' w1 hown1 hg1 hob
            obtain ⟨Av', cv', rfl⟩ : ∃ A c, v' = .slice A ((h.trueOf pre).length + 1) c := by
              rcases hown1.2 with ⟨-, hz⟩ | ⟨b, cap, cur, e, -⟩
              · omega
              · exact ⟨_, _, e⟩
            have HPU := hi3.push (p := p) hg1 (by rw [HE4.out]; exact hown1) hob (by omega) hgN hrN (by omega)
            obtain ⟨hbx1, hi4⟩ := HPU
            have hpk1 := ((PrivKeep.of_below (N := W0.heap.size) (m := 5) hk2 (by omega)).trans (PrivKeep.of_below hk3 (by omega))).trans (priv_grown hg1 (fun k _ hk => own_ne hi3.own (by omega)) (by omega))
            have hB1 : BlkAt w1 g5 119 [.int .i64 a0, .int .i64 a1, .int .i64 a2, .int .i64 a3] := (hg1.block g5 (by omega) (fun e => hi3.nx e.symm)).trans hB3
            have hq1 : w1.cell? ⟨r + 1 + 1, 0, none⟩ = some (.pointer (some ⟨r + 1, 0, none⟩)) := (World.cell?_of_block (w := W3) (hg1.block (r + 1 + 1) (by omega) (fun e => own_ne hi3.own (by omega) e.symm))).trans ((hk3.cell (p := ⟨r + 1 + 1, 0, none⟩) (by show r + 1 + 1 < _; omega)).trans dq)
            have b51 := hbx1.cell 5
            have b5f := hbx1.frozen 5
            simp only [List.getElem?_cons_zero, List.getElem?_cons_succ] at b51
            have hC1 : C w1 := by
              rw [HC'.out]
              have t0 := hB1.cell 0
              have t1 := hB1.cell 1
              have t2 := hB1.cell 2
              have t3 := hB1.cell 3
              intro a ha
              simp only [List.mem_cons, List.not_mem_nil, or_false] at ha
              rcases ha with rfl | rfl | rfl | rfl | rfl | rfl
              · rw [hq1, dq]
              · rw [b51, d5]
              · rw [t0, d0]; rfl
              · rw [t1, d1]; rfl
              · rw [t2, d2]; rfl
              · rw [t3, d3]; rfl
            simp only [Act.put, List.setIfInBounds_toArray]
            refine hK.out _ _ hC1 ?_
            clear hK K
            refine wpTail_cons rfl (fun K hK => ?_)
            go_simp
            refine hK.out _ _ hC1 ?_
            clear hK K
            refine wpTail_cons rfl (fun K hK => ?_)
            go_simp
            refine hK.out _ _ hC1 ?_
            clear hK K
            refine wpTail_nil rfl (fun K hK => ?_)
            go_simp
            refine hK.out _ _ ?_
            clear hK K
            obtain ⟨W4, hW4⟩ : ∃ W4, W4 = w1.setCell ⟨r + 1, 5, none⟩ (.slice Av' ((h.trueOf pre).length + 1) cv') := ⟨_, rfl⟩
            have hB4 : BlkAt W4 g5 119 [.int .i64 a0, .int .i64 a1, .int .i64 a2, .int .i64 a3] := by
              rw [hW4]
              exact (Below.heap_setCell _ _ _ _ (by show g5 ≠ r + 1; omega)).trans hB1
            have hpk4 : PrivKeep W0.heap.size 5 W W4 := by
              rw [hW4]
              exact hpk1.trans (priv_set _ _ _ (by show r + 1 < _; omega))
            rw [← hW4] at hi4 ⊢
            have n2 := hi4.keep.cell k2 (by simp; omega) (by simp; omega)
            clear hC1 b51 b5f hq1 hB1 hpk1 hbx1 hob hg1 hown1 hW4 hB3 hi3 hs3 hn3 hk3 HG HC' d0 d1 d2 d3 dq d5 hi2 hbx HI hz2 hk2
            clear b5 b6 j0 j1 j2 j3 j4 jq hbw hw0 hw1 hw2 hw3
            gi_wp2
            gi_loopw [66] (fun i wr => ∃ k : Nat, k ≤ h.clocks.length ∧ i = .int .i64 k ∧ PrivKeep W0.heap.size 5 W wr ∧ BlkAt wr g5 119 [.int .i64 a0, .int .i64 a1, .int .i64 a2, .int .i64 a3] ∧
                AskV h (.slice A2 h.clocks.length c2) (.slice A3 h.tickets.length c3) (.slice A4 h.clips.length c4) (r + 1) r W0 g5 (.slice Av' ((h.trueOf pre).length + 1) cv') (h.trueOf pre ++ [p])
                  (fun c o => countT (h.trueOf pre) c o + if c < (k : Int) ∧ p.getD c.toNat 0 = o then 1 else 0) wr) (fun i _ => h.clocks.length - (intOf i).toNat)
            case atStart => exact ⟨0, Nat.zero_le _, rfl, hpk4, hB4, hi4.recount (fun c o h0 _ => by rw [if_neg (by omega), Int.add_zero])⟩
            case round =>
              obtain ⟨k, hk, rfl, hpk, hBr, hir⟩ := hrel
              by_cases hlt : k < h.clocks.length
              · obtain ⟨lm, hlm, hcn⟩ := hir.map
                obtain ⟨o, ho⟩ : ∃ o, o = p.getD k 0 := ⟨_, rfl⟩
                have ek : wr.cell? ⟨g5, k, none⟩ = some (.int .i64 o) := by
                  rw [hBr.cell k, ← HE4.out, ho]
                  exact e4_at p (by omega)
                have hcm := hcn k o (by omega) (by omega)
                rw [if_neg (by omega), Int.add_zero] at hcm
                have hcb := countT_bd (h.trueOf pre) k o
                rw [← hcm] at hcb
                have HCN := Lib.hid hcn
                have HO := Lib.hid ho
                clear hcn hcm ho
                have s2 := hir.keep.cell k2 (by simp; omega) (by simp; omega)
                have sq := hir.keep.cell kq (by simp) (by simp; omega)
                have s6 := hir.box.cell 6
                simp only [List.getElem?_cons_zero, List.getElem?_cons_succ] at s6
                have hlk := fun V hV => lookup_spot (w := V) (r := r) (l := lm) hV k o
                have hlt := fun V hV => lookup_spot (w := V) (r := r) (l := (touch lm k o).1) hV k o
                obtain ⟨mm, hmm⟩ : ∃ mm, mm = cnt lm k o := ⟨_, rfl⟩
                simp only [cnt_touch] at hlt
                rw [← hmm] at hlk hlt hcb
                have HMM := Lib.hid hmm
                clear hmm
                obtain ⟨C2, hC2⟩ : ∃ C2 : World → Prop, C2 = fun V => Same [⟨r + 1 + 1, 0, none⟩, ⟨r + 1, 6, none⟩, ⟨g5, k, none⟩] wr V ∧ (MapAt V r lm ∨ MapAt V r (touch lm k o).1) := ⟨_, rfl⟩
                have hC20 : C2 wr.drew := by rw [hC2]; exact ⟨same_drew, .inl hlm⟩
                obtain ⟨G2, hG2⟩ : ∃ G2, G2 = held C2 wr.drew := ⟨_, rfl⟩
                have hfs : ∀ x, C2 (G2 x) := fun x => by rw [hG2]; exact held_spec hC20 x
                rw [hC2] at hfs
                have fq := fun x => ((hfs x).1 ⟨r + 1 + 1, 0, none⟩ (by simp)).trans sq
                have f6 := fun x => ((hfs x).1 ⟨r + 1, 6, none⟩ (by simp)).trans s6
                have fe := fun x => ((hfs x).1 ⟨g5, k, none⟩ (by simp)).trans ek
                have fl : ∀ x, (Instr.lookup 127 (.map (some r)) (.agg #[.int .i64 k, .int .i64 o]) false).run Try.prog (G2 x) = .ok (.int .i64 mm) (G2 x) := fun x => by
                  rcases (hfs x).2 with h1 | h1
                  · exact hlk _ h1
                  · exact hlt _ h1
                clear hlk hlt hfs
                have hlt : k < h.clocks.length := by omega
                have hk4 : (k : Int) < 4 := by omega
                have hk0 : (0 : Int) ≤ (k : Int) := Int.natCast_nonneg _
                have hkn : (k : Int) < (h.clocks.length : Int) := by omega
                have HC2 := Lib.hid hC2
                clear hC2
                gi_wp2
                refine regionIn_held C2 [0, 1, 2, 3, 4, 5, 6, 7, 8, 9, 10] [11, 12] 13 (by kernel_rfl) (by kernel_rfl) (by rintro ⟨_, _, hh⟩; exact hh) (by simp) (fun _ _ _ _ _ h => h) hC20 ?_
                rw [← hG2]
                clear hG2
                simp only [List.filterMap_cons, List.filterMap_nil, List.getElem?_cons_zero, List.getElem?_cons_succ]
                change wpQuiet _ _ _ _ [_, _, _, _, _, _, _, _, _, _, _] _
                repeat (go_big_quiet_step (fail))
                refine wpQuiet_nil ?_
                clear fq f6 fe fl
                have hlm' : MapAt wr.drew r lm := hlm
                obtain ⟨O, hme, hO⟩ := mapEntry_spot hlm' k o
                rw [← HMM.out] at hme
                obtain ⟨jt, hjt⟩ : ∃ jt, jt = (touch lm k o).2 := ⟨_, rfl⟩
                rw [← hjt] at hme
                obtain ⟨W5, hW5⟩ : ∃ W5, W5 = wr.drew.putObj r O := ⟨_, rfl⟩
                have h5 : AskV h (.slice A2 h.clocks.length c2) (.slice A3 h.tickets.length c3) (.slice A4 h.clips.length c4) (r + 1) r W0 g5 (.slice Av' ((h.trueOf pre).length + 1) cv') (h.trueOf pre ++ [p]) (fun c o' => cnt (touch lm k o).1 c o') W5 := by
                  rw [hW5, hO]
                  exact (hir.low (gD (Below.refl _ _)) hgN hrN).put _ hrN (by omega) (fun _ _ _ _ => rfl)
                have hM5 : MapAt W5 r (touch lm k o).1 := by
                  rw [hW5, hO]
                  exact World.putObj_heap_same (World.block_lt_of_map hlm')
                have hB5 : BlkAt W5 g5 119 [.int .i64 a0, .int .i64 a1, .int .i64 a2, .int .i64 a3] := by
                  rw [hW5]
                  exact (World.putObj_heap_other (by omega)).trans hBr
                have hp5 : PrivKeep W0.heap.size 5 wr W5 := by
                  rw [hW5]
                  exact (PrivKeep.of_below (gD (Below.refl _ _)) (by have := hpk.size; omega)).trans (priv_put _ _ hrN)
                have hq5 : Same [⟨r + 1 + 1, 0, none⟩, ⟨r + 1, 6, none⟩, ⟨g5, k, none⟩] wr W5 := by
                  rw [hW5]
                  intro a ha
                  simp only [List.mem_cons, List.not_mem_nil, or_false] at ha
                  have : a.block ≠ r := by rcases ha with rfl | rfl | rfl <;> simp <;> omega
                  exact (World.cell?_of_block (w := wr.drew) (World.putObj_heap_other this)).trans (by simp [go_sem])
                have hes := entryStore_spot hM5 jt (k, o, mm) (by rw [hjt, HMM.out]; exact touch_at lm k o) (mm + 1)
                rw [← hW5] at hme
                have h6 : AskV h (.slice A2 h.clocks.length c2) (.slice A3 h.tickets.length c3) (.slice A4 h.clips.length c4) (r + 1) r W0 g5 (.slice Av' ((h.trueOf pre).length + 1) cv') (h.trueOf pre ++ [p])
                    (fun c o' => countT (h.trueOf pre) c o' + if c < ((k + 1 : Nat) : Int) ∧ p.getD c.toNat 0 = o' then 1 else 0) (W5.putObj r (.map (entries ((touch lm k o).1.set jt (k, o, mm + 1))).toArray (touch lm k o).1.length)) := by
                  have hb : (touch lm k o).1.set jt (k, o, mm + 1) = bumpM lm k o := by rw [hjt, HMM.out]; rfl
                  rw [hb, ← touch_length]
                  refine h5.put _ hrN (by omega) (fun c o' h0 h1 => ?_)
                  rw [cnt_bump, HCN.out c o' h0 h1, HO.out]
                  exact recount_at _ h0
                obtain ⟨W6, hW6⟩ : ∃ W6, W6 = W5.putObj r (.map (entries ((touch lm k o).1.set jt (k, o, mm + 1))).toArray (touch lm k o).1.length) := ⟨_, rfl⟩
                rw [← hW6] at h6
                have hes' : (Instr.entryStore 127 (.map (some r)) (.int .i64 jt) (.int .i64 (mm + 1))).run Try.prog W5 = .ok () W6 := by rw [hW6]; exact hes
                have hB6 : BlkAt W6 g5 119 [.int .i64 a0, .int .i64 a1, .int .i64 a2, .int .i64 a3] := by
                  rw [hW6]
                  exact (World.putObj_heap_other (by omega)).trans hB5
                have hp6 : PrivKeep W0.heap.size 5 W W6 := by
                  rw [hW6]
                  exact (hpk.trans hp5).trans (priv_put _ _ hrN)
                have hC5 : C2 W5 := by rw [HC2.out]; exact ⟨hq5, .inr hM5⟩
                clear hes hW6 hW5 hO hjt hq5 hp5 hB5 hM5 h5 hlm' hC20 HC2 hlm
                refine wpTail_cons rfl (fun K hK => ?_)
                go_simp
                refine hK.out _ _ hC5 ?_
                clear hK K
                refine wpTail_cons rfl (fun K hK => ?_)
                go_simp
                refine hK.out _ _ hC5 ?_
                clear hK K
                refine wpTail_nil rfl (fun K hK => ?_)
                go_simp
                refine hK.out _ _ ?_
                clear hK K
                gi_wp2
                go_roundw
                case rel => exact ⟨k + 1, by omega, by go_num, hp6, hB6, h6⟩
                case measure => simp [intOf]; omega
              · obtain rfl : k = h.clocks.length := by omega
                gi_wp2
                refine ⟨hpk, ?_⟩
                show AskI _ _ _ _ _ _ _ _ (h.trueOf (pre ++ [p])) (countT (h.trueOf (pre ++ [p]))) _
                rw [trueOf_yes pre HRI.out]
                exact (hir.recount (fun c o _ h1 => by rw [countT_snoc]; simp [h1])).old
        · have hri : h.risingB p [] = false := by simpa using hri
          have hris : ∀ x, Calls Try.prog 111 #[.agg #[.int .i64 h.hour, .int .i64 h.grace, .slice A2 h.clocks.length c2, .slice A3 h.tickets.length c3, .slice A4 h.clips.length c4], .agg #[.int .i64 a0, .int .i64 a1, .int .i64 a2, .int .i64 a3], .slice none 0 0] (later W x) (Ret (.bool false) (later W x)) := fun x => by
            have hbx := later_below (x := x) hbw hbw.size
            have := rising_calls4 _ h p HE4 none 0 [] _ (H0.below hbx) (SlA.nil _ _ _ _) HEO.out HC.out hl
            rw [hri] at this
            exact this
          have HRS := Lib.hid hris
          clear hris
          gi_wp2
          refine regionIn_later (by kernel_rfl) (by kernel_rfl) (by rintro ⟨_, _, hh⟩; exact hh) (by simp) ?_
          repeat (go_big_quiet_step (exact quiet_ret (HRS.out _)))
          refine wpQuiet_nil ?_
          rintro W' ⟨x, rfl⟩
          gi_wp2
          have hp' := trueOf_no pre hri
          refine ⟨PrivKeep.of_below (below_later _ _) hsz, ?_⟩
          show AskI _ _ _ _ _ _ _ _ (h.trueOf (pre ++ [p])) (countT (h.trueOf (pre ++ [p]))) _
          rw [hp']
          exact (HI.out.low (below_later W x) hgN hrN).old
      case done =>
        rintro D W hD ⟨vt, hi⟩ hK
        have hT : h.trueOf (prods h.clocks) = h.truths := rfl
        simp only [hT] at hi
        have hDr : D ≠ r := by omega
        have hDg : D ≠ r + 1 := by omega
        have jq := hi.keep.cell kq (by simp) (by simp; omega)
        have hbx := hi.box
        have hbw := hH2 _ hi.keep
        obtain ⟨A5, c5, hvt, hs5⟩ := SlA.of_own (k := 4) (g := e4) (l := h.truths) hi.own (fun _ _ => rfl) rfl (by
          have := pre_count hn HR.out (List.prefix_refl (prods h.clocks))
          have := trueOf_length h (prods h.clocks)
          rw [hT] at this
          omega)
        subst hvt
        have b5 := hbx.cell 5
        simp only [List.getElem?_cons_zero, List.getElem?_cons_succ] at b5
        have hbw' : Below w.heap.size w (W.putObj D (.deferred none)) := below_put hbw (by have := hbB.size; omega)
        by_cases hE : h.truths = []
        · have HA := Lib.hid (show h.askE 0 = 11 by simp [Hs.askE, HF.out, hE])
          have hl0 : h.truths.length = 0 := by rw [hE]; rfl
          rw [hl0] at b5
          clear hi hbx hs5 hE hl0 hT
          gi_wp2
          refine ⟨by simp, .inl ⟨_, _, rfl, run_takeDeferred hK, ?_⟩⟩
          refine ⟨.tuple #[.pointer none, .int .i64 11], by simp [results, Try.results79, go_sem], later_ex hbw', .inl ⟨by rw [HA.out]; decide, by rw [HA.out]⟩⟩
        · have HA := Lib.hid (show h.askE 0 = 0 by simp [Hs.askE, HF.out, hE])
          have hl0 : (h.truths.length : Int) ≠ 0 := by have := List.length_pos_iff.2 hE; omega
          have hl1 : ((h.truths.length : Int) == 0) = false := by simpa using hl0
          have HWK := Lib.hid (show WkAt (W.putObj D (.deferred none)) (r + 1) h by
            obtain ⟨l, hl2, hl3⟩ := hi.map
            exact ⟨A2, c2, A3, c3, A4, c4, A5, c5, r, l, H2.below hbw', H3.below hbw', H4.below hbw', hs5.putD hK (fun _ _ => by simp [e4]), (World.putObj_heap_other (Ne.symm hDr)).trans hl2, hl3, (World.putObj_heap_other (Ne.symm hDg)).trans hbx⟩)
          clear hi hbx hs5 hE hl0 hT
          gi_wp2
          refine ⟨by simp, .inl ⟨_, _, rfl, run_takeDeferred hK, ?_⟩⟩
          refine ⟨.tuple #[.pointer (some ⟨r + 1, 0, none⟩), .int .i64 0], by simp [results, Try.results79, go_sem], later_ex hbw', .inr ⟨HA.out, r + 1, rfl, HWK.out⟩⟩
      case stop => exact fun D c zs W _ _ _ hx _ => hx.elim
    · have hd1 : (due != 0) = true := by simpa using hd
      have HA := Lib.hid (show h.askE due = due by simp [Hs.askE, HF.out, hd])
      have HD := Lib.hid hd
      clear hd
      go_enter Try.func79, Try.ntmps79
      go_wp2_with (first
        | (go_at_call 70; refine (check_calls _ h _ ?hh).mono ?_; (case hh => exact H0.below (by repeat (first | exact Below.refl _ _ | (with_reducible assumption) | apply gL | apply gA | apply gD | apply gN | (refine gS ?_ (by first | (simp; done) | (simp; omega) | omega))))); (rintro e w' hr; first | ((with_reducible replace hr := Ret.up hr); obtain ⟨rfl, z, rfl⟩ := hr) | (obtain ⟨rfl, z, rfl⟩ := hr))))
      go_ret2
      exact ⟨later_ex (by repeat (first | exact Below.refl _ _ | (with_reducible assumption) | apply gL | apply gA | apply gD | apply gN | (refine gS ?_ (by first | (simp; done) | (simp; omega) | omega)))), .inl ⟨by rw [HA.out]; exact HD.out, by rw [HA.out]; rfl⟩⟩
  · have hf1 : (h.fault != 0) = true := by simpa using hf
    have HA := Lib.hid (show h.askE due = h.fault by simp [Hs.askE, hf])
    have HF := Lib.hid hf
    clear hf
    go_enter Try.func79, Try.ntmps79
    go_wp2_with (first
      | (go_at_call 70; refine (check_calls _ h _ ?hh).mono ?_; (case hh => exact H0.below (by repeat (first | exact Below.refl _ _ | (with_reducible assumption) | apply gL | apply gA | apply gD | apply gN | (refine gS ?_ (by first | (simp; done) | (simp; omega) | omega))))); (rintro e w' hr; first | ((with_reducible replace hr := Ret.up hr); obtain ⟨rfl, z, rfl⟩ := hr) | (obtain ⟨rfl, z, rfl⟩ := hr))))
    go_ret2
    exact ⟨later_ex (by repeat (first | exact Below.refl _ _ | (with_reducible assumption) | apply gL | apply gA | apply gD | apply gN | (refine gS ?_ (by first | (simp; done) | (simp; omega) | omega)))), .inl ⟨by rw [HA.out]; exact HF.out, by rw [HA.out]; rfl⟩⟩
end Go.Proofs.Ytcngnfnljkkjgaa
namespace Go.Proofs.Ytcngnfnljkkjgaa
open Go.RowKit
attribute [local go_sem] cell_later frozen_later lt_later le_later

theorem WkAt.below {w w' : World} {g : Nat} {h : Hs} (H : WkAt w g h) (hb : Below w.heap.size w w') : WkAt w' g h := by
  obtain ⟨A2, c2, A3, c3, A4, c4, A5, c5, r, l, h2, h3, h4, h5, h6, h7, h8⟩ := H
  exact ⟨A2, c2, A3, c3, A4, c4, A5, c5, r, l, h2.below hb, h3.below hb, h4.below hb, h5.below hb, (hb.block r (World.block_lt_of_map h6)).trans h6, h7, h8.of_below hb h8.lt⟩
theorem WkAt.later {w x : World} {g : Nat} {h : Hs} (H : WkAt w g h) : WkAt (later w x) g h := H.below (below_later w x)
theorem WkAt.lt {w : World} {g : Nat} {h : Hs} (H : WkAt w g h) : g < w.heap.size := by
  obtain ⟨A2, c2, A3, c3, A4, c4, A5, c5, r, l, h2, h3, h4, h5, h6, h7, h8⟩ := H
  exact h8.lt

def Hs.hoursB (h : Hs) (e : List Int) (t : Int) : Int :=
  match h.ofs t with
  | c0 :: c1 :: _ => (max 0 (tru e c1 - tru e c0 - h.grace) + h.hour - 1) / h.hour
  | _ => 0
theorem hoursB_none {h : Hs} {e : List Int} {t : Int} (hl : (h.ofs t).length < 2) : h.hoursB e t = 0 := by
  unfold Hs.hoursB
  match hm : h.ofs t with
  | [] => rfl
  | [_] => rfl
  | _ :: _ :: _ => rw [hm] at hl; simp at hl; omega
theorem hoursB_some {h : Hs} {e : List Int} {t : Int} {c0 c1 : Cp} (h0 : (h.ofs t)[0]? = some c0) (h1 : (h.ofs t)[1]? = some c1) : h.hoursB e t = (max 0 (tru e c1 - tru e c0 - h.grace) + h.hour - 1) / h.hour := by
  unfold Hs.hoursB
  match hm : h.ofs t with
  | [] => rw [hm] at h0; simp at h0
  | [_] => rw [hm] at h1; simp at h1
  | _ :: _ :: _ => rw [hm] at h0 h1; simp at h0 h1; rw [h0, h1]

theorem ofs_mem {h : Hs} {t : Int} {c : Cp} {i : Nat} (hc : (h.ofs t)[i]? = some c) : c ∈ h.clips := (List.mem_filter.1 (List.mem_of_getElem? hc)).1
theorem fault_hour {h : Hs} (hf : h.fault = 0) : 1 ≤ h.hour ∧ h.hour ≤ 120 ∧ 0 ≤ h.grace ∧ h.grace ≤ 60 := by
  obtain ⟨_, h2, _, _⟩ := fault_zero hf
  obtain ⟨h3, h4, _, _, _⟩ := arg_iff.1 h2
  have := inB_iff.1 h3
  have := inB_iff.1 h4
  omega

theorem workoff_calls (v : Value) (e : List Int) {e0 e1 e2 e3 : Int} (H4 : Hid (e4 e = [.int .i64 e0, .int .i64 e1, .int .i64 e2, .int .i64 e3])) (i : Int) (w : World) (h0 : 0 ≤ i) (h1 : i < 4) :
    Calls Try.prog 80 #[v, .agg #[.int .i64 e0, .int .i64 e1, .int .i64 e2, .int .i64 e3], .int .i64 i] w (Ret (.int .i64 (err e i)) w) := by
  obtain ⟨k, rfl⟩ : ∃ k : Nat, i = k := ⟨i.toNat, by omega⟩
  have hk : k < 4 := by omega
  have hat := e4_at e hk
  rw [H4.out] at hat
  have HE := Lib.hid (show err e (k : Int) = e.getD k 0 from rfl)
  obtain ⟨o, ho⟩ : ∃ o, o = e.getD k 0 := ⟨_, rfl⟩
  rw [← ho] at hat HE
  have hcell : (w.alloc (.cells #[.int .i64 e0, .int .i64 e1, .int .i64 e2, .int .i64 e3] 119)).cell? ⟨w.heap.size, k, none⟩ = some (.int .i64 o) := by
    rw [World.cell?_alloc_new]
    simpa using hat
  clear hat ho
  go_enter Try.func80, Try.ntmps80
  go_wp2
  go_ret
  exact ret_mk (ret_int HE.out.symm) (by repeat (first | exact Below.refl _ _ | (with_reducible assumption) | apply gL | apply gA | apply gD | apply gN | (refine gS ?_ (by first | (simp; done) | (simp; omega) | omega))))

set_option maxHeartbeats 1000000 in
theorem hours_calls (g : Nat) (h : Hs) (e : List Int) {e0 e1 e2 e3 : Int} (H4 : Hid (e4 e = [.int .i64 e0, .int .i64 e1, .int .i64 e2, .int .i64 e3])) (he : Hid (ErrOk e)) (t : Int) (w : World) (H : WkAt w g h) (hf : Hid (h.fault = 0)) :
    Calls Try.prog 82 #[.pointer (some ⟨g, 0, none⟩), .agg #[.int .i64 e0, .int .i64 e1, .int .i64 e2, .int .i64 e3], .int .i64 t] w (Ret (.int .i64 (h.hoursB e t)) w) := by
  obtain ⟨A2, c2, A3, c3, A4, c4, A5, c5, r, l, h2, h3, h4, h5, h6, h7, h8⟩ := H
  have hgl := h8.lt
  have hhs : HsAt w (.agg #[.int .i64 h.hour, .int .i64 h.grace, .slice A2 h.clocks.length c2, .slice A3 h.tickets.length c3, .slice A4 h.clips.length c4]) h := ⟨A2, c2, A3, c3, A4, c4, rfl, h2, h3, h4⟩
  have k0 := h8.cell 0
  have k1 := h8.cell 1
  have k2 := h8.cell 2
  have k3 := h8.cell 3
  have k4 := h8.cell 4
  simp only [List.getElem?_cons_zero, List.getElem?_cons_succ] at k0 k1 k2 k3 k4
  have hl : h.clips.length ≤ 1000 := by have := (small_iff.1 (fault_zero hf.out).1).2.2; omega
  obtain ⟨g1, g2, g3, g4⟩ := fault_hour hf.out
  clear h2 h3 h4 h5 h6 h7 h8
  by_cases hlt : (h.ofs t).length < 2
  · have HR := Lib.hid (hoursB_none (e := e) hlt)
    have hlt' : ((h.ofs t).length : Int) < 2 := by omega
    go_enter Try.func82, Try.ntmps82
    go_wp2_with (first | (go_at_call 119; refine (of_calls _ h t _ ?hh hl).mono ?_; (case hh => exact hhs.below (by repeat (first | exact Below.refl _ _ | (with_reducible assumption) | apply gL | apply gA | apply gD | apply gN | (refine gS ?_ (by first | (simp; done) | (simp; omega) | omega))))); (rintro e w' hr; first | ((with_reducible replace hr := RetSl.up hr); obtain ⟨A, c, rfl, ⟨z, rfl⟩, hsl⟩ := hr) | (obtain ⟨A, c, rfl, ⟨z, rfl⟩, hsl⟩ := hr))))
    go_ret
    exact ret_mk (ret_int HR.out.symm) (by repeat (first | exact Below.refl _ _ | (with_reducible assumption) | apply gL | apply gA | apply gD | apply gN | (refine gS ?_ (by first | (simp; done) | (simp; omega) | omega))))
  · obtain ⟨x0, hx0⟩ : ∃ x, (h.ofs t)[0]? = some x := ⟨_, List.getElem?_eq_getElem (by omega)⟩
    obtain ⟨x1, hx1⟩ : ∃ x, (h.ofs t)[1]? = some x := ⟨_, List.getElem?_eq_getElem (by omega)⟩
    have hR := hoursB_some (e := e) hx0 hx1
    obtain ⟨m0, m1, m2, m3, m4, m5⟩ := fault_clips hf.out (ofs_mem hx0)
    obtain ⟨p0, p1, p2, p3, p4, p5⟩ := fault_clips hf.out (ofs_mem hx1)
    have hc4 : h.clocks.length ≤ 4 := (small_iff.1 (fault_zero hf.out).1).1
    have m3' : x0.ck < 4 := by omega
    have p3' : x1.ck < 4 := by omega
    have b0 := tru_bd he.out m4 m5
    have b1 := tru_bd he.out p4 p5
    have hlt' : ¬ ((h.ofs t).length : Int) < 2 := by omega
    obtain ⟨s, hs⟩ : ∃ s, s = max 0 (tru e x1 - tru e x0 - h.grace) := ⟨_, rfl⟩
    have hmx : (if h.grace < tru e x1 - tru e x0 then tru e x1 - tru e x0 - h.grace else 0) = s := by omega
    have hs0 : 0 ≤ s := by omega
    have hs1 : s ≤ 1500 := by omega
    rw [← hs] at hR
    have htd : (s + h.hour - 1).tdiv h.hour = h.hoursB e t := by rw [hR, Int.tdiv_eq_ediv_of_nonneg (by omega)]
    have hb0 : 0 ≤ h.hoursB e t := by rw [hR]; exact Int.ediv_nonneg (by omega) (by omega)
    have hb9 : h.hoursB e t ≤ 1620 := by rw [hR]; exact Int.le_trans (Int.ediv_le_self _ (by omega)) (by omega)
    have hhz : h.hour ≠ 0 := by omega
    clear hs hR
    have HX0 := Lib.hid hx0
    have HX1 := Lib.hid hx1
    have hl0 : (0 : Int) < ((h.ofs t).length : Int) := by omega
    have hl1 : (1 : Int) < ((h.ofs t).length : Int) := by omega
    clear hx0 hx1
    go_enter Try.func82, Try.ntmps82
    go_wp2_with (first | (go_at_call 119; refine (of_calls _ h t _ ?hh hl).mono ?_; (case hh => exact hhs.below (by repeat (first | exact Below.refl _ _ | (with_reducible assumption) | apply gL | apply gA | apply gD | apply gN | (refine gS ?_ (by first | (simp; done) | (simp; omega) | omega))))); (rintro e w' hr; first | ((with_reducible replace hr := RetSl.up hr); obtain ⟨A, c, rfl, ⟨z, rfl⟩, hsl⟩ := hr) | (obtain ⟨A, c, rfl, ⟨z, rfl⟩, hsl⟩ := hr))))
    obtain ⟨W1, hW1⟩ : ∃ W1, W1 = later (w.alloc (.cells #[.int .i64 e0, .int .i64 e1, .int .i64 e2, .int .i64 e3] 119)) z := ⟨_, rfl⟩
    have hb1 : Below w.heap.size w W1 := by rw [hW1]; exact (by repeat (first | exact Below.refl _ _ | (with_reducible assumption) | apply gL | apply gA | apply gD | apply gN | (refine gS ?_ (by first | (simp; done) | (simp; omega) | omega))))
    have q0 : W1.cell? ⟨w.heap.size, 0, none⟩ = some (.int .i64 e0) := by rw [hW1]; simp [go_sem]
    have q1 : W1.cell? ⟨w.heap.size, 1, none⟩ = some (.int .i64 e1) := by rw [hW1]; simp [go_sem]
    have q2 : W1.cell? ⟨w.heap.size, 2, none⟩ = some (.int .i64 e2) := by rw [hW1]; simp [go_sem]
    have q3 : W1.cell? ⟨w.heap.size, 3, none⟩ = some (.int .i64 e3) := by rw [hW1]; simp [go_sem]
    rw [← hW1] at hsl ⊢
    clear hW1
    have hq := World.block_lt_of_cell? W1 _ q0
    simp only at hq
    have y0 := (hb1.cell (p := ⟨g, 0, none⟩) hgl).trans k0
    have y1 := (hb1.cell (p := ⟨g, 1, none⟩) hgl).trans k1
    have hgl1 : g < W1.heap.size := by omega
    obtain ⟨b, off, x, rfl, hbl, hx, i0, i1, i2⟩ := hsl.atC (i := 0) (by omega)
    obtain rfl : x = x0 := by rw [HX0.out] at hx; exact (Option.some.inj hx).symm
    obtain ⟨b', off', x', e', -, hx', j0, j1, j2⟩ := hsl.atC (i := 1) (by omega)
    cases e'
    obtain rfl : x' = x1 := by rw [HX1.out] at hx'; exact (Option.some.inj hx').symm
    simp only [Nat.zero_mul, Nat.one_mul, Nat.add_zero] at i0 i1 i2 j0 j1 j2
    clear hx hx' hsl
    refine region_later (by kernel_rfl) (by kernel_rfl) ?_
    repeat (go_big_quiet_step (first | with_reducible exact quiet_ret (minute_calls4 e H4 he x' _ p2 p3' p4 p5) | with_reducible exact quiet_ret (minute_calls4 e H4 he x _ m2 m3' m4 m5)))
    refine wpQuiet_nil ?_
    rintro W' ⟨x, rfl⟩
    go_wp2
    refine region_later (by kernel_rfl) (by kernel_rfl) ?_
    repeat (go_big_quiet_step (fail))
    refine wpQuiet_nil ?_
    rintro W' ⟨x, rfl⟩
    go_wp2
    go_ret
    exact ret_mk rfl (hb1.trans (below_mono_of hb1 (by repeat (first | exact Below.refl _ _ | (with_reducible assumption) | apply gL | apply gA | apply gD | apply gN | (refine gS ?_ (by first | (simp; done) | (simp; omega) | omega))))))
end Go.Proofs.Ytcngnfnljkkjgaa
namespace Go.Proofs.Ytcngnfnljkkjgaa
open Go.RowKit
attribute [local go_sem] cell_later frozen_later lt_later le_later

def Hs.longB (h : Hs) (e : List Int) (t : Nat) : Bool := match h.tickets[t]? with
  | some x => decide (x.hours < h.hoursB e t)
  | none => false

set_option maxHeartbeats 1000000 in
theorem long_calls (g : Nat) (h : Hs) (e : List Int) {e0 e1 e2 e3 : Int} (H4 : Hid (e4 e = [.int .i64 e0, .int .i64 e1, .int .i64 e2, .int .i64 e3])) (he : Hid (ErrOk e)) (t : Nat) (ht : t < h.tickets.length) (w : World) (H : WkAt w g h) (hf : Hid (h.fault = 0)) :
    Calls Try.prog 87 #[.pointer (some ⟨g, 0, none⟩), .agg #[.int .i64 e0, .int .i64 e1, .int .i64 e2, .int .i64 e3], .int .i64 t] w (Ret (.bool (h.longB e t)) w) := by
  have H0 := H
  obtain ⟨A2, c2, A3, c3, A4, c4, A5, c5, r, l, h2, h3, h4, h5, h6, h7, h8⟩ := H
  have hgl := h8.lt
  have k3 := h8.cell 3
  simp only [List.getElem?_cons_zero, List.getElem?_cons_succ] at k3
  obtain ⟨b, off, x, rfl, hbl, hx, i0, i1⟩ := h3.atT ht
  have HR := Lib.hid (show h.longB e t = decide (x.hours < h.hoursB e t) by simp [Hs.longB, hx])
  have ht1 : (t : Int) < (h.tickets.length : Int) := by omega
  have ht0 : (0 : Int) ≤ (t : Int) := Int.natCast_nonneg _
  obtain ⟨W1, hW1⟩ : ∃ W1, W1 = w.alloc (.cells #[.int .i64 e0, .int .i64 e1, .int .i64 e2, .int .i64 e3] 119) := ⟨_, rfl⟩
  have hb1 : Below w.heap.size w W1 := by rw [hW1]; exact (by repeat (first | exact Below.refl _ _ | (with_reducible assumption) | apply gL | apply gA | apply gD | apply gN | (refine gS ?_ (by first | (simp; done) | (simp; omega) | omega))))
  have q0 : W1.cell? ⟨w.heap.size, 0, none⟩ = some (.int .i64 e0) := by rw [hW1]; simp [go_sem]
  have q1 : W1.cell? ⟨w.heap.size, 1, none⟩ = some (.int .i64 e1) := by rw [hW1]; simp [go_sem]
  have q2 : W1.cell? ⟨w.heap.size, 2, none⟩ = some (.int .i64 e2) := by rw [hW1]; simp [go_sem]
  have q3 : W1.cell? ⟨w.heap.size, 3, none⟩ = some (.int .i64 e3) := by rw [hW1]; simp [go_sem]
  have hq := World.block_lt_of_cell? W1 _ q0
  simp only at hq
  have hw1 := H0.below hb1
  have y3 := (hb1.cell (p := ⟨g, 3, none⟩) hgl).trans k3
  have z1 := (hb1.cell (p := ⟨b, off + t * 2 + 1, none⟩) hbl).trans i1
  have hgl1 : g < W1.heap.size := Nat.lt_of_lt_of_le hgl hb1.size
  have hbl1 : b < W1.heap.size := Nat.lt_of_lt_of_le hbl hb1.size
  clear h2 h3 h4 h5 h6 h7 h8 hx H0 k3 i0 i1
  go_enter Try.func87, Try.ntmps87
  go_wp2
  rw [← hW1]
  clear hW1
  refine region_later (by kernel_rfl) (by kernel_rfl) ?_
  repeat (go_big_quiet_step (first | with_reducible exact quiet_ret (hours_calls g h e H4 he t _ hw1.later hf)))
  refine wpQuiet_nil ?_
  rintro W' ⟨y, rfl⟩
  go_wp2
  go_ret
  exact ret_mk (ret_bool HR.out.symm) (hb1.trans (below_mono_of hb1 (by repeat (first | exact Below.refl _ _ | (with_reducible assumption) | apply gL | apply gA | apply gD | apply gN | (refine gS ?_ (by first | (simp; done) | (simp; omega) | omega))))))

/-- From which minute on a tub is free. -/
def Hs.fromAt (h : Hs) (e : List Int) (tub n : Int) (i : Nat) : Int := match h.tickets[i]? with
  | some x => if x.tub = tub ∧ (h.ofs i).length = 2 then max n (tru e ((h.ofs i).getD 1 ⟨0, 0, 0⟩)) else n
  | none => n
def Hs.fromB (h : Hs) (e : List Int) (tub : Int) : Int := (List.range h.tickets.length).foldl (h.fromAt e tub) 0

set_option maxHeartbeats 2000000 in
theorem from_calls (g : Nat) (h : Hs) (e : List Int) {e0 e1 e2 e3 : Int} (H4 : Hid (e4 e = [.int .i64 e0, .int .i64 e1, .int .i64 e2, .int .i64 e3])) (he : Hid (ErrOk e)) (tub : Int) (w : World) (H : WkAt w g h) (hf : Hid (h.fault = 0)) :
    Calls Try.prog 96 #[.pointer (some ⟨g, 0, none⟩), .agg #[.int .i64 e0, .int .i64 e1, .int .i64 e2, .int .i64 e3], .int .i64 tub] w (Ret (.int .i64 (h.fromB e tub)) w) := by
  have H0 := H
  obtain ⟨A2, c2, A3, c3, A4, c4, A5, c5, r, l, h2, h3, h4, h5, h6, h7, h8⟩ := H
  have hl : h.clips.length ≤ 1000 := by have := (small_iff.1 (fault_zero hf.out).1).2.2; omega
  have hhs : HsAt w (.agg #[.int .i64 h.hour, .int .i64 h.grace, .slice A2 h.clocks.length c2, .slice A3 h.tickets.length c3, .slice A4 h.clips.length c4]) h := ⟨A2, c2, A3, c3, A4, c4, rfl, h2, h3, h4⟩
  have hgl := h8.lt
  have kk3 := h8.cell 3
  simp only [List.getElem?_cons_zero, List.getElem?_cons_succ] at kk3
  obtain ⟨W1, hW1⟩ : ∃ W1, W1 = w.alloc (.cells #[.int .i64 e0, .int .i64 e1, .int .i64 e2, .int .i64 e3] 119) := ⟨_, rfl⟩
  have hb1 : Below w.heap.size w W1 := by rw [hW1]; exact (by repeat (first | exact Below.refl _ _ | (with_reducible assumption) | apply gL | apply gA | apply gD | apply gN | (refine gS ?_ (by first | (simp; done) | (simp; omega) | omega))))
  have q0 : W1.cell? ⟨w.heap.size, 0, none⟩ = some (.int .i64 e0) := by rw [hW1]; simp [go_sem]
  have q1 : W1.cell? ⟨w.heap.size, 1, none⟩ = some (.int .i64 e1) := by rw [hW1]; simp [go_sem]
  have q2 : W1.cell? ⟨w.heap.size, 2, none⟩ = some (.int .i64 e2) := by rw [hW1]; simp [go_sem]
  have q3 : W1.cell? ⟨w.heap.size, 3, none⟩ = some (.int .i64 e3) := by rw [hW1]; simp [go_sem]
  have hq := World.block_lt_of_cell? W1 _ q0
  simp only at hq
  have h81 := h8.of_below hb1 hgl
  have y0 := h81.cell 0
  have y1 := h81.cell 1
  have y2 := h81.cell 2
  have y3 := h81.cell 3
  have y4 := h81.cell 4
  simp only [List.getElem?_cons_zero, List.getElem?_cons_succ] at y0 y1 y2 y3 y4
  have hhs1 := hhs.below hb1
  have h31 := h3.below hb1
  have hgl1 : g < W1.heap.size := Nat.lt_of_lt_of_le hgl hb1.size
  have ht6 : h.tickets.length ≤ 6 := (small_iff.1 (fault_zero hf.out).1).2.1
  have hc4 : h.clocks.length ≤ 4 := (small_iff.1 (fault_zero hf.out).1).1
  clear h2 h3 h4 h5 h6 h7 h8 H0 h81 hhs
  go_enter Try.func96, Try.ntmps96
  go_wp2
  rw [← hW1]
  clear hW1 kk3
  go_loopw [6, 16] (fun v i wr => ∃ k : Nat, k ≤ h.tickets.length ∧ i = .int .i64 k ∧ v = .int .i64 ((List.range k).foldl (h.fromAt e tub) 0) ∧ ∃ x, wr = later W1 x) (fun _ i _ => h.tickets.length - (intOf i).toNat)
  case atStart => exact ⟨0, Nat.zero_le _, rfl, rfl, later_ex (Below.refl _ _)⟩
  case round =>
    obtain ⟨k, hk, rfl, rfl, x, rfl⟩ := hrel
    by_cases hlt : k < h.tickets.length
    · have hlt1 : (k : Int) < (h.tickets.length : Int) := by omega
      have hk0 : (0 : Int) ≤ (k : Int) := Int.natCast_nonneg _
      obtain ⟨b, off, tk, rfl, hbl, htk, t0, t1⟩ := h31.atT hlt
      obtain ⟨n, hn⟩ : ∃ n, n = (List.range k).foldl (h.fromAt e tub) 0 := ⟨_, rfl⟩
      have HS := Lib.hid (show (List.range (k + 1)).foldl (h.fromAt e tub) 0 = (if tk.tub = tub ∧ (h.ofs k).length = 2 then max n (tru e ((h.ofs k).getD 1 ⟨0, 0, 0⟩)) else n) by
        rw [List.range_succ, List.foldl_append, ← hn, List.foldl_cons, List.foldl_nil, Hs.fromAt, htk])
      rw [← hn]
      clear hn htk
      by_cases hc : tk.tub = tub ∧ (h.ofs k).length = 2
      · obtain ⟨rfl, hlen⟩ := hc
        obtain ⟨x1, hx1⟩ : ∃ x, (h.ofs k)[1]? = some x := ⟨_, List.getElem?_eq_getElem (by omega)⟩
        obtain ⟨p0, p1, p2, p3, p4, p5⟩ := fault_clips hf.out (ofs_mem hx1)
        have p3' : x1.ck < 4 := by omega
        have HS2 := Lib.hid (show (List.range (k + 1)).foldl (h.fromAt e tk.tub) 0 = max n (tru e x1) by
          rw [HS.out, if_pos ⟨rfl, hlen⟩, List.getD_eq_getElem?_getD, hx1]; rfl)
        have HX := Lib.hid hx1
        have HL := Lib.hid hlen
        clear HS hx1 hlen
        go_wp2_with (first | (go_at_call 119; refine (of_calls _ h k _ ?hh hl).mono ?_; (case hh => exact hhs1.below (by repeat (first | exact Below.refl _ _ | (with_reducible assumption) | apply gL | apply gA | apply gD | apply gN | (refine gS ?_ (by first | (simp; done) | (simp; omega) | omega))))); (rintro e w' hr; first | ((with_reducible replace hr := RetSl.up hr); obtain ⟨A, c, rfl, ⟨z, rfl⟩, hsl⟩ := hr) | (obtain ⟨A, c, rfl, ⟨z, rfl⟩, hsl⟩ := hr)); rw [HL.out]))
        obtain ⟨W2, hW2⟩ : ∃ W2, W2 = later ((later W1 x).alloc (.cells #[.int .i64 tk.tub, .int .i64 tk.hours] 114)) z := ⟨_, rfl⟩
        have hb2 : Below W1.heap.size W1 W2 := by rw [hW2]; exact (by repeat (first | exact Below.refl _ _ | (with_reducible assumption) | apply gL | apply gA | apply gD | apply gN | (refine gS ?_ (by first | (simp; done) | (simp; omega) | omega))))
        rw [← hW2] at hsl ⊢
        clear hW2
        have s0 := (hb2.cell (p := ⟨w.heap.size, 0, none⟩) hq).trans q0
        have s1 := (hb2.cell (p := ⟨w.heap.size, 1, none⟩) hq).trans q1
        have s2 := (hb2.cell (p := ⟨w.heap.size, 2, none⟩) hq).trans q2
        have s3 := (hb2.cell (p := ⟨w.heap.size, 3, none⟩) hq).trans q3
        have hq2 : w.heap.size < W2.heap.size := Nat.lt_of_lt_of_le hq hb2.size
        obtain ⟨b', off', x', rfl, hbl', hx', j0, j1, j2⟩ := hsl.atC (i := 1) (by rw [HL.out]; omega)
        obtain rfl : x' = x1 := by rw [HX.out] at hx'; exact (Option.some.inj hx').symm
        simp only [Nat.one_mul] at j0 j1 j2
        have hmx : (if n < tru e x' then tru e x' else n) = max n (tru e x') := by omega
        clear hx' hsl
        refine region_later (by kernel_rfl) (by kernel_rfl) ?_
        repeat (go_big_quiet_step (first | with_reducible exact quiet_ret (minute_calls4 e H4 he x' _ p2 p3' p4 p5)))
        refine wpQuiet_nil ?_
        rintro W' ⟨y, rfl⟩
        go_wp2
        go_roundw
        case rel => exact ⟨k + 1, by omega, by go_num, by rw [HS2.out], later_ex (later_below hb2 hb2.size)⟩
        case measure => simp [intOf]; omega
      · have HS2 := Lib.hid (show (List.range (k + 1)).foldl (h.fromAt e tub) 0 = n by rw [HS.out, if_neg hc])
        by_cases ht : tk.tub = tub
        · have ht1 : (tk.tub == tub) = true := by simpa using ht
          have hlen : ¬ (((h.ofs k).length : Int) = 2) := fun hh => hc ⟨ht, by omega⟩
          have hlen1 : (((h.ofs k).length : Int) == 2) = false := by simpa using hlen
          clear HS hc ht
          go_wp2_with (first | (go_at_call 119; refine (of_calls _ h k _ ?hh hl).mono ?_; (case hh => exact hhs1.below (by repeat (first | exact Below.refl _ _ | (with_reducible assumption) | apply gL | apply gA | apply gD | apply gN | (refine gS ?_ (by first | (simp; done) | (simp; omega) | omega))))); (rintro e w' hr; first | ((with_reducible replace hr := RetSl.up hr); obtain ⟨A, c, rfl, ⟨z, rfl⟩, hsl⟩ := hr) | (obtain ⟨A, c, rfl, ⟨z, rfl⟩, hsl⟩ := hr))))
          go_roundw
          case rel => exact ⟨k + 1, by omega, by go_num, by rw [HS2.out], later_ex (by repeat (first | exact Below.refl _ _ | (with_reducible assumption) | apply gL | apply gA | apply gD | apply gN | (refine gS ?_ (by first | (simp; done) | (simp; omega) | omega))))⟩
          case measure => simp [intOf]; omega
        · have ht1 : (tk.tub == tub) = false := by simpa using ht
          clear HS hc
          go_wp2_with (first | (go_at_call 119; refine (of_calls _ h k _ ?hh hl).mono ?_; (case hh => exact hhs1.below (by repeat (first | exact Below.refl _ _ | (with_reducible assumption) | apply gL | apply gA | apply gD | apply gN | (refine gS ?_ (by first | (simp; done) | (simp; omega) | omega))))); (rintro e w' hr; first | ((with_reducible replace hr := RetSl.up hr); obtain ⟨A, c, rfl, ⟨z, rfl⟩, hsl⟩ := hr) | (obtain ⟨A, c, rfl, ⟨z, rfl⟩, hsl⟩ := hr))))
          go_roundw
          case rel => exact ⟨k + 1, by omega, by go_num, by rw [HS2.out], later_ex (by repeat (first | exact Below.refl _ _ | (with_reducible assumption) | apply gL | apply gA | apply gD | apply gN | (refine gS ?_ (by first | (simp; done) | (simp; omega) | omega))))⟩
          case measure => simp [intOf]; omega
    · obtain rfl : k = h.tickets.length := by omega
      go_wp2
      go_ret
      exact ret_mk rfl (hb1.trans (below_mono_of hb1 (by repeat (first | exact Below.refl _ _ | (with_reducible assumption) | apply gL | apply gA | apply gD | apply gN | (refine gS ?_ (by first | (simp; done) | (simp; omega) | omega))))))
end Go.Proofs.Ytcngnfnljkkjgaa
namespace Go.Proofs.Ytcngnfnljkkjgaa
open Go.RowKit
attribute [local go_sem] cell_later frozen_later lt_later le_later

/-- Always, never, perhaps. -/
def verdictB (l : List (List Int)) (p : List Int → Bool) : Int := if l.all p = true then 1 else if l.any p = true then 3 else 2

theorem SlA.atE {w : World} {A : Option Addr} {c : Nat} {l : List (List Int)} (h : SlA w 4 e4 A c l) {i : Nat} (hi : i < l.length) :
    ∃ b off x e0 e1 e2 e3, A = some ⟨b, off, none⟩ ∧ b < w.heap.size ∧ l[i]? = some x ∧ e4 x = [.int .i64 e0, .int .i64 e1, .int .i64 e2, .int .i64 e3] ∧ w.cell? ⟨b, off + i * 4, none⟩ = some (.int .i64 e0) ∧ w.cell? ⟨b, off + i * 4 + 1, none⟩ = some (.int .i64 e1) ∧
      w.cell? ⟨b, off + i * 4 + 2, none⟩ = some (.int .i64 e2) ∧ w.cell? ⟨b, off + i * 4 + 3, none⟩ = some (.int .i64 e3) := by
  obtain ⟨b, off, x, e, hlt, hx, hc⟩ := h.at hi
  exact ⟨b, off, x, _, _, _, _, e, hlt, hx, rfl, hc 0 _ rfl, hc 1 _ rfl, hc 2 _ rfl, hc 3 _ rfl⟩

theorem any_snoc (l : List (List Int)) (p : List Int → Bool) (k : Nat) {x : List Int} (hx : l[k]? = some x) : (l.take (k + 1)).any p = ((l.take k).any p || p x) ∧ (l.take (k + 1)).all p = ((l.take k).all p && p x) := by
  rw [List.take_add_one, hx, List.any_append, List.all_append]
  simp

theorem truths_count {h : Hs} (hf : h.fault = 0) : h.truths.length ≤ 13845841 := by
  have hn : h.clocks.length ≤ 4 := (small_iff.1 (fault_zero hf).1).1
  have := pre_count hn (fun r hr => fault_clock hf hr) (List.prefix_refl (prods h.clocks))
  exact Nat.le_trans (List.length_filter_le _ _) this

set_option maxHeartbeats 1000000 in
theorem verdict_long (g : Nat) (h : Hs) (u1 u2 : Value) (p : List Int → Bool) (w : World) (H : WkAt w g h) (hf : Hid (h.fault = 0))
    (HC : Hid (∀ (x : World) (e : List Int) (e0 e1 e2 e3 : Int), e ∈ h.truths → e4 e = [.int .i64 e0, .int .i64 e1, .int .i64 e2, .int .i64 e3] → Below w.heap.size w x → Calls Try.prog 86 #[.agg #[.int .i64 e0, .int .i64 e1, .int .i64 e2, .int .i64 e3], u1, u2] x (Ret (.bool (p e)) x))) :
    Calls Try.prog 85 #[.pointer (some ⟨g, 0, none⟩), .func (.func 86) #[] #[u1, u2]] w (Ret (.int .i64 (verdictB h.truths p)) w) := by
  obtain ⟨A2, c2, A3, c3, A4, c4, A5, c5, r, l, h2, h3, h4, h5, h6, h7, h8⟩ := H
  have hgl := h8.lt
  have k5 := h8.cell 5
  simp only [List.getElem?_cons_zero, List.getElem?_cons_succ] at k5
  have htc := truths_count hf.out
  clear h2 h3 h4 h6 h7 h8
  go_enter Try.func85, Try.ntmps85
  go_wp2
  go_loopw [5, 6, 15] (fun yes no i wr => ∃ k : Nat, k ≤ h.truths.length ∧ i = .int .i64 k ∧ yes = .bool ((h.truths.take k).any p) ∧ no = .bool (!(h.truths.take k).all p) ∧ ∃ x, wr = later w x) (fun _ _ i _ => h.truths.length - (intOf i).toNat)
  case atStart => exact ⟨0, Nat.zero_le _, rfl, rfl, rfl, later_ex (Below.refl _ _)⟩
  case round =>
    obtain ⟨k, hk, rfl, rfl, rfl, x, rfl⟩ := hrel
    by_cases hlt : k < h.truths.length
    · have hlt1 : (k : Int) < (h.truths.length : Int) := by omega
      have hk0 : (0 : Int) ≤ (k : Int) := Int.natCast_nonneg _
      obtain ⟨b, off, e, e0, e1, e2, e3, rfl, hbl, he, h4, t0, t1, t2, t3⟩ := h5.atE hlt
      have HS := Lib.hid (any_snoc h.truths p k he)
      have HE4 := Lib.hid h4
      have HM := Lib.hid (List.mem_of_getElem? he)
      obtain ⟨yes, hyes⟩ : ∃ b, b = (h.truths.take k).any p := ⟨_, rfl⟩
      obtain ⟨all, hall⟩ : ∃ b, b = (h.truths.take k).all p := ⟨_, rfl⟩
      obtain ⟨pe, hpe⟩ : ∃ b, b = p e := ⟨_, rfl⟩
      rw [← hyes, ← hall, ← hpe] at HS
      rw [← hyes, ← hall]
      clear hyes hall he h4
      have hbx : Below w.heap.size w ((later w x).alloc (.cells #[.int .i64 e0, .int .i64 e1, .int .i64 e2, .int .i64 e3] 119)) := (by repeat (first | exact Below.refl _ _ | (with_reducible assumption) | apply gL | apply gA | apply gD | apply gN | (refine gS ?_ (by first | (simp; done) | (simp; omega) | omega))))
      have hcall := HC.out _ e e0 e1 e2 e3 HM.out HE4.out hbx
      rw [← hpe] at hcall
      have HCA := Lib.hid hcall
      clear hcall hbx hpe
      go_wp2_with (fail)
      refine HCA.out.mono ?_
      (rintro e w' hr; first | ((with_reducible replace hr := Ret.up hr); obtain ⟨rfl, z, rfl⟩ := hr) | (obtain ⟨rfl, z, rfl⟩ := hr))
      cases yes <;> cases all <;> cases pe <;> (
        go_wp2
        go_roundw
        case rel => exact ⟨k + 1, by omega, by go_num, by rw [HS.out.1]; rfl, by rw [HS.out.2]; rfl, later_ex (by repeat (first | exact Below.refl _ _ | (with_reducible assumption) | apply gL | apply gA | apply gD | apply gN | (refine gS ?_ (by first | (simp; done) | (simp; omega) | omega))))⟩
        case measure => simp [intOf]; omega)
    · obtain rfl : k = h.truths.length := by omega
      rw [List.take_length]
      have hv : verdictB h.truths p = (if h.truths.all p = true then 1 else if h.truths.any p = true then 3 else 2) := rfl
      cases hall : h.truths.all p
      · cases hany : h.truths.any p
        · have HV := Lib.hid (show verdictB h.truths p = 2 by rw [hv, hall, hany]; rfl)
          clear hv hall hany
          go_wp2
          go_ret
          exact ret_mk (ret_int HV.out.symm) (by repeat (first | exact Below.refl _ _ | (with_reducible assumption) | apply gL | apply gA | apply gD | apply gN | (refine gS ?_ (by first | (simp; done) | (simp; omega) | omega))))
        · have HV := Lib.hid (show verdictB h.truths p = 3 by rw [hv, hall, hany]; rfl)
          clear hv hall hany
          go_wp2
          go_ret
          exact ret_mk (ret_int HV.out.symm) (by repeat (first | exact Below.refl _ _ | (with_reducible assumption) | apply gL | apply gA | apply gD | apply gN | (refine gS ?_ (by first | (simp; done) | (simp; omega) | omega))))
      · have HV := Lib.hid (show verdictB h.truths p = 1 by rw [hv, hall]; rfl)
        clear hv hall
        go_wp2
        go_ret
        exact ret_mk (ret_int HV.out.symm) (by repeat (first | exact Below.refl _ _ | (with_reducible assumption) | apply gL | apply gA | apply gD | apply gN | (refine gS ?_ (by first | (simp; done) | (simp; omega) | omega))))
set_option maxHeartbeats 1000000 in
theorem verdict_clash (g : Nat) (h : Hs) (u1 u2 u3 : Value) (p : List Int → Bool) (w : World) (H : WkAt w g h) (hf : Hid (h.fault = 0))
    (HC : Hid (∀ (x : World) (e : List Int) (e0 e1 e2 e3 : Int), e ∈ h.truths → e4 e = [.int .i64 e0, .int .i64 e1, .int .i64 e2, .int .i64 e3] → Below w.heap.size w x → Calls Try.prog 91 #[.agg #[.int .i64 e0, .int .i64 e1, .int .i64 e2, .int .i64 e3], u1, u2, u3] x (Ret (.bool (p e)) x))) :
    Calls Try.prog 85 #[.pointer (some ⟨g, 0, none⟩), .func (.func 91) #[] #[u1, u2, u3]] w (Ret (.int .i64 (verdictB h.truths p)) w) := by
  obtain ⟨A2, c2, A3, c3, A4, c4, A5, c5, r, l, h2, h3, h4, h5, h6, h7, h8⟩ := H
  have hgl := h8.lt
  have k5 := h8.cell 5
  simp only [List.getElem?_cons_zero, List.getElem?_cons_succ] at k5
  have htc := truths_count hf.out
  clear h2 h3 h4 h6 h7 h8
  go_enter Try.func85, Try.ntmps85
  go_wp2
  go_loopw [5, 6, 15] (fun yes no i wr => ∃ k : Nat, k ≤ h.truths.length ∧ i = .int .i64 k ∧ yes = .bool ((h.truths.take k).any p) ∧ no = .bool (!(h.truths.take k).all p) ∧ ∃ x, wr = later w x) (fun _ _ i _ => h.truths.length - (intOf i).toNat)
  case atStart => exact ⟨0, Nat.zero_le _, rfl, rfl, rfl, later_ex (Below.refl _ _)⟩
  case round =>
    obtain ⟨k, hk, rfl, rfl, rfl, x, rfl⟩ := hrel
    by_cases hlt : k < h.truths.length
    · have hlt1 : (k : Int) < (h.truths.length : Int) := by omega
      have hk0 : (0 : Int) ≤ (k : Int) := Int.natCast_nonneg _
      obtain ⟨b, off, e, e0, e1, e2, e3, rfl, hbl, he, h4, t0, t1, t2, t3⟩ := h5.atE hlt
      have HS := Lib.hid (any_snoc h.truths p k he)
      have HE4 := Lib.hid h4
      have HM := Lib.hid (List.mem_of_getElem? he)
      obtain ⟨yes, hyes⟩ : ∃ b, b = (h.truths.take k).any p := ⟨_, rfl⟩
      obtain ⟨all, hall⟩ : ∃ b, b = (h.truths.take k).all p := ⟨_, rfl⟩
      obtain ⟨pe, hpe⟩ : ∃ b, b = p e := ⟨_, rfl⟩
      rw [← hyes, ← hall, ← hpe] at HS
      rw [← hyes, ← hall]
      clear hyes hall he h4
      have hbx : Below w.heap.size w ((later w x).alloc (.cells #[.int .i64 e0, .int .i64 e1, .int .i64 e2, .int .i64 e3] 119)) := (by repeat (first | exact Below.refl _ _ | (with_reducible assumption) | apply gL | apply gA | apply gD | apply gN | (refine gS ?_ (by first | (simp; done) | (simp; omega) | omega))))
      have hcall := HC.out _ e e0 e1 e2 e3 HM.out HE4.out hbx
      rw [← hpe] at hcall
      have HCA := Lib.hid hcall
      clear hcall hbx hpe
      go_wp2_with (fail)
      refine HCA.out.mono ?_
      (rintro e w' hr; first | ((with_reducible replace hr := Ret.up hr); obtain ⟨rfl, z, rfl⟩ := hr) | (obtain ⟨rfl, z, rfl⟩ := hr))
      cases yes <;> cases all <;> cases pe <;> (
        go_wp2
        go_roundw
        case rel => exact ⟨k + 1, by omega, by go_num, by rw [HS.out.1]; rfl, by rw [HS.out.2]; rfl, later_ex (by repeat (first | exact Below.refl _ _ | (with_reducible assumption) | apply gL | apply gA | apply gD | apply gN | (refine gS ?_ (by first | (simp; done) | (simp; omega) | omega))))⟩
        case measure => simp [intOf]; omega)
    · obtain rfl : k = h.truths.length := by omega
      rw [List.take_length]
      have hv : verdictB h.truths p = (if h.truths.all p = true then 1 else if h.truths.any p = true then 3 else 2) := rfl
      cases hall : h.truths.all p
      · cases hany : h.truths.any p
        · have HV := Lib.hid (show verdictB h.truths p = 2 by rw [hv, hall, hany]; rfl)
          clear hv hall hany
          go_wp2
          go_ret
          exact ret_mk (ret_int HV.out.symm) (by repeat (first | exact Below.refl _ _ | (with_reducible assumption) | apply gL | apply gA | apply gD | apply gN | (refine gS ?_ (by first | (simp; done) | (simp; omega) | omega))))
        · have HV := Lib.hid (show verdictB h.truths p = 3 by rw [hv, hall, hany]; rfl)
          clear hv hall hany
          go_wp2
          go_ret
          exact ret_mk (ret_int HV.out.symm) (by repeat (first | exact Below.refl _ _ | (with_reducible assumption) | apply gL | apply gA | apply gD | apply gN | (refine gS ?_ (by first | (simp; done) | (simp; omega) | omega))))
      · have HV := Lib.hid (show verdictB h.truths p = 1 by rw [hv, hall]; rfl)
        clear hv hall
        go_wp2
        go_ret
        exact ret_mk (ret_int HV.out.symm) (by repeat (first | exact Below.refl _ _ | (with_reducible assumption) | apply gL | apply gA | apply gD | apply gN | (refine gS ?_ (by first | (simp; done) | (simp; omega) | omega))))
set_option maxHeartbeats 1000000 in
theorem verdict_paid (g : Nat) (h : Hs) (u1 : Value) (p : List Int → Bool) (w : World) (H : WkAt w g h) (hf : Hid (h.fault = 0))
    (HC : Hid (∀ (x : World) (e : List Int) (e0 e1 e2 e3 : Int), e ∈ h.truths → e4 e = [.int .i64 e0, .int .i64 e1, .int .i64 e2, .int .i64 e3] → Below w.heap.size w x → Calls Try.prog 88 #[u1, .agg #[.int .i64 e0, .int .i64 e1, .int .i64 e2, .int .i64 e3]] x (Ret (.bool (p e)) x))) :
    Calls Try.prog 85 #[.pointer (some ⟨g, 0, none⟩), .func (.func 88) #[u1] #[]] w (Ret (.int .i64 (verdictB h.truths p)) w) := by
  obtain ⟨A2, c2, A3, c3, A4, c4, A5, c5, r, l, h2, h3, h4, h5, h6, h7, h8⟩ := H
  have hgl := h8.lt
  have k5 := h8.cell 5
  simp only [List.getElem?_cons_zero, List.getElem?_cons_succ] at k5
  have htc := truths_count hf.out
  clear h2 h3 h4 h6 h7 h8
  go_enter Try.func85, Try.ntmps85
  go_wp2
  go_loopw [5, 6, 15] (fun yes no i wr => ∃ k : Nat, k ≤ h.truths.length ∧ i = .int .i64 k ∧ yes = .bool ((h.truths.take k).any p) ∧ no = .bool (!(h.truths.take k).all p) ∧ ∃ x, wr = later w x) (fun _ _ i _ => h.truths.length - (intOf i).toNat)
  case atStart => exact ⟨0, Nat.zero_le _, rfl, rfl, rfl, later_ex (Below.refl _ _)⟩
  case round =>
    obtain ⟨k, hk, rfl, rfl, rfl, x, rfl⟩ := hrel
    by_cases hlt : k < h.truths.length
    · have hlt1 : (k : Int) < (h.truths.length : Int) := by omega
      have hk0 : (0 : Int) ≤ (k : Int) := Int.natCast_nonneg _
      obtain ⟨b, off, e, e0, e1, e2, e3, rfl, hbl, he, h4, t0, t1, t2, t3⟩ := h5.atE hlt
      have HS := Lib.hid (any_snoc h.truths p k he)
      have HE4 := Lib.hid h4
      have HM := Lib.hid (List.mem_of_getElem? he)
      obtain ⟨yes, hyes⟩ : ∃ b, b = (h.truths.take k).any p := ⟨_, rfl⟩
      obtain ⟨all, hall⟩ : ∃ b, b = (h.truths.take k).all p := ⟨_, rfl⟩
      obtain ⟨pe, hpe⟩ : ∃ b, b = p e := ⟨_, rfl⟩
      rw [← hyes, ← hall, ← hpe] at HS
      rw [← hyes, ← hall]
      clear hyes hall he h4
      have hbx : Below w.heap.size w ((later w x).alloc (.cells #[.int .i64 e0, .int .i64 e1, .int .i64 e2, .int .i64 e3] 119)) := (by repeat (first | exact Below.refl _ _ | (with_reducible assumption) | apply gL | apply gA | apply gD | apply gN | (refine gS ?_ (by first | (simp; done) | (simp; omega) | omega))))
      have hcall := HC.out _ e e0 e1 e2 e3 HM.out HE4.out hbx
      rw [← hpe] at hcall
      have HCA := Lib.hid hcall
      clear hcall hbx hpe
      go_wp2_with (fail)
      refine HCA.out.mono ?_
      (rintro e w' hr; first | ((with_reducible replace hr := Ret.up hr); obtain ⟨rfl, z, rfl⟩ := hr) | (obtain ⟨rfl, z, rfl⟩ := hr))
      cases yes <;> cases all <;> cases pe <;> (
        go_wp2
        go_roundw
        case rel => exact ⟨k + 1, by omega, by go_num, by rw [HS.out.1]; rfl, by rw [HS.out.2]; rfl, later_ex (by repeat (first | exact Below.refl _ _ | (with_reducible assumption) | apply gL | apply gA | apply gD | apply gN | (refine gS ?_ (by first | (simp; done) | (simp; omega) | omega))))⟩
        case measure => simp [intOf]; omega)
    · obtain rfl : k = h.truths.length := by omega
      rw [List.take_length]
      have hv : verdictB h.truths p = (if h.truths.all p = true then 1 else if h.truths.any p = true then 3 else 2) := rfl
      cases hall : h.truths.all p
      · cases hany : h.truths.any p
        · have HV := Lib.hid (show verdictB h.truths p = 2 by rw [hv, hall, hany]; rfl)
          clear hv hall hany
          go_wp2
          go_ret
          exact ret_mk (ret_int HV.out.symm) (by repeat (first | exact Below.refl _ _ | (with_reducible assumption) | apply gL | apply gA | apply gD | apply gN | (refine gS ?_ (by first | (simp; done) | (simp; omega) | omega))))
        · have HV := Lib.hid (show verdictB h.truths p = 3 by rw [hv, hall, hany]; rfl)
          clear hv hall hany
          go_wp2
          go_ret
          exact ret_mk (ret_int HV.out.symm) (by repeat (first | exact Below.refl _ _ | (with_reducible assumption) | apply gL | apply gA | apply gD | apply gN | (refine gS ?_ (by first | (simp; done) | (simp; omega) | omega))))
      · have HV := Lib.hid (show verdictB h.truths p = 1 by rw [hv, hall]; rfl)
        clear hv hall
        go_wp2
        go_ret
        exact ret_mk (ret_int HV.out.symm) (by repeat (first | exact Below.refl _ _ | (with_reducible assumption) | apply gL | apply gA | apply gD | apply gN | (refine gS ?_ (by first | (simp; done) | (simp; omega) | omega))))
end Go.Proofs.Ytcngnfnljkkjgaa
