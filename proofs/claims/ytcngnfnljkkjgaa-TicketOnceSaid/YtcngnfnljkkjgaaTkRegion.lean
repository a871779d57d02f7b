/-
A region that draws its order and ends in one store: operations that yield one value in every world of a class are met first, in any order that suits; what is left comes one after the other.
-/
import Derived.Test.YtcngnfnljkkjgaaTkMap
import Derived.Test.YtcngnfnljkkjgaaTkBridge
import Derived.StillTail
import Derived.OrdersHeld
namespace Go.Proofs.Ytcngnfnljkkjgaa
open Go.RowKit

def plainOp : Op → Bool
  | .move _ | .assign _ | .load .. | .nilCheck _ | .fieldAddr .. | .indexAddr .. | .build .. | .lookup .. | .extract .. | .binOp .. | .index .. | .field .. | .unOp .. => true
  | _ => false

theorem value_of_bind {P : Program} {s : Sem Value} {w w' : World} {n : Next} (h : (do pure (Next.value (← s)) : Sem Next).run P w = .ok n w') : ∃ u, n = .value u := by
  simp only [Sem.run_bind] at h
  cases hs : s.run P w with
  | ok u w2 => rw [hs] at h; simp at h; exact ⟨u, h.1.symm⟩
  | halt x w2 => rw [hs] at h; simp at h

theorem andThen_value {α : Type} {r : Result α} {k : α → World → Result Next} {n : Next} {w' : World} (hk : ∀ a w1, k a w1 = .ok n w' → ∃ u, n = .value u) (h : r.andThen k = .ok n w') : ∃ u, n = .value u := by
  cases r with
  | ok a w1 => exact hk a w1 h
  | halt x w1 => simp at h

theorem plain_value {P : Program} {o : Oper} {ρ : Operand → Value} {w w' : World} {n : Next} (hp : plainOp o.op = true) (h : (execOp ρ o).run P w = .ok n w') : ∃ u, n = .value u := by
  unfold execOp at h
  cases ho : o.op <;> rw [ho] at hp h <;> simp only [plainOp, Bool.false_eq_true] at hp
  case nilCheck x =>
    simp only at h
    split at h
    · simp [runtimePanic] at h
    · simp [runtimePanic] at h
    · simp [runtimePanic] at h
    · split at h
      · simp [runtimePanic] at h
      · simp only [Sem.run_bind] at h
        refine andThen_value (fun a w1 h1 => ?_) h
        refine andThen_value (fun a w1 h1 => ?_) h1
        simp only [Sem.run_ite] at h1
        split at h1
        · rw [Sem.run_bind] at h1
          refine andThen_value (fun a w1 h1 => ?_) h1
          simp at h1; exact ⟨_, h1.1.symm⟩
        · simp at h1; exact ⟨_, h1.1.symm⟩
      · simp at h; exact ⟨_, h.1.symm⟩
    · simp at h; exact ⟨_, h.1.symm⟩
  case move => simp at h; exact ⟨_, h.1.symm⟩
  case assign => simp at h; exact ⟨_, h.1.symm⟩
  all_goals exact value_of_bind h

section
variable {P : Program} {ops : Array Oper} {Q : Exit → Act → World → Prop} {md : Region.Mode} {S : World → Prop} {n : Nat}

theorem yieldsIf_of_in {o : Oper} {v : Value} {a : Act} (hp : plainOp o.op = true) (hy : YieldsIn P ops S o v a) : YieldsIf P ops S o v a := by
  refine hy.imp (fun ⟨hw, hv⟩ => ⟨hw, fun w hS => ?_⟩) id
  have h := hv w hS
  unfold Oper.quietAt at h
  cases hr : (execOp a.eval o).run P w with
  | ok x w' =>
    obtain ⟨u, rfl⟩ := plain_value hp hr
    rw [hr] at h
    obtain ⟨rfl, rfl⟩ := h
    rfl
  | halt x w' => rw [hr] at h; exact h.elim

/-- Whatever order is picked from here on: behind each operation but the last, number n, S holds. -/
def wpT (P : Program) (md : Region.Mode) (ops : Array Oper) (Q : Exit → Act → World → Prop) (S : World → Prop) (n : Nat) : Nat → Array Bool → Act → World → Prop
  | 0, listed, a, w => Region.ready md ops listed = [n] ∧ Region.ready md ops (listed.setIfInBounds n true) = [] ∧ wpOp P ops Q n (Q .normal) a w
  | f + 1, listed, a, w => Region.ready md ops listed ≠ [] ∧ ∀ i ∈ Region.ready md ops listed, i < n ∧ wpOp P ops Q i (fun a' w' => S w' ∧ wpT P md ops Q S n f (listed.setIfInBounds i true) a' w') a w

theorem wpAny_of_T : ∀ (f : Nat) (listed : Array Bool) (a : Act) (w : World), wpT P md ops Q S n f listed a w → wpAny P md ops Q (f + 1) listed a w
  | 0, _, _, _, ⟨h1, h2, h3⟩ => ⟨(fun h0 => by rw [h1] at h0; cases h0), fun i hi => by
      rw [h1] at hi
      have hin : i = n := by simpa using hi
      subst hin
      exact wpOp_mono (fun a' w' h => ⟨h2, h⟩) h3⟩
  | f + 1, _, _, _, h => ⟨fun h0 => absurd h0 h.1, fun i hi => wpOp_mono (fun a' w' h' => wpAny_of_T f _ a' w' h'.2) (h.2 i hi).2⟩

theorem wpT_first {i : Nat} {oi : Oper} {v : Value} (hi : ops[i]? = some oi) (hsel : ∀ (j : Nat) (o : Oper) cs b, ops[j]? = some o → o.op ≠ .select cs b)
    (hQ : ∀ c a w, Q (.panic c) (a.put oi.dst v) w → Q (.panic c) a w) (hs : Region.sinkB md ops n = true) (hc : Region.chainB md ops n = true) (hn : n < ops.size) (hin : i < n) :
    ∀ (f : Nat) (listed : Array Bool) (a : Act) (w : World), HeadInv md ops n listed →
      (∀ j oj, ops[j]? = some oj → j ≠ i → listed.getD j true = false → (∀ e ∈ oj.after, Region.binds md e = true → e.on ≠ i) → oi.apart ops oj = true) →
      i ∈ Region.ready md ops listed → YieldsIf P ops S oi v a → S w →
      wpT P md ops Q S n f (listed.setIfInBounds i true) (a.put oi.dst v) w → wpT P md ops Q S n (f + 1) listed a w := by
  intro f
  induction f with
  | zero =>
    intro listed a w inv _ hr hy hS H
    have hun := (mem_ready.1 hr).1
    refine ⟨fun h => (by rw [h] at hr; cases hr), fun j hj => ?_⟩
    have hjn : j < n := by
      rcases Nat.lt_or_ge j n with h | h
      · exact h
      · exact absurd hj (tail_waits hs hc hn inv _ i rfl hin hun j h)
    refine ⟨hjn, ?_⟩
    by_cases hji : j = i
    · subst hji; exact hy.wpOp hi hS ⟨hS, H⟩
    · have := ready_mono hj hji
      rw [H.1] at this
      have : j = n := by simpa using this
      omega
  | succ f ih =>
    intro listed a w inv hfree hr hy hS H
    have hun := (mem_ready.1 hr).1
    refine ⟨fun h => (by rw [h] at hr; cases hr), fun j hj => ?_⟩
    have hjn : j < n := by
      rcases Nat.lt_or_ge j n with h | h
      · exact h
      · exact absurd hj (tail_waits hs hc hn inv _ i rfl hin hun j h)
    refine ⟨hjn, ?_⟩
    by_cases hji : j = i
    · subst hji; exact hy.wpOp hi hS ⟨hS, H⟩
    · have h1 := (H.2 j (ready_mono hj hji)).2
      obtain ⟨hjun, oj, hoj, hall⟩ := mem_ready.1 hj
      have hnot : ∀ e ∈ oj.after, Region.binds md e = true → e.on ≠ i := fun e he hb heq => by
        have h1 := hall e he hb
        have h0 := (mem_ready.1 hr).1
        rw [heq] at h1
        rcases Nat.lt_or_ge i listed.size with h' | h'
        · simp [h'] at h0 h1; rw [h0] at h1; cases h1
        · simp [Array.getElem?_eq_none h'] at h1
      have h2 := wpOp_putIf hoj (hfree j oj hoj hji hjun hnot) (fun cs b => hsel i oi cs b hi) (fun cs b => hsel j oj cs b hoj) hQ hy h1
      have hfree' : ∀ k ok, ops[k]? = some ok → k ≠ i → (listed.setIfInBounds j true).getD k true = false →
          (∀ e ∈ ok.after, Region.binds md e = true → e.on ≠ i) → oi.apart ops ok = true := fun k ok hk hki hun hno => by
        refine hfree k ok hk hki ?_ hno
        by_cases hjk : j = k
        · subst hjk; exact hjun
        · rw [getD_set_ne true hjk] at hun; exact hun
      refine wpOp_mono (fun a' w' h3 => ⟨h3.2.1, ih (listed.setIfInBounds j true) a' w' (inv.set hj hjn) hfree' (ready_mono hr (Ne.symm hji)) h3.1 h3.2.1 ?_⟩) h2
      rw [Array.setIfInBounds_comm _ _ hji]
      exact h3.2.2

/-- What is left comes one after the other, n last. -/
def tailB (md : Region.Mode) (ops : Array Oper) (n : Nat) : List Nat → Array Bool → Bool
  | [], listed => decide (Region.ready md ops listed = [n]) && decide (Region.ready md ops (listed.setIfInBounds n true) = [])
  | k :: l, listed => decide (Region.ready md ops listed = [k]) && (decide (k < n) && tailB md ops n l (listed.setIfInBounds k true))
/-- Those that are met first. -/
def permB (md : Region.Mode) (ops : Array Oper) (n : Nat) (tl : List Nat) : List Nat → Array Bool → Bool
  | [], listed => tailB md ops n tl listed
  | k :: l, listed => (Region.ready md ops listed).contains k && (Region.free md ops listed k && (decide (k < n) && ((match ops[k]? with | some o => plainOp o.op | none => false) && permB md ops n tl l (listed.setIfInBounds k true))))
def wpTail (P : Program) (ops : Array Oper) (Q : Exit → Act → World → Prop) (S : World → Prop) (n : Nat) : List Nat → Act → World → Prop
  | [], a, w => wpOp P ops Q n (Q .normal) a w
  | k :: l, a, w => wpOp P ops Q k (fun a' w' => S w' ∧ wpTail P ops Q S n l a' w') a w

theorem wpT_tail : ∀ (tl : List Nat) (listed : Array Bool) (a : Act) (w : World), tailB md ops n tl listed = true → wpTail P ops Q S n tl a w → wpT P md ops Q S n tl.length listed a w
  | [], listed, a, w, hB, h => by
    simp only [tailB, Bool.and_eq_true, decide_eq_true_eq] at hB
    exact ⟨hB.1, hB.2, h⟩
  | k :: l, listed, a, w, hB, h => by
    simp only [tailB, Bool.and_eq_true, decide_eq_true_eq] at hB
    obtain ⟨h1, h2, h3⟩ := hB
    refine ⟨by rw [h1]; simp, fun i hi => ?_⟩
    rw [h1] at hi
    have hik : i = k := by simpa using hi
    subst hik
    exact ⟨h2, wpOp_mono (fun a' w' h' => ⟨h'.1, wpT_tail l _ a' w' h3 h'.2⟩) h⟩

theorem wpT_perm {tl : List Nat} {w : World} (hsel : Region.noSelect ops = true) (hQ : ∀ c a d v w, Q (.panic c) (Act.put a d v) w → Q (.panic c) a w) (hs : Region.sinkB md ops n = true) (hc : Region.chainB md ops n = true) (hn : n < ops.size) (hS : S w) :
    ∀ (pre : List Nat) (listed : Array Bool) (a : Act), HeadInv md ops n listed → permB md ops n tl pre listed = true →
      wpQuiet P ops S (fun a' => wpTail P ops Q S n tl a' w) (pre.filterMap fun i => ops[i]?) a → wpT P md ops Q S n (pre.length + tl.length) listed a w
  | [], listed, a, _, hB, h => by
    rw [List.length_nil, Nat.zero_add]
    exact wpT_tail tl listed a w hB h
  | k :: l, listed, a, inv, hB, h => by
    simp only [permB, Bool.and_eq_true, decide_eq_true_eq] at hB
    obtain ⟨hr, hf, hkn, hp, hB'⟩ := hB
    have hr' : k ∈ Region.ready md ops listed := by simpa using hr
    obtain ⟨_, o, ho, _⟩ := mem_ready.1 hr'
    rw [ho] at hp
    rw [List.filterMap_cons, ho] at h
    have hst : qOp P ops S k (wpQuiet P ops S (fun a' => wpTail P ops Q S n tl a' w) (l.filterMap fun i => ops[i]?)) a := by unfold qOp; simp only [ho]; exact h
    obtain ⟨v, hy, hK⟩ := yieldsIn_of_qOp ho hst
    rw [List.length_cons, Nat.add_right_comm]
    exact wpT_first ho (Region.noSelect_spec hsel) (fun c a w => hQ c a _ v w) hs hc hn hkn _ listed a w inv (Region.free_spec ho hf) hr' (yieldsIf_of_in hp hy) hS
      (wpT_perm hsel hQ hs hc hn hS l _ _ (inv.set hr' hkn) hB' hK)

def regionB (ops : Array Oper) (pre tl : List Nat) (n : Nat) : Bool :=
  Region.noSelect ops && (Region.sinkB .any ops n && (Region.chainB .any ops n && (decide (pre.length + tl.length + 1 = ops.size) && (decide (n < ops.size) && permB .any ops n tl pre (Array.replicate ops.size false)))))

theorem any_perm {l : List Oper} {a : Act} {w : World} (pre tl : List Nat) (n : Nat) (hB : regionB l.toArray pre tl n = true) (hQ : ∀ c a d v w, Q (.panic c) (Act.put a d v) w → Q (.panic c) a w) (hS : S w)
    (h : wpQuiet P l.toArray S (fun a' => wpTail P l.toArray Q S n tl a' w) (pre.filterMap fun i => l[i]?) a) :
    wpAny P .any l.toArray Q l.toArray.size (Array.replicate l.toArray.size false) a w := by
  simp only [regionB, Bool.and_eq_true, decide_eq_true_eq] at hB
  obtain ⟨h1, h2, h3, h4, h5, h6⟩ := hB
  have inv0 : HeadInv .any l.toArray n (Array.replicate l.toArray.size false) :=
    ⟨by simp, fun j oj _ hl => (by rw [getD_replicate_false] at hl; cases hl), fun t _ ht => getD_in (by simpa using ht) (getD_replicate_false _ _)⟩
  have := wpAny_of_T _ _ _ _ (wpT_perm h1 hQ h2 h3 h5 hS pre _ a inv0 h6 (by simpa using h))
  rw [h4] at this
  exact this

/-- A region that draws its order and ends in one store. -/
theorem region_perm {id : Nat} {l : List Oper} {a : Act} {w : World} (S : World → Prop) (pre tl : List Nat) (n : Nat) (hm : P.follows .mixedOrders = true) (hB : regionB l.toArray pre tl n = true) (hQ : ∀ c a d v w, Q (.panic c) (Act.put a d v) w → Q (.panic c) a w) (hS : S w.drew)
    (h : wpQuiet P l.toArray S (fun a' => wpTail P l.toArray Q S n tl a' w.drew) (pre.filterMap fun i => l[i]?) a) : (Code.region id l.toArray true).wp P Q a w :=
  wp_region_any hm (any_perm pre tl n hB hQ hS h)
theorem regionIn_perm {id ln m : Nat} {l : List Oper} {a : Act} {w : World} (S : World → Prop) (pre tl : List Nat) (n : Nat) (hm : P.follows .mixedOrders = true) (hB : regionB l.toArray pre tl n = true) (hL : ¬ LetsOut Q) (hd : ∀ o ∈ l, ∀ c, o.op ≠ .defer c) (hQ : ∀ c a d v w, Q (.panic c) (Act.put a d v) w → Q (.panic c) a w) (hS : S w.drew)
    (h : wpQuiet P l.toArray S (fun a' => wpTail P l.toArray Q S n tl a' w.drew) (pre.filterMap fun i => l[i]?) a) : (Code.region id l.toArray true).wpIn (Fence.wide.inRound ln) m P Q a w :=
  regionIn_any hm hL (by simpa using hd) (any_perm pre tl n hB hQ hS h)

/-- A world in which C holds: x if it does there, else w. -/
noncomputable def held (C : World → Prop) (w x : World) : World := by
  classical exact if C x then x else w
theorem held_spec {C : World → Prop} {w : World} (h : C w) (x : World) : C (held C w x) := by
  unfold held
  split
  · assumption
  · exact h
theorem held_of {C : World → Prop} {w x : World} (h : C x) : x = held C w x := by
  unfold held
  rw [if_pos h]
theorem held_eq {C : World → Prop} {w : World} (h : C w) : (fun w' => ∃ x, w' = held C w x) = C := by
  funext w'
  exact propext ⟨(fun ⟨x, hx⟩ => hx ▸ held_spec h x), fun hw => ⟨w', held_of hw⟩⟩
theorem region_held {id : Nat} {l : List Oper} {a : Act} {w : World} (C : World → Prop) (pre tl : List Nat) (n : Nat) (hm : P.follows .mixedOrders = true) (hB : regionB l.toArray pre tl n = true) (hQ : ∀ c a d v w, Q (.panic c) (Act.put a d v) w → Q (.panic c) a w) (hC : C w.drew)
    (h : wpQuiet P l.toArray (fun w' => ∃ x, w' = held C w.drew x) (fun a' => wpTail P l.toArray Q C n tl a' w.drew) (pre.filterMap fun i => l[i]?) a) : (Code.region id l.toArray true).wp P Q a w :=
  region_perm C pre tl n hm hB hQ hC (by rw [held_eq hC] at h; exact h)
theorem regionIn_held {id ln m : Nat} {l : List Oper} {a : Act} {w : World} (C : World → Prop) (pre tl : List Nat) (n : Nat) (hm : P.follows .mixedOrders = true) (hB : regionB l.toArray pre tl n = true) (hL : ¬ LetsOut Q) (hd : ∀ o ∈ l, ∀ c, o.op ≠ .defer c) (hQ : ∀ c a d v w, Q (.panic c) (Act.put a d v) w → Q (.panic c) a w) (hC : C w.drew)
    (h : wpQuiet P l.toArray (fun w' => ∃ x, w' = held C w.drew x) (fun a' => wpTail P l.toArray Q C n tl a' w.drew) (pre.filterMap fun i => l[i]?) a) : (Code.region id l.toArray true).wpIn (Fence.wide.inRound ln) m P Q a w :=
  regionIn_perm C pre tl n hm hB hL hd hQ hC (by rw [held_eq hC] at h; exact h)

theorem wpTail_cons {k : Nat} {tl : List Nat} {a : Act} {w : World} {o : Oper} (ho : ops[k]? = some o)
    (h : ∀ K : Act → World → Prop, Hid (∀ a w, S w → wpTail P ops Q S n tl a w → K a w) → if Region.wanted o (yielded ops a.tmps) = true then Oper.wp P o a w K Q else K (a.put o.dst undef) w) : wpTail P ops Q S n (k :: tl) a w :=
  wpOp_step ho (fun K hK => h K (Lib.hid fun a w hS hT => hK a w ⟨hS, hT⟩))
theorem wpTail_nil {a : Act} {w : World} {o : Oper} (ho : ops[n]? = some o)
    (h : ∀ K : Act → World → Prop, Hid (∀ a w, Q .normal a w → K a w) → if Region.wanted o (yielded ops a.tmps) = true then Oper.wp P o a w K Q else K (a.put o.dst undef) w) : wpTail P ops Q S n [] a w :=
  wpOp_step ho (fun K hK => h K (Lib.hid hK))
end

theorem wp_append_own {P : Program} {o : Oper} {a : Act} {w : World} {Q : Exit → Act → World → Prop} {K : Act → World → Prop} (s x : Operand) (t : TypeId)
    (ho : o.op = .call { callee := .builtin .append, args := #[s, x], argTypes := #[t, t] })
    (base : Nat) (e : TypeId) (i : TypeInfo) (z : Value) (size bytes : Nat) (ht : P.underlying t = some (.slice e)) (hi : P.info? e = some i) (hz : i.zero = some z)
    (hsize : i.size = size) (hby : i.bytes = bytes) (hzs : z.cells.size = size) (hsz : 0 < size)
    (v : Value) (n : Nat) (xs : List Value) (hs : a.eval s = v) (hown : w.ownsRow base e size v n xs)
    (ad : Addr) (m c : Nat) (news : List Value) (hx : a.eval x = .slice (some ad) m c) (hl : news.length = m * size) (hnews : ∀ j u, news[j]? = some u → w.cell? (ad.add j) = some u) (h1 : ∀ u ∈ news, u.oneCell' = true)
    (h63 : n + m ≤ maxLen) (hbytes : (n + m) * bytes ≤ 140737488355328) (hbase : base ≤ w.heap.size)
    (h : ∀ v' w', w'.ownsRow base e size v' (n + m) (xs ++ news) → w.grownBy w' v.ownBlock → (v'.ownBlock = v.ownBlock ∨ v'.ownBlock = some w.heap.size) → K (a.put o.dst v') w') : o.wp P a w K Q := by
  obtain ⟨v', w', hr, h2, h3, h4, h5⟩ := run_append_own_at (P := P) w base t o.type e i z size bytes ht hi hz hsize hby hzs hsz v n xs hown ad m c news hl hnews h1 h63 hbytes hbase
  unfold Oper.wp execOp
  simp only [ho, resolve, invoke, builtin, Sem.run_bind, Sem.run_pure, Result.andThen_ok, List.map_toArray, List.map_cons, List.map_nil, hs, hx, hr]
  exact h v' w' h2 h3 h5
end Go.Proofs.Ytcngnfnljkkjgaa
