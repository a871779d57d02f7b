/-
A region that draws its order, of which two operations may come in either order behind those that are met first.
-/
import Derived.Test.YtcngnfnljkkjgaaTkAns7
namespace Go.Proofs.Ytcngnfnljkkjgaa
open Go.RowKit

inductive Sch where
  | done : Sch
  | one : Nat → Sch → Sch
  | two : Nat → Nat → Sch → Sch → Sch
def Sch.len : Sch → Nat
  | .done => 0
  | .one _ s => s.len + 1
  | .two _ _ s _ => s.len + 1
def schB (md : Region.Mode) (ops : Array Oper) (n : Nat) : Sch → Array Bool → Bool
  | .done, listed => decide (Region.ready md ops listed = [n]) && decide (Region.ready md ops (listed.setIfInBounds n true) = [])
  | .one k s, listed => decide (Region.ready md ops listed = [k]) && (decide (k < n) && schB md ops n s (listed.setIfInBounds k true))
  | .two j k s t, listed => decide (Region.ready md ops listed = [j, k]) && (decide (j < n) && (decide (k < n) && (decide (s.len = t.len) && (schB md ops n s (listed.setIfInBounds j true) && schB md ops n t (listed.setIfInBounds k true)))))
def wpSch (P : Program) (ops : Array Oper) (Q : Exit → Act → World → Prop) (S : World → Prop) (n : Nat) : Sch → Act → World → Prop
  | .done, a, w => wpOp P ops Q n (Q .normal) a w
  | .one k s, a, w => wpOp P ops Q k (fun a' w' => S w' ∧ wpSch P ops Q S n s a' w') a w
  | .two j k s t, a, w => wpOp P ops Q j (fun a' w' => S w' ∧ wpSch P ops Q S n s a' w') a w ∧ wpOp P ops Q k (fun a' w' => S w' ∧ wpSch P ops Q S n t a' w') a w
def permS (md : Region.Mode) (ops : Array Oper) (n : Nat) (s : Sch) : List Nat → Array Bool → Bool
  | [], listed => schB md ops n s listed
  | k :: l, listed => (Region.ready md ops listed).contains k && (Region.free md ops listed k && (decide (k < n) && ((match ops[k]? with | some o => plainOp o.op | none => false) && permS md ops n s l (listed.setIfInBounds k true))))

section
variable {P : Program} {ops : Array Oper} {Q : Exit → Act → World → Prop} {md : Region.Mode} {S : World → Prop} {n : Nat}
theorem wpT_sch : ∀ (s : Sch) (listed : Array Bool) (a : Act) (w : World), schB md ops n s listed = true → wpSch P ops Q S n s a w → wpT P md ops Q S n s.len listed a w
  | .done, listed, a, w, hB, h => by
    simp only [schB, Bool.and_eq_true, decide_eq_true_eq] at hB
    exact ⟨hB.1, hB.2, h⟩
  | .one k s, listed, a, w, hB, h => by
    simp only [schB, Bool.and_eq_true, decide_eq_true_eq] at hB
    obtain ⟨h1, h2, h3⟩ := hB
    refine ⟨by rw [h1]; simp, fun i hi => ?_⟩
    rw [h1] at hi
    have hik : i = k := by simpa using hi
    subst hik
    exact ⟨h2, wpOp_mono (fun a' w' h' => ⟨h'.1, wpT_sch s _ a' w' h3 h'.2⟩) h⟩
  | .two j k s t, listed, a, w, hB, h => by
    simp only [schB, Bool.and_eq_true, decide_eq_true_eq] at hB
    obtain ⟨h1, h2, h3, h4, h5, h6⟩ := hB
    refine ⟨by rw [h1]; simp, fun i hi => ?_⟩
    rw [h1] at hi
    simp only [List.mem_cons, List.not_mem_nil, or_false] at hi
    rcases hi with rfl | rfl
    · exact ⟨h2, wpOp_mono (fun a' w' h' => ⟨h'.1, wpT_sch s _ a' w' h5 h'.2⟩) h.1⟩
    · refine ⟨h3, wpOp_mono (fun a' w' h' => ⟨h'.1, ?_⟩) h.2⟩
      rw [h4]
      exact wpT_sch t _ a' w' h6 h'.2

theorem wpT_permS {s : Sch} {w : World} (hsel : Region.noSelect ops = true) (hQ : ∀ c a d v w, Q (.panic c) (Act.put a d v) w → Q (.panic c) a w) (hs : Region.sinkB md ops n = true) (hc : Region.chainB md ops n = true) (hn : n < ops.size) (hS : S w) :
    ∀ (pre : List Nat) (listed : Array Bool) (a : Act), HeadInv md ops n listed → permS md ops n s pre listed = true →
      wpQuiet P ops S (fun a' => wpSch P ops Q S n s a' w) (pre.filterMap fun i => ops[i]?) a → wpT P md ops Q S n (pre.length + s.len) listed a w
  | [], listed, a, _, hB, h => by
    rw [List.length_nil, Nat.zero_add]
    exact wpT_sch s listed a w hB h
  | k :: l, listed, a, inv, hB, h => by
    simp only [permS, Bool.and_eq_true, decide_eq_true_eq] at hB
    obtain ⟨hr, hf, hkn, hp, hB'⟩ := hB
    have hr' : k ∈ Region.ready md ops listed := by simpa using hr
    obtain ⟨_, o, ho, _⟩ := mem_ready.1 hr'
    rw [ho] at hp
    rw [List.filterMap_cons, ho] at h
    have hst : qOp P ops S k (wpQuiet P ops S (fun a' => wpSch P ops Q S n s a' w) (l.filterMap fun i => ops[i]?)) a := by unfold qOp; simp only [ho]; exact h
    obtain ⟨v, hy, hK⟩ := yieldsIn_of_qOp ho hst
    rw [List.length_cons, Nat.add_right_comm]
    exact wpT_first ho (Region.noSelect_spec hsel) (fun c a w => hQ c a _ v w) hs hc hn hkn _ listed a w inv (Region.free_spec ho hf) hr' (yieldsIf_of_in hp hy) hS
      (wpT_permS hsel hQ hs hc hn hS l _ _ (inv.set hr' hkn) hB' hK)

def regionS (ops : Array Oper) (pre : List Nat) (s : Sch) (n : Nat) : Bool :=
  Region.noSelect ops && (Region.sinkB .any ops n && (Region.chainB .any ops n && (decide (pre.length + s.len + 1 = ops.size) && (decide (n < ops.size) && permS .any ops n s pre (Array.replicate ops.size false)))))

theorem region_sched {id : Nat} {l : List Oper} {a : Act} {w : World} (C : World → Prop) (pre : List Nat) (s : Sch) (n : Nat) (hm : P.follows .mixedOrders = true) (hB : regionS l.toArray pre s n = true) (hC : C w.drew)
    (h : wpQuiet P l.toArray (fun w' => ∃ x, w' = held C w.drew x) (fun a' => wpSch P l.toArray (NoPanic Q) C n s a' w.drew) (pre.filterMap fun i => l[i]?) a) : (Code.region id l.toArray true).wp P Q a w := by
  rw [held_eq hC] at h
  simp only [regionS, Bool.and_eq_true, decide_eq_true_eq] at hB
  obtain ⟨h1, h2, h3, h4, h5, h6⟩ := hB
  have inv0 : HeadInv .any l.toArray n (Array.replicate l.toArray.size false) :=
    ⟨by simp, fun j oj _ hl => (by rw [getD_replicate_false] at hl; cases hl), fun t _ ht => getD_in (by simpa using ht) (getD_replicate_false _ _)⟩
  have := wpAny_of_T _ _ _ _ (wpT_permS (Q := NoPanic Q) h1 (fun _ _ _ _ _ h => h) h2 h3 h5 hC pre _ a inv0 h6 (by simpa using h))
  rw [h4] at this
  exact wp_region_noPanic (wp_region_any hm this)

theorem wpSch_one {k : Nat} {s : Sch} {a : Act} {w : World} {o : Oper} (ho : ops[k]? = some o)
    (h : ∀ K : Act → World → Prop, Hid (∀ a w, S w → wpSch P ops Q S n s a w → K a w) → if Region.wanted o (yielded ops a.tmps) = true then Oper.wp P o a w K Q else K (a.put o.dst undef) w) : wpSch P ops Q S n (.one k s) a w :=
  wpOp_step ho (fun K hK => h K (Lib.hid fun a w hS hT => hK a w ⟨hS, hT⟩))
theorem wpSch_two {j k : Nat} {s t : Sch} {a : Act} {w : World} {o p : Oper} (ho : ops[j]? = some o) (hp : ops[k]? = some p)
    (h1 : ∀ K : Act → World → Prop, Hid (∀ a w, S w → wpSch P ops Q S n s a w → K a w) → if Region.wanted o (yielded ops a.tmps) = true then Oper.wp P o a w K Q else K (a.put o.dst undef) w)
    (h2 : ∀ K : Act → World → Prop, Hid (∀ a w, S w → wpSch P ops Q S n t a w → K a w) → if Region.wanted p (yielded ops a.tmps) = true then Oper.wp P p a w K Q else K (a.put p.dst undef) w) : wpSch P ops Q S n (.two j k s t) a w :=
  ⟨wpOp_step ho (fun K hK => h1 K (Lib.hid fun a w hS hT => hK a w ⟨hS, hT⟩)), wpOp_step hp (fun K hK => h2 K (Lib.hid fun a w hS hT => hK a w ⟨hS, hT⟩))⟩
theorem wpSch_done {a : Act} {w : World} {o : Oper} (ho : ops[n]? = some o)
    (h : ∀ K : Act → World → Prop, Hid (∀ a w, Q .normal a w → K a w) → if Region.wanted o (yielded ops a.tmps) = true then Oper.wp P o a w K Q else K (a.put o.dst undef) w) : wpSch P ops Q S n .done a w :=
  wpOp_step ho (fun K hK => h K (Lib.hid hK))
end
end Go.Proofs.Ytcngnfnljkkjgaa
