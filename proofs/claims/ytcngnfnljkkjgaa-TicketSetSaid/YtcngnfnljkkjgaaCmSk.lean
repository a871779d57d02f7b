/-
As TkSk, with conversions and the builtins min and max among the operations that yield a value.
-/
import Derived.Test.YtcngnfnljkkjgaaCmJ
namespace Go.Proofs.Ytcngnfnljkkjgaa
open Go.RowKit

def minMax : Callee → Bool
  | .builtin .min => true
  | .builtin .max => true
  | _ => false
def plainOp3 : Op → Bool
  | .convert .. => true
  | .call c => minMax c.callee
  | o => plainOp2 o
theorem plain_value3 {P : Program} {o : Oper} {ρ : Operand → Value} {w w' : World} {n : Next} (hp : plainOp3 o.op = true) (h : (execOp ρ o).run P w = .ok n w') : ∃ u, n = .value u := by
  by_cases h1 : plainOp2 o.op = true
  · exact plain_value2 h1 h
  · unfold execOp at h
    cases ho : o.op <;> rw [ho] at hp h h1 <;> first | (exact absurd hp h1) | skip
    case convert => exact value_of_bind h
    case call c =>
      obtain ⟨callee, args, argTypes⟩ := c
      simp only [plainOp3] at hp
      cases callee <;> simp only [minMax, Bool.false_eq_true] at hp
      rename_i b
      cases b <;> simp only [Bool.false_eq_true] at hp
      all_goals
        simp only [resolve, invoke, builtin, Sem.run_bind, Sem.run_pure, Result.andThen_ok] at h
        exact andThen_value (fun a w1 h1 => by simp at h1; exact ⟨_, h1.1.symm⟩) h
section
variable {P : Program} {ops : Array Oper} {Q : Exit → Act → World → Prop} {md : Region.Mode} {S : World → Prop} {n : Nat}
theorem yieldsIf_of_in3 {o : Oper} {v : Value} {a : Act} (hp : plainOp3 o.op = true) (hy : YieldsIn P ops S o v a) : YieldsIf P ops S o v a := by
  refine hy.imp (fun ⟨hw, hv⟩ => ⟨hw, fun w hS => ?_⟩) id
  have h := hv w hS
  unfold Oper.quietAt at h
  cases hr : (execOp a.eval o).run P w with
  | ok x w' =>
    obtain ⟨u, rfl⟩ := plain_value3 hp hr
    rw [hr] at h
    obtain ⟨rfl, rfl⟩ := h
    rfl
  | halt x w' => rw [hr] at h; exact h.elim
end

def permT3 (ops : List Oper) (tab : List (List Nat)) (n : Nat) (c : Nat → Bool) : List Nat → Nat → Bool
  | [], m => c m
  | k :: l, m => (decide (readyT m 0 tab = [k]) || ((readyT m 0 tab).contains k && Region.free .any ops.toArray (bitsA ops.length m) k)) && (decide (k < n) && ((match ops[k]? with | some o => plainOp3 o.op | none => false) && permT3 ops tab n c l (m ||| 2 ^ k)))
def skT3 (ops : List Oper) (tab : List (List Nat)) (n : Nat) : Sk → Nat → Bool
  | .done, m => decide (readyT m 0 tab = [n]) && decide (readyT (m ||| 2 ^ n) 0 tab = [])
  | .one k s, m => decide (readyT m 0 tab = [k]) && (decide (k < n) && skT3 ops tab n s (m ||| 2 ^ k))
  | .qs l s, m => permT3 ops tab n (skT3 ops tab n s) l m
section
variable {P : Program} {ops : List Oper} {Q : Exit → Act → World → Prop} {S : World → Prop} {n : Nat}
theorem wpT_permT3 {w : World} {f : Nat} {c : Nat → Bool} {K : Act → Prop} (hT : inT ops.length (tabOf .any ops) = true) (hsel : Region.noSelect ops.toArray = true) (hQ : ∀ c a d v w, Q (.panic c) (Act.put a d v) w → Q (.panic c) a w) (hs : Region.sinkB .any ops.toArray n = true) (hc : Region.chainB .any ops.toArray n = true) (hn : n < ops.length) (hS : S w)
    (hK : ∀ m a, HeadInv .any ops.toArray n (bitsA ops.length m) → c m = true → K a → wpT P .any ops.toArray Q S n f (bitsA ops.length m) a w) :
    ∀ (pre : List Nat) (m : Nat) (a : Act), HeadInv .any ops.toArray n (bitsA ops.length m) → permT3 ops (tabOf .any ops) n c pre m = true →
      wpQuiet P ops.toArray S K (pre.filterMap fun i => ops.toArray[i]?) a → wpT P .any ops.toArray Q S n (pre.length + f) (bitsA ops.length m) a w
  | [], m, a, inv, hB, h => by
    rw [List.length_nil, Nat.zero_add]
    exact hK m a inv hB h
  | k :: l, m, a, inv, hB, h => by
    simp only [permT3, Bool.and_eq_true, decide_eq_true_eq, Bool.or_eq_true] at hB
    obtain ⟨hor, hkn, hp, hB'⟩ := hB
    rw [← ready_bits _ hT] at hor
    have hr' : k ∈ Region.ready .any ops.toArray (bitsA ops.length m) := by
      rcases hor with h1 | h1
      · rw [h1]; simp
      · simpa using h1.1
    obtain ⟨_, o, ho, _⟩ := mem_ready.1 hr'
    have ho' : ops[k]? = some o := by simpa using ho
    rw [ho'] at hp
    rw [List.filterMap_cons, ho] at h
    have hst : qOp P ops.toArray S k (wpQuiet P ops.toArray S K (l.filterMap fun i => ops.toArray[i]?)) a := by unfold qOp; simp only [ho]; exact h
    obtain ⟨v, hy, hK'⟩ := yieldsIn_of_qOp ho hst
    have hinv := inv.set hr' hkn
    rw [bitsA_set] at hinv
    have ih := wpT_permT3 hT hsel hQ hs hc hn hS hK l _ _ hinv hB' hK'
    rw [← bitsA_set] at ih
    rw [List.length_cons, Nat.add_right_comm]
    have hyi := yieldsIf_of_in3 hp hy
    rcases hor with h1 | h1
    · refine ⟨by rw [h1]; simp, fun i hi => ?_⟩
      rw [h1] at hi
      have hik : i = k := by simpa using hi
      subst hik
      exact ⟨hkn, hyi.wpOp ho hS ⟨hS, ih⟩⟩
    · exact wpT_first ho (Region.noSelect_spec hsel) (fun c a w => hQ c a _ v w) hs hc (by simpa using hn) hkn _ _ a w inv (Region.free_spec ho h1.2) hr' hyi hS ih

theorem wpT_sk3 (hT : inT ops.length (tabOf .any ops) = true) (hsel : Region.noSelect ops.toArray = true) (hQ : ∀ c a d v w, Q (.panic c) (Act.put a d v) w → Q (.panic c) a w) (hs : Region.sinkB .any ops.toArray n = true) (hc : Region.chainB .any ops.toArray n = true) (hn : n < ops.length) :
    ∀ (s : Sk) (m : Nat) (a : Act) (w : World), HeadInv .any ops.toArray n (bitsA ops.length m) → S w → skT3 ops (tabOf .any ops) n s m = true → wpSk P ops.toArray Q S n s a w → wpT P .any ops.toArray Q S n s.len (bitsA ops.length m) a w
  | .done, m, a, w, _, _, hB, h => by
    simp only [skT3, Bool.and_eq_true, decide_eq_true_eq] at hB
    rw [← ready_bits _ hT, ← ready_bits _ hT] at hB
    refine ⟨hB.1, ?_, h⟩
    rw [bitsA_set]
    exact hB.2
  | .one k s, m, a, w, inv, _, hB, h => by
    simp only [skT3, Bool.and_eq_true, decide_eq_true_eq] at hB
    obtain ⟨h1, h2, h3⟩ := hB
    rw [← ready_bits _ hT] at h1
    refine ⟨by rw [h1]; simp, fun i hi => ?_⟩
    have hi' := hi
    rw [h1] at hi
    have hik : i = k := by simpa using hi
    subst hik
    have hinv := inv.set hi' h2
    rw [bitsA_set] at hinv ⊢
    exact ⟨h2, wpOp_mono (fun a' w' h' => ⟨h'.1, wpT_sk3 hT hsel hQ hs hc hn s _ a' w' hinv h'.1 h3 h'.2⟩) h⟩
  | .qs l s, m, a, w, inv, hS, hB, h =>
    wpT_permT3 hT hsel hQ hs hc hn hS (fun m a inv hB h => wpT_sk3 hT hsel hQ hs hc hn s m a w inv hS hB h) l m a inv hB h

def regionK3 (ops : List Oper) (tab : List (List Nat)) (s : Sk) (n : Nat) : Bool :=
  Region.noSelect ops.toArray && (Region.sinkB .any ops.toArray n && (Region.chainB .any ops.toArray n && (decide (s.len + 1 = tab.length) && (decide (n < tab.length) && (inT tab.length tab && skT3 ops tab n s 0)))))

theorem region_sk3 {id : Nat} {l : List Oper} {a : Act} {w : World} (C : World → Prop) (tab : List (List Nat)) (s : Sk) (n : Nat) (hm : P.follows .mixedOrders = true) (htab : tabOf .any l = tab) (hB : regionK3 l tab s n = true) (hC : C w.drew)
    (h : wpSk P l.toArray (NoPanic Q) C n s a w.drew) : (Code.region id l.toArray true).wp P Q a w := by
  subst htab
  have hlen : (tabOf .any l).length = l.length := by simp [tabOf]
  simp only [regionK3, Bool.and_eq_true, decide_eq_true_eq, hlen] at hB
  obtain ⟨h1, h2, h3, h4, h5, hT, h6⟩ := hB
  have inv0 : HeadInv .any l.toArray n (Array.replicate l.toArray.size false) :=
    ⟨by simp, fun j oj _ hl => (by rw [getD_replicate_false] at hl; cases hl), fun t _ ht => getD_in (by simpa using ht) (getD_replicate_false _ _)⟩
  rw [List.size_toArray, ← bitsA_zero] at inv0
  have := wpAny_of_T _ _ _ _ (wpT_sk3 (Q := NoPanic Q) hT h1 (fun _ _ _ _ _ h => h) h2 h3 h5 s 0 a w.drew inv0 hC h6 h)
  rw [h4, bitsA_zero] at this
  refine wp_region_noPanic (wp_region_any hm ?_)
  rw [List.size_toArray]
  exact this
end
end Go.Proofs.Ytcngnfnljkkjgaa
