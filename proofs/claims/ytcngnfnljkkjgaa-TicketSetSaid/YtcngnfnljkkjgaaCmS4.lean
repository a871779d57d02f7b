/-
As TkSk3, with two operations that come in either order, each with what follows.
-/
import Derived.Test.YtcngnfnljkkjgaaCmSk
namespace Go.Proofs.Ytcngnfnljkkjgaa
open Go.RowKit

inductive Sk4 where
  | done : Sk4
  | one : Nat → Sk4 → Sk4
  | qs : List Nat → Sk4 → Sk4
  | two : Nat → Sk4 → Nat → Sk4 → Sk4
def Sk4.len : Sk4 → Nat
  | .done => 0
  | .one _ s => s.len + 1
  | .qs l s => l.length + s.len
  | .two _ s _ _ => s.len + 1
section
variable {P : Program} {ops : Array Oper} {Q : Exit → Act → World → Prop} {S : World → Prop} {n : Nat}
def wpSk4 (P : Program) (ops : Array Oper) (Q : Exit → Act → World → Prop) (S : World → Prop) (n : Nat) : Sk4 → Act → World → Prop
  | .done, a, w => wpOp P ops Q n (Q .normal) a w
  | .one k s, a, w => wpOp P ops Q k (fun a' w' => S w' ∧ wpSk4 P ops Q S n s a' w') a w
  | .qs l s, a, w => wpQuiet P ops S (fun a' => wpSk4 P ops Q S n s a' w) (l.filterMap fun i => ops[i]?) a
  | .two i s j s', a, w => wpOp P ops Q i (fun a' w' => S w' ∧ wpSk4 P ops Q S n s a' w') a w ∧ wpOp P ops Q j (fun a' w' => S w' ∧ wpSk4 P ops Q S n s' a' w') a w
end

def permT4 (ops : List Oper) (tab : List (List Nat)) (n : Nat) (c : Nat → Bool) : List Nat → Nat → Bool
  | [], m => c m
  | k :: l, m => (decide (readyT m 0 tab = [k]) || ((readyT m 0 tab).contains k && Region.free .any ops.toArray (bitsA ops.length m) k)) && (decide (k < n) && ((match ops[k]? with | some o => plainOp3 o.op | none => false) && permT4 ops tab n c l (m ||| 2 ^ k)))
def skT4 (ops : List Oper) (tab : List (List Nat)) (n : Nat) : Sk4 → Nat → Bool
  | .done, m => decide (readyT m 0 tab = [n]) && decide (readyT (m ||| 2 ^ n) 0 tab = [])
  | .one k s, m => decide (readyT m 0 tab = [k]) && (decide (k < n) && skT4 ops tab n s (m ||| 2 ^ k))
  | .qs l s, m => permT4 ops tab n (skT4 ops tab n s) l m
  | .two i s j s', m => decide (readyT m 0 tab = [i, j]) && (decide (i < n) && (decide (j < n) && (decide (s.len = s'.len) && (skT4 ops tab n s (m ||| 2 ^ i) && skT4 ops tab n s' (m ||| 2 ^ j)))))
section
variable {P : Program} {ops : List Oper} {Q : Exit → Act → World → Prop} {S : World → Prop} {n : Nat}
theorem wpT_permT4 {w : World} {f : Nat} {c : Nat → Bool} {K : Act → Prop} (hT : inT ops.length (tabOf .any ops) = true) (hsel : Region.noSelect ops.toArray = true) (hQ : ∀ c a d v w, Q (.panic c) (Act.put a d v) w → Q (.panic c) a w) (hs : Region.sinkB .any ops.toArray n = true) (hc : Region.chainB .any ops.toArray n = true) (hn : n < ops.length) (hS : S w)
    (hK : ∀ m a, HeadInv .any ops.toArray n (bitsA ops.length m) → c m = true → K a → wpT P .any ops.toArray Q S n f (bitsA ops.length m) a w) :
    ∀ (pre : List Nat) (m : Nat) (a : Act), HeadInv .any ops.toArray n (bitsA ops.length m) → permT4 ops (tabOf .any ops) n c pre m = true →
      wpQuiet P ops.toArray S K (pre.filterMap fun i => ops.toArray[i]?) a → wpT P .any ops.toArray Q S n (pre.length + f) (bitsA ops.length m) a w
  | [], m, a, inv, hB, h => by
    rw [List.length_nil, Nat.zero_add]
    exact hK m a inv hB h
  | k :: l, m, a, inv, hB, h => by
    simp only [permT4, Bool.and_eq_true, decide_eq_true_eq, Bool.or_eq_true] at hB
    obtain ⟨hor, hkn, hp, hB'⟩ := hB
    rw [← ready_bits _ hT] at hor
    have hr' : k ∈ Region.ready .any ops.toArray (bitsA ops.length m) := by
      rcases hor with h1 | h1
      · rw [h1]; simp
      · simpa using h1.1
    obtain ⟨_, o, ho, _⟩ := mem_ready.1 hr'
    have ho' : ops[k]? = some o := by simpa using ho
    rw [ho'] at hp
    rw [List.filterMap_cons, ho] at h
    have hst : qOp P ops.toArray S k (wpQuiet P ops.toArray S K (l.filterMap fun i => ops.toArray[i]?)) a := by unfold qOp; simp only [ho]; exact h
    obtain ⟨v, hy, hK'⟩ := yieldsIn_of_qOp ho hst
    have hinv := inv.set hr' hkn
    rw [bitsA_set] at hinv
    have ih := wpT_permT4 hT hsel hQ hs hc hn hS hK l _ _ hinv hB' hK'
    rw [← bitsA_set] at ih
    rw [List.length_cons, Nat.add_right_comm]
    have hyi := yieldsIf_of_in3 hp hy
    rcases hor with h1 | h1
    · refine ⟨by rw [h1]; simp, fun i hi => ?_⟩
      rw [h1] at hi
      have hik : i = k := by simpa using hi
      subst hik
      exact ⟨hkn, hyi.wpOp ho hS ⟨hS, ih⟩⟩
    · exact wpT_first ho (Region.noSelect_spec hsel) (fun c a w => hQ c a _ v w) hs hc (by simpa using hn) hkn _ _ a w inv (Region.free_spec ho h1.2) hr' hyi hS ih

theorem wpT_sk4 (hT : inT ops.length (tabOf .any ops) = true) (hsel : Region.noSelect ops.toArray = true) (hQ : ∀ c a d v w, Q (.panic c) (Act.put a d v) w → Q (.panic c) a w) (hs : Region.sinkB .any ops.toArray n = true) (hc : Region.chainB .any ops.toArray n = true) (hn : n < ops.length) :
    ∀ (s : Sk4) (m : Nat) (a : Act) (w : World), HeadInv .any ops.toArray n (bitsA ops.length m) → S w → skT4 ops (tabOf .any ops) n s m = true → wpSk4 P ops.toArray Q S n s a w → wpT P .any ops.toArray Q S n s.len (bitsA ops.length m) a w
  | .done, m, a, w, _, _, hB, h => by
    simp only [skT4, Bool.and_eq_true, decide_eq_true_eq] at hB
    rw [← ready_bits _ hT, ← ready_bits _ hT] at hB
    refine ⟨hB.1, ?_, h⟩
    rw [bitsA_set]
    exact hB.2
  | .one k s, m, a, w, inv, _, hB, h => by
    simp only [skT4, Bool.and_eq_true, decide_eq_true_eq] at hB
    obtain ⟨h1, h2, h3⟩ := hB
    rw [← ready_bits _ hT] at h1
    refine ⟨by rw [h1]; simp, fun i hi => ?_⟩
    have hi' := hi
    rw [h1] at hi
    have hik : i = k := by simpa using hi
    subst hik
    have hinv := inv.set hi' h2
    rw [bitsA_set] at hinv ⊢
    exact ⟨h2, wpOp_mono (fun a' w' h' => ⟨h'.1, wpT_sk4 hT hsel hQ hs hc hn s _ a' w' hinv h'.1 h3 h'.2⟩) h⟩
  | .qs l s, m, a, w, inv, hS, hB, h =>
    wpT_permT4 hT hsel hQ hs hc hn hS (fun m a inv hB h => wpT_sk4 hT hsel hQ hs hc hn s m a w inv hS hB h) l m a inv hB h
  | .two i s j s', m, a, w, inv, hS, hB, h => by
    simp only [skT4, Bool.and_eq_true, decide_eq_true_eq] at hB
    obtain ⟨h1, h2, h3, h4, h5, h6⟩ := hB
    rw [← ready_bits _ hT] at h1
    refine ⟨by rw [h1]; simp, fun q hq => ?_⟩
    have hq' := hq
    rw [h1] at hq
    have hor : q = i ∨ q = j := by simpa using hq
    rcases hor with rfl | rfl
    · have hinv := inv.set hq' h2
      rw [bitsA_set] at hinv ⊢
      exact ⟨h2, wpOp_mono (fun a' w' h' => ⟨h'.1, wpT_sk4 hT hsel hQ hs hc hn s _ a' w' hinv h'.1 h5 h'.2⟩) h.1⟩
    · have hinv := inv.set hq' h3
      rw [bitsA_set] at hinv ⊢
      refine ⟨h3, wpOp_mono (fun a' w' h' => ⟨h'.1, ?_⟩) h.2⟩
      have := wpT_sk4 hT hsel hQ hs hc hn s' _ a' w' hinv h'.1 h6 h'.2
      rwa [← h4] at this

def regionK4 (ops : List Oper) (tab : List (List Nat)) (s : Sk4) (n : Nat) : Bool :=
  Region.noSelect ops.toArray && (Region.sinkB .any ops.toArray n && (Region.chainB .any ops.toArray n && (decide (s.len + 1 = tab.length) && (decide (n < tab.length) && (inT tab.length tab && skT4 ops tab n s 0)))))

theorem region_sk4 {id : Nat} {l : List Oper} {a : Act} {w : World} (C : World → Prop) (tab : List (List Nat)) (s : Sk4) (n : Nat) (hm : P.follows .mixedOrders = true) (htab : tabOf .any l = tab) (hB : regionK4 l tab s n = true) (hC : C w.drew)
    (h : wpSk4 P l.toArray (NoPanic Q) C n s a w.drew) : (Code.region id l.toArray true).wp P Q a w := by
  subst htab
  have hlen : (tabOf .any l).length = l.length := by simp [tabOf]
  simp only [regionK4, Bool.and_eq_true, decide_eq_true_eq, hlen] at hB
  obtain ⟨h1, h2, h3, h4, h5, hT, h6⟩ := hB
  have inv0 : HeadInv .any l.toArray n (Array.replicate l.toArray.size false) :=
    ⟨by simp, fun j oj _ hl => (by rw [getD_replicate_false] at hl; cases hl), fun t _ ht => getD_in (by simpa using ht) (getD_replicate_false _ _)⟩
  rw [List.size_toArray, ← bitsA_zero] at inv0
  have := wpAny_of_T _ _ _ _ (wpT_sk4 (Q := NoPanic Q) hT h1 (fun _ _ _ _ _ h => h) h2 h3 h5 s 0 a w.drew inv0 hC h6 h)
  rw [h4, bitsA_zero] at this
  refine wp_region_noPanic (wp_region_any hm ?_)
  rw [List.size_toArray]
  exact this
end

section
variable {P : Program} {ops : Array Oper} {Q : Exit → Act → World → Prop} {S : World → Prop} {n : Nat}
theorem wpSk4_one {k : Nat} {s : Sk4} {a : Act} {w : World} {o : Oper} (ho : ops[k]? = some o)
    (h : ∀ K : Act → World → Prop, Hid (∀ a w, S w → wpSk4 P ops Q S n s a w → K a w) → if Region.wanted o (yielded ops a.tmps) = true then Oper.wp P o a w K Q else K (a.put o.dst undef) w) : wpSk4 P ops Q S n (.one k s) a w :=
  wpOp_step ho (fun K hK => h K (Lib.hid fun a w hS hT => hK a w ⟨hS, hT⟩))
theorem wpSk4_two {i j : Nat} {s s' : Sk4} {a : Act} {w : World} {o o' : Oper} (ho : ops[i]? = some o) (ho' : ops[j]? = some o')
    (h : ∀ K : Act → World → Prop, Hid (∀ a w, S w → wpSk4 P ops Q S n s a w → K a w) → if Region.wanted o (yielded ops a.tmps) = true then Oper.wp P o a w K Q else K (a.put o.dst undef) w)
    (h' : ∀ K : Act → World → Prop, Hid (∀ a w, S w → wpSk4 P ops Q S n s' a w → K a w) → if Region.wanted o' (yielded ops a.tmps) = true then Oper.wp P o' a w K Q else K (a.put o'.dst undef) w) : wpSk4 P ops Q S n (.two i s j s') a w :=
  ⟨wpOp_step ho (fun K hK => h K (Lib.hid fun a w hS hT => hK a w ⟨hS, hT⟩)), wpOp_step ho' (fun K hK => h' K (Lib.hid fun a w hS hT => hK a w ⟨hS, hT⟩))⟩
theorem wpSk4_done {a : Act} {w : World} {o : Oper} (ho : ops[n]? = some o)
    (h : ∀ K : Act → World → Prop, Hid (∀ a w, Q .normal a w → K a w) → if Region.wanted o (yielded ops a.tmps) = true then Oper.wp P o a w K Q else K (a.put o.dst undef) w) : wpSk4 P ops Q S n .done a w :=
  wpOp_step ho (fun K hK => h K (Lib.hid hK))
theorem wpSk4_qs {C : World → Prop} {l : List Nat} {s : Sk4} {a : Act} {w w0 : World} (hC : C w0)
    (h : wpQuiet P ops (fun w' => ∃ x, w' = held C w0 x) (fun a' => wpSk4 P ops Q C n s a' w) (l.filterMap fun i => ops[i]?) a) : wpSk4 P ops Q C n (.qs l s) a w := by
  rw [held_eq hC] at h
  exact h
end
end Go.Proofs.Ytcngnfnljkkjgaa
