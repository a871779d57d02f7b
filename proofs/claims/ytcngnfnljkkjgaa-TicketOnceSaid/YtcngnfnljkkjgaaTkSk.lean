/-
A region that draws its order, met in a mixed way: operations that yield one value in every world of a class, and between them operations that come alone.
-/
import Derived.Test.YtcngnfnljkkjgaaTkSched
namespace Go.Proofs.Ytcngnfnljkkjgaa
open Go.RowKit

def plainOp2 : Op → Bool
  | .pick .. => true
  | o => plainOp o
theorem plain_value2 {P : Program} {o : Oper} {ρ : Operand → Value} {w w' : World} {n : Next} (hp : plainOp2 o.op = true) (h : (execOp ρ o).run P w = .ok n w') : ∃ u, n = .value u := by
  by_cases h1 : plainOp o.op = true
  · exact plain_value h1 h
  · unfold execOp at h
    cases ho : o.op <;> rw [ho] at hp h h1 <;> first | (exact absurd hp h1) | skip
    all_goals first | exact value_of_bind h | (simp only [Sem.run_bind] at h; exact andThen_value (fun a w1 h1 => by simp at h1; exact ⟨_, h1.1.symm⟩) h)

section
variable {P : Program} {ops : Array Oper} {Q : Exit → Act → World → Prop} {md : Region.Mode} {S : World → Prop} {n : Nat}
theorem yieldsIf_of_in2 {o : Oper} {v : Value} {a : Act} (hp : plainOp2 o.op = true) (hy : YieldsIn P ops S o v a) : YieldsIf P ops S o v a := by
  refine hy.imp (fun ⟨hw, hv⟩ => ⟨hw, fun w hS => ?_⟩) id
  have h := hv w hS
  unfold Oper.quietAt at h
  cases hr : (execOp a.eval o).run P w with
  | ok x w' =>
    obtain ⟨u, rfl⟩ := plain_value2 hp hr
    rw [hr] at h
    obtain ⟨rfl, rfl⟩ := h
    rfl
  | halt x w' => rw [hr] at h; exact h.elim

inductive Sk where
  | done : Sk
  | one : Nat → Sk → Sk
  | qs : List Nat → Sk → Sk
def Sk.len : Sk → Nat
  | .done => 0
  | .one _ s => s.len + 1
  | .qs l s => l.length + s.len

/-- What has been met, as the bits of a number; what each operation waits for, as lists of numbers. -/
def bitsA (n m : Nat) : Array Bool := ((List.range n).map fun i => m.testBit i).toArray
theorem bitsA_size (n m : Nat) : (bitsA n m).size = n := by simp [bitsA]
theorem bitsA_get {n m i : Nat} {d : Bool} (h : i < n) : (bitsA n m).getD i d = m.testBit i := by
  rw [Array.getD_eq_getD_getElem?]
  simp [bitsA, h]
theorem bitsA_zero (n : Nat) : bitsA n 0 = Array.replicate n false := by
  apply Array.ext
  · simp [bitsA]
  · intro i h1 h2
    simp [bitsA]
theorem bitsA_set {n m k : Nat} : (bitsA n m).setIfInBounds k true = bitsA n (m ||| 2 ^ k) := by
  apply Array.ext
  · simp [bitsA]
  · intro i h1 h2
    have h3 : i < (bitsA n m).size := by simpa using h1
    rw [Array.getElem_setIfInBounds h3]
    simp only [bitsA, List.getElem_toArray, List.getElem_map, List.getElem_range, Nat.testBit_or, Nat.testBit_two_pow]
    by_cases hik : k = i
    · simp [hik]
    · simp [hik]
def tabOf (md : Region.Mode) (l : List Oper) : List (List Nat) := l.map fun o => (o.after.toList.filter (Region.binds md)).map fun e => e.on
def readyT (m : Nat) : Nat → List (List Nat) → List Nat
  | _, [] => []
  | i, es :: t => if !m.testBit i && es.all (fun k => m.testBit k) then i :: readyT m (i + 1) t else readyT m (i + 1) t
def inT (n : Nat) (t : List (List Nat)) : Bool := t.all fun es => es.all fun k => decide (k < n)

theorem all_filter_map {md : Region.Mode} (p : Nat → Bool) : ∀ l : List Edge, ((l.filter (Region.binds md)).map fun e => e.on).all p = l.all fun e => !Region.binds md e || p e.on
  | [] => rfl
  | e :: l => by
    rw [List.filter_cons, List.all_cons, ← all_filter_map p l]
    cases Region.binds md e <;> simp
theorem all_congr_mem {α : Type} {p q : α → Bool} : ∀ {l : List α}, (∀ x ∈ l, p x = q x) → l.all p = l.all q
  | [], _ => rfl
  | x :: l, h => by rw [List.all_cons, List.all_cons, h x (by simp), all_congr_mem fun y hy => h y (by simp [hy])]
theorem ready_from {md : Region.Mode} {n m : Nat} {ops : List Oper} : ∀ (l : List Oper) (i : Nat), i + l.length = n → (∀ j, l[j]? = ops[i + j]?) → inT n (tabOf md l) = true →
    (List.range' i l.length).filter (fun i => !(bitsA n m).getD i true && ((ops.toArray[i]?).map (·.after.all fun e => !Region.binds md e || (bitsA n m).getD e.on false)).getD false) = readyT m i (tabOf md l)
  | [], _, _, _, _ => rfl
  | o :: l, i, hi, hl, hT => by
    have hi' : i < n := by simp at hi; omega
    have h0 : ops[i]? = some o := by simpa using (hl 0).symm
    simp only [tabOf, List.map_cons, inT, List.all_cons, Bool.and_eq_true] at hT
    have hT1 : ∀ e ∈ o.after.toList, Region.binds md e = true → e.on < n := fun e he hb => by
      have h1 := hT.1
      rw [List.all_eq_true] at h1
      simpa using h1 e.on (List.mem_map.2 ⟨e, List.mem_filter.2 ⟨he, hb⟩, rfl⟩)
    have ih := ready_from (m := m) (ops := ops) l (i + 1) (by simp at hi; omega) (fun j => by have := hl (j + 1); simp only [List.getElem?_cons_succ] at this; rw [this]; congr 1; omega) hT.2
    rw [List.length_cons, List.range'_succ, List.filter_cons]
    simp only [tabOf, List.map_cons, readyT]
    have hc : (!(bitsA n m).getD i true && ((ops.toArray[i]?).map (·.after.all fun e => !Region.binds md e || (bitsA n m).getD e.on false)).getD false) = (!m.testBit i && ((o.after.toList.filter (Region.binds md)).map fun e => e.on).all fun k => m.testBit k) := by
      rw [bitsA_get hi', all_filter_map]
      simp only [List.getElem?_toArray, h0, Option.map_some, Option.getD_some]
      congr 1
      rw [← Array.all_toList]
      refine all_congr_mem fun e he => ?_
      cases hb : Region.binds md e
      · rfl
      · rw [bitsA_get (hT1 e he hb)]
    rw [hc]
    unfold tabOf at ih
    rw [ih]
theorem ready_bits {md : Region.Mode} {m : Nat} (l : List Oper) (hT : inT l.length (tabOf md l) = true) : Region.ready md l.toArray (bitsA l.length m) = readyT m 0 (tabOf md l) := by
  have := ready_from (md := md) (m := m) (ops := l) l 0 (Nat.zero_add _) (fun j => by rw [Nat.zero_add]) hT
  rw [← this]
  unfold Region.ready
  rw [List.size_toArray, List.range_eq_range']

def permT (ops : List Oper) (tab : List (List Nat)) (n : Nat) (c : Nat → Bool) : List Nat → Nat → Bool
  | [], m => c m
  | k :: l, m => (decide (readyT m 0 tab = [k]) || ((readyT m 0 tab).contains k && Region.free .any ops.toArray (bitsA ops.length m) k)) && (decide (k < n) && ((match ops[k]? with | some o => plainOp2 o.op | none => false) && permT ops tab n c l (m ||| 2 ^ k)))
def skT (ops : List Oper) (tab : List (List Nat)) (n : Nat) : Sk → Nat → Bool
  | .done, m => decide (readyT m 0 tab = [n]) && decide (readyT (m ||| 2 ^ n) 0 tab = [])
  | .one k s, m => decide (readyT m 0 tab = [k]) && (decide (k < n) && skT ops tab n s (m ||| 2 ^ k))
  | .qs l s, m => permT ops tab n (skT ops tab n s) l m
def wpSk (P : Program) (ops : Array Oper) (Q : Exit → Act → World → Prop) (S : World → Prop) (n : Nat) : Sk → Act → World → Prop
  | .done, a, w => wpOp P ops Q n (Q .normal) a w
  | .one k s, a, w => wpOp P ops Q k (fun a' w' => S w' ∧ wpSk P ops Q S n s a' w') a w
  | .qs l s, a, w => wpQuiet P ops S (fun a' => wpSk P ops Q S n s a' w) (l.filterMap fun i => ops[i]?) a
end

section
variable {P : Program} {ops : List Oper} {Q : Exit → Act → World → Prop} {S : World → Prop} {n : Nat}
theorem wpT_permT {w : World} {f : Nat} {c : Nat → Bool} {K : Act → Prop} (hT : inT ops.length (tabOf .any ops) = true) (hsel : Region.noSelect ops.toArray = true) (hQ : ∀ c a d v w, Q (.panic c) (Act.put a d v) w → Q (.panic c) a w) (hs : Region.sinkB .any ops.toArray n = true) (hc : Region.chainB .any ops.toArray n = true) (hn : n < ops.length) (hS : S w)
    (hK : ∀ m a, HeadInv .any ops.toArray n (bitsA ops.length m) → c m = true → K a → wpT P .any ops.toArray Q S n f (bitsA ops.length m) a w) :
    ∀ (pre : List Nat) (m : Nat) (a : Act), HeadInv .any ops.toArray n (bitsA ops.length m) → permT ops (tabOf .any ops) n c pre m = true →
      wpQuiet P ops.toArray S K (pre.filterMap fun i => ops.toArray[i]?) a → wpT P .any ops.toArray Q S n (pre.length + f) (bitsA ops.length m) a w
  | [], m, a, inv, hB, h => by
    rw [List.length_nil, Nat.zero_add]
    exact hK m a inv hB h
  | k :: l, m, a, inv, hB, h => by
    simp only [permT, Bool.and_eq_true, decide_eq_true_eq, Bool.or_eq_true] at hB
    obtain ⟨hor, hkn, hp, hB'⟩ := hB
    rw [← ready_bits _ hT] at hor
    have hr' : k ∈ Region.ready .any ops.toArray (bitsA ops.length m) := by
      rcases hor with h1 | h1
      · rw [h1]; simp
      · simpa using h1.1
    obtain ⟨_, o, ho, _⟩ := mem_ready.1 hr'
    have ho' : ops[k]? = some o := by simpa using ho
    rw [ho'] at hp
    rw [List.filterMap_cons, ho] at h
    have hst : qOp P ops.toArray S k (wpQuiet P ops.toArray S K (l.filterMap fun i => ops.toArray[i]?)) a := by unfold qOp; simp only [ho]; exact h
    obtain ⟨v, hy, hK'⟩ := yieldsIn_of_qOp ho hst
    have hinv := inv.set hr' hkn
    rw [bitsA_set] at hinv
    have ih := wpT_permT hT hsel hQ hs hc hn hS hK l _ _ hinv hB' hK'
    rw [← bitsA_set] at ih
    rw [List.length_cons, Nat.add_right_comm]
    have hyi := yieldsIf_of_in2 hp hy
    rcases hor with h1 | h1
    · refine ⟨by rw [h1]; simp, fun i hi => ?_⟩
      rw [h1] at hi
      have hik : i = k := by simpa using hi
      subst hik
      exact ⟨hkn, hyi.wpOp ho hS ⟨hS, ih⟩⟩
    · exact wpT_first ho (Region.noSelect_spec hsel) (fun c a w => hQ c a _ v w) hs hc (by simpa using hn) hkn _ _ a w inv (Region.free_spec ho h1.2) hr' hyi hS ih

theorem wpT_sk (hT : inT ops.length (tabOf .any ops) = true) (hsel : Region.noSelect ops.toArray = true) (hQ : ∀ c a d v w, Q (.panic c) (Act.put a d v) w → Q (.panic c) a w) (hs : Region.sinkB .any ops.toArray n = true) (hc : Region.chainB .any ops.toArray n = true) (hn : n < ops.length) :
    ∀ (s : Sk) (m : Nat) (a : Act) (w : World), HeadInv .any ops.toArray n (bitsA ops.length m) → S w → skT ops (tabOf .any ops) n s m = true → wpSk P ops.toArray Q S n s a w → wpT P .any ops.toArray Q S n s.len (bitsA ops.length m) a w
  | .done, m, a, w, _, _, hB, h => by
    simp only [skT, Bool.and_eq_true, decide_eq_true_eq] at hB
    rw [← ready_bits _ hT, ← ready_bits _ hT] at hB
    refine ⟨hB.1, ?_, h⟩
    rw [bitsA_set]
    exact hB.2
  | .one k s, m, a, w, inv, _, hB, h => by
    simp only [skT, Bool.and_eq_true, decide_eq_true_eq] at hB
    obtain ⟨h1, h2, h3⟩ := hB
    rw [← ready_bits _ hT] at h1
    refine ⟨by rw [h1]; simp, fun i hi => ?_⟩
    have hi' := hi
    rw [h1] at hi
    have hik : i = k := by simpa using hi
    subst hik
    have hinv := inv.set hi' h2
    rw [bitsA_set] at hinv ⊢
    exact ⟨h2, wpOp_mono (fun a' w' h' => ⟨h'.1, wpT_sk hT hsel hQ hs hc hn s _ a' w' hinv h'.1 h3 h'.2⟩) h⟩
  | .qs l s, m, a, w, inv, hS, hB, h =>
    wpT_permT hT hsel hQ hs hc hn hS (fun m a inv hB h => wpT_sk hT hsel hQ hs hc hn s m a w inv hS hB h) l m a inv hB h

def regionK (ops : List Oper) (tab : List (List Nat)) (s : Sk) (n : Nat) : Bool :=
  Region.noSelect ops.toArray && (Region.sinkB .any ops.toArray n && (Region.chainB .any ops.toArray n && (decide (s.len + 1 = tab.length) && (decide (n < tab.length) && (inT tab.length tab && skT ops tab n s 0)))))

theorem region_sk {id : Nat} {l : List Oper} {a : Act} {w : World} (C : World → Prop) (tab : List (List Nat)) (s : Sk) (n : Nat) (hm : P.follows .mixedOrders = true) (htab : tabOf .any l = tab) (hB : regionK l tab s n = true) (hC : C w.drew)
    (h : wpSk P l.toArray (NoPanic Q) C n s a w.drew) : (Code.region id l.toArray true).wp P Q a w := by
  subst htab
  have hlen : (tabOf .any l).length = l.length := by simp [tabOf]
  simp only [regionK, Bool.and_eq_true, decide_eq_true_eq, hlen] at hB
  obtain ⟨h1, h2, h3, h4, h5, hT, h6⟩ := hB
  have inv0 : HeadInv .any l.toArray n (Array.replicate l.toArray.size false) :=
    ⟨by simp, fun j oj _ hl => (by rw [getD_replicate_false] at hl; cases hl), fun t _ ht => getD_in (by simpa using ht) (getD_replicate_false _ _)⟩
  rw [List.size_toArray, ← bitsA_zero] at inv0
  have := wpAny_of_T _ _ _ _ (wpT_sk (Q := NoPanic Q) hT h1 (fun _ _ _ _ _ h => h) h2 h3 h5 s 0 a w.drew inv0 hC h6 h)
  rw [h4, bitsA_zero] at this
  refine wp_region_noPanic (wp_region_any hm ?_)
  rw [List.size_toArray]
  exact this
end

section
variable {P : Program} {ops : Array Oper} {Q : Exit → Act → World → Prop} {S : World → Prop} {n : Nat}
theorem wpSk_one {k : Nat} {s : Sk} {a : Act} {w : World} {o : Oper} (ho : ops[k]? = some o)
    (h : ∀ K : Act → World → Prop, Hid (∀ a w, S w → wpSk P ops Q S n s a w → K a w) → if Region.wanted o (yielded ops a.tmps) = true then Oper.wp P o a w K Q else K (a.put o.dst undef) w) : wpSk P ops Q S n (.one k s) a w :=
  wpOp_step ho (fun K hK => h K (Lib.hid fun a w hS hT => hK a w ⟨hS, hT⟩))
theorem wpSk_done {a : Act} {w : World} {o : Oper} (ho : ops[n]? = some o)
    (h : ∀ K : Act → World → Prop, Hid (∀ a w, Q .normal a w → K a w) → if Region.wanted o (yielded ops a.tmps) = true then Oper.wp P o a w K Q else K (a.put o.dst undef) w) : wpSk P ops Q S n .done a w :=
  wpOp_step ho (fun K hK => h K (Lib.hid hK))
theorem wpSk_qs {C : World → Prop} {l : List Nat} {s : Sk} {a : Act} {w w0 : World} (hC : C w0)
    (h : wpQuiet P ops (fun w' => ∃ x, w' = held C w0 x) (fun a' => wpSk P ops Q C n s a' w) (l.filterMap fun i => ops[i]?) a) : wpSk P ops Q C n (.qs l s) a w := by
  rw [held_eq hC] at h
  exact h
end
end Go.Proofs.Ytcngnfnljkkjgaa
