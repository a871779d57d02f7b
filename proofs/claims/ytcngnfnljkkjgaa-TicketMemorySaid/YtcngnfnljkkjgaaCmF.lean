/-
A region that draws its order, in a round of a loop over a function: out of what is shown of it as of any region; and a law for regions whose values do not hang on the order.
-/
import Derived.Test.YtcngnfnljkkjgaaCmE
import Derived.OrdersIn
namespace Go.Proofs.Ytcngnfnljkkjgaa
open Go.RowKit

section
variable {P : Program} {ops : Array Oper} {Q : Exit → Act → World → Prop} {md : Region.Mode}

theorem oper_in {o : Oper} {a : Act} {w : World} {K : Act → World → Prop} {l n : Nat} (hd : ∀ c, o.op ≠ .defer c) (h : o.wp P a w K Q) : o.wpIn (Fence.wide.inRound l) n P a w K Q := by
  unfold Oper.wp at h
  refine ⟨fun _ _ => trivial, ?_⟩
  have hs : Oper.semAt (Fence.wide.inRound l).round a.eval o = execOp a.eval o := Oper.semAt_some l a.eval o hd
  rw [hs]
  generalize (execOp a.eval o).run P w = r at *
  cases r with
  | ok x w' =>
    cases x with
    | value v => exact h
    | skip => exact h
    | defer d => exact h
    | enter f args => exact ⟨(fun hh => by cases hh), CallsIn.inRound l (callsIn_wide.2 h)⟩
    | row row args => exact ⟨(fun hh => by cases hh), fun c cs _ => by
        obtain ⟨v, w2, h1, h2⟩ := h c cs
        exact ⟨v, w2, h1, stepsIn_wide.2 h2⟩⟩
    | _ => exact h.elim
  | halt x w' => cases x <;> first | exact h | exact h.elim

theorem wpAnyIn_of_wpAny {l n : Nat} (hQ : ¬ LetsOut Q) (hd : ∀ o ∈ ops.toList, ∀ c, o.op ≠ .defer c) : ∀ (fuel : Nat) (listed : Array Bool) (a : Act) (w : World),
    wpAny P md ops Q fuel listed a w → wpAnyIn (Fence.wide.inRound l) n P md ops Q fuel listed a w
  | 0, _, _, _, h => h
  | fuel + 1, listed, a, w, h => ⟨h.1, fun i hi => by
      have h2 := h.2 i hi
      unfold wpOp at h2
      unfold wpOpIn
      cases ho : ops[i]? with
      | none => simp only [ho] at h2 ⊢; exact wpAnyIn_of_wpAny hQ hd fuel _ _ _ h2
      | some o =>
        simp only [ho] at h2 ⊢
        by_cases hw : Region.wanted o (yielded ops a.tmps) = true
        · simp only [hw, if_true] at h2 ⊢
          rcases h2 with h2 | h2
          · exact Oper.wpIn_mono (fun a' w' h3 => wpAnyIn_of_wpAny hQ hd fuel _ a' w' h3) (oper_in (hd o (by simpa using Array.mem_of_getElem? ho)) h2)
          · exact absurd h2.2 hQ
        · simp only [hw] at h2 ⊢
          exact ⟨fun _ _ => trivial, wpAnyIn_of_wpAny hQ hd fuel _ _ _ h2⟩⟩

theorem regionIn_any {id l n : Nat} {a : Act} {w : World} (hm : P.follows .mixedOrders = true) (hQ : ¬ LetsOut Q) (hd : ∀ o ∈ ops.toList, ∀ c, o.op ≠ .defer c)
    (h : wpAny P .any ops Q ops.size (Array.replicate ops.size false) a w.drew) : (Code.region id ops true).wpIn (Fence.wide.inRound l) n P Q a w :=
  wpIn_region_any hm (wpAnyIn_of_wpAny hQ hd _ _ _ _ h)

/-- A quiet region in a round. -/
theorem regionIn_later {id l n : Nat} {a : Act} {w : World} {ol : List Oper} (hm : P.follows .mixedOrders = true) (hB : Region.lexB .any ol.toArray = true) (hQ : ¬ LetsOut Q) (hd : ∀ o ∈ ol, ∀ c, o.op ≠ .defer c)
    (h : wpQuiet P ol.toArray (fun w' => ∃ x, w' = later w x) (fun a' => ∀ w', (∃ x, w' = later w x) → Q .normal a' w') ol a) : (Code.region id ol.toArray true).wpIn (Fence.wide.inRound l) n P Q a w := by
  simp only [Region.lexB, Bool.and_eq_true] at hB
  refine regionIn_any hm hQ (by simpa using hd) (wpAny_of_quiet (C := fun w' => ∃ x, w' = later w x) (Q := fun a' => ∀ w', (∃ x, w' = later w x) → Q .normal a' w') (fun _ w' hw' h => h w' hw') _ _ _ _ (later_ex ((Below.refl _ _).drew)) ?_)
  have := wpAnyQ_lex (C := fun w' => ∃ x, w' = later w x) (md := .any) hB.1 ol 0 (Array.replicate ol.toArray.size false) a (by simp) (by simpa using hB.2) h
  simpa using this
end
end Go.Proofs.Ytcngnfnljkkjgaa
