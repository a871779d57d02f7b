/-
As RfCopy: the copy as a row of the call's own, which can be appended to.
-/
import Derived.Test.YtcngnfnljkkjgaaCmY
namespace Go.Proofs.Ytcngnfnljkkjgaa
open Go.RowKit
attribute [local go_sem] cell_later frozen_later lt_later le_later

theorem OwnS.of_own {α : Type} {w : World} {base : Nat} {e : TypeId} {k b c n : Nat} {g : α → List Value} {l : List α} (h : w.ownsRow base e k (.slice (some ⟨b, 0, none⟩) n c) n (l.flatMap g)) : OwnS w g e b l := by
  rcases h.2 with ⟨h1, -⟩ | ⟨b', cap, cur, h1, -, hh, -, -, -, htake⟩
  · cases h1
  · cases h1
    refine ⟨cur.toList.drop (n * k), ?_⟩
    unfold BlkAt
    rw [hh, ← htake, List.take_append_drop]
section
variable {P : Program} {w : World}
theorem wp_append_copy2 {α : Type} {K : Act → World → Prop} {o : Oper} {a : Act} {Q : Exit → Act → World → Prop} (s x : Operand) (t : TypeId)
    (ho : o.op = .call { callee := .builtin .append, args := #[s, x], argTypes := #[t, t] })
    (base : Nat) (e : TypeId) (i : TypeInfo) (z : Value) (size bytes : Nat) (ht : P.underlying t = some (.slice e)) (hi : P.info? e = some i) (hz : i.zero = some z)
    (hsize : i.size = size) (hby : i.bytes = bytes) (hzs : z.cells.size = size) (hsz : 0 < size)
    (gg : Nat) (hs : a.eval s = .slice (some ⟨gg, 0, none⟩) 0 0) (hB : BlkAt w gg e []) (hgg : base ≤ gg)
    {g : α → List Value} {A : Option Addr} {c : Nat} {l : List α} (hx : a.eval x = .slice A l.length c) (H : SlA w size g A c l) (hg : ∀ x ∈ l, (g x).length = size) (h1 : ∀ x ∈ l, ∀ u ∈ g x, u.oneCell' = true)
    (h63 : l.length ≤ maxLen) (hbytes : l.length * bytes ≤ 140737488355328) (hbase : base ≤ w.heap.size)
    (h : ∀ b c w', base ≤ b → l.length ≤ c → w'.ownsRow base e size (.slice (some ⟨b, 0, none⟩) l.length c) l.length (l.flatMap g) → w.grownBy w' (some gg) → K (a.put o.dst (.slice (some ⟨b, 0, none⟩) l.length c)) w') : o.wp P a w K Q := by
  have hown : w.ownsRow base e size (.slice (some ⟨gg, 0, none⟩) 0 0) 0 [] := ⟨by simp, .inr ⟨gg, 0, #[], rfl, hgg, hB, Nat.le_refl _, Nat.zero_le _, by simp, by simp⟩⟩
  cases A with
  | some ad =>
    refine wp_append_own s x t ho base e i z size bytes ht hi hz hsize hby hzs hsz _ 0 [] hs hown ad l.length c (l.flatMap g) hx (flat_length hg) ?_ ?_ (by rw [Nat.zero_add]; exact h63) (by rw [Nat.zero_add]; exact hbytes) hbase ?_
    · intro j u hu
      have hj := (List.getElem?_eq_some_iff.1 hu).1
      rw [flat_length hg] at hj
      have hne : l ≠ [] := by
        rintro rfl
        simp at hj
      obtain ⟨b, off, e', hlt, hc⟩ := H.2.2 hne
      cases e'
      have hk : j / size < l.length := Nat.div_lt_of_lt_mul (by rw [Nat.mul_comm]; exact hj)
      have hx0 := List.getElem?_eq_getElem hk
      have hm := Nat.mod_lt j hsz
      obtain ⟨u', hu'⟩ : ∃ u', (g l[j / size])[j % size]? = some u' := ⟨_, List.getElem?_eq_getElem (by rw [hg _ (List.getElem_mem hk)]; exact hm)⟩
      have h2 := flat_at hg _ _ hx0 _ _ hu'
      have h3 := Nat.div_add_mod j size
      rw [Nat.mul_comm] at h3
      rw [h3, hu] at h2
      cases h2
      have h4 := hc _ _ hx0 _ _ hu'
      rw [Nat.add_assoc, h3] at h4
      have h5 : ((⟨b, off, none⟩ : Addr).add j) = ⟨b, off + j, none⟩ := by
        unfold Addr.add
        split
        · next hh => rw [hh, Nat.add_zero]
        · rfl
      rw [h5]
      exact h4
    · intro u hu
      obtain ⟨y, hy, hyu⟩ := List.mem_flatMap.1 hu
      exact h1 y hy u hyu
    · intro v' w' h2 h3 h4
      rw [Nat.zero_add, List.nil_append] at h2
      have h20 := h2
      rcases h2.2 with ⟨rfl, -⟩ | ⟨b, cap, cur, rfl, hb, hh, hnc, -, -, htake⟩
      · rcases h4 with h4 | h4 <;> cases h4
      · exact h b cap w' hb hnc h20 h3
  | none =>
    have hl : l = [] := by
      by_cases hl : l = []
      · exact hl
      · obtain ⟨b, off, e', -⟩ := H.2.2 hl
        cases e'
    subst hl
    have hr := run_append_none (P := P) (w := w) t o.type ht hi (some ⟨gg, 0, none⟩) 0 0 c (Nat.le_refl _)
    unfold Oper.wp execOp
    simp only [ho, resolve, invoke, builtin, Sem.run_bind, Sem.run_pure, Result.andThen_ok, List.map_toArray, List.map_cons, List.map_nil, hs, hx, List.length_nil, hr]
    exact h gg 0 w hgg (Nat.le_refl _) hown ⟨rfl, rfl, rfl, Nat.le_refl _, fun _ _ _ => rfl⟩
end
end Go.Proofs.Ytcngnfnljkkjgaa
