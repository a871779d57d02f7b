/-
The smallest set of clips that can be left out: the copy, and the closure that tries.
-/
import Derived.Test.YtcngnfnljkkjgaaTkSched
namespace Go.Proofs.Ytcngnfnljkkjgaa
open Go.RowKit
attribute [local go_sem] cell_later frozen_later lt_later le_later

/-- What the copy leaves: a list of the call's own. -/
def RetOwn (l : List Int) (w : World) (e : Ending) (w' : World) : Prop :=
  ∃ A c, e = .returned (.slice A l.length c) ∧ (∃ x, w' = later w x) ∧ w'.ownsRow w.heap.size 3 1 (.slice A l.length c) l.length (l.flatMap gI)

theorem sl_cells {w : World} {A : Option Addr} {c : Nat} {l : List Int} {b off : Nat} (h : SlA w 1 gI A c l) (hA : A = some ⟨b, off, none⟩) : ∀ j u, (l.flatMap gI)[j]? = some u → w.cell? ((⟨b, off, none⟩ : Addr).add j) = some u := by
  intro j u hu
  have hj : j < l.length := by
    have := (List.getElem?_eq_some_iff.1 hu).1
    rw [flat_length (k := 1) (fun _ _ => rfl)] at this
    omega
  obtain ⟨b', off', x, e, hlt, hx, hc⟩ := h.atI hj
  rw [hA] at e
  cases e
  have h1 := flat_at (g := gI) (k := 1) (fun _ _ => rfl) j x hx 0 (.int .i64 x) rfl
  rw [Nat.mul_one, Nat.add_zero, hu] at h1
  cases h1
  have : ((⟨b, off, none⟩ : Addr).add j) = ⟨b, off + j, none⟩ := by
    unfold Addr.add
    split
    · next h => rw [h]; rfl
    · rfl
  rw [this]
  exact hc

theorem equal_nil (A : Option Addr) (n c : Nat) (w : World) : (Op.equal 47 (.slice A n c) (.slice none 0 0)).run Try.prog w = .ok A.isNone w := by
  have hu : Try.prog.underlying 47 = some (.slice 3) := by kernel_rfl
  obtain ⟨d, hd⟩ : ∃ d, 10000 = d + 1 := ⟨9999, rfl⟩
  unfold Op.equal Op.maxDepth
  rw [hd, Op.equalIn]
  simp only [Sem.run_bind, run_underlying hu, Result.andThen_ok]
  cases A <;> rfl
theorem eql_nil (A : Option Addr) (n c : Nat) (w : World) : (binOp .eql 47 (.slice A n c) (.slice none 0 0)).run Try.prog w = .ok (.bool A.isNone) w := by
  unfold binOp
  simp [equal_nil]
theorem eqGuard_nil (A : Option Addr) (n c : Nat) (x y : Operand) (B : Option Addr) (m d : Nat) : eqGuard .eql 47 x y (.slice A n c) (.slice B m d) = pure () := rfl
attribute [local go_sem] eql_nil eqGuard_nil

set_option maxHeartbeats 1000000 in
theorem clone_calls (A : Option Addr) (c : Nat) (l : List Int) (w : World) (H : SlA w 1 gI A c l) (hl : l.length ≤ 1000) (hz : A = none → c = 0) :
    Calls Try.prog 102 #[.slice A l.length c] w (RetOwn l w) := by
  obtain ⟨i0, hi, hz0, hz1, hz2⟩ := info_parts infoInt
  cases hA : A with
  | none =>
    have hln : l = [] := by
      cases hl : l with
      | nil => rfl
      | cons x l' =>
        obtain ⟨b, off, e, -⟩ := H.2.2 (by rw [hl]; simp)
        rw [hA] at e
        cases e
    subst hln
    obtain rfl := hz hA
    go_enter Try.func102, Try.ntmps102
    go_wp2
    go_ret
    exact ⟨none, 0, rfl, later_ex (Below.refl _ _), World.ownsRow_nil _ _ _ _⟩
  | some a =>
    subst hA
    by_cases hn : l = []
    · subst hn
      go_enter Try.func102, Try.ntmps102
      go_wp2
      go_ret
      exact ⟨some ⟨w.heap.size, 0, none⟩, 0, rfl, later_ex (by repeat (first | exact Below.refl _ _ | (with_reducible assumption) | apply gL | apply gA | apply gD | apply gN | (refine gS ?_ (by first | (simp; done) | (simp; omega) | omega)))), rfl, .inr ⟨w.heap.size, 0, #[], rfl, Nat.le_refl _, World.alloc_heap_new w _, Nat.le_refl _, by unfold maxLen; omega, rfl, rfl⟩⟩
    · obtain ⟨b, off, e, hlt, -⟩ := H.2.2 hn
      cases e
      have hcs := sl_cells H rfl
      have hown : (w.alloc (.cells #[] 3)).ownsRow w.heap.size 3 1 (.slice (some ⟨w.heap.size, 0, none⟩) 0 0) 0 [] :=
        ⟨rfl, .inr ⟨w.heap.size, 0, #[], rfl, Nat.le_refl _, World.alloc_heap_new w _, Nat.le_refl _, by unfold maxLen; omega, rfl, rfl⟩⟩
      have hcs2 : ∀ j u, (l.flatMap gI)[j]? = some u → (w.alloc (.cells #[] 3)).cell? ((⟨b, off, none⟩ : Addr).add j) = some u := fun j u hu => by
        have := hcs j u hu
        rw [← this]
        exact (gA (o := .cells #[] 3) (Below.refl w.heap.size w)).cell (World.block_lt_of_cell? w _ this)
      have HCS := Lib.hid hcs2
      have HOW := Lib.hid hown
      clear hcs hcs2 hown
      go_enter Try.func102, Try.ntmps102
      go_wp2_with (at_builtin; refine wpList_append_own _ rfl _ _ 47 rfl w.heap.size 3 i0 (.int .i64 0) 1 8 Try.underlying47 hi hz0 hz1 hz2 rfl (by decide) _ _ _ rfl HOW.out ⟨b, off, none⟩ l.length c (l.flatMap gI) rfl (flat_length (fun _ _ => rfl)) HCS.out ?c2 ?c3 ?c4 ?c5 ?_)
      case c2 =>
        intro u hu
        obtain ⟨x, -, hx⟩ := List.mem_flatMap.1 hu
        simp only [gI, List.mem_singleton] at hx
        subst hx
        rfl
      case c3 => unfold maxLen; omega
      case c4 => omega
      case c5 => simp
      intro v' w1 hown1 hg1 _
      have hb2 := grown_below (w := w) (gA (Below.refl _ _)) HOW.out (Nat.le_refl _) hg1
      have hpos := List.length_pos_iff.2 hn
      obtain ⟨A', c', rfl⟩ : ∃ A c, v' = .slice A l.length c := by
        rcases hown1.2 with ⟨-, h0⟩ | ⟨b, cap, cur, e, -⟩
        · omega
        · exact ⟨_, _, e⟩
      go_wp2
      go_ret
      exact ⟨A', c', rfl, later_ex hb2, hown1⟩
end Go.Proofs.Ytcngnfnljkkjgaa
