/-
A copy of a list; whether two lists are equal.
-/
import Derived.Test.YtcngnfnljkkjgaaTkHelp
namespace Go.Proofs.Ytcngnfnljkkjgaa
open Go.RowKit
attribute [local go_sem] cell_later frozen_later lt_later le_later

theorem take_step {l : List Int} {k : Nat} {x : Int} (h : l[k]? = some x) : l.take (k + 1) = l.take k ++ [x] := by rw [List.take_add_one, h]; rfl

set_option maxHeartbeats 1000000 in
theorem ints_calls (A B : Option Addr) (c d : Nat) (a b : List Int) (w : World) (HA : SlA w 1 gI A c a) (HB : SlA w 1 gI B d b) :
    Calls Try.prog 46 #[.slice A a.length c, .slice B b.length d] w (Ret (.bool (decide (a = b))) w) := by
  have ha := HA.2.1
  have hb := HB.2.1
  by_cases hl : a.length = b.length
  · have hl1 : ((a.length : Int) != (b.length : Int)) = false := by simp [hl]
    have HL := Lib.hid hl
    clear hl
    go_enter Try.func46, Try.ntmps46
    go_wp2
    go_loopw [5] (fun i wr => ∃ k : Nat, k ≤ a.length ∧ i = .int .i64 k ∧ a.take k = b.take k ∧ ∃ x, wr = later w x) (fun i _ => a.length - (intOf i).toNat)
    case atStart => exact ⟨0, Nat.zero_le _, rfl, rfl, later_ex (Below.refl _ _)⟩
    case round =>
      obtain ⟨k, hk, rfl, htk, x, rfl⟩ := hrel
      have HT := Lib.hid htk
      clear htk
      by_cases hlt : k < a.length
      · have hlt1 : (k : Int) < (a.length : Int) := by omega
        have hlt2 : (k : Int) < (b.length : Int) := by have := HL.out; omega
        have hk0 : (0 : Int) ≤ (k : Int) := Int.natCast_nonneg _
        obtain ⟨p, off, y, rfl, hpl, hy, s0⟩ := HA.atI hlt
        obtain ⟨q, ofq, z, rfl, hql, hz, t0⟩ := HB.atI (i := k) (by omega)
        have HY := Lib.hid hy
        have HZ := Lib.hid hz
        clear hy hz
        by_cases hyz : y = z
        · have hn : (y != z) = false := by simp [hyz]
          have HE := Lib.hid hyz
          clear hyz
          go_wp2
          refine region_later (by kernel_rfl) (by kernel_rfl) ?_
          repeat (go_big_quiet_step (fail))
          refine wpQuiet_nil ?_
          rintro W' ⟨u, rfl⟩
          go_wp2
          go_roundw
          case rel => exact ⟨k + 1, by omega, by go_num, by rw [take_step HY.out, take_step HZ.out, HT.out, HE.out], later_ex (by repeat (first | exact Below.refl _ _ | (with_reducible assumption) | apply gL | apply gA | apply gD | apply gN | (refine gS ?_ (by first | (simp; done) | (simp; omega) | omega))))⟩
          case measure => simp [intOf]; omega
        · have hn : (y != z) = true := by simp [hyz]
          have HR := Lib.hid (show decide (a = b) = false by
            rw [decide_eq_false_iff_not]
            intro hab
            have := HY.out
            rw [hab, HZ.out] at this
            exact hyz (Option.some.inj this).symm)
          clear hyz
          go_wp2
          refine region_later (by kernel_rfl) (by kernel_rfl) ?_
          repeat (go_big_quiet_step (fail))
          refine wpQuiet_nil ?_
          rintro W' ⟨u, rfl⟩
          go_wp2
          go_ret
          exact ret_mk (ret_bool HR.out.symm) (by repeat (first | exact Below.refl _ _ | (with_reducible assumption) | apply gL | apply gA | apply gD | apply gN | (refine gS ?_ (by first | (simp; done) | (simp; omega) | omega))))
      · obtain rfl : k = a.length := by omega
        have HR := Lib.hid (show decide (a = b) = true by
          rw [decide_eq_true_iff]
          have := HT.out
          rwa [List.take_length, HL.out, List.take_length] at this)
        go_wp2
        go_ret
        exact ret_mk (ret_bool HR.out.symm) (by repeat (first | exact Below.refl _ _ | (with_reducible assumption) | apply gL | apply gA | apply gD | apply gN | (refine gS ?_ (by first | (simp; done) | (simp; omega) | omega))))
  · have hl1 : ((a.length : Int) != (b.length : Int)) = true := by simp; omega
    have HR := Lib.hid (show decide (a = b) = false by
      rw [decide_eq_false_iff_not]
      exact fun hab => hl (by rw [hab]))
    go_enter Try.func46, Try.ntmps46
    go_wp2
    go_ret
    exact ret_mk (ret_bool HR.out.symm) (by repeat (first | exact Below.refl _ _ | (with_reducible assumption) | apply gL | apply gA | apply gD | apply gN | (refine gS ?_ (by first | (simp; done) | (simp; omega) | omega))))

set_option maxHeartbeats 1000000 in
theorem list_calls (A : Option Addr) (c : Nat) (l : List Int) (w : World) (H : SlA w 1 gI A c l) (hl : l.length ≤ 1000) (hz : A = none → c = 0) :
    Calls Try.prog 58 #[.slice A l.length c] w (RetSl 1 gI l w) := by
  obtain ⟨i0, hi, hz0, hz1, hz2⟩ := info_parts infoInt
  by_cases hn : l = []
  · subst hn
    cases A with
    | none =>
      obtain rfl := hz rfl
      go_enter Try.func58, Try.ntmps58
      go_wp2
      go_ret
      exact ⟨none, 0, rfl, later_ex (Below.refl _ _), SlA.nil _ _ _ _⟩
    | some a =>
      go_enter Try.func58, Try.ntmps58
      go_wp2
      go_ret
      exact ⟨none, 0, rfl, later_ex (Below.refl _ _), SlA.nil _ _ _ _⟩
  · obtain ⟨b, off, rfl, hlt, -⟩ := H.2.2 hn
    have HCS := Lib.hid (sl_cells H rfl)
    go_enter Try.func58, Try.ntmps58
    go_wp2_with (at_builtin; refine wpList_append_own _ rfl _ _ 47 rfl w.heap.size 3 i0 (.int .i64 0) 1 8 Try.underlying47 hi hz0 hz1 hz2 rfl (by decide) _ _ _ rfl (World.ownsRow_nil w _ _ _) ⟨b, off, none⟩ l.length c (l.flatMap gI) rfl (flat_length (fun _ _ => rfl)) HCS.out ?c2 ?c3 ?c4 ?c5 ?_)
    case c2 =>
      intro u hu
      obtain ⟨x, -, hx⟩ := List.mem_flatMap.1 hu
      simp only [gI, List.mem_singleton] at hx
      subst hx
      rfl
    case c3 => unfold maxLen; omega
    case c4 => omega
    case c5 => simp
    intro v' w1 hown1 hg1 _
    have hb2 := grown_below (w := w) (Below.refl _ _) (World.ownsRow_nil w w.heap.size 3 1) (Nat.le_refl _) hg1
    obtain ⟨A', c', rfl, hs⟩ := SlA.of_own (k := 1) (g := gI) (l := l) hown1 (fun _ _ => rfl) (by simp) (by omega)
    go_wp2
    go_ret
    exact ⟨A', c', rfl, later_ex hb2, hs⟩
end Go.Proofs.Ytcngnfnljkkjgaa
