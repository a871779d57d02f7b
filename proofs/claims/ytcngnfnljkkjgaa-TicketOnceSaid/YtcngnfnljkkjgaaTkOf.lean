/-
The clips of a ticket.
-/
import Derived.Test.YtcngnfnljkkjgaaTkAllC
import Derived.Maps.AppendAt
namespace Go.Proofs.Ytcngnfnljkkjgaa
open Go.RowKit
attribute [local go_sem] cell_later frozen_later lt_later le_later

theorem infoClip : (Try.prog.info? 104).map (fun i => (i.zero, i.size, i.bytes)) = some (some (.agg #[.int .i64 0, .int .i64 0, .int .i64 0]), 3, 24) := by kernel_rfl

theorem ofs_step {h : Hs} {t : Int} {k : Nat} {x : Cp} (hx : h.clips[k]? = some x) : ((h.clips.take (k + 1)).filter fun c => c.tk == t) = ((h.clips.take k).filter fun c => c.tk == t) ++ (if x.tk == t then [x] else []) := by
  rw [List.take_add_one, hx, List.filter_append]
  simp [List.filter_cons]

set_option maxHeartbeats 400000 in
theorem of_calls (v : Value) (h : Hs) (t : Int) (w : World) (H : HsAt w v h) (hl : h.clips.length ≤ 1000) :
    Calls Try.prog 119 #[v, .int .i64 t] w (RetSl 3 gC (h.ofs t) w) := by
  obtain ⟨i0, hi, hz0, hz1, hz2⟩ := info_parts infoClip
  obtain ⟨A2, c2, A3, c3, A4, c4, rfl, -, -, H4⟩ := H
  go_enter Try.func119, Try.ntmps119
  go_wp2
  go_loopw [4, 10] (fun v i wr => ∃ k : Nat, k ≤ h.clips.length ∧ i = .int .i64 k ∧ Below w.heap.size w wr ∧ wr.ownsRow w.heap.size 104 3 v ((h.clips.take k).filter fun c => c.tk == t).length (((h.clips.take k).filter fun c => c.tk == t).flatMap gC))
    (fun _ i _ => h.clips.length - (intOf i).toNat)
  case atStart => exact ⟨0, Nat.zero_le _, rfl, (by repeat (first | exact Below.refl _ _ | (with_reducible assumption) | apply gL | apply gA | apply gD | apply gN | (refine gS ?_ (by first | (simp; done) | (simp; omega) | omega)))), World.ownsRow_nil _ _ _ _⟩
  case round =>
    obtain ⟨k, hk, rfl, hb, hown⟩ := hrel
    by_cases hlt : k < h.clips.length
    · obtain ⟨b, off, x, rfl, hbl, hx, h1, h2, h3⟩ := (H4.below hb).atC hlt
      have HS := Lib.hid (ofs_step (t := t) hx)
      clear hx
      by_cases he : (x.tk == t) = true
      · have hlen : ((h.clips.take k).filter fun c => c.tk == t).length ≤ k := Nat.le_trans (List.length_filter_le _ _) (List.length_take_le _ _)
        go_wp2_with (at_builtin; refine wpList_append_own _ rfl _ _ 34 rfl w.heap.size 104 i0 (.agg #[.int .i64 0, .int .i64 0, .int .i64 0]) 3 24 Try.underlying34 hi hz0 hz1 hz2 rfl (by decide) _ _ _ rfl ((hown.alloc _).alloc _) ⟨wr.heap.size + 1, 0, none⟩ 1 1 (gC x) rfl rfl ?c1 ?c2 ?c3 ?c4 ?c5 ?_)
        case c1 => exact news_new _ _ (by simp) (gC x) _
        case c2 => simp [gC, Value.oneCell']
        case c3 => unfold maxLen; omega
        case c4 => omega
        case c5 => have := hb.size; simp; omega
        intro v' w1 hown1 hg1 _
        have hb1 := grown_below ((hb.alloc hb.size _).alloc (by have := hb.size; simp; omega) _) ((hown.alloc _).alloc _) (Nat.le_refl _) hg1
        go_wp2
        go_roundw
        case rel => exact ⟨k + 1, by omega, by go_num, hb1, by rw [HS.out, he]; simpa using hown1⟩
        case measure => simp [intOf]; omega
      · have he : (x.tk == t) = false := by simpa using he
        go_wp2
        go_roundw
        case rel => exact ⟨k + 1, by omega, by go_num, (hb.alloc hb.size _), by rw [HS.out, he]; simpa using hown.alloc _⟩
        case measure => simp [intOf]; omega
    · obtain rfl : k = h.clips.length := by omega
      go_wp2
      rw [List.take_length] at hown
      obtain ⟨A, c, rfl, hs⟩ := SlA.of_own (k := 3) (g := gC) (l := h.ofs t) hown (fun _ _ => rfl) rfl (Nat.le_trans (List.length_filter_le _ _) (by omega))
      go_ret
      exact ⟨A, c, rfl, later_ex hb, hs⟩
end Go.Proofs.Ytcngnfnljkkjgaa
