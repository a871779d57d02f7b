/-
Whether the true minutes of some clips do not decrease.
-/
import Derived.Test.YtcngnfnljkkjgaaTkCheck
import Derived.Test.YtcngnfnljkkjgaaTkPure2
namespace Go.Proofs.Ytcngnfnljkkjgaa
open Go.RowKit
attribute [local go_sem] cell_later frozen_later lt_later le_later

theorem tru_bd {e : List Int} {c : Cp} (he : ErrOk e) (h3 : 0 ≤ c.mn) (h4 : c.mn ≤ 1439) : -30 ≤ tru e c ∧ tru e c ≤ 1469 := by
  have := he c.ck.toNat
  unfold tru err
  omega
theorem err_bd {e : List Int} (he : ErrOk e) (i : Int) : -30 ≤ err e i ∧ err e i ≤ 30 := he i.toNat

theorem minute_calls4 {e0 e1 e2 e3 : Int} (e : List Int) (H4 : Hid (e4 e = [.int .i64 e0, .int .i64 e1, .int .i64 e2, .int .i64 e3])) (he : Hid (ErrOk e)) (c : Cp) (w : World) (h0 : 0 ≤ c.ck) (h1 : c.ck < 4) (hm1 : 0 ≤ c.mn) (hm2 : c.mn ≤ 1439) :
    Calls Try.prog 108 #[.agg #[.int .i64 e0, .int .i64 e1, .int .i64 e2, .int .i64 e3], .agg #[.int .i64 c.tk, .int .i64 c.ck, .int .i64 c.mn]] w (Ret (.int .i64 (tru e c)) w) := by
  have hb := err_bd he.out c.ck
  have := minute_calls e c w h0 h1 (by omega) (by omega) (by omega) (by omega)
  rw [H4.out] at this
  exact this

/-- What the loop holds after some clips. -/
def RiseF (l : List Int) (b : Bool) (n : Int) : Prop := nondec l = true ∧ b = !l.isEmpty ∧ n = l.getLastD 0
theorem RiseF.first {l : List Int} {n m : Int} (h : RiseF l false n) : RiseF (l ++ [m]) true m := by
  obtain ⟨h1, h2, _⟩ := h
  have : l = [] := by simpa using h2
  subst this
  exact ⟨rfl, rfl, rfl⟩
theorem RiseF.next {l : List Int} {n m : Int} (h : RiseF l true n) (hm : ¬ m < n) : RiseF (l ++ [m]) true m := by
  obtain ⟨h1, h2, h3⟩ := h
  refine ⟨?_, by simp, by simp⟩
  rw [nondec_snoc, h1, ← h3]
  simp
  omega
theorem RiseF.stop {l : List Int} {n m : Int} (h : RiseF l true n) (hm : m < n) : nondec (l ++ [m]) = false := by
  obtain ⟨h1, h2, h3⟩ := h
  have h2 : l.isEmpty = false := by simpa using h2
  rw [nondec_snoc, h1, h2, ← h3]
  simp
  omega
theorem nondec_append : ∀ (l m : List Int), nondec l = false → nondec (l ++ m) = false
  | [], m, h => by simp [nondec] at h
  | [_], m, h => by simp [nondec] at h
  | a :: b :: l, m, h => by
    simp only [nondec, Bool.and_eq_false_iff] at h
    simp only [List.cons_append, nondec, Bool.and_eq_false_iff]
    rcases h with h | h
    · exact .inl h
    · exact .inr (by simpa using nondec_append (b :: l) m h)
theorem keptM_take (e : List Int) (out : List Int) : ∀ (l : List Cp) (k : Nat), ∃ m, keptM e out l = keptM e out (l.take k) ++ m := by
  refine snoc_ind (fun k => ⟨[], by simp [keptM]⟩) fun l c ih k => ?_
  rcases Nat.lt_or_ge l.length k with hk | hk
  · exact ⟨[], by rw [List.take_of_length_le (by simp; omega), List.append_nil]⟩
  · obtain ⟨m, hm⟩ := ih k
    refine ⟨m ++ (if out.contains (l.length : Int) then [] else [tru e c]), ?_⟩
    rw [List.take_append_of_le_length hk, keptM_snoc, hm, List.append_assoc]

set_option maxHeartbeats 1000000 in
theorem rising_calls (v : Value) (h : Hs) (e : List Int) (A : Option Addr) (c : Nat) (out : List Int) (w : World) (H : HsAt w v h) (HO : SlA w 1 gI A c out) (he : ErrOk e) (hc : ClipsOk h.clips) (hl : h.clips.length ≤ 1000) :
    Calls Try.prog 111 #[v, .agg (e4 e).toArray, .slice A out.length c] w (Ret (.bool (h.risingB e out)) w) := by
  obtain ⟨A2, c2, A3, c3, A4, c4, rfl, H2, H3, H4⟩ := H
  have HE := Lib.hid he
  have HC := Lib.hid hc
  clear he hc
  obtain ⟨e0, e1, e2, e3, h4⟩ : ∃ e0 e1 e2 e3 : Int, e4 e = [.int .i64 e0, .int .i64 e1, .int .i64 e2, .int .i64 e3] := ⟨_, _, _, _, rfl⟩
  rw [h4]
  have HE4 := Lib.hid h4
  clear h4
  go_enter Try.func111, Try.ntmps111
  go_wp2
  obtain ⟨W1, hW1⟩ : ∃ W1, W1 = (w.alloc (.cells #[.int .i64 h.hour, .int .i64 h.grace, .slice A2 h.clocks.length c2, .slice A3 h.tickets.length c3, .slice A4 h.clips.length c4] 36)).alloc (.cells #[.int .i64 e0, .int .i64 e1, .int .i64 e2, .int .i64 e3] 119) := ⟨_, rfl⟩
  have hb1 : Below w.heap.size w W1 := by rw [hW1]; exact gA (gA (Below.refl _ _))
  have k0 : W1.cell? ⟨w.heap.size + 1, 0, none⟩ = some (.int .i64 e0) := by rw [hW1]; simp [go_sem]
  have k1 : W1.cell? ⟨w.heap.size + 1, 1, none⟩ = some (.int .i64 e1) := by rw [hW1]; simp [go_sem]
  have k2 : W1.cell? ⟨w.heap.size + 1, 2, none⟩ = some (.int .i64 e2) := by rw [hW1]; simp [go_sem]
  have k3 : W1.cell? ⟨w.heap.size + 1, 3, none⟩ = some (.int .i64 e3) := by rw [hW1]; simp [go_sem]
  have hlt0 : w.heap.size < W1.heap.size := by rw [hW1]; simp; omega
  have hlt1 : w.heap.size + 1 < W1.heap.size := by rw [hW1]; simp
  rw [← hW1]
  clear hW1
  have H4' := H4.below hb1
  have HO' := HO.below hb1
  go_loopw [7, 8, 15] (fun last is i wr => (∃ x, wr = later W1 x) ∧ ∃ (k : Nat) (b : Bool) (n : Int), k ≤ h.clips.length ∧ i = .int .i64 k ∧ is = .bool b ∧ last = .int .i64 n ∧ RiseF (keptM e out (h.clips.take k)) b n) (fun _ _ i _ => h.clips.length - (intOf i).toNat)
  case atStart => exact ⟨later_ex (Below.refl _ _), 0, false, 0, Nat.zero_le _, rfl, rfl, rfl, rfl, rfl, rfl⟩
  case round =>
    obtain ⟨⟨x, rfl⟩, k, bs, n, hk, rfl, rfl, rfl, hn⟩ := hrel
    by_cases hlt : k < h.clips.length
    · obtain ⟨b, off, c, rfl, hbl, hx, g1, g2, g3⟩ := H4'.atC hlt
      obtain ⟨m1, m2, m3, m4⟩ := HC.out c (List.mem_of_getElem? hx)
      have htb := tru_bd HE.out m3 m4
      have hs := keptM_snoc e out (h.clips.take k) c
      rw [List.length_take, Nat.min_eq_left (by omega), ← idx_nonneg] at hs
      have HS := Lib.hid (show keptM e out (h.clips.take (k + 1)) = keptM e out (h.clips.take k) ++ (if decide (0 ≤ idx out k) = true then [] else [tru e c]) by rw [List.take_add_one, hx]; exact hs)
      clear hs hx
      by_cases ho : 0 ≤ idx out k
      · have ho1 : decide (0 ≤ idx out k) = true := by simpa using ho
        go_wp2_with (first
          | (go_at_call 126; refine (contains_calls _ _ _ _ _ ?hs).mono ?_; (case hs => exact HO'.below (by repeat (first | exact Below.refl _ _ | (with_reducible assumption) | apply gL | apply gA | apply gD | apply gN | (refine gS ?_ (by first | (simp; done) | (simp; omega) | omega))))); (rintro e w' hr; first | ((with_reducible replace hr := Ret.up hr); obtain ⟨rfl, z, rfl⟩ := hr) | (obtain ⟨rfl, z, rfl⟩ := hr))))
        go_roundw
        case rel => exact ⟨later_ex (by repeat (first | exact Below.refl _ _ | (with_reducible assumption) | apply gL | apply gA | apply gD | apply gN | (refine gS ?_ (by first | (simp; done) | (simp; omega) | omega)))), k + 1, bs, n, by omega, by go_num, rfl, rfl, by rw [HS.out, ho1, if_pos rfl, List.append_nil]; exact hn⟩
        case measure => simp [intOf]; omega
      · have ho1 : decide (0 ≤ idx out k) = false := by simpa using ho
        have HS2 := Lib.hid (show keptM e out (h.clips.take (k + 1)) = keptM e out (h.clips.take k) ++ [tru e c] by rw [HS.out, ho1]; rfl)
        clear HS
        cases bs
        · go_wp2_with (first
            | (go_at_call 126; refine (contains_calls _ _ _ _ _ ?hs).mono ?_; (case hs => exact HO'.below (by repeat (first | exact Below.refl _ _ | (with_reducible assumption) | apply gL | apply gA | apply gD | apply gN | (refine gS ?_ (by first | (simp; done) | (simp; omega) | omega))))); (rintro e w' hr; first | ((with_reducible replace hr := Ret.up hr); obtain ⟨rfl, z, rfl⟩ := hr) | (obtain ⟨rfl, z, rfl⟩ := hr)))
            | (go_at_call 108; refine (minute_calls4 e HE4 HE c _ m1 m2 m3 m4).mono ?_; (rintro e w' hr; first | ((with_reducible replace hr := Ret.up hr); obtain ⟨rfl, z, rfl⟩ := hr) | (obtain ⟨rfl, z, rfl⟩ := hr))))
          go_roundw
          case rel => exact ⟨later_ex (by repeat (first | exact Below.refl _ _ | (with_reducible assumption) | apply gL | apply gA | apply gD | apply gN | (refine gS ?_ (by first | (simp; done) | (simp; omega) | omega)))), k + 1, true, tru e c, by omega, by go_num, rfl, rfl, by rw [HS2.out]; exact hn.first⟩
          case measure => simp [intOf]; omega
        · by_cases hlast : tru e c < n
          · have HF := Lib.hid (show h.risingB e out = false by
              obtain ⟨m, hm⟩ := keptM_take e out h.clips (k + 1)
              rw [Hs.risingB, hm, HS2.out]
              exact nondec_append _ _ (hn.stop hlast))
            go_wp2_with (first
              | (go_at_call 126; refine (contains_calls _ _ _ _ _ ?hs).mono ?_; (case hs => exact HO'.below (by repeat (first | exact Below.refl _ _ | (with_reducible assumption) | apply gL | apply gA | apply gD | apply gN | (refine gS ?_ (by first | (simp; done) | (simp; omega) | omega))))); (rintro e w' hr; first | ((with_reducible replace hr := Ret.up hr); obtain ⟨rfl, z, rfl⟩ := hr) | (obtain ⟨rfl, z, rfl⟩ := hr)))
              | (go_at_call 108; refine (minute_calls4 e HE4 HE c _ m1 m2 m3 m4).mono ?_; (rintro e w' hr; first | ((with_reducible replace hr := Ret.up hr); obtain ⟨rfl, z, rfl⟩ := hr) | (obtain ⟨rfl, z, rfl⟩ := hr))))
            go_ret
            exact ret_mk (ret_bool HF.out.symm) (hb1.trans (below_mono_of hb1 (by repeat (first | exact Below.refl _ _ | (with_reducible assumption) | apply gL | apply gA | apply gD | apply gN | (refine gS ?_ (by first | (simp; done) | (simp; omega) | omega))))))
          · go_wp2_with (first
              | (go_at_call 126; refine (contains_calls _ _ _ _ _ ?hs).mono ?_; (case hs => exact HO'.below (by repeat (first | exact Below.refl _ _ | (with_reducible assumption) | apply gL | apply gA | apply gD | apply gN | (refine gS ?_ (by first | (simp; done) | (simp; omega) | omega))))); (rintro e w' hr; first | ((with_reducible replace hr := Ret.up hr); obtain ⟨rfl, z, rfl⟩ := hr) | (obtain ⟨rfl, z, rfl⟩ := hr)))
              | (go_at_call 108; refine (minute_calls4 e HE4 HE c _ m1 m2 m3 m4).mono ?_; (rintro e w' hr; first | ((with_reducible replace hr := Ret.up hr); obtain ⟨rfl, z, rfl⟩ := hr) | (obtain ⟨rfl, z, rfl⟩ := hr))))
            go_roundw
            case rel => exact ⟨later_ex (by repeat (first | exact Below.refl _ _ | (with_reducible assumption) | apply gL | apply gA | apply gD | apply gN | (refine gS ?_ (by first | (simp; done) | (simp; omega) | omega)))), k + 1, true, tru e c, by omega, by go_num, rfl, rfl, by rw [HS2.out]; exact hn.next (by omega)⟩
            case measure => simp [intOf]; omega
    · obtain rfl : k = h.clips.length := by omega
      rw [List.take_length] at hn
      have HF := Lib.hid (show h.risingB e out = true from hn.1)
      go_wp2
      go_ret
      exact ret_mk (ret_bool HF.out.symm) (hb1.trans (below_mono_of hb1 (by repeat (first | exact Below.refl _ _ | (with_reducible assumption) | apply gL | apply gA | apply gD | apply gN | (refine gS ?_ (by first | (simp; done) | (simp; omega) | omega))))))

theorem rising_calls4 {e0 e1 e2 e3 : Int} (v : Value) (h : Hs) (e : List Int) (H4 : Hid (e4 e = [.int .i64 e0, .int .i64 e1, .int .i64 e2, .int .i64 e3])) (A : Option Addr) (c : Nat) (out : List Int) (w : World) (H : HsAt w v h) (HO : SlA w 1 gI A c out) (he : ErrOk e) (hc : ClipsOk h.clips) (hl : h.clips.length ≤ 1000) :
    Calls Try.prog 111 #[v, .agg #[.int .i64 e0, .int .i64 e1, .int .i64 e2, .int .i64 e3], .slice A out.length c] w (Ret (.bool (h.risingB e out)) w) := by
  have := rising_calls v h e A c out w H HO he hc hl
  rw [H4.out] at this
  exact this
end Go.Proofs.Ytcngnfnljkkjgaa
