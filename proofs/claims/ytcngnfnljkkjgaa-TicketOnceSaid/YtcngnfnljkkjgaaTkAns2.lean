/-
Which tickets stayed too long.
-/
import Derived.Test.YtcngnfnljkkjgaaTkAns1
namespace Go.Proofs.Ytcngnfnljkkjgaa
open Go.RowKit
attribute [local go_sem] cell_later frozen_later lt_later le_later

theorem longd_calls (g : Nat) (h : Hs) (e : List Int) {e0 e1 e2 e3 : Int} (H4 : Hid (e4 e = [.int .i64 e0, .int .i64 e1, .int .i64 e2, .int .i64 e3])) (he : Hid (ErrOk e)) (t : Nat) (ht : t < h.tickets.length) (w : World) (H : WkAt w g h) (hf : Hid (h.fault = 0))
    (p q : Nat) (hp : w.cell? ⟨p, 0, none⟩ = some (.pointer (some ⟨g, 0, none⟩))) (hq : w.cell? ⟨q, 0, none⟩ = some (.int .i64 t)) :
    Calls Try.prog 86 #[.agg #[.int .i64 e0, .int .i64 e1, .int .i64 e2, .int .i64 e3], .pointer (some ⟨p, 0, none⟩), .pointer (some ⟨q, 0, none⟩)] w (Ret (.bool (h.longB e t)) w) := by
  have hpl := World.block_lt_of_cell? w _ hp
  have hql := World.block_lt_of_cell? w _ hq
  simp only at hpl hql
  go_enter Try.func86, Try.ntmps86
  go_wp2_with (first | (go_at_call 87; refine (long_calls g h e H4 he t ht _ ?hw hf).mono ?_; (case hw => exact H.below (by repeat (first | exact Below.refl _ _ | (with_reducible assumption) | apply gL | apply gA | apply gD | apply gN | (refine gS ?_ (by first | (simp; done) | (simp; omega) | omega))))); (rintro e w' hr; first | ((with_reducible replace hr := Ret.up hr); obtain ⟨rfl, z, rfl⟩ := hr) | (obtain ⟨rfl, z, rfl⟩ := hr))))
  go_ret
  exact ret_mk rfl (by repeat (first | exact Below.refl _ _ | (with_reducible assumption) | apply gL | apply gA | apply gD | apply gN | (refine gS ?_ (by first | (simp; done) | (simp; omega) | omega))))

def Hs.longV (h : Hs) (i : Nat) : Int := verdictB h.truths fun e => h.longB e i
def Hs.longL (h : Hs) : List Int := if h.askE 0 = 0 then (List.range h.tickets.length).map h.longV else []

set_option maxHeartbeats 2000000 in
theorem long_all_calls (v : Value) (h : Hs) (w : World) (H : HsAt w v h) :
    Calls Try.prog 31 #[v] w (RetSlN 1 gI h.longL (h.askE 0) w) := by
  have H0 := H
  obtain ⟨A2, c2, A3, c3, A4, c4, rfl, H2, H3, H4⟩ := H
  by_cases ha : h.askE 0 = 0
  · obtain ⟨hf, -, hne⟩ := askE_zero ha
    have hlen : h.tickets.length ≤ 6 := (small_iff.1 (fault_zero hf).1).2.1
    have HL := Lib.hid (show h.longL = (List.range h.tickets.length).map h.longV by rw [Hs.longL, if_pos ha])
    have HA := Lib.hid ha
    have HF := Lib.hid hf
    obtain ⟨i0, hi, hz0, hz1, hz2⟩ := info_parts infoInt
    clear ha hf hne
    go_enter Try.func31, Try.ntmps31
    go_wp2_with (first | (go_at_call 79; refine (asked_ok _ h 0 _ ?hh HA.out).mono ?_; (case hh => exact H0.below (by repeat (first | exact Below.refl _ _ | (with_reducible assumption) | apply gL | apply gA | apply gD | apply gN | (refine gS ?_ (by first | (simp; done) | (simp; omega) | omega))))); (rintro e w' hr; (first | (with_reducible replace hr := RetWk.up hr) | skip); obtain ⟨g, rfl, ⟨z, rfl⟩, hwk⟩ := hr)))
    obtain ⟨W1, hW1⟩ : ∃ W1, W1 = (later (w.alloc (.cells #[.int .i64 h.hour, .int .i64 h.grace, .slice A2 h.clocks.length c2, .slice A3 h.tickets.length c3, .slice A4 h.clips.length c4] 36)) z).alloc (.cells #[.pointer (some ⟨g, 0, none⟩)] 106) := ⟨_, rfl⟩
    have hb1 : Below w.heap.size w W1 := by rw [hW1]; exact (by repeat (first | exact Below.refl _ _ | (with_reducible assumption) | apply gL | apply gA | apply gD | apply gN | (refine gS ?_ (by first | (simp; done) | (simp; omega) | omega))))
    obtain ⟨p, hp⟩ : ∃ p, p = (later (w.alloc (.cells #[.int .i64 h.hour, .int .i64 h.grace, .slice A2 h.clocks.length c2, .slice A3 h.tickets.length c3, .slice A4 h.clips.length c4] 36)) z).heap.size := ⟨_, rfl⟩
    have hwk1 : WkAt W1 g h := by rw [hW1]; exact hwk.below (gA (Below.refl _ _))
    have hB1 : BlkAt W1 p 106 [.pointer (some ⟨g, 0, none⟩)] := by rw [hW1, hp]; exact BlkAt.new _ _ _
    rw [← hW1, ← hp]
    clear hW1 hp hwk
    have hpl := hB1.lt
    go_loopw [6, 19] (fun v i wr => ∃ k : Nat, k ≤ h.tickets.length ∧ i = .int .i64 k ∧ Below W1.heap.size W1 wr ∧ wr.ownsRow W1.heap.size 3 1 v k (((List.range k).map h.longV).flatMap gI)) (fun _ i _ => h.tickets.length - (intOf i).toNat)
    case atStart => exact ⟨0, Nat.zero_le _, rfl, Below.refl _ _, World.ownsRow_nil _ _ _ _⟩
    case round =>
      obtain ⟨k, hk, rfl, hb, hown⟩ := hrel
      have hbw : Below w.heap.size w wr := hb1.trans (hb.mono hb1.size)
      by_cases hlt : k < h.tickets.length
      · have hlt1 : (k : Int) < (h.tickets.length : Int) := by omega
        have hk0 : (0 : Int) ≤ (k : Int) := Int.natCast_nonneg _
        obtain ⟨W2, hW2⟩ : ∃ W2, W2 = wr.alloc (.cells #[.int .i64 k] 3) := ⟨_, rfl⟩
        have hb2 : Below wr.heap.size wr W2 := by rw [hW2]; exact gA (Below.refl _ _)
        have hB2 : BlkAt W2 wr.heap.size 3 [.int .i64 k] := by rw [hW2]; exact BlkAt.new _ _ _
        have hBp := (hB1.of_below hb hpl).of_below hb2 (Nat.lt_of_lt_of_le hpl hb.size)
        have hwk' := (hwk1.below hb).below hb2
        have kp : W2.cell? ⟨p, 0, none⟩ = some (.pointer (some ⟨g, 0, none⟩)) := (hBp.cell 0).trans rfl
        have kq : W2.cell? ⟨wr.heap.size, 0, none⟩ = some (.int .i64 k) := (hB2.cell 0).trans rfl
        have hbp2 := hBp.lt
        have hbq2 := hB2.lt
        have hown2 := hown.alloc (.cells #[.int .i64 k] 3)
        rw [← hW2] at hown2
        have hcall := verdict_long g h (.pointer (some ⟨p, 0, none⟩)) (.pointer (some ⟨wr.heap.size, 0, none⟩)) (fun e => h.longB e k) W2 hwk' HF
          (Lib.hid (fun x e' _ _ _ _ hm he hbx => longd_calls g h e' (Lib.hid he) (Lib.hid (truth_ok HF.out hm)) k hlt x (hwk'.below hbx) HF p wr.heap.size ((hbx.cell (p := ⟨p, 0, none⟩) hbp2).trans kp) ((hbx.cell (p := ⟨wr.heap.size, 0, none⟩) hbq2).trans kq)))
        obtain ⟨R, hR⟩ : ∃ R, R = h.longV k := ⟨_, rfl⟩
        have hRv : R = verdictB h.truths (fun e => h.longB e k) := hR
        rw [← hRv] at hcall
        have HS := Lib.hid (show (List.range (k + 1)).map h.longV = (List.range k).map h.longV ++ [R] by rw [range_snoc, hR])
        have HCA := Lib.hid hcall
        have hsz2 : W2.heap.size = wr.heap.size + 1 := by rw [hW2]; simp
        have HSZ := Lib.hid hsz2
        clear hcall hR hRv hB2 hBp hwk' hsz2
        have kpr : wr.cell? ⟨p, 0, none⟩ = some (.pointer (some ⟨g, 0, none⟩)) := (hb.cell (p := ⟨p, 0, none⟩) hpl).trans ((hB1.cell 0).trans rfl)
        have hplr : p < wr.heap.size := Nat.lt_of_lt_of_le hpl hb.size
        have HW2 := Lib.hid hW2
        clear hW2
        go_wp2_with (first
          | (go_at_call 85; rw [← HW2.out]; refine HCA.out.mono ?_; (rintro e w' hr; first | ((with_reducible replace hr := Ret.up hr); obtain ⟨rfl, z, rfl⟩ := hr) | (obtain ⟨rfl, z, rfl⟩ := hr)))
          | (at_builtin; refine wpList_append_own _ rfl _ _ 47 rfl W1.heap.size 3 i0 (.int .i64 0) 1 8 Try.underlying47 hi hz0 hz1 hz2 rfl (by decide) _ _ _ rfl ((own_later hown2).alloc _) ⟨(later W2 z).heap.size, 0, none⟩ 1 1 (gI R) rfl rfl ?c1 ?c2 ?c3 ?c4 ?c5 ?_))
        case c1 => exact news_new _ _ rfl (gI R) _
        case c2 => simp [gI, Value.oneCell']
        case c3 => unfold maxLen; omega
        case c4 => omega
        case c5 => have := hb.size; have := HSZ.out; have := size_later W2 z; simp; omega
        intro v' w1 hown1 hg1 _
        have hb3 := grown_below (w := W1) (by exact gA (later_below (hb.trans (hb2.mono hb.size)) (hb.trans (hb2.mono hb.size)).size)) ((own_later (x := z) hown2).alloc (.cells #[.int .i64 R] 3)) (Nat.le_refl _) hg1
        go_wp2
        go_roundw
        case rel => exact ⟨k + 1, by omega, by go_num, hb3, by rw [HS.out]; simpa using hown1⟩
        case measure => simp [intOf]; omega
      · obtain rfl : k = h.tickets.length := by omega
        go_wp2
        obtain ⟨A, c, rfl, hs⟩ := SlA.of_own (k := 1) (g := gI) (l := (List.range h.tickets.length).map h.longV) hown (fun _ _ => rfl) (by simp) (by omega)
        go_ret2
        exact ⟨A, c, by rw [HL.out, HA.out]; rfl, later_ex hbw, by rw [HL.out]; exact hs⟩
  · have HE := Lib.hid ha
    have hb : (h.askE 0 != 0) = true := by simpa using ha
    have HL := Lib.hid (show h.longL = [] by rw [Hs.longL, if_neg ha])
    go_enter Try.func31, Try.ntmps31
    go_wp2_with (first | (go_at_call 79; refine (asked_bad _ h 0 _ ?hh HE.out).mono ?_; (case hh => exact H0.below (by repeat (first | exact Below.refl _ _ | (with_reducible assumption) | apply gL | apply gA | apply gD | apply gN | (refine gS ?_ (by first | (simp; done) | (simp; omega) | omega))))); (rintro e w' hr; first | ((with_reducible replace hr := Ret.up hr); obtain ⟨rfl, z, rfl⟩ := hr) | (obtain ⟨rfl, z, rfl⟩ := hr))))
    go_ret2
    exact retSlN_nil HL.out rfl (by repeat (first | exact Below.refl _ _ | (with_reducible assumption) | apply gL | apply gA | apply gD | apply gN | (refine gS ?_ (by first | (simp; done) | (simp; omega) | omega))))
end Go.Proofs.Ytcngnfnljkkjgaa
