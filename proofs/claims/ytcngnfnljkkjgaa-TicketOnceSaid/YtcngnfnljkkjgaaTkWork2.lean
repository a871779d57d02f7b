/-
Whether a ticket stayed too long in a truth; from which minute on a tub is free.
-/
import Derived.Test.YtcngnfnljkkjgaaTkWork1
namespace Go.Proofs.Ytcngnfnljkkjgaa
open Go.RowKit
attribute [local go_sem] cell_later frozen_later lt_later le_later

def Hs.longB (h : Hs) (e : List Int) (t : Nat) : Bool := match h.tickets[t]? with
  | some x => decide (x.hours < h.hoursB e t)
  | none => false

set_option maxHeartbeats 1000000 in
theorem long_calls (g : Nat) (h : Hs) (e : List Int) {e0 e1 e2 e3 : Int} (H4 : Hid (e4 e = [.int .i64 e0, .int .i64 e1, .int .i64 e2, .int .i64 e3])) (he : Hid (ErrOk e)) (t : Nat) (ht : t < h.tickets.length) (w : World) (H : WkAt w g h) (hf : Hid (h.fault = 0)) :
    Calls Try.prog 87 #[.pointer (some ⟨g, 0, none⟩), .agg #[.int .i64 e0, .int .i64 e1, .int .i64 e2, .int .i64 e3], .int .i64 t] w (Ret (.bool (h.longB e t)) w) := by
  have H0 := H
  obtain ⟨A2, c2, A3, c3, A4, c4, A5, c5, r, l, h2, h3, h4, h5, h6, h7, h8⟩ := H
  have hgl := h8.lt
  have k3 := h8.cell 3
  simp only [List.getElem?_cons_zero, List.getElem?_cons_succ] at k3
  obtain ⟨b, off, x, rfl, hbl, hx, i0, i1⟩ := h3.atT ht
  have HR := Lib.hid (show h.longB e t = decide (x.hours < h.hoursB e t) by simp [Hs.longB, hx])
  have ht1 : (t : Int) < (h.tickets.length : Int) := by omega
  have ht0 : (0 : Int) ≤ (t : Int) := Int.natCast_nonneg _
  obtain ⟨W1, hW1⟩ : ∃ W1, W1 = w.alloc (.cells #[.int .i64 e0, .int .i64 e1, .int .i64 e2, .int .i64 e3] 119) := ⟨_, rfl⟩
  have hb1 : Below w.heap.size w W1 := by rw [hW1]; exact (by repeat (first | exact Below.refl _ _ | (with_reducible assumption) | apply gL | apply gA | apply gD | apply gN | (refine gS ?_ (by first | (simp; done) | (simp; omega) | omega))))
  have q0 : W1.cell? ⟨w.heap.size, 0, none⟩ = some (.int .i64 e0) := by rw [hW1]; simp [go_sem]
  have q1 : W1.cell? ⟨w.heap.size, 1, none⟩ = some (.int .i64 e1) := by rw [hW1]; simp [go_sem]
  have q2 : W1.cell? ⟨w.heap.size, 2, none⟩ = some (.int .i64 e2) := by rw [hW1]; simp [go_sem]
  have q3 : W1.cell? ⟨w.heap.size, 3, none⟩ = some (.int .i64 e3) := by rw [hW1]; simp [go_sem]
  have hq := World.block_lt_of_cell? W1 _ q0
  simp only at hq
  have hw1 := H0.below hb1
  have y3 := (hb1.cell (p := ⟨g, 3, none⟩) hgl).trans k3
  have z1 := (hb1.cell (p := ⟨b, off + t * 2 + 1, none⟩) hbl).trans i1
  have hgl1 : g < W1.heap.size := Nat.lt_of_lt_of_le hgl hb1.size
  have hbl1 : b < W1.heap.size := Nat.lt_of_lt_of_le hbl hb1.size
  clear h2 h3 h4 h5 h6 h7 h8 hx H0 k3 i0 i1
  go_enter Try.func87, Try.ntmps87
  go_wp2
  rw [← hW1]
  clear hW1
  refine region_later (by kernel_rfl) (by kernel_rfl) ?_
  repeat (go_big_quiet_step (first | with_reducible exact quiet_ret (hours_calls g h e H4 he t _ hw1.later hf)))
  refine wpQuiet_nil ?_
  rintro W' ⟨y, rfl⟩
  go_wp2
  go_ret
  exact ret_mk (ret_bool HR.out.symm) (hb1.trans (below_mono_of hb1 (by repeat (first | exact Below.refl _ _ | (with_reducible assumption) | apply gL | apply gA | apply gD | apply gN | (refine gS ?_ (by first | (simp; done) | (simp; omega) | omega))))))

/-- From which minute on a tub is free. -/
def Hs.fromAt (h : Hs) (e : List Int) (tub n : Int) (i : Nat) : Int := match h.tickets[i]? with
  | some x => if x.tub = tub ∧ (h.ofs i).length = 2 then max n (tru e ((h.ofs i).getD 1 ⟨0, 0, 0⟩)) else n
  | none => n
def Hs.fromB (h : Hs) (e : List Int) (tub : Int) : Int := (List.range h.tickets.length).foldl (h.fromAt e tub) 0

set_option maxHeartbeats 2000000 in
theorem from_calls (g : Nat) (h : Hs) (e : List Int) {e0 e1 e2 e3 : Int} (H4 : Hid (e4 e = [.int .i64 e0, .int .i64 e1, .int .i64 e2, .int .i64 e3])) (he : Hid (ErrOk e)) (tub : Int) (w : World) (H : WkAt w g h) (hf : Hid (h.fault = 0)) :
    Calls Try.prog 96 #[.pointer (some ⟨g, 0, none⟩), .agg #[.int .i64 e0, .int .i64 e1, .int .i64 e2, .int .i64 e3], .int .i64 tub] w (Ret (.int .i64 (h.fromB e tub)) w) := by
  have H0 := H
  obtain ⟨A2, c2, A3, c3, A4, c4, A5, c5, r, l, h2, h3, h4, h5, h6, h7, h8⟩ := H
  have hl : h.clips.length ≤ 1000 := by have := (small_iff.1 (fault_zero hf.out).1).2.2; omega
  have hhs : HsAt w (.agg #[.int .i64 h.hour, .int .i64 h.grace, .slice A2 h.clocks.length c2, .slice A3 h.tickets.length c3, .slice A4 h.clips.length c4]) h := ⟨A2, c2, A3, c3, A4, c4, rfl, h2, h3, h4⟩
  have hgl := h8.lt
  have kk3 := h8.cell 3
  simp only [List.getElem?_cons_zero, List.getElem?_cons_succ] at kk3
  obtain ⟨W1, hW1⟩ : ∃ W1, W1 = w.alloc (.cells #[.int .i64 e0, .int .i64 e1, .int .i64 e2, .int .i64 e3] 119) := ⟨_, rfl⟩
  have hb1 : Below w.heap.size w W1 := by rw [hW1]; exact (by repeat (first | exact Below.refl _ _ | (with_reducible assumption) | apply gL | apply gA | apply gD | apply gN | (refine gS ?_ (by first | (simp; done) | (simp; omega) | omega))))
  have q0 : W1.cell? ⟨w.heap.size, 0, none⟩ = some (.int .i64 e0) := by rw [hW1]; simp [go_sem]
  have q1 : W1.cell? ⟨w.heap.size, 1, none⟩ = some (.int .i64 e1) := by rw [hW1]; simp [go_sem]
  have q2 : W1.cell? ⟨w.heap.size, 2, none⟩ = some (.int .i64 e2) := by rw [hW1]; simp [go_sem]
  have q3 : W1.cell? ⟨w.heap.size, 3, none⟩ = some (.int .i64 e3) := by rw [hW1]; simp [go_sem]
  have hq := World.block_lt_of_cell? W1 _ q0
  simp only at hq
  have h81 := h8.of_below hb1 hgl
  have y0 := h81.cell 0
  have y1 := h81.cell 1
  have y2 := h81.cell 2
  have y3 := h81.cell 3
  have y4 := h81.cell 4
  simp only [List.getElem?_cons_zero, List.getElem?_cons_succ] at y0 y1 y2 y3 y4
  have hhs1 := hhs.below hb1
  have h31 := h3.below hb1
  have hgl1 : g < W1.heap.size := Nat.lt_of_lt_of_le hgl hb1.size
  have ht6 : h.tickets.length ≤ 6 := (small_iff.1 (fault_zero hf.out).1).2.1
  have hc4 : h.clocks.length ≤ 4 := (small_iff.1 (fault_zero hf.out).1).1
  clear h2 h3 h4 h5 h6 h7 h8 H0 h81 hhs
  go_enter Try.func96, Try.ntmps96
  go_wp2
  rw [← hW1]
  clear hW1 kk3
  go_loopw [6, 16] (fun v i wr => ∃ k : Nat, k ≤ h.tickets.length ∧ i = .int .i64 k ∧ v = .int .i64 ((List.range k).foldl (h.fromAt e tub) 0) ∧ ∃ x, wr = later W1 x) (fun _ i _ => h.tickets.length - (intOf i).toNat)
  case atStart => exact ⟨0, Nat.zero_le _, rfl, rfl, later_ex (Below.refl _ _)⟩
  case round =>
    obtain ⟨k, hk, rfl, rfl, x, rfl⟩ := hrel
    by_cases hlt : k < h.tickets.length
    · have hlt1 : (k : Int) < (h.tickets.length : Int) := by omega
      have hk0 : (0 : Int) ≤ (k : Int) := Int.natCast_nonneg _
      obtain ⟨b, off, tk, rfl, hbl, htk, t0, t1⟩ := h31.atT hlt
      obtain ⟨n, hn⟩ : ∃ n, n = (List.range k).foldl (h.fromAt e tub) 0 := ⟨_, rfl⟩
      have HS := Lib.hid (show (List.range (k + 1)).foldl (h.fromAt e tub) 0 = (if tk.tub = tub ∧ (h.ofs k).length = 2 then max n (tru e ((h.ofs k).getD 1 ⟨0, 0, 0⟩)) else n) by
        rw [List.range_succ, List.foldl_append, ← hn, List.foldl_cons, List.foldl_nil, Hs.fromAt, htk])
      rw [← hn]
      clear hn htk
      by_cases hc : tk.tub = tub ∧ (h.ofs k).length = 2
      · obtain ⟨rfl, hlen⟩ := hc
        obtain ⟨x1, hx1⟩ : ∃ x, (h.ofs k)[1]? = some x := ⟨_, List.getElem?_eq_getElem (by omega)⟩
        obtain ⟨p0, p1, p2, p3, p4, p5⟩ := fault_clips hf.out (ofs_mem hx1)
        have p3' : x1.ck < 4 := by omega
        have HS2 := Lib.hid (show (List.range (k + 1)).foldl (h.fromAt e tk.tub) 0 = max n (tru e x1) by
          rw [HS.out, if_pos ⟨rfl, hlen⟩, List.getD_eq_getElem?_getD, hx1]; rfl)
        have HX := Lib.hid hx1
        have HL := Lib.hid hlen
        clear HS hx1 hlen
        go_wp2_with (first | (go_at_call 119; refine (of_calls _ h k _ ?hh hl).mono ?_; (case hh => exact hhs1.below (by repeat (first | exact Below.refl _ _ | (with_reducible assumption) | apply gL | apply gA | apply gD | apply gN | (refine gS ?_ (by first | (simp; done) | (simp; omega) | omega))))); (rintro e w' hr; first | ((with_reducible replace hr := RetSl.up hr); obtain ⟨A, c, rfl, ⟨z, rfl⟩, hsl⟩ := hr) | (obtain ⟨A, c, rfl, ⟨z, rfl⟩, hsl⟩ := hr)); rw [HL.out]))
        obtain ⟨W2, hW2⟩ : ∃ W2, W2 = later ((later W1 x).alloc (.cells #[.int .i64 tk.tub, .int .i64 tk.hours] 114)) z := ⟨_, rfl⟩
        have hb2 : Below W1.heap.size W1 W2 := by rw [hW2]; exact (by repeat (first | exact Below.refl _ _ | (with_reducible assumption) | apply gL | apply gA | apply gD | apply gN | (refine gS ?_ (by first | (simp; done) | (simp; omega) | omega))))
        rw [← hW2] at hsl ⊢
        clear hW2
        have s0 := (hb2.cell (p := ⟨w.heap.size, 0, none⟩) hq).trans q0
        have s1 := (hb2.cell (p := ⟨w.heap.size, 1, none⟩) hq).trans q1
        have s2 := (hb2.cell (p := ⟨w.heap.size, 2, none⟩) hq).trans q2
        have s3 := (hb2.cell (p := ⟨w.heap.size, 3, none⟩) hq).trans q3
        have hq2 : w.heap.size < W2.heap.size := Nat.lt_of_lt_of_le hq hb2.size
        obtain ⟨b', off', x', rfl, hbl', hx', j0, j1, j2⟩ := hsl.atC (i := 1) (by rw [HL.out]; omega)
        obtain rfl : x' = x1 := by rw [HX.out] at hx'; exact (Option.some.inj hx').symm
        simp only [Nat.one_mul] at j0 j1 j2
        have hmx : (if n < tru e x' then tru e x' else n) = max n (tru e x') := by omega
        clear hx' hsl
        refine region_later (by kernel_rfl) (by kernel_rfl) ?_
        repeat (go_big_quiet_step (first | with_reducible exact quiet_ret (minute_calls4 e H4 he x' _ p2 p3' p4 p5)))
        refine wpQuiet_nil ?_
        rintro W' ⟨y, rfl⟩
        go_wp2
        go_roundw
        case rel => exact ⟨k + 1, by omega, by go_num, by rw [HS2.out], later_ex (later_below hb2 hb2.size)⟩
        case measure => simp [intOf]; omega
      · have HS2 := Lib.hid (show (List.range (k + 1)).foldl (h.fromAt e tub) 0 = n by rw [HS.out, if_neg hc])
        by_cases ht : tk.tub = tub
        · have ht1 : (tk.tub == tub) = true := by simpa using ht
          have hlen : ¬ (((h.ofs k).length : Int) = 2) := fun hh => hc ⟨ht, by omega⟩
          have hlen1 : (((h.ofs k).length : Int) == 2) = false := by simpa using hlen
          clear HS hc ht
          go_wp2_with (first | (go_at_call 119; refine (of_calls _ h k _ ?hh hl).mono ?_; (case hh => exact hhs1.below (by repeat (first | exact Below.refl _ _ | (with_reducible assumption) | apply gL | apply gA | apply gD | apply gN | (refine gS ?_ (by first | (simp; done) | (simp; omega) | omega))))); (rintro e w' hr; first | ((with_reducible replace hr := RetSl.up hr); obtain ⟨A, c, rfl, ⟨z, rfl⟩, hsl⟩ := hr) | (obtain ⟨A, c, rfl, ⟨z, rfl⟩, hsl⟩ := hr))))
          go_roundw
          case rel => exact ⟨k + 1, by omega, by go_num, by rw [HS2.out], later_ex (by repeat (first | exact Below.refl _ _ | (with_reducible assumption) | apply gL | apply gA | apply gD | apply gN | (refine gS ?_ (by first | (simp; done) | (simp; omega) | omega))))⟩
          case measure => simp [intOf]; omega
        · have ht1 : (tk.tub == tub) = false := by simpa using ht
          clear HS hc
          go_wp2_with (first | (go_at_call 119; refine (of_calls _ h k _ ?hh hl).mono ?_; (case hh => exact hhs1.below (by repeat (first | exact Below.refl _ _ | (with_reducible assumption) | apply gL | apply gA | apply gD | apply gN | (refine gS ?_ (by first | (simp; done) | (simp; omega) | omega))))); (rintro e w' hr; first | ((with_reducible replace hr := RetSl.up hr); obtain ⟨A, c, rfl, ⟨z, rfl⟩, hsl⟩ := hr) | (obtain ⟨A, c, rfl, ⟨z, rfl⟩, hsl⟩ := hr))))
          go_roundw
          case rel => exact ⟨k + 1, by omega, by go_num, by rw [HS2.out], later_ex (by repeat (first | exact Below.refl _ _ | (with_reducible assumption) | apply gL | apply gA | apply gD | apply gN | (refine gS ?_ (by first | (simp; done) | (simp; omega) | omega))))⟩
          case measure => simp [intOf]; omega
    · obtain rfl : k = h.tickets.length := by omega
      go_wp2
      go_ret
      exact ret_mk rfl (hb1.trans (below_mono_of hb1 (by repeat (first | exact Below.refl _ _ | (with_reducible assumption) | apply gL | apply gA | apply gD | apply gN | (refine gS ?_ (by first | (simp; done) | (simp; omega) | omega))))))
end Go.Proofs.Ytcngnfnljkkjgaa
