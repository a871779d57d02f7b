/-
The reference's bounds.
The reference's bounds of the error of a clock.
The reference's bounds of the hours of a ticket.
-/
import Derived.Test.YtcngnfnljkkjgaaCmO
namespace Go.Proofs.Ytcngnfnljkkjgaa
open Go.RowKit
attribute [local go_sem] cell_later frozen_later lt_later le_later

theorem refempty_calls (w : World) : Calls Try.prog 83 #[] w (Ret (.agg #[.int .i64 1099511627776, .int .i64 (-1099511627776)]) w) := by
  go_enter Try.func83, Try.ntmps83
  go_wp2
  refine bodyPost_ret (v := .agg #[.int .i64 1099511627776, .int .i64 (-1099511627776)]) ?hr rfl (ret_mk rfl (by repeat (first | exact Below.refl _ _ | (with_reducible assumption) | apply gL | apply gA | apply gD | apply gN | (refine gS ?_ (by first | (simp; done) | (simp; omega) | omega)))))
  case hr => simp [results, Try.results83, go_sem]
theorem refwider_calls (lo hi n : Int) (w : World) : Calls Try.prog 84 #[.agg #[.int .i64 lo, .int .i64 hi], .int .i64 n] w (Ret (.agg #[.int .i64 (min lo n), .int .i64 (max hi n)]) w) := by
  obtain ⟨a, ha⟩ : ∃ a, a = min lo n := ⟨_, rfl⟩
  obtain ⟨b, hb⟩ : ∃ b, b = max hi n := ⟨_, rfl⟩
  rw [← ha, ← hb]
  by_cases h1 : n < lo
  · have h1' : ¬ lo ≤ n := by omega
    have ea : a = n := by omega
    by_cases h2 : hi < n
    · have h2' : ¬ n ≤ hi := by omega
      have eb : b = n := by omega
      subst ea
      rw [eb]
      clear ha hb eb
      go_enter Try.func84, Try.ntmps84
      go_wp2
      refine bodyPost_ret (v := .agg #[.int .i64 a, .int .i64 a]) ?hr rfl (ret_mk rfl (by repeat (first | exact Below.refl _ _ | (with_reducible assumption) | apply gL | apply gA | apply gD | apply gN | (refine gS ?_ (by first | (simp; done) | (simp; omega) | omega)))))
      case hr => simp [results, Try.results84, go_sem]
    · have h2' : n ≤ hi := by omega
      have eb : b = hi := by omega
      subst ea eb
      clear ha hb
      go_enter Try.func84, Try.ntmps84
      go_wp2
      refine bodyPost_ret (v := .agg #[.int .i64 a, .int .i64 b]) ?hr rfl (ret_mk rfl (by repeat (first | exact Below.refl _ _ | (with_reducible assumption) | apply gL | apply gA | apply gD | apply gN | (refine gS ?_ (by first | (simp; done) | (simp; omega) | omega)))))
      case hr => simp [results, Try.results84, go_sem]
  · have h1' : lo ≤ n := by omega
    have ea : a = lo := by omega
    by_cases h2 : hi < n
    · have h2' : ¬ n ≤ hi := by omega
      have eb : b = n := by omega
      subst ea eb
      clear ha hb
      go_enter Try.func84, Try.ntmps84
      go_wp2
      refine bodyPost_ret (v := .agg #[.int .i64 a, .int .i64 b]) ?hr rfl (ret_mk rfl (by repeat (first | exact Below.refl _ _ | (with_reducible assumption) | apply gL | apply gA | apply gD | apply gN | (refine gS ?_ (by first | (simp; done) | (simp; omega) | omega)))))
      case hr => simp [results, Try.results84, go_sem]
    · have h2' : n ≤ hi := by omega
      have eb : b = hi := by omega
      subst ea eb
      clear ha hb
      go_enter Try.func84, Try.ntmps84
      go_wp2
      refine bodyPost_ret (v := .agg #[.int .i64 a, .int .i64 b]) ?hr rfl (ret_mk rfl (by repeat (first | exact Below.refl _ _ | (with_reducible assumption) | apply gL | apply gA | apply gD | apply gN | (refine gS ?_ (by first | (simp; done) | (simp; omega) | omega)))))
      case hr => simp [results, Try.results84, go_sem]
end Go.Proofs.Ytcngnfnljkkjgaa
namespace Go.Proofs.Ytcngnfnljkkjgaa
open Go.RowKit
attribute [local go_sem] cell_later frozen_later lt_later le_later

theorem fold_take {g : Int → Int → Int} {l : List (List Int)} {f : List Int → Int} {a : Int} {k : Nat} {e : List Int} (hx : l[k]? = some e) : ((l.take (k + 1)).map f).foldl g a = g (((l.take k).map f).foldl g a) (f e) := by
  rw [List.take_add_one, hx]
  simp

set_option maxHeartbeats 2000000 in
theorem refclock_calls (A : Option Addr) (c : Nat) (l : List (List Int)) (k0 n : Nat) (w : World) (HL : LsAt w A c l) (hok : ∀ e ∈ l, ErrOk e ∧ e.length = n) (hk0 : k0 < n) :
    Calls Try.prog 29 #[.slice A l.length c, .int .i64 k0] w (Ret (.agg #[.int .i64 (loR l fun e => err e (k0 : Int)), .int .i64 (hiR l fun e => err e (k0 : Int))]) w) := by
  have hlb := HL.2.1
  have hk00 : (0 : Int) ≤ (k0 : Int) := Int.natCast_nonneg _
  go_enter Try.func29, Try.ntmps29
  go_wp2_with (fail)
  refine (refempty_calls _).mono ?_
  (rintro e w' hr; first | ((with_reducible replace hr := Ret.up hr); obtain ⟨rfl, z, rfl⟩ := hr) | (obtain ⟨rfl, z, rfl⟩ := hr))
  go_wp2
  obtain ⟨b5, hb5⟩ : ∃ b, b = (later (w.alloc (.cells #[.int .i64 0, .int .i64 0] 44)) z).heap.size := ⟨_, rfl⟩
  obtain ⟨W1, hW1⟩ : ∃ W1, W1 = (later (w.alloc (.cells #[.int .i64 0, .int .i64 0] 44)) z).alloc (.cells #[.int .i64 1099511627776, .int .i64 (-1099511627776)] 44) := ⟨_, rfl⟩
  have hb1 : Below w.heap.size w W1 := by rw [hW1]; exact (by repeat (first | exact Below.refl _ _ | (with_reducible assumption) | apply gL | apply gA | apply gD | apply gN | (refine gS ?_ (by first | (simp; done) | (simp; omega) | omega))))
  have hB4 : BlkAt W1 w.heap.size 44 [.int .i64 0, .int .i64 0] := by rw [hW1]; exact (BlkAt.new _ _ _).later.alloc _
  have hB5 : BlkAt W1 b5 44 [.int .i64 1099511627776, .int .i64 (-1099511627776)] := by rw [hW1, hb5]; exact BlkAt.new _ _ _
  have hb5l : w.heap.size < b5 := by
    have := size_later (w.alloc (.cells #[.int .i64 0, .int .i64 0] 44)) z
    rw [hb5]
    simp at this ⊢
    omega
  rw [← hW1]
  simp only [← hb5]
  clear hW1 hb5
  go_loopw [6] (fun i wr => ∃ k : Nat, k ≤ l.length ∧ i = .int .i64 k ∧ KeepX b5 W1 wr ∧ BlkAt wr b5 44 [.int .i64 (((l.take k).map fun e => err e (k0 : Int)).foldl min 1099511627776), .int .i64 (((l.take k).map fun e => err e (k0 : Int)).foldl max (-1099511627776))]) (fun i _ => l.length - (intOf i).toNat)
  case atStart => exact ⟨0, Nat.zero_le _, rfl, KeepX.refl _ _, hB5⟩
  case round =>
    obtain ⟨k, hk, rfl, hkx, hX⟩ := hrel
    obtain ⟨LO, hLO⟩ : ∃ x, x = ((l.take k).map fun e => err e (k0 : Int)).foldl min 1099511627776 := ⟨_, rfl⟩
    obtain ⟨HI, hHI⟩ : ∃ x, x = ((l.take k).map fun e => err e (k0 : Int)).foldl max (-1099511627776) := ⟨_, rfl⟩
    rw [← hLO, ← hHI] at hX
    by_cases hlt : k < l.length
    · have hlt1 : (k : Int) < (l.length : Int) := by omega
      have hki : (0 : Int) ≤ (k : Int) := Int.natCast_nonneg _
      obtain ⟨b, off, e, B, d, rfl, hbl, hx, s0, hsl, -⟩ := HL.at hlt
      have hel := (hok e (List.mem_of_getElem? hx)).2
      obtain ⟨p, ofp, y, rfl, hpl, hy, t0⟩ := hsl.atI (i := k0) (by omega)
      have hyv : err e (k0 : Int) = y := by simp [err, List.getD_eq_getElem?_getD, hy]
      have hL1 := fold_take (g := min) (f := fun e => err e (k0 : Int)) (a := 1099511627776) hx
      have hH1 := fold_take (g := max) (f := fun e => err e (k0 : Int)) (a := -1099511627776) hx
      rw [← hLO] at hL1
      rw [← hHI] at hH1
      simp only [hyv] at hL1 hH1
      have HL1 := Lib.hid hL1
      have HH1 := Lib.hid hH1
      have s0 := hkx.cell ((hb1.cell (p := ⟨b, off + k, none⟩) hbl).trans s0) (by show b ≠ b5; omega)
      have t0 := hkx.cell ((hb1.cell (p := ⟨p, ofp + k0, none⟩) hpl).trans t0) (by show p ≠ b5; omega)
      have hsz := Nat.le_trans hb1.size hkx.size
      have hbl' := Nat.lt_of_lt_of_le hbl hsz
      have hpl' := Nat.lt_of_lt_of_le hpl hsz
      have hk1 : (k0 : Int) < (e.length : Int) := by omega
      have x0 := hX.cell 0
      have x1 := hX.cell 1
      have f0 := hX.frozen 0
      have f1 := hX.frozen 1
      simp only [List.getElem?_cons_zero, List.getElem?_cons_succ] at x0 x1
      have hlx := hX.lt
      have HEL := Lib.hid hel
      clear hx hy hyv hL1 hH1 hLO hHI hel hbl hpl hsl hsz
      go_wp2
      obtain ⟨C, hC⟩ : ∃ C, C = Same [⟨b5, 0, none⟩, ⟨b5, 1, none⟩, ⟨b, off + k, none⟩, ⟨p, ofp + k0, none⟩] wr := ⟨_, rfl⟩
      obtain ⟨G, hG⟩ : ∃ G, G = held C wr.drew := ⟨_, rfl⟩
      have hfs : ∀ a ∈ ([⟨b5, 0, none⟩, ⟨b5, 1, none⟩, ⟨b, off + k, none⟩, ⟨p, ofp + k0, none⟩] : List Addr), ∀ u, wr.cell? a = some u → ∀ x, (G x).cell? a = some u := fun a ha u hu x => by
        rw [hG, hC]
        exact same_held hu ha x
      have g0 := hfs _ (by simp) _ x0
      have g1 := hfs _ (by simp) _ x1
      have g2 := hfs _ (by simp) _ s0
      have g3 := hfs _ (by simp) _ t0
      clear hfs
      refine region_sk C [[], [], [], [1, 2], [3], [], [4, 5], [6], [0, 7], [8, 8, 0, 1, 2, 3, 4, 5, 6, 7, 8]] (.qs [0, 1, 2, 3, 4, 5, 6, 7] (.one 8 .done)) 9 (by kernel_rfl) (by kernel_rfl) (by kernel_rfl) (by rw [hC]; exact same_drew) ?_
      refine wpSk_qs (w0 := wr.drew) (by rw [hC]; exact same_drew) ?_
      rw [← hG]
      have HC' := Lib.hid hC
      clear hG hC
      simp only [List.filterMap_cons, List.filterMap_nil, List.getElem?_toArray, List.getElem?_cons_zero, List.getElem?_cons_succ]
      change wpQuiet _ _ _ _ [_, _, _, _, _, _, _, _] _
      repeat (go_big_quiet_step (fail))
      refine wpQuiet_nil ?_
      clear g0 g1 g2 g3
      refine wpSk_one rfl (fun K hK => ?_)
      go_simp
      refine (refwider_calls _ _ _ _).mono ?_
      rintro e' w' ⟨rfl, z2, rfl⟩
      obtain ⟨V, hV, hbV⟩ : ∃ V, V = later wr.drew z2 ∧ Below wr.heap.size wr V := ⟨_, rfl, Below.trans (gD (Below.refl _ _)) (below_later wr.drew z2)⟩
      rw [← hV]
      clear hV
      refine hK.out _ _ (by rw [HC'.out]; exact same_below hbV (by simp only [List.mem_cons, List.not_mem_nil, or_false]; rintro a (rfl | rfl | rfl | rfl) <;> assumption)) ?_
      clear hK K
      have hXV := hX.of_below hbV hlx
      have x0 := hXV.cell 0
      have x1 := hXV.cell 1
      have f0 := hXV.frozen 0
      have f1 := hXV.frozen 1
      simp only [List.getElem?_cons_zero, List.getElem?_cons_succ] at x0 x1
      have hlx := hXV.lt
      refine wpSk_done rfl (fun K hK => ?_)
      go_simp
      refine hK.out _ _ (noPanic_mk ?_)
      clear hK K
      go_wp2
      go_roundw
      case rel => exact ⟨k + 1, by omega, by go_num, ((hkx.trans (KeepX.of_below hbV)).trans (KeepX.set_ _ _ _)).trans (KeepX.set_ _ _ _), by rw [HL1.out, HH1.out]; exact (hXV.set_ 0 _).set_ 1 _⟩
      case measure => simp [intOf]; omega
    · obtain rfl : k = l.length := by omega
      rw [List.take_length] at hLO hHI
      have HLO := Lib.hid (show LO = loR l (fun e => err e (k0 : Int)) from hLO)
      have HHI := Lib.hid (show HI = hiR l (fun e => err e (k0 : Int)) from hHI)
      clear hLO hHI
      have hR := hkx.blk hB4 (by omega)
      have x0 := hX.cell 0
      have x1 := hX.cell 1
      have r0 := hR.cell 0
      have r1 := hR.cell 1
      have u0 := hR.frozen 0
      have u1 := hR.frozen 1
      simp only [List.getElem?_cons_zero, List.getElem?_cons_succ] at x0 x1 r0 r1
      have hlr := hR.lt
      have hlx := hX.lt
      go_wp2
      obtain ⟨W5, hW5⟩ : ∃ W5, W5 = (wr.setCell ⟨w.heap.size, 0, none⟩ (.int .i64 LO)).setCell ⟨w.heap.size, 1, none⟩ (.int .i64 HI) := ⟨_, rfl⟩
      rw [← hW5]
      have hB6 := (hR.set_ 0 (.int .i64 LO)).set_ 1 (.int .i64 HI)
      rw [← hW5] at hB6
      have hk5 : KeepX (w.heap.size) wr W5 := by rw [hW5]; exact (KeepX.set_ _ _ _).trans (KeepX.set_ _ _ _)
      clear hW5
      have c0 := hB6.cell 0
      have c1 := hB6.cell 1
      simp at c0 c1
      have hlow : Below w.heap.size w wr := hkx.low hb1 (by omega) hb1.size
      refine bodyPost_ret (v := .agg #[.int .i64 LO, .int .i64 HI]) ?hr rfl (ret_mk (by rw [HLO.out, HHI.out]) (hk5.low hlow (by omega) hlow.size))
      case hr => simp [results, Try.results29, go_sem, c0, c1]
end Go.Proofs.Ytcngnfnljkkjgaa
namespace Go.Proofs.Ytcngnfnljkkjgaa
open Go.RowKit
attribute [local go_sem] cell_later frozen_later lt_later le_later

set_option maxHeartbeats 2000000 in
theorem refhoursof_calls (v : Value) (h : Hs) (A : Option Addr) (c : Nat) (l : List (List Int)) (t : Nat) (w : World) (H : HsAt w v h) (HL : LsAt w A c l) (hok : ErrsOk h l) (hf : h.fault = 0) (ht : t < h.tickets.length) :
    Calls Try.prog 30 #[v, .slice A l.length c, .int .i64 t] w (Ret (.agg #[.int .i64 (loR l fun e => h.hoursB e (t : Int)), .int .i64 (hiR l fun e => h.hoursB e (t : Int))]) w) := by
  have hlb := HL.2.1
  have H0 := H
  obtain ⟨A2, c2, A3, c3, A4, c4, rfl, H2, H3, H4⟩ := H
  go_enter Try.func30, Try.ntmps30
  go_wp2_with (fail)
  refine (refempty_calls _).mono ?_
  (rintro e w' hr; first | ((with_reducible replace hr := Ret.up hr); obtain ⟨rfl, z, rfl⟩ := hr) | (obtain ⟨rfl, z, rfl⟩ := hr))
  go_wp2
  obtain ⟨b5, hb5⟩ : ∃ b, b = (later ((w.alloc (.cells #[.int .i64 h.hour, .int .i64 h.grace, .slice A2 h.clocks.length c2, .slice A3 h.tickets.length c3, .slice A4 h.clips.length c4] 26)).alloc (.cells #[.int .i64 0, .int .i64 0] 44)) z).heap.size := ⟨_, rfl⟩
  obtain ⟨W1, hW1⟩ : ∃ W1, W1 = (later ((w.alloc (.cells #[.int .i64 h.hour, .int .i64 h.grace, .slice A2 h.clocks.length c2, .slice A3 h.tickets.length c3, .slice A4 h.clips.length c4] 26)).alloc (.cells #[.int .i64 0, .int .i64 0] 44)) z).alloc (.cells #[.int .i64 1099511627776, .int .i64 (-1099511627776)] 44) := ⟨_, rfl⟩
  have hb1 : Below w.heap.size w W1 := by rw [hW1]; exact (by repeat (first | exact Below.refl _ _ | (with_reducible assumption) | apply gL | apply gA | apply gD | apply gN | (refine gS ?_ (by first | (simp; done) | (simp; omega) | omega))))
  have hB4 : BlkAt W1 (w.heap.size + 1) 44 [.int .i64 0, .int .i64 0] := by rw [hW1]; exact (by have := BlkAt.new (w.alloc (.cells #[.int .i64 h.hour, .int .i64 h.grace, .slice A2 h.clocks.length c2, .slice A3 h.tickets.length c3, .slice A4 h.clips.length c4] 26)) 44 [.int .i64 0, .int .i64 0]; rw [World.size_alloc] at this; exact this.later.alloc _)
  have hB5 : BlkAt W1 b5 44 [.int .i64 1099511627776, .int .i64 (-1099511627776)] := by rw [hW1, hb5]; exact BlkAt.new _ _ _
  have hb5l : (w.heap.size + 1) < b5 := by
    have := size_later ((w.alloc (.cells #[.int .i64 h.hour, .int .i64 h.grace, .slice A2 h.clocks.length c2, .slice A3 h.tickets.length c3, .slice A4 h.clips.length c4] 26)).alloc (.cells #[.int .i64 0, .int .i64 0] 44)) z
    rw [hb5]
    simp at this ⊢
    omega
  rw [← hW1]
  simp only [← hb5]
  have hB0 : BlkAt W1 w.heap.size 26 [.int .i64 h.hour, .int .i64 h.grace, .slice A2 h.clocks.length c2, .slice A3 h.tickets.length c3, .slice A4 h.clips.length c4] := by rw [hW1]; exact ((BlkAt.new _ _ _).alloc _).later.alloc _
  clear hW1 hb5
  go_loopw [8] (fun i wr => ∃ k : Nat, k ≤ l.length ∧ i = .int .i64 k ∧ KeepX b5 W1 wr ∧ BlkAt wr b5 44 [.int .i64 (((l.take k).map fun e => h.hoursB e (t : Int)).foldl min 1099511627776), .int .i64 (((l.take k).map fun e => h.hoursB e (t : Int)).foldl max (-1099511627776))]) (fun i _ => l.length - (intOf i).toNat)
  case atStart => exact ⟨0, Nat.zero_le _, rfl, KeepX.refl _ _, hB5⟩
  case round =>
    obtain ⟨k, hk, rfl, hkx, hX⟩ := hrel
    obtain ⟨LO, hLO⟩ : ∃ x, x = ((l.take k).map fun e => h.hoursB e (t : Int)).foldl min 1099511627776 := ⟨_, rfl⟩
    obtain ⟨HI, hHI⟩ : ∃ x, x = ((l.take k).map fun e => h.hoursB e (t : Int)).foldl max (-1099511627776) := ⟨_, rfl⟩
    rw [← hLO, ← hHI] at hX
    have hlow0 : Below w.heap.size w wr := hkx.low hb1 (by omega) hb1.size
    by_cases hlt : k < l.length
    · have hlt1 : (k : Int) < (l.length : Int) := by omega
      have hki : (0 : Int) ≤ (k : Int) := Int.natCast_nonneg _
      obtain ⟨b, off, e, B, d, rfl, hbl, hx, s0, hsl, -⟩ := HL.at hlt
      have hem := hok e (List.mem_of_getElem? hx)
      have hL1 := fold_take (g := min) (f := fun e => h.hoursB e (t : Int)) (a := 1099511627776) hx
      have hH1 := fold_take (g := max) (f := fun e => h.hoursB e (t : Int)) (a := -1099511627776) hx
      rw [← hLO] at hL1
      rw [← hHI] at hH1
      have C0 := Lib.hid (fun X (hX : Below w.heap.size w X) => refhours_calls _ h B d e t X (H0.below hX) (hsl.below hX) hem.2 hem.1 hf ht)
      obtain ⟨y, hy⟩ : ∃ y, y = h.hoursB e (t : Int) := ⟨_, rfl⟩
      rw [← hy] at hL1 hH1 C0
      have HL1 := Lib.hid hL1
      have HH1 := Lib.hid hH1
      have s0 := (hlow0.cell (p := ⟨b, off + k, none⟩) hbl).trans s0
      have hbl' := Nat.lt_of_lt_of_le hbl hlow0.size
      have x0 := hX.cell 0
      have x1 := hX.cell 1
      have fr0 := hX.frozen 0
      have fr1 := hX.frozen 1
      have hH0 := hkx.blk hB0 (by omega)
      have q0 := hH0.cell 0
      have q1 := hH0.cell 1
      have q2 := hH0.cell 2
      have q3 := hH0.cell 3
      have q4 := hH0.cell 4
      simp only [List.getElem?_cons_zero, List.getElem?_cons_succ] at x0 x1 q0 q1 q2 q3 q4
      have hlx := hX.lt
      have hlh := hH0.lt
      clear hx hy hL1 hH1 hLO hHI hem hbl hsl
      go_wp2
      obtain ⟨C, hC⟩ : ∃ C, C = Same [⟨b5, 0, none⟩, ⟨b5, 1, none⟩, ⟨b, off + k, none⟩, ⟨w.heap.size, 0, none⟩, ⟨w.heap.size, 1, none⟩, ⟨w.heap.size, 2, none⟩, ⟨w.heap.size, 3, none⟩, ⟨w.heap.size, 4, none⟩] wr := ⟨_, rfl⟩
      obtain ⟨G, hG⟩ : ∃ G, G = held C wr.drew := ⟨_, rfl⟩
      have hfs : ∀ a ∈ ([⟨b5, 0, none⟩, ⟨b5, 1, none⟩, ⟨b, off + k, none⟩, ⟨w.heap.size, 0, none⟩, ⟨w.heap.size, 1, none⟩, ⟨w.heap.size, 2, none⟩, ⟨w.heap.size, 3, none⟩, ⟨w.heap.size, 4, none⟩] : List Addr), ∀ u, wr.cell? a = some u → ∀ x, (G x).cell? a = some u := fun a ha u hu x => by
        rw [hG, hC]
        exact same_held hu ha x
      have g0 := hfs _ (by simp) _ x0
      have g1 := hfs _ (by simp) _ x1
      have g2 := hfs _ (by simp) _ s0
      have g3 := hfs _ (by simp) _ q0
      have g4 := hfs _ (by simp) _ q1
      have g5 := hfs _ (by simp) _ q2
      have g6 := hfs _ (by simp) _ q3
      have g7 := hfs _ (by simp) _ q4
      clear hfs
      refine region_sk C [[], [], [], [], [2, 3], [4], [], [1, 5, 6], [0, 7, 7], [8, 8, 0, 1, 2, 3, 4, 5, 6, 7, 8]] (.qs [0, 1, 2, 3, 4, 5, 6] (.one 7 (.one 8 .done))) 9 (by kernel_rfl) (by kernel_rfl) (by kernel_rfl) (by rw [hC]; exact same_drew) ?_
      refine wpSk_qs (w0 := wr.drew) (by rw [hC]; exact same_drew) ?_
      rw [← hG]
      have HC' := Lib.hid hC
      clear hG hC
      simp only [List.filterMap_cons, List.filterMap_nil, List.getElem?_toArray, List.getElem?_cons_zero, List.getElem?_cons_succ]
      change wpQuiet _ _ _ _ [_, _, _, _, _, _, _] _
      repeat (go_big_quiet_step (fail))
      refine wpQuiet_nil ?_
      clear g0 g1 g2 g3 g4 g5 g6 g7
      have hCb : ∀ V, Below wr.heap.size wr V → C V := fun V hV => by
        rw [HC'.out]
        exact same_below hV (by simp only [List.mem_cons, List.not_mem_nil, or_false]; rintro a (rfl | rfl | rfl | rfl | rfl | rfl | rfl | rfl) <;> assumption)
      have HCB := Lib.hid hCb
      clear hCb
      refine wpSk_one rfl (fun K hK => ?_)
      go_simp
      refine (C0.out _ (hlow0.trans ((gD (Below.refl _ _)).mono hlow0.size))).mono ?_
      rintro e' w' ⟨rfl, z2, rfl⟩
      obtain ⟨V, hV, hbV⟩ : ∃ V, V = later wr.drew z2 ∧ Below wr.heap.size wr V := ⟨_, rfl, Below.trans (gD (Below.refl _ _)) (below_later wr.drew z2)⟩
      rw [← hV]
      clear hV
      refine hK.out _ _ (HCB.out _ hbV) ?_
      clear hK K
      refine wpSk_one rfl (fun K hK => ?_)
      go_simp
      refine (refwider_calls _ _ _ _).mono ?_
      rintro e' w' ⟨rfl, z3, rfl⟩
      obtain ⟨V2, hV2, hbV2⟩ : ∃ V2, V2 = later V z3 ∧ Below wr.heap.size wr V2 := ⟨_, rfl, later_below hbV hbV.size⟩
      rw [← hV2]
      clear hV2
      refine hK.out _ _ (HCB.out _ hbV2) ?_
      clear hK K
      have hXV := hX.of_below hbV2 hlx
      have x0 := hXV.cell 0
      have x1 := hXV.cell 1
      have fr0 := hXV.frozen 0
      have fr1 := hXV.frozen 1
      simp only [List.getElem?_cons_zero, List.getElem?_cons_succ] at x0 x1
      have hlx := hXV.lt
      refine wpSk_done rfl (fun K hK => ?_)
      go_simp
      refine hK.out _ _ (noPanic_mk ?_)
      clear hK K
      go_wp2
      go_roundw
      case rel => exact ⟨k + 1, by omega, by go_num, ((hkx.trans (KeepX.of_below hbV2)).trans (KeepX.set_ _ _ _)).trans (KeepX.set_ _ _ _), by rw [HL1.out, HH1.out]; exact (hXV.set_ 0 _).set_ 1 _⟩
      case measure => simp [intOf]; omega
    · obtain rfl : k = l.length := by omega
      rw [List.take_length] at hLO hHI
      have HLO := Lib.hid (show LO = loR l (fun e => h.hoursB e (t : Int)) from hLO)
      have HHI := Lib.hid (show HI = hiR l (fun e => h.hoursB e (t : Int)) from hHI)
      clear hLO hHI
      have hR := hkx.blk hB4 (by omega)
      have x0 := hX.cell 0
      have x1 := hX.cell 1
      have r0 := hR.cell 0
      have r1 := hR.cell 1
      have u0 := hR.frozen 0
      have u1 := hR.frozen 1
      simp only [List.getElem?_cons_zero, List.getElem?_cons_succ] at x0 x1 r0 r1
      have hlr := hR.lt
      have hlx := hX.lt
      go_wp2
      obtain ⟨W5, hW5⟩ : ∃ W5, W5 = (wr.setCell ⟨w.heap.size + 1, 0, none⟩ (.int .i64 LO)).setCell ⟨w.heap.size + 1, 1, none⟩ (.int .i64 HI) := ⟨_, rfl⟩
      rw [← hW5]
      have hB6 := (hR.set_ 0 (.int .i64 LO)).set_ 1 (.int .i64 HI)
      rw [← hW5] at hB6
      have hk5 : KeepX (w.heap.size + 1) wr W5 := by rw [hW5]; exact (KeepX.set_ _ _ _).trans (KeepX.set_ _ _ _)
      clear hW5
      have c0 := hB6.cell 0
      have c1 := hB6.cell 1
      simp at c0 c1
      have hlow : Below w.heap.size w wr := hkx.low hb1 (by omega) hb1.size
      refine bodyPost_ret (v := .agg #[.int .i64 LO, .int .i64 HI]) ?hr rfl (ret_mk (by rw [HLO.out, HHI.out]) (hk5.low hlow (by omega) hlow.size))
      case hr => simp [results, Try.results30, go_sem, c0, c1]
end Go.Proofs.Ytcngnfnljkkjgaa
