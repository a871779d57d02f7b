/-
The chapter's examples, which each statement asks last.
-/
import Derived.Test.YtcngnfnljkkjgaaCmK
import Derived.Test.YtcngnfnljkkjgaaCmJ
namespace Go.Proofs.Ytcngnfnljkkjgaa
open Go.RowKit
attribute [local go_sem] cell_later frozen_later lt_later le_later

set_option maxRecDepth 100000 in
set_option maxHeartbeats 4000000 in
theorem awake_calls (w : World) : Calls Try.prog 23 #[] w (Ret (.bool true) w) := by
  go_enter Try.func23, Try.ntmps23
  -- Play
  go_wp2_with (fail)
  refine (two_nil 5 _).mono ?_
  rintro e w' ⟨v1, rfl, ⟨z, rfl⟩, H1⟩
  go_wp2_with (fail)
  obtain ⟨W1, hW1⟩ : ∃ W, W = (later w z).alloc (.cells #[.int .i64 0, .int .i64 3] 3) := ⟨_, rfl⟩
  have hb1 : Below w.heap.size w W1 := by rw [hW1]; exact (by repeat (first | exact Below.refl _ _ | (with_reducible assumption) | apply gL | apply gA | apply gD | apply gN | (refine gS ?_ (by first | (simp; done) | (simp; omega) | omega))))
  have K1 : HsAt W1 v1 (twoH 5 []) := by rw [hW1]; exact H1.below (gA (Below.refl _ _))
  have B1 : SlA W1 1 gI (some ⟨(later w z).heap.size, 0, none⟩) 2 [0, 3] := by rw [hW1]; exact SlA.of_blk (l := ([0, 3] : List Int)) (BlkAt.new _ _ _) (fun _ _ => rfl) (by decide)
  have CA := play_calls v1 _ _ _ _ W1 K1 B1
  rw [aw_play, aw_playE] at CA
  rw [← hW1]
  clear hW1 H1 K1 B1
  refine CA.mono ?_
  rintro e w' ⟨A1, c1, rfl, ⟨z1, rfl⟩, S1⟩
  obtain ⟨W, hW⟩ : ∃ W, W = later W1 z1 := ⟨_, rfl⟩
  have hb : Below w.heap.size w W := by rw [hW]; exact later_below hb1 hb1.size
  rw [← hW] at S1 ⊢
  clear CA hW hb1
  simp only [List.length_cons, List.length_nil]
  -- Clocks
  go_wp2_with (fail)
  refine (two_nil 5 _).mono ?_
  rintro e w' ⟨v, rfl, ⟨z, rfl⟩, H⟩
  go_wp2_with (fail)
  have CA := clocks_calls v _ _ H
  rw [aw_clocks, aw_ask5] at CA
  clear H
  refine CA.mono ?_
  rintro e w' ⟨A3, c3, rfl, ⟨z1, rfl⟩, S3⟩
  clear CA
  have hbV : Below W.heap.size W (later (later W z) z1) := (by repeat (first | exact Below.refl _ _ | (with_reducible assumption) | apply gL | apply gA | apply gD | apply gN | (refine gS ?_ (by first | (simp; done) | (simp; omega) | omega))))
  obtain ⟨W, hV, hbV, hb⟩ : ∃ V, V = later (later W z) z1 ∧ Below W.heap.size W V ∧ Below w.heap.size w V := ⟨_, rfl, hbV, hb.trans (hbV.mono hb.size)⟩
  rw [← hV] at S3 ⊢
  clear hV
  simp only [List.length_cons, List.length_nil]
  have S1 := S1.below hbV
  -- Hours
  go_wp2_with (fail)
  refine (two_nil 3 _).mono ?_
  rintro e w' ⟨v, rfl, ⟨z, rfl⟩, H⟩
  go_wp2_with (fail)
  have CA := hours_all_calls v _ _ H
  rw [aw_hours, aw_ask3] at CA
  clear H
  refine CA.mono ?_
  rintro e w' ⟨A5, c5, rfl, ⟨z1, rfl⟩, S5⟩
  clear CA
  have hbV : Below W.heap.size W (later (later W z) z1) := (by repeat (first | exact Below.refl _ _ | (with_reducible assumption) | apply gL | apply gA | apply gD | apply gN | (refine gS ?_ (by first | (simp; done) | (simp; omega) | omega))))
  obtain ⟨W, hV, hbV, hb⟩ : ∃ V, V = later (later W z) z1 ∧ Below W.heap.size W V ∧ Below w.heap.size w V := ⟨_, rfl, hbV, hb.trans (hbV.mono hb.size)⟩
  rw [← hV] at S5 ⊢
  clear hV
  simp only [List.length_cons, List.length_nil]
  have S1 := S1.below hbV
  have S3 := S3.below hbV
  -- Long
  go_wp2_with (fail)
  refine (two_nil 0 _).mono ?_
  rintro e w' ⟨v, rfl, ⟨z, rfl⟩, H⟩
  go_wp2_with (fail)
  have CA := long_all_calls v _ _ H
  rw [aw_long, aw_ask0] at CA
  clear H
  refine CA.mono ?_
  rintro e w' ⟨A7, c7, rfl, ⟨z1, rfl⟩, S7⟩
  clear CA
  have hbV : Below W.heap.size W (later (later W z) z1) := (by repeat (first | exact Below.refl _ _ | (with_reducible assumption) | apply gL | apply gA | apply gD | apply gN | (refine gS ?_ (by first | (simp; done) | (simp; omega) | omega))))
  obtain ⟨W, hV, hbV, hb⟩ : ∃ V, V = later (later W z) z1 ∧ Below W.heap.size W V ∧ Below w.heap.size w V := ⟨_, rfl, hbV, hb.trans (hbV.mono hb.size)⟩
  rw [← hV] at S7 ⊢
  clear hV
  simp only [List.length_cons, List.length_nil]
  have S1 := S1.below hbV
  have S3 := S3.below hbV
  have S5 := S5.below hbV
  -- Clash
  go_wp2_with (fail)
  refine (turned_calls _).mono ?_
  rintro e w' ⟨v, rfl, ⟨z, rfl⟩, H⟩
  go_wp2_with (fail)
  have CA := clash_all_calls v _ 0 1 _ H
  rw [aw_clash, aw_clashE] at CA
  clear H
  refine CA.mono ?_
  rintro e w' ⟨rfl, z1, rfl⟩
  clear CA
  have hbV : Below W.heap.size W (later (later W z) z1) := (by repeat (first | exact Below.refl _ _ | (with_reducible assumption) | apply gL | apply gA | apply gD | apply gN | (refine gS ?_ (by first | (simp; done) | (simp; omega) | omega))))
  obtain ⟨W, hV, hbV, hb⟩ : ∃ V, V = later (later W z) z1 ∧ Below W.heap.size W V ∧ Below w.heap.size w V := ⟨_, rfl, hbV, hb.trans (hbV.mono hb.size)⟩
  rw [← hV]
  clear hV
  have S1 := S1.below hbV
  have S3 := S3.below hbV
  have S5 := S5.below hbV
  have S7 := S7.below hbV
  -- Paid
  go_wp2_with (fail)
  refine (two_nil 3 _).mono ?_
  rintro e w' ⟨v, rfl, ⟨z, rfl⟩, H⟩
  go_wp2_with (fail)
  have CA := paid_all_calls v _ _ H
  rw [aw_paid, aw_ask3] at CA
  clear H
  refine CA.mono ?_
  rintro e w' ⟨rfl, z1, rfl⟩
  clear CA
  have hbV : Below W.heap.size W (later (later W z) z1) := (by repeat (first | exact Below.refl _ _ | (with_reducible assumption) | apply gL | apply gA | apply gD | apply gN | (refine gS ?_ (by first | (simp; done) | (simp; omega) | omega))))
  obtain ⟨W, hV, hbV, hb⟩ : ∃ V, V = later (later W z) z1 ∧ Below W.heap.size W V ∧ Below w.heap.size w V := ⟨_, rfl, hbV, hb.trans (hbV.mono hb.size)⟩
  rw [← hV]
  clear hV
  have S1 := S1.below hbV
  have S3 := S3.below hbV
  have S5 := S5.below hbV
  have S7 := S7.below hbV
  -- Free
  go_wp2_with (fail)
  refine (two_nil 5 _).mono ?_
  rintro e w' ⟨v, rfl, ⟨z, rfl⟩, H⟩
  go_wp2_with (fail)
  have CA := free_calls v _ 0 _ H (by decide) (by decide)
  rw [aw_free, aw_freeE] at CA
  clear H
  refine CA.mono ?_
  rintro e w' ⟨rfl, z1, rfl⟩
  clear CA
  have hbV : Below W.heap.size W (later (later W z) z1) := (by repeat (first | exact Below.refl _ _ | (with_reducible assumption) | apply gL | apply gA | apply gD | apply gN | (refine gS ?_ (by first | (simp; done) | (simp; omega) | omega))))
  obtain ⟨W, hV, hbV, hb⟩ : ∃ V, V = later (later W z) z1 ∧ Below W.heap.size W V ∧ Below w.heap.size w V := ⟨_, rfl, hbV, hb.trans (hbV.mono hb.size)⟩
  rw [← hV]
  clear hV
  have S1 := S1.below hbV
  have S3 := S3.below hbV
  have S5 := S5.below hbV
  have S7 := S7.below hbV
  -- Look
  go_wp2_with (fail)
  have hbV : Below W.heap.size W (W.alloc (.cells #[.int .i64 483, .int .i64 487] 42)) := gA (Below.refl _ _)
  have BX : BlkAt (W.alloc (.cells #[.int .i64 483, .int .i64 487] 42)) W.heap.size 42 [.int .i64 483, .int .i64 487] := BlkAt.new _ _ _
  obtain ⟨bx, hbx⟩ : ∃ b, b = W.heap.size := ⟨_, rfl⟩
  rw [← hbx] at BX ⊢
  obtain ⟨W, hV, hbV, hb⟩ : ∃ V, V = W.alloc (.cells #[.int .i64 483, .int .i64 487] 42) ∧ Below W.heap.size W V ∧ Below w.heap.size w V := ⟨_, rfl, hbV, hb.trans (hbV.mono hb.size)⟩
  rw [← hV] at BX ⊢
  clear hV hbx
  have S1 := S1.below hbV
  have S3 := S3.below hbV
  have S5 := S5.below hbV
  have S7 := S7.below hbV
  refine (two_nil 5 _).mono ?_
  rintro e w' ⟨v, rfl, ⟨z, rfl⟩, H⟩
  go_wp2_with (fail)
  have CA := look_calls v _ _ H
  rw [aw_look, aw_lookE] at CA
  clear H
  refine CA.mono ?_
  rintro e w' ⟨rfl, z1, rfl⟩
  clear CA
  have hbV : Below W.heap.size W (later (later W z) z1) := (by repeat (first | exact Below.refl _ _ | (with_reducible assumption) | apply gL | apply gA | apply gD | apply gN | (refine gS ?_ (by first | (simp; done) | (simp; omega) | omega))))
  obtain ⟨W, hV, hbV, hb⟩ : ∃ V, V = later (later W z) z1 ∧ Below W.heap.size W V ∧ Below w.heap.size w V := ⟨_, rfl, hbV, hb.trans (hbV.mono hb.size)⟩
  rw [← hV]
  clear hV
  have S1 := S1.below hbV
  have S3 := S3.below hbV
  have S5 := S5.below hbV
  have S7 := S7.below hbV
  have BX := BX.of_below hbV BX.lt
  -- First
  go_wp2_with (fail)
  refine (late_calls _).mono ?_
  rintro e w' ⟨rfl, z0, rfl⟩
  go_wp2_with (fail)
  obtain ⟨X, hX⟩ : ∃ X, X = (later W z0).alloc (.cells #[.int .i64 2, .int .i64 0, .int .i64 360] 104) := ⟨_, rfl⟩
  have hbX : Below W.heap.size W X := by rw [hX]; exact (by repeat (first | exact Below.refl _ _ | (with_reducible assumption) | apply gL | apply gA | apply gD | apply gN | (refine gS ?_ (by first | (simp; done) | (simp; omega) | omega))))
  have BL : BlkAt X (later W z0).heap.size 104 (gC lateC) := by rw [hX]; exact BlkAt.new _ _ _
  rw [← hX]
  clear hX
  refine (two_one 5 _ lateC X BL).mono ?_
  rintro e w' ⟨v, rfl, ⟨z, rfl⟩, H⟩
  clear BL
  go_wp2_with (fail)
  have CA := first_calls v _ _ H
  rw [aw_first, aw_firstE] at CA
  clear H
  refine CA.mono ?_
  rintro e w' ⟨rfl, z1, rfl⟩
  clear CA
  have hbV : Below W.heap.size W (later (later X z) z1) := hbX.trans ((Below.trans (below_later X z) ((below_later _ _).mono (size_later X z))).mono hbX.size)
  obtain ⟨W, hV, hbV, hb⟩ : ∃ V, V = later (later X z) z1 ∧ Below W.heap.size W V ∧ Below w.heap.size w V := ⟨_, rfl, hbV, hb.trans (hbV.mono hb.size)⟩
  rw [← hV]
  clear hV
  have S1 := S1.below hbV
  have S3 := S3.below hbV
  have S5 := S5.below hbV
  have S7 := S7.below hbV
  have BX := BX.of_below hbV BX.lt
  -- Leave
  go_wp2_with (fail)
  refine (late_calls _).mono ?_
  rintro e w' ⟨rfl, z0, rfl⟩
  go_wp2_with (fail)
  obtain ⟨X, hX⟩ : ∃ X, X = (later W z0).alloc (.cells #[.int .i64 2, .int .i64 0, .int .i64 360] 104) := ⟨_, rfl⟩
  have hbX : Below W.heap.size W X := by rw [hX]; exact (by repeat (first | exact Below.refl _ _ | (with_reducible assumption) | apply gL | apply gA | apply gD | apply gN | (refine gS ?_ (by first | (simp; done) | (simp; omega) | omega))))
  have BL : BlkAt X (later W z0).heap.size 104 (gC lateC) := by rw [hX]; exact BlkAt.new _ _ _
  rw [← hX]
  clear hX
  refine (two_one 5 _ lateC X BL).mono ?_
  rintro e w' ⟨v, rfl, ⟨z, rfl⟩, H⟩
  clear BL
  go_wp2_with (fail)
  have CA := leave_calls v _ _ H
  rw [aw_leave, aw_fault] at CA
  clear H
  refine CA.mono ?_
  rintro e w' ⟨A20, c20, rfl, ⟨z1, rfl⟩, S20⟩
  clear CA
  have hbV : Below W.heap.size W (later (later X z) z1) := hbX.trans ((Below.trans (below_later X z) ((below_later _ _).mono (size_later X z))).mono hbX.size)
  obtain ⟨W, hV, hbV, hb⟩ : ∃ V, V = later (later X z) z1 ∧ Below W.heap.size W V ∧ Below w.heap.size w V := ⟨_, rfl, hbV, hb.trans (hbV.mono hb.size)⟩
  rw [← hV] at S20 ⊢
  clear hV
  have S1 := S1.below hbV
  have S3 := S3.below hbV
  have S5 := S5.below hbV
  have S7 := S7.below hbV
  have BX := BX.of_below hbV BX.lt
  simp only [List.length_cons, List.length_nil]
  obtain ⟨b3, o3, y3, rfl, hl3, hy3, s30, s31⟩ := S3.atR (i := 1) (by decide)
  obtain ⟨b5, o5, y5, rfl, hl5, hy5, s50, s51⟩ := S5.atR (i := 0) (by decide)
  cases hy3
  cases hy5
  simp only [Nat.zero_mul, Nat.add_zero] at s50 s51
  have t0 := BX.cell 0
  have t1 := BX.cell 1
  simp only [List.getElem?_cons_zero, List.getElem?_cons_succ] at t0 t1
  have hbl := BX.lt
  go_wp2_with (fail)
  refine region_sk (fun V => ∃ x, V = later W x) [[], [0], [1], [2], [2], [3, 4, 2, 2], [2, 5], [6, 5], [7], [8, 7], [7, 9], [10, 7], [11], [12, 11], [13, 11], [11, 14], [15, 11], [16], [17, 16], [18, 16], [16, 16], [19, 20, 16], [16, 21], [22, 20], [23], [24, 23], [23, 25], [26, 23], [27], [28, 27], [29, 27], [27, 30], [31, 27], [32], [33, 32], [34, 32], [32, 32], [35, 36, 32], [32, 37], [38, 36], [39], [40, 39], [39, 41], [42, 39], [43], [43], [44, 45, 43, 43], [43, 46], [47, 46], [48], [49, 48], [48, 50], [51, 48], [52], [53, 52], [52, 54], [55, 52], [56], [57, 56], [56, 58], [59, 56], [60], [61, 60], [60, 62], [63, 60], [64], [65, 64], [64, 66], [67, 64], [68], [68, 68], [69, 70, 68], [68, 71], [72, 70], [73], [74, 73], [73, 75], [76, 73], [77], [78, 77], [77, 79], [80, 77], [81], [82, 81], [81, 83], [84, 81], [85], [86, 85], [85, 87], [88, 85], [89], [90, 89], [89, 91], [92, 89], [93], [94, 93], [93, 95], [96, 93], [97], [97], [98, 99, 97, 97], [97, 100], [101, 100, 0, 1, 2, 3, 4, 5, 6, 7, 8, 9, 10, 11, 12, 13, 14, 15, 16, 17, 18, 19, 20, 21, 22, 23, 24, 25, 26, 27, 28, 29, 30, 31, 32, 33, 34, 35, 36, 37, 38, 39, 40, 41, 42, 43, 44, 45, 46, 47, 48, 49, 50, 51, 52, 53, 54, 55, 56, 57, 58, 59, 60, 61, 62, 63, 64, 65, 66, 67, 68, 69, 70, 71, 72, 73, 74, 75, 76, 77, 78, 79, 80, 81, 82, 83, 84, 85, 86, 87, 88, 89, 90, 91, 92, 93, 94, 95, 96, 97, 98, 99, 100, 101]] (.qs [0, 1, 2, 3] (.one 4 (.one 5 (.qs (List.range' 6 7) (.one 13 (.qs (List.range' 14 6) (.one 20 (.qs (List.range' 21 8) (.one 29 (.qs (List.range' 30 6) (.one 36 (.qs (List.range' 37 8) (.one 45 (.one 46 (.qs (List.range' 47 23) (.one 70 (.qs (List.range' 71 28) (.one 99 (.one 100 (.qs [101] .done)))))))))))))))))))) 102 (by kernel_rfl) (by kernel_rfl) (by kernel_rfl) (later_ex (gD (Below.refl _ _))) ?_
  have hbV : Below W.heap.size W W.drew := gD (Below.refl _ _)
  obtain ⟨V, hV, hbV⟩ : ∃ V', V' = W.drew ∧ Below W.heap.size W V' := ⟨_, rfl, hbV⟩
  rw [← hV]
  clear hV
  change wpQuiet _ _ _ (fun a' => wpSk _ _ _ _ _ _ a' _) _ _
  simp only [List.filterMap_cons, List.filterMap_nil, List.getElem?_toArray, List.getElem?_cons_zero, List.getElem?_cons_succ]
  change wpQuiet _ _ _ _ [_, _, _, _] _
  repeat (go_big_quiet_step (fail))
  refine wpQuiet_nil ?_
  refine wpSk_one rfl (fun K hK => ?_)
  go_simp
  have hbU : Below W.heap.size W (V.alloc (.cells #[.int .i64 300, .int .i64 363, .int .i64 365, .int .i64 485] 3)) := gA hbV
  have BV : SlA (V.alloc (.cells #[.int .i64 300, .int .i64 363, .int .i64 365, .int .i64 485] 3)) 1 gI (some ⟨V.heap.size, 0, none⟩) 4 [300, 363, 365, 485] := SlA.of_blk (l := ([300, 363, 365, 485] : List Int)) (BlkAt.new _ _ _) (fun _ _ => rfl) (by decide)
  obtain ⟨bv, hbv⟩ : ∃ b, b = V.heap.size := ⟨_, rfl⟩
  rw [← hbv] at BV ⊢
  obtain ⟨V, hV, hbV⟩ : ∃ V', V' = V.alloc (.cells #[.int .i64 300, .int .i64 363, .int .i64 365, .int .i64 485] 3) ∧ Below W.heap.size W V' := ⟨_, rfl, hbU⟩
  rw [← hV] at BV ⊢
  clear hV hbU hbv
  refine hK.out _ _ (later_ex hbV) ?_
  clear hK K
  refine wpSk_one rfl (fun K hK => ?_)
  go_simp
  have CA := ints_calls _ _ _ _ _ _ _ (S1.below hbV) BV
  rw [show decide (([300, 363, 365, 485] : List Int) = [300, 363, 365, 485]) = true from rfl] at CA
  refine CA.mono ?_
  rintro e w' ⟨rfl, z, rfl⟩
  clear CA
  have hbV : Below W.heap.size W (later V z) := hbV.trans ((below_later V z).mono hbV.size)
  refine hK.out _ _ (later_ex hbV) ?_
  clear hK K BV
  obtain ⟨V, hV, hbV⟩ : ∃ V', V' = later V z ∧ Below W.heap.size W V' := ⟨_, rfl, hbV⟩
  rw [← hV]
  clear hV
  change wpQuiet _ _ _ (fun a' => wpSk _ _ _ _ _ _ a' _) _ _
  simp only [List.getElem?_toArray]
  change wpQuiet _ _ _ _ [_, _, _, _, _, _, _] _
  repeat (go_big_quiet_step (fail))
  refine wpQuiet_nil ?_
  refine wpSk_one rfl (fun K hK => ?_)
  go_simp
  refine hK.out _ _ (later_ex hbV) ?_
  clear hK K
  change wpQuiet _ _ _ (fun a' => wpSk _ _ _ _ _ _ a' _) _ _
  simp only [List.getElem?_toArray]
  change wpQuiet _ _ _ _ [_, _, _, _, _, _] _
  repeat (go_big_quiet_step (fail))
  refine wpQuiet_nil ?_
  refine wpSk_one rfl (fun K hK => ?_)
  go_simp
  refine (between_calls _ _ _).mono ?_
  rintro e w' ⟨rfl, z, rfl⟩
  have hbV : Below W.heap.size W (later V z) := hbV.trans ((below_later V z).mono hbV.size)
  refine hK.out _ _ (later_ex hbV) ?_
  clear hK K
  obtain ⟨V, hV, hbV⟩ : ∃ V', V' = later V z ∧ Below W.heap.size W V' := ⟨_, rfl, hbV⟩
  rw [← hV]
  clear hV
  change wpQuiet _ _ _ (fun a' => wpSk _ _ _ _ _ _ a' _) _ _
  simp only [List.getElem?_toArray]
  change wpQuiet _ _ _ _ [_, _, _, _, _, _, _, _] _
  repeat (go_big_quiet_step (fail))
  refine wpQuiet_nil ?_
  refine wpSk_one rfl (fun K hK => ?_)
  go_simp
  refine hK.out _ _ (later_ex hbV) ?_
  clear hK K
  change wpQuiet _ _ _ (fun a' => wpSk _ _ _ _ _ _ a' _) _ _
  simp only [List.getElem?_toArray]
  change wpQuiet _ _ _ _ [_, _, _, _, _, _] _
  repeat (go_big_quiet_step (fail))
  refine wpQuiet_nil ?_
  refine wpSk_one rfl (fun K hK => ?_)
  go_simp
  refine (between_calls _ _ _).mono ?_
  rintro e w' ⟨rfl, z, rfl⟩
  have hbV : Below W.heap.size W (later V z) := hbV.trans ((below_later V z).mono hbV.size)
  refine hK.out _ _ (later_ex hbV) ?_
  clear hK K
  obtain ⟨V, hV, hbV⟩ : ∃ V', V' = later V z ∧ Below W.heap.size W V' := ⟨_, rfl, hbV⟩
  rw [← hV]
  clear hV
  change wpQuiet _ _ _ (fun a' => wpSk _ _ _ _ _ _ a' _) _ _
  simp only [List.getElem?_toArray]
  change wpQuiet _ _ _ _ [_, _, _, _, _, _, _, _] _
  repeat (go_big_quiet_step (fail))
  refine wpQuiet_nil ?_
  refine wpSk_one rfl (fun K hK => ?_)
  go_simp
  have hbU : Below W.heap.size W (V.alloc (.cells #[.int .i64 1, .int .i64 3, .int .i64 2] 3)) := gA hbV
  have BV : SlA (V.alloc (.cells #[.int .i64 1, .int .i64 3, .int .i64 2] 3)) 1 gI (some ⟨V.heap.size, 0, none⟩) 3 [1, 3, 2] := SlA.of_blk (l := ([1, 3, 2] : List Int)) (BlkAt.new _ _ _) (fun _ _ => rfl) (by decide)
  obtain ⟨bv, hbv⟩ : ∃ b, b = V.heap.size := ⟨_, rfl⟩
  rw [← hbv] at BV ⊢
  obtain ⟨V, hV, hbV⟩ : ∃ V', V' = V.alloc (.cells #[.int .i64 1, .int .i64 3, .int .i64 2] 3) ∧ Below W.heap.size W V' := ⟨_, rfl, hbU⟩
  rw [← hV] at BV ⊢
  clear hV hbU hbv
  refine hK.out _ _ (later_ex hbV) ?_
  clear hK K
  refine wpSk_one rfl (fun K hK => ?_)
  go_simp
  have CA := ints_calls _ _ _ _ _ _ _ (S7.below hbV) BV
  rw [show decide (([1, 3, 2] : List Int) = [1, 3, 2]) = true from rfl] at CA
  refine CA.mono ?_
  rintro e w' ⟨rfl, z, rfl⟩
  clear CA
  have hbV : Below W.heap.size W (later V z) := hbV.trans ((below_later V z).mono hbV.size)
  refine hK.out _ _ (later_ex hbV) ?_
  clear hK K BV
  obtain ⟨V, hV, hbV⟩ : ∃ V', V' = later V z ∧ Below W.heap.size W V' := ⟨_, rfl, hbV⟩
  rw [← hV]
  clear hV
  change wpQuiet _ _ _ (fun a' => wpSk _ _ _ _ _ _ a' _) _ _
  simp only [List.getElem?_toArray]
  change wpQuiet _ _ _ _ [_, _, _, _, _, _, _, _, _, _, _, _, _, _, _, _, _, _, _, _, _, _, _] _
  repeat (go_big_quiet_step (fail))
  refine wpQuiet_nil ?_
  refine wpSk_one rfl (fun K hK => ?_)
  go_simp
  refine (between_calls _ _ _).mono ?_
  rintro e w' ⟨rfl, z, rfl⟩
  have hbV : Below W.heap.size W (later V z) := hbV.trans ((below_later V z).mono hbV.size)
  refine hK.out _ _ (later_ex hbV) ?_
  clear hK K
  obtain ⟨V, hV, hbV⟩ : ∃ V', V' = later V z ∧ Below W.heap.size W V' := ⟨_, rfl, hbV⟩
  rw [← hV]
  clear hV
  change wpQuiet _ _ _ (fun a' => wpSk _ _ _ _ _ _ a' _) _ _
  simp only [List.getElem?_toArray]
  change wpQuiet _ _ _ _ [_, _, _, _, _, _, _, _, _, _, _, _, _, _, _, _, _, _, _, _, _, _, _, _, _, _, _, _] _
  repeat (go_big_quiet_step (fail))
  refine wpQuiet_nil ?_
  refine wpSk_one rfl (fun K hK => ?_)
  go_simp
  have hbU : Below W.heap.size W (V.alloc (.cells #[.int .i64 4] 3)) := gA hbV
  have BV : SlA (V.alloc (.cells #[.int .i64 4] 3)) 1 gI (some ⟨V.heap.size, 0, none⟩) 1 [4] := SlA.of_blk (l := ([4] : List Int)) (BlkAt.new _ _ _) (fun _ _ => rfl) (by decide)
  obtain ⟨bv, hbv⟩ : ∃ b, b = V.heap.size := ⟨_, rfl⟩
  rw [← hbv] at BV ⊢
  obtain ⟨V, hV, hbV⟩ : ∃ V', V' = V.alloc (.cells #[.int .i64 4] 3) ∧ Below W.heap.size W V' := ⟨_, rfl, hbU⟩
  rw [← hV] at BV ⊢
  clear hV hbU hbv
  refine hK.out _ _ (later_ex hbV) ?_
  clear hK K
  refine wpSk_one rfl (fun K hK => ?_)
  go_simp
  have CA := ints_calls _ _ _ _ _ _ _ (S20.below hbV) BV
  rw [show decide (([4] : List Int) = [4]) = true from rfl] at CA
  refine CA.mono ?_
  rintro e w' ⟨rfl, z, rfl⟩
  clear CA
  have hbV : Below W.heap.size W (later V z) := hbV.trans ((below_later V z).mono hbV.size)
  refine hK.out _ _ (later_ex hbV) ?_
  clear hK K BV
  obtain ⟨V, hV, hbV⟩ : ∃ V', V' = later V z ∧ Below W.heap.size W V' := ⟨_, rfl, hbV⟩
  rw [← hV]
  clear hV
  change wpQuiet _ _ _ (fun a' => wpSk _ _ _ _ _ _ a' _) _ _
  simp only [List.getElem?_toArray]
  change wpQuiet _ _ _ _ [_] _
  repeat (go_big_quiet_step (fail))
  refine wpQuiet_nil ?_
  refine wpSk_done rfl (fun K hK => ?_)
  go_simp
  refine hK.out _ _ (noPanic_mk ?_)
  clear hK K
  go_wp2
  go_ret
  exact ret_mk rfl (hb.trans (hbV.mono hb.size))
end Go.Proofs.Ytcngnfnljkkjgaa
