/-
Whether two tickets clash in a truth.
-/
import Derived.Test.YtcngnfnljkkjgaaTkAns2
namespace Go.Proofs.Ytcngnfnljkkjgaa
open Go.RowKit
attribute [local go_sem] cell_later frozen_later lt_later le_later

def Hs.tubAt (h : Hs) (t : Nat) : Int := match h.tickets[t]? with
  | some x => x.tub
  | none => 0
def cp0 : Cp := ⟨0, 0, 0⟩
def beforeB (e : List Int) (l m : List Cp) : Bool := decide (m.length < 2) || decide (tru e (l.getD 0 cp0) < tru e (m.getD 1 cp0))
def Hs.clashB (h : Hs) (e : List Int) (a b : Nat) : Bool :=
  (h.tubAt a == h.tubAt b) && (!(h.ofs a).isEmpty && (!(h.ofs b).isEmpty && (beforeB e (h.ofs a) (h.ofs b) && beforeB e (h.ofs b) (h.ofs a))))

theorem SlA.clip {w : World} {A : Option Addr} {c : Nat} {l : List Cp} (h : SlA w 3 gC A c l) (i : Nat) (hi : i < l.length) :
    ∃ b off x, A = some ⟨b, off, none⟩ ∧ b < w.heap.size ∧ l[i]? = some x ∧ l.getD i cp0 = x ∧ w.cell? ⟨b, off + i * 3, none⟩ = some (.int .i64 x.tk) ∧ w.cell? ⟨b, off + i * 3 + 1, none⟩ = some (.int .i64 x.ck) ∧
      w.cell? ⟨b, off + i * 3 + 2, none⟩ = some (.int .i64 x.mn) := by
  obtain ⟨b, off, x, h1, h2, h3, h4⟩ := h.atC hi
  exact ⟨b, off, x, h1, h2, h3, by rw [List.getD_eq_getElem?_getD, h3]; rfl, h4⟩

set_option maxHeartbeats 4000000 in
theorem clash_calls (g : Nat) (h : Hs) (e : List Int) {e0 e1 e2 e3 : Int} (H4 : Hid (e4 e = [.int .i64 e0, .int .i64 e1, .int .i64 e2, .int .i64 e3])) (he : Hid (ErrOk e)) (a b : Nat) (ha : a < h.tickets.length) (hb : b < h.tickets.length) (w : World) (H : WkAt w g h) (hf : Hid (h.fault = 0)) :
    Calls Try.prog 92 #[.pointer (some ⟨g, 0, none⟩), .agg #[.int .i64 e0, .int .i64 e1, .int .i64 e2, .int .i64 e3], .int .i64 a, .int .i64 b] w (Ret (.bool (h.clashB e a b)) w) := by
  obtain ⟨A2, c2, A3, c3, A4, c4, A5, c5, r, l, h2, h3, h4, h5, h6, h7, h8⟩ := H
  have hl : h.clips.length ≤ 1000 := by have := (small_iff.1 (fault_zero hf.out).1).2.2; omega
  have hgl := h8.lt
  have hhs : HsAt w (.agg #[.int .i64 h.hour, .int .i64 h.grace, .slice A2 h.clocks.length c2, .slice A3 h.tickets.length c3, .slice A4 h.clips.length c4]) h := ⟨A2, c2, A3, c3, A4, c4, rfl, h2, h3, h4⟩
  obtain ⟨W1, hW1⟩ : ∃ W1, W1 = w.alloc (.cells #[.int .i64 e0, .int .i64 e1, .int .i64 e2, .int .i64 e3] 119) := ⟨_, rfl⟩
  have hb1 : Below w.heap.size w W1 := by rw [hW1]; exact (by repeat (first | exact Below.refl _ _ | (with_reducible assumption) | apply gL | apply gA | apply gD | apply gN | (refine gS ?_ (by first | (simp; done) | (simp; omega) | omega))))
  have hB1 : BlkAt W1 w.heap.size 119 [.int .i64 e0, .int .i64 e1, .int .i64 e2, .int .i64 e3] := by rw [hW1]; exact BlkAt.new _ _ _
  have h81 := h8.of_below hb1 hgl
  have hhs1 := hhs.below hb1
  have h31 := h3.below hb1
  have k0 := h81.cell 0
  have k1 := h81.cell 1
  have k2 := h81.cell 2
  have k3 := h81.cell 3
  have k4 := h81.cell 4
  simp only [List.getElem?_cons_zero, List.getElem?_cons_succ] at k0 k1 k2 k3 k4
  have hgl1 := h81.lt
  clear h2 h3 h4 h5 h6 h7 h8 hhs
  go_enter Try.func92, Try.ntmps92
  go_wp2
  rw [← hW1]
  clear hW1
  obtain ⟨C, hC⟩ : ∃ C, C = Same [⟨g, 0, none⟩, ⟨g, 1, none⟩, ⟨g, 2, none⟩, ⟨g, 3, none⟩, ⟨g, 4, none⟩] W1 := ⟨_, rfl⟩
  obtain ⟨G, hG⟩ : ∃ G, G = held C W1.drew := ⟨_, rfl⟩
  have hfs : ∀ a ∈ ([⟨g, 0, none⟩, ⟨g, 1, none⟩, ⟨g, 2, none⟩, ⟨g, 3, none⟩, ⟨g, 4, none⟩] : List Addr), ∀ u, W1.cell? a = some u → ∀ x, (G x).cell? a = some u := fun a ha u hu x => by
    rw [hG, hC]
    exact same_held hu ha x
  have f0 := hfs _ (by simp) _ k0
  have f1 := hfs _ (by simp) _ k1
  have f2 := hfs _ (by simp) _ k2
  have f3 := hfs _ (by simp) _ k3
  have f4 := hfs _ (by simp) _ k4
  have hCl : ∀ z, C (later W1.drew z) := fun z => by
    rw [hC]
    exact same_below (Below.trans (gD (Below.refl _ _)) (below_later W1.drew z)) (by simp; omega)
  have HCL := Lib.hid hCl
  refine region_heldN C [0, 1, 2, 3, 4, 6, 7, 8, 9, 10] [5, 11, 12] 13 (by kernel_rfl) (by kernel_rfl) (by rw [hC]; exact same_drew) ?_
  rw [← hG]
  clear hfs hCl hC hG
  simp only [List.filterMap_cons, List.filterMap_nil, List.getElem?_cons_zero, List.getElem?_cons_succ]
  change wpQuiet _ _ _ _ [_, _, _, _, _, _, _, _, _, _] _
  repeat (go_big_quiet_step (fail))
  refine wpQuiet_nil ?_
  clear f0 f1 f2 f3 f4
  refine wpTail_cons rfl (fun K hK => ?_)
  go_simp
  refine (of_calls _ h a _ (hhs1.below (gD (Below.refl _ _))) hl).mono ?_
  rintro e' w' ⟨A, c, rfl, ⟨z, rfl⟩, hsl⟩
  refine hK.out _ _ (HCL.out _) ?_
  clear hK K
  refine wpTail_cons rfl (fun K hK => ?_)
  go_simp
  refine (of_calls _ h b _ (hhs1.below (Below.trans (gD (Below.refl _ _)) (below_later W1.drew z))) hl).mono ?_
  rintro e' w' ⟨B, d, rfl, ⟨y, rfl⟩, hsm⟩
  obtain ⟨W2, hW2⟩ : ∃ W2, W2 = later (later W1.drew z) y := ⟨_, rfl⟩
  have hb2 : Below W1.heap.size W1 W2 := by rw [hW2]; exact (by repeat (first | exact Below.refl _ _ | (with_reducible assumption) | apply gL | apply gA | apply gD | apply gN | (refine gS ?_ (by first | (simp; done) | (simp; omega) | omega))))
  have hsl2 : SlA W2 3 gC A c (h.ofs a) := by rw [hW2]; exact hsl.below (below_later _ _)
  have hC2 : C W2 := by
    rw [hW2, show later (later W1.drew z) y = later W1.drew (later (later W1.drew z) y) from later_of (Below.trans (below_later W1.drew z) ((below_later _ _).mono (size_later W1.drew z)))]
    exact HCL.out _
  rw [← hW2] at hsm ⊢
  clear hW2 hsl HCL
  refine hK.out _ _ hC2 ?_
  clear hK K
  refine wpTail_cons rfl (fun K hK => ?_)
  go_simp
  refine hK.out _ _ hC2 ?_
  clear hK K
  refine wpTail_nil rfl (fun K hK => ?_)
  go_simp
  refine hK.out _ _ (noPanic_mk ?_)
  clear hK K hC2
  go_wp2
  have hc4 : h.clocks.length ≤ 4 := (small_iff.1 (fault_zero hf.out).1).1
  have s3 := (hb2.cell (p := ⟨g, 3, none⟩) hgl1).trans k3
  obtain ⟨bt, ot, xa, rfl, hbt, hxa, i0, i1⟩ := (h31.below hb2).atT ha
  obtain ⟨bt', ot', xb, hA', -, hxb, j0, j1⟩ := (h31.below hb2).atT hb
  cases hA'
  have hta : h.tubAt a = xa.tub := by simp [Hs.tubAt, hxa]
  have htb : h.tubAt b = xb.tub := by simp [Hs.tubAt, hxb]
  have hgl2 : g < W2.heap.size := Nat.lt_of_lt_of_le hgl1 hb2.size
  have ha0 : (0 : Int) ≤ (a : Int) := Int.natCast_nonneg _
  have hb0 : (0 : Int) ≤ (b : Int) := Int.natCast_nonneg _
  have ha1 : (a : Int) < (h.tickets.length : Int) := by omega
  have hb1' : (b : Int) < (h.tickets.length : Int) := by omega
  have HTA := Lib.hid hta
  have HTB := Lib.hid htb
  have hq1 := hB1.lt
  have hBe := hB1.of_below hb2 hq1
  have e0c := hBe.cell 0
  have e1c := hBe.cell 1
  have e2c := hBe.cell 2
  have e3c := hBe.cell 3
  simp only [List.getElem?_cons_zero, List.getElem?_cons_succ] at e0c e1c e2c e3c
  have hq2 := hBe.lt
  obtain ⟨la, hla⟩ : ∃ n, n = (h.ofs a).length := ⟨_, rfl⟩
  obtain ⟨lb, hlb⟩ : ∃ n, n = (h.ofs b).length := ⟨_, rfl⟩
  rw [← hla, ← hlb]
  have HLA := Lib.hid hla
  have HLB := Lib.hid hlb
  clear hta htb hxa hxb hla hlb
  by_cases ht : xa.tub = xb.tub
  · have ht1 : (xa.tub != xb.tub) = false := by simp [ht]
    have HT := Lib.hid ht
    clear ht
    by_cases hz : la = 0
    · have hz1 : ((la : Int) == 0) = true := by simp [hz]
      have HR := Lib.hid (show h.clashB e a b = false by
        have : h.ofs a = [] := List.eq_nil_of_length_eq_zero (by rw [← HLA.out]; exact hz)
        simp [Hs.clashB, this])
      clear hz
      refine region_later (by kernel_rfl) (by kernel_rfl) ?_
      repeat (go_big_quiet_step (fail))
      refine wpQuiet_nil ?_
      rintro W' ⟨_, rfl⟩
      go_wp2
      go_ret
      exact ret_mk (ret_bool HR.out.symm) (hb1.trans (below_mono_of hb1 (later_below hb2 hb2.size)))
    · have hz1 : ((la : Int) == 0) = false := by simp; omega
      by_cases hy : lb = 0
      · have hy1 : ((lb : Int) == 0) = true := by simp [hy]
        have HR := Lib.hid (show h.clashB e a b = false by
          have : h.ofs b = [] := List.eq_nil_of_length_eq_zero (by rw [← HLB.out]; exact hy)
          simp [Hs.clashB, this])
        clear hy
        refine region_later (by kernel_rfl) (by kernel_rfl) ?_
        repeat (go_big_quiet_step (fail))
        refine wpQuiet_nil ?_
        rintro W' ⟨_, rfl⟩
        go_wp2
        go_ret
        exact ret_mk (ret_bool HR.out.symm) (hb1.trans (below_mono_of hb1 (later_below hb2 hb2.size)))
      · have hy1 : ((lb : Int) == 0) = false := by simp; omega
        have HCB := Lib.hid (show h.clashB e a b = (beforeB e (h.ofs a) (h.ofs b) && beforeB e (h.ofs b) (h.ofs a)) by
          have hn1 : (h.ofs a).isEmpty = false := by rw [List.isEmpty_eq_false_iff]; exact fun hh => hz (by rw [HLA.out, hh]; rfl)
          have hn2 : (h.ofs b).isEmpty = false := by rw [List.isEmpty_eq_false_iff]; exact fun hh => hy (by rw [HLB.out, hh]; rfl)
          simp [Hs.clashB, HTA.out, HTB.out, HT.out, hn1, hn2])
        refine region_later (by kernel_rfl) (by kernel_rfl) ?_
        repeat (go_big_quiet_step (fail))
        refine wpQuiet_nil ?_
        rintro W' ⟨_, rfl⟩
        go_wp2
        have hpa : 0 < (h.ofs a).length := by have := HLA.out; omega
        have hpb : 0 < (h.ofs b).length := by have := HLB.out; omega
        have hpa1 : (0 : Int) < (la : Int) := by omega
        have hpb1 : (0 : Int) < (lb : Int) := by omega
        obtain ⟨bx0, ox0, x0, hAx0, hbx0, hx0, hgx0, cx00, cx01, cx02⟩ := hsl2.clip 0 hpa
        obtain ⟨-, -, px00, px0q, px02, px03⟩ := fault_clips hf.out (ofs_mem hx0)
        have px01 : x0.ck < 4 := by omega
        simp only [Nat.zero_mul, Nat.add_zero] at cx00 cx01 cx02
        obtain ⟨by0, oy0, y0, hAy0, hby0, hy0, hgy0, cy00, cy01, cy02⟩ := hsm.clip 0 hpb
        obtain ⟨-, -, py00, py0q, py02, py03⟩ := fault_clips hf.out (ofs_mem hy0)
        have py01 : y0.ck < 4 := by omega
        simp only [Nat.zero_mul, Nat.add_zero] at cy00 cy01 cy02
        subst hAx0
        subst hAy0
        by_cases hm2 : lb < 2
        · have hm2' : (lb : Int) < 2 := by omega
          by_cases hl2 : la < 2
          · have hl2' : (la : Int) < 2 := by omega
            have HR := Lib.hid (show h.clashB e a b = true by rw [HCB.out]; simp [beforeB, ← HLA.out, ← HLB.out, hm2, hl2])
            refine region_later (by kernel_rfl) (by kernel_rfl) ?_
            repeat (go_big_quiet_step (first | with_reducible exact quiet_ret (minute_calls4 e H4 he x0 _ px00 px01 px02 px03) | with_reducible exact quiet_ret (minute_calls4 e H4 he y0 _ py00 py01 py02 py03)))
            refine wpQuiet_nil ?_
            rintro W' ⟨_, rfl⟩
            go_wp2
            go_ret
            exact ret_mk (ret_bool HR.out.symm) (hb1.trans (below_mono_of hb1 (later_below (later_below hb2 hb2.size) (Nat.le_trans hb2.size (size_later _ _)))))
          · have hl2' : ¬ (la : Int) < 2 := by omega
            have hla1 : (1 : Int) < (la : Int) := by omega
            obtain ⟨bx1, ox1, x1, hAx1, hbx1, hx1, hgx1, cx10, cx11, cx12⟩ := hsl2.clip 1 (by have := HLA.out; omega)
            obtain ⟨-, -, px10, px1q, px12, px13⟩ := fault_clips hf.out (ofs_mem hx1)
            have px11 : x1.ck < 4 := by omega
            simp only [Nat.one_mul] at cx10 cx11 cx12
            cases hAx1
            have HR := Lib.hid (show h.clashB e a b = decide (tru e y0 < tru e x1) by rw [HCB.out]; simp [beforeB, ← HLA.out, ← HLB.out, hm2, hl2, hgy0, hgx1, -List.getD_eq_getElem?_getD])
            refine region_later (by kernel_rfl) (by kernel_rfl) ?_
            repeat (go_big_quiet_step (first | with_reducible exact quiet_ret (minute_calls4 e H4 he x0 _ px00 px01 px02 px03) | with_reducible exact quiet_ret (minute_calls4 e H4 he y0 _ py00 py01 py02 py03) | with_reducible exact quiet_ret (minute_calls4 e H4 he x1 _ px10 px11 px12 px13)))
            refine wpQuiet_nil ?_
            rintro W' ⟨_, rfl⟩
            go_wp2
            go_ret
            exact ret_mk (ret_bool HR.out.symm) (hb1.trans (below_mono_of hb1 (later_below (later_below hb2 hb2.size) (Nat.le_trans hb2.size (size_later _ _)))))
        · have hm2' : ¬ (lb : Int) < 2 := by omega
          have hlb1 : (1 : Int) < (lb : Int) := by omega
          obtain ⟨by1, oy1, y1, hAy1, hby1, hy1, hgy1, cy10, cy11, cy12⟩ := hsm.clip 1 (by have := HLB.out; omega)
          obtain ⟨-, -, py10, py1q, py12, py13⟩ := fault_clips hf.out (ofs_mem hy1)
          have py11 : y1.ck < 4 := by omega
          simp only [Nat.one_mul] at cy10 cy11 cy12
          cases hAy1
          by_cases hc : tru e x0 < tru e y1
          · by_cases hl2 : la < 2
            · have hl2' : (la : Int) < 2 := by omega
              have HR := Lib.hid (show h.clashB e a b = true by rw [HCB.out]; simp [beforeB, ← HLA.out, ← HLB.out, hm2, hl2, hgx0, hgy1, hc, -List.getD_eq_getElem?_getD])
              refine region_later (by kernel_rfl) (by kernel_rfl) ?_
              repeat (go_big_quiet_step (first | with_reducible exact quiet_ret (minute_calls4 e H4 he x0 _ px00 px01 px02 px03) | with_reducible exact quiet_ret (minute_calls4 e H4 he y0 _ py00 py01 py02 py03) | with_reducible exact quiet_ret (minute_calls4 e H4 he y1 _ py10 py11 py12 py13)))
              refine wpQuiet_nil ?_
              rintro W' ⟨_, rfl⟩
              go_wp2
              go_ret
              exact ret_mk (ret_bool HR.out.symm) (hb1.trans (below_mono_of hb1 (later_below (later_below hb2 hb2.size) (Nat.le_trans hb2.size (size_later _ _)))))
            · have hl2' : ¬ (la : Int) < 2 := by omega
              have hla1 : (1 : Int) < (la : Int) := by omega
              obtain ⟨bx1, ox1, x1, hAx1, hbx1, hx1, hgx1, cx10, cx11, cx12⟩ := hsl2.clip 1 (by have := HLA.out; omega)
              obtain ⟨-, -, px10, px1q, px12, px13⟩ := fault_clips hf.out (ofs_mem hx1)
              have px11 : x1.ck < 4 := by omega
              simp only [Nat.one_mul] at cx10 cx11 cx12
              cases hAx1
              have HR := Lib.hid (show h.clashB e a b = decide (tru e y0 < tru e x1) by rw [HCB.out]; simp [beforeB, ← HLA.out, ← HLB.out, hm2, hl2, hgx0, hgy1, hgy0, hgx1, hc, -List.getD_eq_getElem?_getD])
              refine region_later (by kernel_rfl) (by kernel_rfl) ?_
              repeat (go_big_quiet_step (first | with_reducible exact quiet_ret (minute_calls4 e H4 he x0 _ px00 px01 px02 px03) | with_reducible exact quiet_ret (minute_calls4 e H4 he y0 _ py00 py01 py02 py03) | with_reducible exact quiet_ret (minute_calls4 e H4 he y1 _ py10 py11 py12 py13) | with_reducible exact quiet_ret (minute_calls4 e H4 he x1 _ px10 px11 px12 px13)))
              refine wpQuiet_nil ?_
              rintro W' ⟨_, rfl⟩
              go_wp2
              go_ret
              exact ret_mk (ret_bool HR.out.symm) (hb1.trans (below_mono_of hb1 (later_below (later_below hb2 hb2.size) (Nat.le_trans hb2.size (size_later _ _)))))
          · have HR := Lib.hid (show h.clashB e a b = false by rw [HCB.out]; simp [beforeB, ← HLB.out, hm2, hgx0, hgy1, hc, -List.getD_eq_getElem?_getD])
            refine region_later (by kernel_rfl) (by kernel_rfl) ?_
            repeat (go_big_quiet_step (first | with_reducible exact quiet_ret (minute_calls4 e H4 he x0 _ px00 px01 px02 px03) | with_reducible exact quiet_ret (minute_calls4 e H4 he y0 _ py00 py01 py02 py03) | with_reducible exact quiet_ret (minute_calls4 e H4 he y1 _ py10 py11 py12 py13)))
            refine wpQuiet_nil ?_
            rintro W' ⟨_, rfl⟩
            go_wp2
            go_ret
            exact ret_mk (ret_bool HR.out.symm) (hb1.trans (below_mono_of hb1 (later_below (later_below hb2 hb2.size) (Nat.le_trans hb2.size (size_later _ _)))))
  · have ht1 : (xa.tub != xb.tub) = true := by simp [ht]
    have HR := Lib.hid (show h.clashB e a b = false by simp [Hs.clashB, HTA.out, HTB.out, ht])
    clear ht
    refine region_later (by kernel_rfl) (by kernel_rfl) ?_
    repeat (go_big_quiet_step (fail))
    refine wpQuiet_nil ?_
    rintro W' ⟨_, rfl⟩
    go_wp2
    go_ret
    exact ret_mk (ret_bool HR.out.symm) (hb1.trans (below_mono_of hb1 (later_below hb2 hb2.size)))
end Go.Proofs.Ytcngnfnljkkjgaa
