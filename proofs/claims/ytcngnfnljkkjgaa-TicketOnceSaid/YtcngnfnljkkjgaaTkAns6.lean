/-
The clock to compare.
-/
import Derived.Test.YtcngnfnljkkjgaaTkAns5
namespace Go.Proofs.Ytcngnfnljkkjgaa
open Go.RowKit
attribute [local go_sem] cell_later frozen_later lt_later le_later

def Hs.mostUp (h : Hs) (i : Nat) (lo : Int) (k : Nat) : Int := (List.range k).foldl (fun m n => max m (countT h.truths i (lo + (n : Nat)))) 0
def Hs.mostAt (h : Hs) (i : Nat) : Int := match h.clocks[i]? with
  | some r => h.mostUp i r.lo r.size.toNat
  | none => 0
def Hs.lookStep (h : Hs) (s : Int × Int) (i : Nat) : Int × Int := if h.mostAt i < s.2 then ((i : Int), h.mostAt i) else s
def Hs.lookUp (h : Hs) (k : Nat) : Int × Int := (List.range k).foldl h.lookStep (0, (h.truths.length : Int) + 1)
def Hs.lookE (h : Hs) : Int := if h.askE 0 ≠ 0 then h.askE 0 else if h.clocks.length = 0 then 7 else 0
def Hs.lookV (h : Hs) : Int × Int := if h.lookE = 0 then h.lookUp h.clocks.length else (0, 0)
theorem mostUp_snoc (h : Hs) (i : Nat) (lo : Int) (k : Nat) : h.mostUp i lo (k + 1) = max (h.mostUp i lo k) (countT h.truths i (lo + (k : Nat))) := by
  unfold Hs.mostUp
  rw [List.range_succ, List.foldl_append]
  rfl
theorem lookUp_snoc (h : Hs) (k : Nat) : h.lookUp (k + 1) = h.lookStep (h.lookUp k) k := by
  unfold Hs.lookUp
  rw [List.range_succ, List.foldl_append]
  rfl

theorem look_ret {h : Hs} {a b c : Int} {w w' : World} (h1 : h.lookV = (a, b)) (h2 : h.lookE = c) (hb : Below w.heap.size w w') : Ret (.tuple #[.int .i64 h.lookV.1, .int .i64 h.lookV.2, .int .i64 h.lookE]) w (.returned (.tuple #[.int .i64 a, .int .i64 b, .int .i64 c])) w' :=
  ret_mk (by rw [h1, h2]) hb

set_option maxHeartbeats 2000000 in
theorem look_calls (v : Value) (h : Hs) (w : World) (H : HsAt w v h) :
    Calls Try.prog 42 #[v] w (Ret (.tuple #[.int .i64 h.lookV.1, .int .i64 h.lookV.2, .int .i64 h.lookE]) w) := by
  have H0 := H
  obtain ⟨A2, c2, A3, c3, A4, c4, rfl, H2, H3, H4⟩ := H
  by_cases ha : h.askE 0 = 0
  · obtain ⟨hf, -, hne⟩ := askE_zero ha
    have HA := Lib.hid ha
    have HF := Lib.hid hf
    by_cases hc : h.clocks.length = 0
    · have hE := Lib.hid (show h.lookE = 7 by simp [Hs.lookE, ha, hc])
      have hV := Lib.hid (show h.lookV = (0, 0) by rw [Hs.lookV, hE.out]; rfl)
      have hc1 : ((h.clocks.length : Int) == 0) = true := by simp [hc]
      clear ha hf hne hc
      go_enter Try.func42, Try.ntmps42
      go_wp2_with (first
        | (go_at_call 79; refine (asked_ok _ h 0 _ ?hh HA.out).mono ?_; (case hh => exact H0.below (by repeat (first | exact Below.refl _ _ | (with_reducible assumption) | apply gL | apply gA | apply gD | apply gN | (refine gS ?_ (by first | (simp; done) | (simp; omega) | omega))))); (rintro e w' hr; (first | (with_reducible replace hr := RetWk.up hr) | skip); obtain ⟨g, rfl, ⟨z, rfl⟩, hwk⟩ := hr)))
      refine bodyPost_ret (v := .tuple #[.int .i64 0, .int .i64 0, .int .i64 7]) ?hr rfl (look_ret hV.out hE.out (by repeat (first | exact Below.refl _ _ | (with_reducible assumption) | apply gL | apply gA | apply gD | apply gN | (refine gS ?_ (by first | (simp; done) | (simp; omega) | omega)))))
      case hr => simp [results, Try.results42, go_sem]
    · have hE := Lib.hid (show h.lookE = 0 by simp [Hs.lookE, ha, hc])
      have hV := Lib.hid (show h.lookV = h.lookUp h.clocks.length by rw [Hs.lookV, hE.out]; rfl)
      have hc1 : ((h.clocks.length : Int) == 0) = false := by simpa using hc
      have htc := truths_count hf
      have hc4 : h.clocks.length ≤ 4 := (small_iff.1 (fault_zero hf).1).1
      clear ha hf hne hc
      go_enter Try.func42, Try.ntmps42
      go_wp2_with (first
        | (go_at_call 79; refine (asked_ok _ h 0 _ ?hh HA.out).mono ?_; (case hh => exact H0.below (by repeat (first | exact Below.refl _ _ | (with_reducible assumption) | apply gL | apply gA | apply gD | apply gN | (refine gS ?_ (by first | (simp; done) | (simp; omega) | omega))))); (rintro e w' hr; (first | (with_reducible replace hr := RetWk.up hr) | skip); obtain ⟨g, rfl, ⟨z, rfl⟩, hwk⟩ := hr);
            obtain ⟨A2', c2', A3', c3', A4', c4', A5', c5', r, l, -, -, -, hs5, hmap, hcn, hbox⟩ := hwk;
            have b5 := hbox.cell 5; have b6 := hbox.cell 6; simp only [List.getElem?_cons_zero, List.getElem?_cons_succ] at b5 b6; have hgl := hbox.lt; have HCN := Lib.hid hcn; have HMP := Lib.hid hmap; clear hbox hs5 hcn hmap))
      obtain ⟨W1, hW1⟩ : ∃ W1, W1 = later (w.alloc (.cells #[.int .i64 h.hour, .int .i64 h.grace, .slice A2 h.clocks.length c2, .slice A3 h.tickets.length c3, .slice A4 h.clips.length c4] 36)) z := ⟨_, rfl⟩
      have hb1 : Below w.heap.size w W1 := by rw [hW1]; exact (by repeat (first | exact Below.refl _ _ | (with_reducible assumption) | apply gL | apply gA | apply gD | apply gN | (refine gS ?_ (by first | (simp; done) | (simp; omega) | omega))))
      rw [← hW1] at b6 b5 hgl HMP ⊢
      have h21 := H2.below hb1
      clear hW1
      go_loopw [2, 3, 31] (fun c v i wr => ∃ k : Nat, k ≤ h.clocks.length ∧ i = .int .i64 k ∧ c = .int .i64 (h.lookUp k).1 ∧ v = .int .i64 (h.lookUp k).2 ∧ ∃ x, wr = later W1 x) (fun _ _ i _ => h.clocks.length - (intOf i).toNat)
      case atStart => exact ⟨0, Nat.zero_le _, rfl, rfl, rfl, later_ex (Below.refl _ _)⟩
      case round =>
        obtain ⟨k, hk, rfl, rfl, rfl, x, rfl⟩ := hrel
        by_cases hlt : k < h.clocks.length
        · have hlt1 : (k : Int) < (h.clocks.length : Int) := by omega
          have hk0 : (0 : Int) ≤ (k : Int) := Int.natCast_nonneg _
          obtain ⟨b, off, rg, rfl, hbl, hrg, t0, t1⟩ := h21.atR hlt
          obtain ⟨r1, r2, r3⟩ := fault_clock HF.out (List.mem_of_getElem? hrg)
          obtain ⟨cc, hcc⟩ : ∃ n, n = (h.lookUp k).1 := ⟨_, rfl⟩
          obtain ⟨ll, hll⟩ : ∃ n, n = (h.lookUp k).2 := ⟨_, rfl⟩
          have HS := Lib.hid (show h.lookUp (k + 1) = if h.mostUp k rg.lo rg.size.toNat < ll then ((k : Int), h.mostUp k rg.lo rg.size.toNat) else (cc, ll) by
            rw [lookUp_snoc, Hs.lookStep, Hs.mostAt, hrg, hll, hcc])
          rw [← hcc, ← hll]
          clear hcc hll hrg
          go_wp2_with (first | (go_at_call 99; refine (size_calls _ _ _ (by omega) (by omega) (by omega) (by omega)).mono ?_; (rintro e w' hr; first | ((with_reducible replace hr := Ret.up hr); obtain ⟨rfl, z, rfl⟩ := hr) | (obtain ⟨rfl, z, rfl⟩ := hr))))
          obtain ⟨W2, hW2⟩ : ∃ W2, W2 = later ((later W1 x).alloc (.cells #[.int .i64 rg.lo, .int .i64 rg.hi] 42)) z := ⟨_, rfl⟩
          obtain ⟨q, hq⟩ : ∃ q, q = (later W1 x).heap.size := ⟨_, rfl⟩
          have hb2 : Below W1.heap.size W1 W2 := by rw [hW2]; exact (by repeat (first | exact Below.refl _ _ | (with_reducible assumption) | apply gL | apply gA | apply gD | apply gN | (refine gS ?_ (by first | (simp; done) | (simp; omega) | omega))))
          have kq : W2.cell? ⟨q, 0, none⟩ = some (.int .i64 rg.lo) := by rw [hW2, hq]; simp [go_sem]
          have kq1 : W2.cell? ⟨q, 1, none⟩ = some (.int .i64 rg.hi) := by rw [hW2, hq]; simp [go_sem]
          rw [← hW2, ← hq]
          clear hW2 hq
          have hql := World.block_lt_of_cell? W2 _ kq
          simp only at hql
          have y6 := (hb2.cell (p := ⟨g, 6, none⟩) hgl).trans b6
          have hgl2 : g < W2.heap.size := Nat.lt_of_lt_of_le hgl hb2.size
          have hM2 : MapAt W2 r l := (hb2.block r (World.block_lt_of_map HMP.out)).trans HMP.out
          have HM2 := Lib.hid hM2
          obtain ⟨sz, hsz⟩ : ∃ n, n = rg.size.toNat := ⟨_, rfl⟩
          have hsz1 : (sz : Int) = rg.hi - rg.lo + 1 := by rw [hsz]; unfold Rg.size; omega
          rw [← hsz] at HS
          rw [← hsz1]
          have hsb : (sz : Int) ≤ 61 := by omega
          have HSZ := Lib.hid hsz1
          clear hM2 hsz hsz1
          go_loopw [8, 38] (fun m i wr => ∃ n : Nat, n ≤ sz ∧ i = .int .i64 n ∧ m = .int .i64 (h.mostUp k rg.lo n) ∧ ∃ x, wr = later W2 x) (fun _ i _ => sz - (intOf i).toNat)
          case atStart => exact ⟨0, Nat.zero_le _, rfl, rfl, later_ex (Below.refl _ _)⟩
          case round =>
            obtain ⟨n, hn, rfl, rfl, y, rfl⟩ := hrel
            by_cases hln : n < sz
            · have hln1 : (n : Int) < (sz : Int) := by omega
              have hn0 : (0 : Int) ≤ (n : Int) := Int.natCast_nonneg _
              obtain ⟨mm, hmm⟩ : ∃ m, m = h.mostUp k rg.lo n := ⟨_, rfl⟩
              obtain ⟨cv, hcv⟩ : ∃ c, c = countT h.truths k (rg.lo + (n : Nat)) := ⟨_, rfl⟩
              have hmx : (if mm < cv then cv else mm) = max mm cv := by omega
              have HS2 := Lib.hid (show h.mostUp k rg.lo (n + 1) = max mm cv by rw [mostUp_snoc, hmm, hcv])
              have fl : ∀ u, (Instr.lookup 127 (.map (some r)) (.agg #[.int .i64 k, .int .i64 (rg.lo + (n : Nat))]) false).run Try.prog (later (later W2 y) u) = .ok (.int .i64 cv) (later (later W2 y) u) := fun u => by
                have hb : Below W2.heap.size W2 (later (later W2 y) u) := (by repeat (first | exact Below.refl _ _ | (with_reducible assumption) | apply gL | apply gA | apply gD | apply gN | (refine gS ?_ (by first | (simp; done) | (simp; omega) | omega))))
                have := lookup_spot (w := later (later W2 y) u) (r := r) (l := l) ((hb.block r (World.block_lt_of_map HM2.out)).trans HM2.out) k (rg.lo + (n : Nat))
                rw [HCN.out _ _ hk0 hlt1, ← hcv] at this
                exact this
              rw [← hmm]
              clear hmm hcv
              go_wp2
              refine region_later (by kernel_rfl) (by kernel_rfl) ?_
              repeat (go_big_quiet_step (fail))
              refine wpQuiet_nil ?_
              rintro W' ⟨u, rfl⟩
              clear fl
              go_wp2
              go_roundw
              case rel => exact ⟨n + 1, by omega, by go_num, by rw [HS2.out], later_ex (by repeat (first | exact Below.refl _ _ | (with_reducible assumption) | apply gL | apply gA | apply gD | apply gN | (refine gS ?_ (by first | (simp; done) | (simp; omega) | omega))))⟩
              case measure => simp [intOf]; omega
            · obtain rfl : n = sz := by omega
              obtain ⟨mm, hmm⟩ : ∃ m, m = h.mostUp k rg.lo n := ⟨_, rfl⟩
              rw [← hmm] at HS ⊢
              clear hmm
              by_cases hml : mm < ll
              · have HS2 := Lib.hid (show h.lookUp (k + 1) = ((k : Int), mm) by rw [HS.out, if_pos hml])
                go_wp2
                go_roundw
                case rel => exact ⟨k + 1, by omega, by go_num, by rw [HS2.out], by rw [HS2.out], later_ex (later_below hb2 hb2.size)⟩
                case measure => simp [intOf]; omega
              · have HS2 := Lib.hid (show h.lookUp (k + 1) = (cc, ll) by rw [HS.out, if_neg hml])
                go_wp2
                go_roundw
                case rel => exact ⟨k + 1, by omega, by go_num, by rw [HS2.out], by rw [HS2.out], later_ex (later_below hb2 hb2.size)⟩
                case measure => simp [intOf]; omega
        · obtain rfl : k = h.clocks.length := by omega
          go_wp2
          refine bodyPost_ret (v := .tuple #[.int .i64 (h.lookUp h.clocks.length).1, .int .i64 (h.lookUp h.clocks.length).2, .int .i64 0]) ?hr rfl (look_ret hV.out hE.out (hb1.trans (below_mono_of hb1 (by repeat (first | exact Below.refl _ _ | (with_reducible assumption) | apply gL | apply gA | apply gD | apply gN | (refine gS ?_ (by first | (simp; done) | (simp; omega) | omega)))))))
          case hr => simp [results, Try.results42, go_sem]
  · have HE := Lib.hid ha
    have hb : (h.askE 0 != 0) = true := by simpa using ha
    have hE := Lib.hid (show h.lookE = h.askE 0 by simp [Hs.lookE, ha])
    have hV := Lib.hid (show h.lookV = (0, 0) by rw [Hs.lookV, hE.out, if_neg ha])
    clear ha
    go_enter Try.func42, Try.ntmps42
    go_wp2_with (first | (go_at_call 79; refine (asked_bad _ h 0 _ ?hh HE.out).mono ?_; (case hh => exact H0.below (by repeat (first | exact Below.refl _ _ | (with_reducible assumption) | apply gL | apply gA | apply gD | apply gN | (refine gS ?_ (by first | (simp; done) | (simp; omega) | omega))))); (rintro e w' hr; first | ((with_reducible replace hr := Ret.up hr); obtain ⟨rfl, z, rfl⟩ := hr) | (obtain ⟨rfl, z, rfl⟩ := hr))))
    refine bodyPost_ret (v := .tuple #[.int .i64 0, .int .i64 0, .int .i64 (h.askE 0)]) ?hr rfl (look_ret hV.out hE.out (by repeat (first | exact Below.refl _ _ | (with_reducible assumption) | apply gL | apply gA | apply gD | apply gN | (refine gS ?_ (by first | (simp; done) | (simp; omega) | omega)))))
    case hr => simp [results, Try.results42, go_sem]
end Go.Proofs.Ytcngnfnljkkjgaa
