/-
The reference: the clock to compare.
The reference's truths are the program's in another order, each once; what a comparison leaves: with no program in sight.
-/
import Derived.Test.YtcngnfnljkkjgaaCmS
namespace Go.Proofs.Ytcngnfnljkkjgaa
open Go.RowKit
attribute [local go_sem] cell_later frozen_later lt_later le_later

def cntR (l : List (List Int)) (c : Int) (e : List Int) : Int := ((l.countP fun x => err x c == err e c : Nat) : Int)
def leavesR (l : List (List Int)) (c : Int) : Int := (l.map (cntR l c)).foldl max 0

set_option maxHeartbeats 2000000 in
theorem refleaves_calls (A : Option Addr) (c : Nat) (l : List (List Int)) (k0 n : Nat) (w : World) (HL : LsAt w A c l) (hok : ∀ e ∈ l, ErrOk e ∧ e.length = n) (hk0 : k0 < n) :
    Calls Try.prog 55 #[.slice A l.length c, .int .i64 k0] w (Ret (.int .i64 (leavesR l (k0 : Int))) w) := by
  have hlb := HL.2.1
  have hk00 : (0 : Int) ≤ (k0 : Int) := Int.natCast_nonneg _
  go_enter Try.func55, Try.ntmps55
  go_wp2
  go_loopw [5, 6] (fun m i wr => ∃ k : Nat, k ≤ l.length ∧ i = .int .i64 k ∧ m = .int .i64 (((l.take k).map (cntR l (k0 : Int))).foldl max 0) ∧ Below w.heap.size w wr) (fun _ i _ => l.length - (intOf i).toNat)
  case atStart => exact ⟨0, Nat.zero_le _, rfl, rfl, Below.refl _ _⟩
  case round =>
    obtain ⟨k, hk, rfl, rfl, hb⟩ := hrel
    obtain ⟨N, hN⟩ : ∃ N, N = ((l.take k).map (cntR l (k0 : Int))).foldl max 0 := ⟨_, rfl⟩
    rw [← hN]
    by_cases hlt : k < l.length
    · have hlt1 : (k : Int) < (l.length : Int) := by omega
      have hki : (0 : Int) ≤ (k : Int) := Int.natCast_nonneg _
      obtain ⟨b, off, e, B, d, rfl, hbl, hx, s0, hsl, -⟩ := (HL.below hb).at hlt
      have hel := (hok e (List.mem_of_getElem? hx)).2
      obtain ⟨p, ofp, y, rfl, hpl, hy, t0⟩ := hsl.atI (i := k0) (by omega)
      have hyv : err e (k0 : Int) = y := by simp [err, List.getD_eq_getElem?_getD, hy]
      have hk1 : (k0 : Int) < (e.length : Int) := by omega
      have hS := fold_take (g := max) (f := cntR l (k0 : Int)) (a := 0) hx
      rw [← hN] at hS
      have HS := Lib.hid hS
      have HY := Lib.hid hyv
      clear hx hel hsl hy hyv hS hN
      go_wp2
      go_loopw [7, 8] (fun m i wr2 => ∃ j : Nat, j ≤ l.length ∧ i = .int .i64 j ∧ m = .int .i64 ((l.take j).countP fun x => err x (k0 : Int) == y : Nat) ∧ Below wr.heap.size wr wr2) (fun _ i _ => l.length - (intOf i).toNat)
      case atStart => exact ⟨0, Nat.zero_le _, rfl, rfl, Below.refl _ _⟩
      case round =>
        obtain ⟨j, hj, rfl, rfl, hb2⟩ := hrel
        have hcl : ((l.take j).countP fun x => err x (k0 : Int) == y) ≤ j := Nat.le_trans List.countP_le_length (by simp; omega)
        by_cases hlt' : j < l.length
        · have hlt1' : (j : Int) < (l.length : Int) := by omega
          have hji : (0 : Int) ≤ (j : Int) := Int.natCast_nonneg _
          obtain ⟨b', off', e', B', d', hA', hbl', hx', s1, hsl', -⟩ := ((HL.below hb).below hb2).at hlt'
          cases hA'
          have hel' := (hok e' (List.mem_of_getElem? hx')).2
          obtain ⟨p', ofp', y', rfl, hpl', hy', t1⟩ := hsl'.atI (i := k0) (by omega)
          have hyv' : err e' (k0 : Int) = y' := by simp [err, List.getD_eq_getElem?_getD, hy']
          have hk1' : (k0 : Int) < (e'.length : Int) := by omega
          have hS' : ((l.take (j + 1)).countP fun x => err x (k0 : Int) == y) = ((l.take j).countP fun x => err x (k0 : Int) == y) + (if (y' == y) = true then 1 else 0) := by
            rw [List.take_add_one, hx', List.countP_append]
            simp [List.countP_cons, hyv']
          obtain ⟨M, hM⟩ : ∃ M, M = ((l.take j).countP fun x => err x (k0 : Int) == y) := ⟨_, rfl⟩
          rw [← hM] at hcl hS' ⊢
          have hm0 : (0 : Int) ≤ (M : Int) := Int.natCast_nonneg _
          have hmk : (M : Int) ≤ (j : Int) := by omega
          have s0' := (hb2.cell (p := ⟨b, off + k, none⟩) hbl).trans s0
          have t0' := (hb2.cell (p := ⟨p, ofp + k0, none⟩) hpl).trans t0
          have hbl2 := Nat.lt_of_lt_of_le hbl hb2.size
          have hpl2 := Nat.lt_of_lt_of_le hpl hb2.size
          clear hx' hel' hsl' hy' hyv' hM
          cases hp : (y' == y) with
          | false =>
            rw [hp] at hS'
            have HS' := Lib.hid hS'
            clear hS'
            go_wp2
            refine region_later (by kernel_rfl) (by kernel_rfl) ?_
            repeat (go_big_quiet_step (fail))
            refine wpQuiet_nil ?_
            rintro W' ⟨u, rfl⟩
            go_wp2
            go_roundw
            case rel => exact ⟨j + 1, by omega, by go_num, by rw [HS'.out]; rfl, later_below hb2 hb2.size⟩
            case measure => simp [intOf]; omega
          | true =>
            rw [hp] at hS'
            have HS' := Lib.hid hS'
            clear hS'
            go_wp2
            refine region_later (by kernel_rfl) (by kernel_rfl) ?_
            repeat (go_big_quiet_step (fail))
            refine wpQuiet_nil ?_
            rintro W' ⟨u, rfl⟩
            go_wp2
            go_roundw
            case rel => exact ⟨j + 1, by omega, by go_num, by rw [HS'.out]; congr 1, later_below hb2 hb2.size⟩
            case measure => simp [intOf]; omega
        · obtain rfl : j = l.length := by omega
          have hT : (((l.take l.length).countP fun x => err x (k0 : Int) == y : Nat) : Int) = cntR l (k0 : Int) e := by
            rw [List.take_length, cntR, HY.out]
          rw [hT]
          obtain ⟨T, hTT⟩ : ∃ T, T = cntR l (k0 : Int) e := ⟨_, rfl⟩
          have HS1 := HS.out
          rw [← hTT] at HS1 ⊢
          clear hT hcl HS hTT
          have hbb := hb.trans (hb2.mono hb.size)
          by_cases hmax : N < T
          · have hm2 : ¬ T ≤ N := by omega
            have HS2 := Lib.hid (HS1.trans (show max N T = T by omega))
            clear HS1
            go_wp2
            go_roundw
            case rel => exact ⟨k + 1, by omega, by go_num, by rw [HS2.out], hbb⟩
            case measure => simp [intOf]; omega
          · have hm2 : T ≤ N := by omega
            have HS2 := Lib.hid (HS1.trans (show max N T = N by omega))
            clear HS1
            go_wp2
            go_roundw
            case rel => exact ⟨k + 1, by omega, by go_num, by rw [HS2.out], hbb⟩
            case measure => simp [intOf]; omega
    · obtain rfl : k = l.length := by omega
      have hR := Lib.hid (show N = leavesR l (k0 : Int) by rw [hN, List.take_length]; rfl)
      clear hN
      go_wp2
      go_ret
      exact ret_mk (ret_int hR.out) hb
end Go.Proofs.Ytcngnfnljkkjgaa
namespace Go.Proofs.Ytcngnfnljkkjgaa
open Go.RowKit

theorem enc_of_nth : ∀ (l : List Rg), (∀ r ∈ l, r.offB = true) → ∀ n, 0 ≤ n → n < sizeP l → encE l (nthE l n) = n
  | [], _, n, h0, h1 => by
    simp only [sizeP] at h1
    simp only [encE]
    omega
  | r :: l, h, n, h0, h1 => by
    obtain ⟨-, -, -, h4, -⟩ := off_parts (h r (by simp))
    have hs : 0 < r.size := by omega
    have h2 : n / r.size < sizeP l := Int.ediv_lt_of_lt_mul hs (by rw [Int.mul_comm]; exact h1)
    have ih := enc_of_nth l (fun x hx => h x (by simp [hx])) (n / r.size) (Int.ediv_nonneg h0 (by omega)) h2
    simp only [nthE, encE, ih]
    have := Int.emod_add_mul_ediv n r.size
    omega
theorem truR_nodup {h : Hs} (hf : h.fault = 0) : h.truR.Nodup := by
  unfold Hs.truR Hs.truUp List.Nodup
  refine List.Pairwise.filter _ ?_
  rw [List.pairwise_map, many_sizeP hf]
  have hr : (List.range (sizeP h.clocks).toNat).Pairwise (· ≠ ·) := List.nodup_range
  refine List.Pairwise.imp_of_mem (fun {a b} ha hb hab hxy => ?_) hr
  rw [List.mem_range] at ha hb
  have e1 := enc_of_nth _ (off_of hf) (a : Int) (by omega) (by omega)
  have e2 := enc_of_nth _ (off_of hf) (b : Int) (by omega) (by omega)
  rw [hxy] at e1
  omega
theorem truR_perm {h : Hs} (hf : h.fault = 0) : h.truR.Perm h.truths :=
  (List.perm_ext_iff_of_nodup (truR_nodup hf) ((prods_nodup _).filter _)).2 (mem_truR hf)

theorem cnt_plain {h : Hs} (hf : h.fault = 0) (k : Nat) (e : List Int) : cntR h.truR (k : Int) e = countT h.truths (k : Int) (err e (k : Int)) := by
  unfold cntR countT
  rw [(truR_perm hf).countP_eq, List.countP_eq_length_filter]
  rfl
theorem truth_in {h : Hs} (hf : h.fault = 0) {e : List Int} (he : e ∈ h.truths) {k : Nat} {r : Rg} (hr : h.clocks[k]? = some r) : r.lo ≤ err e (k : Int) ∧ err e (k : Int) ≤ r.hi := by
  have h1 : ∀ y ∈ h.clocks, y.lo ≤ y.hi := fun y hy => (off_parts (off_of hf y hy)).2.1
  have hk : k < h.clocks.length := by
    rcases Nat.lt_or_ge k h.clocks.length with h | h
    · exact h
    · rw [List.getElem?_eq_none h] at hr; cases hr
  exact ((mem_prods h1).1 (List.mem_filter.1 he).1).2 k hk r hr
theorem leaves_plain {h : Hs} (hf : h.fault = 0) {k : Nat} (hk : k < h.clocks.length) : leavesR h.truR (k : Int) = h.mostAt k := by
  obtain ⟨r, hr⟩ : ∃ r, h.clocks[k]? = some r := ⟨_, List.getElem?_eq_getElem hk⟩
  have hm : h.mostAt k = ((List.range r.size.toNat).map fun (n : Nat) => countT h.truths (k : Int) (r.lo + (n : Int))).foldl max 0 := by
    rw [Hs.mostAt, hr, List.foldl_map]
    rfl
  rw [hm, leavesR]
  obtain ⟨a1, a2, a3⟩ := foldl_max (h.truR.map (cntR h.truR (k : Int))) 0
  obtain ⟨b1, b2, b3⟩ := foldl_max ((List.range r.size.toNat).map fun (n : Nat) => countT h.truths (k : Int) (r.lo + (n : Int))) 0
  apply Int.le_antisymm
  · rcases a3 with a3 | a3
    · rw [a3]; exact b1
    · obtain ⟨e, he, hx⟩ := List.mem_map.1 a3
      have hin := truth_in hf ((mem_truR hf e).1 he) hr
      rw [← hx]
      apply b2
      rw [List.mem_map]
      refine ⟨(err e (k : Int) - r.lo).toNat, List.mem_range.2 (by unfold Rg.size; omega), ?_⟩
      rw [cnt_plain hf]
      congr 1
      omega
  · rcases b3 with b3 | b3
    · rw [b3]; exact a1
    · obtain ⟨n, -, hx⟩ := List.mem_map.1 b3
      rw [← hx]
      by_cases h0 : countT h.truths (k : Int) (r.lo + (n : Int)) = 0
      · rw [h0]; exact a1
      · have hne : (h.truths.filter fun e => e.getD (k : Int).toNat 0 == r.lo + (n : Int)) ≠ [] := by
          intro hc
          apply h0
          unfold countT
          rw [hc]
          rfl
        obtain ⟨e, he⟩ := List.exists_mem_of_ne_nil _ hne
        obtain ⟨he1, he2⟩ := List.mem_filter.1 he
        have hv : err e (k : Int) = r.lo + (n : Int) := by simpa [err] using he2
        apply a2
        rw [List.mem_map]
        exact ⟨e, (mem_truR hf e).2 he1, by rw [cnt_plain hf, hv]⟩

def lookRStep (l : List (List Int)) (s : Int × Int) (i : Nat) : Int × Int := if leavesR l ((i + 1 : Nat) : Int) < s.2 then (((i + 1 : Nat) : Int), leavesR l ((i + 1 : Nat) : Int)) else s
def lookRUp (l : List (List Int)) (k : Nat) : Int × Int := (List.range k).foldl (lookRStep l) (0, leavesR l 0)
theorem lookRUp_snoc (l : List (List Int)) (k : Nat) : lookRUp l (k + 1) = lookRStep l (lookRUp l k) k := by
  unfold lookRUp
  rw [List.range_succ, List.foldl_append]
  rfl
theorem most_le (h : Hs) (k : Nat) : h.mostAt k ≤ h.truths.length := by
  unfold Hs.mostAt
  split
  · unfold Hs.mostUp
    rw [← List.foldl_map (f := fun (n : Nat) => countT h.truths (k : Int) (_ + (n : Int))) (g := max)]
    obtain ⟨b1, b2, b3⟩ := foldl_max ((List.range (Rg.size ‹_›).toNat).map fun (n : Nat) => countT h.truths (k : Int) ((Rg.lo ‹_›) + (n : Int))) 0
    rcases b3 with b3 | b3
    · rw [b3]; omega
    · obtain ⟨n, -, hx⟩ := List.mem_map.1 b3
      rw [← hx]
      exact (countT_bd _ _ _).2
  · omega
theorem look_plain {h : Hs} (hf : h.fault = 0) : ∀ k, k < h.clocks.length → lookRUp h.truR k = h.lookUp (k + 1)
  | 0, hk => by
    have h0 := leaves_plain hf hk
    have hm := most_le h 0
    rw [lookUp_snoc]
    show (0, leavesR h.truR 0) = h.lookStep (0, (h.truths.length : Int) + 1) 0
    unfold Hs.lookStep
    rw [if_pos (by simp only; omega), ← h0]
    rfl
  | k + 1, hk => by
    rw [lookRUp_snoc, lookUp_snoc, look_plain hf k (by omega), lookRStep, Hs.lookStep, leaves_plain hf hk]
end Go.Proofs.Ytcngnfnljkkjgaa
