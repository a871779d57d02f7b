/-
A verdict over all truths; the bounds of an answer over all truths: of whatever function.
-/
import Derived.Test.YtcngnfnljkkjgaaTkWork2
namespace Go.Proofs.Ytcngnfnljkkjgaa
open Go.RowKit
attribute [local go_sem] cell_later frozen_later lt_later le_later

/-- Always, never, perhaps. -/
def verdictB (l : List (List Int)) (p : List Int → Bool) : Int := if l.all p = true then 1 else if l.any p = true then 3 else 2

theorem SlA.atE {w : World} {A : Option Addr} {c : Nat} {l : List (List Int)} (h : SlA w 4 e4 A c l) {i : Nat} (hi : i < l.length) :
    ∃ b off x e0 e1 e2 e3, A = some ⟨b, off, none⟩ ∧ b < w.heap.size ∧ l[i]? = some x ∧ e4 x = [.int .i64 e0, .int .i64 e1, .int .i64 e2, .int .i64 e3] ∧ w.cell? ⟨b, off + i * 4, none⟩ = some (.int .i64 e0) ∧ w.cell? ⟨b, off + i * 4 + 1, none⟩ = some (.int .i64 e1) ∧
      w.cell? ⟨b, off + i * 4 + 2, none⟩ = some (.int .i64 e2) ∧ w.cell? ⟨b, off + i * 4 + 3, none⟩ = some (.int .i64 e3) := by
  obtain ⟨b, off, x, e, hlt, hx, hc⟩ := h.at hi
  exact ⟨b, off, x, _, _, _, _, e, hlt, hx, rfl, hc 0 _ rfl, hc 1 _ rfl, hc 2 _ rfl, hc 3 _ rfl⟩

theorem any_snoc (l : List (List Int)) (p : List Int → Bool) (k : Nat) {x : List Int} (hx : l[k]? = some x) : (l.take (k + 1)).any p = ((l.take k).any p || p x) ∧ (l.take (k + 1)).all p = ((l.take k).all p && p x) := by
  rw [List.take_add_one, hx, List.any_append, List.all_append]
  simp

theorem truths_count {h : Hs} (hf : h.fault = 0) : h.truths.length ≤ 13845841 := by
  have hn : h.clocks.length ≤ 4 := (small_iff.1 (fault_zero hf).1).1
  have := pre_count hn (fun r hr => fault_clock hf hr) (List.prefix_refl (prods h.clocks))
  exact Nat.le_trans (List.length_filter_le _ _) this

set_option maxHeartbeats 1000000 in
theorem verdict_long (g : Nat) (h : Hs) (u1 u2 : Value) (p : List Int → Bool) (w : World) (H : WkAt w g h) (hf : Hid (h.fault = 0))
    (HC : Hid (∀ (x : World) (e : List Int) (e0 e1 e2 e3 : Int), e ∈ h.truths → e4 e = [.int .i64 e0, .int .i64 e1, .int .i64 e2, .int .i64 e3] → Below w.heap.size w x → Calls Try.prog 86 #[.agg #[.int .i64 e0, .int .i64 e1, .int .i64 e2, .int .i64 e3], u1, u2] x (Ret (.bool (p e)) x))) :
    Calls Try.prog 85 #[.pointer (some ⟨g, 0, none⟩), .func (.func 86) #[] #[u1, u2]] w (Ret (.int .i64 (verdictB h.truths p)) w) := by
  obtain ⟨A2, c2, A3, c3, A4, c4, A5, c5, r, l, h2, h3, h4, h5, h6, h7, h8⟩ := H
  have hgl := h8.lt
  have k5 := h8.cell 5
  simp only [List.getElem?_cons_zero, List.getElem?_cons_succ] at k5
  have htc := truths_count hf.out
  clear h2 h3 h4 h6 h7 h8
  go_enter Try.func85, Try.ntmps85
  go_wp2
  go_loopw [5, 6, 15] (fun yes no i wr => ∃ k : Nat, k ≤ h.truths.length ∧ i = .int .i64 k ∧ yes = .bool ((h.truths.take k).any p) ∧ no = .bool (!(h.truths.take k).all p) ∧ ∃ x, wr = later w x) (fun _ _ i _ => h.truths.length - (intOf i).toNat)
  case atStart => exact ⟨0, Nat.zero_le _, rfl, rfl, rfl, later_ex (Below.refl _ _)⟩
  case round =>
    obtain ⟨k, hk, rfl, rfl, rfl, x, rfl⟩ := hrel
    by_cases hlt : k < h.truths.length
    · have hlt1 : (k : Int) < (h.truths.length : Int) := by omega
      have hk0 : (0 : Int) ≤ (k : Int) := Int.natCast_nonneg _
      obtain ⟨b, off, e, e0, e1, e2, e3, rfl, hbl, he, h4, t0, t1, t2, t3⟩ := h5.atE hlt
      have HS := Lib.hid (any_snoc h.truths p k he)
      have HE4 := Lib.hid h4
      have HM := Lib.hid (List.mem_of_getElem? he)
      obtain ⟨yes, hyes⟩ : ∃ b, b = (h.truths.take k).any p := ⟨_, rfl⟩
      obtain ⟨all, hall⟩ : ∃ b, b = (h.truths.take k).all p := ⟨_, rfl⟩
      obtain ⟨pe, hpe⟩ : ∃ b, b = p e := ⟨_, rfl⟩
      rw [← hyes, ← hall, ← hpe] at HS
      rw [← hyes, ← hall]
      clear hyes hall he h4
      have hbx : Below w.heap.size w ((later w x).alloc (.cells #[.int .i64 e0, .int .i64 e1, .int .i64 e2, .int .i64 e3] 119)) := (by repeat (first | exact Below.refl _ _ | (with_reducible assumption) | apply gL | apply gA | apply gD | apply gN | (refine gS ?_ (by first | (simp; done) | (simp; omega) | omega))))
      have hcall := HC.out _ e e0 e1 e2 e3 HM.out HE4.out hbx
      rw [← hpe] at hcall
      have HCA := Lib.hid hcall
      clear hcall hbx hpe
      go_wp2_with (fail)
      refine HCA.out.mono ?_
      (rintro e w' hr; first | ((with_reducible replace hr := Ret.up hr); obtain ⟨rfl, z, rfl⟩ := hr) | (obtain ⟨rfl, z, rfl⟩ := hr))
      cases yes <;> cases all <;> cases pe <;> (
        go_wp2
        go_roundw
        case rel => exact ⟨k + 1, by omega, by go_num, by rw [HS.out.1]; rfl, by rw [HS.out.2]; rfl, later_ex (by repeat (first | exact Below.refl _ _ | (with_reducible assumption) | apply gL | apply gA | apply gD | apply gN | (refine gS ?_ (by first | (simp; done) | (simp; omega) | omega))))⟩
        case measure => simp [intOf]; omega)
    · obtain rfl : k = h.truths.length := by omega
      rw [List.take_length]
      have hv : verdictB h.truths p = (if h.truths.all p = true then 1 else if h.truths.any p = true then 3 else 2) := rfl
      cases hall : h.truths.all p
      · cases hany : h.truths.any p
        · have HV := Lib.hid (show verdictB h.truths p = 2 by rw [hv, hall, hany]; rfl)
          clear hv hall hany
          go_wp2
          go_ret
          exact ret_mk (ret_int HV.out.symm) (by repeat (first | exact Below.refl _ _ | (with_reducible assumption) | apply gL | apply gA | apply gD | apply gN | (refine gS ?_ (by first | (simp; done) | (simp; omega) | omega))))
        · have HV := Lib.hid (show verdictB h.truths p = 3 by rw [hv, hall, hany]; rfl)
          clear hv hall hany
          go_wp2
          go_ret
          exact ret_mk (ret_int HV.out.symm) (by repeat (first | exact Below.refl _ _ | (with_reducible assumption) | apply gL | apply gA | apply gD | apply gN | (refine gS ?_ (by first | (simp; done) | (simp; omega) | omega))))
      · have HV := Lib.hid (show verdictB h.truths p = 1 by rw [hv, hall]; rfl)
        clear hv hall
        go_wp2
        go_ret
        exact ret_mk (ret_int HV.out.symm) (by repeat (first | exact Below.refl _ _ | (with_reducible assumption) | apply gL | apply gA | apply gD | apply gN | (refine gS ?_ (by first | (simp; done) | (simp; omega) | omega))))
set_option maxHeartbeats 1000000 in
theorem verdict_clash (g : Nat) (h : Hs) (u1 u2 u3 : Value) (p : List Int → Bool) (w : World) (H : WkAt w g h) (hf : Hid (h.fault = 0))
    (HC : Hid (∀ (x : World) (e : List Int) (e0 e1 e2 e3 : Int), e ∈ h.truths → e4 e = [.int .i64 e0, .int .i64 e1, .int .i64 e2, .int .i64 e3] → Below w.heap.size w x → Calls Try.prog 91 #[.agg #[.int .i64 e0, .int .i64 e1, .int .i64 e2, .int .i64 e3], u1, u2, u3] x (Ret (.bool (p e)) x))) :
    Calls Try.prog 85 #[.pointer (some ⟨g, 0, none⟩), .func (.func 91) #[] #[u1, u2, u3]] w (Ret (.int .i64 (verdictB h.truths p)) w) := by
  obtain ⟨A2, c2, A3, c3, A4, c4, A5, c5, r, l, h2, h3, h4, h5, h6, h7, h8⟩ := H
  have hgl := h8.lt
  have k5 := h8.cell 5
  simp only [List.getElem?_cons_zero, List.getElem?_cons_succ] at k5
  have htc := truths_count hf.out
  clear h2 h3 h4 h6 h7 h8
  go_enter Try.func85, Try.ntmps85
  go_wp2
  go_loopw [5, 6, 15] (fun yes no i wr => ∃ k : Nat, k ≤ h.truths.length ∧ i = .int .i64 k ∧ yes = .bool ((h.truths.take k).any p) ∧ no = .bool (!(h.truths.take k).all p) ∧ ∃ x, wr = later w x) (fun _ _ i _ => h.truths.length - (intOf i).toNat)
  case atStart => exact ⟨0, Nat.zero_le _, rfl, rfl, rfl, later_ex (Below.refl _ _)⟩
  case round =>
    obtain ⟨k, hk, rfl, rfl, rfl, x, rfl⟩ := hrel
    by_cases hlt : k < h.truths.length
    · have hlt1 : (k : Int) < (h.truths.length : Int) := by omega
      have hk0 : (0 : Int) ≤ (k : Int) := Int.natCast_nonneg _
      obtain ⟨b, off, e, e0, e1, e2, e3, rfl, hbl, he, h4, t0, t1, t2, t3⟩ := h5.atE hlt
      have HS := Lib.hid (any_snoc h.truths p k he)
      have HE4 := Lib.hid h4
      have HM := Lib.hid (List.mem_of_getElem? he)
      obtain ⟨yes, hyes⟩ : ∃ b, b = (h.truths.take k).any p := ⟨_, rfl⟩
      obtain ⟨all, hall⟩ : ∃ b, b = (h.truths.take k).all p := ⟨_, rfl⟩
      obtain ⟨pe, hpe⟩ : ∃ b, b = p e := ⟨_, rfl⟩
      rw [← hyes, ← hall, ← hpe] at HS
      rw [← hyes, ← hall]
      clear hyes hall he h4
      have hbx : Below w.heap.size w ((later w x).alloc (.cells #[.int .i64 e0, .int .i64 e1, .int .i64 e2, .int .i64 e3] 119)) := (by repeat (first | exact Below.refl _ _ | (with_reducible assumption) | apply gL | apply gA | apply gD | apply gN | (refine gS ?_ (by first | (simp; done) | (simp; omega) | omega))))
      have hcall := HC.out _ e e0 e1 e2 e3 HM.out HE4.out hbx
      rw [← hpe] at hcall
      have HCA := Lib.hid hcall
      clear hcall hbx hpe
      go_wp2_with (fail)
      refine HCA.out.mono ?_
      (rintro e w' hr; first | ((with_reducible replace hr := Ret.up hr); obtain ⟨rfl, z, rfl⟩ := hr) | (obtain ⟨rfl, z, rfl⟩ := hr))
      cases yes <;> cases all <;> cases pe <;> (
        go_wp2
        go_roundw
        case rel => exact ⟨k + 1, by omega, by go_num, by rw [HS.out.1]; rfl, by rw [HS.out.2]; rfl, later_ex (by repeat (first | exact Below.refl _ _ | (with_reducible assumption) | apply gL | apply gA | apply gD | apply gN | (refine gS ?_ (by first | (simp; done) | (simp; omega) | omega))))⟩
        case measure => simp [intOf]; omega)
    · obtain rfl : k = h.truths.length := by omega
      rw [List.take_length]
      have hv : verdictB h.truths p = (if h.truths.all p = true then 1 else if h.truths.any p = true then 3 else 2) := rfl
      cases hall : h.truths.all p
      · cases hany : h.truths.any p
        · have HV := Lib.hid (show verdictB h.truths p = 2 by rw [hv, hall, hany]; rfl)
          clear hv hall hany
          go_wp2
          go_ret
          exact ret_mk (ret_int HV.out.symm) (by repeat (first | exact Below.refl _ _ | (with_reducible assumption) | apply gL | apply gA | apply gD | apply gN | (refine gS ?_ (by first | (simp; done) | (simp; omega) | omega))))
        · have HV := Lib.hid (show verdictB h.truths p = 3 by rw [hv, hall, hany]; rfl)
          clear hv hall hany
          go_wp2
          go_ret
          exact ret_mk (ret_int HV.out.symm) (by repeat (first | exact Below.refl _ _ | (with_reducible assumption) | apply gL | apply gA | apply gD | apply gN | (refine gS ?_ (by first | (simp; done) | (simp; omega) | omega))))
      · have HV := Lib.hid (show verdictB h.truths p = 1 by rw [hv, hall]; rfl)
        clear hv hall
        go_wp2
        go_ret
        exact ret_mk (ret_int HV.out.symm) (by repeat (first | exact Below.refl _ _ | (with_reducible assumption) | apply gL | apply gA | apply gD | apply gN | (refine gS ?_ (by first | (simp; done) | (simp; omega) | omega))))
set_option maxHeartbeats 1000000 in
theorem verdict_paid (g : Nat) (h : Hs) (u1 : Value) (p : List Int → Bool) (w : World) (H : WkAt w g h) (hf : Hid (h.fault = 0))
    (HC : Hid (∀ (x : World) (e : List Int) (e0 e1 e2 e3 : Int), e ∈ h.truths → e4 e = [.int .i64 e0, .int .i64 e1, .int .i64 e2, .int .i64 e3] → Below w.heap.size w x → Calls Try.prog 88 #[u1, .agg #[.int .i64 e0, .int .i64 e1, .int .i64 e2, .int .i64 e3]] x (Ret (.bool (p e)) x))) :
    Calls Try.prog 85 #[.pointer (some ⟨g, 0, none⟩), .func (.func 88) #[u1] #[]] w (Ret (.int .i64 (verdictB h.truths p)) w) := by
  obtain ⟨A2, c2, A3, c3, A4, c4, A5, c5, r, l, h2, h3, h4, h5, h6, h7, h8⟩ := H
  have hgl := h8.lt
  have k5 := h8.cell 5
  simp only [List.getElem?_cons_zero, List.getElem?_cons_succ] at k5
  have htc := truths_count hf.out
  clear h2 h3 h4 h6 h7 h8
  go_enter Try.func85, Try.ntmps85
  go_wp2
  go_loopw [5, 6, 15] (fun yes no i wr => ∃ k : Nat, k ≤ h.truths.length ∧ i = .int .i64 k ∧ yes = .bool ((h.truths.take k).any p) ∧ no = .bool (!(h.truths.take k).all p) ∧ ∃ x, wr = later w x) (fun _ _ i _ => h.truths.length - (intOf i).toNat)
  case atStart => exact ⟨0, Nat.zero_le _, rfl, rfl, rfl, later_ex (Below.refl _ _)⟩
  case round =>
    obtain ⟨k, hk, rfl, rfl, rfl, x, rfl⟩ := hrel
    by_cases hlt : k < h.truths.length
    · have hlt1 : (k : Int) < (h.truths.length : Int) := by omega
      have hk0 : (0 : Int) ≤ (k : Int) := Int.natCast_nonneg _
      obtain ⟨b, off, e, e0, e1, e2, e3, rfl, hbl, he, h4, t0, t1, t2, t3⟩ := h5.atE hlt
      have HS := Lib.hid (any_snoc h.truths p k he)
      have HE4 := Lib.hid h4
      have HM := Lib.hid (List.mem_of_getElem? he)
      obtain ⟨yes, hyes⟩ : ∃ b, b = (h.truths.take k).any p := ⟨_, rfl⟩
      obtain ⟨all, hall⟩ : ∃ b, b = (h.truths.take k).all p := ⟨_, rfl⟩
      obtain ⟨pe, hpe⟩ : ∃ b, b = p e := ⟨_, rfl⟩
      rw [← hyes, ← hall, ← hpe] at HS
      rw [← hyes, ← hall]
      clear hyes hall he h4
      have hbx : Below w.heap.size w ((later w x).alloc (.cells #[.int .i64 e0, .int .i64 e1, .int .i64 e2, .int .i64 e3] 119)) := (by repeat (first | exact Below.refl _ _ | (with_reducible assumption) | apply gL | apply gA | apply gD | apply gN | (refine gS ?_ (by first | (simp; done) | (simp; omega) | omega))))
      have hcall := HC.out _ e e0 e1 e2 e3 HM.out HE4.out hbx
      rw [← hpe] at hcall
      have HCA := Lib.hid hcall
      clear hcall hbx hpe
      go_wp2_with (fail)
      refine HCA.out.mono ?_
      (rintro e w' hr; first | ((with_reducible replace hr := Ret.up hr); obtain ⟨rfl, z, rfl⟩ := hr) | (obtain ⟨rfl, z, rfl⟩ := hr))
      cases yes <;> cases all <;> cases pe <;> (
        go_wp2
        go_roundw
        case rel => exact ⟨k + 1, by omega, by go_num, by rw [HS.out.1]; rfl, by rw [HS.out.2]; rfl, later_ex (by repeat (first | exact Below.refl _ _ | (with_reducible assumption) | apply gL | apply gA | apply gD | apply gN | (refine gS ?_ (by first | (simp; done) | (simp; omega) | omega))))⟩
        case measure => simp [intOf]; omega)
    · obtain rfl : k = h.truths.length := by omega
      rw [List.take_length]
      have hv : verdictB h.truths p = (if h.truths.all p = true then 1 else if h.truths.any p = true then 3 else 2) := rfl
      cases hall : h.truths.all p
      · cases hany : h.truths.any p
        · have HV := Lib.hid (show verdictB h.truths p = 2 by rw [hv, hall, hany]; rfl)
          clear hv hall hany
          go_wp2
          go_ret
          exact ret_mk (ret_int HV.out.symm) (by repeat (first | exact Below.refl _ _ | (with_reducible assumption) | apply gL | apply gA | apply gD | apply gN | (refine gS ?_ (by first | (simp; done) | (simp; omega) | omega))))
        · have HV := Lib.hid (show verdictB h.truths p = 3 by rw [hv, hall, hany]; rfl)
          clear hv hall hany
          go_wp2
          go_ret
          exact ret_mk (ret_int HV.out.symm) (by repeat (first | exact Below.refl _ _ | (with_reducible assumption) | apply gL | apply gA | apply gD | apply gN | (refine gS ?_ (by first | (simp; done) | (simp; omega) | omega))))
      · have HV := Lib.hid (show verdictB h.truths p = 1 by rw [hv, hall]; rfl)
        clear hv hall
        go_wp2
        go_ret
        exact ret_mk (ret_int HV.out.symm) (by repeat (first | exact Below.refl _ _ | (with_reducible assumption) | apply gL | apply gA | apply gD | apply gN | (refine gS ?_ (by first | (simp; done) | (simp; omega) | omega))))
end Go.Proofs.Ytcngnfnljkkjgaa
