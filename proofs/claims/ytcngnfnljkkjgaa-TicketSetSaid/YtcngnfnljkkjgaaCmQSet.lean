/-
TicketSet: the walk.
-/
import Derived.Test.YtcngnfnljkkjgaaCmC2
import Derived.Test.YtcngnfnljkkjgaaCmX
import Derived.Test.YtcngnfnljkkjgaaCmS4
import Derived.Test.YtcngnfnljkkjgaaCmY
import Derived.Test.YtcngnfnljkkjgaaCmQFirst
import Derived.Deep.Cut
namespace Go.Proofs.Ytcngnfnljkkjgaa
open Go.RowKit
attribute [local go_sem] cell_later frozen_later lt_later le_later

theorem list_set_same {α : Type} : ∀ {l : List α} {k : Nat} {x : α}, l[k]? = some x → l.set k x = l
  | [], _, _, h => by simp at h
  | y :: l, 0, x, h => by
    simp only [List.getElem?_cons_zero, Option.some.injEq] at h
    rw [h, List.set_cons_zero]
  | y :: l, k + 1, x, h => by rw [List.set_cons_succ, list_set_same (by simpa using h)]
def stF (kk : Nat) (N : Int) (c : Cp) : Cp := if c.ck = (kk : Int) then { c with mn := c.mn + N } else c
def stK (l : List Cp) (kk : Nat) (N : Int) (k : Nat) : List Cp := (l.take k).map (stF kk N) ++ l.drop k
theorem stK_len (l : List Cp) (kk : Nat) (N : Int) (k : Nat) : (stK l kk N k).length = l.length := by
  simp only [stK, List.length_append, List.length_map, List.length_take, List.length_drop]
  omega
theorem stK_get {l : List Cp} (kk : Nat) (N : Int) {k : Nat} (hk : k < l.length) : (stK l kk N k)[k]? = l[k]? := by
  have hl : ((l.take k).map (stF kk N)).length = k := by
    rw [List.length_map, List.length_take]
    omega
  unfold stK
  rw [List.getElem?_append_right (by omega), hl, Nat.sub_self, List.getElem?_drop, Nat.add_zero]
theorem stK_set {l : List Cp} (kk : Nat) (N : Int) {k : Nat} {c : Cp} (hk : l[k]? = some c) : (stK l kk N k).set k (stF kk N c) = stK l kk N (k + 1) := by
  have hlt : k < l.length := (List.getElem?_eq_some_iff.1 hk).1
  have hl : ((l.take k).map (stF kk N)).length = k := by
    rw [List.length_map, List.length_take]
    omega
  unfold stK
  rw [List.set_append_right _ _ (by omega), hl, Nat.sub_self, List.drop_eq_getElem_cons hlt, List.set_cons_zero, List.take_add_one, hk, Option.toList_some, List.map_append, List.append_assoc]
  rfl
theorem stK_same {l : List Cp} (kk : Nat) (N : Int) {k : Nat} {c : Cp} (hk : l[k]? = some c) (hc : ¬ c.ck = (kk : Int)) : stK l kk N (k + 1) = stK l kk N k := by
  rw [← stK_set kk N hk, show stF kk N c = c by unfold stF; rw [if_neg hc]]
  have h1 := (stK_get kk N (List.getElem?_eq_some_iff.1 hk).1).trans hk
  exact list_set_same h1
theorem stK_full (l : List Cp) (kk : Nat) (N : Int) : stK l kk N l.length = l.map (stF kk N) := by
  unfold stK
  rw [List.take_length, List.drop_length, List.append_nil]

theorem clockR_bd {h : Hs} (ha : h.askE 0 = 0) (k : Nat) : (-30 ≤ (h.clockR k).lo ∧ (h.clockR k).lo ≤ 30) ∧ (-30 ≤ (h.clockR k).hi ∧ (h.clockR k).hi ≤ 30) := by
  obtain ⟨hf, -, hne⟩ := askE_zero ha
  obtain ⟨e, he, h1⟩ := lo_at (f := fun e => err e (k : Int)) hne
  obtain ⟨e', he', h2⟩ := hi_at (f := fun e => err e (k : Int)) hne
  have h3 := err_bd (truth_ok hf he) (k : Int)
  have h4 := err_bd (truth_ok hf he') (k : Int)
  simp only [Hs.clockR, h1, h2]
  omega
theorem infoRRange : (Try.prog.info? 44).map (fun i => (i.zero, i.size, i.bytes)) = some (some (.agg #[.int .i64 0, .int .i64 0]), 2, 16) := by kernel_rfl
theorem rem_nat {n : Nat} (c : Int) (hn : 0 < n) : ∃ k : Nat, (k : Int) = c % (n : Int) ∧ k < n := by
  have h1 := Int.emod_nonneg c (show (n : Int) ≠ 0 by omega)
  have h2 := Int.emod_lt_of_pos c (show (0 : Int) < (n : Int) by omega)
  exact ⟨(c % (n : Int)).toNat, by omega, by omega⟩
theorem set_set' {α : Type} (l : List α) (k : Nat) (x y : α) : (l.set k x).set k y = l.set k y := List.set_set x
theorem blk_ne {w : World} {a b : Nat} {s t : TypeId} {xs ys : List Value} (h : BlkAt w a s xs) (k : BlkAt w b t ys) (hst : s ≠ t) : a ≠ b := by
  rintro rfl
  unfold BlkAt at h k
  rw [h] at k
  injection k with k
  injection k with _ k
  exact hst k
theorem ows_ne {α : Type} {w : World} {g : α → List Value} {a b : Nat} {s t : TypeId} {l : List α} {ys : List Value} (h : OwnS w g s a l) (k : BlkAt w b t ys) (hst : s ≠ t) : a ≠ b := by
  obtain ⟨r, h⟩ := h
  exact blk_ne h k hst
theorem ows_ows {α β : Type} {w : World} {g : α → List Value} {g' : β → List Value} {a b : Nat} {s t : TypeId} {l : List α} {l' : List β} (h : OwnS w g s a l) (k : OwnS w g' t b l') (hst : s ≠ t) : a ≠ b := by
  obtain ⟨r, k⟩ := k
  exact ows_ne h k hst

set_option maxRecDepth 100000 in
set_option maxHeartbeats 8000000 in
theorem lawset_calls (v : Value) (h : Hs) (cv byv : Int) (w : World) (H : HsAt w v h) (hcv : 0 ≤ cv ∧ cv ≤ 255) (hby : 0 ≤ byv ∧ byv ≤ 255) :
    Calls Try.prog 11 #[v, .int .u8 cv, .int .u8 byv] w (Ret (.bool true) w) := by
  have H0 := H
  obtain ⟨A2, c2, A3, c3, A4, c4, rfl, H2, H3, H4⟩ := H
  obtain ⟨W1, hW1⟩ : ∃ W1, W1 = w.alloc (.cells #[.int .i64 h.hour, .int .i64 h.grace, .slice A2 h.clocks.length c2, .slice A3 h.tickets.length c3, .slice A4 h.clips.length c4] 26) := ⟨_, rfl⟩
  have hb1 : Below w.heap.size w W1 := by rw [hW1]; exact gA (Below.refl _ _)
  have hB : BlkAt W1 w.heap.size 26 [.int .i64 h.hour, .int .i64 h.grace, .slice A2 h.clocks.length c2, .slice A3 h.tickets.length c3, .slice A4 h.clips.length c4] := by rw [hW1]; exact BlkAt.new _ _ _
  have H1 := H0.below hb1
  have q0 := hB.cell 0
  have q1 := hB.cell 1
  have q2 := hB.cell 2
  have q3 := hB.cell 3
  have q4 := hB.cell 4
  simp only [List.getElem?_cons_zero, List.getElem?_cons_succ] at q0 q1 q2 q3 q4
  have hBl := hB.lt
  cases hr : h.readyB with
  | false =>
    go_enter Try.func11, Try.ntmps11
    go_wp2_with (fail)
    rw [← hW1]
    clear hW1
    refine (ready_calls _ h _ H1).mono ?_
    (rintro e w' hr; first | ((with_reducible replace hr := Ret.up hr); obtain ⟨rfl, z, rfl⟩ := hr) | (obtain ⟨rfl, z, rfl⟩ := hr))
    go_wp2_with (fail)
    refine (awake_calls _).mono ?_
    (rintro e w' hr; first | ((with_reducible replace hr := Ret.up hr); obtain ⟨rfl, z, rfl⟩ := hr) | (obtain ⟨rfl, z, rfl⟩ := hr))
    go_wp2
    go_ret
    exact ret_mk rfl (later_below hb1 hb1.size)
  | true =>
    obtain ⟨hl2, hl3, hl4, hf, hl10⟩ := ready_of hr
    by_cases hc0 : h.clocks.length = 0
    · have hc1 : ((h.clocks.length : Int) == 0) = true := by simp [hc0]
      clear hc0
      go_enter Try.func11, Try.ntmps11
      go_wp2_with (fail)
      rw [← hW1]
      clear hW1
      refine (ready_calls _ h _ H1).mono ?_
      (rintro e w' hr; first | ((with_reducible replace hr := Ret.up hr); obtain ⟨rfl, z, rfl⟩ := hr) | (obtain ⟨rfl, z, rfl⟩ := hr))
      go_wp2_with (fail)
      refine (awake_calls _).mono ?_
      (rintro e w' hr; first | ((with_reducible replace hr := Ret.up hr); obtain ⟨rfl, z, rfl⟩ := hr) | (obtain ⟨rfl, z, rfl⟩ := hr))
      go_wp2
      go_ret
      exact ret_mk rfl (later_below hb1 hb1.size)
    · have hc1 : ((h.clocks.length : Int) == 0) = false := beq_eq_false_iff_ne.2 (by omega)
      have hcp : (0 : Int) < (h.clocks.length : Int) := by omega
      obtain ⟨kk, hkk', hkk⟩ := rem_nat (n := h.clocks.length) cv (by omega)
      obtain ⟨r, hr⟩ : ∃ r, h.clocks[kk]? = some r := ⟨_, List.getElem?_eq_getElem hkk⟩
      have hrb := fault_clock hf (List.mem_of_getElem? hr)
      obtain ⟨i0, hi, hz0, hz1, hz2⟩ := info_parts infoRRange
      obtain ⟨k0, hk, hx0, hx1, hx2⟩ := info_parts infoRClip
      obtain ⟨N, hN⟩ : ∃ N, N = byv % 9 - 4 := ⟨_, rfl⟩
      have hNb : -4 ≤ N ∧ N ≤ 4 := by omega
      have HN := Lib.hid hN
      have HKK := Lib.hid hkk'
      have HF := Lib.hid hf
      have HR := Lib.hid hr
      have hc4 : h.clocks.length ≤ 4 := (small_iff.1 (fault_zero hf).1).1
      have hkr := hkk'.symm
      clear hkk' hf hr hc0 hN
      go_enter Try.func11, Try.ntmps11
      go_wp2_with (fail)
      rw [← hW1]
      clear hW1
      refine (ready_calls _ h _ H1).mono ?_
      (rintro e w' hr; first | ((with_reducible replace hr := Ret.up hr); obtain ⟨rfl, z, rfl⟩ := hr) | (obtain ⟨rfl, z, rfl⟩ := hr))
      obtain ⟨W2, hWW2⟩ : ∃ X, X = later W1 z := ⟨_, rfl⟩
      have hn : Below W1.heap.size W1 W2 := by rw [hWW2]; exact below_later _ _
      rw [← hWW2] 
      clear hWW2
      replace H1 := H1.below hn
      replace q0 := (hn.cell (p := ⟨w.heap.size, 0, none⟩) hBl).trans q0
      replace q1 := (hn.cell (p := ⟨w.heap.size, 1, none⟩) hBl).trans q1
      replace q2 := (hn.cell (p := ⟨w.heap.size, 2, none⟩) hBl).trans q2
      replace q3 := (hn.cell (p := ⟨w.heap.size, 3, none⟩) hBl).trans q3
      replace q4 := (hn.cell (p := ⟨w.heap.size, 4, none⟩) hBl).trans q4
      replace hBl := Nat.lt_of_lt_of_le hBl hn.size
      replace hb1 := hb1.trans (hn.mono hb1.size)
      clear hn
      go_upto_region 5 with (fail)
      rw [hkr, ← HN.out]
      obtain ⟨bx, hbx⟩ : ∃ b, b = W2.heap.size := ⟨_, rfl⟩
      have hX : BlkAt (W2.alloc (.cells #[.int .i64 h.hour, .int .i64 h.grace, .slice A2 h.clocks.length c2, .slice A3 h.tickets.length c3, .slice A4 h.clips.length c4] 26)) bx 26 [.int .i64 h.hour, .int .i64 h.grace, .slice A2 h.clocks.length c2, .slice A3 h.tickets.length c3, .slice A4 h.clips.length c4] := by rw [hbx]; exact BlkAt.new _ _ _
      rw [← hbx]
      obtain ⟨W3, hW3⟩ : ∃ X, X = W2.alloc (.cells #[.int .i64 h.hour, .int .i64 h.grace, .slice A2 h.clocks.length c2, .slice A3 h.tickets.length c3, .slice A4 h.clips.length c4] 26) := ⟨_, rfl⟩
      have hb23 : Below W2.heap.size W2 W3 := by rw [hW3]; exact gA (Below.refl _ _)
      rw [← hW3] at hX ⊢
      clear hW3
      have HB23 := Lib.hid hb23
      have HBX := Lib.hid hX
      have HBXG := Lib.hid (show W2.heap.size ≤ bx by omega)
      have H23 := (H2.below hb1).below hb23
      have H43 := (H4.below hb1).below hb23
      have l1 := hBl
      have HCX : Hid (∀ V, Below W2.heap.size W2 V → Same [⟨w.heap.size, 2, none⟩, ⟨w.heap.size, 4, none⟩] W2 V) := Lib.hid fun V hV =>
        same_below hV (by simp only [List.mem_cons, List.not_mem_nil, or_false]; rintro a (rfl | rfl) <;> assumption)
      clear hb23 hX hbx
      go_cut [] from 56 (fun wr => ∃ gx cx gy cy, Below W2.heap.size W2 wr ∧ BlkAt wr bx 26 [.int .i64 h.hour, .int .i64 h.grace, .slice (some ⟨gx, 0, none⟩) h.clocks.length cx, .slice A3 h.tickets.length c3, .slice (some ⟨gy, 0, none⟩) h.clips.length cy] ∧ OwnS wr gR 44 gx h.clocks ∧ OwnS wr gC 74 gy h.clips ∧ h.clocks.length ≤ cx ∧ h.clips.length ≤ cy ∧ W2.heap.size ≤ gx ∧ W2.heap.size ≤ gy)
      case first =>
        obtain ⟨C, hC⟩ : ∃ C, C = Same [⟨w.heap.size, 2, none⟩, ⟨w.heap.size, 4, none⟩] W2 := ⟨_, rfl⟩
        rw [← hC] at HCX
        have HCB : Hid (∀ V, Below W3.heap.size W3 V → C V) := Lib.hid fun V hV => HCX.out _ (HB23.out.trans (hV.mono HB23.out.size))
        have hCd : C W3.drew := HCB.out _ (gD (Below.refl _ _))
        obtain ⟨G, hG⟩ : ∃ G, G = held C W3.drew := ⟨_, rfl⟩
        have f0 : ∀ x, (G x).cell? ⟨w.heap.size, 2, none⟩ = some (.slice A2 h.clocks.length c2) := fun x => by
          have := held_spec hCd x
          rw [← hG, hC] at this
          exact (this _ (by simp)).trans q2
        have f1 : ∀ x, (G x).cell? ⟨w.heap.size, 4, none⟩ = some (.slice A4 h.clips.length c4) := fun x => by
          have := held_spec hCd x
          rw [← hG, hC] at this
          exact (this _ (by simp)).trans q4
        refine region_sk4 C [[], [], [1], [0, 2], [], [], [5], [4, 6, 3], [0, 1, 2, 3], [8, 3, 7, 0, 1, 2, 3], [0, 1, 2, 3, 4, 5, 6, 7, 8, 9], [10, 7, 9, 0, 1, 2, 3, 4, 5, 6, 7, 8, 9]] (.qs [1, 2, 5, 6] (.two 0 (.two 3 (.qs [8] (.one 4 (.one 7 (.one 9 (.one 10 .done))))) 4 (.one 3 (.qs [8] (.one 7 (.one 9 (.one 10 .done)))))) 4 (.one 0 (.one 3 (.qs [8] (.one 7 (.one 9 (.one 10 .done)))))))) 11 (by kernel_rfl) (by kernel_rfl) (by kernel_rfl) hCd ?_
        refine wpSk4_qs (w0 := W3.drew) hCd ?_
        rw [← hG]
        clear hG hC hCd
        simp only [List.filterMap_cons, List.filterMap_nil, List.getElem?_toArray, List.getElem?_cons_zero, List.getElem?_cons_succ]
        change wpQuiet _ _ _ _ [_, _, _, _] _
        repeat (go_big_quiet_step (fail))
        refine wpQuiet_nil ?_
        clear f0 f1
        obtain ⟨V, hV, hbV⟩ : ∃ V, V = W3.drew ∧ Below W3.heap.size W3 V := ⟨_, rfl, gD (Below.refl _ _)⟩
        rw [← hV]
        clear hV
        refine wpSk4_two rfl rfl (fun K hK => ?_) (fun K hK => ?_)
        · go_simp
          obtain ⟨V1, hV⟩ : ∃ X, X = V.alloc (.cells #[] 44) := ⟨_, rfl⟩
          obtain ⟨ga, hgg⟩ : ∃ b, b = V.heap.size := ⟨_, rfl⟩
          have hbV1 : Below W3.heap.size W3 V1 := by rw [hV]; exact gA hbV
          have hEga : BlkAt V1 ga 44 [] := by rw [hV, hgg]; exact BlkAt.new _ _ _
          have hgega : W3.heap.size ≤ ga := by rw [hgg]; exact hbV.size
          have hal : ∀ b t cs, BlkAt V b t cs → BlkAt V1 b t cs := fun b t cs hB => by rw [hV]; exact hB.alloc _
          rw [← hV, ← hgg]
          clear hV hgg
          refine hK.out _ _ (HCB.out _ hbV1) ?_
          clear hK K
          clear hal
          refine wpSk4_two rfl rfl (fun K hK => ?_) (fun K hK => ?_)
          · rw [if_pos (by rfl)]
            refine wp_append_copy _ _ 22 rfl W3.heap.size 44 i0 (.agg #[.int .i64 0, .int .i64 0]) 2 16 Try.underlying22 hi hz0 hz1 hz2 rfl (by decide) ga rfl hEga hgega rfl (H23.below hbV1) (fun _ _ => rfl) ?c1 ?c3 ?c4 ?c5 ?_
            case c1 =>
              intro y _ u hu
              simp only [gR, List.mem_cons, List.not_mem_nil, or_false] at hu
              rcases hu with rfl | rfl <;> rfl
            case c3 => unfold maxLen; omega
            case c4 => omega
            case c5 => exact hbV1.size
            intro gx cx V2 hgx hlx hO hgr
            have hbV2 : Below W3.heap.size W3 V2 := hbV1.grown hgr hbV1.size (fun j hj => by have := Option.some.inj hj; omega)
            simp only [Act.put, List.setIfInBounds_toArray, List.getElem_toArray, List.getElem_cons_succ, List.getElem_cons_zero, List.set_cons_succ, List.set_cons_zero]
            refine hK.out _ _ (HCB.out _ hbV2) ?_
            clear hK K
            obtain ⟨G, hG⟩ : ∃ G, G = held C V2 := ⟨_, rfl⟩
            refine wpSk4_qs (w0 := V2) (HCB.out _ hbV2) ?_
            rw [← hG]
            clear hG
            simp only [List.filterMap_cons, List.filterMap_nil, List.getElem?_toArray, List.getElem?_cons_zero, List.getElem?_cons_succ]
            change wpQuiet _ _ _ _ [_] _
            repeat (go_big_quiet_step (fail))
            refine wpQuiet_nil ?_
            refine wpSk4_one rfl (fun K hK => ?_)
            go_simp
            obtain ⟨V3, hV⟩ : ∃ X, X = V2.alloc (.cells #[] 74) := ⟨_, rfl⟩
            obtain ⟨gb, hgg⟩ : ∃ b, b = V2.heap.size := ⟨_, rfl⟩
            have hbV3 : Below W3.heap.size W3 V3 := by rw [hV]; exact gA hbV2
            have hEgb : BlkAt V3 gb 74 [] := by rw [hV, hgg]; exact BlkAt.new _ _ _
            have hgegb : W3.heap.size ≤ gb := by rw [hgg]; exact hbV2.size
            have hal : ∀ b t cs, BlkAt V2 b t cs → BlkAt V3 b t cs := fun b t cs hB => by rw [hV]; exact hB.alloc _
            rw [← hV, ← hgg]
            clear hV hgg
            refine hK.out _ _ (HCB.out _ hbV3) ?_
            clear hK K
            replace hO : OwnS V3 gR 44 gx h.clocks := by
              obtain ⟨rest, hO⟩ := hO
              exact ⟨rest, hal _ _ _ hO⟩
            refine wpSk4_one rfl (fun K hK => ?_)
            rw [if_pos (by rfl)]
            refine wp_append_copy _ _ 24 rfl W3.heap.size 74 k0 (.agg #[.int .i64 0, .int .i64 0, .int .i64 0]) 3 24 Try.underlying24 hk hx0 hx1 hx2 rfl (by decide) gb rfl hEgb hgegb rfl (H43.below hbV3) (fun _ _ => rfl) ?c1 ?c3 ?c4 ?c5 ?_
            case c1 =>
              intro y _ u hu
              simp only [gC, List.mem_cons, List.not_mem_nil, or_false] at hu
              rcases hu with rfl | rfl | rfl <;> rfl
            case c3 => unfold maxLen; omega
            case c4 => omega
            case c5 => exact hbV3.size
            intro gy cy V4 hgy hly hP hgr
            have hbV4 : Below W3.heap.size W3 V4 := hbV3.grown hgr hbV3.size (fun j hj => by have := Option.some.inj hj; omega)
            replace hO : OwnS V4 gR 44 gx h.clocks := by
              obtain ⟨rest, hO⟩ := hO
              exact ⟨rest, (hgr.block gx hO.lt (fun e => blk_ne hO hEgb (by decide) (Option.some.inj e))).trans hO⟩
            simp only [Act.put, List.setIfInBounds_toArray]
            refine hK.out _ _ (HCB.out _ hbV4) ?_
            clear hK K
            have hX7 := HBX.out.of_below hbV4 HBX.out.lt
            have hz7 := hX7.frozen 2
            have hl7 := hX7.lt
            have hc7 := hX7.cell 2
            simp only [List.getElem?_cons_zero, List.getElem?_cons_succ] at hc7
            refine wpSk4_one rfl (fun K hK => ?_)
            go_simp
            have hX8 := hX7.set_ 2 (.slice (some ⟨gx, 0, none⟩) h.clocks.length cx)
            simp only [List.set_cons_succ, List.set_cons_zero] at hX8
            obtain ⟨V9, hV9⟩ : ∃ X, X = V4.setCell ⟨bx, 2, none⟩ (.slice (some ⟨gx, 0, none⟩) h.clocks.length cx) := ⟨_, rfl⟩
            have hb9 : Below W2.heap.size W2 V9 := by rw [hV9]; exact gS (HB23.out.trans (hbV4.mono HB23.out.size)) HBXG.out
            have hO9 : OwnS V9 gR 44 gx h.clocks := by rw [hV9]; exact hO.far _ (ows_ne hO hX7 (by decide))
            have hP9 : OwnS V9 gC 74 gy h.clips := by rw [hV9]; exact hP.far _ (ows_ne hP hX7 (by decide))
            rw [← hV9] at hX8 ⊢
            clear hV9 hX7 hz7 hl7 hc7 hO hP
            have hz7 := hX8.frozen 4
            have hl7 := hX8.lt
            have hc7 := hX8.cell 4
            simp only [List.getElem?_cons_zero, List.getElem?_cons_succ] at hc7
            refine hK.out _ _ (HCX.out _ hb9) ?_
            clear hK K
            refine wpSk4_one rfl (fun K hK => ?_)
            go_simp
            refine hK.out _ _ (HCX.out _ hb9) ?_
            clear hK K
            refine wpSk4_done rfl (fun K hK => ?_)
            go_simp
            refine hK.out _ _ (noPanic_mk ?_)
            clear hK K
            go_wp2
            go_meet
            case rel =>
              exact ⟨gx, cx, gy, cy, gS hb9 HBXG.out, hX8.set_ 4 _, hO9.far _ (ows_ne hO9 hX8 (by decide)), hP9.far _ (ows_ne hP9 hX8 (by decide)), hlx, hly, Nat.le_trans HB23.out.size hgx, Nat.le_trans HB23.out.size hgy⟩
          · go_simp
            obtain ⟨V2, hV⟩ : ∃ X, X = V1.alloc (.cells #[] 74) := ⟨_, rfl⟩
            obtain ⟨gb, hgg⟩ : ∃ b, b = V1.heap.size := ⟨_, rfl⟩
            have hbV2 : Below W3.heap.size W3 V2 := by rw [hV]; exact gA hbV1
            have hEgb : BlkAt V2 gb 74 [] := by rw [hV, hgg]; exact BlkAt.new _ _ _
            have hgegb : W3.heap.size ≤ gb := by rw [hgg]; exact hbV1.size
            have hal : ∀ b t cs, BlkAt V1 b t cs → BlkAt V2 b t cs := fun b t cs hB => by rw [hV]; exact hB.alloc _
            rw [← hV, ← hgg]
            clear hV hgg
            refine hK.out _ _ (HCB.out _ hbV2) ?_
            clear hK K
            replace hEga := hal _ _ _ hEga
            refine wpSk4_one rfl (fun K hK => ?_)
            rw [if_pos (by rfl)]
            refine wp_append_copy _ _ 22 rfl W3.heap.size 44 i0 (.agg #[.int .i64 0, .int .i64 0]) 2 16 Try.underlying22 hi hz0 hz1 hz2 rfl (by decide) ga rfl hEga hgega rfl (H23.below hbV2) (fun _ _ => rfl) ?c1 ?c3 ?c4 ?c5 ?_
            case c1 =>
              intro y _ u hu
              simp only [gR, List.mem_cons, List.not_mem_nil, or_false] at hu
              rcases hu with rfl | rfl <;> rfl
            case c3 => unfold maxLen; omega
            case c4 => omega
            case c5 => exact hbV2.size
            intro gx cx V3 hgx hlx hO hgr
            have hbV3 : Below W3.heap.size W3 V3 := hbV2.grown hgr hbV2.size (fun j hj => by have := Option.some.inj hj; omega)
            simp only [Act.put, List.setIfInBounds_toArray, List.getElem_toArray, List.getElem_cons_succ, List.getElem_cons_zero, List.set_cons_succ, List.set_cons_zero]
            refine hK.out _ _ (HCB.out _ hbV3) ?_
            clear hK K
            replace hEgb : BlkAt V3 gb 74 [] := (hgr.block gb hEgb.lt (fun e => blk_ne hEgb hEga (by decide) (Option.some.inj e))).trans hEgb
            obtain ⟨G, hG⟩ : ∃ G, G = held C V3 := ⟨_, rfl⟩
            refine wpSk4_qs (w0 := V3) (HCB.out _ hbV3) ?_
            rw [← hG]
            clear hG
            simp only [List.filterMap_cons, List.filterMap_nil, List.getElem?_toArray, List.getElem?_cons_zero, List.getElem?_cons_succ]
            change wpQuiet _ _ _ _ [_] _
            repeat (go_big_quiet_step (fail))
            refine wpQuiet_nil ?_
            refine wpSk4_one rfl (fun K hK => ?_)
            rw [if_pos (by rfl)]
            refine wp_append_copy _ _ 24 rfl W3.heap.size 74 k0 (.agg #[.int .i64 0, .int .i64 0, .int .i64 0]) 3 24 Try.underlying24 hk hx0 hx1 hx2 rfl (by decide) gb rfl hEgb hgegb rfl (H43.below hbV3) (fun _ _ => rfl) ?c1 ?c3 ?c4 ?c5 ?_
            case c1 =>
              intro y _ u hu
              simp only [gC, List.mem_cons, List.not_mem_nil, or_false] at hu
              rcases hu with rfl | rfl | rfl <;> rfl
            case c3 => unfold maxLen; omega
            case c4 => omega
            case c5 => exact hbV3.size
            intro gy cy V4 hgy hly hP hgr
            have hbV4 : Below W3.heap.size W3 V4 := hbV3.grown hgr hbV3.size (fun j hj => by have := Option.some.inj hj; omega)
            replace hO : OwnS V4 gR 44 gx h.clocks := by
              obtain ⟨rest, hO⟩ := hO
              exact ⟨rest, (hgr.block gx hO.lt (fun e => blk_ne hO hEgb (by decide) (Option.some.inj e))).trans hO⟩
            simp only [Act.put, List.setIfInBounds_toArray]
            refine hK.out _ _ (HCB.out _ hbV4) ?_
            clear hK K
            have hX7 := HBX.out.of_below hbV4 HBX.out.lt
            have hz7 := hX7.frozen 2
            have hl7 := hX7.lt
            have hc7 := hX7.cell 2
            simp only [List.getElem?_cons_zero, List.getElem?_cons_succ] at hc7
            refine wpSk4_one rfl (fun K hK => ?_)
            go_simp
            have hX8 := hX7.set_ 2 (.slice (some ⟨gx, 0, none⟩) h.clocks.length cx)
            simp only [List.set_cons_succ, List.set_cons_zero] at hX8
            obtain ⟨V9, hV9⟩ : ∃ X, X = V4.setCell ⟨bx, 2, none⟩ (.slice (some ⟨gx, 0, none⟩) h.clocks.length cx) := ⟨_, rfl⟩
            have hb9 : Below W2.heap.size W2 V9 := by rw [hV9]; exact gS (HB23.out.trans (hbV4.mono HB23.out.size)) HBXG.out
            have hO9 : OwnS V9 gR 44 gx h.clocks := by rw [hV9]; exact hO.far _ (ows_ne hO hX7 (by decide))
            have hP9 : OwnS V9 gC 74 gy h.clips := by rw [hV9]; exact hP.far _ (ows_ne hP hX7 (by decide))
            rw [← hV9] at hX8 ⊢
            clear hV9 hX7 hz7 hl7 hc7 hO hP
            have hz7 := hX8.frozen 4
            have hl7 := hX8.lt
            have hc7 := hX8.cell 4
            simp only [List.getElem?_cons_zero, List.getElem?_cons_succ] at hc7
            refine hK.out _ _ (HCX.out _ hb9) ?_
            clear hK K
            refine wpSk4_one rfl (fun K hK => ?_)
            go_simp
            refine hK.out _ _ (HCX.out _ hb9) ?_
            clear hK K
            refine wpSk4_done rfl (fun K hK => ?_)
            go_simp
            refine hK.out _ _ (noPanic_mk ?_)
            clear hK K
            go_wp2
            go_meet
            case rel =>
              exact ⟨gx, cx, gy, cy, gS hb9 HBXG.out, hX8.set_ 4 _, hO9.far _ (ows_ne hO9 hX8 (by decide)), hP9.far _ (ows_ne hP9 hX8 (by decide)), hlx, hly, Nat.le_trans HB23.out.size hgx, Nat.le_trans HB23.out.size hgy⟩
        · go_simp
          obtain ⟨V1, hV⟩ : ∃ X, X = V.alloc (.cells #[] 74) := ⟨_, rfl⟩
          obtain ⟨gb, hgg⟩ : ∃ b, b = V.heap.size := ⟨_, rfl⟩
          have hbV1 : Below W3.heap.size W3 V1 := by rw [hV]; exact gA hbV
          have hEgb : BlkAt V1 gb 74 [] := by rw [hV, hgg]; exact BlkAt.new _ _ _
          have hgegb : W3.heap.size ≤ gb := by rw [hgg]; exact hbV.size
          have hal : ∀ b t cs, BlkAt V b t cs → BlkAt V1 b t cs := fun b t cs hB => by rw [hV]; exact hB.alloc _
          rw [← hV, ← hgg]
          clear hV hgg
          refine hK.out _ _ (HCB.out _ hbV1) ?_
          clear hK K
          clear hal
          refine wpSk4_one rfl (fun K hK => ?_)
          go_simp
          obtain ⟨V2, hV⟩ : ∃ X, X = V1.alloc (.cells #[] 44) := ⟨_, rfl⟩
          obtain ⟨ga, hgg⟩ : ∃ b, b = V1.heap.size := ⟨_, rfl⟩
          have hbV2 : Below W3.heap.size W3 V2 := by rw [hV]; exact gA hbV1
          have hEga : BlkAt V2 ga 44 [] := by rw [hV, hgg]; exact BlkAt.new _ _ _
          have hgega : W3.heap.size ≤ ga := by rw [hgg]; exact hbV1.size
          have hal : ∀ b t cs, BlkAt V1 b t cs → BlkAt V2 b t cs := fun b t cs hB => by rw [hV]; exact hB.alloc _
          rw [← hV, ← hgg]
          clear hV hgg
          refine hK.out _ _ (HCB.out _ hbV2) ?_
          clear hK K
          replace hEgb := hal _ _ _ hEgb
          refine wpSk4_one rfl (fun K hK => ?_)
          rw [if_pos (by rfl)]
          refine wp_append_copy _ _ 22 rfl W3.heap.size 44 i0 (.agg #[.int .i64 0, .int .i64 0]) 2 16 Try.underlying22 hi hz0 hz1 hz2 rfl (by decide) ga rfl hEga hgega rfl (H23.below hbV2) (fun _ _ => rfl) ?c1 ?c3 ?c4 ?c5 ?_
          case c1 =>
            intro y _ u hu
            simp only [gR, List.mem_cons, List.not_mem_nil, or_false] at hu
            rcases hu with rfl | rfl <;> rfl
          case c3 => unfold maxLen; omega
          case c4 => omega
          case c5 => exact hbV2.size
          intro gx cx V3 hgx hlx hO hgr
          have hbV3 : Below W3.heap.size W3 V3 := hbV2.grown hgr hbV2.size (fun j hj => by have := Option.some.inj hj; omega)
          simp only [Act.put, List.setIfInBounds_toArray, List.getElem_toArray, List.getElem_cons_succ, List.getElem_cons_zero, List.set_cons_succ, List.set_cons_zero]
          refine hK.out _ _ (HCB.out _ hbV3) ?_
          clear hK K
          replace hEgb : BlkAt V3 gb 74 [] := (hgr.block gb hEgb.lt (fun e => blk_ne hEgb hEga (by decide) (Option.some.inj e))).trans hEgb
          obtain ⟨G, hG⟩ : ∃ G, G = held C V3 := ⟨_, rfl⟩
          refine wpSk4_qs (w0 := V3) (HCB.out _ hbV3) ?_
          rw [← hG]
          clear hG
          simp only [List.filterMap_cons, List.filterMap_nil, List.getElem?_toArray, List.getElem?_cons_zero, List.getElem?_cons_succ]
          change wpQuiet _ _ _ _ [_] _
          repeat (go_big_quiet_step (fail))
          refine wpQuiet_nil ?_
          refine wpSk4_one rfl (fun K hK => ?_)
          rw [if_pos (by rfl)]
          refine wp_append_copy _ _ 24 rfl W3.heap.size 74 k0 (.agg #[.int .i64 0, .int .i64 0, .int .i64 0]) 3 24 Try.underlying24 hk hx0 hx1 hx2 rfl (by decide) gb rfl hEgb hgegb rfl (H43.below hbV3) (fun _ _ => rfl) ?c1 ?c3 ?c4 ?c5 ?_
          case c1 =>
            intro y _ u hu
            simp only [gC, List.mem_cons, List.not_mem_nil, or_false] at hu
            rcases hu with rfl | rfl | rfl <;> rfl
          case c3 => unfold maxLen; omega
          case c4 => omega
          case c5 => exact hbV3.size
          intro gy cy V4 hgy hly hP hgr
          have hbV4 : Below W3.heap.size W3 V4 := hbV3.grown hgr hbV3.size (fun j hj => by have := Option.some.inj hj; omega)
          replace hO : OwnS V4 gR 44 gx h.clocks := by
            obtain ⟨rest, hO⟩ := hO
            exact ⟨rest, (hgr.block gx hO.lt (fun e => blk_ne hO hEgb (by decide) (Option.some.inj e))).trans hO⟩
          simp only [Act.put, List.setIfInBounds_toArray]
          refine hK.out _ _ (HCB.out _ hbV4) ?_
          clear hK K
          have hX7 := HBX.out.of_below hbV4 HBX.out.lt
          have hz7 := hX7.frozen 2
          have hl7 := hX7.lt
          have hc7 := hX7.cell 2
          simp only [List.getElem?_cons_zero, List.getElem?_cons_succ] at hc7
          refine wpSk4_one rfl (fun K hK => ?_)
          go_simp
          have hX8 := hX7.set_ 2 (.slice (some ⟨gx, 0, none⟩) h.clocks.length cx)
          simp only [List.set_cons_succ, List.set_cons_zero] at hX8
          obtain ⟨V9, hV9⟩ : ∃ X, X = V4.setCell ⟨bx, 2, none⟩ (.slice (some ⟨gx, 0, none⟩) h.clocks.length cx) := ⟨_, rfl⟩
          have hb9 : Below W2.heap.size W2 V9 := by rw [hV9]; exact gS (HB23.out.trans (hbV4.mono HB23.out.size)) HBXG.out
          have hO9 : OwnS V9 gR 44 gx h.clocks := by rw [hV9]; exact hO.far _ (ows_ne hO hX7 (by decide))
          have hP9 : OwnS V9 gC 74 gy h.clips := by rw [hV9]; exact hP.far _ (ows_ne hP hX7 (by decide))
          rw [← hV9] at hX8 ⊢
          clear hV9 hX7 hz7 hl7 hc7 hO hP
          have hz7 := hX8.frozen 4
          have hl7 := hX8.lt
          have hc7 := hX8.cell 4
          simp only [List.getElem?_cons_zero, List.getElem?_cons_succ] at hc7
          refine hK.out _ _ (HCX.out _ hb9) ?_
          clear hK K
          refine wpSk4_one rfl (fun K hK => ?_)
          go_simp
          refine hK.out _ _ (HCX.out _ hb9) ?_
          clear hK K
          refine wpSk4_done rfl (fun K hK => ?_)
          go_simp
          refine hK.out _ _ (noPanic_mk ?_)
          clear hK K
          go_wp2
          go_meet
          case rel =>
            exact ⟨gx, cx, gy, cy, gS hb9 HBXG.out, hX8.set_ 4 _, hO9.far _ (ows_ne hO9 hX8 (by decide)), hP9.far _ (ows_ne hP9 hX8 (by decide)), hlx, hly, Nat.le_trans HB23.out.size hgx, Nat.le_trans HB23.out.size hgy⟩
      case rest =>
        obtain ⟨gx, cx, gy, cy, hbX, hXw, hO, hP, hlx, hly, hgx, hgy⟩ := hcut
        obtain ⟨b', o', y, rfl, hb'l, hy, s0, s1⟩ := (H2.below (hb1.trans (hbX.mono hb1.size))).atR hkk
        have p2 := (hbX.cell (p := ⟨w.heap.size, 2, none⟩) hBl).trans q2
        have hBw : w.heap.size < wc.heap.size := Nat.lt_of_lt_of_le hBl hbX.size
        rw [HR.out] at hy
        cases hy
        obtain ⟨b2, o2, y, hA, -, hy, t0, t1⟩ := (hO.sl (c := cx) (k := 2) (fun _ _ => rfl) hlx (by omega)).atR hkk
        cases hA
        rw [HR.out] at hy
        cases hy
        rw [Nat.zero_add] at t0 t1
        have hf0 := hO.frozen (kk * 2)
        have hf1 := hO.frozen (kk * 2 + 1)
        have hgl := hO.lt
        have x2 := hXw.cell 2
        have hxl := hXw.lt
        simp only [List.getElem?_cons_zero, List.getElem?_cons_succ] at x2
        have hkI : (kk : Int) < (h.clocks.length : Int) := by omega
        have hkI0 : (0 : Int) ≤ (kk : Int) := Int.natCast_nonneg _
        have hw1 : IntKind.i64.wrap (r.lo + N) = r.lo + N := by rw [IntKind.wrap_i64]; omega
        have hw2 : IntKind.i64.wrap (r.hi + N) = r.hi + N := by rw [IntKind.wrap_i64]; omega
        clear hkr
        go_upto_region 6 with (fail)
        obtain ⟨C, hC⟩ : ∃ C, C = Same [⟨w.heap.size, 2, none⟩, ⟨bx, 2, none⟩, ⟨b', o' + kk * 2, none⟩, ⟨b', o' + kk * 2 + 1, none⟩] wc := ⟨_, rfl⟩
        obtain ⟨G, hG⟩ : ∃ G, G = held C wc.drew := ⟨_, rfl⟩
        have hfs : ∀ a ∈ ([⟨w.heap.size, 2, none⟩, ⟨bx, 2, none⟩, ⟨b', o' + kk * 2, none⟩, ⟨b', o' + kk * 2 + 1, none⟩] : List Addr), ∀ u, wc.cell? a = some u → ∀ x, (G x).cell? a = some u := fun a ha u hu x => by
          rw [hG, hC]
          exact same_held hu ha x
        have f0 := hfs _ (by simp) _ p2
        have f1 := hfs _ (by simp) _ x2
        have f2 := hfs _ (by simp) _ s0
        have f3 := hfs _ (by simp) _ s1
        clear hfs
        have hCd : C wc.drew := by rw [hC]; exact same_drew
        refine region_sk C [[], [0], [], [], [3], [], [4, 5], [6], [7], [], [8, 9], [], [11], [], [12, 13], [14], [15], [], [16, 17], [10, 18], [1, 2, 0, 1, 2, 3, 4, 5, 6, 7, 8, 9, 10, 11, 12, 13, 14, 15, 16, 17, 18, 19], [20, 19, 0, 1, 2, 3, 4, 5, 6, 7, 8, 9, 10, 11, 12, 13, 14, 15, 16, 17, 18, 19]] (.qs [0, 1, 2, 3, 4, 5, 6, 7, 8, 9] (.qs [10, 11, 12, 13, 14, 15, 16, 17, 18, 19] (.one 20 .done))) 21 (by kernel_rfl) (by kernel_rfl) (by kernel_rfl) hCd ?_
        refine wpSk_qs (w0 := wc.drew) hCd ?_
        rw [← hG]
        have HG := Lib.hid hG
        clear hG hC
        simp only [List.filterMap_cons, List.filterMap_nil, List.getElem?_toArray, List.getElem?_cons_zero, List.getElem?_cons_succ]
        change wpQuiet _ _ _ _ [_, _, _, _, _, _, _, _, _, _] _
        repeat (go_big_quiet_step (fail))
        refine wpQuiet_nil ?_
        refine wpSk_qs (w0 := wc.drew) hCd ?_
        rw [← HG.out]
        simp only [List.filterMap_cons, List.filterMap_nil, List.getElem?_toArray, List.getElem?_cons_zero, List.getElem?_cons_succ]
        change wpQuiet _ _ _ _ [_, _, _, _, _, _, _, _, _, _] _
        repeat (go_big_quiet_step (fail))
        refine wpQuiet_nil ?_
        clear f0 f1 f2 f3
        refine wpSk_one rfl (fun K hK => ?_)
        go_simp
        refine hK.out _ _ hCd ?_
        clear hK K
        refine wpSk_done rfl (fun K hK => ?_)
        go_simp
        refine hK.out _ _ (noPanic_mk ?_)
        clear hK K
        obtain ⟨W5, hW5⟩ : ∃ X, X = ((wc.setCell ⟨gx, kk * 2, none⟩ (.int .i64 (r.lo + N))).setCell ⟨gx, kk * 2 + 1, none⟩ (.int .i64 (r.hi + N))).drew := ⟨_, rfl⟩
        have hk5 : KeepX gx wc W5 := by
          rw [hW5]
          exact ((KeepX.set_ _ _ _).trans (KeepX.set_ _ _ _)).trans (KeepX.of_below (gD (Below.refl _ _)))
        have hO5 : OwnS W5 gR 44 gx (h.clocks.set kk ⟨r.lo + N, r.hi + N⟩) := by
          rw [hW5]
          have g1 := hO.set (k := 2) (fun _ _ => rfl) HR.out (j := 0) (u := .int .i64 (r.lo + N)) (y := ⟨r.lo + N, r.hi⟩) (by decide) rfl
          rw [Nat.add_zero] at g1
          have g2 := g1.set (k := 2) (fun _ _ => rfl) (i := kk) (x := ⟨r.lo + N, r.hi⟩) (by rw [List.getElem?_set_self hkk]) (j := 1) (u := .int .i64 (r.hi + N)) (y := ⟨r.lo + N, r.hi + N⟩) (by decide) rfl
          rw [set_set'] at g2
          exact g2.below (gD (Below.refl _ _))
        have hP5 : OwnS W5 gC 74 gy h.clips := hP.keep hk5 (ows_ows hP hO (by decide))
        have hX5 := hk5.blk hXw (fun e => ows_ne hO hXw (by decide) e.symm)
        have hb5 : Below W2.heap.size W2 W5 := hk5.low hbX hgx hbX.size
        rw [← hW5]
        clear hW5 hk5 hO hP hXw hbX s0 s1 t0 t1 hf0 hf1 hgl x2 hxl p2 hBw hb'l hCd hw1 hw2 H23 H43 HB23 HBX
        have x4 := hX5.cell 4
        have hxl := hX5.lt
        simp only [List.getElem?_cons_zero, List.getElem?_cons_succ] at x4
        have hgyb : gy ≠ bx := ows_ne hP5 hX5 (by decide)
        have hgyx : gx ≠ gy := ows_ows hO5 hP5 (by decide)
        have HO5 := Lib.hid hO5
        have HX5 := Lib.hid hX5
        have HB5 := Lib.hid hb5
        clear hO5 hX5 hb5
        go_wp2
        go_loopw [10] (fun i wr => ∃ k : Nat, k ≤ h.clips.length ∧ i = .int .i64 k ∧ KeepX gy W5 wr ∧ OwnS wr gC 74 gy (stK h.clips kk N k)) (fun i _ => h.clips.length - (intOf i).toNat)
        case atStart => exact ⟨0, Nat.zero_le _, rfl, KeepX.refl _ _, by simpa [stK] using hP5⟩
        case round =>
          obtain ⟨k, hk', rfl, hkx, how⟩ := hrel
          have z4 := hkx.cell (p := ⟨bx, 4, none⟩) x4 (fun e => hgyb e.symm)
          have hbxl : bx < wr.heap.size := Nat.lt_of_lt_of_le hxl hkx.size
          have hgl := how.lt
          have HOW := Lib.hid how
          clear how
          by_cases hlt : k < h.clips.length
          · have hlt1 : (k : Int) < (h.clips.length : Int) := by omega
            have hk0 : (0 : Int) ≤ (k : Int) := Int.natCast_nonneg _
            obtain ⟨c, hc⟩ : ∃ c, h.clips[k]? = some c := ⟨_, List.getElem?_eq_getElem hlt⟩
            have hcb := fault_clips HF.out (List.mem_of_getElem? hc)
            have hget := (stK_get kk N hlt).trans hc
            obtain ⟨bb, oo, y, hA, -, hy, -, s1, s2⟩ := (HOW.out.sl (c := h.clips.length) (k := 3) (fun _ _ => rfl) (by rw [stK_len]; exact Nat.le_refl _) (by rw [stK_len]; omega)).atC (i := k) (by rw [stK_len]; exact hlt)
            cases hA
            rw [hget] at hy
            cases hy
            rw [Nat.zero_add] at s1 s2
            have hfz := HOW.out.frozen (k * 3 + 2)
            have HST := Lib.hid (stK_set kk N hc)
            have HGT := Lib.hid hget
            have HC := Lib.hid hc
            clear hc hget
            by_cases hck : c.ck = (kk : Int)
            · have hc1 : (c.ck == (kk : Int)) = true := by simp [hck]
              have HE := Lib.hid (show stF kk N c = ⟨c.tk, c.ck, c.mn + N⟩ by unfold stF; rw [if_pos hck])
              have hw1 : IntKind.i64.wrap (c.mn + N) = c.mn + N := by rw [IntKind.wrap_i64]; omega
              clear hck
              go_wp2
              go_roundw
              case rel => exact ⟨k + 1, by omega, by go_num, hkx.trans (KeepX.set_ _ _ _), by
                have := HOW.out.set (k := 3) (fun _ _ => rfl) HGT.out (j := 2) (u := .int .i64 (c.mn + N)) (y := stF kk N c) (by decide) (by rw [HE.out]; rfl)
                rw [HST.out] at this
                exact this⟩
              case measure => simp [intOf]; omega
            · have hc1 : (c.ck == (kk : Int)) = false := by simp [hck]
              have HE := Lib.hid (stK_same kk N HC.out hck)
              clear hck
              go_wp2
              go_roundw
              case rel => exact ⟨k + 1, by omega, by go_num, hkx, by rw [HE.out]; exact HOW.out⟩
              case measure => simp [intOf]; omega
          · obtain rfl : k = h.clips.length := by omega
            have how := HOW.out
            rw [stK_full] at how
            have hO6 := HO5.out.keep hkx hgyx
            have hX6 := hkx.blk HX5.out (fun e => hgyb e.symm)
            have hbX : Below W2.heap.size W2 wr := hkx.low HB5.out hgy HB5.out.size
            clear x4 hxl z4 hbxl hgl HOW hkx
            obtain ⟨x, hx⟩ : ∃ x, x = h.setC kk N r.lo r.hi := ⟨_, rfl⟩
            have hbw := hb1.trans (hbX.mono hb1.size)
            have HX : HsAt wr (.agg #[.int .i64 h.hour, .int .i64 h.grace, .slice (some ⟨gx, 0, none⟩) h.clocks.length cx, .slice A3 h.tickets.length c3, .slice (some ⟨gy, 0, none⟩) h.clips.length cy]) x := by
              rw [hx]
              exact ⟨some ⟨gx, 0, none⟩, cx, A3, c3, some ⟨gy, 0, none⟩, cy, by rw [show (h.setC kk N r.lo r.hi).clocks.length = h.clocks.length by simp [Hs.setC], show (h.setC kk N r.lo r.hi).clips.length = h.clips.length by simp [Hs.setC]]; rfl, hO6.sl (fun _ _ => rfl) (by rw [List.length_set]; exact hlx) (by rw [List.length_set]; omega), H3.below hbw, how.sl (fun _ _ => rfl) (by rw [List.length_map]; exact hly) (by rw [List.length_map]; omega)⟩
            have x0 := hX6.cell 0
            have x1 := hX6.cell 1
            have x2 := hX6.cell 2
            have x3 := hX6.cell 3
            have x4 := hX6.cell 4
            have hxl := hX6.lt
            simp only [List.getElem?_cons_zero, List.getElem?_cons_succ] at x0 x1 x2 x3 x4
            replace H1 := H1.below hbX
            replace q0 := (hbX.cell (p := ⟨w.heap.size, 0, none⟩) hBl).trans q0
            replace q1 := (hbX.cell (p := ⟨w.heap.size, 1, none⟩) hBl).trans q1
            replace q2 := (hbX.cell (p := ⟨w.heap.size, 2, none⟩) hBl).trans q2
            replace q3 := (hbX.cell (p := ⟨w.heap.size, 3, none⟩) hBl).trans q3
            replace q4 := (hbX.cell (p := ⟨w.heap.size, 4, none⟩) hBl).trans q4
            replace hBl := Nat.lt_of_lt_of_le hBl hbX.size
            replace hb1 := hb1.trans (hbX.mono hb1.size)
            have hxc : x.clocks.length = h.clocks.length := by rw [hx]; simp [Hs.setC]
            have hlx2 : x.clocks.length ≤ 1000 := by omega
            have hlx3 : x.tickets.length ≤ 1000 := by rw [hx]; exact hl3
            have hlx4 : x.clips.length ≤ 1000 := by rw [hx]; simp only [Hs.setC, List.length_map]; exact hl4
            have HXC := Lib.hid hxc
            have HXD := Lib.hid hx
            have S : Sets h kk r := ⟨HF.out, HR.out⟩
            clear hxc hx hX6 hO6 how hbX hbw HO5 HX5 HB5 hP5
            go_wp2_with (fail)
            cases hxr : x.readyB with
            | false =>
              have CR := ready_calls _ x wr HX
              rw [hxr] at CR
              refine CR.mono ?_
              clear CR
              (rintro e w' hr; first | ((with_reducible replace hr := Ret.up hr); obtain ⟨rfl, z, rfl⟩ := hr) | (obtain ⟨rfl, z, rfl⟩ := hr))
              go_wp2_with (fail)
              refine (awake_calls _).mono ?_
              (rintro e w' hr; first | ((with_reducible replace hr := Ret.up hr); obtain ⟨rfl, z, rfl⟩ := hr) | (obtain ⟨rfl, z, rfl⟩ := hr))
              go_wp2
              go_ret
              exact ret_mk rfl (later_below hb1 hb1.size)
            | true =>
              have CR := ready_calls _ x wr HX
              rw [hxr] at CR
              have hfx := (ready_of hxr).2.2.2.1
              have HFX := Lib.hid hfx
              clear hxr hfx
              refine CR.mono ?_
              clear CR
              (rintro e w' hr; first | ((with_reducible replace hr := Ret.up hr); obtain ⟨rfl, z, rfl⟩ := hr) | (obtain ⟨rfl, z, rfl⟩ := hr))
              obtain ⟨W4, hWW4⟩ : ∃ X, X = later wr z := ⟨_, rfl⟩
              have hn : Below wr.heap.size wr W4 := by rw [hWW4]; exact below_later _ _
              rw [← hWW4] 
              clear hWW4
              replace H1 := H1.below hn
              replace q0 := (hn.cell (p := ⟨w.heap.size, 0, none⟩) hBl).trans q0
              replace q1 := (hn.cell (p := ⟨w.heap.size, 1, none⟩) hBl).trans q1
              replace q2 := (hn.cell (p := ⟨w.heap.size, 2, none⟩) hBl).trans q2
              replace q3 := (hn.cell (p := ⟨w.heap.size, 3, none⟩) hBl).trans q3
              replace q4 := (hn.cell (p := ⟨w.heap.size, 4, none⟩) hBl).trans q4
              replace hBl := Nat.lt_of_lt_of_le hBl hn.size
              replace hb1 := hb1.trans (hn.mono hb1.size)
              replace HX := HX.below hn
              replace x0 := (hn.cell (p := ⟨bx, 0, none⟩) hxl).trans x0
              replace x1 := (hn.cell (p := ⟨bx, 1, none⟩) hxl).trans x1
              replace x2 := (hn.cell (p := ⟨bx, 2, none⟩) hxl).trans x2
              replace x3 := (hn.cell (p := ⟨bx, 3, none⟩) hxl).trans x3
              replace x4 := (hn.cell (p := ⟨bx, 4, none⟩) hxl).trans x4
              replace hxl := Nat.lt_of_lt_of_le hxl hn.size
              clear hn
              have hwa := HFX.out
              rw [HXD.out] at hwa
              have e0 := set_leave S N hwa
              obtain ⟨e1, e2⟩ := set_at S N hwa
              rw [← HXD.out] at e0 e1 e2
              have HLX := Lib.hid e0
              have HAQ := Lib.hid e1
              have HAT := Lib.hid e2
              clear hwa e0 e1 e2 S
              go_wp2_with (fail)
              refine (house_calls _ h _ (by first | with_reducible exact H1 | exact H1.below (below_later _ _)) hl2 hl3 hl4).mono ?_
              (rintro e w' hr; first | ((with_reducible replace hr := RetHs.up hr); obtain ⟨v, rfl, ⟨z, rfl⟩, HH⟩ := hr) | (obtain ⟨v, rfl, ⟨z, rfl⟩, HH⟩ := hr))
              go_wp2_with (fail)
              have CA := leave_calls v h _ HH
              rw [HF.out] at CA
              refine CA.mono ?_
              clear CA HH
              (rintro e w' hr; first | ((with_reducible replace hr := RetSlN.up hr); obtain ⟨A10, c10, rfl, ⟨z, rfl⟩, hsl⟩ := hr) | (obtain ⟨A10, c10, rfl, ⟨z, rfl⟩, hsl⟩ := hr))
              obtain ⟨W5, hWW5⟩ : ∃ X, X = later W4 z := ⟨_, rfl⟩
              have hn : Below W4.heap.size W4 W5 := by rw [hWW5]; exact below_later _ _
              rw [← hWW5] at hsl ⊢
              clear hWW5
              replace H1 := H1.below hn
              replace q0 := (hn.cell (p := ⟨w.heap.size, 0, none⟩) hBl).trans q0
              replace q1 := (hn.cell (p := ⟨w.heap.size, 1, none⟩) hBl).trans q1
              replace q2 := (hn.cell (p := ⟨w.heap.size, 2, none⟩) hBl).trans q2
              replace q3 := (hn.cell (p := ⟨w.heap.size, 3, none⟩) hBl).trans q3
              replace q4 := (hn.cell (p := ⟨w.heap.size, 4, none⟩) hBl).trans q4
              replace hBl := Nat.lt_of_lt_of_le hBl hn.size
              replace hb1 := hb1.trans (hn.mono hb1.size)
              replace HX := HX.below hn
              replace x0 := (hn.cell (p := ⟨bx, 0, none⟩) hxl).trans x0
              replace x1 := (hn.cell (p := ⟨bx, 1, none⟩) hxl).trans x1
              replace x2 := (hn.cell (p := ⟨bx, 2, none⟩) hxl).trans x2
              replace x3 := (hn.cell (p := ⟨bx, 3, none⟩) hxl).trans x3
              replace x4 := (hn.cell (p := ⟨bx, 4, none⟩) hxl).trans x4
              replace hxl := Nat.lt_of_lt_of_le hxl hn.size
              have HS1 := Lib.hid hsl
              clear hn hsl
              go_wp2_with (fail)
              refine (house_calls _ x _ (by first | with_reducible exact HX | exact HX.below (below_later _ _)) hlx2 hlx3 hlx4).mono ?_
              (rintro e w' hr; first | ((with_reducible replace hr := RetHs.up hr); obtain ⟨v, rfl, ⟨z, rfl⟩, HH⟩ := hr) | (obtain ⟨v, rfl, ⟨z, rfl⟩, HH⟩ := hr))
              go_wp2_with (fail)
              have CA := leave_calls v x _ HH
              rw [HFX.out, HLX.out] at CA
              refine CA.mono ?_
              clear CA HH
              (rintro e w' hr; first | ((with_reducible replace hr := RetSlN.up hr); obtain ⟨A11, c11, rfl, ⟨z, rfl⟩, hsl⟩ := hr) | (obtain ⟨A11, c11, rfl, ⟨z, rfl⟩, hsl⟩ := hr))
              obtain ⟨W6, hWW6⟩ : ∃ X, X = later W5 z := ⟨_, rfl⟩
              have hn : Below W5.heap.size W5 W6 := by rw [hWW6]; exact below_later _ _
              rw [← hWW6] at hsl ⊢
              clear hWW6
              replace H1 := H1.below hn
              replace q0 := (hn.cell (p := ⟨w.heap.size, 0, none⟩) hBl).trans q0
              replace q1 := (hn.cell (p := ⟨w.heap.size, 1, none⟩) hBl).trans q1
              replace q2 := (hn.cell (p := ⟨w.heap.size, 2, none⟩) hBl).trans q2
              replace q3 := (hn.cell (p := ⟨w.heap.size, 3, none⟩) hBl).trans q3
              replace q4 := (hn.cell (p := ⟨w.heap.size, 4, none⟩) hBl).trans q4
              replace hBl := Nat.lt_of_lt_of_le hBl hn.size
              replace hb1 := hb1.trans (hn.mono hb1.size)
              replace HX := HX.below hn
              replace x0 := (hn.cell (p := ⟨bx, 0, none⟩) hxl).trans x0
              replace x1 := (hn.cell (p := ⟨bx, 1, none⟩) hxl).trans x1
              replace x2 := (hn.cell (p := ⟨bx, 2, none⟩) hxl).trans x2
              replace x3 := (hn.cell (p := ⟨bx, 3, none⟩) hxl).trans x3
              replace x4 := (hn.cell (p := ⟨bx, 4, none⟩) hxl).trans x4
              replace hxl := Nat.lt_of_lt_of_le hxl hn.size
              replace HS1 := Lib.hid (HS1.out.below hn)
              have HS2 := Lib.hid hsl
              clear hn hsl
              go_wp2_with (fail)
              refine (ints_calls A10 A11 c10 c11 h.leaveL h.leaveL _ (by first | with_reducible exact HS1.out | exact HS1.out.below (below_later _ _)) (by first | with_reducible exact HS2.out | exact HS2.out.below (below_later _ _))).mono ?_
              rw [decide_eq_true rfl]
              (rintro e w' hr; first | ((with_reducible replace hr := Ret.up hr); obtain ⟨rfl, z, rfl⟩ := hr) | (obtain ⟨rfl, z, rfl⟩ := hr))
              obtain ⟨W7, hWW7⟩ : ∃ X, X = later W6 z := ⟨_, rfl⟩
              have hn : Below W6.heap.size W6 W7 := by rw [hWW7]; exact below_later _ _
              rw [← hWW7] 
              clear hWW7
              replace H1 := H1.below hn
              replace q0 := (hn.cell (p := ⟨w.heap.size, 0, none⟩) hBl).trans q0
              replace q1 := (hn.cell (p := ⟨w.heap.size, 1, none⟩) hBl).trans q1
              replace q2 := (hn.cell (p := ⟨w.heap.size, 2, none⟩) hBl).trans q2
              replace q3 := (hn.cell (p := ⟨w.heap.size, 3, none⟩) hBl).trans q3
              replace q4 := (hn.cell (p := ⟨w.heap.size, 4, none⟩) hBl).trans q4
              replace hBl := Nat.lt_of_lt_of_le hBl hn.size
              replace hb1 := hb1.trans (hn.mono hb1.size)
              replace HX := HX.below hn
              replace x0 := (hn.cell (p := ⟨bx, 0, none⟩) hxl).trans x0
              replace x1 := (hn.cell (p := ⟨bx, 1, none⟩) hxl).trans x1
              replace x2 := (hn.cell (p := ⟨bx, 2, none⟩) hxl).trans x2
              replace x3 := (hn.cell (p := ⟨bx, 3, none⟩) hxl).trans x3
              replace x4 := (hn.cell (p := ⟨bx, 4, none⟩) hxl).trans x4
              replace hxl := Nat.lt_of_lt_of_le hxl hn.size
              clear hn HS1 HS2
              by_cases ha : h.askE 0 = 0
              · have hax := HAQ.out.trans ha
                obtain ⟨e1, e2, e3, e4, e5, e6⟩ := HAT.out ha
                have HA := Lib.hid ha
                have HAX := Lib.hid hax
                have HLA := Lib.hid (cl_len ha)
                have HLB := Lib.hid ((cl_len hax).trans HXC.out)
                have HLC := Lib.hid (hr_len ha)
                obtain ⟨PV, hPV⟩ : ∃ p, p = h.paidV := ⟨_, rfl⟩
                obtain ⟨L1, hL1⟩ : ∃ p, p = h.lookV.1 := ⟨_, rfl⟩
                obtain ⟨L2, hL2⟩ : ∃ p, p = h.lookV.2 := ⟨_, rfl⟩
                obtain ⟨X1, hX1⟩ : ∃ p, p = x.lookV.1 := ⟨_, rfl⟩
                rw [← hPV] at e3
                rw [← hL2] at e6
                have HPV := Lib.hid hPV
                have HL1 := Lib.hid hL1
                have HL2 := Lib.hid hL2
                have HX1 := Lib.hid hX1
                have HE1 := Lib.hid e1
                have HE2 := Lib.hid e2
                have HE3 := Lib.hid e3
                have HE4 := Lib.hid e4
                have HE5 := Lib.hid e5
                have HE6 := Lib.hid e6
                clear ha hax e1 e2 e3 e4 e5 e6 hPV hL1 hL2 hX1
                go_wp2_with (fail)
                refine (house_calls _ h _ (by first | with_reducible exact H1 | exact H1.below (below_later _ _)) hl2 hl3 hl4).mono ?_
                (rintro e w' hr; first | ((with_reducible replace hr := RetHs.up hr); obtain ⟨v, rfl, ⟨z, rfl⟩, HH⟩ := hr) | (obtain ⟨v, rfl, ⟨z, rfl⟩, HH⟩ := hr))
                go_wp2_with (fail)
                have CA := clocks_calls v h _ HH
                rw [HA.out] at CA
                refine CA.mono ?_
                clear CA HH
                (rintro e w' hr; first | ((with_reducible replace hr := RetSlN.up hr); obtain ⟨A12, c12, rfl, ⟨z, rfl⟩, hsl⟩ := hr) | (obtain ⟨A12, c12, rfl, ⟨z, rfl⟩, hsl⟩ := hr))
                rw [HLA.out]
                obtain ⟨W8, hWW8⟩ : ∃ X, X = later W7 z := ⟨_, rfl⟩
                have hn : Below W7.heap.size W7 W8 := by rw [hWW8]; exact below_later _ _
                rw [← hWW8] at hsl ⊢
                clear hWW8
                replace H1 := H1.below hn
                replace q0 := (hn.cell (p := ⟨w.heap.size, 0, none⟩) hBl).trans q0
                replace q1 := (hn.cell (p := ⟨w.heap.size, 1, none⟩) hBl).trans q1
                replace q2 := (hn.cell (p := ⟨w.heap.size, 2, none⟩) hBl).trans q2
                replace q3 := (hn.cell (p := ⟨w.heap.size, 3, none⟩) hBl).trans q3
                replace q4 := (hn.cell (p := ⟨w.heap.size, 4, none⟩) hBl).trans q4
                replace hBl := Nat.lt_of_lt_of_le hBl hn.size
                replace hb1 := hb1.trans (hn.mono hb1.size)
                replace HX := HX.below hn
                replace x0 := (hn.cell (p := ⟨bx, 0, none⟩) hxl).trans x0
                replace x1 := (hn.cell (p := ⟨bx, 1, none⟩) hxl).trans x1
                replace x2 := (hn.cell (p := ⟨bx, 2, none⟩) hxl).trans x2
                replace x3 := (hn.cell (p := ⟨bx, 3, none⟩) hxl).trans x3
                replace x4 := (hn.cell (p := ⟨bx, 4, none⟩) hxl).trans x4
                replace hxl := Nat.lt_of_lt_of_le hxl hn.size
                have HS3 := Lib.hid hsl
                clear hn hsl
                go_wp2_with (fail)
                refine (house_calls _ x _ (by first | with_reducible exact HX | exact HX.below (below_later _ _)) hlx2 hlx3 hlx4).mono ?_
                (rintro e w' hr; first | ((with_reducible replace hr := RetHs.up hr); obtain ⟨v, rfl, ⟨z, rfl⟩, HH⟩ := hr) | (obtain ⟨v, rfl, ⟨z, rfl⟩, HH⟩ := hr))
                go_wp2_with (fail)
                have CA := clocks_calls v x _ HH
                rw [HAX.out] at CA
                refine CA.mono ?_
                clear CA HH
                (rintro e w' hr; first | ((with_reducible replace hr := RetSlN.up hr); obtain ⟨A13, c13, rfl, ⟨z, rfl⟩, hsl⟩ := hr) | (obtain ⟨A13, c13, rfl, ⟨z, rfl⟩, hsl⟩ := hr))
                rw [HLB.out]
                obtain ⟨W9, hWW9⟩ : ∃ X, X = later W8 z := ⟨_, rfl⟩
                have hn : Below W8.heap.size W8 W9 := by rw [hWW9]; exact below_later _ _
                rw [← hWW9] at hsl ⊢
                clear hWW9
                replace H1 := H1.below hn
                replace q0 := (hn.cell (p := ⟨w.heap.size, 0, none⟩) hBl).trans q0
                replace q1 := (hn.cell (p := ⟨w.heap.size, 1, none⟩) hBl).trans q1
                replace q2 := (hn.cell (p := ⟨w.heap.size, 2, none⟩) hBl).trans q2
                replace q3 := (hn.cell (p := ⟨w.heap.size, 3, none⟩) hBl).trans q3
                replace q4 := (hn.cell (p := ⟨w.heap.size, 4, none⟩) hBl).trans q4
                replace hBl := Nat.lt_of_lt_of_le hBl hn.size
                replace hb1 := hb1.trans (hn.mono hb1.size)
                replace HX := HX.below hn
                replace x0 := (hn.cell (p := ⟨bx, 0, none⟩) hxl).trans x0
                replace x1 := (hn.cell (p := ⟨bx, 1, none⟩) hxl).trans x1
                replace x2 := (hn.cell (p := ⟨bx, 2, none⟩) hxl).trans x2
                replace x3 := (hn.cell (p := ⟨bx, 3, none⟩) hxl).trans x3
                replace x4 := (hn.cell (p := ⟨bx, 4, none⟩) hxl).trans x4
                replace hxl := Nat.lt_of_lt_of_le hxl hn.size
                replace HS3 := Lib.hid (HS3.out.below hn)
                have HS4 := Lib.hid hsl
                clear hn hsl
                have hc4' : (h.clocks.length : Int) ≤ 4 := by omega
                go_wp2
                go_loopw [19] (fun i wr' => ∃ k : Nat, k ≤ h.clocks.length ∧ i = .int .i64 k ∧ Below W9.heap.size W9 wr') (fun i _ => h.clocks.length - (intOf i).toNat)
                case atStart => exact ⟨0, Nat.zero_le _, rfl, Below.refl _ _⟩
                case round =>
                  obtain ⟨k, hk', rfl, hb⟩ := hrel
                  by_cases hlt : k < h.clocks.length
                  · have hlt1 : (k : Int) < (h.clocks.length : Int) := by omega
                    have hk0 : (0 : Int) ≤ (k : Int) := Int.natCast_nonneg _
                    obtain ⟨p, of1, y, rfl, hpl, hy, s0, s1⟩ := (HS3.out.below hb).atR (i := k) (by rw [HLA.out]; exact hlt)
                    obtain ⟨q, of2, y', rfl, hql, hy', t0, t1⟩ := (HS4.out.below hb).atR (i := k) (by rw [HLB.out]; exact hlt)
                    rw [cl_get HA.out hlt] at hy
                    rw [cl_get HAX.out (by rw [HXC.out]; exact hlt)] at hy'
                    have hy := Option.some.inj hy
                    have hy' := Option.some.inj hy'
                    obtain ⟨g1, g2⟩ := HE1.out k hlt
                    obtain ⟨⟨b1, b2⟩, ⟨b3, b4⟩⟩ := clockR_bd HA.out k
                    rw [hy, hy'] at g1 g2
                    rw [hy] at b1 b2 b3 b4
                    clear hy hy'
                    by_cases hkk2 : k = kk
                    · subst hkk2
                      rw [if_pos rfl] at g1 g2
                      rw [g1] at t0
                      rw [g2] at t1
                      have C0 := Lib.hid (fun x => between_calls (y.lo + N) (y.hi + N) (later wr x))
                      have hw1 : IntKind.i64.wrap (y.lo + N) = y.lo + N := by rw [IntKind.wrap_i64]; omega
                      have hw2 : IntKind.i64.wrap (y.hi + N) = y.hi + N := by rw [IntKind.wrap_i64]; omega
                      clear g1 g2
                      go_wp2
                      refine region_later (by kernel_rfl) (by kernel_rfl) ?_
                      repeat (go_big_quiet_step (first | with_reducible exact quiet_ret (C0.out _)))
                      refine wpQuiet_nil ?_
                      rintro W' ⟨u, rfl⟩
                      go_wp2
                      go_roundw
                      case rel => exact ⟨k + 1, by omega, by go_num, later_below hb hb.size⟩
                      case measure => simp [intOf]; omega
                    · rw [if_neg hkk2, Int.add_zero] at g1 g2
                      rw [g1] at t0
                      rw [g2] at t1
                      have C0 := Lib.hid (fun x => between_calls y.lo y.hi (later wr x))
                      have hkk3 : ((k : Int) == (kk : Int)) = false := by simp; omega
                      clear g1 g2
                      go_wp2
                      refine region_later (by kernel_rfl) (by kernel_rfl) ?_
                      repeat (go_big_quiet_step (first | with_reducible exact quiet_ret (C0.out _)))
                      refine wpQuiet_nil ?_
                      rintro W' ⟨u, rfl⟩
                      go_wp2
                      go_roundw
                      case rel => exact ⟨k + 1, by omega, by go_num, later_below hb hb.size⟩
                      case measure => simp [intOf]; omega
                  · obtain rfl : k = h.clocks.length := by omega
                    replace H1 := H1.below hb
                    replace q0 := (hb.cell (p := ⟨w.heap.size, 0, none⟩) hBl).trans q0
                    replace q1 := (hb.cell (p := ⟨w.heap.size, 1, none⟩) hBl).trans q1
                    replace q2 := (hb.cell (p := ⟨w.heap.size, 2, none⟩) hBl).trans q2
                    replace q3 := (hb.cell (p := ⟨w.heap.size, 3, none⟩) hBl).trans q3
                    replace q4 := (hb.cell (p := ⟨w.heap.size, 4, none⟩) hBl).trans q4
                    replace hBl := Nat.lt_of_lt_of_le hBl hb.size
                    replace hb1 := hb1.trans (hb.mono hb1.size)
                    replace HX := HX.below hb
                    replace x0 := (hb.cell (p := ⟨bx, 0, none⟩) hxl).trans x0
                    replace x1 := (hb.cell (p := ⟨bx, 1, none⟩) hxl).trans x1
                    replace x2 := (hb.cell (p := ⟨bx, 2, none⟩) hxl).trans x2
                    replace x3 := (hb.cell (p := ⟨bx, 3, none⟩) hxl).trans x3
                    replace x4 := (hb.cell (p := ⟨bx, 4, none⟩) hxl).trans x4
                    replace hxl := Nat.lt_of_lt_of_le hxl hb.size
                    clear hb HS3 HS4
                    go_wp2_with (fail)
                    refine (house_calls _ h _ (by first | with_reducible exact H1 | exact H1.below (below_later _ _)) hl2 hl3 hl4).mono ?_
                    (rintro e w' hr; first | ((with_reducible replace hr := RetHs.up hr); obtain ⟨v, rfl, ⟨z, rfl⟩, HH⟩ := hr) | (obtain ⟨v, rfl, ⟨z, rfl⟩, HH⟩ := hr))
                    go_wp2_with (fail)
                    have CA := hours_all_calls v h _ HH
                    rw [HA.out] at CA
                    refine CA.mono ?_
                    clear CA HH
                    (rintro e w' hr; first | ((with_reducible replace hr := RetSlN.up hr); obtain ⟨A14, c14, rfl, ⟨z, rfl⟩, hsl⟩ := hr) | (obtain ⟨A14, c14, rfl, ⟨z, rfl⟩, hsl⟩ := hr))
                    rw [HLC.out]
                    obtain ⟨W9, hWW9⟩ : ∃ X, X = later wr z := ⟨_, rfl⟩
                    have hn : Below wr.heap.size wr W9 := by rw [hWW9]; exact below_later _ _
                    rw [← hWW9] at hsl ⊢
                    clear hWW9
                    replace H1 := H1.below hn
                    replace q0 := (hn.cell (p := ⟨w.heap.size, 0, none⟩) hBl).trans q0
                    replace q1 := (hn.cell (p := ⟨w.heap.size, 1, none⟩) hBl).trans q1
                    replace q2 := (hn.cell (p := ⟨w.heap.size, 2, none⟩) hBl).trans q2
                    replace q3 := (hn.cell (p := ⟨w.heap.size, 3, none⟩) hBl).trans q3
                    replace q4 := (hn.cell (p := ⟨w.heap.size, 4, none⟩) hBl).trans q4
                    replace hBl := Nat.lt_of_lt_of_le hBl hn.size
                    replace hb1 := hb1.trans (hn.mono hb1.size)
                    replace HX := HX.below hn
                    replace x0 := (hn.cell (p := ⟨bx, 0, none⟩) hxl).trans x0
                    replace x1 := (hn.cell (p := ⟨bx, 1, none⟩) hxl).trans x1
                    replace x2 := (hn.cell (p := ⟨bx, 2, none⟩) hxl).trans x2
                    replace x3 := (hn.cell (p := ⟨bx, 3, none⟩) hxl).trans x3
                    replace x4 := (hn.cell (p := ⟨bx, 4, none⟩) hxl).trans x4
                    replace hxl := Nat.lt_of_lt_of_le hxl hn.size
                    have HS5 := Lib.hid hsl
                    clear hn hsl
                    go_wp2_with (fail)
                    refine (house_calls _ x _ (by first | with_reducible exact HX | exact HX.below (below_later _ _)) hlx2 hlx3 hlx4).mono ?_
                    (rintro e w' hr; first | ((with_reducible replace hr := RetHs.up hr); obtain ⟨v, rfl, ⟨z, rfl⟩, HH⟩ := hr) | (obtain ⟨v, rfl, ⟨z, rfl⟩, HH⟩ := hr))
                    go_wp2_with (fail)
                    have CA := hours_all_calls v x _ HH
                    rw [HAX.out, HE2.out] at CA
                    refine CA.mono ?_
                    clear CA HH
                    (rintro e w' hr; first | ((with_reducible replace hr := RetSlN.up hr); obtain ⟨A15, c15, rfl, ⟨z, rfl⟩, hsl⟩ := hr) | (obtain ⟨A15, c15, rfl, ⟨z, rfl⟩, hsl⟩ := hr))
                    rw [HLC.out]
                    obtain ⟨W10, hWW10⟩ : ∃ X, X = later W9 z := ⟨_, rfl⟩
                    have hn : Below W9.heap.size W9 W10 := by rw [hWW10]; exact below_later _ _
                    rw [← hWW10] at hsl ⊢
                    clear hWW10
                    replace H1 := H1.below hn
                    replace q0 := (hn.cell (p := ⟨w.heap.size, 0, none⟩) hBl).trans q0
                    replace q1 := (hn.cell (p := ⟨w.heap.size, 1, none⟩) hBl).trans q1
                    replace q2 := (hn.cell (p := ⟨w.heap.size, 2, none⟩) hBl).trans q2
                    replace q3 := (hn.cell (p := ⟨w.heap.size, 3, none⟩) hBl).trans q3
                    replace q4 := (hn.cell (p := ⟨w.heap.size, 4, none⟩) hBl).trans q4
                    replace hBl := Nat.lt_of_lt_of_le hBl hn.size
                    replace hb1 := hb1.trans (hn.mono hb1.size)
                    replace HX := HX.below hn
                    replace x0 := (hn.cell (p := ⟨bx, 0, none⟩) hxl).trans x0
                    replace x1 := (hn.cell (p := ⟨bx, 1, none⟩) hxl).trans x1
                    replace x2 := (hn.cell (p := ⟨bx, 2, none⟩) hxl).trans x2
                    replace x3 := (hn.cell (p := ⟨bx, 3, none⟩) hxl).trans x3
                    replace x4 := (hn.cell (p := ⟨bx, 4, none⟩) hxl).trans x4
                    replace hxl := Nat.lt_of_lt_of_le hxl hn.size
                    replace HS5 := Lib.hid (HS5.out.below hn)
                    have HS6 := Lib.hid hsl
                    clear hn hsl
                    go_wp2_with (fail)
                    refine (house_calls _ h _ (by first | with_reducible exact H1 | exact H1.below (below_later _ _)) hl2 hl3 hl4).mono ?_
                    (rintro e w' hr; first | ((with_reducible replace hr := RetHs.up hr); obtain ⟨v, rfl, ⟨z, rfl⟩, HH⟩ := hr) | (obtain ⟨v, rfl, ⟨z, rfl⟩, HH⟩ := hr))
                    go_wp2_with (fail)
                    have CA := paid_all_calls v h _ HH
                    rw [HA.out, ← HPV.out] at CA
                    refine CA.mono ?_
                    clear CA HH
                    (rintro e w' hr; first | ((with_reducible replace hr := Ret.up hr); obtain ⟨rfl, z, rfl⟩ := hr) | (obtain ⟨rfl, z, rfl⟩ := hr))
                    go_wp2_with (fail)
                    refine (house_calls _ x _ (by first | with_reducible exact HX | exact HX.below (below_later _ _)) hlx2 hlx3 hlx4).mono ?_
                    (rintro e w' hr; first | ((with_reducible replace hr := RetHs.up hr); obtain ⟨v, rfl, ⟨z, rfl⟩, HH⟩ := hr) | (obtain ⟨v, rfl, ⟨z, rfl⟩, HH⟩ := hr))
                    go_wp2_with (fail)
                    have CA := paid_all_calls v x _ HH
                    rw [HAX.out, HE3.out] at CA
                    refine CA.mono ?_
                    clear CA HH
                    (rintro e w' hr; first | ((with_reducible replace hr := Ret.up hr); obtain ⟨rfl, z, rfl⟩ := hr) | (obtain ⟨rfl, z, rfl⟩ := hr))
                    go_wp2_with (fail)
                    refine (house_calls _ h _ (by first | with_reducible exact H1 | exact H1.below (below_later _ _)) hl2 hl3 hl4).mono ?_
                    (rintro e w' hr; first | ((with_reducible replace hr := RetHs.up hr); obtain ⟨v, rfl, ⟨z, rfl⟩, HH⟩ := hr) | (obtain ⟨v, rfl, ⟨z, rfl⟩, HH⟩ := hr))
                    go_wp2_with (fail)
                    have CA := look_calls v h _ HH
                    rw [← HL1.out, ← HL2.out, HE4.out] at CA
                    refine CA.mono ?_
                    clear CA HH
                    (rintro e w' hr; first | ((with_reducible replace hr := Ret.up hr); obtain ⟨rfl, z, rfl⟩ := hr) | (obtain ⟨rfl, z, rfl⟩ := hr))
                    go_wp2_with (fail)
                    refine (house_calls _ x _ (by first | with_reducible exact HX | exact HX.below (below_later _ _)) hlx2 hlx3 hlx4).mono ?_
                    (rintro e w' hr; first | ((with_reducible replace hr := RetHs.up hr); obtain ⟨v, rfl, ⟨z, rfl⟩, HH⟩ := hr) | (obtain ⟨v, rfl, ⟨z, rfl⟩, HH⟩ := hr))
                    go_wp2_with (fail)
                    have CA := look_calls v x _ HH
                    rw [← HX1.out, HE6.out, HE5.out] at CA
                    refine CA.mono ?_
                    clear CA HH
                    (rintro e w' hr; first | ((with_reducible replace hr := Ret.up hr); obtain ⟨rfl, z, rfl⟩ := hr) | (obtain ⟨rfl, z, rfl⟩ := hr))
                    have C1 := fun z => inside_calls A14 A15 c14 c15 h.hoursL h.hoursL (later W10 z) (HS5.out.below (below_later _ z)) (HS6.out.below (below_later _ z)) rfl (fun i y y' hy hy' => by
                      rw [hy] at hy'
                      cases hy'
                      exact ⟨Int.le_refl _, Int.le_refl _⟩)
                    have C2 := fun z => inside_calls A15 A14 c15 c14 h.hoursL h.hoursL (later W10 z) (HS6.out.below (below_later _ z)) (HS5.out.below (below_later _ z)) rfl (fun i y y' hy hy' => by
                      rw [hy] at hy'
                      cases hy'
                      exact ⟨Int.le_refl _, Int.le_refl _⟩)
                    rw [HLC.out] at C1 C2
                    have C1 := Lib.hid C1
                    have C2 := Lib.hid C2
                    go_wp2_with (fail)
                    refine (C1.out _).mono ?_
                    (rintro e w' hr; first | ((with_reducible replace hr := Ret.up hr); obtain ⟨rfl, z, rfl⟩ := hr) | (obtain ⟨rfl, z, rfl⟩ := hr))
                    go_wp2_with (fail)
                    refine (C2.out _).mono ?_
                    (rintro e w' hr; first | ((with_reducible replace hr := Ret.up hr); obtain ⟨rfl, z, rfl⟩ := hr) | (obtain ⟨rfl, z, rfl⟩ := hr))
                    go_wp2_with (fail)
                    refine (awake_calls _).mono ?_
                    (rintro e w' hr; first | ((with_reducible replace hr := Ret.up hr); obtain ⟨rfl, z, rfl⟩ := hr) | (obtain ⟨rfl, z, rfl⟩ := hr))
                    go_wp2
                    go_ret
                    exact ret_mk rfl (later_below hb1 hb1.size)
              · have ha := ask_bad HF.out ha
                have hax := HAQ.out.trans ha
                have HA := Lib.hid ha
                have HAX := Lib.hid hax
                clear ha hax
                go_wp2_with (fail)
                refine (house_calls _ h _ (by first | with_reducible exact H1 | exact H1.below (below_later _ _)) hl2 hl3 hl4).mono ?_
                (rintro e w' hr; first | ((with_reducible replace hr := RetHs.up hr); obtain ⟨v, rfl, ⟨z, rfl⟩, HH⟩ := hr) | (obtain ⟨v, rfl, ⟨z, rfl⟩, HH⟩ := hr))
                go_wp2_with (fail)
                have CA := clocks_calls v h _ HH
                rw [HA.out] at CA
                refine CA.mono ?_
                clear CA HH
                (rintro e w' hr; first | ((with_reducible replace hr := RetSlN.up hr); obtain ⟨A12, c12, rfl, ⟨z, rfl⟩, hsl⟩ := hr) | (obtain ⟨A12, c12, rfl, ⟨z, rfl⟩, hsl⟩ := hr))
                clear hsl
                go_wp2_with (fail)
                refine (house_calls _ x _ (by first | with_reducible exact HX | exact HX.below (below_later _ _)) hlx2 hlx3 hlx4).mono ?_
                (rintro e w' hr; first | ((with_reducible replace hr := RetHs.up hr); obtain ⟨v, rfl, ⟨z, rfl⟩, HH⟩ := hr) | (obtain ⟨v, rfl, ⟨z, rfl⟩, HH⟩ := hr))
                go_wp2_with (fail)
                have CA := clocks_calls v x _ HH
                rw [HAX.out] at CA
                refine CA.mono ?_
                clear CA HH
                (rintro e w' hr; first | ((with_reducible replace hr := RetSlN.up hr); obtain ⟨A13, c13, rfl, ⟨z, rfl⟩, hsl⟩ := hr) | (obtain ⟨A13, c13, rfl, ⟨z, rfl⟩, hsl⟩ := hr))
                clear hsl
                go_wp2_with (fail)
                refine (awake_calls _).mono ?_
                (rintro e w' hr; first | ((with_reducible replace hr := Ret.up hr); obtain ⟨rfl, z, rfl⟩ := hr) | (obtain ⟨rfl, z, rfl⟩ := hr))
                go_wp2
                go_ret
                exact ret_mk rfl (later_below hb1 hb1.size)
end Go.Proofs.Ytcngnfnljkkjgaa
