/-
The true minutes of all clips.
-/
import Derived.Test.YtcngnfnljkkjgaaTkListed
namespace Go.Proofs.Ytcngnfnljkkjgaa
open Go.RowKit
attribute [local go_sem] cell_later frozen_later lt_later le_later

theorem own_below {w w' : World} {base : Nat} {e : TypeId} {k : Nat} {v : Value} {n : Nat} {xs : List Value} (h : w.ownsRow base e k v n xs) (hb : Below w.heap.size w w') : w'.ownsRow base e k v n xs := by
  obtain ⟨h1, h2⟩ := h
  refine ⟨h1, ?_⟩
  rcases h2 with h2 | ⟨g, cap, cur, hv, hg, hh, r⟩
  · exact Or.inl h2
  · refine Or.inr ⟨g, cap, cur, hv, hg, ?_, r⟩
    rw [hb.block g (Array.getElem?_eq_some_iff.1 hh).1]
    exact hh
theorem own_later {w x : World} {base : Nat} {e : TypeId} {k : Nat} {v : Value} {n : Nat} {xs : List Value} (h : w.ownsRow base e k v n xs) : (later w x).ownsRow base e k v n xs := own_below h (below_later w x)

/-- What a call leaves that hands back a list in new memory, and a number. -/
def RetSlN {α : Type} (k : Nat) (g : α → List Value) (l : List α) (n : Int) (w : World) (e : Ending) (w' : World) : Prop :=
  ∃ A c, e = .returned (.tuple #[.slice A l.length c, .int .i64 n]) ∧ (∃ x, w' = later w x) ∧ SlA w' k g A c l
theorem RetSlN.up {α : Type} {k : Nat} {g : α → List Value} {l : List α} {n : Int} {w x w' : World} {e : Ending} (h : RetSlN k g l n (later w x) e w') : RetSlN k g l n w e w' := by
  obtain ⟨A, c, he, ⟨y, rfl⟩, hs⟩ := h
  exact ⟨A, c, he, later_ex (later_below (below_later w x) (size_later w x)), hs⟩
theorem retSlN_nil {α : Type} {k : Nat} {g : α → List Value} {l : List α} {n : Int} {w w' : World} {e : Ending} (hl : l = []) (he : e = .returned (.tuple #[.slice none 0 0, .int .i64 n])) (hb : Below w.heap.size w w') : RetSlN k g l n w e w' := by
  subst hl
  exact ⟨none, 0, he, later_ex hb, SlA.nil _ _ _ _⟩

theorem infoInt : (Try.prog.info? 3).map (fun i => (i.zero, i.size, i.bytes)) = some (some (.int .i64 0), 1, 8) := by kernel_rfl

def Hs.playE (h : Hs) (l : List Int) : Int := if h.fault ≠ 0 then h.fault else if areErrB h l = true then 0 else 2
def Hs.playL (h : Hs) (l : List Int) : List Int := if h.playE l = 0 then h.clips.map (tru l) else []

theorem areErr_ok {h : Hs} {l : List Int} (hf : h.fault = 0) (hl : areErrB h l = true) : ErrOk l := fun i => by
  rw [areErrB, Bool.and_eq_true, List.all_eq_true] at hl
  obtain ⟨h1, h2⟩ := hl
  have h1 : l.length = h.clocks.length := by simpa using h1
  rcases Nat.lt_or_ge i l.length with hi | hi
  · have := h2 i (by simpa using hi)
    rw [List.getElem?_eq_getElem (by omega)] at this
    have := inB_iff.1 this
    have hc := fault_clock hf (List.getElem_mem (show i < h.clocks.length by omega))
    omega
  · rw [List.getD_eq_getElem?_getD, List.getElem?_eq_none hi]
    simp

set_option maxHeartbeats 1000000 in
theorem play_calls (v : Value) (h : Hs) (A : Option Addr) (c : Nat) (l : List Int) (w : World) (H : HsAt w v h) (HL : SlA w 1 gI A c l) :
    Calls Try.prog 57 #[v, .slice A l.length c] w (RetSlN 1 gI (h.playL l) (h.playE l) w) := by
  have H0 := H
  obtain ⟨A2, c2, A3, c3, A4, c4, rfl, H2, H3, H4⟩ := H
  by_cases hf : h.fault = 0
  · have hf1 : (h.fault != 0) = false := by simp [hf]
    have HF := Lib.hid hf
    have hn : h.clocks.length ≤ 4 := (small_iff.1 (fault_zero hf).1).1
    have hp : h.clips.length ≤ 10 := (small_iff.1 (fault_zero hf).1).2.2
    clear hf
    by_cases ha : areErrB h l = true
    · have HC := Lib.hid (clipsOk_of HF.out)
      have HE := Lib.hid (areErr_ok HF.out ha)
      have HP := Lib.hid (show h.playE l = 0 by simp [Hs.playE, HF.out, ha])
      have HPL := Lib.hid (show h.playL l = h.clips.map (tru l) by simp [Hs.playL, HP.out])
      obtain ⟨i0, hi, hz0, hz1, hz2⟩ := info_parts infoInt
      go_enter Try.func57, Try.ntmps57
      go_wp2_with (first
        | (go_at_call 70; refine (check_calls _ h _ ?hh).mono ?_; (case hh => exact H0.below (by repeat (first | exact Below.refl _ _ | (with_reducible assumption) | apply gL | apply gA | apply gD | apply gN | (refine gS ?_ (by first | (simp; done) | (simp; omega) | omega))))); (rintro e w' hr; first | ((with_reducible replace hr := Ret.up hr); obtain ⟨rfl, z, rfl⟩ := hr) | (obtain ⟨rfl, z, rfl⟩ := hr)))
        | (go_at_call 107; refine (listed_calls _ h _ _ l _ ?hh ?hs hn).mono ?_; (case hh => exact H0.below (by repeat (first | exact Below.refl _ _ | (with_reducible assumption) | apply gL | apply gA | apply gD | apply gN | (refine gS ?_ (by first | (simp; done) | (simp; omega) | omega))))); (case hs => exact HL.below (by repeat (first | exact Below.refl _ _ | (with_reducible assumption) | apply gL | apply gA | apply gD | apply gN | (refine gS ?_ (by first | (simp; done) | (simp; omega) | omega))))); (rintro e w' hr; (first | (with_reducible replace hr := RetListed.up hr) | skip); obtain ⟨a0, a1, a2, a3, h4, rfl, z, rfl⟩ := hr); have HE4 := Lib.hid (h4 ha); clear h4))
      obtain ⟨W1, hW1⟩ : ∃ W1, W1 = (later (w.alloc (.cells #[.int .i64 h.hour, .int .i64 h.grace, .slice A2 h.clocks.length c2, .slice A3 h.tickets.length c3, .slice A4 h.clips.length c4] 36)) z).alloc (.cells #[.int .i64 a0, .int .i64 a1, .int .i64 a2, .int .i64 a3] 119) := ⟨_, rfl⟩
      have hb1 : Below w.heap.size w W1 := by rw [hW1]; exact (by repeat (first | exact Below.refl _ _ | (with_reducible assumption) | apply gL | apply gA | apply gD | apply gN | (refine gS ?_ (by first | (simp; done) | (simp; omega) | omega))))
      obtain ⟨g, hg⟩ : ∃ g, g = (later (w.alloc (.cells #[.int .i64 h.hour, .int .i64 h.grace, .slice A2 h.clocks.length c2, .slice A3 h.tickets.length c3, .slice A4 h.clips.length c4] 36)) z).heap.size := ⟨_, rfl⟩
      have k0 : W1.cell? ⟨g, 0, none⟩ = some (.int .i64 a0) := by rw [hW1, hg]; simp [go_sem]
      have k1 : W1.cell? ⟨g, 1, none⟩ = some (.int .i64 a1) := by rw [hW1, hg]; simp [go_sem]
      have k2 : W1.cell? ⟨g, 2, none⟩ = some (.int .i64 a2) := by rw [hW1, hg]; simp [go_sem]
      have k3 : W1.cell? ⟨g, 3, none⟩ = some (.int .i64 a3) := by rw [hW1, hg]; simp [go_sem]
      have hgl : g < W1.heap.size := by rw [hW1, hg]; simp
      rw [← hW1, ← hg]
      clear hW1 hg
      go_loopw [9, 28] (fun v i wr => ∃ k : Nat, k ≤ h.clips.length ∧ i = .int .i64 k ∧ Below W1.heap.size W1 wr ∧ wr.ownsRow W1.heap.size 3 1 v k (((h.clips.take k).map (tru l)).flatMap gI))
        (fun _ i _ => h.clips.length - (intOf i).toNat)
      case atStart => exact ⟨0, Nat.zero_le _, rfl, Below.refl _ _, World.ownsRow_nil _ _ _ _⟩
      case round =>
        obtain ⟨k, hk, rfl, hb, hown⟩ := hrel
        have hbw : Below w.heap.size w wr := hb1.trans (hb.mono hb1.size)
        by_cases hlt : k < h.clips.length
        · obtain ⟨b, off, x, rfl, hbl, hx, g1, g2, g3⟩ := (H4.below hbw).atC hlt
          obtain ⟨m1, m2, m3, m4⟩ := HC.out x (List.mem_of_getElem? hx)
          have HS := Lib.hid (show (h.clips.take (k + 1)).map (tru l) = (h.clips.take k).map (tru l) ++ [tru l x] by rw [List.take_add_one, hx]; simp)
          clear hx
          have q0 := (hb.cell (p := ⟨g, 0, none⟩) hgl).trans k0
          have q1 := (hb.cell (p := ⟨g, 1, none⟩) hgl).trans k1
          have q2 := (hb.cell (p := ⟨g, 2, none⟩) hgl).trans k2
          have q3 := (hb.cell (p := ⟨g, 3, none⟩) hgl).trans k3
          have hgr : g < wr.heap.size := Nat.lt_of_lt_of_le hgl hb.size
          go_wp2_with (first
            | (go_at_call 108; refine (minute_calls4 l HE4 HE x _ m1 m2 m3 m4).mono ?_; (rintro e w' hr; first | ((with_reducible replace hr := Ret.up hr); obtain ⟨rfl, z, rfl⟩ := hr) | (obtain ⟨rfl, z, rfl⟩ := hr)))
            | (at_builtin; refine wpList_append_own _ rfl _ _ 47 rfl W1.heap.size 3 i0 (.int .i64 0) 1 8 Try.underlying47 hi hz0 hz1 hz2 rfl (by decide) _ _ _ rfl ((own_later (hown.alloc _)).alloc _) ⟨(later (wr.alloc (.cells #[.int .i64 x.tk, .int .i64 x.ck, .int .i64 x.mn] 104)) z).heap.size, 0, none⟩ 1 1 (gI (tru l x)) rfl rfl ?c1 ?c2 ?c3 ?c4 ?c5 ?_))
          case c1 => exact news_new _ _ (by simp) (gI (tru l x)) _
          case c2 => simp [gI, Value.oneCell']
          case c3 => unfold maxLen; omega
          case c4 => omega
          case c5 => have := hb.size; have := size_later (wr.alloc (.cells #[.int .i64 x.tk, .int .i64 x.ck, .int .i64 x.mn] 104)) z; simp at this ⊢; omega
          intro v' w1 hown1 hg1 _
          have hb2 := grown_below (by exact (by repeat (first | exact Below.refl _ _ | (with_reducible assumption) | apply gL | apply gA | apply gD | apply gN | (refine gS ?_ (by first | (simp; done) | (simp; omega) | omega))))) ((own_later (x := z) (hown.alloc (.cells #[.int .i64 x.tk, .int .i64 x.ck, .int .i64 x.mn] 104))).alloc (.cells #[.int .i64 (tru l x)] 3)) (Nat.le_refl _) hg1
          go_wp2
          go_roundw
          case rel => exact ⟨k + 1, by omega, by go_num, hb2, by rw [HS.out]; simpa using hown1⟩
          case measure => simp [intOf]; omega
        · obtain rfl : k = h.clips.length := by omega
          rw [List.take_length] at hown
          go_wp2
          obtain ⟨A, c, rfl, hs⟩ := SlA.of_own (k := 1) (g := gI) (l := h.clips.map (tru l)) hown (fun _ _ => rfl) (by simp) (by omega)
          go_ret2
          exact ⟨A, c, by rw [HPL.out, HP.out]; rfl, later_ex hbw, by rw [HPL.out]; exact hs⟩
    · have ha : areErrB h l = false := by simpa using ha
      have HP := Lib.hid (show h.playE l = 2 by simp [Hs.playE, HF.out, ha])
      have HPL := Lib.hid (show h.playL l = [] by simp [Hs.playL, HP.out])
      go_enter Try.func57, Try.ntmps57
      go_wp2_with (first
        | (go_at_call 70; refine (check_calls _ h _ ?hh).mono ?_; (case hh => exact H0.below (by repeat (first | exact Below.refl _ _ | (with_reducible assumption) | apply gL | apply gA | apply gD | apply gN | (refine gS ?_ (by first | (simp; done) | (simp; omega) | omega))))); (rintro e w' hr; first | ((with_reducible replace hr := Ret.up hr); obtain ⟨rfl, z, rfl⟩ := hr) | (obtain ⟨rfl, z, rfl⟩ := hr)))
        | (go_at_call 107; refine (listed_calls _ h _ _ l _ ?hh ?hs hn).mono ?_; (case hh => exact H0.below (by repeat (first | exact Below.refl _ _ | (with_reducible assumption) | apply gL | apply gA | apply gD | apply gN | (refine gS ?_ (by first | (simp; done) | (simp; omega) | omega))))); (case hs => exact HL.below (by repeat (first | exact Below.refl _ _ | (with_reducible assumption) | apply gL | apply gA | apply gD | apply gN | (refine gS ?_ (by first | (simp; done) | (simp; omega) | omega))))); (rintro e w' hr; (first | (with_reducible replace hr := RetListed.up hr) | skip); obtain ⟨a0, a1, a2, a3, h4, rfl, z, rfl⟩ := hr); clear h4))
      go_ret2
      exact retSlN_nil HPL.out (by rw [HP.out]; rfl) (by repeat (first | exact Below.refl _ _ | (with_reducible assumption) | apply gL | apply gA | apply gD | apply gN | (refine gS ?_ (by first | (simp; done) | (simp; omega) | omega))))
  · have hf1 : (h.fault != 0) = true := by simpa using hf
    have HP := Lib.hid (show h.playE l = h.fault by simp [Hs.playE, hf])
    have HPL := Lib.hid (show h.playL l = [] by simp [Hs.playL, HP.out, hf])
    have HF := Lib.hid hf
    clear hf
    go_enter Try.func57, Try.ntmps57
    go_wp2_with (first
        | (go_at_call 70; refine (check_calls _ h _ ?hh).mono ?_; (case hh => exact H0.below (by repeat (first | exact Below.refl _ _ | (with_reducible assumption) | apply gL | apply gA | apply gD | apply gN | (refine gS ?_ (by first | (simp; done) | (simp; omega) | omega))))); (rintro e w' hr; first | ((with_reducible replace hr := Ret.up hr); obtain ⟨rfl, z, rfl⟩ := hr) | (obtain ⟨rfl, z, rfl⟩ := hr))))
    go_ret2
    exact retSlN_nil HPL.out (by rw [HP.out]; rfl) (by repeat (first | exact Below.refl _ _ | (with_reducible assumption) | apply gL | apply gA | apply gD | apply gN | (refine gS ?_ (by first | (simp; done) | (simp; omega) | omega))))
end Go.Proofs.Ytcngnfnljkkjgaa
