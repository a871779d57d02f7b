/-
The answers' lists, element by element: with no program in sight.
A list that is appended to an empty one: its copy, in memory of its own, whatever the list is; stores into such a copy.
More hours, a greater Grace, a greater Hour: with no program in sight.
One more clip; what a comparison leaves: with no program in sight.
A wider range of a clock: with no program in sight.
The error of a clock is known: with no program in sight.
A clock that is set: with no program in sight.
-/
import Derived.Test.YtcngnfnljkkjgaaCmV
import Derived.Test.YtcngnfnljkkjgaaCmM
namespace Go.Proofs.Ytcngnfnljkkjgaa
open Go.RowKit

theorem cl_len {h : Hs} (ha : h.askE 0 = 0) : h.clocksL.length = h.clocks.length := by simp [Hs.clocksL, ha]
theorem hr_len {h : Hs} (ha : h.askE 0 = 0) : h.hoursL.length = h.tickets.length := by simp [Hs.hoursL, ha]
theorem cl_get {h : Hs} (ha : h.askE 0 = 0) {k : Nat} (hk : k < h.clocks.length) : h.clocksL[k]? = some (h.clockR k) := by simp [Hs.clocksL, ha, hk]
theorem hr_get {h : Hs} (ha : h.askE 0 = 0) {k : Nat} (hk : k < h.tickets.length) : h.hoursL[k]? = some (h.hourR k) := by simp [Hs.hoursL, ha, hk]
end Go.Proofs.Ytcngnfnljkkjgaa
namespace Go.Proofs.Ytcngnfnljkkjgaa
open Go.RowKit
attribute [local go_sem] cell_later frozen_later lt_later le_later

/-- A list that fills the head of a block that is not frozen. -/
def OwnS {α : Type} (w : World) (g : α → List Value) (e : TypeId) (b : Nat) (l : List α) : Prop := ∃ rest, BlkAt w b e (l.flatMap g ++ rest)
section
variable {α : Type} {w w' : World} {g : α → List Value} {e : TypeId} {b c k : Nat} {l : List α}
theorem OwnS.lt (h : OwnS w g e b l) : b < w.heap.size := by
  obtain ⟨r, h⟩ := h
  exact h.lt
theorem OwnS.frozen (h : OwnS w g e b l) (i : Nat) : w.frozen? ⟨b, i, none⟩ = false := by
  obtain ⟨r, h⟩ := h
  exact h.frozen i
theorem OwnS.sl (h : OwnS w g e b l) (hg : ∀ x ∈ l, (g x).length = k) (hc : l.length ≤ c) (hl : l.length ≤ 140737488355328) : SlA w k g (some ⟨b, 0, none⟩) c l := by
  obtain ⟨r, h⟩ := h
  refine ⟨hc, hl, fun _ => ⟨b, 0, rfl, h.lt, fun i x hx j u hu => ?_⟩⟩
  have h1 := flat_at hg i x hx j u hu
  rw [h.cell, Nat.zero_add, List.getElem?_append_left (List.getElem?_eq_some_iff.1 h1).1]
  exact h1
theorem OwnS.keep {b' : Nat} (h : OwnS w g e b l) (hk : KeepX b' w w') (hb : b ≠ b') : OwnS w' g e b l := by
  obtain ⟨r, h⟩ := h
  exact ⟨r, (hk.block b h.lt hb).trans h⟩
theorem OwnS.below (h : OwnS w g e b l) (hb : Below w.heap.size w w') : OwnS w' g e b l := by
  obtain ⟨r, h⟩ := h
  exact ⟨r, h.of_below hb h.lt⟩
theorem OwnS.far (h : OwnS w g e b l) {a : Addr} (u : Value) (ha : b ≠ a.block) : OwnS (w.setCell a u) g e b l := by
  obtain ⟨r, h⟩ := h
  exact ⟨r, (Below.heap_setCell _ _ _ _ ha).trans h⟩
theorem flat_set : ∀ {l : List α}, (∀ x ∈ l, (g x).length = k) → ∀ (i : Nat) (x y : α), l[i]? = some x → ∀ (j : Nat) (u : Value), j < k → g y = (g x).set j u → (l.set i y).flatMap g = (l.flatMap g).set (i * k + j) u
  | [], _, i, x, _, hi, _, _, _, _ => by simp at hi
  | z :: l, hg, 0, x, y, hi, j, u, hj, hy => by
    simp only [List.getElem?_cons_zero, Option.some.injEq] at hi
    subst hi
    rw [List.set_cons_zero, List.flatMap_cons, List.flatMap_cons, Nat.zero_mul, Nat.zero_add, List.set_append_left _ _ (by rw [hg z (by simp)]; exact hj), hy]
  | z :: l, hg, i + 1, x, y, hi, j, u, hj, hy => by
    have hz := hg z (by simp)
    have ih := flat_set (fun q hq => hg q (List.mem_cons_of_mem _ hq)) i x y (by simpa using hi) j u hj hy
    have e1 : (i + 1) * k + j - (g z).length = i * k + j := by rw [hz, Nat.add_mul]; omega
    rw [List.set_cons_succ, List.flatMap_cons, List.flatMap_cons, ih, List.set_append_right _ _ (by rw [hz, Nat.add_mul]; omega), e1]
theorem OwnS.set (h : OwnS w g e b l) (hg : ∀ x ∈ l, (g x).length = k) {i : Nat} {x y : α} (hi : l[i]? = some x) {j : Nat} {u : Value} (hj : j < k) (hy : g y = (g x).set j u) : OwnS (w.setCell ⟨b, i * k + j, none⟩ u) g e b (l.set i y) := by
  obtain ⟨r, h⟩ := h
  refine ⟨r, ?_⟩
  have h1 := h.set_ (i * k + j) u
  have hlt : i * k + j < (l.flatMap g).length := by
    have hil := (List.getElem?_eq_some_iff.1 hi).1
    rw [flat_length hg]
    have := Nat.mul_le_mul_right k (show i + 1 ≤ l.length by omega)
    rw [Nat.add_mul] at this
    omega
  rw [List.set_append_left _ _ hlt] at h1
  rw [flat_set hg i x y hi j u hj hy]
  exact h1
end

theorem blk_new1 (w : World) (o : Obj) (t : TypeId) (cs : List Value) : BlkAt ((w.alloc o).alloc (.cells cs.toArray t)) (w.heap.size + 1) t cs := by
  have := BlkAt.new (w.alloc o) t cs
  rwa [World.size_alloc] at this

section
variable {P : Program} {w : World}
theorem run_append_none (t ty : TypeId) {e : TypeId} {i : TypeInfo} (ht : P.underlying t = some (.slice e)) (hi : P.info? e = some i) (b : Option Addr) (n cap c : Nat) (hn : n ≤ cap) :
    (Builtin.append_ #[t, t] ty #[.slice b n cap, .slice none 0 c]).run P w = .ok (.slice b n cap) w := by
  cases b <;> simp [Builtin.append_, run_underlying ht, sizeOf, typeInfo, hi, Builtin.lenOf, Builtin.firstCells, hn, storeCells]

theorem wp_append_copy {α : Type} {K : Act → World → Prop} {o : Oper} {a : Act} {Q : Exit → Act → World → Prop} (s x : Operand) (t : TypeId)
    (ho : o.op = .call { callee := .builtin .append, args := #[s, x], argTypes := #[t, t] })
    (base : Nat) (e : TypeId) (i : TypeInfo) (z : Value) (size bytes : Nat) (ht : P.underlying t = some (.slice e)) (hi : P.info? e = some i) (hz : i.zero = some z)
    (hsize : i.size = size) (hby : i.bytes = bytes) (hzs : z.cells.size = size) (hsz : 0 < size)
    (gg : Nat) (hs : a.eval s = .slice (some ⟨gg, 0, none⟩) 0 0) (hB : BlkAt w gg e []) (hgg : base ≤ gg)
    {g : α → List Value} {A : Option Addr} {c : Nat} {l : List α} (hx : a.eval x = .slice A l.length c) (H : SlA w size g A c l) (hg : ∀ x ∈ l, (g x).length = size) (h1 : ∀ x ∈ l, ∀ u ∈ g x, u.oneCell' = true)
    (h63 : l.length ≤ maxLen) (hbytes : l.length * bytes ≤ 140737488355328) (hbase : base ≤ w.heap.size)
    (h : ∀ b c w', base ≤ b → l.length ≤ c → OwnS w' g e b l → w.grownBy w' (some gg) → K (a.put o.dst (.slice (some ⟨b, 0, none⟩) l.length c)) w') : o.wp P a w K Q := by
  have hown : w.ownsRow base e size (.slice (some ⟨gg, 0, none⟩) 0 0) 0 [] := ⟨by simp, .inr ⟨gg, 0, #[], rfl, hgg, hB, Nat.le_refl _, Nat.zero_le _, by simp, by simp⟩⟩
  cases A with
  | some ad =>
    refine wp_append_own s x t ho base e i z size bytes ht hi hz hsize hby hzs hsz _ 0 [] hs hown ad l.length c (l.flatMap g) hx (flat_length hg) ?_ ?_ (by rw [Nat.zero_add]; exact h63) (by rw [Nat.zero_add]; exact hbytes) hbase ?_
    · intro j u hu
      have hj := (List.getElem?_eq_some_iff.1 hu).1
      rw [flat_length hg] at hj
      have hne : l ≠ [] := by
        rintro rfl
        simp at hj
      obtain ⟨b, off, e', hlt, hc⟩ := H.2.2 hne
      cases e'
      have hk : j / size < l.length := Nat.div_lt_of_lt_mul (by rw [Nat.mul_comm]; exact hj)
      have hx0 := List.getElem?_eq_getElem hk
      have hm := Nat.mod_lt j hsz
      obtain ⟨u', hu'⟩ : ∃ u', (g l[j / size])[j % size]? = some u' := ⟨_, List.getElem?_eq_getElem (by rw [hg _ (List.getElem_mem hk)]; exact hm)⟩
      have h2 := flat_at hg _ _ hx0 _ _ hu'
      have h3 := Nat.div_add_mod j size
      rw [Nat.mul_comm] at h3
      rw [h3, hu] at h2
      cases h2
      have h4 := hc _ _ hx0 _ _ hu'
      rw [Nat.add_assoc, h3] at h4
      have h5 : ((⟨b, off, none⟩ : Addr).add j) = ⟨b, off + j, none⟩ := by
        unfold Addr.add
        split
        · next hh => rw [hh, Nat.add_zero]
        · rfl
      rw [h5]
      exact h4
    · intro u hu
      obtain ⟨y, hy, hyu⟩ := List.mem_flatMap.1 hu
      exact h1 y hy u hyu
    · intro v' w' h2 h3 h4
      rw [Nat.zero_add, List.nil_append] at h2
      rcases h2.2 with ⟨rfl, -⟩ | ⟨b, cap, cur, rfl, hb, hh, hnc, -, -, htake⟩
      · rcases h4 with h4 | h4 <;> cases h4
      · refine h b cap w' hb hnc ⟨cur.toList.drop (l.length * size), ?_⟩ h3
        unfold BlkAt
        rw [hh, ← htake, List.take_append_drop]
  | none =>
    have hl : l = [] := by
      by_cases hl : l = []
      · exact hl
      · obtain ⟨b, off, e', -⟩ := H.2.2 hl
        cases e'
    subst hl
    have hr := run_append_none (P := P) (w := w) t o.type ht hi (some ⟨gg, 0, none⟩) 0 0 c (Nat.le_refl _)
    unfold Oper.wp execOp
    simp only [ho, resolve, invoke, builtin, Sem.run_bind, Sem.run_pure, Result.andThen_ok, List.map_toArray, List.map_cons, List.map_nil, hs, hx, List.length_nil, hr]
    exact h gg 0 w hgg (Nat.le_refl _) ⟨[], hB⟩ ⟨rfl, rfl, rfl, Nat.le_refl _, fun _ _ _ => rfl⟩
theorem wpList_append_copy {α : Type} {ops : Array Oper} {rest : List Oper} {o : Oper} {a : Act} {Q : Exit → Act → World → Prop} (hgd : o.guard = none) (s x : Operand) (t : TypeId)
    (ho : o.op = .call { callee := .builtin .append, args := #[s, x], argTypes := #[t, t] })
    (base : Nat) (e : TypeId) (i : TypeInfo) (z : Value) (size bytes : Nat) (ht : P.underlying t = some (.slice e)) (hi : P.info? e = some i) (hz : i.zero = some z)
    (hsize : i.size = size) (hby : i.bytes = bytes) (hzs : z.cells.size = size) (hsz : 0 < size)
    (gg : Nat) (hs : a.eval s = .slice (some ⟨gg, 0, none⟩) 0 0) (hB : BlkAt w gg e []) (hgg : base ≤ gg)
    {g : α → List Value} {A : Option Addr} {c : Nat} {l : List α} (hx : a.eval x = .slice A l.length c) (H : SlA w size g A c l) (hg : ∀ x ∈ l, (g x).length = size) (h1 : ∀ x ∈ l, ∀ u ∈ g x, u.oneCell' = true)
    (h63 : l.length ≤ maxLen) (hbytes : l.length * bytes ≤ 140737488355328) (hbase : base ≤ w.heap.size)
    (h : ∀ b c w', base ≤ b → l.length ≤ c → OwnS w' g e b l → w.grownBy w' (some gg) → wpList P ops Q rest (a.put o.dst (.slice (some ⟨b, 0, none⟩) l.length c)) w') : wpList P ops Q (o :: rest) a w :=
  wpList_plain hgd fun _ hK => wp_append_copy s x t ho base e i z size bytes ht hi hz hsize hby hzs hsz gg hs hB hgg hx H hg h1 h63 hbytes hbase fun b c w' h2 h3 h4 h5 => hK _ _ (h b c w' h2 h3 h4 h5)
end
end Go.Proofs.Ytcngnfnljkkjgaa
namespace Go.Proofs.Ytcngnfnljkkjgaa
open Go.RowKit

/-! More hours, a greater Grace, a greater Hour. -/
structure Longer (h x : Hs) : Prop where
  clocks : x.clocks = h.clocks
  clips : x.clips = h.clips
  len : x.tickets.length = h.tickets.length
  hours : ∀ (i : Nat) (s t : Tk), h.tickets[i]? = some s → x.tickets[i]? = some t → s.hours ≤ t.hours
  grace : h.grace ≤ x.grace
  hour : h.hour ≤ x.hour
theorem ceil_mono {s t g k : Int} (hs : 0 ≤ s) (hst : s ≤ t) (hg : 1 ≤ g) (hgk : g ≤ k) : (s + k - 1) / k ≤ (t + g - 1) / g := by
  obtain ⟨q, hq⟩ : ∃ q, q = (t + g - 1) / g := ⟨_, rfl⟩
  rw [← hq]
  have h1 := Int.mul_ediv_add_emod (t + g - 1) g
  have h2 := Int.emod_lt_of_pos (t + g - 1) (show 0 < g by omega)
  rw [← hq] at h1
  have hq0 : 0 ≤ q := by rw [hq]; exact Int.ediv_nonneg (by omega) (by omega)
  have h3 : g * q ≤ k * q := Int.mul_le_mul_of_nonneg_right hgk hq0
  have h4 : s + k - 1 < (q + 1) * k := by
    have : (q + 1) * k = k * q + k := by rw [Int.add_mul, Int.one_mul, Int.mul_comm]
    omega
  have := Int.ediv_lt_of_lt_mul (show 0 < k by omega) h4
  omega
theorem longer_truths {h x : Hs} (L : Longer h x) : x.truths = h.truths := by
  unfold Hs.truths Hs.risingB
  rw [L.clocks, L.clips]
theorem longer_ofs {h x : Hs} (L : Longer h x) (t : Int) : x.ofs t = h.ofs t := by
  unfold Hs.ofs
  rw [L.clips]
theorem longer_hours {h x : Hs} (L : Longer h x) (hh : 1 ≤ h.hour) (e : List Int) (t : Int) : x.hoursB e t ≤ h.hoursB e t := by
  unfold Hs.hoursB
  rw [longer_ofs L]
  have hg := L.grace
  split
  · exact ceil_mono (by omega) (by omega) hh L.hour
  · exact Int.le_refl _
theorem longer_long {h x : Hs} (L : Longer h x) (hh : 1 ≤ h.hour) {e : List Int} {i : Nat} (hi : i < h.tickets.length) (hx : x.longB e i = true) : h.longB e i = true := by
  have h1 := longer_hours L hh e (i : Int)
  have hi' : i < x.tickets.length := by rw [L.len]; exact hi
  have h2 := L.hours i _ _ (List.getElem?_eq_getElem hi) (List.getElem?_eq_getElem hi')
  unfold Hs.longB at hx ⊢
  rw [List.getElem?_eq_getElem hi'] at hx
  rw [List.getElem?_eq_getElem hi]
  simp only [decide_eq_true_eq] at hx ⊢
  omega
theorem longer_ask {h x : Hs} (L : Longer h x) (hf : h.fault = 0) (hx : x.fault = 0) : x.askE 0 = h.askE 0 := by
  unfold Hs.askE
  rw [hf, hx, longer_truths L]
theorem longer_at {h x : Hs} (L : Longer h x) (ha : h.askE 0 = 0) {k : Nat} (hk : k < h.tickets.length) :
    (x.hourR k).lo ≤ (h.hourR k).lo ∧ (x.hourR k).hi ≤ (h.hourR k).hi ∧ (h.longV k = 2 → x.longV k = 2) ∧ (x.longV k = 1 → h.longV k = 1) := by
  obtain ⟨hf, -, hne⟩ := askE_zero ha
  have hh := (fault_hour hf).1
  have hL := fun e => longer_hours L hh e (k : Int)
  have ht := longer_truths L
  refine ⟨?_, ?_, fun h2 => ?_, fun h1 => ?_⟩
  · simp only [Hs.hourR, ht]
    exact lo_mono hne fun e he => ⟨he, hL e⟩
  · simp only [Hs.hourR, ht]
    exact hi_mono hne fun e he => ⟨he, hL e⟩
  · rw [Hs.longV, verdict_two hne] at h2
    rw [Hs.longV, ht, verdict_two hne]
    intro e he
    cases hc : x.longB e k
    · rfl
    · rw [← h2 e he, longer_long L hh hk hc]
  · rw [Hs.longV, ht, verdict_one] at h1
    rw [Hs.longV, verdict_one]
    exact fun e he => longer_long L hh hk (h1 e he)
def Hs.lg0 (h : Hs) (d : Int) : Hs := { h with tickets := h.tickets.map fun t => { t with hours := min 9 (t.hours + d) } }
def Hs.lg1 (h : Hs) (n : Int) : Hs := { h with grace := min 60 (h.grace + n) }
def Hs.lg2 (h : Hs) (n : Int) : Hs := { h with hour := min 120 (h.hour + n) }
theorem valid_parts {h : Hs} (hf : h.fault = 0) : (1 ≤ h.hour ∧ h.hour ≤ 120) ∧ (0 ≤ h.grace ∧ h.grace ≤ 60) ∧ (∀ t ∈ h.tickets, (0 ≤ t.tub ∧ t.tub ≤ 8) ∧ 0 ≤ t.hours ∧ t.hours ≤ 9) := by
  obtain ⟨_, h2, _, _⟩ := fault_zero hf
  obtain ⟨h3, h4, _, h5, _⟩ := arg_iff.1 h2
  refine ⟨inB_iff.1 h3, inB_iff.1 h4, fun t ht => ?_⟩
  have := List.all_eq_true.1 h5 t ht
  simp only [Tk.validB, Bool.and_eq_true, inB_iff] at this
  exact this
theorem longer0 {h : Hs} (hf : h.fault = 0) {d : Int} (hd : 0 ≤ d) : Longer h (h.lg0 d) := by
  refine ⟨rfl, rfl, by simp [Hs.lg0], fun i s t hs ht => ?_, Int.le_refl _, Int.le_refl _⟩
  simp only [Hs.lg0, List.getElem?_map, hs, Option.map_some, Option.some.injEq] at ht
  subst ht
  have := (valid_parts hf).2.2 s (List.mem_of_getElem? hs)
  show s.hours ≤ min 9 (s.hours + d)
  omega
theorem longer1 {h : Hs} (hf : h.fault = 0) {n : Int} (hd : 0 ≤ n) : Longer h (h.lg1 n) := by
  obtain ⟨-, h2, -⟩ := valid_parts hf
  refine ⟨rfl, rfl, rfl, fun i s t hs ht => ?_, ?_, Int.le_refl _⟩
  · change h.tickets[i]? = some t at ht
    rw [hs] at ht
    cases ht
    exact Int.le_refl _
  · show h.grace ≤ min 60 (h.grace + n)
    omega
theorem longer2 {h : Hs} (hf : h.fault = 0) {n : Int} (hd : 0 ≤ n) : Longer h (h.lg2 n) := by
  obtain ⟨h2, -, -⟩ := valid_parts hf
  refine ⟨rfl, rfl, rfl, fun i s t hs ht => ?_, Int.le_refl _, ?_⟩
  · change h.tickets[i]? = some t at ht
    rw [hs] at ht
    cases ht
    exact Int.le_refl _
  · show h.hour ≤ min 120 (h.hour + n)
    omega
theorem lg0_fault {h : Hs} (hf : h.fault = 0) {d : Int} (hd : 0 ≤ d) : (h.lg0 d).fault = 0 := by
  obtain ⟨h1, h2, h3, h4⟩ := fault_zero hf
  obtain ⟨a1, a2, a3, a4, a5⟩ := arg_iff.1 h2
  refine fault_of ?_ (arg_iff.2 ⟨a1, a2, a3, ?_, ?_⟩) ?_ h4
  · rw [small_iff] at *
    simpa [Hs.lg0] using h1
  · rw [List.all_eq_true]
    intro t ht
    obtain ⟨s, hs, rfl⟩ := List.mem_map.1 ht
    have := (valid_parts hf).2.2 s hs
    simp only [Tk.validB, Bool.and_eq_true, inB_iff]
    omega
  · rw [List.all_eq_true] at *
    intro c hc
    have := a5 c hc
    simpa [Hs.clipB, Hs.ticketB, Hs.lg0] using this
  · have : (h.lg0 d).twoB = h.twoB := by
      unfold Hs.twoB
      simp only [Hs.lg0, List.length_map]
      rfl
    rw [this, h3]
theorem lg1_fault {h : Hs} (hf : h.fault = 0) {d : Int} (hd : 0 ≤ d) : (h.lg1 d).fault = 0 := by
  obtain ⟨h1, h2, h3, h4⟩ := fault_zero hf
  obtain ⟨a1, a2, a3, a4, a5⟩ := arg_iff.1 h2
  obtain ⟨-, v2, -⟩ := valid_parts hf
  refine fault_of h1 (arg_iff.2 ⟨a1, ?_, a3, a4, a5⟩) h3 h4
  rw [inB_iff]
  show 0 ≤ min 60 (h.grace + d) ∧ min 60 (h.grace + d) ≤ 60
  omega
theorem lg2_fault {h : Hs} (hf : h.fault = 0) {d : Int} (hd : 0 ≤ d) : (h.lg2 d).fault = 0 := by
  obtain ⟨h1, h2, h3, h4⟩ := fault_zero hf
  obtain ⟨a1, a2, a3, a4, a5⟩ := arg_iff.1 h2
  obtain ⟨v1, -, -⟩ := valid_parts hf
  refine fault_of h1 (arg_iff.2 ⟨?_, a2, a3, a4, a5⟩) h3 h4
  rw [inB_iff]
  show 1 ≤ min 120 (h.hour + d) ∧ min 120 (h.hour + d) ≤ 120
  omega
def Hs.lgK (h : Hs) (d : Int) (k : Nat) : List Tk := (h.tickets.take k).map (fun t => { t with hours := min 9 (t.hours + d) }) ++ h.tickets.drop k
theorem lgK_len (h : Hs) (d : Int) (k : Nat) : (h.lgK d k).length = h.tickets.length := by
  simp only [Hs.lgK, List.length_append, List.length_map, List.length_take, List.length_drop]
  omega
theorem lgK_get {h : Hs} (d : Int) {k : Nat} (hk : k < h.tickets.length) : (h.lgK d k)[k]? = h.tickets[k]? := by
  have hl : ((h.tickets.take k).map (fun t => ({ t with hours := min 9 (t.hours + d) } : Tk))).length = k := by
    rw [List.length_map, List.length_take]
    omega
  unfold Hs.lgK
  rw [List.getElem?_append_right (by omega), hl, Nat.sub_self, List.getElem?_drop, Nat.add_zero]
theorem lgK_set {h : Hs} (d : Int) {k : Nat} {t : Tk} (hk : h.tickets[k]? = some t) : (h.lgK d k).set k { t with hours := min 9 (t.hours + d) } = h.lgK d (k + 1) := by
  have hlt : k < h.tickets.length := (List.getElem?_eq_some_iff.1 hk).1
  have hl : ((h.tickets.take k).map (fun t => ({ t with hours := min 9 (t.hours + d) } : Tk))).length = k := by
    rw [List.length_map, List.length_take]
    omega
  unfold Hs.lgK
  rw [List.set_append_right _ _ (by omega), hl, Nat.sub_self, List.drop_eq_getElem_cons hlt, List.set_cons_zero, List.take_add_one, hk, Option.toList_some, List.map_append, List.append_assoc]
  rfl
theorem lgK_full (h : Hs) (d : Int) : h.lgK d h.tickets.length = (h.lg0 d).tickets := by
  unfold Hs.lgK
  rw [List.take_length, List.drop_length, List.append_nil]
  rfl
end Go.Proofs.Ytcngnfnljkkjgaa
namespace Go.Proofs.Ytcngnfnljkkjgaa
open Go.RowKit

/-! What a comparison leaves: of a part of the truths no more. -/
theorem most_spec (h : Hs) {i : Nat} {r : Rg} (hr : h.clocks[i]? = some r) : 0 ≤ h.mostAt i ∧ (∀ n : Nat, n < r.size.toNat → countT h.truths (i : Int) (r.lo + (n : Int)) ≤ h.mostAt i) ∧ (h.mostAt i = 0 ∨ ∃ n : Nat, n < r.size.toNat ∧ h.mostAt i = countT h.truths (i : Int) (r.lo + (n : Int))) := by
  have hm : h.mostAt i = ((List.range r.size.toNat).map fun (n : Nat) => countT h.truths (i : Int) (r.lo + (n : Int))).foldl max 0 := by
    rw [Hs.mostAt, hr, List.foldl_map]
    rfl
  obtain ⟨b1, b2, b3⟩ := foldl_max ((List.range r.size.toNat).map fun (n : Nat) => countT h.truths (i : Int) (r.lo + (n : Int))) 0
  rw [← hm] at b1 b2 b3
  refine ⟨b1, fun n hn => b2 _ (List.mem_map.2 ⟨n, List.mem_range.2 hn, rfl⟩), ?_⟩
  rcases b3 with b3 | b3
  · exact .inl b3
  · obtain ⟨n, hn, hx⟩ := List.mem_map.1 b3
    exact .inr ⟨n, List.mem_range.1 hn, hx.symm⟩
theorem look_spec (h : Hs) : ∀ k, 0 < k → ∃ j, j < k ∧ h.lookUp k = ((j : Int), h.mostAt j) ∧ ∀ i, i < k → h.mostAt j ≤ h.mostAt i
  | 0, hk => absurd hk (Nat.lt_irrefl 0)
  | 1, _ => by
    refine ⟨0, Nat.one_pos, ?_, fun i hi => ?_⟩
    · rw [lookUp_snoc]
      have := most_le h 0
      show h.lookStep (0, (h.truths.length : Int) + 1) 0 = _
      unfold Hs.lookStep
      rw [if_pos (by simp only; omega)]
    · obtain rfl : i = 0 := by omega
      exact Int.le_refl _
  | k + 2, _ => by
    obtain ⟨j, h1, h2, h3⟩ := look_spec h (k + 1) (Nat.succ_pos k)
    rw [lookUp_snoc, h2, Hs.lookStep]
    by_cases hc : h.mostAt (k + 1) < h.mostAt j
    · rw [if_pos hc]
      refine ⟨k + 1, by omega, rfl, fun i hi => ?_⟩
      rcases Nat.lt_or_ge i (k + 1) with h4 | h4
      · have := h3 i h4
        omega
      · obtain rfl : i = k + 1 := by omega
        exact Int.le_refl _
    · rw [if_neg hc]
      refine ⟨j, by omega, rfl, fun i hi => ?_⟩
      rcases Nat.lt_or_ge i (k + 1) with h4 | h4
      · exact h3 i h4
      · obtain rfl : i = k + 1 := by omega
        omega
theorem look_at {h : Hs} (ha : h.askE 0 = 0) (hc : 0 < h.clocks.length) : h.lookE = 0 ∧ ∃ j, j < h.clocks.length ∧ h.lookV = ((j : Int), h.mostAt j) ∧ ∀ i, i < h.clocks.length → h.mostAt j ≤ h.mostAt i := by
  have h0 : h.lookE = 0 := by
    unfold Hs.lookE
    simp only [ha, ne_eq, not_true_eq_false, if_false]
    rw [if_neg (by omega)]
  refine ⟨h0, ?_⟩
  rw [Hs.lookV, if_pos h0]
  exact look_spec h _ hc
theorem count_sub {l m : List (List Int)} (hs : l.Sublist m) (c o : Int) : countT l c o ≤ countT m c o := by
  unfold countT
  have := (hs.filter fun e : List Int => e.getD c.toNat 0 == o).length_le
  omega
theorem most_sub {h x : Hs} (hc : x.clocks = h.clocks) (hs : x.truths.Sublist h.truths) {i : Nat} (hi : i < h.clocks.length) : x.mostAt i ≤ h.mostAt i := by
  obtain ⟨r, hr⟩ : ∃ r, h.clocks[i]? = some r := ⟨_, List.getElem?_eq_getElem hi⟩
  obtain ⟨-, -, a3⟩ := most_spec x (i := i) (r := r) (by rw [hc]; exact hr)
  obtain ⟨b1, b2, -⟩ := most_spec h hr
  rcases a3 with a3 | ⟨n, hn, a3⟩
  · omega
  · rw [a3]
    exact Int.le_trans (count_sub hs _ _) (b2 n hn)
theorem look_sub {h x : Hs} (hc : x.clocks = h.clocks) (hs : x.truths.Sublist h.truths) (ha : h.askE 0 = 0) (hx : x.askE 0 = 0) (h0 : 0 < h.clocks.length) : x.lookV.2 ≤ h.lookV.2 := by
  obtain ⟨-, j, j1, j2, -⟩ := look_at ha h0
  obtain ⟨-, i, i1, i2, i3⟩ := look_at hx (by rw [hc]; exact h0)
  rw [j2, i2]
  exact Int.le_trans (i3 j (by rw [hc]; exact j1)) (most_sub hc hs j1)

/-! One more clip. -/
def Hs.oneMore (h : Hs) (c : Cp) : Hs := { h with clips := h.clips ++ [c] }
theorem more_rising {h : Hs} {c : Cp} {e out : List Int} (hr : (h.oneMore c).risingB e out = true) : h.risingB e out = true := by
  rw [rising_iff] at *
  intro k i hki hi b1 b2
  have hl : (h.oneMore c).clips.length = h.clips.length + 1 := by simp [Hs.oneMore]
  have ht : ∀ j, j < h.clips.length → (h.oneMore c).trI e j = h.trI e j := fun j hj => by
    show (match (h.clips ++ [c])[j]? with | some c => tru e c | none => 0) = (match h.clips[j]? with | some c => tru e c | none => 0)
    rw [List.getElem?_append_left hj]
  have := hr k i hki (by omega) b1 b2
  rwa [ht k (by omega), ht i hi] at this
theorem more_sub (h : Hs) (c : Cp) : (h.oneMore c).truths.Sublist h.truths := by
  unfold Hs.truths
  have hp : (h.oneMore c).clocks = h.clocks := rfl
  rw [hp]
  have : (prods h.clocks).filter (fun e => (h.oneMore c).risingB e []) = ((prods h.clocks).filter fun e => h.risingB e []).filter fun e => (h.oneMore c).risingB e [] := by
    rw [List.filter_filter]
    apply List.filter_congr
    intro e _
    cases hc : (h.oneMore c).risingB e []
    · rfl
    · rw [more_rising hc]
      rfl
  rw [this]
  exact List.filter_sublist
theorem more_can {h : Hs} {c : Cp} {out : List Int} (hc : (h.oneMore c).canB out = true) : h.canB out = true := by
  rw [Hs.canB, List.any_eq_true] at *
  obtain ⟨e, he, hr⟩ := hc
  exact ⟨e, he, more_rising hr⟩
theorem can_ext {h : Hs} {s t : List Int} (hst : ∀ i : Nat, i < h.clips.length → ((i : Int) ∈ s ↔ (i : Int) ∈ t)) (hc : h.canB s = true) : h.canB t = true := by
  rw [Hs.canB, List.any_eq_true] at *
  obtain ⟨e, he, hr⟩ := hc
  refine ⟨e, he, ?_⟩
  rw [rising_iff] at *
  intro k i hki hi b1 b2
  exact hr k i hki hi (fun hm => b1 ((hst k (by omega)).1 hm)) (fun hm => b2 ((hst i hi).1 hm))
theorem more_out {h : Hs} {c : Cp} {out : List Int} (hc : h.canB out = true) : (h.oneMore c).canB (out ++ [(h.clips.length : Int)]) = true := by
  rw [Hs.canB, List.any_eq_true] at *
  obtain ⟨e, he, hr⟩ := hc
  refine ⟨e, he, ?_⟩
  rw [rising_iff] at *
  intro k i hki hi b1 b2
  have hl : (h.oneMore c).clips.length = h.clips.length + 1 := by simp [Hs.oneMore]
  have ht : ∀ j, j < h.clips.length → (h.oneMore c).trI e j = h.trI e j := fun j hj => by
    show (match (h.clips ++ [c])[j]? with | some c => tru e c | none => 0) = (match h.clips[j]? with | some c => tru e c | none => 0)
    rw [List.getElem?_append_left hj]
  simp only [List.mem_append, List.mem_singleton, not_or] at b1 b2
  rw [ht k (by omega), ht i (by omega)]
  exact hr k i hki (by omega) b1.1 b2.1
theorem more_leave {h : Hs} {c : Cp} (hf : h.fault = 0) (hx : (h.oneMore c).fault = 0) : h.leaveL.length ≤ (h.oneMore c).leaveL.length ∧ (h.oneMore c).leaveL.length ≤ h.leaveL.length + 1 := by
  have hl : (h.oneMore c).clips.length = h.clips.length + 1 := by simp [Hs.oneMore]
  obtain ⟨a1, a2, -⟩ := leave_spec hf
  obtain ⟨b1, b2, -⟩ := leave_spec hx
  constructor
  · have h1 : Inc h.clips.length 0 ((h.oneMore c).leaveL.filter fun x => decide (x < (h.clips.length : Int))) := by
      refine ⟨b1.1.filter _, fun x hx => ?_⟩
      obtain ⟨m1, m2⟩ := List.mem_filter.1 hx
      have := b1.2 x m1
      simp only [decide_eq_true_eq] at m2
      omega
    have h2 : h.canB ((h.oneMore c).leaveL.filter fun x => decide (x < (h.clips.length : Int))) = true := by
      refine can_ext (fun i hi => ?_) (more_can b2)
      rw [List.mem_filter, decide_eq_true_eq]
      exact ⟨fun hm => ⟨hm, by omega⟩, fun hm => hm.1⟩
    exact Nat.le_trans (leave_min hf h1 h2) (List.length_filter_le _ _)
  · have h1 : Inc (h.oneMore c).clips.length 0 (h.leaveL ++ [(h.clips.length : Int)]) := by
      refine ⟨List.pairwise_append.2 ⟨a1.1, by simp, fun x hx y hy => ?_⟩, fun x hx => ?_⟩
      · rw [List.mem_singleton] at hy
        have := a1.2 x hx
        omega
      · rcases List.mem_append.1 hx with hx | hx
        · have := a1.2 x hx
          omega
        · rw [List.mem_singleton] at hx
          omega
    have := leave_min hx h1 (more_out a2)
    simpa using this
theorem more_at {h : Hs} {c : Cp} (hf : h.fault = 0) (hx : (h.oneMore c).fault = 0) (hn : (h.oneMore c).leaveL = []) :
    h.askE 0 = 0 ∧ (h.oneMore c).askE 0 = 0 ∧ h.lookE = 0 ∧ (h.oneMore c).lookE = 0 ∧ (h.oneMore c).lookV.2 ≤ h.lookV.2 ∧ ∀ k, k < h.clocks.length → (h.clockR k).lo ≤ ((h.oneMore c).clockR k).lo ∧ ((h.oneMore c).clockR k).hi ≤ (h.clockR k).hi := by
  have h1 := (leave_nil hx).1 hn
  have hs := more_sub h c
  have h2 : h.truths ≠ [] := fun h0 => h1 (by rw [h0] at hs; exact List.sublist_nil.1 hs)
  have ha : h.askE 0 = 0 := by rw [ask_of_can hf, if_pos ((can_iff h).2 h2)]
  have hax : (h.oneMore c).askE 0 = 0 := by rw [ask_of_can hx, if_pos ((can_iff _).2 h1)]
  have h0 : 0 < h.clocks.length := by
    have := fault_clips hx (c := c) (by simp [Hs.oneMore])
    have h3 : (h.oneMore c).clocks.length = h.clocks.length := rfl
    omega
  refine ⟨ha, hax, (look_at ha h0).1, (look_at hax h0).1, look_sub rfl hs ha hax h0, fun k hk => ⟨?_, ?_⟩⟩
  · simp only [Hs.clockR]
    exact lo_mono h1 fun e he => ⟨hs.subset he, Int.le_refl _⟩
  · simp only [Hs.clockR]
    exact hi_mono h1 fun e he => ⟨hs.subset he, Int.le_refl _⟩
end Go.Proofs.Ytcngnfnljkkjgaa
namespace Go.Proofs.Ytcngnfnljkkjgaa
open Go.RowKit

/-! A wider range of a clock. -/
def Hs.widen (h : Hs) (k : Nat) (lo hi : Int) : Hs := { h with clocks := h.clocks.set k ⟨lo, hi⟩ }
theorem widen_prods {h : Hs} (hf : h.fault = 0) {k : Nat} {lo hi : Int} {r : Rg} (hr : h.clocks[k]? = some r) (h1 : lo ≤ r.lo) (h2 : r.hi ≤ hi) {e : List Int} (he : e ∈ prods h.clocks) : e ∈ prods (h.widen k lo hi).clocks := by
  have a : ∀ y ∈ h.clocks, y.lo ≤ y.hi := fun y hy => (off_parts (off_of hf y hy)).2.1
  have hrr := a r (List.mem_of_getElem? hr)
  have b : ∀ y ∈ (h.widen k lo hi).clocks, y.lo ≤ y.hi := fun y hy => by
    rcases List.mem_or_eq_of_mem_set hy with hy | rfl
    · exact a y hy
    · show lo ≤ hi
      omega
  rw [mem_prods a] at he
  rw [mem_prods b]
  have hlen : (h.widen k lo hi).clocks.length = h.clocks.length := by simp [Hs.widen]
  refine ⟨by rw [hlen]; exact he.1, fun i hi' y hy => ?_⟩
  rw [hlen] at hi'
  by_cases hik : k = i
  · subst hik
    have hy' : y = ⟨lo, hi⟩ := by
      simp only [Hs.widen, List.getElem?_set_self hi', Option.some.injEq] at hy
      exact hy.symm
    subst hy'
    have := he.2 k hi' r hr
    show lo ≤ _ ∧ _ ≤ hi
    omega
  · simp only [Hs.widen, List.getElem?_set_ne hik] at hy
    exact he.2 i hi' y hy
theorem widen_truths {h : Hs} (hf : h.fault = 0) {k : Nat} {lo hi : Int} {r : Rg} (hr : h.clocks[k]? = some r) (h1 : lo ≤ r.lo) (h2 : r.hi ≤ hi) {e : List Int} (he : e ∈ h.truths) : e ∈ (h.widen k lo hi).truths := by
  rw [mem_truths] at he ⊢
  exact ⟨widen_prods hf hr h1 h2 he.1, he.2⟩
theorem widen_can {h : Hs} (hf : h.fault = 0) {k : Nat} {lo hi : Int} {r : Rg} (hr : h.clocks[k]? = some r) (h1 : lo ≤ r.lo) (h2 : r.hi ≤ hi) {out : List Int} (hc : h.canB out = true) : (h.widen k lo hi).canB out = true := by
  rw [Hs.canB, List.any_eq_true] at *
  obtain ⟨e, he, hx⟩ := hc
  exact ⟨e, widen_prods hf hr h1 h2 he, hx⟩
theorem widen_leave {h : Hs} (hf : h.fault = 0) {k : Nat} {lo hi : Int} {r : Rg} (hr : h.clocks[k]? = some r) (h1 : lo ≤ r.lo) (h2 : r.hi ≤ hi) (hx : (h.widen k lo hi).fault = 0) : (h.widen k lo hi).leaveL.length ≤ h.leaveL.length := by
  obtain ⟨a1, a2, -⟩ := leave_spec hf
  exact leave_min hx a1 (widen_can hf hr h1 h2 a2)
/-- A verdict of some truths that is not Perhaps is that of fewer. -/
theorem verdict_kept {l m : List (List Int)} {p : List Int → Bool} (hl : l ≠ []) (hs : ∀ e ∈ l, e ∈ m) (hv : verdictB m p ≠ 3) : verdictB l p = verdictB m p := by
  have hm : m ≠ [] := by
    obtain ⟨e, he⟩ := List.exists_mem_of_ne_nil _ hl
    intro h0
    have := hs e he
    rw [h0] at this
    cases this
  rcases verdict_cases m p with h1 | h1 | h1
  · rw [h1, verdict_one]
    rw [verdict_one] at h1
    exact fun e he => h1 e (hs e he)
  · rw [h1, verdict_two hl]
    rw [verdict_two hm] at h1
    exact fun e he => h1 e (hs e he)
  · exact absurd h1 hv
theorem widen_at {h : Hs} (hf : h.fault = 0) {k : Nat} {lo hi : Int} {r : Rg} (hr : h.clocks[k]? = some r) (h1 : lo ≤ r.lo) (h2 : r.hi ≤ hi) (hx : (h.widen k lo hi).fault = 0) (hn : h.leaveL = []) :
    h.askE 0 = 0 ∧ (h.widen k lo hi).askE 0 = 0 ∧ (∀ j, ((h.widen k lo hi).clockR j).lo ≤ (h.clockR j).lo ∧ (h.clockR j).hi ≤ ((h.widen k lo hi).clockR j).hi) ∧
      (∀ j, ((h.widen k lo hi).hourR j).lo ≤ (h.hourR j).lo ∧ (h.hourR j).hi ≤ ((h.widen k lo hi).hourR j).hi) ∧ (∀ j, (h.widen k lo hi).longV j ≠ 3 → h.longV j = (h.widen k lo hi).longV j) ∧ ((h.widen k lo hi).paidV ≠ 3 → h.paidV = (h.widen k lo hi).paidV) := by
  have ht := (leave_nil hf).1 hn
  have hs : ∀ e ∈ h.truths, e ∈ (h.widen k lo hi).truths := fun e he => widen_truths hf hr h1 h2 he
  have htx : (h.widen k lo hi).truths ≠ [] := by
    obtain ⟨e, he⟩ := List.exists_mem_of_ne_nil _ ht
    intro h0
    have := hs e he
    rw [h0] at this
    cases this
  have ha : h.askE 0 = 0 := by rw [ask_of_can hf, if_pos ((can_iff h).2 ht)]
  have hax : (h.widen k lo hi).askE 0 = 0 := by rw [ask_of_can hx, if_pos ((can_iff _).2 htx)]
  refine ⟨ha, hax, fun j => ⟨?_, ?_⟩, fun j => ⟨?_, ?_⟩, fun j hj => ?_, fun hj => ?_⟩
  · simp only [Hs.clockR]
    exact lo_mono ht fun e he => ⟨hs e he, Int.le_refl _⟩
  · simp only [Hs.clockR]
    exact hi_mono ht fun e he => ⟨hs e he, Int.le_refl _⟩
  · simp only [Hs.hourR]
    exact lo_mono ht fun e he => ⟨hs e he, Int.le_refl _⟩
  · simp only [Hs.hourR]
    exact hi_mono ht fun e he => ⟨hs e he, Int.le_refl _⟩
  · exact verdict_kept ht hs hj
  · have e1 : (h.widen k lo hi).paidV = verdictB (h.widen k lo hi).truths (h.widen k lo hi).paidB := by rw [Hs.paidV, if_pos hax]
    have e2 : h.paidV = verdictB h.truths h.paidB := by rw [Hs.paidV, if_pos ha]
    rw [e1] at hj
    rw [e1, e2]
    exact verdict_kept ht hs hj
end Go.Proofs.Ytcngnfnljkkjgaa
namespace Go.Proofs.Ytcngnfnljkkjgaa
open Go.RowKit

/-! The error of a clock is known. -/
theorem fix_many : ∀ (l : List Rg) (k : Nat) (r : Rg) (n a b : Int), l[k]? = some r → (∀ y ∈ l, y.lo ≤ y.hi) → 0 ≤ a → a ≤ b → (l.set k ⟨n, n⟩).foldl (fun m r => min (m * r.size) 2001) a ≤ l.foldl (fun m r => min (m * r.size) 2001) b
  | [], k, r, n, a, b, hk, _, _, _ => by simp at hk
  | y :: l, 0, r, n, a, b, hk, hs, h0, hab => by
    have hy := hs y (by simp)
    have h1 : a * 1 ≤ b * y.size := Int.mul_le_mul hab (by unfold Rg.size; omega) (by omega) (by omega)
    have h2 : 0 ≤ b * y.size := by omega
    have key : ∀ (l : List Rg) (c d : Int), (∀ y ∈ l, y.lo ≤ y.hi) → 0 ≤ c → c ≤ d → l.foldl (fun m r => min (m * r.size) 2001) c ≤ l.foldl (fun m r => min (m * r.size) 2001) d := by
      intro l
      induction l with
      | nil => intro c d _ _ h; exact h
      | cons z l ih =>
        intro c d hz hc hcd
        have hz0 := hz z (by simp)
        have hz1 : 0 ≤ z.size := by unfold Rg.size; omega
        have h3 : c * z.size ≤ d * z.size := Int.mul_le_mul_of_nonneg_right hcd hz1
        have h4 : 0 ≤ c * z.size := Int.mul_nonneg hc hz1
        exact ih (min (c * z.size) 2001) (min (d * z.size) 2001) (fun x hx => hz x (by simp [hx])) (by omega) (by omega)
    have hn : Rg.size ⟨n, n⟩ = 1 := by unfold Rg.size; simp only; omega
    simp only [List.set_cons_zero, List.foldl_cons, hn]
    exact key l _ _ (fun x hx => hs x (by simp [hx])) (by omega) (by omega)
  | y :: l, k + 1, r, n, a, b, hk, hs, h0, hab => by
    have hy := hs y (by simp)
    have hz1 : 0 ≤ y.size := by unfold Rg.size; omega
    have h3 : a * y.size ≤ b * y.size := Int.mul_le_mul_of_nonneg_right hab hz1
    have h4 : 0 ≤ a * y.size := Int.mul_nonneg h0 hz1
    simp only [List.set_cons_succ, List.foldl_cons]
    exact fix_many l k r n _ _ (by simpa using hk) (fun x hx => hs x (by simp [hx])) (by omega) (by omega)
theorem set_fault {h : Hs} (hf : h.fault = 0) {k : Nat} {r : Rg} (hr : r.offB = true) (hm : manyTo (h.clocks.set k r) ≤ 2000) : ({ h with clocks := h.clocks.set k r } : Hs).fault = 0 := by
  obtain ⟨f1, f2, f3, f4⟩ := fault_zero hf
  obtain ⟨a1, a2, a3, a4, a5⟩ := arg_iff.1 f2
  refine fault_of ?_ (arg_iff.2 ⟨a1, a2, ?_, a4, ?_⟩) f3 hm
  · rw [small_iff] at *
    simpa using f1
  · rw [List.all_eq_true] at *
    intro y hy
    rcases List.mem_or_eq_of_mem_set hy with hy | rfl
    · exact a3 y hy
    · exact hr
  · rw [List.all_eq_true] at *
    intro c hc
    have := a5 c hc
    simpa [Hs.clipB, Hs.ticketB] using this
theorem fix_fault {h : Hs} (hf : h.fault = 0) {k : Nat} {r : Rg} (hr : h.clocks[k]? = some r) {n : Int} (h1 : r.lo ≤ n) (h2 : n ≤ r.hi) : (h.widen k n n).fault = 0 := by
  have hb := fault_clock hf (List.mem_of_getElem? hr)
  refine set_fault hf ?_ ?_
  · rw [offB_iff]
    show -30 ≤ n ∧ n ≤ n ∧ n ≤ 30
    omega
  · have := fix_many h.clocks k r n 1 1 hr (fun y hy => (off_parts (off_of hf y hy)).2.1) (by omega) (by omega)
    have h4 := (fault_zero hf).2.2.2
    unfold manyTo at *
    omega
theorem fix_truths {h : Hs} (hf : h.fault = 0) {k : Nat} {r : Rg} (hr : h.clocks[k]? = some r) {n : Int} (h1 : r.lo ≤ n) (h2 : n ≤ r.hi) (e : List Int) : e ∈ (h.widen k n n).truths ↔ e ∈ h.truths ∧ err e (k : Int) = n := by
  have a : ∀ y ∈ h.clocks, y.lo ≤ y.hi := fun y hy => (off_parts (off_of hf y hy)).2.1
  have hk : k < h.clocks.length := by
    rcases Nat.lt_or_ge k h.clocks.length with h | h
    · exact h
    · rw [List.getElem?_eq_none h] at hr; cases hr
  have b : ∀ y ∈ (h.widen k n n).clocks, y.lo ≤ y.hi := fun y hy => by
    rcases List.mem_or_eq_of_mem_set hy with hy | rfl
    · exact a y hy
    · exact Int.le_refl _
  have hlen : (h.widen k n n).clocks.length = h.clocks.length := by simp [Hs.widen]
  rw [mem_truths, mem_truths, mem_prods a, mem_prods b, hlen]
  have he : err e (k : Int) = e.getD k 0 := by simp [err]
  rw [he]
  constructor
  · rintro ⟨⟨g1, g2⟩, g3⟩
    have hkk := g2 k hk ⟨n, n⟩ (by simp only [Hs.widen, List.getElem?_set_self hk])
    have hkk : n ≤ e.getD k 0 ∧ e.getD k 0 ≤ n := hkk
    refine ⟨⟨⟨g1, fun i hi y hy => ?_⟩, g3⟩, by omega⟩
    by_cases hik : k = i
    · subst hik
      rw [hr] at hy
      cases hy
      omega
    · exact g2 i hi y (by simp only [Hs.widen, List.getElem?_set_ne hik]; exact hy)
  · rintro ⟨⟨⟨g1, g2⟩, g3⟩, g4⟩
    refine ⟨⟨g1, fun i hi y hy => ?_⟩, g3⟩
    by_cases hik : k = i
    · subst hik
      have hy' : y = ⟨n, n⟩ := by
        simp only [Hs.widen, List.getElem?_set_self hi, Option.some.injEq] at hy
        exact hy.symm
      subst hy'
      show n ≤ _ ∧ _ ≤ n
      omega
    · simp only [Hs.widen, List.getElem?_set_ne hik] at hy
      exact g2 i hi y hy
theorem fix_count {h : Hs} (hf : h.fault = 0) {k : Nat} {r : Rg} (hr : h.clocks[k]? = some r) {n : Int} (h1 : r.lo ≤ n) (h2 : n ≤ r.hi) : ((h.widen k n n).truR.length : Int) = countT h.truths (k : Int) n := by
  rw [(truR_perm (fix_fault hf hr h1 h2)).length_eq]
  have hp : (h.widen k n n).truths.Perm (h.truths.filter fun e => e.getD (k : Int).toNat 0 == n) := by
    refine (List.perm_ext_iff_of_nodup ((prods_nodup _).filter _) (List.Pairwise.filter _ ((prods_nodup _).filter _))).2 fun e => ?_
    have := fix_truths hf hr h1 h2 e
    unfold err at this
    refine this.trans ?_
    show _ ↔ e ∈ List.filter _ h.truths
    rw [List.mem_filter]
    simp
  unfold countT
  rw [hp.length_eq]
end Go.Proofs.Ytcngnfnljkkjgaa
namespace Go.Proofs.Ytcngnfnljkkjgaa
open Go.RowKit

/-! A clock that is set. -/
def shiftE (k : Nat) (n : Int) (e : List Int) : List Int := e.set k (e.getD k 0 + n)
def Hs.setC (h : Hs) (k : Nat) (n : Int) (lo hi : Int) : Hs := { h with clocks := h.clocks.set k ⟨lo + n, hi + n⟩, clips := h.clips.map fun c => if c.ck = (k : Int) then { c with mn := c.mn + n } else c }
theorem set_prods : ∀ (l : List Rg) (k : Nat) (r : Rg) (n : Int), l[k]? = some r → prods (l.set k ⟨r.lo + n, r.hi + n⟩) = (prods l).map (shiftE k n)
  | [], k, r, n, hk => by simp at hk
  | y :: l, 0, r, n, hk => by
    simp only [List.getElem?_cons_zero, Option.some.injEq] at hk
    subst hk
    have hs : Rg.size ⟨y.lo + n, y.hi + n⟩ = y.size := by unfold Rg.size; simp only; omega
    simp only [List.set_cons_zero, prods, hs, List.map_flatMap, List.map_map]
    congr 1
    funext j
    congr 1
    funext e
    simp only [Function.comp, shiftE, List.getD_cons_zero, List.set_cons_zero]
    congr 1
    omega
  | y :: l, k + 1, r, n, hk => by
    have ih := set_prods l k r n (by simpa using hk)
    simp only [List.set_cons_succ, prods, ih, List.map_flatMap, List.map_map]
    congr 1
theorem shift_err {k : Nat} {n : Int} {e : List Int} (hk : k < e.length) {c : Int} (h0 : 0 ≤ c) : err (shiftE k n e) c = err e c + if c = (k : Int) then n else 0 := by
  unfold err shiftE
  by_cases hc : c = (k : Int)
  · subst hc
    rw [if_pos rfl]
    simp [List.getD_eq_getElem?_getD, hk]
  · rw [if_neg hc, List.getD_eq_getElem?_getD, List.getElem?_set_ne (by omega), Int.add_zero, List.getD_eq_getElem?_getD]
theorem set_tru {k : Nat} {n : Int} {e : List Int} (hk : k < e.length) {c : Cp} (h0 : 0 ≤ c.ck) : tru (shiftE k n e) (if c.ck = (k : Int) then { c with mn := c.mn + n } else c) = tru e c := by
  by_cases hc : c.ck = (k : Int)
  · rw [if_pos hc]
    unfold tru
    simp only
    rw [shift_err hk h0, if_pos hc]
    omega
  · rw [if_neg hc]
    unfold tru
    rw [shift_err hk h0, if_neg hc]
    omega
structure Sets (h : Hs) (k : Nat) (r : Rg) : Prop where
  fault : h.fault = 0
  at_ : h.clocks[k]? = some r
theorem Sets.lt {h : Hs} {k : Nat} {r : Rg} (S : Sets h k r) : k < h.clocks.length := by
  rcases Nat.lt_or_ge k h.clocks.length with hh | hh
  · exact hh
  · have := S.at_
    rw [List.getElem?_eq_none hh] at this
    cases this
theorem set_rising {h : Hs} {k : Nat} {r : Rg} (S : Sets h k r) (n : Int) {e out : List Int} (he : e.length = h.clocks.length) : (h.setC k n r.lo r.hi).risingB (shiftE k n e) out = h.risingB e out := by
  have hl : (h.setC k n r.lo r.hi).clips.length = h.clips.length := by simp [Hs.setC]
  have ht : ∀ i, i < h.clips.length → (h.setC k n r.lo r.hi).trI (shiftE k n e) i = h.trI e i := by
    intro i hi
    rw [tr_at (by rw [hl]; exact hi), tr_at hi]
    have h0 := (fault_clips S.fault (List.getElem_mem hi)).2.2.1
    simp only [Hs.setC, List.getElem_map]
    exact set_tru (by rw [he]; exact S.lt) h0
  rw [Bool.eq_iff_iff, rising_iff, rising_iff, hl]
  constructor
  · intro h1 a i hai hi b1 b2
    have := h1 a i hai hi b1 b2
    rwa [ht a (by omega), ht i hi] at this
  · intro h1 a i hai hi b1 b2
    rw [ht a (by omega), ht i hi]
    exact h1 a i hai hi b1 b2
theorem set_truths {h : Hs} {k : Nat} {r : Rg} (S : Sets h k r) (n : Int) : (h.setC k n r.lo r.hi).truths = h.truths.map (shiftE k n) := by
  unfold Hs.truths
  show (prods (h.clocks.set k ⟨r.lo + n, r.hi + n⟩)).filter _ = _
  rw [set_prods _ _ _ _ S.at_, List.filter_map]
  congr 1
  apply List.filter_congr
  intro e he
  exact set_rising S n (prods_length _ _ he)
theorem set_can {h : Hs} {k : Nat} {r : Rg} (S : Sets h k r) (n : Int) (out : List Int) : (h.setC k n r.lo r.hi).canB out = h.canB out := by
  unfold Hs.canB
  show (prods (h.clocks.set k ⟨r.lo + n, r.hi + n⟩)).any _ = _
  rw [set_prods _ _ _ _ S.at_, Bool.eq_iff_iff, List.any_eq_true, List.any_eq_true]
  constructor
  · rintro ⟨x, hx, hr⟩
    obtain ⟨e, he, rfl⟩ := List.mem_map.1 hx
    exact ⟨e, he, by rwa [set_rising S n (prods_length _ _ he)] at hr⟩
  · rintro ⟨e, he, hr⟩
    exact ⟨shiftE k n e, List.mem_map.2 ⟨e, he, rfl⟩, by rwa [set_rising S n (prods_length _ _ he)]⟩
theorem set_lv {h : Hs} {k : Nat} {r : Rg} (S : Sets h k r) (n : Int) : ∀ (m : Nat) (out : List Int) (frm : Nat), (h.setC k n r.lo r.hi).lv m out frm = h.lv m out frm
  | 0, out, frm => by simp only [Hs.lv, set_can S]
  | m + 1, out, frm => by
    have hl : (h.setC k n r.lo r.hi).clips.length = h.clips.length := by simp [Hs.setC]
    simp only [Hs.lv, hl, set_lv S n m]
theorem set_leave {h : Hs} {k : Nat} {r : Rg} (S : Sets h k r) (n : Int) (hx : (h.setC k n r.lo r.hi).fault = 0) : (h.setC k n r.lo r.hi).leaveL = h.leaveL := by
  have hl : (h.setC k n r.lo r.hi).clips.length = h.clips.length := by simp [Hs.setC]
  rw [Hs.leaveL, Hs.leaveL, if_pos hx, if_pos S.fault, Hs.leaveO, Hs.leaveO, hl]
  simp only [set_lv S]
theorem set_ofs {h : Hs} {k : Nat} {r : Rg} (n : Int) (t : Int) : (h.setC k n r.lo r.hi).ofs t = (h.ofs t).map fun c => if c.ck = (k : Int) then { c with mn := c.mn + n } else c := by
  unfold Hs.ofs Hs.setC
  simp only
  rw [List.filter_map]
  congr 1
  apply List.filter_congr
  intro c _
  simp only [Function.comp]
  split <;> rfl
theorem set_hours {h : Hs} {k : Nat} {r : Rg} (S : Sets h k r) (n : Int) {e : List Int} (he : e.length = h.clocks.length) (t : Int) : (h.setC k n r.lo r.hi).hoursB (shiftE k n e) t = h.hoursB e t := by
  unfold Hs.hoursB
  rw [set_ofs]
  have hg : (h.setC k n r.lo r.hi).grace = h.grace := rfl
  have hh : (h.setC k n r.lo r.hi).hour = h.hour := rfl
  rw [hg, hh]
  have hc : ∀ c ∈ h.ofs t, tru (shiftE k n e) (if c.ck = (k : Int) then { c with mn := c.mn + n } else c) = tru e c := fun c hc =>
    set_tru (by rw [he]; exact S.lt) (fault_clips S.fault (List.mem_filter.1 hc).1).2.2.1
  cases ho : h.ofs t with
  | nil => rfl
  | cons c0 l =>
    cases l with
    | nil => rfl
    | cons c1 l =>
      rw [ho] at hc
      simp only [List.map_cons]
      rw [hc c0 (by simp), hc c1 (by simp)]
theorem set_long {h : Hs} {k : Nat} {r : Rg} (S : Sets h k r) (n : Int) {e : List Int} (he : e.length = h.clocks.length) (t : Nat) : (h.setC k n r.lo r.hi).longB (shiftE k n e) t = h.longB e t := by
  unfold Hs.longB
  rw [set_hours S n he]
  rfl
theorem set_clash {h : Hs} {k : Nat} {r : Rg} (S : Sets h k r) (n : Int) {e : List Int} (he : e.length = h.clocks.length) (a b : Nat) : (h.setC k n r.lo r.hi).clashB (shiftE k n e) a b = h.clashB e a b := by
  have hc : ∀ (t : Int) (i : Nat), i < (h.ofs t).length → tru (shiftE k n e) (((h.setC k n r.lo r.hi).ofs t).getD i cp0) = tru e ((h.ofs t).getD i cp0) := by
    intro t i hi
    rw [set_ofs, List.getD_eq_getElem?_getD, List.getD_eq_getElem?_getD, List.getElem?_map, List.getElem?_eq_getElem hi]
    exact set_tru (by rw [he]; exact S.lt) (fault_clips S.fault (List.mem_filter.1 (List.getElem_mem hi)).1).2.2.1
  have hl : ∀ t : Int, ((h.setC k n r.lo r.hi).ofs t).length = (h.ofs t).length := fun t => by rw [set_ofs, List.length_map]
  have hb : ∀ s t : Int, (h.ofs s) ≠ [] → beforeB (shiftE k n e) ((h.setC k n r.lo r.hi).ofs s) ((h.setC k n r.lo r.hi).ofs t) = beforeB e (h.ofs s) (h.ofs t) := by
    intro s t hs
    unfold beforeB
    rw [hl]
    by_cases h2 : (h.ofs t).length < 2
    · simp [h2]
    · rw [hc s 0 (List.length_pos_iff.2 hs), hc t 1 (by omega)]
  have he' : ∀ t : Int, ((h.setC k n r.lo r.hi).ofs t).isEmpty = (h.ofs t).isEmpty := fun t => by rw [set_ofs, List.isEmpty_map]
  have ht : ∀ t, (h.setC k n r.lo r.hi).tubAt t = h.tubAt t := fun _ => rfl
  unfold Hs.clashB
  rw [ht, ht, he', he']
  by_cases h1 : h.ofs (a : Int) = []
  · simp [h1]
  · by_cases h2 : h.ofs (b : Int) = []
    · simp [h2]
    · rw [hb _ _ h1, hb _ _ h2]
theorem set_paid {h : Hs} {k : Nat} {r : Rg} (S : Sets h k r) (n : Int) {e : List Int} (he : e.length = h.clocks.length) : (h.setC k n r.lo r.hi).paidB (shiftE k n e) = h.paidB e := by
  unfold Hs.paidB Hs.okAt
  simp only [set_long S n he, set_clash S n he]
  rfl
theorem set_count {h : Hs} {k : Nat} {r : Rg} (S : Sets h k r) (n : Int) (i : Nat) (o : Int) : countT (h.setC k n r.lo r.hi).truths (i : Int) (o + if i = k then n else 0) = countT h.truths (i : Int) o := by
  unfold countT
  rw [set_truths S, List.filter_map, List.length_map]
  congr 2
  apply List.filter_congr
  intro e he
  have hl := prods_length _ _ (List.mem_filter.1 he).1
  have h1 := shift_err (n := n) (show k < e.length by rw [hl]; exact S.lt) (c := (i : Int)) (by omega)
  unfold err at h1
  simp only [Function.comp, h1]
  by_cases hik : i = k
  · subst hik
    rw [if_pos rfl, if_pos rfl, Bool.eq_iff_iff, beq_iff_eq, beq_iff_eq]
    omega
  · rw [if_neg hik, if_neg (by omega), Int.add_zero, Int.add_zero]
theorem set_most {h : Hs} {k : Nat} {r : Rg} (S : Sets h k r) (n : Int) (i : Nat) : (h.setC k n r.lo r.hi).mostAt i = h.mostAt i := by
  unfold Hs.mostAt
  have hc : (h.setC k n r.lo r.hi).clocks = h.clocks.set k ⟨r.lo + n, r.hi + n⟩ := rfl
  rw [hc]
  by_cases hik : k = i
  · subst hik
    rw [List.getElem?_set_self S.lt, S.at_]
    have hs : Rg.size ⟨r.lo + n, r.hi + n⟩ = r.size := by unfold Rg.size; simp only; omega
    simp only [hs]
    unfold Hs.mostUp
    congr 1
    funext m j
    have := set_count S n k (r.lo + (j : Int))
    rw [if_pos rfl] at this
    rw [← this]
    congr 2
    omega
  · rw [List.getElem?_set_ne hik]
    split
    · next y hy =>
      unfold Hs.mostUp
      congr 1
      funext m j
      have := set_count S n i (y.lo + (j : Int))
      rw [if_neg (fun h => hik h.symm), Int.add_zero] at this
      rw [this]
    · rfl
theorem set_at {h : Hs} {k : Nat} {r : Rg} (S : Sets h k r) (n : Int) (hx : (h.setC k n r.lo r.hi).fault = 0) : (h.setC k n r.lo r.hi).askE 0 = h.askE 0 ∧
    (h.askE 0 = 0 → (∀ j, j < h.clocks.length → ((h.setC k n r.lo r.hi).clockR j).lo = (h.clockR j).lo + (if j = k then n else 0) ∧ ((h.setC k n r.lo r.hi).clockR j).hi = (h.clockR j).hi + (if j = k then n else 0)) ∧
      (h.setC k n r.lo r.hi).hoursL = h.hoursL ∧ (h.setC k n r.lo r.hi).paidV = h.paidV ∧ h.lookE = 0 ∧ (h.setC k n r.lo r.hi).lookE = 0 ∧ (h.setC k n r.lo r.hi).lookV.2 = h.lookV.2) := by
  have ha : (h.setC k n r.lo r.hi).askE 0 = h.askE 0 := by rw [ask_of_can hx, ask_of_can S.fault, set_can S]
  refine ⟨ha, fun h0 => ?_⟩
  have hne := (askE_zero h0).2.2
  have hlen : ∀ e ∈ h.truths, e.length = h.clocks.length := fun e he => prods_length _ _ (List.mem_filter.1 he).1
  have hax := ha.trans h0
  have hcl : (h.setC k n r.lo r.hi).clocks.length = h.clocks.length := by simp [Hs.setC]
  have hsh : ∀ (j : Nat), ∀ e ∈ h.truths, err (shiftE k n e) (j : Int) = err e (j : Int) + if j = k then n else 0 := by
    intro j e he
    rw [shift_err (by rw [hlen e he]; exact S.lt) (by omega)]
    by_cases hjk : j = k
    · subst hjk
      rw [if_pos rfl, if_pos rfl]
    · rw [if_neg hjk, if_neg (by omega)]
  refine ⟨fun j _ => ⟨?_, ?_⟩, ?_, ?_, (look_at h0 (Nat.lt_of_le_of_lt (Nat.zero_le _) S.lt)).1, (look_at hax (by rw [hcl]; exact Nat.lt_of_le_of_lt (Nat.zero_le _) S.lt)).1, ?_⟩
  · simp only [Hs.clockR, set_truths S]
    exact lo_map _ _ _ _ hne (hsh j)
  · simp only [Hs.clockR, set_truths S]
    exact hi_map _ _ _ _ hne (hsh j)
  · have ht : (h.setC k n r.lo r.hi).tickets = h.tickets := rfl
    rw [Hs.hoursL, Hs.hoursL, if_pos hax, if_pos h0, ht]
    apply List.map_congr_left
    intro j _
    simp only [Hs.hourR, set_truths S, Rg.mk.injEq]
    constructor
    · rw [lo_map (shiftE k n) _ (fun e => h.hoursB e j) 0 hne (fun e he => by rw [set_hours S n (hlen e he), Int.add_zero]), Int.add_zero]
    · rw [hi_map (shiftE k n) _ (fun e => h.hoursB e j) 0 hne (fun e he => by rw [set_hours S n (hlen e he), Int.add_zero]), Int.add_zero]
  · rw [Hs.paidV, Hs.paidV, if_pos hax, if_pos h0, set_truths S]
    exact verdict_map _ _ fun e he => set_paid S n (hlen e he)
  · obtain ⟨-, i, i1, i2, i3⟩ := look_at h0 (Nat.lt_of_le_of_lt (Nat.zero_le _) S.lt)
    obtain ⟨-, j, j1, j2, j3⟩ := look_at hax (by rw [hcl]; exact Nat.lt_of_le_of_lt (Nat.zero_le _) S.lt)
    rw [i2, j2]
    rw [hcl] at j1 j3
    have h1 := i3 j j1
    have h2 := j3 i i1
    rw [set_most S, set_most S] at h2
    simp only [set_most S]
    omega
end Go.Proofs.Ytcngnfnljkkjgaa
