/-
TicketMemory: the walk, as a row asks for it.
-/
import Derived.Test.YtcngnfnljkkjgaaCmQMemory
import Derived.Test.YtcngnfnljkkjgaaCmIn
namespace Go.Proofs.Ytcngnfnljkkjgaa
open Go.RowKit Go.ChangeShapes Go.WideShapes Go.ChangeAt

theorem row_own : ownKnob Try.prog.godebug = none := by kernel_rfl
theorem row_laid : laidOutB Try.prog = true := by kernel_rfl

set_option maxRecDepth 100000 in
theorem ticketMemory_lifted (os : Os) (started : os.Started) (H : Type) (enc : TypeId × Value → H) :
                                    ReturnsInHanded {} Try.checked os 19 .any (Rows.ticketMemorySpec.pre6 enc Try.prog Try.f19 Rows.ticketMemoryRow.domain false) (Rows.ticketMemorySpec.post enc Try.prog Try.f19 false true false false) := by
                                  refine returnsInHanded_of_change_sized (C := Try.checked) row_own started (by kernel_rfl) Try.func19
                                    (ChangeSpec.witness6 (enc := enc) (C := Try.checked) false ⟨#[], #[.agg #[.int .i64 0, .int .i64 0, .slice none 0 0, .slice none 0 0, .slice none 0 0], .slice none 0 0], []⟩ 8 (by kernel_rfl) (by kernel_rfl) (by kernel_rfl) (by kernel_rfl)) ?_
                                  intro W base args ds gs before hval0 hW hcnd hsz _
                                  have hval : ∀ (j : Nat) t v, Try.f19.params[j]? = some t → args[j]? = some v → Value.okWide Try.prog W .any base t v := hval0
                                  have hW' := hW
                                  obtain ⟨p, q, hA0, hV, rfl, hfz, hnd⟩ := hW
                                  have hA : DataW.TrodAll enc Try.prog W 0 (fun _ => true) true Try.f19.params.toList args.toList ds p := hA0
                                  rw [Try.params19] at hA hval
                                  obtain ⟨v0, vs0, d0, ds0, p0, q0, hargs, rfl, rfl, h0, r0⟩ := trodAll_cons hA
                                  obtain ⟨v1, vs1, d1, ds1, p1, q1, rfl, rfl, rfl, h1, r1⟩ := trodAll_cons r0
                                  obtain ⟨rfl, rfl, rfl⟩ := trodAll_nil r1
                                  obtain rfl : args = #[v0, v1] := by cases args; simp_all
                                  obtain ⟨rfl, rfl⟩ := trodVars_none hV
                                  have k0 := h0
                                  have lt0 : ∀ x ∈ p0, x.block < W.heap.size := by obtain ⟨m, hm⟩ := k0; exact DataW.trod_lt m _ _ _ hm
                                  have hw0 : ∀ n ∈ d0.weights Try.prog 26, n ≤ reachBytes := fun n hn => by
                                    have := List.all_eq_true.1 hsz n (DataW.weights_mem_each (j := 0) rfl rfl n hn)
                                    simpa using this
                                  have k1 := h1
                                  have lt1 : ∀ x ∈ p1, x.block < W.heap.size := by obtain ⟨m, hm⟩ := k1; exact DataW.trod_lt m _ _ _ hm
                                  have hw1 : ∀ n ∈ d1.weights Try.prog 47, n ≤ reachBytes := fun n hn => by
                                    have := List.all_eq_true.1 hsz n (DataW.weights_mem_each (j := 1) rfl rfl n hn)
                                    simpa using this
                                  obtain ⟨h, HH⟩ := open_house5 Try.underlying26 rfl cells_house ⟨rfl, rfl⟩ ⟨rfl, rfl⟩ ⟨rfl, rfl⟩ ⟨rfl, rfl⟩ ⟨rfl, rfl⟩ cells_sRange cells_sTicket cells_sClip Try.underlying22 Try.underlying23 Try.underlying24
                                    Try.underlying44 Try.underlying80 Try.underlying74 cells_Range cells_Ticket cells_Clip (by rw [bytes_Range]; decide) (by rw [bytes_Ticket]; decide) (by rw [bytes_Clip]; decide) rfl rfl rfl
                                    (fields2 ⟨rfl, rfl⟩ ⟨rfl, rfl⟩) (fields2 ⟨rfl, rfl⟩ ⟨rfl, rfl⟩) (fields3 ⟨rfl, rfl⟩ ⟨rfl, rfl⟩ ⟨rfl, rfl⟩) (hval 0 26 v0 rfl rfl) h0 hw0
                                  obtain ⟨A, c, l, rfl, HL, hz⟩ := open_intlist Try.underlying47 Try.underlying3 cells_int bytes_int (hval 1 47 v1 rfl rfl) h1 hw1
                                  clear hA0 hval0
                                  refine (lawmemory_calls v0 h A c l W HH HL hz).mono fun e W' ⟨he, x, hx⟩ => ?_
                                  subst he
                                  have bel : Below W.heap.size W W' := by rw [hx]; exact below_later W x
                                  exact ⟨_, rfl, _, _, _, [], _, [], hW', trodAll_mk1 (shut_bool Try.underlying4 _), (trodAll_cons_mk (Below.trod row_laid (by kernel_rfl) (of_decide_eq_true (by kernel_rfl)) k0 bel lt0) (trodAll_cons_mk (Below.trod row_laid (by kernel_rfl) (of_decide_eq_true (by kernel_rfl)) k1 bel lt1) trodAll_mk0)), rfl, bel.frame _, fun h => by cases h⟩
end Go.Proofs.Ytcngnfnljkkjgaa
