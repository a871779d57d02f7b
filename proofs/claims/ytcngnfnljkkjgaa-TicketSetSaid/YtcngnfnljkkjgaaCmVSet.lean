/-
TicketSet: the walk, as a row asks for it.
-/
import Derived.Test.YtcngnfnljkkjgaaCmQSet
import Derived.Test.YtcngnfnljkkjgaaCmP
namespace Go.Proofs.Ytcngnfnljkkjgaa
open Go.RowKit Go.ChangeShapes Go.WideShapes Go.ChangeAt

theorem row_own : ownKnob Try.prog.godebug = none := by kernel_rfl
theorem row_laid : laidOutB Try.prog = true := by kernel_rfl

set_option maxRecDepth 100000 in
theorem ticketSet_lifted (os : Os) (started : os.Started) (H : Type) (enc : TypeId × Value → H) :
                                    ReturnsInHanded {} Try.checked os 11 .any (Rows.ticketSetSpec.pre6 enc Try.prog Try.f11 Rows.ticketSetRow.domain false) (Rows.ticketSetSpec.post enc Try.prog Try.f11 false true false false) := by
                                  refine returnsInHanded_of_change_sized (C := Try.checked) row_own started (by kernel_rfl) Try.func11
                                    (ChangeSpec.witness6 (enc := enc) (C := Try.checked) false ⟨#[], #[.agg #[.int .i64 0, .int .i64 0, .slice none 0 0, .slice none 0 0, .slice none 0 0], .int .u8 0, .int .u8 0], []⟩ 8 (by kernel_rfl) (by kernel_rfl) (by kernel_rfl) (by kernel_rfl)) ?_
                                  intro W base args ds gs before hval0 hW hcnd hsz _
                                  have hval : ∀ (j : Nat) t v, Try.f11.params[j]? = some t → args[j]? = some v → Value.okWide Try.prog W .any base t v := hval0
                                  have hW' := hW
                                  obtain ⟨p, q, hA0, hV, rfl, hfz, hnd⟩ := hW
                                  have hA : DataW.TrodAll enc Try.prog W 0 (fun _ => true) true Try.f11.params.toList args.toList ds p := hA0
                                  rw [Try.params11] at hA hval
                                  obtain ⟨v0, vs0, d0, ds0, p0, q0, hargs, rfl, rfl, h0, r0⟩ := trodAll_cons hA
                                  obtain ⟨v1, vs1, d1, ds1, p1, q1, rfl, rfl, rfl, h1, r1⟩ := trodAll_cons r0
                                  obtain ⟨v2, vs2, d2, ds2, p2, q2, rfl, rfl, rfl, h2, r2⟩ := trodAll_cons r1
                                  obtain ⟨rfl, rfl, rfl⟩ := trodAll_nil r2
                                  obtain rfl : args = #[v0, v1, v2] := by cases args; simp_all
                                  obtain ⟨rfl, rfl⟩ := trodVars_none hV
                                  have k0 := h0
                                  have lt0 : ∀ x ∈ p0, x.block < W.heap.size := by obtain ⟨m, hm⟩ := k0; exact DataW.trod_lt m _ _ _ hm
                                  have hw0 : ∀ n ∈ d0.weights Try.prog 26, n ≤ reachBytes := fun n hn => by
                                    have := List.all_eq_true.1 hsz n (DataW.weights_mem_each (j := 0) rfl rfl n hn)
                                    simpa using this
                                  obtain ⟨h, HH⟩ := open_house5 Try.underlying26 rfl cells_house ⟨rfl, rfl⟩ ⟨rfl, rfl⟩ ⟨rfl, rfl⟩ ⟨rfl, rfl⟩ ⟨rfl, rfl⟩ cells_sRange cells_sTicket cells_sClip Try.underlying22 Try.underlying23 Try.underlying24
                                    Try.underlying44 Try.underlying80 Try.underlying74 cells_Range cells_Ticket cells_Clip (by rw [bytes_Range]; decide) (by rw [bytes_Ticket]; decide) (by rw [bytes_Clip]; decide) rfl rfl rfl
                                    (fields2 ⟨rfl, rfl⟩ ⟨rfl, rfl⟩) (fields2 ⟨rfl, rfl⟩ ⟨rfl, rfl⟩) (fields3 ⟨rfl, rfl⟩ ⟨rfl, rfl⟩ ⟨rfl, rfl⟩) (hval 0 26 v0 rfl rfl) h0 hw0
                                  obtain ⟨a1, rfl, rfl, rfl, w1⟩ := open_int Try.underlying5 (hval 1 5 v1 rfl rfl) h1
                                  obtain ⟨a2, rfl, rfl, rfl, w2⟩ := open_int Try.underlying5 (hval 2 5 v2 rfl rfl) h2
                                  clear hA0 hval0
                                  refine (lawset_calls v0 h a1 a2 W HH (bounds_u8 w1) (bounds_u8 w2)).mono fun e W' ⟨he, x, hx⟩ => ?_
                                  subst he
                                  have bel : Below W.heap.size W W' := by rw [hx]; exact below_later W x
                                  exact ⟨_, rfl, _, _, _, [], _, [], hW', trodAll_mk1 (shut_bool Try.underlying4 _), (trodAll_cons_mk (Below.trod row_laid (by kernel_rfl) (of_decide_eq_true (by kernel_rfl)) k0 bel lt0) (trodAll_cons_mk (shut_int Try.underlying5 w1) (trodAll_cons_mk (shut_int Try.underlying5 w2) trodAll_mk0))), rfl, bel.frame _, fun h => by cases h⟩
end Go.Proofs.Ytcngnfnljkkjgaa
