/- WHO TAKES LONGER CAN HAVE DONE WHATEVER IT COULD: for every input TraceWide returns true, and each argument reads afterwards as it read before. Conditions: none. -/
import Derived.Test.YtajloilpehgcmaaSxTrRow
set_option linter.unusedVariables false
set_option linter.unusedSimpArgs false
set_option linter.unusedSectionVars false

namespace Go.Proofs.Ytajloilpehgcmaa
open Go.ChangeShapes Go.WideShapes Go.RowKit Go.Sx

theorem wide_lifted (os : Os) (started : os.Started) (H : Type) (enc : TypeId × Value → H) :
    ReturnsInHanded {} Try.checked os 4 .any (Rows.traceWideSpec.pre6 enc Try.prog Try.f4 Rows.traceWideRow.domain false) (Rows.traceWideSpec.post enc Try.prog Try.f4 false true false false) := by
  refine returnsInHanded_of_change (C := Try.checked) try_own started (by kernel_rfl) Try.func4
    (ChangeSpec.witness6 (enc := enc) (C := Try.checked) false ⟨#[], #[.slice none 0 0, .int .i64 0, .int .i64 0, .int .i64 0], []⟩ 8 (by kernel_rfl) (by kernel_rfl) (by kernel_rfl) (by kernel_rfl)) ?_
  intro W base args ds gs before hval0 hW _ _
  have hval : ∀ (j : Nat) t v, Try.f4.params[j]? = some t → args[j]? = some v → Value.okWide Try.prog W .any base t v := hval0
  obtain ⟨p, q, hA0, _⟩ := id hW
  have hA : DataW.TrodAll enc Try.prog W 0 (fun _ => true) true Try.f4.params.toList args.toList ds p := hA0
  rw [Try.params4] at hA hval
  obtain ⟨v0, vs0, d0, ds0, p0, q0, e0, rfl, rfl, h0, r0⟩ := trodAll_cons hA
  obtain ⟨v1, vs1, d1, ds1, p1, q1, rfl, rfl, rfl, h1, r1⟩ := trodAll_cons r0
  obtain ⟨v2, vs2, d2, ds2, p2, q2, rfl, rfl, rfl, h2, r2⟩ := trodAll_cons r1
  obtain ⟨v3, vs3, d3, ds3, p3, q3, rfl, rfl, rfl, h3, r3⟩ := trodAll_cons r2
  obtain ⟨rfl, rfl, rfl⟩ := trodAll_nil r3
  obtain rfl : args = #[v0, v1, v2, v3] := by cases args; simp_all
  obtain ⟨h, hl, g0⟩ := open_acts (hval 0 25 v0 rfl rfl) h0
  obtain ⟨k, _, g1⟩ := open_num (hval 1 3 v1 rfl rfl) h1
  obtain ⟨less, b2, g2⟩ := open_num (hval 2 3 v2 rfl rfl) h2
  obtain ⟨more, b3, g3⟩ := open_num (hval 3 3 v3 rfl rfl) h3
  have hm : maxLen < 9223372036854775808 := by decide
  refine law_row (tb := 4) Wide_rel try_laid (fun t ht => by rw [Try.params4] at ht; simp only [List.mem_cons, List.not_mem_nil, or_false] at ht; rcases ht with rfl | rfl | rfl | rfl <;> exact ⟨by kernel_rfl, of_decide_eq_true (by kernel_rfl)⟩) rfl Try.underlying4 rfl ?_ hW (us := [.isl 0 4 true (h.length : Int) (h.map actV) false, .int .i64 true k, .int .i64 true less, .int .i64 true more])
    (.cons g0 (.cons (g1 _ _) (.cons (g2 _ _) (.cons (g3 _ _) .nil)))) ⟨h, k, less, more, rfl, by omega, b2, b3, rfl⟩
  intro ds hds
  match ds, hds with
  | [a, b, c, d], _ => exact ⟨rfl, rfl, rfl⟩
theorem wide_holds : Rows.TraceWideSaid :=
  OpenClaim.holds_of_wide 4 Try.f4 rfl rfl rfl rfl rfl rfl rfl ⟨rfl, rfl, rfl, rfl, rfl⟩ rfl rfl rfl rfl rfl (by kernel_rfl) Try.func4 (by kernel_rfl)
    (of_decide_eq_true (by kernel_rfl)) (by unfold Func.isWrapper; first | (rw [if_pos (by decide +kernel)]; kernel_rfl) | (rw [if_neg (by decide +kernel)]; exact ⟨rfl, rfl⟩))
    (fun os started H enc _ => wide_lifted os started H enc)
#print axioms wide_holds
end Go.Proofs.Ytajloilpehgcmaa
