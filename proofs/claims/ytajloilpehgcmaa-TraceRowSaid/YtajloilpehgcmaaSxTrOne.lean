/- ONE BEHIND THE OTHER: for every input TraceRow returns true, and each argument reads afterwards as it read before. Conditions: none. -/
import Derived.Test.YtajloilpehgcmaaSxTrRow
import Derived.Test.YtajloilpehgcmaaSxTr8
set_option linter.unusedVariables false
set_option linter.unusedSimpArgs false
set_option linter.unusedSectionVars false

namespace Go.Sx
open Go.ChangeShapes Go.WideShapes Go.RowKit Go.Proofs

theorem bools_of : ∀ {es : List VV}, (∀ x ∈ es, TV Try.prog 1 4 x) → ∃ h : List Bool, es = h.map boolV
  | [], _ => ⟨[], rfl⟩
  | x :: es, h => by
    obtain ⟨vs, h1, _, rfl⟩ := h x List.mem_cons_self
    obtain ⟨b, rfl⟩ := cell_bool Try.underlying4 h1
    obtain ⟨l, rfl⟩ := bools_of (es := es) fun y hy => h y (List.mem_cons_of_mem _ hy)
    have ha : isAggT Try.prog 4 = false := by unfold isAggT; rw [Try.underlying4]
    exact ⟨b :: l, by rw [ha]; rfl⟩
theorem nums_of : ∀ {es : List VV}, (∀ x ∈ es, TV Try.prog 1 3 x) → ∃ h : List Int, es = h.map numV
  | [], _ => ⟨[], rfl⟩
  | x :: es, h => by
    obtain ⟨vs, h1, _, rfl⟩ := h x List.mem_cons_self
    obtain ⟨b, rfl, _⟩ := cell_int Try.underlying3 h1
    obtain ⟨l, rfl⟩ := nums_of (es := es) fun y hy => h y (List.mem_cons_of_mem _ hy)
    have ha : isAggT Try.prog 3 = false := by unfold isAggT; rw [Try.underlying3]
    exact ⟨b :: l, by rw [ha]; rfl⟩
theorem isl_any {M : Mem} {ρ : Rho} {i j c : Nat} {a x : Bool} {l : Int} {es : List VV} {v : Value} (h : Rep M ρ (.isl i c a l es x) v) : Rep M ρ (.isl j c a l es x) v := by
  cases h with
  | islNil _ _ _ _ _ hn => exact .islNil _ _ _ _ _ hn
  | isl _ _ _ _ _ _ b o c vs hn hc h0 hsz hm hh => exact .isl _ _ _ _ _ _ b o c vs hn hc h0 hsz hm hh
theorem cells3 : Try.prog.cellsOf 3 = 1 := by kernel_rfl
theorem cells4 : Try.prog.cellsOf 4 = 1 := by kernel_rfl
section
variable {H : Type} {enc : TypeId × Value → H} {w : World} {base : Nat} {spare : Nat → Bool} {held : Bool}
theorem open_bools {r : Reach} {b0 : Nat} {v : Value} {d : DataW H} {ps : List MemPlace} (hval : Value.okWide Try.prog w r b0 22 v) (hd : DataW.Trod enc Try.prog w base spare held 22 v d ps) :
    ∃ h : List Bool, Rep (memW w) noRho (.isl 0 1 true (h.length : Int) (h.map boolV) false) v := by
  obtain ⟨u, ⟨es, rfl, hl, he⟩, hr⟩ := open_slice (n := 1) (ρ := noRho) Try.underlying22 (by kernel_rfl) (by rw [cells4]; decide) hval hd
  obtain ⟨h, rfl⟩ := bools_of he
  rw [cells4] at hr
  exact ⟨h, by simpa using hr⟩
theorem open_nums {r : Reach} {b0 : Nat} {v : Value} {d : DataW H} {ps : List MemPlace} (hval : Value.okWide Try.prog w r b0 23 v) (hd : DataW.Trod enc Try.prog w base spare held 23 v d ps) :
    ∃ h : List Int, Rep (memW w) noRho (.isl 0 1 true (h.length : Int) (h.map numV) false) v := by
  obtain ⟨u, ⟨es, rfl, hl, he⟩, hr⟩ := open_slice (n := 1) (ρ := noRho) Try.underlying23 (by kernel_rfl) (by rw [cells3]; decide) hval hd
  obtain ⟨h, rfl⟩ := nums_of he
  rw [cells3] at hr
  exact ⟨h, by simpa using hr⟩
end
end Go.Sx
namespace Go.Proofs.Ytajloilpehgcmaa
open Go.ChangeShapes Go.WideShapes Go.RowKit Go.Sx

theorem row_lifted (os : Os) (started : os.Started) (H : Type) (enc : TypeId × Value → H) :
    ReturnsInHanded {} Try.checked os 3 .any (Rows.traceRowSpec.pre6 enc Try.prog Try.f3 Rows.traceRowRow.domain false) (Rows.traceRowSpec.post enc Try.prog Try.f3 false true false false) := by
  refine returnsInHanded_of_change (C := Try.checked) try_own started (by kernel_rfl) Try.func3
    (ChangeSpec.witness6 (enc := enc) (C := Try.checked) false ⟨#[], #[.slice none 0 0, .slice none 0 0], []⟩ 8 (by kernel_rfl) (by kernel_rfl) (by kernel_rfl) (by kernel_rfl)) ?_
  intro W base args ds gs before hval0 hW _ _
  have hval : ∀ (j : Nat) t v, Try.f3.params[j]? = some t → args[j]? = some v → Value.okWide Try.prog W .any base t v := hval0
  obtain ⟨p, q, hA0, _⟩ := id hW
  have hA : DataW.TrodAll enc Try.prog W 0 (fun _ => true) true Try.f3.params.toList args.toList ds p := hA0
  rw [Try.params3] at hA hval
  obtain ⟨v0, vs0, d0, ds0, p0, q0, e0, rfl, rfl, h0, r0⟩ := trodAll_cons hA
  obtain ⟨v1, vs1, d1, ds1, p1, q1, rfl, rfl, rfl, h1, r1⟩ := trodAll_cons r0
  obtain ⟨rfl, rfl, rfl⟩ := trodAll_nil r1
  obtain rfl : args = #[v0, v1] := by cases args; simp_all
  obtain ⟨a, g0⟩ := open_bools (hval 0 22 v0 rfl rfl) h0
  obtain ⟨b, g1⟩ := open_nums (hval 1 23 v1 rfl rfl) h1
  refine law_row (tb := 4) Row_rel try_laid (fun t ht => by rw [Try.params3] at ht; simp only [List.mem_cons, List.not_mem_nil, or_false] at ht; rcases ht with rfl | rfl <;> exact ⟨by kernel_rfl, of_decide_eq_true (by kernel_rfl)⟩) rfl Try.underlying4 rfl ?_ hW (us := [.isl 0 1 true (a.length : Int) (a.map boolV) false, .isl 1 1 true (b.length : Int) (b.map numV) false])
    (.cons g0 (.cons (isl_any g1) .nil)) ⟨a, b, rfl, rfl⟩
  intro ds hds
  match ds, hds with
  | [a, b], _ => exact ⟨rfl, rfl, rfl⟩
theorem row_holds : Rows.TraceRowSaid :=
  OpenClaim.holds_of_wide 3 Try.f3 rfl rfl rfl rfl rfl rfl rfl ⟨rfl, rfl, rfl, rfl, rfl⟩ rfl rfl rfl rfl rfl (by kernel_rfl) Try.func3 (by kernel_rfl)
    (of_decide_eq_true (by kernel_rfl)) (by unfold Func.isWrapper; first | (rw [if_pos (by decide +kernel)]; kernel_rfl) | (rw [if_neg (by decide +kernel)]; exact ⟨rfl, rfl⟩))
    (fun os started H enc _ => row_lifted os started H enc)
#print axioms row_holds
end Go.Proofs.Ytajloilpehgcmaa
