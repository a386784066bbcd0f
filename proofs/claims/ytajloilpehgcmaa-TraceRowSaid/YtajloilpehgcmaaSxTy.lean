/- The small seat's program under the executor. Conditions: none. -/
import Derived.Test.YtajloilpehgcmaaSxRel
import Derived.Test.YtajloilpehgcmaaSxNum
import Derived.Test.YtajloilpehgcmaaSxTr0
import Derived.KernelRfl
import Derived.Test.YtajloilpehgcmaaProg
set_option linter.unusedVariables false
set_option linter.unusedSimpArgs false
set_option linter.unusedSectionVars false

namespace Go.Sx
open Go.Proofs

theorem try_names : (Try.prog.funcs.all fun fn => fn.name != "runtime.NumGoroutine") = true := by kernel_rfl
theorem tryOk : ProgOk Try.prog where
  mixed := by kernel_rfl
  noNum f fn h := by
    have := try_names
    rw [Array.all_eq_true] at this
    obtain ⟨hf, he⟩ := Array.getElem?_eq_some_iff.1 h
    have := this f hf
    rw [he] at this
    simpa using this
noncomputable abbrev cx0 : Cx Int Bool := cxR Try.prog [] []
theorem cx0_ok : CxOk cx0 := cxR_ok tryOk (fun _ h => by cases h) (fun _ h => by cases h)
/-- An act as the program has it. -/
def actV (x : Ac) : VV := .agg [.bool true x.w, .int .i64 true x.v, .int .i64 true x.f, .int .i64 true x.t]
end Go.Sx
