/- Who takes longer can have done whatever it could: the walk. Conditions: none. -/
import Derived.Test.YtajloilpehgcmaaSxTr5
import Derived.Test.YtajloilpehgcmaaSxNum2
set_option linter.unusedVariables false
set_option linter.unusedSimpArgs false
set_option linter.unusedSectionVars false

namespace Go.Sx
open Go.Proofs Go.Proofs.Try

/-- awake is true. -/
def AwR (args : List VV) (u : VV) : Prop := args = [] ∧ u = .bool true true
theorem Awake_rel : RelOk Try.prog 6 AwR := by
  refine relOk_cx (cx := cx0) cx0_ok fun args u hr => ?_
  obtain ⟨rfl, rfl⟩ := hr
  obtain ⟨H, h1⟩ : ∃ H, outR ((ev cx0 200).call [] 6 [] emptyH []) = some (.bool false true, H, []) := ⟨_, (by kernel_rfl : outR ((ev cx0 200).call [] 6 [] emptyH []) = some (.bool false true, { es := [([0, 0, 5, 12, 2, 1, 6, 2, 13, 4], .row [.bool false false, .int .i64 false 5, .int .i64 false 3, .int .i64 false 6] false 0), ([0, 0, 5, 8, 2, 1, 6, 2, 13, 4], .row [.bool false false, .int .i64 false 0, .int .i64 false 2, .int .i64 false 3] false 0), ([0, 0, 5, 4, 2, 1, 6, 2, 13, 4], .row [.bool false true, .int .i64 false 5, .int .i64 false 1, .int .i64 false 4] false 0), ([4, 38, 9, 4], .row [.bool false false, .int .i64 false 5, .int .i64 false 3, .int .i64 false 6] false 0), ([4, 29, 9, 4], .row [.bool false true, .int .i64 false 5, .int .i64 false 1, .int .i64 false 4] false 0), ([4, 21, 9, 4], .row [.bool false false, .int .i64 false 0, .int .i64 false 2, .int .i64 false 3] false 0), ([0, 0, 5, 12, 2, 1, 6, 2, 1, 16, 9, 4], .row [.bool false false, .int .i64 false 5, .int .i64 false 3, .int .i64 false 6] false 0), ([0, 0, 5, 8, 2, 1, 6, 2, 1, 16, 9, 4], .row [.bool false false, .int .i64 false 0, .int .i64 false 2, .int .i64 false 3] false 0), ([0, 0, 5, 4, 2, 1, 6, 2, 1, 16, 9, 4], .row [.bool false true, .int .i64 false 5, .int .i64 false 1, .int .i64 false 4] false 0), ([3, 0, 1, 2, 11, 2, 2, 1, 1, 1, 1, 2, 1, 9, 4], .row [.int .i64 false 0, .int .i64 false 1, .int .i64 false 2] false 0), ([2, 0, 1, 2, 11, 2, 2, 1, 1, 1, 1, 2, 1, 9, 4], .row [.int .i64 false 2] false 0), ([3, 0, 1, 2, 7, 2, 2, 1, 1, 1, 1, 2, 1, 9, 4], .dead), ([2, 0, 1, 2, 7, 2, 2, 1, 1, 1, 1, 2, 1, 9, 4], .row [.int .i64 false 0] false 0), ([3, 0, 1, 2, 3, 2, 2, 1, 1, 1, 1, 2, 1, 9, 4], .dead), ([2, 0, 1, 2, 3, 2, 2, 1, 1, 1, 1, 2, 1, 9, 4], .row [.int .i64 false 1] false 0), ([0, 2, 1, 1, 1, 1, 2, 1, 9, 4], .dead), ([1, 2, 1, 1, 1, 1, 2, 1, 9, 4], .dead), ([0, 0, 1, 1, 1, 1, 2, 1, 9, 4], .row [.osl [3, 0, 1, 2, 11, 2, 2, 1, 1, 1, 1, 2, 1, 9, 4] 0 1 false 3] false 0), ([0, 0, 1, 1, 9, 4], .row [.osl [3, 20, 2, 12, 2, 24, 1, 6, 1, 2] 0 1 false 3] false 0), ([3, 4], .row [.int .i64 false 1, .int .i64 false 0, .int .i64 false 2] false 0), ([3, 4, 1, 6, 2, 3], .row [.bool false false, .int .i64 false 5, .int .i64 false 1, .int .i64 false 2] false 0), ([0, 4, 2, 3], .row [.fn 11 [] [.ptr [0, 2, 2, 3] false 0, .ptr [0, 0, 2, 3] false 0, .ptr [3, 3, 2, 3] false 0, .ptr [0, 4, 2, 3] false 0]] false 0), ([3, 3, 2, 3], .row [.osl [2, 3, 2, 3] 0 1 false 1] false 0), ([2, 3, 2, 3], .row [.bool false false] false 0), ([0, 2, 2, 3], .row [.isl 0 0 false 0 [] true] false 0), ([0, 0, 5, 4, 2, 1, 6, 2, 1, 1, 2, 3], .row [.bool false false, .int .i64 false 5, .int .i64 false 1, .int .i64 false 2] false 0), ([0, 0, 2, 3], .row [.osl [1, 3] 0 4 false 1] false 0), ([1, 3], .row [.bool false false, .int .i64 false 5, .int .i64 false 1, .int .i64 false 2] false 0), ([3, 20, 2, 12, 2, 24, 1, 6, 1, 2], .row [.int .i64 false 1, .int .i64 false 0, .int .i64 false 2] false 0), ([2, 20, 2, 12, 2, 24, 1, 6, 1, 2], .row [.int .i64 false 2] false 0), ([0, 0, 5, 4, 2, 1, 20, 16, 2, 12, 2, 24, 1, 6, 1, 2], .row [.bool false false, .int .i64 false 5, .int .i64 false 3, .int .i64 false 6] false 0), ([3, 14, 18, 16, 2, 12, 2, 24, 1, 6, 1, 2], .row [.bool false false, .int .i64 false 5, .int .i64 false 3, .int .i64 false 6] false 0), ([2, 14, 18, 16, 2, 12, 2, 24, 1, 6, 1, 2], .row [.bool false false, .int .i64 false 5, .int .i64 false 3, .int .i64 false 6] false 0), ([3, 12, 18, 16, 2, 12, 2, 24, 1, 6, 1, 2], .row [.bool false false, .int .i64 false 5, .int .i64 false 3, .int .i64 false 6] false 0), ([3, 8, 18, 16, 2, 12, 2, 24, 1, 6, 1, 2], .row [.bool false false, .int .i64 false 0, .int .i64 false 2, .int .i64 false 3] false 0), ([3, 4, 18, 16, 2, 12, 2, 24, 1, 6, 1, 2], .row [.bool false true, .int .i64 false 5, .int .i64 false 1, .int .i64 false 4] false 0), ([3, 14, 2, 12, 2, 24, 1, 6, 1, 2], .row [.bool false false, .int .i64 false 5, .int .i64 false 3, .int .i64 false 6] false 0), ([3, 9, 2, 12, 2, 24, 1, 6, 1, 2], .row [.bool false false, .int .i64 false 0, .int .i64 false 2, .int .i64 false 3] false 0), ([3, 4, 2, 12, 2, 24, 1, 6, 1, 2], .row [.bool false true, .int .i64 false 5, .int .i64 false 1, .int .i64 false 4] false 0), ([3, 11, 2, 24, 1, 6, 1, 2], .dead), ([2, 11, 2, 24, 1, 6, 1, 2], .row [.int .i64 false 0] false 0), ([0, 0, 5, 8, 2, 1, 20, 6, 2, 24, 1, 6, 1, 2], .row [.bool false false, .int .i64 false 5, .int .i64 false 3, .int .i64 false 6] false 0), ([0, 0, 5, 4, 2, 1, 20, 6, 2, 24, 1, 6, 1, 2], .row [.bool false true, .int .i64 false 5, .int .i64 false 1, .int .i64 false 4] false 0), ([3, 15, 18, 6, 2, 24, 1, 6, 1, 2], .row [.bool false true, .int .i64 false 5, .int .i64 false 1, .int .i64 false 4, .bool false false, .int .i64 false 5, .int .i64 false 3, .int .i64 false 6] false 0), ([2, 15, 18, 6, 2, 24, 1, 6, 1, 2], .row [.bool false false, .int .i64 false 5, .int .i64 false 3, .int .i64 false 6] false 0), ([3, 13, 18, 6, 2, 24, 1, 6, 1, 2], .row [.bool false false, .int .i64 false 5, .int .i64 false 3, .int .i64 false 6] false 0), ([3, 9, 18, 6, 2, 24, 1, 6, 1, 2], .row [.bool false false, .int .i64 false 0, .int .i64 false 2, .int .i64 false 3] false 0), ([3, 6, 18, 6, 2, 24, 1, 6, 1, 2], .dead), ([2, 6, 18, 6, 2, 24, 1, 6, 1, 2], .row [.bool false true, .int .i64 false 5, .int .i64 false 1, .int .i64 false 4] false 0), ([3, 4, 18, 6, 2, 24, 1, 6, 1, 2], .row [.bool false true, .int .i64 false 5, .int .i64 false 1, .int .i64 false 4] false 0), ([3, 4, 2, 24, 1, 6, 1, 2], .row [.bool false true, .int .i64 false 5, .int .i64 false 1, .int .i64 false 4] false 0), ([3, 23, 1, 6, 1, 2], .dead), ([2, 23, 1, 6, 1, 2], .row [.int .i64 false 1] false 0), ([0, 0, 5, 12, 2, 1, 20, 19, 1, 6, 1, 2], .row [.bool false false, .int .i64 false 5, .int .i64 false 3, .int .i64 false 6] false 0), ([0, 0, 5, 8, 2, 1, 20, 19, 1, 6, 1, 2], .row [.bool false false, .int .i64 false 0, .int .i64 false 2, .int .i64 false 3] false 0), ([0, 0, 5, 4, 2, 1, 20, 19, 1, 6, 1, 2], .row [.bool false true, .int .i64 false 5, .int .i64 false 1, .int .i64 false 4] false 0), ([3, 16, 18, 19, 1, 6, 1, 2], .row [.bool false true, .int .i64 false 5, .int .i64 false 1, .int .i64 false 4, .bool false false, .int .i64 false 0, .int .i64 false 2, .int .i64 false 3, .bool false false, .int .i64 false 5, .int .i64 false 3, .int .i64 false 6] false 0), ([2, 16, 18, 19, 1, 6, 1, 2], .row [.bool false false, .int .i64 false 5, .int .i64 false 3, .int .i64 false 6] false 0), ([3, 14, 18, 19, 1, 6, 1, 2], .row [.bool false false, .int .i64 false 5, .int .i64 false 3, .int .i64 false 6] false 0), ([3, 11, 18, 19, 1, 6, 1, 2], .dead), ([2, 11, 18, 19, 1, 6, 1, 2], .row [.bool false false, .int .i64 false 0, .int .i64 false 2, .int .i64 false 3] false 0), ([3, 9, 18, 19, 1, 6, 1, 2], .row [.bool false false, .int .i64 false 0, .int .i64 false 2, .int .i64 false 3] false 0), ([3, 6, 18, 19, 1, 6, 1, 2], .dead), ([2, 6, 18, 19, 1, 6, 1, 2], .row [.bool false true, .int .i64 false 5, .int .i64 false 1, .int .i64 false 4] false 0), ([3, 4, 18, 19, 1, 6, 1, 2], .row [.bool false true, .int .i64 false 5, .int .i64 false 1, .int .i64 false 4] false 0), ([3, 17, 1, 6, 1, 2], .row [.bool false false, .int .i64 false 0, .int .i64 false 2, .int .i64 false 3] false 0), ([3, 14, 2, 21, 2, 12, 1, 6, 1, 2], .row [.bool false false, .int .i64 false 5, .int .i64 false 3, .int .i64 false 6] false 0), ([3, 9, 2, 21, 2, 12, 1, 6, 1, 2], .row [.bool false false, .int .i64 false 0, .int .i64 false 2, .int .i64 false 3] false 0), ([3, 4, 2, 21, 2, 12, 1, 6, 1, 2], .row [.bool false true, .int .i64 false 5, .int .i64 false 1, .int .i64 false 4] false 0), ([3, 20, 2, 12, 1, 6, 1, 2], .dead), ([2, 20, 2, 12, 1, 6, 1, 2], .row [.int .i64 false 2] false 0), ([0, 0, 5, 8, 2, 1, 20, 16, 2, 12, 1, 6, 1, 2], .row [.bool false false, .int .i64 false 5, .int .i64 false 3, .int .i64 false 6] false 0), ([0, 0, 5, 4, 2, 1, 20, 16, 2, 12, 1, 6, 1, 2], .row [.bool false false, .int .i64 false 0, .int .i64 false 2, .int .i64 false 3] false 0), ([3, 15, 18, 16, 2, 12, 1, 6, 1, 2], .row [.bool false false, .int .i64 false 0, .int .i64 false 2, .int .i64 false 3, .bool false false, .int .i64 false 5, .int .i64 false 3, .int .i64 false 6] false 0), ([2, 15, 18, 16, 2, 12, 1, 6, 1, 2], .row [.bool false false, .int .i64 false 5, .int .i64 false 3, .int .i64 false 6] false 0), ([3, 13, 18, 16, 2, 12, 1, 6, 1, 2], .row [.bool false false, .int .i64 false 5, .int .i64 false 3, .int .i64 false 6] false 0), ([3, 10, 18, 16, 2, 12, 1, 6, 1, 2], .dead), ([2, 10, 18, 16, 2, 12, 1, 6, 1, 2], .row [.bool false false, .int .i64 false 0, .int .i64 false 2, .int .i64 false 3] false 0), ([3, 8, 18, 16, 2, 12, 1, 6, 1, 2], .row [.bool false false, .int .i64 false 0, .int .i64 false 2, .int .i64 false 3] false 0), ([3, 4, 18, 16, 2, 12, 1, 6, 1, 2], .row [.bool false true, .int .i64 false 5, .int .i64 false 1, .int .i64 false 4] false 0), ([3, 14, 2, 12, 1, 6, 1, 2], .row [.bool false false, .int .i64 false 5, .int .i64 false 3, .int .i64 false 6] false 0), ([3, 9, 2, 12, 1, 6, 1, 2], .row [.bool false false, .int .i64 false 0, .int .i64 false 2, .int .i64 false 3] false 0), ([3, 4, 2, 12, 1, 6, 1, 2], .row [.bool false true, .int .i64 false 5, .int .i64 false 1, .int .i64 false 4] false 0), ([3, 11, 1, 6, 1, 2], .dead), ([2, 11, 1, 6, 1, 2], .row [.int .i64 false 0] false 0), ([0, 0, 5, 12, 2, 1, 20, 6, 1, 6, 1, 2], .row [.bool false false, .int .i64 false 5, .int .i64 false 3, .int .i64 false 6] false 0), ([0, 0, 5, 8, 2, 1, 20, 6, 1, 6, 1, 2], .row [.bool false false, .int .i64 false 0, .int .i64 false 2, .int .i64 false 3] false 0), ([0, 0, 5, 4, 2, 1, 20, 6, 1, 6, 1, 2], .row [.bool false true, .int .i64 false 5, .int .i64 false 1, .int .i64 false 4] false 0), ([3, 16, 18, 6, 1, 6, 1, 2], .row [.bool false true, .int .i64 false 5, .int .i64 false 1, .int .i64 false 4, .bool false false, .int .i64 false 0, .int .i64 false 2, .int .i64 false 3, .bool false false, .int .i64 false 5, .int .i64 false 3, .int .i64 false 6] false 0), ([2, 16, 18, 6, 1, 6, 1, 2], .row [.bool false false, .int .i64 false 5, .int .i64 false 3, .int .i64 false 6] false 0), ([3, 14, 18, 6, 1, 6, 1, 2], .row [.bool false false, .int .i64 false 5, .int .i64 false 3, .int .i64 false 6] false 0), ([3, 11, 18, 6, 1, 6, 1, 2], .dead), ([2, 11, 18, 6, 1, 6, 1, 2], .row [.bool false false, .int .i64 false 0, .int .i64 false 2, .int .i64 false 3] false 0), ([3, 9, 18, 6, 1, 6, 1, 2], .row [.bool false false, .int .i64 false 0, .int .i64 false 2, .int .i64 false 3] false 0), ([3, 6, 18, 6, 1, 6, 1, 2], .dead), ([2, 6, 18, 6, 1, 6, 1, 2], .row [.bool false true, .int .i64 false 5, .int .i64 false 1, .int .i64 false 4] false 0), ([3, 4, 18, 6, 1, 6, 1, 2], .row [.bool false true, .int .i64 false 5, .int .i64 false 1, .int .i64 false 4] false 0), ([3, 4, 1, 6, 1, 2], .row [.bool false true, .int .i64 false 5, .int .i64 false 1, .int .i64 false 4] false 0), ([0, 4, 1, 2], .row [.fn 11 [] [.ptr [0, 2, 1, 2] false 0, .ptr [0, 0, 1, 2] false 0, .ptr [3, 3, 1, 2] false 0, .ptr [0, 4, 1, 2] false 0]] false 0), ([3, 3, 1, 2], .row [.osl [2, 3, 1, 2] 0 1 false 3] false 0), ([2, 3, 1, 2], .row [.bool false true, .bool false true, .bool false true] false 0), ([0, 2, 1, 2], .row [.osl [3, 20, 2, 12, 2, 24, 1, 6, 1, 2] 0 1 false 3] false 0), ([0, 0, 5, 12, 2, 1, 6, 2, 1, 1, 1, 2], .row [.bool false false, .int .i64 false 5, .int .i64 false 3, .int .i64 false 6] false 0), ([0, 0, 5, 8, 2, 1, 6, 2, 1, 1, 1, 2], .row [.bool false false, .int .i64 false 0, .int .i64 false 2, .int .i64 false 3] false 0), ([0, 0, 5, 4, 2, 1, 6, 2, 1, 1, 1, 2], .row [.bool false true, .int .i64 false 5, .int .i64 false 1, .int .i64 false 4] false 0), ([0, 0, 1, 2], .row [.osl [3, 1] 0 4 false 3] false 0), ([3, 1], .row [.bool false true, .int .i64 false 5, .int .i64 false 1, .int .i64 false 4, .bool false false, .int .i64 false 0, .int .i64 false 2, .int .i64 false 3, .bool false false, .int .i64 false 5, .int .i64 false 3, .int .i64 false 6] false 0)], log := [[4, 38, 9, 4], [4, 29, 9, 4], [4, 21, 9, 4], [3, 0, 1, 2, 11, 2, 2, 1, 1, 1, 1, 2, 1, 9, 4], [3, 0, 1, 2, 11, 2, 2, 1, 1, 1, 1, 2, 1, 9, 4], [1, 2, 1, 1, 1, 1, 2, 1, 9, 4], [0, 2, 1, 1, 1, 1, 2, 1, 9, 4], [0, 2, 1, 1, 1, 1, 2, 1, 9, 4], [0, 0, 1, 1, 1, 1, 2, 1, 9, 4], [3, 0, 1, 2, 7, 2, 2, 1, 1, 1, 1, 2, 1, 9, 4], [0, 2, 1, 1, 1, 1, 2, 1, 9, 4], [0, 2, 1, 1, 1, 1, 2, 1, 9, 4], [0, 0, 1, 1, 1, 1, 2, 1, 9, 4], [3, 0, 1, 2, 3, 2, 2, 1, 1, 1, 1, 2, 1, 9, 4], [0, 2, 1, 1, 1, 1, 2, 1, 9, 4], [0, 2, 1, 1, 1, 1, 2, 1, 9, 4], [0, 0, 1, 1, 1, 1, 2, 1, 9, 4], [0, 2, 1, 1, 1, 1, 2, 1, 9, 4], [3, 4, 1, 6, 2, 3], [0, 4, 2, 3], [3, 3, 2, 3], [0, 2, 1, 2], [3, 11, 2, 24, 1, 6, 1, 2], [2, 3, 1, 2], [3, 12, 18, 16, 2, 12, 2, 24, 1, 6, 1, 2], [3, 8, 18, 16, 2, 12, 2, 24, 1, 6, 1, 2], [3, 4, 18, 16, 2, 12, 2, 24, 1, 6, 1, 2], [3, 14, 2, 12, 2, 24, 1, 6, 1, 2], [3, 9, 2, 12, 2, 24, 1, 6, 1, 2], [3, 4, 2, 12, 2, 24, 1, 6, 1, 2], [0, 2, 1, 2], [3, 23, 1, 6, 1, 2], [2, 3, 1, 2], [3, 6, 18, 6, 2, 24, 1, 6, 1, 2], [3, 13, 18, 6, 2, 24, 1, 6, 1, 2], [3, 9, 18, 6, 2, 24, 1, 6, 1, 2], [3, 4, 18, 6, 2, 24, 1, 6, 1, 2], [3, 4, 2, 24, 1, 6, 1, 2], [0, 2, 1, 2], [3, 20, 2, 12, 1, 6, 1, 2], [2, 3, 1, 2], [3, 11, 18, 19, 1, 6, 1, 2], [3, 14, 18, 19, 1, 6, 1, 2], [3, 6, 18, 19, 1, 6, 1, 2], [3, 9, 18, 19, 1, 6, 1, 2], [3, 4, 18, 19, 1, 6, 1, 2], [3, 17, 1, 6, 1, 2], [0, 2, 1, 2], [2, 3, 1, 2], [0, 2, 1, 2], [2, 3, 1, 2], [3, 14, 2, 21, 2, 12, 1, 6, 1, 2], [3, 9, 2, 21, 2, 12, 1, 6, 1, 2], [3, 4, 2, 21, 2, 12, 1, 6, 1, 2], [0, 2, 1, 2], [3, 11, 1, 6, 1, 2], [2, 3, 1, 2], [3, 10, 18, 16, 2, 12, 1, 6, 1, 2], [3, 13, 18, 16, 2, 12, 1, 6, 1, 2], [3, 8, 18, 16, 2, 12, 1, 6, 1, 2], [3, 4, 18, 16, 2, 12, 1, 6, 1, 2], [3, 14, 2, 12, 1, 6, 1, 2], [3, 9, 2, 12, 1, 6, 1, 2], [3, 4, 2, 12, 1, 6, 1, 2], [0, 2, 1, 2], [2, 3, 1, 2], [3, 11, 18, 6, 1, 6, 1, 2], [3, 14, 18, 6, 1, 6, 1, 2], [3, 6, 18, 6, 1, 6, 1, 2], [3, 9, 18, 6, 1, 6, 1, 2], [3, 4, 18, 6, 1, 6, 1, 2], [3, 4, 1, 6, 1, 2], [0, 4, 1, 2], [3, 3, 1, 2]] }, []))⟩
  exact ⟨200, _, _, has_outR h1 trivial, .bool _ _ _⟩
noncomputable abbrev cxL : Cx Int Bool := cxR Try.prog [(6, liftRel AwR), (7, liftRel OrdR)] []
theorem cxL_ok : CxOk cxL := cxR_ok tryOk (fun p hp => by
  simp only [List.mem_cons, List.not_mem_nil, or_false] at hp
  rcases hp with rfl | rfl
  · exact relRun_ok Awake_rel
  · exact relRun_ok Order_rel) (fun _ h => by cases h)
theorem cWd_0 (h h2 h3 : List Ac) (k less more : Int) (x x2 : Ac) (nw1 nw2 : List VV) : outR ((ev cxL 60).call [] 4 [.isl 0 4 true (h.length : Int) (h.map actV) false, .int .i64 true k, .int .i64 true less, .int .i64 true more] { es := [], log := [] } [.val (.bool true true), .val (.tup [.isl 0 1 true (((orderS h).getD []).length : Int) (((orderS h).getD []).map natV) false, .bool true (orderS h).isSome]), .bit true]) =
    some (.bool true true, { es := [], log := [] }, [.prop (AwR [] (.bool true true) ∧ argV (.bool true true : VV) = true), .prop (argV (V.isl 0 4 true (h.length : Int) (h.map actV) false) = true), .prop (OrdR [.isl 0 4 true (h.length : Int) (h.map actV) false] (.tup [.isl 0 1 true (((orderS h).getD []).length : Int) (((orderS h).getD []).map natV) false, .bool true (orderS h).isSome]) ∧ argV (V.tup [.isl 0 1 true (((orderS h).getD []).length : Int) (((orderS h).getD []).map natV) false, .bool true (orderS h).isSome]) = true), .bit (bi (bi (bi (bi (bi (!(orderS h).isSome) true (cmp .eql (h.length : Int) 0)) true (cmp .gtr (h.length : Int) 7)) true (cmp .lss less 0)) true (cmp .lss more 0)) true (cmp .gtr more 1000)) true]) := by kernel_rfl
theorem cWd_1 (h h2 h3 : List Ac) (k less more : Int) (x x2 : Ac) (nw1 nw2 : List VV) : outR ((ev cxL 60).call [] 4 [.isl 0 4 true (h.length : Int) (h.map actV) false, .int .i64 true k, .int .i64 true less, .int .i64 true more] { es := [], log := [] } [.val (.bool true true), .val (.tup [.isl 0 1 true (((orderS h).getD []).length : Int) (((orderS h).getD []).map natV) false, .bool true (orderS h).isSome]), .bit false, .val (.int .i64 true x.f), .row nw1, .val (.int .i64 true x.t), .row nw2, .row (h2.map actV), .val (.tup [.isl 0 1 true (((orderS h2).getD []).length : Int) (((orderS h2).getD []).map natV) false, .bool true (orderS h2).isSome]), .row (h3.map actV), .val (.tup [.isl 0 1 true (((orderS h3).getD []).length : Int) (((orderS h3).getD []).map natV) false, .bool true (orderS h3).isSome]), .val (.agg [.bool true x.w, .int .i64 true x.v, .int .i64 true x.f, .int .i64 true x.t])]) =
    some (.bool true (bi (bi true (orderS h2).isSome false) (bi (orderS h3).isSome true x.w) false), { es := [([5, 10], .dead), ([4, 9], .dead), ([0, 9], .dead), ([2, 5], .dead), ([0, 5], .dead)], log := [[5, 10], [4, 9], [0, 9], [2, 5], [2, 5], [2, 5], [0, 5]] }, [.prop (AwR [] (.bool true true) ∧ argV (.bool true true : VV) = true), .prop (argV (V.isl 0 4 true (h.length : Int) (h.map actV) false) = true), .prop (OrdR [.isl 0 4 true (h.length : Int) (h.map actV) false] (.tup [.isl 0 1 true (((orderS h).getD []).length : Int) (((orderS h).getD []).map natV) false, .bool true (orderS h).isSome]) ∧ argV (V.tup [.isl 0 1 true (((orderS h).getD []).length : Int) (((orderS h).getD []).map natV) false, .bool true (orderS h).isSome]) = true), .bit (bi (bi (bi (bi (bi (!(orderS h).isSome) true (cmp .eql (h.length : Int) 0)) true (cmp .gtr (h.length : Int) 7)) true (cmp .lss less 0)) true (cmp .lss more 0)) true (cmp .gtr more 1000)) false, .bit (cmp .neq (h.length : Int) 0) true, .cells (flat (h.map actV)), .bit (cmp .geq (h.length : Int) 0) true, .bit (cmp .leq (h.length : Int) 1048576) true, .bit (cmp .geq (ar .rem .i64 (ar .and .i64 k 65535) (h.length : Int)) 0) true, .bit (cmp .lss (ar .rem .i64 (ar .and .i64 k 65535) (h.length : Int)) (pls 0 (h.length : Int))) true, .rd (flat (h.map actV)) (lin (lin (ar .rem .i64 (ar .and .i64 k 65535) (h.length : Int)) 4 0) 1 2) [.int .i64 true x.f], .bit (cmp .geq (ar .rem .i64 (ar .and .i64 k 65535) (h.length : Int)) 0) true, .bit (cmp .lss (ar .rem .i64 (ar .and .i64 k 65535) (h.length : Int)) (pls 0 (h.length : Int))) true, .wr (flat (h.map actV)) (lin (lin (ar .rem .i64 (ar .and .i64 k 65535) (h.length : Int)) 4 0) 1 2) [.int .i64 true (mx 0 (ar .sub .i64 x.f less))] nw1, .bit (cmp .geq (ar .rem .i64 (ar .and .i64 k 65535) (h.length : Int)) 0) true, .bit (cmp .lss (ar .rem .i64 (ar .and .i64 k 65535) (h.length : Int)) (pls 0 (h.length : Int))) true, .rd nw1 (lin (lin (ar .rem .i64 (ar .and .i64 k 65535) (h.length : Int)) 4 0) 1 3) [.int .i64 true x.t], .bit (cmp .geq (ar .rem .i64 (ar .and .i64 k 65535) (h.length : Int)) 0) true, .bit (cmp .lss (ar .rem .i64 (ar .and .i64 k 65535) (h.length : Int)) (pls 0 (h.length : Int))) true, .wr nw1 (lin (lin (ar .rem .i64 (ar .and .i64 k 65535) (h.length : Int)) 4 0) 1 3) [.int .i64 true (mn 1099511627776 (ar .add .i64 x.t more))] nw2, .prop (RowIs nw2 0 4 (pls 0 (h.length : Int)) (h2.map actV)), .prop (OrdR [.isl 0 4 true (pls 0 (h.length : Int)) (h2.map actV) false] (.tup [.isl 0 1 true (((orderS h2).getD []).length : Int) (((orderS h2).getD []).map natV) false, .bool true (orderS h2).isSome]) ∧ argV (V.tup [.isl 0 1 true (((orderS h2).getD []).length : Int) (((orderS h2).getD []).map natV) false, .bool true (orderS h2).isSome]) = true), .bit (cmp .leq 0 (ar .rem .i64 (ar .and .i64 k 65535) (h.length : Int))) true, .bit (cmp .leq (ar .rem .i64 (ar .and .i64 k 65535) (h.length : Int)) (h.length : Int)) true, .cells (flat (((h.map actV).take (ar .rem .i64 (ar .and .i64 k 65535) (h.length : Int)).toNat).drop (0 : Int).toNat)), .bit (cmp .geq (mns (ar .rem .i64 (ar .and .i64 k 65535) (h.length : Int)) 0) 0) true, .bit (cmp .leq (mns (ar .rem .i64 (ar .and .i64 k 65535) (h.length : Int)) 0) 1048576) true, .bit (cmp .geq (ar .add .i64 (ar .rem .i64 (ar .and .i64 k 65535) (h.length : Int)) 1) 0) true, .bit (cmp .leq (ar .add .i64 (ar .rem .i64 (ar .and .i64 k 65535) (h.length : Int)) 1) (h.length : Int)) true, .bit (cmp .leq (h.length : Int) (h.length : Int)) true, .cells (flat (((h.map actV).take ((h.length : Int)).toNat).drop (ar .add .i64 (ar .rem .i64 (ar .and .i64 k 65535) (h.length : Int)) 1).toNat)), .bit (cmp .geq (pls 0 (mns (ar .rem .i64 (ar .and .i64 k 65535) (h.length : Int)) 0)) 0) true, .bit (cmp .leq (pls 0 (mns (ar .rem .i64 (ar .and .i64 k 65535) (h.length : Int)) 0)) 1048576) true, .bit (cmp .geq (mns (h.length : Int) (ar .add .i64 (ar .rem .i64 (ar .and .i64 k 65535) (h.length : Int)) 1)) 0) true, .bit (cmp .leq (mns (h.length : Int) (ar .add .i64 (ar .rem .i64 (ar .and .i64 k 65535) (h.length : Int)) 1)) 1048576) true, .idx (lin (pls 0 (mns (ar .rem .i64 (ar .and .i64 k 65535) (h.length : Int)) 0)) 4 0) ((flat (((h.map actV).take (ar .rem .i64 (ar .and .i64 k 65535) (h.length : Int)).toNat).drop (0 : Int).toNat))).length, .prop (RowIs ((flat (((h.map actV).take (ar .rem .i64 (ar .and .i64 k 65535) (h.length : Int)).toNat).drop (0 : Int).toNat)) ++ (flat (((h.map actV).take ((h.length : Int)).toNat).drop (ar .add .i64 (ar .rem .i64 (ar .and .i64 k 65535) (h.length : Int)) 1).toNat))) 0 4 (pls (pls 0 (mns (ar .rem .i64 (ar .and .i64 k 65535) (h.length : Int)) 0)) (mns (h.length : Int) (ar .add .i64 (ar .rem .i64 (ar .and .i64 k 65535) (h.length : Int)) 1))) (h3.map actV)), .prop (OrdR [.isl 0 4 true (pls (pls 0 (mns (ar .rem .i64 (ar .and .i64 k 65535) (h.length : Int)) 0)) (mns (h.length : Int) (ar .add .i64 (ar .rem .i64 (ar .and .i64 k 65535) (h.length : Int)) 1))) (h3.map actV) false] (.tup [.isl 0 1 true (((orderS h3).getD []).length : Int) (((orderS h3).getD []).map natV) false, .bool true (orderS h3).isSome]) ∧ argV (V.tup [.isl 0 1 true (((orderS h3).getD []).length : Int) (((orderS h3).getD []).map natV) false, .bool true (orderS h3).isSome]) = true), .elem (h.map actV) (ar .rem .i64 (ar .and .i64 k 65535) (h.length : Int)) (.agg [.bool true x.w, .int .i64 true x.v, .int .i64 true x.f, .int .i64 true x.t])]) := by kernel_rfl
theorem orderV_arg (h : List Ac) : argV (ordV (orderS h)) = true := by
  simp only [ordV, argV, argL, argL_nats, Bool.and_true]
theorem and16 (x : Int) : ar .and .i64 x 65535 = x % 65536 := by
  have h : ((i64bv x 65535 : Nat) : Int) = x % 65536 := bv_and_mask x 16 65535 (by decide) (by omega)
  have e : ar .and .i64 x 65535 = IntKind.i64.wrap ((i64bv x 65535 : Nat) : Int) := rfl
  rw [e, h]
  exact wrap64 (by omega) (by omega)
theorem pick_idx (k : Int) (n : Nat) (hn : n ≠ 0) : ∃ i : Nat, i < n ∧ ar .rem .i64 (ar .and .i64 k 65535) (n : Int) = (i : Int) := by
  refine ⟨((k % 65536) % (n : Int)).toNat, ?_, ?_⟩
  · have := Int.emod_lt_of_pos (k % 65536) (show (0 : Int) < (n : Int) by omega)
    have := Int.emod_nonneg (k % 65536) (show (n : Int) ≠ 0 by omega)
    omega
  · rw [and16]
    show (k % 65536).tmod (n : Int) = _
    rw [Int.tmod_eq_emod_of_nonneg (Int.emod_nonneg _ (by decide)), Int.toNat_of_nonneg (Int.emod_nonneg _ (by omega))]
theorem set_f : ∀ (h : List Ac) (i : Nat) (x : Ac) (v : Int), h[i]? = some x → setCells (cellsA h) (4 * i + 2) [.int .i64 true v] = cellsA (h.set i { x with f := v })
  | [], i, x, v, hx => by simp at hx
  | y :: h, 0, x, v, hx => by
    simp only [List.getElem?_cons_zero, Option.some.injEq] at hx
    subst hx
    show _ :: _ :: (.int .i64 true v : VV) :: setCells (.int .i64 true y.t :: cellsA h) 0 [] = _
    rfl
  | y :: h, i + 1, x, v, hx => by
    have ih := set_f h i x v (by simpa using hx)
    have e : 4 * (i + 1) + 2 = (4 * i + 2) + 4 := by omega
    rw [e]
    show _ :: _ :: _ :: _ :: setCells (cellsA h) (4 * i + 2) [.int .i64 true v] = _
    rw [ih]; rfl
theorem set_t : ∀ (h : List Ac) (i : Nat) (x : Ac) (v : Int), h[i]? = some x → setCells (cellsA h) (4 * i + 3) [.int .i64 true v] = cellsA (h.set i { x with t := v })
  | [], i, x, v, hx => by simp at hx
  | y :: h, 0, x, v, hx => by
    simp only [List.getElem?_cons_zero, Option.some.injEq] at hx
    subst hx
    have e : setCells (cellsA h) 0 [] = cellsA h := by cases cellsA h <;> rfl
    show _ :: _ :: _ :: (.int .i64 true v : VV) :: setCells (cellsA h) 0 [] = _
    rw [e]; rfl
  | y :: h, i + 1, x, v, hx => by
    have ih := set_t h i x v (by simpa using hx)
    have e : 4 * (i + 1) + 3 = (4 * i + 3) + 4 := by omega
    rw [e]
    show _ :: _ :: _ :: _ :: setCells (cellsA h) (4 * i + 3) [.int .i64 true v] = _
    rw [ih]; rfl
theorem rd_f {h : List Ac} {i : Nat} {x : Ac} (hx : h[i]? = some x) : ((cellsA h).drop (4 * i + 2)).take 1 = [.int .i64 true x.f] := by
  have := rd_cells hx
  have e : (cellsA h).drop (4 * i + 2) = ((cellsA h).drop (4 * i)).drop 2 := by rw [List.drop_drop]
  have h2 := congrArg (fun l => (l.drop 2).take 1) this
  simp only [List.drop_take, List.take_take] at h2
  rw [e]
  simpa using h2
theorem rd_t {h : List Ac} {i : Nat} {x : Ac} (hx : h[i]? = some x) : ((cellsA h).drop (4 * i + 3)).take 1 = [.int .i64 true x.t] := by
  have := rd_cells hx
  have e : (cellsA h).drop (4 * i + 3) = ((cellsA h).drop (4 * i)).drop 3 := by rw [List.drop_drop]
  have h2 := congrArg (fun l => (l.drop 3).take 1) this
  simp only [List.drop_take, List.take_take] at h2
  rw [e]
  simpa using h2
theorem rowIs_acts {cs : List VV} {g : List Ac} {len : Int} (hc : cs = cellsA g) (hl : len = (g.length : Int)) : RowIs cs 0 4 len (g.map actV) := by
  subst hc hl
  refine ⟨by rw [cellsA_flat, List.drop_zero, List.take_length], by simp, fun e he => ?_, argL_map g⟩
  obtain ⟨y, _, rfl⟩ := List.mem_map.1 he
  rfl
theorem cells_ok : ∀ (g : List Ac), (cellsA g).all oneCell = true
  | [] => rfl
  | x :: g => by simp only [cellsA, List.all_cons, cells_ok g, Bool.and_true]; rfl
/-- A whole number of the machine's. -/
def isI64 (n : Int) : Prop := -9223372036854775808 ≤ n ∧ n < 9223372036854775808
def WideR (args : List VV) (u : VV) : Prop := ∃ (h : List Ac) (k less more : Int), args = [.isl 0 4 true (h.length : Int) (h.map actV) false, .int .i64 true k, .int .i64 true less, .int .i64 true more] ∧
  h.length < 9223372036854775808 ∧ isI64 less ∧ isI64 more ∧ u = .bool true true
theorem ordU_eq (h : List Ac) : (.tup [.isl 0 1 true (((orderS h).getD []).length : Int) (((orderS h).getD []).map natV) false, .bool true (orderS h).isSome] : VV) = ordV (orderS h) := rfl
theorem ordR_mk {h : List Ac} {len : Int} (hl : len = (h.length : Int)) (hb : h.length < 9223372036854775808) :
    OrdR [.isl 0 4 true len (h.map actV) false] (.tup [.isl 0 1 true (((orderS h).getD []).length : Int) (((orderS h).getD []).map natV) false, .bool true (orderS h).isSome]) ∧
      argV (V.tup [.isl 0 1 true (((orderS h).getD []).length : Int) (((orderS h).getD []).map natV) false, .bool true (orderS h).isSome]) = true := by
  subst hl
  exact ⟨⟨h, rfl, hb, rfl⟩, orderV_arg h⟩
theorem Wide_rel : RelOk Try.prog 4 WideR := by
  refine relOk_cx (cx := cxL) cxL_ok fun args u hr => ?_
  obtain ⟨h, k, less, more, rfl, hb, hless, hmore, rfl⟩ := hr
  have hav : argV (V.isl 0 4 true (h.length : Int) (h.map actV) false) = true := argL_map h
  cases hc : (bi (bi (bi (bi (bi (!(orderS h).isSome) true (cmp .eql (h.length : Int) 0)) true (cmp .gtr (h.length : Int) 7)) true (cmp .lss less 0)) true (cmp .lss more 0)) true (cmp .gtr more 1000)) with
  | true =>
    exact ⟨60, _, _, has_outR (cWd_0 h h h k less more ⟨true, 0, 0, 0⟩ ⟨true, 0, 0, 0⟩ [] []) ⟨⟨⟨rfl, rfl⟩, rfl⟩, hav, ordR_mk rfl hb, hc, trivial⟩, .bool _ _ _⟩
  | false =>
    have hc' := hc
    simp only [bi_or, Bool.or_eq_false_iff, Bool.not_eq_false', cmp_eql, cmp_gtr, cmp_lss, decide_eq_false_iff_not] at hc'
    obtain ⟨⟨⟨⟨⟨ho, h0⟩, h7⟩, hl0⟩, hm0⟩, hm1⟩ := hc'
    obtain ⟨i, hi, hI⟩ := pick_idx k h.length (by omega)
    have hx : h[i]? = some h[i] := List.getElem?_eq_getElem hi
    have hxs : saneA h[i] = true := by
      have := (orderS_iff.1 ho).1
      unfold saneT at this
      simp only [Bool.and_eq_true, List.all_eq_true] at this
      exact this.2 _ (List.getElem_mem hi)
    unfold saneA at hxs
    simp only [decide_eq_true_eq] at hxs
    have b1 : isI64 less := hless
    have b2 : isI64 more := hmore
    unfold isI64 at b1 b2
    let x1 : Ac := { h[i] with f := max 0 (h[i].f - less) }
    let x2 : Ac := { x1 with t := min 1099511627776 (h[i].t + more) }
    have e1 : mx 0 (ar .sub .i64 h[i].f less) = x1.f := by rw [ar_sub (by omega) (by omega), mx_eq]
    have e2 : mn 1099511627776 (ar .add .i64 h[i].t more) = x2.t := by rw [ar_add (by omega) (by omega), mn_eq]
    have hx1 : (h.set i x1)[i]? = some x1 := by rw [List.getElem?_set_self hi]
    have hs1 : setCells (flat (h.map actV)) (lin (lin (i : Int) 4 0) 1 2).toNat [.int .i64 true (mx 0 (ar .sub .i64 h[i].f less))] = cellsA (h.set i x1) := by
      rw [cellsA_flat, e1, show (lin (lin (i : Int) 4 0) 1 2).toNat = 4 * i + 2 by unfold lin; omega]
      exact set_f h i h[i] _ hx
    have hs2 : setCells (cellsA (h.set i x1)) (lin (lin (i : Int) 4 0) 1 3).toNat [.int .i64 true (mn 1099511627776 (ar .add .i64 h[i].t more))] = cellsA (h.set i x2) := by
      rw [e2, show (lin (lin (i : Int) 4 0) 1 3).toNat = 4 * i + 3 by unfold lin; omega, set_t _ i x1 _ hx1, List.set_set]
    have hge : cmp .geq (i : Int) 0 = true := by rw [cmp_geq]; exact decide_eq_true (by omega)
    have hlt : cmp .lss (i : Int) (pls 0 (h.length : Int)) = true := by rw [cmp_lss]; exact decide_eq_true (by unfold pls; omega)
    have hpl : pls 0 (h.length : Int) = ((h.set i x2).length : Int) := by unfold pls; simp
    have hadd : ar .add .i64 (i : Int) 1 = ((i + 1 : Nat) : Int) := by rw [ar_add (by omega) (by omega)]; omega
    have hA : flat (((h.map actV).take ((i : Int)).toNat).drop (0 : Int).toNat) = cellsA (h.take i) := by
      rw [Int.toNat_natCast, Int.toNat_zero, List.drop_zero, ← List.map_take, cellsA_flat]
    have hB : flat (((h.map actV).take ((h.length : Int)).toNat).drop (ar .add .i64 (i : Int) 1).toNat) = cellsA (h.drop (i + 1)) := by
      rw [hadd, Int.toNat_natCast, Int.toNat_natCast, List.take_of_length_le (by simp), ← List.map_drop, cellsA_flat]
    have h3 : h.eraseIdx i = h.take i ++ h.drop (i + 1) := List.eraseIdx_eq_take_drop_succ ..
    have hl3 : pls (pls 0 (mns (i : Int) 0)) (mns (h.length : Int) (ar .add .i64 (i : Int) 1)) = ((h.eraseIdx i).length : Int) := by
      rw [hadd, List.length_eraseIdx_of_lt hi]; unfold pls mns; omega
    have hrun := cWd_1 h (h.set i x2) (h.eraseIdx i) k less more h[i] h[i] (cellsA (h.set i x1)) (cellsA (h.set i x2))
    rw [hI] at hrun
    have ob1 : (orderS (h.set i x2)).isSome = true := by
      refine order_wide ho (by simp) (fun j y hy => ?_) ?_
      · by_cases hj : i = j
        · subst hj
          rw [hx] at hy
          cases hy
          exact ⟨x2, by rw [List.getElem?_set_self hi], ⟨rfl, rfl, by show max 0 (h[i].f - less) ≤ h[i].f; omega, by show h[i].t ≤ min 1099511627776 (h[i].t + more); omega⟩⟩
        · exact ⟨y, by rw [List.getElem?_set_ne hj]; exact hy, ⟨rfl, rfl, Int.le_refl _, Int.le_refl _⟩⟩
      · have hs := (orderS_iff.1 ho).1
        unfold saneT at hs ⊢
        simp only [Bool.and_eq_true, decide_eq_true_eq, List.all_eq_true] at hs ⊢
        refine ⟨by simpa using hs.1, fun y hy => ?_⟩
        rcases List.mem_or_eq_of_mem_set hy with h4 | rfl
        · exact hs.2 y h4
        · unfold saneA
          simp only [decide_eq_true_eq]
          show 0 ≤ max 0 (h[i].f - less) ∧ max 0 (h[i].f - less) < min 1099511627776 (h[i].t + more) ∧ min 1099511627776 (h[i].t + more) ≤ 1099511627776
          omega
    have ob2 : bi (orderS (h.eraseIdx i)).isSome true h[i].w = true := by
      rw [bi_or]
      cases hw : h[i].w with
      | true => simp
      | false => rw [order_fewer ho hx hw]; rfl
    refine ⟨60, _, _, has_outR hrun ⟨⟨⟨rfl, rfl⟩, rfl⟩, hav, ordR_mk rfl hb, hc, ?_, ?_, ?_, ?_, hge, hlt, ?_, hge, hlt, ?_, hge, hlt, ?_, hge, hlt, ?_, rowIs_acts rfl hpl, ordR_mk hpl (by simpa using hb), ?_, ?_, ?_, ?_, ?_, ?_, ?_, ?_, ?_, ?_, ?_, ?_, ?_, ?_, rowIs_acts (by rw [hA, hB, h3, cellsA_append]) hl3, ordR_mk hl3 (by rw [List.length_eraseIdx_of_lt hi]; omega), ?_, trivial⟩, ?_⟩
    · show cmp .neq (h.length : Int) 0 = true
      rw [cmp_neq]; exact decide_eq_true (by omega)
    · show (flat (h.map actV)).all oneCell = true
      rw [cellsA_flat]; exact cells_ok h
    · show cmp .geq (h.length : Int) 0 = true
      rw [cmp_geq]; exact decide_eq_true (by omega)
    · show cmp .leq (h.length : Int) 1048576 = true
      rw [cmp_leq]; exact decide_eq_true (by omega)
    · refine ⟨by unfold lin; omega, ?_⟩
      rw [cellsA_flat, show (lin (lin (i : Int) 4 0) 1 2).toNat = 4 * i + 2 by unfold lin; omega]
      exact rd_f hx
    · refine ⟨by unfold lin; omega, ?_, hs1.symm⟩
      rw [cellsA_flat, cellsA_length]; simp only [List.length_singleton]; unfold lin; omega
    · refine ⟨by unfold lin; omega, ?_⟩
      rw [show (lin (lin (i : Int) 4 0) 1 3).toNat = 4 * i + 3 by unfold lin; omega]
      have q := rd_t hx1
      exact q
    · refine ⟨by unfold lin; omega, ?_, hs2.symm⟩
      rw [cellsA_length, List.length_set]; simp only [List.length_singleton]; unfold lin; omega
    · show cmp .leq 0 (i : Int) = true
      rw [cmp_leq]; exact decide_eq_true (by omega)
    · show cmp .leq (i : Int) (h.length : Int) = true
      rw [cmp_leq]; exact decide_eq_true (by omega)
    · show (flat _).all oneCell = true
      rw [hA]; exact cells_ok _
    · show cmp .geq (mns (i : Int) 0) 0 = true
      rw [cmp_geq]; exact decide_eq_true (by unfold mns; omega)
    · show cmp .leq (mns (i : Int) 0) 1048576 = true
      rw [cmp_leq]; exact decide_eq_true (by unfold mns; omega)
    · show cmp .geq (ar .add .i64 (i : Int) 1) 0 = true
      rw [hadd, cmp_geq]; exact decide_eq_true (by omega)
    · show cmp .leq (ar .add .i64 (i : Int) 1) (h.length : Int) = true
      rw [hadd, cmp_leq]; exact decide_eq_true (by omega)
    · show cmp .leq (h.length : Int) (h.length : Int) = true
      rw [cmp_leq]; exact decide_eq_true (by omega)
    · show (flat _).all oneCell = true
      rw [hB]; exact cells_ok _
    · show cmp .geq (pls 0 (mns (i : Int) 0)) 0 = true
      rw [cmp_geq]; exact decide_eq_true (by unfold pls mns; omega)
    · show cmp .leq (pls 0 (mns (i : Int) 0)) 1048576 = true
      rw [cmp_leq]; exact decide_eq_true (by unfold pls mns; omega)
    · show cmp .geq (mns (h.length : Int) (ar .add .i64 (i : Int) 1)) 0 = true
      rw [hadd, cmp_geq]; exact decide_eq_true (by unfold mns; omega)
    · show cmp .leq (mns (h.length : Int) (ar .add .i64 (i : Int) 1)) 1048576 = true
      rw [hadd, cmp_leq]; exact decide_eq_true (by unfold mns; omega)
    · show lin (pls 0 (mns (i : Int) 0)) 4 0 = (((flat (((h.map actV).take ((i : Int)).toNat).drop (0 : Int).toNat)).length : Nat) : Int)
      rw [hA, cellsA_length, List.length_take]; unfold lin pls mns; omega
    · exact ⟨by omega, by rw [Int.toNat_natCast, List.getElem?_map, hx]; rfl⟩
    · rw [ob1, ob2]; exact .bool _ _ _
#print axioms Wide_rel
end Go.Sx
