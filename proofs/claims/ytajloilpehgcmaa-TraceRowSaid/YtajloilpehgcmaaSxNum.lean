/- Plain numbers: what the program's first layers reckon. Conditions: none. -/
import Derived.Test.YtajloilpehgcmaaSxSem
set_option linter.unusedVariables false
set_option linter.unusedSimpArgs false
set_option linter.unusedSectionVars false

namespace Go.Sx
theorem sel_t {α : Sort _} {b : Bool} (h : b = true) (x y : α) : (if b then x else y) = x := if_pos h
theorem sel_f {α : Sort _} {b : Bool} (h : b = false) (x y : α) : (if b then x else y) = y := if_neg (by rw [h]; simp)

theorem mx_eq (x y : Int) : mx x y = max x y := by
  unfold mx; rw [Int.max_def]; split <;> split <;> omega
theorem mn_eq (x y : Int) : mn x y = min x y := by
  unfold mn; rw [Int.min_def]; split <;> split <;> omega
theorem cmp_eql (x y : Int) : cmp .eql x y = decide (x = y) := by
  by_cases h : x = y <;> simp [cmp, h]
theorem cmp_neq (x y : Int) : cmp .neq x y = decide (x ≠ y) := by
  by_cases h : x = y <;> simp [cmp, h]
theorem cmp_lss (x y : Int) : cmp .lss x y = decide (x < y) := rfl
theorem cmp_leq (x y : Int) : cmp .leq x y = decide (x ≤ y) := rfl
theorem cmp_gtr (x y : Int) : cmp .gtr x y = decide (x > y) := rfl
theorem cmp_geq (x y : Int) : cmp .geq x y = decide (x ≥ y) := rfl

theorem wrap64 {n : Int} (h0 : -9223372036854775808 ≤ n) (h1 : n < 9223372036854775808) : IntKind.i64.wrap n = n := by
  unfold IntKind.wrap
  have e : (2 ^ IntKind.i64.bits : Int) = 18446744073709551616 := by simp [IntKind.bits]
  have e2 : (2 ^ (IntKind.i64.bits - 1) : Int) = 9223372036854775808 := by simp [IntKind.bits]
  simp only [e, e2, IntKind.signed, Bool.true_and, decide_eq_true_eq, ge_iff_le]
  split <;> omega
theorem wrapU {n : Int} (h0 : 0 ≤ n) (h1 : n < 18446744073709551616) : IntKind.u64.wrap n = n := by
  unfold IntKind.wrap
  have e : (2 ^ IntKind.u64.bits : Int) = 18446744073709551616 := by simp [IntKind.bits]
  simp only [e, IntKind.signed, Bool.false_and, Bool.false_eq_true, if_false]
  omega

theorem bi_or (a b : Bool) : bi a true b = (a || b) := by cases a <;> rfl
theorem bi_and (a b : Bool) : bi a b false = (a && b) := by cases a <;> rfl

/-! ### layer 1 -/
abbrev LIM : Int := 288230376151711744
def cl (n : Int) : Int := max (-288230376151711744) (min n 288230376151711744)
def ch (n : Int) : Bool := decide (cl n ≠ n)
theorem cl_le (n : Int) : cl n ≤ 288230376151711744 := by unfold cl; omega
theorem le_cl (n : Int) : -288230376151711744 ≤ cl n := by unfold cl; omega
theorem cl_id {n : Int} (h0 : -288230376151711744 ≤ n) (h1 : n ≤ 288230376151711744) : cl n = n := by unfold cl; omega
theorem cl_cl (n : Int) : cl (cl n) = cl n := cl_id (le_cl n) (cl_le n)
theorem ch_iff (n : Int) : ch n = true ↔ (n > 288230376151711744 ∨ n < -288230376151711744) := by
  unfold ch cl; simp only [ne_eq, decide_eq_true_eq]; omega
theorem ch_false {n : Int} : ch n = false ↔ (-288230376151711744 ≤ n ∧ n ≤ 288230376151711744) := by
  unfold ch cl; simp only [ne_eq, decide_eq_false_iff_not, Decidable.not_not]; omega
theorem ch_cl (n : Int) : ch (cl n) = false := ch_false.2 ⟨le_cl n, cl_le n⟩
def clampS (n : Int) : Int × Bool := (cl n, ch n)
def addS (a b : Int) : Int × Bool := (cl (cl a + cl b), ch (cl a + cl b) || ch a || ch b)
def subS (a b : Int) : Int × Bool := (cl (cl a - cl b), ch (cl a - cl b) || ch a || ch b)
def negS (a : Int) : Int := -cl a
def absS (a : Int) : Int := max (cl a) (-cl a)
theorem ar_add {a b : Int} (h0 : -9223372036854775808 ≤ a + b) (h1 : a + b < 9223372036854775808) : ar .add .i64 a b = a + b := wrap64 h0 h1
theorem ar_sub {a b : Int} (h0 : -9223372036854775808 ≤ a - b) (h1 : a - b < 9223372036854775808) : ar .sub .i64 a b = a - b := wrap64 h0 h1
theorem ar_mul {a b : Int} (h0 : -9223372036854775808 ≤ a * b) (h1 : a * b < 9223372036854775808) : ar .mul .i64 a b = a * b := wrap64 h0 h1
theorem cl_raw (n : Int) : mx (-288230376151711744) (mn n 288230376151711744) = cl n := by rw [mx_eq, mn_eq]; rfl
theorem ch_raw (n : Int) : cmp .neq (cl n) n = ch n := by rw [cmp_neq]; rfl
theorem ar_add_cl (a b : Int) : ar .add .i64 (cl a) (cl b) = cl a + cl b := ar_add (by have := le_cl a; have := le_cl b; omega) (by have := cl_le a; have := cl_le b; omega)
theorem ar_sub_cl (a b : Int) : ar .sub .i64 (cl a) (cl b) = cl a - cl b := ar_sub (by have := le_cl a; have := cl_le b; omega) (by have := cl_le a; have := le_cl b; omega)
theorem ar_neg_cl (a : Int) : ar .sub .i64 0 (cl a) = -cl a := by rw [ar_sub (by have := cl_le a; omega) (by have := le_cl a; omega)]; omega
end Go.Sx
