/- Plain numbers: whole numbers of twice the size. Conditions: none. -/
import Derived.Test.YtajloilpehgcmaaSxNum
set_option linter.unusedVariables false
set_option linter.unusedSimpArgs false
set_option linter.unusedSectionVars false

namespace Go.Sx

theorem shr_i (k : IntKind) (x y : Int) (n : Nat) (m : Int) (hy : y.toNat = n) (hn : n ≤ k.bits) (hm : m = 2 ^ n) : sh .shr k x y = x / m := by
  unfold sh
  simp only [hy, Nat.min_eq_left hn, hm]
  rw [Int.fdiv_eq_ediv_of_nonneg]
  exact Int.le_of_lt (Int.pow_pos (by omega))
theorem shr62 (x : Int) : sh .shr .i64 x 62 = x / 4611686018427387904 := shr_i .i64 x 62 62 _ rfl (by decide) (by decide)
theorem shr62u (x : Int) : sh .shr .u64 x 62 = x / 4611686018427387904 := shr_i .u64 x 62 62 _ rfl (by decide) (by decide)
theorem shr32u (x : Int) : sh .shr .u64 x 32 = x / 4294967296 := shr_i .u64 x 32 32 _ rfl (by decide) (by decide)
theorem shr32 (x : Int) : sh .shr .i64 x 32 = x / 4294967296 := shr_i .i64 x 32 32 _ rfl (by decide) (by decide)

theorem bv_and_mask (x : Int) (m : Nat) (M : Int) (hM : M = ((2 ^ m - 1 : Nat) : Int)) (hm : m ≤ 64) : ((BitVec.ofInt 64 x &&& BitVec.ofInt 64 M).toNat : Int) = x % ((2 ^ m : Nat) : Int) := by
  have hlt : 2 ^ m - 1 < 2 ^ 64 := by
    have : 2 ^ m ≤ 2 ^ 64 := Nat.pow_le_pow_right (by omega) hm
    omega
  have h2 : (BitVec.ofInt 64 M).toNat = 2 ^ m - 1 := by
    rw [hM, BitVec.toNat_ofInt]
    have : (((2 ^ m - 1 : Nat) : Int) % ((2 ^ 64 : Nat) : Int)) = ((2 ^ m - 1 : Nat) : Int) := Int.emod_eq_of_lt (by omega) (by exact_mod_cast hlt)
    rw [this]; simp
  rw [BitVec.toNat_and, h2, Nat.and_two_pow_sub_one_eq_mod, BitVec.toNat_ofInt]
  have hd : ((2 ^ m : Nat) : Int) ∣ ((2 ^ 64 : Nat) : Int) := by
    have : 2 ^ m ∣ 2 ^ 64 := Nat.pow_dvd_pow 2 hm
    exact Int.natCast_dvd_natCast.2 this
  have hnn : 0 ≤ x % ((2 ^ 64 : Nat) : Int) := Int.emod_nonneg _ (by decide)
  rw [Int.natCast_emod, Int.toNat_of_nonneg hnn, Int.emod_emod_of_dvd x hd]
abbrev i64bv (x m : Int) : Nat := (BitVec.ofInt 64 x &&& BitVec.ofInt 64 m).toNat
abbrev u64bv (x m : Int) : Nat := (BitVec.ofInt 64 x &&& BitVec.ofInt 64 m).toNat
theorem and62 (x : Int) : ar .and .i64 x 4611686018427387903 = x % 4611686018427387904 := by
  have h : ((i64bv x 4611686018427387903 : Nat) : Int) = x % 4611686018427387904 := bv_and_mask x 62 4611686018427387903 (by decide) (by omega)
  have e : ar .and .i64 x 4611686018427387903 = IntKind.i64.wrap ((i64bv x 4611686018427387903 : Nat) : Int) := rfl
  rw [e, h]
  exact wrap64 (by omega) (by omega)
theorem and62u (x : Int) : ar .and .u64 x 4611686018427387903 = x % 4611686018427387904 := by
  have h : ((u64bv x 4611686018427387903 : Nat) : Int) = x % 4611686018427387904 := bv_and_mask x 62 4611686018427387903 (by decide) (by omega)
  have e : ar .and .u64 x 4611686018427387903 = IntKind.u64.wrap ((u64bv x 4611686018427387903 : Nat) : Int) := rfl
  rw [e, h]
  exact wrapU (by omega) (by omega)
theorem and32u (x : Int) : ar .and .u64 x 4294967295 = x % 4294967296 := by
  have h : ((u64bv x 4294967295 : Nat) : Int) = x % 4294967296 := bv_and_mask x 32 4294967295 (by decide) (by omega)
  have e : ar .and .u64 x 4294967295 = IntKind.u64.wrap ((u64bv x 4294967295 : Nat) : Int) := rfl
  rw [e, h]
  exact wrapU (by omega) (by omega)
/-! ### layer 2 -/
def saneS (h l : Int) : Bool := decide (0 ≤ l ∧ l < 4611686018427387904 ∧ -2305843009213693952 ≤ h ∧ h < 2305843009213693952)
def knownS (h l : Int) : Int × Int := if saneS h l then (h, l) else (0, 0)
def valS (h l : Int) : Int := h * 4611686018427387904 + l
def kvS (h l : Int) : Int := if saneS h l then valS h l else 0
def splS (n : Int) : Int × Int := (n / 4611686018427387904, n % 4611686018427387904)
def wnegS (h l : Int) : Int × Int := if l = 0 then (-h, 0) else (-h - 1, 4611686018427387904 - l)
def ofS (n : Int) : Int × Int := splS n
def mulS (a b : Int) : Int × Int := splS (cl a * cl b)
def waddS (h l h' l' : Int) : Int × Int × Bool :=
  if -10633823966279326983230456482242756608 ≤ kvS h l + kvS h' l' ∧ kvS h l + kvS h' l' < 10633823966279326983230456482242756608 then
    ((splS (kvS h l + kvS h' l')).1, (splS (kvS h l + kvS h' l')).2, true) else (0, 0, false)
def ccS (a b : Int) : Int := if a < b then -1 else if a > b then 1 else 0
def compareS (h l h' l' : Int) : Int := ccS (kvS h l) (kvS h' l')
def downS (h l : Int) : Int × Int := splS (kvS h l / 4294967296)
def intS (h l : Int) : Int × Bool := (cl (kvS h l), !ch (kvS h l))

theorem saneS_iff (h l : Int) : saneS h l = true ↔ 0 ≤ l ∧ l < 4611686018427387904 ∧ -2305843009213693952 ≤ h ∧ h < 2305843009213693952 := by
  unfold saneS; exact decide_eq_true_iff
theorem knownS_sane (h l : Int) : 0 ≤ (knownS h l).2 ∧ (knownS h l).2 < 4611686018427387904 ∧ -2305843009213693952 ≤ (knownS h l).1 ∧ (knownS h l).1 < 2305843009213693952 := by
  unfold knownS
  split
  · rename_i hs; exact (saneS_iff h l).1 hs
  · refine ⟨?_, ?_, ?_, ?_⟩ <;> decide
theorem knownS_val (h l : Int) : valS (knownS h l).1 (knownS h l).2 = kvS h l := by
  unfold knownS kvS
  split <;> simp [valS]
theorem splS_unique {h l n : Int} (h0 : 0 ≤ l) (h1 : l < 4611686018427387904) (hv : valS h l = n) : (h, l) = splS n := by
  unfold splS valS at *
  subst hv
  refine Prod.ext ?_ ?_
  · show h = _; omega
  · show l = _; omega
theorem splS_val (n : Int) : valS (splS n).1 (splS n).2 = n := by unfold splS valS; dsimp only; omega
theorem splS_lo (n : Int) : 0 ≤ (splS n).2 ∧ (splS n).2 < 4611686018427387904 := by unfold splS; dsimp only; omega
theorem kvS_of {h l : Int} (h0 : 0 ≤ l) (h1 : l < 4611686018427387904) (h2 : -2305843009213693952 ≤ h) (h3 : h < 2305843009213693952) : kvS h l = valS h l := by
  unfold kvS; rw [if_pos ((saneS_iff h l).2 ⟨h0, h1, h2, h3⟩)]
theorem kvS_spl {n : Int} (h0 : -10633823966279326983230456482242756608 ≤ n) (h1 : n < 10633823966279326983230456482242756608) : kvS (splS n).1 (splS n).2 = n := by
  rw [kvS_of (splS_lo n).1 (splS_lo n).2 (by unfold splS; dsimp only; omega) (by unfold splS; dsimp only; omega), splS_val]
theorem saneS_spl {n : Int} (h0 : -10633823966279326983230456482242756608 ≤ n) (h1 : n < 10633823966279326983230456482242756608) : saneS (splS n).1 (splS n).2 = true :=
  (saneS_iff _ _).2 ⟨(splS_lo n).1, (splS_lo n).2, by unfold splS; dsimp only; omega, by unfold splS; dsimp only; omega⟩
theorem kvS_range (h l : Int) : -10633823966279326983230456482242756608 ≤ kvS h l ∧ kvS h l < 10633823966279326983230456482242756608 := by
  unfold kvS
  split
  · rename_i hs
    have := (saneS_iff h l).1 hs
    unfold valS; omega
  · omega
theorem wnegS_spl {h l : Int} (h0 : 0 ≤ l) (h1 : l < 4611686018427387904) : wnegS h l = splS (-valS h l) := by
  unfold wnegS
  split
  · rename_i hl
    subst hl
    exact splS_unique (by omega) (by omega) (by unfold valS; omega)
  · exact splS_unique (by omega) (by omega) (by unfold valS; omega)
end Go.Sx
