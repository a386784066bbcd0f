/- The arguments of the small seat's laws, as the executor's values. Conditions: none. -/
import Derived.Test.YtajloilpehgcmaaSxTr6
import Derived.Test.YtajloilpehgcmaaSxBridge
import Derived.Test.YtajloilpehgcmaaRows
import Derived.JoinedOf
set_option linter.unusedVariables false
set_option linter.unusedSimpArgs false
set_option linter.unusedSectionVars false

namespace Go.Sx
open Go.ChangeShapes Go.WideShapes Go.RowKit Go.Proofs

theorem try_own : ownKnob Try.prog.godebug = none := by kernel_rfl
theorem try_laid : laidOutB Try.prog = true := by kernel_rfl
theorem cell_bool {P : Program} {n : Nat} {t : TypeId} {vs : List VV} (hu : P.underlying t = some .bool) (h : TVC P (n + 1) t vs) : ∃ b, vs = [.bool true b] := by
  unfold TVC at h; rw [hu] at h; exact h
theorem cell_int {P : Program} {n : Nat} {t : TypeId} {k : IntKind} {vs : List VV} (hu : P.underlying t = some (.int k)) (h : TVC P (n + 1) t vs) : ∃ i, vs = [.int k true i] ∧ (Lit.int k i).wf = true := by
  unfold TVC at h; rw [hu] at h; exact h
theorem parts4 {R : TypeId → List VV → Prop} {t0 t1 t2 t3 : TypeId} {parts : List (List VV)} (h : PartsG R [t0, t1, t2, t3] parts) : ∃ p0 p1 p2 p3, parts = [p0, p1, p2, p3] ∧ R t0 p0 ∧ R t1 p1 ∧ R t2 p2 ∧ R t3 p3 := by
  match parts, h with
  | [p0, p1, p2, p3], ⟨q0, q1, q2, q3, _⟩ => exact ⟨p0, p1, p2, p3, rfl, q0, q1, q2, q3⟩
theorem act_of {x : VV} (h : TV Try.prog 3 27 x) : ∃ a : Ac, x = actV a := by
  obtain ⟨vs, h1, _, rfl⟩ := h
  have ha : isAggT Try.prog 27 = true := by unfold isAggT; rw [Try.underlying27]
  rw [ha]
  unfold TVC at h1
  rw [Try.underlying27] at h1
  obtain ⟨parts, rfl, h2⟩ := h1
  simp only [List.map_cons, List.map_nil] at h2
  obtain ⟨p0, p1, p2, p3, rfl, q0, q1, q2, q3⟩ := parts4 h2
  obtain ⟨w, rfl⟩ := cell_bool Try.underlying4 q0
  obtain ⟨v, rfl, _⟩ := cell_int Try.underlying3 q1
  obtain ⟨f, rfl, _⟩ := cell_int Try.underlying3 q2
  obtain ⟨t, rfl, _⟩ := cell_int Try.underlying3 q3
  exact ⟨⟨w, v, f, t⟩, rfl⟩
theorem acts_of : ∀ {es : List VV}, (∀ x ∈ es, TV Try.prog 3 27 x) → ∃ h : List Ac, es = h.map actV
  | [], _ => ⟨[], rfl⟩
  | x :: es, h => by
    obtain ⟨a, rfl⟩ := act_of (h x List.mem_cons_self)
    obtain ⟨l, rfl⟩ := acts_of (es := es) fun y hy => h y (List.mem_cons_of_mem _ hy)
    exact ⟨a :: l, rfl⟩
theorem cells27 : Try.prog.cellsOf 27 = 4 := by kernel_rfl
theorem isI64_of {i : Int} (h : (Lit.int .i64 i).wf = true) : isI64 i := by
  unfold isI64
  simp [Lit.wf, IntKind.min, IntKind.max, IntKind.signed, IntKind.bits] at h
  omega
section
variable {H : Type} {enc : TypeId × Value → H} {w : World} {base : Nat} {spare : Nat → Bool} {held : Bool}
theorem open_acts {r : Reach} {b0 : Nat} {v : Value} {d : DataW H} {ps : List MemPlace} (hval : Value.okWide Try.prog w r b0 25 v) (hd : DataW.Trod enc Try.prog w base spare held 25 v d ps) :
    ∃ h : List Ac, h.length ≤ maxLen ∧ Rep (memW w) noRho (.isl 0 4 true (h.length : Int) (h.map actV) false) v := by
  obtain ⟨u, ⟨es, rfl, hl, he⟩, hr⟩ := open_slice (n := 3) (ρ := noRho) Try.underlying25 (by kernel_rfl) (by rw [cells27]; decide) hval hd
  obtain ⟨h, rfl⟩ := acts_of he
  rw [cells27] at hr
  exact ⟨h, by simpa using hl, by simpa using hr⟩
theorem open_num {r : Reach} {b0 : Nat} {v : Value} {d : DataW H} {ps : List MemPlace} (hval : Value.okWide Try.prog w r b0 3 v) (hd : DataW.Trod enc Try.prog w base spare held 3 v d ps) :
    ∃ n : Int, isI64 n ∧ ∀ M ρ, Rep M ρ (.int .i64 true n) v := by
  obtain ⟨n, rfl, _, _, hw⟩ := open_int Try.underlying3 hval hd
  exact ⟨n, isI64_of hw, fun _ _ => .int _ _ _⟩
end
end Go.Sx
