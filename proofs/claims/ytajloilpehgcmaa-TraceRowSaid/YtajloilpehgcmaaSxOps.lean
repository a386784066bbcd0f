/- The executor's single operations are the model's: those that touch no memory. Conditions: none. -/
import Derived.Test.YtajloilpehgcmaaSxRep
import Derived.Laws.StructEq
import Derived.Laws.World
set_option linter.unusedVariables false
set_option linter.unusedSimpArgs false
set_option linter.unusedSectionVars false

namespace Go.Sx

/-! ### types -/
section
variable {P : Program} {t : TypeId} {d : TyD} {w : World}
theorem ty_facts (h : tyd P t = some d) : ∃ i u, P.info? t = some i ∧ P.underlying t = some u ∧ d.k = tkOf u ∧ d.size = i.size ∧ d.bytes = i.bytes ∧ d.zero = i.zero.map (·.cells.toList) := by
  unfold tyd at h
  split at h
  · rename_i i u hi hu
    simp only [Option.some.injEq] at h
    subst h
    exact ⟨i, u, hi, hu, rfl, rfl, rfl, rfl⟩
  · cases h
theorem run_und {u : TypeDesc} (h : P.underlying t = some u) : (underlying t).run P w = .ok u w := run_underlying h w
theorem run_typeInfo_ty {i : TypeInfo} (h : P.info? t = some i) : (typeInfo t).run P w = .ok i w := by
  simp [typeInfo, h]
theorem run_sizeOf_ty (h : tyd P t = some d) : (sizeOf t).run P w = .ok d.size w := by
  obtain ⟨i, u, hi, hu, -, hs, -, -⟩ := ty_facts h
  simp [sizeOf, run_typeInfo_ty hi, hs]
theorem run_isAgg_ty (h : tyd P t = some d) : (isAgg t).run P w = .ok d.isAgg w := by
  obtain ⟨i, u, hi, hu, hk, -, -, -⟩ := ty_facts h
  simp only [isAgg, Sem.run_bind, run_und hu, Result.andThen_ok, TyD.isAgg, hk]
  cases u <;> simp [tkOf]
theorem und_str {fs : List Fld} (h : tyd P t = some d) (hk : d.k = .str fs) : ∃ fields, P.underlying t = some (.struct fields) ∧
    fields.toList.map (fun f => ({ off := f.offset, ty := f.type, blank := f.name == "_" } : Fld)) = fs := by
  obtain ⟨i, u, hi, hu, hk', -⟩ := ty_facts h
  rw [hk] at hk'
  cases u <;> simp [tkOf] at hk'
  exact ⟨_, hu, hk'.symm⟩
theorem und_arr {n : Nat} {e : TypeId} (h : tyd P t = some d) (hk : d.k = .arr n e) : P.underlying t = some (.array n e) := by
  obtain ⟨i, u, hi, hu, hk', -⟩ := ty_facts h
  rw [hk] at hk'
  cases u <;> simp [tkOf] at hk'
  obtain ⟨rfl, rfl⟩ := hk'; exact hu
theorem und_slc {e : TypeId} (h : tyd P t = some d) (hk : d.k = .slc e) : P.underlying t = some (.slice e) := by
  obtain ⟨i, u, hi, hu, hk', -⟩ := ty_facts h
  rw [hk] at hk'
  cases u <;> simp [tkOf] at hk'
  subst hk'; exact hu
theorem und_ptr {e : TypeId} (h : tyd P t = some d) (hk : d.k = .ptr e) : P.underlying t = some (.pointer e) := by
  obtain ⟨i, u, hi, hu, hk', -⟩ := ty_facts h
  rw [hk] at hk'
  cases u <;> simp [tkOf] at hk'
  subst hk'; exact hu
theorem und_int {k : IntKind} (h : tyd P t = some d) (hk : d.k = .int k) : P.underlying t = some (.int k) := by
  obtain ⟨i, u, hi, hu, hk', -⟩ := ty_facts h
  rw [hk] at hk'
  cases u <;> simp [tkOf] at hk'
  subst hk'; exact hu
theorem und_bool (h : tyd P t = some d) (hk : d.k = .bool) : P.underlying t = some .bool := by
  obtain ⟨i, u, hi, hu, hk', -⟩ := ty_facts h
  rw [hk] at hk'
  cases u <;> simp [tkOf] at hk'
  exact hu
theorem und_strg (h : tyd P t = some d) (hk : d.k = .strg) : P.underlying t = some .string := by
  obtain ⟨i, u, hi, hu, hk', -⟩ := ty_facts h
  rw [hk] at hk'
  cases u <;> simp [tkOf] at hk'
  exact hu
theorem und_any (h : tyd P t = some d) : ∃ u, P.underlying t = some u := by
  obtain ⟨i, u, hi, hu, -⟩ := ty_facts h
  exact ⟨u, hu⟩
end

section
variable {P : Program} {M : Mem} {ρ : Rho} {w : World}

/-! ### small things -/
theorem rep_const {v : Value} {x : VV} (h : constV v = some x) : Rep M ρ x v := by
  unfold constV at h
  split at h <;> simp only [Option.some.injEq, reduceCtorEq] at h <;> subst h
  · exact .int _ _ _
  · exact .bool _ _
  · exact .nil
  · exact .islNil _ _ _ _ _ rfl
  · exact .nilfn
  · exact .raw _
  · exact .raw _
theorem rep_zero (v : Value) : Rep M ρ (zeroV v) v := by
  unfold zeroV
  cases h : constV (I := Int) (B := Bool) v with
  | none => exact .raw v
  | some x => exact rep_const h
theorem repL_zero (vs : List Value) : RepL M ρ (vs.map zeroV) vs := by
  refine ⟨by simp, fun i c v hc hv => ?_⟩
  simp only [List.getElem?_map, hv, Option.map_some, Option.some.injEq] at hc
  subst hc
  exact rep_zero v
theorem rep_cells {x : VV} {v : Value} (h : Rep M ρ x v) (hx : ∀ cs, x ≠ .tup cs) (hm : ∀ tg g u, x ≠ .may tg g u) (ht : x ≠ .top) (hr : ∀ u, x ≠ .raw u) (hu : x ≠ .undef) :
    RepL M ρ (cellsOf x) v.cells.toList := by
  cases h with
  | agg cs vs hl h => exact ⟨by simpa [cellsOf, Value.cells] using hl, by simpa [cellsOf, Value.cells] using h⟩
  | tup cs vs hl h => exact absurd rfl (hx _)
  | may tg g v val h1 h0 => exact absurd rfl (hm _ _ _)
  | top => exact absurd rfl ht
  | raw => exact absurd rfl (hr _)
  | undef => exact absurd rfl hu
  | _ => (refine RepL.cons ?_ .nil; first | exact .int _ _ _ | exact .bool _ _ | exact .ptr _ _ _ _ _ ‹_› ‹_› | exact .nil | (exact .osl _ _ _ _ _ _ _ _ _ _ ‹_› ‹_› ‹_› ‹_›) | exact .islNil _ _ _ _ _ ‹_› | (exact .isl _ _ _ _ _ _ _ _ _ _ ‹_› ‹_› ‹_› ‹_› ‹_› ‹_›) | (exact .eptr _ _ _ _ ‹_› ‹_›) | (exact .fn _ _ _ _ _ ‹_› ‹_› ‹_› ‹_›) | (exact .yld _ _ _ ‹_›) | exact .nilfn)
/-- What may lie in one cell is one cell in the model too. -/
theorem rep_oneCell {x : VV} {v : Value} (h : Rep M ρ x v) (hx : oneCell x = true) : v.oneCell' = true ∧ v.cells = #[v] ∧ cellsOf x = [x] := by
  cases h with
  | raw v =>
    unfold oneCell at hx
    split at hx <;> simp_all [Value.oneCell', Value.cells, cellsOf]
    split at hx <;> simp_all
  | _ => simp_all [oneCell, Value.oneCell', Value.cells, cellsOf]
/-- A value's cells, where each of them may lie in a cell. -/
theorem rep_cells' {x : VV} {v : Value} (h : Rep M ρ x v) (hx : (cellsOf x).all oneCell = true) : RepL M ρ (cellsOf x) v.cells.toList := by
  by_cases ha : ∃ cs, x = .agg cs
  · obtain ⟨cs, rfl⟩ := ha
    cases h with
    | agg cs vs hl h => exact ⟨by simpa [cellsOf, Value.cells] using hl, by simpa [cellsOf, Value.cells] using h⟩
  · have hc : cellsOf x = [x] := by cases x <;> simp_all [cellsOf]
    rw [hc] at hx ⊢
    obtain ⟨_, hv, _⟩ := rep_oneCell h (by simpa using hx)
    rw [hv]
    exact .cons h .nil
theorem repL_oneCell {cs : List VV} {vs : List Value} (h : RepL M ρ cs vs) (hx : cs.all oneCell = true) : ∀ v ∈ vs, v.oneCell' = true := by
  intro v hv
  obtain ⟨i, hi⟩ := List.mem_iff_getElem?.1 hv
  have hlt : i < cs.length := by
    have := (List.getElem?_eq_some_iff.1 hi).1
    rw [h.1]; exact this
  have := h.2 i cs[i] v (List.getElem?_eq_getElem hlt) hi
  exact (rep_oneCell this (List.all_eq_true.1 hx _ (List.getElem_mem hlt))).1

/-! ### a part of a struct or an array -/
theorem part_sound {t : TypeId} {d : TyD} (ht : tyd P t = some d) {xs : List VV} {cs : Array Value} (h : RepL M ρ xs cs.toList) {off : Nat} {v : VV}
    (hv : ofCells d.isAgg ((xs.drop off).take d.size) = some v) : ∃ val, (part t cs off).run P w = .ok val w ∧ Rep M ρ v val := by
  simp only [part, Sem.run_bind, run_isAgg_ty ht, Result.andThen_ok]
  cases ha : d.isAgg with
  | true =>
    simp only [ha, ofCells, if_true, Option.some.injEq] at hv
    subst hv
    simp only [if_true, Sem.run_bind, run_sizeOf_ty ht, Result.andThen_ok, Sem.run_pure]
    refine ⟨_, rfl, .agg _ _ ?_ fun i c u hc hu => ?_⟩
    · have := h.1
      simp at this ⊢
      omega
    · have := ((h.drop off).take d.size).2 i c u hc
      apply this
      simp only [Array.getElem?_extract] at hu
      simp only [List.getElem?_take, List.getElem?_drop, Array.getElem?_toList]
      split at hu
      · rename_i hi
        rw [if_pos (by omega)]; exact hu
      · cases hu
  | false =>
    simp only [ha, ofCells, Bool.false_eq_true, if_false] at hv
    split at hv
    · rename_i x hx
      simp only [Option.some.injEq] at hv
      subst hv
      have h0 : xs[off]? = some x := by
        have := congrArg (·[0]?) hx
        simp only [List.getElem?_take, List.getElem?_drop, Nat.add_zero, List.getElem?_cons_zero] at this
        split at this
        · exact this
        · cases this
      obtain ⟨val, h1, h2⟩ := h.get h0
      simp only [Array.getElem?_toList] at h1
      simp only [Bool.false_eq_true, if_false, h1, Sem.run_pure]
      exact ⟨val, rfl, h2⟩
    · cases hv
end
end Go.Sx
