/- The executor's single operations are the model's: all that touch no memory. Conditions: none. -/
import Derived.Test.YtajloilpehgcmaaSxOps2
set_option linter.unusedVariables false
set_option linter.unusedSimpArgs false
set_option linter.unusedSectionVars false

namespace Go.Sx

/-! ### cells set in a list -/
section
variable {α : Type}
theorem setCells_eq : ∀ (cs : List α) (k : Nat) (vs : List α), k + vs.length ≤ cs.length → setCells cs k vs = cs.take k ++ vs ++ cs.drop (k + vs.length)
  | cs, k, [], _ => by
    unfold setCells
    simp
  | [], k, v :: vs, h => by simp at h
  | c :: cs, 0, v :: vs, h => by
    have := setCells_eq cs 0 vs (by simp at h ⊢; omega)
    simp only [setCells, this, List.take_zero, List.nil_append, Nat.zero_add, List.cons_append, List.length_cons, List.drop_succ_cons]
  | c :: cs, k + 1, v :: vs, h => by
    have := setCells_eq cs k (v :: vs) (by simp at h ⊢; omega)
    simp only [setCells, this, List.take_succ_cons, List.cons_append, List.length_cons]
    rw [show k + 1 + (vs.length + 1) = (k + (vs.length + 1)) + 1 by omega, List.drop_succ_cons]
theorem setCells_length (cs : List α) (k : Nat) (vs : List α) (h : k + vs.length ≤ cs.length) : (setCells cs k vs).length = cs.length := by
  rw [setCells_eq cs k vs h]
  simp
  omega
/-- One by one it is the same. -/
theorem setCells_fold (off : Nat) : ∀ (vs : List α) (j : Nat) (cs : Array α), off + j + vs.length ≤ cs.size →
    ((vs.zipIdx j).foldl (fun (cs : Array α) (p : α × Nat) => cs.setIfInBounds (off + p.2) p.1) cs).toList = setCells cs.toList (off + j) vs
  | [], j, cs, _ => by simp [setCells]
  | v :: vs, j, cs, h => by
    simp only [List.length_cons] at h
    simp only [List.zipIdx_cons, List.foldl_cons]
    rw [setCells_fold off vs (j + 1) (cs.setIfInBounds (off + j) v) (by simp; omega)]
    rw [setCells_eq _ _ _ (by simp; omega), setCells_eq _ _ _ (by simp; omega)]
    simp only [Array.toList_setIfInBounds, List.length_cons]
    apply List.ext_getElem?
    intro i
    simp only [List.getElem?_append, List.getElem?_take, List.getElem?_drop, List.getElem?_set, List.length_take, List.length_append, List.length_set, Array.length_toList, List.length_cons,
      List.getElem?_cons]
    have e1 : min (off + (j + 1)) cs.size = off + (j + 1) := by omega
    have e2 : min (off + j) cs.size = off + j := by omega
    simp only [e1, e2]
    by_cases h1 : i < off + j
    · rw [if_pos (by omega), if_pos (by omega), if_pos (by omega), if_neg (by omega), if_pos (by omega), if_pos (by omega), if_pos (by omega)]
    · by_cases h2 : i = off + j
      · subst h2
        rw [if_pos (by omega), if_pos (by omega), if_pos (by omega), if_pos rfl, if_pos (by omega), if_pos (by omega), if_neg (by omega), if_pos (by omega)]
      · by_cases h3 : i < off + (j + 1) + vs.length
        · rw [if_pos (by omega), if_neg (by omega), if_pos (by omega), if_neg (by omega), if_neg (by omega)]
          rw [show i - (off + (j + 1)) = i - (off + j) - 1 by omega]
        · rw [if_neg (by omega), if_neg (by omega), if_neg (by omega)]
          rw [show off + (j + 1) + vs.length + (i - (off + (j + 1) + vs.length)) = off + j + (vs.length + 1) + (i - (off + j + (vs.length + 1))) by omega]
end

section
variable {M : Mem} {ρ : Rho} {w : World} {cx : Cx Int Bool}
theorem RepL.setCells {cs vs : List VV} {xs ys : List Value} {k : Nat} (h : RepL M ρ cs xs) (h' : RepL M ρ vs ys) (hk : k + vs.length ≤ cs.length) :
    RepL M ρ (setCells cs k vs) (setCells xs k ys) := by
  rw [setCells_eq cs k vs hk, setCells_eq xs k ys (by rw [← h.1, ← h'.1]; exact hk), h'.1]
  exact ((h.take k).append h').append (h.drop _)

/-- The parts of a literal. -/
def PartsRep (M : Mem) (ρ : Rho) (ps : List (Nat × VV)) (qs : List (Nat × Value)) : Prop :=
  ps.length = qs.length ∧ ∀ (i : Nat) p q, ps[i]? = some p → qs[i]? = some q → p.1 = q.1 ∧ Rep M ρ p.2 q.2
theorem fill_sound {place : Nat → Option (Nat × Nat)} : ∀ (ps : List (Nat × VV)) (qs : List (Nat × Value)) (cs : List VV) (xs : Array Value) (cs' : List VV),
    PartsRep M ρ ps qs → (∀ p ∈ ps, (cellsOf p.2).all oneCell = true) → RepL M ρ cs xs.toList → fillParts place cs ps = some cs' →
    ∃ xs', Instr.fill place xs qs = some xs' ∧ RepL M ρ cs' xs'.toList
  | [], qs, cs, xs, cs', hp, _, h, hf => by
    have : qs = [] := List.length_eq_zero_iff.1 (by have := hp.1; simpa using this.symm)
    subst this
    simp only [fillParts, Option.some.injEq] at hf
    subst hf
    exact ⟨xs, rfl, h⟩
  | (i, x) :: ps, qs, cs, xs, cs', hp, ho, h, hf => by
    obtain ⟨q, qs, rfl⟩ : ∃ q qs', qs = q :: qs' := by
      cases qs with
      | nil => have := hp.1; simp at this
      | cons q qs => exact ⟨q, qs, rfl⟩
    obtain ⟨j, v⟩ := q
    obtain ⟨hij, hxv⟩ := hp.2 0 (i, x) (j, v) rfl rfl
    dsimp only at hij hxv
    subst hij
    have hp' : PartsRep M ρ ps qs := ⟨by have := hp.1; simpa using this, fun k p q hpk hqk => hp.2 (k + 1) p q (by simpa using hpk) (by simpa using hqk)⟩
    unfold fillParts at hf
    cases hpl : place i with
    | none => simp [hpl] at hf
    | some os =>
      obtain ⟨off, size⟩ := os
      simp only [hpl] at hf
      split at hf
      · rename_i hc
        have hx1 := ho (i, x) (by simp)
        have hcells := rep_cells' hxv hx1
        have hlen : v.cells.size = size := by have := hcells.1; rw [hc.1] at this; simpa using this.symm
        have hxs : cs.length = xs.size := by simpa using h.1
        obtain ⟨xs', h1, h2⟩ := fill_sound ps qs (Go.Sx.setCells cs off (cellsOf x)) (v.cells.zipIdx.foldl (fun cs (p : Value × Nat) => cs.setIfInBounds (off + p.2) p.1) xs) cs' hp' (fun p hp => ho p (by simp [hp])) (by
          have e : (v.cells.zipIdx.foldl (fun cs (p : Value × Nat) => cs.setIfInBounds (off + p.2) p.1) xs).toList = Go.Sx.setCells xs.toList off v.cells.toList := by
            rw [← Array.foldl_toList, Array.toList_zipIdx]
            have := setCells_fold off v.cells.toList 0 xs (by simp; omega)
            simpa using this
          rw [e]
          exact h.setCells hcells (by rw [hc.1]; exact hc.2)) hf
        refine ⟨xs', ?_, h2⟩
        unfold Instr.fill
        simp only [hpl]
        rw [if_neg (by simp [hlen]; omega)]
        exact h1
      · cases hf

theorem run_mapM_list {α β : Type} (P : Program) (f : α → Sem β) (g : α → β) : ∀ (l : List α), (∀ a ∈ l, ∀ w : World, (f a).run P w = .ok (g a) w) → ∀ w : World, (l.mapM f).run P w = .ok (l.map g) w
  | [], _, w => by simp
  | a :: l, h, w => by
    rw [List.mapM_cons]
    simp only [Sem.run_bind, h a (by simp) w, Result.andThen_ok, run_mapM_list P f g l (fun b hb => h b (by simp [hb])) w, Sem.run_pure, List.map_cons]
theorem run_mapM_array {α β : Type} (P : Program) (f : α → Sem β) (g : α → β) (l : Array α) (h : ∀ a ∈ l.toList, ∀ w : World, (f a).run P w = .ok (g a) w) (w : World) :
    (l.mapM f).run P w = .ok (l.map g) w := by
  rw [Array.mapM_eq_mapM_toList]
  simp only [Sem.run_map, run_mapM_list P f g l.toList h w, Result.andThen_ok]
  congr 1
  apply Array.ext'
  simp

theorem zero_sound {t : TypeId} {d : TyD} {zs : List VV} (ht : tyd cx.P t = some d) (hz : zeroCells (I := Int) (B := Bool) d = some zs) :
    ∃ z, (zeroValue t).run cx.P w = .ok z w ∧ RepL M ρ zs z.cells.toList := by
  obtain ⟨i, u, hi, hu, -, -, -, hze⟩ := ty_facts ht
  unfold zeroCells at hz
  rw [hze] at hz
  cases hiz : i.zero with
  | none => simp [hiz] at hz
  | some z =>
    simp only [hiz, Option.map_some, Option.some.injEq] at hz
    subst hz
    exact ⟨z, by simp [zeroValue, run_typeInfo_ty hi, hiz], repL_zero _⟩

theorem buildE_sound {t : TypeId} {ps : List (Nat × VV)} {qs : List (Nat × Value)} {v : VV} (h : Has (buildE cx t ps) v) (hp : PartsRep M ρ ps qs) :
    ∃ val, (Instr.build t qs.toArray).run cx.P w = .ok val w ∧ Rep M ρ v val := by
  unfold buildE at h
  replace h := has_bind h; obtain ⟨d, h1, h⟩ := h
  have h1 := has_opt.1 h1
  replace h := has_if h; rcases h with ⟨_, h⟩ | ⟨hone, h⟩
  · exact absurd h has_fail
  have hone' : ∀ p ∈ ps, (cellsOf p.2).all oneCell = true := by
    simpa using hone
  split at h
  · rename_i fs hk
    obtain ⟨zs, hz, h'⟩ := has_bind h
    obtain ⟨cs, hc, h''⟩ := has_bind h'
    have hz := has_opt.1 hz
    have hc := has_opt.1 hc
    rcases has_if h'' with ⟨hall, h3⟩ | ⟨_, h3⟩
    · have := has_ret.1 h3
      subst this
      obtain ⟨fields, hu, hfs⟩ := und_str h1 hk
      obtain ⟨z, hzr, hzrep⟩ := zero_sound (M := M) (ρ := ρ) (w := w) h1 hz
      have hpl : ∀ f ∈ fields.toList, ∃ fd, tyd cx.P f.type = some fd := by
        intro f hf
        have := List.all_eq_true.1 hall { off := f.offset, ty := f.type, blank := f.name == "_" } (by rw [← hfs]; exact List.mem_map.2 ⟨f, hf, rfl⟩)
        simpa [Option.isSome_iff_exists, Cx.ty] using this
      let g : Field → Nat × Nat := fun f => (f.offset, ((tyd cx.P f.type).map (·.size)).getD 0)
      have hpm : (fields.mapM fun f => do pure (f.offset, ← sizeOf f.type) : Sem (Array (Nat × Nat))).run cx.P w = .ok (fields.map g) w := by
        refine run_mapM_array cx.P _ g fields (fun f hf w' => ?_) w
        obtain ⟨fd, hfd⟩ := hpl f hf
        simp [run_sizeOf_ty hfd, g, hfd]
      have hplace : fieldPlaces cx fs = fun i => (fields.map g)[i]? := by
        funext i
        unfold fieldPlaces
        rw [← hfs]
        simp only [List.getElem?_map, Array.getElem?_toList, Array.getElem?_map]
        cases hfi : fields[i]? with
        | none => simp
        | some f =>
          have hmem : f ∈ fields.toList := by
            have := List.mem_of_getElem? (l := fields.toList) (by simpa using hfi)
            exact this
          obtain ⟨fd, hfd⟩ := hpl f hmem
          simp [Cx.ty, hfd, g]
      rw [hplace] at hc
      obtain ⟨xs', h4, h5⟩ := fill_sound ps qs zs z.cells cs hp hone' hzrep hc
      refine ⟨.agg xs', ?_, .agg _ _ (by simpa using h5.1) (by simpa using h5.2)⟩
      simp only [Instr.build, Sem.run_bind, hzr, run_und hu, Result.andThen_ok, hpm, h4, Sem.run_pure]
    · exact absurd h3 has_fail
  · rename_i n e hk
    obtain ⟨ed, he, h'⟩ := has_bind h
    obtain ⟨zs, hz, h''⟩ := has_bind h'
    obtain ⟨cs, hc, h3⟩ := has_bind h''
    have he := has_opt.1 he
    have hz := has_opt.1 hz
    have hc := has_opt.1 hc
    have := has_ret.1 h3
    subst this
    obtain ⟨z, hzr, hzrep⟩ := zero_sound (M := M) (ρ := ρ) (w := w) h1 hz
    obtain ⟨xs', h4, h5⟩ := fill_sound ps qs zs z.cells cs hp hone' hzrep hc
    refine ⟨.agg xs', ?_, .agg _ _ (by simpa using h5.1) (by simpa using h5.2)⟩
    simp only [Instr.build, Sem.run_bind, hzr, run_und (und_arr h1 hk), Result.andThen_ok, run_sizeOf_ty he, h4, Sem.run_pure]
  · exact absurd h has_fail

theorem Addr.add_off (b o n : Nat) : (⟨b, o, none⟩ : Addr).add n = ⟨b, o + n, none⟩ := by
  unfold Addr.add
  split
  · rename_i h; subst h; rfl
  · rfl

theorem moveO_eq (s : Bool) (off : Int) (k : Nat) : moveO (B := Bool) s off k = off + (k : Int) := by
  unfold moveO
  split
  · simp only [alg_lin]; omega
  · rfl
theorem fieldAddrE_sound {t : TypeId} {p v : VV} {f : Nat} {a : Value} (h : Has (fieldAddrE cx t p f) v) (ha : Rep M ρ p a) :
    ∃ val, (Instr.fieldAt t a f).run cx.P w = .ok val w ∧ Rep M ρ v val := by
  unfold fieldAddrE at h
  replace h := has_bind h; obtain ⟨d, h1, h⟩ := h
  replace h := has_bind h; obtain ⟨fs, h2, h⟩ := h
  replace h := has_bind h; obtain ⟨fl, h3, h⟩ := h
  replace h := has_bind h; obtain ⟨fd, h4, h⟩ := h
  have h1 := has_opt.1 h1
  have h2 := has_opt.1 h2
  have h3 := has_opt.1 h3
  have h4 := has_opt.1 h4
  have hk : d.k = .str fs := by
    unfold fieldsOf at h2
    split at h2
    · rename_i hk; simp only [Option.some.injEq] at h2; rw [hk, h2]
    · cases h2
  obtain ⟨fields, hu, hf⟩ := und_str h1 hk
  subst hf
  simp only [List.getElem?_map, Option.map_eq_some_iff, Array.getElem?_toList] at h3
  obtain ⟨fi, hfi, rfl⟩ := h3
  replace h := has_if h; rcases h with ⟨_, h⟩ | ⟨hsz, h⟩
  · exact absurd h has_fail
  have hrun : ∀ b o, (Instr.fieldAt t (.pointer (some ⟨b, o, none⟩)) f).run cx.P w = .ok (.pointer (some ⟨b, o + fi.offset, none⟩)) w := by
    intro b o
    have hsz' : ¬ fd.size = 0 := hsz
    simp only [Instr.fieldAt, Sem.run_bind, run_und hu, Result.andThen_ok, hfi, Instr.sureAddr, Sem.run_pure, fieldPlace, run_sizeOf_ty h4, hsz', if_false, Addr.add_off]
  split at h
  · rename_i nm sp off
    have := has_ret.1 h
    subst this
    cases ha with
    | ptr _ _ _ b z hr h0 =>
      refine ⟨_, hrun b off.toNat, ?_⟩
      have := Rep.ptr (M := M) nm sp (off + (fi.offset : Int)) b z hr (by omega)
      rw [show (off + (fi.offset : Int)).toNat = off.toNat + fi.offset by omega] at this
      rw [moveO_eq]
      exact this
  · have := has_ret.1 h
    subst this
    cases ha with
    | eptr cs b o vs hm hr =>
      refine ⟨_, hrun b o, .eptr _ _ _ (fun i => vs (fi.offset + i)) (fun i x hx => ?_) (fun i x hx => ?_)⟩
      · rw [List.getElem?_drop] at hx
        have := hm _ x hx
        rwa [← Nat.add_assoc] at this
      · rw [List.getElem?_drop] at hx
        exact hr _ x hx
  · exact absurd h has_fail

theorem minmax_sound (b : Bool) : ∀ (l : List VV) (vs : List Value) (v : VV), Has (minmaxE b l) v → RepL M ρ l vs →
    ∃ val, ((match vs with | [] => stuck "max: at least one argument expected" | x :: rest => rest.foldlM (if b then Builtin.max2 else Builtin.min2) x) : Sem Value).run cx.P w = .ok val w ∧ Rep M ρ v val
  | [], vs, v, h, _ => by unfold minmaxE at h; exact absurd h has_fail
  | [x], vs, v, h, hl => by
    obtain ⟨y, rfl⟩ : ∃ y, vs = [y] := by
      have := hl.1
      match vs, this with
      | [y], _ => exact ⟨y, rfl⟩
    have hx := hl.of_cons.1
    unfold minmaxE at h
    split at h
    · exact absurd h has_fail
    · rename_i heq
      simp only [List.cons.injEq, and_true] at heq
      subst heq
      have := has_ret.1 h
      subst this
      exact ⟨y, by simp, hx⟩
    · rename_i heq
      simp at heq
    · exact absurd h has_fail
  | x :: x' :: l, vs, v, h, hl => by
    obtain ⟨y, y', vs, rfl⟩ : ∃ y y' vs', vs = y :: y' :: vs' := by
      have := hl.1
      match vs, this with
      | y :: y' :: vs, _ => exact ⟨y, y', vs, rfl⟩
    obtain ⟨hx, hl'⟩ := hl.of_cons
    obtain ⟨hx', hl''⟩ := hl'.of_cons
    unfold minmaxE at h
    split at h
    · exact absurd h has_fail
    · rename_i heq
      simp at heq
    · rename_i k s n k' s' m rest heq
      simp only [List.cons.injEq] at heq
      obtain ⟨rfl, rfl, rfl⟩ := heq
      rcases has_if h with ⟨hk, h2⟩ | ⟨_, h2⟩
      · subst hk
        cases hx; cases hx'
        have key : ∀ (val : Int), Has (minmaxE b (.int k (s || s') val :: l)) v → (if b then mx n m else mn n m) = val →
            ∃ u, (List.foldlM (if b then Builtin.max2 else Builtin.min2) (.int k n) (.int k m :: vs) : Sem Value).run cx.P w = .ok u w ∧ Rep M ρ v u := by
          intro val hv he
          obtain ⟨u, hu, hru⟩ := minmax_sound b (.int k (s || s') val :: l) (.int k val :: vs) v hv (.cons (.int _ _ _) hl'')
          refine ⟨u, ?_, hru⟩
          rw [List.foldlM_cons]
          have h2 : ((if b then Builtin.max2 else Builtin.min2) (.int k n) (.int k m) : Sem Value).run cx.P w = .ok (.int k val) w := by
            cases b
            · simp only [Bool.false_eq_true, if_false, Builtin.min2, Sem.run_pure]
              simp only [Bool.false_eq_true, if_false, mn] at he
              rw [he]
            · simp only [if_true, Builtin.max2, Sem.run_pure]
              simp only [if_true, mx] at he
              rw [he]
          simp only [Sem.run_bind, h2, Result.andThen_ok]
          exact hu
        dsimp only at h2 ⊢
        refine key _ h2 ?_
        simp only [alg_mx, alg_mn, alg_ilit, alg_ival, ite_self]
      · exact absurd h2 has_fail
    · exact absurd h has_fail
termination_by l => l.length
end
end Go.Sx
