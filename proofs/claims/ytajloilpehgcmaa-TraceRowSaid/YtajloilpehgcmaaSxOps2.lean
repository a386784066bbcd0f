/- The executor's single operations are the model's: comparisons and arithmetic. Conditions: none. -/
import Derived.Test.YtajloilpehgcmaaSxOps
set_option linter.unusedVariables false
set_option linter.unusedSimpArgs false
set_option linter.unusedSectionVars false

namespace Go.Sx
section
variable {M : Mem} {ρ : Rho} {w : World} {cx : Cx Int Bool}

theorem bi_and (e b : Bool) : bi e b false = (e && b) := by cases e <;> rfl

/-- Array elements compared, one by one. -/
def eqElems (P : Program) (D : Nat) (e : TypeId) (n : Nat) (xs ys : Array Value) : List Nat → Sem Bool
  | [] => pure true
  | i :: l => do
    let a ← part e xs (i * n)
    let b ← part e ys (i * n)
    let r ← Op.equalIn D e a b
    if (!r) = true then pure false else eqElems P D e n xs ys l
theorem run_equalIn_array (D : Nat) (t e : TypeId) (len n : Nat) (xs ys : Array Value) (ht : cx.P.underlying t = some (.array len e)) {ed : TyD} (he : tyd cx.P e = some ed) (hn : ed.size = n) :
    (Op.equalIn (D + 1) t (.agg xs) (.agg ys)).run cx.P w = (eqElems cx.P D e n xs ys (List.range len)).run cx.P w := by
  simp only [Op.equalIn, Sem.run_bind, run_und ht, Result.andThen_ok, run_sizeOf_ty he, hn]
  rw [Std.Legacy.Range.forIn_eq_forIn_range']
  simp only [Std.Legacy.Range.size, Nat.sub_zero, Nat.add_sub_cancel, Nat.div_one]
  rw [List.range_eq_range']
  generalize List.range' 0 len = l
  clear ht he hn
  induction l generalizing w with
  | nil => simp [eqElems]
  | cons i l ih =>
    simp only [List.forIn_cons, eqElems, Sem.run_bind]
    generalize (part e xs (i * n)).run cx.P w = r1
    cases r1 with
    | ok a w1 =>
      simp only [Result.andThen_ok]
      generalize (part e ys (i * n)).run cx.P w1 = r2
      cases r2 with
      | ok b w2 =>
        simp only [Result.andThen_ok]
        generalize (Op.equalIn D e a b).run cx.P w2 = r3
        cases r3 with
        | ok r w3 =>
          cases r
          · simp only [Result.andThen_ok, Bool.not_false, if_true, Sem.run_pure]
          · simp only [Result.andThen_ok, Bool.not_true, Bool.false_eq_true, if_false, Sem.run_pure]
            exact ih
        | halt x w3 => simp [Result.andThen]
      | halt x w2 => simp [Result.andThen]
    | halt x w1 => simp [Result.andThen]

theorem eqV_sound : ∀ (d : Nat) (t : TypeId) (x y : VV) (s e : Bool), eqV cx d t x y = some (s, e) → ∀ (a b : Value), Rep M ρ x a → Rep M ρ y b → ∀ D, d ≤ D →
    (Op.equalIn D t a b).run cx.P w = .ok e w := by
  intro d
  induction d with
  | zero => intro t x y s e h; simp [eqV] at h
  | succ d ih =>
    intro t x y s e h a b ha hb D hD
    obtain ⟨D, rfl⟩ : ∃ k, D = k + 1 := ⟨D - 1, by omega⟩
    have hD' : d ≤ D := by omega
    unfold eqV at h
    split at h
    · cases h
    rename_i td ht
    split at h
    · -- bool
      rename_i hk
      simp only [Option.some.injEq, Prod.mk.injEq, alg_be] at h
      obtain ⟨-, rfl⟩ := h
      cases ha; cases hb
      simp [Op.equalIn, run_und (und_bool ht hk)]
    · -- int
      rename_i hk
      split at h
      · rename_i hkk
        subst hkk
        simp only [Option.some.injEq, Prod.mk.injEq, alg_cmp] at h
        obtain ⟨-, rfl⟩ := h
        cases ha; cases hb
        simp [Op.equalIn, run_und (und_int ht hk), cmp]
      · cases h
    · -- struct
      rename_i fs xs ys hk
      split at h
      · cases h
      rename_i hst
      obtain ⟨fields, hu, rfl⟩ := und_str ht hk
      cases ha with
      | agg _ vx hlx hx =>
      cases hb with
      | agg _ vy hly hy =>
      have hxs : RepL M ρ xs vx.toList := ⟨by simpa using hlx, by simpa using hx⟩
      have hys : RepL M ρ ys vy.toList := ⟨by simpa using hly, by simpa using hy⟩
      have hf : cx.P.fieldsOf t = fields := by simp [Program.fieldsOf, hu]
      rw [run_equalIn_struct w D t vx vy (by rw [hf]; exact hu) (by simpa using hst), hf]
      generalize fields.toList = l at h
      clear hf hu hk ht hst
      induction l generalizing s e with
      | nil =>
        simp only [List.map_nil, List.foldr_nil, Option.some.injEq, Prod.mk.injEq, alg_blit] at h
        obtain ⟨-, rfl⟩ := h
        simp [Op.eqFields]
      | cons f l ihl =>
        simp only [List.map_cons, List.foldr_cons] at h
        unfold Op.eqFields
        by_cases hbl : f.name = "_"
        · simp only [hbl, beq_self_eq_true, if_true] at h
          simp only [hbl, ne_eq, not_true_eq_false, if_false]
          exact ihl s e h
        · have hb' : (f.name == "_") = false := by simpa using hbl
          simp only [hb', Bool.false_eq_true, if_false] at h
          rw [if_pos hbl]
          split at h
          · rename_i fd sa ba hfd hacc
            split at h
            · rename_i u v hu hv
              split at h
              · rename_i s' e' he'
                obtain ⟨vu, hpu, hru⟩ := part_sound (w := w) hfd hxs hu
                obtain ⟨vv, hpv, hrv⟩ := part_sound (w := w) hfd hys hv
                have h1 := ih _ _ _ _ _ he' vu vv hru hrv D hD'
                have h2 := ihl sa ba hacc
                have hee : e = (e' && ba) := by
                  split at h <;> simp only [Option.some.injEq, Prod.mk.injEq, alg_bi, alg_blit, alg_bval, bi_and] at h <;> exact h.2.symm
                simp only [Sem.run_bind, hpu, hpv, h1, Result.andThen_ok, Sem.run_ite, Sem.run_pure]
                cases e'
                · simp [hee]
                · simp [hee, h2]
              · cases h
            · cases h
          · cases h
    · -- array
      rename_i n el xs ys hk
      split at h
      · cases h
      rename_i ed hed
      cases ha with
      | agg _ vx hlx hx =>
      cases hb with
      | agg _ vy hly hy =>
      have hxs : RepL M ρ xs vx.toList := ⟨by simpa using hlx, by simpa using hx⟩
      have hys : RepL M ρ ys vy.toList := ⟨by simpa using hly, by simpa using hy⟩
      rw [run_equalIn_array D t el n ed.size vx vy (und_arr ht hk) hed rfl]
      generalize List.range n = l at h
      induction l generalizing s e with
      | nil =>
        simp only [List.foldr_nil, Option.some.injEq, Prod.mk.injEq, alg_blit] at h
        obtain ⟨-, rfl⟩ := h
        simp [eqElems]
      | cons i l ihl =>
        simp only [List.foldr_cons] at h
        unfold eqElems
        split at h
        · rename_i sa ba hacc
          split at h
          · rename_i u v hu hv
            split at h
            · rename_i s' e' he'
              obtain ⟨vu, hpu, hru⟩ := part_sound (w := w) hed hxs hu
              obtain ⟨vv, hpv, hrv⟩ := part_sound (w := w) hed hys hv
              have h1 := ih _ _ _ _ _ he' vu vv hru hrv D hD'
              have h2 := ihl sa ba hacc
              have hee : e = (e' && ba) := by
                split at h <;> simp only [Option.some.injEq, Prod.mk.injEq, alg_bi, alg_blit, alg_bval, bi_and] at h <;> exact h.2.symm
              simp only [Sem.run_bind, hpu, hpv, h1, Result.andThen_ok, Sem.run_ite, Sem.run_pure]
              cases e'
              · simp [hee]
              · simp [hee, h2]
            · cases h
          · cases h
        · cases h
    · -- two nil pointers
      rename_i hk
      simp only [Option.some.injEq, Prod.mk.injEq, alg_blit] at h
      obtain ⟨-, rfl⟩ := h
      cases ha; cases hb
      simp [Op.equalIn, run_und (und_ptr ht hk)]
    · rename_i hk
      simp only [Option.some.injEq, Prod.mk.injEq, alg_blit] at h
      obtain ⟨-, rfl⟩ := h
      cases ha; cases hb
      simp [Op.equalIn, run_und (und_ptr ht hk)]
    · rename_i hk
      simp only [Option.some.injEq, Prod.mk.injEq, alg_blit] at h
      obtain ⟨-, rfl⟩ := h
      cases ha; cases hb
      simp [Op.equalIn, run_und (und_ptr ht hk)]
    · cases h

theorem eqV_shape {d : Nat} {t : TypeId} {x y : VV} {r : Bool × Bool} (h : eqV cx d t x y = some r) :
    (∃ s b s' b', x = .bool s b ∧ y = .bool s' b') ∨ (∃ k s b k' s' b', x = .int k s b ∧ y = .int k' s' b') ∨ (∃ xs ys, x = .agg xs ∧ y = .agg ys) ∨
    ((x = .nil ∨ ∃ n s o, x = .ptr n s o) ∧ (y = .nil ∨ ∃ n s o, y = .ptr n s o)) := by
  cases d with
  | zero => simp [eqV] at h
  | succ d =>
    unfold eqV at h
    split at h
    · cases h
    split at h
    · exact .inl ⟨_, _, _, _, rfl, rfl⟩
    · exact .inr (.inl ⟨_, _, _, _, _, _, rfl, rfl⟩)
    · exact .inr (.inr (.inl ⟨_, _, rfl, rfl⟩))
    · exact .inr (.inr (.inl ⟨_, _, rfl, rfl⟩))
    · exact .inr (.inr (.inr ⟨.inl rfl, .inl rfl⟩))
    · exact .inr (.inr (.inr ⟨.inr ⟨_, _, _, rfl⟩, .inl rfl⟩))
    · exact .inr (.inr (.inr ⟨.inl rfl, .inr ⟨_, _, _, rfl⟩⟩))
    · cases h
theorem eqGuard_ok {op : BinOp} {t : TypeId} {x y : VV} {a b : Value} (X Y : Operand) {d : Nat} {r : Bool × Bool} (h : eqV cx d t x y = some r)
    (hagg : ∀ xs, x = .agg xs → cx.P.eqGuardType cx.P.depth t = false) (ha : Rep M ρ x a) (hb : Rep M ρ y b) : (eqGuard op t X Y a b).run cx.P w = .ok () w := by
  unfold eqGuard
  rcases eqV_shape h with ⟨_, _, _, _, rfl, rfl⟩ | ⟨_, _, _, _, _, _, rfl, rfl⟩ | ⟨xs, ys, rfl, rfl⟩ | ⟨h1, h2⟩
  · cases ha; cases hb; split <;> simp
  · cases ha; cases hb; split <;> simp
  · have := hagg xs rfl
    cases ha; cases hb; split <;> simp [this]
  · rcases h1 with rfl | ⟨_, _, _, rfl⟩ <;> rcases h2 with rfl | ⟨_, _, _, rfl⟩ <;> cases ha <;> cases hb <;> split <;> simp

theorem binE_sound {op : BinOp} {t : TypeId} {x y v : VV} {a b : Value} (X Y : Operand) (h : Has (binE cx op t x y) v) (ha : Rep M ρ x a) (hb : Rep M ρ y b) :
    ∃ val, (do eqGuard op t X Y a b; binOp op t a b : Sem Value).run cx.P w = .ok val w ∧ Rep M ρ v val := by
  unfold binE at h
  split at h
  · -- numbers
    rename_i k s n k' s' n'
    cases ha; cases hb
    have hg : (eqGuard op t X Y (.int k n) (.int k' n')).run cx.P w = .ok () w := by
      unfold eqGuard
      split <;> simp
    simp only [Sem.run_bind, hg, Result.andThen_ok]
    have hshift : ∀ {op' : BinOp} {u : Unit}, (op' = .shl ∨ op' = .shr) → Has (must (s' || false) (Alg.cmp .geq n' (Alg.ilit Bool 0)) : EE Unit) u →
        (binOp op' t (.int k n) (.int k' n')).run cx.P w = .ok (.int k (sh op' k n n')) w := by
      intro op' u hop hm
      have h0 := has_must hm
      simp only [alg_cmp, cmp, alg_ilit, ge_iff_le, decide_eq_true_eq] at h0
      rcases hop with rfl | rfl <;> simp only [binOp, Op.shift] <;> rw [if_neg (by omega)] <;> rfl
    have hdiv : ∀ {op' : BinOp} {u : Unit}, (op' = .quo ∨ op' = .rem) → Has (must s' (Alg.cmp .neq n' (Alg.ilit Bool 0)) : EE Unit) u →
        (binOp op' t (.int k n) (.int k n')).run cx.P w = .ok (.int k (ar op' k n n')) w := by
      intro op' u hop hm
      have h0 := has_must hm
      simp only [alg_cmp, cmp, alg_ilit, bne_iff_ne, ne_eq] at h0
      rcases hop with rfl | rfl <;> simp [binOp, Op.intDiv, h0, ar]
    split at h
    · obtain ⟨_, hm, h2⟩ := has_bind h
      have := has_ret.1 h2
      subst this
      exact ⟨_, hshift (.inl rfl) hm, .int _ _ _⟩
    · obtain ⟨_, hm, h2⟩ := has_bind h
      have := has_ret.1 h2
      subst this
      exact ⟨_, hshift (.inr rfl) hm, .int _ _ _⟩
    · rcases has_if h with ⟨hk, h2⟩ | ⟨_, h2⟩
      · subst hk
        obtain ⟨_, hm, h3⟩ := has_bind h2
        have := has_ret.1 h3
        subst this
        exact ⟨_, hdiv (.inl rfl) hm, .int _ _ _⟩
      · exact absurd h2 has_fail
    · rcases has_if h with ⟨hk, h2⟩ | ⟨_, h2⟩
      · subst hk
        obtain ⟨_, hm, h3⟩ := has_bind h2
        have := has_ret.1 h3
        subst this
        exact ⟨_, hdiv (.inr rfl) hm, .int _ _ _⟩
      · exact absurd h2 has_fail
    · rcases has_if h with ⟨hk, h2⟩ | ⟨_, h2⟩
      · subst hk
        rcases has_if h2 with ⟨hop, h3⟩ | ⟨_, h3⟩
        · have := has_ret.1 h3
          subst this
          refine ⟨.int k (ar op k n n'), ?_, .int _ _ _⟩
          cases op <;> simp [arithB] at hop <;> simp [binOp, Op.intArith, Op.intBits, ar]
        · rcases has_if h3 with ⟨hop, h4⟩ | ⟨_, h4⟩
          · have := has_ret.1 h4
            subst this
            refine ⟨.bool (cmp op n n'), ?_, .bool _ _⟩
            cases op <;> simp [cmpB] at hop <;> simp [binOp, Op.intCmp, cmp]
          · exact absurd h4 has_fail
      · exact absurd h2 has_fail
  · -- others
    rename_i hint
    rcases has_if h with ⟨_, h2⟩ | ⟨hagg, h2⟩
    · exact absurd h2 has_fail
    have hagg' : ∀ xs, x = .agg xs → cx.P.eqGuardType cx.P.depth t = false := by
      rintro xs rfl
      simpa [isAggV] using hagg
    have hbin : ∀ {s e : Bool}, eqV cx 40 t x y = some (s, e) → (binOp .eql t a b).run cx.P w = .ok (.bool e) w ∧ (binOp .neq t a b).run cx.P w = .ok (.bool (!e)) w := by
      intro s e he
      have heq := eqV_sound (w := w) 40 t x y s e he a b ha hb Op.maxDepth (by decide)
      rcases eqV_shape he with ⟨_, _, _, _, rfl, rfl⟩ | ⟨_, _, _, _, _, _, rfl, rfl⟩ | ⟨xs, ys, rfl, rfl⟩ | ⟨h1, h2⟩
      · cases ha; cases hb; simp [binOp, Op.equal, heq]
      · exact absurd rfl (hint _ _ _ _ _ _ rfl)
      · cases ha; cases hb; simp [binOp, Op.equal, heq]
      · rcases h1 with rfl | ⟨_, _, _, rfl⟩ <;> rcases h2 with rfl | ⟨_, _, _, rfl⟩ <;> cases ha <;> cases hb <;> simp [binOp, Op.equal, heq]
    split at h2
    · split at h2
      · rename_i s e he
        have := has_ret.1 h2
        subst this
        simp only [Sem.run_bind, eqGuard_ok X Y he hagg' ha hb, Result.andThen_ok]
        exact ⟨_, (hbin he).1, .bool _ _⟩
      · exact absurd h2 has_fail
    · split at h2
      · rename_i s e he
        have := has_ret.1 h2
        subst this
        simp only [Sem.run_bind, eqGuard_ok X Y he hagg' ha hb, Result.andThen_ok]
        exact ⟨_, (hbin he).2, .bool _ _⟩
      · exact absurd h2 has_fail
    · exact absurd h2 has_fail

theorem unE_sound {op : UnOp} {x v : VV} {a : Value} (h : Has (unE op x) v) (ha : Rep M ρ x a) : ∃ val, (Op.unary op a).run cx.P w = .ok val w ∧ Rep M ρ v val := by
  unfold unE at h
  split at h
  · have := has_ret.1 h
    subst this
    cases ha
    refine ⟨_, ?_, .int _ _ _⟩
    simp [Op.unary, Op.intArith, ar]
  · have := has_ret.1 h
    subst this
    cases ha
    refine ⟨_, ?_, .int _ _ _⟩
    simp [Op.unary, Op.intBits, ar]
  · have := has_ret.1 h
    subst this
    cases ha
    exact ⟨_, rfl, .bool _ _⟩
  · exact absurd h has_fail

theorem convE_sound {src dst : TypeId} {x v : VV} {a : Value} (h : Has (convE cx src dst x) v) (ha : Rep M ρ x a) : ∃ val, (convert src dst a).run cx.P w = .ok val w ∧ Rep M ρ v val := by
  unfold convE at h
  replace h := has_bind h; obtain ⟨d1, h1, h⟩ := h
  replace h := has_bind h; obtain ⟨d2, h2, h⟩ := h
  have h1 := has_opt.1 h1
  have h2 := has_opt.1 h2
  obtain ⟨u, hu⟩ := und_any h1
  split at h
  · rename_i k' s n hk
    have := has_ret.1 h
    subst this
    cases ha
    refine ⟨_, ?_, .int _ _ _⟩
    simp only [convert, Sem.run_bind, run_und hu, run_und (und_int h2 hk), Result.andThen_ok]
    rfl
  · exact absurd h has_fail

theorem isAggV_iff {x : VV} : isAggV x = true ↔ ∃ cs, x = .agg cs := by
  cases x <;> simp [isAggV]

theorem fieldE_sound {t : TypeId} {x v : VV} {f : Nat} {a : Value} (h : Has (fieldE cx t x f) v) (ha : Rep M ρ x a) : ∃ val, (Instr.field t a f).run cx.P w = .ok val w ∧ Rep M ρ v val := by
  unfold fieldE at h
  replace h := has_bind h; obtain ⟨d, h1, h⟩ := h
  replace h := has_bind h; obtain ⟨fs, h2, h⟩ := h
  replace h := has_bind h; obtain ⟨fl, h3, h⟩ := h
  replace h := has_bind h; obtain ⟨fd, h4, h⟩ := h
  have h1 := has_opt.1 h1
  have h2 := has_opt.1 h2
  have h3 := has_opt.1 h3
  have h4 := has_opt.1 h4
  have hk : d.k = .str fs := by
    unfold fieldsOf at h2
    split at h2
    · rename_i hk; simp only [Option.some.injEq] at h2; rw [hk, h2]
    · cases h2
  obtain ⟨fields, hu, hf⟩ := und_str h1 hk
  subst hf
  simp only [List.getElem?_map, Option.map_eq_some_iff, Array.getElem?_toList] at h3
  obtain ⟨fi, hfi, rfl⟩ := h3
  split at h
  · rename_i cs
    rcases has_if h with ⟨hl, h⟩ | ⟨_, h⟩
    · have h := has_opt.1 h
      cases ha with
      | agg _ vs hl' hr =>
        obtain ⟨val, hp, hr'⟩ := part_sound (w := w) h4 (xs := cs) (cs := vs) ⟨by simpa using hl', by simpa using hr⟩ h
        refine ⟨val, ?_, hr'⟩
        simp only [Instr.field, Sem.run_bind, run_und hu, Result.andThen_ok, hfi, asAgg, Sem.run_pure]
        exact hp
    · exact absurd h has_fail
  · exact absurd h has_fail

theorem indexE_sound {t : TypeId} {x i v : VV} {a b : Value} (h : Has (indexE cx t x i) v) (ha : Rep M ρ x a) (hb : Rep M ρ i b) : ∃ val, (Instr.index t a b).run cx.P w = .ok val w ∧ Rep M ρ v val := by
  unfold indexE at h
  replace h := has_bind h; obtain ⟨⟨k, s, n⟩, h0, h⟩ := h
  replace h := has_bind h; obtain ⟨d, h1, h⟩ := h
  have h1 := has_opt.1 h1
  have hi : i = .int k s n := by
    unfold asI at h0
    split at h0
    · have := has_ret.1 h0
      simp only [Prod.mk.injEq] at this
      obtain ⟨rfl, rfl, rfl⟩ := this; rfl
    · exact absurd h0 has_fail
  subst hi
  cases hb
  dsimp only at h
  split at h
  · rename_i len e cs hk
    replace h := has_bind h; obtain ⟨ed, h2, h⟩ := h
    replace h := has_bind h; obtain ⟨j, h3, h⟩ := h
    have h2 := has_opt.1 h2
    obtain ⟨h3, h4⟩ := has_which h3
    rcases has_if h with ⟨hl, h⟩ | ⟨_, h⟩
    · have h := has_opt.1 h
      cases ha with
      | agg _ vs hl' hr =>
        obtain ⟨val, hp, hr'⟩ := part_sound (w := w) h2 (xs := cs) (cs := vs) ⟨by simpa using hl', by simpa using hr⟩ h
        refine ⟨val, ?_, hr'⟩
        simp only [Instr.index, Sem.run_bind, asIntOf, Sem.run_pure, run_und (und_arr h1 hk), Result.andThen_ok]
        rw [if_pos (by omega), Sem.run_bind, run_sizeOf_ty h2, Result.andThen_ok]
        rw [show n.toNat = j by omega]
        exact hp
    · exact absurd h has_fail
  · rename_i bs hk
    obtain ⟨_, h2, h3⟩ := has_bind h
    obtain ⟨_, h4, h5⟩ := has_bind h3
    have h2 := has_must h2
    have h4 := has_must h4
    simp only [alg_cmp, cmp, alg_ilit, ge_iff_le, decide_eq_true_eq] at h2 h4
    have := has_ret.1 h5
    subst this
    cases ha
    have hlt : n.toNat < bs.size := by omega
    refine ⟨.int .u8 (byt bs n), ?_, .int _ _ _⟩
    simp only [Instr.index, Sem.run_bind, asIntOf, Sem.run_pure, run_und (und_strg h1 hk), Result.andThen_ok, if_pos h2, getElem?_pos bs n.toNat hlt, byt, Option.map_some, Option.getD_some]
  · exact absurd h has_fail

theorem pickE_sound {c a b v : VV} {vc va vb : Value} (h : Has (pickE c a b) v) (hc : Rep M ρ c vc) (ha : Rep M ρ a va) (hb : Rep M ρ b vb) :
    ∃ x, vc = .bool x ∧ Rep M ρ v (if x then va else vb) := by
  unfold pickE at h
  split at h
  · have := has_ret.1 h
    subst this
    cases hc
    refine ⟨_, rfl, ?_⟩
    simp only [alg_bval]
    split <;> assumption
  · split at h
    · have := has_ret.1 h
      subst this
      cases hc; cases ha; cases hb
      refine ⟨_, rfl, ?_⟩
      simp only [alg_bi, bi]
      split
      · rename_i hx; simp only [hx, cond_true]; exact .bool _ _
      · rename_i hx
        simp only [Bool.not_eq_true] at hx
        simp only [hx, cond_false]; exact .bool _ _
    · rcases has_if h with ⟨hk, h⟩ | ⟨_, h⟩
      · have := has_ret.1 h
        subst this hk
        cases hc; cases ha; cases hb
        refine ⟨_, rfl, ?_⟩
        simp only [alg_ii, ii]
        split
        · rename_i hx; simp only [hx, cond_true]; exact .int _ _ _
        · rename_i hx
          simp only [Bool.not_eq_true] at hx
          simp only [hx, cond_false]; exact .int _ _ _
      · exact absurd h has_fail
    · exact absurd h has_fail
  · exact absurd h has_fail
end
end Go.Sx
