/- Regions in the order of their text: the whole of it. Conditions: none. -/
import Derived.Test.YtajloilpehgcmaaSxReg4
set_option linter.unusedVariables false
set_option linter.unusedSimpArgs false
set_option linter.unusedSectionVars false

namespace Go.Sx
section
variable {X : Nm → Prop} {M M' : Mem} {ρ ρ' : Rho} {w w' : World} {cx : Cx Int Bool} {H H' H2 Hc K : HH} {F : Fence} {n : Nat} {inR : Bool}
variable {rc : Rec Int Bool} {ops : Array Oper} {px : Nm} {T : List (Nat × Bool)} {ts ts' ts1 : List VV} {o : Oper} {v : VV} {q nd : Bool} {k : Nat} {done : List Nat}

theorem guard_open {g : Bool} (h : Has (guardE q ops ts o) (ts1, .opn T g)) : q = true ∧ ts1 = ts ∧ ∃ j want tj, o.guard = some (j, want) ∧ dstOf ops j = some tj ∧
    ((∃ b, getT ts tj = .bool true b ∧ T = [(j, want)] ∧ g = (b == want)) ∨ ∃ tg g0 s b, getT ts tj = .may tg g0 (.bool s b) ∧ T = (j, want) :: tg ∧ g = bi g0 (b == want) false) := by
  unfold guardE at h
  split at h
  · have := has_ret.1 h
    simp only [Prod.mk.injEq, reduceCtorEq, and_false] at this
  · rename_i j want hg
    split at h
    · exact absurd h has_fail
    · rename_i tj hj
      split at h
      · have := has_ret.1 h
        simp only [Prod.mk.injEq] at this
        have h2 := this.2
        split at h2 <;> cases h2
      · rename_i b hb
        rcases has_if h with ⟨hq, h2⟩ | ⟨_, h2⟩
        · have := has_ret.1 h2
          simp only [Prod.mk.injEq, GR.opn.injEq, alg_be, alg_blit] at this
          obtain ⟨rfl, rfl, rfl⟩ := this
          exact ⟨hq, rfl, j, want, tj, hg, hj, .inl ⟨b, hb, rfl, rfl⟩⟩
        · obtain ⟨x, h3, h4⟩ := has_bind h2
          have := has_ret.1 h4
          simp only [Prod.mk.injEq] at this
          have h2 := this.2
          split at h2 <;> cases h2
      · rename_i tg g0 s b hb
        rcases has_if h with ⟨hq, h2⟩ | ⟨_, h2⟩
        · have := has_ret.1 h2
          simp only [Prod.mk.injEq, GR.opn.injEq, alg_be, alg_blit, alg_bi] at this
          obtain ⟨rfl, rfl, rfl⟩ := this
          exact ⟨hq, rfl, j, want, tj, hg, hj, .inr ⟨tg, g0, s, b, hb, rfl, rfl⟩⟩
        · exact absurd h2 has_fail
      · have := has_ret.1 h
        simp only [Prod.mk.injEq, reduceCtorEq, and_false] at this
      · exact absurd h has_fail
theorem guard_quiet {gr : GR Bool} (hq : q = true) (h : Has (guardE q ops ts o) (ts1, gr)) : ts1 = ts := by
  unfold guardE at h
  split at h
  · have := has_ret.1 h
    simp only [Prod.mk.injEq] at this
    exact this.1.symm
  · split at h
    · exact absurd h has_fail
    · split at h
      · have := has_ret.1 h
        simp only [Prod.mk.injEq] at this
        exact this.1.symm
      · rw [if_pos hq] at h
        have := has_ret.1 h
        simp only [Prod.mk.injEq] at this
        exact this.1.symm
      · rw [if_pos hq] at h
        have := has_ret.1 h
        simp only [Prod.mk.injEq] at this
        exact this.1.symm
      · have := has_ret.1 h
        simp only [Prod.mk.injEq] at this
        exact this.1.symm
      · exact absurd h has_fail

theorem uniqW_eq {j i : Nat} {d : Tmp} (h : uniqW ops j = true) (hi : dstOf ops i = some d) (hj : dstOf ops j = some d) : i = j := by
  unfold uniqW at h
  rw [List.all_eq_true] at h
  have hlt : i < ops.size := by
    unfold dstOf at hi
    cases hq : ops[i]? with
    | none => rw [hq] at hi; simp at hi
    | some o => exact (Array.getElem?_eq_some_iff.1 hq).1
  have := h i (List.mem_range.2 hlt)
  simp only [Bool.or_eq_true, Nat.beq_eq, Bool.not_eq_true', beq_eq_false_iff_ne, ne_eq] at this
  rcases this with h | h
  · exact h
  · exact absurd (by rw [hi, hj]) h

/-- Elsewhere nothing changes. -/
theorem tagV_put {x : VV} {d : Option Tmp} (h : TagV ops ts done) (hk : k ∉ done) (hd : dstOf ops k = d)
    (hx : ∀ tg g u, x = .may tg g u → (∀ p ∈ tg, p.1 ∈ done ∧ uniqW ops p.1 = true ∧ ∃ tj, dstOf ops p.1 = some tj ∧ GuardLike ts tj) ∧ (g = true ↔ HoldsV ops ts tg)) : TagV ops (putT ts d x) (k :: done) := by
  have other : ∀ p : Nat × Bool, p.1 ∈ done → uniqW ops p.1 = true → ∀ tj, dstOf ops p.1 = some tj → getT (putT ts d x) tj = getT ts tj := by
    intro p hp hu tj hj
    cases d with
    | none => rfl
    | some d =>
      rw [getT_put, if_neg]
      rintro ⟨rfl, _⟩
      exact hk (by rw [uniqW_eq hu hd hj]; exact hp)
  have conv : ∀ (tg : List (Nat × Bool)) (g : Bool), ((∀ p ∈ tg, p.1 ∈ done ∧ uniqW ops p.1 = true ∧ ∃ tj, dstOf ops p.1 = some tj ∧ GuardLike ts tj) ∧ (g = true ↔ HoldsV ops ts tg)) →
      ((∀ p ∈ tg, p.1 ∈ k :: done ∧ uniqW ops p.1 = true ∧ ∃ tj, dstOf ops p.1 = some tj ∧ GuardLike (putT ts d x) tj) ∧ (g = true ↔ HoldsV ops (putT ts d x) tg)) := by
    rintro tg g ⟨h1, h2⟩
    refine ⟨fun p hp => ?_, ?_⟩
    · obtain ⟨h3, h4, tj, h5, h6⟩ := h1 p hp
      refine ⟨by simp [h3], h4, tj, h5, ?_⟩
      unfold GuardLike
      rw [other p h3 h4 tj h5]; exact h6
    · rw [h2]
      constructor
      · intro h p hp
        obtain ⟨h3, h4, _⟩ := h1 p hp
        obtain ⟨tj, h5, h6⟩ := h p hp
        exact ⟨tj, h5, by rw [other p h3 h4 tj h5]; exact h6⟩
      · intro h p hp
        obtain ⟨h3, h4, _⟩ := h1 p hp
        obtain ⟨tj, h5, h6⟩ := h p hp
        exact ⟨tj, h5, by rw [other p h3 h4 tj h5] at h6; exact h6⟩
  intro t tg g u ht
  cases d with
  | none => exact conv tg g (h t tg g u ht)
  | some d =>
    rw [getT_put] at ht
    split at ht
    · exact conv tg g (hx tg g u ht)
    · exact conv tg g (h t tg g u ht)

theorem step_tags (h : Has (stepOp cx rc q ops px k ts H) (ts', H')) (hi : TagInv q nd ops ts done)
    (hk : (q && nd) = true → k ∉ done ∧ ∀ o j want, ops[k]? = some o → o.guard = some (j, want) → j ∈ done ∧ uniqW ops j = true) : TagInv q nd ops ts' (k :: done) := by
  intro hnd
  obtain ⟨hT, hN⟩ := hi hnd
  obtain ⟨o, ts1, gr, ho, hg, hc⟩ := step_cases h
  have hd : dstOf ops k = o.dst := by simp [dstOf, ho]
  cases q with
  | false =>
    have hN := hN rfl
    have hN1 : ∀ t, NotMay (getT ts1 t) := by
      intro t
      rcases (guard_refines hg).2 t with h1 | ⟨b, _, h1⟩
      · rw [h1]; exact hN t
      · rw [h1]; intro tg g u he; cases he
    have hput : ∀ x, NotMay x → ∀ t, NotMay (getT (putT ts1 o.dst x) t) := by
      intro x hx t
      cases o.dst with
      | none => exact hN1 t
      | some d =>
        rw [getT_put]
        split
        · exact hx
        · exact hN1 t
    have hall : ∀ t, NotMay (getT ts' t) := by
      rcases hc with ⟨_, rfl, _⟩ | ⟨_, v, hv, _, rfl⟩ | ⟨T, g, hgr, _⟩
      · exact hput _ (by intro tg g u he; cases he)
      · exact hput _ hv
      · subst hgr
        have := (guard_open hg).1
        cases this
    exact ⟨fun t tg g u he => absurd he (hall t tg g u), fun _ => hall⟩
  | true =>
    obtain ⟨hk1, hk2⟩ := hk (by rw [hnd]; rfl)
    have := guard_quiet rfl hg
    subst this
    refine ⟨?_, fun h => by cases h⟩
    rcases hc with ⟨_, rfl, _⟩ | ⟨_, v, hv, _, rfl⟩ | ⟨T, g, rfl, _, v, H2, _, rfl, _⟩
    · exact tagV_put hT hk1 hd (by intro tg g u he; cases he)
    · exact tagV_put hT hk1 hd (fun tg g u he => absurd he (hv tg g u))
    · refine tagV_put hT hk1 hd (fun tg' g' u he => ?_)
      simp only [V.may.injEq] at he
      obtain ⟨rfl, rfl, rfl⟩ := he
      obtain ⟨_, _, j, want, tj, hgd, hj, hcase⟩ := guard_open hg
      obtain ⟨hjd, hju⟩ := hk2 o j want ho hgd
      rcases hcase with ⟨b, hb, rfl, rfl⟩ | ⟨tg, g0, s, b, hb, rfl, rfl⟩
      · refine ⟨fun p hp => ?_, ?_⟩
        · simp only [List.mem_singleton] at hp
          subst hp
          exact ⟨hjd, hju, tj, hj, .inl ⟨_, _, hb⟩⟩
        · constructor
          · intro he p hp
            simp only [List.mem_singleton] at hp
            subst hp
            simp only [beq_iff_eq] at he
            subst he
            exact ⟨tj, hj, .inl ⟨_, hb⟩⟩
          · intro he
            obtain ⟨tj', h1, h2⟩ := he (j, want) (by simp)
            simp only at h1 h2
            rw [hj] at h1
            simp only [Option.some.injEq] at h1
            subst h1
            rw [hb] at h2
            rcases h2 with ⟨s, h2⟩ | ⟨tg, s, h2⟩
            · simp only [V.bool.injEq] at h2
              simp [h2.2]
            · cases h2
      · obtain ⟨t1, t2⟩ := hT tj tg g0 _ hb
        refine ⟨fun p hp => ?_, ?_⟩
        · simp only [List.mem_cons] at hp
          rcases hp with rfl | hp
          · exact ⟨hjd, hju, tj, hj, .inr ⟨_, _, _, _, hb⟩⟩
          · exact t1 p hp
        · constructor
          · intro he
            cases g0 with
            | false => simp [bi] at he
            | true =>
              simp only [bi, cond_true, beq_iff_eq] at he
              subst he
              intro p hp
              simp only [List.mem_cons] at hp
              rcases hp with rfl | hp
              · exact ⟨tj, hj, .inr ⟨_, _, hb⟩⟩
              · exact t2.1 rfl p hp
          · intro he
            have h0 : g0 = true := t2.2 fun p hp => he p (by simp [hp])
            subst h0
            obtain ⟨tj', h1, h2⟩ := he (j, want) (by simp)
            simp only at h1 h2
            rw [hj] at h1
            simp only [Option.some.injEq] at h1
            subst h1
            rw [hb] at h2
            rcases h2 with ⟨s, h2⟩ | ⟨tg', s', h2⟩
            · cases h2
            · simp only [V.may.injEq, V.bool.injEq] at h2
              simp [bi, h2.2.2.2]

theorem quiet_class (h : quietOp o = true) : effectOp o = false ∧ newOp o = false := by
  unfold quietOp at h
  split at h <;> rename_i ho <;> first | (simp [effectOp, newOp, ho]; done) | cases h

theorem step_grow (hG : RecGrow rc) (h : Has (stepOp cx rc q ops px k ts H) (ts', H')) : Grow H H' := by
  obtain ⟨o, ts1, gr, _, _, hc⟩ := step_cases h
  rcases hc with ⟨_, _, rfl⟩ | ⟨_, v, _, h1, _⟩ | ⟨T, g, _, _, v, H2, _, _, rfl⟩
  · exact .refl _
  · exact run_grow hG h1
  · exact .refl _
theorem runOps_grow (hG : RecGrow rc) : ∀ (l : List Nat) (ts : List VV) (H : HH), Has (runOps cx rc q ops px l ts H) (ts', H') → Grow H H'
  | [], ts, H, h => by
    have := has_ret.1 h
    simp only [Prod.mk.injEq] at this
    rw [this.2]; exact .refl _
  | k :: l, ts, H, h => by
    obtain ⟨⟨ts1, H1⟩, h1, h2⟩ := has_bind h
    exact (step_grow hG h1).trans (runOps_grow hG l _ _ h2)
theorem grow_none (h : Grow H H') {m : Nm} (hn : H'.get m = none) : H.get m = none := by
  cases hq : H.get m with
  | none => rfl
  | some e => exact absurd hn (h.names m (by simp [hq]))

theorem pick_needs {k : Nat} (ho : ops[k]? = some o) (h : ∃ c x y, o.op = .pick c x y) : needsT ops.toList = true := by
  obtain ⟨c, x, y, hop⟩ := h
  unfold needsT
  rw [List.any_eq_true]
  exact ⟨o, by rw [← Array.getElem?_toList] at ho; exact List.mem_of_getElem? ho, by simp [hop]⟩
theorem guard_needs {k : Nat} (ho : ops[k]? = some o) {g : Nat × Bool} (h : o.guard = some g) : needsT ops.toList = true := by
  unfold needsT
  rw [List.any_eq_true]
  exact ⟨o, by rw [← Array.getElem?_toList] at ho; exact List.mem_of_getElem? ho, by simp [h]⟩

theorem runOps_sound (hF : FenceOk F inR) (hR : RecOk cx.P rc) (hG : RecGrow rc) {Q : Exit → Act → World → Prop} : ∀ (l : List Nat) (done : List Nat) (ts : List VV) (H : HH) (a : Act) (w : World) (M : Mem) (ρ : Rho),
    Has (runOps cx rc q ops px l ts H) (ts', H') → ((q && needsT ops.toList) = true → guardsOk ops l done = true) → TagInv q (needsT ops.toList) ops ts done → RepL M ρ ts a.tmps.toList → Inv X M ρ H w → (∀ n, X n → H'.get n = none) →
    (∀ M' ρ' a' w', RepL M' ρ' ts' a'.tmps.toList → Inv X M' ρ' H' w' → Ext X H M ρ w M' ρ' w' → a'.defers = a.defers → Q .normal a' w') → wpOpsIn F n cx.P ops Q l a w
  | [], done, ts, H, a, w, M, ρ, h, _, _, hr, hI, _, hQ => by
    have := has_ret.1 h
    simp only [Prod.mk.injEq] at this
    obtain ⟨rfl, rfl⟩ := this
    exact hQ M ρ a w hr hI .refl rfl
  | k :: l, done, ts, H, a, w, M, ρ, h, hgo, hti, hr, hI, hx, hQ => by
    obtain ⟨⟨ts2, H2⟩, h1, h2⟩ := has_bind h
    dsimp only at h2
    have hgo' : (q && needsT ops.toList) = true → k ∉ done ∧ (∀ o j want, ops[k]? = some o → o.guard = some (j, want) → j ∈ done ∧ uniqW ops j = true) ∧ guardsOk ops l (k :: done) = true := by
      intro hqn
      have := hgo hqn
      unfold guardsOk at this
      simp only [Bool.and_eq_true, Bool.not_eq_true', List.contains_eq_mem, decide_eq_false_iff_not] at this
      refine ⟨this.1.1, fun o j want ho hg => ?_, this.2⟩
      have h3 := this.1.2
      rw [ho] at h3
      simp only [Option.bind_some, hg, Bool.and_eq_true, decide_eq_true_eq] at h3
      exact h3
    have hti2 : TagInv q (needsT ops.toList) ops ts2 (k :: done) := step_tags h1 hti fun hqn => ⟨(hgo' hqn).1, (hgo' hqn).2.1⟩
    have hgr := runOps_grow hG _ _ _ h2
    have hx2 : ∀ n, X n → H2.get n = none := fun n hn => grow_none hgr (hx n hn)
    have cont : ∀ M' ρ' a' w', RepL M' ρ' ts2 a'.tmps.toList → Inv X M' ρ' H2 w' → Ext X H M ρ w M' ρ' w' → a'.defers = a.defers → wpOpsIn F n cx.P ops Q l a' w' := by
      intro M1 ρ1 a1 w1 hr1 hI1 hE1 hd1
      refine runOps_sound hF hR hG l (k :: done) ts2 H2 a1 w1 M1 ρ1 h2 (fun hqn => (hgo' hqn).2.2) hti2 hr1 hI1 hx ?_
      intro M' ρ' a' w' e1 e2 e3 e4
      exact hQ M' ρ' a' w' e1 e2 (Ext.trans hI hE1 (step_grow hG h1) hx2 e3) (by rw [e4, hd1])
    obtain ⟨o, ts1, gr, ho, hg, hc⟩ := step_cases h1
    have href := guard_refines hg
    have hr1 := href.repL hr
    have hgs := guard_sound hg (a := a) (M := M) (ρ := ρ) (fun j want hgd tj hj => ⟨repL_getT hr tj, fun tg g v hm => by
      obtain ⟨t1, t2⟩ := (hti (guard_needs ho hgd)).1 tj tg g v hm
      rw [holds_iff (M := M) (ρ := ρ) (ts := ts) fun p hp => by
        obtain ⟨_, _, tj, h5, h6⟩ := t1 p hp
        exact ⟨tj, h5, h6, repL_getT hr tj⟩]
      exact t2.symm⟩)
    -- what the operands come to, once the guard has answered
    have hti1 : ∀ t tg g v, needsT ops.toList = true → getT ts1 t = .may tg g v → Holds ops a.tmps tg → g = true := by
      intro t tg g v hn hm hh
      have hm' : getT ts t = .may tg g v := by
        rcases href.2 t with h3 | ⟨b, _, h3⟩
        · rw [← h3]; exact hm
        · rw [h3] at hm; cases hm
      obtain ⟨t1, t2⟩ := (hti hn).1 t tg g v hm'
      rw [holds_iff (M := M) (ρ := ρ) (ts := ts) fun p hp => by
        obtain ⟨_, _, tj, h5, h6⟩ := t1 p hp
        exact ⟨tj, h5, h6, repL_getT hr tj⟩] at hh
      exact t2.2 hh
    have hev : EvOk (needsT ops.toList) ops ts1 a M ρ o.op.operands.toList :=
      evOk_intro (fun t _ => repL_getT hr1 t) fun hn t _ tg g v hm _ hh => hti1 t tg g v hn hm hh
    have hput : ∀ (d : Option Tmp) (v : Value), (a.put d v).defers = a.defers := by intro d v; cases d <;> rfl
    simp only [wpOpsIn, ho]
    rcases hc with ⟨rfl, rfl, rfl⟩ | ⟨rfl, v, hv, hrun, rfl⟩ | ⟨T, g, rfl, hqo, v, H3, hrun, rfl, rfl⟩
    · have hw : Region.wanted o (yielded ops a.tmps) = false := hgs
      rw [hw]
      exact ⟨about_ok hF, cont M ρ _ w (repL_put hr1 _ .undef) hI .refl (hput _ _)⟩
    · have hw : Region.wanted o (yielded ops a.tmps) = true := hgs
      rw [hw, if_pos rfl]
      cases hq : effectOp o with
      | true =>
        refine run_effect hF hR hq hrun hI hx2 (fun _ => rfl) (by intro p hp; simp at hp) hev ?_
        rintro val w' ⟨M', ρ', h3, h4, h5⟩
        exact cont M' ρ' _ w' (repL_put (hr1.mono h5.m h5.r) _ h3) h4 h5 (hput _ _)
      | false =>
        cases hn : newOp o with
        | true =>
          obtain ⟨h3, hd, cs, s, id, rfl, h5⟩ := run_new hn hrun
          have hX : ¬ X (k :: px) := notX hx2 (e := .row cs s id) (by rw [get_new]; simp)
          refine wpIn_does hF hd (h5 hI h3 hX (fun _ => rfl) (by intro p hp; simp at hp) hev) ?_
          intro val ρ' w' h6 h7 h8
          exact cont M ρ' _ w' (repL_put (hr1.mono h8.m h8.r) _ h6) h7 h8 (hput _ _)
        | false =>
          obtain ⟨rfl, hd, h5⟩ := run_quiet hq hn hrun
          refine wpIn_yields hF hd (h5 hI (fun _ => rfl) (pick_needs ho) (by intro p hp; simp at hp) (.refl _) hev) ?_
          intro val h6
          exact cont M ρ _ w (repL_put hr1 _ h6) hI .refl (hput _ _)
    · obtain ⟨hw, hh, _, j, want, tg, hgd, rfl⟩ := hgs
      rw [hw]
      cases g with
      | true =>
        rw [if_pos rfl]
        obtain ⟨hq1, hq2⟩ := quiet_class hqo
        obtain ⟨rfl, hd, h5⟩ := run_quiet hq1 hq2 hrun
        refine wpIn_yields hF hd (h5 hI (fun hf => by rw [guard_needs ho hgd] at hf; cases hf) (pick_needs ho) (hh rfl) (.refl _) hev) ?_
        intro val h6
        exact cont M ρ _ w (repL_put hr1 _ (.may _ _ _ _ (fun _ => h6) (fun h => by cases h))) hI .refl (hput _ _)
      | false =>
        exact ⟨about_ok hF, cont M ρ _ w (repL_put hr1 _ (.may _ _ _ _ (fun h => by cases h) (fun _ => rfl))) hI .refl (hput _ _)⟩
end
end Go.Sx
