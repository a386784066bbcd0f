/- One operation of a region, by its kind. Conditions: none. -/
import Derived.Test.YtajloilpehgcmaaSxReg2
set_option linter.unusedVariables false
set_option linter.unusedSimpArgs false
set_option linter.unusedSectionVars false

namespace Go.Sx
section
variable {X : Nm → Prop} {M : Mem} {ρ ρ' : Rho} {w w' : World} {cx : Cx Int Bool} {H H' H2 Hc K : HH} {F : Fence} {n : Nat} {inR : Bool}

theorem notDefer_pure {r : Operand → EE VV} {o : Oper} {m : EE VV} (hm : pureE cx r o = some m) : ∀ c, o.op ≠ .defer c := by
  intro c hc; simp [pureE, hc] at hm
theorem notDefer_read {r : Operand → EE VV} {o : Oper} {m : EE VV} (hm : readE cx H r o = some m) : ∀ c, o.op ≠ .defer c := by
  intro c hc; simp [readE, hc] at hm
theorem notDefer_new {nm : Nm} {r : Operand → EE VV} {o : Oper} {m : EE (VV × HH)} (hm : newE cx H nm r o = some m) : ∀ c, o.op ≠ .defer c := by
  intro c hc; simp [newE, hc] at hm
theorem notDefer_write {nm : Nm} {r : Operand → EE VV} {o : Oper} {m : EE (VV × HH)} (hm : writeE cx H nm r o = some m) : ∀ c, o.op ≠ .defer c := by
  intro c hc; simp [writeE, hc] at hm

theorem write_effect {nm : Nm} {r : Operand → EE VV} {o : Oper} {m : EE (VV × HH)} (hm : writeE cx H nm r o = some m) : effectOp o = true := by
  unfold writeE at hm
  split at hm
  · rename_i ho; simp [effectOp, ho]
  · rename_i ho; simp [effectOp, ho]
  · rename_i ho; simp [effectOp, ho]
  · cases hm
theorem new_newOp {nm : Nm} {r : Operand → EE VV} {o : Oper} {m : EE (VV × HH)} (hm : newE cx H nm r o = some m) : newOp o = true := by
  unfold newE at hm
  split at hm
  · rename_i ho; simp [newOp, ho]
  · rename_i ho; simp [newOp, ho]
  · rename_i ho; simp [newOp, ho]
  · rename_i ho; simp [newOp, ho]
  · cases hm

theorem opSees_congr {r r' : Operand → EE VV} {o : Oper} (h : ∀ x ∈ o.op.operands.toList, r x = r' x) (hs : OpSees Hc K r o) : OpSees Hc K r' o := by
  unfold OpSees at hs ⊢
  split
  · rename_i t x ho
    simp only [ho] at hs
    rw [← h x (by rw [ho]; simp [Op.operands])]; exact hs
  · rename_i t x i ho
    simp only [ho] at hs
    rw [← h x (by rw [ho]; simp [Op.operands])]; exact hs
  · rename_i t x lo hi mx ho
    simp only [ho] at hs
    rw [← h x (by rw [ho]; simp [Op.operands])]; exact hs
  · trivial

section
variable {rc : Rec Int Bool} {ops : Array Oper} {nm : Nm} {T : List (Nat × Bool)} {ts : List VV} {o : Oper} {v : VV}

/-- Where nothing is laid or written. -/
theorem run_quiet (hq : effectOp o = false) (hn : newOp o = false) (h : Has (runOp cx rc ops nm T ts Hc o) (v, H')) : H' = Hc ∧ (∀ c, o.op ≠ .defer c) ∧
    ∀ {X : Nm → Prop} {M : Mem} {ρ : Rho} {K : HH} {w : World} {a : Act} {nd : Bool}, Inv X M ρ K w → (nd = false → T = []) → ((∃ c x y, o.op = .pick c x y) → nd = true) → Holds ops a.tmps T →
      OpSees Hc K (operandE ts T) o → EvOk nd ops ts a M ρ o.op.operands.toList → Yields cx.P a.eval o w M ρ v := by
  unfold runOp at h
  split at h
  · rename_i c x y ho
    obtain ⟨u, h1, h2⟩ := has_bind h
    have := has_ret.1 h2
    simp only [Prod.mk.injEq] at this
    obtain ⟨rfl, rfl⟩ := this
    refine ⟨rfl, by simp [ho], ?_⟩
    intro X M ρ K w a nd hI hT hp hH hs he
    obtain ⟨b, hb, hr⟩ := pickOp_sound h1 hT (hp ⟨c, x, y, ho⟩) hH (by simpa [ho, Op.operands] using he)
    refine ⟨_, ?_, hr⟩
    simp [execOp, ho, hb, asBool]
  · rename_i f as ts' ho
    simp [effectOp, ho] at hq
  · dsimp only at h
    split at h
    · rename_i m hm
      obtain ⟨u, h1, h2⟩ := has_bind h
      have := has_ret.1 h2
      simp only [Prod.mk.injEq] at this
      obtain ⟨rfl, rfl⟩ := this
      refine ⟨rfl, notDefer_pure hm, ?_⟩
      intro X M ρ K w a nd hI hT hp hH hs he
      rw [pureE_congr o maskR_eq] at hm
      exact pure_sound hm h1 (maskR_rep (he T hT hH))
    · split at h
      · rename_i m hm
        obtain ⟨u, h1, h2⟩ := has_bind h
        have := has_ret.1 h2
        simp only [Prod.mk.injEq] at this
        obtain ⟨rfl, rfl⟩ := this
        refine ⟨rfl, notDefer_read hm, ?_⟩
        intro X M ρ K w a nd hI hT hp hH hs he
        rw [readE_congr o maskR_eq] at hm
        exact read_sound hI hm h1 (opSees_congr maskR_eq hs) (maskR_rep (he T hT hH))
      · split at h
        · rename_i m hm
          rw [new_newOp hm] at hn; cases hn
        · split at h
          · rename_i m hm
            rw [write_effect hm] at hq; cases hq
          · exact absurd h has_fail

/-- Where a row is laid. -/
theorem run_new (hn : newOp o = true) (h : Has (runOp cx rc ops nm T ts Hc o) (v, H')) : Hc.get nm = none ∧ (∀ c, o.op ≠ .defer c) ∧ ∃ cs s id, H' = Hc.new nm (.row cs s id) ∧
    ∀ {X : Nm → Prop} {M : Mem} {ρ : Rho} {K : HH} {w : World} {a : Act} {nd : Bool}, Inv X M ρ K w → K.get nm = none → ¬ X nm → (nd = false → T = []) → Holds ops a.tmps T →
      EvOk nd ops ts a M ρ o.op.operands.toList → Does X M ρ K w ((execOp a.eval o).run cx.P w) v (K.new nm (.row cs s id)) := by
  unfold runOp at h
  split at h
  · rename_i c x y ho
    simp [newOp, ho] at hn
  · rename_i f as ts' ho
    simp [newOp, ho] at hn
  · dsimp only at h
    split at h
    · rename_i m hm
      exfalso
      unfold newOp at hn
      split at hn <;> rename_i ho <;> first | (simp [pureE, ho] at hm; done) | (cases hn)
    · split at h
      · rename_i m hm
        exfalso
        unfold newOp at hn
        split at hn <;> rename_i ho <;> first | (simp [readE, ho] at hm; done) | (cases hn)
      · split at h
        · rename_i m hm
          obtain ⟨h1, cs, s, id, h2⟩ := new_shape hm h
          refine ⟨h1, notDefer_new hm, cs, s, id, h2, ?_⟩
          intro X M ρ K w a nd hI hK hX hT hH he
          have hm' := hm
          rw [newE_congr o maskR_eq] at hm'
          obtain ⟨_, cs', s', id', h3, h4⟩ := new_sound hI hK hX hm' h (maskR_rep (he T hT hH))
          rw [h2] at h3
          have h5 := congrArg (fun H => H.get nm) h3
          simp only [get_new, if_true, Option.some.injEq, Ent.row.injEq] at h5
          obtain ⟨rfl, rfl, rfl⟩ := h5
          exact h4
        · split at h
          · rename_i m hm
            exfalso
            unfold newOp at hn
            split at hn <;> rename_i ho <;> first | (simp [writeE, ho] at hm; done) | (cases hn)
          · exact absurd h has_fail

/-- Whatever it is, names stay. -/
theorem run_grow (hg : RecGrow rc) (h : Has (runOp cx rc ops nm T ts Hc o) (v, H')) : Grow Hc H' := by
  unfold runOp at h
  split at h
  · obtain ⟨u, h1, h2⟩ := has_bind h
    have := has_ret.1 h2
    simp only [Prod.mk.injEq] at this
    obtain ⟨_, rfl⟩ := this
    exact .refl _
  · obtain ⟨vf, h1, h2⟩ := has_bind h
    obtain ⟨vs, h3, h4⟩ := has_bind h2
    split at h4
    · exact hg.call _ _ _ _ _ _ h4
    · exact hg.yield _ _ _ _ _ _ h4
    · exact absurd h4 has_fail
  · dsimp only at h
    split at h
    · obtain ⟨u, h1, h2⟩ := has_bind h
      have := has_ret.1 h2
      simp only [Prod.mk.injEq] at this
      obtain ⟨_, rfl⟩ := this
      exact .refl _
    · split at h
      · obtain ⟨u, h1, h2⟩ := has_bind h
        have := has_ret.1 h2
        simp only [Prod.mk.injEq] at this
        obtain ⟨_, rfl⟩ := this
        exact .refl _
      · split at h
        · rename_i m hm
          obtain ⟨h1, cs, s, id, rfl⟩ := new_shape hm h
          exact .new h1
        · split at h
          · rename_i m hm
            exact write_grow hm h
          · exact absurd h has_fail

theorem about_ok (hF : FenceOk F inR) {P : Program} {a : Act} : ∀ f, o.about P w a.eval = some f → F.fn f := fun f _ => fence_fn hF f

/-- Out of what an operation does. -/
theorem wpIn_does (hF : FenceOk F inR) {P : Program} {a : Act} {next : Act → World → Prop} {Q : Exit → Act → World → Prop} (hd : ∀ c, o.op ≠ .defer c)
    (h : Does X M ρ H w ((execOp a.eval o).run P w) v H') (hn : ∀ val ρ' w', Rep M ρ' v val → Inv X M ρ' H' w' → Ext X H M ρ w M ρ' w' → next (a.put o.dst val) w') : o.wpIn F n P a w next Q := by
  refine ⟨about_ok hF, ?_⟩
  rw [Oper.semAt_eq _ _ _ hd]
  obtain ⟨val, ρ', w', h1, h2, h3, h4⟩ := h
  rcases h1 with h1 | ⟨h1, rfl⟩
  · rw [h1]; exact hn val ρ' w' h2 h3 h4
  · rw [h1]; exact hn undef ρ' w' h2 h3 h4
theorem wpIn_yields (hF : FenceOk F inR) {P : Program} {a : Act} {next : Act → World → Prop} {Q : Exit → Act → World → Prop} (hd : ∀ c, o.op ≠ .defer c)
    (h : Yields P a.eval o w M ρ v) (hn : ∀ val, Rep M ρ v val → next (a.put o.dst val) w) : o.wpIn F n P a w next Q := by
  refine ⟨about_ok hF, ?_⟩
  rw [Oper.semAt_eq _ _ _ hd]
  obtain ⟨val, h1, h2⟩ := h
  rw [h1]; exact hn val h2

/-- Where memory may be written, by a call or without one. -/
theorem run_effect (hF : FenceOk F inR) (hR : RecOk cx.P rc) (hq : effectOp o = true) (h : Has (runOp cx rc ops nm T ts Hc o) (v, H')) {a : Act} {nd : Bool} (hI : Inv X M ρ Hc w) (hx : ∀ n, X n → H'.get n = none)
    (hT : nd = false → T = []) (hH : Holds ops a.tmps T) (he : EvOk nd ops ts a M ρ o.op.operands.toList) {next : Act → World → Prop} {Q : Exit → Act → World → Prop}
    (hn : ∀ val w', Post X M ρ Hc w v H' val w' → next (a.put o.dst val) w') : o.wpIn F n cx.P a w next Q := by
  unfold runOp at h
  split at h
  · rename_i c x y ho
    simp [effectOp, ho] at hq
  · rename_i f as ts' ho
    obtain ⟨vf, h1, h2⟩ := has_bind h
    obtain ⟨vs, h3, h4⟩ := has_bind h2
    clear h h2
    have ev := he T hT hH
    have rf := ev f (by rw [ho]; simp [Op.operands, Call.operands]) vf h1
    have rs : RepL M ρ vs (as.map a.eval).toList := by
      have h3' : Has (E.map (maskR as.toList (operandE ts T)) as.toList) vs := by
        rw [← emap_congr maskR_eq]; exact h3
      have := opsRep_map (e := a.eval) (maskR_rep (xs := as.toList) fun x hx => ev x (by rw [ho]; simp [Op.operands, Call.operands]; exact .inr (by simpa using hx))) h3'
      simpa using this
    refine ⟨about_ok hF, ?_⟩
    rw [Oper.semAt_eq _ _ _ (by simp [ho])]
    split at h4
    · rename_i g first cap
      generalize hev : a.eval f = vv at rf
      cases rf with
      | fn _ _ _ vF vC hl hl' hh hh' =>
        have ra : RepL M ρ (first ++ vs ++ cap) ((vF ++ as.map a.eval) ++ vC).toList := by
          rw [Array.toList_append, Array.toList_append]
          exact (RepL.append ⟨by simpa using hl, by simpa using hh⟩ rs).append ⟨by simpa using hl', by simpa using hh'⟩
        obtain ⟨c1, c2⟩ := hR.call _ _ _ _ _ _ X M ρ w _ h4 hI ra hx
        have hrun : (execOp a.eval o).run cx.P w = .ok (.enter g ((vF ++ as.map a.eval) ++ vC)) w := by
          simp only [execOp, ho, resolve, hev, Deferred.ofValue, Sem.run_bind, Sem.run_pure, Result.andThen_ok, invoke]
          exact c1
        rw [hrun]
        refine ⟨by simp [fence_depth hF], CallsIn.mono (fence_calls hF (c2 (n - 1))) fun e w' he => ?_⟩
        obtain ⟨val, rfl, hp⟩ := he
        exact hn val w' hp
    · rename_i l
      generalize hev : a.eval f = vv at rf
      cases rf with
      | yld _ b z hr =>
        obtain ⟨f', tmps, as', bo, c1, c2⟩ := hR.yield _ _ _ _ _ _ X M ρ w (as.map a.eval) _ _ h4 hI rs hx hr
        have hrun : (execOp a.eval o).run cx.P w = .ok (.round b f' tmps as' bo) w := by
          simp only [execOp, ho, resolve, hev, Deferred.ofValue, Sem.run_bind, Sem.run_pure, Result.andThen_ok, invoke, Array.empty_append]
          exact c1
        rw [hrun]
        refine ⟨by simp [fence_depth hF], RoundIn.mono (fence_round hF (c2 (n - 1))) fun e w' he => ?_⟩
        obtain ⟨val, rfl, hp⟩ := he
        exact hn val w' hp
    · exact absurd h4 has_fail
  · rename_i hnp hnc
    dsimp only at h
    split at h
    · rename_i m hm
      exfalso
      unfold effectOp at hq
      split at hq
      · rename_i ho; simp [pureE, ho] at hm
      · rename_i ho; exact hnc _ _ _ ho
      · rename_i ho; simp [pureE, ho] at hm
      · rename_i ho; simp [pureE, ho] at hm
      · cases hq
    · split at h
      · rename_i m hm
        exfalso
        unfold readE at hm
        split at hm <;> rename_i ho <;> first | (simp [effectOp, ho] at hq; done) | cases hm
      · split at h
        · rename_i m hm
          exfalso
          unfold newE at hm
          split at hm <;> rename_i ho <;> first | (simp [effectOp, ho] at hq; done) | cases hm
        · split at h
          · rename_i m hm
            have hd := notDefer_write hm
            rw [writeE_congr o maskR_eq] at hm
            exact wpIn_does hF hd (write_sound hI hm h (maskR_rep (he T hT hH)) hx) fun val ρ' w' h1 h2 h3 => hn val w' ⟨M, ρ', h1, h2, h3⟩
          · exact absurd h has_fail
end
end
end Go.Sx
