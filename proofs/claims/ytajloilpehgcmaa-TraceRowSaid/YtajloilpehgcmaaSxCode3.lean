/- Rounds; the executor is sound. Conditions: none but what stands in 'TabOk' and in the statement's own words. -/
import Derived.Test.YtajloilpehgcmaaSxCode2
set_option linter.unusedVariables false
set_option linter.unusedSimpArgs false
set_option linter.unusedSectionVars false

namespace Go.Sx
section
variable {X X' : Nm → Prop} {M M' M0 : Mem} {ρ ρ' ρ0 : Rho} {w w' w0 : World} {cx : Cx Int Bool} {H H' H2 Hc K KD KD' H0 : HH} {F : Fence} {n : Nat} {inR : Bool}
variable {rc : Rec Int Bool} {ops : Array Oper} {px : Nm} {a a' : Act} {fid : FuncId} {st st' st1 : St Int Bool} {e : Ex} {P : Program}

theorem evYield_cases {nm l : Nm} {args : List VV} {v : VV} (h : Has (evYield rc nm l args H) (v, H')) : ∃ L st1 L1 st2 e2 L2, H.get l = some (.loop L) ∧ L.st = .ready ∧ args.length = L.ps.length ∧
    Has (rc.code L.fn (0 :: nm) true L.assign { ts := (L.ps.zip args).foldl (fun ts (p : Tmp × VV) => setT ts p.1 p.2) L.tmps, H := H, c := 0, marks := [] }) (.nrm, st1) ∧ st1.marks = [] ∧
    st1.H.get l = some (.loop L1) ∧ L1.st = .ready ∧
    Has (rc.code L.fn (1 :: nm) true L.body { ts := st1.ts, H := st1.H.upd l (.loop { L1 with st := .busy }), c := 0, marks := [] }) (e2, st2) ∧ st2.marks = [] ∧ st2.H.get l = some (.loop L2) ∧
    ((exJump e2 = none ∧ v = bl true ∧ H' = st2.H.upd l (.loop { L2 with st := .ready, pend := none })) ∨
      ∃ j, exJump e2 = some j ∧ v = bl false ∧ H' = st2.H.upd l (.loop { L2 with st := .done, pend := some j })) := by
  unfold evYield at h
  split at h
  · rename_i L hL
    rcases has_if h with ⟨⟨h1, h2⟩, h3⟩ | ⟨_, h3⟩
    · obtain ⟨⟨e1, st1⟩, h4, h5⟩ := has_bind h3
      dsimp only at h5
      split at h5
      · rename_i L1 hL1 hm1
        rcases has_if h5 with ⟨h6, h7⟩ | ⟨_, h7⟩
        · obtain ⟨⟨e2, st2⟩, h8, h9⟩ := has_bind h7
          dsimp only at h9
          split at h9
          · rename_i L2 hL2 hm2
            refine ⟨L, st1, L1, st2, e2, L2, hL, h1, h2, h4, hm1, hL1, h6, h8, hm2, hL2, ?_⟩
            split at h9
            · rename_i hj
              have := has_ret.1 h9
              simp only [Prod.mk.injEq] at this
              exact .inl ⟨hj, this.1.symm, this.2.symm⟩
            · rename_i j hj
              have := has_ret.1 h9
              simp only [Prod.mk.injEq] at this
              exact .inr ⟨j, hj, this.1.symm, this.2.symm⟩
          · exact absurd h9 has_fail
        · exact absurd h7 has_fail
      · exact absurd h5 has_fail
    · exact absurd h3 has_fail
  · exact absurd h has_fail

theorem evYield_grow (hG : RecGrow rc) {nm l : Nm} {args : List VV} {v : VV} (h : Has (evYield rc nm l args H) (v, H')) : Grow H H' := by
  obtain ⟨L, st1, L1, st2, e2, L2, _, _, _, h4, _, h6, _, h8, _, h10, h11⟩ := evYield_cases h
  have g1 := hG.code _ _ _ _ _ _ _ h4
  have g2 := hG.code _ _ _ _ _ _ _ h8
  have g : Grow H st2.H := (g1.trans (.upd ⟨_, h6, trivial⟩)).trans g2
  rcases h11 with ⟨_, _, rfl⟩ | ⟨j, _, _, rfl⟩
  · exact g.trans (.upd ⟨_, h10, trivial⟩)
  · exact g.trans (.upd ⟨_, h10, trivial⟩)

theorem params_rep : ∀ (ps : List Tmp) (args : List VV) (argv : List Value) (ts : List VV) (tmps : Array Value), RepL M ρ args argv → RepL M ρ ts tmps.toList →
    RepL M ρ ((ps.zip args).foldl (fun ts (p : Tmp × VV) => setT ts p.1 p.2) ts) ((ps.zip argv).foldl (fun (tmps : Array Value) (p : Tmp × Value) => tmps.setIfInBounds p.1 p.2) tmps).toList
  | [], _, _, _, _, _, h => by simpa using h
  | _ :: _, [], [], _, _, _, h => by simpa using h
  | _ :: _, [], _ :: _, _, _, h0, _ => by have := h0.1; simp at this
  | _ :: _, _ :: _, [], _, _, h0, _ => by have := h0.1; simp at this
  | p :: ps, x :: args, y :: argv, ts, tmps, h0, h => by
    obtain ⟨h1, h2⟩ := h0.of_cons
    simp only [List.zip_cons_cons, List.foldl_cons]
    refine params_rep ps args argv _ _ h2 ?_
    have := repL_put (a := { tmps := tmps, defers := [] }) h (some p) h1
    exact this

theorem evYield_sound (hR : RecOk cx.P rc) (hG : RecGrow rc) {nm l : Nm} {args : List VV} {v : VV} {argv : Array Value} {b z : Nat} (h : Has (evYield rc nm l args H) (v, H')) (hI : Inv X M ρ H w) (ha : RepL M ρ args argv.toList)
    (hx : ∀ n, X n → H'.get n = none) (hl : ρ l = some (b, z)) :
    ∃ f tmps assign body, (Instr.yield b argv).run cx.P w = .ok (.round b f tmps assign body) w ∧ ∀ n, RoundIn Fence.wide n cx.P b f tmps assign body w fun e w' => ∃ val, e = .returned val ∧ Post X M ρ H w v H' val w' := by
  obtain ⟨L, st1, L1, st2, e2, L2, h1, h2, h3, h4, h5, h6, h7, h8, h9, h10, h11⟩ := evYield_cases h
  obtain ⟨b', z', r, q1, q2, q3⟩ := hI.loop l L h1
  rw [hl] at q1
  simp only [Option.some.injEq, Prod.mk.injEq] at q1
  obtain ⟨rfl, rfl⟩ := q1
  have g1 := hG.code _ _ _ _ _ _ _ h4
  have g2 := hG.code _ _ _ _ _ _ _ h8
  have live1 : Live st1.H l := ⟨_, h6, trivial⟩
  have live2 : Live st2.H l := ⟨_, h10, trivial⟩
  have hx2 : ∀ m, X m → st2.H.get m = none := by
    intro m hm
    have := hx m hm
    rcases h11 with ⟨_, _, rfl⟩ | ⟨j, _, _, rfl⟩
    · exact grow_none (.upd live2) this
    · exact grow_none (.upd live2) this
  have hx1' : ∀ m, X m → (st1.H.upd l (.loop { L1 with st := .busy })).get m = none := fun m hm => grow_none g2 (hx2 m hm)
  have hx1 : ∀ m, X m → st1.H.get m = none := fun m hm => grow_none (.upd live1) (hx1' m hm)
  have hsz : argv.size = r.params.size := by
    have e1 : args.length = argv.size := by simpa using ha.1
    have e2 : r.params.size = L.ps.length := by rw [← q3.ps]; simp
    omega
  refine ⟨r.fn, (r.params.zip argv).foldl (fun tmps (t, a) => tmps.setIfInBounds t a) r.tmps, r.assign, r.body, ?_, fun n => ?_⟩
  · simp [Instr.yield, run_getLoop q2, hsz]
  · refine roundIn_of_wpIn trivial ?_
    have hF : FenceOk (Fence.wide.inRound b) true := ⟨b, rfl⟩
    have hs0 : StRep X M ρ { ts := (L.ps.zip args).foldl (fun ts (p : Tmp × VV) => setT ts p.1 p.2) L.tmps, H := H, c := 0, marks := [] } { tmps := (r.params.zip argv).foldl (fun tmps (t, a) => tmps.setIfInBounds t a) r.tmps, defers := [] } w := by
      refine ⟨?_, hI, trivial⟩
      have := params_rep (M := M) (ρ := ρ) L.ps args argv.toList L.tmps r.tmps ha q3.tmps
      rw [← q3.ps] at this
      dsimp only
      rw [← Array.foldl_toList, Array.toList_zip, ← q3.ps]
      exact this
    have wA := hR.code L.fn (0 :: nm) true L.assign _ .nrm st1 X M ρ _ w (Fence.wide.inRound b) n h4 hF hs0 hx1
    rw [q3.assign]
    refine wpIn_mono wA fun e1 a1 w1 hp => ?_
    obtain ⟨p1, M1, ρ1, p2, p3⟩ := hp
    have := exRep_nrm p1
    subst this
    -- the round begins
    obtain ⟨b1, z1, r1, q4, q5, q6⟩ := p2.inv.loop l L1 h6
    have hb1 := p3.r _ _ hl
    rw [q4] at hb1
    simp only [Option.some.injEq, Prod.mk.injEq] at hb1
    obtain ⟨rfl, rfl⟩ := hb1
    obtain ⟨s1, s2⟩ := Inv.setObj (e := .loop { L1 with st := .busy }) (o' := .loop { r1 with state := .busy }) p2.inv live1 q4 q5
      (fun L he => by
        simp only [Ent.loop.injEq] at he
        subst he
        exact ⟨_, rfl, q6.tmps, q6.ps, q6.assign, q6.body, rfl, q6.pend⟩) (fun cs s id he => by cases he) (fun he => by cases he)
    have hst : r1.state = .ready := by rw [q6.st]; exact h7
    refine ⟨{ w1 with heap := w1.heap.setIfInBounds b1 (.loop { r1 with state := .busy }) }, ?_, ?_⟩
    · simp only [Instr.beginRound, Sem.run_bind, run_getLoop q5, Result.andThen_ok, run_setObj q5 (by simp), hst, Sem.run_pure]
    · generalize hw2 : ({ w1 with heap := w1.heap.setIfInBounds b1 (.loop { r1 with state := .busy }) } : World) = w2 at *
      have hd : a1.defers = [] := by
        have := p2.marks
        rw [h5] at this
        cases hq : a1.defers with
        | nil => rfl
        | cons d ds => rw [hq] at this; exact this.elim
      have hs1 : StRep X M1 ρ1 { ts := st1.ts, H := st1.H.upd l (.loop { L1 with st := .busy }), c := 0, marks := [] } a1 w2 := ⟨p2.ts, s1, by rw [hd]; exact trivial⟩
      rw [q3.body]
      refine wpIn_mono (hR.code L.fn (1 :: nm) true L.body _ e2 st2 X M1 ρ1 a1 w2 (Fence.wide.inRound b1) n h8 hF hs1 hx2) fun e3 a3 w3 hp3 => ?_
      obtain ⟨t1, M3, ρ3, t2, t3⟩ := hp3
      obtain ⟨b3, z3, r3, q7, q8, q9⟩ := t2.inv.loop l L2 h10
      have hb3 := t3.r _ _ q4
      rw [q7] at hb3
      simp only [Option.some.injEq, Prod.mk.injEq] at hb3
      obtain ⟨rfl, rfl⟩ := hb3
      have x12 := p3.trans hI g1 hx1 s2
      have x123 := x12.trans hI (g1.trans (.upd live1)) hx1' t3
      have gg := (g1.trans (Grow.upd (x := .loop { L1 with st := .busy }) live1)).trans g2
      -- the round ends
      have fin : ∀ (jump : Option Code) (v' : VV) (H'' : HH) (stt : LoopState), stt = (if jump.isNone then .ready else .done) → v' = bl jump.isNone → H'' = st2.H.upd l (.loop { L2 with st := stt, pend := jump }) →
          ∃ val w', (Instr.endRound b3 jump).run cx.P w3 = .ok val w' ∧ ∃ val', Ending.returned val = .returned val' ∧ Post X M ρ H w v' H'' val' w' := by
        rintro jump v' H'' stt rfl rfl rfl
        obtain ⟨s3, s4⟩ := Inv.setObj (e := .loop { L2 with st := (if jump.isNone then .ready else .done), pend := jump }) (o' := .loop { r3 with state := (if jump.isNone then .ready else .done), pending := jump }) t2.inv live2 q7 q8
          (fun L he => by
            simp only [Ent.loop.injEq] at he
            subst he
            exact ⟨_, rfl, q9.tmps, q9.ps, q9.assign, q9.body, rfl, rfl⟩) (fun cs s id he => by cases he) (fun he => by cases he)
        refine ⟨.bool jump.isNone, _, ?_, .bool jump.isNone, rfl, M3, ρ3, .bool _ _, s3, x123.trans hI gg hx2 s4⟩
        simp only [Instr.endRound, Sem.run_bind, run_getLoop q8, Result.andThen_ok, run_setObj q8 (by simp), Sem.run_pure]
      rcases h11 with ⟨hj, rfl, rfl⟩ | ⟨j, hj, rfl, rfl⟩
      · cases e2 with
        | nrm =>
          have := exRep_nrm t1
          subst this
          obtain ⟨val, w', f1, f2⟩ := fin none _ _ .ready rfl rfl rfl
          exact ⟨val, w', f1, f2⟩
        | _ => cases hj
      · cases e2 with
        | nrm => cases hj
        | ret =>
          simp only [exJump, Option.some.injEq] at hj
          subst hj
          cases e3 with
          | ret =>
            obtain ⟨val, w', f1, f2⟩ := fin (some .ret) _ _ .done rfl rfl rfl
            exact ⟨val, w', f1, f2⟩
          | _ => exact t1.elim
        | exit i =>
          simp only [exJump, Option.some.injEq] at hj
          subst hj
          cases e3 with
          | exit i' =>
            have : i = i' := t1
            subst this
            obtain ⟨val, w', f1, f2⟩ := fin (some (.exit i)) _ _ .done rfl rfl rfl
            exact ⟨val, w', f1, f2⟩
          | _ => exact t1.elim
        | goto i =>
          simp only [exJump, Option.some.injEq] at hj
          subst hj
          cases e3 with
          | goto i' =>
            have : i = i' := t1
            subst this
            obtain ⟨val, w', f1, f2⟩ := fin (some (.goto i)) _ _ .done rfl rfl rfl
            exact ⟨val, w', f1, f2⟩
          | _ => exact t1.elim

/-! ### the whole of it -/
/-- What is asked of a program and of what is known of its functions. -/
structure CxOk (cx : Cx Int Bool) : Prop where
  mixed : cx.P.follows .mixedOrders = true
  noNum : ∀ (f : FuncId) (fn : Func), cx.P.funcs[f]? = some fn → fn.name ≠ "runtime.NumGoroutine"
  tab : TabOk cx
  hooks : HooksOk cx

theorem ev_ok (h : CxOk cx) : ∀ fuel, RecGrow (ev cx fuel) ∧ RecOk cx.P (ev cx fuel)
  | 0 => ⟨⟨fun _ _ _ _ _ _ h => absurd h has_fail, fun _ _ _ _ _ _ h => absurd h has_fail, fun _ _ _ _ _ _ _ h => absurd h has_fail, fun _ _ _ _ _ _ _ _ h => absurd h has_fail, fun _ _ _ _ _ _ _ h => absurd h has_fail⟩,
    ⟨fun _ _ _ _ _ _ _ _ _ _ _ h => absurd h has_fail, fun _ _ _ _ _ _ _ _ _ _ _ _ _ h => absurd h has_fail, fun _ _ _ _ _ _ _ _ _ _ _ _ _ _ h => absurd h has_fail,
      fun _ _ _ _ _ _ _ _ _ _ _ _ _ _ _ h => absurd h has_fail, fun _ _ _ _ _ _ _ _ _ _ _ _ _ _ h => absurd h has_fail⟩⟩
  | fuel + 1 => by
    obtain ⟨hG, hR⟩ := ev_ok h fuel
    have hRange := evRange_sound hR hG
    refine ⟨⟨fun _ _ _ _ _ _ hh => evCall_grow h.tab hG hh, fun _ _ _ _ _ _ hh => evYield_grow hG hh, fun _ _ _ c st e st' hh => evCode_grow hG c st e st' hh, fun _ _ _ _ _ _ _ _ hh => evScope_grow h.hooks hG hh, fun _ _ _ _ _ _ _ hh => evLoop_grow h.hooks hG hh⟩,
      ⟨?_, ?_, ?_, ?_, ?_⟩⟩
    · intro nm f args H v H' X M ρ w argv hh hI ha hx
      exact evCall_sound h.mixed h.noNum h.tab hR hG hRange hh hI ha hx
    · intro nm l args H v H' X M ρ w argv b z hh hI ha hx hl
      exact evYield_sound hR hG hh hI ha hx hl
    · intro fid px inR c st e st' X M ρ a w F n hh hF hs hx
      exact evCode_sound h.mixed hF hR hG hRange c st e st' X M ρ a w hh hs hx
    · intro fid px inR whole cur st e st' X M ρ a w F n hh hF hs hx b k cs hro hb hr
      exact evScope_sound h.hooks h.mixed hF hR hG hRange hh hs hx b k cs hro hb hr
    · intro fid px inR c st e st' X M ρ a w F n hh hF hs hx b k cs hro hb hr
      exact evLoop_sound h.hooks h.mixed hF hR hG hRange hh hs hx b k cs hro hb hr

/-- **The executor's word on a call is the model's.** -/
theorem call_sound (h : CxOk cx) {fuel : Nat} {nm : Nm} {f : FuncId} {args : List VV} {v : VV} {argv : Array Value} (hh : Has ((ev cx fuel).call nm f args H) (v, H')) (hI : Inv X M ρ H w) (ha : RepL M ρ args argv.toList)
    (hx : ∀ n, X n → H'.get n = none) : (callFunc f argv).run cx.P w = .ok (.enter f argv) w ∧ Calls cx.P f argv w fun e w' => ∃ val, e = .returned val ∧ Post X M ρ H w v H' val w' := by
  obtain ⟨h1, h2⟩ := (ev_ok h fuel).2.call nm f args H v H' X M ρ w argv hh hI ha hx
  exact ⟨h1, callsIn_wide.1 (h2 0)⟩

#print axioms call_sound
end
end Go.Sx
