/- Calls, rounds, statements over a function's values; the executor is sound. Conditions: none but what stands in 'TabOk' and in the statement's own words. -/
import Derived.Test.YtajloilpehgcmaaSxCode1
set_option linter.unusedVariables false
set_option linter.unusedSimpArgs false
set_option linter.unusedSectionVars false

namespace Go.Sx
section
variable {X X' : Nm → Prop} {M M' M0 : Mem} {ρ ρ' ρ0 : Rho} {w w' w0 : World} {cx : Cx Int Bool} {H H' H2 Hc K KD KD' H0 : HH} {F : Fence} {n : Nat} {inR : Bool}
variable {rc : Rec Int Bool} {ops : Array Oper} {px : Nm} {a a' : Act} {fid : FuncId} {st st' st1 : St Int Bool} {e : Ex} {P : Program}

theorem run_getObj {r : Nat} {o : Obj} (h : w.heap[r]? = some o) (hc : ∀ c t z, o ≠ .cells c t z) : (getObj r).run P w = .ok o w := by
  unfold getObj Sem.run
  rw [h]
  cases o <;> first | rfl | exact absurd rfl (hc _ _ _)
theorem run_getLoop {r : Nat} {L : Loop} (h : w.heap[r]? = some (.loop L)) : (Instr.getLoop r).run P w = .ok L w := by simp [Instr.getLoop, run_getObj h (by simp)]
theorem run_setObj {r : Nat} {o o' : Obj} (h : w.heap[r]? = some o) (hc : ∀ c t z, o ≠ .cells c t z) : (setObj r o').run P w = .ok () { w with heap := w.heap.setIfInBounds r o' } := by
  unfold Go.setObj Sem.run
  rw [h]
  cases o <;> first | rfl | exact absurd rfl (hc _ _ _)
theorem set_same {r : Nat} {o o' : Obj} (h : w.heap[r]? = some o) : ({ w with heap := w.heap.setIfInBounds r o' } : World).heap[r]? = some o' := by
  have := (Array.getElem?_eq_some_iff.1 h).1
  simp [this]
theorem set_other {r b : Nat} {o' : Obj} (hb : b ≠ r) : ({ w with heap := w.heap.setIfInBounds r o' } : World).heap[b]? = w.heap[b]? := by
  simp [Array.getElem?_setIfInBounds, Ne.symm hb]

/-- A record or a block of ours is set. -/
theorem Inv.setObj (hI : Inv X M ρ H w) {m : Nm} {e : Ent Int Bool} {b z : Nat} {o o' : Obj} (hl : Live H m) (hr : ρ m = some (b, z)) (ho : w.heap[b]? = some o)
    (hloop : ∀ L, e = .loop L → ∃ r, o' = .loop r ∧ LoopRep M ρ L r) (hrow : ∀ cs s id, e ≠ .row cs s id) (hdfr : e = .dfr → o' = .deferred (some [])) (hth : thawed o' := by trivial) :
    Inv X M ρ (H.upd m e) { w with heap := w.heap.setIfInBounds b o' } ∧ Ext X H M ρ w M ρ { w with heap := w.heap.setIfInBounds b o' } :=
  hI.set hl hr (fun _ hb => set_other hb) (set_same ho) (by simp) (fun cs s id he => absurd he (hrow cs s id)) hloop hdfr rfl rfl hth

/-! ### a function's results -/
theorem run_mapM_res {α β : Type} {f : α → Sem β} : ∀ (l : List α) (bs : List β), l.length = bs.length → (∀ (i : Nat) (x : α) (y : β), l[i]? = some x → bs[i]? = some y → (f x).run P w = .ok y w) → (l.mapM f).run P w = .ok bs w
  | [], [], _, _ => by simp
  | [], _ :: _, h, _ => by simp at h
  | _ :: _, [], h, _ => by simp at h
  | x :: l, y :: bs, h, hh => by
    have h1 := hh 0 x y rfl rfl
    have h2 := run_mapM_res l bs (by simpa using h) fun i x y hx hy => hh (i + 1) x y (by simpa using hx) (by simpa using hy)
    simp [List.mapM_cons, h1, h2]
def resultSem (a : Act) : ResultVar → Sem Value
  | .tmp t => pure (a.tmps.getD t undef)
  | .cell c t => do loadVar t (← asAddr (a.tmps.getD c undef))

theorem resultE_sound (hI : Inv X M ρ H w) (hr : RepL M ρ st.ts a.tmps.toList) {r : ResultVar} {v : VV} (h : Has (resultE cx H st.ts r) v) :
    ∃ val, (resultSem a r).run cx.P w = .ok val w ∧ Rep M ρ v val := by
  cases r with
  | tmp t =>
    refine ⟨_, rfl, strip_sound h (repL_getT hr t) fun tg g v' _ hne hs => ?_⟩
    cases tg with
    | nil => exact absurd rfl hne
    | cons p tg => exact absurd (hs p (by simp)) (by simp)
  | cell c t =>
    change Has (loadE cx H t (getT st.ts c)) v at h
    obtain ⟨val, h1, h2⟩ := loadE_sound hI h (.refl _) (repL_getT hr c)
    refine ⟨val, ?_, h2⟩
    unfold resultSem
    dsimp only
    generalize a.tmps.getD c undef = p at h1
    unfold Instr.loadAt at h1
    cases p with
    | pointer x =>
      cases x with
      | some ad => simpa [Instr.sureAddr, asAddr] using h1
      | none => simp [Instr.sureAddr] at h1
    | _ => simp [Instr.sureAddr] at h1

theorem results_sound (hI : Inv X M ρ H w) (hr : RepL M ρ st.ts a.tmps.toList) {fn : Func} {vs : List VV} (h : Has (E.map (resultE cx H st.ts) fn.results.toList) vs) :
    ∃ val, (results fn a.tmps).run cx.P w = .ok val w ∧ Rep M ρ (tupV vs) val := by
  obtain ⟨hl, hi⟩ := has_map h
  have ex : ∃ bs : List Value, bs.length = vs.length ∧ (fn.results.toList.mapM (resultSem a)).run cx.P w = .ok bs w ∧
      ∀ (i : Nat) (v : VV) (y : Value), vs[i]? = some v → bs[i]? = some y → Rep M ρ v y := by
    clear h
    generalize fn.results.toList = l at hl hi
    induction l generalizing vs with
    | nil =>
      have : vs = [] := List.eq_nil_of_length_eq_zero (by simpa using hl.symm)
      subst this
      exact ⟨[], rfl, by simp, by simp⟩
    | cons r l ih =>
      cases vs with
      | nil => simp at hl
      | cons v vs =>
        obtain ⟨bs, h1, h2, h3⟩ := ih (by simpa using hl) fun i r v hr hv => hi (i + 1) r v (by simpa using hr) (by simpa using hv)
        obtain ⟨val, h4, h5⟩ := resultE_sound (a := a) hI hr (hi 0 r v rfl rfl)
        refine ⟨val :: bs, by simp [h1], ?_, fun i u y hu hy => ?_⟩
        · simp only [List.mapM_cons, Sem.run_bind, h4, Result.andThen_ok, h2, Sem.run_pure]
        · cases i with
          | zero => simp only [List.getElem?_cons_zero, Option.some.injEq] at hu hy; subst hu hy; exact h5
          | succ i => simp only [List.getElem?_cons_succ] at hu hy; exact h3 i u y hu hy
  obtain ⟨bs, h1, h2, h3⟩ := ex
  have hrun : (results fn a.tmps).run cx.P w = .ok (if h : bs.toArray.size = 1 then bs.toArray[0] else .tuple bs.toArray) w := by
    have e : results fn a.tmps = (do let vs ← fn.results.mapM (resultSem a); pure (if h : vs.size = 1 then vs[0] else .tuple vs)) := by
      unfold results
      congr 1
    rw [e, Array.mapM_eq_mapM_toList]
    simp only [Sem.run_bind, map_eq_pure_bind, h2, Result.andThen_ok, Sem.run_pure]
  refine ⟨_, hrun, ?_⟩
  cases vs with
  | nil =>
    have : bs = [] := List.eq_nil_of_length_eq_zero (by simpa using h1)
    subst this
    exact .tup [] #[] rfl (by simp)
  | cons v vs =>
    cases vs with
    | nil =>
      cases bs with
      | nil => simp at h1
      | cons y bs =>
        have : bs = [] := List.eq_nil_of_length_eq_zero (by simpa using h1)
        subst this
        exact h3 0 v y rfl rfl
    | cons v2 vs =>
      rw [dif_neg (by simp [h1])]
      exact .tup _ _ (by simp [h1]) fun i c v hc hv => h3 i c v hc (by simpa using hv)

theorem endMarks_grow : ∀ (ms : List Nm) (H H' : HH), Has (endMarks H ms) H' → Grow H H'
  | [], H, H', h => by have := has_ret.1 h; subst this; exact .refl _
  | m :: ms, H, H', h => by
    unfold endMarks at h
    split at h
    · rename_i hg
      exact (Grow.upd ⟨_, hg, trivial⟩).trans (endMarks_grow ms _ _ h)
    · exact absurd h has_fail

/-- A function's end: its marks, then its results. -/
theorem leaves_sound {fn : Func} {tmps : Array Value} {R : Ending → World → Prop} : ∀ (ms : List Nm) (ds : List Deferred) (H : HH) (M : Mem) (ρ : Rho) (w : World), Has (endMarks H ms) H' → MarksRep ρ ms ds → Inv X M ρ H w → (∀ m, X m → H'.get m = none) →
    (∀ w', Inv X M ρ H' w' → Ext X H M ρ w M ρ w' → ∃ v, (results fn tmps).run P w' = .ok v w' ∧ R (.returned v) w') → LeavesInM F n P fn tmps R ds .returning w
  | [], [], H, M, ρ, w, h, _, hI, hx, hR => by
    have := has_ret.1 h
    subst this
    exact hR w hI .refl
  | [], _ :: _, _, _, _, _, _, h, _, _, _ => h.elim
  | _ :: _, [], _, _, _, _, _, h, _, _, _ => h.elim
  | m :: ms, d :: ds, H, M, ρ, w, h, hm, hI, hx, hR => by
    unfold endMarks at h
    split at h
    · rename_i hg
      obtain ⟨⟨r, z, h1, h2⟩, h3⟩ := hm
      obtain ⟨b, z', h4, h5⟩ := hI.dfr m hg
      rw [h1] at h4
      simp only [Option.some.injEq, Prod.mk.injEq] at h4
      obtain ⟨rfl, rfl⟩ := h4
      have hl : Live H m := ⟨_, hg, trivial⟩
      obtain ⟨s1, s2⟩ := Inv.setObj (e := .dead) (o' := .deferred none) hI hl h1 h5 (fun L he => by cases he) (fun cs s id he => by cases he) (fun he => by cases he)
      refine ⟨by simp, .inl ⟨r, _, h2, ?_, leaves_sound ms ds _ M ρ _ h h3 s1 hx fun w' i1 i2 => hR w' i1 (s2.trans hI (.upd hl) (fun x hX => grow_none (endMarks_grow _ _ _ h) (hx x hX)) i2)⟩⟩
      simp [Instr.takeDeferred, run_getObj h5 (by simp), run_setObj h5 (by simp)]
    · exact absurd h has_fail

/-! ### calls -/
structure TabOk (cx : Cx Int Bool) : Prop where
  grow : ∀ f run nm args H v H', cx.tab f = some run → Has (run nm args H) (v, H') → Grow H H'
  ok : ∀ f run nm args H v H' X M ρ w (argv : Array Value), cx.tab f = some run → Has (run nm args H) (v, H') → Inv X M ρ H w → RepL M ρ args argv.toList → (∀ n, X n → H'.get n = none) →
    (callFunc f argv).run cx.P w = .ok (.enter f argv) w ∧ ∀ n, CallsIn Fence.wide n cx.P f argv w fun e w' => ∃ val, e = .returned val ∧ Post X M ρ H w v H' val w'

theorem evCall_grow (hT : TabOk cx) (hG : RecGrow rc) {nm : Nm} {f : FuncId} {args : List VV} {v : VV} (h : Has (evCall cx rc nm f args H) (v, H')) : Grow H H' := by
  unfold evCall at h
  split at h
  · rename_i run hr
    exact hT.grow _ _ _ _ _ _ _ hr h
  · split at h
    · exact absurd h has_fail
    · split at h
      · exact absurd h has_fail
      · obtain ⟨⟨e, st⟩, h1, h2⟩ := has_bind h
        dsimp only at h2
        have g1 := evCode_grow hG _ _ _ _ h1
        have fin : ∀ {rs : List ResultVar}, Has (evEnd cx st rs) (v, H') → Grow H H' := by
          intro rs h
          obtain ⟨H1, h3, h4⟩ := has_bind h
          obtain ⟨vs, h5, h6⟩ := has_bind h4
          have := has_ret.1 h6
          simp only [Prod.mk.injEq] at this
          obtain ⟨_, rfl⟩ := this
          exact g1.trans (endMarks_grow _ _ _ h3)
        split at h2
        · exact fin h2
        · exact fin h2
        · exact absurd h2 has_fail

theorem evCall_sound (hm : cx.P.follows .mixedOrders = true) (hN : ∀ (f : FuncId) (fn : Func), cx.P.funcs[f]? = some fn → fn.name ≠ "runtime.NumGoroutine") (hT : TabOk cx) (hR : RecOk cx.P rc) (hG : RecGrow rc) (hRange : RangeOk cx rc)
    {nm : Nm} {f : FuncId} {args : List VV} {v : VV} {argv : Array Value} (h : Has (evCall cx rc nm f args H) (v, H')) (hI : Inv X M ρ H w) (ha : RepL M ρ args argv.toList) (hx : ∀ n, X n → H'.get n = none) :
    (callFunc f argv).run cx.P w = .ok (.enter f argv) w ∧ ∀ n, CallsIn Fence.wide n cx.P f argv w fun e w' => ∃ val, e = .returned val ∧ Post X M ρ H w v H' val w' := by
  unfold evCall at h
  split at h
  · rename_i run hr
    exact hT.ok _ _ _ _ _ _ _ X M ρ w argv hr h hI ha hx
  · split at h
    · exact absurd h has_fail
    · rename_i fn hf
      split at h
      · exact absurd h has_fail
      · rename_i c hb
        refine ⟨?_, fun n => ?_⟩
        · have := hN f fn hf
          simp [callFunc, hf, hb, this]
        · obtain ⟨⟨e, st⟩, h1, h2⟩ := has_bind h
          dsimp only at h2
          have hs0 : StRep X M ρ { ts := args ++ List.replicate (fn.ntmps - args.length) .undef, H := H, c := 0, marks := [] } { tmps := argv ++ Array.replicate (fn.ntmps - argv.size) undef, defers := [] } w := by
            refine ⟨?_, hI, trivial⟩
            rw [Array.toList_append]
            refine ha.append ⟨?_, fun i x y hx hy => ?_⟩
            · have := ha.1; simp at this; simp [this]
            · simp only [Array.toList_replicate, List.getElem?_replicate] at hx hy
              split at hx
              · split at hy
                · simp only [Option.some.injEq] at hx hy; subst hx hy; exact .undef
                · cases hy
              · cases hx
          have fin : Has (evEnd cx st fn.results.toList) (v, H') → (e = .nrm ∨ e = .ret) →
              CallsIn Fence.wide n cx.P f argv w fun e w' => ∃ val, e = .returned val ∧ Post X M ρ H w v H' val w' := by
            intro h3 he
            obtain ⟨H1, h4, h5⟩ := has_bind h3
            obtain ⟨vs, h6, h7⟩ := has_bind h5
            have := has_ret.1 h7
            simp only [Prod.mk.injEq] at this
            obtain ⟨rfl, rfl⟩ := this
            have hx1 : ∀ m, X m → st.H.get m = none := fun m hX => grow_none (endMarks_grow _ _ _ h4) (hx m hX)
            refine callsIn_of_wp_marks hf hb trivial (wpIn_mono (evCode_sound (inR := false) (F := Fence.wide) hm rfl hR hG hRange c _ e st X M ρ _ w h1 hs0 hx1) fun e' a1 w1 hp => ?_)
            obtain ⟨p1, M1, ρ1, p2, p3⟩ := hp
            have leave : LeavesInM Fence.wide n cx.P fn a1.tmps (fun e w' => ∃ val, e = .returned val ∧ Post X M ρ H w (tupV vs) H1 val w') a1.defers .returning w1 := by
              refine leaves_sound st.marks a1.defers st.H M1 ρ1 w1 h4 p2.marks p2.inv hx fun w2 i1 i2 => ?_
              obtain ⟨val, r1, r2⟩ := results_sound (a := a1) (st := st) i1 p2.ts h6
              exact ⟨val, r1, val, rfl, M1, ρ1, r2, i1, p3.trans hI (evCode_grow hG _ _ _ _ h1) hx1 i2⟩
            rcases he with rfl | rfl
            · have := exRep_nrm p1
              subst this
              exact leave
            · cases e' with
              | ret => exact leave
              | _ => exact p1.elim
          split at h2
          · exact fin h2 (.inl rfl)
          · exact fin h2 (.inr rfl)
          · exact absurd h2 has_fail

/-! ### statements over a function's values -/
/-- Entering: the block of the rounds' deferred calls, and the record. -/
theorem range_enter (hI : Inv X M ρ H w) {dn ln : Nm} {fid : FuncId} {ts : List VV} {ps : Array Tmp} {as bo : Code} (f4 : H.get dn = none) (f6 : (H.new dn .dfr).get ln = none) (hX1 : ¬ X dn) (hX2 : ¬ X ln) (hx : ∀ m, X m → H.get m = none) {tmps : Array Value} (hts : RepL M ρ ts tmps.toList) (fn : FuncId) :
    ∃ l r w2 ρ2, (Instr.enterLoop fn tmps ps as bo none).run P w = .ok (l, [{ target := .collected r, args := #[] }]) w2 ∧ ρ2 ln = some (l, 0) ∧ ρ2 dn = some (r, 0) ∧
      Inv X M ρ2 ((H.new dn .dfr).new ln (.loop { fn := fid, tmps := ts, ps := ps.toList, assign := as, body := bo, st := .ready, pend := none })) w2 ∧ Ext X H M ρ w M ρ2 w2 := by
  obtain ⟨w1, hw1⟩ : ∃ w1, w1 = w.alloc (.deferred (some [])) := ⟨_, rfl⟩
  have h1 : w1.heap = w.heap.push (.deferred (some [])) := by rw [hw1]; rfl
  obtain ⟨i1, x1⟩ := hI.alloc (e := .dfr) (o := .deferred (some [])) (z := 0) (w' := w1) f4 hX1 (fun _ _ _ he => by cases he) (fun _ he => by cases he) (fun _ => rfl) h1 (by rw [hw1]; rfl) (by rw [hw1]; rfl) trivial
  have hts1 := hts.mono x1.m x1.r
  obtain ⟨w2, hw2⟩ : ∃ w2, w2 = w1.alloc (.loop { state := .ready, pending := none, fn := fn, tmps := tmps, params := ps, assign := as, body := bo, defers := w.heap.size }) := ⟨_, rfl⟩
  have h2 : w2.heap = w1.heap.push (.loop { state := .ready, pending := none, fn := fn, tmps := tmps, params := ps, assign := as, body := bo, defers := w.heap.size }) := by rw [hw2]; rfl
  obtain ⟨i2, x2⟩ := i1.alloc (e := .loop { fn := fid, tmps := ts, ps := ps.toList, assign := as, body := bo, st := .ready, pend := none }) (z := 0) (w' := w2) f6 hX2 (fun _ _ _ he => by cases he) (fun L he => by
    simp only [Ent.loop.injEq] at he
    subst he
    exact ⟨_, rfl, hts1, rfl, rfl, rfl, rfl, rfl⟩) (fun he => by cases he) h2 (by rw [hw2]; rfl) (by rw [hw2]; rfl) trivial
  have hne : dn ≠ ln := by
    rintro rfl
    rw [get_new, if_pos rfl] at f6; cases f6
  have hx1 : ∀ m, X m → (H.new dn .dfr).get m = none := fun m hm => by
    rw [get_new, if_neg (by rintro rfl; exact hX1 hm)]; exact hx m hm
  refine ⟨w1.heap.size, w.heap.size, w2, _, ?_, by simp [Rho.put], by simp [Rho.put, hne], i2, x1.trans hI (.new f4) hx1 x2⟩
  simp only [Instr.enterLoop, Sem.run_bind, run_newObj, Result.andThen_ok, Sem.run_pure]
  rw [hw2, hw1]
  rfl

theorem evRange_sound (hR : RecOk cx.P rc) (hG : RecGrow rc) : RangeOk cx rc := by
  intro fid px inR g ps as bo st e st' X M ρ a w F n h hF hs hx
  unfold evRange at h
  rcases has_if h with ⟨_, h1⟩ | ⟨hin, h1⟩
  · exact absurd h1 has_fail
  have hF0 : F = Fence.wide := by
    unfold FenceOk at hF
    rw [if_neg hin] at hF; exact hF
  subst hF0
  obtain ⟨v, h2, h3⟩ := has_bind h1
  have hev : EvOk false #[] st.ts a M ρ [g] := evOk_intro (fun t _ => repL_getT hs.ts t) (by simp)
  have hr := hev [] (fun _ => rfl) (by intro p hp; simp at hp) g (by simp) v h2
  clear h h1
  split at h3
  · rename_i gf first cap
    obtain ⟨H1, h4, h5⟩ := has_bind h3
    obtain ⟨H2, h6, h7⟩ := has_bind h5
    obtain ⟨⟨u, H3⟩, h8, h9⟩ := has_bind h7
    dsimp only at h9
    obtain ⟨f4, rfl⟩ := has_fresh h4
    obtain ⟨f6, rfl⟩ := has_fresh h6
    generalize hdn : (1 :: st.c :: px : Nm) = dn at *
    generalize hln : (0 :: st.c :: px : Nm) = ln at *
    split at h9
    · rename_i L hL
      rcases has_if h9 with ⟨_, h10⟩ | ⟨hbusy, h10⟩
      · exact absurd h10 has_fail
      obtain ⟨e2, h11, h12⟩ := has_bind h10
      have := has_ret.1 h12
      simp only [Prod.mk.injEq] at this
      obtain ⟨rfl, rfl⟩ := this
      have h11 := has_opt.1 h11
      clear h3 h5 h7 h9 h10 h12
      dsimp only at hx
      have hlive : Live H3 ln := ⟨_, hL, trivial⟩
      have hx3 : ∀ m, X m → H3.get m = none := fun m hX => grow_none (.upd hlive) (hx m hX)
      have gcall := hG.call _ _ _ _ _ _ h8
      have g2 := (Grow.new (x := .dfr) f4).trans (Grow.new (x := .loop { fn := fid, tmps := st.ts, ps := ps.toList, assign := as, body := bo, st := .ready, pend := none }) f6)
      have hx0 : ∀ m, X m → st.H.get m = none := fun m hX => grow_none (g2.trans gcall) (hx3 m hX)
      have hX1 : ¬ X dn := fun hX => by
        have := gcall.names dn (by rw [get_new]; split <;> simp [get_new])
        exact this (hx3 _ hX)
      have hX2 : ¬ X ln := fun hX => by
        have := hx3 _ hX
        rw [hL] at this; cases this
      generalize hev2 : a.eval g = val at hr
      cases hr with
      | fn _ _ _ vF vC hl1 hl2 hh1 hh2 =>
        refine wpIn_rangeFunc fun fn _ => ?_
        obtain ⟨l, r, w2, ρ2, c0, rln, rdn, i2, x2⟩ := range_enter (P := cx.P) (fid := fid) (ps := ps) (as := as) (bo := bo) hs.inv f4 f6 hX1 hX2 hx0 hs.ts fn
        have ra : RepL M ρ2 (first ++ [.yld ln] ++ cap) ((vF ++ #[Value.func (.yield l) #[] #[]]) ++ vC).toList := by
          rw [Array.toList_append, Array.toList_append]
          have rf : RepL M ρ first vF.toList := ⟨by simpa using hl1, by simpa using hh1⟩
          have rcp : RepL M ρ cap vC.toList := ⟨by simpa using hl2, by simpa using hh2⟩
          exact ((rf.mono x2.m x2.r).append (.cons (.yld _ _ 0 rln) .nil)).append (rcp.mono x2.m x2.r)
        obtain ⟨c1, c2⟩ := hR.call _ _ _ _ _ _ X _ _ _ _ h8 i2 ra hx3
        refine ⟨l, _, w2, { target := .fn (.func gf) vC, args := vF ++ #[Value.func (.yield l) #[] #[]] }, w2, gf, (vF ++ #[Value.func (.yield l) #[] #[]]) ++ vC, w2, c0, ?_, fun _ _ => trivial, ?_, by simp [Fence.wide], CallsIn.mono (c2 (n - 1)) fun e' w3 he' => ?_⟩
        · have hm : (#[Operand.const (.func (.yield l) #[] #[])] : Array Operand).map a.eval = #[Value.func (.yield l) #[] #[]] := by
            simp only [List.map_toArray, List.map_cons, List.map_nil]
            rfl
          simp only [resolve, rangeCall, hev2, Deferred.ofValue, Sem.run_pure, hm]
        · simp only [invoke]
          exact c1
        · obtain ⟨val, rfl, M3, ρ3, _, p2, p3⟩ := he'
          obtain ⟨b, z, rr, q1, q2, q3⟩ := p2.loop _ _ hL
          have q4 := p3.r _ _ rln
          rw [q1] at q4
          simp only [Option.some.injEq, Prod.mk.injEq] at q4
          obtain ⟨rfl, rfl⟩ := q4
          obtain ⟨s1, s2⟩ := Inv.setObj (e := .dead) (o' := .loop { rr with state := .exhausted }) p2 hlive q1 q2 (fun L he => by cases he) (fun cs s id he => by cases he) (fun he => by cases he)
          have hx2 : ∀ m, X m → ((st.H.new dn .dfr).new ln (.loop { fn := fid, tmps := st.ts, ps := ps.toList, assign := as, body := bo, st := .ready, pend := none })).get m = none := fun m hX => grow_none gcall (hx3 m hX)
          have xall := (x2.trans hs.inv g2 hx2 p3).trans hs.inv (g2.trans gcall) hx3 s2
          have hend : (Instr.endLoop b).run cx.P w3 = .ok L.pend { w3 with heap := w3.heap.setIfInBounds b (.loop { rr with state := .exhausted }) } := by
            have hnb : (rr.state == .busy) = false := by
              rw [q3.st]
              cases hq : L.st <;> first | rfl | exact absurd hq hbusy
            simp only [Instr.endLoop, Sem.run_bind, run_getLoop q2, Result.andThen_ok, hnb, Bool.false_eq_true, if_false, run_setObj q2 (by simp), Sem.run_pure, q3.pend]
          generalize hw4 : ({ w3 with heap := w3.heap.setIfInBounds b (.loop { rr with state := .exhausted }) } : World) = w4 at *
          refine ⟨L.pend, w4, hend, ?_⟩
          have hst : StRep X M3 ρ3 { st with H := H3.upd ln .dead, c := st.c + 1, marks := dn :: st.marks } { a with defers := [{ target := .collected r, args := #[] }] ++ a.defers } w4 :=
            ⟨hs.ts.mono xall.m xall.r, s1, ⟨⟨r, 0, p3.r _ _ rdn, rfl⟩, marksRep_mono xall.r hs.marks⟩⟩
          have post : ∀ e', ExRep e2 e' → CodePost X M ρ st.H w e2 { st with H := H3.upd ln .dead, c := st.c + 1, marks := dn :: st.marks } e' { a with defers := [{ target := .collected r, args := #[] }] ++ a.defers } w4 :=
            fun e' he => ⟨he, M3, ρ3, hst, xall⟩
          unfold jumpEx at h11
          split at h11 <;> rename_i hp <;> simp only [Option.some.injEq, reduceCtorEq] at h11 <;> subst h11 <;> rw [hp] <;> dsimp only
          · exact post .normal trivial
          · exact wpIn_ret (post .ret trivial)
          · exact wpIn_exit (post (.exit _) rfl)
          · exact wpIn_goto (post (.goto _) rfl)
    · exact absurd h9 has_fail
  · exact absurd h3 has_fail
end
end Go.Sx
