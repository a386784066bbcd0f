/- Code: sequences, choices, loops, blocks, scopes. Conditions: none. -/
import Derived.Test.YtajloilpehgcmaaSxReg11
set_option linter.unusedVariables false
set_option linter.unusedSimpArgs false
set_option linter.unusedSectionVars false

namespace Go.Sx
section
variable {X X' : Nm → Prop} {M M' M0 : Mem} {ρ ρ' ρ0 : Rho} {w w' w0 : World} {cx : Cx Int Bool} {H H' H2 Hc K KD KD' H0 : HH} {F : Fence} {n : Nat} {inR : Bool}
variable {rc : Rec Int Bool} {ops : Array Oper} {px : Nm} {a a' : Act} {fid : FuncId} {st st' st1 : St Int Bool} {e : Ex}

theorem marksRep_mono (hR : RLe ρ ρ') : ∀ {ns : List Nm} {ds : List Deferred}, MarksRep ρ ns ds → MarksRep ρ' ns ds
  | [], [], h => h
  | [], _ :: _, h => h
  | _ :: _, [], h => h
  | x :: ns, d :: ds, h => by
    obtain ⟨⟨r, z, h1, h2⟩, h3⟩ := h
    exact ⟨⟨r, z, hR _ _ h1, h2⟩, marksRep_mono hR h3⟩

theorem CodePost.comp (hI : Inv X M ρ H w) (hE : Ext X H M ρ w M' ρ' w') (hg : Grow H H') (hx : ∀ m, X m → H'.get m = none) {e' : Exit} {a2 : Act} {w2 : World}
    (h : CodePost X M' ρ' H' w' e st' e' a2 w2) : CodePost X M ρ H w e st' e' a2 w2 := by
  obtain ⟨h1, M2, ρ2, h2, h3⟩ := h
  exact ⟨h1, M2, ρ2, h2, hE.trans hI hg hx h3⟩

theorem exRep_nrm {e' : Exit} (h : ExRep .nrm e') : e' = .normal := by cases e' <;> first | rfl | exact h.elim
theorem exRep_of {e' : Exit} (h : ExRep e e') (hn : e ≠ .nrm) : e' ≠ .normal := by
  rintro rfl
  cases e <;> first | exact hn rfl | exact h.elim

theorem stepR_scope {P : Program} {b : Frame} {k : List Item} {cs : List Frame} {c : Code} : step P (lone (b.atR a (.code (.scope c) :: k)) cs w) = .next (lone (b.atR a (.code c :: .inScope c :: k)) cs w) :=
  step_lone_go (by simp [stepG, stepG.exec, Frame.atR])
theorem stepR_inScope {P : Program} {b : Frame} {k : List Item} {cs : List Frame} {c : Code} : step P (lone (b.atR a (.inScope c :: k)) cs w) = .next (lone (b.atR a k) cs w) :=
  step_lone_go (by simp [stepG, stepG.exec, Frame.atR])

/-- How a piece of code came out, in the executor: by its grammar. -/
theorem evCode_grow (hG : RecGrow rc) : ∀ (c : Code) (st : St Int Bool) (e : Ex) (st' : St Int Bool), Has (evCode cx rc fid px inR c st) (e, st') → Grow st.H st'.H := by
  have same : ∀ {x : Ex} {st st' : St Int Bool} {e : Ex}, Has (E.ret (x, st) : EE (Ex × St Int Bool)) (e, st') → Grow st.H st'.H := by
    intro x st st' e h
    have := has_ret.1 h
    simp only [Prod.mk.injEq] at this
    rw [this.2]; exact .refl _
  intro c
  induction c with
  | skip => intro st e st' h; exact same h
  | label l => intro st e st' h; exact same h
  | region id ops draw => intro st e st' h; exact evRegion_grow hG h
  | seq x y ihx ihy =>
    intro st e st' h
    obtain ⟨⟨e1, st1⟩, h1, h2⟩ := has_bind h
    dsimp only at h2
    have g1 := ihx _ _ _ h1
    split at h2
    · exact g1.trans (ihy _ _ _ h2)
    · exact g1.trans (same h2)
  | cond o x y ihx ihy =>
    intro st e st' h
    obtain ⟨v, h1, h2⟩ := has_bind h
    split at h2
    · obtain ⟨b, h3, h4⟩ := has_bind h2
      rcases has_if h4 with ⟨_, h5⟩ | ⟨_, h5⟩
      · exact ihx _ _ _ h5
      · exact ihy _ _ _ h5
    · exact absurd h2 has_fail
  | block id c ih =>
    intro st e st' h
    obtain ⟨⟨e1, st1⟩, h1, h2⟩ := has_bind h
    dsimp only at h2
    have g1 := ih _ _ _ h1
    split at h2
    · rcases has_if h2 with ⟨_, h3⟩ | ⟨_, h3⟩
      · exact g1.trans (same h3)
      · exact g1.trans (same h3)
    · exact g1.trans (same h2)
  | loop c ih => intro st e st' h; exact hG.loop _ _ _ _ _ _ _ h
  | rangeFunc g ps as bo _ _ =>
    intro st e st' h
    change Has (evRange cx rc fid px inR g ps as bo st) (e, st') at h
    unfold evRange at h
    rcases has_if h with ⟨_, h1⟩ | ⟨_, h1⟩
    · exact absurd h1 has_fail
    · obtain ⟨v, h2, h3⟩ := has_bind h1
      split at h3
      · obtain ⟨H1, h4, h5⟩ := has_bind h3
        obtain ⟨H2, h6, h7⟩ := has_bind h5
        obtain ⟨⟨u, H3⟩, h8, h9⟩ := has_bind h7
        dsimp only at h9
        have g1 : Grow st.H H3 := ((fresh_grow h4).trans (fresh_grow h6)).trans (hG.call _ _ _ _ _ _ h8)
        split at h9
        · rename_i L hL
          rcases has_if h9 with ⟨_, h10⟩ | ⟨_, h10⟩
          · exact absurd h10 has_fail
          · obtain ⟨e2, h11, h12⟩ := has_bind h10
            have := has_ret.1 h12
            simp only [Prod.mk.injEq] at this
            obtain ⟨_, rfl⟩ := this
            exact g1.trans (.upd ⟨_, hL, trivial⟩)
        · exact absurd h9 has_fail
      · exact absurd h3 has_fail
  | exit id => intro st e st' h; exact same h
  | scope c ih => intro st e st' h; exact hG.scope _ _ _ _ _ _ _ _ h
  | goto l => intro st e st' h; exact same h
  | ret => intro st e st' h; exact same h
  | refuse u => intro st e st' h; exact absurd h has_fail

/-- What a statement over a function's values comes to is shown apart. -/
def RangeOk (cx : Cx Int Bool) (rc : Rec Int Bool) : Prop := ∀ fid px inR g ps as bo st e st' X M ρ a w F n, Has (evRange cx rc fid px inR g ps as bo st) (e, st') → FenceOk F inR → StRep X M ρ st a w →
  (∀ n, X n → st'.H.get n = none) → (Code.rangeFunc g ps as bo).wpIn F n cx.P (CodePost X M ρ st.H w e st') a w

theorem evCode_sound (hm : cx.P.follows .mixedOrders = true) (hF : FenceOk F inR) (hR : RecOk cx.P rc) (hG : RecGrow rc) (hRange : RangeOk cx rc) : ∀ (c : Code) (st : St Int Bool) (e : Ex) (st' : St Int Bool) (X : Nm → Prop) (M : Mem) (ρ : Rho) (a : Act) (w : World),
    Has (evCode cx rc fid px inR c st) (e, st') → StRep X M ρ st a w → (∀ n, X n → st'.H.get n = none) → c.wpIn F n cx.P (CodePost X M ρ st.H w e st') a w := by
  have self : ∀ {e' : Exit} {x : Ex} {st st' : St Int Bool} {e : Ex} {X : Nm → Prop} {M : Mem} {ρ : Rho} {a : Act} {w : World}, Has (E.ret (x, st) : EE (Ex × St Int Bool)) (e, st') → ExRep x e' → StRep X M ρ st a w → CodePost X M ρ st.H w e st' e' a w := by
    intro e' x st st' e X M ρ a w h he hs
    have := has_ret.1 h
    simp only [Prod.mk.injEq] at this
    obtain ⟨rfl, rfl⟩ := this
    exact ⟨he, M, ρ, hs, .refl⟩
  intro c
  induction c with
  | skip => intro st e st' X M ρ a w h hs hx; exact wpIn_skip (self h trivial hs)
  | label l => intro st e st' X M ρ a w h hs hx; exact wpIn_label (self h trivial hs)
  | region id ops draw => intro st e st' X M ρ a w h hs hx; exact evRegion_sound hm hF hR hG h hs hx
  | seq x y ihx ihy =>
    intro st e st' X M ρ a w h hs hx
    obtain ⟨⟨e1, st1⟩, h1, h2⟩ := has_bind h
    dsimp only at h2
    refine wpIn_seq ?_
    cases e1 with
    | nrm =>
      have g2 := evCode_grow hG _ _ _ _ h2
      have hx1 : ∀ m, X m → st1.H.get m = none := fun m hm => grow_none g2 (hx m hm)
      refine wpIn_mono (ihx _ _ _ X M ρ a w h1 hs hx1) fun e' a1 w1 hp => ?_
      obtain ⟨p1, M1, ρ1, p2, p3⟩ := hp
      have := exRep_nrm p1
      subst this
      refine wpIn_mono (ihy _ _ _ X M1 ρ1 a1 w1 h2 p2 hx) fun e2 a2 w2 hp2 => ?_
      exact hp2.comp hs.inv p3 (evCode_grow hG _ _ _ _ h1) hx1
    | ret =>
      have := has_ret.1 h2
      simp only [Prod.mk.injEq] at this
      obtain ⟨rfl, rfl⟩ := this
      refine wpIn_mono (ihx _ _ _ X M ρ a w h1 hs hx) fun e' a1 w1 hp => ?_
      have hne := exRep_of hp.1 (by simp)
      cases e' <;> first | exact absurd rfl hne | exact hp
    | exit i =>
      have := has_ret.1 h2
      simp only [Prod.mk.injEq] at this
      obtain ⟨rfl, rfl⟩ := this
      refine wpIn_mono (ihx _ _ _ X M ρ a w h1 hs hx) fun e' a1 w1 hp => ?_
      have hne := exRep_of hp.1 (by simp)
      cases e' <;> first | exact absurd rfl hne | exact hp
    | goto l =>
      have := has_ret.1 h2
      simp only [Prod.mk.injEq] at this
      obtain ⟨rfl, rfl⟩ := this
      refine wpIn_mono (ihx _ _ _ X M ρ a w h1 hs hx) fun e' a1 w1 hp => ?_
      have hne := exRep_of hp.1 (by simp)
      cases e' <;> first | exact absurd rfl hne | exact hp
  | cond o x y ihx ihy =>
    intro st e st' X M ρ a w h hs hx
    obtain ⟨v, h1, h2⟩ := has_bind h
    have hev : EvOk false #[] st.ts a M ρ [o] := evOk_intro (fun t _ => repL_getT hs.ts t) (by simp)
    have hr := hev [] (fun _ => rfl) (by intro p hp; simp at hp) o (by simp) v h1
    split at h2
    · rename_i s b
      obtain ⟨b', h3, h4⟩ := has_bind h2
      have hb := has_way h3
      subst hb
      generalize hev2 : a.eval o = val at hr
      cases hr
      refine wpIn_cond hev2 ?_
      rcases has_if h4 with ⟨hb, h5⟩ | ⟨hb, h5⟩
      · rw [if_pos hb]; exact ihx _ _ _ X M ρ a w h5 hs hx
      · rw [if_neg hb]; exact ihy _ _ _ X M ρ a w h5 hs hx
    · exact absurd h2 has_fail
  | block id c ih =>
    intro st e st' X M ρ a w h hs hx
    obtain ⟨⟨e1, st1⟩, h1, h2⟩ := has_bind h
    dsimp only at h2
    have hst : st1 = st' := by
      split at h2
      · rcases has_if h2 with ⟨_, h3⟩ | ⟨_, h3⟩ <;>
        · have := has_ret.1 h3
          simp only [Prod.mk.injEq] at this
          exact this.2
      · have := has_ret.1 h2
        simp only [Prod.mk.injEq] at this
        exact this.2
    subst hst
    refine wpIn_block (wpIn_mono (ih _ _ _ X M ρ a w h1 hs hx) fun e' a1 w1 hp => ?_)
    obtain ⟨p1, p2⟩ := hp
    cases e1 with
    | nrm =>
      have := has_ret.1 h2
      simp only [Prod.mk.injEq] at this
      obtain ⟨rfl, _⟩ := this
      have := exRep_nrm p1
      subst this
      exact ⟨trivial, p2⟩
    | ret =>
      have := has_ret.1 h2
      simp only [Prod.mk.injEq] at this
      obtain ⟨rfl, _⟩ := this
      cases e' <;> first | exact p1.elim | exact ⟨p1, p2⟩
    | goto l =>
      have := has_ret.1 h2
      simp only [Prod.mk.injEq] at this
      obtain ⟨rfl, _⟩ := this
      cases e' <;> first | exact p1.elim | exact ⟨p1, p2⟩
    | exit i =>
      cases e' with
      | exit j =>
        have hij : i = j := p1
        subst hij
        unfold Exit.inBlock
        dsimp only
        rcases has_if h2 with ⟨hi, h3⟩ | ⟨hi, h3⟩
        · have := has_ret.1 h3
          simp only [Prod.mk.injEq] at this
          obtain ⟨rfl, _⟩ := this
          rw [if_pos hi]; exact ⟨trivial, p2⟩
        · have := has_ret.1 h3
          simp only [Prod.mk.injEq] at this
          obtain ⟨rfl, _⟩ := this
          rw [if_neg hi]; exact ⟨rfl, p2⟩
      | _ => exact p1.elim
  | loop c ih =>
    intro st e st' X M ρ a w h hs hx b k cs hro hb hr
    obtain ⟨e', a', w', h1, h2⟩ := hR.loop fid px inR c st e st' X M ρ a w F n h hF hs hx b k cs hro hb hr
    exact ⟨e', a', w', h1, .of_steps (.one (fenced_calm hb hr rfl) stepR_loop) h2⟩
  | rangeFunc g ps as bo _ _ =>
    intro st e st' X M ρ a w h hs hx
    exact hRange fid px inR g ps as bo st e st' X M ρ a w F n h hF hs hx
  | exit id => intro st e st' X M ρ a w h hs hx; exact wpIn_exit (self h rfl hs)
  | scope c ih =>
    intro st e st' X M ρ a w h hs hx b k cs hro hb hr
    obtain ⟨e', a', w', h1, h2⟩ := hR.scope fid px inR c c st e st' X M ρ a w F n h hF hs hx b k cs hro hb hr
    exact ⟨e', a', w', h1, .of_steps (.one (fenced_calm hb hr rfl) stepR_scope) h2⟩
  | goto l => intro st e st' X M ρ a w h hs hx; exact wpIn_goto (self h rfl hs)
  | ret => intro st e st' X M ρ a w h hs hx; exact wpIn_ret (self h trivial hs)
  | refuse u => intro st e st' X M ρ a w h hs hx; exact absurd h has_fail

/-! ### loops and scopes -/
/-- What is known of a piece of code is so. -/
structure HookOk (P : Program) (h : Hook Int Bool) : Prop where
  grow : ∀ px st e st', Has (h.run px st) (e, st') → Grow st.H st'.H
  loop : ∀ c inR px st e st' X M ρ a w F n, h.code = .loop c → Has (h.run px st) (e, st') → FenceOk F inR → StRep X M ρ st a w → (∀ n, X n → st'.H.get n = none) →
    ∀ (b : Frame) (k : List Item) (cs : List Frame), b.roundOf = F.round → F.fn b.fn → F.room (cs.length + 1 + n) →
      ∃ e' a' w', CodePost X M ρ st.H w e st' e' a' w' ∧ ArrivesIn (Machine.fenced P F) P (lone (b.atR a (.code c :: .inLoop c :: k)) cs w) b k cs e' a' w'
  scope : ∀ whole cur inR px st e st' X M ρ a w F n, h.code = .seq whole cur → Has (h.run px st) (e, st') → FenceOk F inR → StRep X M ρ st a w → (∀ n, X n → st'.H.get n = none) →
    ∀ (b : Frame) (k : List Item) (cs : List Frame), b.roundOf = F.round → F.fn b.fn → F.room (cs.length + 1 + n) →
      ∃ e' a' w', CodePost X M ρ st.H w e st' e' a' w' ∧ ArrivesIn (Machine.fenced P F) P (lone (b.atR a (.code cur :: .inScope whole :: k)) cs w) b k cs e' a' w'
def HooksOk (cx : Cx Int Bool) : Prop := ∀ h ∈ cx.hooks, HookOk cx.P h

theorem evLoop_grow (hK : HooksOk cx) (hG : RecGrow rc) {c : Code} (h : Has (evLoop cx rc fid px inR c st) (e, st')) : Grow st.H st'.H := by
  unfold evLoop at h
  rcases has_hooked h with h | ⟨hk, hk1, _, hk3⟩
  case inr => exact (hK hk hk1).grow _ _ _ _ hk3
  obtain ⟨⟨e1, st1⟩, h1, h2⟩ := has_bind h
  dsimp only at h2
  have g1 := evCode_grow hG _ _ _ _ h1
  split at h2
  · exact g1.trans (hG.loop _ _ _ _ _ _ _ h2)
  · have := has_ret.1 h2
    simp only [Prod.mk.injEq] at this
    rw [← this.2]; exact g1
theorem evLoop_sound (hK : HooksOk cx) (hm : cx.P.follows .mixedOrders = true) (hF : FenceOk F inR) (hR : RecOk cx.P rc) (hG : RecGrow rc) (hRange : RangeOk cx rc) {c : Code} (h : Has (evLoop cx rc fid px inR c st) (e, st')) (hs : StRep X M ρ st a w)
    (hx : ∀ n, X n → st'.H.get n = none) (b : Frame) (k : List Item) (cs : List Frame) (hro : b.roundOf = F.round) (hb : F.fn b.fn) (hr : F.room (cs.length + 1 + n)) :
    ∃ e' a' w', CodePost X M ρ st.H w e st' e' a' w' ∧ ArrivesIn (Machine.fenced cx.P F) cx.P (lone (b.atR a (.code c :: .inLoop c :: k)) cs w) b k cs e' a' w' := by
  unfold evLoop at h
  rcases has_hooked h with h | ⟨hk, hk1, hk2, hk3⟩
  case inr => exact (hK hk hk1).loop c inR px st e st' X M ρ a w F n hk2.symm hk3 hF hs hx b k cs hro hb hr
  obtain ⟨⟨e1, st1⟩, h1, h2⟩ := has_bind h
  dsimp only at h2
  have g1 := evCode_grow hG _ _ _ _ h1
  have g2 : Grow st1.H st'.H := by
    split at h2
    · exact hG.loop _ _ _ _ _ _ _ h2
    · have := has_ret.1 h2
      simp only [Prod.mk.injEq] at this
      rw [← this.2]; exact .refl _
  have hx1 : ∀ m, X m → st1.H.get m = none := fun m hm => grow_none g2 (hx m hm)
  obtain ⟨e', a1, w1, hp, harr⟩ := evCode_sound (n := n) hm hF hR hG hRange c st e1 st1 X M ρ a w h1 hs hx1 b (.inLoop c :: k) cs hro hb hr
  obtain ⟨p1, M1, ρ1, p2, p3⟩ := hp
  cases e1 with
  | nrm =>
    have := exRep_nrm p1
    subst this
    obtain ⟨e2, a2, w2, hp2, harr2⟩ := hR.loop fid px inR c st1 e st' X M1 ρ1 a1 w1 F n h2 hF p2 hx b k cs hro hb hr
    exact ⟨e2, a2, w2, hp2.comp hs.inv p3 g1 hx1, .of_steps (StepsIn.trans harr (.one (fenced_calm hb hr rfl) stepR_inLoop)) harr2⟩
  | ret =>
    have := has_ret.1 h2
    simp only [Prod.mk.injEq] at this
    obtain ⟨rfl, rfl⟩ := this
    exact ⟨e', a1, w1, ⟨p1, M1, ρ1, p2, p3⟩, .pass (x := .inLoop c) rfl (fun _ _ => .inl (exRep_of p1 (by simp))) harr⟩
  | exit i =>
    have := has_ret.1 h2
    simp only [Prod.mk.injEq] at this
    obtain ⟨rfl, rfl⟩ := this
    exact ⟨e', a1, w1, ⟨p1, M1, ρ1, p2, p3⟩, .pass (x := .inLoop c) rfl (fun _ _ => .inl (exRep_of p1 (by simp))) harr⟩
  | goto l =>
    have := has_ret.1 h2
    simp only [Prod.mk.injEq] at this
    obtain ⟨rfl, rfl⟩ := this
    exact ⟨e', a1, w1, ⟨p1, M1, ρ1, p2, p3⟩, .pass (x := .inLoop c) rfl (fun _ _ => .inl (exRep_of p1 (by simp))) harr⟩

theorem evScope_grow (hK : HooksOk cx) (hG : RecGrow rc) {whole cur : Code} (h : Has (evScope cx rc fid px inR whole cur st) (e, st')) : Grow st.H st'.H := by
  unfold evScope at h
  rcases has_hooked h with h | ⟨hk, hk1, _, hk3⟩
  case inr => exact (hK hk hk1).grow _ _ _ _ hk3
  obtain ⟨⟨e1, st1⟩, h1, h2⟩ := has_bind h
  dsimp only at h2
  have g1 := evCode_grow hG _ _ _ _ h1
  split at h2
  · split at h2
    · exact g1.trans (hG.scope _ _ _ _ _ _ _ _ h2)
    · have := has_ret.1 h2
      simp only [Prod.mk.injEq] at this
      rw [← this.2]; exact g1
  · have := has_ret.1 h2
    simp only [Prod.mk.injEq] at this
    rw [← this.2]; exact g1
theorem evScope_sound (hK : HooksOk cx) (hm : cx.P.follows .mixedOrders = true) (hF : FenceOk F inR) (hR : RecOk cx.P rc) (hG : RecGrow rc) (hRange : RangeOk cx rc) {whole cur : Code} (h : Has (evScope cx rc fid px inR whole cur st) (e, st')) (hs : StRep X M ρ st a w)
    (hx : ∀ n, X n → st'.H.get n = none) (b : Frame) (k : List Item) (cs : List Frame) (hro : b.roundOf = F.round) (hb : F.fn b.fn) (hr : F.room (cs.length + 1 + n)) :
    ∃ e' a' w', CodePost X M ρ st.H w e st' e' a' w' ∧ ArrivesIn (Machine.fenced cx.P F) cx.P (lone (b.atR a (.code cur :: .inScope whole :: k)) cs w) b k cs e' a' w' := by
  unfold evScope at h
  rcases has_hooked h with h | ⟨hk, hk1, hk2, hk3⟩
  case inr => exact (hK hk hk1).scope whole cur inR px st e st' X M ρ a w F n hk2.symm hk3 hF hs hx b k cs hro hb hr
  obtain ⟨⟨e1, st1⟩, h1, h2⟩ := has_bind h
  dsimp only at h2
  have g1 := evCode_grow hG _ _ _ _ h1
  have g2 : Grow st1.H st'.H := by
    split at h2
    · split at h2
      · exact hG.scope _ _ _ _ _ _ _ _ h2
      · have := has_ret.1 h2
        simp only [Prod.mk.injEq] at this
        rw [← this.2]; exact .refl _
    · have := has_ret.1 h2
      simp only [Prod.mk.injEq] at this
      rw [← this.2]; exact .refl _
  have hx1 : ∀ m, X m → st1.H.get m = none := fun m hm => grow_none g2 (hx m hm)
  obtain ⟨e', a1, w1, hp, harr⟩ := evCode_sound (n := n) hm hF hR hG hRange cur st e1 st1 X M ρ a w h1 hs hx1 b (.inScope whole :: k) cs hro hb hr
  obtain ⟨p1, M1, ρ1, p2, p3⟩ := hp
  cases e1 with
  | nrm =>
    have := has_ret.1 h2
    simp only [Prod.mk.injEq] at this
    obtain ⟨rfl, rfl⟩ := this
    have := exRep_nrm p1
    subst this
    exact ⟨.normal, a1, w1, ⟨trivial, M1, ρ1, p2, p3⟩, StepsIn.trans harr (.one (fenced_calm hb hr rfl) stepR_inScope)⟩
  | ret =>
    have := has_ret.1 h2
    simp only [Prod.mk.injEq] at this
    obtain ⟨rfl, rfl⟩ := this
    cases e' with
    | ret => exact ⟨.ret, a1, w1, ⟨trivial, M1, ρ1, p2, p3⟩, harr⟩
    | _ => exact p1.elim
  | exit i =>
    have := has_ret.1 h2
    simp only [Prod.mk.injEq] at this
    obtain ⟨rfl, rfl⟩ := this
    cases e' with
    | exit j =>
      have he : exitTo j (.inScope whole :: k) = exitTo j k := by simp [exitTo]
      exact ⟨.exit j, a1, w1, ⟨p1, M1, ρ1, p2, p3⟩, fun k' hk => harr.1 k' (by rw [he]; exact hk), fun hr' hk => harr.2 hr' (by rw [he]; exact hk)⟩
    | _ => exact p1.elim
  | goto l =>
    cases e' with
    | goto l' =>
      have hll : l = l' := p1
      subst hll
      dsimp only at h2
      split at h2
      · rename_i rest hfl
        have hg : gotoIn l (.inScope whole :: k) = some (.code rest :: .inScope whole :: k) := by simp [gotoIn, hfl]
        obtain ⟨e2, a2, w2, hp2, harr2⟩ := hR.scope fid px inR whole rest st1 e st' X M1 ρ1 a1 w1 F n h2 hF p2 hx b k cs hro hb hr
        exact ⟨e2, a2, w2, hp2.comp hs.inv p3 g1 hx1, .of_steps (harr.1 _ hg) harr2⟩
      · rename_i hfl
        have := has_ret.1 h2
        simp only [Prod.mk.injEq] at this
        obtain ⟨rfl, rfl⟩ := this
        have hg : gotoIn l (.inScope whole :: k) = gotoIn l k := by simp [gotoIn, hfl]
        exact ⟨.goto l, a1, w1, ⟨rfl, M1, ρ1, p2, p3⟩, fun k' hk => harr.1 k' (by rw [hg]; exact hk), fun hr' hk => harr.2 hr' (by rw [hg]; exact hk)⟩
    | _ => exact p1.elim
end
end Go.Sx
