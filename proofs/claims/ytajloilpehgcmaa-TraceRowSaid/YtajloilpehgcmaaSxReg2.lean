/- One operation of a region, calls and choices among them. Conditions: none. -/
import Derived.Test.YtajloilpehgcmaaSxReg1
import Derived.RangeFuncLeaves
set_option linter.unusedVariables false
set_option linter.unusedSimpArgs false
set_option linter.unusedSectionVars false

namespace Go.Sx

/-- What a call comes to. -/
def Post (X : Nm → Prop) (M : Mem) (ρ : Rho) (H : HH) (w : World) (v : VV) (H' : HH) (val : Value) (w' : World) : Prop :=
  ∃ M' ρ', Rep M' ρ' v val ∧ Inv X M' ρ' H' w' ∧ Ext X H M ρ w M' ρ' w'
def ExRep : Ex → Exit → Prop
  | .nrm, .normal => True
  | .ret, .ret => True
  | .exit i, .exit j => i = j
  | .goto l, .goto k => l = k
  | _, _ => False
def MarksRep (ρ : Rho) : List Nm → List Deferred → Prop
  | [], [] => True
  | n :: ns, d :: ds => (∃ r z, ρ n = some (r, z) ∧ d.target = .collected r) ∧ MarksRep ρ ns ds
  | _, _ => False
structure StRep (X : Nm → Prop) (M : Mem) (ρ : Rho) (st : St Int Bool) (a : Act) (w : World) : Prop where
  ts : RepL M ρ st.ts a.tmps.toList
  inv : Inv X M ρ st.H w
  marks : MarksRep ρ st.marks a.defers
def CodePost (X : Nm → Prop) (M : Mem) (ρ : Rho) (H : HH) (w : World) (e : Ex) (st' : St Int Bool) (e' : Exit) (a' : Act) (w' : World) : Prop :=
  ExRep e e' ∧ ∃ M' ρ', StRep X M' ρ' st' a' w' ∧ Ext X H M ρ w M' ρ' w'
def FenceOk (F : Fence) (inR : Bool) : Prop := if inR then ∃ l, F = Fence.wide.inRound l else F = Fence.wide

structure RecGrow (rc : Rec Int Bool) : Prop where
  call : ∀ nm f args H v H', Has (rc.call nm f args H) (v, H') → Grow H H'
  yield : ∀ nm l args H v H', Has (rc.yield nm l args H) (v, H') → Grow H H'
  code : ∀ fid px inR c st e st', Has (rc.code fid px inR c st) (e, st') → Grow st.H st'.H
  scope : ∀ fid px inR c d st e st', Has (rc.scope fid px inR c d st) (e, st') → Grow st.H st'.H
  loop : ∀ fid px inR c st e st', Has (rc.loop fid px inR c st) (e, st') → Grow st.H st'.H

structure RecOk (P : Program) (rc : Rec Int Bool) : Prop where
  call : ∀ nm f args H v H' X M ρ w (argv : Array Value), Has (rc.call nm f args H) (v, H') → Inv X M ρ H w → RepL M ρ args argv.toList → (∀ n, X n → H'.get n = none) →
    (callFunc f argv).run P w = .ok (.enter f argv) w ∧ ∀ n, CallsIn Fence.wide n P f argv w fun e w' => ∃ val, e = .returned val ∧ Post X M ρ H w v H' val w'
  yield : ∀ nm l args H v H' X M ρ w (argv : Array Value) b z, Has (rc.yield nm l args H) (v, H') → Inv X M ρ H w → RepL M ρ args argv.toList → (∀ n, X n → H'.get n = none) → ρ l = some (b, z) →
    ∃ f tmps assign body, (Instr.yield b argv).run P w = .ok (.round b f tmps assign body) w ∧ ∀ n, RoundIn Fence.wide n P b f tmps assign body w fun e w' => ∃ val, e = .returned val ∧ Post X M ρ H w v H' val w'
  code : ∀ fid px inR c st e st' X M ρ a w F n, Has (rc.code fid px inR c st) (e, st') → FenceOk F inR → StRep X M ρ st a w → (∀ n, X n → st'.H.get n = none) →
    c.wpIn F n P (CodePost X M ρ st.H w e st') a w
  scope : ∀ fid px inR whole cur st e st' X M ρ a w F n, Has (rc.scope fid px inR whole cur st) (e, st') → FenceOk F inR → StRep X M ρ st a w → (∀ n, X n → st'.H.get n = none) →
    ∀ (b : Frame) (k : List Item) (cs : List Frame), b.roundOf = F.round → F.fn b.fn → F.room (cs.length + 1 + n) →
      ∃ e' a' w', CodePost X M ρ st.H w e st' e' a' w' ∧ ArrivesIn (Machine.fenced P F) P (lone (b.atR a (.code cur :: .inScope whole :: k)) cs w) b k cs e' a' w'
  loop : ∀ fid px inR c st e st' X M ρ a w F n, Has (rc.loop fid px inR c st) (e, st') → FenceOk F inR → StRep X M ρ st a w → (∀ n, X n → st'.H.get n = none) →
    ∀ (b : Frame) (k : List Item) (cs : List Frame), b.roundOf = F.round → F.fn b.fn → F.room (cs.length + 1 + n) →
      ∃ e' a' w', CodePost X M ρ st.H w e st' e' a' w' ∧ ArrivesIn (Machine.fenced P F) P (lone (b.atR a (.code c :: .inLoop c :: k)) cs w) b k cs e' a' w'

section
variable {X : Nm → Prop} {M : Mem} {ρ ρ' : Rho} {w w' : World} {cx : Cx Int Bool} {H H' H2 : HH} {F : Fence} {n : Nat} {inR : Bool}

theorem fence_fn (h : FenceOk F inR) (f : FuncId) : F.fn f := by
  unfold FenceOk at h
  split at h
  · obtain ⟨l, rfl⟩ := h; trivial
  · subst h; trivial
theorem fence_depth (h : FenceOk F inR) : F.depth = none := by
  unfold FenceOk at h
  split at h
  · obtain ⟨l, rfl⟩ := h; rfl
  · subst h; rfl
theorem fence_calls (h : FenceOk F inR) {P : Program} {f : FuncId} {args : Array Value} {R : Ending → World → Prop} (hc : CallsIn Fence.wide n P f args w R) : CallsIn F n P f args w R := by
  unfold FenceOk at h
  split at h
  · obtain ⟨l, rfl⟩ := h; exact hc
  · subst h; exact hc
theorem fence_round (h : FenceOk F inR) {P : Program} {l : Nat} {f : FuncId} {tmps : Array Value} {as bo : Code} {R : Ending → World → Prop} (hc : RoundIn Fence.wide n P l f tmps as bo w R) : RoundIn F n P l f tmps as bo w R := by
  unfold FenceOk at h
  split at h
  · obtain ⟨l, rfl⟩ := h; exact hc
  · subst h; exact hc

/-! ### operands -/
def Holds (ops : Array Oper) (tmps : Array Value) (T : List (Nat × Bool)) : Prop := ∀ p ∈ T, yielded ops tmps p.1 = some p.2
/-- What operands come to, under whichever guards. -/
def EvOk (nd : Bool) (ops : Array Oper) (ts : List VV) (a : Act) (M : Mem) (ρ : Rho) (xs : List Operand) : Prop :=
  ∀ T, (nd = false → T = []) → Holds ops a.tmps T → ∀ x ∈ xs, ∀ u, Has (operandE ts T x) u → Rep M ρ u (a.eval x)

theorem isSuffix_mem {a b : List (Nat × Bool)} (h : isSuffix a b = true) : ∀ p ∈ a, p ∈ b := by
  unfold isSuffix at h
  simp only [Bool.and_eq_true, beq_iff_eq] at h
  intro p hp
  rw [← h.1] at hp
  exact List.mem_of_mem_drop hp

theorem strip_sound {T : List (Nat × Bool)} {v u : VV} {val : Value} (h : Has (strip T v) u) (hv : Rep M ρ v val)
    (ht : ∀ tg g v', v = .may tg g v' → tg ≠ [] → (∀ p ∈ tg, p ∈ T) → g = true) : Rep M ρ u val := by
  unfold strip at h
  split at h
  · rename_i tg g v'
    rcases has_if h with ⟨hc, h2⟩ | ⟨_, h2⟩
    · have := has_ret.1 h2
      subst this
      simp only [Bool.and_eq_true, Bool.not_eq_true', List.isEmpty_eq_false_iff] at hc
      have hg := ht tg g v' rfl hc.2 (isSuffix_mem hc.1)
      cases hv with
      | may _ _ _ _ h1 h0 => exact h1 hg
    · exact absurd h2 has_fail
  · exact absurd h has_fail
  · have := has_ret.1 h
    subst this
    exact hv

theorem evOk_intro {nd : Bool} {ops : Array Oper} {ts : List VV} {a : Act} {xs : List Operand} (hr : ∀ t, .tmp t ∈ xs → Rep M ρ (getT ts t) (a.tmps.getD t undef))
    (ht : nd = true → ∀ t, .tmp t ∈ xs → ∀ tg g v, getT ts t = .may tg g v → tg ≠ [] → Holds ops a.tmps tg → g = true) : EvOk nd ops ts a M ρ xs := by
  intro T hT hH x hx u hu
  unfold operandE at hu
  split at hu
  · rename_i t
    refine strip_sound hu (hr t hx) fun tg g v' hv hne hsub => ?_
    cases nd with
    | true => exact ht rfl t hx tg g v' hv hne fun p hp => hH p (hsub p hp)
    | false =>
      have := hT rfl
      subst this
      cases tg with
      | nil => exact absurd rfl hne
      | cons p tg => exact absurd (hsub p (by simp)) (by simp)
  · exact rep_const (has_opt.1 hu)
  · have := has_ret.1 hu
    subst this
    exact .fn _ [] [] #[] #[] rfl rfl (by simp) (by simp)
  · exact absurd hu has_fail

/-- r where it is asked. -/
noncomputable def maskR (xs : List Operand) (r : Operand → EE VV) : Operand → EE VV := fun x => by
  classical exact if x ∈ xs then r x else .fail ""
theorem maskR_eq {xs : List Operand} {r : Operand → EE VV} : ∀ x ∈ xs, r x = maskR xs r x := fun x hx => by
  unfold maskR; rw [if_pos hx]
theorem maskR_rep {xs : List Operand} {r : Operand → EE VV} {e : Operand → Value} (h : ∀ x ∈ xs, ∀ u, Has (r x) u → Rep M ρ u (e x)) : OpsRep M ρ (maskR xs r) e := by
  intro x u hu
  unfold maskR at hu
  split at hu
  · rename_i hx; exact h x hx u hu
  · exact absurd hu has_fail

theorem writerOf_some : ∀ (l : List Oper) (t : Tmp) (k j : Nat), writerOf l t k = some j → k ≤ j ∧ (l[j - k]?).bind (·.dst) = some t
  | [], t, k, j, h => by simp [writerOf] at h
  | o :: l, t, k, j, h => by
    unfold writerOf at h
    split at h
    · rename_i hd
      simp only [Option.some.injEq] at h
      subst h
      simp [hd]
    · obtain ⟨h1, h2⟩ := writerOf_some l t (k + 1) j h
      refine ⟨by omega, ?_⟩
      rw [show j - k = (j - (k + 1)) + 1 by omega, List.getElem?_cons_succ]
      exact h2

theorem pickOp_sound {nd : Bool} {ops : Array Oper} {ts : List VV} {a : Act} {T : List (Nat × Bool)} {c x y : Operand} {v : VV} (h : Has (pickOp ops ts T c x y) v) (hT : nd = false → T = []) (hnd : nd = true)
    (hH : Holds ops a.tmps T) (he : EvOk nd ops ts a M ρ [c, x, y]) : ∃ b, a.eval c = .bool b ∧ Rep M ρ v (if b then a.eval x else a.eval y) := by
  subst hnd
  have ev : ∀ T', Holds ops a.tmps T' → ∀ z ∈ [c, x, y], ∀ u, Has (operandE ts T' z) u → Rep M ρ u (a.eval z) := fun T' => he T' (by simp)
  unfold pickOp at h
  obtain ⟨vc, h1, h2⟩ := has_bind h
  have rc := ev T hH c (by simp) vc h1
  split at h2
  · rename_i p t
    split at h2
    · rename_i j hj
      obtain ⟨va, h3, h4⟩ := has_bind h2
      obtain ⟨vb, h5, h6⟩ := has_bind h4
      generalize hev : a.eval (.tmp t) = vv at rc
      cases rc
      refine ⟨p, rfl, ?_⟩
      have hd : (ops[j]?).bind (·.dst) = some t := by
        have := (writerOf_some _ _ _ _ hj).2
        simpa using this
      have hyl : yielded ops a.tmps j = some p := by
        unfold yielded
        rw [hd]
        simp only [Act.eval] at hev
        have : a.tmps[t]? = some (.bool p) := by
          rw [Array.getD_eq_getD_getElem?] at hev
          cases hq : a.tmps[t]? with
          | none => rw [hq] at hev; simp [undef] at hev
          | some q => rw [hq] at hev; simp at hev; rw [hev]
        simp [this]
      cases p with
      | true =>
        have ra := ev ((j, true) :: T) (by intro q hq; simp only [List.mem_cons] at hq; rcases hq with rfl | hq; exact hyl; exact hH q hq) x (by simp) va h3
        simp only [if_true]
        unfold pickE at h6
        dsimp only at h6
        split at h6
        · have := has_ret.1 h6
          subst this
          simp only [alg_bi, bi, cond_true]
          generalize a.eval x = vx at ra ⊢
          cases ra with
          | bool => exact .bool _ _
        · rcases has_if h6 with ⟨_, h7⟩ | ⟨_, h7⟩
          · have := has_ret.1 h7
            subst this
            simp only [alg_ii, ii, cond_true]
            generalize a.eval x = vx at ra ⊢
            cases ra with
            | int => exact .int _ _ _
          · exact absurd h7 has_fail
        · exact absurd h6 has_fail
      | false =>
        have rb := ev ((j, false) :: T) (by intro q hq; simp only [List.mem_cons] at hq; rcases hq with rfl | hq; exact hyl; exact hH q hq) y (by simp) vb h5
        simp only [Bool.false_eq_true, if_false]
        unfold pickE at h6
        dsimp only at h6
        split at h6
        · have := has_ret.1 h6
          subst this
          simp only [alg_bi, bi, cond_false]
          generalize a.eval y = vy at rb ⊢
          cases rb with
          | bool => exact .bool _ _
        · rcases has_if h6 with ⟨hk, h7⟩ | ⟨_, h7⟩
          · have := has_ret.1 h7
            subst this
            subst hk
            simp only [alg_ii, ii, cond_false]
            generalize a.eval y = vy at rb ⊢
            cases rb with
            | int => exact .int _ _ _
          · exact absurd h7 has_fail
        · exact absurd h6 has_fail
    · obtain ⟨va, h3, h4⟩ := has_bind h2
      obtain ⟨vb, h5, h6⟩ := has_bind h4
      exact pickE_sound h6 rc (ev T hH x (by simp) va h3) (ev T hH y (by simp) vb h5)
  · rename_i p
    generalize hev : a.eval c = vv at rc
    cases rc
    refine ⟨p, rfl, ?_⟩
    rcases has_if h2 with ⟨hp, h3⟩ | ⟨hp, h3⟩
    · simp only [alg_bval] at hp
      simp only [hp, if_true]
      exact ev T hH x (by simp) v h3
    · simp only [alg_bval, Bool.not_eq_true] at hp
      simp only [hp, Bool.false_eq_true, if_false]
      exact ev T hH y (by simp) v h3
  · obtain ⟨va, h3, h4⟩ := has_bind h2
    obtain ⟨vb, h5, h6⟩ := has_bind h4
    exact pickE_sound h6 rc (ev T hH x (by simp) va h3) (ev T hH y (by simp) vb h5)
end
end Go.Sx
