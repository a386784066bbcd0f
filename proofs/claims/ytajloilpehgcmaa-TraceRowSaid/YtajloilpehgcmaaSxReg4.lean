/- Regions in the order of their text. Conditions: none. -/
import Derived.Test.YtajloilpehgcmaaSxReg3
set_option linter.unusedVariables false
set_option linter.unusedSimpArgs false
set_option linter.unusedSectionVars false

namespace Go.Sx
section
variable {X : Nm → Prop} {M M' : Mem} {ρ ρ' : Rho} {w w' : World} {cx : Cx Int Bool} {H H' H2 Hc K : HH} {F : Fence} {n : Nat} {inR : Bool}
variable {rc : Rec Int Bool} {ops : Array Oper} {px : Nm} {T : List (Nat × Bool)} {ts ts' ts1 : List VV} {o : Oper} {v : VV} {q nd : Bool} {k : Nat}

theorem getT_put (ts : List VV) (d t : Tmp) (v : VV) : getT (putT ts (some d) v) t = if t = d ∧ d < ts.length then v else getT ts t := by
  simp only [getT, putT, setT, List.getElem?_set]
  by_cases h : d = t
  · subst h
    by_cases hl : d < ts.length
    · simp [hl]
    · simp [hl]
  · simp [h, Ne.symm h]
theorem getT_none (ts : List VV) (t : Tmp) (v : VV) : getT (putT ts none v) t = getT ts t := rfl
theorem putT_length (ts : List VV) (d : Option Tmp) (v : VV) : (putT ts d v).length = ts.length := by
  cases d <;> simp [putT, setT]

theorem repL_getT {a : Act} (h : RepL M ρ ts a.tmps.toList) (t : Nat) : Rep M ρ (getT ts t) (a.tmps.getD t undef) := by
  have hl : ts.length = a.tmps.size := by simpa using h.1
  unfold getT
  by_cases ht : t < ts.length
  · have h1 : ts[t]? = some ts[t] := List.getElem?_eq_getElem ht
    have h2 : a.tmps[t]? = some (a.tmps[t]'(by omega)) := by simp [hl ▸ ht]
    have := h.2 t ts[t] _ h1 (by rw [Array.getElem?_toList]; exact h2)
    rw [h1, Array.getD_eq_getD_getElem?, h2]
    exact this
  · rw [List.getElem?_eq_none (by omega), Array.getD_eq_getD_getElem?, Array.getElem?_eq_none (by omega)]
    exact .undef
theorem repL_put {a : Act} (h : RepL M ρ ts a.tmps.toList) (d : Option Tmp) {val : Value} (hv : Rep M ρ v val) : RepL M ρ (putT ts d v) (a.put d val).tmps.toList := by
  cases d with
  | none => exact h
  | some d =>
    refine ⟨by simp [putT, setT, Act.put, h.1], fun i x y hx hy => ?_⟩
    simp only [putT, setT, List.getElem?_set] at hx
    simp only [Act.put, Array.toList_setIfInBounds, List.getElem?_set] at hy
    split at hx
    · rename_i hi
      rw [if_pos hi] at hy
      split at hx
      · split at hy
        · simp only [Option.some.injEq] at hx hy; subst hx hy; exact hv
        · cases hy
      · cases hx
    · rename_i hi
      rw [if_neg hi] at hy
      exact h.2 i x y hx hy

/-! ### guards -/
def NotMay (v : VV) : Prop := ∀ tg g u, v ≠ .may tg g u
theorem plain_notMay {v u : VV} (h : Has (plainE v) u) : u = v ∧ NotMay v := by
  unfold plainE at h
  split at h
  · exact absurd h has_fail
  · rename_i hn
    have := has_ret.1 h
    exact ⟨this.symm, fun tg g u he => hn tg g u he⟩

/-- A step, taken apart. -/
theorem step_cases (h : Has (stepOp cx rc q ops px k ts H) (ts', H')) : ∃ o ts1 gr, ops[k]? = some o ∧ Has (guardE q ops ts o) (ts1, gr) ∧
    ((gr = .skip ∧ ts' = putT ts1 o.dst .undef ∧ H' = H) ∨
     (gr = .go ∧ ∃ v, NotMay v ∧ Has (runOp cx rc ops (k :: px) [] ts1 H o) (v, H') ∧ ts' = putT ts1 o.dst v) ∨
     (∃ T g, gr = .opn T g ∧ quietOp o = true ∧ ∃ v H2, Has (runOp cx rc ops (k :: px) T ts1 H o) (v, H2) ∧ ts' = putT ts1 o.dst (.may T g v) ∧ H' = H)) := by
  unfold stepOp at h
  split at h
  · exact absurd h has_fail
  · rename_i o ho
    obtain ⟨⟨ts1, gr⟩, h1, h2⟩ := has_bind h
    refine ⟨o, ts1, gr, ho, h1, ?_⟩
    dsimp only at h2
    split at h2
    · have := has_ret.1 h2
      simp only [Prod.mk.injEq] at this
      exact .inl ⟨rfl, this.1.symm, this.2.symm⟩
    · obtain ⟨⟨v, H1⟩, h3, h4⟩ := has_bind h2
      obtain ⟨v', h5, h6⟩ := has_bind h4
      obtain ⟨rfl, hp⟩ := plain_notMay h5
      have := has_ret.1 h6
      simp only [Prod.mk.injEq] at this
      obtain ⟨rfl, rfl⟩ := this
      exact .inr (.inl ⟨rfl, v', hp, h3, rfl⟩)
    · rename_i T g
      rcases has_if h2 with ⟨hq, h3⟩ | ⟨_, h3⟩
      · obtain ⟨⟨v, H1⟩, h4, h5⟩ := has_bind h3
        obtain ⟨v', h6, h7⟩ := has_bind h5
        obtain ⟨rfl, hp⟩ := plain_notMay h6
        have := has_ret.1 h7
        simp only [Prod.mk.injEq] at this
        exact .inr (.inr ⟨T, g, rfl, hq, v', H1, h4, this.1.symm, this.2.symm⟩)
      · exact absurd h3 has_fail

/-- A guard's answer refines what stands in the temporaries. -/
def Refines (ts ts1 : List VV) : Prop := ts1.length = ts.length ∧ ∀ t, getT ts1 t = getT ts t ∨ ∃ b, getT ts t = .bool true b ∧ getT ts1 t = .bool false b
theorem Refines.refl (ts : List VV) : Refines ts ts := ⟨rfl, fun _ => .inl rfl⟩
theorem Refines.rep (h : Refines ts ts1) {t : Tmp} {val : Value} (hr : Rep M ρ (getT ts t) val) : Rep M ρ (getT ts1 t) val := by
  rcases h.2 t with h | ⟨b, h1, h2⟩
  · rw [h]; exact hr
  · rw [h1] at hr
    rw [h2]
    cases hr
    exact .bool _ _
theorem Refines.repL (h : Refines ts ts1) {vs : List Value} (hr : RepL M ρ ts vs) : RepL M ρ ts1 vs := by
  refine ⟨by rw [h.1]; exact hr.1, fun i x y hx hy => ?_⟩
  have hi := (List.getElem?_eq_some_iff.1 hx).1
  rw [h.1] at hi
  have h1 : ts[i]? = some ts[i] := List.getElem?_eq_getElem hi
  have h2 := hr.2 i ts[i] y h1 hy
  have h3 : getT ts i = ts[i] := by simp [getT, h1]
  have h4 : getT ts1 i = x := by simp [getT, hx]
  rw [← h3] at h2
  have := h.rep h2
  rwa [h4] at this

theorem guard_refines {gr : GR Bool} (h : Has (guardE q ops ts o) (ts1, gr)) : Refines ts ts1 := by
  unfold guardE at h
  split at h
  · have := has_ret.1 h
    simp only [Prod.mk.injEq] at this
    rw [this.1]; exact .refl _
  · split at h
    · exact absurd h has_fail
    · rename_i j want hg tj hj
      split at h
      · have := has_ret.1 h
        simp only [Prod.mk.injEq] at this
        rw [this.1]; exact .refl _
      · rename_i b hb
        rcases has_if h with ⟨_, h2⟩ | ⟨_, h2⟩
        · have := has_ret.1 h2
          simp only [Prod.mk.injEq] at this
          rw [this.1]; exact .refl _
        · obtain ⟨x, h3, h4⟩ := has_bind h2
          have hx := has_way h3
          subst hx
          have := has_ret.1 h4
          simp only [Prod.mk.injEq, alg_blit] at this
          obtain ⟨rfl, _⟩ := this
          refine ⟨by simp [setT], fun t => ?_⟩
          have := getT_put ts tj t (.bool false b)
          simp only [putT] at this
          rw [this]
          split
          · rename_i ht
            obtain ⟨rfl, _⟩ := ht
            exact .inr ⟨b, hb, rfl⟩
          · exact .inl rfl
      · rcases has_if h with ⟨_, h2⟩ | ⟨_, h2⟩
        · have := has_ret.1 h2
          simp only [Prod.mk.injEq] at this
          rw [this.1]; exact .refl _
        · exact absurd h2 has_fail
      · have := has_ret.1 h
        simp only [Prod.mk.injEq] at this
        rw [this.1]; exact .refl _
      · exact absurd h has_fail

def GuardLike (ts : List VV) (t : Tmp) : Prop := (∃ s b, getT ts t = .bool s b) ∨ ∃ tg g s b, getT ts t = .may tg g (.bool s b)
def YieldsV (ops : Array Oper) (ts : List VV) (p : Nat × Bool) : Prop :=
  ∃ tj, dstOf ops p.1 = some tj ∧ ((∃ s, getT ts tj = .bool s p.2) ∨ ∃ tg s, getT ts tj = .may tg true (.bool s p.2))
def HoldsV (ops : Array Oper) (ts : List VV) (T : List (Nat × Bool)) : Prop := ∀ p ∈ T, YieldsV ops ts p
/-- The guards that values hang on. -/
def TagV (ops : Array Oper) (ts : List VV) (done : List Nat) : Prop :=
  ∀ t tg g v, getT ts t = .may tg g v → (∀ p ∈ tg, p.1 ∈ done ∧ uniqW ops p.1 = true ∧ ∃ tj, dstOf ops p.1 = some tj ∧ GuardLike ts tj) ∧ (g = true ↔ HoldsV ops ts tg)
def TagInv (q nd : Bool) (ops : Array Oper) (ts : List VV) (done : List Nat) : Prop :=
  nd = true → TagV ops ts done ∧ (q = false → ∀ t, NotMay (getT ts t))

theorem yielded_of {a : Act} {j tj : Nat} (hd : dstOf ops j = some tj) {b : Bool} (h : a.tmps.getD tj undef = .bool b) : yielded ops a.tmps j = some b := by
  unfold yielded
  unfold dstOf at hd
  rw [hd]
  have : a.tmps[tj]? = some (.bool b) := by
    rw [Array.getD_eq_getD_getElem?] at h
    cases hq : a.tmps[tj]? with
    | none => rw [hq] at h; simp [undef] at h
    | some x => rw [hq] at h; simp at h; rw [h]
  simp [this]
theorem yielded_undef {a : Act} {j tj : Nat} (hd : dstOf ops j = some tj) (h : a.tmps.getD tj undef = undef) : yielded ops a.tmps j = none := by
  unfold yielded
  unfold dstOf at hd
  rw [hd]
  rw [Array.getD_eq_getD_getElem?] at h
  cases hq : a.tmps[tj]? with
  | none => simp [hq]
  | some x => rw [hq] at h; simp [undef] at h; simp [hq, h]

/-- What the values say of the guards is what the temporaries say. -/
theorem yields_iff {a : Act} {p : Nat × Bool} {tj : Tmp} (hd : dstOf ops p.1 = some tj) (hg : GuardLike ts tj) (hr : Rep M ρ (getT ts tj) (a.tmps.getD tj undef)) : yielded ops a.tmps p.1 = some p.2 ↔ YieldsV ops ts p := by
  rcases hg with ⟨s, b, h⟩ | ⟨tg, g, s, b, h⟩
  · rw [h] at hr
    generalize hv : a.tmps.getD tj undef = val at hr
    cases hr
    rw [yielded_of hd hv]
    constructor
    · intro h1
      simp only [Option.some.injEq] at h1
      exact ⟨tj, hd, .inl ⟨s, by rw [h, h1]⟩⟩
    · rintro ⟨tj', hd', h1⟩
      rw [hd] at hd'
      simp only [Option.some.injEq] at hd'
      subst hd'
      rw [h] at h1
      rcases h1 with ⟨s', h1⟩ | ⟨tg, s', h1⟩
      · simp only [V.bool.injEq] at h1
        simp [h1.2]
      · cases h1
  · rw [h] at hr
    generalize hv : a.tmps.getD tj undef = val at hr
    cases hr with
    | may _ _ _ _ h1 h0 =>
      cases g with
      | true =>
        have h2 := h1 rfl
        cases h2
        rw [yielded_of hd hv]
        constructor
        · intro h1
          simp only [Option.some.injEq] at h1
          exact ⟨tj, hd, .inr ⟨tg, s, by rw [h, h1]⟩⟩
        · rintro ⟨tj', hd', h1⟩
          rw [hd] at hd'
          simp only [Option.some.injEq] at hd'
          subst hd'
          rw [h] at h1
          rcases h1 with ⟨s', h1⟩ | ⟨tg, s', h1⟩
          · cases h1
          · simp only [V.may.injEq, V.bool.injEq] at h1
            simp [h1.2.2.2]
      | false =>
        have h2 := h0 rfl
        subst h2
        rw [yielded_undef hd hv]
        constructor
        · intro h1; cases h1
        · rintro ⟨tj', hd', h1⟩
          rw [hd] at hd'
          simp only [Option.some.injEq] at hd'
          subst hd'
          rw [h] at h1
          rcases h1 with ⟨s', h1⟩ | ⟨tg, s', h1⟩
          · cases h1
          · simp only [V.may.injEq] at h1
            exact absurd h1.2.1 (by simp)
theorem holds_iff {a : Act} {tg : List (Nat × Bool)} (hg : ∀ p ∈ tg, ∃ tj, dstOf ops p.1 = some tj ∧ GuardLike ts tj ∧ Rep M ρ (getT ts tj) (a.tmps.getD tj undef)) :
    Holds ops a.tmps tg ↔ HoldsV ops ts tg := by
  constructor
  · intro h p hp
    obtain ⟨tj, h1, h2, h3⟩ := hg p hp
    exact (yields_iff h1 h2 h3).1 (h p hp)
  · intro h p hp
    obtain ⟨tj, h1, h2, h3⟩ := hg p hp
    exact (yields_iff h1 h2 h3).2 (h p hp)

def GuardSays (ops : Array Oper) (o : Oper) (tmps : Array Value) (q : Bool) : GR Bool → Prop
  | .go => Region.wanted o (yielded ops tmps) = true
  | .skip => Region.wanted o (yielded ops tmps) = false
  | .opn T g => Region.wanted o (yielded ops tmps) = g ∧ (g = true → Holds ops tmps T) ∧ q = true ∧ ∃ j want tg, o.guard = some (j, want) ∧ T = (j, want) :: tg
/-- What a guard's answer says of the model. -/
theorem guard_sound {gr : GR Bool} (h : Has (guardE q ops ts o) (ts1, gr)) {a : Act}
    (hr : ∀ j want, o.guard = some (j, want) → ∀ tj, dstOf ops j = some tj → Rep M ρ (getT ts tj) (a.tmps.getD tj undef) ∧
      ∀ tg g v, getT ts tj = .may tg g v → (Holds ops a.tmps tg ↔ g = true)) :
    GuardSays ops o a.tmps q gr := by
  unfold guardE at h
  split at h
  · rename_i hg
    have := has_ret.1 h
    simp only [Prod.mk.injEq] at this
    obtain ⟨_, rfl⟩ := this
    simp [GuardSays, Region.wanted, hg]
  · rename_i j want hg
    have hwant : Region.wanted o (yielded ops a.tmps) = (yielded ops a.tmps j == some want) := by simp [Region.wanted, hg]
    split at h
    · exact absurd h has_fail
    · rename_i tj hj
      obtain ⟨hrep, htag⟩ := hr j want hg tj hj
      split at h
      · rename_i b hb
        rw [hb] at hrep
        generalize hv : a.tmps.getD tj undef = val at hrep
        cases hrep
        have hy := yielded_of (ops := ops) hj hv
        have := has_ret.1 h
        simp only [Prod.mk.injEq, alg_bval] at this
        obtain ⟨_, rfl⟩ := this
        cases hbw : (b == want) with
        | true => simp only [if_true, GuardSays]; rw [hwant, hy]; simpa using hbw
        | false => simp only [Bool.false_eq_true, if_false, GuardSays]; rw [hwant, hy]; simpa using hbw
      · rename_i b hb
        rw [hb] at hrep
        generalize hv : a.tmps.getD tj undef = val at hrep
        cases hrep
        have hy := yielded_of (ops := ops) hj hv
        rcases has_if h with ⟨hq, h2⟩ | ⟨_, h2⟩
        · have := has_ret.1 h2
          simp only [Prod.mk.injEq, alg_be, alg_blit] at this
          obtain ⟨_, rfl⟩ := this
          refine ⟨by rw [hwant, hy]; cases b <;> cases want <;> rfl, fun hg' => ?_, hq, j, want, [], hg, rfl⟩
          intro p hp
          simp only [List.mem_singleton] at hp
          subst hp
          rw [hy]
          simp only [beq_iff_eq] at hg'
          rw [hg']
        · obtain ⟨x, h3, h4⟩ := has_bind h2
          have hx := has_way h3
          subst hx
          have := has_ret.1 h4
          simp only [Prod.mk.injEq] at this
          obtain ⟨_, rfl⟩ := this
          cases hbw : (b == want) with
          | true => simp only [if_true, GuardSays]; rw [hwant, hy]; simpa using hbw
          | false => simp only [Bool.false_eq_true, if_false, GuardSays]; rw [hwant, hy]; simpa using hbw
      · rename_i tg g s b hb
        rw [hb] at hrep
        have ht := htag tg g _ hb
        generalize hv : a.tmps.getD tj undef = val at hrep
        rcases has_if h with ⟨hq, h2⟩ | ⟨_, h2⟩
        · have := has_ret.1 h2
          simp only [Prod.mk.injEq, alg_be, alg_blit, alg_bi] at this
          obtain ⟨_, rfl⟩ := this
          cases hrep with
          | may _ _ _ _ h1 h0 =>
            cases g with
            | true =>
              have h3 := h1 rfl
              cases h3
              have hy := yielded_of (ops := ops) hj hv
              refine ⟨by rw [hwant, hy]; cases b <;> cases want <;> rfl, fun hg' => ?_, hq, j, want, tg, hg, rfl⟩
              simp only [bi, cond_true, beq_iff_eq] at hg'
              intro p hp
              simp only [List.mem_cons] at hp
              rcases hp with rfl | hp
              · rw [hy, hg']
              · exact ht.2 rfl p hp
            | false =>
              have h3 := h0 rfl
              subst h3
              have hy := yielded_undef (ops := ops) hj hv
              refine ⟨by rw [hwant, hy]; rfl, fun hg' => ?_, hq, j, want, tg, hg, rfl⟩
              simp [bi] at hg'
        · exact absurd h2 has_fail
      · rename_i hb
        rw [hb] at hrep
        generalize hv : a.tmps.getD tj undef = val at hrep
        cases hrep
        have := has_ret.1 h
        simp only [Prod.mk.injEq] at this
        obtain ⟨_, rfl⟩ := this
        have hy := yielded_undef (ops := ops) hj hv
        simp only [GuardSays]
        rw [hwant, hy]; rfl
      · exact absurd h has_fail
end
end Go.Sx
