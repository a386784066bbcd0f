/- Regions whose order is drawn: facts of the one run. Conditions: none. -/
import Derived.Test.YtajloilpehgcmaaSxReg7
set_option linter.unusedVariables false
set_option linter.unusedSimpArgs false
set_option linter.unusedSectionVars false

namespace Go.Sx
section
variable {X X' : Nm → Prop} {M M' : Mem} {ρ ρ' : Rho} {w w' : World} {cx : Cx Int Bool} {H H' H2 Hc K : HH} {F : Fence} {n : Nat} {inR : Bool}
variable {rc : Rec Int Bool} {ops : Array Oper} {px : Nm} {T : List (Nat × Bool)} {ts ts' ts1 : List VV} {o : Oper} {v : VV} {q nd : Bool} {k : Nat} {done : List Nat}
variable {pre : Nat → Nat} {lz : List Nat} {S : Nat → List VV × HH}

theorem some_lt {i k : Nat} (h : lz[i]? = some k) : i < lz.length := (List.getElem?_eq_some_iff.1 h).1
theorem at_lt {i : Nat} (h : i < lz.length) : ∃ k, lz[i]? = some k := ⟨_, List.getElem?_eq_getElem h⟩

theorem Canon.op (hC : Canon cx rc q ops px pre lz S) {i k : Nat} (h : lz[i]? = some k) : ∃ o, ops[k]? = some o := by
  obtain ⟨o, _, _, ho, _⟩ := step_cases (hC.step i k h)
  exact ⟨o, ho⟩
theorem Canon.grow1 (hC : Canon cx rc q ops px pre lz S) (hG : RecGrow rc) {i : Nat} (h : i < lz.length) : Grow (S i).2 (S (i + 1)).2 := by
  obtain ⟨k, hk⟩ := at_lt h
  exact step_grow hG (hC.step i k hk)
theorem Canon.grow (hC : Canon cx rc q ops px pre lz S) (hG : RecGrow rc) {i : Nat} : ∀ (j : Nat), i ≤ j → j ≤ lz.length → Grow (S i).2 (S j).2
  | 0, h, _ => by
    have : i = 0 := by omega
    subst this; exact .refl _
  | j + 1, h, hj => by
    by_cases he : i = j + 1
    · subst he; exact .refl _
    · exact (Canon.grow hC hG j (by omega) (by omega)).trans (hC.grow1 hG (by omega))
theorem Canon.none_of (hC : Canon cx rc q ops px pre lz S) (hG : RecGrow rc) {i j : Nat} (h : i ≤ j) (hj : j ≤ lz.length) {m : Nm} (hn : (S j).2.get m = none) : (S i).2.get m = none :=
  grow_none (hC.grow hG j h hj) hn

theorem eff_not_new {k : Nat} (h : IsEff ops k) : ¬ IsNew ops k := by
  obtain ⟨o, h1, h2⟩ := h
  rintro ⟨o', h3, h4⟩
  rw [h1] at h3
  simp only [Option.some.injEq] at h3
  subst h3
  unfold newOp at h4
  split at h4 <;> rename_i hop <;> first | (simp [effectOp, hop] at h2; done) | cases h4

/-- A step that neither lays nor writes leaves memory as it was. -/
theorem Canon.plainStep (hC : Canon cx rc q ops px pre lz S) {i k : Nat} (h : lz[i]? = some k) (he : ¬ IsEff ops k) (hn : ¬ IsNew ops k) : (S (i + 1)).2 = (S i).2 := by
  obtain ⟨o, ts1, gr, ho, _, hc⟩ := step_cases (ts' := (S (i + 1)).1) (H' := (S (i + 1)).2) (hC.step i k h)
  rcases hc with ⟨_, _, h1⟩ | ⟨_, v, _, h1, _⟩ | ⟨T, g, _, _, v, H2, _, _, h1⟩
  · exact h1
  · have hq : effectOp o = false := by
      cases hq : effectOp o with
      | false => rfl
      | true => exact absurd ⟨o, ho, hq⟩ he
    have hq2 : newOp o = false := by
      cases hq : newOp o with
      | false => rfl
      | true => exact absurd ⟨o, ho, hq⟩ hn
    exact (run_quiet hq hq2 h1).1
  · exact h1
theorem Canon.newStep (hC : Canon cx rc q ops px pre lz S) {i k : Nat} (h : lz[i]? = some k) (hn : IsNew ops k) :
    (S (i + 1)).2 = (S i).2 ∨ ((S i).2.get (k :: px) = none ∧ ∃ cs s id, (S (i + 1)).2 = (S i).2.new (k :: px) (.row cs s id)) := by
  obtain ⟨o, ts1, gr, ho, _, hc⟩ := step_cases (ts' := (S (i + 1)).1) (H' := (S (i + 1)).2) (hC.step i k h)
  rcases hc with ⟨_, _, h1⟩ | ⟨_, v, _, h1, _⟩ | ⟨T, g, _, _, v, H2, _, _, h1⟩
  · exact .inl h1
  · obtain ⟨o', h2, h3⟩ := hn
    rw [ho] at h2
    simp only [Option.some.injEq] at h2
    subst h2
    obtain ⟨h4, _, cs, s, id, h5, _⟩ := run_new h3 h1
    exact .inr ⟨h4, cs, s, id, h5⟩
  · exact .inl h1

/-- What nobody writes stays. -/
theorem Canon.keep1 (hC : Canon cx rc q ops px pre lz S) (hG : RecGrow rc) {i k : Nat} (h : lz[i]? = some k) {m : Nm} (hm : (S i).2.get m ≠ none) (hw : IsEff ops k → m ∉ wrote S i) : (S (i + 1)).2.get m = (S i).2.get m := by
  by_cases he : IsEff ops k
  · obtain ⟨l, h1, h2⟩ := (hC.grow1 hG (some_lt h)).keeps
    refine h2 m ?_ hm
    have := hw he
    unfold wrote at this
    rw [h1] at this
    simpa using this
  · by_cases hn : IsNew ops k
    · rcases hC.newStep h hn with h1 | ⟨h1, cs, s, id, h2⟩
      · rw [h1]
      · rw [h2, get_new, if_neg]
        rintro rfl
        exact hm h1
    · rw [hC.plainStep h he hn]
theorem Canon.keep (hC : Canon cx rc q ops px pre lz S) (hG : RecGrow rc) {i : Nat} {m : Nm} (hm : (S i).2.get m ≠ none) : ∀ (j : Nat), i ≤ j → j ≤ lz.length →
    (∀ x k, i ≤ x → x < j → lz[x]? = some k → IsEff ops k → m ∉ wrote S x) → (S j).2.get m = (S i).2.get m
  | 0, h, _, _ => by
    have : i = 0 := by omega
    subst this; rfl
  | j + 1, h, hj, hw => by
    by_cases he : i = j + 1
    · subst he; rfl
    · have ih := Canon.keep hC hG hm j (by omega) (by omega) fun x k h1 h2 => hw x k h1 (by omega)
      obtain ⟨k, hk⟩ := at_lt (lz := lz) (i := j) (by omega)
      rw [hC.keep1 hG hk (by rw [ih]; exact hm) (hw j k (by omega) (by omega) hk), ih]
/-- What came, came by a laying operation. -/
theorem Canon.origin (hC : Canon cx rc q ops px pre lz S) (hG : RecGrow rc) {i : Nat} {m : Nm} (hm : (S i).2.get m = none) : ∀ (j : Nat), i ≤ j → j ≤ lz.length →
    (∀ x k, i ≤ x → x < j → lz[x]? = some k → ¬ IsEff ops k) → (S j).2.get m ≠ none → ∃ x k, i ≤ x ∧ x < j ∧ lz[x]? = some k ∧ IsNew ops k ∧ m = k :: px ∧ (S x).2.get m = none ∧ (S (x + 1)).2.get m ≠ none
  | 0, h, _, _, hn => by
    have : i = 0 := by omega
    subst this; exact absurd hm hn
  | j + 1, h, hj, he, hn => by
    by_cases hij : i = j + 1
    · subst hij; exact absurd hm hn
    · by_cases h0 : (S j).2.get m = none
      · obtain ⟨k, hk⟩ := at_lt (lz := lz) (i := j) (by omega)
        have hne := he j k (by omega) (by omega) hk
        by_cases hnew : IsNew ops k
        · rcases hC.newStep hk hnew with h1 | ⟨h1, cs, s, id, h2⟩
          · rw [h1] at hn; exact absurd h0 hn
          · by_cases hmk : m = k :: px
            · exact ⟨j, k, by omega, by omega, hk, hnew, hmk, h0, hn⟩
            · rw [h2, get_new, if_neg hmk] at hn; exact absurd h0 hn
        · rw [hC.plainStep hk hne hnew] at hn; exact absurd h0 hn
      · obtain ⟨x, k, h1, h2, h3⟩ := Canon.origin hC hG hm j (by omega) (by omega) (fun x k h1 h2 => he x k h1 (by omega)) h0
        exact ⟨x, k, h1, by omega, h3⟩

/-! ### temporaries -/
theorem Canon.stay1 (hC : Canon cx rc q ops px pre lz S) {i k : Nat} (h : lz[i]? = some k) {t : Tmp} (hd : dstOf ops k ≠ some t) {val : Value} (hr : Rep M ρ (getT (S i).1 t) val) : Rep M ρ (getT (S (i + 1)).1 t) val := by
  obtain ⟨o, ts1, gr, ho, hg, hc⟩ := step_cases (ts' := (S (i + 1)).1) (H' := (S (i + 1)).2) (hC.step i k h)
  have hr1 := (guard_refines hg).rep hr
  have hd' : o.dst ≠ some t := by intro he; exact hd (by simp [dstOf, ho, he])
  have put : ∀ x, Rep M ρ (getT (putT ts1 o.dst x) t) val := by
    intro x
    cases hdst : o.dst with
    | none => exact hr1
    | some d =>
      rw [getT_put, if_neg]
      · exact hr1
      · rintro ⟨rfl, _⟩; exact hd' hdst
  rcases hc with ⟨_, h1, _⟩ | ⟨_, v, _, _, h1⟩ | ⟨T, g, _, _, v, H2, _, h1, _⟩ <;> rw [h1] <;> exact put _
theorem Canon.stay (hC : Canon cx rc q ops px pre lz S) {i : Nat} {t : Tmp} {val : Value} (hr : Rep M ρ (getT (S i).1 t) val) : ∀ (j : Nat), i ≤ j → j ≤ lz.length →
    (∀ x k, i ≤ x → x < j → lz[x]? = some k → dstOf ops k ≠ some t) → Rep M ρ (getT (S j).1 t) val
  | 0, h, _, _ => by
    have : i = 0 := by omega
    subst this; exact hr
  | j + 1, h, hj, hw => by
    by_cases he : i = j + 1
    · subst he; exact hr
    · have ih := Canon.stay hC hr j (by omega) (by omega) fun x k h1 h2 => hw x k h1 (by omega)
      obtain ⟨k, hk⟩ := at_lt (lz := lz) (i := j) (by omega)
      exact hC.stay1 hk (hw j k (by omega) (by omega) hk) ih
theorem Canon.len (hC : Canon cx rc q ops px pre lz S) : ∀ (i : Nat), i ≤ lz.length → (S i).1.length = (S 0).1.length
  | 0, _ => rfl
  | i + 1, h => by
    obtain ⟨k, hk⟩ := at_lt (lz := lz) (i := i) (by omega)
    obtain ⟨o, ts1, gr, ho, hg, hc⟩ := step_cases (ts' := (S (i + 1)).1) (H' := (S (i + 1)).2) (hC.step i k hk)
    rw [← Canon.len hC i (by omega), ← (guard_refines hg).1]
    rcases hc with ⟨_, h1, _⟩ | ⟨_, v, _, _, h1⟩ | ⟨T, g, _, _, v, H2, _, h1, _⟩ <;> rw [h1] <;> exact putT_length _ _ _

/-! ### guards -/
def Closed (pre : Nat → Nat) (D : Nat → Prop) : Prop := ∀ k, D k → ∀ j, (pre k).testBit j = true → D j
/-- What a value hangs on was done ahead of whoever wrote it, in whatever order. -/
def TagP (ops : Array Oper) (pre : Nat → Nat) (lz : List Nat) (ts : List VV) (i : Nat) : Prop :=
  ∀ t tg g v, getT ts t = .may tg g v → ∃ x m, m < i ∧ lz[m]? = some x ∧ dstOf ops x = some t ∧ ∀ p ∈ tg, ∀ D, Closed pre D → D x → D p.1

theorem guard_dst {gr : GR Bool} (h : Has (guardE q ops ts o) (ts1, gr)) {j : Nat} {want : Bool} (hg : o.guard = some (j, want)) : ∃ tj, dstOf ops j = some tj := by
  unfold guardE at h
  rw [hg] at h
  dsimp only at h
  split at h
  · exact absurd h has_fail
  · rename_i tj hj; exact ⟨tj, hj⟩

theorem guard_named {j : Nat} {want : Bool} {tj : Tmp} (hg : o.guard = some (j, want)) (hj : dstOf ops j = some tj) : tj ∈ tmpsOf ops o := by
  unfold tmpsOf
  rw [hg]
  simp [hj]

theorem mem_take_rev {i j : Nat} : j ∈ (lz.take i).reverse ↔ ∃ m, m < i ∧ lz[m]? = some j := by
  rw [List.mem_reverse, List.mem_iff_getElem?]
  constructor
  · rintro ⟨m, h⟩
    rw [List.getElem?_take] at h
    split at h
    · exact ⟨m, by assumption, h⟩
    · cases h
  · rintro ⟨m, h1, h2⟩
    exact ⟨m, by rw [List.getElem?_take, if_pos h1]; exact h2⟩

theorem Canon.tags (hC : Canon cx rc q ops px pre lz S) (hn : needsT ops.toList = true) : ∀ (i : Nat), i ≤ lz.length → TagInv q true ops (S i).1 (lz.take i).reverse ∧ TagP ops pre lz (S i).1 i
  | 0, _ => ⟨fun _ => ⟨fun t tg g v h => absurd h (hC.plain hn t tg g v), fun _ => hC.plain hn⟩, fun t tg g v h => absurd h (hC.plain hn t tg g v)⟩
  | i + 1, h => by
    obtain ⟨k, hk⟩ := at_lt (lz := lz) (i := i) (by omega)
    obtain ⟨h1, h2⟩ := Canon.tags hC hn i (by omega)
    have hst := hC.step i k hk
    obtain ⟨o, ts1, gr, ho, hg, hc⟩ := step_cases (ts' := (S (i + 1)).1) (H' := (S (i + 1)).2) hst
    have htake : (lz.take (i + 1)).reverse = k :: (lz.take i).reverse := by
      rw [List.take_add_one, hk]
      simp
    refine ⟨?_, ?_⟩
    · rw [htake]
      refine step_tags (ts' := (S (i + 1)).1) (H' := (S (i + 1)).2) hst h1 fun hqn => ⟨fun hm => ?_, fun o' j want ho' hgd => ?_⟩
      · obtain ⟨m, h3, h4⟩ := mem_take_rev.1 hm
        have := hC.nodup _ _ _ h4 hk
        omega
      · rw [ho] at ho'
        simp only [Option.some.injEq] at ho'
        subst ho'
        obtain ⟨tj, hj⟩ := guard_dst hg hgd
        have hqn' : (q && needsT ops.toList) = true := by rw [hn]; exact hqn
        exact ⟨mem_take_rev.2 (hC.guards hqn' i k o j want hk ho hgd), hC.uniq j tj hj⟩
    · -- who wrote what hangs on a guard
      have old : ∀ t tg g v, getT ts1 t = .may tg g v → ∃ x m, m < i + 1 ∧ lz[m]? = some x ∧ dstOf ops x = some t ∧ ∀ p ∈ tg, ∀ D, Closed pre D → D x → D p.1 := by
        intro t tg g v hm
        have hm' : getT (S i).1 t = .may tg g v := by
          rcases (guard_refines hg).2 t with h3 | ⟨b, _, h3⟩
          · rw [← h3]; exact hm
          · rw [h3] at hm; cases hm
        obtain ⟨x, m, h3, h4⟩ := h2 t tg g v hm'
        exact ⟨x, m, by omega, h4⟩
      have put : ∀ y, NotMay y → ∀ t tg g v, getT (putT ts1 o.dst y) t = .may tg g v → ∃ x m, m < i + 1 ∧ lz[m]? = some x ∧ dstOf ops x = some t ∧ ∀ p ∈ tg, ∀ D, Closed pre D → D x → D p.1 := by
        intro y hy t tg g v hm
        cases hd : o.dst with
        | none => rw [hd] at hm; exact old t tg g v hm
        | some d =>
          rw [hd, getT_put] at hm
          split at hm
          · exact absurd hm (hy tg g v)
          · exact old t tg g v hm
      intro t tg g u hm
      rcases hc with ⟨_, h3, _⟩ | ⟨_, v, hv, _, h3⟩ | ⟨T, g', hgr, _, v, H2, _, h3, _⟩
      · rw [h3] at hm
        exact put _ (by intro tg g u he; cases he) t tg g u hm
      · rw [h3] at hm
        exact put _ hv t tg g u hm
      · rw [h3] at hm
        subst hgr
        cases hd : o.dst with
        | none => rw [hd] at hm; exact old t tg g u hm
        | some d =>
          rw [hd, getT_put] at hm
          split at hm
          · rename_i htd
            obtain ⟨rfl, _⟩ := htd
            simp only [V.may.injEq] at hm
            obtain ⟨rfl, rfl, rfl⟩ := hm
            obtain ⟨hqq, rfl, j, want, tj, hgd, hj, hcase⟩ := guard_open hg
            have hqn' : (q && needsT ops.toList) = true := by rw [hqq, hn]; rfl
            obtain ⟨i', hi1, hi2⟩ := hC.guards hqn' i k o j want hk ho hgd
            have hjk : (pre k).testBit j = true := by
              rcases hC.named k o tj j ho (guard_named hgd hj) hj with h4 | h4 | h4
              · subst h4
                have := hC.nodup _ _ _ hi2 hk; omega
              · exact h4
              · obtain ⟨i2, h5, h6⟩ := hC.behind i' j hi2 k h4
                have := hC.nodup _ _ _ h6 hk; omega
            refine ⟨k, i, by omega, hk, by simp [dstOf, ho, hd], ?_⟩
            rcases hcase with ⟨b, _, rfl, _⟩ | ⟨tg0, g0, s, b, hb, rfl, _⟩
            · intro p hp D hD hDk
              simp only [List.mem_singleton] at hp
              subst hp
              exact hD k hDk j hjk
            · intro p hp D hD hDk
              simp only [List.mem_cons] at hp
              have hDj := hD k hDk j hjk
              rcases hp with rfl | hp
              · exact hDj
              · obtain ⟨x, m, _, _, h6, h7⟩ := h2 tj tg0 g0 _ hb
                have := hC.dst x j tj h6 hj
                subst this
                exact h7 p hp D hD hDj
          · exact old t tg g u hm
end
end Go.Sx
