/- Loops and scopes by induction, out of the executor's word on one round; hooks out of that. Conditions: none. -/
import Derived.Test.YtajloilpehgcmaaSxAbs1
set_option linter.unusedVariables false
set_option linter.unusedSimpArgs false
set_option linter.unusedSectionVars false

namespace Go.Sx
section
variable {X X' : Nm → Prop} {M M' M0 : Mem} {ρ ρ' ρ0 ρ1 ρ2 : Rho} {w w' w0 : World} {H H' : HH} {P : Program} {a a' : Act} {σ τ : Nm → Option Nm} {F : Fence} {n : Nat} {inR : Bool}
variable {cx : Cx Int Bool} {fid : FuncId} {px : Nm}

theorem live_rho (hI : Inv X M ρ H w) {m : Nm} (hl : Live H m) : ∃ x, ρ m = some x := by
  obtain ⟨e, he, hl⟩ := hl
  cases e with
  | row cs s id => obtain ⟨b, z, _, _, h, _⟩ := hI.row m cs s id he; exact ⟨_, h⟩
  | loop L => obtain ⟨b, z, _, h, _⟩ := hI.loop m L he; exact ⟨_, h⟩
  | dfr => obtain ⟨b, z, h, _⟩ := hI.dfr m he; exact ⟨_, h⟩
  | dead => exact hl.elim

/-- One round's outcome, under the next round's names. -/
theorem came_of {st st1 S2 : St Int Bool} {K : List Nm} (hs : StRep noX M ρ st a w) (hg : Grow st.H st1.H) (hs1 : StRep noX M' ρ' st1 a' w') (hE : Ext noX st.H M ρ w M' ρ' w')
    (hK : ∀ n ∈ K, Live st.H n) (hσ : StSim σ st1 S2) (hk : ∀ n ∈ K, σ n = some n) : Came K st M ρ w S2 M' (thru σ ρ') a' w' := by
  refine ⟨hσ.rep hs1, hE.fwd, fun n hn => ?_, fun b hb => own_new hs.inv hE hg (fun _ h => h.elim) (hσ.own hb)⟩
  obtain ⟨x, hx⟩ := live_rho hs.inv (hK n hn)
  rw [hx]
  simp [thru, hk n hn, hE.r n x hx]
theorem Came.trans {st st1 st2 : St Int Bool} {K : List Nm} {M1 M2 : Mem} {a1 a2 : Act} {w1 w2 : World} (h : Came K st M ρ w st1 M1 ρ1 a1 w1) (k : Came K st1 M1 ρ1 w1 st2 M2 ρ2 a2 w2) : Came K st M ρ w st2 M2 ρ2 a2 w2 :=
  ⟨k.rep, h.fwd.trans k.fwd h.own, fun n hn => by rw [k.keep n hn, h.keep n hn], fun b hb => by
    rcases k.own b hb with h1 | h1
    · exact h.own b h1
    · exact .inr (Nat.le_trans h.fwd.sz h1)⟩

/-- A loop's rounds, each told by the executor. -/
theorem loop_rule {ι : Type} {c : Code} {K : List Nm} (pre : ι → Prop) (S T : ι → St Int Bool) (E : ι → Ex) (μ : ι → Nat) (h : CxOk cx) (hF : FenceOk F inR) (hK : ∀ i, ∀ n ∈ K, Live (S i).H n)
    (step : ∀ i, pre i → ∃ fuel e st1 σ, Has (evCode cx (ev cx fuel) fid px inR c (S i)) (e, st1) ∧ (∀ n ∈ K, σ n = some n) ∧
      ((e = .nrm ∧ ∃ j, pre j ∧ μ j < μ i ∧ StSim σ st1 (S j) ∧ E j = E i ∧ T j = T i) ∨ (e ≠ .nrm ∧ e = E i ∧ StSim σ st1 (T i)))) :
    ∀ (i : ι), pre i → ∀ (M : Mem) (ρ : Rho) (a : Act) (w : World), StRep noX M ρ (S i) a w → ∀ (b : Frame) (k : List Item) (cs : List Frame), b.roundOf = F.round → F.fn b.fn → F.room (cs.length + 1 + n) →
      ∃ e' a' w', (ExRep (E i) e' ∧ ∃ M' ρ', Came K (S i) M ρ w (T i) M' ρ' a' w') ∧ ArrivesIn (Machine.fenced cx.P F) cx.P (lone (b.atR a (.code c :: .inLoop c :: k)) cs w) b k cs e' a' w' := by
  have main : ∀ (m : Nat) (i : ι), μ i = m → pre i → ∀ (M : Mem) (ρ : Rho) (a : Act) (w : World), StRep noX M ρ (S i) a w → ∀ (b : Frame) (k : List Item) (cs : List Frame), b.roundOf = F.round → F.fn b.fn → F.room (cs.length + 1 + n) →
      ∃ e' a' w', (ExRep (E i) e' ∧ ∃ M' ρ', Came K (S i) M ρ w (T i) M' ρ' a' w') ∧ ArrivesIn (Machine.fenced cx.P F) cx.P (lone (b.atR a (.code c :: .inLoop c :: k)) cs w) b k cs e' a' w' := by
    intro m
    induction m using Nat.strongRecOn with
    | ind m ih =>
      intro i hi hp M ρ a w hs b k cs hro hb hr
      obtain ⟨fuel, e, st1, σ, h1, hk, h2⟩ := step i hp
      obtain ⟨hG, hR⟩ := ev_ok h fuel
      have hRange : RangeOk cx (ev cx fuel) := evRange_sound hR hG
      have g1 := evCode_grow hG _ _ _ _ h1
      obtain ⟨e', a1, w1, hp, harr⟩ := evCode_sound (n := n) h.mixed hF hR hG hRange c (S i) e st1 noX M ρ a w h1 hs (fun _ h => h.elim) b (.inLoop c :: k) cs hro hb hr
      obtain ⟨p1, M1, ρ1, p2, p3⟩ := hp
      rcases h2 with ⟨rfl, j, hpj, hj, hsim, hE, hT⟩ | ⟨hne, rfl, hsim⟩
      · have := exRep_nrm p1
        subst this
        have hc := came_of hs g1 p2 p3 (hK i) hsim hk
        obtain ⟨e2, a2, w2, ⟨q1, M2, ρ2, q2⟩, harr2⟩ := ih (μ j) (by omega) j rfl hpj M1 (thru σ ρ1) a1 w1 (hsim.rep p2) b k cs hro hb hr
        rw [hE] at q1
        rw [hT] at q2
        exact ⟨e2, a2, w2, ⟨q1, M2, ρ2, hc.trans q2⟩, .of_steps (StepsIn.trans harr (.one (fenced_calm hb hr rfl) stepR_inLoop)) harr2⟩
      · exact ⟨e', a1, w1, ⟨p1, M1, _, came_of hs g1 p2 p3 (hK i) hsim hk⟩, .pass (x := .inLoop c) rfl (fun _ _ => .inl (exRep_of p1 hne)) harr⟩
  exact fun i => main (μ i) i rfl

/-! ### hooks -/
mutual
/-- Other names in a value. -/
def renV (f : Nm → Nm) : VV → VV
  | .ptr nm s off => .ptr (f nm) s off
  | .osl nm off sz s len => .osl (f nm) off sz s len
  | .fn g x y => .fn g (renL f x) (renL f y)
  | .agg x => .agg (renL f x)
  | .tup x => .tup (renL f x)
  | v => v
def renL (f : Nm → Nm) : List VV → List VV
  | [] => []
  | v :: vs => renV f v :: renL f vs
end
mutual
/-- Values whose names are some. -/
def wfV (d : Nm → Bool) : VV → Bool
  | .ptr nm _ _ => d nm
  | .osl nm _ _ _ _ => d nm
  | .fn _ x y => wfL d x && wfL d y
  | .agg x => wfL d x
  | .tup x => wfL d x
  | .isl _ _ _ _ es _ => argL es
  | .int _ _ _ => true
  | .bool _ _ => true
  | .nil => true
  | .nilfn => true
  | .undef => true
  | .top => true
  | .raw _ => true
  | .eptr _ => false
  | .yld _ => false
  | .may _ _ _ => false
def wfL (d : Nm → Bool) : List VV → Bool
  | [] => true
  | v :: vs => wfV d v && wfL d vs
end
mutual
theorem ren_sim {f : Nm → Nm} {d : Nm → Bool} (h : ∀ n, d n = true → σ (f n) = some n) : ∀ (v : VV), wfV d v = true → Sim σ v (renV f v)
  | .ptr nm s off, hw => .ptr _ _ _ _ _ (h nm hw)
  | .osl nm off sz s len, hw => .osl _ _ _ _ _ _ _ (h nm hw)
  | .fn g x y, hw => by
    simp only [wfV, Bool.and_eq_true] at hw
    exact .fnL (renL_sim h x hw.1) (renL_sim h y hw.2)
  | .agg x, hw => .aggL (renL_sim h x hw)
  | .tup x, hw => by
    have := renL_sim h x hw
    exact .tup _ _ this.1 this.2
  | .isl id sz s len es c0, hw => .arg _ hw
  | .int k s m, _ => .int _ _ _ _
  | .bool s b, _ => .bool _ _ _
  | .nil, _ => .arg _ rfl
  | .nilfn, _ => .arg _ rfl
  | .undef, _ => .undef
  | .top, _ => .top _
  | .raw u, _ => .raw u
  | .eptr _, hw => by simp [wfV] at hw
  | .yld _, hw => by simp [wfV] at hw
  | .may _ _ _, hw => by simp [wfV] at hw
theorem renL_sim {f : Nm → Nm} {d : Nm → Bool} (h : ∀ n, d n = true → σ (f n) = some n) : ∀ (vs : List VV), wfL d vs = true → SimL σ vs (renL f vs)
  | [], _ => .nil
  | v :: vs, hw => by
    simp only [wfL, Bool.and_eq_true] at hw
    exact .cons (ren_sim h v hw.1) (renL_sim h vs hw.2)
end

abbrev Names := List (Nm × Nm)
def lookN : Names → Nm → Option Nm
  | [], _ => none
  | (n, m) :: r, x => if nmEq n x then some m else lookN r x
def newNm (K : List Nm) (as : Names) (c : Nat) (px : Nm) (x : Nm) : Nm :=
  if memNm x K then (lookN as x).getD [] else x ++ 77 :: c :: px
def kill (K : List Nm) : Names → HH → HH
  | [], H => H
  | (n, m) :: r, H => if memNm n K then kill K r H else kill K r (H.upd m .dead)
def renRow (f : Nm → Nm) (s : Bool) (cs : List VV) : List VV := if s then cs else renL f cs
def finRows (f : Nm → Nm) (K : List Nm) : List (Nm × Ent Int Bool) → HH → EE HH
  | [], H => .ret H
  | (x, .row cs s id) :: r, H =>
    if memNm x K then finRows f K r (H.upd (f x) (.row (renRow f s cs) s id))
    else E.bind (fresh H (f x) (.row (renRow f s cs) s id)) fun H => finRows f K r H
  | _ :: _, _ => .fail "hook: entry"

/-- What is known of a loop: states under names of its own, and what they come to. -/
structure LSpec (ι : Type) where
  code : Code
  K : List Nm
  pre : ι → Prop
  two : Bool
  q : ι → Bool
  S : ι → St Int Bool
  T : ι → Bool → St Int Bool
  E : ι → Bool → Ex
  pat : St Int Bool → Option (ι × Names)
def LSpec.run {ι : Type} (L : LSpec ι) (px : Nm) (st : St Int Bool) : EE (Ex × St Int Bool) :=
  match L.pat st with
  | none => .fail "hook: pattern"
  | some (i, as) => E.bind (E.ob (.prop (L.pre i))) fun _ => E.bind (if L.two then orcBit (L.q i) else .ret (L.q i)) fun o =>
      E.bind (finRows (newNm L.K as st.c px) L.K (L.T i o).H.es (kill L.K as st.H)) fun H =>
        .ret (L.E i o, { ts := renL (newNm L.K as st.c px) (L.T i o).ts, H := H, c := st.c + 1, marks := st.marks })
def LSpec.hook {ι : Type} (L : LSpec ι) : Hook Int Bool := { code := L.code, run := L.run }

def entN (es : List (Nm × Ent Int Bool)) (x : Nm) : Bool := (getEnt es x).isSome
def entOk (d : Nm → Bool) : Ent Int Bool → Bool
  | .row cs s _ => if s then argL cs else wfL d cs
  | _ => false
def distinct : List Nm → Bool
  | [] => true
  | x :: r => !memNm x r && distinct r
/-- Form: of what it comes to. -/
structure TForm (K : List Nm) (T : St Int Bool) : Prop where
  ts : wfL (entN T.H.es) T.ts = true
  es : ∀ p ∈ T.H.es, entOk (entN T.H.es) p.2 = true
  nd : distinct (T.H.es.map (·.1)) = true
  K : ∀ n ∈ K, entN T.H.es n = true
  marks : T.marks = []

theorem lookN_mem : ∀ {as : Names} {x m : Nm}, lookN as x = some m → (x, m) ∈ as
  | [], _, _, h => by cases h
  | (p, q) :: r, x, m, h => by
    unfold lookN at h
    split at h
    · rename_i hp
      have := nmEq_iff.1 hp
      simp only [Option.some.injEq] at h
      subst this h
      simp
    · exact List.mem_cons_of_mem _ (lookN_mem h)
theorem getEnt_mem : ∀ {es : List (Nm × Ent Int Bool)} {x : Nm} {e : Ent Int Bool}, getEnt es x = some e → (x, e) ∈ es
  | [], _, _, h => by cases h
  | (p, q) :: r, x, e, h => by
    unfold getEnt at h
    split at h
    · rename_i hp
      have := nmEq_iff.1 hp
      simp only [Option.some.injEq] at h
      subst this h
      simp
    · exact List.mem_cons_of_mem _ (getEnt_mem h)
theorem entN_iff {es : List (Nm × Ent Int Bool)} {x : Nm} : entN es x = true ↔ x ∈ es.map (·.1) := by
  induction es with
  | nil => simp [entN, getEnt]
  | cons p r ih =>
    obtain ⟨y, e⟩ := p
    unfold entN getEnt
    by_cases h : nmEq y x = true
    · have := nmEq_iff.1 h
      subst this
      simp [nmEq_iff.2 rfl]
    · have : x ≠ y := fun e => h (nmEq_iff.2 e.symm)
      simp only [h, Bool.false_eq_true, if_false]
      rw [show ((getEnt r x).isSome = true) = (entN r x = true) from rfl, ih]
      simp [this]

theorem kill_get (K : List Nm) : ∀ (as : Names) (H : HH), (∀ p ∈ as, H.get p.2 ≠ none) → ∀ m, (kill K as H).get m = if (∃ p ∈ as, p.1 ∉ K ∧ p.2 = m) then some .dead else H.get m
  | [], H, _, m => by simp [kill]
  | (x, y) :: r, H, hh, m => by
    unfold kill
    by_cases hk : memNm x K = true
    · rw [if_pos hk, kill_get K r H (fun p hp => hh p (List.mem_cons_of_mem _ hp)) m]
      have hx : x ∈ K := memNm_iff.1 hk
      have e : (∃ p ∈ r, p.1 ∉ K ∧ p.2 = m) ↔ (∃ p ∈ (x, y) :: r, p.1 ∉ K ∧ p.2 = m) := by
        constructor
        · rintro ⟨p, hp, h1⟩
          exact ⟨p, List.mem_cons_of_mem _ hp, h1⟩
        · rintro ⟨p, hp, h1, h2⟩
          simp only [List.mem_cons] at hp
          rcases hp with rfl | hp
          · exact absurd hx h1
          · exact ⟨p, hp, h1, h2⟩
      by_cases h1 : ∃ p ∈ r, p.1 ∉ K ∧ p.2 = m
      · rw [if_pos h1, if_pos (e.1 h1)]
      · rw [if_neg h1, if_neg (fun h2 => h1 (e.2 h2))]
    · have hk' : x ∉ K := fun h => hk (memNm_iff.2 h)
      rw [if_neg hk, kill_get K r (H.upd y .dead) (fun p hp => by
        rw [get_upd _ _ _ _ (hh _ List.mem_cons_self)]
        split
        · simp
        · exact hh p (List.mem_cons_of_mem _ hp)) m]
      rw [get_upd _ _ _ _ (hh _ List.mem_cons_self)]
      by_cases h1 : ∃ p ∈ r, p.1 ∉ K ∧ p.2 = m
      · have h2 : ∃ p ∈ (x, y) :: r, p.1 ∉ K ∧ p.2 = m := by
          obtain ⟨p, hp, h⟩ := h1
          exact ⟨p, List.mem_cons_of_mem _ hp, h⟩
        rw [if_pos h1, if_pos h2]
      · rw [if_neg h1]
        by_cases h3 : m = y
        · rw [if_pos h3, if_pos ⟨(x, y), List.mem_cons_self, hk', h3.symm⟩]
        · rw [if_neg h3, if_neg]
          rintro ⟨p, hp, h4, h5⟩
          simp only [List.mem_cons] at hp
          rcases hp with rfl | hp
          · exact h3 h5.symm
          · exact h1 ⟨p, hp, h4, h5⟩
theorem kill_grow (K : List Nm) : ∀ (as : Names) (H : HH), (∀ p ∈ as, p.1 ∉ K → Live H p.2) → (as.map (·.2)).Nodup → Grow H (kill K as H)
  | [], H, _, _ => .refl _
  | (x, y) :: r, H, hh, hn => by
    unfold kill
    simp only [List.map_cons, List.nodup_cons] at hn
    split
    · exact kill_grow K r H (fun p hp => hh p (List.mem_cons_of_mem _ hp)) hn.2
    · rename_i hk
      have hk' : x ∉ K := fun h => hk (memNm_iff.2 h)
      have hl := hh _ List.mem_cons_self hk'
      refine (Grow.upd (x := .dead) hl).trans (kill_grow K r _ (fun p hp hpk => ?_) hn.2)
      obtain ⟨e, he, hle⟩ := hh p (List.mem_cons_of_mem _ hp) hpk
      refine ⟨e, ?_, hle⟩
      have h0 : H.get y ≠ none := by obtain ⟨e, he, _⟩ := hl; rw [he]; simp
      rw [get_upd _ _ _ _ h0, if_neg]
      · exact he
      · intro e'
        exact hn.1 (by rw [← e']; exact List.mem_map_of_mem hp)

theorem finRows_spec {f : Nm → Nm} {K : List Nm} : ∀ (es : List (Nm × Ent Int Bool)) (H H' : HH), Has (finRows f K es H) H' → (∀ p ∈ es, p.1 ∈ K → Live H (f p.1)) →
    (∀ p ∈ es, ∀ p' ∈ es, f p.1 = f p'.1 → p.1 = p'.1) → distinct (es.map (·.1)) = true →
    Grow H H' ∧ (∀ p ∈ es, p.1 ∉ K → H.get (f p.1) = none) ∧ (∀ p ∈ es, ∃ cs s id, p.2 = .row cs s id ∧ H'.get (f p.1) = some (.row (renRow f s cs) s id)) ∧ ∀ m, (∀ p ∈ es, f p.1 ≠ m) → H'.get m = H.get m
  | [], H, H', h, _, _, _ => by
    have := has_ret.1 h
    subst this
    exact ⟨.refl _, by simp, by simp, fun _ _ => rfl⟩
  | (x, .row cs s id) :: r, H, H', h, hl, hi, hd => by
    unfold finRows at h
    simp only [List.map_cons, distinct, Bool.and_eq_true, Bool.not_eq_true'] at hd
    have hxr : ∀ p ∈ r, f p.1 ≠ f x := fun p hp e => by
      have := hi p (List.mem_cons_of_mem _ hp) (x, .row cs s id) List.mem_cons_self e
      have h1 : memNm x (r.map (·.1)) = true := memNm_iff.2 (by dsimp only at this; rw [← this]; exact List.mem_map_of_mem (f := Prod.fst) hp)
      rw [h1] at hd; cases hd.1
    have hi' : ∀ p ∈ r, ∀ p' ∈ r, f p.1 = f p'.1 → p.1 = p'.1 := fun p hp p' hp' => hi p (List.mem_cons_of_mem _ hp) p' (List.mem_cons_of_mem _ hp')
    rcases has_if h with ⟨hk, h1⟩ | ⟨hk, h1⟩
    · have hxl := hl _ List.mem_cons_self (memNm_iff.1 hk)
      have h0 : H.get (f x) ≠ none := by obtain ⟨e, he, _⟩ := hxl; dsimp only at he; rw [he]; simp
      obtain ⟨q1, q2, q3, q4⟩ := finRows_spec r _ H' h1 (fun p hp hpk => by
        obtain ⟨e, he, hle⟩ := hl p (List.mem_cons_of_mem _ hp) hpk
        exact ⟨e, by rw [get_upd _ _ _ _ h0, if_neg (hxr p hp)]; exact he, hle⟩) hi' hd.2
      refine ⟨(Grow.upd hxl).trans q1, fun p hp hpk => ?_, fun p hp => ?_, fun m hm => ?_⟩
      · simp only [List.mem_cons] at hp
        rcases hp with rfl | hp
        · exact absurd (memNm_iff.1 hk) hpk
        · have := q2 p hp hpk
          rw [get_upd _ _ _ _ h0, if_neg (hxr p hp)] at this
          exact this
      · simp only [List.mem_cons] at hp
        rcases hp with rfl | hp
        · refine ⟨cs, s, id, rfl, ?_⟩
          rw [q4 (f x) (fun p hp => hxr p hp), get_upd _ _ _ _ h0, if_pos rfl]
        · exact q3 p hp
      · rw [q4 m (fun p hp => hm p (List.mem_cons_of_mem _ hp)), get_upd _ _ _ _ h0, if_neg]
        exact fun e => hm _ List.mem_cons_self e.symm
    · obtain ⟨H1, h2, h3⟩ := has_bind (m := fresh H (f x) _) h1
      obtain ⟨f1, rfl⟩ := has_fresh h2
      have hk' : x ∉ K := fun h => hk (memNm_iff.2 h)
      obtain ⟨q1, q2, q3, q4⟩ := finRows_spec r _ H' h3 (fun p hp hpk => by
        obtain ⟨e, he, hle⟩ := hl p (List.mem_cons_of_mem _ hp) hpk
        exact ⟨e, by rw [get_new, if_neg (hxr p hp)]; exact he, hle⟩) hi' hd.2
      refine ⟨(Grow.new f1).trans q1, fun p hp hpk => ?_, fun p hp => ?_, fun m hm => ?_⟩
      · simp only [List.mem_cons] at hp
        rcases hp with rfl | hp
        · exact f1
        · have := q2 p hp hpk
          rw [get_new, if_neg (hxr p hp)] at this
          exact this
      · simp only [List.mem_cons] at hp
        rcases hp with rfl | hp
        · refine ⟨cs, s, id, rfl, ?_⟩
          rw [q4 (f x) (fun p hp => hxr p hp), get_new, if_pos rfl]
        · exact q3 p hp
      · rw [q4 m (fun p hp => hm p (List.mem_cons_of_mem _ hp)), get_new, if_neg]
        exact fun e => hm _ List.mem_cons_self e.symm
  | (_, .loop _) :: _, _, _, h, _, _, _ => absurd h has_fail
  | (_, .dfr) :: _, _, _, h, _, _, _ => absurd h has_fail
  | (_, .dead) :: _, _, _, h, _, _, _ => absurd h has_fail

theorem upd_none {n m : Nm} {x : Ent Int Bool} (h : (H.upd n x).get m = none) : H.get m = none := by
  have := get_setEnt n x m H.es
  unfold Heap.get Heap.upd at h
  dsimp only at h
  rw [this] at h
  split at h
  · cases h
  · exact h
theorem new_none {n m : Nm} {x : Ent Int Bool} (h : (H.new n x).get m = none) : H.get m = none := by
  rw [get_new] at h
  split at h
  · cases h
  · exact h
theorem finRows_fresh {f : Nm → Nm} {K : List Nm} : ∀ (es : List (Nm × Ent Int Bool)) (H H' : HH), Has (finRows f K es H) H' → ∀ p ∈ es, p.1 ∉ K → H.get (f p.1) = none
  | [], _, _, _, p, hp, _ => by cases hp
  | (x, .row cs s id) :: r, H, H', h, p, hp, hk => by
    unfold finRows at h
    simp only [List.mem_cons] at hp
    rcases has_if h with ⟨hx, h1⟩ | ⟨hx, h1⟩
    · rcases hp with rfl | hp
      · exact absurd (memNm_iff.1 hx) hk
      · exact upd_none (finRows_fresh r _ H' h1 p hp hk)
    · obtain ⟨H1, h2, h3⟩ := has_bind (m := fresh H (f x) _) h1
      obtain ⟨f1, rfl⟩ := has_fresh h2
      rcases hp with rfl | hp
      · exact f1
      · exact new_none (finRows_fresh r _ H' h3 p hp hk)
  | (_, .loop _) :: _, _, _, h, _, _, _ => absurd h has_fail
  | (_, .dfr) :: _, _, _, h, _, _, _ => absurd h has_fail
  | (_, .dead) :: _, _, _, h, _, _, _ => absurd h has_fail

theorem distinct_get : ∀ {es : List (Nm × Ent Int Bool)} {p : Nm × Ent Int Bool}, distinct (es.map (·.1)) = true → p ∈ es → getEnt es p.1 = some p.2
  | [], _, _, h => by cases h
  | (y, e) :: r, p, hd, h => by
    simp only [List.map_cons, distinct, Bool.and_eq_true, Bool.not_eq_true'] at hd
    unfold getEnt
    simp only [List.mem_cons] at h
    rcases h with rfl | h
    · simp [nmEq_iff.2 rfl]
    · have : nmEq y p.1 = false := by
        cases hq : nmEq y p.1 with
        | false => rfl
        | true =>
          have e := nmEq_iff.1 hq
          subst e
          have h1 : memNm p.1 (r.map (·.1)) = true := memNm_iff.2 (List.mem_map_of_mem h)
          rw [h1] at hd; cases hd.1
      rw [this]
      exact distinct_get hd.2 h
theorem distinct_look : ∀ {as : Names} {p : Nm × Nm}, distinct (as.map (·.1)) = true → p ∈ as → lookN as p.1 = some p.2
  | [], _, _, h => by cases h
  | (y, e) :: r, p, hd, h => by
    simp only [List.map_cons, distinct, Bool.and_eq_true, Bool.not_eq_true'] at hd
    unfold lookN
    simp only [List.mem_cons] at h
    rcases h with rfl | h
    · simp [nmEq_iff.2 rfl]
    · have : nmEq y p.1 = false := by
        cases hq : nmEq y p.1 with
        | false => rfl
        | true =>
          have e := nmEq_iff.1 hq
          subst e
          have h1 : memNm p.1 (r.map (·.1)) = true := memNm_iff.2 (List.mem_map_of_mem h)
          rw [h1] at hd; cases hd.1
      rw [this]
      exact distinct_look hd.2 h
theorem look_values : ∀ {as : Names}, distinct (as.map (·.1)) = true → (∀ n n' m, lookN as n = some m → lookN as n' = some m → n = n') → (as.map (·.2)).Nodup
  | [], _, _ => by simp
  | (y, e) :: r, hd, hi => by
    have hd' := hd
    simp only [List.map_cons, distinct, Bool.and_eq_true, Bool.not_eq_true'] at hd
    have hy : ∀ q ∈ r, q.1 ≠ y := fun q hq e => by
      have h1 : memNm y (r.map (·.1)) = true := memNm_iff.2 (by rw [← e]; exact List.mem_map_of_mem hq)
      rw [h1] at hd; cases hd.1
    have up : ∀ n m, lookN r n = some m → lookN ((y, e) :: r) n = some m := fun n m h => by
      have := distinct_look hd' (List.mem_cons_of_mem (y, e) (lookN_mem h))
      exact this
    simp only [List.map_cons, List.nodup_cons]
    refine ⟨fun hm => ?_, look_values hd.2 fun n n' m h h' => hi n n' m (up n m h) (up n' m h')⟩
    obtain ⟨q, hq, he⟩ := List.mem_map.1 hm
    have h1 := distinct_look hd' (List.mem_cons_of_mem (y, e) hq)
    have h2 : lookN ((y, e) :: r) y = some e := by simp [lookN, nmEq_iff.2 rfl]
    rw [he] at h1
    exact hy q hq (hi q.1 y e h1 h2)

/-- What is asked of what is known of a loop. -/
structure LForm {ι : Type} (L : LSpec ι) : Prop where
  pat : ∀ st i as, L.pat st = some (i, as) → L.pre i → StSim (lookN as) st (L.S i) ∧ st.marks = [] ∧ distinct (as.map (·.1)) = true
  K : ∀ i, ∀ n ∈ L.K, Live (L.S i).H n
  S : ∀ i, ∀ p ∈ (L.S i).H.es, p.2.live
  T : ∀ i, L.pre i → TForm L.K (L.T i (L.q i))

theorem LSpec.back {ι : Type} (L : LSpec ι) (hL : LForm L) {px : Nm} {st st' : St Int Bool} {e : Ex} (h : Has (L.run px st) (e, st')) : ∃ i, L.pre i ∧ e = L.E i (L.q i) ∧ Grow st.H st'.H ∧ ∃ σ, StSim σ st (L.S i) ∧
    ∀ X M ρ a w M' ρ' a' w', StRep X M ρ st a w → (∀ m, X m → st'.H.get m = none) → Came L.K (L.S i) M (thru σ ρ) w (L.T i (L.q i)) M' ρ' a' w' →
      ∃ ρ'', StRep X M' ρ'' st' a' w' ∧ Ext X st.H M ρ w M' ρ'' w' := by
  unfold LSpec.run at h
  split at h
  · exact absurd h has_fail
  · rename_i i as hp
    obtain ⟨_, h0, h⟩ := has_bind (m := E.ob (.prop (L.pre i))) h
    have hpre : L.pre i := has_ob h0
    obtain ⟨o, h1, h2⟩ := has_bind (m := (if L.two = true then orcBit (L.q i) else E.ret (L.q i))) h
    have ho : o = L.q i := by
      rcases has_if h1 with ⟨_, h3⟩ | ⟨_, h3⟩
      · exact (has_orcBit h3).symm
      · exact (has_ret.1 h3).symm
    subst ho
    obtain ⟨H', h3, h4⟩ := has_bind (m := finRows _ _ _ _) h2
    have := has_ret.1 h4
    simp only [Prod.mk.injEq] at this
    obtain ⟨rfl, rfl⟩ := this
    obtain ⟨hsim, hm0, hdist⟩ := hL.pat st i as hp hpre
    have hTF := hL.T i hpre
    let T := L.T i (L.q i)
    let f := newNm L.K as st.c px
    have hl : ∀ n m, lookN as n = some m → Live st.H m := by
      intro n m hn
      cases hq : (L.S i).H.get n with
      | none => exact absurd hq (hsim.dom n m hn)
      | some e2 =>
        obtain ⟨m', e1, k1, k2, k3⟩ := hsim.heap n e2 hq
        rw [hn] at k1
        simp only [Option.some.injEq] at k1
        subst k1
        exact ⟨e1, k2, k3.live (hL.S i _ (getEnt_mem hq))⟩
    have hn0 : ∀ p ∈ as, st.H.get p.2 ≠ none := fun p hp => by
      obtain ⟨e, he, _⟩ := hl p.1 p.2 (distinct_look hdist hp)
      rw [he]; simp
    have hKlook : ∀ n ∈ L.K, ∃ m, lookN as n = some m ∧ f n = m := by
      intro n hn
      obtain ⟨e2, he2, _⟩ := hL.K i n hn
      obtain ⟨m, e1, k1, _, _⟩ := hsim.heap n e2 he2
      exact ⟨m, k1, by simp only [f, newNm]; rw [if_pos (memNm_iff.2 hn), k1]; rfl⟩
    have hkg := kill_get L.K as st.H hn0
    have gK : Grow st.H (kill L.K as st.H) := kill_grow L.K as st.H (fun p hp _ => hl p.1 p.2 (distinct_look hdist hp)) (look_values hdist hsim.inj)
    have notK : ∀ n ∈ L.K, ¬ ∃ p ∈ as, p.1 ∉ L.K ∧ p.2 = f n := by
      rintro n hn ⟨p, hp, h5, h6⟩
      obtain ⟨m, k1, k2⟩ := hKlook n hn
      have := hsim.inj p.1 n (f n) (by rw [distinct_look hdist hp, h6]) (by rw [k1, k2])
      exact h5 (by rw [this]; exact hn)
    have hlK : ∀ n ∈ L.K, Live (kill L.K as st.H) (f n) := by
      intro n hn
      obtain ⟨m, k1, k2⟩ := hKlook n hn
      obtain ⟨e, he, hle⟩ := hl n m k1
      refine ⟨e, ?_, hle⟩
      rw [hkg, if_neg (notK n hn), k2]; exact he
    have hfr := finRows_fresh _ _ _ h3
    have hinj : ∀ p ∈ T.H.es, ∀ p' ∈ T.H.es, f p.1 = f p'.1 → p.1 = p'.1 := by
      intro p hp p' hp' he
      by_cases k : p.1 ∈ L.K <;> by_cases k' : p'.1 ∈ L.K
      · obtain ⟨m, a1, a2⟩ := hKlook p.1 k
        obtain ⟨m', b1, b2⟩ := hKlook p'.1 k'
        exact hsim.inj p.1 p'.1 m a1 (by rw [b1, ← b2, ← he, a2])
      · obtain ⟨e, q1, _⟩ := hlK p.1 k
        have := hfr p' hp' k'
        rw [show newNm L.K as st.c px p'.1 = f p'.1 from rfl, ← he, q1] at this; cases this
      · obtain ⟨e, q1, _⟩ := hlK p'.1 k'
        have := hfr p hp k
        rw [show newNm L.K as st.c px p.1 = f p.1 from rfl, he, q1] at this; cases this
      · simp only [f, newNm, if_neg (fun h => k (memNm_iff.1 h)), if_neg (fun h => k' (memNm_iff.1 h))] at he
        exact List.append_cancel_right he
    obtain ⟨q1, q2, q3, q4⟩ := finRows_spec (f := f) (K := L.K) T.H.es _ H' h3 (fun p hp hk => hlK p.1 hk) hinj hTF.nd
    let τ : Nm → Option Nm := lookN (T.H.es.map fun p => (f p.1, p.1))
    have τ1 : ∀ m n, τ m = some n → f n = m ∧ ∃ e, (n, e) ∈ T.H.es := by
      intro m n hτ
      obtain ⟨p, hp, he⟩ := List.mem_map.1 (lookN_mem hτ)
      simp only [Prod.mk.injEq] at he
      obtain ⟨rfl, rfl⟩ := he
      exact ⟨rfl, p.2, hp⟩
    have τ2 : ∀ p ∈ T.H.es, τ (f p.1) = some p.1 := by
      intro p hp
      cases hq : τ (f p.1) with
      | some n =>
        obtain ⟨e1, e, he⟩ := τ1 _ n hq
        have := hinj _ he p hp e1
        dsimp only at this
        rw [this]
      | none =>
        exfalso
        have gen : ∀ (es : List (Nm × Ent Int Bool)), p ∈ es → lookN (es.map fun p => (f p.1, p.1)) (f p.1) ≠ none := by
          intro es
          induction es with
          | nil => intro h; cases h
          | cons x r ih =>
            intro h
            simp only [List.map_cons, lookN]
            split
            · simp
            · rename_i hne
              simp only [List.mem_cons] at h
              rcases h with rfl | h
              · exact absurd (nmEq_iff.2 rfl) hne
              · exact ih h
        exact gen T.H.es hp hq
    have hd : ∀ n, entN T.H.es n = true → τ (f n) = some n := by
      intro n hn
      obtain ⟨p, hp, rfl⟩ := List.mem_map.1 (entN_iff.1 hn)
      exact τ2 p hp
    refine ⟨i, hpre, rfl, gK.trans q1, _, hsim, fun X M ρ a w M' ρ' a' w' hs hx hc => ?_⟩
    refine came_back (τ := τ) hs hsim hc hx (gK.trans q1) (renL_sim hd _ hTF.ts) ⟨by rw [hm0, hTF.marks], fun i n m h5 h6 => by rw [hTF.marks] at h6; simp at h6⟩ ?_ ?_ ?_ ?_ ?_
    · intro m n e ht he
      obtain ⟨rfl, e2, hm⟩ := τ1 m n ht
      obtain ⟨cs, s, id, r1, r2⟩ := q3 _ hm
      dsimp only at r1 r2 he
      subst r1
      rw [r2] at he
      simp only [Option.some.injEq] at he
      subst he
      refine ⟨.row cs s id, distinct_get hTF.nd hm, ?_⟩
      have hok := hTF.es _ hm
      simp only [entOk] at hok
      show SimP τ cs (renRow f s cs)
      unfold renRow
      cases s with
      | true => exact (argL_sim (by simpa using hok)).pre
      | false => exact (renL_sim hd _ (by simpa using hok)).pre
    · intro m e ht he
      have hne : ∀ p ∈ T.H.es, f p.1 ≠ m := fun p hp e' => by
        have := τ2 p hp
        rw [e', ht] at this; cases this
      dsimp only at he
      rw [q4 m hne, hkg] at he
      split at he
      · simp only [Option.some.injEq] at he
        exact .inl he.symm
      · rename_i hnk
        refine .inr ⟨he, fun n hn _ => ?_⟩
        by_cases k : n ∈ L.K
        · obtain ⟨m', a1, a2⟩ := hKlook n k
          rw [hn] at a1
          simp only [Option.some.injEq] at a1
          subst a1
          obtain ⟨p, hp, rfl⟩ := List.mem_map.1 (entN_iff.1 (hTF.K n k))
          exact hne p hp a2
        · exact hnk ⟨(n, m), lookN_mem hn, k, rfl⟩
    · intro m n ht
      obtain ⟨rfl, e2, hm⟩ := τ1 m n ht
      by_cases k : n ∈ L.K
      · obtain ⟨m', a1, a2⟩ := hKlook n k
        exact .inl ⟨k, by rw [a1, a2]⟩
      · right
        obtain ⟨cs, s, id, r1, _⟩ := q3 _ hm
        refine ⟨?_, ⟨e2, distinct_get hTF.nd hm, by dsimp only at r1; rw [r1]; trivial⟩⟩
        have := q2 _ hm k
        dsimp only at this
        cases hq : st.H.get (f n) with
        | none => rfl
        | some e => exact absurd this (gK.names _ (by rw [hq]; simp))
    · intro m n ht
      obtain ⟨rfl, e2, hm⟩ := τ1 m n ht
      obtain ⟨cs, s, id, _, r2⟩ := q3 _ hm
      dsimp only at r2 ⊢
      rw [r2]; simp
    · intro m m' n h5 h6
      rw [← (τ1 m n h5).1, ← (τ1 m' n h6).1]

/-- What a loop's spec promises. -/
def LoopOk {ι : Type} (P : Program) (L : LSpec ι) : Prop := ∀ c, L.code = .loop c → ∀ inR F n, FenceOk F inR → ∀ (i : ι), L.pre i → ∀ (M : Mem) (ρ : Rho) (a : Act) (w : World), StRep noX M ρ (L.S i) a w →
  ∀ (b : Frame) (k : List Item) (cs : List Frame), b.roundOf = F.round → F.fn b.fn → F.room (cs.length + 1 + n) →
    ∃ e' a' w', (ExRep (L.E i (L.q i)) e' ∧ ∃ M' ρ', Came L.K (L.S i) M ρ w (L.T i (L.q i)) M' ρ' a' w') ∧ ArrivesIn (Machine.fenced P F) P (lone (b.atR a (.code c :: .inLoop c :: k)) cs w) b k cs e' a' w'
def ScopeOk {ι : Type} (P : Program) (L : LSpec ι) : Prop := ∀ whole cur, L.code = .seq whole cur → ∀ inR F n, FenceOk F inR → ∀ (i : ι), L.pre i → ∀ (M : Mem) (ρ : Rho) (a : Act) (w : World), StRep noX M ρ (L.S i) a w →
  ∀ (b : Frame) (k : List Item) (cs : List Frame), b.roundOf = F.round → F.fn b.fn → F.room (cs.length + 1 + n) →
    ∃ e' a' w', (ExRep (L.E i (L.q i)) e' ∧ ∃ M' ρ', Came L.K (L.S i) M ρ w (L.T i (L.q i)) M' ρ' a' w') ∧ ArrivesIn (Machine.fenced P F) P (lone (b.atR a (.code cur :: .inScope whole :: k)) cs w) b k cs e' a' w'
theorem LSpec.ok {ι : Type} (L : LSpec ι) (hL : LForm L) (h1 : LoopOk P L) (h2 : ScopeOk P L) : HookOk P L.hook := by
  refine ⟨fun px st e st' h => ?_, fun c inR px st e st' X M ρ a w F n hc h hF hs hx b k cs hro hb hr => ?_, fun whole cur inR px st e st' X M ρ a w F n hc h hF hs hx b k cs hro hb hr => ?_⟩
  · obtain ⟨_, _, _, hg, _⟩ := L.back hL h
    exact hg
  · obtain ⟨i, hpi, rfl, hg, σ, hsim, hb'⟩ := L.back hL h
    obtain ⟨e', a', w', ⟨p1, M', ρ', p2⟩, p3⟩ := h1 c hc inR F n hF i hpi M (thru σ ρ) a w (hsim.rep hs) b k cs hro hb hr
    obtain ⟨ρ'', r1, r2⟩ := hb' X M ρ a w M' ρ' a' w' hs hx p2
    exact ⟨e', a', w', ⟨p1, M', ρ'', r1, r2⟩, p3⟩
  · obtain ⟨i, hpi, rfl, hg, σ, hsim, hb'⟩ := L.back hL h
    obtain ⟨e', a', w', ⟨p1, M', ρ', p2⟩, p3⟩ := h2 whole cur hc inR F n hF i hpi M (thru σ ρ) a w (hsim.rep hs) b k cs hro hb hr
    obtain ⟨ρ'', r1, r2⟩ := hb' X M ρ a w M' ρ' a' w' hs hx p2
    exact ⟨e', a', w', ⟨p1, M', ρ'', r1, r2⟩, p3⟩
end
end Go.Sx
