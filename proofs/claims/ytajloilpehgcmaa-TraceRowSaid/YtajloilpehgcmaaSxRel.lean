/- Functions that come to a value told by a relation, new lists among it; lists of our own that are handed over stay as they are from then on. Conditions: none. -/
import Derived.Test.YtajloilpehgcmaaSxLoop
set_option linter.unusedVariables false
set_option linter.unusedSimpArgs false
set_option linter.unusedSectionVars false

namespace Go.Sx
section
variable {X X' : Nm → Prop} {M M' M0 : Mem} {ρ ρ' ρ0 ρ1 ρ2 : Rho} {w w' w0 : World} {H H' : HH} {P : Program} {a a' : Act} {σ τ : Nm → Option Nm}

/-- Elements, as a row's cells tell them. -/
def RowIs (cs : List VV) (off sz : Nat) (len : Int) (es : List VV) : Prop :=
  (cs.drop off).take (flat es).length = flat es ∧ len = (es.length : Int) ∧ (∀ e ∈ es, (cellsOf e).length = sz) ∧ argL es = true
/-- A value as it is looked at by who never writes. -/
inductive ViewR (H : HH) : VV → VV → Prop
  | arg (v : VV) (h : argV v = true) : ViewR H v v
  | isl (id id' sz : Nat) (s s' : Bool) (len : Int) (es : List VV) (c0 : Bool) (h : argL es = true) : ViewR H (.isl id sz s len es c0) (.isl id' sz s' len es false)
  | nilI (id id' sz sz' : Nat) (s s' c0 : Bool) (len : Int) : ViewR H (.isl id sz s len [] c0) (.isl id' sz' s' len [] false)
  | int (k : IntKind) (s s' : Bool) (n : Int) : ViewR H (.int k s n) (.int k s' n)
  | bool (s s' b : Bool) : ViewR H (.bool s b) (.bool s' b)
  | osl (nm : Nm) (off sz : Nat) (s s' : Bool) (len : Int) (cs : List VV) (rs : Bool) (id id' : Nat) (es : List VV) (h : H.get nm = some (.row cs rs id)) (hr : RowIs cs off sz len es) :
      ViewR H (.osl nm off sz s len) (.isl id' sz s' len es false)
  | agg (x x' : List VV) (hl : x'.length = x.length) (h : ∀ (i : Nat) (u v : VV), x[i]? = some u → x'[i]? = some v → ViewR H u v) : ViewR H (.agg x) (.agg x')
  | tup (x x' : List VV) (hl : x'.length = x.length) (h : ∀ (i : Nat) (u v : VV), x[i]? = some u → x'[i]? = some v → ViewR H u v) : ViewR H (.tup x) (.tup x')
theorem view_row (hI : Inv X M ρ H w) {nm : Nm} {off sz : Nat} {s : Bool} {len : Int} {cs : List VV} {rs : Bool} {id : Nat} {es : List VV} (hg : H.get nm = some (.row cs rs id)) (hr : RowIs cs off sz len es) {val : Value}
    (hv : Rep M ρ (.osl nm off sz s len) val) {M' : Mem} {ρ' : Rho} (hM : MLe M M') (hc : ∀ b z o v, ρ nm = some (b, z) → w.cell? ⟨b, o, none⟩ = some v → M' b o = some v) (id' : Nat) (s' : Bool) : Rep M' ρ' (.isl id' sz s' len es false) val := by
  obtain ⟨h1, h2, h3, h4⟩ := hr
  cases hv with
  | osl _ _ _ _ _ b z n c o hρ hn hcc ho =>
    have hes : n = es.length := by omega
    subst hes
    have hw : ∀ (i : Nat) (x : VV), (flat es)[i]? = some x → ∃ val, M' b (o + i) = some val ∧ Rep M' ρ' x val := by
      intro i x hx
      have hx' := hx
      rw [← h1, List.getElem?_take] at hx'
      split at hx'
      · rename_i hi
        rw [List.getElem?_drop] at hx'
        have hc0 : c ≠ 0 := by
          rintro rfl
          have : es.length = 0 := by omega
          have : es = [] := List.eq_nil_of_length_eq_zero this
          subst this
          simp [flat] at hx
        obtain ⟨val, q1, q2⟩ := row_cell hI hg hρ hx'
        refine ⟨val, by rw [(ho hc0).1]; exact hc b z _ _ hρ q1, rep_arg q2 hM (argL_get _ (argL_flat es h4) i x hx)⟩
      · cases hx'
    exact .isl id' sz s' len es false b o c (fun i => (M' b (o + i)).getD undef) h2 hcc (by simp) h3
      (fun i x hx => by obtain ⟨val, q1, _⟩ := hw i x hx; rw [q1]; rfl)
      (fun i x hx => by obtain ⟨val, q1, q2⟩ := hw i x hx; rw [q1]; exact q2)
theorem ViewR.rep (hI : Inv X M ρ H w) {v u : VV} (h : ViewR H v u) : ∀ {val : Value}, Rep M ρ v val → Rep (seen H ρ M w) noRho u val := by
  induction h with
  | arg v h => intro val hr; exact rep_arg hr seen_le h
  | isl id id' sz s s' len es c0 h =>
    intro val hr
    have h2 : Rep (seen H ρ M w) noRho (.isl id sz s len es c0) val := rep_arg hr seen_le h
    cases h2 with
    | islNil _ _ _ _ _ hn => exact .islNil _ _ _ _ _ hn
    | isl _ _ _ _ _ _ b o c vs hn hc h0 hsz hm hh => exact .isl id' sz s' len es false b o c vs hn hc (by simp) hsz hm hh
  | nilI id id' sz sz' s s' c0 len =>
    intro val hr
    cases hr with
    | islNil _ _ _ _ _ hn => exact .islNil _ _ _ _ _ hn
    | isl _ _ _ _ _ _ b o c vs hn hc h0 hsz hm hh => exact .isl id' sz' s' len [] false b o c vs hn hc (by simp) (by simp) (by simp [flat]) (by simp [flat])
  | int k s s' n => intro val hr; cases hr; exact .int _ _ _
  | bool s s' b => intro val hr; cases hr; exact .bool _ _
  | osl nm off sz s s' len cs rs id id' es h hr =>
    intro val hv
    exact view_row hI h hr hv seen_le (fun b z o v hρ hc => seen_own hI (live_row h) hρ hc) id' s'
  | agg x x' hl _ ih =>
    intro val hr
    cases hr with
    | agg _ vs k1 h1 =>
      refine .agg x' vs (by rw [hl]; exact k1) (fun i c v hc hv => ?_)
      have hi : i < x.length := by rw [← hl]; exact (List.getElem?_eq_some_iff.1 hc).1
      exact ih i x[i] c (List.getElem?_eq_getElem hi) hc (h1 i x[i] v (List.getElem?_eq_getElem hi) hv)
  | tup x x' hl _ ih =>
    intro val hr
    cases hr with
    | tup _ vs k1 h1 =>
      refine .tup x' vs (by rw [hl]; exact k1) (fun i c v hc hv => ?_)
      have hi : i < x.length := by rw [← hl]; exact (List.getElem?_eq_some_iff.1 hc).1
      exact ih i x[i] c (List.getElem?_eq_getElem hi) hc (h1 i x[i] v (List.getElem?_eq_getElem hi) hv)

/-- A function comes to a value that stands in R to its arguments, and touches nothing that is there. -/
def RelOk (P : Program) (f : FuncId) (R : List VV → VV → Prop) : Prop :=
  ∀ (args : List VV) (u : VV) (M : Mem) (w : World) (argv : Array Value), R args u → (∀ b o v, M b o = some v → w.cell? ⟨b, o, none⟩ = some v) → RepL M noRho args argv.toList →
    (callFunc f argv).run P w = .ok (.enter f argv) w ∧ Calls P f argv w fun e w' => ∃ val M', e = .returned val ∧ Rep M' noRho u val ∧ w.heap.size ≤ w'.heap.size ∧ (∀ b, b < w.heap.size → w'.heap[b]? = w.heap[b]?) ∧
      MLe M M' ∧ (∀ b o v, M' b o = some v → w'.cell? ⟨b, o, none⟩ = some v) ∧ (∀ b o v, M' b o = some v → M b o = some v ∨ w.heap.size ≤ b) ∧ Same w w'

/-- A list of our own is looked at alone from now on. -/
theorem freeze (hI : Inv X M ρ H w) {nm : Nm} {cs : List VV} {rs : Bool} {id : Nat} (hg : H.get nm = some (.row cs rs id)) :
    ∃ M', MLe M M' ∧ Inv X M' ρ (H.upd nm .dead) w ∧ Ext X H M ρ w M' ρ w ∧ ∀ b z o v, ρ nm = some (b, z) → w.cell? ⟨b, o, none⟩ = some v → M' b o = some v := by
  obtain ⟨b, z, c, ty, h1, h2, h3, h4, h5⟩ := hI.row nm cs rs id hg
  have hl : Live H nm := live_row hg
  have h0 : H.get nm ≠ none := by rw [hg]; simp
  let M1 : Mem := fun b' o => if b' = b then w.cell? ⟨b', o, none⟩ else M b' o
  have hM : MLe M M1 := by
    intro b' o v hm
    simp only [M1]
    split
    · exact hI.imm b' o v hm
    · exact hm
  have hlive : ∀ m, Live (H.upd nm .dead) m → m ≠ nm ∧ Live H m := by
    rintro m ⟨e, he, hle⟩
    rw [get_upd _ _ _ _ h0] at he
    split at he
    · simp only [Option.some.injEq] at he
      subst he
      exact hle.elim
    · rename_i hne; exact ⟨hne, e, he, hle⟩
  have hget : ∀ m e, e ≠ Ent.dead → (H.upd nm .dead).get m = some e → m ≠ nm ∧ H.get m = some e := by
    intro m e hne he
    rw [get_upd _ _ _ _ h0] at he
    split at he
    · simp only [Option.some.injEq] at he
      exact absurd he.symm hne
    · rename_i hn; exact ⟨hn, he⟩
  refine ⟨M1, hM, ⟨?_, ?_, ?_, ?_, ?_, ?_, ?_, hI.bnd⟩, ⟨hM, .refl _, Nat.le_refl _, fun _ _ _ => rfl, fun b' o v hm => ?_, fun _ _ _ h => .inl h, fun _ _ => rfl, .refl _⟩, fun b' z' o v hr hc => ?_⟩
  · intro m cs' s' id' he
    obtain ⟨_, he⟩ := hget m _ (by simp) he
    obtain ⟨b', z', c', ty', r1, r2, r3, r4, r5⟩ := hI.row m cs' s' id' he
    exact ⟨b', z', c', ty', r1, r2, r3, r4, row_mono hM (.refl _) r5⟩
  · intro m L he
    obtain ⟨_, he⟩ := hget m _ (by simp) he
    obtain ⟨b', z', r, r1, r2, r3⟩ := hI.loop m L he
    exact ⟨b', z', r, r1, r2, r3.mono hM (.refl _)⟩
  · intro m he
    obtain ⟨_, he⟩ := hget m _ (by simp) he
    exact hI.dfr m he
  · intro m m' b' z1 z2 q1 q2
    exact hI.inj m m' b' z1 z2 (hlive m q1).2 (hlive m' q2).2
  · intro b' o v hm
    simp only [M1] at hm
    split at hm
    · exact hm
    · exact hI.imm b' o v hm
  · intro m b' z' o q1 hr
    obtain ⟨q2, q3⟩ := hlive m q1
    simp only [M1]
    rw [if_neg]
    · exact hI.sep m b' z' o q3 hr
    · rintro rfl
      exact q2 (hI.inj m nm _ z' z q3 hl hr h1)
  · intro m he hx
    exact hI.dom m (upd_none he) hx
  · simp only [M1] at hm
    split at hm
    · rename_i hb
      subst hb
      exact .inr (.inr ⟨nm, z, hl, h1⟩)
    · exact .inl hm
  · rw [h1] at hr
    simp only [Option.some.injEq, Prod.mk.injEq] at hr
    obtain ⟨rfl, rfl⟩ := hr
    simp only [M1, if_true]
    exact hc

def argsF : List VV → HH → EE (List VV × HH)
  | [], H => .ret ([], H)
  | .osl nm off sz _ len :: r, H =>
    E.bind (liveRow H nm) fun x => E.bind (orcRow (.rd x.2.2 (off : Int) sz)) fun es => E.bind (E.ob (.prop (RowIs x.1 off sz len es))) fun _ =>
      E.bind (argsF r (H.upd nm .dead)) fun y => .ret (.isl 0 sz true len es false :: y.1, y.2)
  | v :: r, H => E.bind (E.ob (.prop (argV v = true))) fun _ => E.bind (argsF r H) fun y => .ret (v :: y.1, y.2)
def liftRel (R : List VV → VV → Prop) : Run := fun _ args H =>
  E.bind (argsF args H) fun y => E.bind (orcVal (.elem 0 (0 : Int))) fun u => E.bind (E.ob (.prop (R y.1 u ∧ argV u = true))) fun _ => .ret (u, y.2)

theorem argsF_sound : ∀ {args us : List VV} {vals : List Value} {M : Mem} {H H' : HH}, Has (argsF args H) (us, H') → Inv X M ρ H w → RepL M ρ args vals → (∀ n, X n → H'.get n = none) →
    Grow H H' ∧ ∃ M', Inv X M' ρ H' w ∧ Ext X H M ρ w M' ρ w ∧ RepL M' noRho us vals
  | [], us, vals, M, H, H', h, hI, hr, _ => by
    have := has_ret.1 h
    simp only [Prod.mk.injEq] at this
    obtain ⟨rfl, rfl⟩ := this
    cases vals with
    | nil => exact ⟨.refl _, M, hI, .refl, .nil⟩
    | cons _ _ => have := hr.1; simp at this
  | v :: r, us, vals, M, H, H', h, hI, hr, hx => by
    cases vals with
    | nil => have := hr.1; simp at this
    | cons val vals =>
      obtain ⟨r1, r2⟩ := hr.of_cons
      have other : (E.bind (E.ob (.prop (argV v = true))) fun _ => E.bind (argsF r H) fun y => (.ret (v :: y.1, y.2) : EE (List VV × HH))) = argsF (v :: r) H →
          Grow H H' ∧ ∃ M', Inv X M' ρ H' w ∧ Ext X H M ρ w M' ρ w ∧ RepL M' noRho us (val :: vals) := by
        intro he
        rw [← he] at h
        obtain ⟨_, h1, h2⟩ := has_bind (m := E.ob _) h
        obtain ⟨⟨us', H1⟩, h3, h4⟩ := has_bind (m := argsF r H) h2
        have := has_ret.1 h4
        simp only [Prod.mk.injEq] at this
        obtain ⟨rfl, rfl⟩ := this
        obtain ⟨g, M', i1, i2, i3⟩ := argsF_sound h3 hI r2 hx
        exact ⟨g, M', i1, i2, .cons (rep_arg r1 i2.m (has_ob h1)) i3⟩
      cases v with
      | osl nm off sz s len =>
        unfold argsF at h
        obtain ⟨⟨cs, rs, id⟩, h1, h2⟩ := has_bind (m := liveRow H nm) h
        have hg := has_liveRow h1
        obtain ⟨es, _, h3⟩ := has_bind (m := orcRow _) h2
        obtain ⟨_, h4, h5⟩ := has_bind (m := E.ob _) h3
        have hri : RowIs cs off sz len es := has_ob h4
        obtain ⟨⟨us', H1⟩, h6, h7⟩ := has_bind (m := argsF r (H.upd nm .dead)) h5
        have := has_ret.1 h7
        simp only [Prod.mk.injEq] at this
        obtain ⟨rfl, rfl⟩ := this
        obtain ⟨M1, m1, m2, m3, m4⟩ := freeze hI hg
        have gU : Grow H (H.upd nm .dead) := .upd (live_row hg)
        obtain ⟨g, M', i1, i2, i3⟩ := argsF_sound h6 m2 (r2.mono m1 (.refl _)) hx
        refine ⟨gU.trans g, M', i1, m3.trans hI gU (fun n hn => grow_none g (hx n hn)) i2, .cons ?_ i3⟩
        exact view_row hI hg hri r1 (m1.trans i2.m) (fun b z o v hρ hc => i2.m _ _ _ (m4 b z o v hρ hc)) 0 true
      | _ => exact other rfl

theorem relRun_ok {f : FuncId} {R : List VV → VV → Prop} (hR : RelOk P f R) : RunOk P f (liftRel R) := by
  have split : ∀ {nm args H v H'}, Has (liftRel R nm args H) (v, H') → ∃ us, Has (argsF args H) (us, H') ∧ R us v ∧ argV v = true := by
    intro nm args H v H' h
    obtain ⟨⟨us, H1⟩, h1, h2⟩ := has_bind (m := argsF args H) h
    obtain ⟨u, _, h3⟩ := has_bind (m := orcVal _) h2
    obtain ⟨_, h4, h5⟩ := has_bind (m := E.ob _) h3
    have := has_ret.1 h5
    simp only [Prod.mk.injEq] at this
    obtain ⟨rfl, rfl⟩ := this
    have h6 : R us u ∧ argV u = true := has_ob h4
    exact ⟨us, h1, h6.1, h6.2⟩
  have growA : ∀ {args : List VV} {us : List VV} {H H' : HH}, Has (argsF args H) (us, H') → Grow H H' := by
    intro args
    induction args with
    | nil =>
      intro us H H' h
      have := has_ret.1 h
      simp only [Prod.mk.injEq] at this
      rw [← this.2]; exact .refl _
    | cons v r ih =>
      intro us H H' h
      have other : (E.bind (E.ob (.prop (argV v = true))) fun _ => E.bind (argsF r H) fun y => (.ret (v :: y.1, y.2) : EE (List VV × HH))) = argsF (v :: r) H → Grow H H' := by
        intro he
        rw [← he] at h
        obtain ⟨_, h1, h2⟩ := has_bind (m := E.ob _) h
        obtain ⟨⟨us', H1⟩, h3, h4⟩ := has_bind (m := argsF r H) h2
        have := has_ret.1 h4
        simp only [Prod.mk.injEq] at this
        rw [← this.2]; exact ih h3
      cases v with
      | osl nm off sz s len =>
        unfold argsF at h
        obtain ⟨⟨cs, rs, id⟩, h1, h2⟩ := has_bind (m := liveRow H nm) h
        have hg := has_liveRow h1
        obtain ⟨es, _, h3⟩ := has_bind (m := orcRow _) h2
        obtain ⟨_, h4, h5⟩ := has_bind (m := E.ob _) h3
        obtain ⟨⟨us', H1⟩, h6, h7⟩ := has_bind (m := argsF r (H.upd nm .dead)) h5
        have := has_ret.1 h7
        simp only [Prod.mk.injEq] at this
        rw [← this.2]
        exact (Grow.upd (live_row hg)).trans (ih h6)
      | _ => exact other rfl
  refine ⟨fun nm args H v H' h => ?_, fun nm args H v H' X M ρ w argv h hI ha hx => ?_⟩
  · obtain ⟨us, h1, _, _⟩ := split h
    exact growA h1
  · obtain ⟨us, h1, h2, h3⟩ := split h
    obtain ⟨g, M1, i1, i2, i3⟩ := argsF_sound h1 hI ha hx
    obtain ⟨c1, c2⟩ := hR us v M1 w argv h2 i1.imm i3
    refine ⟨c1, fun n => callsIn_wide.2 (c2.mono fun e w' he => ?_)⟩
    obtain ⟨val, M2, rfl, r1, r2, r3, r4, r5, r6, r7⟩ := he
    refine ⟨val, rfl, M2, ρ, rep_arg r1 (.refl _) h3, i1.kept r4 r2 r3 r5 r6, ?_⟩
    refine i2.trans hI g hx ⟨r4, .refl _, r2, fun b hb _ => r3 b hb, fun b o v hm => ?_, fun _ _ _ h => .inl h, fun _ _ => rfl, r7⟩
    rcases r6 b o v hm with h5 | h5
    · exact .inl h5
    · exact .inr (.inl h5)

/-- Out of the executor's word. -/
theorem relOk_cx {cx : Cx Int Bool} (h : CxOk cx) {f : FuncId} {R : List VV → VV → Prop}
    (hs : ∀ args u, R args u → ∃ fuel v' H', Has ((ev cx fuel).call [] f args emptyH) (v', H') ∧ ViewR H' v' u) : RelOk cx.P f R := by
  intro args u M w argv hr hm ha
  obtain ⟨fuel, v', H', h1, h2⟩ := hs args u hr
  have hI := inv_empty hm
  obtain ⟨c1, c2⟩ := call_sound h h1 hI ha (fun _ h => h.elim)
  have hg : Grow emptyH H' := (ev_ok h fuel).1.call _ _ _ _ _ _ h1
  have noown : ∀ b, ¬ Own emptyH noRho b := by
    rintro b ⟨n, z, ⟨e, he, _⟩, _⟩
    cases he
  refine ⟨c1, c2.mono fun e w' he => ?_⟩
  obtain ⟨val, rfl, M', ρ', r1, r2, r3⟩ := he
  refine ⟨val, seen H' ρ' M' w', rfl, h2.rep r2 r1, r3.sz, fun b hb => r3.fr b hb (noown b), r3.m.trans seen_le, seen_imm r2, (fun b o v hv => ?_), r3.st⟩
  have ext : ∀ b o v, M' b o = some v → M b o = some v ∨ w.heap.size ≤ b := fun b o v hm => by
    rcases r3.mn b o v hm with h5 | h5 | h5
    · exact .inl h5
    · exact .inr h5
    · exact absurd h5 (noown b)
  unfold seen at hv
  split at hv
  · exact ext b o v hv
  · split at hv
    · rename_i ho
      rcases own_new hI r3 hg (fun _ h => h.elim) ho with h5 | h5
      · exact absurd h5 (noown b)
      · exact .inr h5
    · cases hv

/-- How a call ended. -/
def outR (r : Res Int Bool (VV × HH)) : Option (VV × HH × List (Ob Int Bool)) :=
  match r with
  | .ok a _ obs => some (a.1, a.2, obs)
  | _ => none
theorem has_outR {m : EE (VV × HH)} {sc : List (Orc Int Bool)} {v : VV} {H : HH} {obs : List (Ob Int Bool)} (h : outR (m sc) = some (v, H, obs)) (ho : holdsO obs) : Has m (v, H) := by
  unfold outR at h
  split at h
  · rename_i a os' obs' heq
    simp only [Option.some.injEq, Prod.mk.injEq] at h
    obtain ⟨rfl, rfl, rfl⟩ := h
    exact ⟨sc, os', _, heq, holdsO_mem ho⟩
  · cases h
def ViewL (H : HH) (x x' : List VV) : Prop := x'.length = x.length ∧ ∀ (i : Nat) (u v : VV), x[i]? = some u → x'[i]? = some v → ViewR H u v
theorem ViewL.nil {H : HH} : ViewL H [] [] := ⟨rfl, by simp⟩
theorem ViewL.cons {H : HH} {u v : VV} {x x' : List VV} (h : ViewR H u v) (hs : ViewL H x x') : ViewL H (u :: x) (v :: x') := by
  refine ⟨by simp [hs.1], fun i p q hp hq => ?_⟩
  cases i with
  | zero => simp only [List.getElem?_cons_zero, Option.some.injEq] at hp hq; subst hp hq; exact h
  | succ i => simp only [List.getElem?_cons_succ] at hp hq; exact hs.2 i p q hp hq
theorem ViewL.tup {H : HH} {x x' : List VV} (h : ViewL H x x') : ViewR H (.tup x) (.tup x') := .tup _ _ h.1 h.2
theorem ViewL.agg {H : HH} {x x' : List VV} (h : ViewL H x x') : ViewR H (.agg x) (.agg x') := .agg _ _ h.1 h.2
end
end Go.Sx
