/- The executor's states seen through other names: values alike, states alike. Conditions: none. -/
import Derived.Test.YtajloilpehgcmaaSxPure
set_option linter.unusedVariables false
set_option linter.unusedSimpArgs false
set_option linter.unusedSectionVars false

namespace Go.Sx
section
variable {X X' : Nm → Prop} {M M' M0 : Mem} {ρ ρ' ρ0 ρ1 ρ2 : Rho} {w w' w0 : World} {H H' : HH} {P : Program} {a a' : Act} {σ τ : Nm → Option Nm}

/-- Another value for the same, names of the second leading through σ to those of the first. -/
inductive Sim (σ : Nm → Option Nm) : VV → VV → Prop
  | arg (x : VV) (h : argV x = true) : Sim σ x x
  | isl (id id' sz : Nat) (s s' : Bool) (len : Int) (es : List VV) (c0 : Bool) (h : argL es = true) : Sim σ (.isl id sz s len es c0) (.isl id' sz s' len es false)
  | int (k : IntKind) (s s' : Bool) (n : Int) : Sim σ (.int k s n) (.int k s' n)
  | bool (s s' b : Bool) : Sim σ (.bool s b) (.bool s' b)
  | top (x : VV) : Sim σ x .top
  | undef : Sim σ .undef .undef
  | raw (v : Value) : Sim σ (.raw v) (.raw v)
  | ptr (nm nm' : Nm) (s s' : Bool) (off : Int) (h : σ nm' = some nm) : Sim σ (.ptr nm s off) (.ptr nm' s' off)
  | osl (nm nm' : Nm) (off sz : Nat) (s s' : Bool) (len : Int) (h : σ nm' = some nm) : Sim σ (.osl nm off sz s len) (.osl nm' off sz s' len)
  | yld (nm nm' : Nm) (h : σ nm' = some nm) : Sim σ (.yld nm) (.yld nm')
  | fn (f : FuncId) (x y x' y' : List VV) (hl : x'.length = x.length) (hl' : y'.length = y.length)
      (h : ∀ (i : Nat) (u v : VV), x[i]? = some u → x'[i]? = some v → Sim σ u v)
      (h' : ∀ (i : Nat) (u v : VV), y[i]? = some u → y'[i]? = some v → Sim σ u v) : Sim σ (.fn f x y) (.fn f x' y')
  | agg (x x' : List VV) (hl : x'.length = x.length) (h : ∀ (i : Nat) (u v : VV), x[i]? = some u → x'[i]? = some v → Sim σ u v) : Sim σ (.agg x) (.agg x')
  | tup (x x' : List VV) (hl : x'.length = x.length) (h : ∀ (i : Nat) (u v : VV), x[i]? = some u → x'[i]? = some v → Sim σ u v) : Sim σ (.tup x) (.tup x')
/-- Lists, one by one. -/
def SimL (σ : Nm → Option Nm) (x x' : List VV) : Prop := x'.length = x.length ∧ ∀ (i : Nat) (u v : VV), x[i]? = some u → x'[i]? = some v → Sim σ u v
theorem SimL.nil : SimL σ [] [] := ⟨rfl, by simp⟩
theorem SimL.cons {u v : VV} {x x' : List VV} (h : Sim σ u v) (hs : SimL σ x x') : SimL σ (u :: x) (v :: x') := by
  refine ⟨by simp [hs.1], fun i p q hp hq => ?_⟩
  cases i with
  | zero => simp only [List.getElem?_cons_zero, Option.some.injEq] at hp hq; subst hp hq; exact h
  | succ i => simp only [List.getElem?_cons_succ] at hp hq; exact hs.2 i p q hp hq
theorem Sim.fnL {f : FuncId} {x y x' y' : List VV} (h : SimL σ x x') (h' : SimL σ y y') : Sim σ (.fn f x y) (.fn f x' y') := .fn f x y x' y' h.1 h'.1 h.2 h'.2
theorem Sim.aggL {x x' : List VV} (h : SimL σ x x') : Sim σ (.agg x) (.agg x') := .agg x x' h.1 h.2
theorem argL_sim {x : List VV} (h : argL x = true) : SimL σ x x := ⟨rfl, fun i u v hu hv => by rw [hu] at hv; cases hv; exact .arg u (argL_get x h i u hu)⟩

theorem Sim.rep (hσ : ∀ n m, σ n = some m → ρ2 n = ρ1 m) {x y : VV} (h : Sim σ x y) : ∀ {v : Value}, Rep M ρ1 x v → Rep M ρ2 y v := by
  induction h with
  | arg x h => intro v hr; exact rep_arg hr (.refl _) h
  | isl id id' sz s s' len es c0 h =>
    intro v hr
    have h2 : Rep M ρ2 (.isl id sz s len es c0) v := rep_arg hr (.refl _) h
    cases h2 with
    | islNil _ _ _ _ _ hn => exact .islNil _ _ _ _ _ hn
    | isl _ _ _ _ _ _ b o c vs hn hc h0 hsz hm hh => exact .isl id' sz s' len es false b o c vs hn hc (by simp) hsz hm hh
  | int k s s' n => intro v hr; cases hr; exact .int _ _ _
  | bool s s' b => intro v hr; cases hr; exact .bool _ _
  | top x => intro v _; exact .top v
  | undef => intro v hr; cases hr; exact .undef
  | raw u => intro v hr; cases hr; exact .raw _
  | ptr nm nm' s s' off h =>
    intro v hr
    cases hr with
    | ptr _ _ _ b z hr h0 => exact .ptr nm' s' off b z (by rw [hσ _ _ h]; exact hr) h0
  | osl nm nm' off sz s s' len h =>
    intro v hr
    cases hr with
    | osl _ _ _ _ _ b z n c o hr hn hc ho => exact .osl nm' off sz s' len b z n c o (by rw [hσ _ _ h]; exact hr) hn hc ho
  | yld nm nm' h =>
    intro v hr
    cases hr with
    | yld _ l z hr => exact .yld nm' l z (by rw [hσ _ _ h]; exact hr)
  | fn f x y x' y' hl hl' _ _ ih ih' =>
    intro v hr
    cases hr with
    | fn _ _ _ vf vc k1 k2 h1 h2 =>
      refine .fn f x' y' vf vc (by rw [hl]; exact k1) (by rw [hl']; exact k2) (fun i c v hc hv => ?_) (fun i c v hc hv => ?_)
      · have hi : i < x.length := by rw [← hl]; exact (List.getElem?_eq_some_iff.1 hc).1
        exact ih i x[i] c (List.getElem?_eq_getElem hi) hc (h1 i x[i] v (List.getElem?_eq_getElem hi) hv)
      · have hi : i < y.length := by rw [← hl']; exact (List.getElem?_eq_some_iff.1 hc).1
        exact ih' i y[i] c (List.getElem?_eq_getElem hi) hc (h2 i y[i] v (List.getElem?_eq_getElem hi) hv)
  | agg x x' hl _ ih =>
    intro v hr
    cases hr with
    | agg _ vs k1 h1 =>
      refine .agg x' vs (by rw [hl]; exact k1) (fun i c v hc hv => ?_)
      have hi : i < x.length := by rw [← hl]; exact (List.getElem?_eq_some_iff.1 hc).1
      exact ih i x[i] c (List.getElem?_eq_getElem hi) hc (h1 i x[i] v (List.getElem?_eq_getElem hi) hv)
  | tup x x' hl _ ih =>
    intro v hr
    cases hr with
    | tup _ vs k1 h1 =>
      refine .tup x' vs (by rw [hl]; exact k1) (fun i c v hc hv => ?_)
      have hi : i < x.length := by rw [← hl]; exact (List.getElem?_eq_some_iff.1 hc).1
      exact ih i x[i] c (List.getElem?_eq_getElem hi) hc (h1 i x[i] v (List.getElem?_eq_getElem hi) hv)
theorem SimL.rep (hσ : ∀ n m, σ n = some m → ρ2 n = ρ1 m) {x y : List VV} (h : SimL σ x y) {vs : List Value} (hr : RepL M ρ1 x vs) : RepL M ρ2 y vs := by
  refine ⟨by rw [h.1]; exact hr.1, fun i c v hc hv => ?_⟩
  have hi : i < x.length := by rw [← h.1]; exact (List.getElem?_eq_some_iff.1 hc).1
  exact (h.2 i x[i] c (List.getElem?_eq_getElem hi) hc).rep hσ (hr.2 i x[i] v (List.getElem?_eq_getElem hi) hv)

/-- A list tells of no more than another. -/
def SimP (σ : Nm → Option Nm) (x x' : List VV) : Prop := x'.length ≤ x.length ∧ ∀ (i : Nat) (u v : VV), x[i]? = some u → x'[i]? = some v → Sim σ u v
theorem SimL.pre {x x' : List VV} (h : SimL σ x x') : SimP σ x x' := ⟨Nat.le_of_eq h.1, h.2⟩
/-- Entries alike. -/
def EntSim (σ : Nm → Option Nm) : Ent Int Bool → Ent Int Bool → Prop
  | .row cs _ _, .row cs' _ _ => SimP σ cs cs'
  | .dfr, .dfr => True
  | _, .dead => True
  | _, _ => False
/-- States alike: the second tells of less. -/
structure StSim (σ : Nm → Option Nm) (st st2 : St Int Bool) : Prop where
  ts : SimL σ st.ts st2.ts
  heap : ∀ n e2, st2.H.get n = some e2 → ∃ m e1, σ n = some m ∧ st.H.get m = some e1 ∧ EntSim σ e1 e2
  inj : ∀ n n' m, σ n = some m → σ n' = some m → n = n'
  dom : ∀ n m, σ n = some m → st2.H.get n ≠ none
  marks : st2.marks.length = st.marks.length ∧ ∀ (i : Nat) (n m : Nm), st2.marks[i]? = some n → st.marks[i]? = some m → σ n = some m
def thru (σ : Nm → Option Nm) (ρ : Rho) : Rho := fun n => (σ n).bind ρ
def noX : Nm → Prop := fun _ => False

theorem EntSim.live {e1 e2 : Ent Int Bool} (h : EntSim σ e1 e2) (hl : e2.live) : e1.live := by
  cases e1 <;> cases e2 <;> simp_all [EntSim, Ent.live]
theorem marks_sim (hσ : ∀ n m, σ n = some m → ρ2 n = ρ1 m) : ∀ {ns ms : List Nm} {ds : List Deferred}, ns.length = ms.length → (∀ (i : Nat) (n m : Nm), ns[i]? = some n → ms[i]? = some m → σ n = some m) → MarksRep ρ1 ms ds → MarksRep ρ2 ns ds
  | [], [], [], _, _, _ => trivial
  | [], [], _ :: _, _, _, h => h.elim
  | [], _ :: _, _, hl, _, _ => by simp at hl
  | _ :: _, [], _, hl, _, _ => by simp at hl
  | _ :: _, _ :: _, [], _, _, h => h.elim
  | n :: ns, m :: ms, d :: ds, hl, hs, h => by
    obtain ⟨⟨r, z, h1, h2⟩, h3⟩ := h
    refine ⟨⟨r, z, ?_, h2⟩, marks_sim hσ (by simpa using hl) (fun i n m hn hm => hs (i + 1) n m (by simpa using hn) (by simpa using hm)) h3⟩
    rw [hσ n m (hs 0 n m rfl rfl)]; exact h1

/-- The same state, under fewer and other names. -/
theorem StSim.rep {st st2 : St Int Bool} (h : StSim σ st st2) (hs : StRep X M ρ st a w) : StRep noX M (thru σ ρ) st2 a w := by
  have hσ : ∀ n m, σ n = some m → thru σ ρ n = ρ m := fun n m hn => by simp [thru, hn]
  have hlive : ∀ n b z, Live st2.H n → thru σ ρ n = some (b, z) → ∃ m, σ n = some m ∧ Live st.H m ∧ ρ m = some (b, z) := by
    rintro n b z ⟨e2, he, hl⟩ hr
    obtain ⟨m, e1, h1, h2, h3⟩ := h.heap n e2 he
    exact ⟨m, h1, ⟨e1, h2, h3.live hl⟩, by rw [hσ n m h1] at hr; exact hr⟩
  refine ⟨h.ts.rep hσ hs.ts, ⟨?_, ?_, ?_, ?_, hs.inv.imm, ?_, ?_, ?_⟩, marks_sim hσ h.marks.1 h.marks.2 hs.marks⟩
  · intro n cs s id hg
    obtain ⟨m, e1, h1, h2, h3⟩ := h.heap n _ hg
    cases e1 with
    | row cs1 s1 id1 =>
      obtain ⟨b, z, c, ty, r1, r2, r3, r4, r5⟩ := hs.inv.row m cs1 s1 id1 h2
      have h3' : SimP σ cs1 cs := h3
      refine ⟨b, z, c, ty, by rw [hσ n m h1]; exact r1, r2, r3, Nat.le_trans h3'.1 r4, fun i x v hx hv => ?_⟩
      have hi : i < cs1.length := Nat.lt_of_lt_of_le (List.getElem?_eq_some_iff.1 hx).1 h3'.1
      exact (h3'.2 i cs1[i] x (List.getElem?_eq_getElem hi) hx).rep hσ (r5 i cs1[i] v (List.getElem?_eq_getElem hi) hv)
    | _ => exact h3.elim
  · intro n L hg
    obtain ⟨m, e1, h1, h2, h3⟩ := h.heap n _ hg
    cases e1 <;> exact h3.elim
  · intro n hg
    obtain ⟨m, e1, h1, h2, h3⟩ := h.heap n _ hg
    cases e1 with
    | dfr =>
      obtain ⟨b, z, r1, r2⟩ := hs.inv.dfr m h2
      exact ⟨b, z, by rw [hσ n m h1]; exact r1, r2⟩
    | _ => exact h3.elim
  · intro n n' b z z' hl hl' hr hr'
    obtain ⟨m, h1, h2, h3⟩ := hlive n b z hl hr
    obtain ⟨m', h1', h2', h3'⟩ := hlive n' b z' hl' hr'
    have := hs.inv.inj m m' b z z' h2 h2' h3 h3'
    subst this
    exact h.inj n n' m h1 h1'
  · intro n b z o hl hr
    obtain ⟨m, _, h2, h3⟩ := hlive n b z hl hr
    exact hs.inv.sep m b z o h2 h3
  · intro n hg _
    unfold thru
    cases hn : σ n with
    | none => rfl
    | some m => exact absurd hg (h.dom n m hn)
  · intro n b z hr
    unfold thru at hr
    cases hn : σ n with
    | none => rw [hn] at hr; cases hr
    | some m => rw [hn] at hr; exact hs.inv.bnd m b z hr
theorem StSim.own {st st2 : St Int Bool} (h : StSim σ st st2) {b : Nat} (ho : Own st2.H (thru σ ρ) b) : Own st.H ρ b := by
  obtain ⟨n, z, ⟨e2, he, hl⟩, hr⟩ := ho
  obtain ⟨m, e1, h1, h2, h3⟩ := h.heap n e2 he
  refine ⟨m, z, ⟨e1, h2, h3.live hl⟩, ?_⟩
  simpa [thru, h1] using hr

/-- What may have come of memory, the blocks in O being ours. -/
structure Fwd (O : Nat → Prop) (M : Mem) (w : World) (M' : Mem) (w' : World) : Prop where
  m : MLe M M'
  sz : w.heap.size ≤ w'.heap.size
  fr : ∀ b, b < w.heap.size → ¬ O b → w'.heap[b]? = w.heap[b]?
  mn : ∀ b o v, M' b o = some v → M b o = some v ∨ w.heap.size ≤ b ∨ O b
  st : Same w w'
theorem Fwd.refl {O : Nat → Prop} : Fwd O M w M w := ⟨.refl _, Nat.le_refl _, fun _ _ _ => rfl, fun _ _ _ h => .inl h, .refl _⟩
theorem Fwd.trans {O O1 : Nat → Prop} {M1 M2 : Mem} {w1 w2 : World} (h : Fwd O M w M1 w1) (k : Fwd O1 M1 w1 M2 w2) (ho : ∀ b, O1 b → O b ∨ w.heap.size ≤ b) : Fwd O M w M2 w2 := by
  refine ⟨h.m.trans k.m, Nat.le_trans h.sz k.sz, fun b hb hn => ?_, fun b o v hm => ?_, h.st.trans k.st⟩
  · have h3 : ¬ O1 b := fun h1 => by
      rcases ho b h1 with h2 | h2
      · exact hn h2
      · omega
    rw [k.fr b (Nat.lt_of_lt_of_le hb h.sz) h3, h.fr b hb hn]
  · rcases k.mn b o v hm with h1 | h1 | h1
    · exact h.mn b o v h1
    · exact .inr (.inl (Nat.le_trans h.sz h1))
    · rcases ho b h1 with h2 | h2
      · exact .inr (.inr h2)
      · exact .inr (.inl h2)
theorem Ext.fwd (h : Ext X H M ρ w M' ρ' w') : Fwd (Own H ρ) M w M' w' := ⟨h.m, h.sz, h.fr, h.mn, h.st⟩
theorem own_new (hI : Inv X M ρ H w) (h : Ext X H M ρ w M' ρ' w') (hg : Grow H H') (hx : ∀ n, X n → H'.get n = none) {b : Nat} (ho : Own H' ρ' b) : Own H ρ b ∨ w.heap.size ≤ b := by
  obtain ⟨n, z, hl, hr⟩ := ho
  rcases h.rn n b z hr with hr' | hb' | ho
  · left
    refine ⟨n, z, ?_, hr'⟩
    rcases hg.lives n hl with h1 | h1
    · exact h1
    · by_cases hX : X n
      · obtain ⟨e, he, _⟩ := hl
        rw [hx n hX] at he; cases he
      · rw [hI.dom n h1 hX] at hr'; cases hr'
  · exact .inr hb'
  · exact .inl ho

/-- What a piece of code comes to, in a state under names of its own: a state, names in K standing for what they stood for. -/
structure Came (K : List Nm) (st : St Int Bool) (M : Mem) (ρ : Rho) (w : World) (st' : St Int Bool) (M' : Mem) (ρ' : Rho) (a' : Act) (w' : World) : Prop where
  rep : StRep noX M' ρ' st' a' w'
  fwd : Fwd (Own st.H ρ) M w M' w'
  keep : ∀ n ∈ K, ρ' n = ρ n
  own : ∀ b, Own st'.H ρ' b → Own st.H ρ b ∨ w.heap.size ≤ b

/-- Back under the names of before. -/
theorem came_back {st S T st' : St Int Bool} {K : List Nm} (hs : StRep X M ρ st a w) (h1 : StSim σ st S) (hc : Came K S M (thru σ ρ) w T M' ρ' a' w')
    (hx : ∀ m, X m → st'.H.get m = none) (hg : Grow st.H st'.H)
    (ts : SimL τ T.ts st'.ts) (marks : st'.marks.length = T.marks.length ∧ ∀ (i : Nat) (n m : Nm), st'.marks[i]? = some m → T.marks[i]? = some n → τ m = some n)
    (new : ∀ m n e, τ m = some n → st'.H.get m = some e → ∃ e2, T.H.get n = some e2 ∧ EntSim τ e2 e)
    (frame : ∀ m e, τ m = none → st'.H.get m = some e → e = .dead ∨ (st.H.get m = some e ∧ ∀ n, σ n = some m → ¬ Live S.H n))
    (kept : ∀ m n, τ m = some n → (n ∈ K ∧ σ n = some m) ∨ (st.H.get m = none ∧ Live T.H n))
    (dom : ∀ m n, τ m = some n → st'.H.get m ≠ none) (inj : ∀ m m' n, τ m = some n → τ m' = some n → m = m') :
    ∃ ρ'', StRep X M' ρ'' st' a' w' ∧ Ext X st.H M ρ w M' ρ'' w' := by
  let ρn : Rho := fun m => match τ m with | some n => ρ' n | none => ρ m
  have hτ : ∀ m n, τ m = some n → ρn m = ρ' n := fun m n h => by simp [ρn, h]
  have hτ0 : ∀ m, τ m = none → ρn m = ρ m := fun m h => by simp [ρn, h]
  have hX0 : ∀ m, X m → τ m = none := fun m hm => by
    cases ht : τ m with
    | none => rfl
    | some n => exact absurd (hx m hm) (dom m n ht)
  have hR : RLe ρ ρn := fun m x hm => by
    cases ht : τ m with
    | none => rw [hτ0 m ht]; exact hm
    | some n =>
      rw [hτ m n ht]
      rcases kept m n ht with ⟨k1, k2⟩ | ⟨k1, _⟩
      · rw [hc.keep n k1]; simpa [thru, k2] using hm
      · have hnx : ¬ X m := fun hm' => by rw [hX0 m hm'] at ht; cases ht
        rw [hs.inv.dom m k1 hnx] at hm; cases hm
  -- who is framed is none of what was handed over
  have fr1 : ∀ m e b z, τ m = none → st'.H.get m = some e → e.live → ρ m = some (b, z) → ¬ Own S.H (thru σ ρ) b ∧ st.H.get m = some e ∧ b < w.heap.size := by
    intro m e b z ht he hl hr
    rcases frame m e ht he with rfl | ⟨f1, f2⟩
    · exact hl.elim
    · refine ⟨?_, f1, hs.inv.bnd m b z hr⟩
      rintro ⟨n, z', ⟨e2, g1, g2⟩, g3⟩
      obtain ⟨m', e1, k1, k2, k3⟩ := h1.heap n e2 g1
      have hr' : ρ m' = some (b, z') := by simpa [thru, k1] using g3
      have := hs.inv.inj m m' b z z' ⟨e, f1, hl⟩ ⟨e1, k2, k3.live g2⟩ hr hr'
      subst this
      exact f2 n k1 ⟨e2, g1, g2⟩
  have liveT : ∀ m n, τ m = some n → Live st'.H m → Live T.H n := by
    rintro m n ht ⟨e, he, hl⟩
    obtain ⟨e2, k1, k2⟩ := new m n e ht he
    exact ⟨e2, k1, k2.live hl⟩
  refine ⟨ρn, ⟨ts.rep hτ hc.rep.ts, ⟨?_, ?_, ?_, ?_, hc.rep.inv.imm, ?_, ?_, ?_⟩, ?_⟩, ⟨hc.fwd.m, hR, hc.fwd.sz, ?_, ?_, ?_, ?_, hc.fwd.st⟩⟩
  · intro m cs s id hg'
    cases ht : τ m with
    | some n =>
      obtain ⟨e2, k1, k2⟩ := new m n _ ht hg'
      cases e2 with
      | row cs1 s1 id1 =>
        obtain ⟨b, z, c, ty, r1, r2, r3, r4, r5⟩ := hc.rep.inv.row n cs1 s1 id1 k1
        have k2' : SimP τ cs1 cs := k2
        refine ⟨b, z, c, ty, by rw [hτ m n ht]; exact r1, r2, r3, Nat.le_trans k2'.1 r4, fun i x v hx hv => ?_⟩
        have hi : i < cs1.length := Nat.lt_of_lt_of_le (List.getElem?_eq_some_iff.1 hx).1 k2'.1
        exact (k2'.2 i cs1[i] x (List.getElem?_eq_getElem hi) hx).rep hτ (r5 i cs1[i] v (List.getElem?_eq_getElem hi) hv)
      | _ => exact k2.elim
    | none =>
      rcases frame m _ ht hg' with hd | ⟨f1, _⟩
      · cases hd
      · obtain ⟨b, z, c, ty, r1, r2, r3, r4, r5⟩ := hs.inv.row m cs s id f1
        obtain ⟨q1, _, q3⟩ := fr1 m _ b z ht hg' trivial r1
        exact ⟨b, z, c, ty, hR m _ r1, by rw [hc.fwd.fr b q3 q1]; exact r2, r3, r4, row_mono hc.fwd.m hR r5⟩
  · intro m L hg'
    cases ht : τ m with
    | some n =>
      obtain ⟨e2, k1, k2⟩ := new m n _ ht hg'
      cases e2 <;> exact k2.elim
    | none =>
      rcases frame m _ ht hg' with hd | ⟨f1, _⟩
      · cases hd
      · obtain ⟨b, z, r, r1, r2, r3⟩ := hs.inv.loop m L f1
        obtain ⟨q1, _, q3⟩ := fr1 m _ b z ht hg' trivial r1
        exact ⟨b, z, r, hR m _ r1, by rw [hc.fwd.fr b q3 q1]; exact r2, r3.mono hc.fwd.m hR⟩
  · intro m hg'
    cases ht : τ m with
    | some n =>
      obtain ⟨e2, k1, k2⟩ := new m n _ ht hg'
      cases e2 with
      | dfr =>
        obtain ⟨b, z, r1, r2⟩ := hc.rep.inv.dfr n k1
        exact ⟨b, z, by rw [hτ m n ht]; exact r1, r2⟩
      | _ => exact k2.elim
    | none =>
      rcases frame m _ ht hg' with hd | ⟨f1, _⟩
      · cases hd
      · obtain ⟨b, z, r1, r2⟩ := hs.inv.dfr m f1
        obtain ⟨q1, _, q3⟩ := fr1 m _ b z ht hg' trivial r1
        exact ⟨b, z, hR m _ r1, by rw [hc.fwd.fr b q3 q1]; exact r2⟩
  · intro m m' b z z' hl hl' hr hr'
    -- a name of the one kind and one of the other
    have mixed : ∀ m m' z z' n, τ m = some n → τ m' = none → Live st'.H m → Live st'.H m' → ρn m = some (b, z) → ρn m' = some (b, z') → False := by
      rintro m m' z z' n ht ht' hl ⟨e', he', hl'⟩ hr hr'
      rw [hτ0 m' ht'] at hr'
      obtain ⟨q1, _, q3⟩ := fr1 m' e' b z' ht' he' hl' hr'
      rw [hτ m n ht] at hr
      rcases hc.own b ⟨n, z, liveT m n ht hl, hr⟩ with h2 | h2
      · exact q1 h2
      · omega
    cases ht : τ m with
    | some n =>
      cases ht' : τ m' with
      | some n' =>
        rw [hτ m n ht] at hr
        rw [hτ m' n' ht'] at hr'
        have := hc.rep.inv.inj n n' b z z' (liveT m n ht hl) (liveT m' n' ht' hl') hr hr'
        subst this
        exact inj m m' n ht ht'
      | none => exact (mixed m m' z z' n ht ht' hl hl' hr hr').elim
    | none =>
      cases ht' : τ m' with
      | some n' => exact (mixed m' m z' z n' ht' ht hl' hl hr' hr).elim
      | none =>
        rw [hτ0 m ht] at hr
        rw [hτ0 m' ht'] at hr'
        obtain ⟨e, he, hle⟩ := hl
        obtain ⟨e', he', hle'⟩ := hl'
        obtain ⟨_, q2, _⟩ := fr1 m e b z ht he hle hr
        obtain ⟨_, q2', _⟩ := fr1 m' e' b z' ht' he' hle' hr'
        exact hs.inv.inj m m' b z z' ⟨e, q2, hle⟩ ⟨e', q2', hle'⟩ hr hr'
  · intro m b z o hl hr
    cases ht : τ m with
    | some n =>
      rw [hτ m n ht] at hr
      exact hc.rep.inv.sep n b z o (liveT m n ht hl) hr
    | none =>
      rw [hτ0 m ht] at hr
      obtain ⟨e, he, hle⟩ := hl
      obtain ⟨q1, q2, q3⟩ := fr1 m e b z ht he hle hr
      cases hm : M' b o with
      | none => rfl
      | some v =>
        rcases hc.fwd.mn b o v hm with h2 | h2 | h2
        · rw [hs.inv.sep m b z o ⟨e, q2, hle⟩ hr] at h2; cases h2
        · omega
        · exact absurd h2 q1
  · intro m hg' hnx
    cases ht : τ m with
    | some n => exact absurd hg' (dom m n ht)
    | none =>
      rw [hτ0 m ht]
      refine hs.inv.dom m ?_ hnx
      cases hq : st.H.get m with
      | none => rfl
      | some e => exact absurd hg' (hg.names m (by rw [hq]; simp))
  · intro m b z hr
    cases ht : τ m with
    | some n => rw [hτ m n ht] at hr; exact hc.rep.inv.bnd n b z hr
    | none => rw [hτ0 m ht] at hr; exact Nat.lt_of_lt_of_le (hs.inv.bnd m b z hr) hc.fwd.sz
  · exact marks_sim hτ marks.1 (fun i m n hm hn => marks.2 i n m hm hn) hc.rep.marks
  · intro b hb hn
    exact hc.fwd.fr b hb fun ho => hn (h1.own ho)
  · intro b o v hm
    rcases hc.fwd.mn b o v hm with h2 | h2 | h2
    · exact .inl h2
    · exact .inr (.inl h2)
    · exact .inr (.inr (h1.own h2))
  · intro m b z hr
    cases ht : τ m with
    | none => rw [hτ0 m ht] at hr; exact .inl hr
    | some n =>
      rw [hτ m n ht] at hr
      rcases kept m n ht with ⟨k1, k2⟩ | ⟨_, k2⟩
      · rw [hc.keep n k1] at hr
        left
        simpa [thru, k2] using hr
      · rcases hc.own b ⟨n, z, k2, hr⟩ with h2 | h2
        · exact .inr (.inr (h1.own h2))
        · exact .inr (.inl h2)
  · intro m hm
    exact hτ0 m (hX0 m hm)
end
end Go.Sx
