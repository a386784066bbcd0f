/- The executor's single operations are the model's: those without memory, all; those that read. Conditions: none. -/
import Derived.Test.YtajloilpehgcmaaSxOps3
set_option linter.unusedVariables false
set_option linter.unusedSimpArgs false
set_option linter.unusedSectionVars false

namespace Go.Sx
section
variable {X : Nm → Prop} {M : Mem} {ρ : Rho} {w : World} {cx : Cx Int Bool} {H : HH}

/-- What is known of the operands. -/
def OpsRep (M : Mem) (ρ : Rho) (r : Operand → EE VV) (e : Operand → Value) : Prop := ∀ x u, Has (r x) u → Rep M ρ u (e x)

theorem opsRep_map {r : Operand → EE VV} {e : Operand → Value} (h : OpsRep M ρ r e) {l : List Operand} {vs : List VV} (hv : Has (E.map r l) vs) : RepL M ρ vs (l.map e) := by
  obtain ⟨hl, hi⟩ := has_map hv
  refine ⟨by simp [hl], fun i c v hc hv => ?_⟩
  simp only [List.getElem?_map, Option.map_eq_some_iff] at hv
  obtain ⟨x, hx, rfl⟩ := hv
  exact h x c (hi i x c hx hc)

/-- An operation that yields a value and touches nothing. -/
def Yields (P : Program) (e : Operand → Value) (o : Oper) (w : World) (M : Mem) (ρ : Rho) (v : VV) : Prop :=
  ∃ val, (execOp e o).run P w = .ok (.value val) w ∧ Rep M ρ v val

theorem yields_of {P : Program} {e : Operand → Value} {o : Oper} {v : VV} {s : Sem Value} (he : execOp e o = (do pure (Next.value (← s)))) (h : ∃ val, s.run P w = .ok val w ∧ Rep M ρ v val) :
    Yields P e o w M ρ v := by
  obtain ⟨val, h1, h2⟩ := h
  exact ⟨val, by rw [he]; simp [h1], h2⟩

theorem slc_of {t : Option TypeId} (h : isSlc cx t = true) : ∃ t' e, t = some t' ∧ cx.P.underlying t' = some (.slice e) := by
  unfold isSlc at h
  split at h
  · rename_i d hd
    cases t with
    | none => simp at hd
    | some t =>
      simp only [Option.bind_some] at hd
      split at h
      · rename_i e hk
        exact ⟨t, e, rfl, und_slc hd hk⟩
      · cases h
  · cases h

theorem pure_sound {r : Operand → EE VV} {e : Operand → Value} {o : Oper} {m : EE VV} {v : VV} (hm : pureE cx r o = some m) (hv : Has m v) (hr : OpsRep M ρ r e) :
    Yields cx.P e o w M ρ v := by
  unfold pureE at hm
  split at hm
  · -- move
    rename_i x ho
    simp only [Option.some.injEq] at hm; subst hm
    exact ⟨e x, by simp [execOp, ho], hr x v hv⟩
  · -- assign
    rename_i x ho
    simp only [Option.some.injEq] at hm; subst hm
    exact ⟨e x, by simp [execOp, ho], hr x v hv⟩
  · -- build
    rename_i t ps ho
    simp only [Option.some.injEq] at hm; subst hm
    obtain ⟨vs, h1, h2⟩ := has_bind hv
    obtain ⟨hl, hi⟩ := has_map h1
    have hp : PartsRep M ρ vs ((ps.map fun (p : Nat × Operand) => (p.1, e p.2)).toList) := by
      refine ⟨by simp [← hl], fun i p q hp hq => ?_⟩
      simp only [Array.toList_map, List.getElem?_map, Option.map_eq_some_iff] at hq
      obtain ⟨a, ha, rfl⟩ := hq
      have := hi i a p ha hp
      obtain ⟨u, hu, hu2⟩ := has_bind this
      have := has_ret.1 hu2
      subst this
      exact ⟨rfl, hr _ _ hu⟩
    have := buildE_sound (w := w) h2 hp
    refine yields_of (s := Instr.build t (ps.map fun (i, x) => (i, e x))) (by simp [execOp, ho]) ?_
    rwa [Array.toArray_toList] at this
  · -- nilCheck
    rename_i x ho
    simp only [Option.some.injEq] at hm; subst hm
    obtain ⟨u, h1, h2⟩ := has_bind hv
    have hx := hr x u h1
    generalize hex : e x = a at hx
    split at h2
    · have := has_ret.1 h2
      subst this
      refine ⟨a, ?_, hx⟩
      cases hx
      simp [execOp, ho, hex]
    · have := has_ret.1 h2
      subst this
      refine ⟨a, ?_, hx⟩
      cases hx
      simp [execOp, ho, hex]
    · have := has_ret.1 h2
      subst this
      refine ⟨a, ?_, hx⟩
      cases hx
      simp [execOp, ho, hex]
    · have := has_ret.1 h2
      subst this
      refine ⟨a, ?_, hx⟩
      cases hx
      simp [execOp, ho, hex]
    · exact absurd h2 has_fail
  · -- binOp
    rename_i op t x y yt ho
    simp only [Option.some.injEq] at hm; subst hm
    obtain ⟨u, h1, h2⟩ := has_bind hv
    obtain ⟨u', h3, h4⟩ := has_bind h2
    exact yields_of (s := do eqGuard op t x y (e x) (e y); binOp op t (e x) (e y)) (by simp [execOp, ho]) (binE_sound x y h4 (hr x u h1) (hr y u' h3))
  · -- unOp
    rename_i op t x ho
    simp only [Option.some.injEq] at hm; subst hm
    obtain ⟨u, h1, h2⟩ := has_bind hv
    exact yields_of (s := Op.unary op (e x)) (by simp [execOp, ho]) (unE_sound h2 (hr x u h1))
  · -- convert
    rename_i s d x ho
    simp only [Option.some.injEq] at hm; subst hm
    obtain ⟨u, h1, h2⟩ := has_bind hv
    exact yields_of (s := convert s d (e x)) (by simp [execOp, ho]) (convE_sound h2 (hr x u h1))
  · -- makeFunc
    rename_i f a b ho
    simp only [Option.some.injEq] at hm; subst hm
    obtain ⟨va, h1, h2⟩ := has_bind hv
    obtain ⟨vb, h3, h4⟩ := has_bind h2
    have := has_ret.1 h4
    subst this
    have ha := opsRep_map hr h1
    have hb := opsRep_map hr h3
    refine ⟨.func (.func f) (a.map e) (b.map e), by simp [execOp, ho, Instr.makeFunc], .fn _ _ _ _ _ (by simpa using ha.1) (by simpa using hb.1) (fun i c v hc hv => ha.2 i c v hc ?_) (fun i c v hc hv => hb.2 i c v hc ?_)⟩
    · rw [← hv]; simp
    · rw [← hv]; simp
  · -- fieldAddr
    rename_i t x f ho
    simp only [Option.some.injEq] at hm; subst hm
    obtain ⟨u, h1, h2⟩ := has_bind hv
    exact yields_of (s := Instr.fieldAt t (e x) f) (by simp [execOp, ho]) (fieldAddrE_sound h2 (hr x u h1))
  · -- field
    rename_i t x f ho
    simp only [Option.some.injEq] at hm; subst hm
    obtain ⟨u, h1, h2⟩ := has_bind hv
    exact yields_of (s := Instr.field t (e x) f) (by simp [execOp, ho]) (fieldE_sound h2 (hr x u h1))
  · -- index
    rename_i t x i ho
    simp only [Option.some.injEq] at hm; subst hm
    obtain ⟨u, h1, h2⟩ := has_bind hv
    obtain ⟨u', h3, h4⟩ := has_bind h2
    exact yields_of (s := Instr.index t (e x) (e i)) (by simp [execOp, ho]) (indexE_sound h4 (hr x u h1) (hr i u' h3))
  · -- extract
    rename_i x i ho
    simp only [Option.some.injEq] at hm; subst hm
    obtain ⟨u, h1, h2⟩ := has_bind hv
    have hx := hr x u h1
    generalize hex : e x = a at hx
    split at h2
    · have h2 := has_opt.1 h2
      cases hx with
      | tup _ vs hl hh =>
        obtain ⟨val, hval⟩ : ∃ val, vs[i]? = some val := by
          have := (List.getElem?_eq_some_iff.1 h2).1
          exact ⟨vs[i], Array.getElem?_eq_getElem (by omega)⟩
        refine ⟨val, ?_, hh i v val h2 hval⟩
        simp [execOp, ho, hex, Instr.extract, hval]
    · exact absurd h2 has_fail
  · -- sliceToArrayPointer
    rename_i t x ho
    simp only [Option.some.injEq] at hm; subst hm
    obtain ⟨d, h0, h2⟩ := has_bind hv
    obtain ⟨u, h1, h3⟩ := has_bind h2
    have h0 := has_opt.1 h0
    have hx := hr x u h1
    generalize hex : e x = a at hx
    split at h3
    · rename_i n el nm off sz s len hk
      obtain ⟨l, h4, h5⟩ := has_bind h3
      have h4 := knownNat_some (has_opt.1 h4)
      rcases has_if h5 with ⟨hc, h6⟩ | ⟨_, h6⟩
      · have := has_ret.1 h6
        subst this
        cases hx with
        | osl _ _ _ _ _ b z k c o' hρ hn hc' ho' =>
          have hkl : k = l := by omega
          subst hkl
          have ho2 := (ho' (by omega)).1
          rw [ho2] at hex
          refine yields_of (s := Instr.arrayAt t (e x)) (by simp [execOp, ho]) ⟨.pointer (some ⟨b, off, none⟩), ?_, ?_⟩
          · rw [hex]
            simp only [Instr.arrayAt, Sem.run_bind, run_und (und_arr h0 hk), Result.andThen_ok]
            rw [if_neg (by omega)]
            rfl
          · have := Rep.ptr (M := M) nm false ((off : Nat) : Int) b z hρ (by omega)
            simpa using this
      · exact absurd h6 has_fail
    · exact absurd h3 has_fail
  · -- len
    rename_i args argTypes ho
    simp only [Option.some.injEq] at hm; subst hm
    split at hv
    · rename_i x hargs hs
      obtain ⟨u, h1, h2⟩ := has_bind hv
      have hx := hr x u h1
      obtain ⟨t, el, ht, hu⟩ := slc_of hs
      have hrun : ∀ (a : Option Addr) (n c : Nat), e x = .slice a n c → (execOp e o).run cx.P w = .ok (.value (.int .i64 n)) w := by
        intro a n c hex
        have hargs' : (args.map e)[0]? = some (.slice a n c) := by
          have : args[0]? = some x := by rw [← Array.getElem?_toList, hargs]; rfl
          simp [this, hex]
        simp only [execOp, ho, resolve, Sem.run_bind, Sem.run_pure, Result.andThen_ok, invoke, builtin, Builtin.len_, ht, hargs', run_und hu, goInt]
      unfold lenE at h2
      split at h2
      · have := has_ret.1 h2
        subst this
        generalize hex : e x = a at hx
        cases hx with
        | osl _ _ _ _ _ b z k c o' hρ hn hc' ho' =>
          subst hn
          exact ⟨_, hrun _ _ _ hex, .int _ _ _⟩
      · have := has_ret.1 h2
        subst this
        generalize hex : e x = a at hx
        cases hx with
        | islNil _ _ _ _ _ hn =>
          subst hn
          exact ⟨_, hrun _ _ _ hex, .int _ _ _⟩
        | isl _ _ _ _ _ _ b o' c vs hn =>
          subst hn
          exact ⟨_, hrun _ _ _ hex, .int _ _ _⟩
      · exact absurd h2 has_fail
    · exact absurd hv has_fail
  · -- cap
    rename_i args argTypes ho
    simp only [Option.some.injEq] at hm; subst hm
    split at hv
    · rename_i x hargs hs
      obtain ⟨u, h1, h2⟩ := has_bind hv
      have hx := hr x u h1
      obtain ⟨t, el, ht, hu⟩ := slc_of hs
      have hrun : ∀ (a : Option Addr) (n c : Nat), e x = .slice a n c → (execOp e o).run cx.P w = .ok (.value (.int .i64 c)) w := by
        intro a n c hex
        have hargs' : (args.map e)[0]? = some (.slice a n c) := by
          have : args[0]? = some x := by rw [← Array.getElem?_toList, hargs]; rfl
          simp [this, hex]
        simp only [execOp, ho, resolve, Sem.run_bind, Sem.run_pure, Result.andThen_ok, invoke, builtin, Builtin.cap_, ht, hargs', run_und hu, goInt]
      split at h2
      · have := has_ret.1 h2
        subst this
        generalize hex : e x = a at hx
        cases hx with
        | islNil _ _ _ _ _ hn => exact ⟨_, hrun _ _ _ hex, .int _ _ _⟩
        | isl _ _ _ _ _ _ b o' c vs hn hc h0 =>
          have := h0 rfl
          subst this
          exact ⟨_, hrun _ _ _ hex, .int _ _ _⟩
      · exact absurd h2 has_fail
    · exact absurd hv has_fail
  · -- max
    rename_i args argTypes ho
    simp only [Option.some.injEq] at hm; subst hm
    obtain ⟨vs, h1, h2⟩ := has_bind hv
    obtain ⟨val, h3, h4⟩ := minmax_sound (cx := cx) (w := w) true vs _ v h2 (opsRep_map hr h1)
    refine ⟨val, ?_, h4⟩
    simp only [execOp, ho, resolve, Sem.run_bind, Sem.run_pure, Result.andThen_ok, invoke, builtin, Builtin.max_, Array.toList_map]
    simp only [if_true] at h3
    revert h3
    cases args.toList.map e with
    | nil => intro h3; simp at h3
    | cons a l => intro h3; simp only [] at h3 ⊢; rw [h3]; simp
  · -- min
    rename_i args argTypes ho
    simp only [Option.some.injEq] at hm; subst hm
    obtain ⟨vs, h1, h2⟩ := has_bind hv
    obtain ⟨val, h3, h4⟩ := minmax_sound (cx := cx) (w := w) false vs _ v h2 (opsRep_map hr h1)
    refine ⟨val, ?_, h4⟩
    simp only [execOp, ho, resolve, Sem.run_bind, Sem.run_pure, Result.andThen_ok, invoke, builtin, Builtin.min_, Array.toList_map]
    simp only [Bool.false_eq_true, if_false] at h3
    revert h3
    cases args.toList.map e with
    | nil => intro h3; simp at h3
    | cons a l => intro h3; simp only [] at h3 ⊢; rw [h3]; simp
  · cases hm
end
end Go.Sx
