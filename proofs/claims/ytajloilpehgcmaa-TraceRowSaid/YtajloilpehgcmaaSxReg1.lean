/- Regions: what operations read and write, seen from outside. Conditions: none. -/
import Derived.Test.YtajloilpehgcmaaSxOps9
import Derived.OrdersIn
set_option linter.unusedVariables false
set_option linter.unusedSimpArgs false
set_option linter.unusedSectionVars false

namespace Go.Sx
section
variable {X : Nm → Prop} {M : Mem} {ρ ρ' : Rho} {w w' : World} {cx : Cx Int Bool} {H H' H2 : HH}

theorem emap_congr {α β : Type} {f g : α → EE β} : ∀ {l : List α}, (∀ x ∈ l, f x = g x) → E.map f l = E.map g l
  | [], _ => rfl
  | x :: l, h => by
    unfold E.map
    rw [h x (by simp), emap_congr (l := l) fun y hy => h y (by simp [hy])]
theorem eoptM_congr {α β : Type} {f g : α → EE β} {o : Option α} (h : ∀ x, o = some x → f x = g x) : E.optM f o = E.optM g o := by
  cases o with
  | none => rfl
  | some x => simp only [E.optM, h x rfl]

theorem pureE_congr {r r' : Operand → EE VV} (o : Oper) (h : ∀ x ∈ o.op.operands.toList, r x = r' x) : pureE cx r o = pureE cx r' o := by
  have args : ∀ (f : Callee) (as : Array Operand) (ts : Array TypeId), o.op = .call { callee := f, args := as, argTypes := ts } → ∀ x ∈ as.toList, r x = r' x := by
    intro f as ts ho x hx
    exact h x (by rw [ho]; cases f <;> simp [Op.operands, Call.operands] <;> simp_all)
  have parts : ∀ (ps : Array (Nat × Operand)), o.op.operands = (ps.toList.map (·.2)).toArray → E.map (fun (p : Nat × Operand) => (do .ret (p.1, ← r p.2) : EE (Nat × VV))) ps.toList = E.map (fun (p : Nat × Operand) => (do .ret (p.1, ← r' p.2) : EE (Nat × VV))) ps.toList := by
    intro ps ho
    refine emap_congr fun p hp => ?_
    rw [h p.2 (by rw [ho]; simp; exact ⟨p.1, by simpa using hp⟩)]
  unfold pureE
  split
  case h_3 t ps ho => rw [parts ps (by rw [ho]; rfl)]
  case h_8 f a b ho =>
    rw [emap_congr (l := a.toList) fun x hx => h x (by rw [ho]; simp [Op.operands]; exact .inl (by simpa using hx)), emap_congr (l := b.toList) fun x hx => h x (by rw [ho]; simp [Op.operands]; exact .inr (by simpa using hx))]
  case h_14 as ts ho =>
    have := args _ _ _ ho
    congr 1
    split
    · rename_i x h1 h2
      rw [this x (by rw [h1]; simp)]
    · rfl
  case h_15 as ts ho =>
    have := args _ _ _ ho
    congr 1
    split
    · rename_i x h1 h2
      rw [this x (by rw [h1]; simp)]
    · rfl
  case h_16 as ts ho => rw [emap_congr (args _ _ _ ho)]
  case h_17 as ts ho => rw [emap_congr (args _ _ _ ho)]
  all_goals first
    | rfl
    | (rename_i ho; simp only [ho, Op.operands] at h; simp_all; done)

theorem readE_congr {r r' : Operand → EE VV} (o : Oper) (h : ∀ x ∈ o.op.operands.toList, r x = r' x) : readE cx H r o = readE cx H r' o := by
  unfold readE
  split
  case h_1 t a ho => rw [h a (by rw [ho]; simp [Op.operands])]
  case h_2 t x i ho => rw [h x (by rw [ho]; simp [Op.operands]), h i (by rw [ho]; simp [Op.operands])]
  case h_3 t x lo hi mx ho =>
    have hlo : E.optM r lo = E.optM r' lo := eoptM_congr fun y hy => h y (by rw [ho, hy]; simp [Op.operands])
    have hhi : E.optM r hi = E.optM r' hi := eoptM_congr fun y hy => h y (by rw [ho, hy]; simp [Op.operands])
    have hmx : E.optM r mx = E.optM r' mx := eoptM_congr fun y hy => h y (by rw [ho, hy]; simp [Op.operands])
    rw [h x (by rw [ho]; simp [Op.operands]), hlo, hhi, hmx]
  case h_4 => rfl

theorem newE_congr {nm : Nm} {r r' : Operand → EE VV} (o : Oper) (h : ∀ x ∈ o.op.operands.toList, r x = r' x) : newE cx H nm r o = newE cx H nm r' o := by
  unfold newE
  split
  case h_1 => rfl
  case h_2 t x ho => rw [h x (by rw [ho]; simp [Op.operands])]
  case h_3 t n ps ho =>
    have : E.map (fun (p : Nat × Operand) => (do .ret (p.1, ← r p.2) : EE (Nat × VV))) ps.toList = E.map (fun (p : Nat × Operand) => (do .ret (p.1, ← r' p.2) : EE (Nat × VV))) ps.toList := by
      refine emap_congr fun p hp => ?_
      rw [h p.2 (by rw [ho]; simp [Op.operands]; exact ⟨p.1, by simpa using hp⟩)]
    rw [this]
  case h_4 t l c ho => rw [h l (by rw [ho]; simp [Op.operands]), h c (by rw [ho]; simp [Op.operands])]
  case h_5 => rfl

theorem writeE_congr {nm : Nm} {r r' : Operand → EE VV} (o : Oper) (h : ∀ x ∈ o.op.operands.toList, r x = r' x) : writeE cx H nm r o = writeE cx H nm r' o := by
  have args : ∀ (f : Callee) (as : Array Operand) (ts : Array TypeId), o.op = .call { callee := f, args := as, argTypes := ts } → ∀ x ∈ as.toList, r x = r' x := by
    intro f as ts ho x hx
    exact h x (by rw [ho]; cases f <;> simp [Op.operands, Call.operands] <;> simp_all)
  unfold writeE
  split
  case h_1 t a x ho => rw [h a (by rw [ho]; simp [Op.operands]), h x (by rw [ho]; simp [Op.operands])]
  case h_2 as ts ho =>
    have := args _ _ _ ho
    congr 1
    split
    · rename_i s x st h1 h2
      rw [this s (by rw [h1]; simp), this x (by rw [h1]; simp)]
    · rfl
  case h_3 as ts ho =>
    have := args _ _ _ ho
    congr 1
    split
    · rename_i s st h1 h2
      rw [this s (by rw [h1]; simp)]
    · rfl
  case h_4 => rfl

/-! ### what is laid and written -/
theorem new_shape {nm : Nm} {r : Operand → EE VV} {o : Oper} {m : EE (VV × HH)} {v : VV} (hm : newE cx H nm r o = some m) (hv : Has m (v, H')) :
    H.get nm = none ∧ ∃ cs s id, H' = H.new nm (.row cs s id) := by
  have fin : ∀ {e : Ent Int Bool} {v' : VV} {s : String} {c : Prop} [Decidable c], (∃ cs s id, e = .row cs s id) →
      Has (if c then (do let H1 ← fresh H nm e; E.ret (v', H1)) else E.fail s : EE (VV × HH)) (v, H') → H.get nm = none ∧ ∃ cs s id, H' = H.new nm (.row cs s id) := by
    rintro e v' s c _ ⟨cs, b, id, rfl⟩ h
    rcases has_if h with ⟨_, h5⟩ | ⟨_, h5⟩
    · obtain ⟨H1, h6, h7⟩ := has_bind h5
      obtain ⟨h6', rfl⟩ := has_fresh h6
      have := has_ret.1 h7
      simp only [Prod.mk.injEq] at this
      obtain ⟨_, rfl⟩ := this
      exact ⟨h6', _, _, _, rfl⟩
    · exact absurd h5 has_fail
  unfold newE at hm
  split at hm
  · simp only [Option.some.injEq] at hm; subst hm
    obtain ⟨d, h1, h2⟩ := has_bind hv
    obtain ⟨zs, h3, h4⟩ := has_bind h2
    exact fin ⟨_, _, _, rfl⟩ h4
  · simp only [Option.some.injEq] at hm; subst hm
    obtain ⟨d, h1, h2⟩ := has_bind hv
    obtain ⟨u, h3, h4⟩ := has_bind h2
    exact fin ⟨_, _, _, rfl⟩ h4
  · simp only [Option.some.injEq] at hm; subst hm
    obtain ⟨d, h1, h2⟩ := has_bind hv
    split at h2
    · obtain ⟨ed, h3, h4⟩ := has_bind h2
      obtain ⟨zs, h5, h6⟩ := has_bind h4
      obtain ⟨vs, h7, h8⟩ := has_bind h6
      rcases has_if h8 with ⟨_, h9⟩ | ⟨_, h9⟩
      · obtain ⟨cs, h10, h11⟩ := has_bind h9
        exact fin (c := True) (s := "") ⟨_, _, _, rfl⟩ (by rw [if_pos trivial]; exact h11)
      · exact absurd h9 has_fail
    · exact absurd h2 has_fail
  · simp only [Option.some.injEq] at hm; subst hm
    obtain ⟨d, h1, h2⟩ := has_bind hv
    obtain ⟨ul, hl, h2a⟩ := has_bind h2
    obtain ⟨uc, hc, h2b⟩ := has_bind h2a
    clear h2 h2a hv
    split at h2b
    · obtain ⟨ed, h3, h4⟩ := has_bind h2b
      obtain ⟨zs, h5, h6⟩ := has_bind h4
      obtain ⟨_, h7, h8⟩ := has_bind h6
      obtain ⟨_, h9, h10⟩ := has_bind h8
      exact fin ⟨_, _, _, rfl⟩ h10
    · exact absurd h2b has_fail
  · cases hm

theorem grow_fresh {n m : Nm} {x : Ent Int Bool} (hl : Live H n) (hf : Has (fresh (H.upd n .dead) m x) H') : Grow H H' := by
  obtain ⟨h, rfl⟩ := has_fresh hf
  exact (Grow.upd hl).trans (Grow.new h)
theorem fresh_grow {m : Nm} {x : Ent Int Bool} (hf : Has (fresh H m x) H') : Grow H H' := by
  obtain ⟨h, rfl⟩ := has_fresh hf
  exact Grow.new h

theorem write_grow {nm : Nm} {r : Operand → EE VV} {o : Oper} {m : EE (VV × HH)} {v : VV} (hm : writeE cx H nm r o = some m) (hv : Has m (v, H')) : Grow H H' := by
  have pr : ∀ {v' : VV} {m : EE HH}, Has (do let H1 ← m; E.ret (v', H1) : EE (VV × HH)) (v, H') → Has m H' := by
    intro v' m h
    obtain ⟨H1, h1, h2⟩ := has_bind h
    have := has_ret.1 h2
    simp only [Prod.mk.injEq] at this
    obtain ⟨_, rfl⟩ := this
    exact h1
  unfold writeE at hm
  split at hm
  · -- store
    simp only [Option.some.injEq] at hm; subst hm
    obtain ⟨va, h1, h2⟩ := has_bind hv
    obtain ⟨vx, h3, h4⟩ := has_bind h2
    have h5 := pr h4
    unfold storeE at h5
    obtain ⟨d, h6, h7⟩ := has_bind h5
    obtain ⟨vs, h8, h9⟩ := has_bind h7
    rcases has_if h9 with ⟨_, h10⟩ | ⟨_, h10⟩
    · split at h10
      · obtain ⟨⟨cs, rs, id⟩, h11, h12⟩ := has_bind h10
        replace h11 := has_liveRow h11
        dsimp only at h12
        obtain ⟨new, h13, h14⟩ := has_bind h12
        have := has_ret.1 h14
        subst this
        exact .upd (live_row h11)
      · exact absurd h10 has_fail
    · exact absurd h10 has_fail
  · -- append
    simp only [Option.some.injEq] at hm; subst hm
    split at hv
    · obtain ⟨vs, h1, h2⟩ := has_bind hv
      obtain ⟨vx, h3, h4⟩ := has_bind h2
      clear hv h2
      unfold appendE at h4
      obtain ⟨d, h5, h6⟩ := has_bind h4
      split at h6
      · obtain ⟨ed, h7, h8⟩ := has_bind h6
        rcases has_if h8 with ⟨_, h9⟩ | ⟨_, h9⟩
        · exact absurd h9 has_fail
        · split at h9
          · unfold appendMake at h9
            obtain ⟨xd, h10, h11⟩ := has_bind h9
            obtain ⟨zs, h12, h13⟩ := has_bind h11
            split at h13
            · obtain ⟨k, h14, h15⟩ := has_bind h13
              rcases has_if h15 with ⟨_, h16⟩ | ⟨_, h16⟩
              · exact fresh_grow (pr h16)
              · exact absurd h16 has_fail
            · exact absurd h13 has_fail
          · rcases has_if h9 with ⟨_, h10⟩ | ⟨_, h10⟩
            · exact absurd h10 has_fail
            · obtain ⟨⟨vs', vo, sx, lx⟩, h11, h12⟩ := has_bind h10
              dsimp only at h12
              rcases has_if h12 with ⟨_, h13⟩ | ⟨_, h13⟩
              · exact absurd h13 has_fail
              · obtain ⟨_, _, h14⟩ := has_bind h13
                unfold appendTo at h14
                split at h14
                · rcases has_if h14 with ⟨_, h15⟩ | ⟨_, h15⟩
                  · unfold appendNil at h15
                    split at h15
                    · have := has_ret.1 h15
                      simp only [Prod.mk.injEq] at this
                      obtain ⟨_, rfl⟩ := this
                      exact .refl _
                    · obtain ⟨_, _, h16⟩ := has_bind h15
                      exact fresh_grow (pr h16)
                    · obtain ⟨_, _, h16⟩ := has_bind h15
                      obtain ⟨_, _, h17⟩ := has_bind h16
                      exact fresh_grow (pr h17)
                  · exact absurd h15 has_fail
                · rcases has_if h14 with ⟨_, h15⟩ | ⟨_, h15⟩
                  · unfold appendOwn at h15
                    obtain ⟨⟨cs, rs, id⟩, h16, h17⟩ := has_bind h15
                    replace h16 := has_liveRow h16
                    dsimp only at h16 h17
                    obtain ⟨_, _, h18⟩ := has_bind h17
                    obtain ⟨_, _, h19⟩ := has_bind h18
                    clear h15 h17 h18
                    split at h19
                    · rcases has_if h19 with ⟨_, h20⟩ | ⟨_, h20⟩
                      · exact grow_fresh (live_row h16) (pr h20)
                      · exact absurd h20 has_fail
                    · obtain ⟨_, _, h20⟩ := has_bind h19
                      exact grow_fresh (live_row h16) (pr h20)
                  · exact absurd h15 has_fail
                · exact absurd h14 has_fail
          · exact absurd h9 has_fail
      · exact absurd h6 has_fail
    · exact absurd hv has_fail
  · -- clear
    simp only [Option.some.injEq] at hm; subst hm
    split at hv
    · obtain ⟨d, h1, h2⟩ := has_bind hv
      obtain ⟨u, h3, h4⟩ := has_bind h2
      clear hv h2
      split at h4
      · obtain ⟨ed, h5, h6⟩ := has_bind h4
        obtain ⟨zs, h7, h8⟩ := has_bind h6
        obtain ⟨n, h9, h10⟩ := has_bind h8
        obtain ⟨⟨cs, rs, id⟩, h11, h12⟩ := has_bind h10
        replace h11 := has_liveRow h11
        dsimp only at h11 h12
        rcases has_if h12 with ⟨_, h13⟩ | ⟨_, h13⟩
        · have := has_ret.1 h13
          simp only [Prod.mk.injEq] at this
          obtain ⟨_, rfl⟩ := this
          exact .upd (live_row h11)
        · exact absurd h13 has_fail
      · exact absurd h4 has_fail
    · exact absurd hv has_fail
  · cases hm
end
end Go.Sx
