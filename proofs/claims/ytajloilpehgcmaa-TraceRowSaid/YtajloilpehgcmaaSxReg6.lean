/- Regions whose order is drawn: the plain facts. Conditions: none. -/
import Derived.Test.YtajloilpehgcmaaSxReg5
set_option linter.unusedVariables false
set_option linter.unusedSimpArgs false
set_option linter.unusedSectionVars false

namespace Go.Sx
section
variable {X X' : Nm → Prop} {M M' : Mem} {ρ ρ' : Rho} {w w' : World} {cx : Cx Int Bool} {H H' H2 Hc K : HH} {F : Fence} {n : Nat} {inR : Bool}
variable {rc : Rec Int Bool} {ops : Array Oper} {px : Nm} {T : List (Nat × Bool)} {ts ts' ts1 : List VV} {o : Oper} {v : VV} {q nd : Bool} {k : Nat} {done : List Nat}

/-! ### two memories, one within the other -/
def joinH (H K : HH) : HH := { es := H.es ++ K.es, log := H.log }
theorem get_join (H K : HH) (m : Nm) : (joinH H K).get m = (H.get m).or (K.get m) := by
  unfold joinH Heap.get
  dsimp only
  induction H.es with
  | nil => simp [getEnt]
  | cons p r ih =>
    obtain ⟨a, e⟩ := p
    simp only [List.cons_append, getEnt]
    split
    · simp
    · exact ih
theorem Inv.congr (h : Inv X M ρ H w) (he : ∀ m, H'.get m = H.get m) : Inv X M ρ H' w := by
  have hl : ∀ m, Live H' m → Live H m := fun m ⟨e, h1, h2⟩ => ⟨e, by rw [← he m]; exact h1, h2⟩
  exact ⟨fun m cs s id hg => h.row m cs s id (by rw [← he m]; exact hg), fun m L hg => h.loop m L (by rw [← he m]; exact hg), fun m hg => h.dfr m (by rw [← he m]; exact hg),
    fun m m' b z z' h1 h2 => h.inj m m' b z z' (hl m h1) (hl m' h2), h.imm, fun m b z o h1 => h.sep m b z o (hl m h1), fun m hg => h.dom m (by rw [← he m]; exact hg), h.bnd⟩
theorem Ext.congr (h : Ext X H M ρ w M' ρ' w') (he : ∀ m, H'.get m = H.get m) : Ext X H' M ρ w M' ρ' w' :=
  h.weaken fun m ⟨e, h1, h2⟩ => ⟨e, by rw [he m]; exact h1, h2⟩
theorem live_sub (hs : ∀ m e, H.get m = some e → K.get m = some e) {m : Nm} (h : Live H m) : Live K m := by
  obtain ⟨e, h1, h2⟩ := h
  exact ⟨e, hs m e h1, h2⟩
/-- A part of a memory, the rest set aside. -/
theorem Inv.sub (h : Inv X M ρ K w) (hs : ∀ m e, H.get m = some e → K.get m = some e) : Inv (fun m => X m ∨ (K.get m ≠ none ∧ H.get m = none)) M ρ H w := by
  refine ⟨fun m cs s id hg => h.row m cs s id (hs m _ hg), fun m L hg => h.loop m L (hs m _ hg), fun m hg => h.dfr m (hs m _ hg),
    fun m m' b z z' h1 h2 => h.inj m m' b z z' (live_sub hs h1) (live_sub hs h2), h.imm, fun m b z o h1 => h.sep m b z o (live_sub hs h1), fun m hg hx => ?_, h.bnd⟩
  refine h.dom m ?_ fun hX => hx (.inl hX)
  cases hk : K.get m with
  | none => rfl
  | some e => exact absurd (.inr ⟨by simp [hk], hg⟩) hx
/-- What was set aside comes back. -/
theorem Inv.join (h : Inv X M ρ K w) (hs : ∀ m e, H.get m = some e → K.get m = some e) (hg : Grow H H')
    (hI : Inv (fun m => X m ∨ (K.get m ≠ none ∧ H.get m = none)) M' ρ' H' w') (hE : Ext (fun m => X m ∨ (K.get m ≠ none ∧ H.get m = none)) H M ρ w M' ρ' w')
    (hx : ∀ m, K.get m ≠ none → H.get m = none → H'.get m = none) (hX : ∀ m, X m → H'.get m = none) : Inv X M' ρ' (joinH H' K) w' ∧ Ext X K M ρ w M' ρ' w' := by
  have hj : ∀ m e, (joinH H' K).get m = some e → H'.get m = some e ∨ (H'.get m = none ∧ H.get m = none ∧ K.get m = some e) := by
    intro m e he
    rw [get_join] at he
    cases h1 : H'.get m with
    | some e' => rw [h1] at he; exact .inl (by simpa using he)
    | none =>
      rw [h1] at he
      exact .inr ⟨rfl, grow_none hg h1, by simpa using he⟩
  -- an extra row's block is nobody else's
  have apart : ∀ m b z, Live K m → H.get m = none → ρ m = some (b, z) → ¬ Own H ρ b := by
    rintro m b z hl hn hr ⟨m', z', hl', hr'⟩
    have := h.inj m m' b z z' hl (live_sub hs hl') hr hr'
    subst this
    obtain ⟨e, h1, _⟩ := hl'
    rw [hn] at h1; cases h1
  have same : ∀ m, K.get m ≠ none → H.get m = none → ρ' m = ρ m := fun m hk hn => hE.rx m (.inr ⟨hk, hn⟩)
  have heap : ∀ m b z, Live K m → H.get m = none → ρ m = some (b, z) → w'.heap[b]? = w.heap[b]? := fun m b z hl hn hr => hE.fr b (h.bnd m b z hr) (apart m b z hl hn hr)
  have livej : ∀ m, Live (joinH H' K) m → Live H' m ∨ (Live K m ∧ H.get m = none ∧ H'.get m = none) := by
    rintro m ⟨e, he, hl⟩
    rcases hj m e he with h1 | ⟨h1, h2, h3⟩
    · exact .inl ⟨e, h1, hl⟩
    · exact .inr ⟨⟨e, h3, hl⟩, h2, h1⟩
  have kn : ∀ {m}, Live K m → K.get m ≠ none := by rintro m ⟨e, h1, _⟩; simp [h1]
  refine ⟨⟨fun m cs s id he => ?_, fun m L he => ?_, fun m he => ?_, fun m m' b z z' hl hl' hr hr' => ?_, hI.imm, fun m b z o hl hr => ?_, fun m he hnX => ?_, hI.bnd⟩, ?_⟩
  · rcases hj m _ he with h1 | ⟨_, h2, h3⟩
    · exact hI.row m cs s id h1
    · obtain ⟨b, z, c, ty, r1, r2, r3, r4, r5⟩ := h.row m cs s id h3
      exact ⟨b, z, c, ty, by rw [same m (by simp [h3]) h2]; exact r1, by rw [heap m b z (live_row h3) h2 r1]; exact r2, r3, r4, row_mono hE.m hE.r r5⟩
  · rcases hj m _ he with h1 | ⟨_, h2, h3⟩
    · exact hI.loop m L h1
    · obtain ⟨b, z, r, r1, r2, r3⟩ := h.loop m L h3
      exact ⟨b, z, r, by rw [same m (by simp [h3]) h2]; exact r1, by rw [heap m b z ⟨_, h3, trivial⟩ h2 r1]; exact r2, r3.mono hE.m hE.r⟩
  · rcases hj m _ he with h1 | ⟨_, h2, h3⟩
    · exact hI.dfr m h1
    · obtain ⟨b, z, r1, r2⟩ := h.dfr m h3
      exact ⟨b, z, by rw [same m (by simp [h3]) h2]; exact r1, by rw [heap m b z ⟨_, h3, trivial⟩ h2 r1]; exact r2⟩
  · -- one block, one name
    have mixed : ∀ m m' b z z', Live H' m → Live K m' → H.get m' = none → ρ' m = some (b, z) → ρ' m' = some (b, z') → False := by
      intro m m' b z z' h1 h2 h3 r1 r2
      rw [same m' (kn h2) h3] at r2
      rcases hE.rn m b z r1 with h4 | h4 | h4
      · -- the name was there
        by_cases hm : H.get m = none
        · have hKm : K.get m = none := by
            cases hk : K.get m with
            | none => rfl
            | some e =>
              have := hx m (by simp [hk]) hm
              obtain ⟨e', h5, _⟩ := h1
              rw [this] at h5; cases h5
          by_cases hXm : X m
          · -- a name that nobody may lay
            obtain ⟨e', h5, _⟩ := h1
            rw [hX m hXm] at h5; cases h5
          · have := h.dom m hKm hXm
            rw [this] at h4; cases h4
        · rcases hg.lives m h1 with h5 | h5
          · have := h.inj m m' b z z' (live_sub hs h5) h2 h4 r2
            subst this
            exact hm h3
          · exact hm h5
      · have := h.bnd m' b z' r2; omega
      · exact apart m' b z' h2 h3 r2 h4
    rcases livej m hl with h1 | ⟨h1, h2, _⟩ <;> rcases livej m' hl' with h3 | ⟨h3, h4, _⟩
    · exact hI.inj m m' b z z' h1 h3 hr hr'
    · exact (mixed m m' b z z' h1 h3 h4 hr hr').elim
    · exact (mixed m' m b z' z h3 h1 h2 hr' hr).elim
    · rw [same m (kn h1) h2] at hr
      rw [same m' (kn h3) h4] at hr'
      exact h.inj m m' b z z' h1 h3 hr hr'
  · rcases livej m hl with h1 | ⟨h1, h2, _⟩
    · exact hI.sep m b z o h1 hr
    · rw [same m (kn h1) h2] at hr
      cases hm : M' b o with
      | none => rfl
      | some v =>
        rcases hE.mn b o v hm with h3 | h3 | h3
        · rw [h.sep m b z o h1 hr] at h3; cases h3
        · have := h.bnd m b z hr; omega
        · exact absurd h3 (apart m b z h1 h2 hr)
  · rw [get_join] at he
    simp only [Option.or_eq_none_iff] at he
    refine hI.dom m he.1 ?_
    rintro (h1 | ⟨h1, _⟩)
    · exact hnX h1
    · exact h1 he.2
  · refine ⟨hE.m, hE.r, hE.sz, fun b hb ho => hE.fr b hb fun ⟨m, z, h1, h2⟩ => ho ⟨m, z, live_sub hs h1, h2⟩, fun b o v hm => (hE.mn b o v hm).imp id (Or.imp id fun ⟨m, z, h1, h2⟩ => ⟨m, z, live_sub hs h1, h2⟩),
      fun m b z hr => (hE.rn m b z hr).imp id (Or.imp id fun ⟨m, z, h1, h2⟩ => ⟨m, z, live_sub hs h1, h2⟩), (fun m hXm => hE.rx m (.inl hXm)), hE.st⟩
end
end Go.Sx
