/- The executor's single operations are the model's: those that lay or write memory. Conditions: none. -/
import Derived.Test.YtajloilpehgcmaaSxOps5
set_option linter.unusedVariables false
set_option linter.unusedSimpArgs false
set_option linter.unusedSectionVars false

namespace Go.Sx
section
variable {X : Nm → Prop} {M : Mem} {ρ : Rho} {w w' : World} {cx : Cx Int Bool} {H H' : HH}

theorem upd_live {n m : Nm} {e : Ent Int Bool} (hn : Live H n) (h : Live (H.upd n e) m) : Live H m := by
  obtain ⟨x, hx, hl⟩ := h
  have h0 : H.get n ≠ none := by obtain ⟨y, hy, _⟩ := hn; simp [hy]
  rw [get_upd _ _ _ _ h0] at hx
  split at hx
  · rename_i hq; subst hq; exact hn
  · exact ⟨x, hx, hl⟩

theorem live_thawed (hI : Inv X M ρ H w) {n : Nm} {b z : Nat} (hl : Live H n) (hr : ρ n = some (b, z)) : ∃ o, w.heap[b]? = some o ∧ thawed o := by
  obtain ⟨e, he, hl⟩ := hl
  cases e with
  | row cs s id =>
    obtain ⟨b', z', c, ty, h1, h2, _⟩ := hI.row n cs s id he
    rw [hr] at h1
    simp only [Option.some.injEq, Prod.mk.injEq] at h1
    obtain ⟨rfl, rfl⟩ := h1
    exact ⟨_, h2, rfl⟩
  | loop L =>
    obtain ⟨b', z', r, h1, h2, _⟩ := hI.loop n L he
    rw [hr] at h1
    simp only [Option.some.injEq, Prod.mk.injEq] at h1
    obtain ⟨rfl, rfl⟩ := h1
    exact ⟨_, h2, trivial⟩
  | dfr =>
    obtain ⟨b', z', h1, h2⟩ := hI.dfr n he
    rw [hr] at h1
    simp only [Option.some.injEq, Prod.mk.injEq] at h1
    obtain ⟨rfl, rfl⟩ := h1
    exact ⟨_, h2, trivial⟩
  | dead => exact hl.elim
/-- Another content of a block of ours. -/
theorem Inv.set (hI : Inv X M ρ H w) {n : Nm} {e : Ent Int Bool} {b z : Nat} {o : Obj} (hn : Live H n) (hr : ρ n = some (b, z))
    (hk : ∀ b', b' ≠ b → w'.heap[b']? = w.heap[b']?) (hb : w'.heap[b]? = some o) (hsz : w'.heap.size = w.heap.size)
    (hrow : ∀ cs s id, e = .row cs s id → ∃ c ty, o = .cells c ty (0, 0) ∧ c.size = z ∧ cs.length ≤ z ∧
      ∀ (i : Nat) (x : VV) (v : Value), cs[i]? = some x → c[i]? = some v → Rep M ρ x v)
    (hloop : ∀ L, e = .loop L → ∃ r, o = .loop r ∧ LoopRep M ρ L r) (hdfr : e = .dfr → o = .deferred (some [])) (h1s : w'.os = w.os) (h2s : w'.output = w.output) (hos : thawed o) :
    Inv X M ρ (H.upd n e) w' ∧ Ext X H M ρ w M ρ w' := by
  have h0 : H.get n ≠ none := by obtain ⟨y, hy, _⟩ := hn; simp [hy]
  have hother : ∀ m b' z', Live H m → ρ m = some (b', z') → m ≠ n → b' ≠ b := by
    rintro m b' z' hm hr' hne rfl
    exact hne (hI.inj m n b' z' z hm hn hr' hr)
  have hgm : ∀ m, m ≠ n → (H.upd n e).get m = H.get m := fun m hm => by rw [get_upd _ _ _ _ h0, if_neg hm]
  have hgn : (H.upd n e).get n = some e := by rw [get_upd _ _ _ _ h0, if_pos rfl]
  refine ⟨⟨fun m cs s id hg => ?_, fun m L hg => ?_, fun m hg => ?_, fun m m' b1 z1 z2 hl hl' hr1 hr2 => hI.inj m m' b1 z1 z2 (upd_live hn hl) (upd_live hn hl') hr1 hr2, fun b' o' v hm => ?_,
      fun m b' z' o' hl hr' => hI.sep m b' z' o' (upd_live hn hl) hr', fun m hg hX => ?_, fun m b' z' hr' => by rw [hsz]; exact hI.bnd m b' z' hr'⟩,
    ⟨.refl _, .refl _, by omega, fun b' _ ho => hk b' ?_, fun _ _ _ h => .inl h, fun _ _ _ h => .inl h, fun _ _ => rfl, ?_⟩⟩
  · by_cases hm : m = n
    · subst hm
      rw [hgn] at hg
      simp only [Option.some.injEq] at hg
      obtain ⟨c, ty, rfl, h1, h2, h3⟩ := hrow cs s id hg
      exact ⟨b, z, c, ty, hr, hb, h1, h2, h3⟩
    · rw [hgm m hm] at hg
      obtain ⟨b', z', c, ty, h1, h2, h3⟩ := hI.row m cs s id hg
      exact ⟨b', z', c, ty, h1, by rw [hk b' (hother m b' z' (live_row hg) h1 hm)]; exact h2, h3⟩
  · by_cases hm : m = n
    · subst hm
      rw [hgn] at hg
      simp only [Option.some.injEq] at hg
      obtain ⟨r, rfl, h1⟩ := hloop L hg
      exact ⟨b, z, r, hr, hb, h1⟩
    · rw [hgm m hm] at hg
      obtain ⟨b', z', r, h1, h2, h3⟩ := hI.loop m L hg
      exact ⟨b', z', r, h1, by rw [hk b' (hother m b' z' ⟨_, hg, trivial⟩ h1 hm)]; exact h2, h3⟩
  · by_cases hm : m = n
    · subst hm
      rw [hgn] at hg
      simp only [Option.some.injEq] at hg
      exact ⟨b, z, hr, by rw [hb, hdfr hg]⟩
    · rw [hgm m hm] at hg
      obtain ⟨b', z', h1, h2⟩ := hI.dfr m hg
      exact ⟨b', z', h1, by rw [hk b' (hother m b' z' ⟨_, hg, trivial⟩ h1 hm)]; exact h2⟩
  · have hb' : b' ≠ b := by
      rintro rfl
      rw [hI.sep n b' z o' hn hr] at hm; cases hm
    rw [cell?_heap (hk b' hb')]; exact hI.imm b' o' v hm
  · by_cases hm : m = n
    · subst hm; rw [hgn] at hg; cases hg
    · rw [hgm m hm] at hg; exact hI.dom m hg hX
  · rintro rfl
    exact ho ⟨n, z, hn, hr⟩
  · obtain ⟨o0, q1, q2⟩ := live_thawed hI hn hr
    exact .set hk hb q1 h1s h2s q2 hos

/-- A block that was ours goes by a new name. -/
theorem Inv.adopt (hI : Inv X M ρ H w) {n : Nm} {cs : List VV} {s : Bool} {id b z : Nat} {c : Array Value} {ty : TypeId} (hn : H.get n = none) (hX : ¬ X n) (hb : w.heap[b]? = some (.cells c ty (0, 0)))
    (hz : c.size = z) (hl : cs.length ≤ z) (hc : ∀ (i : Nat) (x : VV) (v : Value), cs[i]? = some x → c[i]? = some v → Rep M ρ x v) (ho : ¬ Own H ρ b) (hM : ∀ o, M b o = none) :
    Inv X M (ρ.put n (b, z)) (H.new n (.row cs s id)) w := by
  have hρ : ρ n = none := hI.dom n hn hX
  have hR : RLe ρ (ρ.put n (b, z)) := RLe.put hρ
  have hput : ∀ m, m ≠ n → (ρ.put n (b, z)) m = ρ m := fun m hm => by simp [Rho.put, hm]
  have hpn : (ρ.put n (b, z)) n = some (b, z) := by simp [Rho.put]
  have hlive : ∀ m, m ≠ n → Live (H.new n (.row cs s id)) m → Live H m := by
    rintro m hm ⟨x, hx, hl⟩
    rw [get_new, if_neg hm] at hx
    exact ⟨x, hx, hl⟩
  refine ⟨fun m cs' s' id' hg => ?_, fun m L hg => ?_, fun m hg => ?_, fun m m' b1 z1 z2 hl hl' hr hr' => ?_, hI.imm, fun m b' z' o' hl hr => ?_, fun m hg hx => ?_, fun m b' z' hr => ?_⟩
  · rw [get_new] at hg
    split at hg
    · rename_i hm
      subst hm
      simp only [Option.some.injEq, Ent.row.injEq] at hg
      obtain ⟨rfl, rfl, rfl⟩ := hg
      exact ⟨b, z, c, ty, hpn, hb, hz, hl, row_mono (.refl _) hR hc⟩
    · rename_i hm
      obtain ⟨b', z', c', ty', h1, h2, h3, h4, h5⟩ := hI.row m cs' s' id' hg
      exact ⟨b', z', c', ty', by rw [hput m hm]; exact h1, h2, h3, h4, row_mono (.refl _) hR h5⟩
  · rw [get_new] at hg
    split at hg
    · cases hg
    · rename_i hm
      obtain ⟨b', z', r, h1, h2, h3⟩ := hI.loop m L hg
      exact ⟨b', z', r, by rw [hput m hm]; exact h1, h2, h3.mono (.refl _) hR⟩
  · rw [get_new] at hg
    split at hg
    · cases hg
    · rename_i hm
      obtain ⟨b', z', h1, h2⟩ := hI.dfr m hg
      exact ⟨b', z', by rw [hput m hm]; exact h1, h2⟩
  · by_cases hm : m = n <;> by_cases hm' : m' = n
    · rw [hm, hm']
    · subst hm
      rw [hpn] at hr
      rw [hput m' hm'] at hr'
      simp only [Option.some.injEq, Prod.mk.injEq] at hr
      obtain ⟨rfl, rfl⟩ := hr
      exact absurd ⟨m', z2, hlive m' hm' hl', hr'⟩ ho
    · subst hm'
      rw [hpn] at hr'
      rw [hput m hm] at hr
      simp only [Option.some.injEq, Prod.mk.injEq] at hr'
      obtain ⟨rfl, rfl⟩ := hr'
      exact absurd ⟨m, z1, hlive m hm hl, hr⟩ ho
    · rw [hput m hm] at hr
      rw [hput m' hm'] at hr'
      exact hI.inj m m' b1 z1 z2 (hlive m hm hl) (hlive m' hm' hl') hr hr'
  · by_cases hm : m = n
    · subst hm
      rw [hpn] at hr
      simp only [Option.some.injEq, Prod.mk.injEq] at hr
      obtain ⟨rfl, rfl⟩ := hr
      exact hM o'
    · rw [hput m hm] at hr
      exact hI.sep m b' z' o' (hlive m hm hl) hr
  · rw [get_new] at hg
    split at hg
    · cases hg
    · rename_i hm
      rw [hput m hm]; exact hI.dom m hg hx
  · by_cases hm : m = n
    · subst hm
      rw [hpn] at hr
      simp only [Option.some.injEq, Prod.mk.injEq] at hr
      obtain ⟨rfl, rfl⟩ := hr
      exact (Array.getElem?_eq_some_iff.1 hb).1
    · rw [hput m hm] at hr
      exact hI.bnd m b' z' hr

/-- What an operation does, memory and all. -/
def Does (X : Nm → Prop) (M : Mem) (ρ : Rho) (H : HH) (w : World) (r : Result Next) (v : VV) (H' : HH) : Prop :=
  ∃ val ρ' w', (r = .ok (.value val) w' ∨ (r = .ok .skip w' ∧ val = undef)) ∧ Rep M ρ' v val ∧ Inv X M ρ' H' w' ∧ Ext X H M ρ w M ρ' w'

theorem repL_row {cs : List VV} {c : List Value} (h : RepL M ρ cs c) : ∀ (i : Nat) (x : VV) (v : Value), cs[i]? = some x → c.toArray[i]? = some v → Rep M ρ x v :=
  fun i x v hx hv => h.2 i x v hx (by simpa using hv)

/-- A new row. -/
theorem newRow_does (hI : Inv X M ρ H w) {nm : Nm} {cs : List VV} {s : Bool} {id : Nat} {c : Array Value} {ty : TypeId} {v : VV} {f : Nat → Value}
    (hn : H.get nm = none) (hX : ¬ X nm) (hc : RepL M ρ cs c.toList) (hv : Rep M (ρ.put nm (w.heap.size, c.size)) v (f w.heap.size)) (w' : World) (hw : w'.heap = w.heap) (hw1 : w'.os = w.os) (hw2 : w'.output = w.output) :
    Does X M ρ H w (.ok (.value (f w.heap.size)) (w'.alloc (.cells c ty))) v (H.new nm (.row cs s id)) := by
  have := hI.alloc (n := nm) (e := .row cs s id) (o := .cells c ty) (z := c.size) (w' := w'.alloc (.cells c ty)) hn hX
    (fun cs' s' id' he => by
      simp only [Ent.row.injEq] at he
      obtain ⟨rfl, rfl, rfl⟩ := he
      exact ⟨c, ty, rfl, rfl, by rw [hc.1]; simp, fun i x v hx hv => hc.2 i x v hx (by simpa using hv)⟩)
    (fun L he => by cases he) (fun he => by cases he) (by simp [World.alloc, hw]) (by simp [World.alloc, hw1]) (by simp [World.alloc, hw2]) rfl
  exact ⟨_, _, _, .inl rfl, hv, this.1, this.2⟩

theorem rep_newPtr (nm : Nm) (b z : Nat) : Rep M (ρ.put nm (b, z)) (.ptr nm false 0) (.pointer (some ⟨b, 0, none⟩)) := by
  have := rep_ptr_nat (M := M) (ρ := ρ.put nm (b, z)) (nm := nm) (b := b) (z := z) false 0 (by simp [Rho.put])
  simpa using this

theorem notX (hx : ∀ n, X n → H'.get n = none) {nm : Nm} {e : Ent Int Bool} (h : H'.get nm = some e) : ¬ X nm := fun hX => by
  rw [hx nm hX] at h; cases h

theorem opn_rep {v : VV} {x : Value} (h : Rep M ρ v x) : Rep M ρ (opn v) x := by
  cases h with
  | int k s n => exact .int _ _ _
  | bool s b => exact .bool _ _
  | agg cs vs hl h => exact .agg cs vs hl h
  | tup cs vs hl h => exact .tup cs vs hl h
  | ptr nm s off b z hr h0 => exact .ptr nm s off b z hr h0
  | nil => exact .nil
  | osl nm off sz s len b z n c o hr hn hc ho => exact .osl nm off sz s len b z n c o hr hn hc ho
  | islNil id sz s c0 len hn => exact .islNil id sz s c0 len hn
  | isl id sz s len es c0 b o c vs hn hc h0 hsz hm h => exact .isl id sz s len es c0 b o c vs hn hc h0 hsz hm h
  | eptr cs b o vs hm h => exact .eptr cs b o vs hm h
  | fn f first cap vf vc hl hl' h h' => exact .fn f first cap vf vc hl hl' h h'
  | yld nm l z hr => exact .yld nm l z hr
  | nilfn => exact .nilfn
  | may _ _ _ _ h1 h0 => exact .may _ _ _ _ h1 h0
  | undef => exact .undef
  | top => exact .top _
  | raw => exact .raw _
theorem opn_one {v : VV} (h : oneCell v = true) : oneCell (opn v) = true := by cases v <;> first | exact h | rfl
theorem opnL_rep {vs : List VV} {xs : List Value} (h : RepL M ρ vs xs) : RepL M ρ (vs.map opn) xs :=
  ⟨by simpa using h.1, fun i c v hc hv => by
    rw [List.getElem?_map, Option.map_eq_some_iff] at hc
    obtain ⟨u, hu, rfl⟩ := hc
    exact opn_rep (h.2 i u v hu hv)⟩
theorem opnIf_rep {s : Bool} {vs : List VV} {xs : List Value} (h : RepL M ρ vs xs) : RepL M ρ (if s = true then vs.map opn else vs) xs := by
  split
  · exact opnL_rep h
  · exact h
theorem repl_get (zs : List VV) : ∀ (n i : Nat), i < n * zs.length → (repl zs n)[i]? = zs[i % zs.length]?
  | 0, i, h => by simp at h
  | n + 1, i, h => by
    show (zs ++ repl zs n)[i]? = _
    by_cases hi : i < zs.length
    · rw [List.getElem?_append_left hi, Nat.mod_eq_of_lt hi]
    · rw [List.getElem?_append_right (by omega), repl_get zs n _ (by rw [Nat.succ_mul] at h; omega)]
      congr 1
      exact (Nat.mod_eq_sub_mod (by omega)).symm
theorem repl_length (zs : List VV) : ∀ n, (repl zs n).length = n * zs.length
  | 0 => by simp [repl]
  | n + 1 => by
    show (zs ++ repl zs n).length = _
    rw [List.length_append, repl_length zs n, Nat.succ_mul]; omega
theorem repl_sound {zs : List VV} {z : Array Value} (h : RepL M ρ zs z.toList) (n k : Nat) (hk : k = n * z.size) :
    RepL M ρ (repl zs n) ((Array.range k).map fun i => z[i % z.size]!).toList := by
  have hl : zs.length = z.size := by simpa using h.1
  refine ⟨by simp [repl_length, hl, hk], fun i x v hx hv => ?_⟩
  have hi : i < n * zs.length := by
    have := (List.getElem?_eq_some_iff.1 hx).1
    rwa [repl_length] at this
  rw [repl_get zs n i hi] at hx
  have hik : i < k := by rw [hk, ← hl]; exact hi
  simp only [Array.toList_map, Array.toList_range, List.getElem?_map, List.getElem?_range hik, Option.map_some, Option.some.injEq] at hv
  subst hv
  have hz : 0 < z.size := by
    rw [← hl]
    rcases Nat.eq_zero_or_pos zs.length with h0 | h0
    · rw [h0] at hi; simp at hi
    · exact h0
  have hm : i % z.size < z.size := Nat.mod_lt _ hz
  rw [hl] at hx
  have := h.2 (i % z.size) x z[i % z.size] hx (by simp [hm])
  rwa [getElem!_pos z (i % z.size) hm]

theorem zeros_or {zs : List VV} {z : Value} {size : Nat} (h : RepL M ρ zs z.cells.toList) (h1 : zs.length = size) (h2 : z.cells.size = size) (n : Nat) :
    ∃ zc : Array Value, ((n * size = 0 ∧ zc = #[]) ∨ (n * size ≠ 0 ∧ zc = z.cells)) ∧ RepL M ρ (repl zs n) ((Array.range (n * size)).map fun i => zc[i % zc.size]!).toList := by
  by_cases h0 : n * size = 0
  · refine ⟨#[], .inl ⟨h0, rfl⟩, ?_⟩
    rw [h0]
    have : repl zs n = [] := List.length_eq_zero_iff.1 (by rw [repl_length, h1]; exact h0)
    rw [this]
    exact ⟨by simp, by simp⟩
  · exact ⟨z.cells, .inr ⟨h0, rfl⟩, repl_sound h n _ (by rw [h2])⟩
theorem wrap_small {n : Int} (h0 : 0 ≤ n) (h1 : n ≤ 4611686018427387904) : IntKind.i64.wrap n = n := by
  unfold IntKind.wrap
  have hm : n % (2 ^ IntKind.i64.bits : Int) = n := Int.emod_eq_of_lt h0 (by simp only [IntKind.bits]; omega)
  simp only [hm]
  rw [if_neg]
  simp only [IntKind.bits, Bool.and_eq_true, decide_eq_true_eq, not_and, ge_iff_le, Int.not_le]
  intro _
  omega

theorem fillParts_length {place : Nat → Option (Nat × Nat)} : ∀ (ps : List (Nat × VV)) (cs cs' : List VV), fillParts place cs ps = some cs' → cs'.length = cs.length
  | [], cs, cs', h => by
    simp only [fillParts, Option.some.injEq] at h
    rw [h]
  | (i, x) :: ps, cs, cs', h => by
    unfold fillParts at h
    split at h
    · cases h
    · split at h
      · rename_i hc
        rw [fillParts_length ps _ cs' h, setCells_length _ _ _ (by rw [hc.1]; exact hc.2)]
      · cases h

theorem few_sound {s : Bool} {n : Int} {u : Unit} (h : Has (few s n : EE Unit) u) : 0 ≤ n ∧ n ≤ 1048576 := by
  unfold few at h
  obtain ⟨_, h1, h2⟩ := has_bind h
  have h1 := has_must h1
  have h2 := has_must h2
  simp only [alg_cmp, cmp, alg_ilit, ge_iff_le, decide_eq_true_eq] at h1 h2
  exact ⟨h1, h2⟩

theorem new_sound {K : HH} (hI : Inv X M ρ K w) {nm : Nm} (hKn : K.get nm = none) (hX : ¬ X nm) {r : Operand → EE VV} {e : Operand → Value} {o : Oper} {m : EE (VV × HH)} {v : VV} (hm : newE cx H nm r o = some m) (hv : Has m (v, H'))
    (hr : OpsRep M ρ r e) : H.get nm = none ∧ ∃ cs s id, H' = H.new nm (.row cs s id) ∧ Does X M ρ K w ((execOp e o).run cx.P w) v (K.new nm (.row cs s id)) := by
  unfold newE at hm
  split at hm
  · -- alloc
    rename_i t ho
    simp only [Option.some.injEq] at hm; subst hm
    obtain ⟨d, h1, h2⟩ := has_bind hv
    obtain ⟨zs, h3, h4⟩ := has_bind h2
    have h1 := has_opt.1 h1
    have h3 := has_opt.1 h3
    rcases has_if h4 with ⟨_, h5⟩ | ⟨_, h5⟩
    · obtain ⟨H1, h6, h7⟩ := has_bind h5
      obtain ⟨h6', rfl⟩ := has_fresh h6
      have := has_ret.1 h7
      simp only [Prod.mk.injEq] at this
      obtain ⟨rfl, rfl⟩ := this
      refine ⟨h6', _, _, _, rfl, ?_⟩
      obtain ⟨z, hz1, hz2⟩ := zero_sound (M := M) (ρ := ρ) (w := w) h1 h3
      have : (execOp e o).run cx.P w = .ok (.value (.pointer (some ⟨w.heap.size, 0, none⟩))) (w.alloc (.cells z.cells t)) := by
        simp [execOp, ho, Instr.alloc, hz1, newVar, newRow]
      rw [this]
      exact newRow_does hI (f := fun b => .pointer (some ⟨b, 0, none⟩)) hKn hX hz2 (rep_newPtr _ _ _) w rfl rfl rfl
    · exact absurd h5 has_fail
  · -- box
    rename_i t x ho
    simp only [Option.some.injEq] at hm; subst hm
    obtain ⟨d, h1, h2⟩ := has_bind hv
    obtain ⟨u, h3, h4⟩ := has_bind h2
    rcases has_if h4 with ⟨hone, h5⟩ | ⟨_, h5⟩
    · obtain ⟨H1, h6, h7⟩ := has_bind h5
      obtain ⟨h6', rfl⟩ := has_fresh h6
      have := has_ret.1 h7
      simp only [Prod.mk.injEq] at this
      obtain ⟨rfl, rfl⟩ := this
      refine ⟨h6', _, _, _, rfl, ?_⟩
      have : (execOp e o).run cx.P w = .ok (.value (.pointer (some ⟨w.heap.size, 0, none⟩))) (w.alloc (.cells (e x).cells t)) := by
        simp [execOp, ho, Instr.box, newVar, newRow]
      rw [this]
      exact newRow_does hI (f := fun b => .pointer (some ⟨b, 0, none⟩)) hKn hX (rep_cells' (hr x u h3) hone) (rep_newPtr _ _ _) w rfl rfl rfl
    · exact absurd h5 has_fail
  · -- buildSlice
    rename_i t n ps ho
    simp only [Option.some.injEq] at hm; subst hm
    obtain ⟨d, h1, h2⟩ := has_bind hv
    have h1 := has_opt.1 h1
    split at h2
    · rename_i el hk
      obtain ⟨ed, h3, h4⟩ := has_bind h2
      obtain ⟨zs, h5, h6⟩ := has_bind h4
      obtain ⟨vs, h7, h8⟩ := has_bind h6
      have h3 := has_opt.1 h3
      have h5 := has_opt.1 h5
      rcases has_if h8 with ⟨hc, h9⟩ | ⟨_, h9⟩
      · obtain ⟨cs, h10, h11⟩ := has_bind h9
        obtain ⟨H1, h12, h13⟩ := has_bind h11
        have h10 := has_opt.1 h10
        obtain ⟨h12', rfl⟩ := has_fresh h12
        have := has_ret.1 h13
        simp only [Prod.mk.injEq] at this
        obtain ⟨rfl, rfl⟩ := this
        refine ⟨h12', _, _, _, rfl, ?_⟩
        obtain ⟨hc1, hc2, hc3, hc4⟩ := hc
        obtain ⟨z, hz1, hz2⟩ := zero_sound (M := M) (ρ := ρ) (w := w) h3 h5
        have hzs : z.cells.size = ed.size := by rw [← hc2, hz2.1]; simp
        obtain ⟨hl, hi⟩ := has_map h7
        have hp : PartsRep M ρ vs ((ps.map fun (p : Nat × Operand) => (p.1, e p.2)).toList) := by
          refine ⟨by simp [← hl], fun i p q hp hq => ?_⟩
          simp only [Array.toList_map, List.getElem?_map, Option.map_eq_some_iff] at hq
          obtain ⟨a, ha, rfl⟩ := hq
          have := hi i a p ha hp
          obtain ⟨u, hu, hu2⟩ := has_bind this
          have := has_ret.1 hu2
          subst this
          exact ⟨rfl, hr _ _ hu⟩
        obtain ⟨zc, hzc1, hzc2⟩ := zeros_or (M := M) (ρ := ρ) hz2 hc2 hzs n
        obtain ⟨xs', hf1, hf2⟩ := fill_sound vs _ _ _ cs hp (by simpa using hc4) hzc2 h10
        have hrun : (execOp e o).run cx.P w = .ok (.value (.slice (some ⟨w.heap.size, 0, none⟩) n n)) (w.alloc (.cells xs' el)) := by
          have hps : (ps.map fun (x : Nat × Operand) => (x.1, e x.2)).toList = (ps.map fun (p : Nat × Operand) => (p.1, e p.2)).toList := rfl
          simp only [execOp, ho, Instr.buildSlice, Sem.run_bind, run_und (und_slc h1 hk), Result.andThen_ok, run_sizeOf_ty h3]
          rw [if_neg (by omega)]
          rcases hzc1 with ⟨h0, rfl⟩ | ⟨h0, rfl⟩
          · simp only [Sem.run_bind, Sem.run_pure, Result.andThen_ok, h0, if_true] at hf1 ⊢
            simp only [hf1, Sem.run_bind, newRow, run_newObj, Result.andThen_ok, Sem.run_pure]
            rfl
          · simp only [Sem.run_bind, Sem.run_pure, Result.andThen_ok, h0, if_false, hz1, hf1, newRow, run_newObj]
            rfl
        rw [hrun]
        have hsz : n * ed.size ≤ xs'.size := by
          have h1 := hf2.1
          rw [fillParts_length vs _ cs h10, repl_length, hc2] at h1
          simpa using Nat.le_of_eq h1
        refine newRow_does hI (f := fun b => .slice (some ⟨b, 0, none⟩) n n) hKn hX hf2 ?_ w rfl rfl rfl
        exact .osl _ _ _ _ _ w.heap.size xs'.size n n 0 (by simp [Rho.put]) (by simp) (Nat.le_refl _) (fun _ => ⟨rfl, by omega⟩)
      · exact absurd h9 has_fail
    · exact absurd h2 has_fail
  · -- makeSlice
    rename_i t l c ho
    simp only [Option.some.injEq] at hm; subst hm
    obtain ⟨d, h1, h2⟩ := has_bind hv
    have h1 := has_opt.1 h1
    obtain ⟨ul, hl, h2a⟩ := has_bind h2
    obtain ⟨uc, hc, h2b⟩ := has_bind h2a
    clear h2 h2a hv
    have rl := hr l ul hl
    have rc := hr c uc hc
    split at h2b
    · rename_i el s a s' b hk
      obtain ⟨ed, h3, h4⟩ := has_bind h2b
      obtain ⟨zs, h5, h6⟩ := has_bind h4
      obtain ⟨_, h7, h8⟩ := has_bind h6
      obtain ⟨_, h9, h10⟩ := has_bind h8
      have h3 := has_opt.1 h3
      have h5 := has_opt.1 h5
      have h7 := few_sound h7
      have h9 := has_must h9
      simp only [alg_cmp, cmp, beq_iff_eq] at h9
      subst h9
      rcases has_if h10 with ⟨hcc, h11⟩ | ⟨_, h11⟩
      · obtain ⟨H1, h12, h13⟩ := has_bind h11
        obtain ⟨h12', rfl⟩ := has_fresh h12
        have := has_ret.1 h13
        simp only [Prod.mk.injEq] at this
        obtain ⟨rfl, rfl⟩ := this
        refine ⟨h12', _, _, _, rfl, ?_⟩
        obtain ⟨hc1, hc2, hc3⟩ := hcc
        generalize hel : e l = vl at rl
        generalize hec : e c = vc at rc
        cases rl
        cases rc
        obtain ⟨i, u, hi, hu, -, hsz, hby, -⟩ := ty_facts h3
        obtain ⟨z, hz1, hz2⟩ := zero_sound (M := M) (ρ := ρ) (w := w) h3 h5
        have hzs : z.cells.size = ed.size := by rw [← hc2, hz2.1]; simp
        obtain ⟨n, rfl⟩ : ∃ n : Nat, a = (n : Int) := ⟨a.toNat, by omega⟩
        have hwrap : IntKind.i64.wrap (n : Int) = (n : Int) := wrap_small (by omega) (by omega)
        obtain ⟨zc, hzc1, hzc2⟩ := zeros_or (M := M) (ρ := ρ) hz2 hc2 hzs n
        have hb : ¬ ((i.bytes : Int) * (n : Int) > 2 ^ 48) := by
          have h1 : (i.bytes : Int) ≤ 1048576 := by rw [← hby]; omega
          have h2 : (n : Int) ≤ 1048576 := h7.2
          have h3 : (i.bytes : Int) * (n : Int) ≤ 1048576 * 1048576 := Int.mul_le_mul h1 h2 (by omega) (by omega)
          omega
        have hrun : (execOp e o).run cx.P w = .ok (.value (.slice (some ⟨w.heap.size, 0, none⟩) n n)) (w.alloc (.cells ((Array.range (n * ed.size)).map fun i => zc[i % zc.size]!) el)) := by
          simp only [execOp, ho, Instr.makeSlice, Sem.run_bind, run_und (und_slc h1 hk), Result.andThen_ok, hel, hec, asInt, asIntOf, Sem.run_pure, run_typeInfo_ty hi, hwrap]
          rw [if_neg (by simp; omega)]
          simp only [Sem.run_bind, run_askRoom, Result.andThen_ok, run_sizeOf_ty h3, Int.toNat_natCast]
          rcases hzc1 with ⟨h0, rfl⟩ | ⟨h0, rfl⟩
          · simp only [h0, if_true, Sem.run_bind, Sem.run_pure, Result.andThen_ok, newRow, run_newObj]
            rfl
          · simp only [h0, if_false, Sem.run_bind, Sem.run_pure, Result.andThen_ok, hz1, newRow, run_newObj]
            rfl
        rw [hrun]
        refine newRow_does hI (f := fun b => .slice (some ⟨b, 0, none⟩) n n) hKn hX (opnIf_rep hzc2) ?_ w rfl rfl rfl
        exact .osl _ _ _ _ _ w.heap.size (n * ed.size) n n 0 (by simp [Rho.put]) rfl (Nat.le_refl _) (fun _ => ⟨rfl, by simp⟩)
      · exact absurd h11 has_fail
    · exact absurd h2b has_fail
  · cases hm
end
end Go.Sx
