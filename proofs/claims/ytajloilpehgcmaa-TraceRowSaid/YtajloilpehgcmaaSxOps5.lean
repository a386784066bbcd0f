/- The executor's single operations are the model's: those that read memory. Conditions: none. -/
import Derived.Test.YtajloilpehgcmaaSxOps4
set_option linter.unusedVariables false
set_option linter.unusedSimpArgs false
set_option linter.unusedSectionVars false

namespace Go.Sx
section
variable {X : Nm → Prop} {M : Mem} {ρ : Rho} {w : World} {cx : Cx Int Bool} {H : HH}

theorem rep_ptr_nat {nm : Nm} {b z : Nat} (s : Bool) (n : Nat) (hr : ρ nm = some (b, z)) : Rep M ρ (.ptr nm s ((n : Nat) : Int)) (.pointer (some ⟨b, n, none⟩)) := by
  have := Rep.ptr (M := M) nm s ((n : Nat) : Int) b z hr (by omega)
  rwa [Int.toNat_natCast] at this
/-- A value of a type, out of its cells. -/
theorem loadVar_sound {t : TypeId} {d : TyD} (ht : tyd cx.P t = some d) {cs : List VV} {b o : Nat} {v : VV} (hl : cs.length = d.size)
    (hc : ∀ (i : Nat) x, cs[i]? = some x → ∃ val, w.cell? ⟨b, o + i, none⟩ = some val ∧ Rep M ρ x val) (hv : ofCells d.isAgg cs = some v) :
    ∃ val, (loadVar t ⟨b, o, none⟩).run cx.P w = .ok val w ∧ Rep M ρ v val := by
  have hcell : ∀ j, j < d.size → w.cell? ((⟨b, o, none⟩ : Addr).add j) = some ((w.cell? ⟨b, o + j, none⟩).getD undef) := by
    intro j hj
    rw [Addr.add_off]
    obtain ⟨val, h1, _⟩ := hc j cs[j] (List.getElem?_eq_getElem (by omega))
    rw [h1]; rfl
  simp only [loadVar, Sem.run_bind, run_isAgg_ty ht, Result.andThen_ok]
  cases ha : d.isAgg with
  | true =>
    simp only [ha, ofCells, if_true, Option.some.injEq] at hv
    subst hv
    have := run_loadCells (P := cx.P) w ⟨b, o, none⟩ d.size (fun j => (w.cell? ⟨b, o + j, none⟩).getD undef) hcell
    simp only [if_true, Sem.run_bind, run_sizeOf_ty ht, Result.andThen_ok, this, Sem.run_pure]
    refine ⟨_, rfl, .agg _ _ (by simp [hl]) fun i c u hc' hu => ?_⟩
    have hi : i < d.size := by have := (List.getElem?_eq_some_iff.1 hc').1; omega
    obtain ⟨val, h1, h2⟩ := hc i c hc'
    simp [hi, h1] at hu
    subst hu
    exact h2
  | false =>
    simp only [ha, ofCells, Bool.false_eq_true, if_false] at hv
    split at hv
    · simp only [Option.some.injEq] at hv
      subst hv
      obtain ⟨val, h1, h2⟩ := hc 0 _ rfl
      simp only [Nat.add_zero] at h1
      simp only [Bool.false_eq_true, if_false, run_load, h1]
      exact ⟨val, rfl, h2⟩
    · cases hv

theorem readRow_sound {d : TyD} {cs : List VV} {rs : Bool} {id : Nat} {s : Bool} {off : Int} {v : VV} (h : Has (readRow d cs rs id s off) v) :
    ∃ (o : Nat) (vs : List VV), off = (o : Int) ∧ vs.length = d.size ∧ ofCells d.isAgg vs = some v ∧ ∀ (i : Nat) x, vs[i]? = some x → cs[o + i]? = some x := by
  unfold readRow at h
  split at h
  · rename_i o hk
    replace h := has_if h; rcases h with ⟨hl, h⟩ | ⟨_, h⟩
    · refine ⟨o, (cs.drop o).take d.size, knownNat_some hk, hl, has_opt.1 h, fun i x hx => ?_⟩
      rw [List.getElem?_take] at hx
      split at hx
      · rw [List.getElem?_drop] at hx; exact hx
      · cases hx
    · exact absurd h has_fail
  · obtain ⟨u, h1, h2⟩ := has_bind h
    rcases has_if h2 with ⟨hl, h3⟩ | ⟨_, h3⟩
    · obtain ⟨_, h4, h5⟩ := has_bind h3
      have h4 := has_ob h4
      obtain ⟨h0, h6⟩ := h4
      refine ⟨off.toNat, cellsOf u, by omega, hl, has_opt.1 h5, fun i x hx => ?_⟩
      rw [← h6, List.getElem?_take] at hx
      split at hx
      · rw [List.getElem?_drop] at hx; exact hx
      · cases hx
    · exact absurd h3 has_fail

theorem row_cell (hI : Inv X M ρ H w) {n : Nm} {cs : List VV} {s : Bool} {id : Nat} (hg : H.get n = some (.row cs s id)) {b z : Nat} (hr : ρ n = some (b, z))
    {i : Nat} {x : VV} (hx : cs[i]? = some x) : ∃ val, w.cell? ⟨b, i, none⟩ = some val ∧ Rep M ρ x val := by
  obtain ⟨b', z', c, ty, h1, h2, h3, h4, h5⟩ := hI.row n cs s id hg
  rw [hr] at h1
  simp only [Option.some.injEq, Prod.mk.injEq] at h1
  obtain ⟨rfl, rfl⟩ := h1
  have hi : i < c.size := by have := (List.getElem?_eq_some_iff.1 hx).1; omega
  refine ⟨c[i], ?_, h5 i x _ hx (Array.getElem?_eq_getElem hi)⟩
  simp [World.cell?, h2, hi]

/-- The names that a value leads to. -/
def nmOfV : VV → List Nm
  | .ptr nm _ _ => [nm]
  | .osl nm _ _ _ _ => [nm]
  | _ => []
/-- At what a value leads to, two memories are alike. -/
def Sees (H K : HH) (v : VV) : Prop := ∀ nm ∈ nmOfV v, H.get nm ≠ none → K.get nm = H.get nm
theorem Sees.refl (v : VV) : Sees H H v := fun _ _ _ => rfl

theorem loadE_sound {K : HH} (hI : Inv X M ρ K w) {t : TypeId} {p v : VV} {a : Value} (h : Has (loadE cx H t p) v) (hK : Sees H K p) (ha : Rep M ρ p a) :
    ∃ val, (Instr.loadAt t a).run cx.P w = .ok val w ∧ Rep M ρ v val := by
  unfold loadE at h
  obtain ⟨d, h1, h2⟩ := has_bind h
  have h1 := has_opt.1 h1
  split at h2
  · rename_i nm s off
    obtain ⟨⟨cs, rs, id⟩, h3, h4⟩ := has_bind h2
    have h3 := has_liveRow h3
    dsimp only at h3 h4
    obtain ⟨o, vs, h5, h6, h7, h8⟩ := readRow_sound h4
    cases ha with
    | ptr _ _ _ b z hr h0 =>
      subst h5
      simp only [Instr.loadAt, Sem.run_bind, Instr.sureAddr, Sem.run_pure, Result.andThen_ok, Int.toNat_natCast]
      exact loadVar_sound h1 h6 (fun i x hx => row_cell hI (by rw [hK nm (by simp [nmOfV]) (by simp [h3])]; exact h3) hr (h8 i x hx)) h7
  · rename_i cs
    rcases has_if h2 with ⟨hl, h3⟩ | ⟨_, h3⟩
    · have h3 := has_opt.1 h3
      cases ha with
      | eptr _ b o vs hm hr =>
        simp only [Instr.loadAt, Sem.run_bind, Instr.sureAddr, Sem.run_pure, Result.andThen_ok]
        refine loadVar_sound h1 hl (fun i x hx => ?_) h3
        rw [List.getElem?_take] at hx
        split at hx
        · exact ⟨vs i, hI.imm _ _ _ (hm i x hx), hr i x hx⟩
        · cases hx
    · exact absurd h3 has_fail
  · exact absurd h2 has_fail

theorem flat_get : ∀ (es : List VV) (sz : Nat), (∀ e ∈ es, (cellsOf e).length = sz) → ∀ (i j : Nat) (e x : VV), es[i]? = some e → (cellsOf e)[j]? = some x → (flat es)[i * sz + j]? = some x
  | [], _, _, i, j, e, x, h, _ => by simp at h
  | e0 :: es, sz, hs, i, j, e, x, h, hj => by
    have he0 := hs e0 (by simp)
    have hjl : j < (cellsOf e).length := (List.getElem?_eq_some_iff.1 hj).1
    show (cellsOf e0 ++ flat es)[i * sz + j]? = some x
    cases i with
    | zero =>
      simp only [List.getElem?_cons_zero, Option.some.injEq] at h
      subst h
      rw [Nat.zero_mul, Nat.zero_add, List.getElem?_append_left hjl]
      exact hj
    | succ i =>
      simp only [List.getElem?_cons_succ] at h
      have := flat_get es sz (fun e he => hs e (by simp [he])) i j e x h hj
      rw [List.getElem?_append_right (by rw [he0, Nat.succ_mul]; omega), he0]
      rw [show (i + 1) * sz + j - sz = i * sz + j by rw [Nat.succ_mul]; omega]
      exact this

theorem asI_some {i : VV} {r : IntKind × Bool × Int} (h : Has (asI i) r) : i = .int r.1 r.2.1 r.2.2 := by
  unfold asI at h
  split at h
  · have := has_ret.1 h
    subst this; rfl
  · exact absurd h has_fail

theorem indexAddrE_sound {K : HH} (hI : Inv X M ρ K w) {t : TypeId} {x i v : VV} {a b : Value} (h : Has (indexAddrE cx H t x i) v) (ha : Rep M ρ x a) (hb : Rep M ρ i b) :
    ∃ val, (Instr.indexAt t a b).run cx.P w = .ok val w ∧ Rep M ρ v val := by
  unfold indexAddrE at h
  obtain ⟨⟨k0, s, n⟩, h0, h2⟩ := has_bind h
  obtain ⟨d, h1, h3⟩ := has_bind h2
  have h1 := has_opt.1 h1
  have hi := asI_some h0
  dsimp only at hi
  subst hi
  cases hb
  clear h h0 h2
  dsimp only at h3
  split at h3
  · -- a row's array
    rename_i len e nm sp off hk
    obtain ⟨ed, h4, h5⟩ := has_bind h3
    obtain ⟨j, h6, h7⟩ := has_bind h5
    have h4 := has_opt.1 h4
    obtain ⟨h6, h8⟩ := has_which h6
    have := has_ret.1 h7
    rw [moveO_eq] at this
    subst this
    cases ha with
    | ptr _ _ _ b z hr h0 =>
      have := Rep.ptr (M := M) nm sp (off + ((j * ed.size : Nat) : Int)) b z hr (by omega)
      refine ⟨_, ?_, this⟩
      simp only [Instr.indexAt, Sem.run_bind, asIntOf, Sem.run_pure, Result.andThen_ok, run_und (und_arr h1 hk), Instr.sureAddr]
      rw [if_pos (by omega), Sem.run_bind, run_sizeOf_ty h4, Result.andThen_ok, Addr.add_off, Sem.run_pure]
      rw [show n.toNat = j by omega, show (off + ((j * ed.size : Nat) : Int)).toNat = off.toNat + j * ed.size by omega]
  · -- an element's array
    rename_i len e cs hk
    obtain ⟨ed, h4, h5⟩ := has_bind h3
    obtain ⟨j, h6, h7⟩ := has_bind h5
    have h4 := has_opt.1 h4
    obtain ⟨h6, h8⟩ := has_which h6
    have := has_ret.1 h7
    subst this
    cases ha with
    | eptr _ b o vs hm hr =>
      refine ⟨_, ?_, .eptr _ b (o + j * ed.size) (fun i => vs (j * ed.size + i)) (fun i x hx => ?_) (fun i x hx => ?_)⟩
      · simp only [Instr.indexAt, Sem.run_bind, asIntOf, Sem.run_pure, Result.andThen_ok, run_und (und_arr h1 hk), Instr.sureAddr]
        rw [if_pos (by omega), Sem.run_bind, run_sizeOf_ty h4, Result.andThen_ok, Addr.add_off, Sem.run_pure]
        rw [show n.toNat = j by omega]
      · rw [List.getElem?_drop] at hx
        have := hm _ x hx
        rwa [← Nat.add_assoc] at this
      · rw [List.getElem?_drop] at hx
        exact hr _ x hx
  · -- a slice of our own
    rename_i e nm off sz sl len hk
    obtain ⟨ed, h4, h5⟩ := has_bind h3
    obtain ⟨⟨cs, rs, id⟩, h6, h7⟩ := has_bind h5
    have h4 := has_opt.1 h4
    dsimp only at h7
    rcases has_if h7 with ⟨_, h8⟩ | ⟨hsz, h8⟩
    · exact absurd h8 has_fail
    have hsz : ed.size = sz := by simpa using hsz
    cases ha with
    | osl _ _ _ _ _ b z m c o hρ hn hc ho =>
      have hrun : ∀ j : Nat, n = (j : Int) → j < m → (Instr.indexAt t (.slice (some ⟨b, o, none⟩) m c) (.int k0 n)).run cx.P w = .ok (.pointer (some ⟨b, off + j * sz, none⟩)) w := by
        intro j hj hjm
        have ho1 := (ho (by omega)).1
        subst ho1
        simp only [Instr.indexAt, Sem.run_bind, asIntOf, Sem.run_pure, Result.andThen_ok, run_und (und_slc h1 hk)]
        rw [if_pos (by omega), Sem.run_bind, run_sizeOf_ty h4, Result.andThen_ok, Addr.add_off, Sem.run_pure, hsz]
        rw [show n.toNat = j by omega]
      split at h8
      · rename_i l hl
        obtain ⟨j, h9, h10⟩ := has_bind h8
        obtain ⟨h9, h11⟩ := has_which h9
        have := has_ret.1 h10
        subst this
        have := knownNat_some hl
        refine ⟨_, hrun j h9 (by omega), ?_⟩
        exact rep_ptr_nat _ _ hρ
      · obtain ⟨_, h9, h10⟩ := has_bind h8
        obtain ⟨_, h11, h12⟩ := has_bind h10
        have h9 := has_must h9
        have h11 := has_must h11
        simp only [alg_cmp, cmp, alg_ilit, ge_iff_le, decide_eq_true_eq] at h9 h11
        have := has_ret.1 h12
        subst this
        refine ⟨_, hrun n.toNat (by omega) (by omega), ?_⟩
        have e1 : (if sz = 1 ∧ off = 0 then n else Alg.lin Bool n sz off) = ((off + n.toNat * sz : Nat) : Int) := by
          split
          · rename_i h; obtain ⟨rfl, rfl⟩ := h; omega
          · simp only [alg_lin]
            have : n = (n.toNat : Int) := by omega
            rw [this]
            simp only [Int.toNat_natCast]
            push_cast
            omega
        rw [e1]
        exact rep_ptr_nat _ _ hρ
  · -- a slice that stays as it is
    rename_i e id sz sl len es c0 hk
    obtain ⟨ed, h4, h5⟩ := has_bind h3
    have h4 := has_opt.1 h4
    rcases has_if h5 with ⟨_, h8⟩ | ⟨hsz, h8⟩
    · exact absurd h8 has_fail
    have hsz : ed.size = sz := by simpa using hsz
    have main : ∀ (j : Nat) (u : VV), n = (j : Int) → es[j]? = some u → ∃ val, (Instr.indexAt t a (.int k0 n)).run cx.P w = .ok val w ∧ Rep M ρ (.eptr (cellsOf u)) val := by
      intro j u hj hu
      have hjl : j < es.length := (List.getElem?_eq_some_iff.1 hu).1
      cases ha with
      | islNil => simp at hu
      | isl _ _ _ _ _ _ b o c vs hn hc hc0 hes hm hr =>
        refine ⟨.pointer (some ⟨b, o + j * sz, none⟩), ?_, .eptr _ b (o + j * sz) (fun i => vs (j * sz + i)) (fun i x hx => ?_) (fun i x hx => ?_)⟩
        · simp only [Instr.indexAt, Sem.run_bind, asIntOf, Sem.run_pure, Result.andThen_ok, run_und (und_slc h1 hk)]
          rw [if_pos (by omega), Sem.run_bind, run_sizeOf_ty h4, Result.andThen_ok, Addr.add_off, Sem.run_pure, hsz]
          rw [show n.toNat = j by omega]
        · have := hm _ x (flat_get es sz hes j i u x hu hx)
          rwa [← Nat.add_assoc] at this
        · exact hr _ x (flat_get es sz hes j i u x hu hx)
    split at h8
    · obtain ⟨j, h9, h10⟩ := has_bind h8
      obtain ⟨u, h11, h12⟩ := has_bind h10
      obtain ⟨h9, _⟩ := has_which h9
      have h11 := has_opt.1 h11
      have := has_ret.1 h12
      subst this
      exact main j u h9 h11
    · obtain ⟨u, h9, h10⟩ := has_bind h8
      obtain ⟨_, h11, h12⟩ := has_bind h10
      obtain ⟨h11, h13⟩ := has_ob h11
      have := has_ret.1 h12
      subst this
      exact main n.toNat u (by omega) h13
  · exact absurd h3 has_fail

theorem boundE_sound {x : Option VV} {dflt r : Bool × Int} (h : Has (boundE x dflt) r) : (x = none ∧ r = dflt) ∨ ∃ k s n, x = some (.int k s n) ∧ r = (s, n) := by
  unfold boundE at h
  split at h
  · exact .inl ⟨rfl, (has_ret.1 h).symm⟩
  · exact .inr ⟨_, _, _, rfl, (has_ret.1 h).symm⟩
  · exact absurd h has_fail
theorem inOrder_sound {sl sh sn : Bool} {l h n : Int} {u : Unit} (hh : Has (inOrder sl l sh h sn n : EE Unit) u) : 0 ≤ l ∧ l ≤ h ∧ h ≤ n := by
  unfold inOrder at hh
  obtain ⟨_, h1, h2⟩ := has_bind hh
  obtain ⟨_, h3, h4⟩ := has_bind h2
  have h1 := has_must h1
  have h3 := has_must h3
  have h4 := has_must h4
  simp only [alg_cmp, cmp, alg_ilit, ge_iff_le, decide_eq_true_eq] at h1 h3 h4
  exact ⟨h1, h3, h4⟩

theorem run_sliceBound_in (k : IntKind) (i : Int) (y : Nat) (code : BoundsCode) (h : 0 ≤ i ∧ i ≤ y) : (Instr.sliceBound (.int k i) y code).run cx.P w = .ok i.toNat w := by
  simp only [Instr.sliceBound, Sem.run_bind, asIntOf, Sem.run_pure, Result.andThen_ok, Sem.run_ite]
  rw [if_pos h]

/-- A bound that is there stands for what the model has. -/
def OptRep (M : Mem) (ρ : Rho) (x : Option VV) (y : Option Value) : Prop := (x = none ∧ y = none) ∨ ∃ u v, x = some u ∧ y = some v ∧ Rep M ρ u v
theorem bound_run {x : Option VV} {y : Option Value} {d : Bool} {dn : Int} {s : Bool} {n : Int} (h : Has (boundE x (d, dn)) (s, n)) (hr : OptRep M ρ x y) :
    (y = none ∧ n = dn) ∨ ∃ k, y = some (.int k n) := by
  rcases boundE_sound h with ⟨e1, e2⟩ | ⟨k, s', n', e1, e2⟩
  · simp only [Prod.mk.injEq] at e2
    rcases hr with ⟨_, h2⟩ | ⟨u, v, h1, _⟩
    · exact .inl ⟨h2, e2.2⟩
    · rw [e1] at h1; cases h1
  · simp only [Prod.mk.injEq] at e2
    obtain ⟨rfl, rfl⟩ := e2
    rcases hr with ⟨h1, _⟩ | ⟨u, v, h1, h2, h3⟩
    · rw [e1] at h1; cases h1
    · rw [e1] at h1
      simp only [Option.some.injEq] at h1
      subst h1
      cases h3
      exact .inr ⟨k, h2⟩
/-- The bounds of 'x[l:h]'. -/
theorem run_sliceBounds {isSlice : Bool} {len cap : Nat} {vlo vhi : Option Value} {l h : Int}
    (hlo : (vlo = none ∧ l = 0) ∨ ∃ k, vlo = some (.int k l)) (hhi : (vhi = none ∧ h = len) ∨ ∃ k, vhi = some (.int k h)) (h0 : 0 ≤ l) (h1 : l ≤ h) (h2 : h ≤ len) (h3 : len ≤ cap) :
    (Instr.sliceBounds isSlice len cap vlo vhi none).run cx.P w = .ok (l.toNat, h.toNat, cap) w := by
  unfold Instr.sliceBounds
  simp only [Sem.run_bind, Sem.run_pure, Result.andThen_ok]
  rcases hhi with ⟨rfl, rfl⟩ | ⟨k, rfl⟩
  · rcases hlo with ⟨rfl, rfl⟩ | ⟨k', rfl⟩
    · simp
    · simp only [Sem.run_bind, Sem.run_pure, Result.andThen_ok]
      rw [run_sliceBound_in _ _ _ _ ⟨h0, by omega⟩]
      simp
  · simp only [Sem.run_bind]
    rw [run_sliceBound_in _ _ _ _ ⟨by omega, by omega⟩, Result.andThen_ok]
    rcases hlo with ⟨rfl, rfl⟩ | ⟨k', rfl⟩
    · simp
    · simp only [Sem.run_bind]
      rw [run_sliceBound_in _ _ _ _ ⟨h0, by omega⟩]
      simp

theorem run_threeZero {len cap : Nat} {isSlice : Bool} {a b c : IntKind} :
    (Instr.sliceBounds isSlice len cap (some (.int a 0)) (some (.int b 0)) (some (.int c 0))).run cx.P w = .ok (0, 0, 0) w := by
  unfold Instr.sliceBounds
  simp only [Sem.run_bind]
  rw [run_sliceBound_in _ _ _ _ ⟨by omega, by omega⟩, Result.andThen_ok]
  simp only [Int.toNat_zero, Sem.run_bind]
  rw [run_sliceBound_in _ _ _ _ ⟨by omega, by omega⟩, Result.andThen_ok]
  simp only [Int.toNat_zero, Sem.run_bind]
  rw [run_sliceBound_in _ _ _ _ ⟨by omega, by omega⟩, Result.andThen_ok]
  simp
theorem isZeroC_some {x : Option VV} {y : Option Value} (h : isZeroC x = true) (hr : OptRep M ρ x y) : ∃ k, y = some (.int k 0) := by
  unfold isZeroC at h
  split at h
  · rename_i k l
    simp only [alg_ival, beq_iff_eq] at h
    subst h
    rcases hr with ⟨h1, _⟩ | ⟨u, v, h1, h2, h3⟩
    · cases h1
    · simp only [Option.some.injEq] at h1
      subst h1
      cases h3
      exact ⟨k, h2⟩
  · cases h

theorem flat_take_drop (es : List VV) (sz : Nat) (hs : ∀ e ∈ es, (cellsOf e).length = sz) (l h : Nat) (i : Nat) (x : VV) (hx : (flat ((es.take h).drop l))[i]? = some x) : (flat es)[l * sz + i]? = some x := by
  have key : ∀ (es : List VV), (∀ e ∈ es, (cellsOf e).length = sz) → ∀ l i x, (flat (es.drop l))[i]? = some x → (flat es)[l * sz + i]? = some x := by
    intro es
    induction es with
    | nil => intro _ l i x hx; simp [flat] at hx
    | cons e es ih =>
      intro hs l i x hx
      cases l with
      | zero => simpa using hx
      | succ l =>
        simp only [List.drop_succ_cons] at hx
        have := ih (fun e he => hs e (by simp [he])) l i x hx
        show (cellsOf e ++ flat es)[(l + 1) * sz + i]? = some x
        have he := hs e (by simp)
        rw [List.getElem?_append_right (by rw [he, Nat.succ_mul]; omega), he]
        rw [show (l + 1) * sz + i - sz = l * sz + i by rw [Nat.succ_mul]; omega]
        exact this
  have h1 := key (es.take h) (fun e he => hs e (List.mem_of_mem_take he)) l i x hx
  have h2 : ∀ (es : List VV) (h j : Nat) x, (flat (es.take h))[j]? = some x → (flat es)[j]? = some x := by
    intro es h j x hx
    have : flat es = flat (es.take h) ++ flat (es.drop h) := by
      unfold flat
      rw [← List.flatMap_append, List.take_append_drop]
    rw [this, List.getElem?_append_left (List.getElem?_eq_some_iff.1 hx).1]
    exact hx
  exact h2 es h _ x h1

theorem sliceE_sound {K : HH} (hI : Inv X M ρ K w) {t : TypeId} {x v : VV} {lo hi mx : Option VV} {a : Value} {vlo vhi vmx : Option Value} (h : Has (sliceE cx H t x lo hi mx) v) (hK : Sees H K x) (ha : Rep M ρ x a)
    (rlo : OptRep M ρ lo vlo) (rhi : OptRep M ρ hi vhi) (rmx : OptRep M ρ mx vmx) :
    ∃ val, (Instr.sliceAt t a vlo vhi vmx).run cx.P w = .ok val w ∧ Rep M ρ v val := by
  unfold sliceE at h
  obtain ⟨d, h1, h2⟩ := has_bind h
  have h1 := has_opt.1 h1
  clear h
  split at h2
  · -- an array's
    rename_i n e nm off hk
    have : vmx = none := by
      rcases rmx with ⟨_, h⟩ | ⟨_, _, h, _⟩
      · exact h
      · cases h
    subst this
    obtain ⟨ed, h3, h4⟩ := has_bind h2
    obtain ⟨⟨sl, l⟩, h5, h6⟩ := has_bind h4
    obtain ⟨⟨sh, hh⟩, h7, h8⟩ := has_bind h6
    obtain ⟨_, h9, h10⟩ := has_bind h8
    obtain ⟨o, h11, h12⟩ := has_bind h10
    obtain ⟨k, h13, h14⟩ := has_bind h12
    obtain ⟨⟨cs, rs, id⟩, h15, h16⟩ := has_bind h14
    have h3 := has_opt.1 h3
    have h9 := inOrder_sound h9
    have h11 := knownNat_some (has_opt.1 h11)
    have h13 := knownNat_some (has_opt.1 h13)
    have h15 := has_liveRow h15
    dsimp only at h15 h16 h9 h13 h11
    rcases has_if h16 with ⟨hle, h17⟩ | ⟨_, h17⟩
    · have := has_ret.1 h17
      subst this
      cases ha with
      | ptr _ _ _ b z hr h0 =>
        obtain ⟨b', z', c, ty, q1, q2, q3, q4, q5⟩ := hI.row nm cs rs id (by rw [hK nm (by simp [nmOfV]) (by simp [h15])]; exact h15)
        rw [hr] at q1
        simp only [Option.some.injEq, Prod.mk.injEq] at q1
        obtain ⟨rfl, rfl⟩ := q1
        have hb := run_sliceBounds (cx := cx) (w := w) (isSlice := false) (len := n) (cap := n) (bound_run h5 rlo) (bound_run h7 rhi) h9.1 h9.2.1 (by simpa using h9.2.2) (Nat.le_refl _)
        simp only [alg_ilit] at h9
        refine ⟨.slice (some (if n = l.toNat then ⟨b, off.toNat, none⟩ else ⟨b, off.toNat + l.toNat * ed.size, none⟩)) (hh.toNat - l.toNat) (n - l.toNat), ?_, ?_⟩
        · simp only [Instr.sliceAt, Sem.run_bind, run_und (und_arr h1 hk), Result.andThen_ok, Instr.sureAddr, Sem.run_pure, hb, run_sizeOf_ty h3, Addr.add_off]
        · have hoff : o = off.toNat := by omega
          have hlk : l.toNat = k := by omega
          have hsub : subI (B := Bool) (sl || sh) hh l = ((hh.toNat - l.toNat : Nat) : Int) := by
            unfold subI
            split <;> simp only [alg_mns, alg_ival, alg_ilit] <;> omega
          rw [hsub]
          split
          · rename_i hn
            exact .osl _ _ _ _ _ b z _ _ _ hr rfl (by omega) (fun hc => absurd hc (by omega))
          · refine .osl _ _ _ _ _ b z _ _ _ hr rfl (by omega) (fun _ => ⟨by rw [hoff, hlk], ?_⟩)
            rw [hlk]
            have : (n - k) * ed.size + k * ed.size = n * ed.size := by rw [← Nat.add_mul]; congr 1; omega
            omega
    · exact absurd h17 has_fail
  · -- our own slice's
    rename_i e nm off sz s len hk
    have : vmx = none := by
      rcases rmx with ⟨_, h⟩ | ⟨_, _, h, _⟩
      · exact h
      · cases h
    subst this
    obtain ⟨ed, h3, h4⟩ := has_bind h2
    have h3 := has_opt.1 h3
    rcases has_if h4 with ⟨_, h4'⟩ | ⟨hsz, h4'⟩
    · exact absurd h4' has_fail
    have hsz : ed.size = sz := by simpa using hsz
    obtain ⟨⟨sl, l⟩, h5, h6⟩ := has_bind h4'
    obtain ⟨⟨sh, hh⟩, h7, h8⟩ := has_bind h6
    obtain ⟨_, h9, h10⟩ := has_bind h8
    obtain ⟨k, h13, h14⟩ := has_bind h10
    have h9 := inOrder_sound h9
    have h13 := knownNat_some (has_opt.1 h13)
    try dsimp only at h9 h13
    have := has_ret.1 h14
    subst this
    have hu := und_slc h1 hk
    cases ha with
    | osl _ _ _ _ _ b z n c o hr hn hc ho =>
      subst hn
      have hb := run_sliceBounds (cx := cx) (w := w) (isSlice := true) (len := n) (cap := c) (bound_run h5 rlo) (bound_run h7 rhi) h9.1 h9.2.1 h9.2.2 hc
      refine ⟨.slice (some (if c = l.toNat then ⟨b, o, none⟩ else ⟨b, o + l.toNat * ed.size, none⟩)) (hh.toNat - l.toNat) (c - l.toNat), ?_, ?_⟩
      · simp only [Instr.sliceAt, Sem.run_bind, run_und hu, Result.andThen_ok, Instr.slice, hb, run_sizeOf_ty h3, Sem.run_pure]
        congr 2
        split
        · rfl
        · simp [Addr.add_off]
      · have hlk : l.toNat = k := by omega
        have hsub : subI (B := Bool) (sl || sh) hh l = ((hh.toNat - l.toNat : Nat) : Int) := by
          unfold subI
          split <;> simp only [alg_mns, alg_ival, alg_ilit] <;> omega
        rw [hsub]
        split
        · exact .osl _ _ _ _ _ b z _ _ _ hr rfl (by omega) (fun hc => absurd hc (by omega))
        · have ho' := ho (by omega)
          refine .osl _ _ _ _ _ b z _ _ _ hr rfl (by omega) (fun _ => ⟨by rw [ho'.1, hlk, hsz], ?_⟩)
          rw [hlk]
          have : (c - k) * sz + k * sz = c * sz := by rw [← Nat.add_mul]; congr 1; omega
          omega
  · -- a slice that stays as it is
    rename_i e id sz s len es c0 hk
    have : vmx = none := by
      rcases rmx with ⟨_, h⟩ | ⟨_, _, h, _⟩
      · exact h
      · cases h
    subst this
    obtain ⟨ed, h3, h4⟩ := has_bind h2
    have h3 := has_opt.1 h3
    rcases has_if h4 with ⟨_, h4'⟩ | ⟨hsz, h4'⟩
    · exact absurd h4' has_fail
    obtain ⟨⟨sl, l⟩, h5, h6⟩ := has_bind h4'
    obtain ⟨⟨sh, hh⟩, h7, h8⟩ := has_bind h6
    obtain ⟨_, h9, h10⟩ := has_bind h8
    have h9 := inOrder_sound h9
    try dsimp only at h9 h10
    have := has_ret.1 h10
    subst this
    have hu := und_slc h1 hk
    have hsub : subI (B := Bool) (sl || sh) hh l = ((hh.toNat - l.toNat : Nat) : Int) := by
      unfold subI
      split <;> simp only [alg_mns, alg_ival, alg_ilit] <;> omega
    rw [hsub]
    simp only [alg_ival]
    cases ha with
    | islNil _ _ _ _ _ hn =>
      subst hn
      have hb := run_sliceBounds (cx := cx) (w := w) (isSlice := true) (len := 0) (cap := 0) (bound_run h5 rlo) (bound_run h7 rhi) h9.1 h9.2.1 (by simpa using h9.2.2) (Nat.le_refl _)
      refine ⟨.slice none 0 0, ?_, ?_⟩
      · have hl0 : l.toNat = 0 := by omega
        have hh0 : hh.toNat = 0 := by omega
        simp only [Instr.sliceAt, Sem.run_bind, run_und hu, Result.andThen_ok, Instr.slice, hb, run_sizeOf_ty h3, Sem.run_pure, hl0, hh0, Nat.sub_zero, if_true]
      · simp only [List.take_nil, List.drop_nil]
        exact .islNil _ _ _ _ _ (by omega)
    | isl _ _ _ _ _ _ b o c vs hn hc hc0 hes hm hr =>
      subst hn
      have hb := run_sliceBounds (cx := cx) (w := w) (isSlice := true) (len := es.length) (cap := c) (bound_run h5 rlo) (bound_run h7 rhi) h9.1 h9.2.1 h9.2.2 hc
      have hlen : ((es.take hh.toNat).drop l.toNat).length = hh.toNat - l.toNat := by
        simp
        omega
      have hval : (Instr.sliceAt t (.slice (some ⟨b, o, none⟩) es.length c) vlo vhi none).run cx.P w =
          .ok (.slice (some (if c = l.toNat then ⟨b, o, none⟩ else ⟨b, o + l.toNat * ed.size, none⟩)) ((es.take hh.toNat).drop l.toNat).length (c - l.toNat)) w := by
        simp only [Instr.sliceAt, Sem.run_bind, run_und hu, Result.andThen_ok, Instr.slice, hb, run_sizeOf_ty h3, Sem.run_pure, hlen]
        congr 2
        split
        · rfl
        · simp [Addr.add_off]
      refine ⟨_, hval, ?_⟩
      by_cases he : es = []
      · subst he
        have hc1 : c - l.toNat = c := by
          have : l.toNat = 0 := by have := h9.2; simp at this; omega
          omega
        split <;> exact .isl _ _ _ _ _ _ _ _ _ vs (by rw [hlen]) (by omega) (fun h => by have := hc0 h; omega) (by simp) (by simp [flat]) (by simp [flat])
      · have hsz' : ed.size = sz := by
          cases es with
          | nil => exact absurd rfl he
          | cons => simpa using hsz
        split
        · rename_i hcl
          have hnil : ((es.take hh.toNat).drop l.toNat) = [] := List.length_eq_zero_iff.1 (by rw [hlen]; omega)
          rw [hnil] at hlen ⊢
          exact .isl _ _ _ _ _ _ _ _ _ vs (by rw [← hlen]) (by omega) (fun h => by have := hc0 h; omega) (by simp) (by simp [flat]) (by simp [flat])
        · refine .isl _ _ _ _ _ _ _ _ _ (fun i => vs (l.toNat * sz + i)) (by rw [hlen]) (by rw [hlen]; omega) (fun h => by have := hc0 h; omega)
            (fun e he => hes e (List.mem_of_mem_take (List.mem_of_mem_drop he))) (fun i x hx => ?_) (fun i x hx => ?_)
          · have := hm _ x (flat_take_drop es sz hes _ _ i x hx)
            rw [hsz', Nat.add_assoc]; exact this
          · exact hr _ x (flat_take_drop es sz hes _ _ i x hx)
  · -- nothing of it
    rename_i e id sz s len es c0 m hk
    obtain ⟨vm, hvm, rm⟩ : ∃ vm, vmx = some vm ∧ Rep M ρ m vm := by
      rcases rmx with ⟨h, _⟩ | ⟨u, v, h, h', h''⟩
      · cases h
      · simp only [Option.some.injEq] at h; subst h; exact ⟨v, h', h''⟩
    obtain ⟨ed, h3, h4⟩ := has_bind h2
    have h3 := has_opt.1 h3
    rcases has_if h4 with ⟨hz, h5⟩ | ⟨_, h5⟩
    · have := has_ret.1 h5
      subst this
      simp only [Bool.and_eq_true] at hz
      obtain ⟨k1, e1⟩ := isZeroC_some hz.1.1 rlo
      obtain ⟨k2, e2⟩ := isZeroC_some hz.1.2 rhi
      obtain ⟨k3, e3⟩ := isZeroC_some hz.2 (.inr ⟨m, vm, rfl, rfl, rm⟩)
      simp only [Option.some.injEq] at e3
      subst e1 e2 e3 hvm
      have hu := und_slc h1 hk
      have hany : ∀ (ad : Option Addr) (n c : Nat), (Instr.sliceAt t (.slice ad n c) (some (.int k1 0)) (some (.int k2 0)) (some (.int k3 0))).run cx.P w = .ok (.slice ad 0 0) w := by
        intro ad n c
        simp only [Instr.sliceAt, Sem.run_bind, run_und hu, Result.andThen_ok, Instr.slice, run_threeZero, run_sizeOf_ty h3, Sem.run_pure, Nat.sub_self, if_true]
      cases ha with
      | islNil => exact ⟨_, hany _ _ _, .islNil _ _ _ _ _ rfl⟩
      | isl _ _ _ _ _ _ b o c vs => exact ⟨_, hany _ _ _, .isl 0 0 false 0 [] true b o 0 vs rfl (Nat.le_refl _) (fun _ => rfl) (by simp) (by simp [flat]) (by simp [flat])⟩
    · exact absurd h5 has_fail
  · -- nothing of our own
    rename_i e nm off sz s len m hk
    obtain ⟨vm, hvm, rm⟩ : ∃ vm, vmx = some vm ∧ Rep M ρ m vm := by
      rcases rmx with ⟨h, _⟩ | ⟨u, v, h, h', h''⟩
      · cases h
      · simp only [Option.some.injEq] at h; subst h; exact ⟨v, h', h''⟩
    obtain ⟨ed, h3, h4⟩ := has_bind h2
    have h3 := has_opt.1 h3
    rcases has_if h4 with ⟨hz, h5⟩ | ⟨_, h5⟩
    · have := has_ret.1 h5
      subst this
      simp only [Bool.and_eq_true] at hz
      obtain ⟨k1, e1⟩ := isZeroC_some hz.1.1 rlo
      obtain ⟨k2, e2⟩ := isZeroC_some hz.1.2 rhi
      obtain ⟨k3, e3⟩ := isZeroC_some hz.2 (.inr ⟨m, vm, rfl, rfl, rm⟩)
      simp only [Option.some.injEq] at e3
      subst e1 e2 e3 hvm
      have hu := und_slc h1 hk
      have hany : ∀ (ad : Option Addr) (n c : Nat), (Instr.sliceAt t (.slice ad n c) (some (.int k1 0)) (some (.int k2 0)) (some (.int k3 0))).run cx.P w = .ok (.slice ad 0 0) w := by
        intro ad n c
        simp only [Instr.sliceAt, Sem.run_bind, run_und hu, Result.andThen_ok, Instr.slice, run_threeZero, run_sizeOf_ty h3, Sem.run_pure, Nat.sub_self, if_true]
      cases ha with
      | osl _ _ _ _ _ b z n c o => exact ⟨_, hany _ _ _, .isl 0 0 false 0 [] true b o 0 (fun _ => undef) rfl (Nat.le_refl _) (fun _ => rfl) (by simp) (by simp [flat]) (by simp [flat])⟩
    · exact absurd h5 has_fail
  · exact absurd h2 has_fail

theorem optM_rep {r : Operand → EE VV} {e : Operand → Value} (hr : OpsRep M ρ r e) {x : Option Operand} {v : Option VV} (h : Has (E.optM r x) v) : OptRep M ρ v (x.map e) := by
  rcases has_optM h with ⟨rfl, rfl⟩ | ⟨a, b, rfl, rfl, h'⟩
  · exact .inl ⟨rfl, rfl⟩
  · exact .inr ⟨b, e a, rfl, rfl, hr a b h'⟩

/-- The names that a reading operation looks at. -/
def OpSees (H K : HH) (r : Operand → EE VV) (o : Oper) : Prop :=
  match o.op with
  | .load _ x | .indexAddr _ x _ | .slice _ x _ _ _ => ∀ u, Has (r x) u → Sees H K u
  | _ => True
theorem OpSees.refl {r : Operand → EE VV} (o : Oper) : OpSees H H r o := by
  unfold OpSees
  split <;> first | trivial | exact fun u _ => .refl u
theorem read_sound {K : HH} (hI : Inv X M ρ K w) {r : Operand → EE VV} {e : Operand → Value} {o : Oper} {m : EE VV} {v : VV} (hm : readE cx H r o = some m) (hv : Has m v) (hK : OpSees H K r o) (hr : OpsRep M ρ r e) :
    Yields cx.P e o w M ρ v := by
  unfold readE at hm
  unfold OpSees at hK
  split at hm
  · rename_i t a ho
    simp only [ho] at hK
    simp only [Option.some.injEq] at hm; subst hm
    obtain ⟨u, h1, h2⟩ := has_bind hv
    exact yields_of (s := Instr.loadAt t (e a)) (by simp [execOp, ho]) (loadE_sound hI h2 (hK u h1) (hr a u h1))
  · rename_i t x i ho
    simp only [Option.some.injEq] at hm; subst hm
    obtain ⟨u, h1, h2⟩ := has_bind hv
    obtain ⟨u', h3, h4⟩ := has_bind h2
    exact yields_of (s := Instr.indexAt t (e x) (e i)) (by simp [execOp, ho]) (indexAddrE_sound hI h4 (hr x u h1) (hr i u' h3))
  · rename_i t x lo hi mx ho
    simp only [ho] at hK
    simp only [Option.some.injEq] at hm; subst hm
    obtain ⟨u, h1, h2⟩ := has_bind hv
    obtain ⟨l, h3, h4⟩ := has_bind h2
    obtain ⟨h, h5, h6⟩ := has_bind h4
    obtain ⟨m, h7, h8⟩ := has_bind h6
    exact yields_of (s := Instr.sliceAt t (e x) (lo.map e) (hi.map e) (mx.map e)) (by simp [execOp, ho]) (sliceE_sound hI h8 (hK u h1) (hr x u h1) (optM_rep hr h3) (optM_rep hr h5) (optM_rep hr h7))
  · cases hm
end
end Go.Sx
