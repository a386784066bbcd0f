/- The executor's writing operations are the model's: all of them. Conditions: none. -/
import Derived.Test.YtajloilpehgcmaaSxOps8
set_option linter.unusedVariables false
set_option linter.unusedSimpArgs false
set_option linter.unusedSectionVars false

namespace Go.Sx
section
variable {X : Nm → Prop} {M : Mem} {ρ ρ' : Rho} {w w' : World} {cx : Cx Int Bool} {H H' H2 : HH}

theorem appendMake_sound (hI : Inv X M ρ H w) {nm : Nm} {ed : TyD} {xt : TypeId} {s x v : VV} (h : Has (appendMake cx H nm ed xt s x) (v, H'))
    (hx : ∀ n, X n → H'.get n = none) {tys : Array TypeId} {t ty e : TypeId} (h0 : tys[0]? = some t) (h1 : tys[1]? = some xt) (ht : cx.P.underlying t = some (.slice e))
    (hd : tyd cx.P e = some ed) (hz0 : ed.size ≠ 0) (hby : ed.bytes ≤ 1048576) (hz : ed.zero.map List.length = some ed.size) {a b : Value} (ha : Rep M ρ s a) (hb : Rep M ρ x b) :
    Gives X M ρ H w ((Builtin.append_ tys ty #[a, b]).run cx.P w) v H' := by
  obtain ⟨i, ud, hi, hud, -, hsz, hbyt, hze⟩ := ty_facts hd
  unfold appendMake at h
  obtain ⟨xd, h2, h3⟩ := has_bind h
  obtain ⟨zs, h4, h5⟩ := has_bind h3
  replace h2 := has_opt.1 h2
  replace h4 := has_opt.1 h4
  clear h h3
  split at h5
  · rename_i k1 k2 n id sz len hk
    obtain ⟨k, h6, h7⟩ := has_bind h5
    have h6 := knownNat_some (has_opt.1 h6)
    subst h6
    rcases has_if h7 with ⟨⟨hl0, hk0, hk1, hzl, hone⟩, h8⟩ | ⟨_, h8⟩
    · obtain ⟨H1, h9, h10⟩ := has_bind h8
      have := has_ret.1 h10
      simp only [Prod.mk.injEq] at this
      obtain ⟨rfl, rfl⟩ := this
      obtain ⟨hfr, rfl⟩ := has_fresh h9
      obtain ⟨base, rfl⟩ := empty_val ha
      have hxu : cx.P.underlying xt = some (.int k1) := und_int h2 hk
      cases hb
      obtain ⟨zv, hzz, hzs⟩ : ∃ z, i.zero = some z ∧ z.cells.size = ed.size := by
        rw [hze] at hz
        cases hq : i.zero with
        | none => simp [hq] at hz
        | some z => simp [hq] at hz; exact ⟨z, rfl, hz⟩
      have hzr : RepL M ρ zs zv.cells.toList := by
        unfold zeroCells at h4
        rw [hze, hzz] at h4
        simp only [Option.map_some, Option.some.injEq] at h4
        subst h4
        exact repL_zero _
      have hwrap : IntKind.i64.wrap (k : Int) = (k : Int) := wrap_small (by omega) (by omega)
      have hb : ¬ ((k : Int) * (i.bytes : Int) > 2 ^ 48) := by
        have h1 : (i.bytes : Int) ≤ 1048576 := by rw [← hbyt]; omega
        have h2 : (k : Int) ≤ 4096 := by omega
        have h3 : (k : Int) * (i.bytes : Int) ≤ 4096 * 1048576 := Int.mul_le_mul h2 h1 (by omega) (by omega)
        omega
      have hge := grownCap_ge w (0 + k) 0 e
      have hn : ¬ k ≤ 0 := by omega
      have h48' : ¬ (281474976710656 < Builtin.nextslicecap k 0 * i.bytes) := by
        rw [nextslicecap_zero hk0]
        have : k * i.bytes ≤ 4096 * 1048576 := Nat.mul_le_mul hk1 (by rw [← hbyt]; exact hby)
        omega
      have h63 : ¬ (9223372036854775807 < (k : Int)) := by omega
      have hold : (Builtin.firstCells i.size 0 (.slice base 0 0)).run cx.P w.drew = .ok #[] w.drew := by
        cases base <;> simp [Builtin.firstCells, loadCells, loadCellsFrom]
      have hrun : (Builtin.append_ tys ty #[.slice base 0 0, .int k2 k]).run cx.P w = .ok (.slice (some ⟨w.heap.size, 0, none⟩) (0 + k) (grownCap w (0 + k) 0 e))
          (w.drew.alloc (.cells (#[] ++ (Builtin.zeroCells zv.cells k).toList.toArray ++ Builtin.zeroCells zv.cells (grownCap w (0 + k) 0 e - (0 + k))) e)) := by
        simp only [Builtin.append_, h0, h1]
        have hb' : ¬ (281474976710656 < (k : Int) * (i.bytes : Int)) := by omega
        have hneg : ¬ ((k : Int) < 0) := by omega
        have hk00 : k ≠ 0 := by omega
        simp [run_und ht, run_und hxu, run_typeInfo_ty hi, sizeOf, asInt, asIntOf, hwrap, hb', hneg, Builtin.lenOf, hk00, h63, h48', Question.forced, hold, zeroValue, hzz, newRow, grownCap]
        intro hk0'
        exact absurd hk0' (Nat.mul_ne_zero hk00 (by rw [← hsz]; exact hz0))
      rw [hrun]
      generalize grownCap w (0 + k) 0 e = g at hge ⊢
      have hrr : RepL M ρ (repl zs k) (Builtin.zeroCells zv.cells k).toList := repl_sound hzr k _ rfl
      have := append_new (X := X) (zs := Builtin.zeroCells zv.cells (g - (0 + k))) hI hfr (notX hx (e := .row (repl zs k) false 0) (by rw [get_new]; simp)) (xs := []) .nil hrr (m := 0 + k) (cap := g) (sz := ed.size)
        (s := false) (so := false) (id := 0) (e := e) (len := (k : Int)) (by omega) hge (by
          simp only [Array.size_append, List.size_toArray, zeroCells_size, hzs, List.length_nil, Nat.zero_add, Array.length_toList]
          rw [← Nat.add_mul]
          congr 1
          omega) w.drew rfl rfl rfl
      simpa using this
    · exact absurd h8 has_fail
  · exact absurd h5 has_fail

theorem repl_all {zs : List VV} (h : zs.all oneCell = true) : ∀ k, (repl zs k).all oneCell = true
  | 0 => rfl
  | k + 1 => by
    show (zs ++ repl zs k).all oneCell = true
    rw [List.all_append, h, repl_all h k]
    rfl

theorem appendE_sound (hI : Inv X M ρ H w) {nm : Nm} {st : TypeId} {xt : Option TypeId} {s x v : VV} (h : Has (appendE cx H nm st xt s x) (v, H'))
    (hx : ∀ n, X n → H'.get n = none) {tys : Array TypeId} {ty : TypeId} (h0 : tys[0]? = some st) (h1 : tys[1]? = xt) {a b : Value} (ha : Rep M ρ s a) (hb : Rep M ρ x b) :
    Gives X M ρ H w ((Builtin.append_ tys ty #[a, b]).run cx.P w) v H' := by
  unfold appendE at h
  obtain ⟨d, h2, h3⟩ := has_bind h
  replace h2 := has_opt.1 h2
  clear h
  split at h3
  · rename_i e hk
    obtain ⟨ed, h4, h5⟩ := has_bind h3
    replace h4 := has_opt.1 h4
    have ht := und_slc h2 hk
    rcases has_if h5 with ⟨_, h6⟩ | ⟨hed, h6⟩
    · exact absurd h6 has_fail
    have hz0 : ed.size ≠ 0 := fun h => hed (.inl h)
    have hby : ed.bytes ≤ 1048576 := by have : ¬ 1048576 < ed.bytes := fun h => hed (.inr (.inl h)); omega
    have hz : ed.zero.map List.length = some ed.size := Classical.byContradiction fun h => hed (.inr (.inr h))
    clear hed h5 h3
    split at h6
    · rename_i xt' k so n
      exact appendMake_sound hI h6 hx h0 h1 ht h4 hz0 hby hz ha hb
    · rename_i xt' hni
      rcases has_if h6 with ⟨_, h7⟩ | ⟨hs, h7⟩
      · exact absurd h7 has_fail
      obtain ⟨t', eu, ht', hu⟩ := slc_of (t := some xt') (by simpa using hs)
      simp only [Option.some.injEq] at ht'
      subst ht'
      obtain ⟨⟨vs, vo, sx, lx⟩, h8, h9⟩ := has_bind h7
      obtain ⟨m, ys, e1, e2, e3, e4⟩ := source_sound hI h8 hb
      dsimp only at h9 e1 e2
      rcases has_if h9 with ⟨_, h10⟩ | ⟨hone, h10⟩
      · exact absurd h10 has_fail
      obtain ⟨_, h11, h12⟩ := has_bind h10
      have hone' : vs.all oneCell = true := by
        unfold cellsOb at h11
        rcases has_if h11 with ⟨_, h13⟩ | ⟨hv0, _⟩
        · exact has_ob h13
        · cases vo with
          | true => exact absurd rfl hv0
          | false => simpa using hone
      unfold appendTo at h12
      have hc1 := repL_oneCell e2 hone'
      clear h6 h7 h9 h10
      split at h12
      · rename_i id sz len
        rcases has_if h12 with ⟨hl0, h13⟩ | ⟨_, h13⟩
        · obtain ⟨base, rfl⟩ := empty_val ha
          exact appendNil_sound hI h13 hx h0 h1 ht hu h4 hz0 hby hz ha e1 e2 e3 e4
        · exact absurd h13 has_fail
      · rename_i m' sz so lo
        rcases has_if h12 with ⟨rfl, h13⟩ | ⟨_, h13⟩
        · exact appendOwn_sound hI h13 hx h0 h1 ht hu h4 hz0 hby hz ha e1 e2 e3 hc1 e4
        · exact absurd h13 has_fail
      · exact absurd h12 has_fail
    · exact absurd h6 has_fail
  · exact absurd h3 has_fail

theorem write_sound (hI : Inv X M ρ H w) {nm : Nm} {r : Operand → EE VV} {e : Operand → Value} {o : Oper} {m : EE (VV × HH)} {v : VV} (hm : writeE cx H nm r o = some m) (hv : Has m (v, H'))
    (hr : OpsRep M ρ r e) (hx : ∀ n, X n → H'.get n = none) : Does X M ρ H w ((execOp e o).run cx.P w) v H' := by
  unfold writeE at hm
  split at hm
  · -- store
    rename_i t a x ho
    simp only [Option.some.injEq] at hm; subst hm
    obtain ⟨va, h1, h2⟩ := has_bind hv
    obtain ⟨vx, h3, h4⟩ := has_bind h2
    obtain ⟨H1, h5, h6⟩ := has_bind h4
    have := has_ret.1 h6
    simp only [Prod.mk.injEq] at this
    obtain ⟨rfl, rfl⟩ := this
    obtain ⟨w', hw, hI', hE⟩ := storeE_sound hI h5 (hr a va h1) (hr x vx h3)
    refine ⟨undef, ρ, w', .inr ⟨?_, rfl⟩, .undef, hI', hE⟩
    simp [execOp, ho, hw]
  · -- append
    rename_i args argTypes ho
    simp only [Option.some.injEq] at hm; subst hm
    split at hv
    · rename_i s x st hargs hst
      obtain ⟨vs, h1, h2⟩ := has_bind hv
      obtain ⟨vx, h3, h4⟩ := has_bind h2
      obtain ⟨val, ρ', w', e1, e2, e3, e4⟩ := appendE_sound (ty := o.type) hI h4 hx hst rfl (hr s vs h1) (hr x vx h3)
      refine ⟨val, ρ', w', .inl ?_, e2, e3, e4⟩
      have hargs' : args.map e = #[e s, e x] := by
        have : args = #[s, x] := by rw [← Array.toArray_toList (xs := args), hargs]
        simp [this]
      simp only [execOp, ho, resolve, Sem.run_bind, Sem.run_pure, Result.andThen_ok, invoke, builtin, hargs', e1]
    · exact absurd hv has_fail
  · -- clear
    rename_i args argTypes ho
    simp only [Option.some.injEq] at hm; subst hm
    split at hv
    · rename_i s st hargs hst
      obtain ⟨d, h1, h2⟩ := has_bind hv
      obtain ⟨u, h3, h4⟩ := has_bind h2
      replace h1 := has_opt.1 h1
      have hs := hr s u h3
      clear hv h2 h3
      split at h4
      · rename_i el m off sz sl len hk
        obtain ⟨ed, h5, h6⟩ := has_bind h4
        obtain ⟨zs, h7, h8⟩ := has_bind h6
        obtain ⟨n, h9, h10⟩ := has_bind h8
        obtain ⟨⟨cs, rs, id⟩, h11, h12⟩ := has_bind h10
        replace h5 := has_opt.1 h5
        replace h7 := has_opt.1 h7
        have h9 := knownNat_some (has_opt.1 h9)
        replace h11 := has_liveRow h11
        dsimp only at h11 h12
        rcases has_if h12 with ⟨⟨rfl, hn0, hl, hsz, hzl, hone⟩, h13⟩ | ⟨_, h13⟩
        · have := has_ret.1 h13
          simp only [Prod.mk.injEq] at this
          obtain ⟨rfl, rfl⟩ := this
          generalize hes : e s = val at hs
          cases hs with
          | osl _ _ _ _ _ b z k c o' hρ hk' hc ho' =>
            have hkn : k = n := by omega
            subst hkn
            obtain ⟨ho1, _⟩ := ho' (by omega)
            subst ho1
            obtain ⟨z0, hz1, hz2⟩ := zero_sound (M := M) (ρ := ρ) (w := w) h5 h7
            have hrep : RepL M ρ (repl zs k) (Builtin.zeroCells z0.cells k).toList := repl_sound hz2 k _ rfl
            have hall : (repl zs k).all oneCell = true := repl_all hone k
            obtain ⟨w', hw, hI', hE⟩ := hI.write (cx := cx) h11 hρ hrep (repL_oneCell hrep hall) (s' := false) (id' := id) (k := o') (by rw [repl_length, hzl]; exact hl)
            refine ⟨undef, ρ, w', .inl ?_, .undef, hI', hE⟩
            have hargs' : args.map e = #[.slice (some ⟨b, o', none⟩) k c] := by
              have : args = #[s] := by rw [← Array.toArray_toList (xs := args), hargs]
              simp [this, hes]
            have hk0 : k ≠ 0 := by omega
            simp only [execOp, ho, resolve, Sem.run_bind, Sem.run_pure, Result.andThen_ok, invoke, builtin, hargs', Builtin.clear_, hst, run_und (und_slc h1 hk), List.getElem?_toArray, List.getElem?_cons_zero]
            simp [hz1, hw, undef]
        · exact absurd h13 has_fail
      · exact absurd h4 has_fail
    · exact absurd hv has_fail
  · cases hm
end
end Go.Sx
