/- Regions whose order is drawn: one operation more. Conditions: none. -/
import Derived.Test.YtajloilpehgcmaaSxReg9
set_option linter.unusedVariables false
set_option linter.unusedSimpArgs false
set_option linter.unusedSectionVars false

namespace Go.Sx
section
variable {X X' : Nm → Prop} {M M' M0 : Mem} {ρ ρ' ρ0 : Rho} {w w' w0 : World} {cx : Cx Int Bool} {H H' H2 Hc K KD KD' H0 : HH} {F : Fence} {n : Nat} {inR : Bool}
variable {rc : Rec Int Bool} {ops : Array Oper} {px : Nm} {T : List (Nat × Bool)} {ts ts' ts1 : List VV} {o : Oper} {v : VV} {q nd : Bool} {k : Nat} {done : List Nat}
variable {pre : Nat → Nat} {lz : List Nat} {S : Nat → List VV × HH} {D : Nat → Prop} {a a' : Act} {p : Nat} {d0 : List Deferred}

theorem own_step (hI : Inv X M ρ KD w) (hE : Ext X KD M ρ w M' ρ' w') (hl : ∀ m, Live KD' m → Live KD m ∨ (KD.get m = none ∧ ¬ X m)) : ∀ b, b < w.heap.size → Own KD' ρ' b → Own KD ρ b := by
  rintro b hb ⟨m, z, h1, h2⟩
  rcases hE.rn m b z h2 with h3 | h3 | h3
  · rcases hl m h1 with h4 | ⟨h4, h5⟩
    · exact ⟨m, z, h4, h3⟩
    · rw [hI.dom m h4 h5] at h3; cases h3
  · omega
  · exact h3
theorem Ext.comp (h : Ext X H0 M0 ρ0 w0 M ρ w) (ho : ∀ b, Own KD ρ b → b < w0.heap.size → Own H0 ρ0 b) (k : Ext X KD M ρ w M' ρ' w') : Ext X H0 M0 ρ0 w0 M' ρ' w' := by
  refine ⟨h.m.trans k.m, h.r.trans k.r, Nat.le_trans h.sz k.sz, fun b hb hn => ?_, fun b o v hm => ?_, fun m b z hr => ?_, (fun m hX => by rw [k.rx m hX, h.rx m hX]), h.st.trans k.st⟩
  · rw [k.fr b (Nat.lt_of_lt_of_le hb h.sz) (fun hc => hn (ho b hc hb)), h.fr b hb hn]
  · rcases k.mn b o v hm with h1 | h1 | h1
    · exact h.mn b o v h1
    · exact .inr (.inl (Nat.le_trans h.sz h1))
    · by_cases hb : b < w0.heap.size
      · exact .inr (.inr (ho b h1 hb))
      · exact .inr (.inl (by omega))
  · rcases k.rn m b z hr with h1 | h1 | h1
    · exact h.rn m b z h1
    · exact .inr (.inl (Nat.le_trans h.sz h1))
    · by_cases hb : b < w0.heap.size
      · exact .inr (.inr (ho b h1 hb))
      · exact .inr (.inl (by omega))

theorem put_defers (a : Act) (d : Option Tmp) (v : Value) : (a.put d v).defers = a.defers := by cases d <;> rfl
theorem put_size (a : Act) (d : Option Tmp) (v : Value) : (a.put d v).tmps.size = a.tmps.size := by cases d <;> simp [Act.put]

theorem readsOf_mem {x : Operand} {u : VV} {m : Nm} (hop : (∃ t, o.op = .load t x) ∨ (∃ t i, o.op = .indexAddr t x i) ∨ ∃ t lo hi mx, o.op = .slice t x lo hi mx)
    (hu : Has (operandE ts T x) u) (hm : m ∈ nmOfV u) : m ∈ readsOf ts o := by
  have key : m ∈ nmOp ts x := by
    cases x with
    | tmp t =>
      unfold operandE at hu
      dsimp only at hu
      unfold strip at hu
      unfold nmOp
      dsimp only
      split at hu
      · rename_i tg g v' hg
        rcases has_if hu with ⟨_, h2⟩ | ⟨_, h2⟩
        · have := has_ret.1 h2
          subst this
          rw [hg]
          unfold nmOfV at hm
          split at hm <;> simp_all [nmsV]
        · exact absurd h2 has_fail
      · exact absurd hu has_fail
      · have := has_ret.1 hu
        rw [← this] at hm
        unfold nmOfV at hm
        split at hm
        · rename_i hg; rw [hg]; exact hm
        · rename_i hg; rw [hg]; exact hm
        · cases hm
    | const c =>
      exfalso
      have := has_opt.1 hu
      unfold constV at this
      split at this <;> simp only [Option.some.injEq, reduceCtorEq] at this <;> subst this <;> simp [nmOfV, il, bl] at hm
    | func f =>
      exfalso
      have := has_ret.1 hu
      subst this
      simp [nmOfV] at hm
    | global g => exact absurd hu has_fail
  unfold readsOf
  rcases hop with ⟨t', hop⟩ | ⟨t', i, hop⟩ | ⟨t', lo, hi, mx, hop⟩ <;> rw [hop] <;> exact key

theorem readsOf_refine (h : Refines ts ts1) (o : Oper) : readsOf ts1 o = readsOf ts o := by
  have key : ∀ x, nmOp ts1 x = nmOp ts x := by
    intro x
    cases x with
    | tmp t =>
      unfold nmOp
      dsimp only
      rcases h.2 t with h1 | ⟨b, h1, h2⟩
      · rw [h1]
      · rw [h1, h2]; rfl
    | _ => rfl
  unfold readsOf
  split <;> first | exact key _ | rfl

theorem live_of_some {e : Ent Int Bool} {m : Nm} (h : H.get m = some e) (he : e.live) : Live H m := ⟨e, h, he⟩

theorem DInv.step (hC : Canon cx rc q ops px pre lz S) (hF : FenceOk F inR) (hR : RecOk cx.P rc) (hG : RecGrow rc) (hX : ∀ m, X m → (S lz.length).2.get m = none)
    (h : DInv X ops px pre lz S M0 ρ0 H0 w0 d0 D a w M ρ KD p) {i k : Nat} (hi : lz[i]? = some k) (hk : ¬ D k) (hp : ∀ j, (pre k).testBit j = true → D j)
    {Kn : Act → World → Prop} {Q : Exit → Act → World → Prop} (hK : ∀ a' w' M' ρ' KD' p', DInv X ops px pre lz S M0 ρ0 H0 w0 d0 (fun j => D j ∨ j = k) a' w' M' ρ' KD' p' → Kn a' w') :
    wpOpIn F n cx.P ops Q k Kn a w := by
  have hile := Nat.le_of_lt (some_lt hi)
  have hi1 : i + 1 ≤ lz.length := some_lt hi
  obtain ⟨o, ts1, gr, ho, hg, hc⟩ := step_cases (ts' := (S (i + 1)).1) (H' := (S (i + 1)).2) (hC.step i k hi)
  have hdst : dstOf ops k = o.dst := by simp [dstOf, ho]
  have href := guard_refines hg
  have named := TmpOk.named hC h.tmp h.closed hi hk hp ho
  have named1 : ∀ t ∈ tmpsOf ops o, Rep M ρ (getT ts1 t) (a.tmps.getD t undef) := fun t ht => href.rep (named t ht)
  have tagged : needsT ops.toList = true → ∀ t ∈ tmpsOf ops o, ∀ tg g v, getT ts1 t = .may tg g v → (Holds ops a.tmps tg ↔ g = true) := by
    intro hn t ht tg g v hm
    refine TmpOk.tagged hC h.tmp h.closed hi hk hp ho hn t ht tg g v ?_
    rcases href.2 t with h3 | ⟨b, _, h3⟩
    · rw [← h3]; exact hm
    · rw [h3] at hm; cases hm
  have operands : ∀ t, .tmp t ∈ o.op.operands.toList → t ∈ tmpsOf ops o := by
    intro t ht
    unfold tmpsOf
    exact List.mem_append_left _ (List.mem_filterMap.2 ⟨.tmp t, ht, rfl⟩)
  have hev : EvOk (needsT ops.toList) ops ts1 a M ρ o.op.operands.toList :=
    evOk_intro (fun t ht => named1 t (operands t ht)) fun hn t ht tg g v hm _ hh => (tagged hn t (operands t ht) tg g v hm).1 hh
  have hgs := guard_sound hg (a := a) (M := M) (ρ := ρ) fun j want hgd tj hj =>
    ⟨named tj (guard_named hgd hj), fun tg g v hm => TmpOk.tagged hC h.tmp h.closed hi hk hp ho (guard_needs ho hgd) tj (guard_named hgd hj) tg g v hm⟩
  have closed' : Closed pre (fun j => D j ∨ j = k) := by
    rintro x (hx | rfl) j hj
    · exact .inl (h.closed x hx j hj)
    · exact .inl (hp j hj)
  have noX : ∀ j, j ≤ lz.length → ∀ m, X m → (S j).2.get m = none := fun j hj m hm => hC.none_of hG hj (Nat.le_refl _) (hX m hm)
  -- memory as it was, no effect being told
  have mem0 : ¬ IsEff ops k → (IsNew ops k → (S (i + 1)).2 = (S i).2) → MemOk ops px lz S (fun j => D j ∨ j = k) KD p := by
    intro hE hN
    refine ⟨h.mem.ple, h.mem.pdef, fun x e hx he => ?_, h.mem.sub, fun m hm => ?_, fun x e hx he hD hn1 hn2 => ?_⟩
    · rw [← h.mem.eff x e hx he]
      exact ⟨fun h1 => h1.resolve_right (by rintro rfl; exact hE he), .inl⟩
    · rcases h.mem.sup m hm with h1 | ⟨i', k', h3, h4, h5, h6⟩
      · exact .inl h1
      · exact .inr ⟨i', k', h3, h4, .inl h5, h6⟩
    · rcases hD with hD | rfl
      · exact h.mem.news x e hx he hD hn1 hn2
      · have := hC.nodup _ _ _ hx hi
        subst this
        rw [hN he] at hn2
        exact absurd hn1 hn2
  -- memory as it was, the effect having come to nothing
  have mem1 : IsEff ops k → (S (i + 1)).2 = (S i).2 → MemOk ops px lz S (fun j => D j ∨ j = k) KD (i + 1) := by
    intro hE hs
    obtain ⟨e1, e2⟩ := MemOk.eff_next hC hG h.mem hi hk hp h.closed hE
    obtain ⟨s1, s2⟩ := MemOk.eff_sub hC hG h.mem hi hk hp h.closed hE
    refine ⟨hi1, .inr ⟨k, by simpa using hi, hE, by omega⟩, fun x e hx he => ?_, fun m e hm => s1 m e (by rw [← hs]; exact hm), fun m hm => ?_, fun x e hx he hD hn1 hn2 => ?_⟩
    · constructor
      · rintro (h1 | rfl)
        · have := (h.mem.eff x e hx he).1 h1; omega
        · have := hC.nodup _ _ _ hx hi; omega
      · intro h1
        by_cases hxi : x = i
        · subst hxi
          rw [hi] at hx
          simp only [Option.some.injEq] at hx
          exact .inr hx.symm
        · left
          refine (h.mem.eff x e hx he).2 ?_
          by_cases hpx : p ≤ x
          · exact absurd he (e2 x e hpx (by omega) hx)
          · omega
    · by_cases h0 : (S i).2.get m = none
      · obtain ⟨i', k', h3, h4, h5, h6⟩ := s2 m hm h0
        exact .inr ⟨i', k', h3, by omega, .inl h5, h6⟩
      · rw [hs]; exact .inl h0
    · rcases hD with hD | rfl
      · exact h.mem.news x e hx he hD hn1 hn2
      · exact absurd he (eff_not_new hE)
  have mem' : (S (i + 1)).2 = (S i).2 → ∃ p', MemOk ops px lz S (fun j => D j ∨ j = k) KD p' := by
    intro hs
    by_cases hE : IsEff ops k
    · exact ⟨_, mem1 hE hs⟩
    · exact ⟨_, mem0 hE fun _ => hs⟩
  -- a value is put, and that is all
  have put0 : (S (i + 1)).2 = (S i).2 → ∀ val, (∀ d, dstOf ops k = some d → (d : Nat) < (S 0).1.length → Rep M ρ (getT (S (i + 1)).1 d) val) → Kn (a.put o.dst val) w := by
    intro hs val hv
    obtain ⟨p', hm⟩ := mem' hs
    rw [← hdst]
    exact hK _ w M ρ KD p' ⟨closed', TmpOk.put hC h.tmp hi h.size hv, h.inv, h.ext, hm, by rw [put_defers]; exact h.defers, by rw [put_size]; exact h.size, h.le0⟩
  have rep_dst : ∀ (M' : Mem) (ρ' : Rho) (x : VV) (val : Value), Rep M' ρ' x val → (S (i + 1)).1 = putT ts1 o.dst x →
      ∀ d, dstOf ops k = some d → (d : Nat) < (S 0).1.length → Rep M' ρ' (getT (S (i + 1)).1 d) val := by
    intro M' ρ' x val hv hs d hd hlt
    rw [hdst] at hd
    have hl : (d : Nat) < ts1.length := by rw [href.1, hC.len i hile]; exact hlt
    rw [hs, hd, getT_put, if_pos ⟨rfl, hl⟩]
    exact hv
  have sees : ∀ {T : List (Nat × Bool)}, ¬ IsEff ops k → OpSees (S i).2 KD (operandE ts1 T) o ∨ ¬ (∀ x ∈ o.op.operands.toList, ∀ u, Has (operandE ts1 T x) u → Rep M ρ u (a.eval x)) := by
    intro T hE
    by_cases hR' : ∀ x ∈ o.op.operands.toList, ∀ u, Has (operandE ts1 T x) u → Rep M ρ u (a.eval x)
    · left
      have main : ∀ x, ((∃ t, o.op = .load t x) ∨ (∃ t i, o.op = .indexAddr t x i) ∨ ∃ t lo hi mx, o.op = .slice t x lo hi mx) → x ∈ o.op.operands.toList → ∀ u, Has (operandE ts1 T x) u → Sees (S i).2 KD u := by
        intro x hop hx u hu m hm hne
        have hmr : m ∈ readsOf (S i).1 o := by rw [← readsOf_refine href]; exact readsOf_mem hop hu hm
        have hrep := hR' x hx u hu
        have hρ : ρ m ≠ none := by
          unfold nmOfV at hm
          split at hm
          · simp only [List.mem_singleton] at hm
            subst hm
            generalize a.eval x = vx at hrep
            cases hrep with
            | ptr _ _ _ b z hr h0 => simp [hr]
          · simp only [List.mem_singleton] at hm
            subst hm
            generalize a.eval x = vx at hrep
            cases hrep with
            | osl _ _ _ _ _ b z n c o hr => simp [hr]
          · cases hm
        have hKD : KD.get m ≠ none := fun h0 => hρ (h.inv.dom m h0 fun hXm => hne (noX i hile m hXm))
        exact MemOk.read_sees hC hG h.mem hi hk hp h.closed hE hne hKD fun x e hx => hC.reads i x k e o hi hx ho m hmr
      unfold OpSees
      split
      · rename_i t x hop
        exact main x (.inl ⟨t, hop⟩) (by rw [hop]; simp [Op.operands])
      · rename_i t x j hop
        exact main x (.inr (.inl ⟨t, j, hop⟩)) (by rw [hop]; simp [Op.operands])
      · rename_i t x lo hi mx hop
        exact main x (.inr (.inr ⟨t, lo, hi, mx, hop⟩)) (by rw [hop]; simp [Op.operands])
      · trivial
    · exact .inr hR'
  have sees' : ∀ {T : List (Nat × Bool)}, ¬ IsEff ops k → (needsT ops.toList = false → T = []) → Holds ops a.tmps T → OpSees (S i).2 KD (operandE ts1 T) o := by
    intro T hE hT hH
    exact (sees hE).resolve_right fun hn => hn (hev T hT hH)
  unfold wpOpIn
  rw [ho]
  dsimp only
  rcases hc with ⟨rfl, e1, e2⟩ | ⟨rfl, v, hv, hrun, e1⟩ | ⟨T, g, rfl, hqo, v, H3, hrun, e1, e2⟩
  · have hw : Region.wanted o (yielded ops a.tmps) = false := hgs
    rw [hw]
    exact ⟨about_ok hF, put0 e2 undef (rep_dst M ρ .undef undef .undef e1)⟩
  · have hw : Region.wanted o (yielded ops a.tmps) = true := hgs
    rw [hw, if_pos rfl]
    cases hq : effectOp o with
    | true =>
      have hE : IsEff ops k := ⟨o, ho, hq⟩
      obtain ⟨s1, s2⟩ := MemOk.eff_sub hC hG h.mem hi hk hp h.closed hE
      obtain ⟨n1, n2⟩ := MemOk.eff_next hC hG h.mem hi hk hp h.closed hE
      have hextra : ∀ m, KD.get m ≠ none → (S i).2.get m = none → (S (i + 1)).2.get m = none := by
        intro m h1 h2
        obtain ⟨i', k', h3, h4, h5, h6, h7, h8, h9⟩ := s2 m h1 h2
        exact hC.none_of hG (by omega) (Nat.le_of_lt (some_lt h3)) h8
      have hgr : Grow (S i).2 (S (i + 1)).2 := hC.grow1 hG (some_lt hi)
      refine run_effect hF hR hq hrun (h.inv.sub s1) (fun m hm => ?_) (fun _ => rfl) (by intro x hx; simp at hx) hev ?_
      · rcases hm with hm | ⟨h1, h2⟩
        · exact noX (i + 1) hi1 m hm
        · exact hextra m h1 h2
      · rintro val w' ⟨M', ρ', h3, h4, h5⟩
        obtain ⟨j1, j2⟩ := Inv.join h.inv s1 hgr h4 h5 hextra (noX (i + 1) hi1)
        rw [← hdst]
        refine hK _ w' M' ρ' (joinH (S (i + 1)).2 KD) (i + 1) ⟨closed', TmpOk.put hC (h.tmp.mono j2.m j2.r) hi h.size (rep_dst M' ρ' v val h3 e1), j1, Ext.comp h.ext h.le0 j2, ?_, by rw [put_defers]; exact h.defers, by rw [put_size]; exact h.size, ?_⟩
        · refine ⟨hi1, .inr ⟨k, by simpa using hi, hE, by omega⟩, fun x e hx he => ?_, fun m e hm => by rw [get_join, hm]; rfl, fun m hm => ?_, fun x e hx he hD hn1 hn2 => ?_⟩
          · constructor
            · rintro (h1 | rfl)
              · have := (h.mem.eff x e hx he).1 h1; omega
              · have := hC.nodup _ _ _ hx hi; omega
            · intro h1
              by_cases hxi : x = i
              · subst hxi
                rw [hi] at hx
                simp only [Option.some.injEq] at hx
                exact .inr hx.symm
              · left
                refine (h.mem.eff x e hx he).2 ?_
                by_cases hpx : p ≤ x
                · exact absurd he (n2 x e hpx (by omega) hx)
                · omega
          · rw [get_join] at hm
            cases hq1 : (S (i + 1)).2.get m with
            | some e => exact .inl (by simp)
            | none =>
              rw [hq1] at hm
              simp only [Option.none_or] at hm
              have h0 := hC.none_of hG (i := i) (by omega) hi1 hq1
              obtain ⟨i', k', h6, h7, h8, h9, h10, h11, h12⟩ := s2 m hm h0
              refine .inr ⟨i', k', h6, by omega, .inl h8, h9, h10, h11, ?_⟩
              rw [get_join, hq1]
              simpa using h12
          · rcases hD with hD | rfl
            · have := h.mem.news x e hx he hD hn1 hn2
              rw [get_join]
              simp only [ne_eq, Option.or_eq_none_iff, not_and]
              exact fun _ => this
            · exact absurd he (eff_not_new hE)
        · intro b hb hlt
          refine h.le0 b (own_step h.inv j2 (fun m hm => ?_) b (Nat.lt_of_lt_of_le hlt h.ext.sz) hb) hlt
          obtain ⟨e, h6, h7⟩ := hm
          rw [get_join] at h6
          cases hq1 : (S (i + 1)).2.get m with
          | none =>
            rw [hq1] at h6
            exact .inl ⟨e, by simpa using h6, h7⟩
          | some e' =>
            rw [hq1] at h6
            simp only [Option.some_or, Option.some.injEq] at h6
            subst h6
            rcases hgr.lives m ⟨e', hq1, h7⟩ with h8 | h8
            · exact .inl (live_sub s1 h8)
            · right
              refine ⟨?_, fun hXm => by rw [noX (i + 1) hi1 m hXm] at hq1; cases hq1⟩
              cases hkd : KD.get m with
              | none => rfl
              | some e2 =>
                have := hextra m (by simp [hkd]) h8
                rw [hq1] at this; cases this
    | false =>
      have hnE : ¬ IsEff ops k := by
        rintro ⟨o', h1, h2⟩
        rw [ho] at h1
        simp only [Option.some.injEq] at h1
        subst h1
        rw [hq] at h2; cases h2
      cases hn : newOp o with
      | true =>
        have hN : IsNew ops k := ⟨o, ho, hn⟩
        obtain ⟨h3, hd, cs, s, id, h4, h5⟩ := run_new hn hrun
        have hpi := MemOk.new_late hC hG h.mem hi hk h.closed hN
        have hXk : ¬ X (k :: px) := fun hXm => by
          have := noX (i + 1) hi1 _ hXm
          rw [h4, get_new, if_pos rfl] at this; cases this
        have hKk : KD.get (k :: px) = none := by
          cases hkd : KD.get (k :: px) with
          | none => rfl
          | some e =>
            exfalso
            rcases h.mem.sup (k :: px) (by simp [hkd]) with h6 | ⟨i', k', h6, _, h7, _, h8, _⟩
            · exact h6 (hC.none_of hG hpi hile h3)
            · simp only [List.cons.injEq] at h8
              obtain ⟨rfl, _⟩ := h8
              exact hk h7
        refine wpIn_does hF hd (h5 h.inv hKk hXk (fun _ => rfl) (by intro x hx; simp at hx) hev) ?_
        intro val ρ' w' h6 h7 h8
        rw [← hdst]
        refine hK _ w' M ρ' (KD.new (k :: px) (.row cs s id)) p ⟨closed', TmpOk.put hC (h.tmp.mono h8.m h8.r) hi h.size (rep_dst M ρ' v val h6 e1), h7, Ext.comp h.ext h.le0 h8, ?_, by rw [put_defers]; exact h.defers, by rw [put_size]; exact h.size, ?_⟩
        · refine ⟨h.mem.ple, h.mem.pdef, fun x e hx he => ?_, fun m e hm => ?_, fun m hm => ?_, fun x e hx he hD hn1 hn2 => ?_⟩
          · rw [← h.mem.eff x e hx he]
            exact ⟨fun h1 => h1.resolve_right (by rintro rfl; exact hnE he), .inl⟩
          · have := h.mem.sub m e hm
            rw [get_new, if_neg]
            · exact this
            · rintro rfl
              rw [hKk] at this; cases this
          · by_cases hmk : m = k :: px
            · subst hmk
              exact .inr ⟨i, k, hi, hpi, .inr rfl, hN, rfl, h3, by rw [h4, get_new, get_new, if_pos rfl, if_pos rfl]⟩
            · rw [get_new, if_neg hmk] at hm ⊢
              rcases h.mem.sup m hm with h1 | ⟨i', k', h9, h10, h11, h12⟩
              · exact .inl h1
              · exact .inr ⟨i', k', h9, h10, .inl h11, h12⟩
          · rw [get_new]
            split
            · simp
            · rename_i hne
              rcases hD with hD | rfl
              · exact h.mem.news x e hx he hD hn1 hn2
              · exact absurd rfl hne
        · intro b hb hlt
          refine h.le0 b (own_step h.inv h8 (fun m hm => ?_) b (Nat.lt_of_lt_of_le hlt h.ext.sz) hb) hlt
          obtain ⟨e, h9, h10⟩ := hm
          rw [get_new] at h9
          split at h9
          · rename_i hmk
            subst hmk
            exact .inr ⟨hKk, hXk⟩
          · exact .inl ⟨e, h9, h10⟩
      | false =>
        obtain ⟨h3, hd, h5⟩ := run_quiet hq hn hrun
        refine wpIn_yields hF hd (h5 h.inv (fun _ => rfl) (pick_needs ho) (by intro x hx; simp at hx) (sees' hnE (fun _ => rfl) (by intro x hx; simp at hx)) hev) ?_
        intro val h6
        exact put0 h3 val (rep_dst M ρ v val h6 e1)
  · obtain ⟨hw, hh, _, j, want, tg, hgd, rfl⟩ := hgs
    rw [hw]
    obtain ⟨hq1, hq2⟩ := quiet_class hqo
    have hnE : ¬ IsEff ops k := by
      rintro ⟨o', h1, h2⟩
      rw [ho] at h1
      simp only [Option.some.injEq] at h1
      subst h1
      rw [hq1] at h2; cases h2
    cases g with
    | true =>
      rw [if_pos rfl]
      obtain ⟨_, hd, h5⟩ := run_quiet hq1 hq2 hrun
      have hT : needsT ops.toList = false → ((j, want) :: tg) = [] := fun hf => by rw [guard_needs ho hgd] at hf; cases hf
      refine wpIn_yields hF hd (h5 h.inv hT (pick_needs ho) (hh rfl) (sees' hnE hT (hh rfl)) hev) ?_
      intro val h6
      exact put0 e2 val (rep_dst M ρ _ val (.may _ _ _ _ (fun _ => h6) (fun h => by cases h)) e1)
    | false =>
      exact ⟨about_ok hF, put0 e2 undef (rep_dst M ρ _ undef (.may _ _ _ _ (fun h => by cases h) (fun _ => rfl)) e1)⟩
end
end Go.Sx
