/- Regions: all of them. Conditions: none. -/
import Derived.Test.YtajloilpehgcmaaSxReg10
set_option linter.unusedVariables false
set_option linter.unusedSimpArgs false
set_option linter.unusedSectionVars false

namespace Go.Sx
section
variable {X X' : Nm → Prop} {M M' M0 : Mem} {ρ ρ' ρ0 : Rho} {w w' w0 : World} {cx : Cx Int Bool} {H H' H2 Hc K KD KD' H0 : HH} {F : Fence} {n : Nat} {inR : Bool}
variable {rc : Rec Int Bool} {ops : Array Oper} {px : Nm} {T : List (Nat × Bool)} {ts ts' ts1 : List VV} {o : Oper} {v : VV} {q nd : Bool} {k : Nat} {done : List Nat}
variable {lz : List Nat} {S : Nat → List VV × HH} {D : Nat → Prop} {a a' : Act} {p : Nat} {d0 : List Deferred}

abbrev PRE (ops : Array Oper) : Nat → Nat := fun i => (preGo ops.toList []).getD i 0
def LD (listed : Array Bool) : Nat → Prop := fun k => listed.getD k false = true

theorem ready_mem {listed : Array Bool} {k : Nat} (hs : listed.size = ops.size) : k ∈ Region.ready .any ops listed ↔ ∃ o, ops[k]? = some o ∧ ¬ LD listed k ∧ ∀ e ∈ o.after.toList, Region.binds .any e = true → LD listed e.on := by
  unfold Region.ready LD
  simp only [List.mem_filter, List.mem_range, Bool.and_eq_true, Bool.not_eq_true']
  constructor
  · rintro ⟨h1, h2, h3⟩
    have ho : ops[k]? = some ops[k] := Array.getElem?_eq_getElem h1
    refine ⟨ops[k], ho, ?_, ?_⟩
    · rw [Array.getD_eq_getD_getElem?] at h2 ⊢
      rw [Array.getElem?_eq_getElem (by omega)] at h2 ⊢
      simp only [Option.getD_some] at h2 ⊢
      rw [h2]; simp
    · rw [ho] at h3
      simp only [Option.map_some, Option.getD_some, Array.all_eq_true', Bool.or_eq_true, Bool.not_eq_true'] at h3
      intro e he hb
      rcases h3 e (by simpa using he) with h4 | h4
      · rw [hb] at h4; cases h4
      · exact h4
  · rintro ⟨o, ho, h2, h3⟩
    have h1 := (Array.getElem?_eq_some_iff.1 ho).1
    refine ⟨h1, ?_, ?_⟩
    · rw [Array.getD_eq_getD_getElem?] at h2 ⊢
      rw [Array.getElem?_eq_getElem (by omega)] at h2 ⊢
      simp only [Option.getD_some] at h2 ⊢
      simpa using h2
    · rw [ho]
      simp only [Option.map_some, Option.getD_some, Array.all_eq_true', Bool.or_eq_true, Bool.not_eq_true']
      intro e he
      cases hb : Region.binds .any e with
      | false => exact .inl rfl
      | true => exact .inr (h3 e (by simpa using he) hb)

theorem ld_set {listed : Array Bool} {k : Nat} (hk : k < listed.size) : LD (listed.setIfInBounds k true) = fun j => LD listed j ∨ j = k := by
  funext j
  unfold LD
  rw [Array.getD_eq_getD_getElem?, Array.getD_eq_getD_getElem?, Array.getElem?_setIfInBounds]
  apply propext
  by_cases h : k = j
  · subst h
    simp [hk]
  · simp [h, Ne.symm h]

theorem drawn_any (hC : Canon cx rc q ops px (PRE ops) lz S) (hF : FenceOk F inR) (hR : RecOk cx.P rc) (hG : RecGrow rc) (hX : ∀ m, X m → (S lz.length).2.get m = none) {Q : Exit → Act → World → Prop}
    (hQ : ∀ a' w' M' ρ', RepL M' ρ' (S lz.length).1 a'.tmps.toList → Inv X M' ρ' (S lz.length).2 w' → Ext X H0 M0 ρ0 w0 M' ρ' w' → a'.defers = d0 → Q .normal a' w') :
    ∀ (fuel : Nat) (listed : Array Bool) (a : Act) (w : World) (M : Mem) (ρ : Rho) (KD : HH) (p : Nat), listed.size = ops.size → listed.toList.count false ≤ fuel →
      DInv X ops px (PRE ops) lz S M0 ρ0 H0 w0 d0 (LD listed) a w M ρ KD p → wpAnyIn F n cx.P .any ops Q fuel listed a w := by
  -- nothing is ready: all is done
  have all : ∀ (listed : Array Bool) (a : Act) (w : World) (M : Mem) (ρ : Rho) (KD : HH) (p : Nat), listed.size = ops.size → Region.ready .any ops listed = [] →
      DInv X ops px (PRE ops) lz S M0 ρ0 H0 w0 d0 (LD listed) a w M ρ KD p → ∀ i k : Nat, lz[i]? = some k → LD listed k := by
    intro listed a w M ρ KD p hs hr h i
    induction i using Nat.strongRecOn with
    | _ i ih =>
      intro k hk
      by_cases hD : LD listed k
      · exact hD
      · exfalso
        obtain ⟨o, ho⟩ := hC.op hk
        have : k ∈ Region.ready .any ops listed := by
          rw [ready_mem hs]
          refine ⟨o, ho, hD, fun e he hb => ?_⟩
          have hbit : (PRE ops k).testBit e.on = true := (pre_spec ho).2 ⟨e, he, hb, .inl rfl⟩
          obtain ⟨i', h1, h2⟩ := hC.behind i k hk e.on hbit
          exact ih i' h1 e.on h2
        rw [hr] at this
        cases this
  have fin : ∀ (listed : Array Bool) (a : Act) (w : World) (M : Mem) (ρ : Rho) (KD : HH) (p : Nat), listed.size = ops.size → Region.ready .any ops listed = [] →
      DInv X ops px (PRE ops) lz S M0 ρ0 H0 w0 d0 (LD listed) a w M ρ KD p → Q .normal a w := by
    intro listed a w M ρ KD p hs hr h
    have hall := all listed a w M ρ KD p hs hr h
    have hall' : ∀ k, k ∈ lz → LD listed k := by
      intro k hk
      obtain ⟨i, hi⟩ := List.mem_iff_getElem?.1 hk
      exact hall i k hi
    have hlen := hC.len lz.length (Nat.le_refl _)
    refine hQ a w M ρ ⟨?_, fun t x y hx hy => ?_⟩ (h.inv.congr (h.mem.final hC hG hall')) h.ext h.defers
    · rw [hlen, ← h.size]; simp
    · have := h.tmp t lz.length (Nat.le_refl _) fun k hk => ⟨fun _ => ?_, fun _ => hall' k (hC.dst_lt hk)⟩
      · have h1 : getT (S lz.length).1 t = x := by simp [getT, hx]
        have h2 : a.tmps.getD t undef = y := by
          rw [Array.getElem?_toList] at hy
          rw [Array.getD_eq_getD_getElem?, hy]; rfl
        rw [h1, h2] at this
        exact this
      · obtain ⟨m, hm⟩ := List.mem_iff_getElem?.1 (hC.dst_lt hk)
        exact ⟨m, some_lt hm, hm⟩
  intro fuel
  induction fuel with
  | zero =>
    intro listed a w M ρ KD p hs hc h
    have hr : Region.ready .any ops listed = [] := by
      rw [List.eq_nil_iff_forall_not_mem]
      intro k hk
      obtain ⟨o, ho, h1, _⟩ := (ready_mem hs).1 hk
      have hlt := (Array.getElem?_eq_some_iff.1 ho).1
      have hc0 : listed.toList.count false = 0 := by omega
      rw [List.count_eq_zero] at hc0
      apply h1
      unfold LD
      rw [Array.getD_eq_getD_getElem?, Array.getElem?_eq_getElem (by omega)]
      simp only [Option.getD_some]
      cases hb : listed[k]'(by omega) with
      | true => rfl
      | false =>
        exfalso
        refine hc0 ?_
        rw [← hb]
        simp
    exact ⟨hr, fin listed a w M ρ KD p hs hr h⟩
  | succ fuel ih =>
    intro listed a w M ρ KD p hs hc h
    refine ⟨fun hr => fin listed a w M ρ KD p hs hr h, fun k hk => ?_⟩
    obtain ⟨o, ho, hnD, hpre⟩ := (ready_mem hs).1 hk
    have hlt : k < listed.size := by have := (Array.getElem?_eq_some_iff.1 ho).1; omega
    obtain ⟨i, hi⟩ := List.mem_iff_getElem?.1 (hC.all k (by omega))
    refine DInv.step hC hF hR hG hX h hi hnD (fun j hj => ?_) fun a' w' M' ρ' KD' p' h' => ?_
    · obtain ⟨e, h1, h2, h3⟩ := (pre_spec ho).1 hj
      have hD := hpre e h1 h2
      rcases h3 with rfl | ⟨_, h3⟩
      · exact hD
      · exact h.closed e.on hD j h3
    · refine ih (listed.setIfInBounds k true) a' w' M' ρ' KD' p' (by simpa using hs) ?_ (by rw [ld_set hlt]; exact h')
      rw [Array.toList_setIfInBounds, List.count_set (by simpa using hlt)]
      have hb : listed.toList[k]'(by simpa using hlt) = false := by
        have : ¬ LD listed k := hnD
        unfold LD at this
        rw [Array.getD_eq_getD_getElem?, Array.getElem?_eq_getElem hlt] at this
        simpa using this
      rw [hb]
      have hpos : 0 < listed.toList.count false := by
        rw [List.count_pos_iff]
        exact List.mem_of_getElem (i := k) hb
      have e1 : (false == false) = true := rfl
      have e2 : (true == false) = false := rfl
      rw [e1, e2, if_pos rfl, if_neg (by simp)]
      omega

theorem getT_map (ts : List VV) (t : Tmp) : getT (ts.map noMay) t = noMay (getT ts t) := by
  unfold getT
  rw [List.getElem?_map]
  cases ts[t]? with
  | none => rfl
  | some x => rfl
theorem noMay_notMay (v : VV) : NotMay (noMay v) := by
  intro tg g u he
  cases v <;> cases he
theorem rep_noMay {val : Value} (h : Rep M ρ v val) : Rep M ρ (noMay v) val := by
  unfold noMay
  split
  · exact .top _
  · exact h

theorem evRegion_grow (hG : RecGrow rc) {draw : Bool} {st st' : St Int Bool} {e : Ex} (h : Has (evRegion cx rc px ops draw st) (e, st')) : Grow st.H st'.H := by
  unfold evRegion at h
  dsimp only at h
  obtain ⟨r, h1, h2⟩ := has_bind h
  have := has_ret.1 h2
  simp only [Prod.mk.injEq] at this
  obtain ⟨_, rfl⟩ := this
  dsimp only
  rcases has_if h1 with ⟨_, h3⟩ | ⟨_, h3⟩
  · unfold runDraw at h3
    dsimp only at h3
    rcases has_if h3 with ⟨_, h4⟩ | ⟨_, h4⟩
    · obtain ⟨r', h5, h6⟩ := has_bind h4
      rcases has_if h6 with ⟨_, h7⟩ | ⟨_, h7⟩
      · have := has_ret.1 h7
        subst this
        have : ∀ (l : List Nat) (ts : List VV) (H : HH) (r : List VV × HH × List (Nat × List Nm × List Nm)), Has (traceOps cx rc (allQuiet ops.toList) ops (st.c :: px) l ts H) r → Grow H r.2.1 := by
          intro l
          induction l with
          | nil => intro ts H r h; have := has_ret.1 h; subst this; exact .refl _
          | cons k l ih =>
            intro ts H r h
            obtain ⟨s, h1, h2⟩ := has_bind h
            obtain ⟨s', h3, h4⟩ := has_bind h2
            have := has_ret.1 h4
            subst this
            exact (step_grow (ts' := s.1) (H' := s.2) hG h1).trans (ih _ _ s' h3)
        exact this _ _ _ _ h5
      · exact absurd h7 has_fail
    · exact absurd h4 has_fail
  · rcases has_if h3 with ⟨_, h4⟩ | ⟨_, h4⟩
    · exact runOps_grow (ts' := r.1) (H' := r.2) hG _ _ _ h4
    · exact absurd h4 has_fail

theorem evRegion_sound (hm : cx.P.follows .mixedOrders = true) (hF : FenceOk F inR) (hR : RecOk cx.P rc) (hG : RecGrow rc) {id : Nat} {draw : Bool} {st st' : St Int Bool} {e : Ex} (h : Has (evRegion cx rc px ops draw st) (e, st'))
    (hS : StRep X M ρ st a w) (hX : ∀ m, X m → st'.H.get m = none) : (Code.region id ops draw).wpIn F n cx.P (CodePost X M ρ st.H w e st') a w := by
  unfold evRegion at h
  dsimp only at h
  obtain ⟨r, h1, h2⟩ := has_bind h
  have := has_ret.1 h2
  simp only [Prod.mk.injEq] at this
  obtain ⟨rfl, rfl⟩ := this
  clear h h2
  dsimp only at hX
  generalize hts : (if needsT ops.toList = true then st.ts.map noMay else st.ts) = ts0 at h1
  have hlen : ts0.length = st.ts.length := by rw [← hts]; split <;> simp
  have hrep : RepL M ρ ts0 a.tmps.toList := by
    refine ⟨by rw [hlen]; exact hS.ts.1, fun i x y hx hy => ?_⟩
    rw [← hts] at hx
    split at hx
    · rw [List.getElem?_map, Option.map_eq_some_iff] at hx
      obtain ⟨u, hu, rfl⟩ := hx
      exact rep_noMay (hS.ts.2 i u y hu hy)
    · exact hS.ts.2 i x y hx hy
  have hplain : needsT ops.toList = true → ∀ t, NotMay (getT ts0 t) := by
    intro hn t
    rw [← hts, if_pos hn, getT_map]
    exact noMay_notMay _
  have post : ∀ {w1 : World}, w1.heap = w.heap → w1.os = w.os → w1.output = w.output → ∀ M' ρ' a' w', RepL M' ρ' r.1 a'.tmps.toList → Inv X M' ρ' r.2 w' → Ext X st.H M ρ w1 M' ρ' w' → a'.defers = a.defers →
      CodePost X M ρ st.H w .nrm { st with ts := r.1, H := r.2, c := st.c + 1 } .normal a' w' := by
    intro w1 hw1 hw2 hw3 M' ρ' a' w' e1 e2 e3 e4
    have e3' : Ext X st.H M ρ w M' ρ' w' := by
      have := Ext.of_heap (X := X) (H := st.H) (M := M) (ρ := ρ) (w := w) (w' := w1) hw1 hw2 hw3
      exact ⟨e3.m, e3.r, by rw [← hw1]; exact e3.sz, fun b hb ho => by rw [e3.fr b (by rw [hw1]; exact hb) ho, hw1], fun b o v hm => by rw [← hw1]; exact e3.mn b o v hm, fun m b z hr => by rw [← hw1]; exact e3.rn m b z hr, e3.rx, this.st.trans e3.st⟩
    refine ⟨trivial, M', ρ', ⟨e1, e2, ?_⟩, e3'⟩
    have marks : ∀ (ns : List Nm) (ds : List Deferred), MarksRep ρ ns ds → MarksRep ρ' ns ds := by
      intro ns
      induction ns with
      | nil => intro ds h; cases ds <;> exact h
      | cons x ns ih =>
        intro ds h
        cases ds with
        | nil => exact h
        | cons d ds =>
          obtain ⟨⟨r, z, h1, h2⟩, h3⟩ := h
          exact ⟨⟨r, z, e3.r _ _ h1, h2⟩, ih ds h3⟩
    rw [e4]
    exact marks _ _ hS.marks
  cases draw with
  | false =>
    rw [if_neg (by simp)] at h1
    rcases has_if h1 with ⟨hgo, h3⟩ | ⟨_, h3⟩
    · refine wpIn_region ?_
      refine runOps_sound (ts' := r.1) (H' := r.2) (X := X) hF hR hG _ [] ts0 st.H a w M ρ h3 (fun hqn => ?_) (fun hn => ⟨fun t tg g v hm => absurd hm (hplain hn t tg g v), fun _ => hplain hn⟩) hrep hS.inv hX (post rfl rfl rfl)
      rw [hqn] at hgo
      simpa using hgo
    · exact absurd h3 has_fail
  | true =>
    rw [if_pos rfl] at h1
    obtain ⟨lz, S, hC, s0, sN⟩ := canon_of hplain h1
    have s01 : (S 0).1 = ts0 := by rw [s0]
    have s02 : (S 0).2 = st.H := by rw [s0]
    refine wpIn_region_any hm ?_
    refine drawn_any (X := X) (M0 := M) (ρ0 := ρ) (H0 := st.H) (w0 := { w with drawn := w.drawn + 1 }) (d0 := a.defers) hC hF hR hG (by rw [sN]; exact hX) ?_ ops.size _ a _ M ρ st.H 0 (by simp) ?_ ?_
    · rw [sN]
      exact fun a' w' M' ρ' e1 e2 e3 e4 => post (w1 := { w with drawn := w.drawn + 1 }) rfl rfl rfl M' ρ' a' w' e1 e2 e3 e4
    · refine Nat.le_trans (List.count_le_length) (by simp)
    · have hno : ∀ k, ¬ LD (Array.replicate ops.size false) k := by
        intro k
        unfold LD
        rw [Array.getD_eq_getD_getElem?, Array.getElem?_replicate]
        split <;> simp
      refine ⟨fun k hk => absurd hk (hno k), fun t i hi hk => ?_, hS.inv.of_heap rfl, .refl, ⟨by omega, .inl rfl, fun i k _ _ => ⟨fun h => absurd h (hno k), fun h => by omega⟩, fun m e hm => by rw [s02] at hm; exact hm,
        fun m hm => .inl (by rw [s02]; exact hm), fun i k _ _ hD => absurd hD (hno k)⟩, rfl, ?_, fun b hb _ => hb⟩
      · refine hC.stay (i := 0) ?_ i (by omega) hi fun x k h1 h2 h3 h4 => ?_
        · rw [s01]; exact repL_getT hrep t
        · exact absurd ((hk k h4).2 ⟨x, h2, h3⟩) (hno k)
      · rw [s01, hrep.1]; simp
end
end Go.Sx
