/- Functions that come to a value and touch nothing: what is known of them goes into the executor's table. Conditions: none. -/
import Derived.Test.YtajloilpehgcmaaSxCode3
set_option linter.unusedVariables false
set_option linter.unusedSimpArgs false
set_option linter.unusedSectionVars false

namespace Go.Sx

mutual
/-- Whether a number is known is forgotten. -/
def eraseV : VV → VV
  | .int k _ n => .int k true n
  | .bool _ b => .bool true b
  | .agg cs => .agg (eraseL cs)
  | .tup vs => .tup (eraseL vs)
  | .isl id sz s len es c0 => .isl id sz s len (eraseL es) c0
  | v => v
def eraseL : List VV → List VV
  | [] => []
  | v :: vs => eraseV v :: eraseL vs
end
mutual
/-- A value that leads nowhere. -/
def okV : VV → Bool
  | .int _ _ _ => true
  | .bool _ _ => true
  | .agg cs => okL cs
  | .tup vs => okL vs
  | .nil => true
  | .nilfn => true
  | _ => false
def okL : List VV → Bool
  | [] => true
  | v :: vs => okV v && okL vs
end
mutual
/-- A value that leads to nothing of our own. -/
def argV : VV → Bool
  | .int _ _ _ => true
  | .bool _ _ => true
  | .agg cs => argL cs
  | .tup vs => argL vs
  | .nil => true
  | .nilfn => true
  | .isl _ _ _ _ es _ => argL es
  | _ => false
def argL : List VV → Bool
  | [] => true
  | v :: vs => argV v && argL vs
end

section
variable {X X' : Nm → Prop} {M M' M0 : Mem} {ρ ρ' ρ0 : Rho} {w w' w0 : World} {H H' : HH} {P : Program}

theorem eraseL_get : ∀ (vs : List VV) (i : Nat), (eraseL vs)[i]? = (vs[i]?).map eraseV
  | [], i => by simp [eraseL]
  | v :: vs, 0 => by simp [eraseL]
  | v :: vs, i + 1 => by simp [eraseL, eraseL_get vs i]
theorem eraseL_length : ∀ (vs : List VV), (eraseL vs).length = vs.length
  | [] => rfl
  | v :: vs => by simp [eraseL, eraseL_length vs]
theorem eraseL_append : ∀ (a b : List VV), eraseL (a ++ b) = eraseL a ++ eraseL b
  | [], b => rfl
  | v :: a, b => by simp [eraseL, eraseL_append a b]
theorem cellsOf_erase (v : VV) : cellsOf (eraseV v) = eraseL (cellsOf v) := by
  cases v <;> simp [eraseV, cellsOf, eraseL]
theorem flat_erase : ∀ (es : List VV), flat (eraseL es) = eraseL (flat es)
  | [] => rfl
  | v :: es => by
    show cellsOf (eraseV v) ++ flat (eraseL es) = eraseL (cellsOf v ++ flat es)
    rw [cellsOf_erase, flat_erase es, eraseL_append]

theorem rep_erase {v : VV} {val : Value} (h : Rep M ρ v val) : Rep M ρ (eraseV v) val := by
  induction h with
  | int k s n => exact .int _ _ _
  | bool s b => exact .bool _ _
  | agg cs vs hl _ ih =>
    refine .agg _ vs (by rw [eraseL_length]; exact hl) fun i c v hc hv => ?_
    rw [eraseL_get, Option.map_eq_some_iff] at hc
    obtain ⟨u, hu, rfl⟩ := hc
    exact ih i u v hu hv
  | tup cs vs hl _ ih =>
    refine .tup _ vs (by rw [eraseL_length]; exact hl) fun i c v hc hv => ?_
    rw [eraseL_get, Option.map_eq_some_iff] at hc
    obtain ⟨u, hu, rfl⟩ := hc
    exact ih i u v hu hv
  | ptr nm s off b z hr h0 => exact .ptr nm s off b z hr h0
  | nil => exact .nil
  | osl nm off sz s len b z n c o hr hn hc ho => exact .osl nm off sz s len b z n c o hr hn hc ho
  | islNil id sz s c0 len hn => exact .islNil id sz s c0 len hn
  | isl id sz s len es c0 b o c vs hn hc h0 hsz hm _ ih =>
    have : (eraseL es).length = es.length := eraseL_length es
    show Rep M ρ (.isl id sz s len (eraseL es) c0) _
    rw [← this]
    refine .isl id sz s len (eraseL es) c0 b o c vs (by rw [this]; exact hn) (by rw [this]; exact hc) h0 (fun e he => ?_) (fun i x hx => ?_) (fun i x hx => ?_)
    · obtain ⟨i, hi⟩ := List.mem_iff_getElem?.1 he
      rw [eraseL_get, Option.map_eq_some_iff] at hi
      obtain ⟨u, hu, rfl⟩ := hi
      rw [cellsOf_erase, eraseL_length]
      exact hsz u (List.mem_of_getElem? hu)
    · rw [flat_erase, eraseL_get, Option.map_eq_some_iff] at hx
      obtain ⟨u, hu, rfl⟩ := hx
      exact hm i u hu
    · rw [flat_erase, eraseL_get, Option.map_eq_some_iff] at hx
      obtain ⟨u, hu, rfl⟩ := hx
      exact ih i u hu
  | eptr cs b o vs hm h _ => exact .eptr cs b o vs hm h
  | fn f first cap vf vc hl hl' h h' _ _ => exact .fn f first cap vf vc hl hl' h h'
  | yld nm l z hr => exact .yld nm l z hr
  | nilfn => exact .nilfn
  | may tg g v val h1 h0 _ => exact .may tg g v val h1 h0
  | undef => exact .undef
  | top v => exact .top v
  | raw v => exact .raw v

mutual
theorem erase_rep : ∀ (v : VV) (val : Value), okV v = true → Rep M ρ (eraseV v) val → Rep M' ρ' v val
  | .int k s n, val, _, h => by cases h; exact .int _ _ _
  | .bool s b, val, _, h => by cases h; exact .bool _ _
  | .agg cs, val, hk, h => by
    simp only [eraseV] at h
    cases h with
    | agg _ vs hl hh =>
      exact .agg cs vs (by rw [← eraseL_length]; exact hl) fun i c v hc hv => eraseL_rep cs hk i c v hc (hh i (eraseV c) v (by rw [eraseL_get, hc]; rfl) hv)
  | .tup cs, val, hk, h => by
    simp only [eraseV] at h
    cases h with
    | tup _ vs hl hh =>
      exact .tup cs vs (by rw [← eraseL_length]; exact hl) fun i c v hc hv => eraseL_rep cs hk i c v hc (hh i (eraseV c) v (by rw [eraseL_get, hc]; rfl) hv)
  | .nil, val, _, h => by cases h; exact .nil
  | .nilfn, val, _, h => by cases h; exact .nilfn
  | .ptr _ _ _, _, hk, _ => by simp [okV] at hk
  | .osl _ _ _ _ _, _, hk, _ => by simp [okV] at hk
  | .isl _ _ _ _ _ _, _, hk, _ => by simp [okV] at hk
  | .eptr _, _, hk, _ => by simp [okV] at hk
  | .fn _ _ _, _, hk, _ => by simp [okV] at hk
  | .yld _, _, hk, _ => by simp [okV] at hk
  | .may _ _ _, _, hk, _ => by simp [okV] at hk
  | .undef, _, hk, _ => by simp [okV] at hk
  | .top, _, hk, _ => by simp [okV] at hk
  | .raw _, _, hk, _ => by simp [okV] at hk
theorem eraseL_rep : ∀ (cs : List VV), okL cs = true → ∀ (i : Nat) (c : VV) (v : Value), cs[i]? = some c → Rep M ρ (eraseV c) v → Rep M' ρ' c v
  | [], _, i, c, v, hc, _ => by simp at hc
  | x :: cs, hk, 0, c, v, hc, h => by
    simp only [okL, Bool.and_eq_true] at hk
    simp only [List.getElem?_cons_zero, Option.some.injEq] at hc
    subst hc
    exact erase_rep x v hk.1 h
  | x :: cs, hk, i + 1, c, v, hc, h => by
    simp only [okL, Bool.and_eq_true] at hk
    simp only [List.getElem?_cons_succ] at hc
    exact eraseL_rep cs hk.2 i c v hc h
end

theorem argL_get : ∀ (cs : List VV), argL cs = true → ∀ (i : Nat) (c : VV), cs[i]? = some c → argV c = true
  | [], _, i, c, hc => by simp at hc
  | x :: cs, hk, 0, c, hc => by
    simp only [argL, Bool.and_eq_true] at hk
    simp only [List.getElem?_cons_zero, Option.some.injEq] at hc
    subst hc; exact hk.1
  | x :: cs, hk, i + 1, c, hc => by
    simp only [argL, Bool.and_eq_true] at hk
    simp only [List.getElem?_cons_succ] at hc
    exact argL_get cs hk.2 i c hc
theorem argV_cells {v : VV} (h : argV v = true) : argL (cellsOf v) = true := by
  unfold cellsOf
  split
  · exact h
  · simp [argL, h]
theorem argL_append : ∀ (a b : List VV), argL a = true → argL b = true → argL (a ++ b) = true
  | [], b, _, hb => hb
  | x :: a, b, ha, hb => by
    simp only [argL, Bool.and_eq_true] at ha
    simp only [List.cons_append, argL, Bool.and_eq_true]
    exact ⟨ha.1, argL_append a b ha.2 hb⟩
theorem argL_flat : ∀ (es : List VV), argL es = true → argL (flat es) = true
  | [], _ => rfl
  | v :: es, h => by
    simp only [argL, Bool.and_eq_true] at h
    exact argL_append _ _ (argV_cells h.1) (argL_flat es h.2)

/-- Names do not matter to it. -/
theorem rep_arg {v : VV} {val : Value} (h : Rep M ρ v val) (hM : MLe M M') : argV v = true → Rep M' ρ' v val := by
  induction h with
  | int k s n => intro _; exact .int _ _ _
  | bool s b => intro _; exact .bool _ _
  | agg cs vs hl _ ih => intro hk; exact .agg cs vs hl fun i c v hc hv => ih i c v hc hv (argL_get cs hk i c hc)
  | tup cs vs hl _ ih => intro hk; exact .tup cs vs hl fun i c v hc hv => ih i c v hc hv (argL_get cs hk i c hc)
  | nil => intro _; exact .nil
  | nilfn => intro _; exact .nilfn
  | islNil id sz s c0 len hn => intro _; exact .islNil id sz s c0 len hn
  | isl id sz s len es c0 b o c vs hn hc h0 hsz hm _ ih =>
    intro hk
    exact .isl id sz s len es c0 b o c vs hn hc h0 hsz (fun i x hx => hM _ _ _ (hm i x hx)) fun i x hx => ih i x hx (argL_get _ (argL_flat es hk) i x hx)
  | _ => intro hk; simp [argV] at hk

/-! ### what is handed over -/
def chunks (sz : Nat) : Nat → List VV → List VV
  | 0, _ => []
  | n + 1, cs => (if sz = 1 then (match cs with | c :: _ => c | [] => .undef) else .agg (cs.take sz)) :: chunks sz n (cs.drop sz)
/-- An argument as one who only looks at it sees it. -/
def view1 (H : HH) (v : VV) : Option VV :=
  match v with
  | .osl nm off sz s len =>
    match H.get nm, knownNat (B := Bool) s len with
    | some (.row cs false _), some n =>
      let vs := (cs.drop off).take (n * sz)
      if vs.length = n * sz ∧ vs.all (fun c => okV c && oneCell c) = true then some (.isl 0 sz false (n : Int) (eraseL (chunks sz n vs)) false) else none
    | _, _ => none
  | v => if argV v then some (eraseV v) else none
def viewL (H : HH) : List VV → Option (List VV)
  | [] => some []
  | v :: vs =>
    match view1 H v with
    | some u => (match viewL H vs with | some us => some (u :: us) | none => none)
    | none => none

def noRho : Rho := fun _ => none
/-- Memory, all that is ours being looked at alone. -/
noncomputable def seen (H : HH) (ρ : Rho) (M : Mem) (w : World) : Mem := fun b o => by
  classical exact if (M b o).isSome then M b o else if Own H ρ b then w.cell? ⟨b, o, none⟩ else none
theorem seen_le : MLe M (seen H ρ M w) := fun b o v h => by
  unfold seen
  rw [if_pos (by rw [h]; rfl)]; exact h
theorem seen_own (hI : Inv X M ρ H w) {nm : Nm} {b z o : Nat} {v : Value} (hl : Live H nm) (hr : ρ nm = some (b, z)) (hc : w.cell? ⟨b, o, none⟩ = some v) : seen H ρ M w b o = some v := by
  unfold seen
  rw [if_neg (by rw [hI.sep nm b z o hl hr]; simp), if_pos ⟨nm, z, hl, hr⟩]; exact hc
theorem seen_imm (hI : Inv X M ρ H w) : ∀ b o v, seen H ρ M w b o = some v → w.cell? ⟨b, o, none⟩ = some v := by
  intro b o v h
  unfold seen at h
  split at h
  · exact hI.imm b o v h
  · split at h
    · exact h
    · cases h

theorem chunks_spec (sz : Nat) : ∀ (n : Nat) (cs : List VV), cs.length = n * sz → (∀ c ∈ cs, oneCell c = true) → (chunks sz n cs).length = n ∧ (∀ e ∈ chunks sz n cs, (cellsOf e).length = sz) ∧ flat (chunks sz n cs) = cs
  | 0, cs, h, _ => by
    have : cs = [] := List.eq_nil_of_length_eq_zero (by simpa using h)
    subst this
    exact ⟨rfl, by simp [chunks], rfl⟩
  | n + 1, cs, h, ho => by
    have hlen : sz ≤ cs.length := by rw [h, Nat.succ_mul]; omega
    obtain ⟨h1, h2, h3⟩ := chunks_spec sz n (cs.drop sz) (by simp [h, Nat.succ_mul]) fun c hc => ho c (List.mem_of_mem_drop hc)
    have he : cellsOf (if sz = 1 then (match cs with | c :: _ => c | [] => .undef) else .agg (cs.take sz)) = cs.take sz := by
      split
      · rename_i hs
        subst hs
        cases cs with
        | nil => simp at hlen
        | cons c cs =>
          have := ho c (by simp)
          cases c <;> simp_all [cellsOf, oneCell]
      · rfl
    refine ⟨by simp [chunks, h1], fun e hm => ?_, ?_⟩
    · simp only [chunks, List.mem_cons] at hm
      rcases hm with rfl | hm
      · rw [he]; simp [hlen]
      · exact h2 e hm
    · show cellsOf _ ++ flat (chunks sz n (cs.drop sz)) = cs
      rw [he, h3, List.take_append_drop]

theorem view1_sound (hI : Inv X M ρ H w) {v u : VV} {val : Value} (h : view1 H v = some u) (hr : Rep M ρ v val) : Rep (seen H ρ M w) noRho u val := by
  unfold view1 at h
  split at h
  · rename_i nm off sz s len
    split at h
    · rename_i cs id n hg hk
      dsimp only at h
      split at h
      · rename_i hc
        simp only [Option.some.injEq] at h
        subst h
        obtain ⟨hlen, hall⟩ := hc
        rw [List.all_eq_true] at hall
        cases hr with
        | osl _ _ _ _ _ b z m c o hρ hm hc ho =>
          have hmn : m = n := by have := knownNat_some hk; omega
          subst hmn
          obtain ⟨h1, h2, h3⟩ := chunks_spec sz m _ hlen fun c hc => by have := hall c hc; simp only [Bool.and_eq_true] at this; exact this.2
          have hw : ∀ (i : Nat) (x : VV), ((cs.drop off).take (m * sz))[i]? = some x → ∃ val, w.cell? ⟨b, o + i, none⟩ = some val ∧ Rep M ρ x val ∧ okV x = true := by
            intro i x hx
            have hok := hall x (List.mem_of_getElem? hx)
            simp only [Bool.and_eq_true] at hok
            rw [List.getElem?_take] at hx
            split at hx
            · rename_i hi
              rw [List.getElem?_drop] at hx
              have hc0 : c ≠ 0 := by
                rintro rfl
                have : m = 0 := by omega
                subst this
                simp at hi
              rw [(ho hc0).1]
              obtain ⟨val, q1, q2⟩ := row_cell hI hg hρ hx
              exact ⟨val, q1, q2, hok.1⟩
            · cases hx
          have hes : (eraseL (chunks sz m ((cs.drop off).take (m * sz)))).length = m := by rw [eraseL_length, h1]
          have := Rep.isl (M := seen H ρ M w) (ρ := noRho) 0 sz false (m : Int) (eraseL (chunks sz m ((cs.drop off).take (m * sz)))) false b o c (fun i => (w.cell? ⟨b, o + i, none⟩).getD undef) (by rw [hes]) (by rw [hes]; exact hc)
            (by simp) (fun e he => by
              obtain ⟨i, hi⟩ := List.mem_iff_getElem?.1 he
              rw [eraseL_get, Option.map_eq_some_iff] at hi
              obtain ⟨u, hu, rfl⟩ := hi
              rw [cellsOf_erase, eraseL_length]
              exact h2 u (List.mem_of_getElem? hu))
            (fun i x hx => by
              rw [flat_erase, eraseL_get, h3, Option.map_eq_some_iff] at hx
              obtain ⟨u, hu, rfl⟩ := hx
              obtain ⟨val, q1, _⟩ := hw i u hu
              rw [q1]
              exact seen_own hI (live_row hg) hρ q1)
            (fun i x hx => by
              rw [flat_erase, eraseL_get, h3, Option.map_eq_some_iff] at hx
              obtain ⟨u, hu, rfl⟩ := hx
              obtain ⟨val, q1, q2, q3⟩ := hw i u hu
              rw [q1]
              exact rep_erase (erase_rep u val q3 (rep_erase q2)))
          rw [hes] at this
          exact this
      · cases h
    · cases h
  · split at h
    · rename_i hk
      simp only [Option.some.injEq] at h
      subst h
      exact rep_erase (rep_arg hr seen_le hk)
    · cases h
theorem viewL_sound (hI : Inv X M ρ H w) : ∀ {vs us : List VV} {vals : List Value}, viewL H vs = some us → RepL M ρ vs vals → RepL (seen H ρ M w) noRho us vals
  | [], us, vals, h, hr => by
    simp only [viewL, Option.some.injEq] at h
    subst h
    cases vals with
    | nil => exact .nil
    | cons _ _ => have := hr.1; simp at this
  | v :: vs, us, vals, h, hr => by
    cases vals with
    | nil => have := hr.1; simp at this
    | cons val vals =>
      obtain ⟨h1, h2⟩ := hr.of_cons
      unfold viewL at h
      split at h
      · rename_i u hu
        split at h
        · rename_i us' hus
          simp only [Option.some.injEq] at h
          subst h
          exact .cons (view1_sound hI hu h1) (viewL_sound hI hus h2)
        · cases h
      · cases h

/-! ### what is known of a function -/
/-- What is asked of the arguments, if anything, and the value. -/
def preV : VV → Bool × VV
  | .may _ g v => (g, v)
  | v => (true, v)
/-- A function comes to a value, by its arguments alone, and touches nothing that is there. -/
def PureOk (P : Program) (f : FuncId) (sp : List VV → Option VV) : Prop :=
  ∀ (args : List VV) (u : VV) (M : Mem) (w : World) (argv : Array Value), sp args = some u → (preV u).1 = true → (∀ b o v, M b o = some v → w.cell? ⟨b, o, none⟩ = some v) → RepL M noRho args argv.toList →
    (callFunc f argv).run P w = .ok (.enter f argv) w ∧ Calls P f argv w fun e w' => ∃ val, e = .returned val ∧ Rep M noRho (preV u).2 val ∧ w.heap.size ≤ w'.heap.size ∧ (∀ b, b < w.heap.size → w'.heap[b]? = w.heap[b]?) ∧ Same w w'

def liftRun (sp : List VV → Option VV) (_nm : Nm) (args : List VV) (H : HH) : EE (VV × HH) :=
  match viewL H args with
  | some us =>
    (match sp us with
     | some (.may _ g v) => if okV v then do E.ob (.bit g true); .ret (v, H) else .fail "table: value"
     | some v => if okV v then .ret (v, H) else .fail "table: value"
     | none => .fail "table: none")
  | none => .fail "table: arguments"

abbrev Tab := List (FuncId × (List VV → Option VV))
def Tab.find : Tab → FuncId → Option (List VV → Option VV)
  | [], _ => none
  | (g, sp) :: r, f => if Nat.beq g f then some sp else Tab.find r f
def cxT (P : Program) (L : Tab) : Cx Int Bool where
  P := P
  tab f := match L.find f with | some sp => some (liftRun sp) | none => none
  hooks := []
  ask _ := false
def TabPure (P : Program) (L : Tab) : Prop := ∀ p ∈ L, PureOk P p.1 p.2

theorem tab_find : ∀ {L : Tab} {f : FuncId} {sp : List VV → Option VV}, L.find f = some sp → (f, sp) ∈ L
  | [], f, sp, h => by cases h
  | (g, s) :: r, f, sp, h => by
    unfold Tab.find at h
    split at h
    · rename_i hg
      simp only [Nat.beq_eq] at hg
      simp only [Option.some.injEq] at h
      subst hg h
      simp
    · exact List.mem_cons_of_mem _ (tab_find h)

theorem liftRun_cases {sp : List VV → Option VV} {nm : Nm} {args : List VV} {v : VV} (h : Has (liftRun sp nm args H) (v, H')) :
    H' = H ∧ ∃ us u, viewL H args = some us ∧ sp us = some u ∧ (preV u).1 = true ∧ (preV u).2 = v ∧ okV v = true := by
  unfold liftRun at h
  split at h
  · rename_i us hu
    split at h
    · rename_i tg g v' hs
      rcases has_if h with ⟨hk, h2⟩ | ⟨_, h2⟩
      · obtain ⟨_, h3, h4⟩ := has_bind h2
        have := has_ret.1 h4
        simp only [Prod.mk.injEq] at this
        obtain ⟨rfl, rfl⟩ := this
        exact ⟨rfl, us, _, hu, hs, has_ob h3, rfl, hk⟩
      · exact absurd h2 has_fail
    · rename_i v' hn hs
      rcases has_if h with ⟨hk, h2⟩ | ⟨_, h2⟩
      · have := has_ret.1 h2
        simp only [Prod.mk.injEq] at this
        obtain ⟨rfl, rfl⟩ := this
        have hp : preV v' = (true, v') := by
          unfold preV
          split
          · rename_i tg g u; exact absurd rfl (hn tg g u)
          · rfl
        exact ⟨rfl, us, v', hu, hs, by rw [hp], by rw [hp], hk⟩
      · exact absurd h2 has_fail
    · exact absurd h has_fail
  · exact absurd h has_fail

theorem tabOk {L : Tab} (hP : TabPure P L) : TabOk (cxT P L) := by
  refine ⟨fun f run nm args H v H' hr h => ?_, fun f run nm args H v H' X M ρ w argv hr h hI ha hx => ?_⟩
  · simp only [cxT] at hr
    split at hr
    · simp only [Option.some.injEq] at hr
      subst hr
      rw [(liftRun_cases h).1]; exact .refl _
    · cases hr
  · simp only [cxT] at hr
    split at hr
    · rename_i sp hf
      simp only [Option.some.injEq] at hr
      subst hr
      obtain ⟨rfl, us, u, h1, h2, h3, h4, h5⟩ := liftRun_cases h
      have hp := hP _ (tab_find hf)
      obtain ⟨c1, c2⟩ := hp us u (seen H' ρ M w) w argv h2 h3 (seen_imm hI) (viewL_sound hI h1 ha)
      rw [h4] at c2
      refine ⟨c1, fun n => callsIn_wide.2 (c2.mono fun e w' he => ?_)⟩
      obtain ⟨val, rfl, r1, r2, r3, r4⟩ := he
      refine ⟨val, rfl, M, ρ, erase_rep v val h5 (rep_erase r1), hI.kept (.refl M) r2 r3 (fun b o v hm => ?_) (fun b o v hm => .inl hm), ⟨.refl _, .refl _, r2, fun b hb _ => r3 b hb, fun _ _ _ h => .inl h, fun _ _ _ h => .inl h, fun _ _ => rfl, r4⟩⟩
      have := hI.imm b o v hm
      rw [cell?_heap (r3 b (World.block_lt_of_cell? _ _ this))]; exact this
    · cases hr

/-- What is asked of the program once and for all. -/
structure ProgOk (P : Program) : Prop where
  mixed : P.follows .mixedOrders = true
  noNum : ∀ (f : FuncId) (fn : Func), P.funcs[f]? = some fn → fn.name ≠ "runtime.NumGoroutine"
theorem cxOk {L : Tab} (h : ProgOk P) (hP : TabPure P L) : CxOk (cxT P L) := ⟨h.mixed, h.noNum, tabOk hP, fun _ hk => by cases hk⟩

def emptyH : HH := { es := [], log := [] }
theorem inv_empty (hm : ∀ b o v, M b o = some v → w.cell? ⟨b, o, none⟩ = some v) : Inv (fun _ => False) M noRho emptyH w := by
  refine ⟨fun n cs s id h => (by cases h), fun n L h => (by cases h), fun n h => (by cases h), fun n n' b z z' h => ?_, hm, fun n b z o h => ?_, fun _ _ _ => rfl, fun n b z h => (by cases h)⟩
  · obtain ⟨e, h, _⟩ := h; cases h
  · obtain ⟨e, h, _⟩ := h; cases h

theorem preV_ok {v : VV} (h : okV v = true) : preV v = (true, v) := by
  unfold preV
  split
  · simp [okV] at h
  · rfl
/-- Out of the executor's word. -/
theorem pureOk_of {L : Tab} (h : ProgOk P) (hP : TabPure P L) {f : FuncId} {sp : List VV → Option VV}
    (hs : ∀ args v, sp args = some v → okV v = true ∧ ∃ fuel v' H', Has ((ev (cxT P L) fuel).call [] f args emptyH) (v', H') ∧ eraseV v' = eraseV v) : PureOk P f sp := by
  intro args v M w argv hv _ hm ha
  obtain ⟨hk, fuel, v', H', h1, h2⟩ := hs args v hv
  rw [preV_ok hk]
  obtain ⟨c1, c2⟩ := call_sound (cxOk h hP) h1 (inv_empty hm) ha (fun _ h => h.elim)
  refine ⟨c1, c2.mono fun e w' he => ?_⟩
  obtain ⟨val, rfl, M', ρ', r1, r2, r3⟩ := he
  refine ⟨val, rfl, ?_, r3.sz, (fun b hb => r3.fr b hb ?_), r3.st⟩
  · have := rep_erase r1
    rw [h2] at this
    exact erase_rep v val hk this
  · rintro ⟨n, z, ⟨e, he, _⟩, _⟩
    cases he
/-- The same, where something is asked of the arguments. -/
theorem pureOk_pre {L : Tab} (h : ProgOk P) (hP : TabPure P L) {f : FuncId} {sp : List VV → Option VV}
    (hs : ∀ args u, sp args = some u → (preV u).1 = true → okV (preV u).2 = true ∧ ∃ fuel v' H', Has ((ev (cxT P L) fuel).call [] f args emptyH) (v', H') ∧ eraseV v' = eraseV (preV u).2) : PureOk P f sp := by
  intro args u M w argv hv hpre hm ha
  obtain ⟨hk, fuel, v', H', h1, h2⟩ := hs args u hv hpre
  obtain ⟨c1, c2⟩ := call_sound (cxOk h hP) h1 (inv_empty hm) ha (fun _ h => h.elim)
  refine ⟨c1, c2.mono fun e w' he => ?_⟩
  obtain ⟨val, rfl, M', ρ', r1, r2, r3⟩ := he
  refine ⟨val, rfl, ?_, r3.sz, (fun b hb => r3.fr b hb ?_), r3.st⟩
  · have := rep_erase r1
    rw [h2] at this
    exact erase_rep _ val hk this
  · rintro ⟨n, z, ⟨e, he, _⟩, _⟩
    cases he

theorem eraseL_repL {cs : List VV} {vals : List Value} (hk : okL cs = true) (h : RepL M ρ (eraseL cs) vals) : RepL M' ρ' cs vals :=
  ⟨by rw [← eraseL_length]; exact h.1, fun i c v hc hv => eraseL_rep cs hk i c v hc (h.2 i (eraseV c) v (by rw [eraseL_get, hc]; rfl) hv)⟩
theorem eraseL_repL' {cs : List VV} {vals : List Value} (h : RepL M ρ cs vals) : RepL M ρ (eraseL cs) vals :=
  ⟨by rw [eraseL_length]; exact h.1, fun i c v hc hv => by
    rw [eraseL_get, Option.map_eq_some_iff] at hc
    obtain ⟨u, hu, rfl⟩ := hc
    exact rep_erase (h.2 i u v hu hv)⟩
/-- Out of the executor's word, some arguments being known numbers. -/
theorem pureOk_of' {L : Tab} (h : ProgOk P) (hP : TabPure P L) {f : FuncId} {sp : List VV → Option VV}
    (hs : ∀ args v, sp args = some v → okV v = true ∧ ∃ args' fuel v' H', okL args' = true ∧ eraseL args' = eraseL args ∧ Has ((ev (cxT P L) fuel).call [] f args' emptyH) (v', H') ∧ eraseV v' = eraseV v) : PureOk P f sp := by
  intro args v M w argv hv _ hm ha
  obtain ⟨hk, args', fuel, v', H', k1, k2, h1, h2⟩ := hs args v hv
  rw [preV_ok hk]
  have ha' : RepL M noRho args' argv.toList := eraseL_repL (M := M) (ρ := noRho) k1 (by rw [k2]; exact eraseL_repL' ha)
  obtain ⟨c1, c2⟩ := call_sound (cxOk h hP) h1 (inv_empty hm) ha' (fun _ h => h.elim)
  refine ⟨c1, c2.mono fun e w' he => ?_⟩
  obtain ⟨val, rfl, M', ρ', r1, r2, r3⟩ := he
  refine ⟨val, rfl, ?_, r3.sz, (fun b hb => r3.fr b hb ?_), r3.st⟩
  · have := rep_erase r1
    rw [h2] at this
    exact erase_rep v val hk this
  · rintro ⟨n, z, ⟨e, he, _⟩, _⟩
    cases he

#print axioms pureOk_of
end
end Go.Sx
