/- Loops found in a function's code; states written by what matters in them; tables of functions and loops. Conditions: none. -/
import Derived.Test.YtajloilpehgcmaaSxAbs2
set_option linter.unusedVariables false
set_option linter.unusedSimpArgs false
set_option linter.unusedSectionVars false

namespace Go.Sx
section
variable {X X' : Nm → Prop} {M M' M0 : Mem} {ρ ρ' ρ0 ρ1 ρ2 : Rho} {w w' w0 : World} {H H' : HH} {P : Program} {a a' : Act} {σ τ : Nm → Option Nm}

def loopsOf : Code → List Code
  | .seq a b => loopsOf a ++ loopsOf b
  | .cond _ a b => loopsOf a ++ loopsOf b
  | .block _ c => loopsOf c
  | .loop c => .loop c :: loopsOf c
  | .scope c => .scope c :: loopsOf c
  | .rangeFunc _ _ a b => loopsOf a ++ loopsOf b
  | _ => []
def loopAt (fn : Func) (k : Nat) : Code := ((fn.body.map loopsOf).getD []).getD k .skip
def bodyAt (fn : Func) (k : Nat) : Code := match loopAt fn k with | .loop b => b | .scope b => b | c => c

/-- How a run ended. -/
def outC {α : Type} (r : Res Int Bool (Ex × α)) : Option (Ex × α × List (Ob Int Bool)) :=
  match r with
  | .ok a _ obs => some (a.1, a.2, obs)
  | _ => none
def holdsO : List (Ob Int Bool) → Prop
  | [] => True
  | o :: os => o.holds ∧ holdsO os
theorem holdsO_mem : ∀ {os : List (Ob Int Bool)}, holdsO os → ∀ o ∈ os, o.holds
  | [], _, o, h => by cases h
  | x :: os, h, o, ho => by
    simp only [List.mem_cons] at ho
    rcases ho with rfl | ho
    · exact h.1
    · exact holdsO_mem h.2 o ho
theorem has_outC {m : EE (Ex × St Int Bool)} {sc : List (Orc Int Bool)} {e : Ex} {st : St Int Bool} {obs : List (Ob Int Bool)} (h : outC (m sc) = some (e, st, obs)) (ho : holdsO obs) : Has m (e, st) := by
  unfold outC at h
  split at h
  · rename_i a os' obs' heq
    simp only [Option.some.injEq, Prod.mk.injEq] at h
    obtain ⟨rfl, rfl, rfl⟩ := h
    exact ⟨sc, os', _, heq, holdsO_mem ho⟩
  · cases h

/-! ### states by what matters in them -/
def tsOf (n : Nat) (l : List (Nat × VV)) : List VV := (List.range n).map fun j => ((l.find? fun p => Nat.beq p.1 j).map (·.2)).getD .top
theorem simL_tsOf {n : Nat} {l : List (Nat × VV)} {ts : List VV} (hn : ts.length = n) (h : ∀ p ∈ l, Sim σ (getT ts p.1) p.2) : SimL σ ts (tsOf n l) := by
  refine ⟨by simp [tsOf, hn], fun i u v hu hv => ?_⟩
  simp only [tsOf, List.getElem?_map, Option.map_eq_some_iff] at hv
  obtain ⟨j, hj, rfl⟩ := hv
  have hji : j = i := by
    rw [List.getElem?_range (by
      have := (List.getElem?_eq_some_iff.1 hj).1
      simpa using this)] at hj
    simpa using hj.symm
  subst hji
  cases hf : l.find? (fun p => Nat.beq p.1 j) with
  | none => exact .top u
  | some p =>
    have h1 := List.find?_some hf
    simp only [Nat.beq_eq] at h1
    have h2 := h p (List.mem_of_find?_eq_some hf)
    rw [h1] at h2
    unfold getT at h2
    rw [hu] at h2
    exact h2
def EsSim (σ : Nm → Option Nm) (H : HH) : List (Nm × Ent Int Bool) → Names → Prop
  | [], [] => True
  | (n, e) :: es, (n', m) :: as => n = n' ∧ (∃ e1, H.get m = some e1 ∧ EntSim σ e1 e) ∧ EsSim σ H es as
  | _, _ => False
theorem EsSim.names : ∀ {es : List (Nm × Ent Int Bool)} {as : Names}, EsSim σ H es as → es.map (·.1) = as.map (·.1)
  | [], [], _ => rfl
  | [], _ :: _, h => h.elim
  | _ :: _, [], h => h.elim
  | (n, e) :: es, (n', m) :: as, h => by
    obtain ⟨rfl, _, h2⟩ := h
    simp [h2.names]
theorem EsSim.get : ∀ {es : List (Nm × Ent Int Bool)} {as : Names} {n : Nm} {e : Ent Int Bool}, EsSim σ H es as → getEnt es n = some e → ∃ m e1, lookN as n = some m ∧ H.get m = some e1 ∧ EntSim σ e1 e
  | [], _, _, _, _, h => by cases h
  | (x, e) :: es, [], _, _, h, _ => h.elim
  | (x, e) :: es, (x', m) :: as, n, e', h, hg => by
    obtain ⟨rfl, ⟨e1, h1, h2⟩, h3⟩ := h
    unfold getEnt at hg
    unfold lookN
    by_cases hq : nmEq x n = true
    · rw [if_pos hq] at hg
      rw [if_pos hq]
      simp only [Option.some.injEq] at hg
      subst hg
      exact ⟨m, e1, rfl, h1, h2⟩
    · rw [if_neg hq] at hg
      rw [if_neg hq]
      exact h3.get hg
theorem look_inj {as : Names} (hv : distinct (as.map (·.2)) = true) : ∀ {n n' m : Nm}, lookN as n = some m → lookN as n' = some m → n = n' := by
  intro n n' m h h'
  have h1 := lookN_mem h
  have h2 := lookN_mem h'
  clear h h'
  induction as with
  | nil => cases h1
  | cons p r ih =>
    obtain ⟨x, y⟩ := p
    simp only [List.map_cons, distinct, Bool.and_eq_true, Bool.not_eq_true'] at hv
    have no : ∀ z, (z, y) ∈ r → False := fun z hz => by
      have h1 : memNm y (r.map (·.2)) = true := memNm_iff.2 (List.mem_map_of_mem (f := Prod.snd) hz)
      rw [h1] at hv; cases hv.1
    simp only [List.mem_cons, Prod.mk.injEq] at h1 h2
    rcases h1 with ⟨rfl, rfl⟩ | h1
    · rcases h2 with ⟨rfl, _⟩ | h2
      · rfl
      · exact (no _ h2).elim
    · rcases h2 with ⟨rfl, rfl⟩ | h2
      · exact (no _ h1).elim
      · exact ih hv.2 h1 h2
theorem getEnt_none : ∀ {es : List (Nm × Ent Int Bool)} {n : Nm}, getEnt es n = none → n ∉ es.map (·.1)
  | [], n, _ => by simp
  | (x, e) :: es, n, h => by
    unfold getEnt at h
    split at h
    · cases h
    · rename_i hq
      have hx : n ≠ x := fun e => hq (nmEq_iff.2 e.symm)
      simp only [List.map_cons, List.mem_cons, not_or]
      exact ⟨hx, getEnt_none h⟩
/-- A state told by what matters in it. -/
def stOf (n : Nat) (l : List (Nat × VV)) (es : List (Nm × Ent Int Bool)) : St Int Bool := { ts := tsOf n l, H := { es := es, log := [] }, c := 0, marks := [] }
theorem stSim_of {as : Names} {st : St Int Bool} {n : Nat} {l : List (Nat × VV)} {es : List (Nm × Ent Int Bool)} (hn : st.ts.length = n) (hm : st.marks = []) (hv : distinct (as.map (·.2)) = true)
    (h : ∀ p ∈ l, Sim (lookN as) (getT st.ts p.1) p.2) (hs : EsSim (lookN as) st.H es as) : StSim (lookN as) st (stOf n l es) := by
  refine ⟨simL_tsOf hn h, fun x e he => hs.get he, fun x x' m => look_inj hv, fun x m hx hg => ?_, by simp [stOf, hm], fun i x m hx => by simp [stOf] at hx⟩
  have := getEnt_none (es := es) hg
  rw [hs.names] at this
  exact this (List.mem_map_of_mem (f := Prod.fst) (lookN_mem hx))

/-! ### tables of functions and of loops -/
abbrev Run := Nm → List VV → HH → EE (VV × HH)
abbrev Runs := List (FuncId × Run)
def Runs.find : Runs → FuncId → Option Run
  | [], _ => none
  | (g, r) :: l, f => if Nat.beq g f then some r else Runs.find l f
structure RunOk (P : Program) (f : FuncId) (run : Run) : Prop where
  grow : ∀ nm args H v H', Has (run nm args H) (v, H') → Grow H H'
  ok : ∀ nm args H v H' X M ρ w (argv : Array Value), Has (run nm args H) (v, H') → Inv X M ρ H w → RepL M ρ args argv.toList → (∀ n, X n → H'.get n = none) →
    (callFunc f argv).run P w = .ok (.enter f argv) w ∧ ∀ n, CallsIn Fence.wide n P f argv w fun e w' => ∃ val, e = .returned val ∧ Post X M ρ H w v H' val w'
def RunsOk (P : Program) (L : Runs) : Prop := ∀ p ∈ L, RunOk P p.1 p.2
abbrev Hooks := List (Hook Int Bool)
def cxR (P : Program) (L : Runs) (hs : Hooks) : Cx Int Bool where
  P := P
  tab := L.find
  hooks := hs
  ask _ := false
theorem runs_find : ∀ {L : Runs} {f : FuncId} {r : Run}, L.find f = some r → (f, r) ∈ L
  | [], _, _, h => by cases h
  | (g, s) :: l, f, r, h => by
    unfold Runs.find at h
    split at h
    · rename_i hg
      simp only [Nat.beq_eq] at hg
      simp only [Option.some.injEq] at h
      subst hg h
      simp
    · exact List.mem_cons_of_mem _ (runs_find h)
theorem cxR_ok {L : Runs} {hs : Hooks} (h : ProgOk P) (hL : RunsOk P L) (hh : ∀ k ∈ hs, HookOk P k) : CxOk (cxR P L hs) :=
  ⟨h.mixed, h.noNum, ⟨fun f run nm args H v H' hr hh => (hL _ (runs_find hr)).grow nm args H v H' hh, fun f run nm args H v H' X M ρ w argv hr hh hI ha hx => (hL _ (runs_find hr)).ok nm args H v H' X M ρ w argv hh hI ha hx⟩, hh⟩
/-- Pure functions, as they were. -/
def pureRuns (L : Tab) : Runs := L.map fun p => (p.1, liftRun p.2)
theorem pureRun_ok {f : FuncId} {sp : List VV → Option VV} (h : PureOk P f sp) : RunOk P f (liftRun sp) := by
  have hT : TabPure P [(f, sp)] := fun p hp => by simp only [List.mem_singleton] at hp; subst hp; exact h
  have ht : (cxT P [(f, sp)]).tab f = some (liftRun sp) := by simp [cxT, Tab.find]
  exact ⟨fun nm args H v H' hh => (tabOk hT).grow f _ nm args H v H' ht hh, fun nm args H v H' X M ρ w argv hh hI ha hx => (tabOk hT).ok f _ nm args H v H' X M ρ w argv ht hh hI ha hx⟩
theorem pureRuns_ok {L : Tab} (h : TabPure P L) : RunsOk P (pureRuns L) := by
  intro p hp
  obtain ⟨q, hq, rfl⟩ := List.mem_map.1 hp
  exact pureRun_ok (h q hq)

/-- Out of the executor's word, with loops that are known. -/
theorem pureOk_cx {cx : Cx Int Bool} (h : CxOk cx) {f : FuncId} {sp : List VV → Option VV}
    (hs : ∀ args u, sp args = some u → (preV u).1 = true → okV (preV u).2 = true ∧ ∃ fuel v' H', Has ((ev cx fuel).call [] f args emptyH) (v', H') ∧ eraseV v' = eraseV (preV u).2) : PureOk cx.P f sp := by
  intro args u M w argv hv hpre hm ha
  obtain ⟨hk, fuel, v', H', h1, h2⟩ := hs args u hv hpre
  obtain ⟨c1, c2⟩ := call_sound h h1 (inv_empty hm) ha (fun _ h => h.elim)
  refine ⟨c1, c2.mono fun e w' he => ?_⟩
  obtain ⟨val, rfl, M', ρ', r1, r2, r3⟩ := he
  refine ⟨val, rfl, ?_, r3.sz, (fun b hb => r3.fr b hb ?_), r3.st⟩
  · have := rep_erase r1
    rw [h2] at this
    exact erase_rep _ val hk this
  · rintro ⟨n, z, ⟨e, he, _⟩, _⟩
    cases he

/-! ### a loop out of its rounds -/
theorem loopOk_of {ι : Type} (L : LSpec ι) {c : Code} {cx : Cx Int Bool} (h : CxOk cx) (hc : L.code = .loop c) (fid : FuncId) (px : Nm) (μ : ι → Nat) (hK : ∀ i, ∀ n ∈ L.K, Live (L.S i).H n)
    (step : ∀ inR i, L.pre i → ∃ fuel e st1 σ, Has (evCode cx (ev cx fuel) fid px inR c (L.S i)) (e, st1) ∧ (∀ n ∈ L.K, σ n = some n) ∧
      ((e = .nrm ∧ ∃ j, L.pre j ∧ μ j < μ i ∧ StSim σ st1 (L.S j) ∧ L.E j (L.q j) = L.E i (L.q i) ∧ L.T j (L.q j) = L.T i (L.q i)) ∨ (e ≠ .nrm ∧ e = L.E i (L.q i) ∧ StSim σ st1 (L.T i (L.q i))))) :
    LoopOk cx.P L := by
  intro c' hc' inR F n hF i hpi M ρ a w hs b k cs hro hb hr
  rw [hc] at hc'
  simp only [Code.loop.injEq] at hc'
  subst hc'
  exact loop_rule (fid := fid) (px := px) (inR := inR) (n := n) (K := L.K) L.pre L.S (fun i => L.T i (L.q i)) (fun i => L.E i (L.q i)) μ h hF hK (step inR) i hpi M ρ a w hs b k cs hro hb hr
theorem scopeOk_loop {ι : Type} {P : Program} (L : LSpec ι) {c : Code} (hc : L.code = .loop c) : ScopeOk P L := by
  intro whole cur h
  rw [hc] at h; cases h
/-- The names of what it comes to, unchanged. -/
def idN (K : List Nm) : Names := K.map fun n => (n, n)
theorem simL_nil : SimL σ [] [] := .nil
theorem sim_int {k : IntKind} {s s' : Bool} {n m : Int} (h : n = m) : Sim σ (.int k s n) (.int k s' m) := by subst h; exact .int k s s' n
theorem sim_bool {s s' b c : Bool} (h : b = c) : Sim σ (.bool s b) (.bool s' c) := by subst h; exact .bool s s' b
end
end Go.Sx
