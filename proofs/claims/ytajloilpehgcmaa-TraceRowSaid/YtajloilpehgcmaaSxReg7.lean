/- Regions whose order is drawn: the one run that was looked at. Conditions: none. -/
import Derived.Test.YtajloilpehgcmaaSxReg6
set_option linter.unusedVariables false
set_option linter.unusedSimpArgs false
set_option linter.unusedSectionVars false

namespace Go.Sx
section
variable {X X' : Nm → Prop} {M M' : Mem} {ρ ρ' : Rho} {w w' : World} {cx : Cx Int Bool} {H H' H2 Hc K : HH} {F : Fence} {n : Nat} {inR : Bool}
variable {rc : Rec Int Bool} {ops : Array Oper} {px : Nm} {T : List (Nat × Bool)} {ts ts' ts1 : List VV} {o : Oper} {v : VV} {q nd : Bool} {k : Nat} {done : List Nat}

def IsEff (ops : Array Oper) (k : Nat) : Prop := ∃ o, ops[k]? = some o ∧ effectOp o = true
def IsNew (ops : Array Oper) (k : Nat) : Prop := ∃ o, ops[k]? = some o ∧ newOp o = true
def wrote (S : Nat → List VV × HH) (j : Nat) : List Nm := (S (j + 1)).2.log.take ((S (j + 1)).2.log.length - (S j).2.log.length)

structure Canon (cx : Cx Int Bool) (rc : Rec Int Bool) (q : Bool) (ops : Array Oper) (px : Nm) (pre : Nat → Nat) (lz : List Nat) (S : Nat → List VV × HH) : Prop where
  step : ∀ i k : Nat, lz[i]? = some k → Has (stepOp cx rc q ops px k (S i).1 (S i).2) (S (i + 1))
  all : ∀ k, k < ops.size → k ∈ lz
  nodup : ∀ i j k : Nat, lz[i]? = some k → lz[j]? = some k → i = j
  behind : ∀ i k : Nat, lz[i]? = some k → ∀ j, (pre k).testBit j = true → ∃ i', i' < i ∧ lz[i']? = some j
  dst : ∀ i k d, dstOf ops i = some d → dstOf ops k = some d → i = k
  uniq : ∀ i d, dstOf ops i = some d → uniqW ops i = true
  named : ∀ (k : Nat) (o : Oper) (t : Tmp) (j : Nat), ops[k]? = some o → t ∈ tmpsOf ops o → dstOf ops j = some t → j = k ∨ (pre k).testBit j = true ∨ (pre j).testBit k = true
  effs : ∀ e e', IsEff ops e → IsEff ops e' → e = e' ∨ (pre e).testBit e' = true ∨ (pre e').testBit e = true
  news : ∀ i j a e : Nat, lz[i]? = some a → lz[j]? = some e → i < j → IsNew ops a → IsEff ops e → (pre e).testBit a = true
  reads : ∀ (i j k e : Nat) (o : Oper), lz[i]? = some k → lz[j]? = some e → ops[k]? = some o → ∀ nm ∈ readsOf (S i).1 o, e = k ∨ (pre e).testBit k = true ∨ (pre k).testBit e = true ∨ nm ∉ wrote S j
  guards : (q && needsT ops.toList) = true → ∀ (i k : Nat) (o : Oper) (j : Nat) (want : Bool), lz[i]? = some k → ops[k]? = some o → o.guard = some (j, want) → ∃ i', i' < i ∧ lz[i']? = some j
  plain : needsT ops.toList = true → ∀ t, NotMay (getT (S 0).1 t)

theorem orderOk_spec {pre : Nat → Nat} : ∀ (l : List Nat) (m : Nat), orderOk pre l m = true →
    (∀ i k : Nat, l[i]? = some k → m.testBit k = false ∧ ∀ j, (pre k).testBit j = true → m.testBit j = true ∨ ∃ i', i' < i ∧ l[i']? = some j) ∧ (∀ i j k : Nat, l[i]? = some k → l[j]? = some k → i = j)
  | [], m, _ => ⟨by simp, by simp⟩
  | x :: l, m, h => by
    unfold orderOk at h
    simp only [Bool.and_eq_true, Bool.not_eq_true', Nat.beq_eq] at h
    obtain ⟨⟨h1, h2⟩, h3⟩ := h
    obtain ⟨i1, i2⟩ := orderOk_spec l _ h3
    have bit : ∀ y, (m ||| 2 ^ x).testBit y = (m.testBit y || decide (x = y)) := by intro y; rw [Nat.testBit_or, Nat.testBit_two_pow]
    have hx : ∀ i : Nat, l[i]? ≠ some x := by
      intro i hi
      have := (i1 i x hi).1
      rw [bit] at this
      simp at this
    refine ⟨fun i k hk => ?_, fun i j k hi hj => ?_⟩
    · cases i with
      | zero =>
        simp only [List.getElem?_cons_zero, Option.some.injEq] at hk
        subst hk
        refine ⟨h1, fun j hj => .inl ?_⟩
        have := congrArg (fun z => z.testBit j) h2
        simp only [Nat.testBit_and] at this
        rw [hj] at this
        simpa using this
      | succ i =>
        simp only [List.getElem?_cons_succ] at hk
        obtain ⟨a1, a2⟩ := i1 i k hk
        rw [bit] at a1
        simp only [Bool.or_eq_false_iff] at a1
        refine ⟨a1.1, fun j hj => ?_⟩
        rcases a2 j hj with a3 | ⟨i', a3, a4⟩
        · rw [bit] at a3
          simp only [Bool.or_eq_true, decide_eq_true_eq] at a3
          rcases a3 with a3 | rfl
          · exact .inl a3
          · exact .inr ⟨0, by omega, rfl⟩
        · exact .inr ⟨i' + 1, by omega, a4⟩
    · cases i with
      | zero =>
        simp only [List.getElem?_cons_zero, Option.some.injEq] at hi
        subst hi
        cases j with
        | zero => rfl
        | succ j => exact absurd hj (by simpa using hx j)
      | succ i =>
        simp only [List.getElem?_cons_succ] at hi
        cases j with
        | zero =>
          simp only [List.getElem?_cons_zero, Option.some.injEq] at hj
          subst hj
          exact absurd hi (hx i)
        | succ j =>
          simp only [List.getElem?_cons_succ] at hj
          rw [i2 i j k hi hj]

theorem newsOk_spec {pre : Nat → Nat} : ∀ (l : List Nat) (acc : List Nat), newsOk pre ops l acc = true →
    (∀ j e : Nat, l[j]? = some e → IsEff ops e → (∀ a ∈ acc, (pre e).testBit a = true) ∧ ∀ i a : Nat, i < j → l[i]? = some a → IsNew ops a → (pre e).testBit a = true)
  | [], _, _ => by simp
  | x :: l, acc, h => by
    unfold newsOk at h
    intro j e hj he
    split at h
    · cases h
    · rename_i o ho
      have eff_new : ∀ k, IsEff ops k → ¬ IsNew ops k := by
        rintro k ⟨o, h1, h2⟩ ⟨o', h3, h4⟩
        rw [h1] at h3
        simp only [Option.some.injEq] at h3
        subst h3
        unfold newOp at h4
        split at h4 <;> rename_i hop <;> first | (simp [effectOp, hop] at h2; done) | cases h4
      cases hn : newOp o with
      | true =>
        rw [hn, if_pos rfl] at h
        cases j with
        | zero =>
          simp only [List.getElem?_cons_zero, Option.some.injEq] at hj
          subst hj
          exact absurd ⟨o, ho, hn⟩ (eff_new _ he)
        | succ j =>
          simp only [List.getElem?_cons_succ] at hj
          obtain ⟨h1, h2⟩ := newsOk_spec l _ h j e hj he
          refine ⟨fun a ha => h1 a (by simp [ha]), fun i a hi ha hna => ?_⟩
          cases i with
          | zero =>
            simp only [List.getElem?_cons_zero, Option.some.injEq] at ha
            subst ha
            exact h1 _ (by simp)
          | succ i =>
            simp only [List.getElem?_cons_succ] at ha
            exact h2 i a (by omega) ha hna
      | false =>
        have notnew : ¬ IsNew ops x := by
          rintro ⟨o', h1, h2⟩
          rw [ho] at h1
          simp only [Option.some.injEq] at h1
          subst h1
          rw [hn] at h2; cases h2
        rw [hn] at h
        simp only [Bool.false_eq_true, if_false] at h
        have hrest : newsOk pre ops l acc = true ∧ (effectOp o = true → ∀ a ∈ acc, (pre x).testBit a = true) := by
          split at h
          · simp only [Bool.and_eq_true, List.all_eq_true] at h
            exact ⟨h.2, fun _ => h.1⟩
          · rename_i hf; exact ⟨h, fun h => absurd h hf⟩
        cases j with
        | zero =>
          simp only [List.getElem?_cons_zero, Option.some.injEq] at hj
          subst hj
          obtain ⟨o', h1, h2⟩ := he
          rw [ho] at h1
          simp only [Option.some.injEq] at h1
          subst h1
          exact ⟨hrest.2 h2, fun i a hi => by omega⟩
        | succ j =>
          simp only [List.getElem?_cons_succ] at hj
          obtain ⟨h1, h2⟩ := newsOk_spec l _ hrest.1 j e hj he
          refine ⟨h1, fun i a hi ha hna => ?_⟩
          cases i with
          | zero =>
            simp only [List.getElem?_cons_zero, Option.some.injEq] at ha
            subst ha
            exact absurd hna notnew
          | succ i =>
            simp only [List.getElem?_cons_succ] at ha
            exact h2 i a (by omega) ha hna

/-- The edges of an operation, as bits. -/
def edgeBits (o : Oper) (acc : List Nat) : Nat := o.after.toList.foldl (fun s e => if Region.binds .any e then s ||| 2 ^ e.on ||| acc.getD e.on 0 else s) 0
theorem edgeBits_spec (acc : List Nat) (j : Nat) : ∀ (es : List Edge) (s : Nat),
    (es.foldl (fun s e => if Region.binds .any e then s ||| 2 ^ e.on ||| acc.getD e.on 0 else s) s).testBit j = true ↔
      s.testBit j = true ∨ ∃ e ∈ es, Region.binds .any e = true ∧ (e.on = j ∨ (acc.getD e.on 0).testBit j = true)
  | [], s => by simp
  | e :: es, s => by
    rw [List.foldl_cons, edgeBits_spec acc j es]
    split
    · rename_i hb
      rw [Nat.testBit_or, Nat.testBit_or, Nat.testBit_two_pow]
      simp only [Bool.or_eq_true, decide_eq_true_eq, List.mem_cons]
      constructor
      · rintro ((( h | h) | h) | ⟨e', h1, h2⟩)
        · exact .inl h
        · exact .inr ⟨e, .inl rfl, hb, .inl h⟩
        · exact .inr ⟨e, .inl rfl, hb, .inr h⟩
        · exact .inr ⟨e', .inr h1, h2⟩
      · rintro (h | ⟨e', rfl | h1, h2, h3⟩)
        · exact .inl (.inl (.inl h))
        · rcases h3 with h3 | h3
          · exact .inl (.inl (.inr h3))
          · exact .inl (.inr h3)
        · exact .inr ⟨e', h1, h2, h3⟩
    · rename_i hb
      constructor
      · rintro (h | ⟨e', h1, h2⟩)
        · exact .inl h
        · exact .inr ⟨e', by simp [h1], h2⟩
      · rintro (h | ⟨e', h1, h2⟩)
        · exact .inl h
        · simp only [List.mem_cons] at h1
          rcases h1 with rfl | h1
          · exact absurd h2.1 hb
          · exact .inr ⟨e', h1, h2⟩

theorem preGo_spec : ∀ (l : List Oper) (acc : List Nat), (preGo l acc).length = acc.length + l.length ∧ (∀ i, i < acc.length → (preGo l acc)[i]? = acc[i]?) ∧
    ∀ i o, l[i]? = some o → (preGo l acc)[acc.length + i]? = some (edgeBits o ((preGo l acc).take (acc.length + i)))
  | [], acc => by simp [preGo]
  | o :: l, acc => by
    obtain ⟨h1, h2, h3⟩ := preGo_spec l (acc ++ [edgeBits o acc])
    have hd : preGo (o :: l) acc = preGo l (acc ++ [edgeBits o acc]) := rfl
    rw [hd]
    have htake : ∀ m, m ≤ acc.length → (preGo l (acc ++ [edgeBits o acc])).take m = acc.take m := by
      intro m hm
      apply List.ext_getElem?
      intro i
      rw [List.getElem?_take, List.getElem?_take]
      split
      · rw [h2 i (by simp; omega), List.getElem?_append_left (by omega)]
      · rfl
    refine ⟨by rw [h1]; simp; omega, fun i hi => ?_, fun i o' hi => ?_⟩
    · rw [h2 i (by simp; omega), List.getElem?_append_left hi]
    · cases i with
      | zero =>
        simp only [List.getElem?_cons_zero, Option.some.injEq] at hi
        subst hi
        rw [Nat.add_zero, h2 _ (by simp), htake _ (Nat.le_refl _), List.take_length, List.getElem?_append_right (Nat.le_refl _)]
        simp
      | succ i =>
        simp only [List.getElem?_cons_succ] at hi
        have := h3 i o' hi
        simp only [List.length_append, List.length_singleton] at this
        rw [show acc.length + (i + 1) = acc.length + 1 + i by omega]
        exact this

/-- What is ahead, through its edges. -/
theorem pre_spec {k j : Nat} {o : Oper} (ho : ops[k]? = some o) : ((preGo ops.toList []).getD k 0).testBit j = true ↔
    ∃ e ∈ o.after.toList, Region.binds .any e = true ∧ (e.on = j ∨ (e.on < k ∧ ((preGo ops.toList []).getD e.on 0).testBit j = true)) := by
  obtain ⟨h1, h2, h3⟩ := preGo_spec ops.toList []
  have := h3 k o (by simpa using ho)
  simp only [List.length_nil, Nat.zero_add] at this
  rw [List.getD_eq_getElem?_getD, this]
  simp only [Option.getD_some, edgeBits]
  rw [edgeBits_spec]
  simp only [Nat.zero_testBit, Bool.false_eq_true, false_or]
  constructor
  · rintro ⟨e, h4, h5, h6⟩
    refine ⟨e, h4, h5, h6.imp id fun h => ?_⟩
    rw [List.getD_eq_getElem?_getD, List.getElem?_take] at h
    split at h
    · exact ⟨by assumption, by rw [List.getD_eq_getElem?_getD]; exact h⟩
    · simp at h
  · rintro ⟨e, h4, h5, h6⟩
    refine ⟨e, h4, h5, h6.imp id fun ⟨h, h'⟩ => ?_⟩
    rw [List.getD_eq_getElem?_getD, List.getElem?_take, if_pos h]
    rw [List.getD_eq_getElem?_getD] at h'
    exact h'

theorem trace_states : ∀ (l : List Nat) (ts : List VV) (H : HH) (r : List VV × HH × List (Nat × List Nm × List Nm)), Has (traceOps cx rc q ops px l ts H) r →
    ∃ S : Nat → List VV × HH, S 0 = (ts, H) ∧ S l.length = (r.1, r.2.1) ∧ ∀ i k, l[i]? = some k → Has (stepOp cx rc q ops px k (S i).1 (S i).2) (S (i + 1)) ∧
      r.2.2[i]? = some (k, (match ops[k]? with | some o => readsOf (S i).1 o | none => []), wrote S i)
  | [], ts, H, r, h => by
    have := has_ret.1 h
    subst this
    exact ⟨fun _ => (ts, H), rfl, rfl, by simp⟩
  | k :: l, ts, H, r, h => by
    obtain ⟨s, h1, h2⟩ := has_bind h
    obtain ⟨s', h3, h4⟩ := has_bind h2
    have := has_ret.1 h4
    subst this
    obtain ⟨S, s1, s2, s3⟩ := trace_states l _ _ _ h3
    refine ⟨fun i => match i with | 0 => (ts, H) | i + 1 => S i, rfl, s2, fun i k' hk => ?_⟩
    cases i with
    | zero =>
      simp only [List.getElem?_cons_zero, Option.some.injEq] at hk
      subst hk
      have e : S 0 = s := s1
      refine ⟨by simp only [e]; exact h1, ?_⟩
      simp only [List.getElem?_cons_zero, wrote, e]
      rfl
    | succ i =>
      simp only [List.getElem?_cons_succ] at hk
      exact s3 i k' hk

theorem memNm_iff {m : Nm} : ∀ {l : List Nm}, memNm m l = true ↔ m ∈ l
  | [] => by simp [memNm]
  | x :: l => by
    simp only [memNm, Bool.or_eq_true, nmEq_iff, memNm_iff (l := l), List.mem_cons]
    constructor
    · rintro (h | h)
      · exact .inl h.symm
      · exact .inr h
    · rintro (h | h)
      · exact .inl h.symm
      · exact .inr h

theorem canon_of (hd : needsT ops.toList = true → ∀ t, NotMay (getT ts t)) {r : List VV × HH} (h : Has (runDraw cx rc q ops px ts H) r) :
    ∃ lz S, Canon cx rc q ops px (fun i => (preGo ops.toList []).getD i 0) lz S ∧ S 0 = (ts, H) ∧ S lz.length = r := by
  unfold runDraw at h
  dsimp only at h
  generalize hlz : lazyOrder (fun i => (preGo ops.toList []).getD i 0) ops.toList = lz at h
  generalize hpre : (fun i => (preGo ops.toList []).getD i 0) = pre at h
  rcases has_if h with ⟨hgd, h1⟩ | ⟨_, h1⟩
  · obtain ⟨r', h2, h3⟩ := has_bind h1
    rcases has_if h3 with ⟨hok, h4⟩ | ⟨_, h4⟩
    · have := has_ret.1 h4
      subst this
      obtain ⟨S, s1, s2, s3⟩ := trace_states lz ts H r' h2
      refine ⟨lz, S, ?_, s1, s2⟩
      unfold drawOk at hok
      simp only [Bool.and_eq_true, List.all_eq_true, List.mem_range, Bool.or_eq_true, Nat.beq_eq, List.contains_eq_mem, decide_eq_true_eq, Option.isNone_iff_eq_none,
        Bool.not_eq_true', List.isEmpty_iff] at hok
      obtain ⟨⟨⟨⟨⟨⟨k1, k2⟩, k3⟩, k4⟩, k5⟩, k6⟩, k7⟩ := hok
      obtain ⟨o1, o2⟩ := orderOk_spec lz 0 k3
      have lt_of_dst : ∀ i d, dstOf ops i = some d → i < ops.size := by
        intro i d hi
        unfold dstOf at hi
        cases hq : ops[i]? with
        | none => rw [hq] at hi; simp at hi
        | some o => exact (Array.getElem?_eq_some_iff.1 hq).1
      have uq : ∀ i d, dstOf ops i = some d → uniqW ops i = true := by
        intro i d hi
        rcases k1 i (lt_of_dst i d hi) with h | h
        · rw [hi] at h; cases h
        · exact h
      refine ⟨fun i k hk => (s3 i k hk).1, k2, o2, fun i k hk j hj => ?_, fun i k d hi hk => uniqW_eq (uq k d hk) hi hk, uq, fun k o t j ho ht hj => ?_, fun e e' he he' => ?_, fun i j a e ha he hij hna hne => ?_, fun i j k e o hk he ho nm hnm => ?_,
        fun hqn i k o j want hk ho hg => ?_, fun hn t => by rw [s1]; exact hd hn t⟩
      · rcases (o1 i k hk).2 j hj with h | h
        · simp at h
        · exact h
      · have hk' : k < ops.size := (Array.getElem?_eq_some_iff.1 ho).1
        have := k4 k hk'
        rw [ho] at this
        simp only [List.all_eq_true, List.mem_range, Bool.or_eq_true, Nat.beq_eq, Bool.not_eq_true', beq_eq_false_iff_ne, ne_eq] at this
        rcases this t ht j (lt_of_dst j t hj) with (h | h) | h
        · exact .inl h
        · exact absurd hj h
        · unfold ordered at h
          simp only [Bool.or_eq_true] at h
          exact .inr h
      · have lt : ∀ e, IsEff ops e → e < ops.size := fun e ⟨o, h, _⟩ => (Array.getElem?_eq_some_iff.1 h).1
        rcases k5 e (lt e he) e' (lt e' he') with (h | h) | h
        · exact .inl h
        · exfalso
          obtain ⟨o, h1, h2⟩ := he
          obtain ⟨o', h3, h4⟩ := he'
          simp [h1, h2, h3, h4] at h
        · unfold ordered at h
          simp only [Bool.or_eq_true] at h
          exact .inr h.symm
      · exact (newsOk_spec lz [] k6 j e he hne).2 i a hij ha hna
      · have h5 := (s3 i k hk).2
        have h6 := (s3 j e he).2
        rw [ho] at h5
        dsimp only at h5
        rcases k7 _ (List.mem_of_getElem? h5) with h | h
        · dsimp only at h; rw [h] at hnm; cases hnm
        · rcases h _ (List.mem_of_getElem? h6) with (h | h) | h
          · exact .inl h.symm
          · unfold ordered at h
            simp only [Bool.or_eq_true] at h
            rcases h with h | h
            · exact .inr (.inl h)
            · exact .inr (.inr (.inl h))
          · refine .inr (.inr (.inr fun hc => ?_))
            have h7 := h nm hnm
            rw [memNm_iff.2 hc] at h7
            cases h7
      · have hgo : guardsOk ops lz [] = true := by
          rw [hqn] at hgd
          simpa using hgd
        have : ∀ (l : List Nat) (done : List Nat), guardsOk ops l done = true → ∀ (i k : Nat) o j want, l[i]? = some k → ops[k]? = some o → o.guard = some (j, want) → j ∈ done ∨ ∃ i', i' < i ∧ l[i']? = some j := by
          intro l
          induction l with
          | nil => intro done _ i k o j want hk; simp at hk
          | cons x l ih =>
            intro done hl i k o j want hk ho hg
            unfold guardsOk at hl
            simp only [Bool.and_eq_true] at hl
            cases i with
            | zero =>
              simp only [List.getElem?_cons_zero, Option.some.injEq] at hk
              subst hk
              have h8 := hl.1.2
              rw [ho] at h8
              simp only [Option.bind_some, hg, Bool.and_eq_true, List.contains_eq_mem, decide_eq_true_eq] at h8
              exact .inl h8.1
            | succ i =>
              simp only [List.getElem?_cons_succ] at hk
              rcases ih (x :: done) hl.2 i k o j want hk ho hg with h8 | ⟨i', h8, h9⟩
              · simp only [List.mem_cons] at h8
                rcases h8 with rfl | h8
                · exact .inr ⟨0, by omega, rfl⟩
                · exact .inl h8
              · exact .inr ⟨i' + 1, by omega, h9⟩
        rcases this lz [] hgo i k o j want hk ho hg with h8 | h8
        · cases h8
        · exact h8
    · exact absurd h4 has_fail
  · exact absurd h1 has_fail
end
end Go.Sx
