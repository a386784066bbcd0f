/- Regions whose order is drawn: whatever order comes. Conditions: none. -/
import Derived.Test.YtajloilpehgcmaaSxReg8
set_option linter.unusedVariables false
set_option linter.unusedSimpArgs false
set_option linter.unusedSectionVars false

namespace Go.Sx
section
variable {X X' : Nm → Prop} {M M' M0 : Mem} {ρ ρ' ρ0 : Rho} {w w' w0 : World} {cx : Cx Int Bool} {H H' H2 Hc K KD H0 : HH} {F : Fence} {n : Nat} {inR : Bool}
variable {rc : Rec Int Bool} {ops : Array Oper} {px : Nm} {T : List (Nat × Bool)} {ts ts' ts1 : List VV} {o : Oper} {v : VV} {q nd : Bool} {k : Nat} {done : List Nat}
variable {pre : Nat → Nat} {lz : List Nat} {S : Nat → List VV × HH} {D : Nat → Prop} {a a' : Act} {p : Nat} {d0 : List Deferred}

/-- The temporaries, so many operations having been done. -/
def TmpOk (ops : Array Oper) (lz : List Nat) (S : Nat → List VV × HH) (D : Nat → Prop) (a : Act) (M : Mem) (ρ : Rho) : Prop :=
  ∀ t i, i ≤ lz.length → (∀ k, dstOf ops k = some t → (D k ↔ ∃ m, m < i ∧ lz[m]? = some k)) → Rep M ρ (getT (S i).1 t) (a.tmps.getD t undef)
/-- Memory, so many operations having been done: what it was behind the last effect, and the rows that have been laid since. -/
structure MemOk (ops : Array Oper) (px : Nm) (lz : List Nat) (S : Nat → List VV × HH) (D : Nat → Prop) (KD : HH) (p : Nat) : Prop where
  ple : p ≤ lz.length
  pdef : p = 0 ∨ ∃ e, lz[p - 1]? = some e ∧ IsEff ops e ∧ 0 < p
  eff : ∀ (i k : Nat), lz[i]? = some k → IsEff ops k → (D k ↔ i < p)
  sub : ∀ m e, (S p).2.get m = some e → KD.get m = some e
  sup : ∀ m, KD.get m ≠ none → (S p).2.get m ≠ none ∨ ∃ i k, lz[i]? = some k ∧ p ≤ i ∧ D k ∧ IsNew ops k ∧ m = k :: px ∧ (S i).2.get m = none ∧ KD.get m = (S (i + 1)).2.get m
  news : ∀ (i k : Nat), lz[i]? = some k → IsNew ops k → D k → (S i).2.get (k :: px) = none → (S (i + 1)).2.get (k :: px) ≠ none → KD.get (k :: px) ≠ none
structure DInv (X : Nm → Prop) (ops : Array Oper) (px : Nm) (pre : Nat → Nat) (lz : List Nat) (S : Nat → List VV × HH) (M0 : Mem) (ρ0 : Rho) (H0 : HH) (w0 : World) (d0 : List Deferred)
    (D : Nat → Prop) (a : Act) (w : World) (M : Mem) (ρ : Rho) (KD : HH) (p : Nat) : Prop where
  closed : Closed pre D
  tmp : TmpOk ops lz S D a M ρ
  inv : Inv X M ρ KD w
  ext : Ext X H0 M0 ρ0 w0 M ρ w
  mem : MemOk ops px lz S D KD p
  defers : a.defers = d0
  size : a.tmps.size = (S 0).1.length
  le0 : ∀ b, Own KD ρ b → b < w0.heap.size → Own H0 ρ0 b

theorem TmpOk.mono (h : TmpOk ops lz S D a M ρ) (hM : MLe M M') (hR : RLe ρ ρ') : TmpOk ops lz S D a M' ρ' := fun t i hi hk => (h t i hi hk).mono hM hR

section
variable (hC : Canon cx rc q ops px pre lz S)
include hC

theorem Canon.dst_lt {j : Nat} {t : Tmp} (h : dstOf ops j = some t) : j ∈ lz := by
  refine hC.all j ?_
  unfold dstOf at h
  cases hq : ops[j]? with
  | none => rw [hq] at h; simp at h
  | some o => exact (Array.getElem?_eq_some_iff.1 hq).1

/-- One more operation. -/
theorem TmpOk.put (h : TmpOk ops lz S D a M ρ) {i k : Nat} (hi : lz[i]? = some k) (hsz : a.tmps.size = (S 0).1.length) {val : Value}
    (hv : ∀ d, dstOf ops k = some d → (d : Nat) < (S 0).1.length → Rep M ρ (getT (S (i + 1)).1 d) val) : TmpOk ops lz S (fun j => D j ∨ j = k) (a.put (dstOf ops k) val) M ρ := by
  intro t i' hi' hk
  by_cases hd : dstOf ops k = some t
  · rw [hd]
    have : ∃ m, m < i' ∧ lz[m]? = some k := (hk k hd).1 (.inr rfl)
    obtain ⟨m, hm1, hm2⟩ := this
    have := hC.nodup _ _ _ hm2 hi
    subst this
    by_cases ht : (t : Nat) < a.tmps.size
    · have : (a.put (some t) val).tmps.getD t undef = val := by
        simp only [Act.put, Array.getD_eq_getD_getElem?]
        rw [Array.getElem?_setIfInBounds_self_of_lt ht]
        rfl
      rw [this]
      refine hC.stay (hv t hd (by rw [← hsz]; exact ht)) i' (by omega) hi' fun x j h1 h2 h3 h4 => ?_
      have := hC.dst j k t h4 hd
      subst this
      have := hC.nodup _ _ _ h3 hi
      omega
    · have h1 : (a.put (some t) val).tmps.getD t undef = undef := by
        simp only [Act.put, Array.getD_eq_getD_getElem?]
        rw [Array.getElem?_eq_none (by simpa using Nat.le_of_not_lt ht)]
        rfl
      have h2 : getT (S i').1 t = .undef := by
        unfold getT
        rw [List.getElem?_eq_none (by rw [hC.len i' hi', ← hsz]; exact Nat.le_of_not_lt ht)]
        rfl
      rw [h1, h2]
      exact .undef
  · have : (a.put (dstOf ops k) val).tmps.getD t undef = a.tmps.getD t undef := by
      cases hdk : dstOf ops k with
      | none => rfl
      | some d =>
        have hne : d ≠ t := by rintro rfl; exact hd hdk
        simp only [Act.put, Array.getD_eq_getD_getElem?]
        rw [Array.getElem?_setIfInBounds_ne hne]
    rw [this]
    refine h t i' hi' fun j hj => ?_
    rw [← hk j hj]
    constructor
    · exact .inl
    · rintro (h1 | rfl)
      · exact h1
      · exact absurd hj hd

/-- What an operation names stands as it stood in the one run. -/
theorem TmpOk.named (h : TmpOk ops lz S D a M ρ) (hcl : Closed pre D) {i k : Nat} (hi : lz[i]? = some k) (hk : ¬ D k) (hp : ∀ j, (pre k).testBit j = true → D j) {o : Oper} (ho : ops[k]? = some o) :
    ∀ t ∈ tmpsOf ops o, Rep M ρ (getT (S i).1 t) (a.tmps.getD t undef) := by
  intro t ht
  refine h t i (Nat.le_of_lt (some_lt hi)) fun j hj => ?_
  rcases hC.named k o t j ho ht hj with rfl | h1 | h1
  · exact ⟨fun h => absurd h hk, fun ⟨m, h1, h2⟩ => by have := hC.nodup _ _ _ h2 hi; omega⟩
  · exact ⟨fun _ => hC.behind i k hi j h1, fun _ => hp j h1⟩
  · refine ⟨fun h2 => absurd (hcl j h2 k h1) hk, fun ⟨m, h2, h3⟩ => ?_⟩
    obtain ⟨m', h4, h5⟩ := hC.behind m j h3 k h1
    have := hC.nodup _ _ _ h5 hi
    omega
theorem TmpOk.tagged (h : TmpOk ops lz S D a M ρ) (hcl : Closed pre D) {i k : Nat} (hi : lz[i]? = some k) (hk : ¬ D k) (hp : ∀ j, (pre k).testBit j = true → D j) {o : Oper} (ho : ops[k]? = some o)
    (hn : needsT ops.toList = true) : ∀ t ∈ tmpsOf ops o, ∀ tg g v, getT (S i).1 t = .may tg g v → (Holds ops a.tmps tg ↔ g = true) := by
  intro t ht tg g v hm
  have hile := Nat.le_of_lt (some_lt hi)
  obtain ⟨h1, h2⟩ := hC.tags hn i hile
  obtain ⟨h3, h4⟩ := (h1 rfl).1 t tg g v hm
  obtain ⟨x, m, h5, h6, h7, h8⟩ := h2 t tg g v hm
  have hDx : D x := by
    rcases hC.named k o t x ho ht h7 with rfl | h9 | h9
    · have := hC.nodup _ _ _ h6 hi; omega
    · exact hp x h9
    · obtain ⟨m', h10, h11⟩ := hC.behind m x h6 k h9
      have := hC.nodup _ _ _ h11 hi; omega
  rw [h4]
  refine holds_iff (M := M) (ρ := ρ) fun y hy => ?_
  obtain ⟨h9, h10, tj, h11, h12⟩ := h3 y hy
  refine ⟨tj, h11, h12, h tj i hile fun j hj => ?_⟩
  have := hC.dst j y.1 tj hj h11
  subst this
  exact ⟨fun _ => mem_take_rev.1 h9, fun _ => h8 y hy D hcl hDx⟩

/-! ### memory -/
variable (hG : RecGrow rc)
include hG

theorem MemOk.between (h : MemOk ops px lz S D KD p) {i k x e : Nat} (hi : lz[i]? = some k) (hk : ¬ D k) (hp : ∀ j, (pre k).testBit j = true → D j) (hcl : Closed pre D)
    (hx : lz[x]? = some e) (he : IsEff ops e) (hne : e ≠ k) (hr : (p ≤ x ∧ x < i) ∨ (i ≤ x ∧ x < p)) : (pre e).testBit k = false ∧ (pre k).testBit e = false := by
  have hD := h.eff x e hx he
  rcases hr with ⟨h1, h2⟩ | ⟨h1, h2⟩
  · refine ⟨?_, ?_⟩
    · cases hb : (pre e).testBit k with
      | false => rfl
      | true =>
        obtain ⟨i', h3, h4⟩ := hC.behind x e hx k hb
        have := hC.nodup _ _ _ h4 hi; omega
    · cases hb : (pre k).testBit e with
      | false => rfl
      | true =>
        have := hD.1 (hp e hb); omega
  · have hDe := hD.2 h2
    refine ⟨?_, ?_⟩
    · cases hb : (pre e).testBit k with
      | false => rfl
      | true => exact absurd (hcl e hDe k hb) hk
    · cases hb : (pre k).testBit e with
      | false => rfl
      | true =>
        obtain ⟨i', h3, h4⟩ := hC.behind i k hi e hb
        have := hC.nodup _ _ _ h4 hx; omega

/-- A laying operation that is still to be done stands behind the last effect. -/
theorem MemOk.new_late (h : MemOk ops px lz S D KD p) {i k : Nat} (hi : lz[i]? = some k) (hk : ¬ D k) (hcl : Closed pre D) (hn : IsNew ops k) : p ≤ i := by
  rcases h.pdef with rfl | ⟨e, h1, h2, h3⟩
  · omega
  · by_cases hlt : i < p
    · exfalso
      have hne : i ≠ p - 1 := by
        rintro rfl
        rw [hi] at h1
        simp only [Option.some.injEq] at h1
        subst h1
        exact eff_not_new h2 hn
      have hDe : D e := (h.eff _ _ h1 h2).2 (by omega)
      exact hk (hcl e hDe k (hC.news i (p - 1) k e hi h1 (by omega) hn h2))
    · omega
/-- An effect that is to be done is the next. -/
theorem MemOk.eff_next (h : MemOk ops px lz S D KD p) {i k : Nat} (hi : lz[i]? = some k) (hk : ¬ D k) (hp : ∀ j, (pre k).testBit j = true → D j) (hcl : Closed pre D) (hE : IsEff ops k) :
    p ≤ i ∧ (∀ x e, p ≤ x → x < i → lz[x]? = some e → ¬ IsEff ops e) := by
  refine ⟨?_, fun x e h1 h2 h3 h4 => ?_⟩
  · have := h.eff i k hi hE
    have : ¬ i < p := fun hlt => hk (this.2 hlt)
    omega
  · have hne : e ≠ k := by
      rintro rfl
      have := hC.nodup _ _ _ h3 hi; omega
    obtain ⟨h5, h6⟩ := MemOk.between hC hG h hi hk hp hcl h3 h4 hne (.inl ⟨h1, h2⟩)
    rcases hC.effs e k h4 hE with h7 | h7 | h7
    · exact hne h7
    · rw [h5] at h7; cases h7
    · rw [h6] at h7; cases h7

/-- What an effect saw in the one run is there. -/
theorem MemOk.eff_sub (h : MemOk ops px lz S D KD p) {i k : Nat} (hi : lz[i]? = some k) (hk : ¬ D k) (hp : ∀ j, (pre k).testBit j = true → D j) (hcl : Closed pre D) (hE : IsEff ops k) :
    (∀ m e, (S i).2.get m = some e → KD.get m = some e) ∧
    (∀ m, KD.get m ≠ none → (S i).2.get m = none → ∃ i' k', lz[i']? = some k' ∧ i < i' ∧ D k' ∧ IsNew ops k' ∧ m = k' :: px ∧ (S i').2.get m = none ∧ KD.get m = (S (i' + 1)).2.get m) := by
  obtain ⟨h1, h2⟩ := MemOk.eff_next hC hG h hi hk hp hcl hE
  have hile := Nat.le_of_lt (some_lt hi)
  refine ⟨fun m e he => ?_, fun m hm hn => ?_⟩
  · by_cases h0 : (S p).2.get m = none
    · obtain ⟨x, k', h3, h4, h5, h6, h7, h8, h9⟩ := hC.origin hG h0 i h1 hile (fun x e h3 h4 h5 => h2 x e h3 h4 h5) (by simp [he])
      subst h7
      have hDk : D k' := hp k' (hC.news x i k' k h5 hi h4 h6 hE)
      have hKD := h.news x k' h5 h6 hDk h8 h9
      rcases h.sup _ hKD with h10 | ⟨i', k2, h10, h11, h12, h13, h14, h15, h16⟩
      · exact absurd h0 h10
      · simp only [List.cons.injEq] at h14
        obtain ⟨rfl, _⟩ := h14
        have := hC.nodup _ _ _ h10 h5
        subst this
        rw [h16, ← he]
        exact (hC.keep hG h9 i (by omega) hile fun y e h17 h18 h19 h20 => absurd h20 (h2 y e (by omega) h18 h19)).symm
    · have := hC.keep hG h0 i h1 hile fun y e h17 h18 h19 h20 => absurd h20 (h2 y e h17 h18 h19)
      rw [this] at he
      exact h.sub m e he
  · rcases h.sup m hm with h3 | ⟨i', k', h3, h4, h5, h6, h7, h8, h9⟩
    · exact absurd (hC.none_of hG h1 hile hn) h3
    · refine ⟨i', k', h3, ?_, h5, h6, h7, h8, h9⟩
      by_cases hlt : i < i'
      · exact hlt
      · exfalso
        by_cases he : i = i'
        · subst he
          rw [hi] at h3
          simp only [Option.some.injEq] at h3
          subst h3
          exact hk h5
        · have := hC.none_of hG (i := i' + 1) (j := i) (by omega) hile hn
          rw [h9] at hm
          exact hm this

/-- What a reader saw in the one run is there. -/
theorem MemOk.read_sees (h : MemOk ops px lz S D KD p) {i k : Nat} (hi : lz[i]? = some k) (hk : ¬ D k) (hp : ∀ j, (pre k).testBit j = true → D j) (hcl : Closed pre D) (hE : ¬ IsEff ops k)
    {m : Nm} (hm : (S i).2.get m ≠ none) (hKD : KD.get m ≠ none) (hw : ∀ x e, lz[x]? = some e → e = k ∨ (pre e).testBit k = true ∨ (pre k).testBit e = true ∨ m ∉ wrote S x) : KD.get m = (S i).2.get m := by
  have hile := Nat.le_of_lt (some_lt hi)
  have free : ∀ x e, lz[x]? = some e → IsEff ops e → ((p ≤ x ∧ x < i) ∨ (i ≤ x ∧ x < p)) → m ∉ wrote S x := by
    intro x e hx he hr
    have hne : e ≠ k := by rintro rfl; exact hE he
    obtain ⟨h5, h6⟩ := MemOk.between hC hG h hi hk hp hcl hx he hne hr
    rcases hw x e hx with h7 | h7 | h7 | h7
    · exact absurd h7 hne
    · rw [h5] at h7; cases h7
    · rw [h6] at h7; cases h7
    · exact h7
  by_cases hpi : p ≤ i
  · rcases h.sup m hKD with h1 | ⟨i', k', h3, h4, h5, h6, h7, h8, h9⟩
    · have := hC.keep hG h1 i hpi hile fun x e h2 h3 h4 h5 => free x e h4 h5 (.inl ⟨h2, h3⟩)
      rw [this]
      cases hq : (S p).2.get m with
      | none => exact absurd hq h1
      | some e => exact h.sub m e hq
    · have hlt : i' < i := by
        by_cases hlt : i' < i
        · exact hlt
        · exact absurd (hC.none_of hG (i := i) (j := i') (by omega) (Nat.le_of_lt (some_lt h3)) h8) hm
      rw [h9] at hKD ⊢
      exact (hC.keep hG hKD i (by omega) hile fun x e h2 h3 h4 h5 => free x e h4 h5 (.inl ⟨by omega, h3⟩)).symm
  · have := hC.keep hG hm p (by omega) h.ple fun x e h2 h3 h4 h5 => free x e h4 h5 (.inr ⟨h2, h3⟩)
    rw [← this]
    cases hq : (S p).2.get m with
    | none => rw [this] at hq; exact absurd hq hm
    | some e => exact h.sub m e hq

/-- When all is done, memory is what it was in the one run. -/
theorem MemOk.final (h : MemOk ops px lz S D KD p) (hall : ∀ k, k ∈ lz → D k) : ∀ m, (S lz.length).2.get m = KD.get m := by
  have hno : ∀ x e, p ≤ x → x < lz.length → lz[x]? = some e → ¬ IsEff ops e := by
    intro x e h1 h2 h3 h4
    have := (h.eff x e h3 h4).1 (hall e (List.mem_of_getElem? h3))
    omega
  intro m
  by_cases hK : KD.get m = none
  · rw [hK]
    have h0 : (S p).2.get m = none := by
      cases hq : (S p).2.get m with
      | none => rfl
      | some e => rw [h.sub m e hq] at hK; cases hK
    cases hq : (S lz.length).2.get m with
    | none => rfl
    | some e =>
      exfalso
      obtain ⟨x, k', h3, h4, h5, h6, h7, h8, h9⟩ := hC.origin hG h0 lz.length h.ple (Nat.le_refl _) hno (by simp [hq])
      subst h7
      exact h.news x k' h5 h6 (hall k' (List.mem_of_getElem? h5)) h8 h9 hK
  · rcases h.sup m hK with h1 | ⟨i', k', h3, h4, h5, h6, h7, h8, h9⟩
    · have := hC.keep hG h1 lz.length h.ple (Nat.le_refl _) fun x e h2 h3 h4 h5 => absurd h5 (hno x e h2 h3 h4)
      rw [this]
      cases hq : (S p).2.get m with
      | none => exact absurd hq h1
      | some e => exact (h.sub m e hq).symm
    · rw [h9] at hK ⊢
      exact hC.keep hG hK lz.length (by have := some_lt h3; omega) (Nat.le_refl _) fun x e h2 h3' h4' h5' => absurd h5' (hno x e (by omega) h3' h4')
end
end
end Go.Sx
