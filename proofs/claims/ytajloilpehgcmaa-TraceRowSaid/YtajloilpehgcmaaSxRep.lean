/- What the executor's values stand for in the model's memory. Conditions: none. -/
import Derived.Test.YtajloilpehgcmaaSxSem
import Derived.Laws.CopyRow
set_option linter.unusedVariables false
set_option linter.unusedSimpArgs false
set_option linter.unusedSectionVars false

namespace Go.Sx

abbrev Mem := Nat → Nat → Option Value
abbrev Rho := Nm → Option (Nat × Nat)

inductive Rep (M : Mem) (ρ : Rho) : VV → Value → Prop
  | int (k : IntKind) (s : Bool) (n : Int) : Rep M ρ (.int k s n) (.int k n)
  | bool (s b : Bool) : Rep M ρ (.bool s b) (.bool b)
  | agg (cs : List VV) (vs : Array Value) (hl : cs.length = vs.size)
      (h : ∀ (i : Nat) (c : VV) (v : Value), cs[i]? = some c → vs[i]? = some v → Rep M ρ c v) : Rep M ρ (.agg cs) (.agg vs)
  | tup (cs : List VV) (vs : Array Value) (hl : cs.length = vs.size)
      (h : ∀ (i : Nat) (c : VV) (v : Value), cs[i]? = some c → vs[i]? = some v → Rep M ρ c v) : Rep M ρ (.tup cs) (.tuple vs)
  | ptr (nm : Nm) (s : Bool) (off : Int) (b z : Nat) (hr : ρ nm = some (b, z)) (h0 : 0 ≤ off) : Rep M ρ (.ptr nm s off) (.pointer (some ⟨b, off.toNat, none⟩))
  | nil : Rep M ρ .nil (.pointer none)
  | osl (nm : Nm) (off sz : Nat) (s : Bool) (len : Int) (b z n c o : Nat) (hr : ρ nm = some (b, z)) (hn : len = (n : Int)) (hc : n ≤ c)
      (ho : c ≠ 0 → o = off ∧ off + c * sz ≤ z) : Rep M ρ (.osl nm off sz s len) (.slice (some ⟨b, o, none⟩) n c)
  | islNil (id sz : Nat) (s c0 : Bool) (len : Int) (hn : len = 0) : Rep M ρ (.isl id sz s len [] c0) (.slice none 0 0)
  | isl (id sz : Nat) (s : Bool) (len : Int) (es : List VV) (c0 : Bool) (b o c : Nat) (vs : Nat → Value) (hn : len = (es.length : Int)) (hc : es.length ≤ c)
      (h0 : c0 = true → c = 0) (hsz : ∀ e ∈ es, (cellsOf e).length = sz)
      (hm : ∀ (i : Nat) (x : VV), (flat es)[i]? = some x → M b (o + i) = some (vs i))
      (h : ∀ (i : Nat) (x : VV), (flat es)[i]? = some x → Rep M ρ x (vs i)) : Rep M ρ (.isl id sz s len es c0) (.slice (some ⟨b, o, none⟩) es.length c)
  | eptr (cs : List VV) (b o : Nat) (vs : Nat → Value)
      (hm : ∀ (i : Nat) (x : VV), cs[i]? = some x → M b (o + i) = some (vs i))
      (h : ∀ (i : Nat) (x : VV), cs[i]? = some x → Rep M ρ x (vs i)) : Rep M ρ (.eptr cs) (.pointer (some ⟨b, o, none⟩))
  | fn (f : FuncId) (first cap : List VV) (vf vc : Array Value) (hl : first.length = vf.size) (hl' : cap.length = vc.size)
      (h : ∀ (i : Nat) (c : VV) (v : Value), first[i]? = some c → vf[i]? = some v → Rep M ρ c v)
      (h' : ∀ (i : Nat) (c : VV) (v : Value), cap[i]? = some c → vc[i]? = some v → Rep M ρ c v) : Rep M ρ (.fn f first cap) (.func (.func f) vf vc)
  | yld (nm : Nm) (l z : Nat) (hr : ρ nm = some (l, z)) : Rep M ρ (.yld nm) (.func (.yield l) #[] #[])
  | nilfn : Rep M ρ .nilfn .nilFunc
  | may (tg : List (Nat × Bool)) (g : Bool) (v : VV) (val : Value) (h1 : g = true → Rep M ρ v val) (h0 : g = false → val = undef) : Rep M ρ (.may tg g v) val
  | undef : Rep M ρ .undef undef
  | top (v : Value) : Rep M ρ .top v
  | raw (v : Value) : Rep M ρ (.raw v) v

/-- Lists, one by one. -/
def RepL (M : Mem) (ρ : Rho) (cs : List VV) (vs : List Value) : Prop :=
  cs.length = vs.length ∧ ∀ (i : Nat) (c : VV) (v : Value), cs[i]? = some c → vs[i]? = some v → Rep M ρ c v

def MLe (M M' : Mem) : Prop := ∀ b o v, M b o = some v → M' b o = some v
def RLe (ρ ρ' : Rho) : Prop := ∀ n x, ρ n = some x → ρ' n = some x
theorem MLe.refl (M : Mem) : MLe M M := fun _ _ _ h => h
theorem RLe.refl (ρ : Rho) : RLe ρ ρ := fun _ _ h => h
theorem MLe.trans {A B C : Mem} (h : MLe A B) (k : MLe B C) : MLe A C := fun b o v x => k b o v (h b o v x)
theorem RLe.trans {A B C : Rho} (h : RLe A B) (k : RLe B C) : RLe A C := fun n x y => k n x (h n x y)

theorem Rep.mono {M M' : Mem} {ρ ρ' : Rho} (hM : MLe M M') (hR : RLe ρ ρ') {v : VV} {x : Value} (h : Rep M ρ v x) : Rep M' ρ' v x := by
  induction h with
  | int k s n => exact .int k s n
  | bool s b => exact .bool s b
  | agg cs vs hl _ ih => exact .agg cs vs hl ih
  | tup cs vs hl _ ih => exact .tup cs vs hl ih
  | ptr nm s off b z hr h0 => exact .ptr nm s off b z (hR _ _ hr) h0
  | nil => exact .nil
  | osl nm off sz s len b z n c o hr hn hc ho => exact .osl nm off sz s len b z n c o (hR _ _ hr) hn hc ho
  | islNil id sz s c0 len hn => exact .islNil id sz s c0 len hn
  | isl id sz s len es c0 b o c vs hn hc h0 hsz hm _ ih => exact .isl id sz s len es c0 b o c vs hn hc h0 hsz (fun i x h => hM _ _ _ (hm i x h)) ih
  | eptr cs b o vs hm _ ih => exact .eptr cs b o vs (fun i x h => hM _ _ _ (hm i x h)) ih
  | fn f first cap vf vc hl hl' _ _ ih ih' => exact .fn f first cap vf vc hl hl' ih ih'
  | yld nm l z hr => exact .yld nm l z (hR _ _ hr)
  | nilfn => exact .nilfn
  | may tg g v val _ h0 ih => exact .may tg g v val ih h0
  | undef => exact .undef
  | top v => exact .top v
  | raw v => exact .raw v

theorem RepL.mono {M M' : Mem} {ρ ρ' : Rho} (hM : MLe M M') (hR : RLe ρ ρ') {cs : List VV} {vs : List Value} (h : RepL M ρ cs vs) : RepL M' ρ' cs vs :=
  ⟨h.1, fun i c v hc hv => (h.2 i c v hc hv).mono hM hR⟩
theorem RepL.nil {M : Mem} {ρ : Rho} : RepL M ρ [] [] := ⟨rfl, by simp⟩
theorem RepL.cons {M : Mem} {ρ : Rho} {c : VV} {v : Value} {cs : List VV} {vs : List Value} (h : Rep M ρ c v) (hs : RepL M ρ cs vs) : RepL M ρ (c :: cs) (v :: vs) := by
  refine ⟨by simp [hs.1], fun i c' v' hc hv => ?_⟩
  cases i with
  | zero => simp only [List.getElem?_cons_zero, Option.some.injEq] at hc hv; subst hc hv; exact h
  | succ i => simp only [List.getElem?_cons_succ] at hc hv; exact hs.2 i c' v' hc hv
theorem RepL.of_cons {M : Mem} {ρ : Rho} {c : VV} {v : Value} {cs : List VV} {vs : List Value} (h : RepL M ρ (c :: cs) (v :: vs)) : Rep M ρ c v ∧ RepL M ρ cs vs :=
  ⟨h.2 0 c v rfl rfl, by simpa using h.1, fun i c' v' hc hv => h.2 (i + 1) c' v' (by simpa using hc) (by simpa using hv)⟩
theorem RepL.append {M : Mem} {ρ : Rho} {cs cs' : List VV} {vs vs' : List Value} (h : RepL M ρ cs vs) (h' : RepL M ρ cs' vs') : RepL M ρ (cs ++ cs') (vs ++ vs') := by
  refine ⟨by simp [h.1, h'.1], fun i c v hc hv => ?_⟩
  rw [List.getElem?_append] at hc hv
  rw [h.1] at hc
  split at hc
  · rename_i hi; rw [if_pos hi] at hv; exact h.2 i c v hc hv
  · rename_i hi; rw [if_neg hi] at hv; exact h'.2 _ c v hc hv
theorem RepL.take {M : Mem} {ρ : Rho} {cs : List VV} {vs : List Value} (h : RepL M ρ cs vs) (n : Nat) : RepL M ρ (cs.take n) (vs.take n) := by
  refine ⟨by simp [h.1], fun i c v hc hv => ?_⟩
  rw [List.getElem?_take] at hc hv
  split at hc
  · rename_i hi; rw [if_pos hi] at hv; exact h.2 i c v hc hv
  · cases hc
theorem RepL.drop {M : Mem} {ρ : Rho} {cs : List VV} {vs : List Value} (h : RepL M ρ cs vs) (n : Nat) : RepL M ρ (cs.drop n) (vs.drop n) := by
  refine ⟨by simp [h.1], fun i c v hc hv => ?_⟩
  rw [List.getElem?_drop] at hc hv
  exact h.2 _ c v hc hv
theorem RepL.get {M : Mem} {ρ : Rho} {cs : List VV} {vs : List Value} (h : RepL M ρ cs vs) {i : Nat} {c : VV} (hc : cs[i]? = some c) : ∃ v, vs[i]? = some v ∧ Rep M ρ c v := by
  have hi : i < vs.length := by
    have := (List.getElem?_eq_some_iff.1 hc).1
    rw [← h.1]; exact this
  exact ⟨vs[i], List.getElem?_eq_getElem hi, h.2 i c _ hc (List.getElem?_eq_getElem hi)⟩

/-! ### names -/
theorem nmEq_iff : ∀ {a b : Nm}, nmEq a b = true ↔ a = b
  | [], [] => by simp [nmEq]
  | [], _ :: _ => by simp [nmEq]
  | _ :: _, [] => by simp [nmEq]
  | x :: a, y :: b => by simp [nmEq, nmEq_iff (a := a) (b := b), Nat.beq_eq]
theorem get_setEnt (n : Nm) (x : Ent Int Bool) (m : Nm) : ∀ (l : List (Nm × Ent Int Bool)),
    getEnt (setEnt l n x) m = if m = n ∧ (getEnt l n).isSome then some x else getEnt l m
  | [] => by simp [setEnt, getEnt]
  | (a, e) :: r => by
    have ih := get_setEnt n x m r
    unfold setEnt
    by_cases h : nmEq a n = true
    · have hn := nmEq_iff.1 h
      subst hn
      simp only [h, if_true, getEnt]
      by_cases hm : m = a
      · subst hm; simp [h]
      · have : nmEq a m = false := by
          cases hx : nmEq a m with
          | false => rfl
          | true => exact absurd (nmEq_iff.1 hx).symm hm
        simp [this, hm]
    · simp only [h, if_false, Bool.false_eq_true, getEnt]
      by_cases hm : nmEq a m = true
      · have hq := nmEq_iff.1 hm
        subst hq
        simp only [hm, if_true]
        rw [if_neg]
        rintro ⟨rfl, _⟩
        exact h hm
      · simp only [hm, if_false, Bool.false_eq_true, ih]
theorem get_upd (H : HH) (n : Nm) (x : Ent Int Bool) (m : Nm) (h : H.get n ≠ none) : (H.upd n x).get m = if m = n then some x else H.get m := by
  have := get_setEnt n x m H.es
  unfold Heap.get Heap.upd
  dsimp only
  rw [this]
  have hs : (getEnt H.es n).isSome = true := by
    unfold Heap.get at h
    cases hg : getEnt H.es n with
    | none => exact absurd hg h
    | some _ => rfl
  simp [hs]
theorem get_new (H : HH) (n : Nm) (x : Ent Int Bool) (m : Nm) : (H.new n x).get m = if m = n then some x else H.get m := by
  unfold Heap.get Heap.new
  dsimp only
  simp only [getEnt]
  by_cases h : m = n
  · subst h; simp [nmEq_iff.2 rfl]
  · have : nmEq n m = false := by
      cases hx : nmEq n m with
      | false => rfl
      | true => exact absurd (nmEq_iff.1 hx).symm h
    simp [this, h]
theorem has_fresh {H H' : HH} {n : Nm} {x : Ent Int Bool} (h : Has (fresh H n x) H') : H.get n = none ∧ H' = H.new n x := by
  unfold fresh at h
  split at h
  · exact ⟨by assumption, (has_ret.1 h).symm⟩
  · exact absurd h has_fail
theorem has_liveRow {H : HH} {n : Nm} {r : List VV × Bool × Nat} (h : Has (liveRow H n) r) : H.get n = some (.row r.1 r.2.1 r.2.2) := by
  unfold liveRow at h
  split at h
  · rename_i hg
    have := has_ret.1 h
    subst this
    exact hg
  · exact absurd h has_fail

/-! ### memory -/
def Ent.live : Ent Int Bool → Prop
  | .dead => False
  | _ => True
def Live (H : HH) (n : Nm) : Prop := ∃ e, H.get n = some e ∧ e.live
theorem live_row {H : HH} {n : Nm} {cs : List VV} {s : Bool} {id : Nat} (h : H.get n = some (.row cs s id)) : Live H n := ⟨_, h, trivial⟩

structure LoopRep (M : Mem) (ρ : Rho) (L : LoopR Int Bool) (r : Loop) : Prop where
  tmps : RepL M ρ L.tmps r.tmps.toList
  ps : r.params.toList = L.ps
  assign : r.assign = L.assign
  body : r.body = L.body
  st : r.state = L.st
  pend : r.pending = L.pend

structure Inv (X : Nm → Prop) (M : Mem) (ρ : Rho) (H : HH) (w : World) : Prop where
  row : ∀ n cs s id, H.get n = some (.row cs s id) → ∃ b z c ty, ρ n = some (b, z) ∧ w.heap[b]? = some (.cells c ty (0, 0)) ∧ c.size = z ∧ cs.length ≤ z ∧
    ∀ (i : Nat) (x : VV) (v : Value), cs[i]? = some x → c[i]? = some v → Rep M ρ x v
  loop : ∀ n L, H.get n = some (.loop L) → ∃ b z r, ρ n = some (b, z) ∧ w.heap[b]? = some (.loop r) ∧ LoopRep M ρ L r
  dfr : ∀ n, H.get n = some .dfr → ∃ b z, ρ n = some (b, z) ∧ w.heap[b]? = some (.deferred (some []))
  inj : ∀ n n' b z z', Live H n → Live H n' → ρ n = some (b, z) → ρ n' = some (b, z') → n = n'
  imm : ∀ b o v, M b o = some v → w.cell? ⟨b, o, none⟩ = some v
  sep : ∀ n b z o, Live H n → ρ n = some (b, z) → M b o = none
  dom : ∀ n, H.get n = none → ¬ X n → ρ n = none
  bnd : ∀ n b z, ρ n = some (b, z) → b < w.heap.size

/-- Blocks that are ours. -/
def Own (H : HH) (ρ : Rho) (b : Nat) : Prop := ∃ n z, Live H n ∧ ρ n = some (b, z)

/-- What no run of ours touches. -/
structure Same (w w' : World) : Prop where
  os : w'.os = w.os
  output : w'.output = w.output
  fz : ∀ a, w'.frozen? a = w.frozen? a
theorem Same.refl (w : World) : Same w w := ⟨rfl, rfl, fun _ => rfl⟩
theorem Same.trans {a b c : World} (h : Same a b) (k : Same b c) : Same a c := ⟨k.os.trans h.os, k.output.trans h.output, fun x => (k.fz x).trans (h.fz x)⟩
theorem Same.of_heap {w w' : World} (e : w'.heap = w.heap) (h1 : w'.os = w.os) (h2 : w'.output = w.output) : Same w w' := ⟨h1, h2, fun a => by simp only [World.frozen?, e]⟩
/-- Is nothing of it frozen? -/
def thawed : Obj → Prop
  | .cells _ _ fr => fr = (0, 0)
  | _ => True
theorem fz_thawed {w : World} {a : Addr} {o : Obj} (h : w.heap[a.block]? = some o) (ho : thawed o) : w.frozen? a = false := by
  unfold World.frozen?
  rw [h]
  cases o with
  | cells c t fr =>
    have : fr = (0, 0) := ho
    subst this
    simp
  | _ => rfl
theorem Same.push {w w' : World} {o : Obj} (e : w'.heap = w.heap.push o) (h1 : w'.os = w.os) (h2 : w'.output = w.output) (ho : thawed o) : Same w w' := by
  refine ⟨h1, h2, fun a => ?_⟩
  by_cases ha : a.block < w.heap.size
  · have : w'.heap[a.block]? = w.heap[a.block]? := by rw [e, Array.getElem?_push_lt ha]; simp [Array.getElem?_eq_getElem ha]
    simp only [World.frozen?, this]
  · by_cases hb : a.block = w.heap.size
    · have h3 : w'.heap[a.block]? = some o := by rw [e, hb]; simp
      rw [fz_thawed h3 ho]
      have h4 : w.heap[a.block]? = none := by rw [hb]; simp
      simp only [World.frozen?, h4]
    · have h3 : w'.heap[a.block]? = none := by rw [e, Array.getElem?_eq_none]; simp; omega
      have h4 : w.heap[a.block]? = none := Array.getElem?_eq_none (by omega)
      simp only [World.frozen?, h3, h4]
theorem Same.set {w w' : World} {b : Nat} {o o' : Obj} (hk : ∀ b', b' ≠ b → w'.heap[b']? = w.heap[b']?) (hb : w'.heap[b]? = some o') (hb0 : w.heap[b]? = some o) (h1 : w'.os = w.os) (h2 : w'.output = w.output) (ho : thawed o) (ho' : thawed o') : Same w w' := by
  refine ⟨h1, h2, fun a => ?_⟩
  by_cases ha : a.block = b
  · subst ha
    rw [fz_thawed hb ho', fz_thawed hb0 ho]
  · simp only [World.frozen?, hk _ ha]

structure Ext (X : Nm → Prop) (H : HH) (M : Mem) (ρ : Rho) (w : World) (M' : Mem) (ρ' : Rho) (w' : World) : Prop where
  m : MLe M M'
  r : RLe ρ ρ'
  sz : w.heap.size ≤ w'.heap.size
  fr : ∀ b, b < w.heap.size → ¬ Own H ρ b → w'.heap[b]? = w.heap[b]?
  mn : ∀ b o v, M' b o = some v → M b o = some v ∨ w.heap.size ≤ b ∨ Own H ρ b
  rn : ∀ n b z, ρ' n = some (b, z) → ρ n = some (b, z) ∨ w.heap.size ≤ b ∨ Own H ρ b
  rx : ∀ n, X n → ρ' n = ρ n
  st : Same w w'

/-- Names stay; none that was dead lives again. -/
structure Grow (H H' : HH) : Prop where
  names : ∀ n, H.get n ≠ none → H'.get n ≠ none
  lives : ∀ n, Live H' n → Live H n ∨ H.get n = none
  keeps : ∃ l, H'.log = l ++ H.log ∧ ∀ n, n ∉ l → H.get n ≠ none → H'.get n = H.get n
theorem Grow.refl (H : HH) : Grow H H := ⟨fun _ h => h, fun _ h => .inl h, [], rfl, fun _ _ _ => rfl⟩
theorem Grow.trans {A B C : HH} (h : Grow A B) (k : Grow B C) : Grow A C := by
  refine ⟨fun n x => k.names n (h.names n x), fun n x => ?_, ?_⟩
  · rcases k.lives n x with y | y
    · exact h.lives n y
    · right
      cases hA : A.get n with
      | none => rfl
      | some e => exact absurd y (h.names n (by simp [hA]))
  · obtain ⟨l, hl, hk⟩ := h.keeps
    obtain ⟨l', hl', hk'⟩ := k.keeps
    refine ⟨l' ++ l, by simp [hl', hl], fun n hn h0 => ?_⟩
    simp only [List.mem_append, not_or] at hn
    rw [hk' n hn.1 (h.names n h0), hk n hn.2 h0]
theorem Grow.upd {H : HH} {n : Nm} {x : Ent Int Bool} (h : Live H n) : Grow H (H.upd n x) := by
  have h0 : H.get n ≠ none := by obtain ⟨e, he, _⟩ := h; simp [he]
  refine ⟨fun m hm => ?_, fun m hm => ?_, [n], rfl, fun m hm _ => ?_⟩
  · rw [get_upd _ _ _ _ h0]; split <;> simp_all
  · obtain ⟨e, he, hl⟩ := hm
    rw [get_upd _ _ _ _ h0] at he
    split at he
    · rename_i hq; subst hq; exact .inl h
    · exact .inl ⟨e, he, hl⟩
  · rw [get_upd _ _ _ _ h0, if_neg (by simpa using hm)]
theorem Grow.new {H : HH} {n : Nm} {x : Ent Int Bool} (h : H.get n = none) : Grow H (H.new n x) := by
  refine ⟨fun m hm => ?_, fun m hm => ?_, [], rfl, fun m _ hm => ?_⟩
  · rw [get_new]; split <;> simp_all
  · obtain ⟨e, he, hl⟩ := hm
    rw [get_new] at he
    split at he
    · rename_i hq; subst hq; exact .inr h
    · exact .inl ⟨e, he, hl⟩
  · rw [get_new, if_neg]
    rintro rfl
    exact hm h

section
variable {X : Nm → Prop} {M M' M'' : Mem} {ρ ρ' ρ'' : Rho} {H H' : HH} {w w' w'' : World}
theorem Ext.refl : Ext X H M ρ w M ρ w :=
  ⟨.refl _, .refl _, Nat.le_refl _, fun _ _ _ => rfl, fun _ _ _ h => .inl h, fun _ _ _ h => .inl h, fun _ _ => rfl, .refl _⟩
theorem Ext.trans (hI : Inv X M ρ H w) (h : Ext X H M ρ w M' ρ' w') (hg : Grow H H') (hx : ∀ n, X n → H'.get n = none)
    (k : Ext X H' M' ρ' w' M'' ρ'' w'') : Ext X H M ρ w M'' ρ'' w'' := by
  have own : ∀ b, b < w.heap.size → Own H' ρ' b → Own H ρ b := by
    rintro b hb ⟨n, z, hl, hr⟩
    rcases h.rn n b z hr with hr' | hb' | ho
    · refine ⟨n, z, ?_, hr'⟩
      rcases hg.lives n hl with h1 | h1
      · exact h1
      · by_cases hX : X n
        · obtain ⟨e, he, _⟩ := hl
          rw [hx n hX] at he; cases he
        · rw [hI.dom n h1 hX] at hr'; cases hr'
    · omega
    · exact ho
  refine ⟨h.m.trans k.m, h.r.trans k.r, Nat.le_trans h.sz k.sz, fun b hb hn => ?_, fun b o v hm => ?_, fun n b z hr => ?_, fun n hX => ?_, h.st.trans k.st⟩
  · rw [k.fr b (Nat.lt_of_lt_of_le hb h.sz) (fun ho => hn (own b hb ho)), h.fr b hb hn]
  · rcases k.mn b o v hm with h1 | h1 | h1
    · exact h.mn b o v h1
    · exact .inr (.inl (Nat.le_trans h.sz h1))
    · by_cases hb : b < w.heap.size
      · exact .inr (.inr (own b hb h1))
      · exact .inr (.inl (by omega))
  · rcases k.rn n b z hr with h1 | h1 | h1
    · exact h.rn n b z h1
    · exact .inr (.inl (Nat.le_trans h.sz h1))
    · by_cases hb : b < w.heap.size
      · exact .inr (.inr (own b hb h1))
      · exact .inr (.inl (by omega))
  · rw [k.rx n hX, h.rx n hX]

theorem cell?_heap {w w' : World} {b o : Nat} (h : w'.heap[b]? = w.heap[b]?) : w'.cell? ⟨b, o, none⟩ = w.cell? ⟨b, o, none⟩ := by
  simp only [World.cell?, h]

/-- Only the heap counts. -/
theorem Inv.of_heap (h : Inv X M ρ H w) (e : w'.heap = w.heap) : Inv X M ρ H w' := by
  refine ⟨?_, ?_, ?_, h.inj, ?_, h.sep, h.dom, ?_⟩
  · rw [e]; exact h.row
  · rw [e]; exact h.loop
  · rw [e]; exact h.dfr
  · intro b o v hm
    rw [cell?_heap (w := w) (by rw [e])]; exact h.imm b o v hm
  · rw [e]; exact h.bnd
theorem Ext.of_heap (e : w'.heap = w.heap) (h1 : w'.os = w.os) (h2 : w'.output = w.output) : Ext X H M ρ w M ρ w' :=
  ⟨.refl _, .refl _, by rw [e]; exact Nat.le_refl _, fun _ _ _ => by rw [e], fun _ _ _ h => .inl h, fun _ _ _ h => .inl h, fun _ _ => rfl, .of_heap e h1 h2⟩

theorem row_mono {c : Array Value} {cs : List VV} (hM : MLe M M') (hR : RLe ρ ρ')
    (h : ∀ (i : Nat) (x : VV) (v : Value), cs[i]? = some x → c[i]? = some v → Rep M ρ x v) : ∀ (i : Nat) (x : VV) (v : Value), cs[i]? = some x → c[i]? = some v → Rep M' ρ' x v :=
  fun i x v hx hv => (h i x v hx hv).mono hM hR
theorem LoopRep.mono {L : LoopR Int Bool} {r : Loop} (hM : MLe M M') (hR : RLe ρ ρ') (h : LoopRep M ρ L r) : LoopRep M' ρ' L r :=
  ⟨h.tmps.mono hM hR, h.ps, h.assign, h.body, h.st, h.pend⟩

/-- Nothing of our own was touched. -/
theorem Inv.kept (h : Inv X M ρ H w) (hM : MLe M M') (hsz : w.heap.size ≤ w'.heap.size)
    (hk : ∀ b, b < w.heap.size → w'.heap[b]? = w.heap[b]?) (hm : ∀ b o v, M' b o = some v → w'.cell? ⟨b, o, none⟩ = some v)
    (hn : ∀ b o v, M' b o = some v → M b o = some v ∨ w.heap.size ≤ b) : Inv X M' ρ H w' := by
  refine ⟨fun n cs s id hg => ?_, fun n L hg => ?_, fun n hg => ?_, h.inj, hm, fun n b z o hl hr => ?_, h.dom, fun n b z hr => Nat.lt_of_lt_of_le (h.bnd n b z hr) hsz⟩
  · obtain ⟨b, z, c, ty, h1, h2, h3, h4, h5⟩ := h.row n cs s id hg
    exact ⟨b, z, c, ty, h1, by rw [hk b (h.bnd n b z h1)]; exact h2, h3, h4, row_mono hM (.refl _) h5⟩
  · obtain ⟨b, z, r, h1, h2, h3⟩ := h.loop n L hg
    exact ⟨b, z, r, h1, by rw [hk b (h.bnd n b z h1)]; exact h2, h3.mono hM (.refl _)⟩
  · obtain ⟨b, z, h1, h2⟩ := h.dfr n hg
    exact ⟨b, z, h1, by rw [hk b (h.bnd n b z h1)]; exact h2⟩
  · cases hx : M' b o with
    | none => rfl
    | some v =>
      rcases hn b o v hx with h1 | h1
      · rw [h.sep n b z o hl hr] at h1; cases h1
      · have := h.bnd n b z hr; omega

/-- ρ with one name more. -/
def Rho.put (ρ : Rho) (n : Nm) (x : Nat × Nat) : Rho := fun m => if m = n then some x else ρ m
theorem RLe.put {n : Nm} {x : Nat × Nat} (h : ρ n = none) : RLe ρ (ρ.put n x) := fun m y hy => by
  unfold Rho.put
  rw [if_neg]
  · exact hy
  · rintro rfl; rw [h] at hy; cases hy

/-- A new block under a new name. -/
theorem Inv.alloc (h : Inv X M ρ H w) {n : Nm} {e : Ent Int Bool} {o : Obj} {z : Nat} (hn : H.get n = none) (hX : ¬ X n)
    (hrow : ∀ cs s id, e = .row cs s id → ∃ c ty, o = .cells c ty (0, 0) ∧ c.size = z ∧ cs.length ≤ z ∧
      ∀ (i : Nat) (x : VV) (v : Value), cs[i]? = some x → c[i]? = some v → Rep M ρ x v)
    (hloop : ∀ L, e = .loop L → ∃ r, o = .loop r ∧ LoopRep M ρ L r) (hdfr : e = .dfr → o = .deferred (some [])) (hh : w'.heap = w.heap.push o) (h1 : w'.os = w.os) (h2 : w'.output = w.output) (ho : thawed o) :
    Inv X M (ρ.put n (w.heap.size, z)) (H.new n e) w' ∧ Ext X H M ρ w M (ρ.put n (w.heap.size, z)) w' := by
  have hρ : ρ n = none := h.dom n hn hX
  have hR : RLe ρ (ρ.put n (w.heap.size, z)) := RLe.put hρ
  have hk : ∀ b, b < w.heap.size → w'.heap[b]? = w.heap[b]? := fun b hb => by rw [hh, Array.getElem?_push_lt hb]; simp [Array.getElem?_eq_getElem hb]
  have hnew : w'.heap[w.heap.size]? = some o := by rw [hh]; simp
  have hput : ∀ m, m ≠ n → (ρ.put n (w.heap.size, z)) m = ρ m := fun m hm => by simp [Rho.put, hm]
  have hpn : (ρ.put n (w.heap.size, z)) n = some (w.heap.size, z) := by simp [Rho.put]
  have hsz : w'.heap.size = w.heap.size + 1 := by rw [hh]; simp
  have hlive : ∀ m, m ≠ n → Live (H.new n e) m → Live H m := by
    rintro m hm ⟨x, hx, hl⟩
    rw [get_new, if_neg hm] at hx
    exact ⟨x, hx, hl⟩
  constructor
  · refine ⟨fun m cs s id hg => ?_, fun m L hg => ?_, fun m hg => ?_, fun m m' b z1 z2 hl hl' hr hr' => ?_, fun b o' v hm => ?_, fun m b z' o' hl hr => ?_, fun m hg hx => ?_, fun m b z' hr => ?_⟩
    · rw [get_new] at hg
      split at hg
      · rename_i hm
        subst hm
        simp only [Option.some.injEq] at hg
        obtain ⟨c, ty, rfl, h1, h2, h3⟩ := hrow cs s id hg
        exact ⟨_, z, c, ty, hpn, hnew, h1, h2, row_mono (.refl _) hR h3⟩
      · rename_i hm
        obtain ⟨b, z', c, ty, h1, h2, h3, h4, h5⟩ := h.row m cs s id hg
        exact ⟨b, z', c, ty, by rw [hput m hm]; exact h1, by rw [hk b (h.bnd m b z' h1)]; exact h2, h3, h4, row_mono (.refl _) hR h5⟩
    · rw [get_new] at hg
      split at hg
      · rename_i hm
        subst hm
        simp only [Option.some.injEq] at hg
        obtain ⟨r, rfl, h1⟩ := hloop L hg
        exact ⟨_, z, r, hpn, hnew, h1.mono (.refl _) hR⟩
      · rename_i hm
        obtain ⟨b, z', r, h1, h2, h3⟩ := h.loop m L hg
        exact ⟨b, z', r, by rw [hput m hm]; exact h1, by rw [hk b (h.bnd m b z' h1)]; exact h2, h3.mono (.refl _) hR⟩
    · rw [get_new] at hg
      split at hg
      · rename_i hm
        subst hm
        simp only [Option.some.injEq] at hg
        exact ⟨_, z, hpn, by rw [hnew, hdfr hg]⟩
      · rename_i hm
        obtain ⟨b, z', h1, h2⟩ := h.dfr m hg
        exact ⟨b, z', by rw [hput m hm]; exact h1, by rw [hk b (h.bnd m b z' h1)]; exact h2⟩
    · by_cases hm : m = n <;> by_cases hm' : m' = n
      · rw [hm, hm']
      · subst hm
        rw [hpn] at hr
        rw [hput m' hm'] at hr'
        have := h.bnd m' b z2 hr'
        simp only [Option.some.injEq, Prod.mk.injEq] at hr
        omega
      · subst hm'
        rw [hpn] at hr'
        rw [hput m hm] at hr
        have := h.bnd m b z1 hr
        simp only [Option.some.injEq, Prod.mk.injEq] at hr'
        omega
      · rw [hput m hm] at hr
        rw [hput m' hm'] at hr'
        exact h.inj m m' b z1 z2 (hlive m hm hl) (hlive m' hm' hl') hr hr'
    · have := h.imm b o' v hm
      have hb : b < w.heap.size := World.block_lt_of_cell? _ _ this
      rw [cell?_heap (hk b hb)]; exact this
    · by_cases hm : m = n
      · subst hm
        rw [hpn] at hr
        simp only [Option.some.injEq, Prod.mk.injEq] at hr
        obtain ⟨rfl, rfl⟩ := hr
        cases hx : M w.heap.size o' with
        | none => rfl
        | some v =>
          have := World.block_lt_of_cell? _ _ (h.imm _ _ _ hx)
          simp at this
      · rw [hput m hm] at hr
        exact h.sep m b z' o' (hlive m hm hl) hr
    · rw [get_new] at hg
      split at hg
      · cases hg
      · rename_i hm
        rw [hput m hm]; exact h.dom m hg hx
    · by_cases hm : m = n
      · subst hm
        rw [hpn] at hr
        simp only [Option.some.injEq, Prod.mk.injEq] at hr
        omega
      · rw [hput m hm] at hr
        have := h.bnd m b z' hr
        omega
  · refine ⟨.refl _, hR, by omega, fun b hb _ => hk b hb, fun _ _ _ hm => .inl hm, fun m b z' hr => ?_, fun m hm => ?_, .push hh h1 h2 ho⟩
    · by_cases hmn : m = n
      · subst hmn
        rw [hpn] at hr
        simp only [Option.some.injEq, Prod.mk.injEq] at hr
        exact .inr (.inl (by omega))
      · rw [hput m hmn] at hr; exact .inl hr
    · rw [hput m]
      rintro rfl
      exact hX hm
end
end Go.Sx
