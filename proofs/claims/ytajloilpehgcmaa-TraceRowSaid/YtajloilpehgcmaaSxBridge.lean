/- What a statement's arguments are, as the executor's values; a law that comes to true whatever they are. Conditions: none. -/
import Derived.Test.YtajloilpehgcmaaSxRel
import Derived.RowKit
import Derived.RowKit3
import Derived.ChangeSame
import Derived.OpenShut
import Derived.ChangeShapes
import Derived.Carry
import Derived.ProofKit
set_option linter.unusedVariables false
set_option linter.unusedSimpArgs false
set_option linter.unusedSectionVars false

namespace Go.Sx
open Go.ChangeShapes Go.WideShapes Go.RowKit

/-- Parts, one by one. -/
def PartsG (R : TypeId → List VV → Prop) : List TypeId → List (List VV) → Prop
  | [], [] => True
  | t :: ts, p :: ps => R t p ∧ PartsG R ts ps
  | _, _ => False
/-- The cells of a value of a type without pointers. -/
def TVC (P : Program) : Nat → TypeId → List VV → Prop
  | 0, _, _ => False
  | n + 1, t, vs =>
    match P.underlying t with
    | some .bool => ∃ b, vs = [.bool true b]
    | some (.int k) => ∃ i, vs = [.int k true i] ∧ (Lit.int k i).wf = true
    | some (.struct fs) => ∃ parts, vs = parts.flatten ∧ PartsG (TVC P n) (fs.toList.map (·.type)) parts
    | some (.array m e) => ∃ parts, vs = parts.flatten ∧ PartsG (TVC P n) (List.replicate m e) parts
    | _ => False
def tiles (P : Program) : Nat → List Field → Nat → Bool
  | off, [], n => off == n
  | off, f :: fs, n => (f.offset == off) && tiles P (off + P.cellsOf f.type) fs n
/-- A type without pointers, its parts one behind the other. -/
def plainF (P : Program) : Nat → TypeId → Bool
  | 0, _ => false
  | n + 1, t =>
    match P.underlying t with
    | some .bool => P.cellsOf t == 1
    | some (.int _) => P.cellsOf t == 1
    | some (.struct fs) => tiles P 0 fs.toList (P.cellsOf t) && fs.toList.all fun f => plainF P n f.type
    | some (.array m e) => (P.cellsOf t == m * P.cellsOf e) && plainF P n e
    | _ => false
def isAggT (P : Program) (t : TypeId) : Bool :=
  match P.underlying t with
  | some (.struct _) => true
  | some (.array _ _) => true
  | _ => false
/-- A value of a type. -/
def TV (P : Program) (n : Nat) (t : TypeId) (v : VV) : Prop := ∃ vs, TVC P n t vs ∧ vs.length = P.cellsOf t ∧ v = if isAggT P t then .agg vs else vs.headD .undef
def memW (w : World) : Mem := fun b o => w.cell? ⟨b, o, none⟩

section
variable {H : Type} {enc : TypeId × Value → H} {P : Program} {w : World} {base : Nat} {spare : Nat → Bool} {held : Bool} {M : Mem} {ρ : Rho}

def sizes (P : Program) (ts : List TypeId) : Nat := (ts.map P.cellsOf).foldr (· + ·) 0
theorem parts_rep {n fuel : Nat} {cs : List Value} (ih : ∀ (fuel : Nat) (t : TypeId) (cs : List Value) (x : DataW H × List MemPlace), plainF P n t = true → DataW.trod enc P w base spare held fuel t cs = some x → ∃ vs, RepL M ρ vs cs ∧ TVC P n t vs ∧ vs.length = P.cellsOf t) :
    ∀ (ts : List TypeId) (off : Nat) (xs : List (DataW H × List MemPlace)), (∀ t ∈ ts, plainF P n t = true) → xs.length = ts.length → off + sizes P ts = cs.length →
      (∀ (i : Nat) (t : TypeId), ts[i]? = some t → DataW.trod enc P w base spare held fuel t ((cs.drop (off + sizes P (ts.take i))).take (P.cellsOf t)) = xs[i]?) →
      ∃ parts, RepL M ρ parts.flatten (cs.drop off) ∧ PartsG (TVC P n) ts parts ∧ parts.flatten.length = sizes P ts
  | [], off, xs, _, _, hs, _ => by
    refine ⟨[], ?_, trivial, rfl⟩
    have : cs.drop off = [] := List.drop_eq_nil_of_le (by simp [sizes] at hs; omega)
    rw [this]; exact .nil
  | t :: ts, off, xs, hp, hl, hs, h => by
    cases xs with
    | nil => simp at hl
    | cons x xs =>
      have h0 := h 0 t rfl
      simp only [List.take_zero, sizes, List.map_nil, List.foldr_nil, Nat.add_zero, List.getElem?_cons_zero] at h0
      obtain ⟨vs, r1, r2, r3⟩ := ih fuel t _ x (hp t List.mem_cons_self) h0
      have hs' : off + P.cellsOf t + sizes P ts = cs.length := by
        simp only [sizes, List.map_cons, List.foldr_cons] at hs ⊢
        omega
      obtain ⟨parts, q1, q2, q3⟩ := parts_rep ih ts (off + P.cellsOf t) xs (fun t ht => hp t (List.mem_cons_of_mem _ ht)) (by simpa using hl) hs' (fun i u hu => by
        have := h (i + 1) u (by simpa using hu)
        simp only [List.take_succ_cons, sizes, List.map_cons, List.foldr_cons, List.getElem?_cons_succ] at this
        rw [← Nat.add_assoc] at this
        exact this)
      refine ⟨vs :: parts, ?_, ⟨r2, q2⟩, ?_⟩
      · have e : cs.drop off = (cs.drop off).take (P.cellsOf t) ++ cs.drop (off + P.cellsOf t) := by
          rw [← List.drop_drop, List.take_append_drop]
        rw [e, List.flatten_cons]
        exact r1.append q1
      · simp only [List.flatten_cons, List.length_append, r3, q3, sizes, List.map_cons, List.foldr_cons]
theorem tiles_spec : ∀ (l : List Field) (off n : Nat), tiles P off l n = true → off + sizes P (l.map (·.type)) = n ∧ ∀ (i : Nat) (f : Field), l[i]? = some f → f.offset = off + sizes P ((l.map (·.type)).take i)
  | [], off, n, h => by
    simp only [tiles, beq_iff_eq] at h
    exact ⟨by simp [sizes, h], by simp⟩
  | f :: l, off, n, h => by
    simp only [tiles, Bool.and_eq_true, beq_iff_eq] at h
    obtain ⟨h1, h2⟩ := tiles_spec l _ n h.2
    refine ⟨by simp only [List.map_cons, sizes, List.foldr_cons] at h1 ⊢; omega, fun i g hg => ?_⟩
    cases i with
    | zero =>
      simp only [List.getElem?_cons_zero, Option.some.injEq] at hg
      subst hg
      simp [sizes, h.1]
    | succ i =>
      have := h2 i g (by simpa using hg)
      simp only [List.map_cons, List.take_succ_cons, sizes, List.foldr_cons] at this ⊢
      omega
theorem sizes_replicate (m : Nat) (e : TypeId) : sizes P (List.replicate m e) = m * P.cellsOf e := by
  induction m with
  | zero => simp [sizes]
  | succ m ih => simp only [sizes, List.replicate_succ, List.map_cons, List.foldr_cons] at ih ⊢; rw [ih, Nat.succ_mul]; omega
theorem flat_rep : ∀ (n fuel : Nat) (t : TypeId) (cs : List Value) (x : DataW H × List MemPlace), plainF P n t = true → DataW.trod enc P w base spare held fuel t cs = some x → ∃ vs, RepL M ρ vs cs ∧ TVC P n t vs ∧ vs.length = P.cellsOf t
  | 0, _, _, _, _, h, _ => by simp [plainF] at h
  | n + 1, fuel, t, cs, x, hp, h => by
    unfold plainF at hp
    split at hp
    · rename_i hu
      obtain ⟨b, rfl, _⟩ := DataW.trod_bool hu h
      simp only [beq_iff_eq] at hp
      exact ⟨[.bool true b], .cons (.bool _ _) .nil, by unfold TVC; rw [hu]; exact ⟨b, rfl⟩, by simp [hp]⟩
    · rename_i k hu
      obtain ⟨i, rfl, _, hw⟩ := DataW.trod_int hu h
      simp only [beq_iff_eq] at hp
      exact ⟨[.int k true i], .cons (.int _ _ _) .nil, by unfold TVC; rw [hu]; exact ⟨i, rfl, hw⟩, by simp [hp]⟩
    · rename_i fs hu
      simp only [Bool.and_eq_true, List.all_eq_true] at hp
      obtain ⟨xs, m, _, _, hl, hxl, hx⟩ := DataW.trod_struct hu h
      obtain ⟨t1, t2⟩ := tiles_spec fs.toList 0 _ hp.1
      obtain ⟨parts, q1, q2, q3⟩ := parts_rep (fun fuel t cs x => flat_rep n fuel t cs x) (cs := cs) (fuel := m) (fs.toList.map (·.type)) 0 xs (fun u hu' => by
          obtain ⟨f, hf, rfl⟩ := List.mem_map.1 hu'
          exact hp.2 f hf) (by simpa using hxl) (by rw [t1, hl]) (fun i u hu' => by
          rw [List.getElem?_map, Option.map_eq_some_iff] at hu'
          obtain ⟨f, hf, rfl⟩ := hu'
          have := hx i f (by simpa using hf)
          rw [t2 i f hf] at this
          exact this)
      exact ⟨parts.flatten, by simpa using q1, by unfold TVC; rw [hu]; exact ⟨parts, rfl, q2⟩, by rw [q3]; omega⟩
    · rename_i m e hu
      simp only [Bool.and_eq_true, beq_iff_eq] at hp
      obtain ⟨xs, q, _, _, hl, hxl, hx⟩ := DataW.trod_array hu h
      obtain ⟨parts, q1, q2, q3⟩ := parts_rep (fun fuel t cs x => flat_rep n fuel t cs x) (cs := cs) (fuel := q) (List.replicate m e) 0 xs (fun u hu' => by rw [List.eq_of_mem_replicate hu']; exact hp.2) (by simpa using hxl)
        (by rw [sizes_replicate, hl, hp.1]; omega) (fun i u hu' => by
          rw [List.getElem?_replicate] at hu'
          split at hu'
          · rename_i hi
            simp only [Option.some.injEq] at hu'
            subst hu'
            have := hx i hi
            rw [List.take_replicate, Nat.min_eq_left (by omega), sizes_replicate, Nat.zero_add]
            exact this
          · cases hu')
      exact ⟨parts.flatten, by simpa using q1, by unfold TVC; rw [hu]; exact ⟨parts, rfl, q2⟩, by rw [q3, sizes_replicate, hp.1]⟩
    · cases hp

/-- A value of a type without pointers. -/
theorem open_plain {r : Reach} {b0 n : Nat} {t : TypeId} {v : Value} {d : DataW H} {ps : List MemPlace} (hp : plainF P n t = true) (hval : Value.okWide P w r b0 t v) (hd : DataW.Trod enc P w base spare held t v d ps) :
    ∃ u, TV P n t u ∧ Rep M ρ u v := by
  obtain ⟨fuel, hf⟩ := hd
  obtain ⟨vs, h1, h2, h3⟩ := flat_rep (M := M) (ρ := ρ) n fuel t _ _ hp hf
  refine ⟨_, ⟨vs, h2, h3, rfl⟩, ?_⟩
  have hp' := hp
  cases n with
  | zero => simp [plainF] at hp
  | succ n =>
    unfold plainF at hp'
    unfold isAggT
    split at hp'
    · rename_i hu
      rw [hu]
      obtain ⟨b, rfl⟩ := okWide_bool hu hval
      unfold TVC at h2
      rw [hu] at h2
      obtain ⟨b', rfl⟩ := h2
      exact h1.2 0 _ _ rfl (by simp [Value.cells])
    · rename_i k hu
      rw [hu]
      obtain ⟨b, rfl⟩ := okWide_int hu hval
      unfold TVC at h2
      rw [hu] at h2
      obtain ⟨b', rfl, _⟩ := h2
      exact h1.2 0 _ _ rfl (by simp [Value.cells])
    · rename_i fs hu
      rw [hu]
      obtain ⟨cs, rfl, _⟩ := okWide_struct hu hval
      exact .agg vs cs (by simpa [Value.cells] using h1.1) (fun i c v hc hv => h1.2 i c v hc (by simpa [Value.cells] using hv))
    · rename_i m e hu
      rw [hu]
      unfold Value.okWide at hval
      rw [hu] at hval
      obtain ⟨cs, rfl, _⟩ := hval
      exact .agg vs cs (by simpa [Value.cells] using h1.1) (fun i c v hc hv => h1.2 i c v hc (by simpa [Value.cells] using hv))
    · cases hp'
/-- A slice of such. -/
def TVS (P : Program) (n : Nat) (e : TypeId) (v : VV) : Prop := ∃ es : List VV, v = .isl 0 (P.cellsOf e) true (es.length : Int) es false ∧ es.length ≤ maxLen ∧ ∀ x ∈ es, TV P n e x
theorem cellsOf_TV {n : Nat} {e : TypeId} {vs : List VV} (hp : plainF P n e = true) (h : TVC P n e vs) (hl : vs.length = P.cellsOf e) : cellsOf (if isAggT P e then (.agg vs : VV) else vs.headD .undef) = vs := by
  cases n with
  | zero => simp [plainF] at hp
  | succ n =>
    unfold plainF at hp
    unfold TVC at h
    unfold isAggT
    split at hp
    · rename_i hu
      rw [hu] at h ⊢
      obtain ⟨b, rfl⟩ := h
      rfl
    · rename_i k hu
      rw [hu] at h ⊢
      obtain ⟨b, rfl, _⟩ := h
      rfl
    · rename_i fs hu
      rw [hu]; rfl
    · rename_i m e hu
      rw [hu]; rfl
    · cases hp
theorem open_slice {r : Reach} {b0 n : Nat} {t e : TypeId} {v : Value} {d : DataW H} {ps : List MemPlace} (ht : P.underlying t = some (.slice e)) (hp : plainF P n e = true) (hpos : 0 < P.cellsOf e) (hval : Value.okWide P w r b0 t v)
    (hd : DataW.Trod enc P w base spare held t v d ps) : ∃ u, TVS P n e u ∧ Rep (memW w) ρ u v := by
  obtain ⟨a0, len0, cap0, rfl⟩ := okWide_slice ht hval
  obtain ⟨fuel, hf⟩ := hd
  rcases DataW.trod_slice ht hf with ⟨h, _⟩ | ⟨a, len, cap, elems, rest, m, _, h, _, _, hlc, hcm, hlen, hel, _, _⟩
  · simp only [Value.cells, List.cons.injEq, Value.slice.injEq, and_true] at h
    obtain ⟨rfl, rfl, rfl⟩ := h
    exact ⟨_, ⟨[], rfl, Nat.zero_le _, by simp⟩, .islNil _ _ _ _ _ rfl⟩
  · simp only [Value.cells, List.cons.injEq, Value.slice.injEq, and_true] at h
    obtain ⟨rfl, rfl, rfl⟩ := h
    have hsp : a.spot = none := by
      unfold Value.okWide at hval
      rw [ht] at hval
      dsimp only at hval
      unfold Cell.okWide at hval
      rw [ht] at hval
      dsimp only at hval
      unfold Cell.ok at hval
      rw [ht] at hval
      exact hval.2.2.2.1
    obtain ⟨b, o, sp⟩ := a
    dsimp only at hsp
    subst hsp
    -- the elements
    have hE : ∀ i, i < len0 → ∃ vs cs, RepL (memW w) ρ vs cs ∧ TVC P n e vs ∧ vs.length = P.cellsOf e ∧ cs.length = P.cellsOf e ∧ ∀ j, j < P.cellsOf e → w.cell? ⟨b, o + (i * P.cellsOf e + j), none⟩ = cs[j]? := by
      intro i hi
      have h1 := hel i hi
      have hi' : i < elems.length := by omega
      rw [List.getElem?_eq_getElem hi'] at h1
      obtain ⟨cs, h2, h3⟩ := Option.bind_eq_some_iff.1 h1
      obtain ⟨_, h4, h5⟩ := World.cells?_some h2
      obtain ⟨vs, q1, q2, q3⟩ := flat_rep (M := memW w) (ρ := ρ) n m e cs _ hp h3
      refine ⟨vs, cs, q1, q2, q3, h4, fun j hj => ?_⟩
      have := h5 j hj
      rw [add_plain, add_plain, Nat.add_assoc] at this
      exact this
    have build : ∀ k, k ≤ len0 → ∃ es : List VV, es.length = k ∧ (∀ x ∈ es, TV P n e x) ∧ (∀ x ∈ es, (cellsOf x).length = P.cellsOf e) ∧
        ∀ (i : Nat) (x : VV), (flat es)[i]? = some x → ∃ val, memW w b (o + i) = some val ∧ Rep (memW w) ρ x val := by
      intro k
      induction k with
      | zero => intro _; exact ⟨[], rfl, by simp, by simp, by simp [flat]⟩
      | succ k ih =>
        intro hk
        obtain ⟨es, e1, e2, e3, e4⟩ := ih (by omega)
        obtain ⟨vs, cs, q1, q2, q3, q4, q5⟩ := hE k (by omega)
        have hc := cellsOf_TV hp q2 q3
        have hfl : (flat es).length = k * P.cellsOf e := by rw [flat_length es (P.cellsOf e) e3, e1]
        refine ⟨es ++ [if isAggT P e then .agg vs else vs.headD .undef], by simp [e1], fun x hx => ?_, fun x hx => ?_, fun i x hx => ?_⟩
        · rcases List.mem_append.1 hx with h | h
          · exact e2 x h
          · simp only [List.mem_singleton] at h
            subst h
            exact ⟨vs, q2, q3, rfl⟩
        · rcases List.mem_append.1 hx with h | h
          · exact e3 x h
          · simp only [List.mem_singleton] at h
            subst h
            rw [hc]; exact q3
        · have hf : flat (es ++ [if isAggT P e then (.agg vs : VV) else vs.headD .undef]) = flat es ++ vs := by
            unfold flat
            rw [List.flatMap_append]
            congr 1
            simp only [List.flatMap_cons, List.flatMap_nil, List.append_nil]
            exact hc
          rw [hf] at hx
          by_cases hi : i < (flat es).length
          · rw [List.getElem?_append_left hi] at hx
            exact e4 i x hx
          · rw [List.getElem?_append_right (by omega)] at hx
            have hj : i - (flat es).length < P.cellsOf e := by
              have := (List.getElem?_eq_some_iff.1 hx).1; omega
            have h6 := q5 _ hj
            have hj' : i - (flat es).length < cs.length := by omega
            rw [List.getElem?_eq_getElem hj'] at h6
            refine ⟨_, ?_, q1.2 _ x _ hx (List.getElem?_eq_getElem hj')⟩
            unfold memW
            rw [← h6]
            congr 2
            omega
    obtain ⟨es, e1, e2, e3, e4⟩ := build len0 (Nat.le_refl _)
    subst e1
    refine ⟨_, ⟨es, rfl, by omega, e2⟩, ?_⟩
    refine .isl 0 _ true _ es false b o cap0 (fun i => (memW w b (o + i)).getD undef) rfl hlc (by simp) e3 (fun i x hx => ?_) (fun i x hx => ?_)
    · obtain ⟨val, h1, _⟩ := e4 i x hx
      rw [h1]; rfl
    · obtain ⟨val, h1, h2⟩ := e4 i x hx
      rw [h1]; exact h2

theorem same_at {W W' : World} (hs : Same W W') (hk : ∀ b, b < W.heap.size → W'.heap[b]? = W.heap[b]?) (hz : W.heap.size ≤ W'.heap.size) {p : MemPlace} (hp : p.block < W.heap.size) : W.sameAt W' p := by
  have hb : Below W.heap.size W { W' with tape := W.tape } := ⟨hs.os, rfl, hs.output, hz, hk⟩
  exact hb.same hp
theorem trodAll_stays (hl : laidOutB P = true) {W W' : World} {sp : Nat → Bool} : ∀ {ts : List TypeId} {vs : List Value} {ds : List (DataW H)} {ps : List MemPlace}, (∀ t ∈ ts, P.readableRec t = true ∧ t < P.types.size) →
    DataW.TrodAll enc P W 0 (fun _ => true) true ts vs ds ps → (∀ p ∈ ps, W.sameAt W' p) → (∀ p ∈ ps, sp p.block = true) → DataW.TrodAll enc P W' 0 sp true ts vs ds ps
  | [], vs, ds, ps, _, h, _, _ => by
    obtain ⟨rfl, rfl, rfl⟩ := trodAll_nil h
    exact trodAll_mk0
  | t :: ts, vs, ds, ps, ht, h, h1, h2 => by
    obtain ⟨v, vs', d, ds', p, q, rfl, rfl, rfl, g1, g2⟩ := trodAll_cons h
    refine trodAll_cons_mk ?_ (trodAll_stays hl (fun t h => ht t (List.mem_cons_of_mem _ h)) g2 (fun p hp => h1 p (List.mem_append_right _ hp)) (fun p hp => h2 p (List.mem_append_right _ hp)))
    exact WideElems.Trod_stays hl (ht t List.mem_cons_self).1 (ht t List.mem_cons_self).2 g1 (fun p hp => h1 p (List.mem_append_left _ hp)) (fun p hp => h2 p (List.mem_append_left _ hp))
/-- A law that comes to true, whatever its arguments: what its row asks. -/
theorem law_row {f : FuncId} {fn : Func} {s : ChangeSpec} {apart fresh handsOn again : Bool} {R : List VV → VV → Prop} {tb : TypeId} {W : World} {args : Array Value} {ds gs : List (DataW H)} {before : List MemPlace} {us : List VV}
    (hR : RelOk P f R) (hl : laidOutB P = true) (hro : ∀ t ∈ fn.params.toList, P.readableRec t = true ∧ t < P.types.size) (hres : fn.resultTypes = #[tb]) (htb : P.underlying tb = some .bool) (hvars : s.vars = [])
    (hfn : ∀ ds : List (DataW H), ds.length = fn.params.size → (s.fn H ds).results = [.lit (.bool true)] ∧ (s.fn H ds).args = ds ∧ (s.fn H ds).vars = [])
    (hW : DataW.Whole enc P fn.params.toList s.vars apart W args.toList ds gs before) (hrep : RepL (memW W) noRho us args.toList) (hr : R us (.bool true true)) :
    Calls P f args W fun e W' => ∃ v, e = .returned v ∧ s.post enc P fn apart fresh handsOn again W args v W' := by
  obtain ⟨_, hc⟩ := hR us _ (memW W) W args hr (fun b o v h => h) hrep
  refine hc.mono fun e W' he => ?_
  obtain ⟨val, M', rfl, r1, r2, r3, r4, r5, r6, r7⟩ := he
  cases r1
  refine ⟨_, rfl, ?_⟩
  have hW' := hW
  obtain ⟨p, q, hA, hV, rfl, _, _⟩ := hW'
  rw [hvars] at hV
  obtain ⟨rfl, rfl⟩ := trodVars_none hV
  have hlen : ds.length = fn.params.size := by
    have gen : ∀ (ts : List TypeId) (vs : List Value) (ds : List (DataW H)) (ps : List MemPlace), DataW.TrodAll enc P W 0 (fun _ => true) true ts vs ds ps → ds.length = ts.length := by
      intro ts
      induction ts with
      | nil => intro vs ds ps h; obtain ⟨_, rfl, _⟩ := trodAll_nil h; rfl
      | cons t ts ih =>
        intro vs ds ps h
        obtain ⟨v, vs', d, ds', p, q, _, rfl, _, _, g2⟩ := trodAll_cons h
        simp [ih _ _ _ g2]
    have := gen _ _ _ _ hA
    simpa using this
  obtain ⟨f1, f2, f3⟩ := hfn ds hlen
  have hlt : ∀ x ∈ p, x.block < W.heap.size := fun x hx => hW.lt x (by simpa using hx)
  have hsame : ∀ x ∈ p, W.sameAt W' x := fun x hx => same_at r7 r3 r2 (hlt x hx)
  have hg : Grown W W' := by
    have hb : Below W.heap.size W { W' with tape := W.tape } := ⟨r7.os, rfl, r7.output, r2, r3⟩
    have := hb.frame (fun _ => False)
    exact ⟨this, r7.fz, r2⟩
  refine post_of_same (pa := p) (pv := []) hW ?_ ?_ ?_ rfl (hg.frame _) hg.2.1 (ok_one hres rfl (okWide_bool_mk htb _))
  · intro b sp hd
    rw [hres, List.append_nil, f1]
    exact trodAll_cons_mk (shut_bool htb _) trodAll_mk0
  · intro sp hsp
    rw [List.append_nil, f2]
    exact trodAll_stays hl hro hA hsame (fun x hx => hsp x (by simpa using hx))
  · intro sp hsp
    rw [List.append_nil, f3, hvars]; rfl
end
end Go.Sx
