/- The plain law of what was seen of one word: the first order in which acts can have been done, and when there is one. Conditions: none. -/
import GoSem.Core.Code
set_option linter.unusedVariables false
set_option linter.unusedSimpArgs false
set_option linter.unusedSectionVars false

namespace Go.Sx

structure Ac where
  w : Bool
  v : Int
  f : Int
  t : Int

def saneA (x : Ac) : Bool := decide (0 ≤ x.f ∧ x.f < x.t ∧ x.t ≤ 1099511627776)
def saneT (h : List Ac) : Bool := decide (h.length ≤ 7) && h.all saneA
/-- The acts that are not done. -/
def leftS : List Ac → List Bool → List Ac
  | x :: h, b :: d => if b then leftS h d else x :: leftS h d
  | _, _ => []
def blk (h : List Ac) (d : List Bool) (x : Ac) : Bool := (leftS h d).any fun y => decide (y.t < x.f)
def mayS (h : List Ac) (d : List Bool) (now : Int) (i : Nat) (x : Ac) : Bool := !(d.getD i false) && (x.w || decide (x.v = now)) && !blk h d x
def nxt (x : Ac) (now : Int) : Int := if x.w then x.v else now
def tryS (sk : List Bool → Int → Option (List Nat)) (h : List Ac) (d : List Bool) (now : Int) (i : Nat) : Option (List Nat) :=
  match h[i]? with
  | some x => if mayS h d now i x then (sk (d.set i true) (nxt x now)).map (i :: ·) else none
  | none => none
def seekS (h : List Ac) : Nat → List Bool → Int → Option (List Nat)
  | 0, _, _ => some []
  | m + 1, d, now => (List.range' 0 h.length).findSome? (tryS (seekS h m) h d now)
def fromS (h : List Ac) (m : Nat) (d : List Bool) (now : Int) (k : Nat) : Option (List Nat) := (List.range' k (h.length - k)).findSome? (tryS (seekS h m) h d now)
theorem seekS_succ (h : List Ac) (m : Nat) (d : List Bool) (now : Int) : seekS h (m + 1) d now = fromS h m d now 0 := rfl
theorem fromS_end {h : List Ac} {m : Nat} {d : List Bool} {now : Int} {k : Nat} (hk : h.length ≤ k) : fromS h m d now k = none := by
  unfold fromS; rw [Nat.sub_eq_zero_of_le hk]; rfl
theorem fromS_step {h : List Ac} {m : Nat} {d : List Bool} {now : Int} {k : Nat} (hk : k < h.length) : fromS h m d now k = (match tryS (seekS h m) h d now k with | some l => some l | none => fromS h m d now (k + 1)) := by
  unfold fromS
  obtain ⟨j, hj⟩ : ∃ j, h.length - k = j + 1 := ⟨h.length - k - 1, by omega⟩
  have : h.length - (k + 1) = j := by omega
  rw [hj, this, List.range'_succ, List.findSome?_cons]
  cases tryS (seekS h m) h d now k <;> rfl
def orderS (h : List Ac) : Option (List Nat) := if saneT h then seekS h h.length (List.replicate h.length false) 0 else none

/-! ### when there is one -/
def undone (d : List Bool) : Nat := d.countP (fun b => !b)
inductive Fits (h : List Ac) : List Bool → Int → List Nat → Prop
  | nil (d : List Bool) (now : Int) (hd : undone d = 0) : Fits h d now []
  | cons (d : List Bool) (now : Int) (i : Nat) (x : Ac) (l : List Nat) (hx : h[i]? = some x) (hm : mayS h d now i x = true) (hl : Fits h (d.set i true) (nxt x now) l) : Fits h d now (i :: l)

theorem undone_set {d : List Bool} {i : Nat} (hi : i < d.length) (h : d.getD i false = false) : undone d = undone (d.set i true) + 1 := by
  induction d generalizing i with
  | nil => simp at hi
  | cons b d ih =>
    cases i with
    | zero =>
      have : b = false := by simpa using h
      subst this
      simp [undone]
    | succ i =>
      have := ih (i := i) (by simpa using hi) (by simpa using h)
      unfold undone at this ⊢
      simp only [List.set_cons_succ, List.countP_cons]
      omega
theorem mayS_undone {h : List Ac} {d : List Bool} {now : Int} {i : Nat} {x : Ac} (hm : mayS h d now i x = true) : d.getD i false = false := by
  unfold mayS at hm
  simp only [Bool.and_eq_true, Bool.not_eq_true'] at hm
  exact hm.1.1
theorem seekS_fits {h : List Ac} : ∀ (m : Nat) (d : List Bool) (now : Int) (l : List Nat), d.length = h.length → undone d = m → seekS h m d now = some l → Fits h d now l
  | 0, d, now, l, _, hu, hs => by
    simp only [seekS, Option.some.injEq] at hs
    subst hs
    exact .nil d now hu
  | m + 1, d, now, l, hd, hu, hs => by
    unfold seekS at hs
    obtain ⟨i, _, hi⟩ := List.exists_of_findSome?_eq_some hs
    unfold tryS at hi
    split at hi
    · rename_i x hx
      split at hi
      · rename_i hm
        rw [Option.map_eq_some_iff] at hi
        obtain ⟨l', h1, rfl⟩ := hi
        have hlt : i < d.length := by rw [hd]; exact (List.getElem?_eq_some_iff.1 hx).1
        have := undone_set hlt (mayS_undone hm)
        exact .cons d now i x l' hx hm (seekS_fits m _ _ l' (by simpa using hd) (by omega) h1)
      · cases hi
    · cases hi
theorem fits_seekS {h : List Ac} {d : List Bool} {now : Int} {l : List Nat} (hf : Fits h d now l) : d.length = h.length → (seekS h (undone d) d now).isSome = true := by
  induction hf with
  | nil d now hd => intro _; rw [hd]; rfl
  | cons d now i x l hx hm _ ih =>
    intro hd
    have hlt : i < d.length := by rw [hd]; exact (List.getElem?_eq_some_iff.1 hx).1
    have h1 := undone_set hlt (mayS_undone hm)
    have h2 := ih (by simpa using hd)
    rw [h1]
    unfold seekS
    rw [List.findSome?_isSome_iff]
    refine ⟨i, by rw [List.mem_range'_1]; omega, ?_⟩
    unfold tryS
    rw [hx]
    simp only [hm, if_true, Option.isSome_map]
    exact h2
theorem undone_rep (n : Nat) : undone (List.replicate n false) = n := by
  unfold undone; rw [List.countP_replicate]; simp
theorem orderS_iff {h : List Ac} : (orderS h).isSome = true ↔ saneT h = true ∧ ∃ l, Fits h (List.replicate h.length false) 0 l := by
  unfold orderS
  by_cases hs : saneT h = true
  · rw [if_pos hs]
    constructor
    · intro ho
      obtain ⟨l, hl⟩ := Option.isSome_iff_exists.1 ho
      exact ⟨hs, l, seekS_fits _ _ _ l (by simp) (undone_rep _) hl⟩
    · rintro ⟨_, l, hl⟩
      have := fits_seekS hl (by simp)
      rwa [undone_rep] at this
  · rw [if_neg hs]; simp [hs]

/-! ### acts that are left -/
theorem mem_left {y : Ac} : ∀ {h : List Ac} {d : List Bool}, d.length = h.length → (y ∈ leftS h d ↔ ∃ j : Nat, h[j]? = some y ∧ d[j]? = some false)
  | [], [], _ => by simp [leftS]
  | [], _ :: _, hl => by simp at hl
  | _ :: _, [], hl => by simp at hl
  | x :: h, b :: d, hl => by
    have ih := mem_left (y := y) (h := h) (d := d) (by simpa using hl)
    unfold leftS
    have key : (∃ j : Nat, (x :: h)[j]? = some y ∧ (b :: d)[j]? = some false) ↔ ((x = y ∧ b = false) ∨ ∃ j : Nat, h[j]? = some y ∧ d[j]? = some false) := by
      constructor
      · rintro ⟨j, h1, h2⟩
        cases j with
        | zero => left; simpa using And.intro h1 h2
        | succ j => right; exact ⟨j, by simpa using h1, by simpa using h2⟩
      · rintro (⟨h1, h2⟩ | ⟨j, h1, h2⟩)
        · exact ⟨0, by simp [h1], by simp [h2]⟩
        · exact ⟨j + 1, by simpa using h1, by simpa using h2⟩
    rw [key, ← ih]
    cases b with
    | true => simp
    | false => simp [eq_comm]
theorem blk_mono {h h' : List Ac} {d d' : List Bool} {x x' : Ac} (hx : x'.f ≤ x.f) (hm : ∀ y' ∈ leftS h' d', ∃ y ∈ leftS h d, y.t ≤ y'.t) (hb : blk h d x = false) : blk h' d' x' = false := by
  unfold blk at hb ⊢
  rw [List.any_eq_false] at hb ⊢
  intro y' hy'
  obtain ⟨y, hy, ht⟩ := hm y' hy'
  have := hb y hy
  simp only [decide_eq_true_eq, Int.not_lt] at this ⊢
  omega
theorem mayS_iff {h : List Ac} {d : List Bool} {now : Int} {i : Nat} {x : Ac} : mayS h d now i x = true ↔ d.getD i false = false ∧ (x.w = true ∨ x.v = now) ∧ blk h d x = false := by
  unfold mayS
  simp only [Bool.and_eq_true, Bool.not_eq_true', Bool.or_eq_true, decide_eq_true_eq, and_assoc]

/-! ### who takes longer -/
structure Wider (x x' : Ac) : Prop where
  w : x'.w = x.w
  v : x'.v = x.v
  f : x'.f ≤ x.f
  t : x.t ≤ x'.t
theorem fits_wider {h h' : List Ac} (hl : h'.length = h.length) (hw : ∀ (i : Nat) (x : Ac), h[i]? = some x → ∃ x', h'[i]? = some x' ∧ Wider x x') {d : List Bool} {now : Int} {l : List Nat} (hf : Fits h d now l) :
    d.length = h.length → Fits h' d now l := by
  induction hf with
  | nil d now hd => intro _; exact .nil d now hd
  | cons d now i x l hx hm _ ih =>
    intro hd
    obtain ⟨x', hx', w⟩ := hw i x hx
    obtain ⟨m1, m2, m3⟩ := mayS_iff.1 hm
    have hn : nxt x' now = nxt x now := by unfold nxt; rw [w.w, w.v]
    refine .cons d now i x' l hx' (mayS_iff.2 ⟨m1, by rw [w.w, w.v]; exact m2, blk_mono w.f (fun y' hy' => ?_) m3⟩) (by rw [hn]; exact ih (by simpa using hd))
    obtain ⟨j, h1, h2⟩ := (mem_left (by rw [hl]; exact hd)).1 hy'
    have hj : j < h.length := by rw [← hl]; exact (List.getElem?_eq_some_iff.1 h1).1
    obtain ⟨x2, h3, w2⟩ := hw j h[j] (List.getElem?_eq_getElem hj)
    rw [h1] at h3
    simp only [Option.some.injEq] at h3
    subst h3
    exact ⟨h[j], (mem_left hd).2 ⟨j, List.getElem?_eq_getElem hj, h2⟩, w2.t⟩

/-! ### without a read -/
def dn (i j : Nat) : Nat := if j < i then j else j - 1
theorem erase_get {α : Type} {l : List α} {i j : Nat} (h : j ≠ i) : (l.eraseIdx i)[dn i j]? = l[j]? := by
  rw [List.getElem?_eraseIdx]
  unfold dn
  by_cases hj : j < i
  · rw [if_pos hj, if_pos hj]
  · have : ¬ (j - 1 < i) := by omega
    have e : j - 1 + 1 = j := by omega
    rw [if_neg hj, if_neg this, e]
theorem erase_set {α : Type} {l : List α} {i j : Nat} {a : α} (h : j ≠ i) : (l.set j a).eraseIdx i = (l.eraseIdx i).set (dn i j) a := by
  apply List.ext_getElem?
  intro k
  rw [List.getElem?_eraseIdx, List.getElem?_set, List.getElem?_set]
  have hl : (l.eraseIdx i).length = if i < l.length then l.length - 1 else l.length := List.length_eraseIdx ..
  unfold dn
  by_cases hk : k < i
  · rw [if_pos hk, List.getElem?_set, List.getElem?_eraseIdx, if_pos hk]
    by_cases hjk : j = k
    · subst hjk
      rw [if_pos rfl, if_pos hk, if_pos rfl, hl]
      by_cases h1 : i < l.length
      · rw [if_pos h1, if_pos (by omega), if_pos (by omega)]
      · rw [if_neg h1]
    · rw [if_neg hjk, if_neg (by split <;> omega)]
  · rw [if_neg hk, List.getElem?_set, List.getElem?_eraseIdx, if_neg hk]
    by_cases hjk : j = k + 1
    · subst hjk
      have h1 : ¬ (k + 1 < i) := by omega
      simp only [h1, if_true, if_false, Nat.add_sub_cancel, hl]
      by_cases h2 : i < l.length
      · by_cases h3 : k + 1 < l.length
        · have : k < l.length - 1 := by omega
          simp [h2, h3, this]
        · have : ¬ k < l.length - 1 := by omega
          simp [h2, h3, this]
      · have h3 : ¬ k + 1 < l.length := by omega
        have h4 : ¬ k < l.length := by omega
        simp [h2, h3, h4]
    · rw [if_neg hjk, if_neg (by split <;> omega)]
theorem undone_erase {d : List Bool} {i : Nat} (h : undone d = 0) : undone (d.eraseIdx i) = 0 := by
  unfold undone at h ⊢
  rw [List.countP_eq_zero] at h ⊢
  exact fun a ha => h a (List.mem_of_mem_eraseIdx ha)
theorem getD_iff {d : List Bool} {i : Nat} (hi : i < d.length) : d.getD i false = false ↔ d[i]? = some false := by
  rw [List.getD_eq_getElem?_getD, List.getElem?_eq_getElem hi]; simp
theorem fits_fewer {h : List Ac} {i : Nat} {r : Ac} (hr : h[i]? = some r) (hw : r.w = false) {d : List Bool} {now : Int} {l : List Nat} (hf : Fits h d now l) :
    d.length = h.length → ∃ l', Fits (h.eraseIdx i) (d.eraseIdx i) now l' := by
  have hi : i < h.length := (List.getElem?_eq_some_iff.1 hr).1
  induction hf with
  | nil d now hd => intro _; exact ⟨[], .nil _ now (undone_erase hd)⟩
  | cons d now j x l hx hm _ ih =>
    intro hd
    obtain ⟨l', hl'⟩ := ih (by simpa using hd)
    obtain ⟨m1, m2, m3⟩ := mayS_iff.1 hm
    by_cases hji : j = i
    · subst hji
      rw [hr] at hx
      simp only [Option.some.injEq] at hx
      subst hx
      have : nxt r now = now := by unfold nxt; rw [hw]; rfl
      rw [this, List.eraseIdx_set_eq] at hl'
      exact ⟨l', hl'⟩
    · rw [erase_set hji] at hl'
      have hj : j < d.length := by rw [hd]; exact (List.getElem?_eq_some_iff.1 hx).1
      refine ⟨dn i j :: l', .cons _ now _ x l' (by rw [erase_get hji]; exact hx) (mayS_iff.2 ⟨?_, m2, ?_⟩) hl'⟩
      · rw [List.getD_eq_getElem?_getD, erase_get hji, ← List.getD_eq_getElem?_getD]; exact m1
      · refine blk_mono (Int.le_refl _) (fun y hy => ⟨y, ?_, Int.le_refl _⟩) m3
        obtain ⟨k, k1, k2⟩ := (mem_left (by rw [List.length_eraseIdx_of_lt (by omega), List.length_eraseIdx_of_lt hi, hd])).1 hy
        rw [List.getElem?_eraseIdx] at k1 k2
        split at k1
        · rename_i hk; rw [if_pos hk] at k2; exact (mem_left hd).2 ⟨k, k1, k2⟩
        · rename_i hk; rw [if_neg hk] at k2; exact (mem_left hd).2 ⟨k + 1, k1, k2⟩

/-! ### a read twice, and one ahead of all -/
theorem undone_snoc (d : List Bool) (b : Bool) : undone (d ++ [b]) = undone d + (if b then 0 else 1) := by
  unfold undone; rw [List.countP_append]; cases b <;> simp
theorem set_snoc {α : Type} {d : List α} {b a : α} {j : Nat} (hj : j < d.length) : (d ++ [b]).set j a = d.set j a ++ [b] := by
  rw [List.set_append_left _ _ hj]
theorem getD_snoc {d : List Bool} {b : Bool} {j : Nat} (hj : j < d.length) : (d ++ [b]).getD j false = d.getD j false := by
  rw [List.getD_eq_getElem?_getD, List.getD_eq_getElem?_getD, List.getElem?_append_left hj]
theorem mem_left_snoc {h : List Ac} {d : List Bool} {r y : Ac} {b : Bool} (hd : d.length = h.length) (hy : y ∈ leftS (h ++ [r]) (d ++ [b])) : y ∈ leftS h d ∨ (y = r ∧ b = false) := by
  obtain ⟨k, k1, k2⟩ := (mem_left (by simp [hd])).1 hy
  by_cases hk : k < h.length
  · rw [List.getElem?_append_left hk] at k1
    rw [List.getElem?_append_left (by omega)] at k2
    exact .inl ((mem_left hd).2 ⟨k, k1, k2⟩)
  · have : k = h.length := by
      have := (List.getElem?_eq_some_iff.1 k1).1
      simp at this; omega
    subst this
    rw [List.getElem?_append_right (Nat.le_refl _)] at k1
    rw [← hd, List.getElem?_append_right (Nat.le_refl _)] at k2
    simp at k1 k2
    exact .inr ⟨k1.symm, k2⟩
theorem fits_twice {h : List Ac} {i : Nat} {r : Ac} (hr : h[i]? = some r) (hw : r.w = false) (hs : r.f ≤ r.t) {d : List Bool} {now : Int} {l : List Nat} (hf : Fits h d now l) :
    d.length = h.length → ∃ l', Fits (h ++ [r]) (d ++ [d.getD i false]) now l' := by
  have hi : i < h.length := (List.getElem?_eq_some_iff.1 hr).1
  induction hf with
  | nil d now hd =>
    intro hl
    refine ⟨[], .nil _ now ?_⟩
    rw [undone_snoc, hd]
    cases hb : d.getD i false with
    | true => rfl
    | false =>
      exfalso
      unfold undone at hd
      rw [List.countP_eq_zero] at hd
      have := (getD_iff (by omega)).1 hb
      exact hd false (List.mem_of_getElem? this) rfl
  | cons d now j x l hx hm _ ih =>
    intro hd
    obtain ⟨l', hl'⟩ := ih (by simpa using hd)
    obtain ⟨m1, m2, m3⟩ := mayS_iff.1 hm
    have hj : j < h.length := (List.getElem?_eq_some_iff.1 hx).1
    have step : ∀ b : Bool, (b = false → d.getD i false = false) → mayS (h ++ [r]) (d ++ [b]) now j x = true := by
      intro b hb
      refine mayS_iff.2 ⟨by rw [getD_snoc (by omega)]; exact m1, m2, blk_mono (Int.le_refl _) (fun y hy => ⟨y, ?_, Int.le_refl _⟩) m3⟩
      rcases mem_left_snoc hd hy with h1 | ⟨rfl, h2⟩
      · exact h1
      · exact (mem_left hd).2 ⟨i, hr, (getD_iff (by omega)).1 (hb h2)⟩
    by_cases hji : j = i
    · subst hji
      rw [hr] at hx
      simp only [Option.some.injEq] at hx
      subst hx
      have hn : nxt r now = now := by unfold nxt; rw [hw]; rfl
      rw [hn] at hl'
      have hg : (d.set j true).getD j false = true := by
        rw [List.getD_eq_getElem?_getD, List.getElem?_set_self (by omega)]; rfl
      rw [hg] at hl'
      rw [m1]
      refine ⟨j :: h.length :: l', .cons _ now j r _ (by rw [List.getElem?_append_left hj]; exact hr) (step false fun _ => m1) ?_⟩
      rw [hn, set_snoc (by omega)]
      refine .cons _ now h.length r _ (by simp) (mayS_iff.2 ⟨?_, m2, ?_⟩) ?_
      · rw [List.getD_eq_getElem?_getD, List.getElem?_append_right (by simp [hd])]; simp [hd]
      · have hb : blk h d r = false := m3
        unfold blk at hb ⊢
        rw [List.any_eq_false] at hb ⊢
        intro y hy
        rcases mem_left_snoc (by simpa using hd) hy with h1 | ⟨rfl, _⟩
        · obtain ⟨k, k1, k2⟩ := (mem_left (by simpa using hd)).1 h1
          rw [List.getElem?_set] at k2
          split at k2
          · split at k2 <;> cases k2
          · exact hb y ((mem_left hd).2 ⟨k, k1, k2⟩)
        · simp only [decide_eq_true_eq]; omega
      · rw [hn]
        have : (d.set j true ++ [false]).set h.length true = d.set j true ++ [true] := by
          rw [List.set_append_right _ _ (by simp [hd])]; simp [hd]
        rw [this]; exact hl'
    · refine ⟨j :: l', .cons _ now j x _ (by rw [List.getElem?_append_left hj]; exact hx) (step _ id) ?_⟩
      rw [set_snoc (by omega)]
      have : (d.set j true).getD i false = d.getD i false := by
        rw [List.getD_eq_getElem?_getD, List.getElem?_set_ne hji, ← List.getD_eq_getElem?_getD]
      rw [this] at hl'
      exact hl'
theorem fits_done {h : List Ac} {r : Ac} {d : List Bool} {now : Int} {l : List Nat} (hf : Fits h d now l) : d.length = h.length → Fits (h ++ [r]) (d ++ [true]) now l := by
  induction hf with
  | nil d now hd => intro _; exact .nil _ now (by rw [undone_snoc, hd]; rfl)
  | cons d now j x l hx hm _ ih =>
    intro hd
    have hj : j < h.length := (List.getElem?_eq_some_iff.1 hx).1
    obtain ⟨m1, m2, m3⟩ := mayS_iff.1 hm
    refine .cons _ now j x l (by rw [List.getElem?_append_left hj]; exact hx) (mayS_iff.2 ⟨by rw [getD_snoc (by omega)]; exact m1, m2, blk_mono (Int.le_refl _) (fun y hy => ⟨y, ?_, Int.le_refl _⟩) m3⟩) ?_
    · rcases mem_left_snoc hd hy with h1 | ⟨_, h2⟩
      · exact h1
      · cases h2
    · rw [set_snoc (by omega)]; exact ih (by simpa using hd)
theorem fits_ahead {h : List Ac} {r : Ac} (hw : r.w = false) (hv : r.v = 0) (hf0 : r.f = 0) (ht : 0 ≤ r.t) (hs : ∀ x ∈ h, 0 ≤ x.t) {l : List Nat} (hf : Fits h (List.replicate h.length false) 0 l) :
    Fits (h ++ [r]) (List.replicate (h ++ [r]).length false) 0 (h.length :: l) := by
  have e : List.replicate (h ++ [r]).length false = List.replicate h.length false ++ [false] := by
    rw [List.length_append, List.length_singleton, List.replicate_succ']
  rw [e]
  refine .cons _ 0 h.length r l (by simp) (mayS_iff.2 ⟨?_, .inr hv, ?_⟩) ?_
  · rw [List.getD_eq_getElem?_getD, List.getElem?_append_right (by simp)]; simp
  · unfold blk
    rw [List.any_eq_false]
    intro y hy
    rcases mem_left_snoc (by simp) hy with h1 | ⟨rfl, _⟩
    · obtain ⟨k, k1, _⟩ := (mem_left (by simp)).1 h1
      have := hs y (List.mem_of_getElem? k1)
      simp only [decide_eq_true_eq]; omega
    · simp only [decide_eq_true_eq]; omega
  · have : nxt r 0 = 0 := by unfold nxt; rw [hw]; rfl
    rw [this]
    have : (List.replicate h.length false ++ [false]).set h.length true = List.replicate h.length false ++ [true] := by
      rw [List.set_append_right _ _ (by simp)]; simp
    rw [this]
    exact fits_done hf (by simp)

/-! ### the laws -/
theorem order_wide {h h' : List Ac} (ho : (orderS h).isSome = true) (hl : h'.length = h.length) (hw : ∀ (i : Nat) (x : Ac), h[i]? = some x → ∃ x', h'[i]? = some x' ∧ Wider x x') (hs : saneT h' = true) : (orderS h').isSome = true := by
  obtain ⟨_, l, hf⟩ := orderS_iff.1 ho
  exact orderS_iff.2 ⟨hs, l, by rw [hl]; exact fits_wider hl hw hf (by simp)⟩
theorem order_fewer {h : List Ac} {i : Nat} {r : Ac} (ho : (orderS h).isSome = true) (hr : h[i]? = some r) (hw : r.w = false) : (orderS (h.eraseIdx i)).isSome = true := by
  obtain ⟨hs, l, hf⟩ := orderS_iff.1 ho
  have hi : i < h.length := (List.getElem?_eq_some_iff.1 hr).1
  obtain ⟨l', hl'⟩ := fits_fewer hr hw hf (by simp)
  refine orderS_iff.2 ⟨?_, l', ?_⟩
  · unfold saneT at hs ⊢
    simp only [Bool.and_eq_true, decide_eq_true_eq, List.all_eq_true] at hs ⊢
    exact ⟨by rw [List.length_eraseIdx_of_lt hi]; omega, fun x hx => hs.2 x (List.mem_of_mem_eraseIdx hx)⟩
  · have : (List.replicate h.length false).eraseIdx i = List.replicate (h.eraseIdx i).length false := by
      rw [List.length_eraseIdx_of_lt hi]
      apply List.eq_replicate_iff.2
      refine ⟨by rw [List.length_eraseIdx_of_lt (by simpa using hi)]; simp, fun b hb => ?_⟩
      exact List.eq_of_mem_replicate (List.mem_of_mem_eraseIdx hb)
    rw [← this]; exact hl'
theorem order_twice {h : List Ac} {i : Nat} {r : Ac} (ho : (orderS h).isSome = true) (hr : h[i]? = some r) (hw : r.w = false) (h6 : h.length ≤ 6) : (orderS (h ++ [r])).isSome = true := by
  obtain ⟨hs, l, hf⟩ := orderS_iff.1 ho
  have hi : i < h.length := (List.getElem?_eq_some_iff.1 hr).1
  unfold saneT at hs
  simp only [Bool.and_eq_true, decide_eq_true_eq, List.all_eq_true] at hs
  have hrs := hs.2 r (List.mem_of_getElem? hr)
  unfold saneA at hrs
  simp only [decide_eq_true_eq] at hrs
  obtain ⟨l', hl'⟩ := fits_twice hr hw (by omega) hf (by simp)
  refine orderS_iff.2 ⟨?_, l', ?_⟩
  · unfold saneT
    simp only [Bool.and_eq_true, decide_eq_true_eq, List.all_eq_true]
    refine ⟨by simp; omega, fun x hx => ?_⟩
    rcases List.mem_append.1 hx with h1 | h1
    · exact hs.2 x h1
    · simp only [List.mem_singleton] at h1
      subst h1
      exact hs.2 _ (List.mem_of_getElem? hr)
  · have : List.replicate (h ++ [r]).length false = List.replicate h.length false ++ [(List.replicate h.length false).getD i false] := by
      rw [List.length_append, List.length_singleton, List.replicate_succ', List.getD_eq_getElem?_getD, List.getElem?_replicate]
      simp [hi]
    rw [this]; exact hl'
theorem order_ahead {h : List Ac} {r : Ac} (ho : (orderS h).isSome = true) (hw : r.w = false) (hv : r.v = 0) (hf0 : r.f = 0) (hr : saneA r = true) (h6 : h.length ≤ 6) : (orderS (h ++ [r])).isSome = true := by
  obtain ⟨hs, l, hf⟩ := orderS_iff.1 ho
  unfold saneT at hs
  simp only [Bool.and_eq_true, decide_eq_true_eq, List.all_eq_true] at hs
  have hr' := hr
  unfold saneA at hr'
  simp only [decide_eq_true_eq] at hr'
  refine orderS_iff.2 ⟨?_, _, fits_ahead hw hv hf0 (by omega) (fun x hx => ?_) hf⟩
  · unfold saneT
    simp only [Bool.and_eq_true, decide_eq_true_eq, List.all_eq_true]
    refine ⟨by simp; omega, fun x hx => ?_⟩
    rcases List.mem_append.1 hx with h1 | h1
    · exact hs.2 x h1
    · simp only [List.mem_singleton] at h1
      subst h1
      exact hr
  · have := hs.2 x hx
    unfold saneA at this
    simp only [decide_eq_true_eq] at this
    omega

/-! ### one behind the other -/
def rowOf (k : Nat) : List (Bool × Int) → List Ac
  | [] => []
  | (w, v) :: r => { w := w, v := v, f := 3 * k, t := 3 * k + 2 } :: rowOf (k + 1) r
def goodFrom : Int → List (Bool × Int) → Bool
  | _, [] => true
  | now, (w, v) :: r => (w || decide (v = now)) && goodFrom (if w then v else now) r
theorem goodFrom_cons (now : Int) (w : Bool) (v : Int) (r : List (Bool × Int)) : goodFrom now ((w, v) :: r) = ((w || decide (v = now)) && goodFrom (if w then v else now) r) := rfl
theorem rowOf_length : ∀ (k : Nat) (l : List (Bool × Int)), (rowOf k l).length = l.length
  | _, [] => rfl
  | k, (_, _) :: r => by simp [rowOf, rowOf_length (k + 1) r]
theorem rowOf_get : ∀ (k : Nat) (l : List (Bool × Int)) (i : Nat), (rowOf k l)[i]? = (l[i]?).map fun p => { w := p.1, v := p.2, f := 3 * ((k + i : Nat) : Int), t := 3 * ((k + i : Nat) : Int) + 2 }
  | k, [], i => by simp [rowOf]
  | k, (w, v) :: r, 0 => by simp [rowOf]
  | k, (w, v) :: r, i + 1 => by
    have := rowOf_get (k + 1) r i
    have e : k + 1 + i = k + (i + 1) := by omega
    rw [e] at this
    simpa [rowOf] using this
theorem seek_row (l : List (Bool × Int)) : ∀ (m k : Nat) (now : Int), k + m = l.length →
    seekS (rowOf 0 l) m (List.replicate k true ++ List.replicate m false) now = if goodFrom now (l.drop k) then some (List.range' k m) else none
  | 0, k, now, hk => by
    have : l.drop k = [] := List.drop_eq_nil_of_le (by omega)
    simp [seekS, this, goodFrom]
  | m + 1, k, now, hk => by
    have hk' : k < l.length := by omega
    have hlen : (rowOf 0 l).length = l.length := rowOf_length 0 l
    obtain ⟨⟨w, v⟩, hp⟩ : ∃ p, l[k]? = some p := ⟨l[k], List.getElem?_eq_getElem hk'⟩
    have hdrop : l.drop k = (w, v) :: l.drop (k + 1) := by
      rw [List.drop_eq_getElem_cons hk']
      have := List.getElem?_eq_getElem hk'
      rw [hp] at this
      simp only [Option.some.injEq] at this
      rw [← this]
    let d := List.replicate k true ++ List.replicate (m + 1) false
    have hdl : d.length = (rowOf 0 l).length := by simp [d, hlen]; omega
    have hdg : ∀ j, d[j]? = if j < k then some true else if j < l.length then some false else none := by
      intro j
      by_cases h1 : j < k
      · simp only [d]
        rw [if_pos h1, List.getElem?_append_left (by simpa using h1), List.getElem?_replicate, if_pos h1]
      · simp only [d]
        rw [if_neg h1, List.getElem?_append_right (by simp; omega), List.getElem?_replicate]
        simp only [List.length_replicate]
        by_cases h2 : j < l.length
        · rw [if_pos h2, if_pos (by omega)]
        · rw [if_neg h2, if_neg (by omega)]
    have hx : (rowOf 0 l)[k]? = some { w := w, v := v, f := 3 * (k : Int), t := 3 * (k : Int) + 2 } := by
      rw [rowOf_get, hp]; simp
    have hset : d.set k true = List.replicate (k + 1) true ++ List.replicate m false := by
      apply List.ext_getElem?
      intro j
      rw [List.getElem?_set]
      by_cases h1 : k = j
      · subst h1
        rw [if_pos rfl, if_pos (by rw [hdl, hlen]; exact hk'), List.getElem?_append_left (by simp), List.getElem?_replicate, if_pos (by omega)]
      · rw [if_neg h1, hdg j]
        by_cases h2 : j < k
        · rw [if_pos h2, List.getElem?_append_left (by simp; omega), List.getElem?_replicate, if_pos (by omega)]
        · rw [if_neg h2, List.getElem?_append_right (by simp; omega), List.getElem?_replicate]
          simp only [List.length_replicate]
          by_cases h3 : j < l.length
          · rw [if_pos h3, if_pos (by omega)]
          · rw [if_neg h3, if_neg (by omega)]
    -- who else may be done
    have htry : ∀ j, j ≠ k → tryS (seekS (rowOf 0 l) m) (rowOf 0 l) d now j = none := by
      intro j hj
      unfold tryS
      split
      · rename_i x hxj
        rw [if_neg]
        intro hm
        obtain ⟨m1, _, m3⟩ := mayS_iff.1 hm
        have hjl : j < l.length := by rw [← hlen]; exact (List.getElem?_eq_some_iff.1 hxj).1
        have h0 := (getD_iff (by rw [hdl, hlen]; exact hjl)).1 m1
        rw [hdg j] at h0
        have hjk : ¬ j < k := by
          intro h1; rw [if_pos h1] at h0; cases h0
        unfold blk at m3
        rw [List.any_eq_false] at m3
        have := m3 _ ((mem_left hdl).2 ⟨k, hx, by rw [hdg k, if_neg (by omega), if_pos hk']⟩)
        rw [rowOf_get] at hxj
        rw [Option.map_eq_some_iff] at hxj
        obtain ⟨p, _, rfl⟩ := hxj
        simp only [decide_eq_true_eq, Nat.zero_add] at this
        omega
      · rfl
    have hmay : mayS (rowOf 0 l) d now k { w := w, v := v, f := 3 * (k : Int), t := 3 * (k : Int) + 2 } = (w || decide (v = now)) := by
      have hb : blk (rowOf 0 l) d { w := w, v := v, f := 3 * (k : Int), t := 3 * (k : Int) + 2 } = false := by
        unfold blk
        rw [List.any_eq_false]
        intro y hy
        obtain ⟨j, j1, j2⟩ := (mem_left hdl).1 hy
        rw [hdg j] at j2
        have hjk : ¬ j < k := by
          intro h1; rw [if_pos h1] at j2; cases j2
        rw [rowOf_get, Option.map_eq_some_iff] at j1
        obtain ⟨p, _, rfl⟩ := j1
        simp only [decide_eq_true_eq, Nat.zero_add]
        omega
      have hg : d.getD k false = false := (getD_iff (by rw [hdl, hlen]; exact hk')).2 (by rw [hdg k, if_neg (by omega), if_pos hk'])
      unfold mayS
      rw [hb, hg]; simp
    have ih := seek_row l m (k + 1) (if w then v else now) (by omega)
    have htk : tryS (seekS (rowOf 0 l) m) (rowOf 0 l) d now k = if goodFrom now (l.drop k) then some (List.range' k (m + 1)) else none := by
      unfold tryS
      rw [hx]
      dsimp only
      rw [hmay, hset, hdrop]
      have hn : nxt { w := w, v := v, f := 3 * (k : Int), t := 3 * (k : Int) + 2 } now = if w then v else now := rfl
      rw [hn, ih, goodFrom_cons]
      cases hc : (w || decide (v = now)) with
      | false => simp
      | true =>
        simp only [if_true, Bool.true_and]
        cases goodFrom (if w then v else now) (l.drop (k + 1)) with
        | true => simp [List.range'_succ]
        | false => simp
    show (List.range' 0 (rowOf 0 l).length).findSome? (tryS (seekS (rowOf 0 l) m) (rowOf 0 l) d now) = _
    rw [← htk, hlen]
    have hsplit : List.range' 0 l.length = List.range' 0 k ++ k :: List.range' (k + 1) (l.length - (k + 1)) := by
      have e : l.length = k + (1 + (l.length - (k + 1))) := by omega
      conv => lhs; rw [e]
      rw [← List.range'_append_1, ← List.range'_append_1]
      simp
    rw [hsplit, List.findSome?_append, List.findSome?_cons]
    have n1 : (List.range' 0 k).findSome? (tryS (seekS (rowOf 0 l) m) (rowOf 0 l) d now) = none := by
      rw [List.findSome?_eq_none_iff]
      intro j hj
      rw [List.mem_range'_1] at hj
      exact htry j (by omega)
    have n2 : (List.range' (k + 1) (l.length - (k + 1))).findSome? (tryS (seekS (rowOf 0 l) m) (rowOf 0 l) d now) = none := by
      rw [List.findSome?_eq_none_iff]
      intro j hj
      rw [List.mem_range'_1] at hj
      exact htry j (by omega)
    rw [n1, n2]
    cases tryS (seekS (rowOf 0 l) m) (rowOf 0 l) d now k <;> rfl
theorem order_row {l : List (Bool × Int)} (h7 : l.length ≤ 7) : orderS (rowOf 0 l) = if goodFrom 0 l then some (List.range' 0 l.length) else none := by
  have hs : saneT (rowOf 0 l) = true := by
    unfold saneT
    simp only [Bool.and_eq_true, decide_eq_true_eq, List.all_eq_true]
    refine ⟨by rw [rowOf_length]; exact h7, fun x hx => ?_⟩
    obtain ⟨j, hj⟩ := List.mem_iff_getElem?.1 hx
    have hjl : j < l.length := by rw [← rowOf_length 0 l]; exact (List.getElem?_eq_some_iff.1 hj).1
    rw [rowOf_get, Option.map_eq_some_iff] at hj
    obtain ⟨p, _, rfl⟩ := hj
    unfold saneA
    simp only [decide_eq_true_eq]
    omega
  unfold orderS
  rw [if_pos hs, rowOf_length]
  have := seek_row l l.length 0 0 (by omega)
  simpa using this
end Go.Sx
