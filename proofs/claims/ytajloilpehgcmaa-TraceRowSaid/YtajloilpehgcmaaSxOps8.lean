/- append, clear: the executor's are the model's. Conditions: none. -/
import Derived.Test.YtajloilpehgcmaaSxOps7
set_option linter.unusedVariables false
set_option linter.unusedSimpArgs false
set_option linter.unusedSectionVars false

namespace Go.Sx
section
variable {X : Nm → Prop} {M : Mem} {ρ ρ' : Rho} {w w' : World} {cx : Cx Int Bool} {H H' H2 : HH}

theorem Ext.weaken {M' : Mem} (hl : ∀ n, Live H2 n → Live H n) (h : Ext X H2 M ρ w M' ρ' w') : Ext X H M ρ w M' ρ' w' := by
  have ho : ∀ b, Own H2 ρ b → Own H ρ b := fun b ⟨n, z, h1, h2⟩ => ⟨n, z, hl n h1, h2⟩
  exact ⟨h.m, h.r, h.sz, fun b hb hn => h.fr b hb fun x => hn (ho b x),
    fun b o v hm => (h.mn b o v hm).imp id (Or.imp id (ho b)), fun n b z hr => (h.rn n b z hr).imp id (Or.imp id (ho b)), h.rx, h.st⟩

/-- A value of the builtin's. -/
def Gives (X : Nm → Prop) (M : Mem) (ρ : Rho) (H : HH) (w : World) (r : Result Value) (v : VV) (H' : HH) : Prop :=
  ∃ val ρ' w', r = .ok val w' ∧ Rep M ρ' v val ∧ Inv X M ρ' H' w' ∧ Ext X H M ρ w M ρ' w'

theorem row_concat {xs vs : List VV} {olds news : List Value} {zs : Array Value} (h : RepL M ρ xs olds) (h' : RepL M ρ vs news) :
    ∀ (i : Nat) (x : VV) (v : Value), (xs ++ vs)[i]? = some x → (olds.toArray ++ news.toArray ++ zs)[i]? = some v → Rep M ρ x v := by
  intro i x v hx hv
  have ha := h.append h'
  have hi := (List.getElem?_eq_some_iff.1 hx).1
  refine ha.2 i x v hx ?_
  rw [Array.getElem?_append_left (by have := ha.1; simp at this hi ⊢; omega)] at hv
  simpa using hv

theorem zeroCells_size (z : Array Value) (n : Nat) : (Builtin.zeroCells z n).size = n * z.size := by simp [Builtin.zeroCells]

/-- The new row of an append. -/
theorem append_new (hI : Inv X M ρ H w) {nm : Nm} (hn : H.get nm = none) (hX : ¬ X nm) {xs vs : List VV} {olds news : List Value} {zs : Array Value} (h : RepL M ρ xs olds) (h' : RepL M ρ vs news)
    {s so : Bool} {id m cap sz : Nat} {len : Int} {e : TypeId} (hm : len = (m : Int)) (hc : m ≤ cap) (hsz : (olds.toArray ++ news.toArray ++ zs).size = cap * sz) (w1 : World) (hw : w1.heap = w.heap) (hw1 : w1.os = w.os) (hw2 : w1.output = w.output) :
    Gives X M ρ H w (.ok (.slice (some ⟨w.heap.size, 0, none⟩) m cap) (w1.alloc (.cells (olds.toArray ++ news.toArray ++ zs) e))) (.osl nm 0 sz s len) (H.new nm (.row (xs ++ vs) so id)) := by
  have := hI.alloc (n := nm) (e := .row (xs ++ vs) so id) (o := .cells (olds.toArray ++ news.toArray ++ zs) e) (z := cap * sz) (w' := w1.alloc (.cells (olds.toArray ++ news.toArray ++ zs) e)) hn hX
    (fun cs' s' id' he => by
      simp only [Ent.row.injEq] at he
      obtain ⟨rfl, rfl, rfl⟩ := he
      refine ⟨_, e, rfl, hsz, ?_, row_concat h h'⟩
      rw [← hsz, (h.append h').1]; simp)
    (fun L he => by cases he) (fun he => by cases he) (by simp [World.alloc, hw]) (by simp [World.alloc, hw1]) (by simp [World.alloc, hw2]) rfl
  exact ⟨_, _, _, rfl, .osl _ _ _ _ _ w.heap.size (cap * sz) m cap 0 (by simp [Rho.put]) hm hc (fun _ => ⟨rfl, by omega⟩), this.1, this.2⟩

theorem few_nat {s : Bool} {m : Nat} {u : Unit} (h : Has (few s (m : Int) : EE Unit) u) : m ≤ 1048576 := by
  have := few_sound h; omega

/-- An empty slice that holds nothing. -/
theorem empty_val {id sz : Nat} {s : Bool} {len : Int} {v : Value} (h : Rep M ρ (.isl id sz s len [] true) v) : ∃ base, v = .slice base 0 0 := by
  cases h with
  | islNil => exact ⟨none, rfl⟩
  | isl _ _ _ _ _ _ b o c vs hn hc h0 =>
    have := h0 rfl
    subst this
    exact ⟨some ⟨b, o, none⟩, rfl⟩

theorem appendNil_sound (hI : Inv X M ρ H w) {nm : Nm} {ed : TyD} {s : VV} {vs : List VV} {vo sx : Bool} {lx : Int} {v : VV} (h : Has (appendNil H nm ed s vs vo sx lx) (v, H'))
    (hx : ∀ n, X n → H'.get n = none) {tys : Array TypeId} {t u ty e : TypeId} (h0 : tys[0]? = some t) (h1 : tys[1]? = some u) (ht : cx.P.underlying t = some (.slice e)) {eu : TypeId} (hu : cx.P.underlying u = some (.slice eu))
    (hd : tyd cx.P e = some ed) (hz0 : ed.size ≠ 0) (hby : ed.bytes ≤ 1048576) (hz : ed.zero.map List.length = some ed.size) {base : Option Addr} (hs : Rep M ρ s (.slice base 0 0))
    {m : Nat} {ys : List Value} (hm : lx = (m : Int)) (hy : RepL M ρ vs ys) (hl : ys.length = m * ed.size) {x : Value}
    (hxv : (x = .slice none 0 0 ∧ m = 0) ∨ ∃ a c, x = .slice (some a) m c ∧ ∀ j v, ys[j]? = some v → w.cell? (a.add j) = some v) :
    Gives X M ρ H w ((Builtin.append_ tys ty #[.slice base 0 0, x]).run cx.P w) v H' := by
  obtain ⟨i, ud, hi, hud, -, hsz, hbyt, hze⟩ := ty_facts hd
  have zero : m = 0 → Gives X M ρ H w ((Builtin.append_ tys ty #[.slice base 0 0, x]).run cx.P w) s H := by
    rintro rfl
    rw [run_append_base0 h0 h1 ht hu hd base x (by
      rcases hxv with ⟨rfl, _⟩ | ⟨a, c, rfl, _⟩
      · exact .inl rfl
      · exact .inr ⟨a, c, rfl⟩)]
    exact ⟨_, ρ, w, rfl, hs, hI, .refl⟩
  have new : 0 < m → m ≤ 1048576 → ∀ H1 so, Has (fresh H nm (.row vs so 0)) H1 → (∀ n, X n → H1.get n = none) → Gives X M ρ H w ((Builtin.append_ tys ty #[.slice base 0 0, x]).run cx.P w) (.osl nm 0 ed.size sx lx) H1 := by
    intro hm0 hm1 H1 so hf hX1
    obtain ⟨hfr, rfl⟩ := has_fresh hf
    rcases hxv with ⟨_, h0⟩ | ⟨a, c, rfl, hc⟩
    · omega
    obtain ⟨z, hzz, hzs⟩ : ∃ z, i.zero = some z ∧ z.cells.size = ed.size := by
      rw [hze] at hz
      cases hq : i.zero with
      | none => simp [hq] at hz
      | some z => simp [hq] at hz; exact ⟨z, rfl, hz⟩
    rw [run_append_new h0 h1 ht hu hi hzz base 0 0 [] (by simp) (fun _ => rfl) (fun b _ j v hv => by simp at hv) a m c ys (by rw [hl, hsz]) hc (by omega) (by omega) (by rw [← hbyt]; exact hby)]
    have hge := grownCap_ge w (0 + m) 0 e
    generalize grownCap w (0 + m) 0 e = g at hge ⊢
    have := append_new (X := X) (zs := Builtin.zeroCells z.cells (g - (0 + m))) hI hfr (notX hX1 (e := .row vs so 0) (by rw [get_new]; simp)) (xs := []) .nil hy (m := 0 + m) (cap := g) (sz := ed.size)
      (s := sx) (so := so) (id := 0) (e := e) (len := lx) (by omega) hge (by
        simp only [Array.size_append, List.size_toArray, zeroCells_size, hzs, hl, List.length_nil, Nat.zero_add]
        rw [← Nat.add_mul]
        congr 1
        omega) w.drew rfl rfl rfl
    simpa using this
  unfold appendNil at h
  split at h
  · rename_i hk
    have := has_ret.1 h
    simp only [Prod.mk.injEq] at this
    obtain ⟨rfl, rfl⟩ := this
    exact zero (by have := knownNat_some hk; omega)
  · rename_i k hk0 hk
    obtain ⟨_, h2, h3⟩ := has_bind h
    obtain ⟨H1, h4, h5⟩ := has_bind h3
    have := has_ret.1 h5
    simp only [Prod.mk.injEq] at this
    obtain ⟨rfl, rfl⟩ := this
    have hmk := knownNat_some hk
    subst hm
    exact new (by
      have : k ≠ 0 := by rintro rfl; exact hk0 rfl
      omega) (few_nat h2) H1 vo h4 hx
  · obtain ⟨_, h1, h2⟩ := has_bind h
    obtain ⟨_, h3, h4⟩ := has_bind h2
    obtain ⟨H1, h5, h6⟩ := has_bind h4
    have := has_ret.1 h6
    simp only [Prod.mk.injEq] at this
    obtain ⟨rfl, rfl⟩ := this
    have h1 := has_must h1
    simp only [alg_cmp, cmp, alg_ilit, gt_iff_lt, decide_eq_true_eq] at h1
    subst hm
    exact new (by omega) (few_nat h3) H1 true h5 hx

/-- append to a row of our own. -/
theorem appendOwn_core (hI : Inv X M ρ H w) {nm m : Nm} {ed : TyD} {cs vs : List VV} {rs : Bool} {id : Nat} {H1 : HH} {so' sx' : Bool} {id' : Nat} {lx' : Int} (hg : H.get m = some (.row cs rs id)) {n : Nat} (hn : n * ed.size ≤ cs.length)
    (hf : Has (fresh (H.upd m .dead) nm (.row (cs.take (n * ed.size) ++ vs) so' id')) H1)
    (hx : ∀ n, X n → H1.get n = none) {tys : Array TypeId} {t u ty e : TypeId} (h0 : tys[0]? = some t) (h1 : tys[1]? = some u) (ht : cx.P.underlying t = some (.slice e)) {eu : TypeId} (hu : cx.P.underlying u = some (.slice eu))
    (hd : tyd cx.P e = some ed) (hz0 : ed.size ≠ 0) (hby : ed.bytes ≤ 1048576) (hz : ed.zero.map List.length = some ed.size) {b z o c : Nat} (hr : ρ m = some (b, z)) (hc : n ≤ c) (ho : c ≠ 0 → o = 0 ∧ c * ed.size ≤ z)
    {k : Nat} {ys : List Value} (hm : lx' = ((n + k : Nat) : Int)) (hn20 : n ≤ 1048576) (hk20 : k ≤ 1048576) (hy : RepL M ρ vs ys) (hl : ys.length = k * ed.size) (h1c : ∀ v ∈ ys, v.oneCell' = true) {x : Value}
    (hxv : (x = .slice none 0 0 ∧ k = 0) ∨ ∃ a c, x = .slice (some a) k c ∧ ∀ j v, ys[j]? = some v → w.cell? (a.add j) = some v) :
    Gives X M ρ H w ((Builtin.append_ tys ty #[.slice (some ⟨b, o, none⟩) n c, x]).run cx.P w) (.osl nm 0 ed.size sx' lx') H1 := by
  obtain ⟨i, ud, hi, hud, -, hsz, hbyt, hze⟩ := ty_facts hd
  obtain ⟨hfr, rfl⟩ := has_fresh hf
  have hX : ¬ X nm := notX hx (e := .row (cs.take (n * ed.size) ++ vs) so' id') (by rw [get_new]; simp)
  obtain ⟨b', z', cur, tyb, h2, h3, h4, h5, h6⟩ := hI.row m cs rs id hg
  rw [hr] at h2
  simp only [Option.some.injEq, Prod.mk.injEq] at h2
  obtain ⟨rfl, rfl⟩ := h2
  have hmn : m ≠ nm := by
    rintro rfl
    rw [get_upd _ _ _ _ (by simp [hg]), if_pos rfl] at hfr; cases hfr
  have hρn : ρ nm = none := hI.dom nm (by rw [get_upd _ _ _ _ (by simp [hg]), if_neg (Ne.symm hmn)] at hfr; exact hfr) hX
  have olds : RepL M ρ (cs.take (n * ed.size)) (cur.toList.take (n * ed.size)) := by
    refine ⟨by simp; omega, fun i x v hx hv => ?_⟩
    rw [List.getElem?_take] at hx hv
    split at hx
    · rename_i hi; rw [if_pos hi] at hv; exact h6 i x v hx (by simpa using hv)
    · cases hx
  by_cases hroom : n + k ≤ c
  · -- it fits
    have hstore : ∃ w', (storeCells ((⟨b, o, none⟩ : Addr).add (n * ed.size)) ys).run cx.P w = .ok () w' ∧ (∀ b', b' ≠ b → w'.heap[b']? = w.heap[b']?) ∧ w'.heap.size = w.heap.size ∧ w'.os = w.os ∧ w'.output = w.output ∧
        ∃ c', w'.heap[b]? = some (.cells c' tyb (0, 0)) ∧ c'.size = cur.size ∧ (cs.take (n * ed.size) ++ vs).length ≤ cur.size ∧
          ∀ (i : Nat) (x : VV) (v : Value), (cs.take (n * ed.size) ++ vs)[i]? = some x → c'[i]? = some v → Rep M ρ x v := by
      by_cases hc0 : c = 0
      · have hn0 : n = 0 := by omega
        have hk0 : k = 0 := by omega
        subst hn0 hk0
        have hys : ys = [] := List.eq_nil_of_length_eq_zero (by simpa using hl)
        subst hys
        have hvs : vs = [] := List.eq_nil_of_length_eq_zero (by simpa using hy.1)
        subst hvs
        exact ⟨w, rfl, fun _ _ => rfl, rfl, rfl, rfl, cur, h3, rfl, by simp, by simp⟩
      · obtain ⟨rfl, hcz⟩ := ho hc0
        have hfit : n * ed.size + ys.length ≤ cur.size := by
          rw [hl, ← Nat.add_mul, h4]
          exact Nat.le_trans (Nat.mul_le_mul_right _ hroom) hcz
        have hst := run_storeCells_at cx.P b (n * ed.size) tyb ys 0 cur w h3 (by simpa using hfit) h1c
        simp only [Nat.add_zero] at hst
        refine ⟨_, by rw [Addr.add_lit, Nat.zero_add]; exact hst, fun b' hb => setRow_other w b b' _ hb, by simp, rfl, rfl, _, setRow_heap w b cur _ tyb _ h3, ?_, ?_, ?_⟩
        · simp; omega
        · simp only [List.length_append, List.length_take, hy.1]; omega
        · intro i x v hx hv
          have ha := olds.append hy
          have hi := (List.getElem?_eq_some_iff.1 hx).1
          refine ha.2 i x v hx ?_
          rw [List.getElem?_toArray, List.getElem?_append_left (by rw [← ha.1]; exact hi)] at hv
          exact hv
    obtain ⟨w', hst, hk1, hk2, hk3, hk4, c', hb', hs', hl', hrep⟩ := hstore
    have hrun : (Builtin.append_ tys ty #[.slice (some ⟨b, o, none⟩) n c, x]).run cx.P w = .ok (.slice (some ⟨b, o, none⟩) (n + k) c) w' := by
      rcases hxv with ⟨rfl, rfl⟩ | ⟨a, c2, rfl, hcell⟩
      · have hys : ys = [] := List.eq_nil_of_length_eq_zero (by simpa using hl)
        subst hys
        have : w' = w := by
          simp [storeCells] at hst
          exact hst.symm
        subst this
        simp [Builtin.append_, h0, h1, run_underlying ht, run_underlying hu, run_sizeOf_ty hd, Builtin.lenOf, Builtin.firstCells, storeCells, hc]
      · exact run_append_fits h0 h1 ht hu hd _ n c a k c2 ys hl hcell hroom hst
    rw [hrun]
    have hset := hI.set (n := m) (e := .dead) (w' := w') (live_row hg) hr hk1 hb' hk2 (fun _ _ _ he => by cases he) (fun _ he => by cases he) (fun he => by cases he) hk3 hk4 rfl
    have had := hset.1.adopt (n := nm) (cs := cs.take (n * ed.size) ++ vs) (s := so') (id := id') (z := cur.size) hfr hX hb' (by rw [hs']) hl' hrep
      (by
        rintro ⟨n', z1, hl1, hr1⟩
        by_cases he : n' = m
        · subst he
          obtain ⟨e', he1, he2⟩ := hl1
          rw [get_upd _ _ _ _ (by simp [hg]), if_pos rfl] at he1
          simp only [Option.some.injEq] at he1
          subst he1
          exact he2
        · exact he (hI.inj n' m b _ _ (upd_live (live_row hg) hl1) (live_row hg) hr1 hr))
      (fun o' => hI.sep m b _ o' (live_row hg) hr)
    refine ⟨_, _, w', rfl, ?_, had, ?_⟩
    · refine .osl _ _ _ _ _ b cur.size (n + k) c o (by simp [Rho.put]) hm hroom (fun hc0 => ?_)
      obtain ⟨ho1, ho2⟩ := ho hc0
      exact ⟨ho1, by omega⟩
    · refine ⟨.refl _, RLe.put hρn, hset.2.sz, hset.2.fr, fun _ _ _ h => .inl h, fun n' b1 z1 hr1 => ?_, fun n' hn' => ?_, hset.2.st⟩
      · by_cases he : n' = nm
        · subst he
          simp only [Rho.put, if_true, Option.some.injEq, Prod.mk.injEq] at hr1
          obtain ⟨rfl, rfl⟩ := hr1
          exact .inr (.inr ⟨m, _, live_row hg, hr⟩)
        · simp only [Rho.put, if_neg he] at hr1
          exact .inl hr1
      · simp only [Rho.put]
        rw [if_neg]
        rintro rfl
        exact hX hn'
  · -- it does not fit
    rcases hxv with ⟨_, hk0⟩ | ⟨a, c2, rfl, hcell⟩
    · omega
    obtain ⟨zv, hzz, hzs⟩ : ∃ z, i.zero = some z ∧ z.cells.size = ed.size := by
      rw [hze] at hz
      cases hq : i.zero with
      | none => simp [hq] at hz
      | some z => simp [hq] at hz; exact ⟨z, rfl, hz⟩
    have holen : (cur.toList.take (n * ed.size)).length = n * ed.size := by simp; omega
    rw [run_append_new h0 h1 ht hu hi hzz (some ⟨b, o, none⟩) n c (cur.toList.take (n * ed.size)) (by rw [holen, hsz]) (fun h => by cases h) (fun b1 hb1 j v hv => by
      simp only [Option.some.injEq] at hb1
      subst hb1
      have hj := (List.getElem?_eq_some_iff.1 hv).1
      rw [holen] at hj
      have hc0 : c ≠ 0 := by
        rintro rfl
        have : n = 0 := by omega
        subst this
        simp at hj
      rw [(ho hc0).1, Addr.add_lit, Nat.zero_add]
      rw [List.getElem?_take, if_pos hj] at hv
      simp only [World.cell?, h3]
      simpa using hv) a k c2 ys (by rw [hl, hsz]) hcell (by omega) (by omega) (by rw [← hbyt]; exact hby)]
    have hge := grownCap_ge w (n + k) c e
    generalize grownCap w (n + k) c e = g at hge ⊢
    have hset := hI.set (n := m) (e := .dead) (w' := w) (live_row hg) hr (fun _ _ => rfl) h3 rfl (fun _ _ _ he => by cases he) (fun _ he => by cases he) (fun he => by cases he) rfl rfl rfl
    have := append_new (X := X) (zs := Builtin.zeroCells zv.cells (g - (n + k))) hset.1 hfr hX olds hy (m := n + k) (cap := g) (sz := ed.size)
      (s := sx') (so := so') (id := id') (e := e) (len := lx') hm hge (by
        simp only [Array.size_append, List.size_toArray, zeroCells_size, hzs, hl, holen]
        rw [← Nat.add_mul, ← Nat.add_mul]
        congr 1
        omega) w.drew rfl rfl rfl
    obtain ⟨val, ρ1, w1, e1, e2, e3, e4⟩ := this
    exact ⟨val, ρ1, w1, e1, e2, e3, e4.weaken fun n' hl' => upd_live (live_row hg) hl'⟩

theorem appendOwn_sound (hI : Inv X M ρ H w) {nm m : Nm} {ed : TyD} {vs : List VV} {vo so sx : Bool} {lo lx : Int} {v : VV} (h : Has (appendOwn H nm m ed so lo vs vo sx lx) (v, H'))
    (hx : ∀ n, X n → H'.get n = none) {tys : Array TypeId} {t u ty e : TypeId} (h0 : tys[0]? = some t) (h1 : tys[1]? = some u) (ht : cx.P.underlying t = some (.slice e)) {eu : TypeId} (hu : cx.P.underlying u = some (.slice eu))
    (hd : tyd cx.P e = some ed) (hz0 : ed.size ≠ 0) (hby : ed.bytes ≤ 1048576) (hz : ed.zero.map List.length = some ed.size) {s : Value} (hs : Rep M ρ (.osl m 0 ed.size so lo) s)
    {k : Nat} {ys : List Value} (hm : lx = (k : Int)) (hy : RepL M ρ vs ys) (hl : ys.length = k * ed.size) (h1c : ∀ v ∈ ys, v.oneCell' = true) {x : Value}
    (hxv : (x = .slice none 0 0 ∧ k = 0) ∨ ∃ a c, x = .slice (some a) k c ∧ ∀ j v, ys[j]? = some v → w.cell? (a.add j) = some v) :
    Gives X M ρ H w ((Builtin.append_ tys ty #[s, x]).run cx.P w) v H' := by
  unfold appendOwn at h
  obtain ⟨⟨cs, rs, id⟩, h2, h3⟩ := has_bind h
  replace h2 := has_liveRow h2
  dsimp only at h2 h3
  obtain ⟨_, h4, h5⟩ := has_bind h3
  obtain ⟨_, h6, h7⟩ := has_bind h5
  subst hm
  have hk20 := few_nat h6
  clear h h3 h5 h6
  cases hs with
  | osl _ _ _ _ _ b z n c o hr hn hc ho =>
    subst hn
    have hn20 := few_nat h4
    have ho' : c ≠ 0 → o = 0 ∧ c * ed.size ≤ z := fun hc0 => by have := ho hc0; omega
    split at h7
    · rename_i n' hk
      have hnn := knownNat_some hk
      have hnn : n' = n := by omega
      subst hnn
      rcases has_if h7 with ⟨hl2, h8⟩ | ⟨_, h8⟩
      · obtain ⟨H1, h9, h10⟩ := has_bind h8
        have := has_ret.1 h10
        simp only [Prod.mk.injEq] at this
        obtain ⟨rfl, rfl⟩ := this
        exact appendOwn_core hI h2 hl2 h9 hx h0 h1 ht hu hd hz0 hby hz hr hc ho' (by simp only [addI]; split <;> simp) hn20 hk20 hy hl h1c hxv
      · exact absurd h8 has_fail
    · obtain ⟨_, h8, h9⟩ := has_bind h7
      have h8 := has_ob h8
      simp only [Ob.holds, alg_lin] at h8
      obtain ⟨H1, h10, h11⟩ := has_bind h9
      have := has_ret.1 h11
      simp only [Prod.mk.injEq] at this
      obtain ⟨rfl, rfl⟩ := this
      have hlen : n * ed.size = cs.length := by
        have : ((n * ed.size : Nat) : Int) = (cs.length : Int) := by push_cast; omega
        omega
      exact appendOwn_core hI h2 (n := n) (by omega) (by rw [hlen, List.take_length]; exact h10) hx h0 h1 ht hu hd hz0 hby hz hr hc ho' (by simp [addI]) hn20 hk20 hy hl h1c hxv
end
end Go.Sx
