/- The executor's writing operations are the model's. Conditions: none. -/
import Derived.Test.YtajloilpehgcmaaSxOps6
import Derived.Laws.AppendOwn
set_option linter.unusedVariables false
set_option linter.unusedSimpArgs false
set_option linter.unusedSectionVars false

namespace Go.Sx
section
variable {X : Nm → Prop} {M : Mem} {ρ ρ' : Rho} {w w' : World} {cx : Cx Int Bool} {H H' H2 : HH}

theorem setCells_get {α : Type} (cs vs : List α) (k i : Nat) (h : k + vs.length ≤ cs.length) :
    (setCells cs k vs)[i]? = if i < k then cs[i]? else if i < k + vs.length then vs[i - k]? else cs[i]? := by
  rw [setCells_eq cs k vs h]
  have h1 : (cs.take k).length = k := by simp; omega
  by_cases hi : i < k
  · rw [if_pos hi, List.append_assoc, List.getElem?_append_left (by omega), List.getElem?_take, if_pos hi]
  · rw [if_neg hi]
    by_cases hj : i < k + vs.length
    · rw [if_pos hj, List.getElem?_append_left (by simp; omega), List.getElem?_append_right (by omega), h1]
    · rw [if_neg hj, List.getElem?_append_right (by simp; omega), List.getElem?_drop]
      congr 1
      simp
      omega

theorem row_setCells {cs vs : List VV} {c : Array Value} {ys : List Value} {k : Nat} (h : ∀ (i : Nat) (x : VV) (v : Value), cs[i]? = some x → c[i]? = some v → Rep M ρ x v)
    (h' : RepL M ρ vs ys) (hk : k + vs.length ≤ cs.length) (hl : cs.length ≤ c.size) :
    ∀ (i : Nat) (x : VV) (v : Value), (setCells cs k vs)[i]? = some x → (c.toList.take k ++ ys ++ c.toList.drop (k + ys.length)).toArray[i]? = some v → Rep M ρ x v := by
  intro i x v hx hv
  rw [← setCells_eq c.toList k ys (by rw [← h'.1]; simp; omega)] at hv
  rw [setCells_get cs vs k i hk] at hx
  rw [List.getElem?_toArray, setCells_get c.toList ys k i (by rw [← h'.1]; simp; omega)] at hv
  rw [← h'.1] at hv
  split at hx
  · rename_i hi
    rw [if_pos hi] at hv
    exact h i x v hx (by simpa using hv)
  · rename_i hi
    rw [if_neg hi] at hv
    split at hx
    · rename_i hj
      rw [if_pos hj] at hv
      exact h'.2 _ x v hx hv
    · rename_i hj
      rw [if_neg hj] at hv
      exact h i x v hx (by simpa using hv)

/-- Cells of a row of ours are written. -/
theorem Inv.write (hI : Inv X M ρ H w) {n : Nm} {cs vs : List VV} {s s' : Bool} {id id' : Nat} (hg : H.get n = some (.row cs s id)) {b z : Nat} (hr : ρ n = some (b, z)) {ys : List Value} (hy : RepL M ρ vs ys)
    (h1 : ∀ v ∈ ys, v.oneCell' = true) {k : Nat} (hk : k + vs.length ≤ cs.length) :
    ∃ w', (storeCells ⟨b, k, none⟩ ys).run cx.P w = .ok () w' ∧ Inv X M ρ (H.upd n (.row (setCells cs k vs) s' id')) w' ∧ Ext X H M ρ w M ρ w' := by
  obtain ⟨b', z', c, ty, h2, h3, h4, h5, h6⟩ := hI.row n cs s id hg
  rw [hr] at h2
  simp only [Option.some.injEq, Prod.mk.injEq] at h2
  obtain ⟨rfl, rfl⟩ := h2
  have hst := run_storeCells_at cx.P b k ty ys 0 c w h3 (by rw [← hy.1]; omega) h1
  simp only [Nat.add_zero] at hst
  refine ⟨_, hst, ?_⟩
  refine hI.set (live_row hg) hr (fun b' hb => setRow_other w b b' _ hb) (setRow_heap w b c _ ty _ h3) (by simp) (fun cs' s' id' he => ?_) (fun L he => by cases he) (fun he => by cases he) (by first | rfl | simp) (by first | rfl | simp) rfl
  simp only [Ent.row.injEq] at he
  obtain ⟨rfl, rfl, rfl⟩ := he
  refine ⟨_, _, rfl, ?_, ?_, ?_⟩
  · simp [← hy.1]; omega
  · rw [setCells_length _ _ _ hk]; exact h5
  · exact row_setCells h6 hy hk (by omega)

theorem writeRow_sound {cs vs new : List VV} {rs : Bool} {id : Nat} {s : Bool} {off : Int} (h : Has (writeRow cs rs id s off vs) new) :
    ∃ (o : Nat) (us : List VV), (us = vs ∨ us = vs.map opn) ∧ off = (o : Int) ∧ o + us.length ≤ cs.length ∧ new = setCells cs o us := by
  unfold writeRow at h
  split at h
  · rename_i o hk
    rcases has_if h with ⟨hl, h2⟩ | ⟨_, h2⟩
    · exact ⟨o, vs, .inl rfl, knownNat_some hk, hl, (has_ret.1 h2).symm⟩
    · exact absurd h2 has_fail
  · obtain ⟨n, _, h2⟩ := has_bind h
    obtain ⟨_, h3, h4⟩ := has_bind h2
    obtain ⟨h5, h6, h7⟩ := has_ob h3
    have := has_ret.1 h4
    subst this
    exact ⟨off.toNat, _, .inr rfl, by omega, h6, h7⟩

theorem storeE_sound (hI : Inv X M ρ H w) {t : TypeId} {p v : VV} {a x : Value} (h : Has (storeE cx H t p v) H') (ha : Rep M ρ p a) (hx : Rep M ρ v x) :
    ∃ w', (Instr.storeAt t a x).run cx.P w = .ok () w' ∧ Inv X M ρ H' w' ∧ Ext X H M ρ w M ρ w' := by
  unfold storeE at h
  obtain ⟨d, h1, h2⟩ := has_bind h
  obtain ⟨vs, h3, h4⟩ := has_bind h2
  have h1 := has_opt.1 h1
  have h3 := has_opt.1 h3
  rcases has_if h4 with ⟨hone, h5⟩ | ⟨_, h5⟩
  · split at h5
    · rename_i nm s off
      obtain ⟨⟨cs, rs, id⟩, h6, h7⟩ := has_bind h5
      have h6 := has_liveRow h6
      dsimp only at h6 h7
      obtain ⟨new, h8, h9⟩ := has_bind h7
      obtain ⟨o, us, hus, rfl, h11, rfl⟩ := writeRow_sound h8
      have := has_ret.1 h9
      subst this
      unfold storable at h3
      dsimp only at h3
      split at h3
      · rename_i hl
        simp only [Option.some.injEq] at h3
        subst h3
        have hc0 := rep_cells' hx hone
        have hc : RepL M ρ us x.cells.toList := by
          rcases hus with rfl | rfl
          · exact hc0
          · exact opnL_rep hc0
        have hone' : us.all oneCell = true := by
          rcases hus with rfl | rfl
          · exact hone
          · rw [List.all_eq_true] at hone ⊢
            intro v hv
            obtain ⟨u, hu, rfl⟩ := List.mem_map.1 hv
            exact opn_one (hone u hu)
        cases ha with
        | ptr _ _ _ b z hr h0 =>
          obtain ⟨w', hw, hI', hE⟩ := Inv.write (cx := cx) hI h6 hr hc (repL_oneCell hc hone') (s' := rs) (id' := id) h11
          refine ⟨w', ?_, hI', hE⟩
          have hz : x.cells.size = d.size := by rw [← hl, hc0.1]; simp
          simp only [Instr.storeAt, Instr.sureAddr, storeVar, Sem.run_bind, Sem.run_pure, Result.andThen_ok, run_sizeOf_ty h1, hz, Int.toNat_natCast]
          simpa using hw
      · cases h3
    · exact absurd h5 has_fail
  · exact absurd h5 has_fail

/-! ### append -/
theorem flat_length (es : List VV) (sz : Nat) (h : ∀ e ∈ es, (cellsOf e).length = sz) : (flat es).length = es.length * sz := by
  induction es with
  | nil => simp [flat]
  | cons e es ih =>
    have h1 := ih fun e he => h e (by simp [he])
    have h2 := h e (by simp)
    show (cellsOf e ++ flat es).length = _
    rw [List.length_append, h1, h2, List.length_cons, Nat.succ_mul]; omega

theorem source_sound (hI : Inv X M ρ H w) {ed : TyD} {x : VV} {val : Value} {r : List VV × Bool × Bool × Int} (h : Has (sourceE H ed x) r) (hx : Rep M ρ x val) :
    ∃ (m : Nat) (ys : List Value), r.2.2.2 = (m : Int) ∧ RepL M ρ r.1 ys ∧ ys.length = m * ed.size ∧
      ((val = .slice none 0 0 ∧ m = 0) ∨ ∃ a c, val = .slice (some a) m c ∧ ∀ j v, ys[j]? = some v → w.cell? (a.add j) = some v) := by
  unfold sourceE at h
  split at h
  · rename_i id sz s len es c0
    rcases has_if h with ⟨hsz, h2⟩ | ⟨_, h2⟩
    · have := has_ret.1 h2
      subst this
      cases hx with
      | islNil _ _ _ _ _ hn => exact ⟨0, [], by simpa using hn, .nil, by simp, .inl ⟨rfl, rfl⟩⟩
      | isl _ _ _ _ _ _ b o c vs hn hc h0 hes hm hr =>
        refine ⟨es.length, (List.range (flat es).length).map vs, hn, ⟨by simp, fun i u v hu hv => ?_⟩, ?_, .inr ⟨⟨b, o, none⟩, c, rfl, fun j v hv => ?_⟩⟩
        · have hi := (List.getElem?_eq_some_iff.1 hu).1
          dsimp only at hi
          simp only [List.getElem?_map, List.getElem?_range hi, Option.map_some, Option.some.injEq] at hv
          subst hv
          exact hr i u hu
        · simp only [List.length_map, List.length_range, flat_length es sz hes]
          simp only [Bool.or_eq_true, beq_iff_eq, Bool.and_eq_true, alg_ival, decide_eq_true_eq] at hsz
          rcases hsz with rfl | ⟨_, h0⟩
          · rfl
          · have : es.length = 0 := by omega
            rw [this]; simp
        · have hj : j < (flat es).length := by
            have := (List.getElem?_eq_some_iff.1 hv).1
            simpa using this
          simp only [List.getElem?_map, List.getElem?_range hj, Option.map_some, Option.some.injEq] at hv
          subst hv
          rw [Addr.add_lit]
          exact hI.imm _ _ _ (hm j _ (List.getElem?_eq_getElem hj))
    · exact absurd h2 has_fail
  · rename_i nm off sz s len
    obtain ⟨⟨cs, rs, id⟩, h3, h4⟩ := has_bind h
    replace h3 := has_liveRow h3
    dsimp only at h3 h4
    split at h4
    · rename_i n hk
      rcases has_if h4 with ⟨⟨hsz, hl⟩, h5⟩ | ⟨_, h5⟩
      · have := has_ret.1 h5
        subst this
        have hn := knownNat_some hk
        cases hx with
        | osl _ _ _ _ _ b z m c o hr hm hc ho =>
          have hmn : m = n := by omega
          subst hmn
          obtain ⟨b', z', c', ty, h6, h7, h8, h9, h10⟩ := hI.row nm cs _ id h3
          rw [hr] at h6
          simp only [Option.some.injEq, Prod.mk.injEq] at h6
          obtain ⟨rfl, rfl⟩ := h6
          have hlen : m * sz = 0 ∨ (o = off ∧ off + m * sz ≤ cs.length) := by
            by_cases h0 : m * sz = 0
            · exact .inl h0
            · right
              have hm0 : m ≠ 0 := by rintro rfl; simp at h0
              refine ⟨(ho (by omega)).1, ?_⟩
              simp only [List.length_take, List.length_drop] at hl
              omega
          refine ⟨m, (c'.toList.drop off).take (m * sz), hn, ⟨?_, fun i u v hu hv => ?_⟩, ?_, .inr ⟨⟨b, o, none⟩, c, rfl, fun j v hv => ?_⟩⟩
          · simp only [List.length_take, List.length_drop] at hl ⊢
            simp only [Array.length_toList]
            omega
          · simp only [List.getElem?_take, List.getElem?_drop] at hu hv
            split at hu
            · rename_i hi
              rw [if_pos hi] at hv
              exact h10 _ u v hu (by simpa using hv)
            · cases hu
          · simp only [List.length_take, List.length_drop, Array.length_toList] at hl ⊢
            rw [← hsz]
            omega
          · simp only [List.getElem?_take, List.getElem?_drop] at hv
            split at hv
            · rename_i hi
              rcases hlen with h0 | ⟨rfl, _⟩
              · omega
              · rw [Addr.add_lit]
                simp only [World.cell?, h7]
                simpa using hv
            · cases hv
      · exact absurd h5 has_fail
    · exact absurd h4 has_fail
  · exact absurd h has_fail

theorem run_append_base0 {tys : Array TypeId} {t u ty e : TypeId} (h0 : tys[0]? = some t) (h1 : tys[1]? = some u) {d : TyD} (ht : cx.P.underlying t = some (.slice e)) {eu : TypeId} (hu : cx.P.underlying u = some (.slice eu)) (hd : tyd cx.P e = some d) (base : Option Addr) (x : Value)
    (hx : x = .slice none 0 0 ∨ ∃ a c, x = .slice (some a) 0 c) : (Builtin.append_ tys ty #[.slice base 0 0, x]).run cx.P w = .ok (.slice base 0 0) w := by
  rcases hx with rfl | ⟨a, c, rfl⟩ <;> cases base <;>
    simp [Builtin.append_, h0, h1, run_underlying ht, run_underlying hu, run_sizeOf_ty hd, Builtin.lenOf, Builtin.firstCells, loadCells, loadCellsFrom, storeCells]

/-- What is appended does not fit. -/
theorem run_append_new {tys : Array TypeId} {t u ty e : TypeId} (h0 : tys[0]? = some t) (h1 : tys[1]? = some u) {i : TypeInfo} {z : Value} (ht : cx.P.underlying t = some (.slice e)) {eu : TypeId} (hu : cx.P.underlying u = some (.slice eu)) (hi : cx.P.info? e = some i) (hz : i.zero = some z)
    (base : Option Addr) (sLen sCap : Nat) (olds : List Value) (hlo : olds.length = sLen * i.size) (hnone : base = none → sLen = 0) (holds : ∀ b, base = some b → ∀ j v, olds[j]? = some v → w.cell? (b.add j) = some v)
    (a : Addr) (n c : Nat) (news : List Value) (hl : news.length = n * i.size) (hnews : ∀ j v, news[j]? = some v → w.cell? (a.add j) = some v)
    (hg : sCap < sLen + n) (h63 : sLen + n ≤ 2097152) (hb : i.bytes ≤ 1048576) :
    (Builtin.append_ tys ty #[.slice base sLen sCap, .slice (some a) n c]).run cx.P w =
      .ok (.slice (some ⟨w.heap.size, 0, none⟩) (sLen + n) (grownCap w (sLen + n) sCap e))
        (w.drew.alloc (.cells (olds.toArray ++ news.toArray ++ Builtin.zeroCells z.cells (grownCap w (sLen + n) sCap e - (sLen + n))) e)) := by
  have hn : ¬ (sLen + n ≤ sCap) := by omega
  have h63' : ¬ (9223372036854775807 < ((sLen : Int) + (n : Int))) := by omega
  have hfit : (sLen + n) * i.bytes ≤ 140737488355328 := Nat.le_trans (Nat.mul_le_mul h63 hb) (by omega)
  have h48' : ¬ (281474976710656 < Builtin.nextslicecap (sLen + n) sCap * i.bytes) := by have := growslice_fits hg hfit; omega
  have hf := run_firstCells_some (P := cx.P) w.drew i.size n a n c news hl (by simpa using hnews)
  have hfo : (Builtin.firstCells i.size sLen (.slice base sLen sCap)).run cx.P w.drew = .ok olds.toArray w.drew := by
    cases base with
    | none =>
      have h := hnone rfl
      subst h
      have : olds = [] := List.eq_nil_of_length_eq_zero (by simpa using hlo)
      subst this
      exact run_firstCells_none _ _ _ _ _
    | some b => exact run_firstCells_some (P := cx.P) w.drew i.size sLen b sLen sCap olds hlo (by simpa using holds b rfl)
  simp [Builtin.append_, h0, h1, run_underlying ht, run_underlying hu, sizeOf, typeInfo, zeroValue, hi, hz, Builtin.lenOf, hn, h63', h48', Question.forced, hf, hfo, newRow, grownCap]
  congr 2
  apply Array.ext'
  simp

theorem run_append_fits {tys : Array TypeId} {t u ty e : TypeId} (h0 : tys[0]? = some t) (h1 : tys[1]? = some u) {d : TyD} (ht : cx.P.underlying t = some (.slice e)) {eu : TypeId} (hu : cx.P.underlying u = some (.slice eu)) (hd : tyd cx.P e = some d)
    (b : Addr) (sLen sCap : Nat) (a : Addr) (n c : Nat) (news : List Value) (hl : news.length = n * d.size) (hnews : ∀ j v, news[j]? = some v → w.cell? (a.add j) = some v)
    (hg : sLen + n ≤ sCap) (hst : (storeCells (b.add (sLen * d.size)) news).run cx.P w = .ok () w') :
    (Builtin.append_ tys ty #[.slice (some b) sLen sCap, .slice (some a) n c]).run cx.P w = .ok (.slice (some b) (sLen + n) sCap) w' := by
  have hf := run_firstCells_some (P := cx.P) w d.size n a n c news hl hnews
  simp [Builtin.append_, h0, h1, run_underlying ht, run_underlying hu, run_sizeOf_ty hd, Builtin.lenOf, hg, hf, hst]
end
end Go.Sx
