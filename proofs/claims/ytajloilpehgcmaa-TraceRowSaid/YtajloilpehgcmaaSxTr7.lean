/- What can be seen once can be seen twice: the walk. Conditions: none. -/
import Derived.Test.YtajloilpehgcmaaSxTr6
set_option linter.unusedVariables false
set_option linter.unusedSimpArgs false
set_option linter.unusedSectionVars false

namespace Go.Sx
open Go.Proofs Go.Proofs.Try

structure MnI where
  es : List VV
  l0 : Int
  ix : Int
  cur : Int
  i : Int
  up : Bool
def Mn_S (es : List VV) (l0 ix cur i : Int) (up : Bool) : St Int Bool := stOf 102 [(0, .isl 0 4 true l0 es false), (5, .bool true up), (8, .int .i64 true ix), (9, .int .i64 true cur), (10, .int .i64 true i)] []
def mnS (p : MnI) : Int := (decA (p.es.drop p.i.toNat)).foldl (fun c x => mn c x.f) p.cur
noncomputable def Mn : LSpec MnI where
  code := loopAt f5 0
  K := []
  pre p := ∃ (h : List Ac) (k : Nat), p.es = h.map actV ∧ p.l0 = (h.length : Int) ∧ p.i = (k : Int) ∧ k ≤ h.length ∧ h.length ≤ 1000
  two := false
  q _ := true
  S p := Mn_S p.es p.l0 p.ix p.cur p.i p.up
  T p _ := stOf 102 [(0, .isl 0 4 true p.l0 p.es false), (5, .bool true p.up), (8, .int .i64 true p.ix), (9, .int .i64 true (mnS p))] []
  E _ _ := .exit 0
  pat st := match Nat.beq st.ts.length 102, getT st.ts 0, getT st.ts 5, getT st.ts 8, getT st.ts 9, getT st.ts 10, st.marks with
    | true, .isl _ 4 _ l0 es _, .bool _ up, .int .i64 _ ix, .int .i64 _ cur, .int .i64 _ i, [] => some (⟨es, l0, ix, cur, i, up⟩, [])
    | _, _, _, _, _, _, _ => none
theorem rMn_0 (inR : Bool) (es : List VV) (l0 ix cur i : Int) (up : Bool) (x : Ac) : outC (evCode cx0 (ev cx0 60) 5 [] inR (bodyAt f5 0) (Mn_S es l0 ix cur i up) [.bit true, .val (.agg [.bool true x.w, .int .i64 true x.v, .int .i64 true x.f, .int .i64 true x.t])]) =
    some (.nrm, { ts := [.isl 0 4 true l0 es false, .top, .top, .top, .top, .bool true up, .top, .top, .int .i64 true ix, .int .i64 true (mn cur x.f), .int .i64 true (ar .add .i64 i 1), .top, .top, .top, .top, .top, .top, .top, .top, .top, .top, .top, .top, .top, .top, .top, .top, .top, .top, .top, .top, .top, .top, .top, .top, .top, .top, .top, .top, .top, .top, .int .i64 true i, .isl 0 4 true l0 es false, .int .i64 true l0, .bool true (cmp .lss i l0), .int .i64 true i, .int .i64 true (ar .add .i64 i 1), .int .i64 true cur, .isl 0 4 true l0 es false, .int .i64 true i, .eptr [.bool true x.w, .int .i64 true x.v, .int .i64 true x.f, .int .i64 true x.t], .eptr [.int .i64 true x.f, .int .i64 true x.t], .int .i64 true x.f, .int .i64 true (mn cur x.f), .top, .top, .top, .top, .top, .top, .top, .top, .top, .top, .top, .top, .top, .top, .top, .top, .top, .top, .top, .top, .top, .top, .top, .top, .top, .top, .top, .top, .top, .top, .top, .top, .top, .top, .top, .top, .top, .top, .top, .top, .top, .top, .top, .top, .top, .top, .top, .top], H := { es := [], log := [] }, c := 3, marks := [] }, [.bit (cmp .lss i l0) true, .elem es i (.agg [.bool true x.w, .int .i64 true x.v, .int .i64 true x.f, .int .i64 true x.t])]) := by kernel_rfl
theorem rMn_1 (inR : Bool) (es : List VV) (l0 ix cur i : Int) (up : Bool) (x : Ac) : outC (evCode cx0 (ev cx0 60) 5 [] inR (bodyAt f5 0) (Mn_S es l0 ix cur i up) [.bit false]) =
    some (.exit 0, { ts := [.isl 0 4 true l0 es false, .top, .top, .top, .top, .bool true up, .top, .top, .int .i64 true ix, .int .i64 true cur, .int .i64 true i, .top, .top, .top, .top, .top, .top, .top, .top, .top, .top, .top, .top, .top, .top, .top, .top, .top, .top, .top, .top, .top, .top, .top, .top, .top, .top, .top, .top, .top, .top, .int .i64 true i, .isl 0 4 true l0 es false, .int .i64 true l0, .bool true (cmp .lss i l0), .top, .top, .top, .top, .top, .top, .top, .top, .top, .top, .top, .top, .top, .top, .top, .top, .top, .top, .top, .top, .top, .top, .top, .top, .top, .top, .top, .top, .top, .top, .top, .top, .top, .top, .top, .top, .top, .top, .top, .top, .top, .top, .top, .top, .top, .top, .top, .top, .top, .top, .top, .top, .top, .top, .top, .top, .top], H := { es := [], log := [] }, c := 1, marks := [] }, [.bit (cmp .lss i l0) false]) := by kernel_rfl

theorem Mn_code : Mn.code = .loop (bodyAt f5 0) := by kernel_rfl
theorem Mn_form : LForm Mn where
  pat st i ns h hp := by
    simp only [Mn] at h
    split at h
    · rename_i h1 h2 h3 h4 h5 h6 h7
      simp only [Option.some.injEq, Prod.mk.injEq] at h
      obtain ⟨rfl, rfl⟩ := h
      obtain ⟨hh, k, he, _⟩ := hp
      dsimp only at he
      refine ⟨stSim_of (Nat.eq_of_beq_eq_true h1) h7 rfl (fun p hp => ?_) trivial, h7, rfl⟩
      simp only [List.mem_cons, List.not_mem_nil, or_false] at hp
      rcases hp with rfl | rfl | rfl | rfl | rfl
      · rw [h2]; exact .isl _ _ _ _ _ _ _ _ (by rw [he]; exact argL_map hh)
      · rw [h3]; exact .bool _ _ _
      · rw [h4]; exact .int _ _ _ _
      · rw [h5]; exact .int _ _ _ _
      · rw [h6]; exact .int _ _ _ _
    · cases h
  K i n hn := by cases hn
  S i p hp := by cases hp
  T i hp := by
    obtain ⟨hh, k, he, _⟩ := hp
    refine ⟨?_, (fun _ h => by cases h), rfl, (fun _ h => by cases h), rfl⟩
    have : argL i.es = true := by rw [he]; exact argL_map hh
    simp [Mn, stOf, tsOf, List.range, List.range.loop, wfL, wfV, this]
theorem Mn_ok : HookOk Try.prog Mn.hook := by
  refine Mn.ok Mn_form (loopOk_of Mn cx0_ok Mn_code 5 [] (fun p => (p.l0 - p.i).toNat) (fun _ n hn => by cases hn) fun inR p hp => ?_) (scopeOk_loop Mn Mn_code)
  obtain ⟨es, l0, ix, cur, i, up⟩ := p
  obtain ⟨h, k, he, hl, hi, hk, hb⟩ := hp
  dsimp only at he hl hi
  subst he hl hi
  have hd : ∀ j : Nat, decA ((h.map actV).drop ((j : Int)).toNat) = h.drop j := fun j => by rw [Int.toNat_natCast, ← List.map_drop, decA_map]
  by_cases hlt : k < h.length
  · have hx : h[k]? = some h[k] := List.getElem?_eq_getElem hlt
    have hdr : h.drop k = h[k] :: h.drop (k + 1) := List.drop_eq_getElem_cons hlt
    have hel : Ob.holds (.elem (h.map actV) (k : Int) (actV h[k])) := ⟨by omega, by rw [Int.toNat_natCast, List.getElem?_map, hx]; rfl⟩
    have hls : cmp .lss (k : Int) (h.length : Int) = true := by rw [cmp_lss]; exact decide_eq_true (by omega)
    refine ⟨60, _, _, lookN [], has_outC (rMn_0 inR (h.map actV) h.length ix cur k up h[k]) ⟨hls, hel, trivial⟩, (fun _ hn => by cases hn), .inl ⟨rfl, ⟨h.map actV, h.length, ix, mn cur h[k].f, ((k + 1 : Nat) : Int), up⟩, ⟨h, k + 1, rfl, rfl, rfl, by omega, hb⟩, by dsimp only; omega, ?_, rfl, ?_⟩⟩
    · refine stSim_of rfl rfl rfl (fun p hp => ?_) trivial
      simp only [List.mem_cons, List.not_mem_nil, or_false] at hp
      rcases hp with rfl | rfl | rfl | rfl | rfl
      · exact .isl _ _ _ _ _ _ _ _ (argL_map h)
      · exact .bool _ _ _
      · exact .int _ _ _ _
      · exact .int _ _ _ _
      · exact sim_int (by rw [ar_add (by omega) (by omega)]; omega)
    · simp only [Mn, mnS, hd, hdr, List.foldl_cons]
  · have hkl : k = h.length := by omega
    subst hkl
    have hls : cmp .lss (h.length : Int) (h.length : Int) = false := by rw [cmp_lss]; exact decide_eq_false (by omega)
    refine ⟨60, _, _, lookN [], has_outC (rMn_1 inR (h.map actV) h.length ix cur h.length up ⟨true, 0, 0, 0⟩) ⟨hls, trivial⟩, (fun _ hn => by cases hn), .inr ⟨by simp, rfl, ?_⟩⟩
    refine stSim_of rfl rfl rfl (fun p hp => ?_) trivial
    simp only [List.mem_cons, List.not_mem_nil, or_false] at hp
    rcases hp with rfl | rfl | rfl | rfl
    · exact .isl _ _ _ _ _ _ _ _ (argL_map h)
    · exact .bool _ _ _
    · exact .int _ _ _ _
    · exact sim_int (by simp only [mnS, hd, List.drop_length, List.foldl_nil])
/-- Order's contract, whether numbers are known or not. -/
def OrdE (args : List VV) (u : VV) : Prop := OrdR (eraseL args) u
theorem Order_relE : RelOk Try.prog 7 OrdE := fun args u M w argv hr hm ha => Order_rel (eraseL args) u M w argv hr hm (eraseL_repL' ha)
theorem erase_acts : ∀ (h : List Ac), eraseL (h.map actV) = h.map actV
  | [] => rfl
  | x :: h => by rw [List.map_cons, eraseL, erase_acts h]; rfl
theorem ordE_mk {h : List Ac} {es : List VV} {len : Int} (he : eraseL es = h.map actV) (hl : len = (h.length : Int)) (hb : h.length < 9223372036854775808) :
    OrdE [.isl 0 4 true len es false] (.tup [.isl 0 1 true (((orderS h).getD []).length : Int) (((orderS h).getD []).map natV) false, .bool true (orderS h).isSome]) ∧
      argV (V.tup [.isl 0 1 true (((orderS h).getD []).length : Int) (((orderS h).getD []).map natV) false, .bool true (orderS h).isSome]) = true := by
  refine ⟨?_, orderV_arg h⟩
  unfold OrdE
  simp only [eraseL, eraseV, he]
  exact (ordR_mk hl hb).1
noncomputable abbrev cxM : Cx Int Bool := cxR Try.prog [(6, liftRel AwR), (7, liftRel OrdE)] [Mn.hook]
theorem cxM_ok : CxOk cxM := cxR_ok tryOk (fun p hp => by
  simp only [List.mem_cons, List.not_mem_nil, or_false] at hp
  rcases hp with rfl | rfl
  · exact relRun_ok Awake_rel
  · exact relRun_ok Order_relE) (fun k hk => by
  simp only [List.mem_cons, List.not_mem_nil, or_false] at hk
  subst hk
  exact Mn_ok)
theorem cMr_0 (h h2 h3 : List Ac) (k : Int) (x : Ac) : outR ((ev cxM 60).call [] 5 [.isl 0 4 true (h.length : Int) (h.map actV) false, .int .i64 true k] { es := [], log := [] } [.val (.bool true true), .val (.tup [.isl 0 1 true (((orderS h).getD []).length : Int) (((orderS h).getD []).map natV) false, .bool true (orderS h).isSome]), .bit true]) =
    some (.bool true true, { es := [], log := [] }, [.prop (AwR [] (.bool true true) ∧ argV (.bool true true : VV) = true), .prop (argV (V.isl 0 4 true (h.length : Int) (h.map actV) false : VV) = true), .prop (OrdE [.isl 0 4 true (h.length : Int) (h.map actV) false] (.tup [.isl 0 1 true (((orderS h).getD []).length : Int) (((orderS h).getD []).map natV) false, .bool true (orderS h).isSome]) ∧ argV (V.tup [.isl 0 1 true (((orderS h).getD []).length : Int) (((orderS h).getD []).map natV) false, .bool true (orderS h).isSome] : VV) = true), .bit (bi (bi (!(orderS h).isSome) true (cmp .gtr (h.length : Int) 6)) true (cmp .eql (h.length : Int) 0)) true]) := by kernel_rfl
theorem cMr_1 (h h2 h3 : List Ac) (k : Int) (x : Ac) (e3 : List VV) : outR ((ev cxM 60).call [] 5 [.isl 0 4 true (h.length : Int) (h.map actV) false, .int .i64 true k] { es := [], log := [] } [.val (.bool true true), .val (.tup [.isl 0 1 true (((orderS h).getD []).length : Int) (((orderS h).getD []).map natV) false, .bool true (orderS h).isSome]), .bit false, .hook 0, .val (.agg [.bool true x.w, .int .i64 true x.v, .int .i64 true x.f, .int .i64 true x.t]), .row (h2.map actV), .val (.tup [.isl 0 1 true (((orderS h2).getD []).length : Int) (((orderS h2).getD []).map natV) false, .bool true (orderS h2).isSome]), .row e3, .val (.tup [.isl 0 1 true (((orderS h3).getD []).length : Int) (((orderS h3).getD []).map natV) false, .bool true (orderS h3).isSome]), .val (.agg [.bool true x.w, .int .i64 true x.v, .int .i64 true x.f, .int .i64 true x.t])]) =
    some (.bool true (bi (bi true (bi (orderS h2).isSome true x.w) false) (bi (orderS h3).isSome true (cmp .lss (mnS (MnI.mk (h.map actV) (h.length : Int) (ar .rem .i64 (ar .and .i64 k 65535) (h.length : Int)) 1099511627776 0 true)) 2)) false), { es := [([6, 12], .dead), ([5, 12], .row [.bool false false, .int .i64 false 0, .int .i64 false 0, .int .i64 true (mx 1 (ar .sub .i64 (mnS (MnI.mk (h.map actV) (h.length : Int) (ar .rem .i64 (ar .and .i64 k 65535) (h.length : Int)) 1099511627776 0 true)) 1))] false 0), ([2, 11], .dead), ([0, 11], .dead), ([6, 9], .dead), ([5, 9], .row [.bool true x.w, .int .i64 true x.v, .int .i64 true x.f, .int .i64 true x.t] false 0), ([2, 8], .dead), ([0, 8], .dead)], log := [[6, 12], [2, 11], [0, 11], [6, 9], [2, 8], [0, 8]] }, [.prop (AwR [] (.bool true true) ∧ argV (.bool true true : VV) = true), .prop (argV (V.isl 0 4 true (h.length : Int) (h.map actV) false : VV) = true), .prop (OrdE [.isl 0 4 true (h.length : Int) (h.map actV) false] (.tup [.isl 0 1 true (((orderS h).getD []).length : Int) (((orderS h).getD []).map natV) false, .bool true (orderS h).isSome]) ∧ argV (V.tup [.isl 0 1 true (((orderS h).getD []).length : Int) (((orderS h).getD []).map natV) false, .bool true (orderS h).isSome] : VV) = true), .bit (bi (bi (!(orderS h).isSome) true (cmp .gtr (h.length : Int) 6)) true (cmp .eql (h.length : Int) 0)) false, .bit (cmp .neq (h.length : Int) 0) true, .prop (loopAt f5 0 = loopAt f5 0), .prop (Mn.pre (MnI.mk (h.map actV) (h.length : Int) (ar .rem .i64 (ar .and .i64 k 65535) (h.length : Int)) 1099511627776 0 true)), .cells (flat (h.map actV)), .bit (cmp .geq (h.length : Int) 0) true, .bit (cmp .leq (h.length : Int) 1048576) true, .elem (h.map actV) (ar .rem .i64 (ar .and .i64 k 65535) (h.length : Int)) (.agg [.bool true x.w, .int .i64 true x.v, .int .i64 true x.f, .int .i64 true x.t]), .bit (cmp .geq (pls 0 (h.length : Int)) 0) true, .bit (cmp .leq (pls 0 (h.length : Int)) 1048576) true, .idx (lin (pls 0 (h.length : Int)) 4 0) (flat (h.map actV)).length, .prop (RowIs ((flat (h.map actV)) ++ [.bool true x.w, .int .i64 true x.v, .int .i64 true x.f, .int .i64 true x.t]) 0 4 (pls (pls 0 (h.length : Int)) 1) (h2.map actV)), .prop (OrdE [.isl 0 4 true (pls (pls 0 (h.length : Int)) 1) (h2.map actV) false] (.tup [.isl 0 1 true (((orderS h2).getD []).length : Int) (((orderS h2).getD []).map natV) false, .bool true (orderS h2).isSome]) ∧ argV (V.tup [.isl 0 1 true (((orderS h2).getD []).length : Int) (((orderS h2).getD []).map natV) false, .bool true (orderS h2).isSome] : VV) = true), .cells (flat (h.map actV)), .bit (cmp .geq (h.length : Int) 0) true, .bit (cmp .leq (h.length : Int) 1048576) true, .bit (cmp .geq (pls 0 (h.length : Int)) 0) true, .bit (cmp .leq (pls 0 (h.length : Int)) 1048576) true, .idx (lin (pls 0 (h.length : Int)) 4 0) (flat (h.map actV)).length, .prop (RowIs ((flat (h.map actV)) ++ [.bool false false, .int .i64 false 0, .int .i64 false 0, .int .i64 true (mx 1 (ar .sub .i64 (mnS (MnI.mk (h.map actV) (h.length : Int) (ar .rem .i64 (ar .and .i64 k 65535) (h.length : Int)) 1099511627776 0 true)) 1))]) 0 4 (pls (pls 0 (h.length : Int)) 1) e3), .prop (OrdE [.isl 0 4 true (pls (pls 0 (h.length : Int)) 1) e3 false] (.tup [.isl 0 1 true (((orderS h3).getD []).length : Int) (((orderS h3).getD []).map natV) false, .bool true (orderS h3).isSome]) ∧ argV (V.tup [.isl 0 1 true (((orderS h3).getD []).length : Int) (((orderS h3).getD []).map natV) false, .bool true (orderS h3).isSome] : VV) = true), .elem (h.map actV) (ar .rem .i64 (ar .and .i64 k 65535) (h.length : Int)) (.agg [.bool true x.w, .int .i64 true x.v, .int .i64 true x.f, .int .i64 true x.t])]) := by kernel_rfl

theorem mn_range : ∀ (h : List Ac) (c : Int), 0 ≤ c → c ≤ 1099511627776 → (∀ x ∈ h, 0 ≤ x.f) → 0 ≤ h.foldl (fun c x => mn c x.f) c ∧ h.foldl (fun c x => mn c x.f) c ≤ 1099511627776
  | [], c, h0, h1, _ => ⟨h0, h1⟩
  | x :: h, c, h0, h1, hx => by
    have := hx x List.mem_cons_self
    rw [List.foldl_cons]
    exact mn_range h _ (by rw [mn_eq]; omega) (by rw [mn_eq]; omega) fun y hy => hx y (List.mem_cons_of_mem _ hy)
def MoreR (args : List VV) (u : VV) : Prop := ∃ (h : List Ac) (k : Int), args = [.isl 0 4 true (h.length : Int) (h.map actV) false, .int .i64 true k] ∧ h.length < 9223372036854775808 ∧ u = .bool true true
theorem More_rel : RelOk Try.prog 5 MoreR := by
  refine relOk_cx (cx := cxM) cxM_ok fun args u hr => ?_
  obtain ⟨h, k, rfl, hb, rfl⟩ := hr
  have hav : argV (.isl 0 4 true (h.length : Int) (h.map actV) false) = true := argL_map h
  cases hc : (bi (bi (!(orderS h).isSome) true (cmp .gtr (h.length : Int) 6)) true (cmp .eql (h.length : Int) 0)) with
  | true => exact ⟨60, _, _, has_outR (cMr_0 h h h k ⟨true, 0, 0, 0⟩) ⟨⟨⟨rfl, rfl⟩, rfl⟩, hav, ordE_mk (erase_acts h) rfl hb, hc, trivial⟩, .bool _ _ _⟩
  | false =>
    have hc' := hc
    simp only [bi_or, Bool.or_eq_false_iff, Bool.not_eq_false', cmp_eql, cmp_gtr, decide_eq_false_iff_not] at hc'
    obtain ⟨⟨ho, h6⟩, h0⟩ := hc'
    obtain ⟨i, hi, hI⟩ := pick_idx k h.length (by omega)
    have hx : h[i]? = some h[i] := List.getElem?_eq_getElem hi
    have hsane : ∀ x ∈ h, 0 ≤ x.f ∧ x.f < x.t ∧ x.t ≤ 1099511627776 := fun x hx => by
      have := (orderS_iff.1 ho).1
      unfold saneT at this
      simp only [Bool.and_eq_true, List.all_eq_true] at this
      have := this.2 x hx
      unfold saneA at this
      simpa using this
    let fs : Int := mnS (MnI.mk (h.map actV) (h.length : Int) (i : Int) 1099511627776 0 true)
    have hfs : 0 ≤ fs ∧ fs ≤ 1099511627776 := by
      have e : fs = h.foldl (fun c x => mn c x.f) 1099511627776 := by
        simp only [fs, mnS, Int.toNat_zero, List.drop_zero, decA_map]
      rw [e]
      exact mn_range h _ (by omega) (by omega) fun x hx => (hsane x hx).1
    let r : Ac := ⟨false, 0, 0, mx 1 (ar .sub .i64 fs 1)⟩
    have hr1 : r.t = max 1 (fs - 1) := by show mx 1 (ar .sub .i64 fs 1) = _; rw [ar_sub (by omega) (by omega), mx_eq]
    have hge0 : cmp .geq (h.length : Int) 0 = true := by rw [cmp_geq]; exact decide_eq_true (by omega)
    have hle0 : cmp .leq (h.length : Int) 1048576 = true := by rw [cmp_leq]; exact decide_eq_true (by omega)
    have hge1 : cmp .geq (pls 0 (h.length : Int)) 0 = true := by rw [cmp_geq]; exact decide_eq_true (by unfold pls; omega)
    have hle1 : cmp .leq (pls 0 (h.length : Int)) 1048576 = true := by rw [cmp_leq]; exact decide_eq_true (by unfold pls; omega)
    have hne : cmp .neq (h.length : Int) 0 = true := by rw [cmp_neq]; exact decide_eq_true (by omega)
    have hel : Ob.holds (.elem (h.map actV) (i : Int) (actV h[i])) := ⟨by omega, by rw [Int.toNat_natCast, List.getElem?_map, hx]; rfl⟩
    have hce : Ob.holds (.cells (flat (h.map actV))) := by show (flat (h.map actV)).all oneCell = true; rw [cellsA_flat]; exact cells_ok h
    have hix : Ob.holds (.idx (lin (pls 0 (h.length : Int)) 4 0) (flat (h.map actV)).length) := by
      show lin (pls 0 (h.length : Int)) 4 0 = (((flat (h.map actV)).length : Nat) : Int)
      rw [cellsA_flat, cellsA_length]; unfold lin pls; omega
    have hp : Mn.pre (MnI.mk (h.map actV) (h.length : Int) (i : Int) 1099511627776 0 true) := ⟨h, 0, rfl, rfl, rfl, Nat.zero_le _, by omega⟩
    have hl2 : ∀ y : Ac, pls (pls 0 (h.length : Int)) 1 = ((h ++ [y]).length : Int) := fun y => by unfold pls; simp
    let e3 : List VV := h.map actV ++ [.agg [.bool false false, .int .i64 false 0, .int .i64 false 0, .int .i64 true r.t]]
    have hE : eraseL e3 = (h ++ [r]).map actV := by rw [eraseL_append, erase_acts, List.map_append]; rfl
    have hrun := cMr_1 h (h ++ [h[i]]) (h ++ [r]) k h[i] e3
    rw [hI] at hrun
    have ob1 : bi (orderS (h ++ [h[i]])).isSome true h[i].w = true := by
      rw [bi_or]
      cases hw : h[i].w with
      | true => simp
      | false => rw [order_twice ho hx hw (by omega)]; rfl
    have ob2 : (orderS (h ++ [r])).isSome = true := by
      refine order_ahead ho rfl rfl rfl ?_ (by omega)
      unfold saneA
      rw [hr1]
      exact decide_eq_true ⟨Int.le_refl 0, by show (0 : Int) < max 1 (fs - 1); omega, by omega⟩
    have row2 : RowIs (flat (h.map actV) ++ [.bool true h[i].w, .int .i64 true h[i].v, .int .i64 true h[i].f, .int .i64 true h[i].t]) 0 4 (pls (pls 0 (h.length : Int)) 1) ((h ++ [h[i]]).map actV) :=
      rowIs_acts (by rw [cellsA_flat, cellsA_append]; rfl) (hl2 _)
    have hfl : flat e3 = flat (h.map actV) ++ [.bool false false, .int .i64 false 0, .int .i64 false 0, .int .i64 true r.t] := by
      show flat (h.map actV ++ [_]) = _
      unfold flat
      rw [List.flatMap_append]
      rfl
    have row3 : RowIs (flat (h.map actV) ++ [.bool false false, .int .i64 false 0, .int .i64 false 0, .int .i64 true r.t]) 0 4 (pls (pls 0 (h.length : Int)) 1) e3 := by
      refine ⟨by rw [hfl, List.drop_zero, List.take_length], by rw [hl2 r]; simp [e3], fun e he => ?_, argL_append _ _ (argL_map h) rfl⟩
      rcases List.mem_append.1 he with h5 | h5
      · obtain ⟨y, _, rfl⟩ := List.mem_map.1 h5
        rfl
      · simp only [List.mem_singleton] at h5
        subst h5; rfl
    refine ⟨60, _, _, has_outR hrun ⟨⟨⟨rfl, rfl⟩, rfl⟩, hav, ordE_mk (erase_acts h) rfl hb, hc, hne, rfl, hp, hce, hge0, hle0, hel, hge1, hle1, hix, row2, ordE_mk (erase_acts _) (hl2 _) (by simp; omega), hce, hge0, hle0, hge1, hle1, hix, row3, ordE_mk hE (hl2 r) (by simp; omega), hel, trivial⟩, ?_⟩
    rw [ob1, ob2]
    exact .bool _ _ _
#print axioms More_rel
end Go.Sx
