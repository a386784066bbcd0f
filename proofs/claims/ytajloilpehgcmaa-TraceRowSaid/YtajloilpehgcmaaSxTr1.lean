/- The look through acts for one that may not be. Conditions: none. -/
import Derived.Test.YtajloilpehgcmaaSxTy
set_option linter.unusedVariables false
set_option linter.unusedSimpArgs false
set_option linter.unusedSectionVars false

namespace Go.Sx
open Go.Proofs Go.Proofs.Try

theorem argL_map (h : List Ac) : argL (h.map actV) = true := by
  induction h with
  | nil => rfl
  | cons x h ih => simp only [List.map_cons, argL, ih, Bool.and_true]; rfl
def actOf : VV → Option Ac
  | .agg [.bool _ w, .int _ _ v, .int _ _ f, .int _ _ t] => some { w := w, v := v, f := f, t := t }
  | _ => none
def decA (es : List VV) : List Ac := es.filterMap actOf
theorem decA_map (h : List Ac) : decA (h.map actV) = h := by
  unfold decA
  rw [List.filterMap_map]
  have : actOf ∘ actV = some := by funext x; rfl
  rw [this, List.filterMap_some]
def badA (x : Ac) : Bool := bi (bi (cmp .lss x.f 0) true (cmp .geq x.f x.t)) true (cmp .gtr x.t 1099511627776)
theorem badA_eq (x : Ac) : badA x = !saneA x := by
  unfold badA saneA
  rw [bi_or, bi_or, cmp_lss, cmp_geq, cmp_gtr]
  by_cases h1 : x.f < 0 <;> by_cases h2 : x.f ≥ x.t <;> by_cases h3 : x.t > 1099511627776 <;> simp [h1, h2, h3] <;> omega

structure IxI where
  es : List VV
  l0 : Int
  len : Int
  i : Int
def IxS_S (es : List VV) (l0 len i : Int) : St Int Bool := stOf 19 [(0, .isl 0 4 true l0 es false), (1, .fn 17 [] []), (7, .int .i64 true len), (8, .int .i64 true i)] []
theorem rIxS_0 (inR : Bool) (es : List VV) (l0 len i : Int) (x : Ac) : outC (evCode cx0 (ev cx0 60) 18 [] inR (bodyAt f18 0) (IxS_S es l0 len i) [.bit true, .val (.agg [.bool true x.w, .int .i64 true x.v, .int .i64 true x.f, .int .i64 true x.t]), .bit true]) =
    some (.ret, { ts := [.isl 0 4 true l0 es false, .fn 17 [] [], .top, .top, .int .i64 true i, .int .i64 true i, .top, .int .i64 true len, .int .i64 true i, .bool true (cmp .lss i len), .int .i64 true i, .fn 17 [] [], .isl 0 4 true l0 es false, .int .i64 true i, .eptr [.bool true x.w, .int .i64 true x.v, .int .i64 true x.f, .int .i64 true x.t], .agg [.bool true x.w, .int .i64 true x.v, .int .i64 true x.f, .int .i64 true x.t], .bool true (bi (bi (cmp .lss x.f 0) true (cmp .geq x.f x.t)) true (cmp .gtr x.t 1099511627776)), .int .i64 true i, .top], H := { es := [([0, 0, 5, 2], .row [.bool true x.w, .int .i64 true x.v, .int .i64 true x.f, .int .i64 true x.t] false 0)], log := [] }, c := 4, marks := [] }, [.bit (cmp .lss i len) true, .elem es i (.agg [.bool true x.w, .int .i64 true x.v, .int .i64 true x.f, .int .i64 true x.t]), .bit (bi (bi (cmp .lss x.f 0) true (cmp .geq x.f x.t)) true (cmp .gtr x.t 1099511627776)) true]) := by kernel_rfl
theorem rIxS_1 (inR : Bool) (es : List VV) (l0 len i : Int) (x : Ac) : outC (evCode cx0 (ev cx0 60) 18 [] inR (bodyAt f18 0) (IxS_S es l0 len i) [.bit true, .val (.agg [.bool true x.w, .int .i64 true x.v, .int .i64 true x.f, .int .i64 true x.t]), .bit false]) =
    some (.nrm, { ts := [.isl 0 4 true l0 es false, .fn 17 [] [], .top, .top, .top, .int .i64 true i, .top, .int .i64 true len, .int .i64 true (ar .add .i64 i 1), .bool true (cmp .lss i len), .int .i64 true i, .fn 17 [] [], .isl 0 4 true l0 es false, .int .i64 true i, .eptr [.bool true x.w, .int .i64 true x.v, .int .i64 true x.f, .int .i64 true x.t], .agg [.bool true x.w, .int .i64 true x.v, .int .i64 true x.f, .int .i64 true x.t], .bool true (bi (bi (cmp .lss x.f 0) true (cmp .geq x.f x.t)) true (cmp .gtr x.t 1099511627776)), .top, .int .i64 true (ar .add .i64 i 1)], H := { es := [([0, 0, 5, 2], .row [.bool true x.w, .int .i64 true x.v, .int .i64 true x.f, .int .i64 true x.t] false 0)], log := [] }, c := 4, marks := [] }, [.bit (cmp .lss i len) true, .elem es i (.agg [.bool true x.w, .int .i64 true x.v, .int .i64 true x.f, .int .i64 true x.t]), .bit (bi (bi (cmp .lss x.f 0) true (cmp .geq x.f x.t)) true (cmp .gtr x.t 1099511627776)) false]) := by kernel_rfl
theorem rIxS_2 (inR : Bool) (es : List VV) (l0 len i : Int) (x : Ac) : outC (evCode cx0 (ev cx0 60) 18 [] inR (bodyAt f18 0) (IxS_S es l0 len i) [.bit false]) =
    some (.exit 0, { ts := [.isl 0 4 true l0 es false, .fn 17 [] [], .top, .top, .top, .top, .top, .int .i64 true len, .int .i64 true i, .bool true (cmp .lss i len), .top, .top, .top, .top, .top, .top, .top, .top, .top], H := { es := [], log := [] }, c := 1, marks := [] }, [.bit (cmp .lss i len) false]) := by kernel_rfl

/-- How far the first one is. -/
def ixS (p : IxI) : Int := p.i + (((decA (p.es.drop p.i.toNat)).findIdx badA : Nat) : Int)
noncomputable def IxS : LSpec IxI where
  code := loopAt f18 0
  K := []
  pre p := ∃ (h : List Ac) (k : Nat), p.es = h.map actV ∧ p.len = (h.length : Int) ∧ p.i = (k : Int) ∧ k ≤ h.length ∧ h.length < 4611686018427387904
  two := true
  q p := (decA (p.es.drop p.i.toNat)).any badA
  S p := IxS_S p.es p.l0 p.len p.i
  T p b := match b with | true => stOf 19 [(4, .int .i64 true (ixS p))] [] | false => stOf 19 [] []
  E _ b := match b with | true => .ret | false => .exit 0
  pat st := match Nat.beq st.ts.length 19, getT st.ts 0, getT st.ts 1, getT st.ts 7, getT st.ts 8, st.marks with
    | true, .isl _ 4 _ l0 es _, .fn 17 [] [], .int .i64 _ len, .int .i64 _ i, [] => some (⟨es, l0, len, i⟩, [])
    | _, _, _, _, _, _ => none
theorem IxS_form : LForm IxS where
  pat st i ns h hp := by
    simp only [IxS] at h
    split at h
    · rename_i h1 h2 h3 h4 h5 h6
      simp only [Option.some.injEq, Prod.mk.injEq] at h
      obtain ⟨rfl, rfl⟩ := h
      obtain ⟨hh, k, he, _⟩ := hp
      dsimp only at he
      refine ⟨stSim_of (Nat.eq_of_beq_eq_true h1) h6 rfl (fun p hp => ?_) trivial, h6, rfl⟩
      simp only [List.mem_cons, List.not_mem_nil, or_false] at hp
      rcases hp with rfl | rfl | rfl | rfl
      · rw [h2]; exact .isl _ _ _ _ _ _ _ _ (by rw [he]; exact argL_map hh)
      · rw [h3]; exact .fnL .nil .nil
      · rw [h4]; exact .int _ _ _ _
      · rw [h5]; exact .int _ _ _ _
    · cases h
  K i n hn := by cases hn
  S i p hp := by cases hp
  T i _ := by
    cases h : IxS.q i with
    | true => exact ⟨rfl, (fun _ h => by cases h), rfl, (fun _ h => by cases h), rfl⟩
    | false => exact ⟨rfl, (fun _ h => by cases h), rfl, (fun _ h => by cases h), rfl⟩
theorem IxS_code : IxS.code = .loop (bodyAt f18 0) := by kernel_rfl
theorem IxS_ok : HookOk Try.prog IxS.hook := by
  refine IxS.ok IxS_form (loopOk_of IxS cx0_ok IxS_code 18 [] (fun p => (p.len - p.i).toNat) (fun _ n hn => by cases hn) fun inR p hp => ?_) (scopeOk_loop IxS IxS_code)
  obtain ⟨es, l0, len, i⟩ := p
  obtain ⟨h, k, he, hl, hi, hk, hb⟩ := hp
  dsimp only at he hl hi
  subst he hl hi
  have hd : ∀ j : Nat, decA ((h.map actV).drop ((j : Int)).toNat) = h.drop j := fun j => by rw [Int.toNat_natCast, ← List.map_drop, decA_map]
  by_cases hlt : k < h.length
  · have hx : h[k]? = some h[k] := List.getElem?_eq_getElem hlt
    have hdr : h.drop k = h[k] :: h.drop (k + 1) := List.drop_eq_getElem_cons hlt
    have hel : Ob.holds (.elem (h.map actV) (k : Int) (actV h[k])) := ⟨by omega, by rw [Int.toNat_natCast, List.getElem?_map, hx]; rfl⟩
    have hls : cmp .lss (k : Int) (h.length : Int) = true := by rw [cmp_lss]; exact decide_eq_true (by omega)
    cases hbad : badA h[k] with
    | true =>
      refine ⟨60, _, _, lookN [], has_outC (rIxS_0 inR (h.map actV) l0 h.length k h[k]) ⟨hls, hel, hbad, trivial⟩, (fun _ hn => by cases hn), .inr ⟨by simp, ?_, ?_⟩⟩
      · simp only [IxS, hd, hdr, List.any_cons, hbad, Bool.true_or]
      · have hq : IxS.q ⟨h.map actV, l0, (h.length : Int), (k : Int)⟩ = true := by simp only [IxS, hd, hdr, List.any_cons, hbad, Bool.true_or]
        rw [hq]
        refine stSim_of rfl rfl rfl (fun p hp => ?_) trivial
        simp only [List.mem_cons, List.not_mem_nil, or_false] at hp
        rcases hp with rfl
        refine sim_int ?_
        simp only [ixS, hd, hdr, List.findIdx_cons, hbad, cond_true]
        omega
    | false =>
      refine ⟨60, _, _, lookN [], has_outC (rIxS_1 inR (h.map actV) l0 h.length k h[k]) ⟨hls, hel, hbad, trivial⟩, (fun _ hn => by cases hn), .inl ⟨rfl, ⟨h.map actV, l0, h.length, ((k + 1 : Nat) : Int)⟩, ⟨h, k + 1, rfl, rfl, rfl, by omega, hb⟩, by dsimp only; omega, ?_, ?_, ?_⟩⟩
      · refine stSim_of rfl rfl rfl (fun p hp => ?_) trivial
        simp only [List.mem_cons, List.not_mem_nil, or_false] at hp
        rcases hp with rfl | rfl | rfl | rfl
        · exact .isl _ _ _ _ _ _ _ _ (argL_map h)
        · exact .fnL .nil .nil
        · exact .int _ _ _ _
        · exact sim_int (by rw [ar_add (by omega) (by omega)]; omega)
      · simp only [IxS, hd, hdr, List.any_cons, hbad, Bool.false_or]
      · simp only [IxS, hd, hdr, List.any_cons, hbad, Bool.false_or, ixS, List.findIdx_cons, cond_false]
        cases (h.drop (k + 1)).any badA with
        | false => rfl
        | true => simp only [Int.natCast_add, Int.natCast_one]; congr 4; omega
  · have hkl : k = h.length := by omega
    subst hkl
    have hls : cmp .lss (h.length : Int) (h.length : Int) = false := by rw [cmp_lss]; exact decide_eq_false (by omega)
    have hq : IxS.q ⟨h.map actV, l0, (h.length : Int), (h.length : Int)⟩ = false := by simp only [IxS, hd, List.drop_length, List.any_nil]
    refine ⟨60, _, _, lookN [], has_outC (rIxS_2 inR (h.map actV) l0 h.length h.length ⟨true, 0, 0, 0⟩) ⟨hls, trivial⟩, (fun _ hn => by cases hn), .inr ⟨by simp, ?_, ?_⟩⟩
    · rw [hq]; rfl
    · rw [hq]; exact stSim_of rfl rfl rfl (fun p hp => by cases hp) trivial
end Go.Sx
