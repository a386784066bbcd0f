/- The first order in which acts can have been done: a contract. Conditions: none. -/
import Derived.Test.YtajloilpehgcmaaSxTr4
set_option linter.unusedVariables false
set_option linter.unusedSimpArgs false
set_option linter.unusedSectionVars false

namespace Go.Sx
open Go.Proofs Go.Proofs.Try

noncomputable abbrev cxO : Cx Int Bool := cxR Try.prog [] [IxS.hook, (Sk 1000).hook]
theorem cxO_ok : CxOk cxO := cxR_ok tryOk (fun _ h => by cases h) (fun k hk => by
  simp only [List.mem_cons, List.not_mem_nil, or_false] at hk
  rcases hk with rfl | rfl
  · exact IxS_ok
  · exact Sk_ok 1000)
theorem cOd_0 (es : List VV) (l0 : Int) : outR ((ev cxO 60).call [] 7 [.isl 0 4 true l0 es false] { es := [], log := [] } [.bit true, .hook 0, .bit true, .bit true]) =
    some (.tup [.isl 0 0 false 0 [] true, .bool false false], { es := [([0, 0], .row [.isl 0 4 true l0 es false] false 0)], log := [] }, [.bit (cmp .leq l0 7) true, .prop (loopAt f18 0 = loopAt f18 0), .prop (IxS.pre (IxI.mk es l0 l0 0)), .bit (IxS.q (IxI.mk es l0 l0 0)) true, .bit (!(!(cmp .geq (ixS (IxI.mk es l0 l0 0)) 0))) true]) := by kernel_rfl
theorem cOd_4 (es : List VV) (l0 : Int) : outR ((ev cxO 60).call [] 7 [.isl 0 4 true l0 es false] { es := [], log := [] } [.bit true, .hook 0, .bit false, .bit true]) =
    some (.tup [.isl 0 0 false 0 [] true, .bool false true], { es := [([0, 4], .row [.fn 11 [] [.ptr [0, 2] false 0, .ptr [0, 0] false 0, .ptr [3, 3] false 0, .ptr [0, 4] false 0]] false 0), ([3, 3], .row [.osl [2, 3] 0 1 true l0] false 0), ([2, 3], .row ((repl [.bool false false] (l0).toNat).map opn) true 0), ([0, 2], .row [.isl 0 0 false 0 [] true] false 0), ([0, 0], .row [.isl 0 4 true l0 es false] false 0)], log := [[0, 4], [3, 3]] }, [.bit (cmp .leq l0 7) true, .prop (loopAt f18 0 = loopAt f18 0), .prop (IxS.pre (IxI.mk es l0 l0 0)), .bit (IxS.q (IxI.mk es l0 l0 0)) false, .bit (cmp .geq l0 0) true, .bit (cmp .leq l0 1048576) true, .bit (cmp .eql l0 l0) true, .bit (cmp .eql 0 l0) true]) := by kernel_rfl
theorem cOd_5 (es : List VV) (l0 : Int) : outR ((ev cxO 60).call [] 7 [.isl 0 4 true l0 es false] { es := [], log := [] } [.bit true, .hook 0, .bit false, .bit false, .hook 1, .bit true]) =
    some (.tup [.osl [5, 77, 3, 1, 6] 0 1 true ((fndS (SkI.mk es es ((repl [.bool false false] (l0).toNat).map opn) l0 l0 l0 0 l0 0 none true)).length : Int), .bool false true], { es := [([5, 77, 3, 1, 6], .row (fndS (SkI.mk es es ((repl [.bool false false] (l0).toNat).map opn) l0 l0 l0 0 l0 0 none true)) true 0), ([0, 4], .row [.fn 11 [] [.ptr [0, 2] false 0, .ptr [0, 0] false 0, .ptr [3, 3] false 0, .ptr [0, 4] false 0]] false 0), ([3, 3], .row [.osl [2, 3] 0 1 true l0] false 0), ([2, 3], .row [] false 0), ([0, 2], .row [.osl [5, 77, 3, 1, 6] 0 1 true ((fndS (SkI.mk es es ((repl [.bool false false] (l0).toNat).map opn) l0 l0 l0 0 l0 0 none true)).length : Int)] false 0), ([0, 0], .row [.isl 0 4 true l0 es false] false 0)], log := [[2, 3], [0, 4], [3, 3], [0, 0], [0, 2], [0, 4], [3, 3]] }, [.bit (cmp .leq l0 7) true, .prop (loopAt f18 0 = loopAt f18 0), .prop (IxS.pre (IxI.mk es l0 l0 0)), .bit (IxS.q (IxI.mk es l0 l0 0)) false, .bit (cmp .geq l0 0) true, .bit (cmp .leq l0 1048576) true, .bit (cmp .eql l0 l0) true, .bit (cmp .eql 0 l0) false, .prop (loopAt f11 0 = loopAt f11 0), .prop ((Sk 1000).pre (SkI.mk es es ((repl [.bool false false] (l0).toNat).map opn) l0 l0 l0 0 l0 0 none true)), .bit ((Sk 1000).q (SkI.mk es es ((repl [.bool false false] (l0).toNat).map opn) l0 l0 l0 0 l0 0 none true)) true]) := by kernel_rfl
theorem cOd_6 (es : List VV) (l0 : Int) : outR ((ev cxO 60).call [] 7 [.isl 0 4 true l0 es false] { es := [], log := [] } [.bit true, .hook 0, .bit false, .bit false, .hook 1, .bit false]) =
    some (.tup [.isl 0 0 false 0 [] true, .bool false false], { es := [([0, 4], .row [.fn 11 [] [.ptr [0, 2] false 0, .ptr [0, 0] false 0, .ptr [3, 3] false 0, .ptr [0, 4] false 0]] false 0), ([3, 3], .row [.osl [2, 3] 0 1 true l0] false 0), ([2, 3], .row ((repl [.bool false false] (l0).toNat).map opn) true 0), ([0, 2], .row [.top] false 0), ([0, 0], .row [.isl 0 4 true l0 es false] false 0)], log := [[2, 3], [0, 4], [3, 3], [0, 0], [0, 2], [0, 4], [3, 3]] }, [.bit (cmp .leq l0 7) true, .prop (loopAt f18 0 = loopAt f18 0), .prop (IxS.pre (IxI.mk es l0 l0 0)), .bit (IxS.q (IxI.mk es l0 l0 0)) false, .bit (cmp .geq l0 0) true, .bit (cmp .leq l0 1048576) true, .bit (cmp .eql l0 l0) true, .bit (cmp .eql 0 l0) false, .prop (loopAt f11 0 = loopAt f11 0), .prop ((Sk 1000).pre (SkI.mk es es ((repl [.bool false false] (l0).toNat).map opn) l0 l0 l0 0 l0 0 none true)), .bit ((Sk 1000).q (SkI.mk es es ((repl [.bool false false] (l0).toNat).map opn) l0 l0 l0 0 l0 0 none true)) false]) := by kernel_rfl
theorem cOd_7 (es : List VV) (l0 : Int) : outR ((ev cxO 60).call [] 7 [.isl 0 4 true l0 es false] { es := [], log := [] } [.bit false]) =
    some (.tup [.isl 0 0 false 0 [] true, .bool false false], { es := [([0, 0], .row [.isl 0 4 true l0 es false] false 0)], log := [] }, [.bit (cmp .leq l0 7) false]) := by kernel_rfl

/-- What Order comes to. -/
def ordV (o : Option (List Nat)) : VV := .tup [.isl 0 1 true ((o.getD []).length : Int) ((o.getD []).map natV) false, .bool true o.isSome]
def OrdR (args : List VV) (u : VV) : Prop := ∃ (h : List Ac), args = [.isl 0 4 true (h.length : Int) (h.map actV) false] ∧ h.length < 9223372036854775808 ∧ u = ordV (orderS h)
theorem repl_bools (n : Nat) : (repl [(.bool false false : VV)] n).map opn = (List.replicate n false).map boolV := by
  induction n with
  | zero => rfl
  | succ n ih =>
    show opn (.bool false false) :: (repl [(.bool false false : VV)] n).map opn = _
    rw [ih, List.replicate_succ]; rfl
theorem view_nats {H : HH} {nm : Nm} {l : List Nat} {s : Bool} {id : Nat} {len : Int} (hg : H.get nm = some (.row (l.map natV) s id)) (hl : len = ((l.length : Nat) : Int)) : ViewR H (.osl nm 0 1 true len) (.isl 0 1 true ((l.length : Nat) : Int) (l.map natV) false) := by
  subst hl
  refine .osl _ _ _ _ _ _ _ _ _ _ _ hg ⟨?_, by simp, ?_, argL_nats l⟩
  · have : flat (l.map natV) = l.map natV := by
      clear hg
      induction l with
      | nil => rfl
      | cons x l ih => show natV x :: flat (l.map natV) = _; rw [ih]; rfl
    rw [this, List.drop_zero, List.take_of_length_le (by simp)]
  · intro e he
    obtain ⟨k, _, rfl⟩ := List.mem_map.1 he
    rfl
theorem all_any (h : List Ac) : h.all saneA = !(h.any badA) := by
  induction h with
  | nil => rfl
  | cons x l ih => rw [List.all_cons, List.any_cons, ih, badA_eq]; cases saneA x <;> simp
theorem view_res {H : HH} {b c : Bool} (hb : b = c) : ViewR H (.tup [.isl 0 0 false 0 [] true, .bool false b]) (.tup [.isl 0 1 true 0 [] false, .bool true c]) := by
  subst hb
  exact (ViewL.cons (.nilI _ _ _ _ _ _ _ _) (ViewL.cons (.bool _ _ _) .nil)).tup
theorem Order_rel : RelOk Try.prog 7 OrdR := by
  refine relOk_cx (cx := cxO) cxO_ok fun args u hr => ?_
  obtain ⟨h, rfl, hb, rfl⟩ := hr
  have hd0 : decA ((h.map actV).drop ((0 : Int)).toNat) = h := by rw [Int.toNat_zero, List.drop_zero, decA_map]
  by_cases h7 : h.length ≤ 7
  · have hle : cmp .leq (h.length : Int) 7 = true := by rw [cmp_leq]; exact decide_eq_true (by omega)
    have hIp : IxS.pre (IxI.mk (h.map actV) h.length h.length 0) := ⟨h, 0, rfl, rfl, rfl, Nat.zero_le _, by omega⟩
    have hIq : IxS.q (IxI.mk (h.map actV) h.length h.length 0) = h.any badA := by simp only [IxS, hd0]
    have hsane : saneT h = !(h.any badA) := by
      unfold saneT
      rw [decide_eq_true h7, Bool.true_and]
      exact all_any h
    cases hbad : h.any badA with
    | true =>
      have hg : cmp .geq (ixS (IxI.mk (h.map actV) h.length h.length 0)) 0 = true := by rw [cmp_geq]; exact decide_eq_true (by unfold ixS; dsimp only; omega)
      refine ⟨60, _, _, has_outR (cOd_0 (h.map actV) h.length) ⟨hle, rfl, hIp, hIq.trans hbad, by rw [hg]; rfl, trivial⟩, ?_⟩
      have ho : orderS h = none := by unfold orderS; rw [hsane, hbad]; rfl
      rw [ho]
      exact view_res rfl
    | false =>
      have hge : cmp .geq (h.length : Int) 0 = true := by rw [cmp_geq]; exact decide_eq_true (by omega)
      have hle2 : cmp .leq (h.length : Int) 1048576 = true := by rw [cmp_leq]; exact decide_eq_true (by omega)
      have heq : cmp .eql (h.length : Int) (h.length : Int) = true := by rw [cmp_eql]; exact decide_eq_true rfl
      have hs : saneT h = true := by rw [hsane, hbad]; rfl
      by_cases h0 : h.length = 0
      · have he0 : cmp .eql 0 (h.length : Int) = true := by rw [cmp_eql]; exact decide_eq_true (by omega)
        refine ⟨60, _, _, has_outR (cOd_4 (h.map actV) h.length) ⟨hle, rfl, hIp, hIq.trans hbad, hge, hle2, heq, he0, trivial⟩, ?_⟩
        have ho : orderS h = some [] := by unfold orderS; rw [if_pos hs, h0]; rfl
        rw [ho]
        exact view_res rfl
      · have he0 : cmp .eql 0 (h.length : Int) = false := by rw [cmp_eql]; exact decide_eq_false (by omega)
        let p : SkI := SkI.mk (h.map actV) (h.map actV) ((repl [.bool false false] ((h.length : Int)).toNat).map opn) h.length h.length h.length 0 h.length 0 none true
        have hdn : (repl [(.bool false false : VV)] ((h.length : Int)).toNat).map opn = (List.replicate h.length false).map boolV := by rw [Int.toNat_natCast, repl_bools]
        have hp : (Sk 1000).pre p := ⟨h, List.replicate h.length false, 0, 0, rfl, rfl, hdn, rfl, rfl, by simp [p], by simp, rfl, Nat.zero_le _, by omega, by omega, by omega, rfl, rfl⟩
        have hres : resS p = seekS h h.length (List.replicate h.length false) 0 := by
          obtain ⟨n, hn⟩ : ∃ n, h.length = n + 1 := ⟨h.length - 1, by omega⟩
          have e : h.length - 0 - 1 = n := by omega
          simp only [resS, p, hS, dS, gS, hdn, decA_map, decB_map, e, Int.toNat_zero]
          conv => rhs; rw [hn, seekS_succ]
          rw [hn]
        have ho : orderS h = resS p := by unfold orderS; rw [if_pos hs, hres]
        cases hr : resS p with
        | none =>
          refine ⟨60, _, _, has_outR (cOd_6 (h.map actV) h.length) ⟨hle, rfl, hIp, hIq.trans hbad, hge, hle2, heq, he0, rfl, hp, by show (resS p).isSome = false; rw [hr]; rfl, trivial⟩, ?_⟩
          rw [ho, hr]
          exact view_res rfl
        | some l =>
          have hf : fndS p = l.map natV := by unfold fndS; rw [hr]; rfl
          refine ⟨60, _, _, has_outR (cOd_5 (h.map actV) h.length) ⟨hle, rfl, hIp, hIq.trans hbad, hge, hle2, heq, he0, rfl, hp, by show (resS p).isSome = true; rw [hr]; rfl, trivial⟩, ?_⟩
          rw [ho, hr]
          refine (ViewL.cons (view_nats (l := l) (id := 0) (s := true) ?_ ?_) (ViewL.cons (.bool _ _ _) .nil)).tup
          · rw [← hf]; rfl
          · show ((fndS p).length : Int) = _
            rw [hf]; simp
  · have hle : cmp .leq (h.length : Int) 7 = false := by rw [cmp_leq]; exact decide_eq_false (by omega)
    refine ⟨60, _, _, has_outR (cOd_7 (h.map actV) h.length) ⟨hle, trivial⟩, ?_⟩
    have ho : orderS h = none := by
      unfold orderS
      rw [if_neg]
      unfold saneT
      rw [decide_eq_false h7]; simp
    rw [ho]
    exact view_res rfl
#print axioms Order_rel
end Go.Sx
