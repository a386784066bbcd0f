/- The look through acts that are left for one that waits. Conditions: none. -/
import Derived.Test.YtajloilpehgcmaaSxTr2
set_option linter.unusedVariables false
set_option linter.unusedSimpArgs false
set_option linter.unusedSectionVars false

namespace Go.Sx
open Go.Proofs Go.Proofs.Try

structure WtI where
  cs : List VV
  l0 : Int
  len : Int
  i : Int
  z : Ac
def IxW_S (cs : List VV) (l0 len i : Int) (z : Ac) : St Int Bool :=
  stOf 19 [(0, .osl [1] 0 4 true l0), (1, .fn 12 [] [.ptr [0] false 0]), (7, .int .i64 true len), (8, .int .i64 true i)]
    [([0], .row [.bool true z.w, .int .i64 true z.v, .int .i64 true z.f, .int .i64 true z.t] false 0), ([1], .row cs true 0)]
theorem rIxW_0 (inR : Bool) (cs : List VV) (l0 len i : Int) (z x : Ac) : outC (evCode cx0 (ev cx0 60) 18 [] inR (bodyAt f18 0) (IxW_S cs l0 len i z) [.bit true, .val (.agg [.bool true x.w, .int .i64 true x.v, .int .i64 true x.f, .int .i64 true x.t]), .bit true]) =
    some (.ret, { ts := [.osl [1] 0 4 true l0, .fn 12 [] [.ptr [0] false 0], .top, .top, .int .i64 true i, .int .i64 true i, .top, .int .i64 true len, .int .i64 true i, .bool true (cmp .lss i len), .int .i64 true i, .fn 12 [] [.ptr [0] false 0], .osl [1] 0 4 true l0, .int .i64 true i, .ptr [1] true (lin i 4 0), .agg [.bool true x.w, .int .i64 true x.v, .int .i64 true x.f, .int .i64 true x.t], .bool true (cmp .lss x.t z.f), .int .i64 true i, .top], H := { es := [([0, 0, 5, 2], .row [.bool true x.w, .int .i64 true x.v, .int .i64 true x.f, .int .i64 true x.t] false 0), ([0], .row [.bool true z.w, .int .i64 true z.v, .int .i64 true z.f, .int .i64 true z.t] false 0), ([1], .row cs true 0)], log := [] }, c := 4, marks := [] }, [.bit (cmp .lss i len) true, .bit (cmp .geq i 0) true, .bit (cmp .lss i l0) true, .rd cs (lin i 4 0) [.bool true x.w, .int .i64 true x.v, .int .i64 true x.f, .int .i64 true x.t], .bit (cmp .lss x.t z.f) true]) := by kernel_rfl
theorem rIxW_1 (inR : Bool) (cs : List VV) (l0 len i : Int) (z x : Ac) : outC (evCode cx0 (ev cx0 60) 18 [] inR (bodyAt f18 0) (IxW_S cs l0 len i z) [.bit true, .val (.agg [.bool true x.w, .int .i64 true x.v, .int .i64 true x.f, .int .i64 true x.t]), .bit false]) =
    some (.nrm, { ts := [.osl [1] 0 4 true l0, .fn 12 [] [.ptr [0] false 0], .top, .top, .top, .int .i64 true i, .top, .int .i64 true len, .int .i64 true (ar .add .i64 i 1), .bool true (cmp .lss i len), .int .i64 true i, .fn 12 [] [.ptr [0] false 0], .osl [1] 0 4 true l0, .int .i64 true i, .ptr [1] true (lin i 4 0), .agg [.bool true x.w, .int .i64 true x.v, .int .i64 true x.f, .int .i64 true x.t], .bool true (cmp .lss x.t z.f), .top, .int .i64 true (ar .add .i64 i 1)], H := { es := [([0, 0, 5, 2], .row [.bool true x.w, .int .i64 true x.v, .int .i64 true x.f, .int .i64 true x.t] false 0), ([0], .row [.bool true z.w, .int .i64 true z.v, .int .i64 true z.f, .int .i64 true z.t] false 0), ([1], .row cs true 0)], log := [] }, c := 4, marks := [] }, [.bit (cmp .lss i len) true, .bit (cmp .geq i 0) true, .bit (cmp .lss i l0) true, .rd cs (lin i 4 0) [.bool true x.w, .int .i64 true x.v, .int .i64 true x.f, .int .i64 true x.t], .bit (cmp .lss x.t z.f) false]) := by kernel_rfl
theorem rIxW_2 (inR : Bool) (cs : List VV) (l0 len i : Int) (z x : Ac) : outC (evCode cx0 (ev cx0 60) 18 [] inR (bodyAt f18 0) (IxW_S cs l0 len i z) [.bit false]) =
    some (.exit 0, { ts := [.osl [1] 0 4 true l0, .fn 12 [] [.ptr [0] false 0], .top, .top, .top, .top, .top, .int .i64 true len, .int .i64 true i, .bool true (cmp .lss i len), .top, .top, .top, .top, .top, .top, .top, .top, .top], H := { es := [([0], .row [.bool true z.w, .int .i64 true z.v, .int .i64 true z.f, .int .i64 true z.t] false 0), ([1], .row cs true 0)], log := [] }, c := 1, marks := [] }, [.bit (cmp .lss i len) false]) := by kernel_rfl

def waitA (z y : Ac) : Bool := cmp .lss y.t z.f
def wtS (p : WtI) : Int := p.i + ((((decF p.cs).drop p.i.toNat).findIdx (waitA p.z) : Nat) : Int)
noncomputable def IxW : LSpec WtI where
  code := loopAt f18 0
  K := [[0], [1]]
  pre p := ∃ (h : List Ac) (k : Nat), p.cs = cellsA h ∧ p.len = (h.length : Int) ∧ p.l0 = (h.length : Int) ∧ p.i = (k : Int) ∧ k ≤ h.length ∧ h.length < 4611686018427387904
  two := true
  q p := ((decF p.cs).drop p.i.toNat).any (waitA p.z)
  S p := IxW_S p.cs p.l0 p.len p.i p.z
  T p b := match b with
    | true => stOf 19 [(4, .int .i64 true (wtS p))] [([0], .row [.bool true p.z.w, .int .i64 true p.z.v, .int .i64 true p.z.f, .int .i64 true p.z.t] false 0), ([1], .row p.cs true 0)]
    | false => stOf 19 [] [([0], .row [.bool true p.z.w, .int .i64 true p.z.v, .int .i64 true p.z.f, .int .i64 true p.z.t] false 0), ([1], .row p.cs true 0)]
  E _ b := match b with | true => .ret | false => .exit 0
  pat st := match Nat.beq st.ts.length 19, getT st.ts 0, getT st.ts 1, getT st.ts 7, getT st.ts 8, st.marks with
    | true, .osl n1 0 4 _ l0, .fn 12 [] [.ptr n0 _ 0], .int .i64 _ len, .int .i64 _ i, [] =>
      (match st.H.get n0, st.H.get n1 with
       | some (.row [.bool _ w, .int .i64 _ v, .int .i64 _ f, .int .i64 _ t] _ _), some (.row cs _ _) => if nmEq n1 n0 then none else some (⟨cs, l0, len, i, ⟨w, v, f, t⟩⟩, [([0], n0), ([1], n1)])
       | _, _ => none)
    | _, _, _, _, _, _ => none
theorem IxW_code : IxW.code = .loop (bodyAt f18 0) := by kernel_rfl
theorem simP_act {σ : Nm → Option Nm} (x : Ac) (s1 s2 s3 s4 : Bool) : SimP σ [.bool s1 x.w, .int .i64 s2 x.v, .int .i64 s3 x.f, .int .i64 s4 x.t] [.bool true x.w, .int .i64 true x.v, .int .i64 true x.f, .int .i64 true x.t] :=
  (SimL.cons (.bool _ _ _) (SimL.cons (.int _ _ _ _) (SimL.cons (.int _ _ _ _) (SimL.cons (.int _ _ _ _) .nil)))).pre
theorem ptr0 {σ : Nm → Option Nm} {nm nm' : Nm} {s s' : Bool} {off : Int} (h : σ nm' = some nm) (h0 : off = 0) : Sim σ (.ptr nm s off) (.ptr nm' s' 0) := by subst h0; exact .ptr _ _ _ _ _ h
theorem IxW_mem {n : Nm} (hn : n ∈ IxW.K) : n = [0] ∨ n = [1] := by simpa [IxW] using hn
theorem IxW_form : LForm IxW where
  pat st i ns h hp := by
    simp only [IxW] at h
    split at h
    · rename_i h1 h2 h3 h4 h5 h6
      split at h
      · rename_i hg0 hg1
        split at h
        · cases h
        · rename_i hne
          simp only [Option.some.injEq, Prod.mk.injEq] at h
          obtain ⟨rfl, rfl⟩ := h
          obtain ⟨hh, k, he, _⟩ := hp
          dsimp only at he
          refine ⟨stSim_of (Nat.eq_of_beq_eq_true h1) h6 (by simp only [List.map_cons, List.map_nil, distinct, memNm, Bool.or_false, Bool.not_false, Bool.and_true]; simpa using hne) (fun p hp => ?_)
            ⟨rfl, ⟨_, hg0, simP_act _ _ _ _ _⟩, rfl, ⟨_, hg1, sim_row rfl (by rw [he]; exact argL_cellsA hh)⟩, trivial⟩, h6, rfl⟩
          simp only [List.mem_cons, List.not_mem_nil, or_false] at hp
          rcases hp with rfl | rfl | rfl | rfl
          · rw [h2]; exact .osl _ _ _ _ _ _ _ rfl
          · rw [h3]; exact .fnL .nil (.cons (.ptr _ _ _ _ _ rfl) .nil)
          · rw [h4]; exact .int _ _ _ _
          · rw [h5]; exact .int _ _ _ _
      · cases h
    · cases h
  K i n hn := by
    rcases IxW_mem hn with rfl | rfl
    · exact ⟨_, rfl, trivial⟩
    · exact ⟨_, rfl, trivial⟩
  S i p hp := by
    simp only [IxW, IxW_S, stOf, List.mem_cons, List.not_mem_nil, or_false] at hp
    rcases hp with rfl | rfl <;> trivial
  T i hp := by
    obtain ⟨hh, k, he, _⟩ := hp
    have hrow : ∀ p ∈ ([([0], .row [.bool true i.z.w, .int .i64 true i.z.v, .int .i64 true i.z.f, .int .i64 true i.z.t] false 0), ([1], .row i.cs true 0)] : List (Nm × Ent Int Bool)),
        entOk (entN [([0], .row [.bool true i.z.w, .int .i64 true i.z.v, .int .i64 true i.z.f, .int .i64 true i.z.t] false 0), ([1], .row i.cs true 0)]) p.2 = true := by
      intro p hp
      simp only [List.mem_cons, List.not_mem_nil, or_false] at hp
      rcases hp with rfl | rfl
      · rfl
      · show argL i.cs = true
        rw [he]; exact argL_cellsA hh
    cases h : IxW.q i with
    | true => exact ⟨rfl, hrow, rfl, (fun n hn => by rcases IxW_mem hn with rfl | rfl <;> rfl), rfl⟩
    | false => exact ⟨rfl, hrow, rfl, (fun n hn => by rcases IxW_mem hn with rfl | rfl <;> rfl), rfl⟩
theorem rd_cells {h : List Ac} {k : Nat} {x : Ac} (hx : h[k]? = some x) : ((cellsA h).drop (4 * k)).take 4 = [.bool true x.w, .int .i64 true x.v, .int .i64 true x.f, .int .i64 true x.t] := by
  induction h generalizing k with
  | nil => simp at hx
  | cons y h ih =>
    cases k with
    | zero =>
      simp only [List.getElem?_cons_zero, Option.some.injEq] at hx
      subst hx; rfl
    | succ k =>
      have := ih (k := k) (by simpa using hx)
      have e : 4 * (k + 1) = 4 * k + 4 := by omega
      rw [e]
      exact this
theorem IxW_ok : HookOk Try.prog IxW.hook := by
  refine IxW.ok IxW_form (loopOk_of IxW cx0_ok IxW_code 18 [] (fun p => (p.len - p.i).toNat) IxW_form.K fun inR p hp => ?_) (scopeOk_loop IxW IxW_code)
  obtain ⟨cs, l0, len, i, z⟩ := p
  obtain ⟨h, k, he, hl, hl0, hi, hk, hb⟩ := hp
  dsimp only at he hl hl0 hi
  subst he hl hl0 hi
  have hKK : ∀ n ∈ IxW.K, lookN [([0], [0]), ([1], [1])] n = some n := fun n hn => by rcases IxW_mem hn with rfl | rfl <;> rfl
  have hd : ∀ j : Nat, (decF (cellsA h)).drop ((j : Int)).toNat = h.drop j := fun j => by rw [Int.toNat_natCast, decF_cells]
  by_cases hlt : k < h.length
  · have hx : h[k]? = some h[k] := List.getElem?_eq_getElem hlt
    have hdr : h.drop k = h[k] :: h.drop (k + 1) := List.drop_eq_getElem_cons hlt
    have hrd : Ob.holds (.rd (cellsA h) (lin (k : Int) 4 0) [.bool true h[k].w, .int .i64 true h[k].v, .int .i64 true h[k].f, .int .i64 true h[k].t]) := by
      refine ⟨by unfold lin; omega, ?_⟩
      have : (lin (k : Int) 4 0).toNat = 4 * k := by unfold lin; omega
      rw [this]; exact rd_cells hx
    have hls : cmp .lss (k : Int) (h.length : Int) = true := by rw [cmp_lss]; exact decide_eq_true (by omega)
    have hge : cmp .geq (k : Int) 0 = true := by rw [cmp_geq]; exact decide_eq_true (by omega)
    cases hbad : waitA z h[k] with
    | true =>
      have hq : IxW.q ⟨cellsA h, h.length, h.length, (k : Int), z⟩ = true := by simp only [IxW, hd, hdr, List.any_cons, hbad, Bool.true_or]
      refine ⟨60, _, _, _, has_outC (rIxW_0 inR (cellsA h) h.length h.length k z h[k]) ⟨hls, hge, hls, hrd, hbad, trivial⟩, hKK, .inr ⟨by simp, by rw [hq]; rfl, ?_⟩⟩
      rw [hq]
      refine stSim_of rfl rfl rfl (fun p hp => ?_) ⟨rfl, ⟨_, rfl, simP_act _ _ _ _ _⟩, rfl, ⟨_, rfl, sim_row rfl (argL_cellsA h)⟩, trivial⟩
      simp only [List.mem_cons, List.not_mem_nil, or_false] at hp
      rcases hp with rfl
      refine sim_int ?_
      simp only [wtS, hd, hdr, List.findIdx_cons, hbad, cond_true]
      omega
    | false =>
      refine ⟨60, _, _, _, has_outC (rIxW_1 inR (cellsA h) h.length h.length k z h[k]) ⟨hls, hge, hls, hrd, hbad, trivial⟩, hKK, .inl ⟨rfl, ⟨cellsA h, h.length, h.length, ((k + 1 : Nat) : Int), z⟩, ⟨h, k + 1, rfl, rfl, rfl, rfl, by omega, hb⟩, by dsimp only; omega, ?_, ?_, ?_⟩⟩
      · refine stSim_of rfl rfl rfl (fun p hp => ?_) ⟨rfl, ⟨_, rfl, simP_act _ _ _ _ _⟩, rfl, ⟨_, rfl, sim_row rfl (argL_cellsA h)⟩, trivial⟩
        simp only [List.mem_cons, List.not_mem_nil, or_false] at hp
        rcases hp with rfl | rfl | rfl | rfl
        · exact .osl _ _ _ _ _ _ _ rfl
        · exact .fnL .nil (.cons (.ptr _ _ _ _ _ rfl) .nil)
        · exact .int _ _ _ _
        · exact sim_int (by rw [ar_add (by omega) (by omega)]; omega)
      · simp only [IxW, hd, hdr, List.any_cons, hbad, Bool.false_or]
      · simp only [IxW, hd, hdr, List.any_cons, hbad, Bool.false_or, wtS, List.findIdx_cons, cond_false]
        cases (h.drop (k + 1)).any (waitA z) with
        | false => rfl
        | true => simp only [Int.natCast_add, Int.natCast_one]; congr 4; omega
  · have hkl : k = h.length := by omega
    subst hkl
    have hls : cmp .lss (h.length : Int) (h.length : Int) = false := by rw [cmp_lss]; exact decide_eq_false (by omega)
    have hq : IxW.q ⟨cellsA h, h.length, h.length, (h.length : Int), z⟩ = false := by simp only [IxW, hd, List.drop_length, List.any_nil]
    refine ⟨60, _, _, _, has_outC (rIxW_2 inR (cellsA h) h.length h.length h.length z ⟨true, 0, 0, 0⟩) ⟨hls, trivial⟩, hKK, .inr ⟨by simp, by rw [hq]; rfl, ?_⟩⟩
    rw [hq]
    exact stSim_of rfl rfl rfl (fun p hp => by cases hp) ⟨rfl, ⟨_, rfl, simP_act _ _ _ _ _⟩, rfl, ⟨_, rfl, sim_row rfl (argL_cellsA h)⟩, trivial⟩
end Go.Sx
