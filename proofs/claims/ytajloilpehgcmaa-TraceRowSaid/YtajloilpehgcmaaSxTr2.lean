/- The acts that are left, by the loop rule. Conditions: none. -/
import Derived.Test.YtajloilpehgcmaaSxTr1
set_option linter.unusedVariables false
set_option linter.unusedSimpArgs false
set_option linter.unusedSectionVars false

namespace Go.Sx
open Go.Proofs Go.Proofs.Try

def boolV (b : Bool) : VV := .bool true b
def boolOf : VV → Option Bool
  | .bool _ b => some b
  | _ => none
def decB (vs : List VV) : List Bool := vs.filterMap boolOf
theorem decB_map (d : List Bool) : decB (d.map boolV) = d := by
  unfold decB
  rw [List.filterMap_map]
  have : boolOf ∘ boolV = some := by funext x; rfl
  rw [this, List.filterMap_some]
def cellsA : List Ac → List VV
  | [] => []
  | x :: g => .bool true x.w :: .int .i64 true x.v :: .int .i64 true x.f :: .int .i64 true x.t :: cellsA g
def decF : List VV → List Ac
  | .bool _ w :: .int _ _ v :: .int _ _ f :: .int _ _ t :: r => { w := w, v := v, f := f, t := t } :: decF r
  | _ => []
theorem decF_cells : ∀ (g : List Ac), decF (cellsA g) = g
  | [] => rfl
  | x :: g => by simp only [cellsA, decF, decF_cells g]
theorem cellsA_append : ∀ (g k : List Ac), cellsA (g ++ k) = cellsA g ++ cellsA k
  | [], _ => rfl
  | x :: g, k => by simp only [List.cons_append, cellsA, cellsA_append g k]
theorem cellsA_length : ∀ (g : List Ac), (cellsA g).length = 4 * g.length
  | [] => rfl
  | x :: g => by simp only [cellsA, List.length_cons, cellsA_length g]; omega
theorem cellsA_flat : ∀ (g : List Ac), flat (g.map actV) = cellsA g
  | [] => rfl
  | x :: g => by
    show cellsOf (actV x) ++ flat (g.map actV) = _
    rw [cellsA_flat g]; rfl
theorem argL_cellsA : ∀ (g : List Ac), argL (cellsA g) = true
  | [] => rfl
  | x :: g => by simp only [cellsA, argL, argL_cellsA g, Bool.and_true]; rfl
theorem argL_bools : ∀ (d : List Bool), argL (d.map boolV) = true
  | [] => rfl
  | b :: d => by simp only [List.map_cons, argL, argL_bools d, Bool.and_true]; rfl
theorem sim_osl {σ : Nm → Option Nm} {nm nm' : Nm} {off sz : Nat} {s s' : Bool} {len len' : Int} (h : σ nm' = some nm) (hl : len = len') : Sim σ (.osl nm off sz s len) (.osl nm' off sz s' len') := by
  subst hl; exact .osl _ _ _ _ _ _ _ h
theorem sim_row {σ : Nm → Option Nm} {cs cs' : List VV} {s s' : Bool} {id id' : Nat} (h : cs = cs') (ha : argL cs = true) : EntSim σ (.row cs s id) (.row cs' s' id') := by
  subst h; exact (argL_sim ha).pre
theorem sim_rowP {σ : Nm → Option Nm} {cs cs' k : List VV} {s s' : Bool} {id id' : Nat} (h : cs = cs' ++ k) (ha : argL cs' = true) : EntSim σ (.row cs s id) (.row cs' s' id') := by
  subst h
  refine ⟨by simp, fun i u v hu hv => ?_⟩
  rw [List.getElem?_append_left (List.getElem?_eq_some_iff.1 hv).1, hv] at hu
  cases hu
  exact .arg _ (argL_get _ ha i u hv)
theorem take_one {α : Type} {l : List α} {k : Nat} {x : α} (h : l[k]? = some x) : (l.drop k).take 1 = [x] := by
  have hk := (List.getElem?_eq_some_iff.1 h).1
  have := (List.getElem?_eq_some_iff.1 h).2
  rw [List.drop_eq_getElem_cons hk, this]; rfl

structure LfI where
  es : List VV
  dn : List VV
  l0 : Int
  len : Int
  i : Int
  dl : Int
  o : Option (List VV × Int)
def nilL : VV := .isl 0 0 false 0 [] true
def Lf_S (es dn : List VV) (l0 len i dl : Int) (o : Option (List VV × Int)) : St Int Bool :=
  stOf 26 [(1, .osl [0] 0 1 true dl), (5, match o with | none => nilL | some q => .osl [1] 0 4 true q.2), (8, .isl 0 4 true l0 es false), (9, .int .i64 true len), (10, .int .i64 true i)]
    (([0], .row dn true 0) :: match o with | none => [] | some q => [([1], .row q.1 true 0)])
theorem rLf0_0 (inR : Bool) (es dn : List VV) (l0 len i dl : Int) (x : Ac) (b : Bool) : outC (evCode cx0 (ev cx0 60) 14 [] inR (bodyAt f14 0) (Lf_S es dn l0 len i dl none) [.bit true, .val (.agg [.bool true x.w, .int .i64 true x.v, .int .i64 true x.f, .int .i64 true x.t]), .val (.bool true b), .bit true]) =
    some (.nrm, { ts := [.top, .osl [0] 0 1 true dl, .top, .top, .top, .osl [3, 3] 0 4 false 1, .int .i64 true i, .ptr [3, 1] false 0, .isl 0 4 true l0 es false, .int .i64 true len, .int .i64 true (ar .add .i64 i 1), .bool true (cmp .lss i len), .int .i64 true i, .eptr [.bool true x.w, .int .i64 true x.v, .int .i64 true x.f, .int .i64 true x.t], .agg [.bool true x.w, .int .i64 true x.v, .int .i64 true x.f, .int .i64 true x.t], .osl [0] 0 1 true dl, .int .i64 true i, .ptr [0] true i, .bool true b, .bool true (!b), .isl 0 0 false 0 [] true, .agg [.bool true x.w, .int .i64 true x.v, .int .i64 true x.f, .int .i64 true x.t], .osl [2, 3] 0 4 false 1, .osl [3, 3] 0 4 false 1, .int .i64 true (ar .add .i64 i 1), .top], H := { es := [([3, 3], .row [.bool true x.w, .int .i64 true x.v, .int .i64 true x.f, .int .i64 true x.t] false 0), ([2, 3], .row [.bool true x.w, .int .i64 true x.v, .int .i64 true x.f, .int .i64 true x.t] false 0), ([3, 1], .row [.bool true x.w, .int .i64 true x.v, .int .i64 true x.f, .int .i64 true x.t] false 0), ([0], .row dn true 0)], log := [[3, 1]] }, c := 5, marks := [] }, [.bit (cmp .lss i len) true, .elem es i (.agg [.bool true x.w, .int .i64 true x.v, .int .i64 true x.f, .int .i64 true x.t]), .bit (cmp .geq i 0) true, .bit (cmp .lss i dl) true, .rd dn i [.bool true b], .bit (!b) true]) := by kernel_rfl
theorem rLf0_1 (inR : Bool) (es dn : List VV) (l0 len i dl : Int) (x : Ac) (b : Bool) : outC (evCode cx0 (ev cx0 60) 14 [] inR (bodyAt f14 0) (Lf_S es dn l0 len i dl none) [.bit true, .val (.agg [.bool true x.w, .int .i64 true x.v, .int .i64 true x.f, .int .i64 true x.t]), .val (.bool true b), .bit false]) =
    some (.nrm, { ts := [.top, .osl [0] 0 1 true dl, .top, .top, .top, .isl 0 0 false 0 [] true, .int .i64 true i, .ptr [3, 1] false 0, .isl 0 4 true l0 es false, .int .i64 true len, .int .i64 true (ar .add .i64 i 1), .bool true (cmp .lss i len), .int .i64 true i, .eptr [.bool true x.w, .int .i64 true x.v, .int .i64 true x.f, .int .i64 true x.t], .agg [.bool true x.w, .int .i64 true x.v, .int .i64 true x.f, .int .i64 true x.t], .osl [0] 0 1 true dl, .int .i64 true i, .ptr [0] true i, .bool true b, .bool true (!b), .top, .top, .top, .top, .int .i64 true (ar .add .i64 i 1), .top], H := { es := [([3, 1], .row [.bool true x.w, .int .i64 true x.v, .int .i64 true x.f, .int .i64 true x.t] false 0), ([0], .row dn true 0)], log := [[3, 1]] }, c := 4, marks := [] }, [.bit (cmp .lss i len) true, .elem es i (.agg [.bool true x.w, .int .i64 true x.v, .int .i64 true x.f, .int .i64 true x.t]), .bit (cmp .geq i 0) true, .bit (cmp .lss i dl) true, .rd dn i [.bool true b], .bit (!b) false]) := by kernel_rfl
theorem rLf0_2 (inR : Bool) (es dn : List VV) (l0 len i dl : Int) (x : Ac) (b : Bool) : outC (evCode cx0 (ev cx0 60) 14 [] inR (bodyAt f14 0) (Lf_S es dn l0 len i dl none) [.bit false]) =
    some (.exit 0, { ts := [.top, .osl [0] 0 1 true dl, .top, .top, .top, .isl 0 0 false 0 [] true, .top, .top, .isl 0 4 true l0 es false, .int .i64 true len, .int .i64 true i, .bool true (cmp .lss i len), .top, .top, .top, .top, .top, .top, .top, .top, .top, .top, .top, .top, .top, .top], H := { es := [([0], .row dn true 0)], log := [] }, c := 1, marks := [] }, [.bit (cmp .lss i len) false]) := by kernel_rfl
theorem rLf1_0 (inR : Bool) (es dn ou : List VV) (l0 len i dl ol : Int) (x : Ac) (b : Bool) : outC (evCode cx0 (ev cx0 60) 14 [] inR (bodyAt f14 0) (Lf_S es dn l0 len i dl (some (ou, ol))) [.bit true, .val (.agg [.bool true x.w, .int .i64 true x.v, .int .i64 true x.f, .int .i64 true x.t]), .val (.bool true b), .bit true]) =
    some (.nrm, { ts := [.top, .osl [0] 0 1 true dl, .top, .top, .top, .osl [3, 3] 0 4 true (pls ol 1), .int .i64 true i, .ptr [3, 1] false 0, .isl 0 4 true l0 es false, .int .i64 true len, .int .i64 true (ar .add .i64 i 1), .bool true (cmp .lss i len), .int .i64 true i, .eptr [.bool true x.w, .int .i64 true x.v, .int .i64 true x.f, .int .i64 true x.t], .agg [.bool true x.w, .int .i64 true x.v, .int .i64 true x.f, .int .i64 true x.t], .osl [0] 0 1 true dl, .int .i64 true i, .ptr [0] true i, .bool true b, .bool true (!b), .osl [1] 0 4 true ol, .agg [.bool true x.w, .int .i64 true x.v, .int .i64 true x.f, .int .i64 true x.t], .osl [2, 3] 0 4 false 1, .osl [3, 3] 0 4 true (pls ol 1), .int .i64 true (ar .add .i64 i 1), .top], H := { es := [([3, 3], .row (ou ++ [.bool true x.w, .int .i64 true x.v, .int .i64 true x.f, .int .i64 true x.t]) true 0), ([2, 3], .row [.bool true x.w, .int .i64 true x.v, .int .i64 true x.f, .int .i64 true x.t] false 0), ([3, 1], .row [.bool true x.w, .int .i64 true x.v, .int .i64 true x.f, .int .i64 true x.t] false 0), ([0], .row dn true 0), ([1], .dead)], log := [[1], [3, 1]] }, c := 5, marks := [] }, [.bit (cmp .lss i len) true, .elem es i (.agg [.bool true x.w, .int .i64 true x.v, .int .i64 true x.f, .int .i64 true x.t]), .bit (cmp .geq i 0) true, .bit (cmp .lss i dl) true, .rd dn i [.bool true b], .bit (!b) true, .bit (cmp .geq ol 0) true, .bit (cmp .leq ol 1048576) true, .idx (lin ol 4 0) (ou.length)]) := by kernel_rfl
theorem rLf1_1 (inR : Bool) (es dn ou : List VV) (l0 len i dl ol : Int) (x : Ac) (b : Bool) : outC (evCode cx0 (ev cx0 60) 14 [] inR (bodyAt f14 0) (Lf_S es dn l0 len i dl (some (ou, ol))) [.bit true, .val (.agg [.bool true x.w, .int .i64 true x.v, .int .i64 true x.f, .int .i64 true x.t]), .val (.bool true b), .bit false]) =
    some (.nrm, { ts := [.top, .osl [0] 0 1 true dl, .top, .top, .top, .osl [1] 0 4 true ol, .int .i64 true i, .ptr [3, 1] false 0, .isl 0 4 true l0 es false, .int .i64 true len, .int .i64 true (ar .add .i64 i 1), .bool true (cmp .lss i len), .int .i64 true i, .eptr [.bool true x.w, .int .i64 true x.v, .int .i64 true x.f, .int .i64 true x.t], .agg [.bool true x.w, .int .i64 true x.v, .int .i64 true x.f, .int .i64 true x.t], .osl [0] 0 1 true dl, .int .i64 true i, .ptr [0] true i, .bool true b, .bool true (!b), .top, .top, .top, .top, .int .i64 true (ar .add .i64 i 1), .top], H := { es := [([3, 1], .row [.bool true x.w, .int .i64 true x.v, .int .i64 true x.f, .int .i64 true x.t] false 0), ([0], .row dn true 0), ([1], .row ou true 0)], log := [[3, 1]] }, c := 4, marks := [] }, [.bit (cmp .lss i len) true, .elem es i (.agg [.bool true x.w, .int .i64 true x.v, .int .i64 true x.f, .int .i64 true x.t]), .bit (cmp .geq i 0) true, .bit (cmp .lss i dl) true, .rd dn i [.bool true b], .bit (!b) false]) := by kernel_rfl
theorem rLf1_2 (inR : Bool) (es dn ou : List VV) (l0 len i dl ol : Int) (x : Ac) (b : Bool) : outC (evCode cx0 (ev cx0 60) 14 [] inR (bodyAt f14 0) (Lf_S es dn l0 len i dl (some (ou, ol))) [.bit false]) =
    some (.exit 0, { ts := [.top, .osl [0] 0 1 true dl, .top, .top, .top, .osl [1] 0 4 true ol, .top, .top, .isl 0 4 true l0 es false, .int .i64 true len, .int .i64 true i, .bool true (cmp .lss i len), .top, .top, .top, .top, .top, .top, .top, .top, .top, .top, .top, .top, .top, .top], H := { es := [([0], .row dn true 0), ([1], .row ou true 0)], log := [] }, c := 1, marks := [] }, [.bit (cmp .lss i len) false]) := by kernel_rfl

/-- What is left, with what was there. -/
def outA (p : LfI) : List Ac := (match p.o with | none => [] | some q => decF q.1) ++ leftS (decA (p.es.drop p.i.toNat)) (decB (p.dn.drop p.i.toNat))
noncomputable def Lf : LSpec LfI where
  code := loopAt f14 0
  K := [[0]]
  pre p := ∃ (h : List Ac) (d : List Bool) (k : Nat), p.es = h.map actV ∧ p.dn = d.map boolV ∧ p.len = (h.length : Int) ∧ p.dl = (d.length : Int) ∧ d.length = h.length ∧ p.i = (k : Int) ∧ k ≤ h.length ∧ h.length ≤ 1000 ∧
    (match p.o with | none => True | some q => ∃ g : List Ac, q.1 = cellsA g ∧ q.2 = (g.length : Int) ∧ g.length ≤ k)
  two := true
  q p := (match p.o with | none => true | some _ => false) && (outA p).isEmpty
  S p := Lf_S p.es p.dn p.l0 p.len p.i p.dl p.o
  T p b := match b with
    | true => stOf 26 [(5, nilL)] [([0], .row p.dn true 0)]
    | false => stOf 26 [(5, .osl [1] 0 4 true ((outA p).length : Int))] [([0], .row p.dn true 0), ([1], .row (cellsA (outA p)) true 0)]
  E _ _ := .exit 0
  pat st := match Nat.beq st.ts.length 26, getT st.ts 1, getT st.ts 5, getT st.ts 8, getT st.ts 9, getT st.ts 10, st.marks with
    | true, .osl n0 0 1 _ dl, .isl 0 0 false z [] true, .isl _ 4 _ l0 es _, .int .i64 _ len, .int .i64 _ i, [] =>
      (match st.H.get n0 with
       | some (.row dn _ _) => if z = 0 then some (⟨es, dn, l0, len, i, dl, none⟩, [([0], n0)]) else none
       | _ => none)
    | _, _, _, _, _, _, _ => none
theorem Lf_code : Lf.code = .loop (bodyAt f14 0) := by kernel_rfl

theorem Lf_form : LForm Lf where
  pat st i ns h hp := by
    simp only [Lf] at h
    split at h
    · rename_i h1 h2 h3 h4 h5 h6 h7
      split at h
      · rename_i hg
        split at h
        · rename_i hz
          subst hz
          simp only [Option.some.injEq, Prod.mk.injEq] at h
          obtain ⟨rfl, rfl⟩ := h
          obtain ⟨hh, d, k, he, hd, _⟩ := hp
          dsimp only at he hd
          refine ⟨stSim_of (Nat.eq_of_beq_eq_true h1) h7 rfl (fun p hp => ?_) ⟨rfl, ⟨_, hg, sim_row rfl (by rw [hd]; exact argL_bools d)⟩, trivial⟩, h7, rfl⟩
          simp only [List.mem_cons, List.not_mem_nil, or_false] at hp
          rcases hp with rfl | rfl | rfl | rfl | rfl
          · rw [h2]; exact .osl _ _ _ _ _ _ _ rfl
          · rw [h3]; exact .arg _ rfl
          · rw [h4]; exact .isl _ _ _ _ _ _ _ _ (by rw [he]; exact argL_map hh)
          · rw [h5]; exact .int _ _ _ _
          · rw [h6]; exact .int _ _ _ _
        · cases h
      · cases h
    · cases h
  K i n hn := by
    have : n = [0] := by simpa [Lf] using hn
    subst this
    exact ⟨.row i.dn true 0, rfl, trivial⟩
  S i p hp := by
    simp only [Lf, Lf_S, stOf, List.mem_cons] at hp
    rcases hp with rfl | hp
    · trivial
    · split at hp
      · cases hp
      · simp only [List.mem_singleton] at hp
        subst hp; trivial
  T i hp := by
    obtain ⟨hh, d, k, he, hd, _⟩ := hp
    cases h : Lf.q i with
    | true =>
      refine ⟨rfl, fun p hp => ?_, rfl, fun n hn => ?_, rfl⟩
      · simp only [Lf, stOf, List.mem_singleton] at hp
        subst hp
        show argL i.dn = true
        rw [hd]; exact argL_bools d
      · have : n = [0] := by simpa [Lf] using hn
        subst this; rfl
    | false =>
      refine ⟨rfl, fun p hp => ?_, rfl, fun n hn => ?_, rfl⟩
      · simp only [Lf, stOf, List.mem_cons, List.not_mem_nil, or_false] at hp
        rcases hp with rfl | rfl
        · show argL i.dn = true
          rw [hd]; exact argL_bools d
        · exact argL_cellsA _
      · have : n = [0] := by simpa [Lf] using hn
        subst this; rfl
theorem Lf_ok : HookOk Try.prog Lf.hook := by
  refine Lf.ok Lf_form (loopOk_of Lf cx0_ok Lf_code 14 [] (fun p => (p.len - p.i).toNat) Lf_form.K fun inR p hp => ?_) (scopeOk_loop Lf Lf_code)
  obtain ⟨es, dn, l0, len, i, dl, o⟩ := p
  obtain ⟨h, d, k, he, hdn, hl, hdl, hdh, hi, hk, hb, ho⟩ := hp
  dsimp only at he hdn hl hdl hi ho
  subst he hdn hl hdl hi
  have hd1 : ∀ j : Nat, decA ((h.map actV).drop ((j : Int)).toNat) = h.drop j := fun j => by rw [Int.toNat_natCast, ← List.map_drop, decA_map]
  have hd2 : ∀ j : Nat, decB ((d.map boolV).drop ((j : Int)).toNat) = d.drop j := fun j => by rw [Int.toNat_natCast, ← List.map_drop, decB_map]
  by_cases hlt : k < h.length
  · have hx : h[k]? = some h[k] := List.getElem?_eq_getElem hlt
    have hkd : k < d.length := by omega
    have hy : d[k]? = some d[k] := List.getElem?_eq_getElem hkd
    have hdr : h.drop k = h[k] :: h.drop (k + 1) := List.drop_eq_getElem_cons hlt
    have hdr2 : d.drop k = d[k] :: d.drop (k + 1) := List.drop_eq_getElem_cons hkd
    have hel : Ob.holds (.elem (h.map actV) (k : Int) (actV h[k])) := ⟨by omega, by rw [Int.toNat_natCast, List.getElem?_map, hx]; rfl⟩
    have hrd : Ob.holds (.rd (d.map boolV) (k : Int) [boolV d[k]]) := ⟨by omega, by rw [Int.toNat_natCast]; exact take_one (by rw [List.getElem?_map, hy]; rfl)⟩
    have hls : cmp .lss (k : Int) (h.length : Int) = true := by rw [cmp_lss]; exact decide_eq_true (by omega)
    have hls2 : cmp .lss (k : Int) (d.length : Int) = true := by rw [cmp_lss]; exact decide_eq_true (by omega)
    have hge : cmp .geq (k : Int) 0 = true := by rw [cmp_geq]; exact decide_eq_true (by omega)
    have hin : (k : Int) + 1 = ((k + 1 : Nat) : Int) := by omega
    have hadd : ar .add .i64 (k : Int) 1 = ((k + 1 : Nat) : Int) := by rw [ar_add (by omega) (by omega)]; omega
    have hmu : ((h.length : Int) - ((k + 1 : Nat) : Int)).toNat < ((h.length : Int) - (k : Int)).toNat := by omega
    cases hbd : d[k] with
    | true =>
      have hout : ∀ o, outA ⟨h.map actV, d.map boolV, l0, h.length, ((k + 1 : Nat) : Int), d.length, o⟩ = outA ⟨h.map actV, d.map boolV, l0, h.length, (k : Int), d.length, o⟩ := fun o => by
        simp only [outA, hd1, hd2, hdr, hdr2, hbd, leftS, if_true]
      have hqe : ∀ o, Lf.q ⟨h.map actV, d.map boolV, l0, h.length, ((k + 1 : Nat) : Int), d.length, o⟩ = Lf.q ⟨h.map actV, d.map boolV, l0, h.length, (k : Int), d.length, o⟩ := fun o => by
        simp only [Lf, hout]
      have hTe : ∀ o, Lf.T ⟨h.map actV, d.map boolV, l0, h.length, ((k + 1 : Nat) : Int), d.length, o⟩ = Lf.T ⟨h.map actV, d.map boolV, l0, h.length, (k : Int), d.length, o⟩ := fun o => by
        funext b; simp only [Lf, hout]
      rw [hbd] at hrd
      cases o with
      | none =>
        refine ⟨60, _, _, lookN [([0], [0])], has_outC (rLf0_1 inR (h.map actV) (d.map boolV) l0 h.length k d.length h[k] true) ⟨hls, hel, hge, hls2, hrd, rfl, trivial⟩, (fun n hn => by
            have : n = [0] := by simpa [Lf] using hn
            subst this; rfl),
          .inl ⟨rfl, ⟨h.map actV, d.map boolV, l0, h.length, ((k + 1 : Nat) : Int), d.length, none⟩, ⟨h, d, k + 1, rfl, rfl, rfl, rfl, hdh, rfl, by omega, hb, trivial⟩, hmu, ?_, rfl, by rw [hqe, hTe]⟩⟩
        refine stSim_of rfl rfl rfl (fun p hp => ?_) ⟨rfl, ⟨_, rfl, sim_row rfl (argL_bools d)⟩, trivial⟩
        simp only [List.mem_cons, List.not_mem_nil, or_false] at hp
        rcases hp with rfl | rfl | rfl | rfl | rfl
        · exact .osl _ _ _ _ _ _ _ rfl
        · exact .arg _ rfl
        · exact .isl _ _ _ _ _ _ _ _ (argL_map h)
        · exact .int _ _ _ _
        · exact sim_int hadd
      | some q =>
        obtain ⟨ou, ol⟩ := q
        obtain ⟨g, hg1, hg2, hg3⟩ := ho
        dsimp only at hg1 hg2
        subst hg1 hg2
        refine ⟨60, _, _, lookN [([0], [0]), ([1], [1])], has_outC (rLf1_1 inR (h.map actV) (d.map boolV) (cellsA g) l0 h.length k d.length g.length h[k] true) ⟨hls, hel, hge, hls2, hrd, rfl, trivial⟩, (fun n hn => by
            have : n = [0] := by simpa [Lf] using hn
            subst this; rfl),
          .inl ⟨rfl, ⟨h.map actV, d.map boolV, l0, h.length, ((k + 1 : Nat) : Int), d.length, some (cellsA g, g.length)⟩, ⟨h, d, k + 1, rfl, rfl, rfl, rfl, hdh, rfl, by omega, hb, g, rfl, rfl, by omega⟩, hmu, ?_, rfl, by rw [hqe, hTe]⟩⟩
        refine stSim_of rfl rfl rfl (fun p hp => ?_) ⟨rfl, ⟨_, rfl, sim_row rfl (argL_bools d)⟩, rfl, ⟨_, rfl, sim_row rfl (argL_cellsA g)⟩, trivial⟩
        simp only [List.mem_cons, List.not_mem_nil, or_false] at hp
        rcases hp with rfl | rfl | rfl | rfl | rfl
        · exact .osl _ _ _ _ _ _ _ rfl
        · exact .osl _ _ _ _ _ _ _ rfl
        · exact .isl _ _ _ _ _ _ _ _ (argL_map h)
        · exact .int _ _ _ _
        · exact sim_int hadd
    | false =>
      rw [hbd] at hrd
      have hl2 : leftS (h.drop k) (d.drop k) = h[k] :: leftS (h.drop (k + 1)) (d.drop (k + 1)) := by
        rw [hdr, hdr2, hbd]; rfl
      cases o with
      | none =>
        have e1 : outA ⟨h.map actV, d.map boolV, l0, h.length, ((k + 1 : Nat) : Int), d.length, some (cellsA [h[k]], 1)⟩ = outA ⟨h.map actV, d.map boolV, l0, h.length, (k : Int), d.length, none⟩ := by
          simp only [outA, hd1, hd2, hl2, decF_cells]; rfl
        have q1 : Lf.q ⟨h.map actV, d.map boolV, l0, h.length, (k : Int), d.length, none⟩ = false := by
          simp only [Lf, outA, hd1, hd2, hl2]; rfl
        refine ⟨60, _, _, lookN [([0], [0]), ([1], [3, 3])], has_outC (rLf0_0 inR (h.map actV) (d.map boolV) l0 h.length k d.length h[k] false) ⟨hls, hel, hge, hls2, hrd, rfl, trivial⟩, (fun n hn => by
            have : n = [0] := by simpa [Lf] using hn
            subst this; rfl),
          .inl ⟨rfl, ⟨h.map actV, d.map boolV, l0, h.length, ((k + 1 : Nat) : Int), d.length, some (cellsA [h[k]], 1)⟩, ⟨h, d, k + 1, rfl, rfl, rfl, rfl, hdh, rfl, by omega, hb, [h[k]], rfl, rfl, by simp⟩, hmu, ?_, rfl, ?_⟩⟩
        · refine stSim_of rfl rfl rfl (fun p hp => ?_) ⟨rfl, ⟨_, rfl, sim_row rfl (argL_bools d)⟩, rfl, ⟨_, rfl, sim_row rfl rfl⟩, trivial⟩
          simp only [List.mem_cons, List.not_mem_nil, or_false] at hp
          rcases hp with rfl | rfl | rfl | rfl | rfl
          · exact .osl _ _ _ _ _ _ _ rfl
          · exact .osl _ _ _ _ _ _ _ rfl
          · exact .isl _ _ _ _ _ _ _ _ (argL_map h)
          · exact .int _ _ _ _
          · exact sim_int hadd
        · rw [q1]
          have q2 : Lf.q ⟨h.map actV, d.map boolV, l0, h.length, ((k + 1 : Nat) : Int), d.length, some (cellsA [h[k]], 1)⟩ = false := rfl
          rw [q2]
          simp only [Lf, e1]
      | some q =>
        obtain ⟨ou, ol⟩ := q
        obtain ⟨g, hg1, hg2, hg3⟩ := ho
        dsimp only at hg1 hg2
        subst hg1 hg2
        have e1 : outA ⟨h.map actV, d.map boolV, l0, h.length, ((k + 1 : Nat) : Int), d.length, some (cellsA (g ++ [h[k]]), ((g ++ [h[k]]).length : Int))⟩ = outA ⟨h.map actV, d.map boolV, l0, h.length, (k : Int), d.length, some (cellsA g, (g.length : Int))⟩ := by
          simp only [outA, hd1, hd2, hl2, decF_cells, List.append_assoc]; rfl
        refine ⟨60, _, _, lookN [([0], [0]), ([1], [3, 3])], has_outC (rLf1_0 inR (h.map actV) (d.map boolV) (cellsA g) l0 h.length k d.length g.length h[k] false) ⟨hls, hel, hge, hls2, hrd, rfl, ?_, ?_, ?_, trivial⟩, (fun n hn => by
            have : n = [0] := by simpa [Lf] using hn
            subst this; rfl),
          .inl ⟨rfl, ⟨h.map actV, d.map boolV, l0, h.length, ((k + 1 : Nat) : Int), d.length, some (cellsA (g ++ [h[k]]), ((g ++ [h[k]]).length : Int))⟩, ⟨h, d, k + 1, rfl, rfl, rfl, rfl, hdh, rfl, by omega, hb, g ++ [h[k]], rfl, rfl, by simp; omega⟩, hmu, ?_, rfl, ?_⟩⟩
        · show cmp .geq (g.length : Int) 0 = true
          rw [cmp_geq]; exact decide_eq_true (by omega)
        · show cmp .leq (g.length : Int) 1048576 = true
          rw [cmp_leq]; exact decide_eq_true (by omega)
        · show lin (g.length : Int) 4 0 = (((cellsA g).length : Nat) : Int)
          rw [cellsA_length]; unfold lin; omega
        · refine stSim_of rfl rfl rfl (fun p hp => ?_) ⟨rfl, ⟨_, rfl, sim_row rfl (argL_bools d)⟩, rfl, ⟨_, rfl, sim_row (cellsA_append g [h[k]]).symm (argL_append _ _ (argL_cellsA g) rfl)⟩, trivial⟩
          simp only [List.mem_cons, List.not_mem_nil, or_false] at hp
          rcases hp with rfl | rfl | rfl | rfl | rfl
          · exact .osl _ _ _ _ _ _ _ rfl
          · exact sim_osl rfl (by show pls (g.length : Int) 1 = _; unfold pls; simp)
          · exact .isl _ _ _ _ _ _ _ _ (argL_map h)
          · exact .int _ _ _ _
          · exact sim_int hadd
        · simp only [Lf, e1]
  · have hkl : k = h.length := by omega
    subst hkl
    have hls : cmp .lss (h.length : Int) (h.length : Int) = false := by rw [cmp_lss]; exact decide_eq_false (by omega)
    have hout : ∀ o, outA ⟨h.map actV, d.map boolV, l0, h.length, (h.length : Int), d.length, o⟩ = (match o with | none => [] | some q => decF q.1) := fun o => by
      simp only [outA, hd1, hd2, List.drop_length, leftS, List.append_nil]
    cases o with
    | none =>
      have hq : Lf.q ⟨h.map actV, d.map boolV, l0, h.length, (h.length : Int), d.length, none⟩ = true := by simp only [Lf, hout]; rfl
      refine ⟨60, _, _, lookN [([0], [0])], has_outC (rLf0_2 inR (h.map actV) (d.map boolV) l0 h.length h.length d.length ⟨true, 0, 0, 0⟩ true) ⟨hls, trivial⟩, (fun n hn => by
            have : n = [0] := by simpa [Lf] using hn
            subst this; rfl), .inr ⟨by simp, rfl, ?_⟩⟩
      rw [hq]
      refine stSim_of rfl rfl rfl (fun p hp => ?_) ⟨rfl, ⟨_, rfl, sim_row rfl (argL_bools d)⟩, trivial⟩
      simp only [List.mem_cons, List.not_mem_nil, or_false] at hp
      rcases hp with rfl
      exact .arg _ rfl
    | some q =>
      obtain ⟨ou, ol⟩ := q
      obtain ⟨g, hg1, hg2, hg3⟩ := ho
      dsimp only at hg1 hg2
      subst hg1 hg2
      have hq : Lf.q ⟨h.map actV, d.map boolV, l0, h.length, (h.length : Int), d.length, some (cellsA g, (g.length : Int))⟩ = false := rfl
      refine ⟨60, _, _, lookN [([0], [0]), ([1], [1])], has_outC (rLf1_2 inR (h.map actV) (d.map boolV) (cellsA g) l0 h.length h.length d.length g.length ⟨true, 0, 0, 0⟩ true) ⟨hls, trivial⟩, (fun n hn => by
            have : n = [0] := by simpa [Lf] using hn
            subst this; rfl), .inr ⟨by simp, rfl, ?_⟩⟩
      rw [hq]
      have ho2 := hout (some (cellsA g, (g.length : Int)))
      dsimp only at ho2
      rw [decF_cells] at ho2
      refine stSim_of rfl rfl rfl (fun p hp => ?_) ⟨rfl, ⟨_, rfl, sim_row rfl (argL_bools d)⟩, rfl, ⟨_, rfl, sim_row (by rw [ho2]) (argL_cellsA g)⟩, trivial⟩
      simp only [List.mem_cons, List.not_mem_nil, or_false] at hp
      rcases hp with rfl
      exact sim_osl rfl (by rw [ho2])
end Go.Sx
