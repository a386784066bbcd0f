/- seek's loop, by the loop rule, one act after the other. Conditions: none. -/
import Derived.Test.YtajloilpehgcmaaSxTr3
set_option linter.unusedVariables false
set_option linter.unusedSimpArgs false
set_option linter.unusedSectionVars false

namespace Go.Sx
open Go.Proofs Go.Proofs.Try

def natV (k : Nat) : VV := .int .i64 true (k : Int)
structure SkI where
  es : List VV
  er : List VV
  dn : List VV
  l1 : Int
  l0 : Int
  len : Int
  i : Int
  dl : Int
  now : Int
  o : Option (List VV × Int)
  tp : Bool
def hS (p : SkI) : List Ac := decA p.es
def dS (p : SkI) : List Bool := decB p.dn
def gS (p : SkI) : Nat := match p.o with | none => 0 | some q => q.2.toNat
def resS (p : SkI) : Option (List Nat) := fromS (hS p) ((hS p).length - gS p - 1) (dS p) p.now p.i.toNat
def ordS (p : SkI) : List VV := match p.o with | none => [] | some q => q.1
def olS (p : SkI) : Int := match p.o with | none => 0 | some q => q.2
def fndS (p : SkI) : List VV := ordS p ++ ((resS p).getD []).map natV
def seekFn : VV := .fn 11 [] [.ptr [0] false 0, .ptr [1] false 0, .ptr [2] false 0, .ptr [3] false 0]
def Sk_S (es er dn : List VV) (l1 l0 len i dl now : Int) (o : Option (List VV × Int)) : St Int Bool :=
  stOf 70 [(0, .int .i64 true now), (1, .ptr [0] false 0), (2, .ptr [1] false 0), (3, .ptr [2] false 0), (4, .ptr [3] false 0), (16, .isl 0 4 true l1 es false), (17, .int .i64 true len), (18, .int .i64 true i)]
    (([0], .row [match o with | none => nilL | some q => .osl [5] 0 1 true q.2] false 0) :: ([1], .row [.isl 0 4 true l0 er false] false 0) :: ([2], .row [.osl [4] 0 1 true dl] false 0) :: ([3], .row [seekFn] false 0) :: ([4], .row dn true 0) ::
      match o with | none => [] | some q => [([5], .row q.1 true 0)])
noncomputable def Sk (m : Nat) : LSpec SkI where
  code := loopAt f11 0
  K := [[0], [1], [2], [3], [4]]
  pre p := ∃ (h : List Ac) (d : List Bool) (g k : Nat), p.es = h.map actV ∧ p.er = h.map actV ∧ p.dn = d.map boolV ∧ p.l0 = (h.length : Int) ∧ p.len = (h.length : Int) ∧ p.dl = (d.length : Int) ∧ d.length = h.length ∧ p.i = (k : Int) ∧ k ≤ h.length ∧ h.length ≤ 1000 ∧
    g < h.length ∧ h.length - g ≤ m ∧ (match p.o with | none => g = 0 ∧ p.tp = true | some q => ∃ od : List Nat, q.1 = od.map natV ∧ od.length = g ∧ q.2 = (g : Int))
  two := true
  q p := (resS p).isSome
  S p := Sk_S p.es p.er p.dn p.l1 p.l0 p.len p.i p.dl p.now p.o
  T p b := match b, p.tp with
    | true, _ => stOf 70 [(6, .bool false true)] [([0], .row [.osl [5] 0 1 true ((fndS p).length : Int)] false 0), ([1], .row [.isl 0 4 true p.l0 p.er false] false 0), ([2], .row [.osl [4] 0 1 true p.dl] false 0), ([3], .row [seekFn] false 0), ([4], .row [] false 0), ([5], .row (fndS p) true 0)]
    | false, true => stOf 70 [] [([0], .row [.top] false 0), ([1], .row [.isl 0 4 true p.l0 p.er false] false 0), ([2], .row [.osl [4] 0 1 true p.dl] false 0), ([3], .row [seekFn] false 0), ([4], .row p.dn true 0)]
    | false, false => stOf 70 [] [([0], .row [.osl [5] 0 1 true (olS p)] false 0), ([1], .row [.isl 0 4 true p.l0 p.er false] false 0), ([2], .row [.osl [4] 0 1 true p.dl] false 0), ([3], .row [seekFn] false 0), ([4], .row p.dn true 0), ([5], .row (ordS p) true 0)]
  E _ b := match b with | true => .ret | false => .exit 0
  pat st := match Nat.beq st.ts.length 70, getT st.ts 0, getT st.ts 1, getT st.ts 2, getT st.ts 3, getT st.ts 4, getT st.ts 16, getT st.ts 17, getT st.ts 18, st.marks with
    | true, .int .i64 _ now, .ptr n0 _ 0, .ptr n1 _ 0, .ptr n2 _ 0, .ptr n3 _ 0, .isl _ 4 _ l1 es _, .int .i64 _ len, .int .i64 _ i, [] =>
      (match st.H.get n0, st.H.get n1, st.H.get n2, st.H.get n3 with
       | some (.row [c0] _ _), some (.row [.isl _ 4 _ l0 er _] _ _), some (.row [.osl n4 0 1 _ dl] _ _), some (.row [.fn 11 [] [.ptr a0 _ 0, .ptr a1 _ 0, .ptr a2 _ 0, .ptr a3 _ 0]] _ _) =>
         (match st.H.get n4, nmEq a0 n0 && nmEq a1 n1 && nmEq a2 n2 && nmEq a3 n3 with
          | some (.row dn _ _), true =>
            (match c0 with
             | .isl 0 0 false z [] true => if z = 0 then (if distinct [n0, n1, n2, n3, n4] = true then some (⟨es, er, dn, l1, l0, len, i, dl, now, none, true⟩, [([0], n0), ([1], n1), ([2], n2), ([3], n3), ([4], n4)]) else none) else none
             | .osl n5 0 1 _ ol =>
               (match st.H.get n5 with
                | some (.row od _ _) => if distinct [n0, n1, n2, n3, n4, n5] = true then some (⟨es, er, dn, l1, l0, len, i, dl, now, some (od, ol), false⟩, [([0], n0), ([1], n1), ([2], n2), ([3], n3), ([4], n4), ([5], n5)]) else none
                | _ => none)
             | _ => none)
          | _, _ => none)
       | _, _, _, _ => none)
    | _, _, _, _, _, _, _, _, _, _ => none
noncomputable abbrev cxS (m : Nat) : Cx Int Bool := cxR Try.prog [] [Lf.hook, IxW.hook, (Sk m).hook]

theorem rSk0_0 (inR : Bool) (m : Nat) (es er dn : List VV) (l1 l0 len i dl now : Int) (x : Ac) (b : Bool) : outC (evCode (cxS m) (ev (cxS m) 60) 11 [] inR (bodyAt f11 0) (Sk_S es er dn l1 l0 len i dl now none) [.bit true, .val (.agg [.bool true x.w, .int .i64 true x.v, .int .i64 true x.f, .int .i64 true x.t]), .val (.bool true b), .bit true]) =
    some (.nrm, { ts := [.int .i64 true now, .ptr [0] false 0, .ptr [1] false 0, .ptr [2] false 0, .ptr [3] false 0, .top, .top, .int .i64 true i, .ptr [3, 1] false 0, .fn 12 [] [.ptr [3, 1] false 0], .top, .top, .top, .top, .top, .top, .isl 0 4 true l1 es false, .int .i64 true len, .int .i64 true (ar .add .i64 i 1), .bool true (cmp .lss i len), .int .i64 true i, .eptr [.bool true x.w, .int .i64 true x.v, .int .i64 true x.f, .int .i64 true x.t], .agg [.bool true x.w, .int .i64 true x.v, .int .i64 true x.f, .int .i64 true x.t], .fn 12 [] [.ptr [3, 1] false 0], .osl [4] 0 1 true dl, .int .i64 true i, .ptr [4] true i, .bool true b, .bool false true, .undef, .undef, .undef, .undef, .undef, .undef, .undef, .undef, .undef, .bool false true, .bool false true, .undef, .undef, .undef, .undef, .undef, .bool false true, .top, .top, .top, .top, .top, .top, .top, .top, .top, .top, .top, .top, .top, .top, .top, .top, .top, .top, .top, .top, .top, .top, .top, .int .i64 true (ar .add .i64 i 1)], H := { es := [([3, 1], .row [.bool true x.w, .int .i64 true x.v, .int .i64 true x.f, .int .i64 true x.t] false 0), ([0], .row [.isl 0 0 false 0 [] true] false 0), ([1], .row [.isl 0 4 true l0 er false] false 0), ([2], .row [.osl [4] 0 1 true dl] false 0), ([3], .row [.fn 11 [] [.ptr [0] false 0, .ptr [1] false 0, .ptr [2] false 0, .ptr [3] false 0]] false 0), ([4], .row dn true 0)], log := [[3, 1]] }, c := 5, marks := [] }, [.bit (cmp .lss i len) true, .elem es i (.agg [.bool true x.w, .int .i64 true x.v, .int .i64 true x.f, .int .i64 true x.t]), .bit (cmp .geq i 0) true, .bit (cmp .lss i dl) true, .rd dn i [.bool true b], .bit b true]) := by kernel_rfl
theorem rSk0_1 (inR : Bool) (m : Nat) (es er dn : List VV) (l1 l0 len i dl now : Int) (x : Ac) (b : Bool) : outC (evCode (cxS m) (ev (cxS m) 60) 11 [] inR (bodyAt f11 0) (Sk_S es er dn l1 l0 len i dl now none) [.bit true, .val (.agg [.bool true x.w, .int .i64 true x.v, .int .i64 true x.f, .int .i64 true x.t]), .val (.bool true b), .bit false, .bit true, .bit true]) =
    some (.nrm, { ts := [.int .i64 true now, .ptr [0] false 0, .ptr [1] false 0, .ptr [2] false 0, .ptr [3] false 0, .top, .top, .int .i64 true i, .ptr [3, 1] false 0, .fn 12 [] [.ptr [3, 1] false 0], .top, .top, .top, .top, .top, .top, .isl 0 4 true l1 es false, .int .i64 true len, .int .i64 true (ar .add .i64 i 1), .bool true (cmp .lss i len), .int .i64 true i, .eptr [.bool true x.w, .int .i64 true x.v, .int .i64 true x.f, .int .i64 true x.t], .agg [.bool true x.w, .int .i64 true x.v, .int .i64 true x.f, .int .i64 true x.t], .fn 12 [] [.ptr [3, 1] false 0], .osl [4] 0 1 true dl, .int .i64 true i, .ptr [4] true i, .bool true b, .bool false false, .ptr [3, 1] false 0, .bool true x.w, .bool true (!x.w), .bool false true, .ptr [3, 1] false 1, .int .i64 true x.v, .int .i64 true now, .bool true (cmp .neq x.v now), .bool true (cmp .neq x.v now), .bool true (cmp .neq x.v now), .bool false true, .undef, .undef, .undef, .undef, .undef, .bool false true, .top, .top, .top, .top, .top, .top, .top, .top, .top, .top, .top, .top, .top, .top, .top, .top, .top, .top, .top, .top, .top, .top, .top, .int .i64 true (ar .add .i64 i 1)], H := { es := [([3, 1], .row [.bool true x.w, .int .i64 true x.v, .int .i64 true x.f, .int .i64 true x.t] false 0), ([0], .row [.isl 0 0 false 0 [] true] false 0), ([1], .row [.isl 0 4 true l0 er false] false 0), ([2], .row [.osl [4] 0 1 true dl] false 0), ([3], .row [.fn 11 [] [.ptr [0] false 0, .ptr [1] false 0, .ptr [2] false 0, .ptr [3] false 0]] false 0), ([4], .row dn true 0)], log := [[3, 1]] }, c := 5, marks := [] }, [.bit (cmp .lss i len) true, .elem es i (.agg [.bool true x.w, .int .i64 true x.v, .int .i64 true x.f, .int .i64 true x.t]), .bit (cmp .geq i 0) true, .bit (cmp .lss i dl) true, .rd dn i [.bool true b], .bit b false, .bit (!x.w) true, .bit (cmp .neq x.v now) true]) := by kernel_rfl
theorem rSk0_2 (inR : Bool) (m : Nat) (es er dn : List VV) (l1 l0 len i dl now : Int) (x : Ac) (b : Bool) : outC (evCode (cxS m) (ev (cxS m) 60) 11 [] inR (bodyAt f11 0) (Sk_S es er dn l1 l0 len i dl now none) [.bit true, .val (.agg [.bool true x.w, .int .i64 true x.v, .int .i64 true x.f, .int .i64 true x.t]), .val (.bool true b), .bit false, .bit true, .bit false, .hook 0, .bit false, .hook 1, .bit true, .bit true]) =
    some (.nrm, { ts := [.int .i64 true now, .ptr [0] false 0, .ptr [1] false 0, .ptr [2] false 0, .ptr [3] false 0, .top, .top, .int .i64 true i, .ptr [3, 1] false 0, .fn 12 [] [.ptr [3, 1] false 0], .top, .top, .top, .top, .top, .top, .isl 0 4 true l1 es false, .int .i64 true len, .int .i64 true (ar .add .i64 i 1), .bool true (cmp .lss i len), .int .i64 true i, .eptr [.bool true x.w, .int .i64 true x.v, .int .i64 true x.f, .int .i64 true x.t], .agg [.bool true x.w, .int .i64 true x.v, .int .i64 true x.f, .int .i64 true x.t], .fn 12 [] [.ptr [3, 1] false 0], .osl [4] 0 1 true dl, .int .i64 true i, .ptr [4] true i, .bool true b, .bool false false, .ptr [3, 1] false 0, .bool true x.w, .bool true (!x.w), .bool false true, .ptr [3, 1] false 1, .int .i64 true x.v, .int .i64 true now, .bool true (cmp .neq x.v now), .bool true (cmp .neq x.v now), .bool true (cmp .neq x.v now), .bool false false, .isl 0 4 true l0 er false, .osl [4] 0 1 true dl, .osl [1, 77, 3, 18, 3] 0 4 true ((outA (LfI.mk er dn l0 l0 0 dl none)).length : Int), .fn 12 [] [.ptr [3, 1] false 0], .bool true (cmp .geq (wtS (WtI.mk (cellsA (outA (LfI.mk er dn l0 l0 0 dl none))) ((outA (LfI.mk er dn l0 l0 0 dl none)).length : Int) ((outA (LfI.mk er dn l0 l0 0 dl none)).length : Int) 0 (Ac.mk x.w x.v x.f x.t))) 0), .bool true (cmp .geq (wtS (WtI.mk (cellsA (outA (LfI.mk er dn l0 l0 0 dl none))) ((outA (LfI.mk er dn l0 l0 0 dl none)).length : Int) ((outA (LfI.mk er dn l0 l0 0 dl none)).length : Int) 0 (Ac.mk x.w x.v x.f x.t))) 0), .top, .top, .top, .top, .top, .top, .top, .top, .top, .top, .top, .top, .top, .top, .top, .top, .top, .top, .top, .top, .top, .top, .top, .int .i64 true (ar .add .i64 i 1)], H := { es := [([1, 77, 3, 18, 3], .row (cellsA (outA (LfI.mk er dn l0 l0 0 dl none))) true 0), ([3, 1], .row [.bool true x.w, .int .i64 true x.v, .int .i64 true x.f, .int .i64 true x.t] false 0), ([0], .row [.isl 0 0 false 0 [] true] false 0), ([1], .row [.isl 0 4 true l0 er false] false 0), ([2], .row [.osl [4] 0 1 true dl] false 0), ([3], .row [.fn 11 [] [.ptr [0] false 0, .ptr [1] false 0, .ptr [2] false 0, .ptr [3] false 0]] false 0), ([4], .row dn true 0)], log := [[1, 77, 3, 18, 3], [3, 1], [4], [3, 1]] }, c := 5, marks := [] }, [.bit (cmp .lss i len) true, .elem es i (.agg [.bool true x.w, .int .i64 true x.v, .int .i64 true x.f, .int .i64 true x.t]), .bit (cmp .geq i 0) true, .bit (cmp .lss i dl) true, .rd dn i [.bool true b], .bit b false, .bit (!x.w) true, .bit (cmp .neq x.v now) false, .prop (loopAt f14 0 = loopAt f14 0), .prop (Lf.pre (LfI.mk er dn l0 l0 0 dl none)), .bit (Lf.q (LfI.mk er dn l0 l0 0 dl none)) false, .prop (loopAt f18 0 = loopAt f18 0), .prop (IxW.pre (WtI.mk (cellsA (outA (LfI.mk er dn l0 l0 0 dl none))) ((outA (LfI.mk er dn l0 l0 0 dl none)).length : Int) ((outA (LfI.mk er dn l0 l0 0 dl none)).length : Int) 0 (Ac.mk x.w x.v x.f x.t))), .bit (IxW.q (WtI.mk (cellsA (outA (LfI.mk er dn l0 l0 0 dl none))) ((outA (LfI.mk er dn l0 l0 0 dl none)).length : Int) ((outA (LfI.mk er dn l0 l0 0 dl none)).length : Int) 0 (Ac.mk x.w x.v x.f x.t))) true, .bit (cmp .geq (wtS (WtI.mk (cellsA (outA (LfI.mk er dn l0 l0 0 dl none))) ((outA (LfI.mk er dn l0 l0 0 dl none)).length : Int) ((outA (LfI.mk er dn l0 l0 0 dl none)).length : Int) 0 (Ac.mk x.w x.v x.f x.t))) 0) true]) := by kernel_rfl
theorem rSk0_12 (inR : Bool) (m : Nat) (es er dn : List VV) (l1 l0 len i dl now : Int) (x : Ac) (b : Bool) : outC (evCode (cxS m) (ev (cxS m) 60) 11 [] inR (bodyAt f11 0) (Sk_S es er dn l1 l0 len i dl now none) [.bit true, .val (.agg [.bool true x.w, .int .i64 true x.v, .int .i64 true x.f, .int .i64 true x.t]), .val (.bool true b), .bit false, .bit true, .bit false, .hook 0, .bit false, .hook 1, .bit false, .bit false, .row (setCells dn (i).toNat [.bool true true]), .bit true]) =
    some (.ret, { ts := [.int .i64 true now, .ptr [0] false 0, .ptr [1] false 0, .ptr [2] false 0, .ptr [3] false 0, .top, .bool false true, .int .i64 true i, .ptr [3, 1] false 0, .fn 12 [] [.ptr [3, 1] false 0], .int .i64 true now, .top, .top, .top, .top, .top, .isl 0 4 true l1 es false, .int .i64 true len, .int .i64 true i, .bool true (cmp .lss i len), .int .i64 true i, .eptr [.bool true x.w, .int .i64 true x.v, .int .i64 true x.f, .int .i64 true x.t], .agg [.bool true x.w, .int .i64 true x.v, .int .i64 true x.f, .int .i64 true x.t], .fn 12 [] [.ptr [3, 1] false 0], .osl [4] 0 1 true dl, .int .i64 true i, .ptr [4] true i, .bool true b, .bool false false, .ptr [3, 1] false 0, .bool true x.w, .bool true (!x.w), .bool false true, .ptr [3, 1] false 1, .int .i64 true x.v, .int .i64 true now, .bool true (cmp .neq x.v now), .bool true (cmp .neq x.v now), .bool true (cmp .neq x.v now), .bool false false, .isl 0 4 true l0 er false, .osl [4] 0 1 true dl, .osl [1, 77, 3, 18, 3] 0 4 true ((outA (LfI.mk er dn l0 l0 0 dl none)).length : Int), .fn 12 [] [.ptr [3, 1] false 0], .bool false false, .bool false false, .int .i64 true now, .ptr [3, 1] false 0, .bool true x.w, .top, .top, .osl [4] 0 1 true dl, .int .i64 true i, .ptr [4] true i, .isl 0 0 false 0 [] true, .int .i64 true i, .osl [2, 7] 0 1 false 1, .osl [3, 7] 0 1 false 1, .fn 11 [] [.ptr [0] false 0, .ptr [1] false 0, .ptr [2] false 0, .ptr [3] false 0], .int .i64 true now, .bool false true, .top, .top, .top, .top, .top, .top, .top, .top, .top], H := { es := [([3, 7], .row [.int .i64 true i] false 0), ([2, 7], .row [.int .i64 true i] false 0), ([1, 77, 3, 18, 3], .row (cellsA (outA (LfI.mk er dn l0 l0 0 dl none))) true 0), ([3, 1], .row [.bool true x.w, .int .i64 true x.v, .int .i64 true x.f, .int .i64 true x.t] false 0), ([0], .row [.osl [3, 7] 0 1 false 1] false 0), ([1], .row [.isl 0 4 true l0 er false] false 0), ([2], .row [.osl [4] 0 1 true dl] false 0), ([3], .row [.fn 11 [] [.ptr [0] false 0, .ptr [1] false 0, .ptr [2] false 0, .ptr [3] false 0]] false 0), ([4], .row (setCells dn (i).toNat [.bool true true]) true 0)], log := [[0], [4], [1, 77, 3, 18, 3], [3, 1], [4], [3, 1]] }, c := 10, marks := [] }, [.bit (cmp .lss i len) true, .elem es i (.agg [.bool true x.w, .int .i64 true x.v, .int .i64 true x.f, .int .i64 true x.t]), .bit (cmp .geq i 0) true, .bit (cmp .lss i dl) true, .rd dn i [.bool true b], .bit b false, .bit (!x.w) true, .bit (cmp .neq x.v now) false, .prop (loopAt f14 0 = loopAt f14 0), .prop (Lf.pre (LfI.mk er dn l0 l0 0 dl none)), .bit (Lf.q (LfI.mk er dn l0 l0 0 dl none)) false, .prop (loopAt f18 0 = loopAt f18 0), .prop (IxW.pre (WtI.mk (cellsA (outA (LfI.mk er dn l0 l0 0 dl none))) ((outA (LfI.mk er dn l0 l0 0 dl none)).length : Int) ((outA (LfI.mk er dn l0 l0 0 dl none)).length : Int) 0 (Ac.mk x.w x.v x.f x.t))), .bit (IxW.q (WtI.mk (cellsA (outA (LfI.mk er dn l0 l0 0 dl none))) ((outA (LfI.mk er dn l0 l0 0 dl none)).length : Int) ((outA (LfI.mk er dn l0 l0 0 dl none)).length : Int) 0 (Ac.mk x.w x.v x.f x.t))) false, .bit x.w false, .bit (cmp .geq i 0) true, .bit (cmp .lss i dl) true, .wr dn i [.bool true true] (setCells dn (i).toNat [.bool true true]), .bit (cmp .eql 1 l0) true]) := by kernel_rfl
theorem rSk0_13 (inR : Bool) (m : Nat) (es er dn : List VV) (l1 l0 len i dl now : Int) (x : Ac) (b : Bool) : outC (evCode (cxS m) (ev (cxS m) 60) 11 [] inR (bodyAt f11 0) (Sk_S es er dn l1 l0 len i dl now none) [.bit true, .val (.agg [.bool true x.w, .int .i64 true x.v, .int .i64 true x.f, .int .i64 true x.t]), .val (.bool true b), .bit false, .bit true, .bit false, .hook 0, .bit false, .hook 1, .bit false, .bit false, .row (setCells dn (i).toNat [.bool true true]), .bit false, .hook 2, .bit true]) =
    some (.ret, { ts := [.int .i64 true now, .ptr [0] false 0, .ptr [1] false 0, .ptr [2] false 0, .ptr [3] false 0, .top, .bool false true, .int .i64 true i, .ptr [3, 1] false 0, .fn 12 [] [.ptr [3, 1] false 0], .int .i64 true now, .top, .top, .top, .top, .top, .isl 0 4 true l1 es false, .int .i64 true len, .int .i64 true i, .bool true (cmp .lss i len), .int .i64 true i, .eptr [.bool true x.w, .int .i64 true x.v, .int .i64 true x.f, .int .i64 true x.t], .agg [.bool true x.w, .int .i64 true x.v, .int .i64 true x.f, .int .i64 true x.t], .fn 12 [] [.ptr [3, 1] false 0], .osl [4] 0 1 true dl, .int .i64 true i, .ptr [4] true i, .bool true b, .bool false false, .ptr [3, 1] false 0, .bool true x.w, .bool true (!x.w), .bool false true, .ptr [3, 1] false 1, .int .i64 true x.v, .int .i64 true now, .bool true (cmp .neq x.v now), .bool true (cmp .neq x.v now), .bool true (cmp .neq x.v now), .bool false false, .isl 0 4 true l0 er false, .osl [4] 0 1 true dl, .osl [1, 77, 3, 18, 3] 0 4 true ((outA (LfI.mk er dn l0 l0 0 dl none)).length : Int), .fn 12 [] [.ptr [3, 1] false 0], .bool false false, .bool false false, .int .i64 true now, .ptr [3, 1] false 0, .bool true x.w, .top, .top, .osl [4] 0 1 true dl, .int .i64 true i, .ptr [4] true i, .isl 0 0 false 0 [] true, .int .i64 true i, .osl [2, 7] 0 1 false 1, .osl [3, 7] 0 1 false 1, .fn 11 [] [.ptr [0] false 0, .ptr [1] false 0, .ptr [2] false 0, .ptr [3] false 0], .int .i64 true now, .bool false true, .top, .top, .top, .top, .top, .top, .top, .top, .top], H := { es := [([5, 77, 3, 2, 8], .row (fndS (SkI.mk er er (setCells dn (i).toNat [.bool true true]) l0 l0 l0 0 dl now (some ([.int .i64 true i], 1)) false)) true 0), ([3, 7], .dead), ([2, 7], .row [.int .i64 true i] false 0), ([1, 77, 3, 18, 3], .row (cellsA (outA (LfI.mk er dn l0 l0 0 dl none))) true 0), ([3, 1], .row [.bool true x.w, .int .i64 true x.v, .int .i64 true x.f, .int .i64 true x.t] false 0), ([0], .row [.osl [5, 77, 3, 2, 8] 0 1 true ((fndS (SkI.mk er er (setCells dn (i).toNat [.bool true true]) l0 l0 l0 0 dl now (some ([.int .i64 true i], 1)) false)).length : Int)] false 0), ([1], .row [.isl 0 4 true l0 er false] false 0), ([2], .row [.osl [4] 0 1 true dl] false 0), ([3], .row [.fn 11 [] [.ptr [0] false 0, .ptr [1] false 0, .ptr [2] false 0, .ptr [3] false 0]] false 0), ([4], .row [] false 0)], log := [[4], [3], [2], [1], [0], [3, 7], [0], [4], [1, 77, 3, 18, 3], [3, 1], [4], [3, 1]] }, c := 10, marks := [] }, [.bit (cmp .lss i len) true, .elem es i (.agg [.bool true x.w, .int .i64 true x.v, .int .i64 true x.f, .int .i64 true x.t]), .bit (cmp .geq i 0) true, .bit (cmp .lss i dl) true, .rd dn i [.bool true b], .bit b false, .bit (!x.w) true, .bit (cmp .neq x.v now) false, .prop (loopAt f14 0 = loopAt f14 0), .prop (Lf.pre (LfI.mk er dn l0 l0 0 dl none)), .bit (Lf.q (LfI.mk er dn l0 l0 0 dl none)) false, .prop (loopAt f18 0 = loopAt f18 0), .prop (IxW.pre (WtI.mk (cellsA (outA (LfI.mk er dn l0 l0 0 dl none))) ((outA (LfI.mk er dn l0 l0 0 dl none)).length : Int) ((outA (LfI.mk er dn l0 l0 0 dl none)).length : Int) 0 (Ac.mk x.w x.v x.f x.t))), .bit (IxW.q (WtI.mk (cellsA (outA (LfI.mk er dn l0 l0 0 dl none))) ((outA (LfI.mk er dn l0 l0 0 dl none)).length : Int) ((outA (LfI.mk er dn l0 l0 0 dl none)).length : Int) 0 (Ac.mk x.w x.v x.f x.t))) false, .bit x.w false, .bit (cmp .geq i 0) true, .bit (cmp .lss i dl) true, .wr dn i [.bool true true] (setCells dn (i).toNat [.bool true true]), .bit (cmp .eql 1 l0) false, .prop (loopAt f11 0 = loopAt f11 0), .prop ((Sk m).pre (SkI.mk er er (setCells dn (i).toNat [.bool true true]) l0 l0 l0 0 dl now (some ([.int .i64 true i], 1)) false)), .bit ((Sk m).q (SkI.mk er er (setCells dn (i).toNat [.bool true true]) l0 l0 l0 0 dl now (some ([.int .i64 true i], 1)) false)) true]) := by kernel_rfl
theorem rSk0_14 (inR : Bool) (m : Nat) (es er dn : List VV) (l1 l0 len i dl now : Int) (x : Ac) (b : Bool) : outC (evCode (cxS m) (ev (cxS m) 60) 11 [] inR (bodyAt f11 0) (Sk_S es er dn l1 l0 len i dl now none) [.bit true, .val (.agg [.bool true x.w, .int .i64 true x.v, .int .i64 true x.f, .int .i64 true x.t]), .val (.bool true b), .bit false, .bit true, .bit false, .hook 0, .bit false, .hook 1, .bit false, .bit false, .row (setCells dn (i).toNat [.bool true true]), .bit false, .hook 2, .bit false, .row (setCells (setCells dn (i).toNat [.bool true true]) (i).toNat [.bool true false])]) =
    some (.nrm, { ts := [.int .i64 true now, .ptr [0] false 0, .ptr [1] false 0, .ptr [2] false 0, .ptr [3] false 0, .top, .top, .int .i64 true i, .ptr [3, 1] false 0, .fn 12 [] [.ptr [3, 1] false 0], .int .i64 true now, .top, .top, .top, .top, .top, .isl 0 4 true l1 es false, .int .i64 true len, .int .i64 true (ar .add .i64 i 1), .bool true (cmp .lss i len), .int .i64 true i, .eptr [.bool true x.w, .int .i64 true x.v, .int .i64 true x.f, .int .i64 true x.t], .agg [.bool true x.w, .int .i64 true x.v, .int .i64 true x.f, .int .i64 true x.t], .fn 12 [] [.ptr [3, 1] false 0], .osl [4] 0 1 true dl, .int .i64 true i, .ptr [4] true i, .bool true b, .bool false false, .ptr [3, 1] false 0, .bool true x.w, .bool true (!x.w), .bool false true, .ptr [3, 1] false 1, .int .i64 true x.v, .int .i64 true now, .bool true (cmp .neq x.v now), .bool true (cmp .neq x.v now), .bool true (cmp .neq x.v now), .bool false false, .isl 0 4 true l0 er false, .osl [4] 0 1 true dl, .osl [1, 77, 3, 18, 3] 0 4 true ((outA (LfI.mk er dn l0 l0 0 dl none)).length : Int), .fn 12 [] [.ptr [3, 1] false 0], .bool false false, .bool false false, .int .i64 true now, .ptr [3, 1] false 0, .bool true x.w, .top, .top, .osl [4] 0 1 true dl, .int .i64 true i, .ptr [4] true i, .isl 0 0 false 0 [] true, .int .i64 true i, .osl [2, 7] 0 1 false 1, .osl [3, 7] 0 1 false 1, .fn 11 [] [.ptr [0] false 0, .ptr [1] false 0, .ptr [2] false 0, .ptr [3] false 0], .int .i64 true now, .bool false false, .osl [4] 0 1 true dl, .int .i64 true i, .ptr [4] true i, .osl [5, 77, 3, 2, 8] 0 1 true 1, .osl [5, 77, 3, 2, 8] 0 1 true 1, .int .i64 true 1, .int .i64 true (ar .sub .i64 1 1), .osl [5, 77, 3, 2, 8] 0 1 true (mns (ar .sub .i64 1 1) 0), .int .i64 true (ar .add .i64 i 1)], H := { es := [([5, 77, 3, 2, 8], .row [.int .i64 true i] true 0), ([3, 7], .dead), ([2, 7], .row [.int .i64 true i] false 0), ([1, 77, 3, 18, 3], .row (cellsA (outA (LfI.mk er dn l0 l0 0 dl none))) true 0), ([3, 1], .row [.bool true x.w, .int .i64 true x.v, .int .i64 true x.f, .int .i64 true x.t] false 0), ([0], .row [.osl [5, 77, 3, 2, 8] 0 1 true (mns (ar .sub .i64 1 1) 0)] false 0), ([1], .row [.isl 0 4 true l0 er false] false 0), ([2], .row [.osl [4] 0 1 true dl] false 0), ([3], .row [.fn 11 [] [.ptr [0] false 0, .ptr [1] false 0, .ptr [2] false 0, .ptr [3] false 0]] false 0), ([4], .row (setCells (setCells dn (i).toNat [.bool true true]) (i).toNat [.bool true false]) true 0)], log := [[0], [4], [4], [3], [2], [1], [0], [3, 7], [0], [4], [1, 77, 3, 18, 3], [3, 1], [4], [3, 1]] }, c := 12, marks := [] }, [.bit (cmp .lss i len) true, .elem es i (.agg [.bool true x.w, .int .i64 true x.v, .int .i64 true x.f, .int .i64 true x.t]), .bit (cmp .geq i 0) true, .bit (cmp .lss i dl) true, .rd dn i [.bool true b], .bit b false, .bit (!x.w) true, .bit (cmp .neq x.v now) false, .prop (loopAt f14 0 = loopAt f14 0), .prop (Lf.pre (LfI.mk er dn l0 l0 0 dl none)), .bit (Lf.q (LfI.mk er dn l0 l0 0 dl none)) false, .prop (loopAt f18 0 = loopAt f18 0), .prop (IxW.pre (WtI.mk (cellsA (outA (LfI.mk er dn l0 l0 0 dl none))) ((outA (LfI.mk er dn l0 l0 0 dl none)).length : Int) ((outA (LfI.mk er dn l0 l0 0 dl none)).length : Int) 0 (Ac.mk x.w x.v x.f x.t))), .bit (IxW.q (WtI.mk (cellsA (outA (LfI.mk er dn l0 l0 0 dl none))) ((outA (LfI.mk er dn l0 l0 0 dl none)).length : Int) ((outA (LfI.mk er dn l0 l0 0 dl none)).length : Int) 0 (Ac.mk x.w x.v x.f x.t))) false, .bit x.w false, .bit (cmp .geq i 0) true, .bit (cmp .lss i dl) true, .wr dn i [.bool true true] (setCells dn (i).toNat [.bool true true]), .bit (cmp .eql 1 l0) false, .prop (loopAt f11 0 = loopAt f11 0), .prop ((Sk m).pre (SkI.mk er er (setCells dn (i).toNat [.bool true true]) l0 l0 l0 0 dl now (some ([.int .i64 true i], 1)) false)), .bit ((Sk m).q (SkI.mk er er (setCells dn (i).toNat [.bool true true]) l0 l0 l0 0 dl now (some ([.int .i64 true i], 1)) false)) false, .bit (cmp .geq i 0) true, .bit (cmp .lss i dl) true, .wr (setCells dn (i).toNat [.bool true true]) i [.bool true false] (setCells (setCells dn (i).toNat [.bool true true]) (i).toNat [.bool true false]), .bit (cmp .leq 0 (ar .sub .i64 1 1)) true, .bit (cmp .leq (ar .sub .i64 1 1) 1) true]) := by kernel_rfl
theorem rSk0_15 (inR : Bool) (m : Nat) (es er dn : List VV) (l1 l0 len i dl now : Int) (x : Ac) (b : Bool) : outC (evCode (cxS m) (ev (cxS m) 60) 11 [] inR (bodyAt f11 0) (Sk_S es er dn l1 l0 len i dl now none) [.bit true, .val (.agg [.bool true x.w, .int .i64 true x.v, .int .i64 true x.f, .int .i64 true x.t]), .val (.bool true b), .bit false, .bit false, .hook 0, .bit false, .hook 1, .bit true, .bit true]) =
    some (.nrm, { ts := [.int .i64 true now, .ptr [0] false 0, .ptr [1] false 0, .ptr [2] false 0, .ptr [3] false 0, .top, .top, .int .i64 true i, .ptr [3, 1] false 0, .fn 12 [] [.ptr [3, 1] false 0], .top, .top, .top, .top, .top, .top, .isl 0 4 true l1 es false, .int .i64 true len, .int .i64 true (ar .add .i64 i 1), .bool true (cmp .lss i len), .int .i64 true i, .eptr [.bool true x.w, .int .i64 true x.v, .int .i64 true x.f, .int .i64 true x.t], .agg [.bool true x.w, .int .i64 true x.v, .int .i64 true x.f, .int .i64 true x.t], .fn 12 [] [.ptr [3, 1] false 0], .osl [4] 0 1 true dl, .int .i64 true i, .ptr [4] true i, .bool true b, .bool false false, .ptr [3, 1] false 0, .bool true x.w, .bool true (!x.w), .bool false false, .undef, .undef, .undef, .undef, .bool false false, .bool false false, .bool false false, .isl 0 4 true l0 er false, .osl [4] 0 1 true dl, .osl [1, 77, 3, 18, 3] 0 4 true ((outA (LfI.mk er dn l0 l0 0 dl none)).length : Int), .fn 12 [] [.ptr [3, 1] false 0], .bool true (cmp .geq (wtS (WtI.mk (cellsA (outA (LfI.mk er dn l0 l0 0 dl none))) ((outA (LfI.mk er dn l0 l0 0 dl none)).length : Int) ((outA (LfI.mk er dn l0 l0 0 dl none)).length : Int) 0 (Ac.mk x.w x.v x.f x.t))) 0), .bool true (cmp .geq (wtS (WtI.mk (cellsA (outA (LfI.mk er dn l0 l0 0 dl none))) ((outA (LfI.mk er dn l0 l0 0 dl none)).length : Int) ((outA (LfI.mk er dn l0 l0 0 dl none)).length : Int) 0 (Ac.mk x.w x.v x.f x.t))) 0), .top, .top, .top, .top, .top, .top, .top, .top, .top, .top, .top, .top, .top, .top, .top, .top, .top, .top, .top, .top, .top, .top, .top, .int .i64 true (ar .add .i64 i 1)], H := { es := [([1, 77, 3, 18, 3], .row (cellsA (outA (LfI.mk er dn l0 l0 0 dl none))) true 0), ([3, 1], .row [.bool true x.w, .int .i64 true x.v, .int .i64 true x.f, .int .i64 true x.t] false 0), ([0], .row [.isl 0 0 false 0 [] true] false 0), ([1], .row [.isl 0 4 true l0 er false] false 0), ([2], .row [.osl [4] 0 1 true dl] false 0), ([3], .row [.fn 11 [] [.ptr [0] false 0, .ptr [1] false 0, .ptr [2] false 0, .ptr [3] false 0]] false 0), ([4], .row dn true 0)], log := [[1, 77, 3, 18, 3], [3, 1], [4], [3, 1]] }, c := 5, marks := [] }, [.bit (cmp .lss i len) true, .elem es i (.agg [.bool true x.w, .int .i64 true x.v, .int .i64 true x.f, .int .i64 true x.t]), .bit (cmp .geq i 0) true, .bit (cmp .lss i dl) true, .rd dn i [.bool true b], .bit b false, .bit (!x.w) false, .prop (loopAt f14 0 = loopAt f14 0), .prop (Lf.pre (LfI.mk er dn l0 l0 0 dl none)), .bit (Lf.q (LfI.mk er dn l0 l0 0 dl none)) false, .prop (loopAt f18 0 = loopAt f18 0), .prop (IxW.pre (WtI.mk (cellsA (outA (LfI.mk er dn l0 l0 0 dl none))) ((outA (LfI.mk er dn l0 l0 0 dl none)).length : Int) ((outA (LfI.mk er dn l0 l0 0 dl none)).length : Int) 0 (Ac.mk x.w x.v x.f x.t))), .bit (IxW.q (WtI.mk (cellsA (outA (LfI.mk er dn l0 l0 0 dl none))) ((outA (LfI.mk er dn l0 l0 0 dl none)).length : Int) ((outA (LfI.mk er dn l0 l0 0 dl none)).length : Int) 0 (Ac.mk x.w x.v x.f x.t))) true, .bit (cmp .geq (wtS (WtI.mk (cellsA (outA (LfI.mk er dn l0 l0 0 dl none))) ((outA (LfI.mk er dn l0 l0 0 dl none)).length : Int) ((outA (LfI.mk er dn l0 l0 0 dl none)).length : Int) 0 (Ac.mk x.w x.v x.f x.t))) 0) true]) := by kernel_rfl
theorem rSk0_22 (inR : Bool) (m : Nat) (es er dn : List VV) (l1 l0 len i dl now : Int) (x : Ac) (b : Bool) : outC (evCode (cxS m) (ev (cxS m) 60) 11 [] inR (bodyAt f11 0) (Sk_S es er dn l1 l0 len i dl now none) [.bit true, .val (.agg [.bool true x.w, .int .i64 true x.v, .int .i64 true x.f, .int .i64 true x.t]), .val (.bool true b), .bit false, .bit false, .hook 0, .bit false, .hook 1, .bit false, .bit true, .row (setCells dn (i).toNat [.bool true true]), .bit true]) =
    some (.ret, { ts := [.int .i64 true now, .ptr [0] false 0, .ptr [1] false 0, .ptr [2] false 0, .ptr [3] false 0, .top, .bool false true, .int .i64 true i, .ptr [3, 1] false 0, .fn 12 [] [.ptr [3, 1] false 0], .int .i64 true x.v, .top, .top, .top, .top, .top, .isl 0 4 true l1 es false, .int .i64 true len, .int .i64 true i, .bool true (cmp .lss i len), .int .i64 true i, .eptr [.bool true x.w, .int .i64 true x.v, .int .i64 true x.f, .int .i64 true x.t], .agg [.bool true x.w, .int .i64 true x.v, .int .i64 true x.f, .int .i64 true x.t], .fn 12 [] [.ptr [3, 1] false 0], .osl [4] 0 1 true dl, .int .i64 true i, .ptr [4] true i, .bool true b, .bool false false, .ptr [3, 1] false 0, .bool true x.w, .bool true (!x.w), .bool false false, .undef, .undef, .undef, .undef, .bool false false, .bool false false, .bool false false, .isl 0 4 true l0 er false, .osl [4] 0 1 true dl, .osl [1, 77, 3, 18, 3] 0 4 true ((outA (LfI.mk er dn l0 l0 0 dl none)).length : Int), .fn 12 [] [.ptr [3, 1] false 0], .bool false false, .bool false false, .int .i64 true now, .ptr [3, 1] false 0, .bool true x.w, .ptr [3, 1] false 1, .int .i64 true x.v, .osl [4] 0 1 true dl, .int .i64 true i, .ptr [4] true i, .isl 0 0 false 0 [] true, .int .i64 true i, .osl [2, 8] 0 1 false 1, .osl [3, 8] 0 1 false 1, .fn 11 [] [.ptr [0] false 0, .ptr [1] false 0, .ptr [2] false 0, .ptr [3] false 0], .int .i64 true x.v, .bool false true, .top, .top, .top, .top, .top, .top, .top, .top, .top], H := { es := [([3, 8], .row [.int .i64 true i] false 0), ([2, 8], .row [.int .i64 true i] false 0), ([1, 77, 3, 18, 3], .row (cellsA (outA (LfI.mk er dn l0 l0 0 dl none))) true 0), ([3, 1], .row [.bool true x.w, .int .i64 true x.v, .int .i64 true x.f, .int .i64 true x.t] false 0), ([0], .row [.osl [3, 8] 0 1 false 1] false 0), ([1], .row [.isl 0 4 true l0 er false] false 0), ([2], .row [.osl [4] 0 1 true dl] false 0), ([3], .row [.fn 11 [] [.ptr [0] false 0, .ptr [1] false 0, .ptr [2] false 0, .ptr [3] false 0]] false 0), ([4], .row (setCells dn (i).toNat [.bool true true]) true 0)], log := [[0], [4], [1, 77, 3, 18, 3], [3, 1], [4], [3, 1]] }, c := 11, marks := [] }, [.bit (cmp .lss i len) true, .elem es i (.agg [.bool true x.w, .int .i64 true x.v, .int .i64 true x.f, .int .i64 true x.t]), .bit (cmp .geq i 0) true, .bit (cmp .lss i dl) true, .rd dn i [.bool true b], .bit b false, .bit (!x.w) false, .prop (loopAt f14 0 = loopAt f14 0), .prop (Lf.pre (LfI.mk er dn l0 l0 0 dl none)), .bit (Lf.q (LfI.mk er dn l0 l0 0 dl none)) false, .prop (loopAt f18 0 = loopAt f18 0), .prop (IxW.pre (WtI.mk (cellsA (outA (LfI.mk er dn l0 l0 0 dl none))) ((outA (LfI.mk er dn l0 l0 0 dl none)).length : Int) ((outA (LfI.mk er dn l0 l0 0 dl none)).length : Int) 0 (Ac.mk x.w x.v x.f x.t))), .bit (IxW.q (WtI.mk (cellsA (outA (LfI.mk er dn l0 l0 0 dl none))) ((outA (LfI.mk er dn l0 l0 0 dl none)).length : Int) ((outA (LfI.mk er dn l0 l0 0 dl none)).length : Int) 0 (Ac.mk x.w x.v x.f x.t))) false, .bit x.w true, .bit (cmp .geq i 0) true, .bit (cmp .lss i dl) true, .wr dn i [.bool true true] (setCells dn (i).toNat [.bool true true]), .bit (cmp .eql 1 l0) true]) := by kernel_rfl
theorem rSk0_23 (inR : Bool) (m : Nat) (es er dn : List VV) (l1 l0 len i dl now : Int) (x : Ac) (b : Bool) : outC (evCode (cxS m) (ev (cxS m) 60) 11 [] inR (bodyAt f11 0) (Sk_S es er dn l1 l0 len i dl now none) [.bit true, .val (.agg [.bool true x.w, .int .i64 true x.v, .int .i64 true x.f, .int .i64 true x.t]), .val (.bool true b), .bit false, .bit false, .hook 0, .bit false, .hook 1, .bit false, .bit true, .row (setCells dn (i).toNat [.bool true true]), .bit false, .hook 2, .bit true]) =
    some (.ret, { ts := [.int .i64 true now, .ptr [0] false 0, .ptr [1] false 0, .ptr [2] false 0, .ptr [3] false 0, .top, .bool false true, .int .i64 true i, .ptr [3, 1] false 0, .fn 12 [] [.ptr [3, 1] false 0], .int .i64 true x.v, .top, .top, .top, .top, .top, .isl 0 4 true l1 es false, .int .i64 true len, .int .i64 true i, .bool true (cmp .lss i len), .int .i64 true i, .eptr [.bool true x.w, .int .i64 true x.v, .int .i64 true x.f, .int .i64 true x.t], .agg [.bool true x.w, .int .i64 true x.v, .int .i64 true x.f, .int .i64 true x.t], .fn 12 [] [.ptr [3, 1] false 0], .osl [4] 0 1 true dl, .int .i64 true i, .ptr [4] true i, .bool true b, .bool false false, .ptr [3, 1] false 0, .bool true x.w, .bool true (!x.w), .bool false false, .undef, .undef, .undef, .undef, .bool false false, .bool false false, .bool false false, .isl 0 4 true l0 er false, .osl [4] 0 1 true dl, .osl [1, 77, 3, 18, 3] 0 4 true ((outA (LfI.mk er dn l0 l0 0 dl none)).length : Int), .fn 12 [] [.ptr [3, 1] false 0], .bool false false, .bool false false, .int .i64 true now, .ptr [3, 1] false 0, .bool true x.w, .ptr [3, 1] false 1, .int .i64 true x.v, .osl [4] 0 1 true dl, .int .i64 true i, .ptr [4] true i, .isl 0 0 false 0 [] true, .int .i64 true i, .osl [2, 8] 0 1 false 1, .osl [3, 8] 0 1 false 1, .fn 11 [] [.ptr [0] false 0, .ptr [1] false 0, .ptr [2] false 0, .ptr [3] false 0], .int .i64 true x.v, .bool false true, .top, .top, .top, .top, .top, .top, .top, .top, .top], H := { es := [([5, 77, 3, 2, 9], .row (fndS (SkI.mk er er (setCells dn (i).toNat [.bool true true]) l0 l0 l0 0 dl x.v (some ([.int .i64 true i], 1)) false)) true 0), ([3, 8], .dead), ([2, 8], .row [.int .i64 true i] false 0), ([1, 77, 3, 18, 3], .row (cellsA (outA (LfI.mk er dn l0 l0 0 dl none))) true 0), ([3, 1], .row [.bool true x.w, .int .i64 true x.v, .int .i64 true x.f, .int .i64 true x.t] false 0), ([0], .row [.osl [5, 77, 3, 2, 9] 0 1 true ((fndS (SkI.mk er er (setCells dn (i).toNat [.bool true true]) l0 l0 l0 0 dl x.v (some ([.int .i64 true i], 1)) false)).length : Int)] false 0), ([1], .row [.isl 0 4 true l0 er false] false 0), ([2], .row [.osl [4] 0 1 true dl] false 0), ([3], .row [.fn 11 [] [.ptr [0] false 0, .ptr [1] false 0, .ptr [2] false 0, .ptr [3] false 0]] false 0), ([4], .row [] false 0)], log := [[4], [3], [2], [1], [0], [3, 8], [0], [4], [1, 77, 3, 18, 3], [3, 1], [4], [3, 1]] }, c := 11, marks := [] }, [.bit (cmp .lss i len) true, .elem es i (.agg [.bool true x.w, .int .i64 true x.v, .int .i64 true x.f, .int .i64 true x.t]), .bit (cmp .geq i 0) true, .bit (cmp .lss i dl) true, .rd dn i [.bool true b], .bit b false, .bit (!x.w) false, .prop (loopAt f14 0 = loopAt f14 0), .prop (Lf.pre (LfI.mk er dn l0 l0 0 dl none)), .bit (Lf.q (LfI.mk er dn l0 l0 0 dl none)) false, .prop (loopAt f18 0 = loopAt f18 0), .prop (IxW.pre (WtI.mk (cellsA (outA (LfI.mk er dn l0 l0 0 dl none))) ((outA (LfI.mk er dn l0 l0 0 dl none)).length : Int) ((outA (LfI.mk er dn l0 l0 0 dl none)).length : Int) 0 (Ac.mk x.w x.v x.f x.t))), .bit (IxW.q (WtI.mk (cellsA (outA (LfI.mk er dn l0 l0 0 dl none))) ((outA (LfI.mk er dn l0 l0 0 dl none)).length : Int) ((outA (LfI.mk er dn l0 l0 0 dl none)).length : Int) 0 (Ac.mk x.w x.v x.f x.t))) false, .bit x.w true, .bit (cmp .geq i 0) true, .bit (cmp .lss i dl) true, .wr dn i [.bool true true] (setCells dn (i).toNat [.bool true true]), .bit (cmp .eql 1 l0) false, .prop (loopAt f11 0 = loopAt f11 0), .prop ((Sk m).pre (SkI.mk er er (setCells dn (i).toNat [.bool true true]) l0 l0 l0 0 dl x.v (some ([.int .i64 true i], 1)) false)), .bit ((Sk m).q (SkI.mk er er (setCells dn (i).toNat [.bool true true]) l0 l0 l0 0 dl x.v (some ([.int .i64 true i], 1)) false)) true]) := by kernel_rfl
theorem rSk0_24 (inR : Bool) (m : Nat) (es er dn : List VV) (l1 l0 len i dl now : Int) (x : Ac) (b : Bool) : outC (evCode (cxS m) (ev (cxS m) 60) 11 [] inR (bodyAt f11 0) (Sk_S es er dn l1 l0 len i dl now none) [.bit true, .val (.agg [.bool true x.w, .int .i64 true x.v, .int .i64 true x.f, .int .i64 true x.t]), .val (.bool true b), .bit false, .bit false, .hook 0, .bit false, .hook 1, .bit false, .bit true, .row (setCells dn (i).toNat [.bool true true]), .bit false, .hook 2, .bit false, .row (setCells (setCells dn (i).toNat [.bool true true]) (i).toNat [.bool true false])]) =
    some (.nrm, { ts := [.int .i64 true now, .ptr [0] false 0, .ptr [1] false 0, .ptr [2] false 0, .ptr [3] false 0, .top, .top, .int .i64 true i, .ptr [3, 1] false 0, .fn 12 [] [.ptr [3, 1] false 0], .int .i64 true x.v, .top, .top, .top, .top, .top, .isl 0 4 true l1 es false, .int .i64 true len, .int .i64 true (ar .add .i64 i 1), .bool true (cmp .lss i len), .int .i64 true i, .eptr [.bool true x.w, .int .i64 true x.v, .int .i64 true x.f, .int .i64 true x.t], .agg [.bool true x.w, .int .i64 true x.v, .int .i64 true x.f, .int .i64 true x.t], .fn 12 [] [.ptr [3, 1] false 0], .osl [4] 0 1 true dl, .int .i64 true i, .ptr [4] true i, .bool true b, .bool false false, .ptr [3, 1] false 0, .bool true x.w, .bool true (!x.w), .bool false false, .undef, .undef, .undef, .undef, .bool false false, .bool false false, .bool false false, .isl 0 4 true l0 er false, .osl [4] 0 1 true dl, .osl [1, 77, 3, 18, 3] 0 4 true ((outA (LfI.mk er dn l0 l0 0 dl none)).length : Int), .fn 12 [] [.ptr [3, 1] false 0], .bool false false, .bool false false, .int .i64 true now, .ptr [3, 1] false 0, .bool true x.w, .ptr [3, 1] false 1, .int .i64 true x.v, .osl [4] 0 1 true dl, .int .i64 true i, .ptr [4] true i, .isl 0 0 false 0 [] true, .int .i64 true i, .osl [2, 8] 0 1 false 1, .osl [3, 8] 0 1 false 1, .fn 11 [] [.ptr [0] false 0, .ptr [1] false 0, .ptr [2] false 0, .ptr [3] false 0], .int .i64 true x.v, .bool false false, .osl [4] 0 1 true dl, .int .i64 true i, .ptr [4] true i, .osl [5, 77, 3, 2, 9] 0 1 true 1, .osl [5, 77, 3, 2, 9] 0 1 true 1, .int .i64 true 1, .int .i64 true (ar .sub .i64 1 1), .osl [5, 77, 3, 2, 9] 0 1 true (mns (ar .sub .i64 1 1) 0), .int .i64 true (ar .add .i64 i 1)], H := { es := [([5, 77, 3, 2, 9], .row [.int .i64 true i] true 0), ([3, 8], .dead), ([2, 8], .row [.int .i64 true i] false 0), ([1, 77, 3, 18, 3], .row (cellsA (outA (LfI.mk er dn l0 l0 0 dl none))) true 0), ([3, 1], .row [.bool true x.w, .int .i64 true x.v, .int .i64 true x.f, .int .i64 true x.t] false 0), ([0], .row [.osl [5, 77, 3, 2, 9] 0 1 true (mns (ar .sub .i64 1 1) 0)] false 0), ([1], .row [.isl 0 4 true l0 er false] false 0), ([2], .row [.osl [4] 0 1 true dl] false 0), ([3], .row [.fn 11 [] [.ptr [0] false 0, .ptr [1] false 0, .ptr [2] false 0, .ptr [3] false 0]] false 0), ([4], .row (setCells (setCells dn (i).toNat [.bool true true]) (i).toNat [.bool true false]) true 0)], log := [[0], [4], [4], [3], [2], [1], [0], [3, 8], [0], [4], [1, 77, 3, 18, 3], [3, 1], [4], [3, 1]] }, c := 13, marks := [] }, [.bit (cmp .lss i len) true, .elem es i (.agg [.bool true x.w, .int .i64 true x.v, .int .i64 true x.f, .int .i64 true x.t]), .bit (cmp .geq i 0) true, .bit (cmp .lss i dl) true, .rd dn i [.bool true b], .bit b false, .bit (!x.w) false, .prop (loopAt f14 0 = loopAt f14 0), .prop (Lf.pre (LfI.mk er dn l0 l0 0 dl none)), .bit (Lf.q (LfI.mk er dn l0 l0 0 dl none)) false, .prop (loopAt f18 0 = loopAt f18 0), .prop (IxW.pre (WtI.mk (cellsA (outA (LfI.mk er dn l0 l0 0 dl none))) ((outA (LfI.mk er dn l0 l0 0 dl none)).length : Int) ((outA (LfI.mk er dn l0 l0 0 dl none)).length : Int) 0 (Ac.mk x.w x.v x.f x.t))), .bit (IxW.q (WtI.mk (cellsA (outA (LfI.mk er dn l0 l0 0 dl none))) ((outA (LfI.mk er dn l0 l0 0 dl none)).length : Int) ((outA (LfI.mk er dn l0 l0 0 dl none)).length : Int) 0 (Ac.mk x.w x.v x.f x.t))) false, .bit x.w true, .bit (cmp .geq i 0) true, .bit (cmp .lss i dl) true, .wr dn i [.bool true true] (setCells dn (i).toNat [.bool true true]), .bit (cmp .eql 1 l0) false, .prop (loopAt f11 0 = loopAt f11 0), .prop ((Sk m).pre (SkI.mk er er (setCells dn (i).toNat [.bool true true]) l0 l0 l0 0 dl x.v (some ([.int .i64 true i], 1)) false)), .bit ((Sk m).q (SkI.mk er er (setCells dn (i).toNat [.bool true true]) l0 l0 l0 0 dl x.v (some ([.int .i64 true i], 1)) false)) false, .bit (cmp .geq i 0) true, .bit (cmp .lss i dl) true, .wr (setCells dn (i).toNat [.bool true true]) i [.bool true false] (setCells (setCells dn (i).toNat [.bool true true]) (i).toNat [.bool true false]), .bit (cmp .leq 0 (ar .sub .i64 1 1)) true, .bit (cmp .leq (ar .sub .i64 1 1) 1) true]) := by kernel_rfl
theorem rSk0_28 (inR : Bool) (m : Nat) (es er dn : List VV) (l1 l0 len i dl now : Int) (x : Ac) (b : Bool) : outC (evCode (cxS m) (ev (cxS m) 60) 11 [] inR (bodyAt f11 0) (Sk_S es er dn l1 l0 len i dl now none) [.bit false]) =
    some (.exit 0, { ts := [.int .i64 true now, .ptr [0] false 0, .ptr [1] false 0, .ptr [2] false 0, .ptr [3] false 0, .top, .top, .top, .top, .top, .top, .top, .top, .top, .top, .top, .isl 0 4 true l1 es false, .int .i64 true len, .int .i64 true i, .bool true (cmp .lss i len), .top, .top, .top, .top, .top, .top, .top, .top, .top, .top, .top, .top, .top, .top, .top, .top, .top, .top, .top, .top, .top, .top, .top, .top, .top, .top, .top, .top, .top, .top, .top, .top, .top, .top, .top, .top, .top, .top, .top, .top, .top, .top, .top, .top, .top, .top, .top, .top, .top, .top], H := { es := [([0], .row [.isl 0 0 false 0 [] true] false 0), ([1], .row [.isl 0 4 true l0 er false] false 0), ([2], .row [.osl [4] 0 1 true dl] false 0), ([3], .row [.fn 11 [] [.ptr [0] false 0, .ptr [1] false 0, .ptr [2] false 0, .ptr [3] false 0]] false 0), ([4], .row dn true 0)], log := [] }, c := 1, marks := [] }, [.bit (cmp .lss i len) false]) := by kernel_rfl
theorem rSk1_0 (inR : Bool) (m : Nat) (es er dn od : List VV) (l1 l0 len i dl ol now : Int) (x : Ac) (b : Bool) : outC (evCode (cxS m) (ev (cxS m) 60) 11 [] inR (bodyAt f11 0) (Sk_S es er dn l1 l0 len i dl now (some (od, ol))) [.bit true, .val (.agg [.bool true x.w, .int .i64 true x.v, .int .i64 true x.f, .int .i64 true x.t]), .val (.bool true b), .bit true]) =
    some (.nrm, { ts := [.int .i64 true now, .ptr [0] false 0, .ptr [1] false 0, .ptr [2] false 0, .ptr [3] false 0, .top, .top, .int .i64 true i, .ptr [3, 1] false 0, .fn 12 [] [.ptr [3, 1] false 0], .top, .top, .top, .top, .top, .top, .isl 0 4 true l1 es false, .int .i64 true len, .int .i64 true (ar .add .i64 i 1), .bool true (cmp .lss i len), .int .i64 true i, .eptr [.bool true x.w, .int .i64 true x.v, .int .i64 true x.f, .int .i64 true x.t], .agg [.bool true x.w, .int .i64 true x.v, .int .i64 true x.f, .int .i64 true x.t], .fn 12 [] [.ptr [3, 1] false 0], .osl [4] 0 1 true dl, .int .i64 true i, .ptr [4] true i, .bool true b, .bool false true, .undef, .undef, .undef, .undef, .undef, .undef, .undef, .undef, .undef, .bool false true, .bool false true, .undef, .undef, .undef, .undef, .undef, .bool false true, .top, .top, .top, .top, .top, .top, .top, .top, .top, .top, .top, .top, .top, .top, .top, .top, .top, .top, .top, .top, .top, .top, .top, .int .i64 true (ar .add .i64 i 1)], H := { es := [([3, 1], .row [.bool true x.w, .int .i64 true x.v, .int .i64 true x.f, .int .i64 true x.t] false 0), ([0], .row [.osl [5] 0 1 true ol] false 0), ([1], .row [.isl 0 4 true l0 er false] false 0), ([2], .row [.osl [4] 0 1 true dl] false 0), ([3], .row [.fn 11 [] [.ptr [0] false 0, .ptr [1] false 0, .ptr [2] false 0, .ptr [3] false 0]] false 0), ([4], .row dn true 0), ([5], .row od true 0)], log := [[3, 1]] }, c := 5, marks := [] }, [.bit (cmp .lss i len) true, .elem es i (.agg [.bool true x.w, .int .i64 true x.v, .int .i64 true x.f, .int .i64 true x.t]), .bit (cmp .geq i 0) true, .bit (cmp .lss i dl) true, .rd dn i [.bool true b], .bit b true]) := by kernel_rfl
theorem rSk1_1 (inR : Bool) (m : Nat) (es er dn od : List VV) (l1 l0 len i dl ol now : Int) (x : Ac) (b : Bool) : outC (evCode (cxS m) (ev (cxS m) 60) 11 [] inR (bodyAt f11 0) (Sk_S es er dn l1 l0 len i dl now (some (od, ol))) [.bit true, .val (.agg [.bool true x.w, .int .i64 true x.v, .int .i64 true x.f, .int .i64 true x.t]), .val (.bool true b), .bit false, .bit true, .bit true]) =
    some (.nrm, { ts := [.int .i64 true now, .ptr [0] false 0, .ptr [1] false 0, .ptr [2] false 0, .ptr [3] false 0, .top, .top, .int .i64 true i, .ptr [3, 1] false 0, .fn 12 [] [.ptr [3, 1] false 0], .top, .top, .top, .top, .top, .top, .isl 0 4 true l1 es false, .int .i64 true len, .int .i64 true (ar .add .i64 i 1), .bool true (cmp .lss i len), .int .i64 true i, .eptr [.bool true x.w, .int .i64 true x.v, .int .i64 true x.f, .int .i64 true x.t], .agg [.bool true x.w, .int .i64 true x.v, .int .i64 true x.f, .int .i64 true x.t], .fn 12 [] [.ptr [3, 1] false 0], .osl [4] 0 1 true dl, .int .i64 true i, .ptr [4] true i, .bool true b, .bool false false, .ptr [3, 1] false 0, .bool true x.w, .bool true (!x.w), .bool false true, .ptr [3, 1] false 1, .int .i64 true x.v, .int .i64 true now, .bool true (cmp .neq x.v now), .bool true (cmp .neq x.v now), .bool true (cmp .neq x.v now), .bool false true, .undef, .undef, .undef, .undef, .undef, .bool false true, .top, .top, .top, .top, .top, .top, .top, .top, .top, .top, .top, .top, .top, .top, .top, .top, .top, .top, .top, .top, .top, .top, .top, .int .i64 true (ar .add .i64 i 1)], H := { es := [([3, 1], .row [.bool true x.w, .int .i64 true x.v, .int .i64 true x.f, .int .i64 true x.t] false 0), ([0], .row [.osl [5] 0 1 true ol] false 0), ([1], .row [.isl 0 4 true l0 er false] false 0), ([2], .row [.osl [4] 0 1 true dl] false 0), ([3], .row [.fn 11 [] [.ptr [0] false 0, .ptr [1] false 0, .ptr [2] false 0, .ptr [3] false 0]] false 0), ([4], .row dn true 0), ([5], .row od true 0)], log := [[3, 1]] }, c := 5, marks := [] }, [.bit (cmp .lss i len) true, .elem es i (.agg [.bool true x.w, .int .i64 true x.v, .int .i64 true x.f, .int .i64 true x.t]), .bit (cmp .geq i 0) true, .bit (cmp .lss i dl) true, .rd dn i [.bool true b], .bit b false, .bit (!x.w) true, .bit (cmp .neq x.v now) true]) := by kernel_rfl
theorem rSk1_2 (inR : Bool) (m : Nat) (es er dn od : List VV) (l1 l0 len i dl ol now : Int) (x : Ac) (b : Bool) : outC (evCode (cxS m) (ev (cxS m) 60) 11 [] inR (bodyAt f11 0) (Sk_S es er dn l1 l0 len i dl now (some (od, ol))) [.bit true, .val (.agg [.bool true x.w, .int .i64 true x.v, .int .i64 true x.f, .int .i64 true x.t]), .val (.bool true b), .bit false, .bit true, .bit false, .hook 0, .bit false, .hook 1, .bit true, .bit true]) =
    some (.nrm, { ts := [.int .i64 true now, .ptr [0] false 0, .ptr [1] false 0, .ptr [2] false 0, .ptr [3] false 0, .top, .top, .int .i64 true i, .ptr [3, 1] false 0, .fn 12 [] [.ptr [3, 1] false 0], .top, .top, .top, .top, .top, .top, .isl 0 4 true l1 es false, .int .i64 true len, .int .i64 true (ar .add .i64 i 1), .bool true (cmp .lss i len), .int .i64 true i, .eptr [.bool true x.w, .int .i64 true x.v, .int .i64 true x.f, .int .i64 true x.t], .agg [.bool true x.w, .int .i64 true x.v, .int .i64 true x.f, .int .i64 true x.t], .fn 12 [] [.ptr [3, 1] false 0], .osl [4] 0 1 true dl, .int .i64 true i, .ptr [4] true i, .bool true b, .bool false false, .ptr [3, 1] false 0, .bool true x.w, .bool true (!x.w), .bool false true, .ptr [3, 1] false 1, .int .i64 true x.v, .int .i64 true now, .bool true (cmp .neq x.v now), .bool true (cmp .neq x.v now), .bool true (cmp .neq x.v now), .bool false false, .isl 0 4 true l0 er false, .osl [4] 0 1 true dl, .osl [1, 77, 3, 18, 3] 0 4 true ((outA (LfI.mk er dn l0 l0 0 dl none)).length : Int), .fn 12 [] [.ptr [3, 1] false 0], .bool true (cmp .geq (wtS (WtI.mk (cellsA (outA (LfI.mk er dn l0 l0 0 dl none))) ((outA (LfI.mk er dn l0 l0 0 dl none)).length : Int) ((outA (LfI.mk er dn l0 l0 0 dl none)).length : Int) 0 (Ac.mk x.w x.v x.f x.t))) 0), .bool true (cmp .geq (wtS (WtI.mk (cellsA (outA (LfI.mk er dn l0 l0 0 dl none))) ((outA (LfI.mk er dn l0 l0 0 dl none)).length : Int) ((outA (LfI.mk er dn l0 l0 0 dl none)).length : Int) 0 (Ac.mk x.w x.v x.f x.t))) 0), .top, .top, .top, .top, .top, .top, .top, .top, .top, .top, .top, .top, .top, .top, .top, .top, .top, .top, .top, .top, .top, .top, .top, .int .i64 true (ar .add .i64 i 1)], H := { es := [([1, 77, 3, 18, 3], .row (cellsA (outA (LfI.mk er dn l0 l0 0 dl none))) true 0), ([3, 1], .row [.bool true x.w, .int .i64 true x.v, .int .i64 true x.f, .int .i64 true x.t] false 0), ([0], .row [.osl [5] 0 1 true ol] false 0), ([1], .row [.isl 0 4 true l0 er false] false 0), ([2], .row [.osl [4] 0 1 true dl] false 0), ([3], .row [.fn 11 [] [.ptr [0] false 0, .ptr [1] false 0, .ptr [2] false 0, .ptr [3] false 0]] false 0), ([4], .row dn true 0), ([5], .row od true 0)], log := [[1, 77, 3, 18, 3], [3, 1], [4], [3, 1]] }, c := 5, marks := [] }, [.bit (cmp .lss i len) true, .elem es i (.agg [.bool true x.w, .int .i64 true x.v, .int .i64 true x.f, .int .i64 true x.t]), .bit (cmp .geq i 0) true, .bit (cmp .lss i dl) true, .rd dn i [.bool true b], .bit b false, .bit (!x.w) true, .bit (cmp .neq x.v now) false, .prop (loopAt f14 0 = loopAt f14 0), .prop (Lf.pre (LfI.mk er dn l0 l0 0 dl none)), .bit (Lf.q (LfI.mk er dn l0 l0 0 dl none)) false, .prop (loopAt f18 0 = loopAt f18 0), .prop (IxW.pre (WtI.mk (cellsA (outA (LfI.mk er dn l0 l0 0 dl none))) ((outA (LfI.mk er dn l0 l0 0 dl none)).length : Int) ((outA (LfI.mk er dn l0 l0 0 dl none)).length : Int) 0 (Ac.mk x.w x.v x.f x.t))), .bit (IxW.q (WtI.mk (cellsA (outA (LfI.mk er dn l0 l0 0 dl none))) ((outA (LfI.mk er dn l0 l0 0 dl none)).length : Int) ((outA (LfI.mk er dn l0 l0 0 dl none)).length : Int) 0 (Ac.mk x.w x.v x.f x.t))) true, .bit (cmp .geq (wtS (WtI.mk (cellsA (outA (LfI.mk er dn l0 l0 0 dl none))) ((outA (LfI.mk er dn l0 l0 0 dl none)).length : Int) ((outA (LfI.mk er dn l0 l0 0 dl none)).length : Int) 0 (Ac.mk x.w x.v x.f x.t))) 0) true]) := by kernel_rfl
theorem rSk1_12 (inR : Bool) (m : Nat) (es er dn od : List VV) (l1 l0 len i dl ol now : Int) (x : Ac) (b : Bool) : outC (evCode (cxS m) (ev (cxS m) 60) 11 [] inR (bodyAt f11 0) (Sk_S es er dn l1 l0 len i dl now (some (od, ol))) [.bit true, .val (.agg [.bool true x.w, .int .i64 true x.v, .int .i64 true x.f, .int .i64 true x.t]), .val (.bool true b), .bit false, .bit true, .bit false, .hook 0, .bit false, .hook 1, .bit false, .bit false, .row (setCells dn (i).toNat [.bool true true]), .bit true]) =
    some (.ret, { ts := [.int .i64 true now, .ptr [0] false 0, .ptr [1] false 0, .ptr [2] false 0, .ptr [3] false 0, .top, .bool false true, .int .i64 true i, .ptr [3, 1] false 0, .fn 12 [] [.ptr [3, 1] false 0], .int .i64 true now, .top, .top, .top, .top, .top, .isl 0 4 true l1 es false, .int .i64 true len, .int .i64 true i, .bool true (cmp .lss i len), .int .i64 true i, .eptr [.bool true x.w, .int .i64 true x.v, .int .i64 true x.f, .int .i64 true x.t], .agg [.bool true x.w, .int .i64 true x.v, .int .i64 true x.f, .int .i64 true x.t], .fn 12 [] [.ptr [3, 1] false 0], .osl [4] 0 1 true dl, .int .i64 true i, .ptr [4] true i, .bool true b, .bool false false, .ptr [3, 1] false 0, .bool true x.w, .bool true (!x.w), .bool false true, .ptr [3, 1] false 1, .int .i64 true x.v, .int .i64 true now, .bool true (cmp .neq x.v now), .bool true (cmp .neq x.v now), .bool true (cmp .neq x.v now), .bool false false, .isl 0 4 true l0 er false, .osl [4] 0 1 true dl, .osl [1, 77, 3, 18, 3] 0 4 true ((outA (LfI.mk er dn l0 l0 0 dl none)).length : Int), .fn 12 [] [.ptr [3, 1] false 0], .bool false false, .bool false false, .int .i64 true now, .ptr [3, 1] false 0, .bool true x.w, .top, .top, .osl [4] 0 1 true dl, .int .i64 true i, .ptr [4] true i, .osl [5] 0 1 true ol, .int .i64 true i, .osl [2, 7] 0 1 false 1, .osl [3, 7] 0 1 true (pls ol 1), .fn 11 [] [.ptr [0] false 0, .ptr [1] false 0, .ptr [2] false 0, .ptr [3] false 0], .int .i64 true now, .bool false true, .top, .top, .top, .top, .top, .top, .top, .top, .top], H := { es := [([3, 7], .row (od ++ [.int .i64 true i]) true 0), ([2, 7], .row [.int .i64 true i] false 0), ([1, 77, 3, 18, 3], .row (cellsA (outA (LfI.mk er dn l0 l0 0 dl none))) true 0), ([3, 1], .row [.bool true x.w, .int .i64 true x.v, .int .i64 true x.f, .int .i64 true x.t] false 0), ([0], .row [.osl [3, 7] 0 1 true (pls ol 1)] false 0), ([1], .row [.isl 0 4 true l0 er false] false 0), ([2], .row [.osl [4] 0 1 true dl] false 0), ([3], .row [.fn 11 [] [.ptr [0] false 0, .ptr [1] false 0, .ptr [2] false 0, .ptr [3] false 0]] false 0), ([4], .row (setCells dn (i).toNat [.bool true true]) true 0), ([5], .dead)], log := [[0], [5], [4], [1, 77, 3, 18, 3], [3, 1], [4], [3, 1]] }, c := 10, marks := [] }, [.bit (cmp .lss i len) true, .elem es i (.agg [.bool true x.w, .int .i64 true x.v, .int .i64 true x.f, .int .i64 true x.t]), .bit (cmp .geq i 0) true, .bit (cmp .lss i dl) true, .rd dn i [.bool true b], .bit b false, .bit (!x.w) true, .bit (cmp .neq x.v now) false, .prop (loopAt f14 0 = loopAt f14 0), .prop (Lf.pre (LfI.mk er dn l0 l0 0 dl none)), .bit (Lf.q (LfI.mk er dn l0 l0 0 dl none)) false, .prop (loopAt f18 0 = loopAt f18 0), .prop (IxW.pre (WtI.mk (cellsA (outA (LfI.mk er dn l0 l0 0 dl none))) ((outA (LfI.mk er dn l0 l0 0 dl none)).length : Int) ((outA (LfI.mk er dn l0 l0 0 dl none)).length : Int) 0 (Ac.mk x.w x.v x.f x.t))), .bit (IxW.q (WtI.mk (cellsA (outA (LfI.mk er dn l0 l0 0 dl none))) ((outA (LfI.mk er dn l0 l0 0 dl none)).length : Int) ((outA (LfI.mk er dn l0 l0 0 dl none)).length : Int) 0 (Ac.mk x.w x.v x.f x.t))) false, .bit x.w false, .bit (cmp .geq i 0) true, .bit (cmp .lss i dl) true, .wr dn i [.bool true true] (setCells dn (i).toNat [.bool true true]), .bit (cmp .geq ol 0) true, .bit (cmp .leq ol 1048576) true, .idx (lin ol 1 0) (od.length), .bit (cmp .eql (pls ol 1) l0) true]) := by kernel_rfl
theorem rSk1_13 (inR : Bool) (m : Nat) (es er dn od : List VV) (l1 l0 len i dl ol now : Int) (x : Ac) (b : Bool) : outC (evCode (cxS m) (ev (cxS m) 60) 11 [] inR (bodyAt f11 0) (Sk_S es er dn l1 l0 len i dl now (some (od, ol))) [.bit true, .val (.agg [.bool true x.w, .int .i64 true x.v, .int .i64 true x.f, .int .i64 true x.t]), .val (.bool true b), .bit false, .bit true, .bit false, .hook 0, .bit false, .hook 1, .bit false, .bit false, .row (setCells dn (i).toNat [.bool true true]), .bit false, .hook 2, .bit true]) =
    some (.ret, { ts := [.int .i64 true now, .ptr [0] false 0, .ptr [1] false 0, .ptr [2] false 0, .ptr [3] false 0, .top, .bool false true, .int .i64 true i, .ptr [3, 1] false 0, .fn 12 [] [.ptr [3, 1] false 0], .int .i64 true now, .top, .top, .top, .top, .top, .isl 0 4 true l1 es false, .int .i64 true len, .int .i64 true i, .bool true (cmp .lss i len), .int .i64 true i, .eptr [.bool true x.w, .int .i64 true x.v, .int .i64 true x.f, .int .i64 true x.t], .agg [.bool true x.w, .int .i64 true x.v, .int .i64 true x.f, .int .i64 true x.t], .fn 12 [] [.ptr [3, 1] false 0], .osl [4] 0 1 true dl, .int .i64 true i, .ptr [4] true i, .bool true b, .bool false false, .ptr [3, 1] false 0, .bool true x.w, .bool true (!x.w), .bool false true, .ptr [3, 1] false 1, .int .i64 true x.v, .int .i64 true now, .bool true (cmp .neq x.v now), .bool true (cmp .neq x.v now), .bool true (cmp .neq x.v now), .bool false false, .isl 0 4 true l0 er false, .osl [4] 0 1 true dl, .osl [1, 77, 3, 18, 3] 0 4 true ((outA (LfI.mk er dn l0 l0 0 dl none)).length : Int), .fn 12 [] [.ptr [3, 1] false 0], .bool false false, .bool false false, .int .i64 true now, .ptr [3, 1] false 0, .bool true x.w, .top, .top, .osl [4] 0 1 true dl, .int .i64 true i, .ptr [4] true i, .osl [5] 0 1 true ol, .int .i64 true i, .osl [2, 7] 0 1 false 1, .osl [3, 7] 0 1 true (pls ol 1), .fn 11 [] [.ptr [0] false 0, .ptr [1] false 0, .ptr [2] false 0, .ptr [3] false 0], .int .i64 true now, .bool false true, .top, .top, .top, .top, .top, .top, .top, .top, .top], H := { es := [([5, 77, 3, 2, 8], .row (fndS (SkI.mk er er (setCells dn (i).toNat [.bool true true]) l0 l0 l0 0 dl now (some ((od ++ [.int .i64 true i]), (pls ol 1))) false)) true 0), ([3, 7], .dead), ([2, 7], .row [.int .i64 true i] false 0), ([1, 77, 3, 18, 3], .row (cellsA (outA (LfI.mk er dn l0 l0 0 dl none))) true 0), ([3, 1], .row [.bool true x.w, .int .i64 true x.v, .int .i64 true x.f, .int .i64 true x.t] false 0), ([0], .row [.osl [5, 77, 3, 2, 8] 0 1 true ((fndS (SkI.mk er er (setCells dn (i).toNat [.bool true true]) l0 l0 l0 0 dl now (some ((od ++ [.int .i64 true i]), (pls ol 1))) false)).length : Int)] false 0), ([1], .row [.isl 0 4 true l0 er false] false 0), ([2], .row [.osl [4] 0 1 true dl] false 0), ([3], .row [.fn 11 [] [.ptr [0] false 0, .ptr [1] false 0, .ptr [2] false 0, .ptr [3] false 0]] false 0), ([4], .row [] false 0), ([5], .dead)], log := [[4], [3], [2], [1], [0], [3, 7], [0], [5], [4], [1, 77, 3, 18, 3], [3, 1], [4], [3, 1]] }, c := 10, marks := [] }, [.bit (cmp .lss i len) true, .elem es i (.agg [.bool true x.w, .int .i64 true x.v, .int .i64 true x.f, .int .i64 true x.t]), .bit (cmp .geq i 0) true, .bit (cmp .lss i dl) true, .rd dn i [.bool true b], .bit b false, .bit (!x.w) true, .bit (cmp .neq x.v now) false, .prop (loopAt f14 0 = loopAt f14 0), .prop (Lf.pre (LfI.mk er dn l0 l0 0 dl none)), .bit (Lf.q (LfI.mk er dn l0 l0 0 dl none)) false, .prop (loopAt f18 0 = loopAt f18 0), .prop (IxW.pre (WtI.mk (cellsA (outA (LfI.mk er dn l0 l0 0 dl none))) ((outA (LfI.mk er dn l0 l0 0 dl none)).length : Int) ((outA (LfI.mk er dn l0 l0 0 dl none)).length : Int) 0 (Ac.mk x.w x.v x.f x.t))), .bit (IxW.q (WtI.mk (cellsA (outA (LfI.mk er dn l0 l0 0 dl none))) ((outA (LfI.mk er dn l0 l0 0 dl none)).length : Int) ((outA (LfI.mk er dn l0 l0 0 dl none)).length : Int) 0 (Ac.mk x.w x.v x.f x.t))) false, .bit x.w false, .bit (cmp .geq i 0) true, .bit (cmp .lss i dl) true, .wr dn i [.bool true true] (setCells dn (i).toNat [.bool true true]), .bit (cmp .geq ol 0) true, .bit (cmp .leq ol 1048576) true, .idx (lin ol 1 0) (od.length), .bit (cmp .eql (pls ol 1) l0) false, .prop (loopAt f11 0 = loopAt f11 0), .prop ((Sk m).pre (SkI.mk er er (setCells dn (i).toNat [.bool true true]) l0 l0 l0 0 dl now (some ((od ++ [.int .i64 true i]), (pls ol 1))) false)), .bit ((Sk m).q (SkI.mk er er (setCells dn (i).toNat [.bool true true]) l0 l0 l0 0 dl now (some ((od ++ [.int .i64 true i]), (pls ol 1))) false)) true]) := by kernel_rfl
theorem rSk1_14 (inR : Bool) (m : Nat) (es er dn od : List VV) (l1 l0 len i dl ol now : Int) (x : Ac) (b : Bool) : outC (evCode (cxS m) (ev (cxS m) 60) 11 [] inR (bodyAt f11 0) (Sk_S es er dn l1 l0 len i dl now (some (od, ol))) [.bit true, .val (.agg [.bool true x.w, .int .i64 true x.v, .int .i64 true x.f, .int .i64 true x.t]), .val (.bool true b), .bit false, .bit true, .bit false, .hook 0, .bit false, .hook 1, .bit false, .bit false, .row (setCells dn (i).toNat [.bool true true]), .bit false, .hook 2, .bit false, .row (setCells (setCells dn (i).toNat [.bool true true]) (i).toNat [.bool true false])]) =
    some (.nrm, { ts := [.int .i64 true now, .ptr [0] false 0, .ptr [1] false 0, .ptr [2] false 0, .ptr [3] false 0, .top, .top, .int .i64 true i, .ptr [3, 1] false 0, .fn 12 [] [.ptr [3, 1] false 0], .int .i64 true now, .top, .top, .top, .top, .top, .isl 0 4 true l1 es false, .int .i64 true len, .int .i64 true (ar .add .i64 i 1), .bool true (cmp .lss i len), .int .i64 true i, .eptr [.bool true x.w, .int .i64 true x.v, .int .i64 true x.f, .int .i64 true x.t], .agg [.bool true x.w, .int .i64 true x.v, .int .i64 true x.f, .int .i64 true x.t], .fn 12 [] [.ptr [3, 1] false 0], .osl [4] 0 1 true dl, .int .i64 true i, .ptr [4] true i, .bool true b, .bool false false, .ptr [3, 1] false 0, .bool true x.w, .bool true (!x.w), .bool false true, .ptr [3, 1] false 1, .int .i64 true x.v, .int .i64 true now, .bool true (cmp .neq x.v now), .bool true (cmp .neq x.v now), .bool true (cmp .neq x.v now), .bool false false, .isl 0 4 true l0 er false, .osl [4] 0 1 true dl, .osl [1, 77, 3, 18, 3] 0 4 true ((outA (LfI.mk er dn l0 l0 0 dl none)).length : Int), .fn 12 [] [.ptr [3, 1] false 0], .bool false false, .bool false false, .int .i64 true now, .ptr [3, 1] false 0, .bool true x.w, .top, .top, .osl [4] 0 1 true dl, .int .i64 true i, .ptr [4] true i, .osl [5] 0 1 true ol, .int .i64 true i, .osl [2, 7] 0 1 false 1, .osl [3, 7] 0 1 true (pls ol 1), .fn 11 [] [.ptr [0] false 0, .ptr [1] false 0, .ptr [2] false 0, .ptr [3] false 0], .int .i64 true now, .bool false false, .osl [4] 0 1 true dl, .int .i64 true i, .ptr [4] true i, .osl [5, 77, 3, 2, 8] 0 1 true (pls ol 1), .osl [5, 77, 3, 2, 8] 0 1 true (pls ol 1), .int .i64 true (pls ol 1), .int .i64 true (ar .sub .i64 (pls ol 1) 1), .osl [5, 77, 3, 2, 8] 0 1 true (mns (ar .sub .i64 (pls ol 1) 1) 0), .int .i64 true (ar .add .i64 i 1)], H := { es := [([5, 77, 3, 2, 8], .row (od ++ [.int .i64 true i]) true 0), ([3, 7], .dead), ([2, 7], .row [.int .i64 true i] false 0), ([1, 77, 3, 18, 3], .row (cellsA (outA (LfI.mk er dn l0 l0 0 dl none))) true 0), ([3, 1], .row [.bool true x.w, .int .i64 true x.v, .int .i64 true x.f, .int .i64 true x.t] false 0), ([0], .row [.osl [5, 77, 3, 2, 8] 0 1 true (mns (ar .sub .i64 (pls ol 1) 1) 0)] false 0), ([1], .row [.isl 0 4 true l0 er false] false 0), ([2], .row [.osl [4] 0 1 true dl] false 0), ([3], .row [.fn 11 [] [.ptr [0] false 0, .ptr [1] false 0, .ptr [2] false 0, .ptr [3] false 0]] false 0), ([4], .row (setCells (setCells dn (i).toNat [.bool true true]) (i).toNat [.bool true false]) true 0), ([5], .dead)], log := [[0], [4], [4], [3], [2], [1], [0], [3, 7], [0], [5], [4], [1, 77, 3, 18, 3], [3, 1], [4], [3, 1]] }, c := 12, marks := [] }, [.bit (cmp .lss i len) true, .elem es i (.agg [.bool true x.w, .int .i64 true x.v, .int .i64 true x.f, .int .i64 true x.t]), .bit (cmp .geq i 0) true, .bit (cmp .lss i dl) true, .rd dn i [.bool true b], .bit b false, .bit (!x.w) true, .bit (cmp .neq x.v now) false, .prop (loopAt f14 0 = loopAt f14 0), .prop (Lf.pre (LfI.mk er dn l0 l0 0 dl none)), .bit (Lf.q (LfI.mk er dn l0 l0 0 dl none)) false, .prop (loopAt f18 0 = loopAt f18 0), .prop (IxW.pre (WtI.mk (cellsA (outA (LfI.mk er dn l0 l0 0 dl none))) ((outA (LfI.mk er dn l0 l0 0 dl none)).length : Int) ((outA (LfI.mk er dn l0 l0 0 dl none)).length : Int) 0 (Ac.mk x.w x.v x.f x.t))), .bit (IxW.q (WtI.mk (cellsA (outA (LfI.mk er dn l0 l0 0 dl none))) ((outA (LfI.mk er dn l0 l0 0 dl none)).length : Int) ((outA (LfI.mk er dn l0 l0 0 dl none)).length : Int) 0 (Ac.mk x.w x.v x.f x.t))) false, .bit x.w false, .bit (cmp .geq i 0) true, .bit (cmp .lss i dl) true, .wr dn i [.bool true true] (setCells dn (i).toNat [.bool true true]), .bit (cmp .geq ol 0) true, .bit (cmp .leq ol 1048576) true, .idx (lin ol 1 0) (od.length), .bit (cmp .eql (pls ol 1) l0) false, .prop (loopAt f11 0 = loopAt f11 0), .prop ((Sk m).pre (SkI.mk er er (setCells dn (i).toNat [.bool true true]) l0 l0 l0 0 dl now (some ((od ++ [.int .i64 true i]), (pls ol 1))) false)), .bit ((Sk m).q (SkI.mk er er (setCells dn (i).toNat [.bool true true]) l0 l0 l0 0 dl now (some ((od ++ [.int .i64 true i]), (pls ol 1))) false)) false, .bit (cmp .geq i 0) true, .bit (cmp .lss i dl) true, .wr (setCells dn (i).toNat [.bool true true]) i [.bool true false] (setCells (setCells dn (i).toNat [.bool true true]) (i).toNat [.bool true false]), .bit (cmp .leq 0 (ar .sub .i64 (pls ol 1) 1)) true, .bit (cmp .leq (ar .sub .i64 (pls ol 1) 1) (pls ol 1)) true]) := by kernel_rfl
theorem rSk1_15 (inR : Bool) (m : Nat) (es er dn od : List VV) (l1 l0 len i dl ol now : Int) (x : Ac) (b : Bool) : outC (evCode (cxS m) (ev (cxS m) 60) 11 [] inR (bodyAt f11 0) (Sk_S es er dn l1 l0 len i dl now (some (od, ol))) [.bit true, .val (.agg [.bool true x.w, .int .i64 true x.v, .int .i64 true x.f, .int .i64 true x.t]), .val (.bool true b), .bit false, .bit false, .hook 0, .bit false, .hook 1, .bit true, .bit true]) =
    some (.nrm, { ts := [.int .i64 true now, .ptr [0] false 0, .ptr [1] false 0, .ptr [2] false 0, .ptr [3] false 0, .top, .top, .int .i64 true i, .ptr [3, 1] false 0, .fn 12 [] [.ptr [3, 1] false 0], .top, .top, .top, .top, .top, .top, .isl 0 4 true l1 es false, .int .i64 true len, .int .i64 true (ar .add .i64 i 1), .bool true (cmp .lss i len), .int .i64 true i, .eptr [.bool true x.w, .int .i64 true x.v, .int .i64 true x.f, .int .i64 true x.t], .agg [.bool true x.w, .int .i64 true x.v, .int .i64 true x.f, .int .i64 true x.t], .fn 12 [] [.ptr [3, 1] false 0], .osl [4] 0 1 true dl, .int .i64 true i, .ptr [4] true i, .bool true b, .bool false false, .ptr [3, 1] false 0, .bool true x.w, .bool true (!x.w), .bool false false, .undef, .undef, .undef, .undef, .bool false false, .bool false false, .bool false false, .isl 0 4 true l0 er false, .osl [4] 0 1 true dl, .osl [1, 77, 3, 18, 3] 0 4 true ((outA (LfI.mk er dn l0 l0 0 dl none)).length : Int), .fn 12 [] [.ptr [3, 1] false 0], .bool true (cmp .geq (wtS (WtI.mk (cellsA (outA (LfI.mk er dn l0 l0 0 dl none))) ((outA (LfI.mk er dn l0 l0 0 dl none)).length : Int) ((outA (LfI.mk er dn l0 l0 0 dl none)).length : Int) 0 (Ac.mk x.w x.v x.f x.t))) 0), .bool true (cmp .geq (wtS (WtI.mk (cellsA (outA (LfI.mk er dn l0 l0 0 dl none))) ((outA (LfI.mk er dn l0 l0 0 dl none)).length : Int) ((outA (LfI.mk er dn l0 l0 0 dl none)).length : Int) 0 (Ac.mk x.w x.v x.f x.t))) 0), .top, .top, .top, .top, .top, .top, .top, .top, .top, .top, .top, .top, .top, .top, .top, .top, .top, .top, .top, .top, .top, .top, .top, .int .i64 true (ar .add .i64 i 1)], H := { es := [([1, 77, 3, 18, 3], .row (cellsA (outA (LfI.mk er dn l0 l0 0 dl none))) true 0), ([3, 1], .row [.bool true x.w, .int .i64 true x.v, .int .i64 true x.f, .int .i64 true x.t] false 0), ([0], .row [.osl [5] 0 1 true ol] false 0), ([1], .row [.isl 0 4 true l0 er false] false 0), ([2], .row [.osl [4] 0 1 true dl] false 0), ([3], .row [.fn 11 [] [.ptr [0] false 0, .ptr [1] false 0, .ptr [2] false 0, .ptr [3] false 0]] false 0), ([4], .row dn true 0), ([5], .row od true 0)], log := [[1, 77, 3, 18, 3], [3, 1], [4], [3, 1]] }, c := 5, marks := [] }, [.bit (cmp .lss i len) true, .elem es i (.agg [.bool true x.w, .int .i64 true x.v, .int .i64 true x.f, .int .i64 true x.t]), .bit (cmp .geq i 0) true, .bit (cmp .lss i dl) true, .rd dn i [.bool true b], .bit b false, .bit (!x.w) false, .prop (loopAt f14 0 = loopAt f14 0), .prop (Lf.pre (LfI.mk er dn l0 l0 0 dl none)), .bit (Lf.q (LfI.mk er dn l0 l0 0 dl none)) false, .prop (loopAt f18 0 = loopAt f18 0), .prop (IxW.pre (WtI.mk (cellsA (outA (LfI.mk er dn l0 l0 0 dl none))) ((outA (LfI.mk er dn l0 l0 0 dl none)).length : Int) ((outA (LfI.mk er dn l0 l0 0 dl none)).length : Int) 0 (Ac.mk x.w x.v x.f x.t))), .bit (IxW.q (WtI.mk (cellsA (outA (LfI.mk er dn l0 l0 0 dl none))) ((outA (LfI.mk er dn l0 l0 0 dl none)).length : Int) ((outA (LfI.mk er dn l0 l0 0 dl none)).length : Int) 0 (Ac.mk x.w x.v x.f x.t))) true, .bit (cmp .geq (wtS (WtI.mk (cellsA (outA (LfI.mk er dn l0 l0 0 dl none))) ((outA (LfI.mk er dn l0 l0 0 dl none)).length : Int) ((outA (LfI.mk er dn l0 l0 0 dl none)).length : Int) 0 (Ac.mk x.w x.v x.f x.t))) 0) true]) := by kernel_rfl
theorem rSk1_22 (inR : Bool) (m : Nat) (es er dn od : List VV) (l1 l0 len i dl ol now : Int) (x : Ac) (b : Bool) : outC (evCode (cxS m) (ev (cxS m) 60) 11 [] inR (bodyAt f11 0) (Sk_S es er dn l1 l0 len i dl now (some (od, ol))) [.bit true, .val (.agg [.bool true x.w, .int .i64 true x.v, .int .i64 true x.f, .int .i64 true x.t]), .val (.bool true b), .bit false, .bit false, .hook 0, .bit false, .hook 1, .bit false, .bit true, .row (setCells dn (i).toNat [.bool true true]), .bit true]) =
    some (.ret, { ts := [.int .i64 true now, .ptr [0] false 0, .ptr [1] false 0, .ptr [2] false 0, .ptr [3] false 0, .top, .bool false true, .int .i64 true i, .ptr [3, 1] false 0, .fn 12 [] [.ptr [3, 1] false 0], .int .i64 true x.v, .top, .top, .top, .top, .top, .isl 0 4 true l1 es false, .int .i64 true len, .int .i64 true i, .bool true (cmp .lss i len), .int .i64 true i, .eptr [.bool true x.w, .int .i64 true x.v, .int .i64 true x.f, .int .i64 true x.t], .agg [.bool true x.w, .int .i64 true x.v, .int .i64 true x.f, .int .i64 true x.t], .fn 12 [] [.ptr [3, 1] false 0], .osl [4] 0 1 true dl, .int .i64 true i, .ptr [4] true i, .bool true b, .bool false false, .ptr [3, 1] false 0, .bool true x.w, .bool true (!x.w), .bool false false, .undef, .undef, .undef, .undef, .bool false false, .bool false false, .bool false false, .isl 0 4 true l0 er false, .osl [4] 0 1 true dl, .osl [1, 77, 3, 18, 3] 0 4 true ((outA (LfI.mk er dn l0 l0 0 dl none)).length : Int), .fn 12 [] [.ptr [3, 1] false 0], .bool false false, .bool false false, .int .i64 true now, .ptr [3, 1] false 0, .bool true x.w, .ptr [3, 1] false 1, .int .i64 true x.v, .osl [4] 0 1 true dl, .int .i64 true i, .ptr [4] true i, .osl [5] 0 1 true ol, .int .i64 true i, .osl [2, 8] 0 1 false 1, .osl [3, 8] 0 1 true (pls ol 1), .fn 11 [] [.ptr [0] false 0, .ptr [1] false 0, .ptr [2] false 0, .ptr [3] false 0], .int .i64 true x.v, .bool false true, .top, .top, .top, .top, .top, .top, .top, .top, .top], H := { es := [([3, 8], .row (od ++ [.int .i64 true i]) true 0), ([2, 8], .row [.int .i64 true i] false 0), ([1, 77, 3, 18, 3], .row (cellsA (outA (LfI.mk er dn l0 l0 0 dl none))) true 0), ([3, 1], .row [.bool true x.w, .int .i64 true x.v, .int .i64 true x.f, .int .i64 true x.t] false 0), ([0], .row [.osl [3, 8] 0 1 true (pls ol 1)] false 0), ([1], .row [.isl 0 4 true l0 er false] false 0), ([2], .row [.osl [4] 0 1 true dl] false 0), ([3], .row [.fn 11 [] [.ptr [0] false 0, .ptr [1] false 0, .ptr [2] false 0, .ptr [3] false 0]] false 0), ([4], .row (setCells dn (i).toNat [.bool true true]) true 0), ([5], .dead)], log := [[0], [5], [4], [1, 77, 3, 18, 3], [3, 1], [4], [3, 1]] }, c := 11, marks := [] }, [.bit (cmp .lss i len) true, .elem es i (.agg [.bool true x.w, .int .i64 true x.v, .int .i64 true x.f, .int .i64 true x.t]), .bit (cmp .geq i 0) true, .bit (cmp .lss i dl) true, .rd dn i [.bool true b], .bit b false, .bit (!x.w) false, .prop (loopAt f14 0 = loopAt f14 0), .prop (Lf.pre (LfI.mk er dn l0 l0 0 dl none)), .bit (Lf.q (LfI.mk er dn l0 l0 0 dl none)) false, .prop (loopAt f18 0 = loopAt f18 0), .prop (IxW.pre (WtI.mk (cellsA (outA (LfI.mk er dn l0 l0 0 dl none))) ((outA (LfI.mk er dn l0 l0 0 dl none)).length : Int) ((outA (LfI.mk er dn l0 l0 0 dl none)).length : Int) 0 (Ac.mk x.w x.v x.f x.t))), .bit (IxW.q (WtI.mk (cellsA (outA (LfI.mk er dn l0 l0 0 dl none))) ((outA (LfI.mk er dn l0 l0 0 dl none)).length : Int) ((outA (LfI.mk er dn l0 l0 0 dl none)).length : Int) 0 (Ac.mk x.w x.v x.f x.t))) false, .bit x.w true, .bit (cmp .geq i 0) true, .bit (cmp .lss i dl) true, .wr dn i [.bool true true] (setCells dn (i).toNat [.bool true true]), .bit (cmp .geq ol 0) true, .bit (cmp .leq ol 1048576) true, .idx (lin ol 1 0) (od.length), .bit (cmp .eql (pls ol 1) l0) true]) := by kernel_rfl
theorem rSk1_23 (inR : Bool) (m : Nat) (es er dn od : List VV) (l1 l0 len i dl ol now : Int) (x : Ac) (b : Bool) : outC (evCode (cxS m) (ev (cxS m) 60) 11 [] inR (bodyAt f11 0) (Sk_S es er dn l1 l0 len i dl now (some (od, ol))) [.bit true, .val (.agg [.bool true x.w, .int .i64 true x.v, .int .i64 true x.f, .int .i64 true x.t]), .val (.bool true b), .bit false, .bit false, .hook 0, .bit false, .hook 1, .bit false, .bit true, .row (setCells dn (i).toNat [.bool true true]), .bit false, .hook 2, .bit true]) =
    some (.ret, { ts := [.int .i64 true now, .ptr [0] false 0, .ptr [1] false 0, .ptr [2] false 0, .ptr [3] false 0, .top, .bool false true, .int .i64 true i, .ptr [3, 1] false 0, .fn 12 [] [.ptr [3, 1] false 0], .int .i64 true x.v, .top, .top, .top, .top, .top, .isl 0 4 true l1 es false, .int .i64 true len, .int .i64 true i, .bool true (cmp .lss i len), .int .i64 true i, .eptr [.bool true x.w, .int .i64 true x.v, .int .i64 true x.f, .int .i64 true x.t], .agg [.bool true x.w, .int .i64 true x.v, .int .i64 true x.f, .int .i64 true x.t], .fn 12 [] [.ptr [3, 1] false 0], .osl [4] 0 1 true dl, .int .i64 true i, .ptr [4] true i, .bool true b, .bool false false, .ptr [3, 1] false 0, .bool true x.w, .bool true (!x.w), .bool false false, .undef, .undef, .undef, .undef, .bool false false, .bool false false, .bool false false, .isl 0 4 true l0 er false, .osl [4] 0 1 true dl, .osl [1, 77, 3, 18, 3] 0 4 true ((outA (LfI.mk er dn l0 l0 0 dl none)).length : Int), .fn 12 [] [.ptr [3, 1] false 0], .bool false false, .bool false false, .int .i64 true now, .ptr [3, 1] false 0, .bool true x.w, .ptr [3, 1] false 1, .int .i64 true x.v, .osl [4] 0 1 true dl, .int .i64 true i, .ptr [4] true i, .osl [5] 0 1 true ol, .int .i64 true i, .osl [2, 8] 0 1 false 1, .osl [3, 8] 0 1 true (pls ol 1), .fn 11 [] [.ptr [0] false 0, .ptr [1] false 0, .ptr [2] false 0, .ptr [3] false 0], .int .i64 true x.v, .bool false true, .top, .top, .top, .top, .top, .top, .top, .top, .top], H := { es := [([5, 77, 3, 2, 9], .row (fndS (SkI.mk er er (setCells dn (i).toNat [.bool true true]) l0 l0 l0 0 dl x.v (some ((od ++ [.int .i64 true i]), (pls ol 1))) false)) true 0), ([3, 8], .dead), ([2, 8], .row [.int .i64 true i] false 0), ([1, 77, 3, 18, 3], .row (cellsA (outA (LfI.mk er dn l0 l0 0 dl none))) true 0), ([3, 1], .row [.bool true x.w, .int .i64 true x.v, .int .i64 true x.f, .int .i64 true x.t] false 0), ([0], .row [.osl [5, 77, 3, 2, 9] 0 1 true ((fndS (SkI.mk er er (setCells dn (i).toNat [.bool true true]) l0 l0 l0 0 dl x.v (some ((od ++ [.int .i64 true i]), (pls ol 1))) false)).length : Int)] false 0), ([1], .row [.isl 0 4 true l0 er false] false 0), ([2], .row [.osl [4] 0 1 true dl] false 0), ([3], .row [.fn 11 [] [.ptr [0] false 0, .ptr [1] false 0, .ptr [2] false 0, .ptr [3] false 0]] false 0), ([4], .row [] false 0), ([5], .dead)], log := [[4], [3], [2], [1], [0], [3, 8], [0], [5], [4], [1, 77, 3, 18, 3], [3, 1], [4], [3, 1]] }, c := 11, marks := [] }, [.bit (cmp .lss i len) true, .elem es i (.agg [.bool true x.w, .int .i64 true x.v, .int .i64 true x.f, .int .i64 true x.t]), .bit (cmp .geq i 0) true, .bit (cmp .lss i dl) true, .rd dn i [.bool true b], .bit b false, .bit (!x.w) false, .prop (loopAt f14 0 = loopAt f14 0), .prop (Lf.pre (LfI.mk er dn l0 l0 0 dl none)), .bit (Lf.q (LfI.mk er dn l0 l0 0 dl none)) false, .prop (loopAt f18 0 = loopAt f18 0), .prop (IxW.pre (WtI.mk (cellsA (outA (LfI.mk er dn l0 l0 0 dl none))) ((outA (LfI.mk er dn l0 l0 0 dl none)).length : Int) ((outA (LfI.mk er dn l0 l0 0 dl none)).length : Int) 0 (Ac.mk x.w x.v x.f x.t))), .bit (IxW.q (WtI.mk (cellsA (outA (LfI.mk er dn l0 l0 0 dl none))) ((outA (LfI.mk er dn l0 l0 0 dl none)).length : Int) ((outA (LfI.mk er dn l0 l0 0 dl none)).length : Int) 0 (Ac.mk x.w x.v x.f x.t))) false, .bit x.w true, .bit (cmp .geq i 0) true, .bit (cmp .lss i dl) true, .wr dn i [.bool true true] (setCells dn (i).toNat [.bool true true]), .bit (cmp .geq ol 0) true, .bit (cmp .leq ol 1048576) true, .idx (lin ol 1 0) (od.length), .bit (cmp .eql (pls ol 1) l0) false, .prop (loopAt f11 0 = loopAt f11 0), .prop ((Sk m).pre (SkI.mk er er (setCells dn (i).toNat [.bool true true]) l0 l0 l0 0 dl x.v (some ((od ++ [.int .i64 true i]), (pls ol 1))) false)), .bit ((Sk m).q (SkI.mk er er (setCells dn (i).toNat [.bool true true]) l0 l0 l0 0 dl x.v (some ((od ++ [.int .i64 true i]), (pls ol 1))) false)) true]) := by kernel_rfl
theorem rSk1_24 (inR : Bool) (m : Nat) (es er dn od : List VV) (l1 l0 len i dl ol now : Int) (x : Ac) (b : Bool) : outC (evCode (cxS m) (ev (cxS m) 60) 11 [] inR (bodyAt f11 0) (Sk_S es er dn l1 l0 len i dl now (some (od, ol))) [.bit true, .val (.agg [.bool true x.w, .int .i64 true x.v, .int .i64 true x.f, .int .i64 true x.t]), .val (.bool true b), .bit false, .bit false, .hook 0, .bit false, .hook 1, .bit false, .bit true, .row (setCells dn (i).toNat [.bool true true]), .bit false, .hook 2, .bit false, .row (setCells (setCells dn (i).toNat [.bool true true]) (i).toNat [.bool true false])]) =
    some (.nrm, { ts := [.int .i64 true now, .ptr [0] false 0, .ptr [1] false 0, .ptr [2] false 0, .ptr [3] false 0, .top, .top, .int .i64 true i, .ptr [3, 1] false 0, .fn 12 [] [.ptr [3, 1] false 0], .int .i64 true x.v, .top, .top, .top, .top, .top, .isl 0 4 true l1 es false, .int .i64 true len, .int .i64 true (ar .add .i64 i 1), .bool true (cmp .lss i len), .int .i64 true i, .eptr [.bool true x.w, .int .i64 true x.v, .int .i64 true x.f, .int .i64 true x.t], .agg [.bool true x.w, .int .i64 true x.v, .int .i64 true x.f, .int .i64 true x.t], .fn 12 [] [.ptr [3, 1] false 0], .osl [4] 0 1 true dl, .int .i64 true i, .ptr [4] true i, .bool true b, .bool false false, .ptr [3, 1] false 0, .bool true x.w, .bool true (!x.w), .bool false false, .undef, .undef, .undef, .undef, .bool false false, .bool false false, .bool false false, .isl 0 4 true l0 er false, .osl [4] 0 1 true dl, .osl [1, 77, 3, 18, 3] 0 4 true ((outA (LfI.mk er dn l0 l0 0 dl none)).length : Int), .fn 12 [] [.ptr [3, 1] false 0], .bool false false, .bool false false, .int .i64 true now, .ptr [3, 1] false 0, .bool true x.w, .ptr [3, 1] false 1, .int .i64 true x.v, .osl [4] 0 1 true dl, .int .i64 true i, .ptr [4] true i, .osl [5] 0 1 true ol, .int .i64 true i, .osl [2, 8] 0 1 false 1, .osl [3, 8] 0 1 true (pls ol 1), .fn 11 [] [.ptr [0] false 0, .ptr [1] false 0, .ptr [2] false 0, .ptr [3] false 0], .int .i64 true x.v, .bool false false, .osl [4] 0 1 true dl, .int .i64 true i, .ptr [4] true i, .osl [5, 77, 3, 2, 9] 0 1 true (pls ol 1), .osl [5, 77, 3, 2, 9] 0 1 true (pls ol 1), .int .i64 true (pls ol 1), .int .i64 true (ar .sub .i64 (pls ol 1) 1), .osl [5, 77, 3, 2, 9] 0 1 true (mns (ar .sub .i64 (pls ol 1) 1) 0), .int .i64 true (ar .add .i64 i 1)], H := { es := [([5, 77, 3, 2, 9], .row (od ++ [.int .i64 true i]) true 0), ([3, 8], .dead), ([2, 8], .row [.int .i64 true i] false 0), ([1, 77, 3, 18, 3], .row (cellsA (outA (LfI.mk er dn l0 l0 0 dl none))) true 0), ([3, 1], .row [.bool true x.w, .int .i64 true x.v, .int .i64 true x.f, .int .i64 true x.t] false 0), ([0], .row [.osl [5, 77, 3, 2, 9] 0 1 true (mns (ar .sub .i64 (pls ol 1) 1) 0)] false 0), ([1], .row [.isl 0 4 true l0 er false] false 0), ([2], .row [.osl [4] 0 1 true dl] false 0), ([3], .row [.fn 11 [] [.ptr [0] false 0, .ptr [1] false 0, .ptr [2] false 0, .ptr [3] false 0]] false 0), ([4], .row (setCells (setCells dn (i).toNat [.bool true true]) (i).toNat [.bool true false]) true 0), ([5], .dead)], log := [[0], [4], [4], [3], [2], [1], [0], [3, 8], [0], [5], [4], [1, 77, 3, 18, 3], [3, 1], [4], [3, 1]] }, c := 13, marks := [] }, [.bit (cmp .lss i len) true, .elem es i (.agg [.bool true x.w, .int .i64 true x.v, .int .i64 true x.f, .int .i64 true x.t]), .bit (cmp .geq i 0) true, .bit (cmp .lss i dl) true, .rd dn i [.bool true b], .bit b false, .bit (!x.w) false, .prop (loopAt f14 0 = loopAt f14 0), .prop (Lf.pre (LfI.mk er dn l0 l0 0 dl none)), .bit (Lf.q (LfI.mk er dn l0 l0 0 dl none)) false, .prop (loopAt f18 0 = loopAt f18 0), .prop (IxW.pre (WtI.mk (cellsA (outA (LfI.mk er dn l0 l0 0 dl none))) ((outA (LfI.mk er dn l0 l0 0 dl none)).length : Int) ((outA (LfI.mk er dn l0 l0 0 dl none)).length : Int) 0 (Ac.mk x.w x.v x.f x.t))), .bit (IxW.q (WtI.mk (cellsA (outA (LfI.mk er dn l0 l0 0 dl none))) ((outA (LfI.mk er dn l0 l0 0 dl none)).length : Int) ((outA (LfI.mk er dn l0 l0 0 dl none)).length : Int) 0 (Ac.mk x.w x.v x.f x.t))) false, .bit x.w true, .bit (cmp .geq i 0) true, .bit (cmp .lss i dl) true, .wr dn i [.bool true true] (setCells dn (i).toNat [.bool true true]), .bit (cmp .geq ol 0) true, .bit (cmp .leq ol 1048576) true, .idx (lin ol 1 0) (od.length), .bit (cmp .eql (pls ol 1) l0) false, .prop (loopAt f11 0 = loopAt f11 0), .prop ((Sk m).pre (SkI.mk er er (setCells dn (i).toNat [.bool true true]) l0 l0 l0 0 dl x.v (some ((od ++ [.int .i64 true i]), (pls ol 1))) false)), .bit ((Sk m).q (SkI.mk er er (setCells dn (i).toNat [.bool true true]) l0 l0 l0 0 dl x.v (some ((od ++ [.int .i64 true i]), (pls ol 1))) false)) false, .bit (cmp .geq i 0) true, .bit (cmp .lss i dl) true, .wr (setCells dn (i).toNat [.bool true true]) i [.bool true false] (setCells (setCells dn (i).toNat [.bool true true]) (i).toNat [.bool true false]), .bit (cmp .leq 0 (ar .sub .i64 (pls ol 1) 1)) true, .bit (cmp .leq (ar .sub .i64 (pls ol 1) 1) (pls ol 1)) true]) := by kernel_rfl
theorem rSk1_28 (inR : Bool) (m : Nat) (es er dn od : List VV) (l1 l0 len i dl ol now : Int) (x : Ac) (b : Bool) : outC (evCode (cxS m) (ev (cxS m) 60) 11 [] inR (bodyAt f11 0) (Sk_S es er dn l1 l0 len i dl now (some (od, ol))) [.bit false]) =
    some (.exit 0, { ts := [.int .i64 true now, .ptr [0] false 0, .ptr [1] false 0, .ptr [2] false 0, .ptr [3] false 0, .top, .top, .top, .top, .top, .top, .top, .top, .top, .top, .top, .isl 0 4 true l1 es false, .int .i64 true len, .int .i64 true i, .bool true (cmp .lss i len), .top, .top, .top, .top, .top, .top, .top, .top, .top, .top, .top, .top, .top, .top, .top, .top, .top, .top, .top, .top, .top, .top, .top, .top, .top, .top, .top, .top, .top, .top, .top, .top, .top, .top, .top, .top, .top, .top, .top, .top, .top, .top, .top, .top, .top, .top, .top, .top, .top, .top], H := { es := [([0], .row [.osl [5] 0 1 true ol] false 0), ([1], .row [.isl 0 4 true l0 er false] false 0), ([2], .row [.osl [4] 0 1 true dl] false 0), ([3], .row [.fn 11 [] [.ptr [0] false 0, .ptr [1] false 0, .ptr [2] false 0, .ptr [3] false 0]] false 0), ([4], .row dn true 0), ([5], .row od true 0)], log := [] }, c := 1, marks := [] }, [.bit (cmp .lss i len) false]) := by kernel_rfl

theorem Sk_code (m : Nat) : (Sk m).code = .loop (bodyAt f11 0) := by kernel_rfl
theorem Sk_mem {m : Nat} {n : Nm} (hn : n ∈ (Sk m).K) : n = [0] ∨ n = [1] ∨ n = [2] ∨ n = [3] ∨ n = [4] := by
  have h : n ∈ ([[0], [1], [2], [3], [4]] : List Nm) := hn
  simpa using h
theorem argL_nats : ∀ (l : List Nat), argL (l.map natV) = true
  | [] => rfl
  | x :: l => by simp only [List.map_cons, argL, argL_nats l, Bool.and_true]; rfl
theorem rowSeek {σ : Nm → Option Nm} {n0 n1 n2 n3 : Nm} {s0 s1 s2 s3 s : Bool} {id : Nat} (h0 : σ [0] = some n0) (h1 : σ [1] = some n1) (h2 : σ [2] = some n2) (h3 : σ [3] = some n3) :
    EntSim σ (.row [.fn 11 [] [.ptr n0 s0 0, .ptr n1 s1 0, .ptr n2 s2 0, .ptr n3 s3 0]] s id) (.row [seekFn] false 0) :=
  (SimL.cons (.fnL .nil (.cons (.ptr _ _ _ _ _ h0) (.cons (.ptr _ _ _ _ _ h1) (.cons (.ptr _ _ _ _ _ h2) (.cons (.ptr _ _ _ _ _ h3) .nil))))) .nil).pre
theorem rowIsl {σ : Nm → Option Nm} {id id' : Nat} {s s' : Bool} {l0 : Int} {es : List VV} {c0 : Bool} (h : argL es = true) : EntSim σ (.row [.isl id 4 s l0 es c0] s' id') (.row [.isl 0 4 true l0 es false] false 0) :=
  (SimL.cons (.isl _ _ _ _ _ _ _ _ h) .nil).pre
theorem rowOsl {σ : Nm → Option Nm} {nm nm' : Nm} {off sz : Nat} {s s' : Bool} {len len' : Int} {r : Bool} {id : Nat} (h : σ nm' = some nm) (hl : len = len') : EntSim σ (.row [.osl nm off sz s len] r id) (.row [.osl nm' off sz s' len'] false 0) :=
  (SimL.cons (sim_osl h hl) .nil).pre
theorem rowTop {σ : Nm → Option Nm} {v : VV} {r : Bool} {id : Nat} : EntSim σ (.row [v] r id) (.row [.top] false 0) := (SimL.cons (.top _) .nil).pre
theorem rowNone {σ : Nm → Option Nm} {vs : List VV} {r : Bool} {id : Nat} : EntSim σ (.row vs r id) (.row [] false 0) := ⟨Nat.zero_le _, fun i u v _ hv => by simp at hv⟩
theorem rowNil {σ : Nm → Option Nm} {r : Bool} {id : Nat} : EntSim σ (.row [nilL] r id) (.row [nilL] false 0) := (SimL.cons (.arg _ rfl) .nil).pre
theorem Sk_form (m : Nat) : LForm (Sk m) where
  pat st i ns h hp := by
    simp only [Sk] at h
    split at h
    · rename_i e1 e2 e3 e4 e5 e6 e7 e8 e9 e10
      split at h
      · rename_i g0 g1 g2 g3
        split at h
        · rename_i g4 ga
          simp only [Bool.and_eq_true] at ga
          obtain ⟨⟨⟨ga0, ga1⟩, ga2⟩, ga3⟩ := ga
          have ga0 := nmEq_iff.1 ga0
          have ga1 := nmEq_iff.1 ga1
          have ga2 := nmEq_iff.1 ga2
          have ga3 := nmEq_iff.1 ga3
          subst ga0 ga1 ga2 ga3
          split at h
          · split at h
            · rename_i hz
              subst hz
              split at h
              · rename_i hdis
                simp only [Option.some.injEq, Prod.mk.injEq] at h
                obtain ⟨rfl, rfl⟩ := h
                obtain ⟨hh, d, g, k, he, her, hd, _⟩ := hp
                dsimp only at he her hd
                refine ⟨stSim_of (Nat.eq_of_beq_eq_true e1) e10 hdis (fun p hp => ?_) ⟨rfl, ⟨_, g0, rowNil⟩, rfl, ⟨_, g1, rowIsl (by rw [her]; exact argL_map hh)⟩, rfl, ⟨_, g2, rowOsl rfl rfl⟩, rfl, ⟨_, g3, rowSeek rfl rfl rfl rfl⟩, rfl, ⟨_, g4, sim_row rfl (by rw [hd]; exact argL_bools d)⟩, trivial⟩, e10, rfl⟩
                simp only [List.mem_cons, List.not_mem_nil, or_false] at hp
                rcases hp with rfl | rfl | rfl | rfl | rfl | rfl | rfl | rfl
                · rw [e2]; exact .int _ _ _ _
                · rw [e3]; exact .ptr _ _ _ _ _ rfl
                · rw [e4]; exact .ptr _ _ _ _ _ rfl
                · rw [e5]; exact .ptr _ _ _ _ _ rfl
                · rw [e6]; exact .ptr _ _ _ _ _ rfl
                · rw [e7]; exact .isl _ _ _ _ _ _ _ _ (by rw [he]; exact argL_map hh)
                · rw [e8]; exact .int _ _ _ _
                · rw [e9]; exact .int _ _ _ _
              · cases h
            · cases h
          · split at h
            · rename_i g5
              split at h
              · rename_i hdis
                simp only [Option.some.injEq, Prod.mk.injEq] at h
                obtain ⟨rfl, rfl⟩ := h
                obtain ⟨hh, d, g, k, he, her, hd, _, _, _, _, _, _, _, _, _, ho⟩ := hp
                dsimp only at he her hd ho
                obtain ⟨od, ho1, _⟩ := ho
                refine ⟨stSim_of (Nat.eq_of_beq_eq_true e1) e10 hdis (fun p hp => ?_) ⟨rfl, ⟨_, g0, rowOsl rfl rfl⟩, rfl, ⟨_, g1, rowIsl (by rw [her]; exact argL_map hh)⟩, rfl, ⟨_, g2, rowOsl rfl rfl⟩, rfl, ⟨_, g3, rowSeek rfl rfl rfl rfl⟩, rfl, ⟨_, g4, sim_row rfl (by rw [hd]; exact argL_bools d)⟩, rfl, ⟨_, g5, sim_row rfl (by rw [ho1]; exact argL_nats od)⟩, trivial⟩, e10, rfl⟩
                simp only [List.mem_cons, List.not_mem_nil, or_false] at hp
                rcases hp with rfl | rfl | rfl | rfl | rfl | rfl | rfl | rfl
                · rw [e2]; exact .int _ _ _ _
                · rw [e3]; exact .ptr _ _ _ _ _ rfl
                · rw [e4]; exact .ptr _ _ _ _ _ rfl
                · rw [e5]; exact .ptr _ _ _ _ _ rfl
                · rw [e6]; exact .ptr _ _ _ _ _ rfl
                · rw [e7]; exact .isl _ _ _ _ _ _ _ _ (by rw [he]; exact argL_map hh)
                · rw [e8]; exact .int _ _ _ _
                · rw [e9]; exact .int _ _ _ _
              · cases h
            · cases h
          · cases h
        · cases h
      · cases h
    · cases h
  K i n hn := by
    rcases Sk_mem hn with rfl | rfl | rfl | rfl | rfl <;> exact ⟨_, rfl, trivial⟩
  S i p hp := by
    simp only [Sk, Sk_S, stOf, List.mem_cons] at hp
    rcases hp with rfl | rfl | rfl | rfl | rfl | hp
    · trivial
    · trivial
    · trivial
    · trivial
    · trivial
    · split at hp
      · cases hp
      · simp only [List.mem_singleton] at hp
        subst hp; trivial
  T i hp := by
    obtain ⟨hh, d, g, k, he, her, hd, _, _, _, _, _, _, _, _, _, ho⟩ := hp
    have hod : argL (ordS i) = true := by
      unfold ordS
      cases h : i.o with
      | none => rfl
      | some q =>
        rw [h] at ho
        obtain ⟨od, ho1, _⟩ := ho
        dsimp only
        rw [ho1]; exact argL_nats od
    have hfn : argL (fndS i) = true := argL_append _ _ hod (argL_nats _)
    have hisl : ∀ d, wfL d [.isl 0 4 true i.l0 i.er false] = true := fun d => by
      simp only [wfL, wfV, Bool.and_true]; rw [her]; exact argL_map hh
    cases h : (Sk m).q i with
    | true =>
      refine ⟨rfl, fun p hp => ?_, rfl, (fun n hn => by rcases Sk_mem hn with rfl | rfl | rfl | rfl | rfl <;> rfl), rfl⟩
      simp only [Sk, stOf, List.mem_cons, List.not_mem_nil, or_false] at hp
      rcases hp with rfl | rfl | rfl | rfl | rfl | rfl
      · rfl
      · exact hisl _
      · rfl
      · rfl
      · rfl
      · exact hfn
    | false =>
      cases ht : i.tp with
      | true =>
        simp only [Sk, ht]
        refine ⟨rfl, fun p hp => ?_, rfl, (fun n hn => by rcases Sk_mem (m := m) hn with rfl | rfl | rfl | rfl | rfl <;> rfl), rfl⟩
        simp only [stOf, List.mem_cons, List.not_mem_nil, or_false] at hp
        rcases hp with rfl | rfl | rfl | rfl | rfl
        · rfl
        · exact hisl _
        · rfl
        · rfl
        · show argL i.dn = true
          rw [hd]; exact argL_bools d
      | false =>
        simp only [Sk, ht]
        refine ⟨rfl, fun p hp => ?_, rfl, (fun n hn => by rcases Sk_mem (m := m) hn with rfl | rfl | rfl | rfl | rfl <;> rfl), rfl⟩
        simp only [stOf, List.mem_cons, List.not_mem_nil, or_false] at hp
        rcases hp with rfl | rfl | rfl | rfl | rfl | rfl
        · rfl
        · exact hisl _
        · rfl
        · rfl
        · show argL i.dn = true
          rw [hd]; exact argL_bools d
        · exact hod
theorem set_bools (d : List Bool) (k : Nat) (b : Bool) (hk : k < d.length) : setCells (d.map boolV) k [.bool true b] = (d.set k b).map boolV := by
  induction d generalizing k with
  | nil => simp at hk
  | cons c d ih =>
    cases k with
    | zero =>
      have e : setCells (d.map boolV) 0 [] = d.map boolV := by cases d <;> rfl
      show (V.bool true b : VV) :: setCells (d.map boolV) 0 [] = _
      rw [e]; rfl
    | succ k =>
      have := ih k (by simpa using hk)
      show boolV c :: setCells (d.map boolV) k [.bool true b] = _
      rw [this]; rfl
theorem cxS_ok {m : Nat} (ih : HookOk Try.prog (Sk m).hook) : CxOk (cxS m) := cxR_ok tryOk (fun _ h => by cases h) (fun k hk => by
  simp only [List.mem_cons, List.not_mem_nil, or_false] at hk
  rcases hk with rfl | rfl | rfl
  · exact Lf_ok
  · exact IxW_ok
  · exact ih)
theorem any_wait (h : List Ac) (d : List Bool) (x : Ac) : (leftS h d).any (waitA x) = blk h d x := by
  unfold blk
  congr 1
theorem left_length : ∀ (h : List Ac) (d : List Bool), (leftS h d).length ≤ h.length
  | [], d => by cases d <;> simp [leftS]
  | _ :: _, [] => by simp [leftS]
  | x :: h, b :: d => by
    have := left_length h d
    unfold leftS
    cases b with
    | true => simp; omega
    | false => simp; omega
theorem set_same_get {d : List Bool} {k : Nat} {b c : Bool} (h : d[k]? = some b) (hb : b = c) : d.set k c = d := by
  subst hb
  apply List.ext_getElem?
  intro j
  rw [List.getElem?_set]
  split
  · rename_i hj
    subst hj
    split
    · exact h.symm
    · rename_i hl; rw [List.getElem?_eq_none (by omega)]
  · rfl
abbrev StepG (m : Nat) (inR : Bool) (p : SkI) : Prop := ∃ fuel e st1 σ, Has (evCode (cxS m) (ev (cxS m) fuel) 11 [] inR (bodyAt f11 0) ((Sk (m + 1)).S p)) (e, st1) ∧ (∀ n ∈ (Sk (m + 1)).K, σ n = some n) ∧
      ((e = .nrm ∧ ∃ j, (Sk (m + 1)).pre j ∧ (j.len - j.i).toNat < (p.len - p.i).toNat ∧ StSim σ st1 ((Sk (m + 1)).S j) ∧ (Sk (m + 1)).E j ((Sk (m + 1)).q j) = (Sk (m + 1)).E p ((Sk (m + 1)).q p) ∧ (Sk (m + 1)).T j ((Sk (m + 1)).q j) = (Sk (m + 1)).T p ((Sk (m + 1)).q p)) ∨
        (e ≠ .nrm ∧ e = (Sk (m + 1)).E p ((Sk (m + 1)).q p) ∧ StSim σ st1 ((Sk (m + 1)).T p ((Sk (m + 1)).q p))))
theorem Sk_step0 (m : Nat) (inR : Bool) (h : List Ac) (d : List Bool) (k : Nat) (l1 now : Int) (hdh : d.length = h.length) (hk : k ≤ h.length) (hb : h.length ≤ 1000) (hg : 0 < h.length) (hm : h.length - 0 ≤ m + 1) : StepG m inR ⟨h.map actV, h.map actV, d.map boolV, l1, h.length, h.length, (k : Int), d.length, now, none, true⟩ := by
  have hae : argL (h.map actV) = true := argL_map h
  have hres : ∀ j : Nat, resS ⟨h.map actV, h.map actV, d.map boolV, l1, h.length, h.length, (j : Int), d.length, now, none, true⟩ = fromS h (h.length - 0 - 1) d now j := fun j => by
    simp only [resS, hS, dS, gS, decA_map, decB_map, Int.toNat_natCast]
  by_cases hlt : k < h.length
  · have hx : h[k]? = some h[k] := List.getElem?_eq_getElem hlt
    have hkd : k < d.length := by omega
    have hy : d[k]? = some d[k] := List.getElem?_eq_getElem hkd
    have hel : Ob.holds (.elem (h.map actV) (k : Int) (actV h[k])) := ⟨by omega, by rw [Int.toNat_natCast, List.getElem?_map, hx]; rfl⟩
    have hrd : Ob.holds (.rd (d.map boolV) (k : Int) [boolV d[k]]) := ⟨by omega, by rw [Int.toNat_natCast]; exact take_one (by rw [List.getElem?_map, hy]; rfl)⟩
    have hls : cmp .lss (k : Int) (h.length : Int) = true := by rw [cmp_lss]; exact decide_eq_true (by omega)
    have hls2 : cmp .lss (k : Int) (d.length : Int) = true := by rw [cmp_lss]; exact decide_eq_true (by omega)
    have hge : cmp .geq (k : Int) 0 = true := by rw [cmp_geq]; exact decide_eq_true (by omega)
    have hadd : ar .add .i64 (k : Int) 1 = ((k + 1 : Nat) : Int) := by rw [ar_add (by omega) (by omega)]; omega
    have hmu : ((h.length : Int) - ((k + 1 : Nat) : Int)).toNat < ((h.length : Int) - (k : Int)).toNat := by omega
    have hgD : d.getD k false = d[k] := by rw [List.getD_eq_getElem?_getD, hy]; rfl
    have hstep := fromS_step (m := h.length - 0 - 1) (d := d) (now := now) hlt
    have htry : tryS (seekS h (h.length - 0 - 1)) h d now k = if mayS h d now k h[k] then (seekS h (h.length - 0 - 1) (d.set k true) (nxt h[k] now)).map (k :: ·) else none := by unfold tryS; rw [hx]
    have hmay : mayS h d now k h[k] = (!d[k] && (h[k].w || decide (h[k].v = now)) && !blk h d h[k]) := by unfold mayS; rw [hgD]
    have hskip : mayS h d now k h[k] = false → fromS h (h.length - 0 - 1) d now (k + 1) = fromS h (h.length - 0 - 1) d now k := fun hmf => by rw [hstep, htry, hmf]; rfl
    cases hbd : d[k] with
    | true =>
      rw [hbd] at hrd hmay
      have hsk := hskip (by rw [hmay]; simp)
      have hre : resS ⟨h.map actV, h.map actV, d.map boolV, l1, h.length, h.length, ((k + 1 : Nat) : Int), d.length, now, none, true⟩ = resS ⟨h.map actV, h.map actV, d.map boolV, l1, h.length, h.length, (k : Int), d.length, now, none, true⟩ := by rw [hres, hres, hsk]
      refine ⟨60, _, _, lookN [([0], [0]), ([1], [1]), ([2], [2]), ([3], [3]), ([4], [4])], has_outC (rSk0_0 inR m (h.map actV) (h.map actV) (d.map boolV) l1 h.length h.length k d.length now h[k] true) ⟨hls, hel, hge, hls2, hrd, rfl, trivial⟩, (fun n hn => by rcases Sk_mem hn with rfl | rfl | rfl | rfl | rfl <;> rfl), .inl ⟨rfl, ⟨h.map actV, h.map actV, d.map boolV, l1, h.length, h.length, ((k + 1 : Nat) : Int), d.length, now, none, true⟩, ⟨h, d, 0, k + 1, rfl, rfl, rfl, rfl, rfl, rfl, hdh, rfl, by omega, hb, hg, hm, rfl, rfl⟩, hmu, ?_, ?_, ?_⟩⟩
      · refine stSim_of rfl rfl rfl (fun p hp => ?_) ⟨rfl, ⟨_, rfl, rowNil⟩, rfl, ⟨_, rfl, rowIsl hae⟩, rfl, ⟨_, rfl, rowOsl rfl rfl⟩, rfl, ⟨_, rfl, rowSeek rfl rfl rfl rfl⟩, rfl, ⟨_, rfl, sim_row rfl (argL_bools d)⟩, trivial⟩
        simp only [List.mem_cons, List.not_mem_nil, or_false] at hp
        rcases hp with rfl | rfl | rfl | rfl | rfl | rfl | rfl | rfl
        · exact .int _ _ _ _
        · exact .ptr _ _ _ _ _ rfl
        · exact .ptr _ _ _ _ _ rfl
        · exact .ptr _ _ _ _ _ rfl
        · exact .ptr _ _ _ _ _ rfl
        · exact .isl _ _ _ _ _ _ _ _ hae
        · exact .int _ _ _ _
        · exact sim_int hadd
      · simp only [Sk, hre]
      · simp only [Sk, fndS, hre, ordS, olS]

    | false =>
      rw [hbd] at hrd hmay
      have hout : outA (LfI.mk (h.map actV) (d.map boolV) h.length h.length 0 d.length none) = leftS h d := by
        simp only [outA, decA_map, decB_map, Int.toNat_zero, List.drop_zero, List.nil_append]
      have hll : (leftS h d).length ≤ h.length := left_length h d
      have hne : leftS h d ≠ [] := List.ne_nil_of_mem ((mem_left hdh).2 ⟨k, hx, by rw [hy, hbd]⟩)
      have hLpre : Lf.pre (LfI.mk (h.map actV) (d.map boolV) h.length h.length 0 d.length none) := ⟨h, d, 0, rfl, rfl, rfl, rfl, hdh, rfl, Nat.zero_le _, hb, trivial⟩
      have hLq : Lf.q (LfI.mk (h.map actV) (d.map boolV) h.length h.length 0 d.length none) = false := by
        simp only [Lf, hout, Bool.true_and]
        cases hl : leftS h d with
        | nil => exact absurd hl hne
        | cons _ _ => rfl
      have hWpre : IxW.pre (WtI.mk (cellsA (outA (LfI.mk (h.map actV) (d.map boolV) h.length h.length 0 d.length none))) ((outA (LfI.mk (h.map actV) (d.map boolV) h.length h.length 0 d.length none)).length : Int) ((outA (LfI.mk (h.map actV) (d.map boolV) h.length h.length 0 d.length none)).length : Int) 0 (Ac.mk h[k].w h[k].v h[k].f h[k].t)) := ⟨leftS h d, 0, by rw [hout], by rw [hout], by rw [hout], rfl, Nat.zero_le _, by omega⟩
      have hWq : IxW.q (WtI.mk (cellsA (outA (LfI.mk (h.map actV) (d.map boolV) h.length h.length 0 d.length none))) ((outA (LfI.mk (h.map actV) (d.map boolV) h.length h.length 0 d.length none)).length : Int) ((outA (LfI.mk (h.map actV) (d.map boolV) h.length h.length 0 d.length none)).length : Int) 0 (Ac.mk h[k].w h[k].v h[k].f h[k].t)) = blk h d h[k] := by
        simp only [IxW, hout, decF_cells, Int.toNat_zero, List.drop_zero]
        exact any_wait h d h[k]
      have hWg : cmp .geq (wtS (WtI.mk (cellsA (outA (LfI.mk (h.map actV) (d.map boolV) h.length h.length 0 d.length none))) ((outA (LfI.mk (h.map actV) (d.map boolV) h.length h.length 0 d.length none)).length : Int) ((outA (LfI.mk (h.map actV) (d.map boolV) h.length h.length 0 d.length none)).length : Int) 0 (Ac.mk h[k].w h[k].v h[k].f h[k].t))) 0 = true := by rw [cmp_geq]; exact decide_eq_true (by unfold wtS; dsimp only; omega)
      cases hw : h[k].w with
      | false =>
        rw [hw] at hmay
        have hnw : (!h[k].w) = true := by rw [hw]; rfl
        have hnx : nxt h[k] now = now := by unfold nxt; rw [hw]; rfl
        by_cases hv : h[k].v = now
        · have hv2 : cmp .neq h[k].v now = false := by rw [cmp_neq]; exact decide_eq_false (by simp [hv])
          cases hbk : blk h d h[k] with
          | true =>
            rw [hbk] at hWq hmay
            have hsk := hskip (by rw [hmay]; simp)
            have hre : resS ⟨h.map actV, h.map actV, d.map boolV, l1, h.length, h.length, ((k + 1 : Nat) : Int), d.length, now, none, true⟩ = resS ⟨h.map actV, h.map actV, d.map boolV, l1, h.length, h.length, (k : Int), d.length, now, none, true⟩ := by rw [hres, hres, hsk]
            refine ⟨60, _, _, lookN [([0], [0]), ([1], [1]), ([2], [2]), ([3], [3]), ([4], [4])], has_outC (rSk0_2 inR m (h.map actV) (h.map actV) (d.map boolV) l1 h.length h.length k d.length now h[k] false) ⟨hls, hel, hge, hls2, hrd, rfl, hnw, hv2, rfl, hLpre, hLq, rfl, hWpre, hWq, hWg, trivial⟩, (fun n hn => by rcases Sk_mem hn with rfl | rfl | rfl | rfl | rfl <;> rfl), .inl ⟨rfl, ⟨h.map actV, h.map actV, d.map boolV, l1, h.length, h.length, ((k + 1 : Nat) : Int), d.length, now, none, true⟩, ⟨h, d, 0, k + 1, rfl, rfl, rfl, rfl, rfl, rfl, hdh, rfl, by omega, hb, hg, hm, rfl, rfl⟩, hmu, ?_, ?_, ?_⟩⟩
            · refine stSim_of rfl rfl rfl (fun p hp => ?_) ⟨rfl, ⟨_, rfl, rowNil⟩, rfl, ⟨_, rfl, rowIsl hae⟩, rfl, ⟨_, rfl, rowOsl rfl rfl⟩, rfl, ⟨_, rfl, rowSeek rfl rfl rfl rfl⟩, rfl, ⟨_, rfl, sim_row rfl (argL_bools d)⟩, trivial⟩
              simp only [List.mem_cons, List.not_mem_nil, or_false] at hp
              rcases hp with rfl | rfl | rfl | rfl | rfl | rfl | rfl | rfl
              · exact .int _ _ _ _
              · exact .ptr _ _ _ _ _ rfl
              · exact .ptr _ _ _ _ _ rfl
              · exact .ptr _ _ _ _ _ rfl
              · exact .ptr _ _ _ _ _ rfl
              · exact .isl _ _ _ _ _ _ _ _ hae
              · exact .int _ _ _ _
              · exact sim_int hadd
            · simp only [Sk, hre]
            · simp only [Sk, fndS, hre, ordS, olS]

          | false =>
            rw [hbk] at hWq hmay
            have hmt : mayS h d now k h[k] = true := by rw [hmay]; simp [hv]
            rw [hmt, if_pos rfl, hnx] at htry
            have hwr : Ob.holds (.wr (d.map boolV) (k : Int) [.bool true true] (setCells (d.map boolV) ((k : Int)).toNat [.bool true true])) := ⟨by omega, by simp; omega, rfl⟩
            have hsd : setCells (d.map boolV) ((k : Int)).toNat [.bool true true] = (d.set k true).map boolV := by rw [Int.toNat_natCast]; exact set_bools d k true hkd
            have hsd0 : setCells (d.map boolV) k [.bool true true] = (d.set k true).map boolV := set_bools d k true hkd
            have hdl' : (d.set k true).length = h.length := by simpa using hdh
            have hpl : (1 : Int) = ((0 + 1 : Nat) : Int) := by rfl
            have hon : [.int .i64 true (k : Int)] = ([k] : List Nat).map natV := by rfl
            by_cases hfull : 0 + 1 = h.length
            · have hmz : h.length - 0 - 1 = 0 := by omega
              have hfd : resS ⟨h.map actV, h.map actV, d.map boolV, l1, h.length, h.length, (k : Int), d.length, now, none, true⟩ = some [k] := by
                rw [hres, hstep, htry, hmz]; rfl
              have hfn : fndS ⟨h.map actV, h.map actV, d.map boolV, l1, h.length, h.length, (k : Int), d.length, now, none, true⟩ = [.int .i64 true (k : Int)] := by
                simp only [fndS, hfd, ordS]; rfl
              have heq : cmp .eql 1 (h.length : Int) = true := by rw [cmp_eql, hpl]; exact decide_eq_true (by omega)
              refine ⟨60, _, _, lookN [([0], [0]), ([1], [1]), ([2], [2]), ([3], [3]), ([4], [4]), ([5], [3, 7])], has_outC (rSk0_12 inR m (h.map actV) (h.map actV) (d.map boolV) l1 h.length h.length k d.length now h[k] false) ⟨hls, hel, hge, hls2, hrd, rfl, hnw, hv2, rfl, hLpre, hLq, rfl, hWpre, hWq, hw, hge, hls2, hwr, heq, trivial⟩, (fun n hn => by rcases Sk_mem hn with rfl | rfl | rfl | rfl | rfl <;> rfl), .inr ⟨by simp, by simp only [Sk, hfd]; rfl, ?_⟩⟩
              have hq : (Sk (m + 1)).q ⟨h.map actV, h.map actV, d.map boolV, l1, h.length, h.length, (k : Int), d.length, now, none, true⟩ = true := by simp only [Sk, hfd]; rfl
              rw [hq]
              refine stSim_of rfl rfl rfl (fun p hp => ?_) ⟨rfl, ⟨_, rfl, rowOsl rfl ?_⟩, rfl, ⟨_, rfl, rowIsl hae⟩, rfl, ⟨_, rfl, rowOsl rfl rfl⟩, rfl, ⟨_, rfl, rowSeek rfl rfl rfl rfl⟩, rfl, ⟨_, rfl, rowNone⟩, rfl, ⟨_, rfl, sim_row hfn.symm ?_⟩, trivial⟩
              · simp only [List.mem_cons, List.not_mem_nil, or_false] at hp
                rcases hp with rfl
                exact .bool _ _ _
              · rw [hfn, hpl]; simp
              · rw [hon]; exact argL_nats _
            · have heq : cmp .eql 1 (h.length : Int) = false := by rw [cmp_eql, hpl]; exact decide_eq_false (by omega)
              have hIpre : (Sk m).pre (SkI.mk (h.map actV) (h.map actV) (setCells (d.map boolV) ((k : Int)).toNat [.bool true true]) h.length h.length h.length 0 d.length now (some ([.int .i64 true (k : Int)], 1)) false) := ⟨h, d.set k true, 0 + 1, 0, rfl, rfl, hsd, rfl, rfl, by simp, hdl', rfl, Nat.zero_le _, hb, by omega, by omega, [k], hon, by simp, hpl⟩
              obtain ⟨m', hm'⟩ : ∃ m', h.length - 0 - 1 = m' + 1 := ⟨h.length - 0 - 2, by omega⟩
              have hIres : resS (SkI.mk (h.map actV) (h.map actV) (setCells (d.map boolV) ((k : Int)).toNat [.bool true true]) h.length h.length h.length 0 d.length now (some ([.int .i64 true (k : Int)], 1)) false) = seekS h (h.length - 0 - 1) (d.set k true) now := by
                simp only [resS, hS, dS, gS, hsd, hsd0, decA_map, decB_map, hpl, Int.toNat_zero, Int.toNat_natCast]
                rw [hm', seekS_succ]
                congr 1
                omega
              rw [← hIres] at htry
              cases hr : resS (SkI.mk (h.map actV) (h.map actV) (setCells (d.map boolV) ((k : Int)).toNat [.bool true true]) h.length h.length h.length 0 d.length now (some ([.int .i64 true (k : Int)], 1)) false) with
              | some l =>
                rw [hr] at htry
                have hfd : resS ⟨h.map actV, h.map actV, d.map boolV, l1, h.length, h.length, (k : Int), d.length, now, none, true⟩ = some (k :: l) := by
                  rw [hres, hstep, htry]; rfl
                have hfn : fndS ⟨h.map actV, h.map actV, d.map boolV, l1, h.length, h.length, (k : Int), d.length, now, none, true⟩ = fndS (SkI.mk (h.map actV) (h.map actV) (setCells (d.map boolV) ((k : Int)).toNat [.bool true true]) h.length h.length h.length 0 d.length now (some ([.int .i64 true (k : Int)], 1)) false) := by
                  simp only [fndS, hfd, hr, ordS]
                  simp [natV]
                refine ⟨60, _, _, lookN [([0], [0]), ([1], [1]), ([2], [2]), ([3], [3]), ([4], [4]), ([5], [5, 77, 3, 2, 8])], has_outC (rSk0_13 inR m (h.map actV) (h.map actV) (d.map boolV) l1 h.length h.length k d.length now h[k] false) ⟨hls, hel, hge, hls2, hrd, rfl, hnw, hv2, rfl, hLpre, hLq, rfl, hWpre, hWq, hw, hge, hls2, hwr, heq, rfl, hIpre, (by simp only [Sk, hr]; rfl), trivial⟩, (fun n hn => by rcases Sk_mem hn with rfl | rfl | rfl | rfl | rfl <;> rfl), .inr ⟨by simp, by simp only [Sk, hfd]; rfl, ?_⟩⟩
                have hq : (Sk (m + 1)).q ⟨h.map actV, h.map actV, d.map boolV, l1, h.length, h.length, (k : Int), d.length, now, none, true⟩ = true := by simp only [Sk, hfd]; rfl
                rw [hq]
                refine stSim_of rfl rfl rfl (fun p hp => ?_) ⟨rfl, ⟨_, rfl, rowOsl rfl (by rw [hfn])⟩, rfl, ⟨_, rfl, rowIsl hae⟩, rfl, ⟨_, rfl, rowOsl rfl rfl⟩, rfl, ⟨_, rfl, rowSeek rfl rfl rfl rfl⟩, rfl, ⟨_, rfl, rowNone⟩, rfl, ⟨_, rfl, sim_row hfn.symm ?_⟩, trivial⟩
                · simp only [List.mem_cons, List.not_mem_nil, or_false] at hp
                  rcases hp with rfl
                  exact .bool _ _ _
                · simp only [fndS, ordS, hon]
                  exact argL_append _ _ (argL_nats _) (argL_nats _)

              | none =>
                rw [hr] at htry
                have hre : fromS h (h.length - 0 - 1) d now (k + 1) = fromS h (h.length - 0 - 1) d now k := by rw [hstep, htry]; rfl
                have hr2 : resS ⟨h.map actV, h.map actV, d.map boolV, l1, h.length, h.length, ((k + 1 : Nat) : Int), d.length, now, (some (([] : List Nat).map natV, ((([] : List Nat).length : Nat) : Int))), true⟩ = resS ⟨h.map actV, h.map actV, d.map boolV, l1, h.length, h.length, (k : Int), d.length, now, none, true⟩ := by
                  rw [hres, ← hre]
                  simp only [resS, hS, dS, gS, decA_map, decB_map, Int.toNat_natCast, List.length_nil]
                have hwr2 : Ob.holds (.wr (setCells (d.map boolV) ((k : Int)).toNat [.bool true true]) (k : Int) [.bool true false] (setCells (setCells (d.map boolV) ((k : Int)).toNat [.bool true true]) ((k : Int)).toNat [.bool true false])) := ⟨by omega, by rw [hsd]; simp; omega, rfl⟩
                have hsd2 : setCells (setCells (d.map boolV) ((k : Int)).toNat [.bool true true]) ((k : Int)).toNat [.bool true false] = d.map boolV := by
                  rw [hsd, Int.toNat_natCast, set_bools _ _ _ (by simpa using hkd)]
                  congr 1
                  rw [List.set_set]
                  exact set_same_get hy hbd
                have hsb : ar .sub .i64 1 1 = (0 : Int) := by rw [hpl, ar_sub (by omega) (by omega)]; omega
                have hle1 : cmp .leq 0 (ar .sub .i64 1 1) = true := by rw [cmp_leq, hsb]; exact decide_eq_true (by omega)
                have hle2 : cmp .leq (ar .sub .i64 1 1) 1 = true := by rw [cmp_leq, hsb, hpl]; exact decide_eq_true (by omega)
                refine ⟨60, _, _, lookN [([0], [0]), ([1], [1]), ([2], [2]), ([3], [3]), ([4], [4]), ([5], [5, 77, 3, 2, 8])], has_outC (rSk0_14 inR m (h.map actV) (h.map actV) (d.map boolV) l1 h.length h.length k d.length now h[k] false) ⟨hls, hel, hge, hls2, hrd, rfl, hnw, hv2, rfl, hLpre, hLq, rfl, hWpre, hWq, hw, hge, hls2, hwr, heq, rfl, hIpre, (by simp only [Sk, hr]; rfl), hge, hls2, hwr2, hle1, hle2, trivial⟩, (fun n hn => by rcases Sk_mem hn with rfl | rfl | rfl | rfl | rfl <;> rfl), .inl ⟨rfl, ⟨h.map actV, h.map actV, d.map boolV, l1, h.length, h.length, ((k + 1 : Nat) : Int), d.length, now, (some (([] : List Nat).map natV, ((([] : List Nat).length : Nat) : Int))), true⟩, ⟨h, d, 0, k + 1, rfl, rfl, rfl, rfl, rfl, rfl, hdh, rfl, by omega, hb, hg, hm, [], rfl, rfl, rfl⟩, hmu, ?_, ?_, ?_⟩⟩
                · refine stSim_of rfl rfl rfl (fun p hp => ?_) ⟨rfl, ⟨_, rfl, rowOsl rfl (by rw [hsb]; unfold mns; simp)⟩, rfl, ⟨_, rfl, rowIsl hae⟩, rfl, ⟨_, rfl, rowOsl rfl rfl⟩, rfl, ⟨_, rfl, rowSeek rfl rfl rfl rfl⟩, rfl, ⟨_, rfl, sim_row hsd2 (by rw [hsd2]; exact argL_bools d)⟩, rfl, ⟨_, rfl, sim_rowP (k := [natV k]) (by rfl) (argL_nats _)⟩, trivial⟩
                  simp only [List.mem_cons, List.not_mem_nil, or_false] at hp
                  rcases hp with rfl | rfl | rfl | rfl | rfl | rfl | rfl | rfl
                  · exact .int _ _ _ _
                  · exact .ptr _ _ _ _ _ rfl
                  · exact .ptr _ _ _ _ _ rfl
                  · exact .ptr _ _ _ _ _ rfl
                  · exact .ptr _ _ _ _ _ rfl
                  · exact .isl _ _ _ _ _ _ _ _ hae
                  · exact .int _ _ _ _
                  · exact sim_int hadd
                · simp only [Sk, hr2]
                · simp only [Sk, fndS, hr2, ordS, olS]
                  try rfl

        · have hv2 : cmp .neq h[k].v now = true := by rw [cmp_neq]; exact decide_eq_true hv
          have hsk := hskip (by rw [hmay]; simp [hv])
          have hre : resS ⟨h.map actV, h.map actV, d.map boolV, l1, h.length, h.length, ((k + 1 : Nat) : Int), d.length, now, none, true⟩ = resS ⟨h.map actV, h.map actV, d.map boolV, l1, h.length, h.length, (k : Int), d.length, now, none, true⟩ := by rw [hres, hres, hsk]
          refine ⟨60, _, _, lookN [([0], [0]), ([1], [1]), ([2], [2]), ([3], [3]), ([4], [4])], has_outC (rSk0_1 inR m (h.map actV) (h.map actV) (d.map boolV) l1 h.length h.length k d.length now h[k] false) ⟨hls, hel, hge, hls2, hrd, rfl, hnw, hv2, trivial⟩, (fun n hn => by rcases Sk_mem hn with rfl | rfl | rfl | rfl | rfl <;> rfl), .inl ⟨rfl, ⟨h.map actV, h.map actV, d.map boolV, l1, h.length, h.length, ((k + 1 : Nat) : Int), d.length, now, none, true⟩, ⟨h, d, 0, k + 1, rfl, rfl, rfl, rfl, rfl, rfl, hdh, rfl, by omega, hb, hg, hm, rfl, rfl⟩, hmu, ?_, ?_, ?_⟩⟩
          · refine stSim_of rfl rfl rfl (fun p hp => ?_) ⟨rfl, ⟨_, rfl, rowNil⟩, rfl, ⟨_, rfl, rowIsl hae⟩, rfl, ⟨_, rfl, rowOsl rfl rfl⟩, rfl, ⟨_, rfl, rowSeek rfl rfl rfl rfl⟩, rfl, ⟨_, rfl, sim_row rfl (argL_bools d)⟩, trivial⟩
            simp only [List.mem_cons, List.not_mem_nil, or_false] at hp
            rcases hp with rfl | rfl | rfl | rfl | rfl | rfl | rfl | rfl
            · exact .int _ _ _ _
            · exact .ptr _ _ _ _ _ rfl
            · exact .ptr _ _ _ _ _ rfl
            · exact .ptr _ _ _ _ _ rfl
            · exact .ptr _ _ _ _ _ rfl
            · exact .isl _ _ _ _ _ _ _ _ hae
            · exact .int _ _ _ _
            · exact sim_int hadd
          · simp only [Sk, hre]
          · simp only [Sk, fndS, hre, ordS, olS]

      | true =>
        rw [hw] at hmay
        have hnw : (!h[k].w) = false := by rw [hw]; rfl
        have hnx : nxt h[k] now = h[k].v := by unfold nxt; rw [hw]; rfl
        cases hbk : blk h d h[k] with
        | true =>
          rw [hbk] at hWq hmay
          have hsk := hskip (by rw [hmay]; simp)
          have hre : resS ⟨h.map actV, h.map actV, d.map boolV, l1, h.length, h.length, ((k + 1 : Nat) : Int), d.length, now, none, true⟩ = resS ⟨h.map actV, h.map actV, d.map boolV, l1, h.length, h.length, (k : Int), d.length, now, none, true⟩ := by rw [hres, hres, hsk]
          refine ⟨60, _, _, lookN [([0], [0]), ([1], [1]), ([2], [2]), ([3], [3]), ([4], [4])], has_outC (rSk0_15 inR m (h.map actV) (h.map actV) (d.map boolV) l1 h.length h.length k d.length now h[k] false) ⟨hls, hel, hge, hls2, hrd, rfl, hnw, rfl, hLpre, hLq, rfl, hWpre, hWq, hWg, trivial⟩, (fun n hn => by rcases Sk_mem hn with rfl | rfl | rfl | rfl | rfl <;> rfl), .inl ⟨rfl, ⟨h.map actV, h.map actV, d.map boolV, l1, h.length, h.length, ((k + 1 : Nat) : Int), d.length, now, none, true⟩, ⟨h, d, 0, k + 1, rfl, rfl, rfl, rfl, rfl, rfl, hdh, rfl, by omega, hb, hg, hm, rfl, rfl⟩, hmu, ?_, ?_, ?_⟩⟩
          · refine stSim_of rfl rfl rfl (fun p hp => ?_) ⟨rfl, ⟨_, rfl, rowNil⟩, rfl, ⟨_, rfl, rowIsl hae⟩, rfl, ⟨_, rfl, rowOsl rfl rfl⟩, rfl, ⟨_, rfl, rowSeek rfl rfl rfl rfl⟩, rfl, ⟨_, rfl, sim_row rfl (argL_bools d)⟩, trivial⟩
            simp only [List.mem_cons, List.not_mem_nil, or_false] at hp
            rcases hp with rfl | rfl | rfl | rfl | rfl | rfl | rfl | rfl
            · exact .int _ _ _ _
            · exact .ptr _ _ _ _ _ rfl
            · exact .ptr _ _ _ _ _ rfl
            · exact .ptr _ _ _ _ _ rfl
            · exact .ptr _ _ _ _ _ rfl
            · exact .isl _ _ _ _ _ _ _ _ hae
            · exact .int _ _ _ _
            · exact sim_int hadd
          · simp only [Sk, hre]
          · simp only [Sk, fndS, hre, ordS, olS]

        | false =>
          rw [hbk] at hWq hmay
          have hmt : mayS h d now k h[k] = true := by rw [hmay]; simp
          rw [hmt, if_pos rfl, hnx] at htry
          have hwr : Ob.holds (.wr (d.map boolV) (k : Int) [.bool true true] (setCells (d.map boolV) ((k : Int)).toNat [.bool true true])) := ⟨by omega, by simp; omega, rfl⟩
          have hsd : setCells (d.map boolV) ((k : Int)).toNat [.bool true true] = (d.set k true).map boolV := by rw [Int.toNat_natCast]; exact set_bools d k true hkd
          have hsd0 : setCells (d.map boolV) k [.bool true true] = (d.set k true).map boolV := set_bools d k true hkd
          have hdl' : (d.set k true).length = h.length := by simpa using hdh
          have hpl : (1 : Int) = ((0 + 1 : Nat) : Int) := by rfl
          have hon : [.int .i64 true (k : Int)] = ([k] : List Nat).map natV := by rfl
          by_cases hfull : 0 + 1 = h.length
          · have hmz : h.length - 0 - 1 = 0 := by omega
            have hfd : resS ⟨h.map actV, h.map actV, d.map boolV, l1, h.length, h.length, (k : Int), d.length, now, none, true⟩ = some [k] := by
              rw [hres, hstep, htry, hmz]; rfl
            have hfn : fndS ⟨h.map actV, h.map actV, d.map boolV, l1, h.length, h.length, (k : Int), d.length, now, none, true⟩ = [.int .i64 true (k : Int)] := by
              simp only [fndS, hfd, ordS]; rfl
            have heq : cmp .eql 1 (h.length : Int) = true := by rw [cmp_eql, hpl]; exact decide_eq_true (by omega)
            refine ⟨60, _, _, lookN [([0], [0]), ([1], [1]), ([2], [2]), ([3], [3]), ([4], [4]), ([5], [3, 8])], has_outC (rSk0_22 inR m (h.map actV) (h.map actV) (d.map boolV) l1 h.length h.length k d.length now h[k] false) ⟨hls, hel, hge, hls2, hrd, rfl, hnw, rfl, hLpre, hLq, rfl, hWpre, hWq, hw, hge, hls2, hwr, heq, trivial⟩, (fun n hn => by rcases Sk_mem hn with rfl | rfl | rfl | rfl | rfl <;> rfl), .inr ⟨by simp, by simp only [Sk, hfd]; rfl, ?_⟩⟩
            have hq : (Sk (m + 1)).q ⟨h.map actV, h.map actV, d.map boolV, l1, h.length, h.length, (k : Int), d.length, now, none, true⟩ = true := by simp only [Sk, hfd]; rfl
            rw [hq]
            refine stSim_of rfl rfl rfl (fun p hp => ?_) ⟨rfl, ⟨_, rfl, rowOsl rfl ?_⟩, rfl, ⟨_, rfl, rowIsl hae⟩, rfl, ⟨_, rfl, rowOsl rfl rfl⟩, rfl, ⟨_, rfl, rowSeek rfl rfl rfl rfl⟩, rfl, ⟨_, rfl, rowNone⟩, rfl, ⟨_, rfl, sim_row hfn.symm ?_⟩, trivial⟩
            · simp only [List.mem_cons, List.not_mem_nil, or_false] at hp
              rcases hp with rfl
              exact .bool _ _ _
            · rw [hfn, hpl]; simp
            · rw [hon]; exact argL_nats _
          · have heq : cmp .eql 1 (h.length : Int) = false := by rw [cmp_eql, hpl]; exact decide_eq_false (by omega)
            have hIpre : (Sk m).pre (SkI.mk (h.map actV) (h.map actV) (setCells (d.map boolV) ((k : Int)).toNat [.bool true true]) h.length h.length h.length 0 d.length h[k].v (some ([.int .i64 true (k : Int)], 1)) false) := ⟨h, d.set k true, 0 + 1, 0, rfl, rfl, hsd, rfl, rfl, by simp, hdl', rfl, Nat.zero_le _, hb, by omega, by omega, [k], hon, by simp, hpl⟩
            obtain ⟨m', hm'⟩ : ∃ m', h.length - 0 - 1 = m' + 1 := ⟨h.length - 0 - 2, by omega⟩
            have hIres : resS (SkI.mk (h.map actV) (h.map actV) (setCells (d.map boolV) ((k : Int)).toNat [.bool true true]) h.length h.length h.length 0 d.length h[k].v (some ([.int .i64 true (k : Int)], 1)) false) = seekS h (h.length - 0 - 1) (d.set k true) h[k].v := by
              simp only [resS, hS, dS, gS, hsd, hsd0, decA_map, decB_map, hpl, Int.toNat_zero, Int.toNat_natCast]
              rw [hm', seekS_succ]
              congr 1
              omega
            rw [← hIres] at htry
            cases hr : resS (SkI.mk (h.map actV) (h.map actV) (setCells (d.map boolV) ((k : Int)).toNat [.bool true true]) h.length h.length h.length 0 d.length h[k].v (some ([.int .i64 true (k : Int)], 1)) false) with
            | some l =>
              rw [hr] at htry
              have hfd : resS ⟨h.map actV, h.map actV, d.map boolV, l1, h.length, h.length, (k : Int), d.length, now, none, true⟩ = some (k :: l) := by
                rw [hres, hstep, htry]; rfl
              have hfn : fndS ⟨h.map actV, h.map actV, d.map boolV, l1, h.length, h.length, (k : Int), d.length, now, none, true⟩ = fndS (SkI.mk (h.map actV) (h.map actV) (setCells (d.map boolV) ((k : Int)).toNat [.bool true true]) h.length h.length h.length 0 d.length h[k].v (some ([.int .i64 true (k : Int)], 1)) false) := by
                simp only [fndS, hfd, hr, ordS]
                simp [natV]
              refine ⟨60, _, _, lookN [([0], [0]), ([1], [1]), ([2], [2]), ([3], [3]), ([4], [4]), ([5], [5, 77, 3, 2, 9])], has_outC (rSk0_23 inR m (h.map actV) (h.map actV) (d.map boolV) l1 h.length h.length k d.length now h[k] false) ⟨hls, hel, hge, hls2, hrd, rfl, hnw, rfl, hLpre, hLq, rfl, hWpre, hWq, hw, hge, hls2, hwr, heq, rfl, hIpre, (by simp only [Sk, hr]; rfl), trivial⟩, (fun n hn => by rcases Sk_mem hn with rfl | rfl | rfl | rfl | rfl <;> rfl), .inr ⟨by simp, by simp only [Sk, hfd]; rfl, ?_⟩⟩
              have hq : (Sk (m + 1)).q ⟨h.map actV, h.map actV, d.map boolV, l1, h.length, h.length, (k : Int), d.length, now, none, true⟩ = true := by simp only [Sk, hfd]; rfl
              rw [hq]
              refine stSim_of rfl rfl rfl (fun p hp => ?_) ⟨rfl, ⟨_, rfl, rowOsl rfl (by rw [hfn])⟩, rfl, ⟨_, rfl, rowIsl hae⟩, rfl, ⟨_, rfl, rowOsl rfl rfl⟩, rfl, ⟨_, rfl, rowSeek rfl rfl rfl rfl⟩, rfl, ⟨_, rfl, rowNone⟩, rfl, ⟨_, rfl, sim_row hfn.symm ?_⟩, trivial⟩
              · simp only [List.mem_cons, List.not_mem_nil, or_false] at hp
                rcases hp with rfl
                exact .bool _ _ _
              · simp only [fndS, ordS, hon]
                exact argL_append _ _ (argL_nats _) (argL_nats _)

            | none =>
              rw [hr] at htry
              have hre : fromS h (h.length - 0 - 1) d now (k + 1) = fromS h (h.length - 0 - 1) d now k := by rw [hstep, htry]; rfl
              have hr2 : resS ⟨h.map actV, h.map actV, d.map boolV, l1, h.length, h.length, ((k + 1 : Nat) : Int), d.length, now, (some (([] : List Nat).map natV, ((([] : List Nat).length : Nat) : Int))), true⟩ = resS ⟨h.map actV, h.map actV, d.map boolV, l1, h.length, h.length, (k : Int), d.length, now, none, true⟩ := by
                rw [hres, ← hre]
                simp only [resS, hS, dS, gS, decA_map, decB_map, Int.toNat_natCast, List.length_nil]
              have hwr2 : Ob.holds (.wr (setCells (d.map boolV) ((k : Int)).toNat [.bool true true]) (k : Int) [.bool true false] (setCells (setCells (d.map boolV) ((k : Int)).toNat [.bool true true]) ((k : Int)).toNat [.bool true false])) := ⟨by omega, by rw [hsd]; simp; omega, rfl⟩
              have hsd2 : setCells (setCells (d.map boolV) ((k : Int)).toNat [.bool true true]) ((k : Int)).toNat [.bool true false] = d.map boolV := by
                rw [hsd, Int.toNat_natCast, set_bools _ _ _ (by simpa using hkd)]
                congr 1
                rw [List.set_set]
                exact set_same_get hy hbd
              have hsb : ar .sub .i64 1 1 = (0 : Int) := by rw [hpl, ar_sub (by omega) (by omega)]; omega
              have hle1 : cmp .leq 0 (ar .sub .i64 1 1) = true := by rw [cmp_leq, hsb]; exact decide_eq_true (by omega)
              have hle2 : cmp .leq (ar .sub .i64 1 1) 1 = true := by rw [cmp_leq, hsb, hpl]; exact decide_eq_true (by omega)
              refine ⟨60, _, _, lookN [([0], [0]), ([1], [1]), ([2], [2]), ([3], [3]), ([4], [4]), ([5], [5, 77, 3, 2, 9])], has_outC (rSk0_24 inR m (h.map actV) (h.map actV) (d.map boolV) l1 h.length h.length k d.length now h[k] false) ⟨hls, hel, hge, hls2, hrd, rfl, hnw, rfl, hLpre, hLq, rfl, hWpre, hWq, hw, hge, hls2, hwr, heq, rfl, hIpre, (by simp only [Sk, hr]; rfl), hge, hls2, hwr2, hle1, hle2, trivial⟩, (fun n hn => by rcases Sk_mem hn with rfl | rfl | rfl | rfl | rfl <;> rfl), .inl ⟨rfl, ⟨h.map actV, h.map actV, d.map boolV, l1, h.length, h.length, ((k + 1 : Nat) : Int), d.length, now, (some (([] : List Nat).map natV, ((([] : List Nat).length : Nat) : Int))), true⟩, ⟨h, d, 0, k + 1, rfl, rfl, rfl, rfl, rfl, rfl, hdh, rfl, by omega, hb, hg, hm, [], rfl, rfl, rfl⟩, hmu, ?_, ?_, ?_⟩⟩
              · refine stSim_of rfl rfl rfl (fun p hp => ?_) ⟨rfl, ⟨_, rfl, rowOsl rfl (by rw [hsb]; unfold mns; simp)⟩, rfl, ⟨_, rfl, rowIsl hae⟩, rfl, ⟨_, rfl, rowOsl rfl rfl⟩, rfl, ⟨_, rfl, rowSeek rfl rfl rfl rfl⟩, rfl, ⟨_, rfl, sim_row hsd2 (by rw [hsd2]; exact argL_bools d)⟩, rfl, ⟨_, rfl, sim_rowP (k := [natV k]) (by rfl) (argL_nats _)⟩, trivial⟩
                simp only [List.mem_cons, List.not_mem_nil, or_false] at hp
                rcases hp with rfl | rfl | rfl | rfl | rfl | rfl | rfl | rfl
                · exact .int _ _ _ _
                · exact .ptr _ _ _ _ _ rfl
                · exact .ptr _ _ _ _ _ rfl
                · exact .ptr _ _ _ _ _ rfl
                · exact .ptr _ _ _ _ _ rfl
                · exact .isl _ _ _ _ _ _ _ _ hae
                · exact .int _ _ _ _
                · exact sim_int hadd
              · simp only [Sk, hr2]
              · simp only [Sk, fndS, hr2, ordS, olS]
                try rfl


  · have hkl : k = h.length := by omega
    subst hkl
    have hls : cmp .lss (h.length : Int) (h.length : Int) = false := by rw [cmp_lss]; exact decide_eq_false (by omega)
    have hq : (Sk (m + 1)).q ⟨h.map actV, h.map actV, d.map boolV, l1, h.length, h.length, (h.length : Int), d.length, now, none, true⟩ = false := by simp only [Sk]; rw [hres, fromS_end (Nat.le_refl _)]; rfl
    refine ⟨60, _, _, lookN [([0], [0]), ([1], [1]), ([2], [2]), ([3], [3]), ([4], [4])], has_outC (rSk0_28 inR m (h.map actV) (h.map actV) (d.map boolV) l1 h.length h.length h.length d.length now ⟨true, 0, 0, 0⟩ true) ⟨hls, trivial⟩, (fun n hn => by rcases Sk_mem hn with rfl | rfl | rfl | rfl | rfl <;> rfl), .inr ⟨by simp, by rw [hq]; rfl, ?_⟩⟩
    rw [hq]
    exact stSim_of rfl rfl rfl (fun p hp => by cases hp) ⟨rfl, ⟨_, rfl, rowTop⟩, rfl, ⟨_, rfl, rowIsl hae⟩, rfl, ⟨_, rfl, rowOsl rfl rfl⟩, rfl, ⟨_, rfl, rowSeek rfl rfl rfl rfl⟩, rfl, ⟨_, rfl, sim_row rfl (argL_bools d)⟩, trivial⟩

theorem Sk_step1 (m : Nat) (inR : Bool) (h : List Ac) (d : List Bool) (od : List Nat) (tp : Bool) (k : Nat) (l1 now : Int) (hdh : d.length = h.length) (hk : k ≤ h.length) (hb : h.length ≤ 1000) (hg : od.length < h.length) (hm : h.length - od.length ≤ m + 1) : StepG m inR ⟨h.map actV, h.map actV, d.map boolV, l1, h.length, h.length, (k : Int), d.length, now, (some (od.map natV, (od.length : Int))), tp⟩ := by
  have hae : argL (h.map actV) = true := argL_map h
  have hres : ∀ j : Nat, resS ⟨h.map actV, h.map actV, d.map boolV, l1, h.length, h.length, (j : Int), d.length, now, (some (od.map natV, (od.length : Int))), tp⟩ = fromS h (h.length - od.length - 1) d now j := fun j => by
    simp only [resS, hS, dS, gS, decA_map, decB_map, Int.toNat_natCast]
  by_cases hlt : k < h.length
  · have hx : h[k]? = some h[k] := List.getElem?_eq_getElem hlt
    have hkd : k < d.length := by omega
    have hy : d[k]? = some d[k] := List.getElem?_eq_getElem hkd
    have hel : Ob.holds (.elem (h.map actV) (k : Int) (actV h[k])) := ⟨by omega, by rw [Int.toNat_natCast, List.getElem?_map, hx]; rfl⟩
    have hrd : Ob.holds (.rd (d.map boolV) (k : Int) [boolV d[k]]) := ⟨by omega, by rw [Int.toNat_natCast]; exact take_one (by rw [List.getElem?_map, hy]; rfl)⟩
    have hls : cmp .lss (k : Int) (h.length : Int) = true := by rw [cmp_lss]; exact decide_eq_true (by omega)
    have hls2 : cmp .lss (k : Int) (d.length : Int) = true := by rw [cmp_lss]; exact decide_eq_true (by omega)
    have hge : cmp .geq (k : Int) 0 = true := by rw [cmp_geq]; exact decide_eq_true (by omega)
    have hadd : ar .add .i64 (k : Int) 1 = ((k + 1 : Nat) : Int) := by rw [ar_add (by omega) (by omega)]; omega
    have hmu : ((h.length : Int) - ((k + 1 : Nat) : Int)).toNat < ((h.length : Int) - (k : Int)).toNat := by omega
    have hgD : d.getD k false = d[k] := by rw [List.getD_eq_getElem?_getD, hy]; rfl
    have hstep := fromS_step (m := h.length - od.length - 1) (d := d) (now := now) hlt
    have htry : tryS (seekS h (h.length - od.length - 1)) h d now k = if mayS h d now k h[k] then (seekS h (h.length - od.length - 1) (d.set k true) (nxt h[k] now)).map (k :: ·) else none := by unfold tryS; rw [hx]
    have hmay : mayS h d now k h[k] = (!d[k] && (h[k].w || decide (h[k].v = now)) && !blk h d h[k]) := by unfold mayS; rw [hgD]
    have hskip : mayS h d now k h[k] = false → fromS h (h.length - od.length - 1) d now (k + 1) = fromS h (h.length - od.length - 1) d now k := fun hmf => by rw [hstep, htry, hmf]; rfl
    cases hbd : d[k] with
    | true =>
      rw [hbd] at hrd hmay
      have hsk := hskip (by rw [hmay]; simp)
      have hre : resS ⟨h.map actV, h.map actV, d.map boolV, l1, h.length, h.length, ((k + 1 : Nat) : Int), d.length, now, (some (od.map natV, (od.length : Int))), tp⟩ = resS ⟨h.map actV, h.map actV, d.map boolV, l1, h.length, h.length, (k : Int), d.length, now, (some (od.map natV, (od.length : Int))), tp⟩ := by rw [hres, hres, hsk]
      refine ⟨60, _, _, lookN [([0], [0]), ([1], [1]), ([2], [2]), ([3], [3]), ([4], [4]), ([5], [5])], has_outC (rSk1_0 inR m (h.map actV) (h.map actV) (d.map boolV) (od.map natV) l1 h.length h.length k d.length od.length now h[k] true) ⟨hls, hel, hge, hls2, hrd, rfl, trivial⟩, (fun n hn => by rcases Sk_mem hn with rfl | rfl | rfl | rfl | rfl <;> rfl), .inl ⟨rfl, ⟨h.map actV, h.map actV, d.map boolV, l1, h.length, h.length, ((k + 1 : Nat) : Int), d.length, now, (some (od.map natV, (od.length : Int))), tp⟩, ⟨h, d, od.length, k + 1, rfl, rfl, rfl, rfl, rfl, rfl, hdh, rfl, by omega, hb, hg, hm, od, rfl, rfl, rfl⟩, hmu, ?_, ?_, ?_⟩⟩
      · refine stSim_of rfl rfl rfl (fun p hp => ?_) ⟨rfl, ⟨_, rfl, rowOsl rfl rfl⟩, rfl, ⟨_, rfl, rowIsl hae⟩, rfl, ⟨_, rfl, rowOsl rfl rfl⟩, rfl, ⟨_, rfl, rowSeek rfl rfl rfl rfl⟩, rfl, ⟨_, rfl, sim_row rfl (argL_bools d)⟩, rfl, ⟨_, rfl, sim_row rfl (argL_nats od)⟩, trivial⟩
        simp only [List.mem_cons, List.not_mem_nil, or_false] at hp
        rcases hp with rfl | rfl | rfl | rfl | rfl | rfl | rfl | rfl
        · exact .int _ _ _ _
        · exact .ptr _ _ _ _ _ rfl
        · exact .ptr _ _ _ _ _ rfl
        · exact .ptr _ _ _ _ _ rfl
        · exact .ptr _ _ _ _ _ rfl
        · exact .isl _ _ _ _ _ _ _ _ hae
        · exact .int _ _ _ _
        · exact sim_int hadd
      · simp only [Sk, hre]
      · simp only [Sk, fndS, hre, ordS, olS]

    | false =>
      rw [hbd] at hrd hmay
      have hout : outA (LfI.mk (h.map actV) (d.map boolV) h.length h.length 0 d.length none) = leftS h d := by
        simp only [outA, decA_map, decB_map, Int.toNat_zero, List.drop_zero, List.nil_append]
      have hll : (leftS h d).length ≤ h.length := left_length h d
      have hne : leftS h d ≠ [] := List.ne_nil_of_mem ((mem_left hdh).2 ⟨k, hx, by rw [hy, hbd]⟩)
      have hLpre : Lf.pre (LfI.mk (h.map actV) (d.map boolV) h.length h.length 0 d.length none) := ⟨h, d, 0, rfl, rfl, rfl, rfl, hdh, rfl, Nat.zero_le _, hb, trivial⟩
      have hLq : Lf.q (LfI.mk (h.map actV) (d.map boolV) h.length h.length 0 d.length none) = false := by
        simp only [Lf, hout, Bool.true_and]
        cases hl : leftS h d with
        | nil => exact absurd hl hne
        | cons _ _ => rfl
      have hWpre : IxW.pre (WtI.mk (cellsA (outA (LfI.mk (h.map actV) (d.map boolV) h.length h.length 0 d.length none))) ((outA (LfI.mk (h.map actV) (d.map boolV) h.length h.length 0 d.length none)).length : Int) ((outA (LfI.mk (h.map actV) (d.map boolV) h.length h.length 0 d.length none)).length : Int) 0 (Ac.mk h[k].w h[k].v h[k].f h[k].t)) := ⟨leftS h d, 0, by rw [hout], by rw [hout], by rw [hout], rfl, Nat.zero_le _, by omega⟩
      have hWq : IxW.q (WtI.mk (cellsA (outA (LfI.mk (h.map actV) (d.map boolV) h.length h.length 0 d.length none))) ((outA (LfI.mk (h.map actV) (d.map boolV) h.length h.length 0 d.length none)).length : Int) ((outA (LfI.mk (h.map actV) (d.map boolV) h.length h.length 0 d.length none)).length : Int) 0 (Ac.mk h[k].w h[k].v h[k].f h[k].t)) = blk h d h[k] := by
        simp only [IxW, hout, decF_cells, Int.toNat_zero, List.drop_zero]
        exact any_wait h d h[k]
      have hWg : cmp .geq (wtS (WtI.mk (cellsA (outA (LfI.mk (h.map actV) (d.map boolV) h.length h.length 0 d.length none))) ((outA (LfI.mk (h.map actV) (d.map boolV) h.length h.length 0 d.length none)).length : Int) ((outA (LfI.mk (h.map actV) (d.map boolV) h.length h.length 0 d.length none)).length : Int) 0 (Ac.mk h[k].w h[k].v h[k].f h[k].t))) 0 = true := by rw [cmp_geq]; exact decide_eq_true (by unfold wtS; dsimp only; omega)
      cases hw : h[k].w with
      | false =>
        rw [hw] at hmay
        have hnw : (!h[k].w) = true := by rw [hw]; rfl
        have hnx : nxt h[k] now = now := by unfold nxt; rw [hw]; rfl
        by_cases hv : h[k].v = now
        · have hv2 : cmp .neq h[k].v now = false := by rw [cmp_neq]; exact decide_eq_false (by simp [hv])
          cases hbk : blk h d h[k] with
          | true =>
            rw [hbk] at hWq hmay
            have hsk := hskip (by rw [hmay]; simp)
            have hre : resS ⟨h.map actV, h.map actV, d.map boolV, l1, h.length, h.length, ((k + 1 : Nat) : Int), d.length, now, (some (od.map natV, (od.length : Int))), tp⟩ = resS ⟨h.map actV, h.map actV, d.map boolV, l1, h.length, h.length, (k : Int), d.length, now, (some (od.map natV, (od.length : Int))), tp⟩ := by rw [hres, hres, hsk]
            refine ⟨60, _, _, lookN [([0], [0]), ([1], [1]), ([2], [2]), ([3], [3]), ([4], [4]), ([5], [5])], has_outC (rSk1_2 inR m (h.map actV) (h.map actV) (d.map boolV) (od.map natV) l1 h.length h.length k d.length od.length now h[k] false) ⟨hls, hel, hge, hls2, hrd, rfl, hnw, hv2, rfl, hLpre, hLq, rfl, hWpre, hWq, hWg, trivial⟩, (fun n hn => by rcases Sk_mem hn with rfl | rfl | rfl | rfl | rfl <;> rfl), .inl ⟨rfl, ⟨h.map actV, h.map actV, d.map boolV, l1, h.length, h.length, ((k + 1 : Nat) : Int), d.length, now, (some (od.map natV, (od.length : Int))), tp⟩, ⟨h, d, od.length, k + 1, rfl, rfl, rfl, rfl, rfl, rfl, hdh, rfl, by omega, hb, hg, hm, od, rfl, rfl, rfl⟩, hmu, ?_, ?_, ?_⟩⟩
            · refine stSim_of rfl rfl rfl (fun p hp => ?_) ⟨rfl, ⟨_, rfl, rowOsl rfl rfl⟩, rfl, ⟨_, rfl, rowIsl hae⟩, rfl, ⟨_, rfl, rowOsl rfl rfl⟩, rfl, ⟨_, rfl, rowSeek rfl rfl rfl rfl⟩, rfl, ⟨_, rfl, sim_row rfl (argL_bools d)⟩, rfl, ⟨_, rfl, sim_row rfl (argL_nats od)⟩, trivial⟩
              simp only [List.mem_cons, List.not_mem_nil, or_false] at hp
              rcases hp with rfl | rfl | rfl | rfl | rfl | rfl | rfl | rfl
              · exact .int _ _ _ _
              · exact .ptr _ _ _ _ _ rfl
              · exact .ptr _ _ _ _ _ rfl
              · exact .ptr _ _ _ _ _ rfl
              · exact .ptr _ _ _ _ _ rfl
              · exact .isl _ _ _ _ _ _ _ _ hae
              · exact .int _ _ _ _
              · exact sim_int hadd
            · simp only [Sk, hre]
            · simp only [Sk, fndS, hre, ordS, olS]

          | false =>
            rw [hbk] at hWq hmay
            have hmt : mayS h d now k h[k] = true := by rw [hmay]; simp [hv]
            rw [hmt, if_pos rfl, hnx] at htry
            have hwr : Ob.holds (.wr (d.map boolV) (k : Int) [.bool true true] (setCells (d.map boolV) ((k : Int)).toNat [.bool true true])) := ⟨by omega, by simp; omega, rfl⟩
            have hsd : setCells (d.map boolV) ((k : Int)).toNat [.bool true true] = (d.set k true).map boolV := by rw [Int.toNat_natCast]; exact set_bools d k true hkd
            have hsd0 : setCells (d.map boolV) k [.bool true true] = (d.set k true).map boolV := set_bools d k true hkd
            have hdl' : (d.set k true).length = h.length := by simpa using hdh
            have hol1 : cmp .geq (od.length : Int) 0 = true := by rw [cmp_geq]; exact decide_eq_true (by omega)
            have hol2 : cmp .leq (od.length : Int) 1048576 = true := by rw [cmp_leq]; exact decide_eq_true (by omega)
            have hol3 : lin (od.length : Int) 1 0 = (((od.map natV).length : Nat) : Int) := by rw [List.length_map]; unfold lin; omega
            have hpl : ((pls (od.length : Int) 1) : Int) = ((od.length + 1 : Nat) : Int) := by unfold pls; omega
            have hon : (od.map natV ++ [.int .i64 true (k : Int)]) = ((od ++ [k]) : List Nat).map natV := by rw [List.map_append]; rfl
            by_cases hfull : od.length + 1 = h.length
            · have hmz : h.length - od.length - 1 = 0 := by omega
              have hfd : resS ⟨h.map actV, h.map actV, d.map boolV, l1, h.length, h.length, (k : Int), d.length, now, (some (od.map natV, (od.length : Int))), tp⟩ = some [k] := by
                rw [hres, hstep, htry, hmz]; rfl
              have hfn : fndS ⟨h.map actV, h.map actV, d.map boolV, l1, h.length, h.length, (k : Int), d.length, now, (some (od.map natV, (od.length : Int))), tp⟩ = (od.map natV ++ [.int .i64 true (k : Int)]) := by
                simp only [fndS, hfd, ordS]; rfl
              have heq : cmp .eql (pls (od.length : Int) 1) (h.length : Int) = true := by rw [cmp_eql, hpl]; exact decide_eq_true (by omega)
              refine ⟨60, _, _, lookN [([0], [0]), ([1], [1]), ([2], [2]), ([3], [3]), ([4], [4]), ([5], [3, 7])], has_outC (rSk1_12 inR m (h.map actV) (h.map actV) (d.map boolV) (od.map natV) l1 h.length h.length k d.length od.length now h[k] false) ⟨hls, hel, hge, hls2, hrd, rfl, hnw, hv2, rfl, hLpre, hLq, rfl, hWpre, hWq, hw, hge, hls2, hwr, hol1, hol2, hol3, heq, trivial⟩, (fun n hn => by rcases Sk_mem hn with rfl | rfl | rfl | rfl | rfl <;> rfl), .inr ⟨by simp, by simp only [Sk, hfd]; rfl, ?_⟩⟩
              have hq : (Sk (m + 1)).q ⟨h.map actV, h.map actV, d.map boolV, l1, h.length, h.length, (k : Int), d.length, now, (some (od.map natV, (od.length : Int))), tp⟩ = true := by simp only [Sk, hfd]; rfl
              rw [hq]
              refine stSim_of rfl rfl rfl (fun p hp => ?_) ⟨rfl, ⟨_, rfl, rowOsl rfl ?_⟩, rfl, ⟨_, rfl, rowIsl hae⟩, rfl, ⟨_, rfl, rowOsl rfl rfl⟩, rfl, ⟨_, rfl, rowSeek rfl rfl rfl rfl⟩, rfl, ⟨_, rfl, rowNone⟩, rfl, ⟨_, rfl, sim_row hfn.symm ?_⟩, trivial⟩
              · simp only [List.mem_cons, List.not_mem_nil, or_false] at hp
                rcases hp with rfl
                exact .bool _ _ _
              · rw [hfn, hpl]; simp
              · rw [hon]; exact argL_nats _
            · have heq : cmp .eql (pls (od.length : Int) 1) (h.length : Int) = false := by rw [cmp_eql, hpl]; exact decide_eq_false (by omega)
              have hIpre : (Sk m).pre (SkI.mk (h.map actV) (h.map actV) (setCells (d.map boolV) ((k : Int)).toNat [.bool true true]) h.length h.length h.length 0 d.length now (some ((od.map natV ++ [.int .i64 true (k : Int)]), (pls (od.length : Int) 1))) false) := ⟨h, d.set k true, od.length + 1, 0, rfl, rfl, hsd, rfl, rfl, by simp, hdl', rfl, Nat.zero_le _, hb, by omega, by omega, (od ++ [k]), hon, by simp, hpl⟩
              obtain ⟨m', hm'⟩ : ∃ m', h.length - od.length - 1 = m' + 1 := ⟨h.length - od.length - 2, by omega⟩
              have hIres : resS (SkI.mk (h.map actV) (h.map actV) (setCells (d.map boolV) ((k : Int)).toNat [.bool true true]) h.length h.length h.length 0 d.length now (some ((od.map natV ++ [.int .i64 true (k : Int)]), (pls (od.length : Int) 1))) false) = seekS h (h.length - od.length - 1) (d.set k true) now := by
                simp only [resS, hS, dS, gS, hsd, hsd0, decA_map, decB_map, hpl, Int.toNat_zero, Int.toNat_natCast]
                rw [hm', seekS_succ]
                congr 1
                omega
              rw [← hIres] at htry
              cases hr : resS (SkI.mk (h.map actV) (h.map actV) (setCells (d.map boolV) ((k : Int)).toNat [.bool true true]) h.length h.length h.length 0 d.length now (some ((od.map natV ++ [.int .i64 true (k : Int)]), (pls (od.length : Int) 1))) false) with
              | some l =>
                rw [hr] at htry
                have hfd : resS ⟨h.map actV, h.map actV, d.map boolV, l1, h.length, h.length, (k : Int), d.length, now, (some (od.map natV, (od.length : Int))), tp⟩ = some (k :: l) := by
                  rw [hres, hstep, htry]; rfl
                have hfn : fndS ⟨h.map actV, h.map actV, d.map boolV, l1, h.length, h.length, (k : Int), d.length, now, (some (od.map natV, (od.length : Int))), tp⟩ = fndS (SkI.mk (h.map actV) (h.map actV) (setCells (d.map boolV) ((k : Int)).toNat [.bool true true]) h.length h.length h.length 0 d.length now (some ((od.map natV ++ [.int .i64 true (k : Int)]), (pls (od.length : Int) 1))) false) := by
                  simp only [fndS, hfd, hr, ordS]
                  simp [natV]
                refine ⟨60, _, _, lookN [([0], [0]), ([1], [1]), ([2], [2]), ([3], [3]), ([4], [4]), ([5], [5, 77, 3, 2, 8])], has_outC (rSk1_13 inR m (h.map actV) (h.map actV) (d.map boolV) (od.map natV) l1 h.length h.length k d.length od.length now h[k] false) ⟨hls, hel, hge, hls2, hrd, rfl, hnw, hv2, rfl, hLpre, hLq, rfl, hWpre, hWq, hw, hge, hls2, hwr, hol1, hol2, hol3, heq, rfl, hIpre, (by simp only [Sk, hr]; rfl), trivial⟩, (fun n hn => by rcases Sk_mem hn with rfl | rfl | rfl | rfl | rfl <;> rfl), .inr ⟨by simp, by simp only [Sk, hfd]; rfl, ?_⟩⟩
                have hq : (Sk (m + 1)).q ⟨h.map actV, h.map actV, d.map boolV, l1, h.length, h.length, (k : Int), d.length, now, (some (od.map natV, (od.length : Int))), tp⟩ = true := by simp only [Sk, hfd]; rfl
                rw [hq]
                refine stSim_of rfl rfl rfl (fun p hp => ?_) ⟨rfl, ⟨_, rfl, rowOsl rfl (by rw [hfn])⟩, rfl, ⟨_, rfl, rowIsl hae⟩, rfl, ⟨_, rfl, rowOsl rfl rfl⟩, rfl, ⟨_, rfl, rowSeek rfl rfl rfl rfl⟩, rfl, ⟨_, rfl, rowNone⟩, rfl, ⟨_, rfl, sim_row hfn.symm ?_⟩, trivial⟩
                · simp only [List.mem_cons, List.not_mem_nil, or_false] at hp
                  rcases hp with rfl
                  exact .bool _ _ _
                · simp only [fndS, ordS, hon]
                  exact argL_append _ _ (argL_nats _) (argL_nats _)

              | none =>
                rw [hr] at htry
                have hre : fromS h (h.length - od.length - 1) d now (k + 1) = fromS h (h.length - od.length - 1) d now k := by rw [hstep, htry]; rfl
                have hr2 : resS ⟨h.map actV, h.map actV, d.map boolV, l1, h.length, h.length, ((k + 1 : Nat) : Int), d.length, now, (some (od.map natV, (od.length : Int))), tp⟩ = resS ⟨h.map actV, h.map actV, d.map boolV, l1, h.length, h.length, (k : Int), d.length, now, (some (od.map natV, (od.length : Int))), tp⟩ := by rw [hres, hres, hre]
                have hwr2 : Ob.holds (.wr (setCells (d.map boolV) ((k : Int)).toNat [.bool true true]) (k : Int) [.bool true false] (setCells (setCells (d.map boolV) ((k : Int)).toNat [.bool true true]) ((k : Int)).toNat [.bool true false])) := ⟨by omega, by rw [hsd]; simp; omega, rfl⟩
                have hsd2 : setCells (setCells (d.map boolV) ((k : Int)).toNat [.bool true true]) ((k : Int)).toNat [.bool true false] = d.map boolV := by
                  rw [hsd, Int.toNat_natCast, set_bools _ _ _ (by simpa using hkd)]
                  congr 1
                  rw [List.set_set]
                  exact set_same_get hy hbd
                have hsb : ar .sub .i64 (pls (od.length : Int) 1) 1 = (od.length : Int) := by rw [hpl, ar_sub (by omega) (by omega)]; omega
                have hle1 : cmp .leq 0 (ar .sub .i64 (pls (od.length : Int) 1) 1) = true := by rw [cmp_leq, hsb]; exact decide_eq_true (by omega)
                have hle2 : cmp .leq (ar .sub .i64 (pls (od.length : Int) 1) 1) (pls (od.length : Int) 1) = true := by rw [cmp_leq, hsb, hpl]; exact decide_eq_true (by omega)
                refine ⟨60, _, _, lookN [([0], [0]), ([1], [1]), ([2], [2]), ([3], [3]), ([4], [4]), ([5], [5, 77, 3, 2, 8])], has_outC (rSk1_14 inR m (h.map actV) (h.map actV) (d.map boolV) (od.map natV) l1 h.length h.length k d.length od.length now h[k] false) ⟨hls, hel, hge, hls2, hrd, rfl, hnw, hv2, rfl, hLpre, hLq, rfl, hWpre, hWq, hw, hge, hls2, hwr, hol1, hol2, hol3, heq, rfl, hIpre, (by simp only [Sk, hr]; rfl), hge, hls2, hwr2, hle1, hle2, trivial⟩, (fun n hn => by rcases Sk_mem hn with rfl | rfl | rfl | rfl | rfl <;> rfl), .inl ⟨rfl, ⟨h.map actV, h.map actV, d.map boolV, l1, h.length, h.length, ((k + 1 : Nat) : Int), d.length, now, (some (od.map natV, (od.length : Int))), tp⟩, ⟨h, d, od.length, k + 1, rfl, rfl, rfl, rfl, rfl, rfl, hdh, rfl, by omega, hb, hg, hm, od, rfl, rfl, rfl⟩, hmu, ?_, ?_, ?_⟩⟩
                · refine stSim_of rfl rfl rfl (fun p hp => ?_) ⟨rfl, ⟨_, rfl, rowOsl rfl (by rw [hsb]; unfold mns; simp)⟩, rfl, ⟨_, rfl, rowIsl hae⟩, rfl, ⟨_, rfl, rowOsl rfl rfl⟩, rfl, ⟨_, rfl, rowSeek rfl rfl rfl rfl⟩, rfl, ⟨_, rfl, sim_row hsd2 (by rw [hsd2]; exact argL_bools d)⟩, rfl, ⟨_, rfl, sim_rowP (k := [natV k]) (by rfl) (argL_nats _)⟩, trivial⟩
                  simp only [List.mem_cons, List.not_mem_nil, or_false] at hp
                  rcases hp with rfl | rfl | rfl | rfl | rfl | rfl | rfl | rfl
                  · exact .int _ _ _ _
                  · exact .ptr _ _ _ _ _ rfl
                  · exact .ptr _ _ _ _ _ rfl
                  · exact .ptr _ _ _ _ _ rfl
                  · exact .ptr _ _ _ _ _ rfl
                  · exact .isl _ _ _ _ _ _ _ _ hae
                  · exact .int _ _ _ _
                  · exact sim_int hadd
                · simp only [Sk, hr2]
                · simp only [Sk, fndS, hr2, ordS, olS]

        · have hv2 : cmp .neq h[k].v now = true := by rw [cmp_neq]; exact decide_eq_true hv
          have hsk := hskip (by rw [hmay]; simp [hv])
          have hre : resS ⟨h.map actV, h.map actV, d.map boolV, l1, h.length, h.length, ((k + 1 : Nat) : Int), d.length, now, (some (od.map natV, (od.length : Int))), tp⟩ = resS ⟨h.map actV, h.map actV, d.map boolV, l1, h.length, h.length, (k : Int), d.length, now, (some (od.map natV, (od.length : Int))), tp⟩ := by rw [hres, hres, hsk]
          refine ⟨60, _, _, lookN [([0], [0]), ([1], [1]), ([2], [2]), ([3], [3]), ([4], [4]), ([5], [5])], has_outC (rSk1_1 inR m (h.map actV) (h.map actV) (d.map boolV) (od.map natV) l1 h.length h.length k d.length od.length now h[k] false) ⟨hls, hel, hge, hls2, hrd, rfl, hnw, hv2, trivial⟩, (fun n hn => by rcases Sk_mem hn with rfl | rfl | rfl | rfl | rfl <;> rfl), .inl ⟨rfl, ⟨h.map actV, h.map actV, d.map boolV, l1, h.length, h.length, ((k + 1 : Nat) : Int), d.length, now, (some (od.map natV, (od.length : Int))), tp⟩, ⟨h, d, od.length, k + 1, rfl, rfl, rfl, rfl, rfl, rfl, hdh, rfl, by omega, hb, hg, hm, od, rfl, rfl, rfl⟩, hmu, ?_, ?_, ?_⟩⟩
          · refine stSim_of rfl rfl rfl (fun p hp => ?_) ⟨rfl, ⟨_, rfl, rowOsl rfl rfl⟩, rfl, ⟨_, rfl, rowIsl hae⟩, rfl, ⟨_, rfl, rowOsl rfl rfl⟩, rfl, ⟨_, rfl, rowSeek rfl rfl rfl rfl⟩, rfl, ⟨_, rfl, sim_row rfl (argL_bools d)⟩, rfl, ⟨_, rfl, sim_row rfl (argL_nats od)⟩, trivial⟩
            simp only [List.mem_cons, List.not_mem_nil, or_false] at hp
            rcases hp with rfl | rfl | rfl | rfl | rfl | rfl | rfl | rfl
            · exact .int _ _ _ _
            · exact .ptr _ _ _ _ _ rfl
            · exact .ptr _ _ _ _ _ rfl
            · exact .ptr _ _ _ _ _ rfl
            · exact .ptr _ _ _ _ _ rfl
            · exact .isl _ _ _ _ _ _ _ _ hae
            · exact .int _ _ _ _
            · exact sim_int hadd
          · simp only [Sk, hre]
          · simp only [Sk, fndS, hre, ordS, olS]

      | true =>
        rw [hw] at hmay
        have hnw : (!h[k].w) = false := by rw [hw]; rfl
        have hnx : nxt h[k] now = h[k].v := by unfold nxt; rw [hw]; rfl
        cases hbk : blk h d h[k] with
        | true =>
          rw [hbk] at hWq hmay
          have hsk := hskip (by rw [hmay]; simp)
          have hre : resS ⟨h.map actV, h.map actV, d.map boolV, l1, h.length, h.length, ((k + 1 : Nat) : Int), d.length, now, (some (od.map natV, (od.length : Int))), tp⟩ = resS ⟨h.map actV, h.map actV, d.map boolV, l1, h.length, h.length, (k : Int), d.length, now, (some (od.map natV, (od.length : Int))), tp⟩ := by rw [hres, hres, hsk]
          refine ⟨60, _, _, lookN [([0], [0]), ([1], [1]), ([2], [2]), ([3], [3]), ([4], [4]), ([5], [5])], has_outC (rSk1_15 inR m (h.map actV) (h.map actV) (d.map boolV) (od.map natV) l1 h.length h.length k d.length od.length now h[k] false) ⟨hls, hel, hge, hls2, hrd, rfl, hnw, rfl, hLpre, hLq, rfl, hWpre, hWq, hWg, trivial⟩, (fun n hn => by rcases Sk_mem hn with rfl | rfl | rfl | rfl | rfl <;> rfl), .inl ⟨rfl, ⟨h.map actV, h.map actV, d.map boolV, l1, h.length, h.length, ((k + 1 : Nat) : Int), d.length, now, (some (od.map natV, (od.length : Int))), tp⟩, ⟨h, d, od.length, k + 1, rfl, rfl, rfl, rfl, rfl, rfl, hdh, rfl, by omega, hb, hg, hm, od, rfl, rfl, rfl⟩, hmu, ?_, ?_, ?_⟩⟩
          · refine stSim_of rfl rfl rfl (fun p hp => ?_) ⟨rfl, ⟨_, rfl, rowOsl rfl rfl⟩, rfl, ⟨_, rfl, rowIsl hae⟩, rfl, ⟨_, rfl, rowOsl rfl rfl⟩, rfl, ⟨_, rfl, rowSeek rfl rfl rfl rfl⟩, rfl, ⟨_, rfl, sim_row rfl (argL_bools d)⟩, rfl, ⟨_, rfl, sim_row rfl (argL_nats od)⟩, trivial⟩
            simp only [List.mem_cons, List.not_mem_nil, or_false] at hp
            rcases hp with rfl | rfl | rfl | rfl | rfl | rfl | rfl | rfl
            · exact .int _ _ _ _
            · exact .ptr _ _ _ _ _ rfl
            · exact .ptr _ _ _ _ _ rfl
            · exact .ptr _ _ _ _ _ rfl
            · exact .ptr _ _ _ _ _ rfl
            · exact .isl _ _ _ _ _ _ _ _ hae
            · exact .int _ _ _ _
            · exact sim_int hadd
          · simp only [Sk, hre]
          · simp only [Sk, fndS, hre, ordS, olS]

        | false =>
          rw [hbk] at hWq hmay
          have hmt : mayS h d now k h[k] = true := by rw [hmay]; simp
          rw [hmt, if_pos rfl, hnx] at htry
          have hwr : Ob.holds (.wr (d.map boolV) (k : Int) [.bool true true] (setCells (d.map boolV) ((k : Int)).toNat [.bool true true])) := ⟨by omega, by simp; omega, rfl⟩
          have hsd : setCells (d.map boolV) ((k : Int)).toNat [.bool true true] = (d.set k true).map boolV := by rw [Int.toNat_natCast]; exact set_bools d k true hkd
          have hsd0 : setCells (d.map boolV) k [.bool true true] = (d.set k true).map boolV := set_bools d k true hkd
          have hdl' : (d.set k true).length = h.length := by simpa using hdh
          have hol1 : cmp .geq (od.length : Int) 0 = true := by rw [cmp_geq]; exact decide_eq_true (by omega)
          have hol2 : cmp .leq (od.length : Int) 1048576 = true := by rw [cmp_leq]; exact decide_eq_true (by omega)
          have hol3 : lin (od.length : Int) 1 0 = (((od.map natV).length : Nat) : Int) := by rw [List.length_map]; unfold lin; omega
          have hpl : ((pls (od.length : Int) 1) : Int) = ((od.length + 1 : Nat) : Int) := by unfold pls; omega
          have hon : (od.map natV ++ [.int .i64 true (k : Int)]) = ((od ++ [k]) : List Nat).map natV := by rw [List.map_append]; rfl
          by_cases hfull : od.length + 1 = h.length
          · have hmz : h.length - od.length - 1 = 0 := by omega
            have hfd : resS ⟨h.map actV, h.map actV, d.map boolV, l1, h.length, h.length, (k : Int), d.length, now, (some (od.map natV, (od.length : Int))), tp⟩ = some [k] := by
              rw [hres, hstep, htry, hmz]; rfl
            have hfn : fndS ⟨h.map actV, h.map actV, d.map boolV, l1, h.length, h.length, (k : Int), d.length, now, (some (od.map natV, (od.length : Int))), tp⟩ = (od.map natV ++ [.int .i64 true (k : Int)]) := by
              simp only [fndS, hfd, ordS]; rfl
            have heq : cmp .eql (pls (od.length : Int) 1) (h.length : Int) = true := by rw [cmp_eql, hpl]; exact decide_eq_true (by omega)
            refine ⟨60, _, _, lookN [([0], [0]), ([1], [1]), ([2], [2]), ([3], [3]), ([4], [4]), ([5], [3, 8])], has_outC (rSk1_22 inR m (h.map actV) (h.map actV) (d.map boolV) (od.map natV) l1 h.length h.length k d.length od.length now h[k] false) ⟨hls, hel, hge, hls2, hrd, rfl, hnw, rfl, hLpre, hLq, rfl, hWpre, hWq, hw, hge, hls2, hwr, hol1, hol2, hol3, heq, trivial⟩, (fun n hn => by rcases Sk_mem hn with rfl | rfl | rfl | rfl | rfl <;> rfl), .inr ⟨by simp, by simp only [Sk, hfd]; rfl, ?_⟩⟩
            have hq : (Sk (m + 1)).q ⟨h.map actV, h.map actV, d.map boolV, l1, h.length, h.length, (k : Int), d.length, now, (some (od.map natV, (od.length : Int))), tp⟩ = true := by simp only [Sk, hfd]; rfl
            rw [hq]
            refine stSim_of rfl rfl rfl (fun p hp => ?_) ⟨rfl, ⟨_, rfl, rowOsl rfl ?_⟩, rfl, ⟨_, rfl, rowIsl hae⟩, rfl, ⟨_, rfl, rowOsl rfl rfl⟩, rfl, ⟨_, rfl, rowSeek rfl rfl rfl rfl⟩, rfl, ⟨_, rfl, rowNone⟩, rfl, ⟨_, rfl, sim_row hfn.symm ?_⟩, trivial⟩
            · simp only [List.mem_cons, List.not_mem_nil, or_false] at hp
              rcases hp with rfl
              exact .bool _ _ _
            · rw [hfn, hpl]; simp
            · rw [hon]; exact argL_nats _
          · have heq : cmp .eql (pls (od.length : Int) 1) (h.length : Int) = false := by rw [cmp_eql, hpl]; exact decide_eq_false (by omega)
            have hIpre : (Sk m).pre (SkI.mk (h.map actV) (h.map actV) (setCells (d.map boolV) ((k : Int)).toNat [.bool true true]) h.length h.length h.length 0 d.length h[k].v (some ((od.map natV ++ [.int .i64 true (k : Int)]), (pls (od.length : Int) 1))) false) := ⟨h, d.set k true, od.length + 1, 0, rfl, rfl, hsd, rfl, rfl, by simp, hdl', rfl, Nat.zero_le _, hb, by omega, by omega, (od ++ [k]), hon, by simp, hpl⟩
            obtain ⟨m', hm'⟩ : ∃ m', h.length - od.length - 1 = m' + 1 := ⟨h.length - od.length - 2, by omega⟩
            have hIres : resS (SkI.mk (h.map actV) (h.map actV) (setCells (d.map boolV) ((k : Int)).toNat [.bool true true]) h.length h.length h.length 0 d.length h[k].v (some ((od.map natV ++ [.int .i64 true (k : Int)]), (pls (od.length : Int) 1))) false) = seekS h (h.length - od.length - 1) (d.set k true) h[k].v := by
              simp only [resS, hS, dS, gS, hsd, hsd0, decA_map, decB_map, hpl, Int.toNat_zero, Int.toNat_natCast]
              rw [hm', seekS_succ]
              congr 1
              omega
            rw [← hIres] at htry
            cases hr : resS (SkI.mk (h.map actV) (h.map actV) (setCells (d.map boolV) ((k : Int)).toNat [.bool true true]) h.length h.length h.length 0 d.length h[k].v (some ((od.map natV ++ [.int .i64 true (k : Int)]), (pls (od.length : Int) 1))) false) with
            | some l =>
              rw [hr] at htry
              have hfd : resS ⟨h.map actV, h.map actV, d.map boolV, l1, h.length, h.length, (k : Int), d.length, now, (some (od.map natV, (od.length : Int))), tp⟩ = some (k :: l) := by
                rw [hres, hstep, htry]; rfl
              have hfn : fndS ⟨h.map actV, h.map actV, d.map boolV, l1, h.length, h.length, (k : Int), d.length, now, (some (od.map natV, (od.length : Int))), tp⟩ = fndS (SkI.mk (h.map actV) (h.map actV) (setCells (d.map boolV) ((k : Int)).toNat [.bool true true]) h.length h.length h.length 0 d.length h[k].v (some ((od.map natV ++ [.int .i64 true (k : Int)]), (pls (od.length : Int) 1))) false) := by
                simp only [fndS, hfd, hr, ordS]
                simp [natV]
              refine ⟨60, _, _, lookN [([0], [0]), ([1], [1]), ([2], [2]), ([3], [3]), ([4], [4]), ([5], [5, 77, 3, 2, 9])], has_outC (rSk1_23 inR m (h.map actV) (h.map actV) (d.map boolV) (od.map natV) l1 h.length h.length k d.length od.length now h[k] false) ⟨hls, hel, hge, hls2, hrd, rfl, hnw, rfl, hLpre, hLq, rfl, hWpre, hWq, hw, hge, hls2, hwr, hol1, hol2, hol3, heq, rfl, hIpre, (by simp only [Sk, hr]; rfl), trivial⟩, (fun n hn => by rcases Sk_mem hn with rfl | rfl | rfl | rfl | rfl <;> rfl), .inr ⟨by simp, by simp only [Sk, hfd]; rfl, ?_⟩⟩
              have hq : (Sk (m + 1)).q ⟨h.map actV, h.map actV, d.map boolV, l1, h.length, h.length, (k : Int), d.length, now, (some (od.map natV, (od.length : Int))), tp⟩ = true := by simp only [Sk, hfd]; rfl
              rw [hq]
              refine stSim_of rfl rfl rfl (fun p hp => ?_) ⟨rfl, ⟨_, rfl, rowOsl rfl (by rw [hfn])⟩, rfl, ⟨_, rfl, rowIsl hae⟩, rfl, ⟨_, rfl, rowOsl rfl rfl⟩, rfl, ⟨_, rfl, rowSeek rfl rfl rfl rfl⟩, rfl, ⟨_, rfl, rowNone⟩, rfl, ⟨_, rfl, sim_row hfn.symm ?_⟩, trivial⟩
              · simp only [List.mem_cons, List.not_mem_nil, or_false] at hp
                rcases hp with rfl
                exact .bool _ _ _
              · simp only [fndS, ordS, hon]
                exact argL_append _ _ (argL_nats _) (argL_nats _)

            | none =>
              rw [hr] at htry
              have hre : fromS h (h.length - od.length - 1) d now (k + 1) = fromS h (h.length - od.length - 1) d now k := by rw [hstep, htry]; rfl
              have hr2 : resS ⟨h.map actV, h.map actV, d.map boolV, l1, h.length, h.length, ((k + 1 : Nat) : Int), d.length, now, (some (od.map natV, (od.length : Int))), tp⟩ = resS ⟨h.map actV, h.map actV, d.map boolV, l1, h.length, h.length, (k : Int), d.length, now, (some (od.map natV, (od.length : Int))), tp⟩ := by rw [hres, hres, hre]
              have hwr2 : Ob.holds (.wr (setCells (d.map boolV) ((k : Int)).toNat [.bool true true]) (k : Int) [.bool true false] (setCells (setCells (d.map boolV) ((k : Int)).toNat [.bool true true]) ((k : Int)).toNat [.bool true false])) := ⟨by omega, by rw [hsd]; simp; omega, rfl⟩
              have hsd2 : setCells (setCells (d.map boolV) ((k : Int)).toNat [.bool true true]) ((k : Int)).toNat [.bool true false] = d.map boolV := by
                rw [hsd, Int.toNat_natCast, set_bools _ _ _ (by simpa using hkd)]
                congr 1
                rw [List.set_set]
                exact set_same_get hy hbd
              have hsb : ar .sub .i64 (pls (od.length : Int) 1) 1 = (od.length : Int) := by rw [hpl, ar_sub (by omega) (by omega)]; omega
              have hle1 : cmp .leq 0 (ar .sub .i64 (pls (od.length : Int) 1) 1) = true := by rw [cmp_leq, hsb]; exact decide_eq_true (by omega)
              have hle2 : cmp .leq (ar .sub .i64 (pls (od.length : Int) 1) 1) (pls (od.length : Int) 1) = true := by rw [cmp_leq, hsb, hpl]; exact decide_eq_true (by omega)
              refine ⟨60, _, _, lookN [([0], [0]), ([1], [1]), ([2], [2]), ([3], [3]), ([4], [4]), ([5], [5, 77, 3, 2, 9])], has_outC (rSk1_24 inR m (h.map actV) (h.map actV) (d.map boolV) (od.map natV) l1 h.length h.length k d.length od.length now h[k] false) ⟨hls, hel, hge, hls2, hrd, rfl, hnw, rfl, hLpre, hLq, rfl, hWpre, hWq, hw, hge, hls2, hwr, hol1, hol2, hol3, heq, rfl, hIpre, (by simp only [Sk, hr]; rfl), hge, hls2, hwr2, hle1, hle2, trivial⟩, (fun n hn => by rcases Sk_mem hn with rfl | rfl | rfl | rfl | rfl <;> rfl), .inl ⟨rfl, ⟨h.map actV, h.map actV, d.map boolV, l1, h.length, h.length, ((k + 1 : Nat) : Int), d.length, now, (some (od.map natV, (od.length : Int))), tp⟩, ⟨h, d, od.length, k + 1, rfl, rfl, rfl, rfl, rfl, rfl, hdh, rfl, by omega, hb, hg, hm, od, rfl, rfl, rfl⟩, hmu, ?_, ?_, ?_⟩⟩
              · refine stSim_of rfl rfl rfl (fun p hp => ?_) ⟨rfl, ⟨_, rfl, rowOsl rfl (by rw [hsb]; unfold mns; simp)⟩, rfl, ⟨_, rfl, rowIsl hae⟩, rfl, ⟨_, rfl, rowOsl rfl rfl⟩, rfl, ⟨_, rfl, rowSeek rfl rfl rfl rfl⟩, rfl, ⟨_, rfl, sim_row hsd2 (by rw [hsd2]; exact argL_bools d)⟩, rfl, ⟨_, rfl, sim_rowP (k := [natV k]) (by rfl) (argL_nats _)⟩, trivial⟩
                simp only [List.mem_cons, List.not_mem_nil, or_false] at hp
                rcases hp with rfl | rfl | rfl | rfl | rfl | rfl | rfl | rfl
                · exact .int _ _ _ _
                · exact .ptr _ _ _ _ _ rfl
                · exact .ptr _ _ _ _ _ rfl
                · exact .ptr _ _ _ _ _ rfl
                · exact .ptr _ _ _ _ _ rfl
                · exact .isl _ _ _ _ _ _ _ _ hae
                · exact .int _ _ _ _
                · exact sim_int hadd
              · simp only [Sk, hr2]
              · simp only [Sk, fndS, hr2, ordS, olS]


  · have hkl : k = h.length := by omega
    subst hkl
    have hls : cmp .lss (h.length : Int) (h.length : Int) = false := by rw [cmp_lss]; exact decide_eq_false (by omega)
    have hq : (Sk (m + 1)).q ⟨h.map actV, h.map actV, d.map boolV, l1, h.length, h.length, (h.length : Int), d.length, now, (some (od.map natV, (od.length : Int))), tp⟩ = false := by simp only [Sk]; rw [hres, fromS_end (Nat.le_refl _)]; rfl
    cases tp with
    | true =>
      refine ⟨60, _, _, lookN [([0], [0]), ([1], [1]), ([2], [2]), ([3], [3]), ([4], [4])], has_outC (rSk1_28 inR m (h.map actV) (h.map actV) (d.map boolV) (od.map natV) l1 h.length h.length h.length d.length od.length now ⟨true, 0, 0, 0⟩ true) ⟨hls, trivial⟩, (fun n hn => by rcases Sk_mem hn with rfl | rfl | rfl | rfl | rfl <;> rfl), .inr ⟨by simp, by rw [hq]; rfl, ?_⟩⟩
      rw [hq]
      exact stSim_of rfl rfl rfl (fun p hp => by cases hp) ⟨rfl, ⟨_, rfl, rowTop⟩, rfl, ⟨_, rfl, rowIsl hae⟩, rfl, ⟨_, rfl, rowOsl rfl rfl⟩, rfl, ⟨_, rfl, rowSeek rfl rfl rfl rfl⟩, rfl, ⟨_, rfl, sim_row rfl (argL_bools d)⟩, trivial⟩
    | false =>
      refine ⟨60, _, _, lookN [([0], [0]), ([1], [1]), ([2], [2]), ([3], [3]), ([4], [4]), ([5], [5])], has_outC (rSk1_28 inR m (h.map actV) (h.map actV) (d.map boolV) (od.map natV) l1 h.length h.length h.length d.length od.length now ⟨true, 0, 0, 0⟩ true) ⟨hls, trivial⟩, (fun n hn => by rcases Sk_mem hn with rfl | rfl | rfl | rfl | rfl <;> rfl), .inr ⟨by simp, by rw [hq]; rfl, ?_⟩⟩
      rw [hq]
      exact stSim_of rfl rfl rfl (fun p hp => by cases hp) ⟨rfl, ⟨_, rfl, rowOsl rfl rfl⟩, rfl, ⟨_, rfl, rowIsl hae⟩, rfl, ⟨_, rfl, rowOsl rfl rfl⟩, rfl, ⟨_, rfl, rowSeek rfl rfl rfl rfl⟩, rfl, ⟨_, rfl, sim_row rfl (argL_bools d)⟩, rfl, ⟨_, rfl, sim_row rfl (argL_nats od)⟩, trivial⟩


theorem Sk_ok : ∀ (m : Nat), HookOk Try.prog (Sk m).hook
  | 0 => (Sk 0).ok (Sk_form 0) (fun c _ inR F n hF i hp => by
      obtain ⟨h, d, g, k, _, _, _, _, _, _, _, _, _, _, hg, hm, _⟩ := hp
      omega) (scopeOk_loop (Sk 0) (Sk_code 0))
  | m + 1 => by
    have ih := Sk_ok m
    refine (Sk (m + 1)).ok (Sk_form (m + 1)) (loopOk_of (Sk (m + 1)) (cxS_ok ih) (Sk_code (m + 1)) 11 [] (fun p => (p.len - p.i).toNat) (Sk_form (m + 1)).K fun inR p hp => ?_) (scopeOk_loop (Sk (m + 1)) (Sk_code (m + 1)))
    obtain ⟨es, er, dn, l1, l0, len, i, dl, now, o, tp⟩ := p
    obtain ⟨h, d, g, k, he, her, hdn, hl0, hl, hdl, hdh, hi, hk, hb, hg, hm, ho⟩ := hp
    dsimp only at he her hdn hl0 hl hdl hi ho
    subst he her hdn hl0 hl hdl hi
    cases o with
    | none =>
      obtain ⟨rfl, rfl⟩ := ho
      exact Sk_step0 m inR h d k l1 now hdh hk hb hg hm
    | some q =>
      obtain ⟨oc, ol⟩ := q
      obtain ⟨od, h1, h2, h3⟩ := ho
      dsimp only at h1 h3
      subst h1 h2 h3
      exact Sk_step1 m inR h d od tp k l1 now hdh hk hb hg hm
#print axioms Sk_ok
end Go.Sx
