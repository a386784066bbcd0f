/- One behind the other: the walk. Conditions: none. -/
import Derived.Test.YtajloilpehgcmaaSxTr7
set_option linter.unusedVariables false
set_option linter.unusedSimpArgs false
set_option linter.unusedSectionVars false

namespace Go.Sx
open Go.Proofs Go.Proofs.Try

structure RwI where
  ws : List VV
  vs : List VV
  lw : Int
  lv : Int
  up : Bool
  n : Int
  o : Option (List VV × Int)
  now : Int
  good : Bool
  i : Int
def Rw_S (ws vs : List VV) (lw lv : Int) (up : Bool) (n : Int) (o : Option (List VV × Int)) (now : Int) (good : Bool) (i : Int) : St Int Bool :=
  stOf 98 [(0, .isl 0 1 true lw ws false), (1, .isl 1 1 true lv vs false), (5, .bool true up), (6, .int .i64 true n), (7, match o with | none => nilL | some q => .osl [1] 0 4 true q.2), (8, .int .i64 true now), (9, .bool true good), (10, .int .i64 true i)]
    (match o with | none => [] | some q => [([1], .row q.1 true 0)])
def numV (n : Int) : VV := .int .i64 true n
def numOf : VV → Option Int
  | .int _ _ n => some n
  | _ => none
def decN (vs : List VV) : List Int := vs.filterMap numOf
theorem decN_map (d : List Int) : decN (d.map numV) = d := by
  unfold decN
  rw [List.filterMap_map]
  have : numOf ∘ numV = some := by funext x; rfl
  rw [this, List.filterMap_some]
theorem argL_nums : ∀ (d : List Int), argL (d.map numV) = true
  | [] => rfl
  | b :: d => by simp only [List.map_cons, argL, argL_nums d, Bool.and_true]; rfl
/-- What is still to come. -/
def restS (p : RwI) : List (Bool × Int) := (((decB p.ws).zip (decN p.vs)).take p.n.toNat).drop p.i.toNat
def rwS (p : RwI) : List Ac := (match p.o with | none => [] | some q => decF q.1) ++ rowOf p.i.toNat (restS p)
def gdS (p : RwI) : Bool := p.good && goodFrom p.now (restS p)
noncomputable def Rw : LSpec RwI where
  code := loopAt f3 0
  K := []
  pre p := ∃ (w : List Bool) (v : List Int) (k m : Nat), p.ws = w.map boolV ∧ p.vs = v.map numV ∧ p.n = (m : Int) ∧ m ≤ w.length ∧ m ≤ v.length ∧ m ≤ 7 ∧ p.i = (k : Int) ∧ k ≤ m ∧
    (match p.o with | none => True | some q => ∃ g : List Ac, q.1 = cellsA g ∧ q.2 = (g.length : Int) ∧ g.length ≤ k)
  two := true
  q p := (match p.o with | none => true | some _ => false) && (rwS p).isEmpty
  S p := Rw_S p.ws p.vs p.lw p.lv p.up p.n p.o p.now p.good p.i
  T p b := match b with
    | true => stOf 98 [(5, .bool true p.up), (6, .int .i64 true p.n), (9, .bool true (gdS p)), (7, nilL)] []
    | false => stOf 98 [(5, .bool true p.up), (6, .int .i64 true p.n), (9, .bool true (gdS p)), (7, .osl [1] 0 4 true ((rwS p).length : Int))] [([1], .row (cellsA (rwS p)) true 0)]
  E _ _ := .exit 0
  pat st := match Nat.beq st.ts.length 98, getT st.ts 0, getT st.ts 1, getT st.ts 5, getT st.ts 6, getT st.ts 7, getT st.ts 8, getT st.ts 9, getT st.ts 10, st.marks with
    | true, .isl _ 1 _ lw ws _, .isl _ 1 _ lv vs _, .bool _ up, .int .i64 _ n, .isl 0 0 false z [] true, .int .i64 _ now, .bool _ good, .int .i64 _ i, [] => if z = 0 then some (⟨ws, vs, lw, lv, up, n, none, now, good, i⟩, []) else none
    | _, _, _, _, _, _, _, _, _, _ => none
theorem rRw0_0 (inR : Bool) (ws vs : List VV) (lw lv n now i v : Int) (up good w : Bool) : outC (evCode cx0 (ev cx0 60) 3 [] inR (bodyAt f3 0) (Rw_S ws vs lw lv up n none now good i) [.bit true, .val (.bool true w), .val (.int .i64 true v), .val (.bool true w), .bit true, .val (.int .i64 true v)]) =
    some (.nrm, { ts := [.isl 0 1 true lw ws false, .isl 1 1 true lv vs false, .top, .top, .top, .bool true up, .int .i64 true n, .osl [16, 1] 0 4 false 1, .int .i64 true v, .bool true good, .int .i64 true (ar .add .i64 i 1), .top, .top, .top, .top, .top, .top, .top, .top, .top, .int .i64 true i, .int .i64 true n, .bool true (cmp .lss i n), .int .i64 true i, .int .i64 true (ar .add .i64 i 1), .isl 0 0 false 0 [] true, .isl 0 1 true lw ws false, .int .i64 true i, .eptr [.bool true w], .bool true w, .isl 1 1 true lv vs false, .int .i64 true i, .eptr [.int .i64 true v], .int .i64 true v, .int .i64 true i, .int .i64 true (ar .mul .i64 3 i), .int .i64 true i, .int .i64 true (ar .mul .i64 3 i), .int .i64 true (ar .add .i64 (ar .mul .i64 3 i) 2), .agg [.bool true w, .int .i64 true v, .int .i64 true (ar .mul .i64 3 i), .int .i64 true (ar .add .i64 (ar .mul .i64 3 i) 2)], .osl [15, 1] 0 4 false 1, .osl [16, 1] 0 4 false 1, .isl 0 1 true lw ws false, .int .i64 true i, .eptr [.bool true w], .bool true w, .isl 1 1 true lv vs false, .int .i64 true i, .eptr [.int .i64 true v], .int .i64 true v, .top, .top, .top, .top, .top, .top, .top, .top, .top, .top, .top, .top, .top, .top, .top, .top, .top, .top, .top, .top, .top, .top, .top, .top, .top, .top, .top, .top, .top, .top, .top, .top, .top, .top, .top, .top, .top, .top, .top, .top, .top, .top, .top, .top, .top, .top, .top, .top], H := { es := [([16, 1], .row [.bool true w, .int .i64 true v, .int .i64 true (ar .mul .i64 3 i), .int .i64 true (ar .add .i64 (ar .mul .i64 3 i) 2)] false 0), ([15, 1], .row [.bool true w, .int .i64 true v, .int .i64 true (ar .mul .i64 3 i), .int .i64 true (ar .add .i64 (ar .mul .i64 3 i) 2)] false 0)], log := [] }, c := 5, marks := [] }, [.bit (cmp .lss i n) true, .elem ws i (.bool true w), .elem vs i (.int .i64 true v), .elem ws i (.bool true w), .bit w true, .elem vs i (.int .i64 true v)]) := by kernel_rfl
theorem rRw0_1 (inR : Bool) (ws vs : List VV) (lw lv n now i v : Int) (up good w : Bool) : outC (evCode cx0 (ev cx0 60) 3 [] inR (bodyAt f3 0) (Rw_S ws vs lw lv up n none now good i) [.bit true, .val (.bool true w), .val (.int .i64 true v), .val (.bool true w), .bit false, .val (.int .i64 true v)]) =
    some (.nrm, { ts := [.isl 0 1 true lw ws false, .isl 1 1 true lv vs false, .top, .top, .top, .bool true up, .int .i64 true n, .osl [16, 1] 0 4 false 1, .int .i64 true now, .bool true (bi good (cmp .eql v now) false), .int .i64 true (ar .add .i64 i 1), .top, .top, .top, .top, .top, .top, .top, .top, .top, .int .i64 true i, .int .i64 true n, .bool true (cmp .lss i n), .int .i64 true i, .int .i64 true (ar .add .i64 i 1), .isl 0 0 false 0 [] true, .isl 0 1 true lw ws false, .int .i64 true i, .eptr [.bool true w], .bool true w, .isl 1 1 true lv vs false, .int .i64 true i, .eptr [.int .i64 true v], .int .i64 true v, .int .i64 true i, .int .i64 true (ar .mul .i64 3 i), .int .i64 true i, .int .i64 true (ar .mul .i64 3 i), .int .i64 true (ar .add .i64 (ar .mul .i64 3 i) 2), .agg [.bool true w, .int .i64 true v, .int .i64 true (ar .mul .i64 3 i), .int .i64 true (ar .add .i64 (ar .mul .i64 3 i) 2)], .osl [15, 1] 0 4 false 1, .osl [16, 1] 0 4 false 1, .isl 0 1 true lw ws false, .int .i64 true i, .eptr [.bool true w], .bool true w, .top, .top, .top, .top, .bool true good, .bool true good, .may [(1, true)] (good == true) (.isl 1 1 true lv vs false), .may [(1, true)] (good == true) (.int .i64 true i), .may [(1, true)] (good == true) (.eptr [.int .i64 true v]), .may [(1, true)] (good == true) (.int .i64 true v), .may [(1, true)] (good == true) (.int .i64 true now), .may [(1, true)] (good == true) (.bool true (cmp .eql v now)), .bool true (bi good (cmp .eql v now) false), .top, .top, .top, .top, .top, .top, .top, .top, .top, .top, .top, .top, .top, .top, .top, .top, .top, .top, .top, .top, .top, .top, .top, .top, .top, .top, .top, .top, .top, .top, .top, .top, .top, .top, .top, .top, .top, .top, .top], H := { es := [([16, 1], .row [.bool true w, .int .i64 true v, .int .i64 true (ar .mul .i64 3 i), .int .i64 true (ar .add .i64 (ar .mul .i64 3 i) 2)] false 0), ([15, 1], .row [.bool true w, .int .i64 true v, .int .i64 true (ar .mul .i64 3 i), .int .i64 true (ar .add .i64 (ar .mul .i64 3 i) 2)] false 0)], log := [] }, c := 5, marks := [] }, [.bit (cmp .lss i n) true, .elem ws i (.bool true w), .elem vs i (.int .i64 true v), .elem ws i (.bool true w), .bit w false, .elem vs i (.int .i64 true v)]) := by kernel_rfl
theorem rRw0_2 (inR : Bool) (ws vs : List VV) (lw lv n now i v : Int) (up good w : Bool) : outC (evCode cx0 (ev cx0 60) 3 [] inR (bodyAt f3 0) (Rw_S ws vs lw lv up n none now good i) [.bit false]) =
    some (.exit 0, { ts := [.isl 0 1 true lw ws false, .isl 1 1 true lv vs false, .top, .top, .top, .bool true up, .int .i64 true n, .isl 0 0 false 0 [] true, .int .i64 true now, .bool true good, .int .i64 true i, .top, .top, .top, .top, .top, .top, .top, .top, .top, .int .i64 true i, .int .i64 true n, .bool true (cmp .lss i n), .top, .top, .top, .top, .top, .top, .top, .top, .top, .top, .top, .top, .top, .top, .top, .top, .top, .top, .top, .top, .top, .top, .top, .top, .top, .top, .top, .top, .top, .top, .top, .top, .top, .top, .top, .top, .top, .top, .top, .top, .top, .top, .top, .top, .top, .top, .top, .top, .top, .top, .top, .top, .top, .top, .top, .top, .top, .top, .top, .top, .top, .top, .top, .top, .top, .top, .top, .top, .top, .top, .top, .top, .top, .top, .top], H := { es := [], log := [] }, c := 1, marks := [] }, [.bit (cmp .lss i n) false]) := by kernel_rfl
theorem rRw1_0 (inR : Bool) (ws vs ou : List VV) (lw lv n ol now i v : Int) (up good w : Bool) : outC (evCode cx0 (ev cx0 60) 3 [] inR (bodyAt f3 0) (Rw_S ws vs lw lv up n (some (ou, ol)) now good i) [.bit true, .val (.bool true w), .val (.int .i64 true v), .val (.bool true w), .bit true, .val (.int .i64 true v)]) =
    some (.nrm, { ts := [.isl 0 1 true lw ws false, .isl 1 1 true lv vs false, .top, .top, .top, .bool true up, .int .i64 true n, .osl [16, 1] 0 4 true (pls ol 1), .int .i64 true v, .bool true good, .int .i64 true (ar .add .i64 i 1), .top, .top, .top, .top, .top, .top, .top, .top, .top, .int .i64 true i, .int .i64 true n, .bool true (cmp .lss i n), .int .i64 true i, .int .i64 true (ar .add .i64 i 1), .osl [1] 0 4 true ol, .isl 0 1 true lw ws false, .int .i64 true i, .eptr [.bool true w], .bool true w, .isl 1 1 true lv vs false, .int .i64 true i, .eptr [.int .i64 true v], .int .i64 true v, .int .i64 true i, .int .i64 true (ar .mul .i64 3 i), .int .i64 true i, .int .i64 true (ar .mul .i64 3 i), .int .i64 true (ar .add .i64 (ar .mul .i64 3 i) 2), .agg [.bool true w, .int .i64 true v, .int .i64 true (ar .mul .i64 3 i), .int .i64 true (ar .add .i64 (ar .mul .i64 3 i) 2)], .osl [15, 1] 0 4 false 1, .osl [16, 1] 0 4 true (pls ol 1), .isl 0 1 true lw ws false, .int .i64 true i, .eptr [.bool true w], .bool true w, .isl 1 1 true lv vs false, .int .i64 true i, .eptr [.int .i64 true v], .int .i64 true v, .top, .top, .top, .top, .top, .top, .top, .top, .top, .top, .top, .top, .top, .top, .top, .top, .top, .top, .top, .top, .top, .top, .top, .top, .top, .top, .top, .top, .top, .top, .top, .top, .top, .top, .top, .top, .top, .top, .top, .top, .top, .top, .top, .top, .top, .top, .top, .top], H := { es := [([16, 1], .row (ou ++ [.bool true w, .int .i64 true v, .int .i64 true (ar .mul .i64 3 i), .int .i64 true (ar .add .i64 (ar .mul .i64 3 i) 2)]) true 0), ([15, 1], .row [.bool true w, .int .i64 true v, .int .i64 true (ar .mul .i64 3 i), .int .i64 true (ar .add .i64 (ar .mul .i64 3 i) 2)] false 0), ([1], .dead)], log := [[1]] }, c := 5, marks := [] }, [.bit (cmp .lss i n) true, .elem ws i (.bool true w), .elem vs i (.int .i64 true v), .bit (cmp .geq ol 0) true, .bit (cmp .leq ol 1048576) true, .idx (lin ol 4 0) (ou.length), .elem ws i (.bool true w), .bit w true, .elem vs i (.int .i64 true v)]) := by kernel_rfl
theorem rRw1_1 (inR : Bool) (ws vs ou : List VV) (lw lv n ol now i v : Int) (up good w : Bool) : outC (evCode cx0 (ev cx0 60) 3 [] inR (bodyAt f3 0) (Rw_S ws vs lw lv up n (some (ou, ol)) now good i) [.bit true, .val (.bool true w), .val (.int .i64 true v), .val (.bool true w), .bit false, .val (.int .i64 true v)]) =
    some (.nrm, { ts := [.isl 0 1 true lw ws false, .isl 1 1 true lv vs false, .top, .top, .top, .bool true up, .int .i64 true n, .osl [16, 1] 0 4 true (pls ol 1), .int .i64 true now, .bool true (bi good (cmp .eql v now) false), .int .i64 true (ar .add .i64 i 1), .top, .top, .top, .top, .top, .top, .top, .top, .top, .int .i64 true i, .int .i64 true n, .bool true (cmp .lss i n), .int .i64 true i, .int .i64 true (ar .add .i64 i 1), .osl [1] 0 4 true ol, .isl 0 1 true lw ws false, .int .i64 true i, .eptr [.bool true w], .bool true w, .isl 1 1 true lv vs false, .int .i64 true i, .eptr [.int .i64 true v], .int .i64 true v, .int .i64 true i, .int .i64 true (ar .mul .i64 3 i), .int .i64 true i, .int .i64 true (ar .mul .i64 3 i), .int .i64 true (ar .add .i64 (ar .mul .i64 3 i) 2), .agg [.bool true w, .int .i64 true v, .int .i64 true (ar .mul .i64 3 i), .int .i64 true (ar .add .i64 (ar .mul .i64 3 i) 2)], .osl [15, 1] 0 4 false 1, .osl [16, 1] 0 4 true (pls ol 1), .isl 0 1 true lw ws false, .int .i64 true i, .eptr [.bool true w], .bool true w, .top, .top, .top, .top, .bool true good, .bool true good, .may [(1, true)] (good == true) (.isl 1 1 true lv vs false), .may [(1, true)] (good == true) (.int .i64 true i), .may [(1, true)] (good == true) (.eptr [.int .i64 true v]), .may [(1, true)] (good == true) (.int .i64 true v), .may [(1, true)] (good == true) (.int .i64 true now), .may [(1, true)] (good == true) (.bool true (cmp .eql v now)), .bool true (bi good (cmp .eql v now) false), .top, .top, .top, .top, .top, .top, .top, .top, .top, .top, .top, .top, .top, .top, .top, .top, .top, .top, .top, .top, .top, .top, .top, .top, .top, .top, .top, .top, .top, .top, .top, .top, .top, .top, .top, .top, .top, .top, .top], H := { es := [([16, 1], .row (ou ++ [.bool true w, .int .i64 true v, .int .i64 true (ar .mul .i64 3 i), .int .i64 true (ar .add .i64 (ar .mul .i64 3 i) 2)]) true 0), ([15, 1], .row [.bool true w, .int .i64 true v, .int .i64 true (ar .mul .i64 3 i), .int .i64 true (ar .add .i64 (ar .mul .i64 3 i) 2)] false 0), ([1], .dead)], log := [[1]] }, c := 5, marks := [] }, [.bit (cmp .lss i n) true, .elem ws i (.bool true w), .elem vs i (.int .i64 true v), .bit (cmp .geq ol 0) true, .bit (cmp .leq ol 1048576) true, .idx (lin ol 4 0) (ou.length), .elem ws i (.bool true w), .bit w false, .elem vs i (.int .i64 true v)]) := by kernel_rfl
theorem rRw1_2 (inR : Bool) (ws vs ou : List VV) (lw lv n ol now i v : Int) (up good w : Bool) : outC (evCode cx0 (ev cx0 60) 3 [] inR (bodyAt f3 0) (Rw_S ws vs lw lv up n (some (ou, ol)) now good i) [.bit false]) =
    some (.exit 0, { ts := [.isl 0 1 true lw ws false, .isl 1 1 true lv vs false, .top, .top, .top, .bool true up, .int .i64 true n, .osl [1] 0 4 true ol, .int .i64 true now, .bool true good, .int .i64 true i, .top, .top, .top, .top, .top, .top, .top, .top, .top, .int .i64 true i, .int .i64 true n, .bool true (cmp .lss i n), .top, .top, .top, .top, .top, .top, .top, .top, .top, .top, .top, .top, .top, .top, .top, .top, .top, .top, .top, .top, .top, .top, .top, .top, .top, .top, .top, .top, .top, .top, .top, .top, .top, .top, .top, .top, .top, .top, .top, .top, .top, .top, .top, .top, .top, .top, .top, .top, .top, .top, .top, .top, .top, .top, .top, .top, .top, .top, .top, .top, .top, .top, .top, .top, .top, .top, .top, .top, .top, .top, .top, .top, .top, .top, .top], H := { es := [([1], .row ou true 0)], log := [] }, c := 1, marks := [] }, [.bit (cmp .lss i n) false]) := by kernel_rfl

theorem Rw_code : Rw.code = .loop (bodyAt f3 0) := by kernel_rfl
theorem Rw_form : LForm Rw where
  pat st i ns h hp := by
    simp only [Rw] at h
    split at h
    · rename_i h1 h2 h3 h4 h5 h6 h7 h8 h9 h10
      split at h
      · rename_i hz
        subst hz
        simp only [Option.some.injEq, Prod.mk.injEq] at h
        obtain ⟨rfl, rfl⟩ := h
        obtain ⟨w, v, k, m, he, hv, _⟩ := hp
        dsimp only at he hv
        refine ⟨stSim_of (Nat.eq_of_beq_eq_true h1) h10 rfl (fun p hp => ?_) trivial, h10, rfl⟩
        simp only [List.mem_cons, List.not_mem_nil, or_false] at hp
        rcases hp with rfl | rfl | rfl | rfl | rfl | rfl | rfl | rfl
        · rw [h2]; exact .isl _ _ _ _ _ _ _ _ (by rw [he]; exact argL_bools w)
        · rw [h3]; exact .isl _ _ _ _ _ _ _ _ (by rw [hv]; exact argL_nums v)
        · rw [h4]; exact .bool _ _ _
        · rw [h5]; exact .int _ _ _ _
        · rw [h6]; exact .arg _ rfl
        · rw [h7]; exact .int _ _ _ _
        · rw [h8]; exact .bool _ _ _
        · rw [h9]; exact .int _ _ _ _
      · cases h
    · cases h
  K i n hn := by cases hn
  S i p hp := by
    simp only [Rw, Rw_S, stOf] at hp
    split at hp
    · cases hp
    · simp only [List.mem_singleton] at hp
      subst hp; trivial
  T i hp := by
    cases h : Rw.q i with
    | true => exact ⟨rfl, (fun _ h => by cases h), rfl, (fun _ h => by cases h), rfl⟩
    | false =>
      refine ⟨rfl, fun p hp => ?_, rfl, (fun _ h => by cases h), rfl⟩
      simp only [Rw, stOf, List.mem_singleton] at hp
      subst hp
      exact argL_cellsA _
theorem rest_cons {w : List Bool} {v : List Int} {k m : Nat} (hk : k < m) (hw : m ≤ w.length) (hv : m ≤ v.length) :
    ((w.zip v).take m).drop k = (w[k], v[k]) :: ((w.zip v).take m).drop (k + 1) := by
  have hl : k < ((w.zip v).take m).length := by simp [List.length_take, List.length_zip]; omega
  rw [List.drop_eq_getElem_cons hl]
  congr 1
  rw [List.getElem_take, List.getElem_zip]
theorem Rw_ok : HookOk Try.prog Rw.hook := by
  refine Rw.ok Rw_form (loopOk_of Rw cx0_ok Rw_code 3 [] (fun p => (p.n - p.i).toNat) (fun _ n hn => by cases hn) fun inR p hp => ?_) (scopeOk_loop Rw Rw_code)
  obtain ⟨ws, vs, lw, lv, up, n, o, now, good, i⟩ := p
  obtain ⟨w, v, k, m, hws, hvs, hn, hmw, hmv, hm7, hi, hkm, ho⟩ := hp
  dsimp only at hws hvs hn hi ho
  subst hws hvs hn hi
  have hR : ∀ (o : Option (List VV × Int)) (now : Int) (good : Bool) (j : Nat), restS ⟨w.map boolV, v.map numV, lw, lv, up, (m : Int), o, now, good, (j : Int)⟩ = ((w.zip v).take m).drop j := fun o now good j => by
    simp only [restS, decB_map, decN_map, Int.toNat_natCast]
  have hW : ∀ (o : Option (List VV × Int)) (now : Int) (good : Bool) (j : Nat), rwS ⟨w.map boolV, v.map numV, lw, lv, up, (m : Int), o, now, good, (j : Int)⟩ = (match o with | none => [] | some q => decF q.1) ++ rowOf j (((w.zip v).take m).drop j) := fun o now good j => by
    unfold rwS; rw [hR]; simp only [Int.toNat_natCast]
  have hG : ∀ (o : Option (List VV × Int)) (now : Int) (good : Bool) (j : Nat), gdS ⟨w.map boolV, v.map numV, lw, lv, up, (m : Int), o, now, good, (j : Int)⟩ = (good && goodFrom now (((w.zip v).take m).drop j)) := fun o now good j => by
    unfold gdS; rw [hR]
  by_cases hlt : k < m
  · have hkw : k < w.length := by omega
    have hkv : k < v.length := by omega
    have hxw : w[k]? = some w[k] := List.getElem?_eq_getElem hkw
    have hxv : v[k]? = some v[k] := List.getElem?_eq_getElem hkv
    have hcons := rest_cons hlt hmw hmv
    have helw : Ob.holds (.elem (w.map boolV) (k : Int) (boolV w[k])) := ⟨by omega, by rw [Int.toNat_natCast, List.getElem?_map, hxw]; rfl⟩
    have helv : Ob.holds (.elem (v.map numV) (k : Int) (numV v[k])) := ⟨by omega, by rw [Int.toNat_natCast, List.getElem?_map, hxv]; rfl⟩
    have hls : cmp .lss (k : Int) (m : Int) = true := by rw [cmp_lss]; exact decide_eq_true (by omega)
    have hadd : ar .add .i64 (k : Int) 1 = ((k + 1 : Nat) : Int) := by rw [ar_add (by omega) (by omega)]; omega
    have hmul : ar .mul .i64 3 (k : Int) = 3 * (k : Int) := by rw [ar_mul (by omega) (by omega)]
    have hmul2 : ar .add .i64 (3 * (k : Int)) 2 = 3 * (k : Int) + 2 := by rw [ar_add (by omega) (by omega)]
    have hmu : ((m : Int) - ((k + 1 : Nat) : Int)).toNat < ((m : Int) - (k : Int)).toNat := by omega
    let x : Ac := ⟨w[k], v[k], 3 * (k : Int), 3 * (k : Int) + 2⟩
    have hrow : rowOf k (((w.zip v).take m).drop k) = x :: rowOf (k + 1) (((w.zip v).take m).drop (k + 1)) := by rw [hcons]; rfl
    have hgood : ∀ now, goodFrom now (((w.zip v).take m).drop k) = ((w[k] || decide (v[k] = now)) && goodFrom (if w[k] then v[k] else now) (((w.zip v).take m).drop (k + 1))) := fun now => by rw [hcons, goodFrom_cons]
    cases hwk : w[k] with
    | true =>
      rw [hwk] at helw
      have hx : x = ⟨true, v[k], 3 * (k : Int), 3 * (k : Int) + 2⟩ := by simp only [x, hwk]
      have hgd : (good && goodFrom v[k] (((w.zip v).take m).drop (k + 1))) = (good && goodFrom now (((w.zip v).take m).drop k)) := by
        rw [hgood, hwk]
        simp
      cases o with
      | none =>
        have e1 : rwS ⟨w.map boolV, v.map numV, lw, lv, up, (m : Int), (some (cellsA [x], 1)), v[k], good, ((k + 1 : Nat) : Int)⟩ = rwS ⟨w.map boolV, v.map numV, lw, lv, up, (m : Int), none, now, good, (k : Int)⟩ := by
          rw [hW, hW, hrow]
          simp only [decF_cells, List.append_assoc]
          rfl
        have e2 : gdS ⟨w.map boolV, v.map numV, lw, lv, up, (m : Int), (some (cellsA [x], 1)), v[k], good, ((k + 1 : Nat) : Int)⟩ = gdS ⟨w.map boolV, v.map numV, lw, lv, up, (m : Int), none, now, good, (k : Int)⟩ := by rw [hG, hG, hgd]
        refine ⟨60, _, _, lookN [([1], [16, 1])], has_outC (rRw0_0 inR (w.map boolV) (v.map numV) lw lv m now k v[k] up good true) ⟨hls, helw, helv, helw, rfl, helv, trivial⟩, (fun _ hn => by cases hn), .inl ⟨rfl, ⟨w.map boolV, v.map numV, lw, lv, up, (m : Int), (some (cellsA [x], 1)), v[k], good, ((k + 1 : Nat) : Int)⟩, ⟨w, v, k + 1, m, rfl, rfl, rfl, hmw, hmv, hm7, rfl, by omega, [x], rfl, rfl, by simp⟩, hmu, ?_, rfl, ?_⟩⟩
        · refine stSim_of rfl rfl rfl (fun p hp => ?_) ⟨rfl, ⟨_, rfl, sim_row (by rw [hx]; simp only [cellsA, hmul, hmul2]) rfl⟩, trivial⟩
          simp only [List.mem_cons, List.not_mem_nil, or_false] at hp
          rcases hp with rfl | rfl | rfl | rfl | rfl | rfl | rfl | rfl
          · exact .isl _ _ _ _ _ _ _ _ (argL_bools w)
          · exact .isl _ _ _ _ _ _ _ _ (argL_nums v)
          · exact .bool _ _ _
          · exact .int _ _ _ _
          · exact sim_osl rfl rfl
          · exact .int _ _ _ _
          · exact .bool _ _ _
          · exact sim_int hadd
        · have hq1 : Rw.q ⟨w.map boolV, v.map numV, lw, lv, up, (m : Int), (some (cellsA [x], 1)), v[k], good, ((k + 1 : Nat) : Int)⟩ = false := rfl
          have hq2 : Rw.q ⟨w.map boolV, v.map numV, lw, lv, up, (m : Int), none, now, good, (k : Int)⟩ = false := by simp only [Rw, hW, hrow]; rfl
          rw [hq1, hq2]
          simp only [Rw, e1, e2]

      | some q =>
        obtain ⟨ou, ol⟩ := q
        obtain ⟨g, hg1, hg2, hg3⟩ := ho
        dsimp only at hg1 hg2
        subst hg1 hg2
        have h1 : cmp .geq (g.length : Int) 0 = true := by rw [cmp_geq]; exact decide_eq_true (by omega)
        have h2 : cmp .leq (g.length : Int) 1048576 = true := by rw [cmp_leq]; exact decide_eq_true (by omega)
        have h3 : lin (g.length : Int) 4 0 = (((cellsA g).length : Nat) : Int) := by rw [cellsA_length]; unfold lin; omega
        have e1 : rwS ⟨w.map boolV, v.map numV, lw, lv, up, (m : Int), (some (cellsA (g ++ [x]), ((g ++ [x]).length : Int))), v[k], good, ((k + 1 : Nat) : Int)⟩ = rwS ⟨w.map boolV, v.map numV, lw, lv, up, (m : Int), (some (cellsA g, (g.length : Int))), now, good, (k : Int)⟩ := by
          rw [hW, hW, hrow]
          simp only [decF_cells, List.append_assoc]
          rfl
        have e2 : gdS ⟨w.map boolV, v.map numV, lw, lv, up, (m : Int), (some (cellsA (g ++ [x]), ((g ++ [x]).length : Int))), v[k], good, ((k + 1 : Nat) : Int)⟩ = gdS ⟨w.map boolV, v.map numV, lw, lv, up, (m : Int), (some (cellsA g, (g.length : Int))), now, good, (k : Int)⟩ := by rw [hG, hG, hgd]
        refine ⟨60, _, _, lookN [([1], [16, 1])], has_outC (rRw1_0 inR (w.map boolV) (v.map numV) (cellsA g) lw lv m g.length now k v[k] up good true) ⟨hls, helw, helv, h1, h2, h3, helw, rfl, helv, trivial⟩, (fun _ hn => by cases hn), .inl ⟨rfl, ⟨w.map boolV, v.map numV, lw, lv, up, (m : Int), (some (cellsA (g ++ [x]), ((g ++ [x]).length : Int))), v[k], good, ((k + 1 : Nat) : Int)⟩, ⟨w, v, k + 1, m, rfl, rfl, rfl, hmw, hmv, hm7, rfl, by omega, g ++ [x], rfl, rfl, by simp; omega⟩, hmu, ?_, rfl, ?_⟩⟩
        · refine stSim_of rfl rfl rfl (fun p hp => ?_) ⟨rfl, ⟨_, rfl, sim_row (by rw [cellsA_append, hx]; simp only [cellsA, hmul, hmul2]) (argL_append _ _ (argL_cellsA g) rfl)⟩, trivial⟩
          simp only [List.mem_cons, List.not_mem_nil, or_false] at hp
          rcases hp with rfl | rfl | rfl | rfl | rfl | rfl | rfl | rfl
          · exact .isl _ _ _ _ _ _ _ _ (argL_bools w)
          · exact .isl _ _ _ _ _ _ _ _ (argL_nums v)
          · exact .bool _ _ _
          · exact .int _ _ _ _
          · exact sim_osl rfl (by unfold pls; simp)
          · exact .int _ _ _ _
          · exact .bool _ _ _
          · exact sim_int hadd
        · have hq1 : Rw.q ⟨w.map boolV, v.map numV, lw, lv, up, (m : Int), (some (cellsA (g ++ [x]), ((g ++ [x]).length : Int))), v[k], good, ((k + 1 : Nat) : Int)⟩ = false := rfl
          have hq2 : Rw.q ⟨w.map boolV, v.map numV, lw, lv, up, (m : Int), (some (cellsA g, (g.length : Int))), now, good, (k : Int)⟩ = false := by rfl
          rw [hq1, hq2]
          simp only [Rw, e1, e2]

    | false =>
      rw [hwk] at helw
      have hx : x = ⟨false, v[k], 3 * (k : Int), 3 * (k : Int) + 2⟩ := by simp only [x, hwk]
      have hgd : ((bi good (cmp .eql v[k] now) false) && goodFrom now (((w.zip v).take m).drop (k + 1))) = (good && goodFrom now (((w.zip v).take m).drop k)) := by
        rw [hgood, hwk]
        rw [bi_and, cmp_eql]; cases good <;> simp
      cases o with
      | none =>
        have e1 : rwS ⟨w.map boolV, v.map numV, lw, lv, up, (m : Int), (some (cellsA [x], 1)), now, (bi good (cmp .eql v[k] now) false), ((k + 1 : Nat) : Int)⟩ = rwS ⟨w.map boolV, v.map numV, lw, lv, up, (m : Int), none, now, good, (k : Int)⟩ := by
          rw [hW, hW, hrow]
          simp only [decF_cells, List.append_assoc]
          rfl
        have e2 : gdS ⟨w.map boolV, v.map numV, lw, lv, up, (m : Int), (some (cellsA [x], 1)), now, (bi good (cmp .eql v[k] now) false), ((k + 1 : Nat) : Int)⟩ = gdS ⟨w.map boolV, v.map numV, lw, lv, up, (m : Int), none, now, good, (k : Int)⟩ := by rw [hG, hG, hgd]
        refine ⟨60, _, _, lookN [([1], [16, 1])], has_outC (rRw0_1 inR (w.map boolV) (v.map numV) lw lv m now k v[k] up good false) ⟨hls, helw, helv, helw, rfl, helv, trivial⟩, (fun _ hn => by cases hn), .inl ⟨rfl, ⟨w.map boolV, v.map numV, lw, lv, up, (m : Int), (some (cellsA [x], 1)), now, (bi good (cmp .eql v[k] now) false), ((k + 1 : Nat) : Int)⟩, ⟨w, v, k + 1, m, rfl, rfl, rfl, hmw, hmv, hm7, rfl, by omega, [x], rfl, rfl, by simp⟩, hmu, ?_, rfl, ?_⟩⟩
        · refine stSim_of rfl rfl rfl (fun p hp => ?_) ⟨rfl, ⟨_, rfl, sim_row (by rw [hx]; simp only [cellsA, hmul, hmul2]) rfl⟩, trivial⟩
          simp only [List.mem_cons, List.not_mem_nil, or_false] at hp
          rcases hp with rfl | rfl | rfl | rfl | rfl | rfl | rfl | rfl
          · exact .isl _ _ _ _ _ _ _ _ (argL_bools w)
          · exact .isl _ _ _ _ _ _ _ _ (argL_nums v)
          · exact .bool _ _ _
          · exact .int _ _ _ _
          · exact sim_osl rfl rfl
          · exact .int _ _ _ _
          · exact .bool _ _ _
          · exact sim_int hadd
        · have hq1 : Rw.q ⟨w.map boolV, v.map numV, lw, lv, up, (m : Int), (some (cellsA [x], 1)), now, (bi good (cmp .eql v[k] now) false), ((k + 1 : Nat) : Int)⟩ = false := rfl
          have hq2 : Rw.q ⟨w.map boolV, v.map numV, lw, lv, up, (m : Int), none, now, good, (k : Int)⟩ = false := by simp only [Rw, hW, hrow]; rfl
          rw [hq1, hq2]
          simp only [Rw, e1, e2]

      | some q =>
        obtain ⟨ou, ol⟩ := q
        obtain ⟨g, hg1, hg2, hg3⟩ := ho
        dsimp only at hg1 hg2
        subst hg1 hg2
        have h1 : cmp .geq (g.length : Int) 0 = true := by rw [cmp_geq]; exact decide_eq_true (by omega)
        have h2 : cmp .leq (g.length : Int) 1048576 = true := by rw [cmp_leq]; exact decide_eq_true (by omega)
        have h3 : lin (g.length : Int) 4 0 = (((cellsA g).length : Nat) : Int) := by rw [cellsA_length]; unfold lin; omega
        have e1 : rwS ⟨w.map boolV, v.map numV, lw, lv, up, (m : Int), (some (cellsA (g ++ [x]), ((g ++ [x]).length : Int))), now, (bi good (cmp .eql v[k] now) false), ((k + 1 : Nat) : Int)⟩ = rwS ⟨w.map boolV, v.map numV, lw, lv, up, (m : Int), (some (cellsA g, (g.length : Int))), now, good, (k : Int)⟩ := by
          rw [hW, hW, hrow]
          simp only [decF_cells, List.append_assoc]
          rfl
        have e2 : gdS ⟨w.map boolV, v.map numV, lw, lv, up, (m : Int), (some (cellsA (g ++ [x]), ((g ++ [x]).length : Int))), now, (bi good (cmp .eql v[k] now) false), ((k + 1 : Nat) : Int)⟩ = gdS ⟨w.map boolV, v.map numV, lw, lv, up, (m : Int), (some (cellsA g, (g.length : Int))), now, good, (k : Int)⟩ := by rw [hG, hG, hgd]
        refine ⟨60, _, _, lookN [([1], [16, 1])], has_outC (rRw1_1 inR (w.map boolV) (v.map numV) (cellsA g) lw lv m g.length now k v[k] up good false) ⟨hls, helw, helv, h1, h2, h3, helw, rfl, helv, trivial⟩, (fun _ hn => by cases hn), .inl ⟨rfl, ⟨w.map boolV, v.map numV, lw, lv, up, (m : Int), (some (cellsA (g ++ [x]), ((g ++ [x]).length : Int))), now, (bi good (cmp .eql v[k] now) false), ((k + 1 : Nat) : Int)⟩, ⟨w, v, k + 1, m, rfl, rfl, rfl, hmw, hmv, hm7, rfl, by omega, g ++ [x], rfl, rfl, by simp; omega⟩, hmu, ?_, rfl, ?_⟩⟩
        · refine stSim_of rfl rfl rfl (fun p hp => ?_) ⟨rfl, ⟨_, rfl, sim_row (by rw [cellsA_append, hx]; simp only [cellsA, hmul, hmul2]) (argL_append _ _ (argL_cellsA g) rfl)⟩, trivial⟩
          simp only [List.mem_cons, List.not_mem_nil, or_false] at hp
          rcases hp with rfl | rfl | rfl | rfl | rfl | rfl | rfl | rfl
          · exact .isl _ _ _ _ _ _ _ _ (argL_bools w)
          · exact .isl _ _ _ _ _ _ _ _ (argL_nums v)
          · exact .bool _ _ _
          · exact .int _ _ _ _
          · exact sim_osl rfl (by unfold pls; simp)
          · exact .int _ _ _ _
          · exact .bool _ _ _
          · exact sim_int hadd
        · have hq1 : Rw.q ⟨w.map boolV, v.map numV, lw, lv, up, (m : Int), (some (cellsA (g ++ [x]), ((g ++ [x]).length : Int))), now, (bi good (cmp .eql v[k] now) false), ((k + 1 : Nat) : Int)⟩ = false := rfl
          have hq2 : Rw.q ⟨w.map boolV, v.map numV, lw, lv, up, (m : Int), (some (cellsA g, (g.length : Int))), now, good, (k : Int)⟩ = false := by rfl
          rw [hq1, hq2]
          simp only [Rw, e1, e2]


  · have hkl : k = m := by omega
    subst hkl
    have hls : cmp .lss (k : Int) (k : Int) = false := by rw [cmp_lss]; exact decide_eq_false (by omega)
    have hnil : ((w.zip v).take k).drop k = [] := List.drop_eq_nil_of_le (by simp [List.length_take]; omega)
    cases o with
    | none =>
      have hq : Rw.q ⟨w.map boolV, v.map numV, lw, lv, up, (k : Int), none, now, good, (k : Int)⟩ = true := by simp only [Rw, hW, hnil]; rfl
      refine ⟨60, _, _, lookN [], has_outC (rRw0_2 inR (w.map boolV) (v.map numV) lw lv k now k 0 up good true) ⟨hls, trivial⟩, (fun _ hn => by cases hn), .inr ⟨by simp, rfl, ?_⟩⟩
      rw [hq]
      refine stSim_of rfl rfl rfl (fun p hp => ?_) trivial
      simp only [List.mem_cons, List.not_mem_nil, or_false] at hp
      rcases hp with rfl | rfl | rfl | rfl
      · exact .bool _ _ _
      · exact .int _ _ _ _
      · exact sim_bool (by rw [hG, hnil]; simp [goodFrom])
      · exact .arg _ rfl
    | some q =>
      obtain ⟨ou, ol⟩ := q
      obtain ⟨g, hg1, hg2, hg3⟩ := ho
      dsimp only at hg1 hg2
      subst hg1 hg2
      have hq : Rw.q ⟨w.map boolV, v.map numV, lw, lv, up, (k : Int), some (cellsA g, (g.length : Int)), now, good, (k : Int)⟩ = false := rfl
      have hw : rwS ⟨w.map boolV, v.map numV, lw, lv, up, (k : Int), some (cellsA g, (g.length : Int)), now, good, (k : Int)⟩ = g := by rw [hW, hnil]; simp [decF_cells, rowOf]
      refine ⟨60, _, _, lookN [([1], [1])], has_outC (rRw1_2 inR (w.map boolV) (v.map numV) (cellsA g) lw lv k g.length now k 0 up good true) ⟨hls, trivial⟩, (fun _ hn => by cases hn), .inr ⟨by simp, rfl, ?_⟩⟩
      rw [hq]
      refine stSim_of rfl rfl rfl (fun p hp => ?_) ⟨rfl, ⟨_, rfl, sim_row (by rw [hw]) (argL_cellsA g)⟩, trivial⟩
      simp only [List.mem_cons, List.not_mem_nil, or_false] at hp
      rcases hp with rfl | rfl | rfl | rfl
      · exact .bool _ _ _
      · exact .int _ _ _ _
      · exact sim_bool (by rw [hG, hnil]; simp [goodFrom])
      · exact sim_osl rfl (by rw [hw])

structure CkI where
  os : List VV
  n : Int
  lo : Int
  i : Int
  up : Bool
  good : Bool
  ok : Bool
def Ck_S (os : List VV) (n lo i : Int) (up good ok : Bool) : St Int Bool := stOf 98 [(5, .bool true up), (6, .int .i64 true n), (9, .bool true good), (11, .isl 0 1 true lo os false), (12, .bool true ok), (13, .int .i64 true i)] []
noncomputable def Ck : LSpec CkI where
  code := loopAt f3 1
  K := []
  pre p := ∃ (l : List Nat) (k : Nat), p.os = l.map natV ∧ p.lo = (l.length : Int) ∧ p.i = (k : Int) ∧ (p.ok = true → ∃ m : Nat, m ≤ 7 ∧ l = List.range' 0 m ∧ p.n = (m : Int) ∧ k ≤ m)
  two := false
  q _ := true
  S p := Ck_S p.os p.n p.lo p.i p.up p.good p.ok
  T p _ := stOf 98 [(5, .bool true p.up), (9, .bool true p.good), (11, .isl 0 1 true p.lo p.os false), (12, .bool true p.ok)] []
  E _ _ := .exit 2
  pat st := match Nat.beq st.ts.length 98, getT st.ts 5, getT st.ts 6, getT st.ts 9, getT st.ts 11, getT st.ts 12, getT st.ts 13, st.marks with
    | true, .bool _ up, .int .i64 _ n, .bool _ good, .isl _ 1 _ lo os _, .bool _ ok, .int .i64 _ i, [] => some (⟨os, n, lo, i, up, good, ok⟩, [])
    | _, _, _, _, _, _, _, _ => none
theorem rCk_0 (inR : Bool) (os : List VV) (n lo i v : Int) (up good ok : Bool) : outC (evCode cx0 (ev cx0 60) 3 [] inR (bodyAt f3 1) (Ck_S os n lo i up good ok) [.bit true, .val (.int .i64 true v), .bit true]) =
    some (.ret, { ts := [.top, .top, .top, .top, .bool false false, .bool true up, .int .i64 true n, .top, .top, .bool true good, .top, .isl 0 1 true lo os false, .bool true ok, .int .i64 true i, .top, .top, .top, .top, .top, .top, .top, .top, .top, .top, .top, .top, .top, .top, .top, .top, .top, .top, .top, .top, .top, .top, .top, .top, .top, .top, .top, .top, .top, .top, .top, .top, .top, .top, .top, .top, .top, .top, .top, .top, .top, .top, .top, .top, .top, .top, .top, .top, .top, .top, .bool true ok, .bool true ok, .top, .top, .top, .bool true (bi ok (cmp .lss i n) false), .top, .top, .int .i64 true i, .isl 0 1 true lo os false, .int .i64 true lo, .bool true (cmp .geq i lo), .bool true (cmp .geq i lo), .may [(4, false)] ((cmp .geq i lo) == false) (.isl 0 1 true lo os false), .may [(4, false)] ((cmp .geq i lo) == false) (.int .i64 true i), .may [(4, false)] ((cmp .geq i lo) == false) (.eptr [.int .i64 true v]), .may [(4, false)] ((cmp .geq i lo) == false) (.int .i64 true v), .may [(4, false)] ((cmp .geq i lo) == false) (.int .i64 true i), .may [(4, false)] ((cmp .geq i lo) == false) (.bool true (cmp .neq v i)), .bool true (bi (cmp .geq i lo) true (cmp .neq v i)), .top, .top, .top, .top, .top, .top, .top, .top, .top, .top, .top, .top, .top, .top], H := { es := [], log := [] }, c := 3, marks := [] }, [.bit (bi ok (cmp .lss i n) false) true, .elem os i (.int .i64 true v), .bit (bi (cmp .geq i lo) true (cmp .neq v i)) true]) := by kernel_rfl
theorem rCk_1 (inR : Bool) (os : List VV) (n lo i v : Int) (up good ok : Bool) : outC (evCode cx0 (ev cx0 60) 3 [] inR (bodyAt f3 1) (Ck_S os n lo i up good ok) [.bit true, .val (.int .i64 true v), .bit false]) =
    some (.nrm, { ts := [.top, .top, .top, .top, .top, .bool true up, .int .i64 true n, .top, .top, .bool true good, .top, .isl 0 1 true lo os false, .bool true ok, .int .i64 true (ar .add .i64 i 1), .top, .top, .top, .top, .top, .top, .top, .top, .top, .top, .top, .top, .top, .top, .top, .top, .top, .top, .top, .top, .top, .top, .top, .top, .top, .top, .top, .top, .top, .top, .top, .top, .top, .top, .top, .top, .top, .top, .top, .top, .top, .top, .top, .top, .top, .top, .top, .top, .top, .top, .bool true ok, .bool true ok, .top, .top, .top, .bool true (bi ok (cmp .lss i n) false), .int .i64 true i, .int .i64 true (ar .add .i64 i 1), .int .i64 true i, .isl 0 1 true lo os false, .int .i64 true lo, .bool true (cmp .geq i lo), .bool true (cmp .geq i lo), .may [(4, false)] ((cmp .geq i lo) == false) (.isl 0 1 true lo os false), .may [(4, false)] ((cmp .geq i lo) == false) (.int .i64 true i), .may [(4, false)] ((cmp .geq i lo) == false) (.eptr [.int .i64 true v]), .may [(4, false)] ((cmp .geq i lo) == false) (.int .i64 true v), .may [(4, false)] ((cmp .geq i lo) == false) (.int .i64 true i), .may [(4, false)] ((cmp .geq i lo) == false) (.bool true (cmp .neq v i)), .bool true (bi (cmp .geq i lo) true (cmp .neq v i)), .top, .top, .top, .top, .top, .top, .top, .top, .top, .top, .top, .top, .top, .top], H := { es := [], log := [] }, c := 3, marks := [] }, [.bit (bi ok (cmp .lss i n) false) true, .elem os i (.int .i64 true v), .bit (bi (cmp .geq i lo) true (cmp .neq v i)) false]) := by kernel_rfl
theorem rCk_2 (inR : Bool) (os : List VV) (n lo i v : Int) (up good ok : Bool) : outC (evCode cx0 (ev cx0 60) 3 [] inR (bodyAt f3 1) (Ck_S os n lo i up good ok) [.bit false]) =
    some (.exit 2, { ts := [.top, .top, .top, .top, .top, .bool true up, .int .i64 true n, .top, .top, .bool true good, .top, .isl 0 1 true lo os false, .bool true ok, .int .i64 true i, .top, .top, .top, .top, .top, .top, .top, .top, .top, .top, .top, .top, .top, .top, .top, .top, .top, .top, .top, .top, .top, .top, .top, .top, .top, .top, .top, .top, .top, .top, .top, .top, .top, .top, .top, .top, .top, .top, .top, .top, .top, .top, .top, .top, .top, .top, .top, .top, .top, .top, .bool true ok, .bool true ok, .may [(1, true)] (ok == true) (.int .i64 true i), .may [(1, true)] (ok == true) (.int .i64 true n), .may [(1, true)] (ok == true) (.bool true (cmp .lss i n)), .bool true (bi ok (cmp .lss i n) false), .top, .top, .top, .top, .top, .top, .top, .top, .top, .top, .top, .top, .top, .top, .top, .top, .top, .top, .top, .top, .top, .top, .top, .top, .top, .top, .top, .top], H := { es := [], log := [] }, c := 1, marks := [] }, [.bit (bi ok (cmp .lss i n) false) false]) := by kernel_rfl

theorem wfL_all {d : Nm → Bool} : ∀ (l : List VV), (∀ v, v ∈ l → wfV d v = true) → wfL d l = true
  | [], _ => rfl
  | v :: l, h => by
    simp only [wfL, Bool.and_eq_true]
    exact ⟨h v (List.mem_cons_self ..), wfL_all l fun x hx => h x (List.mem_cons_of_mem _ hx)⟩
theorem wf_tsOf {d : Nm → Bool} {n : Nat} {l : List (Nat × VV)} (h : ∀ p, p ∈ l → wfV d p.2 = true) : wfL d (tsOf n l) = true := by
  refine wfL_all _ fun v hv => ?_
  simp only [tsOf, List.mem_map] at hv
  obtain ⟨j, _, rfl⟩ := hv
  cases hf : l.find? (fun p => Nat.beq p.1 j) with
  | none => rfl
  | some q => exact h q (List.mem_of_find?_eq_some hf)
theorem Ck_code : Ck.code = .loop (bodyAt f3 1) := by kernel_rfl
theorem Ck_form : LForm Ck where
  pat st i ns h hp := by
    simp only [Ck] at h
    split at h
    · rename_i h1 h2 h3 h4 h5 h6 h7 h8
      simp only [Option.some.injEq, Prod.mk.injEq] at h
      obtain ⟨rfl, rfl⟩ := h
      obtain ⟨l, k, he, _⟩ := hp
      dsimp only at he
      refine ⟨stSim_of (Nat.eq_of_beq_eq_true h1) h8 rfl (fun p hp => ?_) trivial, h8, rfl⟩
      simp only [List.mem_cons, List.not_mem_nil, or_false] at hp
      rcases hp with rfl | rfl | rfl | rfl | rfl | rfl
      · rw [h2]; exact .bool _ _ _
      · rw [h3]; exact .int _ _ _ _
      · rw [h4]; exact .bool _ _ _
      · rw [h5]; exact .isl _ _ _ _ _ _ _ _ (by rw [he]; exact argL_nats l)
      · rw [h6]; exact .bool _ _ _
      · rw [h7]; exact .int _ _ _ _
    · cases h
  K i n hn := by cases hn
  S i p hp := by cases hp
  T i hp := by
    obtain ⟨l, k, he, _⟩ := hp
    refine ⟨?_, (fun _ h => by cases h), rfl, (fun _ h => by cases h), rfl⟩
    have : argL i.os = true := by rw [he]; exact argL_nats l
    exact wf_tsOf fun p hp => by
      simp only [List.mem_cons, List.not_mem_nil, or_false] at hp
      rcases hp with rfl | rfl | rfl | rfl
      · rfl
      · rfl
      · exact this
      · rfl
theorem Ck_ok : HookOk Try.prog Ck.hook := by
  refine Ck.ok Ck_form (loopOk_of Ck cx0_ok Ck_code 3 [] (fun p => (p.n - p.i).toNat) (fun _ n hn => by cases hn) fun inR p hp => ?_) (scopeOk_loop Ck Ck_code)
  obtain ⟨os, n, lo, i, up, good, ok⟩ := p
  obtain ⟨l, k, he, hl, hi, hok⟩ := hp
  dsimp only at he hl hi hok
  subst he hl hi
  cases hc : (bi ok (cmp .lss (k : Int) n) false) with
  | true =>
    rw [bi_and, Bool.and_eq_true, cmp_lss, decide_eq_true_eq] at hc
    obtain ⟨hok1, hlt⟩ := hc
    obtain ⟨m, hm, rfl, rfl, hkm⟩ := hok hok1
    have hx : (List.range' 0 m)[k]? = some k := by rw [List.getElem?_range' (by omega)]; simp
    have hel : Ob.holds (.elem ((List.range' 0 m).map natV) (k : Int) (natV k)) := ⟨by omega, by rw [Int.toNat_natCast, List.getElem?_map, hx]; rfl⟩
    have hc1 : (bi ok (cmp .lss (k : Int) (m : Int)) false) = true := by rw [bi_and, hok1, cmp_lss, decide_eq_true hlt]; rfl
    have hc2 : (bi (cmp .geq (k : Int) ((List.range' 0 m).length : Int)) true (cmp .neq (k : Int) (k : Int))) = false := by
      rw [bi_or, cmp_geq, cmp_neq, Bool.or_eq_false_iff]
      exact ⟨decide_eq_false (by simp; omega), decide_eq_false (by simp)⟩
    refine ⟨60, _, _, lookN [], has_outC (rCk_1 inR ((List.range' 0 m).map natV) m (List.range' 0 m).length k k up good ok) ⟨hc1, hel, hc2, trivial⟩, (fun _ hn => by cases hn), .inl ⟨rfl, ⟨(List.range' 0 m).map natV, m, (List.range' 0 m).length, ((k + 1 : Nat) : Int), up, good, ok⟩, ⟨List.range' 0 m, k + 1, rfl, rfl, rfl, fun _ => ⟨m, hm, rfl, rfl, by omega⟩⟩, by dsimp only; omega, ?_, rfl, rfl⟩⟩
    refine stSim_of rfl rfl rfl (fun p hp => ?_) trivial
    simp only [List.mem_cons, List.not_mem_nil, or_false] at hp
    rcases hp with rfl | rfl | rfl | rfl | rfl | rfl
    · exact .bool _ _ _
    · exact .int _ _ _ _
    · exact .bool _ _ _
    · exact .isl _ _ _ _ _ _ _ _ (argL_nats _)
    · exact .bool _ _ _
    · exact sim_int (by rw [ar_add (by omega) (by omega)]; omega)
  | false =>
    refine ⟨60, _, _, lookN [], has_outC (rCk_2 inR (l.map natV) n l.length k 0 up good ok) ⟨hc, trivial⟩, (fun _ hn => by cases hn), .inr ⟨by simp, rfl, ?_⟩⟩
    refine stSim_of rfl rfl rfl (fun p hp => ?_) trivial
    simp only [List.mem_cons, List.not_mem_nil, or_false] at hp
    rcases hp with rfl | rfl | rfl | rfl
    · exact .bool _ _ _
    · exact .bool _ _ _
    · exact .isl _ _ _ _ _ _ _ _ (argL_nats l)
    · exact .bool _ _ _
/-- Order's contract, no acts at all among what it takes. -/
def OrdN (args : List VV) (u : VV) : Prop := OrdE args u ∨ (args = [nilL] ∧ u = ordV (orderS []))
theorem Order_relN : RelOk Try.prog 7 OrdN := by
  intro args u M w argv hr hm ha
  rcases hr with hr | ⟨rfl, rfl⟩
  · exact Order_relE args u M w argv hr hm ha
  · refine Order_relE [.isl 0 4 true 0 [] false] _ M w argv ⟨[], rfl, by decide, rfl⟩ hm ?_
    refine ⟨ha.1, fun i c v hc hv => ?_⟩
    cases i with
    | zero =>
      simp only [List.getElem?_cons_zero, Option.some.injEq] at hc
      subst hc
      have h1 := ha.2 0 nilL v rfl hv
      cases h1 with
      | islNil _ _ _ _ _ hn => exact .islNil _ _ _ _ _ rfl
      | isl _ _ _ _ _ _ b o c vs hn hc h0 hsz hm hh => exact .isl 0 4 true 0 [] false b o c vs hn hc (by simp) (by simp) (by simp [flat]) (by simp [flat])
    | succ i => simp at hc
noncomputable abbrev cxW : Cx Int Bool := cxR Try.prog [(6, liftRel AwR), (7, liftRel OrdN)] [Rw.hook, Ck.hook]
theorem cxW_ok : CxOk cxW := cxR_ok tryOk (fun p hp => by
  simp only [List.mem_cons, List.not_mem_nil, or_false] at hp
  rcases hp with rfl | rfl
  · exact relRun_ok Awake_rel
  · exact relRun_ok Order_relN) (fun k hk => by
  simp only [List.mem_cons, List.not_mem_nil, or_false] at hk
  rcases hk with rfl | rfl
  · exact Rw_ok
  · exact Ck_ok)
theorem cRl_0 (ws vs : List VV) (lw lv : Int) (h : List Ac) : outR ((ev cxW 60).call [] 3 [.isl 0 1 true lw ws false, .isl 1 1 true lv vs false] { es := [], log := [] } [.val (.bool true true), .hook 0, .bit true, .val (.tup [.isl 0 1 true (((orderS h).getD []).length : Int) (((orderS h).getD []).map natV) false, .bool true (orderS h).isSome]), .hook 1]) =
    some (.bool true (bi (bi true ((orderS h).isSome == (gdS (RwI.mk ws vs lw lv true (mn (mn lw lv) 7) none 0 true 0))) false) (bi (orderS h).isSome true (cmp .eql (((orderS h).getD []).length : Int) 0)) false), { es := [], log := [] }, [.prop (AwR [] (.bool true true) ∧ argV (.bool true true : VV) = true), .prop (loopAt f3 0 = loopAt f3 0), .prop (Rw.pre (RwI.mk ws vs lw lv true (mn (mn lw lv) 7) none 0 true 0)), .bit (Rw.q (RwI.mk ws vs lw lv true (mn (mn lw lv) 7) none 0 true 0)) true, .prop (argV (V.isl 0 0 false 0 [] true : VV) = true), .prop (OrdN [.isl 0 0 false 0 [] true] (.tup [.isl 0 1 true (((orderS h).getD []).length : Int) (((orderS h).getD []).map natV) false, .bool true (orderS h).isSome]) ∧ argV (V.tup [.isl 0 1 true (((orderS h).getD []).length : Int) (((orderS h).getD []).map natV) false, .bool true (orderS h).isSome] : VV) = true), .prop (loopAt f3 1 = loopAt f3 1), .prop (Ck.pre (CkI.mk (((orderS h).getD []).map natV) (mn (mn lw lv) 7) (((orderS h).getD []).length : Int) 0 true (gdS (RwI.mk ws vs lw lv true (mn (mn lw lv) 7) none 0 true 0)) (orderS h).isSome))]) := by kernel_rfl
theorem cRl_1 (ws vs : List VV) (lw lv : Int) (h : List Ac) : outR ((ev cxW 60).call [] 3 [.isl 0 1 true lw ws false, .isl 1 1 true lv vs false] { es := [], log := [] } [.val (.bool true true), .hook 0, .bit false, .row (h.map actV), .val (.tup [.isl 0 1 true (((orderS h).getD []).length : Int) (((orderS h).getD []).map natV) false, .bool true (orderS h).isSome]), .hook 1]) =
    some (.bool true (bi (bi true ((orderS h).isSome == (gdS (RwI.mk ws vs lw lv true (mn (mn lw lv) 7) none 0 true 0))) false) (bi (orderS h).isSome true (cmp .eql (((orderS h).getD []).length : Int) 0)) false), { es := [([1, 77, 7], .dead)], log := [[1, 77, 7]] }, [.prop (AwR [] (.bool true true) ∧ argV (.bool true true : VV) = true), .prop (loopAt f3 0 = loopAt f3 0), .prop (Rw.pre (RwI.mk ws vs lw lv true (mn (mn lw lv) 7) none 0 true 0)), .bit (Rw.q (RwI.mk ws vs lw lv true (mn (mn lw lv) 7) none 0 true 0)) false, .prop (RowIs (cellsA (rwS (RwI.mk ws vs lw lv true (mn (mn lw lv) 7) none 0 true 0))) 0 4 ((rwS (RwI.mk ws vs lw lv true (mn (mn lw lv) 7) none 0 true 0)).length : Int) (h.map actV)), .prop (OrdN [.isl 0 4 true ((rwS (RwI.mk ws vs lw lv true (mn (mn lw lv) 7) none 0 true 0)).length : Int) (h.map actV) false] (.tup [.isl 0 1 true (((orderS h).getD []).length : Int) (((orderS h).getD []).map natV) false, .bool true (orderS h).isSome]) ∧ argV (V.tup [.isl 0 1 true (((orderS h).getD []).length : Int) (((orderS h).getD []).map natV) false, .bool true (orderS h).isSome] : VV) = true), .prop (loopAt f3 1 = loopAt f3 1), .prop (Ck.pre (CkI.mk (((orderS h).getD []).map natV) (mn (mn lw lv) 7) (((orderS h).getD []).length : Int) 0 true (gdS (RwI.mk ws vs lw lv true (mn (mn lw lv) 7) none 0 true 0)) (orderS h).isSome))]) := by kernel_rfl

def RowR (args : List VV) (u : VV) : Prop := ∃ (w : List Bool) (v : List Int), args = [.isl 0 1 true (w.length : Int) (w.map boolV) false, .isl 1 1 true (v.length : Int) (v.map numV) false] ∧ u = .bool true true
theorem Row_rel : RelOk Try.prog 3 RowR := by
  refine relOk_cx (cx := cxW) cxW_ok fun args u hr => ?_
  obtain ⟨w, v, rfl, rfl⟩ := hr
  obtain ⟨m, hm⟩ : ∃ m : Nat, mn (mn (w.length : Int) (v.length : Int)) 7 = (m : Int) ∧ m ≤ w.length ∧ m ≤ v.length ∧ m ≤ 7 := ⟨min (min w.length v.length) 7, by rw [mn_eq, mn_eq]; omega, by omega, by omega, by omega⟩
  obtain ⟨hm, hmw, hmv, hm7⟩ := hm
  let l : List (Bool × Int) := (w.zip v).take m
  have hll : l.length = m := by simp only [l, List.length_take, List.length_zip]; omega
  let p : RwI := RwI.mk (w.map boolV) (v.map numV) w.length v.length true (mn (mn (w.length : Int) (v.length : Int)) 7) none 0 true 0
  have hR : restS p = l := by
    simp only [restS, p, decB_map, decN_map, hm, Int.toNat_natCast, Int.toNat_zero, List.drop_zero]
    rfl
  have hW : rwS p = rowOf 0 l := by unfold rwS; rw [hR]; rfl
  have hG : gdS p = goodFrom 0 l := by unfold gdS; rw [hR]; rfl
  have hpre : Rw.pre p := ⟨w, v, 0, m, rfl, rfl, hm, hmw, hmv, hm7, rfl, Nat.zero_le _, trivial⟩
  have hord : orderS (rowOf 0 l) = if goodFrom 0 l then some (List.range' 0 m) else none := by rw [order_row (by omega), hll]
  have hsome : (orderS (rowOf 0 l)).isSome = goodFrom 0 l := by rw [hord]; cases goodFrom 0 l <;> rfl
  have hck : Ck.pre (CkI.mk (((orderS (rowOf 0 l)).getD []).map natV) (mn (mn (w.length : Int) (v.length : Int)) 7) (((orderS (rowOf 0 l)).getD []).length : Int) 0 true (gdS p) (orderS (rowOf 0 l)).isSome) := by
    refine ⟨_, 0, rfl, rfl, rfl, fun hok => ⟨m, hm7, ?_, hm, Nat.zero_le _⟩⟩
    dsimp only at hok
    rw [hord, if_pos (by rw [← hsome]; exact hok)]; rfl
  have hres : bi (bi true ((orderS (rowOf 0 l)).isSome == gdS p) false) (bi (orderS (rowOf 0 l)).isSome true (cmp .eql (((orderS (rowOf 0 l)).getD []).length : Int) 0)) false = true := by
    rw [hG, hsome, hord]
    cases goodFrom 0 l <;> rfl
  cases hq : Rw.q p with
  | true =>
    have hl0 : rowOf 0 l = [] := by
      have : (rwS p).isEmpty = true := hq
      rw [hW] at this
      simpa using this
    have hoN : OrdN [.isl 0 0 false 0 [] true] (ordV (orderS (rowOf 0 l))) := .inr ⟨rfl, by rw [hl0]⟩
    refine ⟨60, _, _, has_outR (cRl_0 (w.map boolV) (v.map numV) w.length v.length (rowOf 0 l)) ⟨⟨⟨rfl, rfl⟩, rfl⟩, rfl, hpre, hq, rfl, ⟨hoN, orderV_arg _⟩, rfl, hck, trivial⟩, ?_⟩
    exact ViewR.bool _ _ _ |> fun h => by rw [show (bi (bi true ((orderS (rowOf 0 l)).isSome == gdS p) false) (bi (orderS (rowOf 0 l)).isSome true (cmp .eql (((orderS (rowOf 0 l)).getD []).length : Int) 0)) false) = true from hres]; exact h
  | false =>
    refine ⟨60, _, _, has_outR (cRl_1 (w.map boolV) (v.map numV) w.length v.length (rowOf 0 l)) ⟨⟨⟨rfl, rfl⟩, rfl⟩, rfl, hpre, hq, rowIs_acts (by show cellsA (rwS p) = _; rw [hW]) (by show ((rwS p).length : Int) = _; rw [hW]), ?_, rfl, hck, trivial⟩, ?_⟩
    · obtain ⟨h1, h2⟩ := ordE_mk (h := rowOf 0 l) (es := (rowOf 0 l).map actV) (len := ((rwS p).length : Int)) (erase_acts _) (by rw [hW]) (by rw [rowOf_length, hll]; omega)
      exact ⟨.inl h1, h2⟩
    · exact ViewR.bool _ _ _ |> fun h => by rw [show (bi (bi true ((orderS (rowOf 0 l)).isSome == gdS p) false) (bi (orderS (rowOf 0 l)).isSome true (cmp .eql (((orderS (rowOf 0 l)).getD []).length : Int) 0)) false) = true from hres]; exact h
#print axioms Row_rel
end Go.Sx
