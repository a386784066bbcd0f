/- The executor's numbers as Lean's own; what it may come to ('Has'). Conditions: none. -/
import Derived.Test.YtajloilpehgcmaaSxEv
set_option linter.unusedVariables false
set_option linter.unusedSimpArgs false
set_option linter.unusedSectionVars false

namespace Go.Sx

def ar (op : BinOp) (k : IntKind) (x y : Int) : Int :=
  match op with
  | .add => k.wrap (x + y)
  | .sub => k.wrap (x - y)
  | .mul => k.wrap (x * y)
  | .quo => k.wrap (x.tdiv y)
  | .rem => x.tmod y
  | .and => k.wrap (BitVec.ofInt k.bits x &&& BitVec.ofInt k.bits y).toNat
  | .or => k.wrap (BitVec.ofInt k.bits x ||| BitVec.ofInt k.bits y).toNat
  | .xor => k.wrap (BitVec.ofInt k.bits x ^^^ BitVec.ofInt k.bits y).toNat
  | .andNot => k.wrap (BitVec.ofInt k.bits x &&& ~~~(BitVec.ofInt k.bits y)).toNat
  | _ => 0
def sh (op : BinOp) (k : IntKind) (x y : Int) : Int :=
  match op with
  | .shl => k.wrap (x * 2 ^ (min y.toNat k.bits))
  | _ => x.fdiv (2 ^ (min y.toNat k.bits))
def cv (k : IntKind) (x : Int) : Int := k.wrap x
def cmp (op : BinOp) (x y : Int) : Bool :=
  match op with
  | .eql => x == y
  | .neq => x != y
  | .lss => decide (x < y)
  | .leq => decide (x ≤ y)
  | .gtr => decide (x > y)
  | .geq => decide (x ≥ y)
  | _ => false
def mx (x y : Int) : Int := if y > x then y else x
def mn (x y : Int) : Int := if y < x then y else x
def ii (b : Bool) (x y : Int) : Int := bif b then x else y
def bi (b x y : Bool) : Bool := bif b then x else y
def pls (x y : Int) : Int := x + y
def mns (x y : Int) : Int := x - y
def lin (x : Int) (k c : Nat) : Int := x * k + c
def byt (bs : ByteArray) (i : Int) : Int := ((bs[i.toNat]?).map fun b => (b.toNat : Int)).getD 0

instance semAlg : Alg Int Bool where
  ilit n := n
  ival n := n
  blit b := b
  bval b := b
  ar := ar
  sh := sh
  cv := cv
  cmp := cmp
  mx := mx
  mn := mn
  ii := ii
  bn b := !b
  bi := bi
  be a b := a == b
  pls := pls
  mns := mns
  lin := lin
  byt := byt

abbrev VV := V Int Bool
abbrev HH := Heap Int Bool
abbrev EE := E Int Bool

@[simp] theorem alg_ilit (n : Int) : Alg.ilit (I := Int) Bool n = n := rfl
@[simp] theorem alg_ival (n : Int) : Alg.ival (I := Int) Bool n = n := rfl
@[simp] theorem alg_blit (b : Bool) : Alg.blit (B := Bool) Int b = b := rfl
@[simp] theorem alg_bval (b : Bool) : Alg.bval (B := Bool) Int b = b := rfl
@[simp] theorem alg_cmp (op : BinOp) (x y : Int) : (Alg.cmp op x y : Bool) = cmp op x y := rfl
@[simp] theorem alg_ar (op : BinOp) (k : IntKind) (x y : Int) : Alg.ar (I := Int) Bool op k x y = ar op k x y := rfl
@[simp] theorem alg_sh (op : BinOp) (k : IntKind) (x y : Int) : Alg.sh (I := Int) Bool op k x y = sh op k x y := rfl
@[simp] theorem alg_cv (k : IntKind) (x : Int) : Alg.cv (I := Int) Bool k x = cv k x := rfl
@[simp] theorem alg_bn (b : Bool) : Alg.bn (B := Bool) Int b = !b := rfl
@[simp] theorem alg_bi (b x y : Bool) : Alg.bi (B := Bool) Int b x y = bi b x y := rfl
@[simp] theorem alg_be (x y : Bool) : Alg.be (B := Bool) Int x y = (x == y) := rfl
@[simp] theorem alg_ii (b : Bool) (x y : Int) : Alg.ii b x y = ii b x y := rfl
@[simp] theorem alg_mx (x y : Int) : Alg.mx (I := Int) Bool x y = mx x y := rfl
@[simp] theorem alg_mn (x y : Int) : Alg.mn (I := Int) Bool x y = mn x y := rfl
@[simp] theorem alg_pls (x y : Int) : Alg.pls (I := Int) Bool x y = x + y := rfl
@[simp] theorem alg_mns (x y : Int) : Alg.mns (I := Int) Bool x y = x - y := rfl
@[simp] theorem alg_lin (x : Int) (k c : Nat) : Alg.lin (I := Int) Bool x k c = x * k + c := rfl
@[simp] theorem alg_byt (bs : ByteArray) (i : Int) : Alg.byt (I := Int) Bool bs i = byt bs i := rfl
@[simp] theorem nat0_eq (n : Nat) : (nat0 (B := Bool) n : Int) = n := rfl

/-- What is owed. -/
def Ob.holds : Ob Int Bool → Prop
  | .bit b o => b = o
  | .idx i k => i = (k : Int)
  | .elem es i v => 0 ≤ i ∧ es[i.toNat]? = some v
  | .rd cs off vs => 0 ≤ off ∧ (cs.drop off.toNat).take vs.length = vs
  | .wr cs off vs new => 0 ≤ off ∧ off.toNat + vs.length ≤ cs.length ∧ new = setCells cs off.toNat vs
  | .cells vs => vs.all oneCell = true
  | .prop p => p

/-- m may come to a, all that is owed being so. -/
def Has {α : Type} (m : EE α) (a : α) : Prop := ∃ os os' obs, m os = .ok a os' obs ∧ ∀ o ∈ obs, Ob.holds o

section
variable {α β : Type}
theorem has_ret {a b : α} : Has (E.ret a : EE α) b ↔ a = b := by
  constructor
  · rintro ⟨os, os', obs, h, _⟩
    simp only [E.ret, Res.ok.injEq] at h
    exact h.1
  · rintro rfl
    exact ⟨[], [], [], rfl, by simp⟩
theorem has_pure {a b : α} : Has (pure a : EE α) b ↔ a = b := has_ret
theorem has_fail {s : String} {a : α} : ¬ Has (E.fail s : EE α) a := by
  rintro ⟨os, os', obs, h, _⟩
  simp [E.fail] at h
theorem has_bind {m : EE α} {f : α → EE β} {b : β} (h : Has (m >>= f) b) : ∃ a, Has m a ∧ Has (f a) b := by
  obtain ⟨os, os', obs, h, ho⟩ := h
  change E.bind m f os = _ at h
  unfold E.bind at h
  cases hm : m os with
  | ok a os1 o1 =>
    rw [hm] at h
    dsimp only at h
    cases hf : f a os1 with
    | ok b' os2 o2 =>
      rw [hf] at h
      simp only [Res.ok.injEq] at h
      obtain ⟨rfl, rfl, rfl⟩ := h
      exact ⟨a, ⟨os, os1, o1, hm, fun o h => ho o (by simp [h])⟩, ⟨os1, os2, o2, hf, fun o h => ho o (by simp [h])⟩⟩
    | need r => rw [hf] at h; simp at h
    | fail s => rw [hf] at h; simp at h
  | need r => rw [hm] at h; simp at h
  | fail s => rw [hm] at h; simp at h
theorem has_opt {s : String} {o : Option α} {a : α} : Has (E.opt s o : EE α) a ↔ o = some a := by
  cases o with
  | none => simp [E.opt, has_fail]
  | some x => simp [E.opt, has_ret]
theorem has_ob {o : Ob Int Bool} {u : Unit} (h : Has (E.ob o : EE Unit) u) : o.holds := by
  obtain ⟨os, os', obs, h, ho⟩ := h
  simp only [E.ob, Res.ok.injEq] at h
  obtain ⟨-, -, rfl⟩ := h
  exact ho o (by simp)
theorem has_orcBit {b w : Bool} (h : Has (orcBit b : EE Bool) w) : b = w := by
  obtain ⟨os, os', obs, h, ho⟩ := h
  unfold orcBit at h
  split at h
  · simp only [Res.ok.injEq] at h
    obtain ⟨rfl, rfl, rfl⟩ := h
    exact ho (.bit _ _) (List.mem_singleton.2 rfl)
  · cases h
theorem has_orcIdx {i : Int} {n k : Nat} (h : Has (orcIdx i n : EE Nat) k) : i = (k : Int) ∧ k < n := by
  obtain ⟨os, os', obs, h, ho⟩ := h
  unfold orcIdx at h
  split at h
  · split at h
    · simp only [Res.ok.injEq] at h
      obtain ⟨rfl, rfl, rfl⟩ := h
      exact ⟨ho (.idx _ _) (List.mem_singleton.2 rfl), by assumption⟩
    · cases h
  · cases h
theorem has_way {s b w : Bool} (h : Has (way s b : EE Bool) w) : b = w := by
  unfold way at h
  split at h
  · exact has_orcBit h
  · exact has_ret.1 h
theorem has_must {s b : Bool} {u : Unit} (h : Has (must s b : EE Unit) u) : b = true := by
  unfold must at h
  split at h
  · exact has_ob h
  · split at h
    · assumption
    · exact absurd h has_fail
theorem knownNat_some {s : Bool} {n : Int} {k : Nat} (h : knownNat (B := Bool) s n = some k) : n = (k : Int) := by
  unfold knownNat at h
  split at h
  · cases h
  · simp only [alg_ival] at h
    split at h
    · cases h
    · simp only [Option.some.injEq] at h
      omega
theorem has_which {s : Bool} {i : Int} {n k : Nat} (h : Has (which s i n : EE Nat) k) : i = (k : Int) ∧ k < n := by
  unfold which at h
  split at h
  · exact has_orcIdx h
  · split at h
    · rename_i k' hk
      split at h
      · have := has_ret.1 h
        subst this
        exact ⟨knownNat_some hk, by assumption⟩
      · exact absurd h has_fail
    · exact absurd h has_fail
theorem has_hooked {cx : Cx Int Bool} {px : Nm} {c : Code} {st : St Int Bool} {m : EE (Ex × St Int Bool)} {r : Ex × St Int Bool} (h : Has (hooked cx px c st m) r) :
    Has m r ∨ ∃ k, k ∈ cx.hooks ∧ c = k.code ∧ Has (k.run px st) r := by
  obtain ⟨os, os', obs, h, ho⟩ := h
  unfold hooked at h
  split at h
  · rename_i k os1
    split at h
    · rename_i q hq
      obtain ⟨_, h1, h2⟩ := has_bind (m := E.ob (.prop (c = q.code))) (f := fun _ => q.run px st) (b := r) ⟨os1, os', obs, h, ho⟩
      exact .inr ⟨q, List.mem_of_getElem? hq, has_ob h1, h2⟩
    · cases h
  · split at h
    · cases h
    · exact .inl ⟨_, os', obs, h, ho⟩
  · exact .inl ⟨_, os', obs, h, ho⟩
theorem has_if {c : Prop} [Decidable c] {m n : EE α} {a : α} (h : Has (if c then m else n) a) : (c ∧ Has m a) ∨ (¬ c ∧ Has n a) := by
  split at h
  · exact .inl ⟨by assumption, h⟩
  · exact .inr ⟨by assumption, h⟩
/-- A list, one by one. -/
theorem has_map {f : α → EE β} : ∀ {l : List α} {bs : List β}, Has (E.map f l) bs → l.length = bs.length ∧ ∀ (i : Nat) (a : α) (b : β), l[i]? = some a → bs[i]? = some b → Has (f a) b := by
  intro l
  induction l with
  | nil =>
    intro bs h
    have := has_ret.1 h
    subst this
    simp
  | cons x l ih =>
    intro bs h
    obtain ⟨b, hb, h⟩ := has_bind (m := f x) h
    obtain ⟨bs', hbs, h⟩ := has_bind (m := E.map f l) h
    have := has_ret.1 h
    subst this
    obtain ⟨hl, hi⟩ := ih hbs
    refine ⟨by simp [hl], fun i a c ha hc => ?_⟩
    cases i with
    | zero => simp only [List.getElem?_cons_zero, Option.some.injEq] at ha hc; subst ha hc; exact hb
    | succ i => simp only [List.getElem?_cons_succ] at ha hc; exact hi i a c ha hc
theorem has_optM {f : α → EE β} {o : Option α} {r : Option β} (h : Has (E.optM f o) r) : (o = none ∧ r = none) ∨ ∃ a b, o = some a ∧ r = some b ∧ Has (f a) b := by
  cases o with
  | none => exact .inl ⟨rfl, (has_ret.1 h).symm⟩
  | some x =>
    obtain ⟨b, hb, h⟩ := has_bind (m := f x) h
    exact .inr ⟨x, b, rfl, (has_ret.1 h).symm, hb⟩
end
end Go.Sx
