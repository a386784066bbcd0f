/- A symbolic executor for the model's code: plain definitions, run by the kernel. Conditions: none (definitions alone). -/
import GoSem.Core.Code
import GoSem.Core.Program
import GoSem.Machine.Frame
set_option linter.unusedVariables false
set_option linter.unusedSimpArgs false
set_option linter.unusedSectionVars false

namespace Go.Sx

/-- Names of memory that the executed code itself has laid. -/
abbrev Nm := List Nat

def nmEq : Nm → Nm → Bool
  | [], [] => true
  | a :: as, b :: bs => Nat.beq a b && nmEq as bs
  | _, _ => false

/-- Numbers and truth values, as they are or as texts. -/
class Alg (I B : Type) where
  ilit : Int → I
  ival : I → Int
  blit : Bool → B
  bval : B → Bool
  ar : BinOp → IntKind → I → I → I
  sh : BinOp → IntKind → I → I → I
  cv : IntKind → I → I
  cmp : BinOp → I → I → B
  mx : I → I → I
  mn : I → I → I
  ii : B → I → I → I
  bn : B → B
  bi : B → B → B → B
  be : B → B → B
  pls : I → I → I
  mns : I → I → I
  lin : I → Nat → Nat → I
  byt : ByteArray → I → I

section
variable (I B : Type)

inductive V : Type
  | int (k : IntKind) (s : Bool) (n : I)
  | bool (s : Bool) (b : B)
  | agg (cs : List V)
  | tup (vs : List V)
  | ptr (nm : Nm) (s : Bool) (off : I)
  | nil
  | osl (nm : Nm) (off sz : Nat) (s : Bool) (len : I)
  | isl (id sz : Nat) (s : Bool) (len : I) (es : List V) (c0 : Bool)
  | eptr (cs : List V)
  | fn (f : FuncId) (first cap : List V)
  | yld (nm : Nm)
  | nilfn
  | may (tg : List (Nat × Bool)) (g : B) (v : V)
  | undef
  | top
  | raw (v : Value)

inductive Ob : Type
  | bit (b : B) (o : Bool)
  | idx (i : I) (k : Nat)
  | elem (es : List (V I B)) (i : I) (v : V I B)
  | rd (cs : List (V I B)) (off : I) (vs : List (V I B))
  | wr (cs : List (V I B)) (off : I) (vs new : List (V I B))
  | cells (vs : List (V I B))
  | prop (p : Prop)

inductive Orc : Type
  | bit (b : Bool)
  | nat (k : Nat)
  | val (v : V I B)
  | row (cs : List (V I B))
  | hook (k : Nat)

inductive Req : Type
  | bit (b : B)
  | idx (i : I) (n : Nat)
  | elem (id : Nat) (i : I)
  | rd (id : Nat) (off : I) (z : Nat)
  | wr (id : Nat) (off : I) (vs : List (V I B))
  | loop (c : Code)

inductive Res (α : Type) : Type
  | ok (a : α) (os : List (Orc I B)) (obs : List (Ob I B))
  | need (r : Req I B)
  | fail (s : String)

def E (α : Type) : Type := List (Orc I B) → Res I B α

structure LoopR where
  fn : FuncId
  tmps : List (V I B)
  ps : List Tmp
  assign : Code
  body : Code
  st : LoopState
  pend : Option Code

inductive Ent : Type
  | row (cs : List (V I B)) (s : Bool) (id : Nat)
  | loop (l : LoopR I B)
  | dfr
  | dead

structure Heap where
  es : List (Nm × Ent I B)
  log : List Nm
end

section
variable {I B : Type}

namespace E
variable {α β : Type}
def ret (a : α) : E I B α := fun os => .ok a os []
def bind (m : E I B α) (f : α → E I B β) : E I B β := fun os =>
  match m os with
  | .ok a os' obs =>
    match f a os' with
    | .ok b os'' obs' => .ok b os'' (obs ++ obs')
    | .need r => .need r
    | .fail s => .fail s
  | .need r => .need r
  | .fail s => .fail s
def fail (s : String) : E I B α := fun _ => .fail s
def ob (o : Ob I B) : E I B Unit := fun os => .ok () os [o]
def opt (s : String) (o : Option α) : E I B α := match o with | some a => ret a | none => fail s
instance : Monad (E I B) where
  pure := ret
  bind := bind
/-- One by one. -/
def map (f : α → E I B β) : List α → E I B (List β)
  | [] => ret []
  | x :: l => bind (f x) fun b => bind (map f l) fun bs => ret (b :: bs)
def optM (f : α → E I B β) : Option α → E I B (Option β)
  | none => ret none
  | some x => bind (f x) fun b => ret (some b)
end E

def getEnt : List (Nm × Ent I B) → Nm → Option (Ent I B)
  | [], _ => none
  | (m, e) :: r, n => if nmEq m n then some e else getEnt r n
def Heap.get (H : Heap I B) (n : Nm) : Option (Ent I B) := getEnt H.es n
def setEnt : List (Nm × Ent I B) → Nm → Ent I B → List (Nm × Ent I B)
  | [], _, _ => []
  | (m, e) :: r, n, x => if nmEq m n then (m, x) :: r else (m, e) :: setEnt r n x
/-- Another entry for a name that is there. -/
def Heap.upd (H : Heap I B) (n : Nm) (x : Ent I B) : Heap I B := { es := setEnt H.es n x, log := n :: H.log }
/-- A new name. -/
def Heap.new (H : Heap I B) (n : Nm) (x : Ent I B) : Heap I B := { es := (n, x) :: H.es, log := H.log }
/-- A new name, if it is one. -/
def fresh (H : Heap I B) (n : Nm) (x : Ent I B) : E I B (Heap I B) :=
  match H.get n with
  | none => .ret (H.new n x)
  | some _ => .fail "name taken"
def liveRow (H : Heap I B) (n : Nm) : E I B (List (V I B) × Bool × Nat) :=
  match H.get n with
  | some (.row cs s id) => .ret (cs, s, id)
  | _ => .fail "no such row"

/-! ### types -/
structure Fld where
  off : Nat
  ty : TypeId
  blank : Bool
inductive TK where
  | int (k : IntKind) | bool | str (fs : List Fld) | arr (n : Nat) (e : TypeId) | slc (e : TypeId) | ptr (e : TypeId) | strg | oth
structure TyD where
  k : TK
  size : Nat
  bytes : Nat
  zero : Option (List Value)
def TyD.isAgg (d : TyD) : Bool := match d.k with | .str _ => true | .arr _ _ => true | _ => false
def tkOf : TypeDesc → TK
  | .int k => .int k
  | .bool => .bool
  | .struct fs => .str (fs.toList.map fun f => { off := f.offset, ty := f.type, blank := f.name == "_" })
  | .array n e => .arr n e
  | .slice e => .slc e
  | .pointer e => .ptr e
  | .string => .strg
  | _ => .oth
/-- What a type is, off the program's own table. -/
def tyd (P : Program) (t : TypeId) : Option TyD :=
  match P.info? t, P.underlying t with
  | some i, some u => some { k := tkOf u, size := i.size, bytes := i.bytes, zero := i.zero.map (·.cells.toList) }
  | _, _ => none

structure St (I B : Type) where
  ts : List (V I B)
  H : Heap I B
  c : Nat
  marks : List Nm
inductive Ex where
  | nrm | ret | exit (id : Nat) | goto (l : Nat)
/-- A loop (or a scope, at a place) whose outcome is known. -/
structure Hook (I B : Type) where
  code : Code
  run : Nm → St I B → E I B (Ex × St I B)
structure Cx (I B : Type) where
  P : Program
  tab : FuncId → Option (Nm → List (V I B) → Heap I B → E I B (V I B × Heap I B))
  hooks : List (Hook I B)
  ask : Code → Bool
def Cx.ty (cx : Cx I B) (t : TypeId) : Option TyD := tyd cx.P t

variable [Alg I B]

def bl (b : Bool) : V I B := .bool false (Alg.blit I b)
def il (k : IntKind) (n : Int) : V I B := .int k false (Alg.ilit B n)
def nat0 (n : Nat) : I := Alg.ilit B (n : Int)
/-- A number that is known, as a natural one. -/
def knownNat (s : Bool) (n : I) : Option Nat := if s then none else (let i := Alg.ival B n; if i < 0 then none else some i.toNat)

def constV : Value → Option (V I B)
  | .int k n => some (il k n)
  | .bool b => some (bl b)
  | .pointer none => some .nil
  | .slice none 0 0 => some (.isl 0 0 false (nat0 (B := B) 0) [] true)
  | .nilFunc => some .nilfn
  | .string s => some (.raw (.string s))
  | .nilIface => some (.raw .nilIface)
  | _ => none

def zeroV (v : Value) : V I B := (constV v).getD (.raw v)
def zeroCells (d : TyD) : Option (List (V I B)) := d.zero.map fun vs => vs.map zeroV

def cellsOf : V I B → List (V I B)
  | .agg cs => cs
  | v => [v]
def ofCells (isAgg : Bool) (cs : List (V I B)) : Option (V I B) :=
  if isAgg then some (.agg cs) else match cs with | [v] => some v | _ => none
def setCells {α : Type} : List α → Nat → List α → List α
  | cs, _, [] => cs
  | [], _, _ => []
  | _ :: cs, 0, v :: vs => v :: setCells cs 0 vs
  | c :: cs, k + 1, vs => c :: setCells cs k vs
def repl (cs : List (V I B)) : Nat → List (V I B)
  | 0 => []
  | n + 1 => cs ++ repl cs n

/-! ### oracles -/
def orcBit (b : B) : E I B Bool := fun os => match os with
  | .bit o :: os' => .ok o os' [.bit b o]
  | _ => .need (.bit b)
def orcIdx (i : I) (n : Nat) : E I B Nat := fun os => match os with
  | .nat k :: os' => if k < n then .ok k os' [.idx i k] else .fail "index"
  | _ => .need (.idx i n)
/-- Which way a truth value goes. -/
def way (s : Bool) (b : B) : E I B Bool :=
  if s then orcBit b else .ret (Alg.bval I b)
/-- A truth value that must hold. -/
def must (s : Bool) (b : B) : E I B Unit :=
  if s then .ob (.bit b true) else if Alg.bval I b then .ret () else .fail "must"
/-- Which number below n an index is. -/
def which (s : Bool) (i : I) (n : Nat) : E I B Nat :=
  if s then orcIdx i n
  else match knownNat (B := B) s i with
    | some k => if k < n then .ret k else .fail "index out of range"
    | none => .fail "index below 0"
def orcVal (r : Req I B) : E I B (V I B) := fun os => match os with
  | .val v :: os' => .ok v os' []
  | _ => .need r
def orcRow (r : Req I B) : E I B (List (V I B)) := fun os => match os with
  | .row v :: os' => .ok v os' []
  | _ => .need r

/-! ### memory -/
def readRow (d : TyD) (cs : List (V I B)) (rs : Bool) (id : Nat) (s : Bool) (off : I) : E I B (V I B) :=
  match rs, knownNat (B := B) s off with
  | false, some o =>
    let vs := (cs.drop o).take d.size
    if vs.length = d.size then E.opt "read" (ofCells d.isAgg vs) else .fail "read beyond the row"
  | _, _ => do
    let v ← orcVal (.rd id off d.size)
    if (cellsOf v).length = d.size then do
      E.ob (.rd cs off (cellsOf v))
      E.opt "read shape" (ofCells d.isAgg (cellsOf v))
    else .fail "oracle's size"
/-- A number whose kind of knowledge is forgotten: so it stands in a row that is open. -/
def opn : V I B → V I B
  | .int k _ n => .int k true n
  | .bool _ b => .bool true b
  | v => v
def writeRow (cs : List (V I B)) (rs : Bool) (id : Nat) (s : Bool) (off : I) (vs : List (V I B)) : E I B (List (V I B)) :=
  match rs, knownNat (B := B) s off with
  | false, some o => if o + vs.length ≤ cs.length then .ret (setCells cs o vs) else .fail "write beyond the row"
  | _, _ => do
    let new ← orcRow (.wr id off vs)
    E.ob (.wr cs off (vs.map opn) new)
    .ret new
def loadE (cx : Cx I B) (H : Heap I B) (t : TypeId) (p : V I B) : E I B (V I B) := do
  let d ← E.opt "type" (cx.ty t)
  match p with
  | .ptr nm s off => do
    let (cs, rs, id) ← liveRow H nm
    readRow d cs rs id s off
  | .eptr cs =>
    let vs := cs.take d.size
    if vs.length = d.size then E.opt "read" (ofCells d.isAgg vs) else .fail "read beyond the element"
  | _ => .fail "load: no address"
def storable (d : TyD) (v : V I B) : Option (List (V I B)) :=
  let cs := cellsOf v
  if cs.length = d.size then some cs else none
/-- What may stand in one cell. -/
def oneCell : V I B → Bool
  | .agg _ | .tup _ | .may _ _ _ | .undef | .top => false
  | .raw v => (match v with | .string _ | .nilIface | .iface _ _ => true | _ => false)
  | _ => true
def storeE (cx : Cx I B) (H : Heap I B) (t : TypeId) (p v : V I B) : E I B (Heap I B) := do
  let d ← E.opt "type" (cx.ty t)
  let vs ← E.opt "store: size" (storable d v)
  if vs.all oneCell then
    match p with
    | .ptr nm s off => do
      let (cs, rs, id) ← liveRow H nm
      let new ← writeRow cs rs id s off vs
      .ret (H.upd nm (.row new rs id))
    | _ => .fail "store: no address of our own"
  else .fail "store: no cell"

/-! ### operations -/
def arithB (op : BinOp) : Bool := match op with | .add | .sub | .mul | .and | .or | .xor | .andNot => true | _ => false
def cmpB (op : BinOp) : Bool := match op with | .eql | .neq | .lss | .leq | .gtr | .geq => true | _ => false

/-- Are two values of a type the same? A truth value, and whether it is known. -/
def eqV (cx : Cx I B) : Nat → TypeId → V I B → V I B → Option (Bool × B)
  | 0, _, _, _ => none
  | d + 1, t, x, y =>
    match cx.ty t with
    | none => none
    | some td =>
      match td.k, x, y with
      | .bool, .bool s a, .bool s' b => some (s || s', Alg.be I a b)
      | .int _, .int k s a, .int k' s' b => if k = k' then some (s || s', Alg.cmp .eql a b) else none
      | .str fs, .agg xs, .agg ys => if cx.P.stoodInHeld t then none else
        fs.foldr (fun f acc => if f.blank then acc else
          match cx.ty f.ty, acc with
          | some fd, some (sa, ba) =>
            match ofCells fd.isAgg ((xs.drop f.off).take fd.size), ofCells fd.isAgg ((ys.drop f.off).take fd.size) with
            | some a, some b =>
              (match eqV cx d f.ty a b with
               | some (s, e) => if s || sa then some (true, Alg.bi I e ba (Alg.blit I false)) else some (false, Alg.blit I (Alg.bval I e && Alg.bval I ba))
               | none => none)
            | _, _ => none
          | _, _ => none) (some (false, Alg.blit I true))
      | .arr n e, .agg xs, .agg ys =>
        match cx.ty e with
        | none => none
        | some ed =>
          (List.range n).foldr (fun i acc =>
            match acc with
            | some (sa, ba) =>
              match ofCells ed.isAgg ((xs.drop (i * ed.size)).take ed.size), ofCells ed.isAgg ((ys.drop (i * ed.size)).take ed.size) with
              | some a, some b =>
                (match eqV cx d e a b with
                 | some (s, r) => if s || sa then some (true, Alg.bi I r ba (Alg.blit I false)) else some (false, Alg.blit I (Alg.bval I r && Alg.bval I ba))
                 | none => none)
              | _, _ => none
            | none => none) (some (false, Alg.blit I true))
      | .ptr _, .nil, .nil => some (false, Alg.blit I true)
      | .ptr _, .ptr _ _ _, .nil => some (false, Alg.blit I false)
      | .ptr _, .nil, .ptr _ _ _ => some (false, Alg.blit I false)
      | _, _, _ => none

def isAggV : V I B → Bool | .agg _ => true | _ => false
def binE (cx : Cx I B) (op : BinOp) (t : TypeId) (x y : V I B) : E I B (V I B) :=
  match x, y with
  | .int k s a, .int k' s' b =>
    match op with
    | .shl | .shr => do
      must (s' || false) (Alg.cmp .geq b (Alg.ilit B 0))
      .ret (.int k (s || s') (Alg.sh B op k a b))
    | .quo | .rem =>
      if k = k' then do
        must s' (Alg.cmp .neq b (Alg.ilit B 0))
        .ret (.int k (s || s') (Alg.ar B op k a b))
      else .fail "binop: kinds"
    | _ =>
      if k = k' then
        if arithB op then .ret (.int k (s || s') (Alg.ar B op k a b))
        else if cmpB op then .ret (.bool (s || s') (Alg.cmp op a b))
        else .fail "binop: op"
      else .fail "binop: kinds"
  | x, y =>
    if isAggV x && cx.P.eqGuardType cx.P.depth t then .fail "==: type" else
    match op with
    | .eql => match eqV cx 40 t x y with | some (s, e) => .ret (.bool s e) | none => .fail "=="
    | .neq => match eqV cx 40 t x y with | some (s, e) => .ret (.bool s (Alg.bn I e)) | none => .fail "!="
    | _ => .fail "binop: operands"

def unE (op : UnOp) (x : V I B) : E I B (V I B) :=
  match op, x with
  | .neg, .int k s n => .ret (.int k s (Alg.ar B .sub k (Alg.ilit B 0) n))
  | .xor, .int k s n => .ret (.int k s (Alg.ar B .xor k (Alg.ilit B (if k.signed then -1 else k.max)) n))
  | .not, .bool s b => .ret (.bool s (Alg.bn I b))
  | _, _ => .fail "unop"

def fieldsOf (d : TyD) : Option (List Fld) := match d.k with | .str fs => some fs | _ => none

def fillParts (place : Nat → Option (Nat × Nat)) (cells : List (V I B)) : List (Nat × V I B) → Option (List (V I B))
  | [] => some cells
  | (i, v) :: rest =>
    match place i with
    | none => none
    | some (off, size) =>
      if (cellsOf v).length = size ∧ off + size ≤ cells.length then fillParts place (setCells cells off (cellsOf v)) rest else none
def fieldPlaces (cx : Cx I B) (fs : List Fld) (i : Nat) : Option (Nat × Nat) :=
  match fs[i]? with
  | some f => (cx.ty f.ty).map fun d => (f.off, d.size)
  | none => none
def buildE (cx : Cx I B) (t : TypeId) (parts : List (Nat × V I B)) : E I B (V I B) := do
  let d ← E.opt "type" (cx.ty t)
  if parts.all (fun p => (cellsOf p.2).all oneCell) = false then .fail "build: cells" else
  match d.k with
  | .str fs => do
    let zs ← E.opt "zero" (zeroCells d)
    let cs ← E.opt "build" (fillParts (fieldPlaces cx fs) zs parts)
    if fs.all (fun f => (cx.ty f.ty).isSome) then .ret (.agg cs) else .fail "build: types"
  | .arr _ e => do
    let ed ← E.opt "type" (cx.ty e)
    let zs ← E.opt "zero" (zeroCells d)
    let cs ← E.opt "build" (fillParts (fun i => some (i * ed.size, ed.size)) zs parts)
    .ret (.agg cs)
  | _ => .fail "build"

/-- An address moved on. -/
def moveOff (off : I) (k : Nat) : I := Alg.ilit B (Alg.ival B off + (k : Int))
def moveO (s : Bool) (off : I) (k : Nat) : I := if s then Alg.lin B off 1 k else moveOff (B := B) off k
def fieldAddrE (cx : Cx I B) (t : TypeId) (p : V I B) (f : Nat) : E I B (V I B) := do
  let d ← E.opt "type" (cx.ty t)
  let fs ← E.opt "fieldAddr: struct" (fieldsOf d)
  let fl ← E.opt "fieldAddr: field" fs[f]?
  let fd ← E.opt "type" (cx.ty fl.ty)
  if fd.size = 0 then .fail "fieldAddr: no cells" else
  match p with
  | .ptr nm s off => .ret (.ptr nm s (moveO (B := B) s off fl.off))
  | .eptr cs => .ret (.eptr (cs.drop fl.off))
  | _ => .fail "fieldAddr: address"
def fieldE (cx : Cx I B) (t : TypeId) (x : V I B) (f : Nat) : E I B (V I B) := do
  let d ← E.opt "type" (cx.ty t)
  let fs ← E.opt "field: struct" (fieldsOf d)
  let fl ← E.opt "field: field" fs[f]?
  let fd ← E.opt "type" (cx.ty fl.ty)
  match x with
  | .agg cs =>
    let vs := (cs.drop fl.off).take fd.size
    if vs.length = fd.size then E.opt "field" (ofCells fd.isAgg vs) else .fail "field: cells"
  | _ => .fail "field: value"

def asI : V I B → E I B (IntKind × Bool × I)
  | .int k s n => .ret (k, s, n)
  | _ => .fail "int expected"

def indexAddrE (cx : Cx I B) (H : Heap I B) (t : TypeId) (x ix : V I B) : E I B (V I B) := do
  let (_, s, i) ← asI ix
  let d ← E.opt "type" (cx.ty t)
  match d.k, x with
  | .arr n e, .ptr nm sp off => do
    let ed ← E.opt "type" (cx.ty e)
    let k ← which s i n
    .ret (.ptr nm sp (moveO (B := B) sp off (k * ed.size)))
  | .arr n e, .eptr cs => do
    let ed ← E.opt "type" (cx.ty e)
    let k ← which s i n
    .ret (.eptr (cs.drop (k * ed.size)))
  | .slc e, .osl nm off sz sl len => do
    let ed ← E.opt "type" (cx.ty e)
    let (_, rs, _) ← liveRow H nm
    if ed.size ≠ sz then .fail "indexAddr: size" else
    match rs, knownNat (B := B) sl len with
    | false, some n => do
      let k ← which s i n
      .ret (.ptr nm false (nat0 (B := B) (off + k * sz)))
    | _, _ => do
      must true (Alg.cmp .geq i (Alg.ilit B 0))
      must true (Alg.cmp .lss i len)
      .ret (.ptr nm true (if sz = 1 ∧ off = 0 then i else Alg.lin B i sz off))
  | .slc e, .isl id sz sl len es _ => do
    let ed ← E.opt "type" (cx.ty e)
    if ed.size ≠ sz then .fail "indexAddr: size" else
    match knownNat (B := B) sl len with
    | some n => do
      let k ← which s i n
      let v ← E.opt "indexAddr: element" es[k]?
      .ret (.eptr (cellsOf v))
    | none => do
      let v ← orcVal (.elem id i)
      E.ob (.elem es i v)
      .ret (.eptr (cellsOf v))
  | _, _ => .fail "indexAddr"

def indexE (cx : Cx I B) (t : TypeId) (x ix : V I B) : E I B (V I B) := do
  let (_, s, i) ← asI ix
  let d ← E.opt "type" (cx.ty t)
  match d.k, x with
  | .arr n e, .agg cs => do
    let ed ← E.opt "type" (cx.ty e)
    let k ← which s i n
    let vs := (cs.drop (k * ed.size)).take ed.size
    if vs.length = ed.size then E.opt "index" (ofCells ed.isAgg vs) else .fail "index: cells"
  | .strg, .raw (.string bs) => do
    must s (Alg.cmp .geq i (Alg.ilit B 0))
    must s (Alg.cmp .lss i (Alg.ilit B (bs.size : Int)))
    .ret (.int .u8 s (Alg.byt B bs i))
  | _, _ => .fail "index"

/-- The bounds of a slice expression, of so many elements. -/
def boundE (x : Option (V I B)) (dflt : Bool × I) : E I B (Bool × I) :=
  match x with
  | none => .ret dflt
  | some (.int _ s n) => .ret (s, n)
  | some _ => .fail "slice: bound"
def subI (s : Bool) (a b : I) : I :=
  if s then Alg.mns B a b else Alg.ilit B (Alg.ival B a - Alg.ival B b)
/-- 0 ≤ l ≤ h ≤ n. -/
def inOrder (sl : Bool) (l : I) (sh : Bool) (h : I) (sn : Bool) (n : I) : E I B Unit := do
  must sl (Alg.cmp .geq l (Alg.ilit B 0))
  must (sl || sh) (Alg.cmp .leq l h)
  must (sh || sn) (Alg.cmp .leq h n)
def isZeroC : Option (V I B) → Bool
  | some (.int _ false l) => Alg.ival B l == 0
  | _ => false
def sliceE (cx : Cx I B) (H : Heap I B) (t : TypeId) (x : V I B) (lo hi mx : Option (V I B)) : E I B (V I B) := do
  let d ← E.opt "type" (cx.ty t)
  match d.k, x, mx with
  | .arr n e, .ptr nm false off, none => do
    let ed ← E.opt "type" (cx.ty e)
    let (sl, l) ← boundE lo (false, Alg.ilit B 0)
    let (sh, h) ← boundE hi (false, Alg.ilit B (n : Int))
    inOrder sl l sh h false (Alg.ilit B (n : Int))
    let o ← E.opt "slice: offset" (knownNat (B := B) false off)
    let k ← E.opt "slice: low" (knownNat (B := B) sl l)
    let (cs, _, _) ← liveRow H nm
    if o + n * ed.size ≤ cs.length then
      .ret (.osl nm (o + k * ed.size) ed.size (sl || sh) (subI (B := B) (sl || sh) h l))
    else .fail "slice: array"
  | .slc e, .osl nm off sz s len, none => do
    let ed ← E.opt "type" (cx.ty e)
    if ed.size ≠ sz then .fail "slice: size" else do
    let (sl, l) ← boundE lo (false, Alg.ilit B 0)
    let (sh, h) ← boundE hi (s, len)
    inOrder sl l sh h s len
    let k ← E.opt "slice: low" (knownNat (B := B) sl l)
    .ret (.osl nm (off + k * sz) sz (sl || sh) (subI (B := B) (sl || sh) h l))
  | .slc e, .isl id sz s len es c0, none => do
    let ed ← E.opt "type" (cx.ty e)
    if ed.size ≠ sz ∧ es.isEmpty = false then .fail "slice: size" else do
    let (sl, l) ← boundE lo (false, Alg.ilit B 0)
    let (sh, h) ← boundE hi (s, len)
    inOrder sl l sh h s len
    .ret (.isl id sz (sl || sh) (subI (B := B) (sl || sh) h l) ((es.take (Alg.ival B h).toNat).drop (Alg.ival B l).toNat) c0)
  | .slc e, .isl _ _ _ _ _ _, some m => do
    let _ ← E.opt "type" (cx.ty e)
    if isZeroC lo && isZeroC hi && isZeroC (some m) then .ret (.isl 0 0 false (Alg.ilit B 0) [] true) else .fail "slice: three bounds"
  | .slc e, .osl _ _ _ _ _, some m => do
    let _ ← E.opt "type" (cx.ty e)
    if isZeroC lo && isZeroC hi && isZeroC (some m) then .ret (.isl 0 0 false (Alg.ilit B 0) [] true) else .fail "slice: three bounds"
  | _, _, _ => .fail "slice"

def convE (cx : Cx I B) (src dst : TypeId) (x : V I B) : E I B (V I B) := do
  let _ ← E.opt "type" (cx.ty src)
  let d ← E.opt "type" (cx.ty dst)
  match d.k, x with
  | .int k, .int _ s n => .ret (.int k s (Alg.cv B k n))
  | _, _ => .fail "convert"

def pickE (c a b : V I B) : E I B (V I B) :=
  match c with
  | .bool false x => .ret (if Alg.bval I x then a else b)
  | .bool true x =>
    match a, b with
    | .bool _ p, .bool _ q => .ret (.bool true (Alg.bi I x p q))
    | .int k _ p, .int k' _ q => if k = k' then .ret (.int k true (Alg.ii x p q)) else .fail "pick: kinds"
    | _, _ => .fail "pick"
  | _ => .fail "pick: condition"

def minmaxE (mx : Bool) : List (V I B) → E I B (V I B)
  | [] => .fail "min, max"
  | [.int k s n] => .ret (.int k s n)
  | .int k s n :: .int k' s' m :: rest =>
    if k = k' then
      let v := if mx then Alg.mx B n m else Alg.mn B n m
      minmaxE mx (.int k (s || s') (if s || s' then v else Alg.ilit B (Alg.ival B v)) :: rest)
    else .fail "min, max: kinds"
  | _ => .fail "min, max"
termination_by l => l.length

def isSlc (cx : Cx I B) (t : Option TypeId) : Bool :=
  match t.bind cx.ty with
  | some d => (match d.k with | .slc _ => true | _ => false)
  | none => false
def lenE (x : V I B) : E I B (V I B) :=
  match x with
  | .osl _ _ _ s len => .ret (.int .i64 s len)
  | .isl _ _ s len _ _ => .ret (.int .i64 s len)
  | _ => .fail "len"

/-- An operation that touches no memory. -/
def pureE (cx : Cx I B) (ρ : Operand → E I B (V I B)) (o : Oper) : Option (E I B (V I B)) :=
  match o.op with
  | .move x | .assign x => some (ρ x)
  | .build t ps => some do
      let vs ← E.map (fun (p : Nat × Operand) => do .ret (p.1, ← ρ p.2)) ps.toList
      buildE cx t vs
  | .nilCheck x => some do
      match ← ρ x with
      | .ptr nm s off => .ret (.ptr nm s off)
      | .eptr cs => .ret (.eptr cs)
      | .fn f a b => .ret (.fn f a b)
      | .yld nm => .ret (.yld nm)
      | _ => .fail "nilCheck"
  | .binOp op t x y _ => some do binE cx op t (← ρ x) (← ρ y)
  | .unOp op _ x => some do unE op (← ρ x)
  | .convert s d x => some do convE cx s d (← ρ x)
  | .makeFunc (.func f) a b => some do
      let va ← E.map ρ a.toList
      let vb ← E.map ρ b.toList
      .ret (.fn f va vb)
  | .fieldAddr t x f => some do fieldAddrE cx t (← ρ x) f
  | .field t x f => some do fieldE cx t (← ρ x) f
  | .index t x i => some do indexE cx t (← ρ x) (← ρ i)
  | .extract x i => some do
      match ← ρ x with
      | .tup vs => E.opt "extract" vs[i]?
      | _ => .fail "extract"
  | .sliceToArrayPointer t x => some do
      let d ← E.opt "type" (cx.ty t)
      match d.k, ← ρ x with
      | .arr n _, .osl nm off _ s len => do
        let l ← E.opt "array: length" (knownNat (B := B) s len)
        if n ≤ l ∧ 0 < l then .ret (.ptr nm false (nat0 (B := B) off)) else .fail "array: too short"
      | _, _ => .fail "array"
  | .call { callee := .builtin .len, args, argTypes } => some do
      match args.toList, isSlc cx argTypes[0]? with
      | [x], true => lenE (← ρ x)
      | _, _ => .fail "len"
  | .call { callee := .builtin .cap, args, argTypes } => some do
      match args.toList, isSlc cx argTypes[0]? with
      | [x], true => (match ← ρ x with | .isl _ _ _ _ _ true => .ret (il .i64 0) | _ => .fail "cap")
      | _, _ => .fail "cap"
  | .call { callee := .builtin .max, args, .. } => some do minmaxE true (← E.map ρ args.toList)
  | .call { callee := .builtin .min, args, .. } => some do minmaxE false (← E.map ρ args.toList)
  | _ => none

/-- Elements as cells of a row. -/
def flat (es : List (V I B)) : List (V I B) := es.flatMap cellsOf

/-- What is appended: its cells, whether open, and how many elements there are. -/
def sourceE (H : Heap I B) (ed : TyD) (x : V I B) : E I B (List (V I B) × Bool × Bool × I) :=
  match x with
  | .isl _ sz s len es _ => if sz = ed.size || (s == false && Alg.ival B len == 0) then .ret (flat es, s, s, len) else .fail "append: size"
  | .osl nm off sz s len => do
    let (cs, rs, _) ← liveRow H nm
    match rs, knownNat (B := B) s len with
    | false, some n =>
      let vs := (cs.drop off).take (n * sz)
      if sz = ed.size ∧ vs.length = n * sz then .ret (vs, false, s, len) else .fail "append: source"
    | _, _ => .fail "append: open source"
  | _ => .fail "append: source"
def addI (s : Bool) (a b : I) : I :=
  if s then Alg.pls B a b else Alg.ilit B (Alg.ival B a + Alg.ival B b)
/-- A number of elements that memory bears. -/
def few (s : Bool) (n : I) : E I B Unit := do
  must s (Alg.cmp .geq n (Alg.ilit B 0))
  must s (Alg.cmp .leq n (Alg.ilit B 1048576))
/-- append to nothing. -/
def appendNil (H : Heap I B) (nm : Nm) (ed : TyD) (s : V I B) (vs : List (V I B)) (vo sx : Bool) (lx : I) : E I B (V I B × Heap I B) :=
  match knownNat (B := B) sx lx with
  | some 0 => .ret (s, H)
  | some _ => do
    few sx lx
    let H ← fresh H nm (.row vs vo 0)
    .ret (.osl nm 0 ed.size sx lx, H)
  | none => do
    must true (Alg.cmp .gtr lx (Alg.ilit B 0))
    few sx lx
    let H ← fresh H nm (.row vs true 0)
    .ret (.osl nm 0 ed.size sx lx, H)
/-- append to a row of our own. -/
def appendOwn (H : Heap I B) (nm m : Nm) (ed : TyD) (so : Bool) (lo : I) (vs : List (V I B)) (vo sx : Bool) (lx : I) : E I B (V I B × Heap I B) := do
  let (cs, rs, id) ← liveRow H m
  few so lo
  few sx lx
  match rs, knownNat (B := B) so lo with
  | false, some n =>
    if n * ed.size ≤ cs.length then do
      let H ← fresh (H.upd m .dead) nm (.row (cs.take (n * ed.size) ++ vs) vo id)
      .ret (.osl nm 0 ed.size sx (addI (B := B) sx lo lx), H)
    else .fail "append: size"
  | _, _ => do
    -- an open row: its slice is all of it
    E.ob (.idx (Alg.lin B lo ed.size 0) cs.length)
    let H ← fresh (H.upd m .dead) nm (.row (cs ++ vs) true id)
    .ret (.osl nm 0 ed.size true (addI (B := B) true lo lx), H)
/-- append of so many zeros to nothing. -/
def appendMake (cx : Cx I B) (H : Heap I B) (nm : Nm) (ed : TyD) (xt : TypeId) (s x : V I B) : E I B (V I B × Heap I B) := do
  let xd ← E.opt "type" (cx.ty xt)
  let zs ← E.opt "zero" (zeroCells ed)
  match xd.k, x, s with
  | .int _, .int _ false n, .isl _ _ false len [] true => do
    let k ← E.opt "append: make" (knownNat (B := B) false n)
    if Alg.ival B len = 0 ∧ 0 < k ∧ k ≤ 4096 ∧ zs.length = ed.size ∧ zs.all oneCell then do
      let H ← fresh H nm (.row (repl zs k) false 0)
      .ret (.osl nm 0 ed.size false (Alg.ilit B (k : Int)), H)
    else .fail "append: make"
  | _, _, _ => .fail "append: make"
def cellsOb (vo : Bool) (vs : List (V I B)) : E I B Unit := if vo then E.ob (.cells vs) else .ret ()
def appendTo (H : Heap I B) (nm : Nm) (ed : TyD) (s : V I B) (vs : List (V I B)) (vo sx : Bool) (lx : I) : E I B (V I B × Heap I B) :=
  match s with
  | .isl id sz false len [] true => if Alg.ival B len = 0 then appendNil H nm ed (.isl id sz false len [] true) vs vo sx lx else .fail "append: length"
  | .osl m 0 sz so lo => if sz = ed.size then appendOwn H nm m ed so lo vs vo sx lx else .fail "append: size"
  | _ => .fail "append: slice"
def appendE (cx : Cx I B) (H : Heap I B) (nm : Nm) (st : TypeId) (xt : Option TypeId) (s x : V I B) : E I B (V I B × Heap I B) := do
  let d ← E.opt "type" (cx.ty st)
  match d.k with
  | .slc e => do
    let ed ← E.opt "type" (cx.ty e)
    if ed.size = 0 ∨ 1048576 < ed.bytes ∨ ed.zero.map List.length ≠ some ed.size then .fail "append: element" else
    match xt, x with
    | some xt, .int k so n => appendMake cx H nm ed xt s (.int k so n)
    | some xt, x => if isSlc cx (some xt) = false then .fail "append: type" else do
      let (vs, vo, sx, lx) ← sourceE H ed x
      if (vo || vs.all oneCell) = false then .fail "append: cells" else do
      cellsOb vo vs
      appendTo H nm ed s vs vo sx lx
    | none, _ => .fail "append: type"
  | _ => .fail "append: type"

/-- An operation that only reads memory. -/
def readE (cx : Cx I B) (H : Heap I B) (ρ : Operand → E I B (V I B)) (o : Oper) : Option (E I B (V I B)) :=
  match o.op with
  | .load t a => some do loadE cx H t (← ρ a)
  | .indexAddr t x i => some do indexAddrE cx H t (← ρ x) (← ρ i)
  | .slice t x lo hi mx => some do
      let v ← ρ x
      let l ← E.optM ρ lo
      let h ← E.optM ρ hi
      let m ← E.optM ρ mx
      sliceE cx H t v l h m
  | _ => none

/-- An operation that lays memory. -/
def newE (cx : Cx I B) (H : Heap I B) (nm : Nm) (ρ : Operand → E I B (V I B)) (o : Oper) : Option (E I B (V I B × Heap I B)) :=
  match o.op with
  | .alloc t => some do
      let d ← E.opt "type" (cx.ty t)
      let zs ← E.opt "zero" (zeroCells d)
      if zs.all oneCell then do
        let H ← fresh H nm (.row zs false 0)
        .ret (.ptr nm false (Alg.ilit B 0), H)
      else .fail "alloc"
  | .box t x => some do
      let _ ← E.opt "type" (cx.ty t)
      let cs := cellsOf (← ρ x)
      if cs.all oneCell then do
        let H ← fresh H nm (.row cs false 0)
        .ret (.ptr nm false (Alg.ilit B 0), H)
      else .fail "box"
  | .buildSlice t n ps => some do
      let d ← E.opt "type" (cx.ty t)
      match d.k with
      | .slc e => do
        let ed ← E.opt "type" (cx.ty e)
        let zs ← E.opt "zero" (zeroCells ed)
        let vs ← E.map (fun (p : Nat × Operand) => do .ret (p.1, ← ρ p.2)) ps.toList
        if n * ed.size ≤ 65536 ∧ zs.length = ed.size ∧ zs.all oneCell ∧ vs.all (fun p => (cellsOf p.2).all oneCell) then do
          let cs ← E.opt "buildSlice" (fillParts (fun i => some (i * ed.size, ed.size)) (repl zs n) vs)
          let H ← fresh H nm (.row cs false 0)
          .ret (.osl nm 0 ed.size false (Alg.ilit B (n : Int)), H)
        else .fail "buildSlice"
      | _ => .fail "buildSlice"
  | .makeSlice t l c => some do
      let d ← E.opt "type" (cx.ty t)
      match d.k, ← ρ l, ← ρ c with
      | .slc e, .int .i64 s a, .int .i64 s' b => do
        let ed ← E.opt "type" (cx.ty e)
        let zs ← E.opt "zero" (zeroCells ed)
        few s a
        must (s || s') (Alg.cmp .eql a b)
        if ed.bytes ≤ 1048576 ∧ zs.length = ed.size ∧ zs.all oneCell then do
          let H ← fresh H nm (.row (if s then (repl zs (Alg.ival B a).toNat).map opn else repl zs (Alg.ival B a).toNat) s 0)
          .ret (.osl nm 0 ed.size s a, H)
        else .fail "make: size"
      | _, _, _ => .fail "make"
  | _ => none

/-- An operation that writes memory, but for calls. -/
def writeE (cx : Cx I B) (H : Heap I B) (nm : Nm) (ρ : Operand → E I B (V I B)) (o : Oper) : Option (E I B (V I B × Heap I B)) :=
  match o.op with
  | .store t a x => some do
      let va ← ρ a
      let vx ← ρ x
      let H ← storeE cx H t va vx
      .ret (.undef, H)
  | .call { callee := .builtin .append, args, argTypes } => some do
      match args.toList, argTypes[0]? with
      | [s, x], some st => do
        let vs ← ρ s
        let vx ← ρ x
        appendE cx H nm st argTypes[1]? vs vx
      | _, _ => .fail "append"
  | .call { callee := .builtin .clear, args, argTypes } => some do
      match args.toList, argTypes[0]? with
      | [s], some st => do
        let d ← E.opt "type" (cx.ty st)
        match d.k, ← ρ s with
        | .slc e, .osl m off sz sl len => do
          let ed ← E.opt "type" (cx.ty e)
          let zs ← E.opt "zero" (zeroCells ed)
          let n ← E.opt "clear" (knownNat (B := B) sl len)
          let (cs, rs, id) ← liveRow H m
          if rs = false ∧ 0 < n ∧ off + n * sz ≤ cs.length ∧ sz = ed.size ∧ zs.length = sz ∧ zs.all oneCell then
            .ret (.undef, H.upd m (.row (setCells cs off (repl zs n)) rs id))
          else .fail "clear"
        | _, _ => .fail "clear"
      | _, _ => .fail "clear"
  | _ => none

/-! ### regions -/
def getT (ts : List (V I B)) (t : Tmp) : V I B := (ts[t]?).getD .undef
def setT (ts : List (V I B)) (t : Tmp) (v : V I B) : List (V I B) := ts.set t v
def isSuffix (a b : List (Nat × Bool)) : Bool := (b.drop (b.length - a.length)) == a && a.length ≤ b.length
/-- A temporary's value under what is known of the guards. -/
def strip (T : List (Nat × Bool)) (v : V I B) : E I B (V I B) :=
  match v with
  | .may tg _ v' => if isSuffix tg T && !tg.isEmpty then .ret v' else .fail "guarded"
  | .top => .fail "unknown"
  | v => .ret v
/-- A value that hangs on no guard. -/
def plainE (v : V I B) : E I B (V I B) :=
  match v with
  | .may _ _ _ => .fail "guarded"
  | v => .ret v
def operandE (ts : List (V I B)) (T : List (Nat × Bool)) (x : Operand) : E I B (V I B) :=
  match x with
  | .tmp t => strip T (getT ts t)
  | .const v => E.opt "const" (constV v)
  | .func f => .ret (.fn f [] [])
  | .global _ => .fail "global"

def dstOf (ops : Array Oper) (j : Nat) : Option Tmp := (ops[j]?).bind (·.dst)
def putT (ts : List (V I B)) (dst : Option Tmp) (v : V I B) : List (V I B) :=
  match dst with
  | some d => setT ts d v
  | none => ts

def writerOf (ops : List Oper) (t : Tmp) (k : Nat := 0) : Option Nat :=
  match ops with
  | [] => none
  | o :: r => if o.dst = some t then some k else writerOf r t (k + 1)

/-- The choice between two values, in a region whose guards may be open. -/
def pickOp (ops : Array Oper) (ts : List (V I B)) (T : List (Nat × Bool)) (c a b : Operand) : E I B (V I B) := do
  let vc ← operandE ts T c
  match vc, c with
  | .bool true x, .tmp t =>
    match writerOf ops.toList t with
    | some j => do
      let va ← operandE ts ((j, true) :: T) a
      let vb ← operandE ts ((j, false) :: T) b
      pickE (.bool true x) va vb
    | none => do pickE vc (← operandE ts T a) (← operandE ts T b)
  | .bool false x, _ => if Alg.bval I x then operandE ts T a else operandE ts T b
  | _, _ => do pickE vc (← operandE ts T a) (← operandE ts T b)

structure Rec (I B : Type) where
  call : Nm → FuncId → List (V I B) → Heap I B → E I B (V I B × Heap I B)
  yield : Nm → Nm → List (V I B) → Heap I B → E I B (V I B × Heap I B)
  code : FuncId → Nm → Bool → Code → St I B → E I B (Ex × St I B)
  scope : FuncId → Nm → Bool → Code → Code → St I B → E I B (Ex × St I B)
  loop : FuncId → Nm → Bool → Code → St I B → E I B (Ex × St I B)

/-- One operation, its guard being open or passed. -/
def runOp (cx : Cx I B) (rc : Rec I B) (ops : Array Oper) (nm : Nm) (T : List (Nat × Bool)) (ts : List (V I B)) (H : Heap I B) (o : Oper) : E I B (V I B × Heap I B) :=
  let ρ := operandE ts T
  match o.op with
  | .pick c a b => do .ret (← pickOp ops ts T c a b, H)
  | .call { callee := .value f, args, .. } => do
    let vf ← ρ f
    let vs ← E.map ρ args.toList
    match vf with
    | .fn f first cap => rc.call nm f (first ++ vs ++ cap) H
    | .yld l => rc.yield nm l vs H
    | _ => .fail "call: value"
  | _ =>
    match pureE cx ρ o with
    | some m => do .ret (← m, H)
    | none =>
      match readE cx H ρ o with
      | some m => do .ret (← m, H)
      | none =>
        match newE cx H nm ρ o with
        | some m => m
        | none =>
          match writeE cx H nm ρ o with
          | some m => m
          | none => .fail "operation"

/-- Is it an operation that may be carried out, or not, unseen? -/
def quietOp (o : Oper) : Bool :=
  match o.op with
  | .move _ | .assign _ | .pick .. | .build .. | .nilCheck _ | .binOp .. | .unOp .. | .convert .. | .fieldAddr .. | .field .. | .index .. | .extract ..
  | .load .. | .indexAddr .. => true
  | .call { callee := .builtin .len, .. } => true
  | _ => false

/-- May the guards of a region stay open? -/
def allQuiet (ops : List Oper) : Bool := ops.all fun o => o.guard.isNone || quietOp o

inductive GR (B : Type) where
  | go | skip
  | opn (T : List (Nat × Bool)) (g : B)
/-- What an operation's guard says. -/
def guardE (quiet : Bool) (ops : Array Oper) (ts : List (V I B)) (o : Oper) : E I B (List (V I B) × GR B) :=
  match o.guard with
  | none => .ret (ts, .go)
  | some (j, want) =>
    match dstOf ops j with
    | none => .fail "guard"
    | some tj =>
      match getT ts tj with
      | .bool false b => .ret (ts, if Alg.bval I b == want then .go else .skip)
      | .bool true b =>
        if quiet then .ret (ts, .opn [(j, want)] (Alg.be I b (Alg.blit I want)))
        else do
          let w ← way true b
          .ret (setT ts tj (.bool false (Alg.blit I w)), if w == want then .go else .skip)
      | .may tg g (.bool _ b) =>
        if quiet then .ret (ts, .opn ((j, want) :: tg) (Alg.bi I g (Alg.be I b (Alg.blit I want)) (Alg.blit I false)))
        else .fail "guard in a guard"
      | .undef => .ret (ts, .skip)
      | _ => .fail "guard: value"
/-- One operation of a region. -/
def stepOp (cx : Cx I B) (rc : Rec I B) (quiet : Bool) (ops : Array Oper) (px : Nm) (k : Nat) (ts : List (V I B)) (H : Heap I B) : E I B (List (V I B) × Heap I B) :=
  match ops[k]? with
  | none => .fail "no such operation"
  | some o => do
    let (ts, gr) ← guardE quiet ops ts o
    match gr with
    | .skip => .ret (putT ts o.dst .undef, H)
    | .go => do
      let (v, H) ← runOp cx rc ops (k :: px) [] ts H o
      let v ← plainE v
      .ret (putT ts o.dst v, H)
    | .opn T g =>
      if quietOp o then do
        let (v, _) ← runOp cx rc ops (k :: px) T ts H o
        let v ← plainE v
        .ret (putT ts o.dst (.may T g v), H)
      else .fail "guard: effect"

def runOps (cx : Cx I B) (rc : Rec I B) (quiet : Bool) (ops : Array Oper) (px : Nm) : List Nat → List (V I B) → Heap I B → E I B (List (V I B) × Heap I B)
  | [], ts, H => .ret (ts, H)
  | k :: r, ts, H => do
    let s ← stepOp cx rc quiet ops px k ts H
    runOps cx rc quiet ops px r s.1 s.2

/-- Are there guards, or choices? -/
def needsT (ops : List Oper) : Bool := ops.any fun o => o.guard.isSome || (match o.op with | .pick .. => true | _ => false)
def noMay : V I B → V I B
  | .may _ _ _ => .top
  | v => v
/-- Does no other operation write what operation j writes? -/
def uniqW (ops : Array Oper) (j : Nat) : Bool :=
  (List.range ops.size).all fun i => Nat.beq i j || !(dstOf ops i == dstOf ops j)
/-- Each guard is told ahead of who asks for it, by one operation alone. -/
def guardsOk (ops : Array Oper) : List Nat → List Nat → Bool
  | [], _ => true
  | k :: r, done =>
    !done.contains k &&
    (match (ops[k]?).bind (·.guard) with
     | some (j, _) => done.contains j && uniqW ops j
     | none => true) && guardsOk ops r (k :: done)

/-! ### a region whose order is drawn -/
def effectOp (o : Oper) : Bool :=
  match o.op with
  | .store .. => true
  | .call { callee := .value _, .. } => true
  | .call { callee := .builtin .append, .. } => true
  | .call { callee := .builtin .clear, .. } => true
  | _ => false
def newOp (o : Oper) : Bool :=
  match o.op with
  | .alloc _ | .box .. | .buildSlice .. | .makeSlice .. => true
  | _ => false
def lazyGo (pre : Nat → Nat) (n : Nat) : List Nat → List Nat → List Nat
  | [], done => done ++ (List.range n).filter (fun i => !done.contains i)
  | e :: es, done => lazyGo pre n es (done ++ (List.range n).filter (fun i => (pre e).testBit i && !done.contains i) ++ [e])
/-- Each operation as late as an effect wants it. -/
def lazyOrder (pre : Nat → Nat) (ops : List Oper) : List Nat :=
  lazyGo pre ops.length ((List.range ops.length).filter fun i => (ops[i]?).any effectOp) []
/-- The names that a value leads to, once a guard is off it. -/
def nmsV : V I B → List Nm
  | .ptr nm _ _ => [nm]
  | .osl nm _ _ _ _ => [nm]
  | .may _ _ (.ptr nm _ _) => [nm]
  | .may _ _ (.osl nm _ _ _ _) => [nm]
  | _ => []
def nmOp (ts : List (V I B)) : Operand → List Nm
  | .tmp t => nmsV (getT ts t)
  | _ => []
/-- The names that an operation reads. -/
def readsOf (ts : List (V I B)) (o : Oper) : List Nm :=
  match o.op with
  | .load _ a => nmOp ts a
  | .indexAddr _ x _ => nmOp ts x
  | .slice _ x _ _ _ => nmOp ts x
  | _ => []
/-- What was done by each operation: its reads and its writes. -/
def traceOps (cx : Cx I B) (rc : Rec I B) (quiet : Bool) (ops : Array Oper) (px : Nm) : List Nat → List (V I B) → Heap I B → E I B (List (V I B) × Heap I B × List (Nat × List Nm × List Nm))
  | [], ts, H => .ret (ts, H, [])
  | k :: r, ts, H => do
    let s ← stepOp cx rc quiet ops px k ts H
    let s' ← traceOps cx rc quiet ops px r s.1 s.2
    .ret (s'.1, s'.2.1, (k, (match ops[k]? with | some o => readsOf ts o | none => []), s.2.log.take (s.2.log.length - H.log.length)) :: s'.2.2)
def tmpsOf (ops : Array Oper) (o : Oper) : List Tmp :=
  (o.op.operands.toList.filterMap fun x => match x with | .tmp t => some t | _ => none) ++
  (match o.guard with | some (j, _) => (dstOf ops j).toList | none => [])
def memNm (n : Nm) : List Nm → Bool
  | [] => false
  | m :: r => nmEq m n || memNm n r
/-- Is one ahead of the other, whichever? -/
def ordered (pre : Nat → Nat) (i j : Nat) : Bool := (pre j).testBit i || (pre i).testBit j
/-- What is ahead of each operation, as bits. -/
def preGo : List Oper → List Nat → List Nat
  | [], acc => acc
  | o :: r, acc => preGo r (acc ++ [o.after.toList.foldl (fun s e => if Region.binds .any e then s ||| 2 ^ e.on ||| acc.getD e.on 0 else s) 0])
/-- The order: each operation once, behind those that it wants. -/
def orderOk (pre : Nat → Nat) : List Nat → Nat → Bool
  | [], _ => true
  | k :: r, m => !m.testBit k && Nat.beq (pre k &&& m) (pre k) && orderOk pre r (m ||| 2 ^ k)
/-- What is laid ahead of an effect is wanted by it. -/
def newsOk (pre : Nat → Nat) (ops : Array Oper) : List Nat → List Nat → Bool
  | [], _ => true
  | k :: r, l =>
    match ops[k]? with
    | none => false
    | some o =>
      if newOp o then newsOk pre ops r (k :: l)
      else if effectOp o then l.all (fun a => (pre k).testBit a) && newsOk pre ops r l
      else newsOk pre ops r l
def drawOk (pre : Nat → Nat) (ops : Array Oper) (lz : List Nat) (tr : List (Nat × List Nm × List Nm)) : Bool :=
  let n := ops.size
  -- each temporary is written once
  (List.range n).all (fun i => (dstOf ops i).isNone || uniqW ops i) &&
  (List.range n).all (fun i => lz.contains i) && orderOk pre lz 0 &&
  -- who names a temporary stands in order with who writes it
  (List.range n).all (fun k => match ops[k]? with
    | none => false
    | some o => (tmpsOf ops o).all fun t => (List.range n).all fun j => Nat.beq j k || !(dstOf ops j == some t) || ordered pre j k) &&
  -- effects stand in one order
  (List.range n).all (fun e => (List.range n).all fun e' => Nat.beq e e' || !((ops[e]?).any effectOp && (ops[e']?).any effectOp) || ordered pre e e') &&
  newsOk pre ops lz [] &&
  -- what is read is written by nobody who stands in no order with who reads
  tr.all (fun x => x.2.1.isEmpty || tr.all fun y => Nat.beq x.1 y.1 || ordered pre x.1 y.1 || x.2.1.all fun r => !memNm r y.2.2)
def runDraw (cx : Cx I B) (rc : Rec I B) (quiet : Bool) (ops : Array Oper) (px : Nm) (ts : List (V I B)) (H : Heap I B) : E I B (List (V I B) × Heap I B) := do
  let pa := preGo ops.toList []
  let pre := fun i => pa.getD i 0
  let lz := lazyOrder pre ops.toList
  if (!(quiet && needsT ops.toList) || guardsOk ops lz []) = true then do
    let r ← traceOps cx rc quiet ops px lz ts H
    if drawOk pre ops lz r.2.2 = true then .ret (r.1, r.2.1) else .fail "region: order"
  else .fail "region: guards"

/-! ### code -/
def evRegion (cx : Cx I B) (rc : Rec I B) (px : Nm) (ops : Array Oper) (draw : Bool) (st : St I B) : E I B (Ex × St I B) := do
  let q := allQuiet ops.toList
  let n := needsT ops.toList
  let ts := if n then st.ts.map noMay else st.ts
  let r ← (if draw then runDraw cx rc q ops (st.c :: px) ts st.H
    else if (!(q && n) || guardsOk ops (List.range ops.size) []) = true then runOps cx rc q ops (st.c :: px) (List.range ops.size) ts st.H
    else .fail "region: guards")
  .ret (.nrm, { st with ts := r.1, H := r.2, c := st.c + 1 })

def jumpEx : Option Code → Option Ex
  | none => some .nrm
  | some .ret => some .ret
  | some (.exit id) => some (.exit id)
  | some (.goto l) => some (.goto l)
  | _ => none
def exJump : Ex → Option Code
  | .nrm => none
  | .ret => some .ret
  | .exit id => some (.exit id)
  | .goto l => some (.goto l)

def evRange (_cx : Cx I B) (rc : Rec I B) (fid : FuncId) (px : Nm) (inR : Bool) (g : Operand) (ps : Array Tmp) (assign body : Code) (st : St I B) : E I B (Ex × St I B) :=
  if inR then .fail "range over a function in a round" else do
  match ← operandE st.ts [] g with
  | .fn gf first cap => do
    let dn := 1 :: st.c :: px
    let ln := 0 :: st.c :: px
    let H ← fresh st.H dn .dfr
    let H ← fresh H ln (.loop { fn := fid, tmps := st.ts, ps := ps.toList, assign := assign, body := body, st := .ready, pend := none })
    let (_, H) ← rc.call (2 :: st.c :: px) gf (first ++ [.yld ln] ++ cap) H
    match H.get ln with
    | some (.loop L) =>
      if L.st = .busy then .fail "loop: busy" else do
      let e ← E.opt "loop: jump" (jumpEx L.pend)
      .ret (e, { st with H := H.upd ln .dead, c := st.c + 1, marks := dn :: st.marks })
    | _ => .fail "loop: record"
  | _ => .fail "range: function"

def evCode (cx : Cx I B) (rc : Rec I B) (fid : FuncId) (px : Nm) (inR : Bool) : Code → St I B → E I B (Ex × St I B)
  | .skip, st => .ret (.nrm, st)
  | .label _, st => .ret (.nrm, st)
  | .region _ ops draw, st => evRegion cx rc px ops draw st
  | .seq a b, st => do
    let (e, st) ← evCode cx rc fid px inR a st
    match e with
    | .nrm => evCode cx rc fid px inR b st
    | e => .ret (e, st)
  | .cond c a b, st => do
    match ← operandE st.ts [] c with
    | .bool s x => do
      let w ← way s x
      if w then evCode cx rc fid px inR a st else evCode cx rc fid px inR b st
    | _ => .fail "condition"
  | .block id c, st => do
    let (e, st) ← evCode cx rc fid px inR c st
    match e with
    | .exit id' => if id' = id then .ret (.nrm, st) else .ret (.exit id', st)
    | e => .ret (e, st)
  | .loop c, st => rc.loop fid px inR c st
  | .rangeFunc g ps assign body, st => evRange cx rc fid px inR g ps assign body st
  | .exit id, st => .ret (.exit id, st)
  | .scope c, st => rc.scope fid px inR c c st
  | .goto l, st => .ret (.goto l, st)
  | .ret, st => .ret (.ret, st)
  | .refuse _, _ => .fail "refused"

def resultE (cx : Cx I B) (H : Heap I B) (ts : List (V I B)) : ResultVar → E I B (V I B)
  | .tmp t => strip [] (getT ts t)
  | .cell a t => loadE cx H t (getT ts a)
def endMarks (H : Heap I B) : List Nm → E I B (Heap I B)
  | [] => .ret H
  | m :: r =>
    match H.get m with
    | some .dfr => endMarks (H.upd m .dead) r
    | _ => .fail "mark"
def tupV : List (V I B) → V I B
  | [v] => v
  | vs => .tup vs
/-- A function's end. -/
def evEnd (cx : Cx I B) (st : St I B) (rs : List ResultVar) : E I B (V I B × Heap I B) := do
  let H ← endMarks st.H st.marks
  let vs ← E.map (resultE cx H st.ts) rs
  .ret (tupV vs, H)
def evCall (cx : Cx I B) (rc : Rec I B) (nm : Nm) (f : FuncId) (args : List (V I B)) (H : Heap I B) : E I B (V I B × Heap I B) :=
  match cx.tab f with
  | some run => run nm args H
  | none =>
    match cx.P.funcs[f]? with
    | none => .fail "no such function"
    | some fn =>
      match fn.body with
      | none => .fail "no body"
      | some c => do
        let (e, st) ← evCode cx rc f nm false c { ts := args ++ List.replicate (fn.ntmps - args.length) .undef, H := H, c := 0, marks := [] }
        match e with
        | .nrm => evEnd cx st fn.results.toList
        | .ret => evEnd cx st fn.results.toList
        | _ => .fail "exit"
def evYield (rc : Rec I B) (nm : Nm) (l : Nm) (args : List (V I B)) (H : Heap I B) : E I B (V I B × Heap I B) :=
  match H.get l with
  | some (.loop L) =>
    if L.st = .ready ∧ args.length = L.ps.length then do
      let ts := (L.ps.zip args).foldl (fun ts (p : Tmp × V I B) => setT ts p.1 p.2) L.tmps
      let (e, st) ← rc.code L.fn (0 :: nm) true L.assign { ts := ts, H := H, c := 0, marks := [] }
      match e, st.H.get l, st.marks with
      | .nrm, some (.loop L1), [] =>
        if L1.st = .ready then do
          let H := st.H.upd l (.loop { L1 with st := .busy })
          let (e, st) ← rc.code L.fn (1 :: nm) true L.body { ts := st.ts, H := H, c := 0, marks := [] }
          match st.H.get l, st.marks with
          | some (.loop L2), [] =>
            (match exJump e with
             | none => .ret (bl true, st.H.upd l (.loop { L2 with st := .ready, pend := none }))
             | some j => .ret (bl false, st.H.upd l (.loop { L2 with st := .done, pend := some j })))
          | _, _ => .fail "round: record"
        else .fail "round: state"
      | _, _, _ => .fail "round: assign"
    else .fail "yield"
  | _ => .fail "yield: record"
/-- Out of what is known of a piece of code, if the script says so. -/
def hooked (cx : Cx I B) (px : Nm) (c : Code) (st : St I B) (m : E I B (Ex × St I B)) : E I B (Ex × St I B) := fun os =>
  match os with
  | .hook k :: os' =>
    (match cx.hooks[k]? with
     | some h => (E.bind (E.ob (.prop (c = h.code))) fun _ => h.run px st) os'
     | none => .fail "hook")
  | [] => if cx.ask c then .need (.loop c) else m []
  | os => m os
def evScope (cx : Cx I B) (rc : Rec I B) (fid : FuncId) (px : Nm) (inR : Bool) (whole cur : Code) (st : St I B) : E I B (Ex × St I B) := hooked cx px (.seq whole cur) st do
  let (e, st) ← evCode cx rc fid px inR cur st
  match e with
  | .goto l =>
    (match findLabel whole l with
     | some rest => rc.scope fid px inR whole rest st
     | none => .ret (.goto l, st))
  | e => .ret (e, st)

def evLoop (cx : Cx I B) (rc : Rec I B) (fid : FuncId) (px : Nm) (inR : Bool) (c : Code) (st : St I B) : E I B (Ex × St I B) := hooked cx px (.loop c) st do
  let (e, st) ← evCode cx rc fid px inR c st
  match e with
  | .nrm => rc.loop fid px inR c st
  | e => .ret (e, st)

def recZero : Rec I B where
  call _ _ _ _ := .fail "fuel"
  yield _ _ _ _ := .fail "fuel"
  code _ _ _ _ _ := .fail "fuel"
  scope _ _ _ _ _ _ := .fail "fuel"
  loop _ _ _ _ _ := .fail "fuel"
def ev (cx : Cx I B) : Nat → Rec I B
  | 0 => recZero
  | n + 1 =>
    { call := evCall cx (ev cx n)
      yield := evYield (ev cx n)
      code := fun fid px inR c st => evCode cx (ev cx n) fid px inR c st
      scope := evScope cx (ev cx n)
      loop := evLoop cx (ev cx n) }
end
end Go.Sx
