/- The evaluator: an own small language (IR) for the model's Code, abstract values and an evaluation over them. No program in sight. -/
import Derived.Calls
import Derived.Orders
namespace Go.Pur
open Go

/-- Data that nobody writes: a flat cell, a slice by its elements (each a row of cells), a pointer by the cells from there on, a function value, an interface value. -/
inductive T where
  | v (x : Value)
  | sl (sz : Nat) (es : List (List T))
  | pt (cs : List T)
  | fn (f : FuncId) (first caps : List T)
  | ifc (t : TypeId) (agg : Bool) (cs : List T)
  deriving Inhabited

abbrev Nm := Nat × Nat

/-- What one cell or slot holds: data, or a reference into own memory, which has names. -/
inductive Cell where
  | t (x : T)
  | nils (sz : Nat)
  | ptr (n : Nm) (i : Nat)
  | ref (n : Nm) (lo len : Nat)
  | pel (n : Nm) (i j : Nat)
  | clo (f : FuncId) (first caps : List Cell)
  | undef
  deriving Inhabited

structure AV where
  agg : Bool
  cells : List Cell
  deriving Inhabited

inductive Ent where
  | nil
  | val (a : AV)
  | tup (as : List AV)
  deriving Inhabited

/-- Own memory: a row of cells; a row of elements that are data (own: nothing else refers into their own memory). -/
inductive LObj where
  | row (cs : List Cell)
  | arr (own : Bool) (sz : Nat) (es : List (List T))
  | gone
  deriving Inhabited

inductive Opd where
  | t (n : Nat)
  | c (a : AV)
  deriving Inhabited

inductive IOp where
  | mov (x : Opd)
  | pick (c a b : Opd)
  | alc (zero : List Cell)
  | alcA (sz n : Nat) (z : List T)
  | box (x : Opd)
  | boxA (sz : Nat) (x : Opd)
  | bld (zero : List Cell) (parts : List (Nat × Nat × Opd))
  | bsl (sz len : Nat) (zero : List T) (parts : List (Nat × Nat × Opd))
  | ld (agg : Bool) (n : Nat) (x : Opd)
  | st (n : Nat) (a x : Opd)
  | nilc (x : Opd)
  | bin (op : BinOp) (x y : Opd)
  | eqb (neg : Bool) (x y : Opd)
  | isnil (neg : Bool) (x : Opd)
  | un (op : UnOp) (x : Opd)
  | cvi (k : IntKind) (x : Opd)
  | fa (off : Nat) (x : Opd)
  | fd (agg : Bool) (off n : Nat) (x : Opd)
  | ia (alen : Option Nat) (sz : Nat) (x i : Opd)
  | ixs (x i : Opd)
  | ixa (agg : Bool) (n sz : Nat) (x i : Opd)
  | ms (sz : Nat) (zero : List T) (l c : Opd)
  | sls (x : Opd) (lo hi : Option Opd)
  | slc (sz : Nat) (x : Opd) (lo hi : Option Opd)
  | sla (n sz : Nat) (x : Opd) (lo hi : Option Opd)
  | app (sz : Nat) (x y : Opd)
  | len (x : Opd)
  | lens (x : Opd)
  | lena (n : Nat)
  | cpy (sz : Nat) (x y : Opd)
  | mkf (f : FuncId) (first caps : List Opd)
  | call (f : FuncId) (args : List (Bool × Opd))
  | callv (x : Opd) (args : List (Bool × Opd))
  | ext (i : Nat) (x : Opd)
  | mnx (mx : Bool) (x y : Opd)
  | bad
  deriving Inhabited

structure IOper where
  dst : Option Nat
  op : IOp
  after : List Nat
  guard : Option (Nat × Bool)
  deriving Inhabited

inductive IC where
  | skip
  | reg (draw : Bool) (ops : List IOper)
  | seq (a b : IC)
  | cond (c : Opd) (a b : IC)
  | blk (id : Nat) (b : IC)
  | loop (live : List Nat) (b : IC)
  | nrm (live : List Nat) (b : IC)
  | retn (live : List Nat)
  | regq (flags : List Nat) (ops : List IOper)
  | bad
  | exit (id : Nat)
  | ret
  deriving Inhabited

inductive IRes where
  | tmp (t : Nat)
  | cell (t : Nat) (agg : Bool) (n : Nat)
  deriving Inhabited

structure IFn where
  nt : Nat
  results : List IRes
  body : IC
  deriving Inhabited

/-! ### reading own memory, by name -/

inductive HM (α : Type) where
  | ret (a : α)
  | fail
  | rd (n : Nm) (k : Option LObj → HM α)

namespace HM
def bind {α β : Type} : HM α → (α → HM β) → HM β
  | .ret a, f => f a
  | .fail, _ => .fail
  | .rd n k, f => .rd n fun o => (k o).bind f
/-- what it gives over a memory -/
def val {α : Type} (h : Nm → Option LObj) : HM α → Option α
  | .ret a => some a
  | .fail => none
  | .rd n k => (k (h n)).val h
/-- the names that are asked for -/
def names {α : Type} (h : Nm → Option LObj) : HM α → List Nm
  | .ret _ => []
  | .fail => []
  | .rd n k => n :: (k (h n)).names h
def ofOption {α : Type} : Option α → HM α
  | some a => .ret a
  | none => .fail
def mapM {α β : Type} (f : α → HM β) : List α → HM (List β)
  | [] => .ret []
  | a :: l => (f a).bind fun b => (mapM f l).bind fun bs => .ret (b :: bs)
end HM

def upd {κ α : Type} [DecidableEq κ] (f : κ → α) (k : κ) (v : α) : κ → α := fun x => if x = k then v else f x

/-! ### small words -/

def _root_.Go.Value.flatB : Value → Bool
  | .bool _ | .int _ _ | .string _ | .pointer none | .nilFunc | .nilIface => true
  | _ => false

def T.isV : T → Bool
  | .v _ => true
  | _ => false

def AV.one (c : Cell) : AV := ⟨false, [c]⟩
def AV.int (k : IntKind) (n : Int) : AV := ⟨false, [.t (.v (.int k n))]⟩
def AV.bool (b : Bool) : AV := ⟨false, [.t (.v (.bool b))]⟩
def AV.str (s : ByteArray) : AV := ⟨false, [.t (.v (.string s))]⟩

def Opd.get (env : Nat → Ent) : Opd → Option AV
  | .c a => some a
  | .t n => match env n with
    | .val a => some a
    | _ => none

def Opd.ent (env : Nat → Ent) : Opd → Ent
  | .c a => .val a
  | .t n => env n

def Cell.isDef : Cell → Bool
  | .undef => false
  | _ => true
/-- an operand all of whose cells are known -/
def Opd.full (env : Nat → Ent) (o : Opd) : Option AV :=
  match o.get env with
  | some a => if a.cells.all Cell.isDef = true then some a else none
  | none => none
def AV.cell? : AV → Option Cell
  | ⟨false, [c]⟩ => some c
  | _ => none
def AV.flat? : AV → Option Value
  | ⟨false, [.t (.v x)]⟩ => some x
  | _ => none
def AV.int? : AV → Option Int
  | ⟨false, [.t (.v (.int _ n))]⟩ => some n
  | _ => none
def AV.bool? : AV → Option Bool
  | ⟨false, [.t (.v (.bool b))]⟩ => some b
  | _ => none
def Ent.bool? : Ent → Option Bool
  | .val a => a.bool?
  | _ => none

mutual
def Cell.ren (ρ : Nm → Option Nm) : Cell → Cell
  | .t x => .t x
  | .nils s => .nils s
  | .ptr n i => match ρ n with | some m => .ptr m i | none => .undef
  | .ref n lo len => match ρ n with | some m => .ref m lo len | none => .undef
  | .pel n i j => match ρ n with | some m => .pel m i j | none => .undef
  | .clo f a b => .clo f (Cell.renL ρ a) (Cell.renL ρ b)
  | .undef => .undef
def Cell.renL (ρ : Nm → Option Nm) : List Cell → List Cell
  | [] => []
  | c :: l => c.ren ρ :: Cell.renL ρ l
end
mutual
def Cell.refs : Cell → List Nm
  | .ptr n _ => [n]
  | .ref n _ _ => [n]
  | .pel n _ _ => [n]
  | .clo _ a b => Cell.refsL a ++ Cell.refsL b
  | _ => []
def Cell.refsL : List Cell → List Nm
  | [] => []
  | c :: l => c.refs ++ Cell.refsL l
end
def AV.ren (ρ : Nm → Option Nm) (a : AV) : AV := ⟨a.agg, Cell.renL ρ a.cells⟩
def AV.refs (a : AV) : List Nm := Cell.refsL a.cells
def Ent.ren (ρ : Nm → Option Nm) : Ent → Ent
  | .val a => .val (a.ren ρ)
  | .tup as => .tup (as.map (AV.ren ρ))
  | .nil => .nil
def Ent.refs : Ent → List Nm
  | .val a => a.refs
  | .tup as => as.flatMap AV.refs
  | .nil => []
def LObj.refs : LObj → List Nm
  | .row cs => Cell.refsL cs
  | _ => []
def LObj.ren (ρ : Nm → Option Nm) : LObj → LObj
  | .row cs => .row (Cell.renL ρ cs)
  | .arr o s e => .arr o s e
  | .gone => .gone

/-- the objects that are reached from names, in the order in which they are met -/
def collect : Nat → List Nm → List Nm → List LObj → HM (List Nm × List LObj)
  | 0, _, _, _ => .fail
  | _ + 1, [], ns, os => .ret (ns, os)
  | k + 1, n :: q, ns, os =>
    if ns.contains n then collect k q ns os
    else .rd n fun o => match o with
      | some ob => collect k (q ++ ob.refs) (ns ++ [n]) (os ++ [ob])
      | none => collect k q (ns ++ [n]) (os ++ [.gone])

/-- a name's place in a list, as a name of depth 0 -/
def placeOf (ns : List Nm) (n : Nm) : Option Nm :=
  if ns.contains n then some (0, ns.idxOf n) else none
/-- back: the m first ones are the old names, the others new ones of a slot -/
def backOf (slot : Nat) (ns : List Nm) (n : Nm) : Option Nm :=
  if n.1 = 0 then (if n.2 < ns.length then ns[n.2]? else some (slot, n.2 - ns.length)) else none

/-- a cell as data: what is referred to is read (nothing is written, nothing kept); the names that were read -/
def Cell.snap : Nat → Cell → HM (T × List Nm)
  | _, .t x => .ret (x, [])
  | _, .nils s => .ret (.sl s [], [])
  | _, .ref n lo len => .rd n fun
    | some (.arr _ sz es) => if lo + len ≤ es.length then .ret (.sl sz ((es.drop lo).take len), [n]) else .fail
    | _ => .fail
  | _, .pel n i j => .rd n fun
    | some (.arr _ _ es) => .ret (.pt (((es.drop i).flatten).drop j), [n])
    | _ => .fail
  | k + 1, .ptr n i => .rd n fun
    | some (.row cs) => (HM.mapM (Cell.snap k) (cs.drop i)).bind fun ts => .ret (.pt (ts.map (·.1)), n :: ts.flatMap (·.2))
    | _ => .fail
  | k + 1, .clo f a b => (HM.mapM (Cell.snap k) a).bind fun x => (HM.mapM (Cell.snap k) b).bind fun y => .ret (.fn f (x.map (·.1)) (y.map (·.1)), x.flatMap (·.2) ++ y.flatMap (·.2))
  | _, _ => .fail

def snapDepth : Nat := 4
def collectFuel : Nat := 60

/-- an argument of a call: by a snapshot (false), or as it is (true); the names that are lent -/
def argOf (m : Bool) (a : AV) : HM (AV × List Nm) :=
  if m then .ret (a, []) else (HM.mapM (Cell.snap snapDepth) a.cells).bind fun ts => .ret (⟨a.agg, ts.map fun x => .t x.1⟩, ts.flatMap (·.2))

def Cell.flatC : Cell → Bool
  | .t (.v _) => true
  | _ => false
/-- nothing in it may be part of somebody else's memory -/
def Cell.freshC : Cell → Bool
  | .t (.v _) => true
  | .t _ => false
  | .clo _ _ _ => false
  | _ => true
def LObj.freshO : LObj → Bool
  | .row cs => cs.all Cell.freshC
  | .arr own _ _ => own
  | .gone => true

def chunk (sz : Nat) : List T → Nat → List (List T)
  | _, 0 => []
  | cs, n + 1 => cs.take sz :: chunk sz (cs.drop sz) n
/-- a flat row as elements -/
def rowsOf (sz : Nat) (cs : List T) : List (List T) :=
  if sz = 1 then cs.map fun c => [c] else chunk sz cs (cs.length / sz)

abbrev Wr := List (Nm × Option LObj)
abbrev Out := Ent × Wr

def out1 (c : Cell) : HM Out := .ret (.val (.one c), [])
def outA (a : AV) : HM Out := .ret (.val a, [])

/-- a cell that goes into a row of data: what it refers to is handed over (its name is gone); does it come alone? -/
def Cell.give : Cell → HM (T × List Nm × Bool)
  | .t x => .ret (x, [], x.isV)
  | .nils s => .ret (.sl s [], [], true)
  | .ref n lo len => .rd n fun
    | some (.arr own sz es) => if lo + len ≤ es.length then .ret (.sl sz ((es.drop lo).take len), [n], own) else .fail
    | _ => .fail
  | _ => .fail

def giveL : List Cell → HM (List T × List Nm × Bool)
  | [] => .ret ([], [], true)
  | c :: l => c.give.bind fun x => (giveL l).bind fun y =>
    if x.2.1.any (fun n => y.2.1.contains n) then .fail else .ret (x.1 :: y.1, x.2.1 ++ y.2.1, x.2.2 && y.2.2)

def fillC (cells : List Cell) : List (Nat × Nat × List Cell) → Option (List Cell)
  | [] => some cells
  | (off, n, cs) :: r => if cs.length = n ∧ off + cs.length ≤ cells.length then fillC (cells.take off ++ cs ++ cells.drop (off + cs.length)) r else none

def dead (l : List Nm) : Wr := l.map fun n => (n, none)

/-! ### pure operations on flat values -/

def intBin (op : BinOp) (k : IntKind) (a b : Int) : Option Value :=
  match op with
  | .add => some (.int k (k.wrap (a + b)))
  | .sub => some (.int k (k.wrap (a - b)))
  | .mul => some (.int k (k.wrap (a * b)))
  | .quo => if b = 0 then none else some (.int k (k.wrap (a.tdiv b)))
  | .rem => if b = 0 then none else some (.int k (a.tmod b))
  | .and => some (.int k (k.wrap (BitVec.ofInt k.bits a &&& BitVec.ofInt k.bits b).toNat))
  | .or => some (.int k (k.wrap (BitVec.ofInt k.bits a ||| BitVec.ofInt k.bits b).toNat))
  | .xor => some (.int k (k.wrap (BitVec.ofInt k.bits a ^^^ BitVec.ofInt k.bits b).toNat))
  | .andNot => some (.int k (k.wrap (BitVec.ofInt k.bits a &&& ~~~ BitVec.ofInt k.bits b).toNat))
  | .eql => some (.bool (a == b))
  | .neq => some (.bool (a != b))
  | .lss => some (.bool (a < b))
  | .leq => some (.bool (a ≤ b))
  | .gtr => some (.bool (a > b))
  | .geq => some (.bool (a ≥ b))
  | _ => none

def shiftV (op : BinOp) (k : IntKind) (a b : Int) : Option Value :=
  if b < 0 then none else
  match op with
  | .shl => some (.int k (k.wrap (a * 2 ^ min b.toNat k.bits)))
  | .shr => some (.int k (a.fdiv (2 ^ min b.toNat k.bits)))
  | _ => none

def strBin (op : BinOp) (x y : ByteArray) : Option Value :=
  match op with
  | .add => if ((x.size + y.size : Nat) : Int) > IntKind.i64.max then none else some (.string (x ++ y))
  | .eql => some (.bool (x.toList == y.toList))
  | .neq => some (.bool !(x.toList == y.toList))
  | _ => none

def isShift : BinOp → Bool
  | .shl | .shr => true
  | _ => false

def flatBin (op : BinOp) (x y : Value) : Option Value :=
  match x, y with
  | .int k a, .int k' b => if isShift op then shiftV op k a b else if k = k' then intBin op k a b else none
  | .string a, .string b => strBin op a b
  | _, _ => none

def flatUn (op : UnOp) (x : Value) : Option Value :=
  match op, x with
  | .not, .bool b => some (.bool !b)
  | .neg, .int k n => some (.int k (k.wrap (0 - n)))
  | .xor, .int k n => some (.int k (k.wrap (BitVec.ofInt k.bits (if k.signed then -1 else k.max) ^^^ BitVec.ofInt k.bits n).toNat))
  | _, _ => none

def optInt (env : Nat → Ent) (d : Int) : Option Opd → Option Int
  | none => some d
  | some o => (o.get env).bind AV.int?

/-- the bytes of a string as elements -/
def bytesOf (s : ByteArray) : List (List T) := s.data.toList.map fun b => [.v (.int .u8 b.toNat)]

/-- what is appended or copied: the elements, the name that is used up, are they alone -/
def srcOf (sz : Nat) : Cell → HM (List (List T) × List Nm × Bool)
  | .nils _ => .ret ([], [], true)
  | .t (.sl s es) => if s = sz then .ret (es, [], es.all fun e => e.all T.isV) else .fail
  | .t (.v (.string s)) => if sz = 1 then .ret (bytesOf s, [], true) else .fail
  | .ref n lo len => .rd n fun
    | some (.arr own s es) =>
      if s = sz ∧ lo + len ≤ es.length then
        (if (es.all fun e => e.all T.isV) = true then .ret ((es.drop lo).take len, [], true) else .ret ((es.drop lo).take len, [n], own))
      else .fail
    | _ => .fail
  | _ => .fail

/-! ### one operation -/

abbrev EF := FuncId → List AV → List LObj → Option (List AV × List LObj)

def Ent.ofRes : List AV → Ent
  | [r] => .val r
  | rs => .tup rs

def nameOut (slot : Nat) (ns : List Nm) (i : Nat) : Nm :=
  match ns[i]? with
  | some n => n
  | none => (slot, i - ns.length)
def objOut (slot : Nat) (ns : List Nm) : LObj → Option LObj
  | .gone => none
  | .row cs => some (LObj.ren (backOf slot ns) (.row cs))
  | .arr o s e => some (LObj.ren (backOf slot ns) (.arr o s e))
def newsOf (slot : Nat) (ns : List Nm) : Nat → List LObj → Wr
  | _, [] => []
  | i, o :: l => (nameOut slot ns i, objOut slot ns o) :: newsOf slot ns (i + 1) l

def doCall (ef : EF) (slot : Nat) (f : FuncId) (args : List (Bool × AV)) : HM Out :=
  (HM.mapM (fun (p : Bool × AV) => argOf p.1 p.2) args).bind fun as =>
  (collect collectFuel (as.flatMap fun x => x.1.refs) [] []).bind fun nos =>
  match ef f (as.map fun x => x.1.ren (placeOf nos.1)) (nos.2.map (LObj.ren (placeOf nos.1))) with
  | none => .fail
  | some (rs, os) =>
    -- what was lent by a snapshot is not handed over, and must not come back
    let lent := as.flatMap (·.2)
    if nos.1.all (fun n => n.1 != slot) && lent.all (fun n => !nos.1.contains n) && (lent.isEmpty || (rs.all (fun r => r.cells.all Cell.freshC) && os.all LObj.freshO)) then
      .ret (Ent.ofRes (rs.map (AV.ren (backOf slot nos.1))), newsOf slot nos.1 0 os)
    else .fail

def evOp (ef : EF) (slot : Nat) (env : Nat → Ent) : IOp → HM Out
  | .mov x => match x.ent env with
    | .nil => .fail
    | .val a => .ret (.val a, [])
    | .tup as => .ret (.tup as, [])
  | .pick c a b => match (c.get env).bind AV.bool? with
    | some x =>
      if x = true then
        match a.get env with
        | some a => outA a
        | none => .fail
      else
        match b.get env with
        | some b => outA b
        | none => .fail
    | none => .fail
  | .alc z => .ret (.val (.one (.ptr (slot, 0) 0)), [((slot, 0), some (.row z))])
  | .alcA sz n z => .ret (.val (.one (.pel (slot, 0) 0 0)), [((slot, 0), some (.arr true sz (List.replicate n z)))])
  | .box x => match x.full env with
    | some a => .ret (.val (.one (.ptr (slot, 0) 0)), [((slot, 0), some (.row a.cells))])
    | none => .fail
  | .boxA sz x => match x.full env with
    | some a => (giveL a.cells).bind fun g => .ret (.val (.one (.pel (slot, 0) 0 0)), dead g.2.1 ++ [((slot, 0), some (.arr g.2.2 sz (rowsOf sz g.1)))])
    | none => .fail
  | .bld z parts => match parts.mapM (fun p => (p.2.2.full env).map fun a => (p.1, p.2.1, a.cells)) with
    | some ps => match fillC z ps with
      | some cs => outA ⟨true, cs⟩
      | none => .fail
    | none => .fail
  | .bsl sz len z parts => match parts.mapM (fun p => (p.2.2.full env).map fun a => (p.1, p.2.1, a.cells)) with
    | some ps => match fillC ((List.replicate len z).flatten.map Cell.t) ps with
      | some cs => (giveL cs).bind fun g => .ret (.val (.one (.ref (slot, 0) 0 len)), dead g.2.1 ++ [((slot, 0), some (.arr g.2.2 sz (if sz = 1 then g.1.map (fun c => [c]) else chunk sz g.1 len)))])
      | none => .fail
    | none => .fail
  | .ld agg n x => match (x.get env).bind AV.cell? with
    | some (.t (.pt cs)) => if n ≤ cs.length then outA ⟨agg, (cs.take n).map .t⟩ else .fail
    | some (.ptr m i) => .rd m fun
      | some (.row cs) => if i + n ≤ cs.length then outA ⟨agg, (cs.drop i).take n⟩ else .fail
      | _ => .fail
    | some (.pel m i j) => .rd m fun
      | some (.arr own sz es) =>
        if j + n ≤ sz then
          match es[i]? with
          | some e =>
            let r := (e.drop j).take n
            if own && !(r.all T.isV) then .ret (.val ⟨agg, r.map .t⟩, [(m, some (.arr false sz es))]) else outA ⟨agg, r.map .t⟩
          | none => .fail
        else if i = 0 ∧ j = 0 ∧ n = es.length * sz then
          (if own && !(es.flatten.all T.isV) then .ret (.val ⟨agg, es.flatten.map .t⟩, [(m, some (.arr false sz es))]) else outA ⟨agg, es.flatten.map .t⟩)
        else .fail
      | _ => .fail
    | _ => .fail
  | .st n x y => match (x.get env).bind AV.cell?, y.full env with
    | some (.ptr m i), some a => if a.cells.length = n then .rd m fun
        | some (.row cs) => if i + n ≤ cs.length then .ret (.nil, [(m, some (.row (cs.take i ++ a.cells ++ cs.drop (i + n))))]) else .fail
        | _ => .fail
      else .fail
    | some (.pel m i j), some a => if a.cells.length = n then .rd m fun
        | some (.arr own sz es) => (giveL a.cells).bind fun g =>
          if g.2.1.contains m then .fail
          else if j + n ≤ sz then
            match es[i]? with
            | some e => .ret (.nil, dead g.2.1 ++ [(m, some (.arr (own && g.2.2) sz (es.set i (if j = 0 ∧ n = sz then g.1 else e.take j ++ g.1 ++ e.drop (j + n)))))])
            | none => .fail
          else if i = 0 ∧ j = 0 ∧ n = es.length * sz then .ret (.nil, dead g.2.1 ++ [(m, some (.arr (own && g.2.2) sz (rowsOf sz g.1)))])
          else .fail
        | _ => .fail
      else .fail
    | _, _ => .fail
  | .nilc x => match (x.get env).bind AV.cell? with
    | some (.ptr m i) => out1 (.ptr m i)
    | some (.pel m i j) => out1 (.pel m i j)
    | some (.t (.pt cs)) => out1 (.t (.pt cs))
    | _ => .fail
  | .bin op x y => match x.get env, y.get env with
    | some a, some b => match a.flat?, b.flat? with
      | some u, some v => match flatBin op u v with
        | some r => out1 (.t (.v r))
        | none => .fail
      | _, _ => .fail
    | _, _ => .fail
  | .eqb neg x y => match (x.get env).bind AV.bool?, (y.get env).bind AV.bool? with
    | some a, some b => out1 (.t (.v (.bool (if neg then !(a == b) else a == b))))
    | _, _ => .fail
  | .isnil neg x => match (x.get env).bind AV.cell? with
    | some (.ptr _ _) => out1 (.t (.v (.bool neg)))
    | some (.pel _ _ _) => out1 (.t (.v (.bool neg)))
    | some (.t (.pt _)) => out1 (.t (.v (.bool neg)))
    | some (.t (.v (.pointer none))) => out1 (.t (.v (.bool !neg)))
    | _ => .fail
  | .un op x => match (x.get env).bind AV.flat? with
    | some u => match flatUn op u with
      | some r => out1 (.t (.v r))
      | none => .fail
    | none => .fail
  | .cvi k x => match (x.get env).bind AV.int? with
    | some n => out1 (.t (.v (.int k (k.wrap n))))
    | none => .fail
  | .fa off x => match (x.get env).bind AV.cell? with
    | some (.ptr m i) => out1 (.ptr m (i + off))
    | some (.pel m i j) => out1 (.pel m i (j + off))
    | some (.t (.pt cs)) => out1 (.t (.pt (cs.drop off)))
    | _ => .fail
  | .fd agg off n x => match x.get env with
    | some ⟨true, cs⟩ => if off + n ≤ cs.length then outA ⟨agg, (cs.drop off).take n⟩ else .fail
    | _ => .fail
  | .ia none sz x i => match (x.get env).bind AV.cell?, (i.get env).bind AV.int? with
    | some (.ref m lo len), some k => if 0 ≤ k ∧ k < len then .rd m fun
        | some (.arr _ s _) => if s = sz then out1 (.pel m (lo + k.toNat) 0) else .fail
        | _ => .fail
      else .fail
    | some (.t (.sl s es)), some k => if 0 ≤ k ∧ s = sz then (match es[k.toNat]? with | some e => out1 (.t (.pt e)) | none => .fail) else .fail
    | _, _ => .fail
  | .ia (some n) sz x i => match (x.get env).bind AV.cell?, (i.get env).bind AV.int? with
    | some (.ptr m j), some k => if 0 ≤ k ∧ k < n then out1 (.ptr m (j + k.toNat * sz)) else .fail
    | some (.pel m a b), some k => if 0 ≤ k ∧ k < n then .rd m fun
        | some (.arr _ s _) => if s = sz ∧ b = 0 then out1 (.pel m (a + k.toNat) 0) else out1 (.pel m a (b + k.toNat * sz))
        | _ => .fail
      else .fail
    | some (.t (.pt cs)), some k => if 0 ≤ k ∧ k < n then out1 (.t (.pt (cs.drop (k.toNat * sz)))) else .fail
    | _, _ => .fail
  | .ixs x i => match (x.get env).bind AV.flat?, (i.get env).bind AV.int? with
    | some (.string s), some k => if 0 ≤ k then (match s.data.toList[k.toNat]? with | some b => out1 (.t (.v (.int .u8 b.toNat))) | none => .fail) else .fail
    | _, _ => .fail
  | .ixa agg n sz x i => match x.get env, (i.get env).bind AV.int? with
    | some ⟨true, cs⟩, some k => if 0 ≤ k ∧ k < n then (if k.toNat * sz + sz ≤ cs.length then outA ⟨agg, (cs.drop (k.toNat * sz)).take sz⟩ else .fail) else .fail
    | _, _ => .fail
  | .ms sz z l c => match (l.get env).bind AV.int?, (c.get env).bind AV.int? with
    | some l, some c => if 0 ≤ l ∧ l ≤ c ∧ c ≤ 4294967296 then .ret (.val (.one (.ref (slot, 0) 0 l.toNat)), [((slot, 0), some (.arr true sz (List.replicate l.toNat z)))]) else .fail
    | _, _ => .fail
  | .sls x lo hi => match (x.get env).bind AV.flat? with
    | some (.string s) => match optInt env 0 lo, optInt env s.size hi with
      | some l, some h => if 0 ≤ l ∧ l ≤ h ∧ h ≤ s.size then out1 (.t (.v (.string (s.extract l.toNat h.toNat)))) else .fail
      | _, _ => .fail
    | _ => .fail
  | .slc sz x lo hi => match (x.get env).bind AV.cell? with
    | some (.ref m a len) => match optInt env 0 lo, optInt env len hi with
      | some l, some h => if 0 ≤ l ∧ l ≤ h ∧ h ≤ len then .rd m fun
          | some (.arr _ s _) => if s = sz then out1 (.ref m (a + l.toNat) (h.toNat - l.toNat)) else .fail
          | _ => .fail
        else .fail
      | _, _ => .fail
    | some (.t (.sl s es)) => match optInt env 0 lo, optInt env es.length hi with
      | some l, some h => if 0 ≤ l ∧ l ≤ h ∧ h ≤ es.length ∧ s = sz then out1 (.t (.sl sz ((es.take h.toNat).drop l.toNat))) else .fail
      | _, _ => .fail
    | some (.nils s) => match optInt env 0 lo, optInt env 0 hi with
      | some l, some h => if l = 0 ∧ h = 0 then out1 (.nils s) else .fail
      | _, _ => .fail
    | _ => .fail
  | .sla n sz x lo hi => match (x.get env).bind AV.cell?, optInt env 0 lo, optInt env n hi with
    | some (.pel m 0 0), some l, some h => if 0 ≤ l ∧ l ≤ h ∧ h ≤ n then .rd m fun
        | some (.arr _ s es) => if es.length = n ∧ s = sz then out1 (.ref m l.toNat (h.toNat - l.toNat)) else .fail
        | _ => .fail
      else .fail
    | _, _, _ => .fail
  | .app sz x y =>
    match (x.get env).bind AV.cell?, (y.get env).bind AV.cell? with
    | some cx, some cy => (srcOf sz cy).bind fun b =>
      match cx with
      | .nils s => if b.1.length = 0 then out1 (.nils s)
        else if b.1.length ≤ 4294967296 then .ret (.val (.one (.ref (slot, 0) 0 b.1.length)), dead b.2.1 ++ [((slot, 0), some (.arr b.2.2 sz b.1))])
        else .fail
      | .ref n lo len => .rd n fun
        | some (.arr own s es) =>
          if s = sz ∧ lo + len = es.length ∧ len + b.1.length ≤ 4294967296 then
            (if b.2.1.contains n then .fail else .ret (.val (.one (.ref (slot, 0) 0 (len + b.1.length))), dead (n :: b.2.1) ++ [((slot, 0), some (.arr (own && b.2.2) sz (es.drop lo ++ b.1)))]))
          else .fail
        | _ => .fail
      | _ => .fail
    | _, _ => .fail
  | .len x => match (x.get env).bind AV.cell? with
    | some (.ref _ _ len) => out1 (.t (.v (.int .i64 len)))
    | some (.t (.sl _ es)) => out1 (.t (.v (.int .i64 es.length)))
    | some (.nils _) => out1 (.t (.v (.int .i64 0)))
    | _ => .fail
  | .lens x => match (x.get env).bind AV.flat? with
    | some (.string s) => out1 (.t (.v (.int .i64 s.size)))
    | _ => .fail
  | .lena n => out1 (.t (.v (.int .i64 n)))
  | .cpy sz x y =>
    match (x.get env).bind AV.cell?, (y.get env).bind AV.cell? with
    | some (.ref n lo len), some cy => (srcOf sz cy).bind fun b =>
      if b.2.1.length = 0 ∧ b.2.2 = true then
        .rd n fun
        | some (.arr own s es) =>
          if s = sz ∧ lo + len ≤ es.length then
            .ret (.val (.int .i64 (min b.1.length len : Nat)), [(n, some (.arr own s (es.take lo ++ b.1.take (min b.1.length len) ++ es.drop (lo + min b.1.length len))))])
          else .fail
        | _ => .fail
      else .fail
    | _, _ => .fail
  | .mkf f a b => match a.mapM (fun o => (o.get env).bind AV.cell?), b.mapM (fun o => (o.get env).bind AV.cell?) with
    | some x, some y => out1 (.clo f x y)
    | _, _ => .fail
  | .call f args => match args.mapM (fun p => (p.2.get env).map fun a => (p.1, a)) with
    | some as => doCall ef slot f as
    | none => .fail
  | .callv x args => match (x.get env).bind AV.cell?, args.mapM (fun p => (p.2.get env).map fun a => (p.1, a)) with
    | some (.clo f first caps), some as => doCall ef slot f (first.map (fun c => (true, AV.one c)) ++ as ++ caps.map fun c => (true, AV.one c))
    | some (.t (.fn f first caps)), some as => doCall ef slot f (first.map (fun c => (true, AV.one (.t c))) ++ as ++ caps.map fun c => (true, AV.one (.t c)))
    | _, _ => .fail
  | .mnx mx x y => match (x.get env).bind AV.flat?, (y.get env).bind AV.flat? with
    | some (.int k a), some (.int k' b) => if k = k' then out1 (.t (.v (.int k (if mx = true then max a b else min a b)))) else .fail
    | _, _ => .fail
  | .bad => .fail
  | .ext i x => match x with
    | .t n => match env n with
      | .tup as => match as[i]? with
        | some a => outA a
        | none => .fail
      | _ => .fail
    | _ => .fail

/-! ### regions -/

structure St where
  env : Nat → Ent
  heap : Nm → Option LObj
  next : Nat

def putWr (h : Nm → Option LObj) : Wr → Nm → Option LObj
  | [] => h
  | (n, o) :: l => putWr (upd h n o) l

def putDst (env : Nat → Ent) (d : Option Nat) (e : Ent) : Nat → Ent :=
  match d with
  | some t => upd env t e
  | none => env

/-- what an operation does, if its guard lets it: the slot's new content, what is written, which names were read -/
structure Foot where
  rd : List Nm
  wr : List Nm

def stepU (ef : EF) (slot : Nat) (o : IOper) (σ : St) : Option (St × Foot) :=
  match (evOp ef slot σ.env o.op).val σ.heap with
  | some (e, w) => some (⟨putDst σ.env o.dst e, putWr σ.heap w, σ.next⟩, ⟨(evOp ef slot σ.env o.op).names σ.heap, w.map (·.1)⟩)
  | none => none

/-- what a step that is left out leaves -/
def Ent.isUnd : Ent → Bool
  | .tup [] => true
  | _ => false

def stepSkip (o : IOper) (σ : St) : St × Foot := (⟨putDst σ.env o.dst (.tup []), σ.heap, σ.next⟩, ⟨[], []⟩)

/-- by its guard; where the guard is not known yet the way parts, and each way knows it -/
def stepG (ef : EF) (slot : Nat) (o : IOper) (σ : St) : Option (St × Foot) :=
  match o.guard with
  | none => stepU ef slot o σ
  | some (g, want) =>
    match (σ.env g).bool? with
    | none => if (σ.env g).isUnd = true then some (stepSkip o σ) else none
    | some x =>
      if x = true then
        (if want = true then stepU ef slot o { σ with env := upd σ.env g (.val (.bool true)) } else some (stepSkip o { σ with env := upd σ.env g (.val (.bool true)) }))
      else
        (if want = true then some (stepSkip o { σ with env := upd σ.env g (.val (.bool false)) }) else stepU ef slot o { σ with env := upd σ.env g (.val (.bool false)) })

def Opd.tmp : Opd → List Nat
  | .t n => [n]
  | .c _ => []
def optTmp : Option Opd → List Nat
  | some o => o.tmp
  | none => []
def IOp.tmps : IOp → List Nat
  | .mov x | .isnil _ x | .box x | .boxA _ x | .ld _ _ x | .nilc x | .un _ x | .cvi _ x | .fa _ x | .fd _ _ _ x | .len x | .lens x | .ext _ x => x.tmp
  | .pick a b c => a.tmp ++ b.tmp ++ c.tmp
  | .alc _ | .alcA _ _ _ | .lena _ | .bad => []
  | .bld _ ps | .bsl _ _ _ ps => ps.flatMap fun p => p.2.2.tmp
  | .st _ x y | .bin _ x y | .eqb _ x y | .ia _ _ x y | .ixs x y | .ixa _ _ _ x y | .ms _ _ x y | .app _ x y | .cpy _ x y | .mnx _ x y => x.tmp ++ y.tmp
  | .sls x l h | .slc _ x l h | .sla _ _ x l h => x.tmp ++ optTmp l ++ optTmp h
  | .mkf _ a b => a.flatMap Opd.tmp ++ b.flatMap Opd.tmp
  | .call _ as => as.flatMap fun p => p.2.tmp
  | .callv x as => x.tmp ++ as.flatMap fun p => p.2.tmp
def IOper.looks (o : IOper) : List Nat := o.op.tmps ++ (match o.guard with | some (g, _) => [g] | none => [])

/-- may the two change places? -/
def apartB (x y : IOper) (f g : Foot) : Bool :=
  (match x.dst with | some d => !(y.looks.contains d) && (match y.dst with | some e => d != e | none => true) | none => true) &&
  (match y.dst with | some d => !(x.looks.contains d) | none => true) &&
  f.wr.all (fun n => !(g.rd.contains n) && !(g.wr.contains n)) && g.wr.all (fun n => !(f.rd.contains n))

/-- each later one that does not wait for an earlier one may change places with it -/
def orderB : List (Nat × IOper × Foot) → Bool
  | [] => true
  | (i, x, f) :: l => l.all (fun (_, y, g) => y.after.contains i || apartB x y f g) && orderB l

def runOps (ef : EF) (base : Nat) : List (Nat × IOper) → St → Option St
  | [], σ => some σ
  | (i, o) :: l, σ => match stepG ef (base + i) o σ with
    | some (σ', _) => runOps ef base l σ'
    | none => none

def runDraw (ef : EF) (base : Nat) : List (Nat × IOper) → List (Nat × IOper × Foot) → St → Option St
  | [], acc, σ => if orderB acc = true then some σ else none
  | (i, o) :: l, acc, σ => match stepG ef (base + i) o σ with
    | some (σ', f) => runDraw ef base l (acc ++ [(i, o, f)]) σ'
    | none => none

def indexed : Nat → List IOper → List (Nat × IOper)
  | _, [] => []
  | i, o :: l => (i, o) :: indexed (i + 1) l

def runReg (ef : EF) (draw : Bool) (ops : List IOper) (σ : St) : Option St :=
  let σ' : St := { σ with next := σ.next + ops.length }
  if draw then runDraw ef σ.next (indexed 0 ops) [] σ' else runOps ef σ.next (indexed 0 ops) σ'

/-- may the two change places, if neither writes? -/
def apartS (x y : IOper) : Bool :=
  (match x.dst with | some d => !(y.looks.contains d) && (match y.dst with | some e => d != e | none => true) | none => true) &&
  (match y.dst with | some d => !(x.looks.contains d) | none => true)

/-- only flagged ones may write; they wait for all ahead of them, and all behind wait for them -/
def ordS (flags : List Nat) : List (Nat × IOper) → Bool
  | [] => true
  | (i, x) :: l => l.all (fun (j, y) => y.after.contains i || (!flags.contains i && !flags.contains j && apartS x y)) && ordS flags l

def runQ (ef : EF) (base : Nat) (flags : List Nat) : List (Nat × IOper) → St → Option St
  | [], σ => some σ
  | (i, o) :: l, σ => match stepG ef (base + i) o σ with
    | some (σ', f) => if (f.wr.isEmpty || flags.contains i) = true then runQ ef base flags l σ' else none
    | none => none

def runRegQ (ef : EF) (flags : List Nat) (ops : List IOper) (σ : St) : Option St := runQ ef σ.next flags (indexed 0 ops) { σ with next := σ.next + ops.length }

/-! ### code -/

inductive Ex where
  | normal
  | exit (id : Nat)
  | ret
  deriving DecidableEq

def envOf (ρ : Nm → Option Nm) (env : Nat → Ent) : List Nat → Nat → Ent
  | [] => fun _ => .nil
  | t :: l => upd (envOf ρ env l) t ((env t).ren ρ)

def heapOf (ρ : Nm → Option Nm) : Nat → List LObj → Nm → Option LObj
  | _, [] => fun _ => none
  | i, .gone :: l => heapOf ρ (i + 1) l
  | i, o :: l => upd (heapOf ρ (i + 1) l) (0, i) (some (o.ren ρ))

/-- what is not wanted any more is forgotten, and names are given anew -/
def norm (m : Nat) (live : List Nat) (σ : St) : Option St :=
  match (collect collectFuel ((List.range m).map (fun i => (0, i)) ++ live.flatMap fun t => (σ.env t).refs) [] []).val σ.heap with
  | none => none
  | some (ns, os) => some ⟨envOf (placeOf ns) σ.env live, heapOf (placeOf ns) 0 os, 1⟩

mutual
def evC (ef : EF) (m : Nat) : Nat → IC → St → Option (Ex × St)
  | _, .skip, σ => some (.normal, σ)
  | _, .reg draw ops, σ => match runReg ef draw ops σ with
    | some σ' => some (.normal, σ')
    | none => none
  | k, .seq a b, σ => match evC ef m k a σ with
    | some (.normal, σ') => evC ef m k b σ'
    | r => r
  | k, .cond c a b, σ => match (c.get σ.env).bind AV.bool? with
    | some x => if x = true then evC ef m k a σ else evC ef m k b σ
    | none => none
  | k, .blk id b, σ => match evC ef m k b σ with
    | some (.exit i, σ') => if i = id then some (.normal, σ') else some (.exit i, σ')
    | r => r
  | k, .loop live b, σ => evL ef m k live b σ
  | k, .nrm live b, σ => match evC ef m k b σ with
    | some (.normal, σ') => match norm m live σ' with
      | some σ'' => some (.normal, σ'')
      | none => none
    | r => r
  | _, .retn live, σ => match norm m live σ with
    | some σ' => some (.ret, σ')
    | none => none
  | _, .regq flags ops, σ => match runRegQ ef flags ops σ with
    | some σ' => some (.normal, σ')
    | none => none
  | _, .bad, _ => none
  | _, .exit id, σ => some (.exit id, σ)
  | _, .ret, σ => some (.ret, σ)
def evL (ef : EF) (m : Nat) : Nat → List Nat → IC → St → Option (Ex × St)
  | 0, _, _, _ => none
  | k + 1, live, b, σ => match norm m live σ with
    | none => none
    | some σ0 => match evC ef m k b σ0 with
      | some (.normal, σ') => evL ef m k live b σ'
      | r => r
end

/-! ### functions -/

def entryEnv : Nat → List AV → Nat → Ent
  | _, [] => fun _ => .nil
  | i, a :: l => upd (entryEnv (i + 1) l) i (.val a)

def entryHeap : Nat → List LObj → Nm → Option LObj
  | _, [] => fun _ => none
  | i, .gone :: l => entryHeap (i + 1) l
  | i, o :: l => upd (entryHeap (i + 1) l) (0, i) (some o)

def resOf (env : Nat → Ent) : IRes → HM AV
  | .tmp t => match env t with
    | .val a => .ret a
    | _ => .fail
  | .cell t agg n => match env t with
    | .val ⟨false, [.ptr m i]⟩ => .rd m fun
      | some (.row cs) => if i + n ≤ cs.length then .ret ⟨agg, (cs.drop i).take n⟩ else .fail
      | _ => .fail
    | .val ⟨false, [.pel m 0 0]⟩ => .rd m fun
      | some (.arr own sz es) => if n = es.length * sz ∧ (own = false ∨ es.flatten.all T.isV) then .ret ⟨agg, es.flatten.map .t⟩ else .fail
      | _ => .fail
    | _ => .fail

def finish (fn : IFn) (m : Nat) (σ : St) : Option (List AV × List LObj) :=
  match (HM.mapM (resOf σ.env) fn.results).val σ.heap with
  | none => none
  | some rs =>
    match (collect collectFuel ((List.range m).map (fun i => (0, i)) ++ rs.flatMap AV.refs) [] []).val σ.heap with
    | none => none
    | some (ns, os) => some (rs.map (AV.ren (placeOf ns)), os.map (LObj.ren (placeOf ns)))

def evFn (ef : EF) (k : Nat) (fn : IFn) (args : List AV) (objs : List LObj) : Option (List AV × List LObj) :=
  match evC ef objs.length k fn.body ⟨entryEnv 0 args, entryHeap 0 objs, 1⟩ with
  | some (.exit _, _) => none
  | some (_, σ) => finish fn objs.length σ
  | none => none

/-- the program: functions of the IR, and functions that are given by what they do (proved by hand) -/
structure Tab where
  fns : FuncId → Option IFn
  given : FuncId → Option (List AV → List LObj → Option (List AV × List LObj))

def evN (tb : Tab) : Nat → EF
  | 0, _, _, _ => none
  | k + 1, f, args, objs => match tb.given f with
    | some g => g args objs
    | none => match tb.fns f with
      | some fn => evFn (evN tb k) k fn args objs
      | none => none

end Go.Pur
