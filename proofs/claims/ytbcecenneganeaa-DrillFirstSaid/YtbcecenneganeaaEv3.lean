import Derived.Test.YtbcecenneganeaaEv2
set_option linter.all false
namespace Go.Proofs.Ytbcecenneganeaa.Ev

/-- What is known of a type: its form, its cells, its bytes, its zero value. -/
structure TI where
  desc : TypeDesc
  size : Nat
  bytes : Nat
  zero : AV
  plain : Bool
  comp : Bool

/-- What is known of a function. 'lm': 0: its slices lie in memory that may be written; 1: they are lists of which no cell turns; 2: as its caller's. 'iso': it runs by itself, in empty memory, over frozen arguments. -/
structure FI where
  body : Code
  ntmps : Nat
  results : List ResultVar
  lm : Nat
  iso : Bool
  pts : List Nat
  rts : List Nat

structure Tab where
  ty : Tr (Option TI)
  fn : Tr (Option FI)
  con : Nat → List AV → Tr AO → Nat → Option (AV × Tr AO × Nat)

def Tab.t (T : Tab) (t : Nat) : Option TI := T.ty.get none t
def Tab.f (T : Tab) (f : Nat) : Option FI := T.fn.get none f

def scal : Value → AV
  | .string b => .str b.data.toList
  | v => .lit v

def ofConst : Value → AV
  | .agg cs => .agg (cs.toList.map scal)
  | v => scal v

def udef : AV := .tup []

/-- An activation: its temporaries, its things in memory, its marks. -/
structure AS where
  tmps : Tr AV
  nt : Nat
  heap : Tr AO
  hs : Nat
  defs : List Nat
  lm : Bool

inductive AX where
  | normal
  | exit (id : Nat)
  | goto (l : Nat)
  | ret

def opd (s : AS) : Operand → Option AV
  | .tmp t => bif Nat.blt t s.nt then some (s.tmps.get .any t) else none
  | .const v => some (ofConst v)
  | .func f => some (.fn (.func f) [] [])
  | .global _ => none

def opds (s : AS) : List Operand → Option (List AV)
  | [] => some []
  | x :: l => match opd s x, opds s l with
    | some a, some as => some (a :: as)
    | _, _ => none

def isAggD : TypeDesc → Bool
  | .struct _ => true
  | .array _ _ => true
  | _ => false

def oneCell : AV → Bool
  | .agg _ => false
  | .tup _ => false
  | .opq _ => false
  | .any => false
  | .lit v => v.oneCell'
  | _ => true

/-- May its cells be taken? -/
def flatOk : AV → Bool
  | .opq _ => false
  | .any => false
  | .lit (.agg _) => false
  | _ => true

/-- Cells off .. off + n of a thing. -/
def rd (H : Tr AO) (o off n : Nat) : Option (List AV) :=
  match H.get .dead o with
  | .cells c _ => bif Nat.ble (off + n) c.length then some ((c.drop off).take n) else none
  | _ => none

def splice (c : List AV) (off : Nat) (vs : List AV) : List AV := c.take off ++ (vs ++ c.drop (off + vs.length))

def wr (H : Tr AO) (o off : Nat) (vs : List AV) : Option (Tr AO) :=
  match H.get .dead o with
  | .cells c false => bif Nat.ble (off + vs.length) c.length && vs.all oneCell then some (H.put .dead o (.cells (splice c off vs) false)) else none
  | _ => none

def sizeOk (n : Nat) (e : AV) : Bool := Nat.beq e.cells.length n

/-- A variable's value. -/
def ldv (T : Tab) (H : Tr AO) (t : Nat) : AV → Option AV
  | .eptr cs => match T.t t with
    | some i => bif Nat.blt 0 i.size && Nat.ble i.size cs.length then
        (bif isAggD i.desc then some (.agg (cs.take i.size)) else match cs.take i.size with | [v] => some v | _ => none) else none
    | none => none
  | .ptr o off => match T.t t with
    | some i => match rd H o off i.size with
      | some l => bif isAggD i.desc then some (.agg l) else match l with | [v] => some v | _ => none
      | none => none
    | none => none
  | _ => none

def part' (T : Tab) (t : Nat) (cs : List AV) (off : Nat) : Option AV :=
  match T.t t with
  | some i => bif isAggD i.desc then (bif Nat.ble (off + i.size) cs.length then some (.agg ((cs.drop off).take i.size)) else none) else cs[off]?
  | none => none

def intBin (op : BinOp) (k : IntKind) (a b : Int) : Option AV :=
  match op with
  | .add => some (.lit (.int k (k.wrap (a + b))))
  | .sub => some (.lit (.int k (k.wrap (a - b))))
  | .mul => some (.lit (.int k (k.wrap (a * b))))
  | .quo => bif decide (b = 0) then none else some (.lit (.int k (k.wrap (a.tdiv b))))
  | .rem => bif decide (b = 0) then none else some (.lit (.int k (a.tmod b)))
  | .and => some (.lit (.int k (k.wrap (BitVec.ofInt k.bits a &&& BitVec.ofInt k.bits b).toNat)))
  | .or => some (.lit (.int k (k.wrap (BitVec.ofInt k.bits a ||| BitVec.ofInt k.bits b).toNat)))
  | .xor => some (.lit (.int k (k.wrap (BitVec.ofInt k.bits a ^^^ BitVec.ofInt k.bits b).toNat)))
  | .andNot => some (.lit (.int k (k.wrap (BitVec.ofInt k.bits a &&& ~~~BitVec.ofInt k.bits b).toNat)))
  | .eql => some (.lit (.bool (decide (a = b))))
  | .neq => some (.lit (.bool (!decide (a = b))))
  | .lss => some (.lit (.bool (decide (a < b))))
  | .leq => some (.lit (.bool (decide (a ≤ b))))
  | .gtr => some (.lit (.bool (decide (a > b))))
  | .geq => some (.lit (.bool (decide (a ≥ b))))
  | _ => none

def shiftBin (op : BinOp) (k : IntKind) (a b : Int) : Option AV :=
  bif decide (b < 0) then none else
  match op with
  | .shl => some (.lit (.int k (k.wrap (a * 2 ^ (min b.toNat k.bits)))))
  | .shr => some (.lit (.int k (a.fdiv (2 ^ (min b.toNat k.bits)))))
  | _ => none

def strBin (op : BinOp) (a b : List UInt8) : Option AV :=
  match op with
  | .add => bif Nat.ble (a.length + b.length) 9223372036854775807 then some (.str (a ++ b)) else none
  | .eql => some (.lit (.bool (a == b)))
  | .neq => some (.lit (.bool !(a == b)))
  | .lss => some (.lit (.bool (Op.bytesLess a b)))
  | .leq => some (.lit (.bool (Op.bytesLess a b || a == b)))
  | .gtr => some (.lit (.bool !(Op.bytesLess a b || a == b)))
  | .geq => some (.lit (.bool !(Op.bytesLess a b)))
  | _ => none

def eqFields (T : Tab) (rec : Nat → AV → AV → Option Bool) : List Field → List AV → List AV → Option Bool
  | [], _, _ => some true
  | f :: fs, xs, ys => bif decide (f.name = "_") then eqFields T rec fs xs ys else
    match part' T f.type xs f.offset, part' T f.type ys f.offset with
    | some a, some b => match rec f.type a b with
      | some true => eqFields T rec fs xs ys
      | some false => some false
      | none => none
    | _, _ => none

/-- Are two values of a type one? (what is known) -/
def eqv (T : Tab) : Nat → Nat → AV → AV → Option Bool
  | 0, _, _, _ => none
  | d + 1, t, x, y => match T.t t with
    | none => none
    | some i => match i.desc, x, y with
      | .bool, .lit (.bool a), .lit (.bool b) => some (a == b)
      | .int _, .lit (.int k a), .lit (.int k' b) => bif decide (k = k') then some (decide (a = b)) else none
      | .string, .str a, .str b => some (a == b)
      | .pointer _, .lit (.pointer none), .lit (.pointer none) => some true
      | .pointer _, .lit (.pointer none), .ptr _ _ => some false
      | .pointer _, .ptr _ _, .lit (.pointer none) => some false
      | .pointer _, .lit (.pointer none), .eptr _ => some false
      | .pointer _, .eptr _, .lit (.pointer none) => some false
      | .slice _, .lit (.slice none _ _), .lst _ (_ :: _) => some false
      | .slice _, .lst _ (_ :: _), .lit (.slice none _ _) => some false
      | .slice _, .lit (.slice none _ _), .lit (.slice none _ _) => some true
      | .slice _, .lit (.slice none _ _), .slc _ _ _ _ => some false
      | .slice _, .slc _ _ _ _, .lit (.slice none _ _) => some false
      | .slice _, .emp, .lit (.slice none _ _) => some false
      | .map _ _, .lit (.map none), .lit (.map none) => some true
      | .map _ _, .lit (.map none), .mp _ => some false
      | .map _ _, .mp _, .lit (.map none) => some false
      | .func _ _ _, .lit .nilFunc, .lit .nilFunc => some true
      | .func _ _ _, .lit .nilFunc, .fn _ _ _ => some false
      | .func _ _ _, .fn _ _ _, .lit .nilFunc => some false
      | .struct fs, .agg xs, .agg ys => bif i.plain then eqFields T (eqv T d) fs.toList xs ys else none
      | _, _, _ => none

def binV (T : Tab) (op : BinOp) (t : Nat) (x y : AV) : Option AV :=
  match x, y with
  | .lit (.int k a), .lit (.int k' b) => match op with
    | .shl => shiftBin .shl k a b
    | .shr => shiftBin .shr k a b
    | _ => bif decide (k = k') then intBin op k a b else none
  | .str a, .str b => strBin op a b
  | _, _ => match T.t t with
    | some i => bif i.plain then
      (match op with
      | .eql => match eqv T 20 t x y with | some b => some (.lit (.bool b)) | none => none
      | .neq => match eqv T 20 t x y with | some b => some (.lit (.bool !b)) | none => none
      | _ => none) else none
    | none => none

def isConst : Operand → Bool
  | .const _ => true
  | _ => false

/-- Two values of an interface type, at least one of them nil. -/
def ifcBin (T : Tab) (op : BinOp) (t : Nat) (p q : Operand) (x y : AV) : Option AV :=
  match T.t t with
  | none => none
  | some i => match i.desc with
    | .interface _ => (match x, y with
      | .ifc _ _, .lit .nilIface => (match op with | .eql => some (.lit (.bool false)) | .neq => some (.lit (.bool true)) | _ => none)
      | .lit .nilIface, .ifc _ _ => (match op with | .eql => some (.lit (.bool false)) | .neq => some (.lit (.bool true)) | _ => none)
      | .ifc tx vx, .ifc ty vy => bif Nat.beq tx ty then
          (match T.t tx with
          | some j => bif j.comp then (match eqv T 19 tx vx vy, op with | some b, .eql => some (.lit (.bool b)) | some b, .neq => some (.lit (.bool !b)) | _, _ => none) else none
          | none => none)
        else (match op with | .eql => some (.lit (.bool false)) | .neq => some (.lit (.bool true)) | _ => none)
      | .lit .nilIface, .lit .nilIface => bif isConst p || isConst q then (match op with | .eql => some (.lit (.bool true)) | .neq => some (.lit (.bool false)) | _ => none) else none
      | _, _ => none)
    | _ => none

def unV (op : UnOp) (x : AV) : Option AV :=
  match op, x with
  | .neg, .lit (.int k n) => some (.lit (.int k (k.wrap (0 - n))))
  | .not, .lit (.bool b) => some (.lit (.bool !b))
  | _, _ => none

def convV (T : Tab) (src dst : Nat) (x : AV) : Option AV :=
  match T.t src, T.t dst with
  | some _, some j => match j.desc, x with
    | .int k, .lit (.int _ n) => some (.lit (.int k (k.wrap n)))
    | .string, .str l => some (.str l)
    | _, _ => none
  | _, _ => none

def fillV (place : Nat → Option (Nat × Nat)) (cells : List AV) : List (Nat × AV) → Option (List AV)
  | [] => some cells
  | (i, v) :: rest => match place i with
    | none => none
    | some (off, size) => bif decide (v.cells.length = size) && Nat.ble (off + v.cells.length) cells.length then fillV place (splice cells off v.cells) rest else none

def places (T : Tab) (fs : Array Field) (i : Nat) : Option (Nat × Nat) :=
  match fs[i]? with
  | some f => match T.t f.type with
    | some fi => some (f.offset, fi.size)
    | none => none
  | none => none

def opdParts (s : AS) : List (Nat × Operand) → Option (List (Nat × AV))
  | [] => some []
  | (i, x) :: l => match opd s x, opdParts s l with
    | some a, some as => some ((i, a) :: as)
    | _, _ => none

/-- A bound of a slice expression. -/
def bnd (s : AS) (x : Option Operand) (d : Nat) : Option Nat :=
  match x with
  | none => some d
  | some y => match opd s y with
    | some (.lit (.int _ n)) => bif decide (0 ≤ n) then some n.toNat else none
    | _ => none

/-- The third bound: none: it can't be told; some none: there is none. -/
def mxb (s : AS) (hi mx : Option Operand) : Option (Option Nat) :=
  match mx, hi with
  | none, _ => some none
  | some m, some _ => match bnd s (some m) 0 with
    | some k => some (some k)
    | none => none
  | some _, none => none

/-- s[a:b], s[a:b:m] of a slice in memory. -/
def slcV (o off len : Nat) (cap : ACap) (size a b : Nat) (m : Option Nat) : Option AV :=
  match cap, m with
  | .ex c, none => bif Nat.ble a b && Nat.ble b c then some (.slc o (bif Nat.beq c a then off else off + a * size) (b - a) (.ex (c - a))) else none
  | .ex c, some m => bif Nat.ble a b && Nat.ble b m && Nat.ble m c then some (.slc o (bif Nat.beq m a then off else off + a * size) (b - a) (.ex (m - a))) else none
  | .op z, none => bif Nat.ble a b && Nat.ble b len && Nat.beq z size then (bif Nat.blt a len || Nat.beq a 0 then some (.slc o (off + a * size) (b - a) (.op z)) else some .emp) else none
  | .op z, some m => bif Nat.ble a b && Nat.ble b m && Nat.ble m len then some (.slc o (bif Nat.beq m a then off else off + a * size) (b - a) (.ex (m - a))) else none

/-- What an operation comes to that reads no memory and writes none. -/
def pureOp (T : Tab) (s : AS) : Op → Option AV
  | .move x => opd s x
  | .assign x => opd s x
  | .pick c a b => match opd s c, opd s a, opd s b with
    | some (.lit (.bool t)), some u, some v => some (bif t then u else v)
    | _, _, _ => none
  | .nilCheck x => match opd s x with
    | some (.ptr o off) => some (.ptr o off)
    | some (.eptr cs) => some (.eptr cs)
    | some (.fn (.func f) a b) => some (.fn (.func f) a b)
    | _ => none
  | .binOp op t x y _ => match opd s x, opd s y with
    | some a, some b => (match binV T op t a b with
      | some r => some r
      | none => ifcBin T op t x y a b)
    | _, _ => none
  | .unOp op _ x => match opd s x with
    | some a => unV op a
    | none => none
  | .convert src dst x => match opd s x with
    | some a => convV T src dst a
    | none => none
  | .makeFunc f a b => match opds s a.toList, opds s b.toList with
    | some x, some y => some (.fn f x y)
    | _, _ => none
  | .extract x i => match opd s x with
    | some (.tup vs) => vs[i]?
    | _ => none
  | .field t x i => match opd s x, T.t t with
    | some (.agg cs), some ti => match ti.desc with
      | .struct fs => match fs[i]? with
        | some f => part' T f.type cs f.offset
        | none => none
      | _ => none
    | _, _ => none
  | .fieldAddr t x i => match opd s x, T.t t with
    | some (.ptr o off), some ti => match ti.desc with
      | .struct fs => match fs[i]? with
        | some f => match T.t f.type with
          | some fi => bif Nat.beq fi.size 0 then none else some (.ptr o (off + f.offset))
          | none => none
        | none => none
      | _ => none
    | some (.eptr cs), some ti => match ti.desc with
      | .struct fs => match fs[i]? with
        | some f => match T.t f.type with
          | some fi => bif Nat.beq fi.size 0 then none else some (.eptr (cs.drop f.offset))
          | none => none
        | none => none
      | _ => none
    | _, _ => none
  | .indexAddr t x i => match opd s x, opd s i, T.t t with
    | some (.slc o off len _), some (.lit (.int _ n)), some ti => match ti.desc with
      | .slice e => match T.t e with
        | some ei => bif decide (0 ≤ n ∧ n < (len : Int)) then some (.ptr o (off + n.toNat * ei.size)) else none
        | none => none
      | _ => none
    | some (.ptr o off), some (.lit (.int _ n)), some ti => match ti.desc with
      | .array len e => match T.t e with
        | some ei => bif decide (0 ≤ n ∧ n < (len : Int)) then some (.ptr o (off + n.toNat * ei.size)) else none
        | none => none
      | _ => none
    | some (.lst _ es), some (.lit (.int _ n)), some ti => match ti.desc with
      | .slice e => match T.t e with
        | some ei => bif decide (0 ≤ n) then (match es[n.toNat]? with | some x => bif sizeOk ei.size x then some (.eptr x.cells) else none | none => none) else none
        | none => none
      | _ => none
    | some (.eptr cs), some (.lit (.int _ n)), some ti => match ti.desc with
      | .array len e => match T.t e with
        | some ei => bif decide (0 ≤ n ∧ n < (len : Int)) then some (.eptr (cs.drop (n.toNat * ei.size))) else none
        | none => none
      | _ => none
    | _, _, _ => none
  | .index t x i => match opd s x, opd s i, T.t t with
    | some (.str l), some (.lit (.int _ n)), some ti => match ti.desc with
      | .string => bif decide (0 ≤ n) then (match l[n.toNat]? with | some b => some (.lit (.int .u8 b.toNat)) | none => none) else none
      | _ => none
    | _, _, _ => none
  | .build t parts => match opdParts s parts.toList, T.t t with
    | some ps, some ti => match ti.desc, ti.zero with
      | .struct fs, .agg z => match fillV (places T fs) z ps with
        | some cs => bif fs.toList.all (fun f => (T.t f.type).isSome) && ps.all (fun p => flatOk p.2) then some (.agg cs) else none
        | none => none
      | .array _ e, .agg z => match T.t e with
        | some ei => match fillV (fun i => some (i * ei.size, ei.size)) z ps with
          | some cs => bif ps.all (fun p => flatOk p.2) then some (.agg cs) else none
          | none => none
        | none => none
      | _, _ => none
    | _, _ => none
  | .slice t x lo hi mx => match opd s x, T.t t with
    | some (.str l), some ti => match ti.desc, mx with
      | .string, none =>
        match bnd s lo 0, bnd s hi l.length with
        | some a, some b => bif Nat.ble a b && Nat.ble b l.length then some (.str ((l.take b).drop a)) else none
        | _, _ => none
      | _, _ => none
    | some (.slc o off len cap), some ti => match ti.desc with
      | .slice e => match T.t e, bnd s lo 0, bnd s hi len, mxb s hi mx with
        | some ei, some a, some b, some m => slcV o off len cap ei.size a b m
        | _, _, _, _ => none
      | _ => none
    | some (.lst _ es), some ti => match ti.desc with
      | .slice e => match T.t e, bnd s lo 0, bnd s hi es.length, mxb s hi mx with
        | some ei, some a, some b, some none => bif Nat.ble a b && Nat.ble b es.length && es.all (sizeOk ei.size) then some (.lst .no ((es.take b).drop a)) else none
        | some ei, some a, some b, some (some m) => bif Nat.ble a b && Nat.ble b m && Nat.ble m es.length && es.all (sizeOk ei.size) then some (.lst (bif Nat.beq b m then .full else .no) ((es.take b).drop a)) else none
        | _, _, _, _ => none
      | _ => none
    | some .emp, some ti => match ti.desc, mx with
      | .slice e, none => match bnd s lo 0, bnd s hi 0, T.t e with
        | some 0, some 0, some _ => some .emp
        | _, _, _ => none
      | _, _ => none
    | some (.lit (.slice none 0 0)), some ti => match ti.desc, mx with
      | .slice e, none => match bnd s lo 0, bnd s hi 0, T.t e with
        | some 0, some 0, some _ => some (.lit (.slice none 0 0))
        | _, _, _ => none
      | _, _ => none
    | some (.ptr o off), some ti => match ti.desc, mx with
      | .array n e, none => match T.t e, bnd s lo 0, bnd s hi n with
        | some ei, some a, some b => slcV o off n (.ex n) ei.size a b none
        | _, _, _ => none
      | _, _ => none
    | _, _ => none
  | .makeInterface t x => match opd s x, T.t t with
    | some a, some ti => match ti.desc with
      | .interface _ => none
      | _ => some (.ifc t a)
    | _, _ => none
  | .call c => match c.callee, c.args.toList, c.argTypes.toList with
    | .builtin .len, [x], [t] => match opd s x, T.t t with
      | some (.str l), some ti => match ti.desc with | .string => some (.lit (.int .i64 l.length)) | _ => none
      | some (.slc _ _ len _), some ti => match ti.desc with | .slice _ => some (.lit (.int .i64 len)) | _ => none
      | some (.lit (.slice none n _)), some ti => match ti.desc with | .slice _ => some (.lit (.int .i64 n)) | _ => none
      | some (.lst _ es), some ti => match ti.desc with | .slice _ => some (.lit (.int .i64 es.length)) | _ => none
      | some .emp, some ti => match ti.desc with | .slice _ => some (.lit (.int .i64 0)) | _ => none
      | _, _ => none
    | .builtin .cap, [x], [t] => match opd s x, T.t t with
      | some (.slc _ _ _ (.ex c)), some ti => match ti.desc with | .slice _ => some (.lit (.int .i64 c)) | _ => none
      | some (.lit (.slice none _ c)), some ti => match ti.desc with | .slice _ => some (.lit (.int .i64 c)) | _ => none
      | _, _ => none
    | _, _, _ => none
  | _ => none

/-- Are two keys one? -/
def keyEq : TypeDesc → AV → AV → Option Bool
  | .int _, .lit (.int k a), .lit (.int k' b) => bif decide (k = k') then some (decide (a = b)) else none
  | .string, .str a, .str b => some (a == b)
  | .bool, .lit (.bool a), .lit (.bool b) => some (a == b)
  | _, _, _ => none

/-- Where a key stands: none: it can't be told. -/
def findE (d : TypeDesc) (k : AV) : List (AV × AV × Nat) → Nat → Option (Option (Nat × AV))
  | [], _ => some none
  | (a, b, _) :: l, i => match keyEq d k a with
    | some true => some (some (i, b))
    | some false => findE d k l (i + 1)
    | none => none

def okKey : TypeDesc → Bool
  | .int _ => true
  | .string => true
  | .bool => true
  | _ => false

/-- The bytes that cells hold. -/
def bytesOf : List AV → Option (List UInt8)
  | [] => some []
  | .lit (.int .u8 n) :: l => match bytesOf l with
    | some r => some (UInt8.ofNat n.toNat :: r)
    | none => none
  | _ => none

/-- What an operation comes to that reads memory. -/
def readOp (T : Tab) (s : AS) (H : Tr AO) : Op → Option AV
  | .load t x => match opd s x with
    | some a => ldv T H t a
    | none => none
  | .convert src dst x => match opd s x, T.t src, T.t dst with
    | some a, some i, some j => match i.desc, j.desc with
      | .slice e, .string => match T.t e with
        | some ei => match ei.desc, a with
          | .int .u8, .slc o off n _ => match rd H o off n with
            | some l => match bytesOf l with
              | some r => some (.str r)
              | none => none
            | none => none
          | .int .u8, .lst _ es => match bytesOf es with
            | some r => some (.str r)
            | none => none
          | .int .u8, .lit (.slice none 0 0) => some (.str [])
          | .int .u8, .emp => some (.str [])
          | _, _ => none
        | none => none
      | _, _ => none
    | _, _, _ => none
  | .lookup t x k ok => match opd s x, opd s k, T.t t with
    | some m, some kv, some ti => match ti.desc with
      | .map kt et => match T.t kt, T.t et with
        | some ki, some ei => bif okKey ki.desc then
            (match (match m with | .lit (.map none) => some [] | .mp o => (match H.get .dead o with | .map es _ => some es | _ => none) | .fmp es => some es | _ => none) with
             | some es => match findE ki.desc kv es 0 with
               | some (some (_, v)) => some (bif ok then .tup [v, .lit (.bool true)] else v)
               | some none => some (bif ok then .tup [ei.zero, .lit (.bool false)] else ei.zero)
               | none => none
             | none => none) else none
        | _, _ => none
      | _ => none
    | _, _, _ => none
  | .call c => match c.callee, c.args.toList, c.argTypes.toList with
    | .builtin .len, [x], [t] => match opd s x, T.t t with
      | some (.mp o), some ti => match ti.desc, H.get .dead o with
        | .map _ _, .map es _ => some (.lit (.int .i64 es.length))
        | _, _ => none
      | some (.lit (.map none)), some ti => match ti.desc with
        | .map _ _ => some (.lit (.int .i64 0))
        | _ => none
      | some (.fmp es), some ti => match ti.desc with
        | .map _ _ => some (.lit (.int .i64 es.length))
        | _ => none
      | _, _ => none
    | _, _, _ => none
  | _ => none

/-- A row of elements, with values at some places. -/
def setEs (es : List AV) : List (Nat × AV) → List AV
  | [] => es
  | (i, v) :: l => setEs (es.set i v) l

/-- What an operation makes: a thing, and the value that names it. -/
def newOp (T : Tab) (s : AS) (hs : Nat) : Op → Option (AO × AV)
  | .alloc t => match T.t t with
    | some ti => bif flatOk ti.zero then some (.cells ti.zero.cells false, .ptr hs 0) else none
    | none => none
  | .box _ x => match opd s x with
    | some a => bif flatOk a then some (.cells a.cells false, .ptr hs 0) else none
    | none => none
  | .buildSlice t len parts => match opdParts s parts.toList, T.t t with
    | some ps, some ti => match ti.desc with
      | .slice e => match T.t e with
        | some ei => bif Nat.ble (len * ei.size) 16777216 && Nat.blt 0 ei.size && decide (ei.zero.cells.length = ei.size) && ps.all (fun p => flatOk p.2) && flatOk ei.zero then
            bif s.lm && ps.all (fun p => sizeOk ei.size p.2 && Nat.blt p.1 len) then some (.dead, .lst .full (setEs (List.replicate len ei.zero) ps)) else
            (match fillV (fun i => some (i * ei.size, ei.size)) (List.replicate len ei.zero.cells).flatten ps with
             | some cs => some (.cells cs false, .slc hs 0 len (.ex len))
             | none => none) else none
        | none => none
      | _ => none
    | _, _ => none
  | .makeSlice t l c => match opd s l, opd s c, T.t t with
    | some (.lit (.int .i64 n)), some (.lit (.int .i64 m)), some ti => match ti.desc with
      | .slice e => match T.t e with
        | some ei => bif decide (0 ≤ n ∧ n ≤ m ∧ m * ei.bytes ≤ 281474976710656 ∧ m ≤ 9223372036854775807) && Nat.blt 0 ei.size && decide (ei.zero.cells.length = ei.size) && flatOk ei.zero then
            bif s.lm && decide (n = 0) then some (.room ei.size, .lst (.room hs) []) else
            some (.cells (List.replicate m.toNat ei.zero.cells).flatten false, .slc hs 0 n.toNat (.ex m.toNat)) else none
        | none => none
      | _ => none
    | _, _, _ => none
  | .makeMap _ none => some (.map [] 0, .mp hs)
  | _ => none

end Go.Proofs.Ytbcecenneganeaa.Ev
