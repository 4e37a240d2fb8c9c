import Derived.Test.YtcledcfeddlomaaGreatDoorEv2
import Derived.Lib.Bytealg
set_option linter.all false
namespace Go.Proofs.YtcledcfeddlomaaGreatDoor.Ev
structure TI where
 desc : TypeDesc
 size : Nat
 bytes : Nat
 zero : AV
 plain : Bool
 comp : Bool
structure FI where
 body : Code
 ntmps : Nat
 results : List ResultVar
 lm : Nat
 iso : Bool
 own : Bool
 spl : Option Nat
 pts : List Nat
 rts : List Nat
structure Tab where
 ty : Tr (Option TI)
 fn : Tr (Option FI)
 nat : Tr (Option Nat)
 con : Nat -> List AV -> Tr AO -> Nat -> Option (AV × Tr AO × Nat)
def Tab.t (T : Tab) (t : Nat) : Option TI := T.ty.get none t
def Tab.n (T : Tab) (f : Nat) : Option Nat := T.nat.get none f
def Tab.f (T : Tab) (f : Nat) : Option FI := T.fn.get none f
def scal : Value -> AV
 | .string b => .str b.data.toList
 | v => .lit v
def ofConst : Value -> AV
 | .agg cs => .agg (cs.toList.map scal)
 | v => scal v
def udef : AV := .tup []
structure AS where
 tmps : Tr AV
 nt : Nat
 heap : Tr AO
 hs : Nat
 defs : List Nat
 md : Md
inductive AX where
 | normal
 | exit (id : Nat)
 | goto (l : Nat)
 | ret
def opd (s : AS) : Operand -> Option AV
 | .tmp t => bif Nat.blt t s.nt then some (s.tmps.get .any t) else none
 | .const v => some (ofConst v)
 | .func f => some (.fn (.func f) [] [])
 | .global g => s.md.gl.get none g
def opds (s : AS) : List Operand -> Option (List AV)
 | [] => some []
 | x :: l => match opd s x, opds s l with
  | some a, some as => some (a :: as)
  | _, _ => none
def isAggD : TypeDesc -> Bool
 | .struct _ => true
 | .array _ _ => true
 | _ => false
def oneCell : AV -> Bool
 | .agg _ => false
 | .tup _ => false
 | .opq _ => false
 | .any => false
 | .lit v => v.oneCell'
 | _ => true
def flatOk : AV -> Bool
 | .opq _ => false
 | .any => false
 | .lit (.agg _) => false
 | _ => true
def rd (H : Tr AO) (o off n : Nat) : Option (List AV) :=
 match H.get .dead o with
 | .cells c _ => bif Nat.ble (off + n) c.length then some ((c.drop off).take n) else none
 | _ => none
def splice (c : List AV) (off : Nat) (vs : List AV) : List AV := c.take off ++ (vs ++ c.drop (off + vs.length))
def wr (H : Tr AO) (o off : Nat) (vs : List AV) : Option (Tr AO) :=
 match H.get .dead o with
 | .cells c false => bif Nat.ble (off + vs.length) c.length && vs.all oneCell then some (H.put .dead o (.cells (splice c off vs) false)) else none
 | _ => none
def sizeOk (n : Nat) (e : AV) : Bool := Nat.beq e.cells.length n
def ldv (T : Tab) (H : Tr AO) (t : Nat) : AV -> Option AV
 | .eptr cs => match T.t t with
  | some i => bif Nat.blt 0 i.size && Nat.ble i.size cs.length then
    (bif isAggD i.desc then some (.agg (cs.take i.size)) else match cs.take i.size with | [v] => some v | _ => none) else none
  | none => none
 | .ptr o off => match T.t t with
  | some i => match rd H o off i.size with
   | some l => bif isAggD i.desc then some (.agg l) else match l with | [v] => some v | _ => none
   | none => none
  | none => none
 | _ => none
def part' (T : Tab) (t : Nat) (cs : List AV) (off : Nat) : Option AV :=
 match T.t t with
 | some i => bif isAggD i.desc then (bif Nat.ble (off + i.size) cs.length then some (.agg ((cs.drop off).take i.size)) else none) else cs[off]?
 | none => none
def intBin (op : BinOp) (k : IntKind) (a b : Int) : Option AV :=
 match op with
 | .add => some (.lit (.int k (k.wrap (a + b))))
 | .sub => some (.lit (.int k (k.wrap (a - b))))
 | .mul => some (.lit (.int k (k.wrap (a * b))))
 | .quo => bif decide (b = 0) then none else some (.lit (.int k (k.wrap (a.tdiv b))))
 | .rem => bif decide (b = 0) then none else some (.lit (.int k (a.tmod b)))
 | .and => some (.lit (.int k (k.wrap (BitVec.ofInt k.bits a &&& BitVec.ofInt k.bits b).toNat)))
 | .or => some (.lit (.int k (k.wrap (BitVec.ofInt k.bits a ||| BitVec.ofInt k.bits b).toNat)))
 | .xor => some (.lit (.int k (k.wrap (BitVec.ofInt k.bits a ^^^ BitVec.ofInt k.bits b).toNat)))
 | .andNot => some (.lit (.int k (k.wrap (BitVec.ofInt k.bits a &&& ~~~BitVec.ofInt k.bits b).toNat)))
 | .eql => some (.lit (.bool (decide (a = b))))
 | .neq => some (.lit (.bool (!decide (a = b))))
 | .lss => some (.lit (.bool (decide (a < b))))
 | .leq => some (.lit (.bool (decide (a <= b))))
 | .gtr => some (.lit (.bool (decide (a > b))))
 | .geq => some (.lit (.bool (decide (a ≥ b))))
 | _ => none
def shiftBin (op : BinOp) (k : IntKind) (a b : Int) : Option AV :=
 bif decide (b < 0) then none else
 match op with
 | .shl => some (.lit (.int k (k.wrap (a * 2 ^ (min b.toNat k.bits)))))
 | .shr => some (.lit (.int k (a.fdiv (2 ^ (min b.toNat k.bits)))))
 | _ => none
def strBin (op : BinOp) (a b : List UInt8) : Option AV :=
 match op with
 | .add => bif Nat.ble (a.length + b.length) 9223372036854775807 then some (.str (a ++ b)) else none
 | .eql => some (.lit (.bool (a == b)))
 | .neq => some (.lit (.bool !(a == b)))
 | .lss => some (.lit (.bool (Op.bytesLess a b)))
 | .leq => some (.lit (.bool (Op.bytesLess a b || a == b)))
 | .gtr => some (.lit (.bool !(Op.bytesLess a b || a == b)))
 | .geq => some (.lit (.bool !(Op.bytesLess a b)))
 | _ => none
def eqFields (T : Tab) (rec : Nat -> AV -> AV -> Option Bool) : List Field -> List AV -> List AV -> Option Bool
 | [], _, _ => some true
 | f :: fs, xs, ys => bif decide (f.name = "_") then eqFields T rec fs xs ys else
  match part' T f.type xs f.offset, part' T f.type ys f.offset with
  | some a, some b => match rec f.type a b with
   | some true => eqFields T rec fs xs ys
   | some false => some false
   | none => none
  | _, _ => none
def eqv (T : Tab) : Nat -> Nat -> AV -> AV -> Option Bool
 | 0, _, _, _ => none
 | d + 1, t, x, y => match T.t t with
  | none => none
  | some i => match i.desc, x, y with
   | .bool, .lit (.bool a), .lit (.bool b) => some (a == b)
   | .int _, .lit (.int k a), .lit (.int k' b) => bif decide (k = k') then some (decide (a = b)) else none
   | .string, .str a, .str b => some (a == b)
   | .pointer _, .lit (.pointer none), .lit (.pointer none) => some true
   | .pointer _, .lit (.pointer none), .ptr _ _ => some false
   | .pointer _, .ptr _ _, .lit (.pointer none) => some false
   | .pointer _, .lit (.pointer none), .eptr _ => some false
   | .pointer _, .eptr _, .lit (.pointer none) => some false
   | .slice _, .lit (.slice none _ _), .lst _ (_ :: _) => some false
   | .slice _, .lst _ (_ :: _), .lit (.slice none _ _) => some false
   | .slice _, .lit (.slice none _ _), .lit (.slice none _ _) => some true
   | .slice _, .lit (.slice none _ _), .slc _ _ _ _ => some false
   | .slice _, .slc _ _ _ _, .lit (.slice none _ _) => some false
   | .slice _, .emp, .lit (.slice none _ _) => some false
   | .map _ _, .lit (.map none), .lit (.map none) => some true
   | .map _ _, .lit (.map none), .mp _ => some false
   | .map _ _, .mp _, .lit (.map none) => some false
   | .func _ _ _, .lit .nilFunc, .lit .nilFunc => some true
   | .func _ _ _, .lit .nilFunc, .fn _ _ _ => some false
   | .func _ _ _, .fn _ _ _, .lit .nilFunc => some false
   | .struct fs, .agg xs, .agg ys => bif i.plain then eqFields T (eqv T d) fs.toList xs ys else none
   | _, _, _ => none
def binV (T : Tab) (op : BinOp) (t : Nat) (x y : AV) : Option AV :=
 match x, y with
 | .lit (.int k a), .lit (.int k' b) => match op with
  | .shl => shiftBin .shl k a b
  | .shr => shiftBin .shr k a b
  | _ => bif decide (k = k') then intBin op k a b else none
 | .str a, .str b => strBin op a b
 | _, _ => match T.t t with
  | some i => bif i.plain then
   (match op with
   | .eql => match eqv T 20 t x y with | some b => some (.lit (.bool b)) | none => none
   | .neq => match eqv T 20 t x y with | some b => some (.lit (.bool !b)) | none => none
   | _ => none) else none
  | none => none
def isConst : Operand -> Bool
 | .const _ => true
 | _ => false
def ifcBin (T : Tab) (op : BinOp) (t : Nat) (p q : Operand) (x y : AV) : Option AV :=
 match T.t t with
 | none => none
 | some i => match i.desc with
  | .interface _ => (match x, y with
   | .ifc _ _, .lit .nilIface => (match op with | .eql => some (.lit (.bool false)) | .neq => some (.lit (.bool true)) | _ => none)
   | .lit .nilIface, .ifc _ _ => (match op with | .eql => some (.lit (.bool false)) | .neq => some (.lit (.bool true)) | _ => none)
   | .ifc tx vx, .ifc ty vy => bif Nat.beq tx ty then
     (match T.t tx with
     | some j => bif j.comp then (match eqv T 19 tx vx vy, op with | some b, .eql => some (.lit (.bool b)) | some b, .neq => some (.lit (.bool !b)) | _, _ => none) else none
     | none => none)
    else (match op with | .eql => some (.lit (.bool false)) | .neq => some (.lit (.bool true)) | _ => none)
   | .lit .nilIface, .lit .nilIface => bif isConst p || isConst q then (match op with | .eql => some (.lit (.bool true)) | .neq => some (.lit (.bool false)) | _ => none) else none
   | _, _ => none)
  | _ => none
def unV (op : UnOp) (x : AV) : Option AV :=
 match op, x with
 | .neg, .lit (.int k n) => some (.lit (.int k (k.wrap (0 - n))))
 | .not, .lit (.bool b) => some (.lit (.bool !b))
 | _, _ => none
def convV (T : Tab) (src dst : Nat) (x : AV) : Option AV :=
 match T.t src, T.t dst with
 | some _, some j => match j.desc, x with
  | .int k, .lit (.int _ n) => some (.lit (.int k (k.wrap n)))
  | .string, .str l => some (.str l)
  | _, _ => none
 | _, _ => none
def fillV (place : Nat -> Option (Nat × Nat)) (cells : List AV) : List (Nat × AV) -> Option (List AV)
 | [] => some cells
 | (i, v) :: rest => match place i with
  | none => none
  | some (off, size) => bif decide (v.cells.length = size) && Nat.ble (off + v.cells.length) cells.length then fillV place (splice cells off v.cells) rest else none
def places (T : Tab) (fs : Array Field) (i : Nat) : Option (Nat × Nat) :=
 match fs[i]? with
 | some f => match T.t f.type with
  | some fi => some (f.offset, fi.size)
  | none => none
 | none => none
def opdParts (s : AS) : List (Nat × Operand) -> Option (List (Nat × AV))
 | [] => some []
 | (i, x) :: l => match opd s x, opdParts s l with
  | some a, some as => some ((i, a) :: as)
  | _, _ => none
def bnd (s : AS) (x : Option Operand) (d : Nat) : Option Nat :=
 match x with
 | none => some d
 | some y => match opd s y with
  | some (.lit (.int _ n)) => bif decide (0 <= n) then some n.toNat else none
  | _ => none
def mxb (s : AS) (hi mx : Option Operand) : Option (Option Nat) :=
 match mx, hi with
 | none, _ => some none
 | some m, some _ => match bnd s (some m) 0 with
  | some k => some (some k)
  | none => none
 | some _, none => none
def slcV (o off len : Nat) (cap : ACap) (size a b : Nat) (m : Option Nat) : Option AV :=
 match cap, m with
 | .ex c, none => bif Nat.ble a b && Nat.ble b c then some (.slc o (bif Nat.beq c a then off else off + a * size) (b - a) (.ex (c - a))) else none
 | .ex c, some m => bif Nat.ble a b && Nat.ble b m && Nat.ble m c then some (.slc o (bif Nat.beq m a then off else off + a * size) (b - a) (.ex (m - a))) else none
 | .op z, none => bif Nat.ble a b && Nat.ble b len && Nat.beq z size then (bif Nat.blt a len || Nat.beq a 0 then some (.slc o (off + a * size) (b - a) (.op z)) else some .emp) else none
 | .op z, some m => bif Nat.ble a b && Nat.ble b m && Nat.ble m len then some (.slc o (bif Nat.beq m a then off else off + a * size) (b - a) (.ex (m - a))) else none
def pureOp (T : Tab) (s : AS) : Op -> Option AV
 | .move x => opd s x
 | .assign x => opd s x
 | .pick c a b => match opd s c, opd s a, opd s b with
  | some (.lit (.bool t)), some u, some v => some (bif t then u else v)
  | _, _, _ => none
 | .nilCheck x => match opd s x with
  | some (.ptr o off) => some (.ptr o off)
  | some (.eptr cs) => some (.eptr cs)
  | some (.fn (.func f) a b) => some (.fn (.func f) a b)
  | _ => none
 | .binOp op t x y _ => match opd s x, opd s y with
  | some a, some b => (match binV T op t a b with
   | some r => some r
   | none => ifcBin T op t x y a b)
  | _, _ => none
 | .unOp op _ x => match opd s x with
  | some a => unV op a
  | none => none
 | .convert src dst x => match opd s x with
  | some a => convV T src dst a
  | none => none
 | .makeFunc f a b => match opds s a.toList, opds s b.toList with
  | some x, some y => some (.fn f x y)
  | _, _ => none
 | .extract x i => match opd s x with
  | some (.tup vs) => vs[i]?
  | _ => none
 | .field t x i => match opd s x, T.t t with
  | some (.agg cs), some ti => match ti.desc with
   | .struct fs => match fs[i]? with
    | some f => part' T f.type cs f.offset
    | none => none
   | _ => none
  | _, _ => none
 | .fieldAddr t x i => match opd s x, T.t t with
  | some (.ptr o off), some ti => match ti.desc with
   | .struct fs => match fs[i]? with
    | some f => match T.t f.type with
     | some fi => bif Nat.beq fi.size 0 then none else some (.ptr o (off + f.offset))
     | none => none
    | none => none
   | _ => none
  | some (.eptr cs), some ti => match ti.desc with
   | .struct fs => match fs[i]? with
    | some f => match T.t f.type with
     | some fi => bif Nat.beq fi.size 0 then none else some (.eptr (cs.drop f.offset))
     | none => none
    | none => none
   | _ => none
  | _, _ => none
 | .indexAddr t x i => match opd s x, opd s i, T.t t with
  | some (.slc o off len _), some (.lit (.int _ n)), some ti => match ti.desc with
   | .slice e => match T.t e with
    | some ei => bif decide (0 <= n /\ n < (len : Int)) then some (.ptr o (off + n.toNat * ei.size)) else none
    | none => none
   | _ => none
  | some (.ptr o off), some (.lit (.int _ n)), some ti => match ti.desc with
   | .array len e => match T.t e with
    | some ei => bif decide (0 <= n /\ n < (len : Int)) then some (.ptr o (off + n.toNat * ei.size)) else none
    | none => none
   | _ => none
  | some (.lst _ es), some (.lit (.int _ n)), some ti => match ti.desc with
   | .slice e => match T.t e with
    | some ei => bif decide (0 <= n) then (match es[n.toNat]? with | some x => bif sizeOk ei.size x then some (.eptr x.cells) else none | none => none) else none
    | none => none
   | _ => none
  | some (.eptr cs), some (.lit (.int _ n)), some ti => match ti.desc with
   | .array len e => match T.t e with
    | some ei => bif decide (0 <= n /\ n < (len : Int)) then some (.eptr (cs.drop (n.toNat * ei.size))) else none
    | none => none
   | _ => none
  | _, _, _ => none
 | .index t x i => match opd s x, opd s i, T.t t with
  | some (.str l), some (.lit (.int _ n)), some ti => match ti.desc with
   | .string => bif decide (0 <= n) then (match l[n.toNat]? with | some b => some (.lit (.int .u8 b.toNat)) | none => none) else none
   | _ => none
  | _, _, _ => none
 | .build t parts => match opdParts s parts.toList, T.t t with
  | some ps, some ti => match ti.desc, ti.zero with
   | .struct fs, .agg z => match fillV (places T fs) z ps with
    | some cs => bif fs.toList.all (fun f => (T.t f.type).isSome) && ps.all (fun p => flatOk p.2) then some (.agg cs) else none
    | none => none
   | .array _ e, .agg z => match T.t e with
    | some ei => match fillV (fun i => some (i * ei.size, ei.size)) z ps with
     | some cs => bif ps.all (fun p => flatOk p.2) then some (.agg cs) else none
     | none => none
    | none => none
   | _, _ => none
  | _, _ => none
 | .slice t x lo hi mx => match opd s x, T.t t with
  | some (.str l), some ti => match ti.desc, mx with
   | .string, none =>
    match bnd s lo 0, bnd s hi l.length with
    | some a, some b => bif Nat.ble a b && Nat.ble b l.length then some (.str ((l.take b).drop a)) else none
    | _, _ => none
   | _, _ => none
  | some (.slc o off len cap), some ti => match ti.desc with
   | .slice e => match T.t e, bnd s lo 0, bnd s hi len, mxb s hi mx with
    | some ei, some a, some b, some m => slcV o off len cap ei.size a b m
    | _, _, _, _ => none
   | _ => none
  | some (.lst _ es), some ti => match ti.desc with
   | .slice e => match T.t e, bnd s lo 0, bnd s hi es.length, mxb s hi mx with
    | some ei, some a, some b, some none => bif Nat.ble a b && Nat.ble b es.length && es.all (sizeOk ei.size) then some (.lst .no ((es.take b).drop a)) else none
    | some ei, some a, some b, some (some m) => bif Nat.ble a b && Nat.ble b m && Nat.ble m es.length && es.all (sizeOk ei.size) then some (.lst (bif Nat.beq b m then .full else .no) ((es.take b).drop a)) else none
    | _, _, _, _ => none
   | _ => none
  | some .emp, some ti => match ti.desc, mx with
   | .slice e, none => match bnd s lo 0, bnd s hi 0, T.t e with
    | some 0, some 0, some _ => some .emp
    | _, _, _ => none
   | _, _ => none
  | some (.lit (.slice none 0 0)), some ti => match ti.desc, mx with
   | .slice e, none => match bnd s lo 0, bnd s hi 0, T.t e with
    | some 0, some 0, some _ => some (.lit (.slice none 0 0))
    | _, _, _ => none
   | _, _ => none
  | some (.ptr o off), some ti => match ti.desc, mx with
   | .array n e, none => match T.t e, bnd s lo 0, bnd s hi n with
    | some ei, some a, some b => slcV o off n (.ex n) ei.size a b none
    | _, _, _ => none
   | _, _ => none
  | _, _ => none
 | .makeInterface t x => match opd s x, T.t t with
  | some a, some ti => match ti.desc with
   | .interface _ => none
   | _ => some (.ifc t a)
  | _, _ => none
 | .call c => match c.callee, c.args.toList, c.argTypes.toList with
  | .builtin .len, [x], [t] => match opd s x, T.t t with
   | some (.str l), some ti => match ti.desc with | .string => some (.lit (.int .i64 l.length)) | _ => none
   | some (.slc _ _ len _), some ti => match ti.desc with | .slice _ => some (.lit (.int .i64 len)) | _ => none
   | some (.lit (.slice none n _)), some ti => match ti.desc with | .slice _ => some (.lit (.int .i64 n)) | _ => none
   | some (.lst _ es), some ti => match ti.desc with | .slice _ => some (.lit (.int .i64 es.length)) | _ => none
   | some .emp, some ti => match ti.desc with | .slice _ => some (.lit (.int .i64 0)) | _ => none
   | _, _ => none
  | .builtin .cap, [x], [t] => match opd s x, T.t t with
   | some (.slc _ _ _ (.ex c)), some ti => match ti.desc with | .slice _ => some (.lit (.int .i64 c)) | _ => none
   | some (.lit (.slice none _ c)), some ti => match ti.desc with | .slice _ => some (.lit (.int .i64 c)) | _ => none
   | _, _ => none
  | .builtin .max, [x, y], [_, _] => match opd s x, opd s y with
   | some (.lit (.int k a)), some (.lit (.int _ b)) => some (.lit (.int k (bif decide (a < b) then b else a)))
   | _, _ => none
  | .builtin .min, [x, y], [_, _] => match opd s x, opd s y with
   | some (.lit (.int k a)), some (.lit (.int _ b)) => some (.lit (.int k (bif decide (b < a) then b else a)))
   | _, _ => none
  | _, _, _ => none
 | _ => none
def keyEq : TypeDesc -> AV -> AV -> Option Bool
 | .int _, .lit (.int k a), .lit (.int k' b) => bif decide (k = k') then some (decide (a = b)) else none
 | .string, .str a, .str b => some (a == b)
 | .bool, .lit (.bool a), .lit (.bool b) => some (a == b)
 | _, _, _ => none
def findE (d : TypeDesc) (k : AV) : List (AV × AV × Nat) -> Nat -> Option (Option (Nat × AV))
 | [], _ => some none
 | (a, b, _) :: l, i => match keyEq d k a with
  | some true => some (some (i, b))
  | some false => findE d k l (i + 1)
  | none => none
def okKey : TypeDesc -> Bool
 | .int _ => true
 | .string => true
 | .bool => true
 | _ => false
def bytesOf : List AV -> Option (List UInt8)
 | [] => some []
 | .lit (.int .u8 n) :: l => match bytesOf l with
  | some r => some (UInt8.ofNat n.toNat :: r)
  | none => none
 | _ => none
def readOp (T : Tab) (s : AS) (H : Tr AO) : Op -> Option AV
 | .load t x => match opd s x with
  | some a => ldv T H t a
  | none => none
 | .convert src dst x => match opd s x, T.t src, T.t dst with
  | some a, some i, some j => match i.desc, j.desc with
   | .slice e, .string => match T.t e with
    | some ei => match ei.desc, a with
     | .int .u8, .slc o off n _ => match rd H o off n with
      | some l => match bytesOf l with
       | some r => some (.str r)
       | none => none
      | none => none
     | .int .u8, .lst _ es => match bytesOf es with
      | some r => some (.str r)
      | none => none
     | .int .u8, .lit (.slice none 0 0) => some (.str [])
     | .int .u8, .emp => some (.str [])
     | _, _ => none
    | none => none
   | _, _ => none
  | _, _, _ => none
 | .lookup t x k ok => match opd s x, opd s k, T.t t with
  | some m, some kv, some ti => match ti.desc with
   | .map kt et => match T.t kt, T.t et with
    | some ki, some ei => bif okKey ki.desc then
      (match (match m with | .lit (.map none) => some [] | .mp o => (match H.get .dead o with | .map es _ => some es | _ => none) | .fmp es => some es | _ => none) with
       | some es => match findE ki.desc kv es 0 with
        | some (some (_, v)) => some (bif ok then .tup [v, .lit (.bool true)] else v)
        | some none => some (bif ok then .tup [ei.zero, .lit (.bool false)] else ei.zero)
        | none => none
       | none => none) else none
    | _, _ => none
   | _ => none
  | _, _, _ => none
 | .call c => match c.callee, c.args.toList, c.argTypes.toList with
  | .builtin .len, [x], [t] => match opd s x, T.t t with
   | some (.mp o), some ti => match ti.desc, H.get .dead o with
    | .map _ _, .map es _ => some (.lit (.int .i64 es.length))
    | _, _ => none
   | some (.lit (.map none)), some ti => match ti.desc with
    | .map _ _ => some (.lit (.int .i64 0))
    | _ => none
   | some (.fmp es), some ti => match ti.desc with
    | .map _ _ => some (.lit (.int .i64 es.length))
    | _ => none
   | _, _ => none
  | _, _, _ => none
 | _ => none
def setEs (es : List AV) : List (Nat × AV) -> List AV
 | [] => es
 | (i, v) :: l => setEs (es.set i v) l
def newOp (T : Tab) (s : AS) (hs : Nat) : Op -> Option (AO × AV)
 | .alloc t => match T.t t with
  | some ti => bif flatOk ti.zero then some (.cells ti.zero.cells false, .ptr hs 0) else none
  | none => none
 | .box _ x => match opd s x with
  | some a => bif flatOk a then some (.cells a.cells false, .ptr hs 0) else none
  | none => none
 | .buildSlice t len parts => match opdParts s parts.toList, T.t t with
  | some ps, some ti => match ti.desc with
   | .slice e => match T.t e with
    | some ei => bif Nat.ble (len * ei.size) 16777216 && Nat.blt 0 ei.size && decide (ei.zero.cells.length = ei.size) && ps.all (fun p => flatOk p.2) && flatOk ei.zero then
      bif s.md.lm && ps.all (fun p => sizeOk ei.size p.2 && Nat.blt p.1 len) then some (.dead, .lst .full (setEs (List.replicate len ei.zero) ps)) else
      (match fillV (fun i => some (i * ei.size, ei.size)) (List.replicate len ei.zero.cells).flatten ps with
       | some cs => some (.cells cs false, .slc hs 0 len (.ex len))
       | none => none) else none
    | none => none
   | _ => none
  | _, _ => none
 | .makeSlice t l c => match opd s l, opd s c, T.t t with
  | some (.lit (.int .i64 n)), some (.lit (.int .i64 m)), some ti => match ti.desc with
   | .slice e => match T.t e with
    | some ei => bif decide (0 <= n /\ n <= m /\ m * ei.bytes <= 281474976710656 /\ m <= 9223372036854775807) && Nat.blt 0 ei.size && decide (ei.zero.cells.length = ei.size) && flatOk ei.zero then
      bif s.md.lm && decide (n = 0) then some (.room ei.size, .lst (.room hs) []) else
      some (.cells (List.replicate m.toNat ei.zero.cells).flatten false, .slc hs 0 n.toNat (.ex m.toNat)) else none
    | none => none
   | _ => none
  | _, _, _ => none
 | .makeMap _ none => some (.map [] 0, .mp hs)
 | _ => none
def srcCells (H : Tr AO) (size : Nat) : AV -> Option (Nat × List AV)
 | .str l => bif Nat.beq size 1 then some (l.length, l.map fun b => .lit (.int .u8 b.toNat)) else none
 | .lit (.slice none 0 0) => some (0, [])
 | .emp => some (0, [])
 | .lst _ es => bif es.all (sizeOk size) then some (es.length, es.flatMap AV.cells) else none
 | .slc o off n _ => match rd H o off (n * size) with
  | some l => some (n, l)
  | none => none
 | _ => none
def append' (H : Tr AO) (hs size bytes : Nat) (x : AV) (n : Nat) (cs : List AV) : Option (AV × Tr AO × Nat) :=
 bif Nat.beq n 0 then
  match x with
  | .slc o off len (.ex c) => bif Nat.ble len c then some (.slc o off len (.ex c), H, hs) else none
  | .slc o off len (.op z) => some (.slc o off len (.op z), H, hs)
  | .lit (.slice none 0 0) => some (.lit (.slice none 0 0), H, hs)
  | .emp => some (.emp, H, hs)
  | .lst .full [] => some (.lst .full [], H, hs)
  | _ => none
 else bif cs.all oneCell && Nat.beq cs.length (n * size) then
  match x with
  | .lit (.slice none 0 0) => bif Nat.ble ((4 * n + 4000) * bytes) 281474976710656 then some (.slc hs 0 n (.op size), H.put .dead hs (.cells cs false), hs + 1) else none
  | .lst .full [] => bif Nat.ble ((4 * n + 4000) * bytes) 281474976710656 then some (.slc hs 0 n (.op size), H.put .dead hs (.cells cs false), hs + 1) else none
  | .slc o off len cap =>
   match H.get .dead o with
   | .cells c ro =>
    bif Nat.ble (off + len * size) c.length && Nat.ble ((4 * (len + n) + 4000) * bytes) 281474976710656 then
     match cap with
     | .ex k =>
      bif Nat.ble (len + n) k then
       (match wr H o (off + len * size) cs with | some H' => some (.slc o off (len + n) (.ex k), H', hs) | none => none)
      else bif Nat.ble len k then some (.slc hs 0 (len + n) (.op size), H.put .dead hs (.cells ((c.drop off).take (len * size) ++ cs) false), hs + 1) else none
     | .op z =>
      bif Nat.beq z size && !ro then
       bif Nat.ble (off + (len + n) * size) c.length then
        (match wr H o (off + len * size) cs with | some H' => some (.slc o off (len + n) (.op z), H', hs) | none => none)
       else some (.slc hs 0 (len + n) (.op size), (H.put .dead o .dead).put .dead hs (.cells ((c.drop off).take (len * size) ++ cs) false), hs + 1)
      else none
    else none
   | _ => none
  | _ => none
 else none
def chunk (agg : Bool) (sz : Nat) : Nat -> List AV -> List AV
 | 0, _ => []
 | n + 1, cs => (bif agg then .agg (cs.take sz) else cs.headD .any) :: chunk agg sz n (cs.drop sz)
def srcElems (H : Tr AO) (agg : Bool) (size : Nat) : AV -> Option (List AV)
 | .lst _ es => bif es.all (sizeOk size) then some es else none
 | .str l => bif Nat.beq size 1 then some (l.map fun b => .lit (.int .u8 b.toNat)) else none
 | .lit (.slice none 0 0) => some []
 | .emp => some []
 | .slc o off n _ => (match rd H o off (n * size) with
  | some l => bif agg || (Nat.beq size 1 && l.all oneCell) then some (chunk agg size n l) else none
  | none => none)
 | _ => none
def appendL (H : Tr AO) (hs size bytes : Nat) (tk : ATk) (es ys : List AV) : Option (AV × Tr AO × Nat) :=
 match ys with
 | [] => some (.lst tk es, H, hs)
 | _ => bif ys.all (fun e => sizeOk size e && flatOk e && e.cells.all oneCell) && Nat.ble ((4 * (es.length + ys.length) + 4000) * bytes) 281474976710656 then
   match tk with
   | .no => none
   | .full => bif es.all (sizeOk size) then some (.lst (.room hs) (es ++ ys), H.put .dead hs (.room size), hs + 1) else none
   | .room t => match H.get .dead t with
    | .room z => bif Nat.beq z size then some (.lst (.room hs) (es ++ ys), (H.put .dead t .dead).put .dead hs (.room size), hs + 1) else none
    | _ => none
  else none
def lstOf (lm : Bool) : AV -> Option (ATk × List AV)
 | .lst tk es => some (tk, es)
 | .lit (.slice none 0 0) => bif lm then some (.full, []) else none
 | _ => none
def isFE : AV -> Bool
 | .lst .full [] => true
 | _ => false
def lstX (lm : Bool) (u : AV) : Option (ATk × List AV) := bif lm then lstOf true u else bif isFE u then none else lstOf false u
theorem lstX_some {lm : Bool} {u : AV} {p : ATk × List AV} (h : lstX lm u = some p) : lstOf lm u = some p := by
 unfold lstX at h
 cases lm with
 | true => exact h
 | false => cases hf : isFE u with
  | true => rw [hf] at h; cases h
  | false => rw [hf] at h; exact h
def modE (f : AV × AV × Nat -> AV × AV × Nat) : List (AV × AV × Nat) -> Nat -> List (AV × AV × Nat)
 | [], _ => []
 | e :: l, 0 => f e :: l
 | e :: l, i + 1 => e :: modE f l i
def effOp (T : Tab) (s : AS) : Op -> Option (AV × Tr AO × Nat)
 | .store t a x => match opd s a, opd s x, T.t t with
  | some (.ptr o off), some v, some ti =>
   bif Nat.beq v.cells.length ti.size && flatOk v then (match wr s.heap o off v.cells with | some H => some (udef, H, s.hs) | none => none) else none
  | _, _, _ => none
 | .call c => match c.callee, c.args.toList, c.argTypes.toList with
  | .builtin .append, [x, y], st :: ys :: [] => match opd s x, opd s y, T.t st, T.t ys with
   | some u, some v, some si, some yi => match si.desc, yi.desc with
    | .slice e, .int _ => match T.t e, v with
     | some ei, .lit (.int .i64 n) => bif Nat.blt 0 ei.bytes && Nat.blt 0 ei.size && decide (ei.zero.cells.length = ei.size) && flatOk ei.zero && decide (0 < n /\ n <= 1000000 /\ n * ei.bytes <= 281474976710656) then
       append' s.heap s.hs ei.size ei.bytes u n.toNat (List.replicate n.toNat ei.zero.cells).flatten else none
     | _, _ => none
    | .slice e, _ => match T.t e with
     | some ei => bif Nat.blt 0 ei.bytes && Nat.blt 0 ei.size && decide (ei.zero.cells.length = ei.size) && flatOk ei.zero then
      match lstX s.md.lm u with
      | some (tk, es) => (match srcElems s.heap (isAggD ei.desc) ei.size v with
       | some ys => appendL s.heap s.hs ei.size ei.bytes tk es ys
       | none => none)
      | none =>
      (match srcCells s.heap ei.size v with
       | some (n, cs) => append' s.heap s.hs ei.size ei.bytes u n cs
       | none => none) else none
     | none => none
    | _, _ => none
   | _, _, _, _ => none
  | .builtin .copy, [x, y], st :: _ => match opd s x, opd s y, T.t st with
   | some u, some v, some si => match si.desc with
    | .slice e => match T.t e with
     | some ei => match u with
      | .slc o off len _ => match v with
       | .slc o2 off2 n2 _ => match rd s.heap o2 off2 (min n2 len * ei.size) with
        | some cs => match wr s.heap o off cs with
         | some H => some (.lit (.int .i64 (min n2 len : Nat)), H, s.hs)
         | none => none
        | none => none
       | .lst _ es => bif es.all (sizeOk ei.size) then (match wr s.heap o off ((es.take len).flatMap AV.cells) with
        | some H => some (.lit (.int .i64 (min es.length len : Nat)), H, s.hs)
        | none => none) else none
       | .str l => bif Nat.beq ei.size 1 then (match wr s.heap o off ((l.take len).map fun b => .lit (.int .u8 b.toNat)) with
        | some H => some (.lit (.int .i64 (min l.length len : Nat)), H, s.hs)
        | none => none) else none
       | _ => none
      | _ => none
     | none => none
    | _ => none
   | _, _, _ => none
  | .builtin .delete, [m, k], mt :: _ => match opd s m, opd s k, T.t mt with
   | some (.mp o), some kv, some ti => match ti.desc, s.heap.get .dead o with
    | .map kt _, .map es clock => match T.t kt with
     | some ki => bif okKey ki.desc then
      (match findE ki.desc kv es 0 with
       | some (some (i, _)) => some (udef, s.heap.put .dead o (.map (es.eraseIdx i) clock), s.hs)
       | some none => some (udef, s.heap, s.hs)
       | none => none) else none
     | none => none
    | _, _ => none
   | _, _, _ => none
  | .builtin .clear, [x], st :: _ => match opd s x, T.t st with
   | some (.slc o off len _), some si => match si.desc with
    | .slice e => match T.t e with
     | some ei => bif Nat.blt 0 len && Nat.blt 0 ei.size && decide (ei.zero.cells.length = ei.size) && flatOk ei.zero then
      (match wr s.heap o off (List.replicate len ei.zero.cells).flatten with
       | some H => some (udef, H, s.hs)
       | none => none) else none
     | none => none
    | _ => none
   | _, _ => none
  | _, _, _ => none
 | .convert src dst x => match opd s x, T.t src, T.t dst with
  | some (.str l), some _, some dj => match dj.desc with
   | .slice e => match T.t e with
    | some ei => match ei.desc with
     | .int .u8 => bif s.md.lm then some (.lst (.room s.hs) (l.map fun b => .lit (.int .u8 b.toNat)), s.heap.put .dead s.hs (.room 1), s.hs + 1) else some (.slc s.hs 0 l.length (.op 1), s.heap.put .dead s.hs (.cells (l.map fun b => .lit (.int .u8 b.toNat)) false), s.hs + 1)
     | _ => none
    | none => none
   | _ => none
  | _, _, _ => none
 | .mapUpdate t m k x => match opd s m, opd s k, opd s x, T.t t with
  | some (.mp o), some kv, some v, some ti => match ti.desc, s.heap.get .dead o with
   | .map kt _, .map es clock => match T.t kt with
    | some ki => bif okKey ki.desc then
     (match findE ki.desc kv es 0 with
      | some (some (i, _)) => some (udef, s.heap.put .dead o (.map (modE (fun e => (kv, v, e.2.2)) es i) clock), s.hs)
      | some none => some (udef, s.heap.put .dead o (.map (es ++ [(kv, v, clock)]) (clock + 1)), s.hs)
      | none => none) else none
    | none => none
   | _, _ => none
  | _, _, _, _ => none
 | _ => none
abbrev Rec := Option Nat -> Code -> AS -> Option (AX × AS)
def putL (t : Tr AV) (i : Nat) : List AV -> Tr AV
 | [] => t
 | a :: l => putL (t.put .any i a) (i + 1) l
def resOf (T : Tab) (s : AS) : List ResultVar -> Option (List AV)
 | [] => some []
 | .tmp t :: l => match (bif Nat.blt t s.nt then some (s.tmps.get .any t) else none), resOf T s l with
  | some a, some as => some (a :: as)
  | _, _ => none
 | .cell t ty :: l => match (bif Nat.blt t s.nt then ldv T s.heap ty (s.tmps.get .any t) else none), resOf T s l with
  | some a, some as => some (a :: as)
  | _, _ => none
def one (l : List AV) : AV := match l with
 | [a] => a
 | l => .tup l
def shut (H : Tr AO) : List Nat -> Option (Tr AO)
 | [] => some H
 | o :: l => match H.get .dead o with
  | .defd true => shut (H.put .dead o (.defd false)) l
  | _ => none
mutual
def bare : AV -> Bool
 | .lit _ => true
 | .str _ => true
 | .opq _ => true
 | .any => true
 | .emp => true
 | .lst _ es => bares es
 | .eptr cs => bares cs
 | .fmp es => bareE es
 | .agg cs => bares cs
 | .tup cs => bares cs
 | .ifc _ v => bare v
 | .fn _ a b => bares a && bares b
 | _ => false
def bares : List AV -> Bool
 | [] => true
 | a :: l => bare a && bares l
def bareE : List (AV × AV × Nat) -> Bool
 | [] => true
 | (a, b, _) :: l => bare a && bare b && bareE l
end
mutual
def nrm : AV -> AV
 | .lit v => match v with | .slice none 0 0 => .lst .no [] | v => .lit v
 | .emp => .lst .no []
 | .lst _ es => .lst .no (nrms es)
 | .eptr cs => .eptr (nrms cs)
 | .fmp es => .fmp (nrmE es)
 | .agg cs => .agg (nrms cs)
 | .tup cs => .tup (nrms cs)
 | .ifc t v => .ifc t (nrm v)
 | .fn f a b => .fn f (nrms a) (nrms b)
 | v => v
def nrms : List AV -> List AV
 | [] => []
 | a :: l => nrm a :: nrms l
def nrmE : List (AV × AV × Nat) -> List (AV × AV × Nat)
 | [] => []
 | (a, b, n) :: l => (nrm a, nrm b, n) :: nrmE l
end
def cellTys (T : Tab) : Nat -> Nat -> List Nat
 | 0, _ => []
 | d + 1, t => match T.t t with
  | some i => match i.desc with
   | .struct fs => fs.toList.flatMap fun f => cellTys T d f.type
   | .array n e => (List.replicate n (cellTys T d e)).flatten
   | _ => [t]
  | none => []
def capOk (n : Nat) : ACap -> Bool
 | .ex c => Nat.ble n c
 | .op _ => true
def frzL (g : Nat -> AV -> Tr AO -> Option (AV × Tr AO)) : List Nat -> List AV -> Tr AO -> Option (List AV × Tr AO)
 | [], [], H => some ([], H)
 | t :: ts, v :: vs, H => match g t v H with
  | some (u, H1) => match frzL g ts vs H1 with
   | some (us, H2) => some (u :: us, H2)
   | none => none
  | none => none
 | _, _, _ => none
def ptrE (T : Tab) (t : Nat) : Option Nat :=
 bif Nat.ble 1000000 t then some (t - 1000000) else
 match T.t t with
 | some i => (match i.desc with
  | .pointer e => some e
  | _ => none)
 | none => none
def frz (T : Tab) : Nat -> Nat -> AV -> Tr AO -> Option (AV × Tr AO)
 | 0, _, _, _ => none
 | d + 1, t, v, H => bif bare v then some (nrm v, H) else
  match v, T.t t with
  | .lst _ es, some i => (match i.desc with
   | .slice e => match T.t e with
    | some ei => bif es.all (sizeOk ei.size) && Nat.blt 0 ei.size then
     (match frzL (frz T d) (List.replicate es.length (cellTys T 20 e)).flatten (es.flatMap AV.cells) H with
     | some (us, H1) => bif isAggD ei.desc || (Nat.beq ei.size 1 && us.all oneCell) then some (.lst .no (chunk (isAggD ei.desc) ei.size es.length us), H1) else none
     | none => none) else none
    | none => none
   | _ => none)
  | .slc o off n cap, some i => (match i.desc with
   | .slice e => match T.t e with
    | some ei => (match H.get .dead o, rd H o off (n * ei.size) with
     | .cells c _, some l => bif Nat.blt 0 ei.size && capOk n cap then
      (match frzL (frz T d) (List.replicate n (cellTys T 20 e)).flatten l (H.put .dead o (.cells c true)) with
      | some (us, H1) => bif isAggD ei.desc || (Nat.beq ei.size 1 && us.all oneCell) then some (.lst .no (chunk (isAggD ei.desc) ei.size n us), H1) else none
      | none => none) else none
     | _, _ => none)
    | none => none
   | _ => none)
  | .agg cs, _ => (match frzL (frz T d) (cellTys T 20 t) cs H with
   | some (us, H1) => some (.agg us, H1)
   | none => none)
  | .ptr o off, _ => (match ptrE T t, H.get .dead o with
   | some e, .cells c ro => match rd H o off (match T.t e with | some ei => ei.size | none => 0) with
    | some l => (match frzL (frz T d) (cellTys T 20 e) l (H.put .dead o (.cells c true)) with
     | some (us, H1) => some (.eptr us, H1)
     | none => none)
    | none => none
   | _, _ => none)
  | .mp o, some i => (match i.desc, H.get .dead o with
   | .map k e, .map es _ => match frzL (frz T d) (List.replicate es.length k) (es.map (·.1)) (H.put .dead o .dead) with
    | some (ks, H1) => (match frzL (frz T d) (List.replicate es.length e) (es.map (·.2.1)) H1 with
     | some (vs, H2) => some (.fmp (ks.zip (vs.zip (es.map (·.2.2)))), H2)
     | none => none)
    | none => none
   | _, _ => none)
  | .ifc u x, _ => (match frz T d u x H with
   | some (y, H1) => some (.ifc u y, H1)
   | none => none)
  | .fn (.func f) a b, _ => (match T.f f with
   | some fi => match frzL (frz T d) (fi.pts.take a.length) a H with
    | some (a', H1) => (match frzL (frz T d) (fi.pts.drop (fi.pts.length - b.length)) b H1 with
     | some (b', H2) => some (.fn (.func f) a' b', H2)
     | none => none)
    | none => none
   | none => none)
  | _, _ => none
def frzR (T : Tab) (rts : List Nat) (v : AV) (H : Tr AO) : Option (AV × Tr AO) :=
 bif bare v then some (v, H) else
 match rts with
 | [t] => frz T 300 t v H
 | ts => match v with
  | .tup vs => (match frzL (frz T 300) ts vs H with
   | some (us, H1) => some (.tup us, H1)
   | none => none)
  | _ => none
def lmOf (k : Nat) (m : Md) : Md := match k with
 | 0 => ⟨false, false, m.gl⟩
 | 1 => ⟨true, false, m.gl⟩
 | 2 => m
 | 3 => ⟨true, true, m.gl⟩
 | _ => ⟨false, true, m.gl⟩
theorem lmOf_gl (k : Nat) (m : Md) : (lmOf k m).gl = m.gl := by unfold lmOf; split <;> rfl
def bodyF (rec : Rec) (T : Tab) (fi : FI) (m : Md) (args : List AV) (H : Tr AO) (hs : Nat) : Option (AV × Tr AO × Nat) :=
  match rec none fi.body ⟨putL .lf 0 args, max args.length fi.ntmps, H, hs, [], lmOf fi.lm m⟩ with
  | some (.normal, s') => match shut s'.heap s'.defs with
   | some H' => match resOf T { s' with heap := H' } fi.results with
    | some l => some (one l, H', s'.hs)
    | none => none
   | none => none
  | some (.ret, s') => match shut s'.heap s'.defs with
   | some H' => match resOf T { s' with heap := H' } fi.results with
    | some l => some (one l, H', s'.hs)
    | none => none
   | none => none
  | _ => none
def isoF (rec : Rec) (T : Tab) (fi : FI) (m : Md) (args : List AV) : Option AV :=
 match bodyF rec T fi m args .lf 0 with
 | some (v, H, _) => match frzR T fi.rts v H with
  | some (u, _) => bif bare u then some (nrm u) else none
  | none => none
 | none => none
def valSame : Value -> Value -> Bool
 | .bool a, .bool b => a == b
 | .int j a, .int k b => decide (j = k) && decide (a = b)
 | .pointer none, .pointer none => true
 | .slice none a b, .slice none c d => Nat.beq a c && Nat.beq b d
 | .map none, .map none => true
 | .nilFunc, .nilFunc => true
 | .nilIface, .nilIface => true
 | _, _ => false
def tkSame : ATk -> ATk -> Bool
 | .no, .no => true
 | .full, .full => true
 | .room a, .room b => Nat.beq a b
 | _, _ => false
def capSame : ACap -> ACap -> Bool
 | .ex a, .ex b => Nat.beq a b
 | .op a, .op b => Nat.beq a b
 | _, _ => false
mutual
def sameV : AV -> AV -> Bool
 | .lit u, .lit v => valSame u v
 | .str l, .str m => l == m
 | .ptr o k, .ptr p j => Nat.beq o p && Nat.beq k j
 | .slc o k l c, .slc p j m d => Nat.beq o p && Nat.beq k j && Nat.beq l m && capSame c d
 | .emp, .emp => true
 | .mp o, .mp p => Nat.beq o p
 | .yld o, .yld p => Nat.beq o p
 | .fn f x y, .fn g z w => decide (f = g) && sameVs x z && sameVs y w
 | .ifc t x, .ifc u y => Nat.beq t u && sameV x y
 | .agg x, .agg y => sameVs x y
 | .tup x, .tup y => sameVs x y
 | .opq k, .opq j => Nat.beq k j
 | .any, .any => true
 | .lst t x, .lst u y => tkSame t u && sameVs x y
 | .eptr x, .eptr y => sameVs x y
 | .fmp x, .fmp y => sameE x y
 | _, _ => false
def sameVs : List AV -> List AV -> Bool
 | [], [] => true
 | x :: l, y :: m => sameV x y && sameVs l m
 | _, _ => false
def sameE : List (AV × AV × Nat) -> List (AV × AV × Nat) -> Bool
 | [], [] => true
 | (a, b, n) :: l, (c, d, k) :: m => sameV a c && sameV b d && Nat.beq n k && sameE l m
 | _, _ => false
end
def isoX (rec : Rec) (T : Tab) (fi : FI) (m : Md) (args : List AV) : Option AV :=
 match fi.spl with
 | none => isoF rec T fi m args
 | some i => match args[i]? with
  | some (.lst _ []) => (match isoF rec T fi m (args.set i (.lit (.slice none 0 0))) with
   | some u => (match isoF rec T fi m (args.set i .emp) with
    | some v => bif sameV u v then some u else none
    | none => none)
   | none => none)
  | _ => isoF rec T fi m args
def flatC : AV -> Bool
 | .lit _ => true
 | .str _ => true
 | _ => false
def ownV (T : Tab) (t : Nat) (v : AV) (H : Tr AO) : Option AV :=
 match v with
 | .lit u => some (nrm (.lit u))
 | .str l => some (.str l)
 | .agg cs => bif cs.all flatC then some (.agg (nrms cs)) else none
 | .slc o off n cap => (match T.t t with
  | some i => (match i.desc with
   | .slice e => (match T.t e with
    | some ei => (match H.get .dead o, rd H o off (n * ei.size) with
     | .cells _ false, some l => bif Nat.blt 0 ei.size && capOk n cap && l.all flatC && (isAggD ei.desc || (Nat.beq ei.size 1 && (nrms l).all oneCell)) then some (.lst .no (chunk (isAggD ei.desc) ei.size n (nrms l))) else none
     | _, _ => none)
    | none => none)
   | _ => none)
  | none => none)
 | _ => none
def ownL (T : Tab) (H : Tr AO) : List Nat -> List AV -> Option (List AV)
 | [], [] => some []
 | t :: ts, v :: vs => match ownV T t v H, ownL T H ts vs with
  | some u, some us => some (u :: us)
  | _, _ => none
 | _, _ => none
def ownR (T : Tab) (rts : List Nat) (v : AV) (H : Tr AO) : Option AV :=
 match rts with
 | [t] => ownV T t v H
 | ts => match v with
  | .tup vs => (match ownL T H ts vs with
   | some us => some (.tup us)
   | none => none)
  | _ => none
def isoO (rec : Rec) (T : Tab) (fi : FI) (m : Md) (args : List AV) : Option AV :=
 match bodyF rec T fi m args .lf 0 with
 | some (v, H, _) => ownR T fi.rts v H
 | none => none
def natV (k : Nat) (args : List AV) : Option AV :=
 match k, args with
 | 1, [.str a, .str b] => some (.lit (.int .i64 (Lib.compareBytes a b)))
 | 2, [.str s, .lit (.int .u8 c)] => some (.lit (.int .i64 (Lib.indexByte s c.toNat.toUInt8)))
 | 3, [.str s, .lit (.int .u8 c)] => some (.lit (.int .i64 (Lib.countByte s c.toNat.toUInt8)))
 | 4, [x] => some x
 | _, _ => none
def natE (k : Nat) : Array Value -> Sem Value :=
 match k with
 | 1 => Extern.BytealgCompare.compare
 | 2 => Extern.BytealgIndexByte.indexByte
 | 3 => Extern.BytealgCount.count
 | _ => Extern.AbiNoEscape.same
def strsOf : List AV -> Option (List (List UInt8))
 | [] => some []
 | .str a :: l => (match strsOf l with | some x => some (a :: x) | none => none)
 | _ :: _ => none
def joinS (sep : List UInt8) : List (List UInt8) -> List UInt8
 | [] => []
 | [a] => a
 | a :: b :: l => a ++ (sep ++ joinS sep (b :: l))
def digsR : Nat -> Nat -> List UInt8
 | 0, _ => []
 | f + 1, u => bif Nat.blt u 10 then [(48 + u).toUInt8] else (48 + u % 10).toUInt8 :: digsR f (u / 10)
def digsN (u : Nat) : List UInt8 := (digsR 30 u).reverse
def numT (n : Int) : List UInt8 := bif decide (n < 0) then 45 :: digsN n.natAbs else digsN n.toNat
def pow10T : List Nat := [1, 10, 100, 1000, 10000, 100000, 1000000, 10000000, 100000000, 1000000000, 10000000000, 100000000000, 1000000000000, 10000000000000, 100000000000000, 1000000000000000, 10000000000000000, 100000000000000000, 1000000000000000000, 10000000000000000000]
def isU64s : List Nat -> List AV -> Bool
 | [], [] => true
 | n :: l, .lit (.int .u64 (.ofNat m)) :: r => Nat.beq n m && isU64s l r
 | _, _ => false
def splitT (c : UInt8) : List UInt8 -> List UInt8 -> List (List UInt8)
 | acc, [] => [acc.reverse]
 | acc, a :: l => bif a == c then acc.reverse :: splitT c [] l else splitT c (a :: acc) l
def numB : Nat -> List UInt8 -> Option Nat
 | u, [] => some u
 | u, a :: l => bif Nat.ble 48 a.toNat && Nat.ble a.toNat 57 then numB (10 * u + (a.toNat - 48)) l else none
def atoiT (s : List UInt8) : Option Int :=
 bif Nat.ble s.length 18 then
  match s with
  | [] => none
  | 45 :: [] => none
  | 43 :: [] => none
  | 45 :: l => (match numB 0 l with | some u => some (-(u : Int)) | none => none)
  | 43 :: l => (match numB 0 l with | some u => some (u : Int) | none => none)
  | l => (match numB 0 l with | some u => some (u : Int) | none => none)
 else none
def leS : List UInt8 -> List UInt8 -> Bool
 | [], _ => true
 | _ :: _, [] => false
 | a :: x, b :: y => bif Nat.blt a.toNat b.toNat then true else bif Nat.beq a.toNat b.toNat then leS x y else false
def rising : List (List UInt8) -> Bool
 | [] => true
 | [_] => true
 | a :: b :: l => leS a b && rising (b :: l)
def nJoin : List AV -> Option AV
 | [.lst _ es, .str sep] => (match strsOf es with
  | some xs => bif Nat.ble xs.length 1000000000 && Nat.ble (joinS sep xs).length 100000000000 then some (.str (joinS sep xs)) else none
  | none => none)
 | [.lit (.slice none 0 0), .str _] => some (.str [])
 | _ => none
def nItoa (t : Option AV) : List AV -> Option AV
 | [.lit (.int .i64 n)] => bif decide (-9223372036854775808 <= n /\ n <= 9223372036854775807) then
   (match t with
   | some (.eptr cs) => bif isU64s pow10T cs then some (.str (numT n)) else none
   | _ => bif decide (0 <= n /\ n < 100) then some (.str (numT n)) else none) else none
 | _ => none
def nSplit (t : Option AV) : List AV -> Option AV
 | [.str s, .str [c]] => (match t with
  | some (.eptr [.lit (.int .i64 _)]) => bif Nat.ble s.length 1000000000 then some (.lst .no ((splitT c [] s).map AV.str)) else none
  | _ => none)
 | _ => none
def nAtoi : List AV -> Option AV
 | [.str s] => (match atoiT s with
  | some n => some (.tup [.lit (.int .i64 n), .lit .nilIface])
  | none => none)
 | _ => none
def nSort : List AV -> Option AV
 | [.lst _ es] => (match strsOf es with
  | some xs => bif rising xs then some (.tup []) else none
  | none => none)
 | [.lit (.slice none 0 0)] => some (.tup [])
 | _ => none
def natB (gl : Tr (Option AV)) (k : Nat) (args : List AV) : Option AV :=
 match k % 16 with
 | 5 => nJoin args
 | 6 => nItoa (gl.get none (k / 16)) args
 | 7 => nSplit (gl.get none (k / 16)) args
 | 8 => nAtoi args
 | 9 => nSort args
 | _ => none
def natW (gl : Tr (Option AV)) (k : Nat) (args : List AV) : Option AV := match Nat.ble k 4 with
 | true => natV k args
 | false => natB gl k args
def callF (T : Tab) (rec : Rec) (m : Md) (f : Nat) (args : List AV) (H : Tr AO) (hs : Nat) : Option (AV × Tr AO × Nat) :=
 match T.con f args H hs with
 | some r => some r
 | none => match T.f f with
 | none => none
 | some fi => bif fi.iso then
   match (bif bares args then some (args, H) else bif fi.own then none else frzL (frz T 300) fi.pts args H) with
   | some (as, H1) => bif bares as then (match isoX rec T fi m (nrms as) with
    | some v => some (v, H1, hs)
    | none => none) else none
   | none => none
  else bif fi.own then
   match (bif bares args then some (args, H) else frzL (frz T 300) fi.pts args H) with
   | some (as, _) => bif bares as then (match isoO rec T fi m (nrms as) with
    | some v => some (v, H, hs)
    | none => none) else none
   | none => none
  else bodyF rec T fi m args H hs
def callN (T : Tab) (rec : Rec) (m : Md) (f : Nat) (args : List AV) (H : Tr AO) (hs : Nat) : Option (AV × Tr AO × Nat) :=
 match T.n f with
 | some k => (match natW m.gl k args with
  | some v => some (v, H, hs)
  | none => none)
 | none => callF T rec m f args H hs
def setL (t : List AV) : List (Nat × AV) -> List AV
 | [] => t
 | (i, a) :: l => setL (t.set i a) l
def roundF (rec : Rec) (m : Md) (o : Nat) (args : List AV) (H : Tr AO) (hs : Nat) : Option (AV × Tr AO × Nat) :=
 match H.get .dead o with
 | .loop .ready _ tmps ps assign body d lm =>
  bif decide (args.length = ps.size) then
   let t := setL tmps (ps.toList.zip args)
   match rec (some o) assign ⟨putL .lf 0 t, t.length, H, hs, [], ⟨lm, m.tx, m.gl⟩⟩ with
   | some (.normal, s1) =>
    match s1.heap.get .dead o with
    | .loop .ready p1 t1 ps1 a1 b1 d1 lm1 =>
     match rec (some o) body { s1 with heap := s1.heap.put .dead o (.loop .busy p1 t1 ps1 a1 b1 d1 lm1) } with
     | some (x, s2) =>
      match s2.heap.get .dead o with
      | .loop _ _ t2 ps2 a2 b2 d2 lm2 =>
       (match x with
       | .normal => some (.lit (.bool true), s2.heap.put .dead o (.loop .ready none t2 ps2 a2 b2 d2 lm2), s2.hs)
       | .ret => some (.lit (.bool false), s2.heap.put .dead o (.loop .done (some .ret) t2 ps2 a2 b2 d2 lm2), s2.hs)
       | .exit i => some (.lit (.bool false), s2.heap.put .dead o (.loop .done (some (.exit i)) t2 ps2 a2 b2 d2 lm2), s2.hs)
       | .goto i => some (.lit (.bool false), s2.heap.put .dead o (.loop .done (some (.goto i)) t2 ps2 a2 b2 d2 lm2), s2.hs))
      | _ => none
     | none => none
    | _ => none
   | _ => none
  else none
 | _ => none
def callV (T : Tab) (rec : Rec) (m : Md) (f : AV) (args : List AV) (H : Tr AO) (hs : Nat) : Option (AV × Tr AO × Nat) :=
 match f with
 | .fn (.func g) a b => callN T rec m g (a ++ args ++ b) H hs
 | .yld o => roundF rec m o args H hs
 | _ => none
def actOp (T : Tab) (rec : Rec) (s : AS) (o : Op) : Option (AV × Tr AO × Nat) :=
 match o with
 | .call c => match c.callee with
  | .value f => match opd s f, opds s c.args.toList with
   | some g, some as => callV T rec s.md g as s.heap s.hs
   | _, _ => none
  | _ => effOp T s o
 | _ => effOp T s o
def cls : Op -> Nat
 | .load .. => 1
 | .lookup .. => 1
 | .convert .. => 4
 | .alloc .. => 2
 | .box .. => 2
 | .buildSlice .. => 2
 | .makeMap .. => 2
 | .makeSlice .. => 2
 | .store .. => 3
 | .mapUpdate .. => 3
 | .insert .. => 3
 | .call c => match c.callee with
  | .builtin .len => 4
  | .builtin .cap => 4
  | .builtin .max => 0
  | .builtin .min => 0
  | _ => 3
 | _ => 0
def setT (s : AS) (d : Option Nat) (v : AV) : Option AS :=
 match d with
 | none => some s
 | some i => bif Nat.blt i s.nt then some { s with tmps := s.tmps.put .any i v } else none
def evOp (T : Tab) (rec : Rec) (o : Oper) (s : AS) : Option AS :=
 match cls o.op with
 | 0 => match pureOp T s o.op with | some v => setT s o.dst v | none => none
 | 1 => match readOp T s s.heap o.op with | some v => setT s o.dst v | none => none
 | 2 => match newOp T s s.hs o.op with | some (.dead, v) => setT s o.dst v | some (A, v) => setT { s with heap := s.heap.put .dead s.hs A, hs := s.hs + 1 } o.dst v | none => none
 | 3 => match actOp T rec s o.op with | some (v, H, hs) => setT { s with heap := H, hs := hs } o.dst v | none => none
 | _ => match (match pureOp T s o.op with | some v => some v | none => readOp T s s.heap o.op) with
  | some v => setT s o.dst v
  | none => match effOp T s o.op with
   | some (v, H, hs) => setT { s with heap := H, hs := hs } o.dst v
   | none => none
def wantd (s : AS) (ops : Array Oper) (o : Oper) : Option Bool :=
 match o.guard with
 | none => some true
 | some (j, w) => match (ops[j]?).bind (·.dst) with
  | some d => bif Nat.blt d s.nt then (match s.tmps.get .any d with
   | .lit (.bool b) => some (b == w)
   | .tup [] => some false
   | _ => none) else none
  | none => none
def evOps (T : Tab) (rec : Rec) (ops : Array Oper) : List Oper -> AS -> Option (AX × AS)
 | [], s => some (.normal, s)
 | o :: l, s => match wantd s ops o with
  | some true => match evOp T rec o s with
   | some s' => evOps T rec ops l s'
   | none => none
  | some false => match setT s o.dst udef with
   | some s' => evOps T rec ops l s'
   | none => none
  | none => none
end Go.Proofs.YtcledcfeddlomaaGreatDoor.Ev
