import Derived.Test.YtbcecenneganeaaEv4
set_option linter.all false
namespace Go.Proofs.Ytbcecenneganeaa.Ev

/-! ### A region whose order is open: what is reckoned, and what is looked at -/

def valSame : Value → Value → Bool
  | .bool a, .bool b => a == b
  | .int j a, .int k b => decide (j = k) && decide (a = b)
  | .pointer none, .pointer none => true
  | .slice none a b, .slice none c d => Nat.beq a c && Nat.beq b d
  | .map none, .map none => true
  | .nilFunc, .nilFunc => true
  | .nilIface, .nilIface => true
  | _, _ => false

def tkSame : ATk → ATk → Bool
  | .no, .no => true
  | .full, .full => true
  | .room a, .room b => Nat.beq a b
  | _, _ => false

def capSame : ACap → ACap → Bool
  | .ex a, .ex b => Nat.beq a b
  | .op a, .op b => Nat.beq a b
  | _, _ => false

/-- Surely one. -/
def same : Nat → AV → AV → Bool
  | 0, _, _ => false
  | n + 1, a, b =>
    let rec go : List AV → List AV → Bool
      | [], [] => true
      | x :: l, y :: m => same n x y && go l m
      | _, _ => false
    match a, b with
    | .lit u, .lit v => valSame u v
    | .str l, .str m => l == m
    | .ptr o k, .ptr p j => Nat.beq o p && Nat.beq k j
    | .slc o k l c, .slc p j m d => Nat.beq o p && Nat.beq k j && Nat.beq l m && capSame c d
    | .emp, .emp => true
    | .mp o, .mp p => Nat.beq o p
    | .yld o, .yld p => Nat.beq o p
    | .fn f x y, .fn g z w => decide (f = g) && go x z && go y w
    | .ifc t x, .ifc u y => Nat.beq t u && same n x y
    | .agg x, .agg y => go x y
    | .tup x, .tup y => go x y
    | .opq k, .opq j => Nat.beq k j
    | .any, .any => true
    | .lst t x, .lst u y => tkSame t u && go x y
    | .eptr x, .eptr y => go x y
    | _, _ => false

def sameL (l m : List AV) : Bool := same.go 19 l m

def sameO : AO → AO → Bool
  | .cells c r, .cells d q => sameL c d && (r == q)
  | .map [] a, .map [] b => Nat.beq a b
  | .dead, .dead => true
  | .room a, .room b => Nat.beq a b
  | _, _ => false

/-- Who stands ahead of each: as bits. -/
def masks : List Oper → Nat → Tr Nat → Option (Tr Nat)
  | [], _, t => some t
  | o :: l, i, t =>
    bif o.after.toList.all (fun e => !Region.binds .any e || Nat.blt e.on i) then
      masks l (i + 1) (t.put 0 i (o.after.toList.foldl (fun m e => bif Region.binds .any e then m ||| 2 ^ e.on ||| t.get 0 e.on else m) 0))
    else none

/-- Who writes a temporary: at most one. -/
def writers : List Oper → Nat → Tr Nat → Option (Tr Nat)
  | [], _, w => some w
  | o :: l, i, w => match o.dst with
    | none => writers l (i + 1) w
    | some d => bif Nat.beq (w.get 0 d) 0 then writers l (i + 1) (w.put 0 d (i + 1)) else none

def tmpsIn : List Operand → List Nat
  | [] => []
  | .tmp t :: l => t :: tmpsIn l
  | _ :: l => tmpsIn l

/-- The temporaries that an operation looks at. -/
def readsOf (ops : Array Oper) (o : Oper) : List Nat :=
  match o.guard with
  | none => tmpsIn o.op.operands.toList
  | some (j, _) => match (ops[j]?).bind (·.dst) with
    | some d => d :: tmpsIn o.op.operands.toList
    | none => tmpsIn o.op.operands.toList

structure DI where
  ops : Array Oper
  ms : Tr Nat
  wt : Tr Nat
  es : List Nat
  s0 : AS

/-- What operation i finds in temporary t, in whatever order. -/
def opv (D : DI) (vals : Tr AV) (i t : Nat) : Option AV :=
  match D.wt.get 0 t with
  | 0 => some (D.s0.tmps.get .any t)
  | w + 1 => bif (D.ms.get 0 i).testBit w then some (vals.get .any w) else bif (D.ms.get 0 w).testBit i then some (D.s0.tmps.get .any t) else none

def rvals (D : DI) (vals : Tr AV) (i : Nat) : List Nat → Option (List (Nat × AV))
  | [] => some []
  | t :: l => match opv D vals i t, rvals D vals i l with
    | some v, some r => bif Nat.blt t D.s0.nt then some ((t, v) :: r) else none
    | _, _ => none

def putsT : List (Nat × AV) → Tr AV
  | [] => .lf
  | (t, v) :: l => (putsT l).put .any t v

def stOf (D : DI) (rv : List (Nat × AV)) (H : Tr AO) (hs : Nat) : AS := ⟨putsT rv, D.s0.nt, H, hs, D.s0.defs, D.s0.lm⟩

def pushes : List AO → Tr AO → Nat → Tr AO × Nat
  | [], H, hs => (H, hs)
  | A :: l, H, hs => pushes l (H.put .dead hs A) (hs + 1)

/-- A pure operation, or one that reads. -/
def prOp (T : Tab) (s : AS) (H : Tr AO) (op : Op) : Option AV :=
  match cls op with
  | 0 => pureOp T s op
  | 1 => readOp T s H op
  | 4 => match pureOp T s op with
    | some v => some v
    | none => readOp T s H op
  | _ => none

def loOf (D : DI) (i : Nat) : Nat := D.es.foldl (fun c e => bif (D.ms.get 0 i).testBit e then c + 1 else c) 0
def hiOf (D : DI) (i : Nat) : Nat := D.es.foldl (fun c e => bif (D.ms.get 0 e).testBit i then c else c + 1) 0

structure LR where   -- a layer as it is reckoned
  vals : Tr AV
  H : Tr AO
  hs : Nat
  as : List AO
  aid : Tr Nat

def layer (T : Tab) (D : DI) (k : Nat) : List Oper → Nat → LR → Option LR
  | [], _, r => some r
  | o :: l, i, r =>
    bif Nat.beq (cls o.op) 3 || !Nat.beq (loOf D i) k then layer T D k l (i + 1) r else
    match rvals D r.vals i (readsOf D.ops o) with
    | none => none
    | some rv =>
      let s := stOf D rv r.H r.hs
      match wantd s D.ops o with
      | none => none
      | some false => layer T D k l (i + 1) { r with vals := r.vals.put .any i udef }
      | some true =>
        bif Nat.beq (cls o.op) 2 then
          (match newOp T s r.hs o.op with
           | some (.dead, v) => layer T D k l (i + 1) { r with vals := r.vals.put .any i v }
           | some (A, v) => layer T D k l (i + 1) ⟨r.vals.put .any i v, r.H.put .dead r.hs A, r.hs + 1, r.as ++ [A], r.aid.put 0 i (r.hs + 1)⟩
           | none => none)
        else
          (match prOp T s r.H o.op with
           | some v => layer T D k l (i + 1) { r with vals := r.vals.put .any i v }
           | none => none)

structure Lay where
  h0 : Tr AO
  n0 : Nat
  as : List AO

structure EffR where
  e : Nat
  rv : List (Nat × AV)
  v : AV

/-- Layer by layer: (the layers, the operations that write, the values, the things that are made). -/
def drawGo (T : Tab) (rec : Rec) (D : DI) : List Nat → Nat → Tr AV → Tr AO → Nat → Tr Nat → Option (List Lay × List EffR × Tr AV × Tr Nat)
  | es, k, vals, H, hs, aid => match layer T D k D.ops.toList 0 ⟨vals, H, hs, [], aid⟩ with
    | none => none
    | some r => match es with
      | [] => some ([⟨H, hs, r.as⟩], [], r.vals, r.aid)
      | e :: es => match D.ops[e]? with
        | none => none
        | some o => match rvals D r.vals e (readsOf D.ops o) with
          | none => none
          | some rv =>
            let s := stOf D rv (pushes r.as H hs).1 (pushes r.as H hs).2
            match wantd s D.ops o with
            | none => none
            | some false => match drawGo T rec D es (k + 1) (r.vals.put .any e udef) s.heap s.hs r.aid with
              | some (ls, fs, vs, ad) => some (⟨H, hs, r.as⟩ :: ls, ⟨e, rv, udef⟩ :: fs, vs, ad)
              | none => none
            | some true => match actOp T rec s o.op with
              | none => none
              | some (v, H', hs') => match drawGo T rec D es (k + 1) (r.vals.put .any e v) H' hs' r.aid with
                | some (ls, fs, vs, ad) => some (⟨H, hs, r.as⟩ :: ls, ⟨e, rv, v⟩ :: fs, vs, ad)
                | none => none

def sameRV : List (Nat × AV) → List (Nat × AV) → Bool
  | [], [] => true
  | (t, v) :: l, (u, w) :: m => Nat.beq t u && same 20 v w && sameRV l m
  | _, _ => false

/-- Layers lo .. hi. -/
def allLay (P : Nat → Tr AO → Nat → Bool) : List Lay → Nat → Bool
  | [], _ => true
  | L :: l, k => P k (pushes L.as L.h0 L.n0).1 (pushes L.as L.h0 L.n0).2 && allLay P l (k + 1)

def within_ (lo hi k : Nat) : Bool := Nat.ble lo k && Nat.ble k hi

/-- The look at one operation that doesn't write. -/
def chkOp (T : Tab) (D : DI) (ls : List Lay) (vals : Tr AV) (aid own : Tr Nat) (i : Nat) (o : Oper) : Bool :=
  let lo := loOf D i
  let hi := hiOf D i
  (Nat.beq lo 0 || (match D.es[lo - 1]? with | some e => (D.ms.get 0 i).testBit e | none => false)) &&
  (match D.es[hi]? with | some e => (D.ms.get 0 e).testBit i | none => Nat.beq hi D.es.length) &&
  (match rvals D vals i (readsOf D.ops o) with
  | none => false
  | some rv =>
    match wantd (stOf D rv .lf 0) D.ops o with
    | none => false
    | some false => same 20 (vals.get .any i) udef && Nat.beq (aid.get 0 i) 0
    | some true =>
      bif Nat.beq (cls o.op) 2 then
        (match aid.get 0 i with
         | 0 => (match newOp T (stOf D rv .lf 0) 0 o.op with
           | some (.dead, v) => same 20 v (vals.get .any i)
           | _ => false)
         | id + 1 => Nat.beq (own.get 0 id) (i + 1) &&
           (match newOp T (stOf D rv .lf 0) id o.op with
            | some (A, v) => same 20 v (vals.get .any i) &&
              allLay (fun k H hs => (!within_ lo hi k || sameO (H.get .dead id) A) && (!Nat.ble lo k || Nat.blt id hs)) ls 0
            | none => false))
      else Nat.beq (aid.get 0 i) 0 &&
        (match cls o.op with
         | 0 => (match pureOp T (stOf D rv .lf 0) o.op with | some v => same 20 v (vals.get .any i) | none => false)
         | _ => allLay (fun k H _ => !within_ lo hi k || (match prOp T (stOf D rv .lf 0) H o.op with | some v => same 20 v (vals.get .any i) | none => false)) ls 0))

/-- A layer's first number is not beyond what is made in it, or later. -/
def chkIds : List Lay → Nat → Nat → Nat → Bool
  | [], _, _, _ => true
  | L :: l, k, lo, id => (!Nat.ble k lo || Nat.ble L.n0 id) && chkIds l (k + 1) lo id

def chain (ms : Tr Nat) : List Nat → Bool
  | e :: f :: l => (ms.get 0 f).testBit e && chain ms (f :: l)
  | _ => true

def ownOf : Nat → Nat → Tr Nat → Tr Nat → Tr Nat
  | 0, _, _, t => t
  | n + 1, i, aid, t => match aid.get 0 i with
    | 0 => ownOf n (i + 1) aid t
    | id + 1 => ownOf n (i + 1) aid (t.put 0 id (i + 1))

def chkEff (D : DI) (vals : Tr AV) (aid : Tr Nat) : List EffR → List Nat → Bool
  | [], [] => true
  | f :: fs, e :: es => Nat.beq f.e e && same 20 f.v (vals.get .any e) && Nat.beq (aid.get 0 e) 0 &&
    (match D.ops[e]? with
     | some o => (match rvals D vals e (readsOf D.ops o) with | some rv => sameRV f.rv rv | none => false)
     | none => false) && chkEff D vals aid fs es
  | _, _ => false

def chkAll (T : Tab) (D : DI) (ls : List Lay) (vals : Tr AV) (aid own : Tr Nat) : List Oper → Nat → Bool
  | [], _ => true
  | o :: l, i => (bif Nat.beq (cls o.op) 3 then D.es.contains i else chkOp T D ls vals aid own i o && !D.es.contains i && (match aid.get 0 i with | 0 => true | id + 1 => chkIds ls 0 (loOf D i) id)) && chkAll T D ls vals aid own l (i + 1)

def putsD (vals : Tr AV) : List Oper → Nat → Tr AV → Tr AV
  | [], _, t => t
  | o :: l, i, t => match o.dst with
    | none => putsD vals l (i + 1) t
    | some d => putsD vals l (i + 1) (t.put .any d (vals.get .any i))

def dstsOk (nt : Nat) : List Oper → Bool
  | [] => true
  | o :: l => (match o.dst with | none => true | some d => Nat.blt d nt) && dstsOk nt l

def effIdx : List Oper → Nat → List Nat
  | [], _ => []
  | o :: l, i => bif Nat.beq (cls o.op) 3 then i :: effIdx l (i + 1) else effIdx l (i + 1)

def lastLay : List Lay → Option Lay
  | [] => none
  | [L] => some L
  | _ :: l => lastLay l

/-- A region whose order is open. -/
def evDraw (T : Tab) (rec : Rec) (ops : Array Oper) (s : AS) : Option (AX × AS) :=
  match masks ops.toList 0 .lf, writers ops.toList 0 .lf with
  | some ms, some wt =>
    let es := effIdx ops.toList 0
    let D : DI := ⟨ops, ms, wt, es, s⟩
    match drawGo T rec D es 0 .lf s.heap s.hs .lf with
    | some (ls, fs, vals, aid) =>
      bif chain ms es && dstsOk s.nt ops.toList && chkEff D vals aid fs es && chkAll T D ls vals aid (ownOf ops.size 0 aid .lf) ops.toList 0 then
        match lastLay ls with
        | some L => some (.normal, { s with tmps := putsD vals ops.toList 0 s.tmps, heap := (pushes L.as L.h0 L.n0).1, hs := (pushes L.as L.h0 L.n0).2 })
        | none => none
      else none
    | none => none
  | _, _ => none

/-- As the text goes: the values, memory, memory behind each operation that writes, what these do. -/
structure JS where
  vals : Tr AV
  H : Tr AO
  hs : Nat
  hps : List (Tr AO × Nat)
  fs : List EffR

/-- What an operation comes to that neither writes nor makes a thing. -/
def nonEff (T : Tab) (s : AS) (H : Tr AO) (op : Op) : Option AV :=
  bif Nat.beq (cls op) 2 then (match newOp T s 0 op with | some (.dead, v) => some v | _ => none) else prOp T s H op

def jput (q : JS) (i : Nat) : Option AV → Option JS
  | some v => some { q with vals := q.vals.put .any i v }
  | none => none
def jeff (q : JS) (i : Nat) (rv : List (Nat × AV)) : Option (AV × Tr AO × Nat) → Option JS
  | some (v, H, hs) => some ⟨q.vals.put .any i v, H, hs, q.hps ++ [(H, hs)], q.fs ++ [⟨i, rv, v⟩]⟩
  | none => none
def jgo (T : Tab) (rec : Rec) (i : Nat) (o : Oper) (q : JS) (rv : List (Nat × AV)) (s : AS) : Option Bool → Option JS
  | none => none
  | some false => bif Nat.beq (cls o.op) 3 then jeff q i rv (some (udef, q.H, q.hs)) else jput q i (some udef)
  | some true => bif Nat.beq (cls o.op) 3 then jeff q i rv (actOp T rec s o.op) else jput q i (nonEff T s q.H o.op)
def jstep (T : Tab) (rec : Rec) (D : DI) (i : Nat) (o : Oper) (q : JS) : Option JS :=
  match rvals D q.vals i (readsOf D.ops o) with
  | none => none
  | some rv => jgo T rec i o q rv (stOf D rv q.H q.hs) (wantd (stOf D rv q.H q.hs) D.ops o)

def jrun (T : Tab) (rec : Rec) (D : DI) : List Oper → Nat → JS → Option JS
  | [], _, q => some q
  | o :: l, i, q => match jstep T rec D i o q with
    | some q' => jrun T rec D l (i + 1) q'
    | none => none

def lays (l : List (Tr AO × Nat)) : List Lay := l.map fun h => ⟨h.1, h.2, []⟩

/-- A region whose order is open, by its text's order. -/
def evDrawJ (T : Tab) (rec : Rec) (ops : Array Oper) (s : AS) : Option (AX × AS) :=
  match masks ops.toList 0 .lf, writers ops.toList 0 .lf with
  | some ms, some wt =>
    match jrun T rec ⟨ops, ms, wt, effIdx ops.toList 0, s⟩ ops.toList 0 ⟨.lf, s.heap, s.hs, [(s.heap, s.hs)], []⟩ with
    | some q =>
      bif chain ms (effIdx ops.toList 0) && dstsOk s.nt ops.toList && chkEff ⟨ops, ms, wt, effIdx ops.toList 0, s⟩ q.vals .lf q.fs (effIdx ops.toList 0) && chkAll T ⟨ops, ms, wt, effIdx ops.toList 0, s⟩ (lays q.hps) q.vals .lf .lf ops.toList 0 then
        some (.normal, { s with tmps := putsD q.vals ops.toList 0 s.tmps, heap := q.H, hs := q.hs })
      else none
    | none => none
  | _, _ => none

/-- A region whose order is open, by either way. -/
def useJ (lm : Bool) (ops : List Oper) : Bool := lm && ops.all fun o => !Nat.beq (cls o.op) 2 || (match o.op with | .buildSlice .. => true | _ => false)
def evDr (T : Tab) (rec : Rec) (ops : Array Oper) (s : AS) : Option (AX × AS) :=
  bif useJ s.lm ops.toList then evDrawJ T rec ops s else evDraw T rec ops s

def enterF (ro : Option Nat) (s : AS) : Option (Nat × Tr AO × Nat × List Nat) :=
  match ro with
  | none => some (s.hs, s.heap.put .dead s.hs (.defd true), s.hs + 1, s.hs :: s.defs)
  | some l => match s.heap.get .dead l with
    | .loop _ _ _ _ _ _ d _ => some (d, s.heap, s.hs, s.defs)
    | _ => none

/-- A scope's code x, and again from a label, fewer than m times. -/
def scopeGo (rec : Rec) (ro : Option Nat) (c : Code) (m : Nat) : Code → AS → Option (AX × AS) :=
  Nat.rec (fun _ _ => none) (fun _ f x s => match rec ro x s with
    | some (.goto l, s') => (match findLabel c l with
      | some rest => f rest s'
      | none => some (.goto l, s'))
    | r => r) m

/-- The code of one activation, its loops and calls by 'rec'. -/
def step (T : Tab) (rec : Rec) (ro : Option Nat) (c : Code) (s : AS) : Option (AX × AS) :=
  match c with
  | .skip => some (.normal, s)
  | .label _ => some (.normal, s)
  | .exit i => some (.exit i, s)
  | .goto l => some (.goto l, s)
  | .ret => some (.ret, s)
  | .seq x y => match rec ro x s with
    | some (.normal, s') => rec ro y s'
    | r => r
  | .cond c x y => match opd s c with
    | some (.lit (.bool true)) => rec ro x s
    | some (.lit (.bool false)) => rec ro y s
    | _ => none
  | .block i x => match rec ro x s with
    | some (.exit j, s') => some (bif Nat.beq j i then .normal else .exit j, s')
    | r => r
  | .loop x => match rec ro x s with
    | some (.normal, s') => rec ro (.loop x) s'
    | r => r
  | .scope c => scopeGo rec ro c 1000000 c s
  | .region _ ops d => bif d then evDr T rec ops s else evOps T rec ops ops.toList s
  | .rangeFunc g ps assign body =>
    match opd s g with
    | some (.fn (.func g) x y) =>
      match enterF ro s with
      | some (d, H, hs, defs) =>
        let tm := (List.range s.nt).map (s.tmps.get .any)
        match callF T rec s.lm g (x ++ [.yld hs] ++ y) (H.put .dead hs (.loop .ready none tm ps assign body d s.lm)) (hs + 1) with
        | some (_, H', hs') =>
          match H'.get .dead hs with
          | .loop st pend t2 ps2 a2 b2 d2 lm2 =>
            bif decide (st = LoopState.busy) then none else
            let s' : AS := { s with heap := H'.put .dead hs (.loop .exhausted pend t2 ps2 a2 b2 d2 lm2), hs := hs', defs := defs }
            (match pend with
             | none => some (.normal, s')
             | some c => rec ro c s')
          | _ => none
        | none => none
      | none => none
    | _ => none
  | _ => none

def ev (T : Tab) (n : Nat) : Rec := Nat.rec (fun _ _ _ => none) (fun _ rec ro c s => step T rec ro c s) n

/-- A call of function f, in empty memory. -/
def run (T : Tab) (n : Nat) (f : Nat) (args : List AV) : Option (AV × Tr AO × Nat) := callF T (ev T n) true f args .lf 0

end Go.Proofs.Ytbcecenneganeaa.Ev
