import Derived.Test.YtcledcfeddlomaaGreatDoorEv4
import Derived.Test.YtcledcfeddlomaaGreatDoorEv22
set_option linter.all false
namespace Go.Proofs.YtcledcfeddlomaaGreatDoor.Ev
def sameO : AO -> AO -> Bool
 | .cells c r, .cells d q => sameVs c d && (r == q)
 | .map [] a, .map [] b => Nat.beq a b
 | .dead, .dead => true
 | .room a, .room b => Nat.beq a b
 | _, _ => false
def masks : List Oper -> Nat -> Tr Nat -> Option (Tr Nat)
 | [], _, t => some t
 | o :: l, i, t =>
  bif o.after.toList.all (fun e => !Region.binds .any e || Nat.blt e.on i) then
   masks l (i + 1) (t.put 0 i (o.after.toList.foldl (fun m e => bif Region.binds .any e then m ||| 2 ^ e.on ||| t.get 0 e.on else m) 0))
  else none
def writers : List Oper -> Nat -> Tr Nat -> Option (Tr Nat)
 | [], _, w => some w
 | o :: l, i, w => match o.dst with
  | none => writers l (i + 1) w
  | some d => bif Nat.beq (w.get 0 d) 0 then writers l (i + 1) (w.put 0 d (i + 1)) else none
def tmpsIn : List Operand -> List Nat
 | [] => []
 | .tmp t :: l => t :: tmpsIn l
 | _ :: l => tmpsIn l
def readsOf (ops : Array Oper) (o : Oper) : List Nat :=
 match o.guard with
 | none => tmpsIn o.op.operands.toList
 | some (j, _) => match (ops[j]?).bind (·.dst) with
  | some d => d :: tmpsIn o.op.operands.toList
  | none => tmpsIn o.op.operands.toList
structure DI where
 ops : Array Oper
 ms : Tr Nat
 wt : Tr Nat
 es : List Nat
 s0 : AS
def opv (D : DI) (vals : Tr AV) (i t : Nat) : Option AV :=
 match D.wt.get 0 t with
 | 0 => some (D.s0.tmps.get .any t)
 | w + 1 => bif (D.ms.get 0 i).testBit w then some (vals.get .any w) else bif (D.ms.get 0 w).testBit i then some (D.s0.tmps.get .any t) else none
def rvals (D : DI) (vals : Tr AV) (i : Nat) : List Nat -> Option (List (Nat × AV))
 | [] => some []
 | t :: l => match opv D vals i t, rvals D vals i l with
  | some v, some r => bif Nat.blt t D.s0.nt then some ((t, v) :: r) else none
  | _, _ => none
def putsT : List (Nat × AV) -> Tr AV
 | [] => .lf
 | (t, v) :: l => (putsT l).put .any t v
def stOf (D : DI) (rv : List (Nat × AV)) (H : Tr AO) (hs : Nat) : AS := ⟨putsT rv, D.s0.nt, H, hs, D.s0.defs, D.s0.md⟩
def pushes : List AO -> Tr AO -> Nat -> Tr AO × Nat
 | [], H, hs => (H, hs)
 | A :: l, H, hs => pushes l (H.put .dead hs A) (hs + 1)
def prOp (T : Tab) (s : AS) (H : Tr AO) (op : Op) : Option AV :=
 match cls op with
 | 0 => pureOp T s op
 | 1 => readOp T s H op
 | 4 => match pureOp T s op with
  | some v => some v
  | none => readOp T s H op
 | _ => none
def loOf (D : DI) (i : Nat) : Nat := D.es.foldl (fun c e => bif (D.ms.get 0 i).testBit e then c + 1 else c) 0
def hiOf (D : DI) (i : Nat) : Nat := D.es.foldl (fun c e => bif (D.ms.get 0 e).testBit i then c else c + 1) 0
structure LR where
 vals : Tr AV
 H : Tr AO
 hs : Nat
 as : List AO
 aid : Tr Nat
def layer (T : Tab) (D : DI) (k : Nat) : List Oper -> Nat -> LR -> Option LR
 | [], _, r => some r
 | o :: l, i, r =>
  bif Nat.beq (cls o.op) 3 || !Nat.beq (loOf D i) k then layer T D k l (i + 1) r else
  match rvals D r.vals i (readsOf D.ops o) with
  | none => none
  | some rv =>
   let s := stOf D rv r.H r.hs
   match wantd s D.ops o with
   | none => none
   | some false => layer T D k l (i + 1) { r with vals := r.vals.put .any i udef }
   | some true =>
    bif Nat.beq (cls o.op) 2 then
     (match newOp T s r.hs o.op with
      | some (.dead, v) => layer T D k l (i + 1) { r with vals := r.vals.put .any i v }
      | some (A, v) => layer T D k l (i + 1) ⟨r.vals.put .any i v, r.H.put .dead r.hs A, r.hs + 1, r.as ++ [A], r.aid.put 0 i (r.hs + 1)⟩
      | none => none)
    else
     (match prOp T s r.H o.op with
      | some v => layer T D k l (i + 1) { r with vals := r.vals.put .any i v }
      | none => none)
structure Lay where
 h0 : Tr AO
 n0 : Nat
 as : List AO
structure EffR where
 e : Nat
 rv : List (Nat × AV)
 v : AV
def drawGo (T : Tab) (rec : Rec) (D : DI) : List Nat -> Nat -> Tr AV -> Tr AO -> Nat -> Tr Nat -> Option (List Lay × List EffR × Tr AV × Tr Nat)
 | es, k, vals, H, hs, aid => match layer T D k D.ops.toList 0 ⟨vals, H, hs, [], aid⟩ with
  | none => none
  | some r => match es with
   | [] => some ([⟨H, hs, r.as⟩], [], r.vals, r.aid)
   | e :: es => match D.ops[e]? with
    | none => none
    | some o => match rvals D r.vals e (readsOf D.ops o) with
     | none => none
     | some rv =>
      let s := stOf D rv (pushes r.as H hs).1 (pushes r.as H hs).2
      match wantd s D.ops o with
      | none => none
      | some false => match drawGo T rec D es (k + 1) (r.vals.put .any e udef) s.heap s.hs r.aid with
       | some (ls, fs, vs, ad) => some (⟨H, hs, r.as⟩ :: ls, ⟨e, rv, udef⟩ :: fs, vs, ad)
       | none => none
      | some true => match actOp T rec s o.op with
       | none => none
       | some (v, H', hs') => match drawGo T rec D es (k + 1) (r.vals.put .any e v) H' hs' r.aid with
        | some (ls, fs, vs, ad) => some (⟨H, hs, r.as⟩ :: ls, ⟨e, rv, v⟩ :: fs, vs, ad)
        | none => none
def sameRV : List (Nat × AV) -> List (Nat × AV) -> Bool
 | [], [] => true
 | (t, v) :: l, (u, w) :: m => Nat.beq t u && sameV v w && sameRV l m
 | _, _ => false
def allLay (P : Nat -> Tr AO -> Nat -> Bool) : List Lay -> Nat -> Bool
 | [], _ => true
 | L :: l, k => P k (pushes L.as L.h0 L.n0).1 (pushes L.as L.h0 L.n0).2 && allLay P l (k + 1)
def within_ (lo hi k : Nat) : Bool := Nat.ble lo k && Nat.ble k hi
def chkOp (T : Tab) (D : DI) (ls : List Lay) (vals : Tr AV) (aid own : Tr Nat) (i : Nat) (o : Oper) : Bool :=
 let lo := loOf D i
 let hi := hiOf D i
 (Nat.beq lo 0 || (match D.es[lo - 1]? with | some e => (D.ms.get 0 i).testBit e | none => false)) &&
 (match D.es[hi]? with | some e => (D.ms.get 0 e).testBit i | none => Nat.beq hi D.es.length) &&
 (match rvals D vals i (readsOf D.ops o) with
 | none => false
 | some rv =>
  match wantd (stOf D rv .lf 0) D.ops o with
  | none => false
  | some false => sameV (vals.get .any i) udef && Nat.beq (aid.get 0 i) 0
  | some true =>
   bif Nat.beq (cls o.op) 2 then
    (match aid.get 0 i with
     | 0 => (match newOp T (stOf D rv .lf 0) 0 o.op with
      | some (.dead, v) => sameV v (vals.get .any i)
      | _ => false)
     | id + 1 => Nat.beq (own.get 0 id) (i + 1) &&
      (match newOp T (stOf D rv .lf 0) id o.op with
      | some (A, v) => sameV v (vals.get .any i) &&
       allLay (fun k H hs => (!within_ lo hi k || sameO (H.get .dead id) A) && (!Nat.ble lo k || Nat.blt id hs)) ls 0
      | none => false))
   else Nat.beq (aid.get 0 i) 0 &&
    (match cls o.op with
     | 0 => (match pureOp T (stOf D rv .lf 0) o.op with | some v => sameV v (vals.get .any i) | none => false)
     | _ => allLay (fun k H _ => !within_ lo hi k || (match prOp T (stOf D rv .lf 0) H o.op with | some v => sameV v (vals.get .any i) | none => false)) ls 0))
def chkIds : List Lay -> Nat -> Nat -> Nat -> Bool
 | [], _, _, _ => true
 | L :: l, k, lo, id => (!Nat.ble k lo || Nat.ble L.n0 id) && chkIds l (k + 1) lo id
def chain (ms : Tr Nat) : List Nat -> Bool
 | e :: f :: l => (ms.get 0 f).testBit e && chain ms (f :: l)
 | _ => true
def ownOf : Nat -> Nat -> Tr Nat -> Tr Nat -> Tr Nat
 | 0, _, _, t => t
 | n + 1, i, aid, t => match aid.get 0 i with
  | 0 => ownOf n (i + 1) aid t
  | id + 1 => ownOf n (i + 1) aid (t.put 0 id (i + 1))
def chkEff (D : DI) (vals : Tr AV) (aid : Tr Nat) : List EffR -> List Nat -> Bool
 | [], [] => true
 | f :: fs, e :: es => Nat.beq f.e e && sameV f.v (vals.get .any e) && Nat.beq (aid.get 0 e) 0 &&
  (match D.ops[e]? with
   | some o => (match rvals D vals e (readsOf D.ops o) with | some rv => sameRV f.rv rv | none => false)
   | none => false) && chkEff D vals aid fs es
 | _, _ => false
def chkAll (T : Tab) (D : DI) (ls : List Lay) (vals : Tr AV) (aid own : Tr Nat) : List Oper -> Nat -> Bool
 | [], _ => true
 | o :: l, i => (bif Nat.beq (cls o.op) 3 then D.es.contains i else chkOp T D ls vals aid own i o && !D.es.contains i && (match aid.get 0 i with | 0 => true | id + 1 => chkIds ls 0 (loOf D i) id)) && chkAll T D ls vals aid own l (i + 1)
def putsD (vals : Tr AV) : List Oper -> Nat -> Tr AV -> Tr AV
 | [], _, t => t
 | o :: l, i, t => match o.dst with
  | none => putsD vals l (i + 1) t
  | some d => putsD vals l (i + 1) (t.put .any d (vals.get .any i))
def dstsOk (nt : Nat) : List Oper -> Bool
 | [] => true
 | o :: l => (match o.dst with | none => true | some d => Nat.blt d nt) && dstsOk nt l
def effIdx : List Oper -> Nat -> List Nat
 | [], _ => []
 | o :: l, i => bif Nat.beq (cls o.op) 3 then i :: effIdx l (i + 1) else effIdx l (i + 1)
def lastLay : List Lay -> Option Lay
 | [] => none
 | [L] => some L
 | _ :: l => lastLay l
def evDraw (T : Tab) (rec : Rec) (ops : Array Oper) (s : AS) : Option (AX × AS) :=
 match masks ops.toList 0 .lf, writers ops.toList 0 .lf with
 | some ms, some wt =>
  let es := effIdx ops.toList 0
  let D : DI := ⟨ops, ms, wt, es, s⟩
  match drawGo T rec D es 0 .lf s.heap s.hs .lf with
  | some (ls, fs, vals, aid) =>
   bif chain ms es && dstsOk s.nt ops.toList && chkEff D vals aid fs es && chkAll T D ls vals aid (ownOf ops.size 0 aid .lf) ops.toList 0 then
    match lastLay ls with
    | some L => some (.normal, { s with tmps := putsD vals ops.toList 0 s.tmps, heap := (pushes L.as L.h0 L.n0).1, hs := (pushes L.as L.h0 L.n0).2 })
    | none => none
   else none
  | none => none
 | _, _ => none
structure JS where
 vals : Tr AV
 H : Tr AO
 hs : Nat
 hps : List (Tr AO × Nat)
 fs : List EffR
def nonEff (T : Tab) (s : AS) (H : Tr AO) (op : Op) : Option AV :=
 bif Nat.beq (cls op) 2 then (match newOp T s 0 op with | some (.dead, v) => some v | _ => none) else prOp T s H op
def jput (q : JS) (i : Nat) : Option AV -> Option JS
 | some v => some { q with vals := q.vals.put .any i v }
 | none => none
def jeff (q : JS) (i : Nat) (rv : List (Nat × AV)) : Option (AV × Tr AO × Nat) -> Option JS
 | some (v, H, hs) => some ⟨q.vals.put .any i v, H, hs, q.hps ++ [(H, hs)], q.fs ++ [⟨i, rv, v⟩]⟩
 | none => none
def jgo (T : Tab) (rec : Rec) (i : Nat) (o : Oper) (q : JS) (rv : List (Nat × AV)) (s : AS) : Option Bool -> Option JS
 | none => none
 | some false => bif Nat.beq (cls o.op) 3 then jeff q i rv (some (udef, q.H, q.hs)) else jput q i (some udef)
 | some true => bif Nat.beq (cls o.op) 3 then jeff q i rv (actOp T rec s o.op) else jput q i (nonEff T s q.H o.op)
def jstep (T : Tab) (rec : Rec) (D : DI) (i : Nat) (o : Oper) (q : JS) : Option JS :=
 match rvals D q.vals i (readsOf D.ops o) with
 | none => none
 | some rv => jgo T rec i o q rv (stOf D rv q.H q.hs) (wantd (stOf D rv q.H q.hs) D.ops o)
def jrun (T : Tab) (rec : Rec) (D : DI) : List Oper -> Nat -> JS -> Option JS
 | [], _, q => some q
 | o :: l, i, q => match jstep T rec D i o q with
  | some q' => jrun T rec D l (i + 1) q'
  | none => none
def lays (l : List (Tr AO × Nat)) : List Lay := l.map fun h => ⟨h.1, h.2, []⟩
def evDrawJ (T : Tab) (rec : Rec) (ops : Array Oper) (s : AS) : Option (AX × AS) :=
 match masks ops.toList 0 .lf, writers ops.toList 0 .lf with
 | some ms, some wt =>
  match jrun T rec ⟨ops, ms, wt, effIdx ops.toList 0, s⟩ ops.toList 0 ⟨.lf, s.heap, s.hs, [(s.heap, s.hs)], []⟩ with
  | some q =>
   bif chain ms (effIdx ops.toList 0) && dstsOk s.nt ops.toList && chkEff ⟨ops, ms, wt, effIdx ops.toList 0, s⟩ q.vals .lf q.fs (effIdx ops.toList 0) && chkAll T ⟨ops, ms, wt, effIdx ops.toList 0, s⟩ (lays q.hps) q.vals .lf .lf ops.toList 0 then
    some (.normal, { s with tmps := putsD q.vals ops.toList 0 s.tmps, heap := q.H, hs := q.hs })
   else none
  | none => none
 | _, _ => none
def rdOk (ms wt : Tr Nat) (i t : Nat) : Bool := match wt.get 0 t with
 | 0 => true
 | w + 1 => (Nat.blt w i && (ms.get 0 i).testBit w) || (Nat.blt i w && (ms.get 0 w).testBit i)
def plB (D : DI) (i : Nat) : Bool :=
 !D.es.contains i && ((Nat.beq (loOf D i) 0 || (match D.es[loOf D i - 1]? with | some e => (D.ms.get 0 i).testBit e | none => false)) &&
  (match D.es[hiOf D i]? with | some e => (D.ms.get 0 e).testBit i | none => Nat.beq (hiOf D i) D.es.length))
def isRd (op : Op) : Bool := Nat.beq (cls op) 1 || Nat.beq (cls op) 4
def isAl : Op -> Bool
 | .alloc _ => true
 | _ => false
def isSt : Op -> Bool
 | .store _ _ _ => true
 | .mapUpdate _ _ _ _ => true
 | _ => false
def alOk (D : DI) (i t : Nat) : Bool := match D.wt.get 0 t with
 | 0 => true
 | w + 1 => (match D.ops[w]? with | some o => !isAl o.op || Nat.blt w i | none => true)
def anyAl (D : DI) : Bool := D.ops.toList.any fun o => isAl o.op
def stAll (D : DI) (nt : Nat) : List Oper -> Nat -> Bool
 | [], _ => true
 | o :: l, i => (readsOf D.ops o).all (fun t => Nat.blt t nt && rdOk D.ms D.wt i t) && ((readsOf D.ops o).all (alOk D i) && (!isAl o.op || (o.guard.isNone && Nat.beq (loOf D i) 0))) && (bif Nat.beq (cls o.op) 3 then D.es.contains i else plB D i) && stAll D nt l (i + 1)
def needJ (D : DI) : List Oper -> Nat -> Nat -> Bool
 | [], _, _ => false
 | o :: l, i, j => ((isRd o.op || isAl o.op) && Nat.ble (loOf D i) j && Nat.blt j (hiOf D i)) || needJ D l (i + 1) j
def needL (D : DI) : List Oper -> Nat -> List Bool
 | [], _ => []
 | o :: l, j => bif Nat.beq (cls o.op) 3 then (needJ D D.ops.toList 0 j || (anyAl D && !isSt o.op)) :: needL D l (j + 1) else false :: needL D l j
def isBx : Op -> Bool
 | .box _ _ => true
 | _ => false
def hasBx (l : List Oper) : Bool := l.any fun o => isBx o.op
def drawI0 (nt : Nat) (ops : Array Oper) : Option (List Bool) :=
 match masks ops.toList 0 .lf, writers ops.toList 0 .lf with
 | some ms, some wt =>
  bif chain ms (effIdx ops.toList 0) && dstsOk nt ops.toList && stAll ⟨ops, ms, wt, effIdx ops.toList 0, ⟨.lf, 0, .lf, 0, [], ⟨true, true, .lf⟩⟩⟩ nt ops.toList 0 then some (needL ⟨ops, ms, wt, effIdx ops.toList 0, ⟨.lf, 0, .lf, 0, [], ⟨true, true, .lf⟩⟩⟩ ops.toList 0) else none
 | _, _ => none
def drawI (nt : Nat) (ops : Array Oper) : Option (List Bool) := bif hasBx ops.toList then none else drawI0 nt ops
def rdOp (g : Nat -> Nat -> Bool) (op : Op) : Bool := match op with
 | .call c => match c.callee with
  | .builtin .len => true
  | .builtin .cap => true
  | .builtin .max => true
  | .builtin .min => true
  | .value (.func f) => g f c.args.size
  | _ => false
 | op => Nat.beq (cls op) 0 || Nat.beq (cls op) 1
def rdC (g : Nat -> Nat -> Bool) (nt : Nat) : Code -> Bool
 | .skip => true
 | .label _ => true
 | .exit _ => true
 | .goto _ => true
 | .ret => true
 | .seq a b => rdC g nt a && rdC g nt b
 | .cond _ a b => rdC g nt a && rdC g nt b
 | .block _ a => rdC g nt a
 | .loop a => rdC g nt a
 | .region _ ops d => (ops.toList.all fun o => rdOp g o.op) && (!d || (drawI nt ops).isSome)
 | _ => false
def rdF (T : Tab) : Nat -> Nat -> Nat -> Bool
 | 0, _, _ => false
 | d + 1, f, k => match T.n f with
  | some _ => true
  | none => match T.f f with
   | some fi => bif fi.iso then fi.own else (fi.own || (Nat.beq fi.lm 3 || Nat.beq fi.lm 4) && (Nat.ble k fi.ntmps && rdC (rdF T d) fi.ntmps fi.body))
   | none => false
def quietG (T : Tab) (g : Nat) (as : List AV) (H : Tr AO) (hs : Nat) : Bool :=
 match T.n g with
 | some _ => true
 | none => match T.con g as H hs with
  | some _ => false
  | none => match T.f g with
   | some fi => bif fi.iso then bares as else fi.own || rdF T 20 g as.length
   | none => false
def quietC (T : Tab) (s : AS) : Op -> Bool
 | .call c => match c.callee with
  | .value f => match opd s f, opds s c.args.toList with
   | some (.fn (.func g) a b), some as => quietG T g (a ++ as ++ b) s.heap s.hs
   | _, _ => false
  | _ => false
 | _ => false
def isDd : AO -> Bool
 | .dead => true
 | _ => false
def quietO (lm : Bool) (h : AO) : Option TI -> Option AV -> Bool
 | some i, some u => (match i.desc, lstX lm u with
  | .int _, _ => false
  | _, some _ => isDd h
  | _, none => false)
 | _, _ => false
def quietA (T : Tab) (s : AS) : Op -> Bool
 | .call c => match c.callee, c.args.toList, c.argTypes.toList with
  | .builtin .append, [x, _], [_, yt] => quietO s.md.lm (s.heap.get .dead s.hs) (T.t yt) (opd s x)
  | _, _, _ => false
 | _ => false
def opT (T : Tab) (rec : Rec) (q : Bool) (o : Oper) (s : AS) : Option AS :=
 bif Nat.beq (cls o.op) 3 then
  bif !q || (quietC T s o.op || quietA T s o.op) then (match actOp T rec s o.op with
   | some (v, H, hs) => setT { s with heap := H, hs := hs } o.dst v
   | none => none) else none
 else bif isAl o.op then (match o.dst with
  | some d => setT s (some d) (s.tmps.get .any d)
  | none => none)
 else match nonEff T s s.heap o.op with
  | some v => setT s o.dst v
  | none => none
def hoist (T : Tab) (rec : Rec) : List Oper -> AS -> Option AS
 | [], s => some s
 | o :: l, s => bif isAl o.op then (match evOp T rec o s with
  | some s' => hoist T rec l s'
  | none => none) else hoist T rec l s
def evT (T : Tab) (rec : Rec) (ops : Array Oper) : List Oper -> List Bool -> AS -> Option AS
 | [], _, s => some s
 | o :: l, q, s => match wantd s ops o with
  | some true => (match opT T rec (q.headD true) o s with
   | some s' => evT T rec ops l q.tail s'
   | none => none)
  | some false => (match setT s o.dst udef with
   | some s' => evT T rec ops l q.tail s'
   | none => none)
  | none => none
def evDrawT (T : Tab) (rec : Rec) (ops : Array Oper) (s : AS) : Option (AX × AS) :=
 match drawI s.nt ops with
 | some q => (match hoist T rec ops.toList s with
  | some s1 => (match evT T rec ops ops.toList q s1 with
   | some s' => some (.normal, s')
   | none => none)
  | none => none)
 | none => none
def useJ (lm : Bool) (ops : List Oper) : Bool := lm && ops.all fun o => !Nat.beq (cls o.op) 2 || (match o.op with | .buildSlice .. => true | _ => false)
def befX (wt : Tr Nat) (i t : Nat) : Bool := match wt.get 0 t with
 | 0 => true
 | w + 1 => Nat.blt w i
def xOk (D : DI) (nt : Nat) : List Oper -> Nat -> Bool
 | [], _ => true
 | o :: l, i => ((readsOf D.ops o).all (fun t => Nat.blt t nt && rdOk D.ms D.wt i t) && (o.guard.isNone && !isAl o.op)) &&
  ((bif Nat.beq (cls o.op) 3 then D.es.contains i else plB D i) && ((!isRd o.op || ((readsOf D.ops o).all (befX D.wt i) && o.dst.isSome)) && (!isBx o.op || (Nat.beq (loOf D i) D.es.length && o.dst.isSome)))) && xOk D nt l (i + 1)
def xLst (D : DI) : List Oper -> Nat -> List (Nat × Nat × Nat)
 | [], _ => []
 | o :: l, i => bif isRd o.op then (i, loOf D i, hiOf D i) :: xLst D l (i + 1) else xLst D l (i + 1)
def drawX (nt : Nat) (ops : Array Oper) : Option (List (Nat × Nat × Nat)) :=
 match masks ops.toList 0 .lf, writers ops.toList 0 .lf with
 | some ms, some wt =>
  bif chain ms (effIdx ops.toList 0) && dstsOk nt ops.toList && xOk ⟨ops, ms, wt, effIdx ops.toList 0, ⟨.lf, 0, .lf, 0, [], ⟨true, true, .lf⟩⟩⟩ nt ops.toList 0 then some (xLst ⟨ops, ms, wt, effIdx ops.toList 0, ⟨.lf, 0, .lf, 0, [], ⟨true, true, .lf⟩⟩⟩ ops.toList 0) else none
 | _, _ => none
def newT (T : Tab) (o : Oper) (s : AS) : Option AS := match newOp T s s.hs o.op with
 | some (.dead, _) => none
 | some (A, v) => setT { s with heap := s.heap.put .dead s.hs A, hs := s.hs + 1 } o.dst v
 | none => none
def opX (T : Tab) (rec : Rec) (o : Oper) (s : AS) : Option AS := bif isBx o.op then newT T o s else opT T rec false o s
def evX (T : Tab) (rec : Rec) : List Oper -> AS -> Option (List (Tr AO × Nat) × AS)
 | [], s => some ([(s.heap, s.hs)], s)
 | o :: l, s => match opX T rec o s with
  | some s' => bif !Nat.beq (cls o.op) 3 || Nat.ble s.hs s'.hs then (match evX T rec l s' with
   | some (hl, sN) => some (bif Nat.beq (cls o.op) 3 then (s.heap, s.hs) :: hl else hl, sN)
   | none => none) else none
  | none => none
def hChk (lo hi : Nat) (f : Tr AO -> Option AV) (w : AV) : List (Tr AO × Nat) -> Nat -> Bool
 | [], _ => true
 | h :: l, k => (bif Nat.ble lo k && Nat.ble k hi then (match f h.1 with | some v => sameV v w | none => false) else true) && hChk lo hi f w l (k + 1)
def xChk (T : Tab) (ops : Array Oper) (s : AS) (hl : List (Tr AO × Nat)) : List (Nat × Nat × Nat) -> Bool
 | [] => true
 | (i, lo, hi) :: l => (match ops[i]? with
  | some o => (match o.dst with
   | some d => hChk lo hi (fun H => prOp T s H o.op) (s.tmps.get .any d) hl 0
   | none => false)
  | none => false) && xChk T ops s hl l
def evDrawX (T : Tab) (rec : Rec) (ops : Array Oper) (s : AS) (cs : List (Nat × Nat × Nat)) : Option (AX × AS) :=
 match evX T rec ops.toList s with
 | some (hl, sN) => bif xChk T ops sN hl cs then some (.normal, sN) else none
 | none => none
def evDrO (T : Tab) (rec : Rec) (ops : Array Oper) (s : AS) : Option (AX × AS) :=
 match drawX s.nt ops with
 | some cs => evDrawX T rec ops s cs
 | none => bif useJ s.md.lm ops.toList then evDrawJ T rec ops s else evDraw T rec ops s
def evDr (T : Tab) (rec : Rec) (ops : Array Oper) (s : AS) : Option (AX × AS) :=
 bif s.md.tx && (drawI s.nt ops).isSome then evDrawT T rec ops s else evDrO T rec ops s
def enterF (ro : Option Nat) (s : AS) : Option (Nat × Tr AO × Nat × List Nat) :=
 match ro with
 | none => some (s.hs, s.heap.put .dead s.hs (.defd true), s.hs + 1, s.hs :: s.defs)
 | some l => match s.heap.get .dead l with
  | .loop _ _ _ _ _ _ d _ => some (d, s.heap, s.hs, s.defs)
  | _ => none
def scopeGo (rec : Rec) (ro : Option Nat) (c : Code) (m : Nat) : Code -> AS -> Option (AX × AS) :=
 Nat.rec (fun _ _ => none) (fun _ f x s => match rec ro x s with
  | some (.goto l, s') => (match findLabel c l with
   | some rest => f rest s'
   | none => some (.goto l, s'))
  | r => r) m
def step (T : Tab) (rec : Rec) (ro : Option Nat) (c : Code) (s : AS) : Option (AX × AS) :=
 match c with
 | .skip => some (.normal, s)
 | .label _ => some (.normal, s)
 | .exit i => some (.exit i, s)
 | .goto l => some (.goto l, s)
 | .ret => some (.ret, s)
 | .seq x y => match rec ro x s with
  | some (.normal, s') => rec ro y s'
  | r => r
 | .cond c x y => match opd s c with
  | some (.lit (.bool true)) => rec ro x s
  | some (.lit (.bool false)) => rec ro y s
  | _ => none
 | .block i x => match rec ro x s with
  | some (.exit j, s') => some (bif Nat.beq j i then .normal else .exit j, s')
  | r => r
 | .loop x => match rec ro x s with
  | some (.normal, s') => rec ro (.loop x) s'
  | r => r
 | .scope c => scopeGo rec ro c 1000000 c s
 | .region _ ops d => bif d then evDr T rec ops s else evOps T rec ops ops.toList s
 | .rangeFunc g ps assign body =>
  match opd s g with
  | some (.fn (.func g) x y) =>
   match enterF ro s with
   | some (d, H, hs, defs) =>
    let tm := (List.range s.nt).map (s.tmps.get .any)
    match callF T rec s.md g (x ++ [.yld hs] ++ y) (H.put .dead hs (.loop .ready none tm ps assign body d s.md.lm)) (hs + 1) with
    | some (_, H', hs') =>
     match H'.get .dead hs with
     | .loop st pend t2 ps2 a2 b2 d2 lm2 =>
      bif decide (st = LoopState.busy) then none else
      let s' : AS := { s with heap := H'.put .dead hs (.loop .exhausted pend t2 ps2 a2 b2 d2 lm2), hs := hs', defs := defs }
      (match pend with
       | none => some (.normal, s')
       | some c => rec ro c s')
     | _ => none
    | none => none
   | none => none
  | _ => none
 | _ => none
def ev (T : Tab) (n : Nat) : Rec := Nat.rec (fun _ _ _ => none) (fun _ rec ro c s => step T rec ro c s) n
def run (T : Tab) (m : Md) (n : Nat) (f : Nat) (args : List AV) : Option (AV × Tr AO × Nat) := callF T (ev T n) m f args .lf 0
end Go.Proofs.YtcledcfeddlomaaGreatDoor.Ev
namespace Go.Proofs.YtcledcfeddlomaaGreatDoor.Ev
open Go.RowKit
theorem sameO_is {a b : AO} (h : sameO a b = true) : a = b := by
 unfold sameO at h
 split at h
 ·simp only [Bool.and_eq_true, beq_iff_eq] at h
  rw [sameVs_is h.1, h.2]
 ·rw [Nat.eq_of_beq_eq_true h]
 ·rfl
 ·rw [Nat.eq_of_beq_eq_true h]
 ·cases h
theorem sameRV_is : ∀ {l m : List (Nat × AV)}, sameRV l m = true -> l = m
 | [], [], _ => rfl
 | [], _ :: _, h => by simp [sameRV] at h
 | _ :: _, [], h => by simp [sameRV] at h
 | (t, v) :: l, (u, w) :: m, h => by
  simp only [sameRV, Bool.and_eq_true] at h
  rw [Nat.eq_of_beq_eq_true h.1.1, same_is h.1.2, sameRV_is h.2]
theorem fold_bits (t : Tr Nat) (j : Nat) : ∀ (es : List Edge) (m : Nat), (es.foldl (fun m e => bif Region.binds .any e then m ||| 2 ^ e.on ||| t.get 0 e.on else m) m).testBit j = true ->
  m.testBit j = true ∨ ∃ e ∈ es, Region.binds .any e = true /\ (j = e.on ∨ (t.get 0 e.on).testBit j = true)
 | [], m, h => .inl h
 | e :: es, m, h => by
  simp only [List.foldl_cons] at h
  rcases fold_bits t j es _ h with h1 | ⟨e', h1, h2, h3⟩
  ·cases hb : Region.binds .any e with
   | false => rw [hb, cond_false] at h1; exact .inl h1
   | true =>
    rw [hb, cond_true, Nat.testBit_or, Nat.testBit_or, Bool.or_eq_true, Bool.or_eq_true] at h1
    rcases h1 with (h1 | h1) | h1
    ·exact .inl h1
    ·refine .inr ⟨e, by simp, hb, .inl ?_⟩
     rw [Nat.testBit_two_pow] at h1
     exact (by simpa using h1 : e.on = j).symm
    ·exact .inr ⟨e, by simp, hb, .inr h1⟩
  ·exact .inr ⟨e', by simp [h1], h2, h3⟩
structure MOk (ops : Array Oper) (ms : Tr Nat) : Prop where
 lt : ∀ i o, ops[i]? = some o -> ∀ e ∈ o.after, Region.binds .any e = true -> e.on < i
 bit : ∀ i o, ops[i]? = some o -> ∀ j, (ms.get 0 i).testBit j = true -> ∃ e ∈ o.after, Region.binds .any e = true /\ (j = e.on ∨ (ms.get 0 e.on).testBit j = true)
theorem masks_spec : ∀ (l : List Oper) (i : Nat) (t ms : Tr Nat), masks l i t = some ms -> (∀ j, j < i -> ms.get 0 j = t.get 0 j) /\
  ∀ k o, l[k]? = some o -> (∀ e ∈ o.after, Region.binds .any e = true -> e.on < i + k) /\ (∀ j, (ms.get 0 (i + k)).testBit j = true -> ∃ e ∈ o.after, Region.binds .any e = true /\ (j = e.on ∨ (ms.get 0 e.on).testBit j = true))
 | [], i, t, ms, h => by
  simp only [masks, Option.some.injEq] at h; subst h
  exact ⟨fun _ _ => rfl, fun k o hk => by simp at hk⟩
 | o :: l, i, t, ms, h => by
  simp only [masks] at h
  cases hb : (o.after.toList.all fun e => !Region.binds .any e || Nat.blt e.on i) with
  | false => rw [hb] at h; cases h
  | true =>
   rw [hb, cond_true] at h
   obtain ⟨h1, h2⟩ := masks_spec l (i + 1) _ ms h
   have hlt : ∀ e ∈ o.after, Region.binds .any e = true -> e.on < i := by
    intro e he hbd
    have := List.all_eq_true.1 hb e (by simpa using he)
    simp only [hbd, Bool.not_true, Bool.false_or] at this
    exact blt_lt.1 this
   have hold : ∀ j, j < i -> ms.get 0 j = t.get 0 j := fun j hj => by rw [h1 j (by omega), Tr.get_put, if_neg (by omega)]
   refine ⟨hold, fun k o' hk => ?_⟩
   cases k with
   | zero =>
    simp at hk; subst hk
    refine ⟨fun e he hbd => by simpa using hlt e he hbd, fun j hj => ?_⟩
    rw [Nat.add_zero, h1 i (by omega), Tr.get_put, if_pos rfl] at hj
    rcases fold_bits t j _ 0 hj with h3 | ⟨e, h3, h4, h5⟩
    ·simp at h3
    ·refine ⟨e, by simpa using h3, h4, h5.imp id fun h6 => ?_⟩
     rw [hold e.on (hlt e (by simpa using h3) h4)]; exact h6
   | succ k =>
    simp at hk
    have := h2 k o' hk
    rw [show i + (k + 1) = i + 1 + k from by omega]
    exact this
theorem masks_ok {ops : Array Oper} {ms : Tr Nat} (h : masks ops.toList 0 .lf = some ms) : MOk ops ms := by
 obtain ⟨_, h2⟩ := masks_spec _ _ _ _ h
 refine ⟨fun i o ho => ?_, fun i o ho => ?_⟩
 ·have := (h2 i o (by simpa using ho)).1; simpa using this
 ·have := (h2 i o (by simpa using ho)).2; simpa using this
def Cl (ops : Array Oper) (S : Nat -> Prop) : Prop := ∀ i o, S i -> ops[i]? = some o -> ∀ e ∈ o.after, Region.binds .any e = true -> S e.on
theorem bef {ops : Array Oper} {ms : Tr Nat} (hM : MOk ops ms) {S : Nat -> Prop} (hC : Cl ops S) (hS : ∀ i, S i -> ∃ o, ops[i]? = some o) : ∀ (i : Nat) (o : Oper), ops[i]? = some o -> (∀ e ∈ o.after, Region.binds .any e = true -> S e.on) -> ∀ j, (ms.get 0 i).testBit j = true -> S j := by
 intro i
 induction i using Nat.strongRecOn with
 | _ i ih =>
  intro o ho hd j hj
  obtain ⟨e, he, hb, h⟩ := hM.bit i o ho j hj
  rcases h with rfl | h
  ·exact hd e he hb
  ·obtain ⟨o', ho'⟩ := hS _ (hd e he hb)
   exact ih e.on (hM.lt i o ho e he hb) o' ho' (fun e' he' hb' => hC _ _ (hd e he hb) ho' e' he' hb') j h
theorem bit_lt {ops : Array Oper} {ms : Tr Nat} (hM : MOk ops ms) : ∀ (i : Nat), (∃ o, ops[i]? = some o) -> ∀ j, (ms.get 0 i).testBit j = true -> j < i := by
 intro i
 induction i using Nat.strongRecOn with
 | _ i ih =>
  rintro ⟨o, ho⟩ j hj
  obtain ⟨e, he, hb, h⟩ := hM.bit i o ho j hj
  have hlt := hM.lt i o ho e he hb
  rcases h with rfl | h
  ·exact hlt
  ·have hi : i < ops.size := (Array.getElem?_eq_some_iff.1 ho).1
   have := ih e.on hlt ⟨ops[e.on]'(by omega), by simp⟩ j h
   omega
structure WOk (ops : Array Oper) (wt : Tr Nat) : Prop where
 of : ∀ d w, wt.get 0 d = w + 1 -> ∃ o, ops[w]? = some o /\ o.dst = some d
 to : ∀ i o d, ops[i]? = some o -> o.dst = some d -> wt.get 0 d = i + 1
theorem writers_spec : ∀ (l : List Oper) (i : Nat) (t wt : Tr Nat), writers l i t = some wt ->
  (∀ d, t.get 0 d ≠ 0 -> wt.get 0 d = t.get 0 d) /\ (∀ d w, wt.get 0 d = w + 1 -> t.get 0 d = w + 1 ∨ ∃ k o, w = i + k /\ l[k]? = some o /\ o.dst = some d) /\ (∀ k o d, l[k]? = some o -> o.dst = some d -> wt.get 0 d = i + k + 1)
 | [], i, t, wt, h => by
  simp only [writers, Option.some.injEq] at h; subst h
  exact ⟨fun _ _ => rfl, fun d w hw => .inl hw, fun k o d hk => by simp at hk⟩
 | o :: l, i, t, wt, h => by
  simp only [writers] at h
  cases hd : o.dst with
  | none =>
   simp only [hd] at h
   obtain ⟨h1, h2, h3⟩ := writers_spec l (i + 1) t wt h
   refine ⟨h1, fun d w hw => (h2 d w hw).imp id fun ⟨k, o', e, hk, ho⟩ => ⟨k + 1, o', by omega, by simpa using hk, ho⟩, fun k o' d hk ho => ?_⟩
   cases k with
   | zero => simp at hk; subst hk; rw [hd] at ho; cases ho
   | succ k => simp at hk; rw [h3 k o' d hk ho]; omega
  | some d0 =>
   simp only [hd, beq_if] at h
   split at h
   ·rename_i h0
    obtain ⟨h1, h2, h3⟩ := writers_spec l (i + 1) _ wt h
    refine ⟨fun d hne => ?_, fun d w hw => ?_, fun k o' d hk ho => ?_⟩
    ·have hdd : d ≠ d0 := fun e => hne (e ▸ h0)
     rw [h1 d (by rw [Tr.get_put, if_neg hdd]; exact hne), Tr.get_put, if_neg hdd]
    ·rcases h2 d w hw with h4 | ⟨k, o', e, hk, ho⟩
     ·rw [Tr.get_put] at h4
      split at h4
      ·rename_i e; subst e
       exact .inr ⟨0, o, by omega, by simp, hd⟩
      ·exact .inl h4
     ·exact .inr ⟨k + 1, o', by omega, by simpa using hk, ho⟩
    ·cases k with
     | zero =>
      simp at hk; subst hk; rw [hd] at ho; cases ho
      rw [h1 _ (by rw [Tr.get_put, if_pos rfl]; omega), Tr.get_put, if_pos rfl]
     | succ k => simp at hk; rw [h3 k o' d hk ho]; omega
   ·cases h
theorem writers_ok {ops : Array Oper} {wt : Tr Nat} (h : writers ops.toList 0 .lf = some wt) : WOk ops wt := by
 obtain ⟨_, h2, h3⟩ := writers_spec _ _ _ _ h
 refine ⟨fun d w hw => ?_, fun i o d ho hd => ?_⟩
 ·rcases h2 d w hw with h4 | ⟨k, o, e, hk, ho⟩
  ·simp [Tr.get] at h4
  ·exact ⟨o, by rw [e]; simpa using hk, ho⟩
 ·have := h3 i o d (by simpa using ho) hd; omega
def lH (L : Lay) : Tr AO := (pushes L.as L.h0 L.n0).1
def lN (L : Lay) : Nat := (pushes L.as L.h0 L.n0).2
theorem pushes_le : ∀ (l : List AO) (H : Tr AO) (hs : Nat), hs <= (pushes l H hs).2
 | [], _, _ => Nat.le_refl _
 | A :: l, H, hs => by have := pushes_le l (H.put .dead hs A) (hs + 1); simp only [pushes]; omega
theorem WR.push {β : Env} {B : Gd} {W : World} {H : Tr AO} {hs : Nat} (h : WR β B H hs W) (A : AO) : WR β B (H.put .dead hs A) (hs + 1) W := by
 have hd := h.dom hs (Nat.le_refl _)
 have ne : ∀ {o k}, β.b o = some k -> o ≠ hs := fun hk e => by rw [e, hd] at hk; cases hk
 refine ⟨h.below, fun o ho => h.dom o (by omega), fun o k hk => ?_, h.blk, fun o o' k k' hne hk hk' ho hl => ?_, h.fz, h.fm, fun o k hk ho => (by rw [Tr.get_put, if_neg (ne hk)] at ho ⊢; exact h.apart o k hk ho), h.gfz, h.gfm⟩
 ·rw [Tr.get_put, if_neg (ne hk)]; exact h.obj o k hk
 ·rw [Tr.get_put, if_neg (ne hk)] at ho
  rw [Tr.get_put, if_neg (ne hk')] at hl
  exact h.inj o o' k k' hne hk hk' ho hl
theorem WR.pushes {β : Env} {B : Gd} {W : World} : ∀ {l : List AO} {H : Tr AO} {hs : Nat}, WR β B H hs W -> WR β B (Ev.pushes l H hs).1 (Ev.pushes l H hs).2 W
 | [], _, _, h => h
 | A :: l, _, _, h => WR.pushes (l := l) (h.push A)
theorem WR.place {β : Env} {B : Gd} {W : World} {H : Tr AO} {hs : Nat} (h : WR β B H hs W) {o : Nat} (hn : β.b o = none) (hlt : o < hs) (x : Obj) (sz esz : Nat) (A : AO) (hA : H.get .dead o = A)
  (hO : ORel (β.add o ⟨W.heap.size, 0, sz, esz⟩) B.pr A ⟨W.heap.size, 0, sz, esz⟩ (some x)) : WR (β.add o ⟨W.heap.size, 0, sz, esz⟩) B H hs (W.alloc x) := by
 have hle := Env.le_add (k := ⟨W.heap.size, 0, sz, esz⟩) hn
 refine ⟨h.below.alloc x, ?_, ?_, ?_, ?_, fun b i v hv => (by rw [heap_alloc_old (h.fz_lt hv)]; exact h.fz b i v hv), fun r y hx => (by rw [heap_alloc_old (heap_lt (h.fm r y hx))]; exact h.fm r y hx), ?_, h.gfz, h.gfm⟩
 ·intro j hj; rw [Env.add_other _ _ (by omega)]; exact h.dom j hj
 ·intro j k hk
  by_cases e : j = o
  ·subst e; rw [Env.add_self] at hk; cases hk; rw [hA, heap_alloc_new]; exact hO
  ·rw [Env.add_other _ _ e] at hk; rw [heap_alloc_old (h.blk j k hk)]; exact (h.obj j k hk).mono hle
 ·intro j k hk
  have : (W.alloc x).heap.size = W.heap.size + 1 := World.size_alloc W x
  by_cases e : j = o
  ·subst e; rw [Env.add_self] at hk; cases hk; rw [this]; exact Nat.lt_succ_self _
  ·rw [Env.add_other _ _ e] at hk; have := h.blk j k hk; omega
 ·intro j j' k k' hne hk hk' ho hl
  by_cases e : j = o
  ·subst e; rw [Env.add_self] at hk; cases hk
   rw [Env.add_other _ _ (fun x => hne x.symm)] at hk'; have := h.blk j' k' hk'; simp only; omega
  ·rw [Env.add_other _ _ e] at hk
   by_cases e' : j' = o
   ·subst e'; rw [Env.add_self] at hk'; cases hk'; have := h.blk j k hk; simp only; omega
   ·rw [Env.add_other _ _ e'] at hk'; exact h.inj j j' k k' hne hk hk' ho hl
 ·intro j k hk ho
  by_cases e : j = o
  ·subst e; rw [Env.add_self] at hk; cases hk
   exact ⟨fun off _ => h.fz_new _ _ (Nat.le_refl _), h.fm_new _ (Nat.le_refl _)⟩
  ·rw [Env.add_other _ _ e] at hk; exact h.apart j k hk ho
inductive Runs (T : Tab) (rec : Rec) (D : DI) : List Nat -> List Lay -> List EffR -> Prop where
 | nil (L : Lay) : Runs T rec D [] [L] []
 | skip (e : Nat) (o : Oper) (rv : List (Nat × AV)) (es : List Nat) (L L' : Lay) (ls : List Lay) (fs : List EffR) (ho : D.ops[e]? = some o) (hw : wantd (stOf D rv (lH L) (lN L)) D.ops o = some false)
   (h0 : L'.h0 = lH L) (n0 : L'.n0 = lN L) (t : Runs T rec D es (L' :: ls) fs) : Runs T rec D (e :: es) (L :: L' :: ls) (⟨e, rv, udef⟩ :: fs)
 | act (e : Nat) (o : Oper) (rv : List (Nat × AV)) (v : AV) (es : List Nat) (L L' : Lay) (ls : List Lay) (fs : List EffR) (ho : D.ops[e]? = some o) (hw : wantd (stOf D rv (lH L) (lN L)) D.ops o = some true)
   (ha : actOp T rec (stOf D rv (lH L) (lN L)) o.op = some (v, L'.h0, L'.n0)) (t : Runs T rec D es (L' :: ls) fs) : Runs T rec D (e :: es) (L :: L' :: ls) (⟨e, rv, v⟩ :: fs)
theorem drawGo_runs {T : Tab} {rec : Rec} {D : DI} : ∀ (es : List Nat) (k : Nat) (vals : Tr AV) (H : Tr AO) (hs : Nat) (aid : Tr Nat) (ls : List Lay) (fs : List EffR) (vs : Tr AV) (ad : Tr Nat),
  drawGo T rec D es k vals H hs aid = some (ls, fs, vs, ad) -> Runs T rec D es ls fs /\ ∃ L ls', ls = L :: ls' /\ L.h0 = H /\ L.n0 = hs := by
 intro es
 induction es with
 | nil =>
  intro k vals H hs aid ls fs vs ad h
  unfold drawGo at h
  split at h
  ·cases h
  ·rename_i r hr
   cases h
   exact ⟨.nil _, _, _, rfl, rfl, rfl⟩
 | cons e es ih =>
  intro k vals H hs aid ls fs vs ad h
  unfold drawGo at h
  split at h
  ·cases h
  ·rename_i r hr
   simp only at h
   split at h
   ·cases h
   ·rename_i o ho
    split at h
    ·cases h
    ·rename_i rv hrv
     split at h
     ·cases h
     ·rename_i hwd
      split at h
      ·rename_i ls2 fs2 vs2 ad2 hgo
       cases h
       obtain ⟨h1, L', ls3, rfl, h2, h3⟩ := ih _ _ _ _ _ _ _ _ _ hgo
       exact ⟨.skip e o rv es ⟨H, hs, r.as⟩ L' ls3 fs2 ho hwd h2 h3 h1, _, _, rfl, rfl, rfl⟩
      ·cases h
     ·rename_i hwd
      split at h
      ·cases h
      ·rename_i v H' hs' hact
       split at h
       ·rename_i ls2 fs2 vs2 ad2 hgo
        cases h
        obtain ⟨h1, L', ls3, rfl, h2, h3⟩ := ih _ _ _ _ _ _ _ _ _ hgo
        refine ⟨.act e o rv v es ⟨H, hs, r.as⟩ L' ls3 fs2 ho hwd ?_ h1, _, _, rfl, rfl, rfl⟩
        rw [h2, h3]; exact hact
       ·cases h
theorem allLay_get {f : Nat -> Tr AO -> Nat -> Bool} : ∀ {ls : List Lay} {k : Nat}, allLay f ls k = true -> ∀ j L, ls[j]? = some L -> f (k + j) (lH L) (lN L) = true
 | [], k, _, j, L, h => by simp at h
 | L0 :: ls, k, h, 0, L, hj => by
  simp at hj; subst hj
  simp only [allLay, Bool.and_eq_true] at h
  exact h.1
 | L0 :: ls, k, h, j + 1, L, hj => by
  simp only [allLay, Bool.and_eq_true] at h
  have := allLay_get h.2 j L (by simpa using hj)
  rw [show k + (j + 1) = k + 1 + j from by omega]; exact this
theorem chkIds_get : ∀ {ls : List Lay} {k lo id : Nat}, chkIds ls k lo id = true -> ∀ j L, ls[j]? = some L -> k + j <= lo -> L.n0 <= id
 | [], k, lo, id, _, j, L, h, _ => by simp at h
 | L0 :: ls, k, lo, id, h, 0, L, hj, hle => by
  simp at hj; subst hj
  simp only [chkIds, Bool.and_eq_true, Bool.or_eq_true, Bool.not_eq_true'] at h
  rcases h.1 with h1 | h1
  ·have : Nat.ble k lo = true := ble_le.2 (by omega)
   rw [this] at h1; cases h1
  ·exact ble_le.1 h1
 | L0 :: ls, k, lo, id, h, j + 1, L, hj, hle => by
  simp only [chkIds, Bool.and_eq_true] at h
  exact chkIds_get h.2 j L (by simpa using hj) (by omega)
theorem chain_get {ms : Tr Nat} : ∀ {es : List Nat}, chain ms es = true -> ∀ k e f, es[k]? = some e -> es[k + 1]? = some f -> (ms.get 0 f).testBit e = true
 | [], _, k, e, f, h, _ => by simp at h
 | [a], _, k, e, f, _, h => by simp at h
 | a :: b :: es, h, 0, e, f, he, hf => by
  simp at he hf; subst he; subst hf
  simp only [chain, Bool.and_eq_true] at h
  exact h.1
 | a :: b :: es, h, k + 1, e, f, he, hf => by
  simp only [chain, Bool.and_eq_true] at h
  exact chain_get h.2 k e f (by simpa using he) (by simpa using hf)
theorem chkEff_get {D : DI} {vals : Tr AV} {aid : Tr Nat} : ∀ {fs : List EffR} {es : List Nat}, chkEff D vals aid fs es = true -> ∀ (k e : Nat), es[k]? = some e -> ∃ (f : EffR) (o : Oper), fs[k]? = some f /\ f.e = e /\ f.v = vals.get .any e /\ aid.get 0 e = 0 /\ D.ops[e]? = some o /\ rvals D vals e (readsOf D.ops o) = some f.rv
 | [], [], _, k, e, h => by simp at h
 | [], _ :: _, h, _, _, _ => by simp [chkEff] at h
 | _ :: _, [], h, _, _, _ => by simp [chkEff] at h
 | f :: fs, e0 :: es, h, k, e, he => by
  simp only [chkEff, Bool.and_eq_true] at h
  obtain ⟨⟨⟨⟨h1, h2⟩, h3⟩, h4⟩, h5⟩ := h
  cases k with
  | zero =>
   simp at he; subst he
   have e1 := Nat.eq_of_beq_eq_true h1
   split at h4
   ·rename_i o ho
    split at h4
    ·rename_i rv hrv
     exact ⟨f, o, rfl, e1, same_is h2, Nat.eq_of_beq_eq_true h3, ho, by rw [hrv, sameRV_is h4]⟩
    ·cases h4
   ·cases h4
  | succ k =>
   obtain ⟨f', o, h6⟩ := chkEff_get h5 k e (by simpa using he)
   exact ⟨f', o, by simpa using h6.1, h6.2⟩
theorem chkAll_get {T : Tab} {D : DI} {ls : List Lay} {vals : Tr AV} {aid own : Tr Nat} : ∀ {l : List Oper} {i : Nat}, chkAll T D ls vals aid own l i = true -> ∀ k o, l[k]? = some o ->
  (if cls o.op = 3 then D.es.contains (i + k) = true else chkOp T D ls vals aid own (i + k) o = true /\ D.es.contains (i + k) = false /\ (∀ id, aid.get 0 (i + k) = id + 1 -> chkIds ls 0 (loOf D (i + k)) id = true))
 | [], i, _, k, o, h => by simp at h
 | o0 :: l, i, h, k, o, hk => by
  simp only [chkAll, Bool.and_eq_true] at h
  cases k with
  | zero =>
   simp at hk; subst hk
   have h1 := h.1
   rw [beq_if] at h1
   split
   ·rename_i h3; rw [if_pos h3] at h1; simpa using h1
   ·rename_i h3
    rw [if_neg h3] at h1
    simp only [Bool.and_eq_true, Bool.not_eq_true'] at h1
    refine ⟨by simpa using h1.1.1, by simpa using h1.1.2, fun id hid => ?_⟩
    have h2 := h1.2
    simp only [Nat.add_zero] at hid
    rw [hid] at h2
    simpa using h2
  | succ k =>
   have := chkAll_get h.2 k o (by simpa using hk)
   rw [show i + (k + 1) = i + 1 + k from by omega]
   exact this
def tmL (wt : Tr Nat) (s0 : AS) (vals : Tr AV) (S : Nat -> Bool) (t : Nat) : AV :=
 match wt.get 0 t with
 | 0 => s0.tmps.get .any t
 | w + 1 => if S w = true then vals.get .any w else s0.tmps.get .any t
def OpChk (T : Tab) (D : DI) (ls : List Lay) (vals : Tr AV) (aid own : Tr Nat) (i : Nat) (o : Oper) (rv : List (Nat × AV)) : Prop :=
 (wantd (stOf D rv .lf 0) D.ops o = some false /\ vals.get .any i = udef /\ aid.get 0 i = 0) ∨
 (wantd (stOf D rv .lf 0) D.ops o = some true /\ ∃ id A, aid.get 0 i = id + 1 /\ own.get 0 id = i + 1 /\ newOp T (stOf D rv .lf 0) id o.op = some (A, vals.get .any i) /\
  ∀ k L, ls[k]? = some L -> (within_ (loOf D i) (hiOf D i) k = true -> (lH L).get .dead id = A) /\ (loOf D i <= k -> id < lN L)) ∨
 (wantd (stOf D rv .lf 0) D.ops o = some true /\ aid.get 0 i = 0 /\ (pureOp T (stOf D rv .lf 0) o.op = some (vals.get .any i) ∨ newOp T (stOf D rv .lf 0) 0 o.op = some (.dead, vals.get .any i))) ∨
 (wantd (stOf D rv .lf 0) D.ops o = some true /\ aid.get 0 i = 0 /\ ∀ k L, ls[k]? = some L -> within_ (loOf D i) (hiOf D i) k = true ->
  (pureOp T (stOf D rv .lf 0) o.op = some (vals.get .any i) ∨ readOp T (stOf D rv .lf 0) (lH L) o.op = some (vals.get .any i)))
def CertAll (T : Tab) (D : DI) (ls : List Lay) (vals : Tr AV) (aid own : Tr Nat) : Prop := ∀ i o, D.ops[i]? = some o ->
 if cls o.op = 3 then D.es.contains i = true else
  ((Nat.beq (loOf D i) 0 || (match D.es[loOf D i - 1]? with | some e => (D.ms.get 0 i).testBit e | none => false)) = true /\
  (match D.es[hiOf D i]? with | some e => (D.ms.get 0 e).testBit i | none => Nat.beq (hiOf D i) D.es.length) = true /\
  ∃ rv, rvals D vals i (readsOf D.ops o) = some rv /\ OpChk T D ls vals aid own i o rv) /\ D.es.contains i = false /\ (∀ id, aid.get 0 i = id + 1 -> chkIds ls 0 (loOf D i) id = true)
structure DCert (T : Tab) (rec : Rec) (D : DI) (ls : List Lay) (fs : List EffR) (vals : Tr AV) (aid own : Tr Nat) : Prop where
 m : MOk D.ops D.ms
 w : WOk D.ops D.wt
 runs : Runs T rec D D.es ls fs
 ch : chain D.ms D.es = true
 eff : ∀ (k e : Nat), D.es[k]? = some e -> ∃ (f : EffR) (o : Oper), fs[k]? = some f /\ f.e = e /\ f.v = vals.get .any e /\ aid.get 0 e = 0 /\ D.ops[e]? = some o /\ rvals D vals e (readsOf D.ops o) = some f.rv
 all : CertAll T D ls vals aid own
 first : ∃ L, ls[0]? = some L /\ L.h0 = D.s0.heap /\ L.n0 = D.s0.hs
 dst : ∀ (i : Nat) (o : Oper) (d : Nat), D.ops[i]? = some o -> o.dst = some d -> d < D.s0.nt
theorem rvals_mem {D : DI} {vals : Tr AV} {i : Nat} : ∀ {l : List Nat} {rv : List (Nat × AV)}, rvals D vals i l = some rv -> ∀ p ∈ rv, opv D vals i p.1 = some p.2 /\ p.1 < D.s0.nt
 | [], rv, h, p, hp => by simp only [rvals, Option.some.injEq] at h; subst h; cases hp
 | t :: l, rv, h, p, hp => by
  simp only [rvals] at h
  split at h
  ·rename_i v r h1 h2
   cases hb : Nat.blt t D.s0.nt with
   | false => rw [hb] at h; cases h
   | true =>
    rw [hb, cond_true] at h; cases h
    rcases List.mem_cons.1 hp with rfl | hp
    ·exact ⟨h1, blt_lt.1 hb⟩
    ·exact rvals_mem h2 p hp
  ·cases h
theorem putsT_get : ∀ (rv : List (Nat × AV)) (t : Nat), (putsT rv).get .any t = .any ∨ (t, (putsT rv).get .any t) ∈ rv
 | [], t => .inl rfl
 | (u, v) :: l, t => by
  simp only [putsT, Tr.get_put]
  split
  ·rename_i e; subst e; exact .inr (by simp)
  ·rcases putsT_get l t with h | h
   ·exact .inl h
   ·exact .inr (by simp [h])
structure DInv (D : DI) (ls : List Lay) (vals : Tr AV) (aid : Tr Nat) (β0 : Env) (B : Gd) (listed : Array Bool) (a : Act) (W : World) (j : Nat) (L : Lay) (β : Env) : Prop where
 lay : ls[j]? = some L
 on : Env.on β0 β D.s0.hs (lN L)
 w : WR β B (lH L) (lN L) W
 size : listed.size = D.ops.size
 cl : Cl D.ops fun i => listed.getD i false = true
 es : ∀ k e, D.es[k]? = some e -> (listed.getD e false = true ↔ k < j)
 tsz : a.tmps.size = D.s0.nt
 tm : ∀ t, t < D.s0.nt -> VR β (tmL D.wt D.s0 vals (fun i => listed.getD i false) t) (a.tmps.getD t undef)
 defs : DR β D.s0.defs a.defers
 ids : ∀ i o id, D.ops[i]? = some o -> aid.get 0 i = id + 1 -> listed.getD i false = false -> β.b id = none
 gl : GlOk β D.s0.md.gl
section
variable {P : Program} {T : Tab} (hT : TSnd P T) {rec : Rec} (hR : Snd P rec) {D : DI} {ls : List Lay} {fs : List EffR} {vals : Tr AV} {aid own : Tr Nat} (hD : DCert T rec D ls fs vals aid own)
include hT hR hD
theorem Runs.length : ls.length = D.es.length + 1 /\ fs.length = D.es.length := by
 have : ∀ {es : List Nat} {ls : List Lay} {fs : List EffR}, Runs T rec D es ls fs -> ls.length = es.length + 1 /\ fs.length = es.length := by
  intro es ls fs h
  induction h with
  | nil L => simp
  | skip e o rv es L L' ls fs ho hw h0 n0 t ih => simp at ih ⊢; omega
  | act e o rv v es L L' ls fs ho hw ha t ih => simp at ih ⊢; omega
 exact this hD.runs
theorem reads_rel {β0 β : Env} {B : Gd} {W : World} {listed : Array Bool} {a : Act} {j : Nat} {L : Lay} (hI : DInv D ls vals aid β0 B listed a W j L β) {i : Nat} {o : Oper} (ho : D.ops[i]? = some o)
  (hdeps : ∀ e ∈ o.after, Region.binds .any e = true -> listed.getD e.on false = true) (hun : listed.getD i false = false) {rv : List (Nat × AV)} (hrv : rvals D vals i (readsOf D.ops o) = some rv) (H : Tr AO) (hs : Nat) :
  FR β (stOf D rv H hs) a := by
 have hS : ∀ i, listed.getD i false = true -> ∃ o, D.ops[i]? = some o := by
  intro i hi
  have : i < listed.size := by
   rcases Nat.lt_or_ge i listed.size with h | h
   ·exact h
   ·simp [Array.getElem?_eq_none h] at hi
  rw [hI.size] at this
  exact ⟨D.ops[i], by simp [this]⟩
 refine ⟨hI.tsz, fun t ht => ?_, hI.gl⟩
 simp only [stOf] at ht ⊢
 rcases putsT_get rv t with h | h
 ·rw [h]; exact .any _
 ·obtain ⟨h1, _⟩ := rvals_mem hrv _ h
  have htm := hI.tm t ht
  simp only [opv] at h1
  unfold tmL at htm
  split at h1
  ·rename_i h0
   rw [h0] at htm
   have e1 := Option.some.inj h1
   rw [<- e1]; exact htm
  ·rename_i w hw
   rw [hw] at htm
   simp only at htm
   cases hb : (D.ms.get 0 i).testBit w with
   | true =>
    rw [hb, cond_true] at h1
    have hlw := bef hD.m hI.cl hS i o ho hdeps w hb
    rw [if_pos hlw] at htm
    have e1 := Option.some.inj h1
    rw [<- e1]; exact htm
   | false =>
    rw [hb, cond_false] at h1
    cases hb2 : (D.ms.get 0 w).testBit i with
    | false => rw [hb2] at h1; cases h1
    | true =>
     rw [hb2, cond_true] at h1
     have hnw : listed.getD w false = false := by
      cases hx : listed.getD w false with
      | false => rfl
      | true =>
       obtain ⟨o', ho'⟩ := hS w hx
       have := bef hD.m hI.cl hS w o' ho' (fun e he hbd => hI.cl w o' hx ho' e he hbd) i hb2
       rw [hun] at this; cases this
     have hc : ¬ (listed.getD w false = true) := by rw [hnw]; simp
     rw [if_neg hc] at htm
     have e1 := Option.some.inj h1
     rw [<- e1]; exact htm
end
end Go.Proofs.YtcledcfeddlomaaGreatDoor.Ev
