import Derived.Test.YtbcecenneganeaaEv3
set_option linter.all false
namespace Go.Proofs.Ytbcecenneganeaa.Ev

/-- The cells of what is appended. -/
def srcCells (H : Tr AO) (size : Nat) : AV → Option (Nat × List AV)
  | .str l => bif Nat.beq size 1 then some (l.length, l.map fun b => .lit (.int .u8 b.toNat)) else none
  | .lit (.slice none 0 0) => some (0, [])
  | .emp => some (0, [])
  | .lst _ es => bif es.all (sizeOk size) then some (es.length, es.flatMap AV.cells) else none
  | .slc o off n _ => match rd H o off (n * size) with
    | some l => some (n, l)
    | none => none
  | _ => none

def append' (H : Tr AO) (hs size bytes : Nat) (x : AV) (n : Nat) (cs : List AV) : Option (AV × Tr AO × Nat) :=
  bif Nat.beq n 0 then
    match x with
    | .slc o off len (.ex c) => bif Nat.ble len c then some (.slc o off len (.ex c), H, hs) else none
    | .slc o off len (.op z) => some (.slc o off len (.op z), H, hs)
    | .lit (.slice none 0 0) => some (.lit (.slice none 0 0), H, hs)
    | .emp => some (.emp, H, hs)
    | _ => none
  else bif cs.all oneCell && Nat.beq cs.length (n * size) then
    match x with
    | .lit (.slice none 0 0) => bif Nat.ble ((4 * n + 4000) * bytes) 281474976710656 then some (.slc hs 0 n (.op size), H.put .dead hs (.cells cs false), hs + 1) else none
    | .slc o off len cap =>
      match H.get .dead o with
      | .cells c ro =>
        bif Nat.ble (off + len * size) c.length && Nat.ble ((4 * (len + n) + 4000) * bytes) 281474976710656 then
          match cap with
          | .ex k =>
            bif Nat.ble (len + n) k then
              (match wr H o (off + len * size) cs with | some H' => some (.slc o off (len + n) (.ex k), H', hs) | none => none)
            else bif Nat.ble len k then some (.slc hs 0 (len + n) (.op size), H.put .dead hs (.cells ((c.drop off).take (len * size) ++ cs) false), hs + 1) else none
          | .op z =>
            bif Nat.beq z size && !ro then
              bif Nat.ble (off + (len + n) * size) c.length then
                (match wr H o (off + len * size) cs with | some H' => some (.slc o off (len + n) (.op z), H', hs) | none => none)
              else some (.slc hs 0 (len + n) (.op size), (H.put .dead o .dead).put .dead hs (.cells ((c.drop off).take (len * size) ++ cs) false), hs + 1)
            else none
        else none
      | _ => none
    | _ => none
  else none

/-- Cells as elements. -/
def chunk (agg : Bool) (sz : Nat) : Nat → List AV → List AV
  | 0, _ => []
  | n + 1, cs => (bif agg then .agg (cs.take sz) else cs.headD .any) :: chunk agg sz n (cs.drop sz)

/-- The elements of what is appended. -/
def srcElems (H : Tr AO) (agg : Bool) (size : Nat) : AV → Option (List AV)
  | .lst _ es => bif es.all (sizeOk size) then some es else none
  | .str l => bif Nat.beq size 1 then some (l.map fun b => .lit (.int .u8 b.toNat)) else none
  | .lit (.slice none 0 0) => some []
  | .emp => some []
  | .slc o off n _ => (match rd H o off (n * size) with
    | some l => bif agg || (Nat.beq size 1 && l.all oneCell) then some (chunk agg size n l) else none
    | none => none)
  | _ => none

/-- Elements behind a list's. -/
def appendL (H : Tr AO) (hs size bytes : Nat) (tk : ATk) (es ys : List AV) : Option (AV × Tr AO × Nat) :=
  match ys with
  | [] => some (.lst tk es, H, hs)
  | _ => bif ys.all (fun e => sizeOk size e && flatOk e && e.cells.all oneCell) && Nat.ble ((4 * (es.length + ys.length) + 4000) * bytes) 281474976710656 then
      match tk with
      | .no => none
      | .full => bif es.all (sizeOk size) then some (.lst (.room hs) (es ++ ys), H.put .dead hs (.room size), hs + 1) else none
      | .room t => match H.get .dead t with
        | .room z => bif Nat.beq z size then some (.lst (.room hs) (es ++ ys), (H.put .dead t .dead).put .dead hs (.room size), hs + 1) else none
        | _ => none
    else none

/-- What is appended to a list, or to what is none. -/
def lstOf (lm : Bool) : AV → Option (ATk × List AV)
  | .lst tk es => some (tk, es)
  | .lit (.slice none 0 0) => bif lm then some (.full, []) else none
  | _ => none

def modE (f : AV × AV × Nat → AV × AV × Nat) : List (AV × AV × Nat) → Nat → List (AV × AV × Nat)
  | [], _ => []
  | e :: l, 0 => f e :: l
  | e :: l, i + 1 => e :: modE f l i

/-- An operation that writes memory and calls no function of the program's. -/
def effOp (T : Tab) (s : AS) : Op → Option (AV × Tr AO × Nat)
  | .store t a x => match opd s a, opd s x, T.t t with
    | some (.ptr o off), some v, some ti =>
      bif Nat.beq v.cells.length ti.size && flatOk v then (match wr s.heap o off v.cells with | some H => some (udef, H, s.hs) | none => none) else none
    | _, _, _ => none
  | .call c => match c.callee, c.args.toList, c.argTypes.toList with
    | .builtin .append, [x, y], st :: ys :: [] => match opd s x, opd s y, T.t st, T.t ys with
      | some u, some v, some si, some yi => match si.desc, yi.desc with
        | .slice e, .int _ => match T.t e, v with
          | some ei, .lit (.int .i64 n) => bif Nat.blt 0 ei.bytes && Nat.blt 0 ei.size && decide (ei.zero.cells.length = ei.size) && flatOk ei.zero && decide (0 < n ∧ n ≤ 1000000 ∧ n * ei.bytes ≤ 281474976710656) then
              append' s.heap s.hs ei.size ei.bytes u n.toNat (List.replicate n.toNat ei.zero.cells).flatten else none
          | _, _ => none
        | .slice e, _ => match T.t e with
          | some ei => bif Nat.blt 0 ei.bytes && Nat.blt 0 ei.size && decide (ei.zero.cells.length = ei.size) && flatOk ei.zero then
            match lstOf s.lm u with
            | some (tk, es) => (match srcElems s.heap (isAggD ei.desc) ei.size v with
             | some ys => appendL s.heap s.hs ei.size ei.bytes tk es ys
             | none => none)
            | none =>
            (match srcCells s.heap ei.size v with
             | some (n, cs) => append' s.heap s.hs ei.size ei.bytes u n cs
             | none => none) else none
          | none => none
        | _, _ => none
      | _, _, _, _ => none
    | .builtin .copy, [x, y], st :: _ => match opd s x, opd s y, T.t st with
      | some u, some v, some si => match si.desc with
        | .slice e => match T.t e with
          | some ei => match u with
            | .slc o off len _ => match v with
              | .slc o2 off2 n2 _ => match rd s.heap o2 off2 (min n2 len * ei.size) with
                | some cs => match wr s.heap o off cs with
                  | some H => some (.lit (.int .i64 (min n2 len : Nat)), H, s.hs)
                  | none => none
                | none => none
              | .lst _ es => bif es.all (sizeOk ei.size) then (match wr s.heap o off ((es.take len).flatMap AV.cells) with
                | some H => some (.lit (.int .i64 (min es.length len : Nat)), H, s.hs)
                | none => none) else none
              | .str l => bif Nat.beq ei.size 1 then (match wr s.heap o off ((l.take len).map fun b => .lit (.int .u8 b.toNat)) with
                | some H => some (.lit (.int .i64 (min l.length len : Nat)), H, s.hs)
                | none => none) else none
              | _ => none
            | _ => none
          | none => none
        | _ => none
      | _, _, _ => none
    | .builtin .delete, [m, k], mt :: _ => match opd s m, opd s k, T.t mt with
      | some (.mp o), some kv, some ti => match ti.desc, s.heap.get .dead o with
        | .map kt _, .map es clock => match T.t kt with
          | some ki => bif okKey ki.desc then
            (match findE ki.desc kv es 0 with
             | some (some (i, _)) => some (udef, s.heap.put .dead o (.map (es.eraseIdx i) clock), s.hs)
             | some none => some (udef, s.heap, s.hs)
             | none => none) else none
          | none => none
        | _, _ => none
      | _, _, _ => none
    | _, _, _ => none
  | .convert src dst x => match opd s x, T.t src, T.t dst with   -- the bytes of a string
    | some (.str l), some _, some dj => match dj.desc with
      | .slice e => match T.t e with
        | some ei => match ei.desc with
          | .int .u8 => bif s.lm then some (.lst (.room s.hs) (l.map fun b => .lit (.int .u8 b.toNat)), s.heap.put .dead s.hs (.room 1), s.hs + 1) else some (.slc s.hs 0 l.length (.op 1), s.heap.put .dead s.hs (.cells (l.map fun b => .lit (.int .u8 b.toNat)) false), s.hs + 1)
          | _ => none
        | none => none
      | _ => none
    | _, _, _ => none
  | .mapUpdate t m k x => match opd s m, opd s k, opd s x, T.t t with
    | some (.mp o), some kv, some v, some ti => match ti.desc, s.heap.get .dead o with
      | .map kt _, .map es clock => match T.t kt with
        | some ki => bif okKey ki.desc then
          (match findE ki.desc kv es 0 with
           | some (some (i, _)) => some (udef, s.heap.put .dead o (.map (modE (fun e => (kv, v, e.2.2)) es i) clock), s.hs)
           | some none => some (udef, s.heap.put .dead o (.map (es ++ [(kv, v, clock)]) (clock + 1)), s.hs)
           | none => none) else none
        | none => none
      | _, _ => none
    | _, _, _, _ => none
  | _ => none

abbrev Rec := Option Nat → Code → AS → Option (AX × AS)

def putL (t : Tr AV) (i : Nat) : List AV → Tr AV
  | [] => t
  | a :: l => putL (t.put .any i a) (i + 1) l

/-- What a function hands back. -/
def resOf (T : Tab) (s : AS) : List ResultVar → Option (List AV)
  | [] => some []
  | .tmp t :: l => match (bif Nat.blt t s.nt then some (s.tmps.get .any t) else none), resOf T s l with
    | some a, some as => some (a :: as)
    | _, _ => none
  | .cell t ty :: l => match (bif Nat.blt t s.nt then ldv T s.heap ty (s.tmps.get .any t) else none), resOf T s l with
    | some a, some as => some (a :: as)
    | _, _ => none

def one (l : List AV) : AV := match l with
  | [a] => a
  | l => .tup l

/-- The marks of loops over functions: their blocks are shut. -/
def shut (H : Tr AO) : List Nat → Option (Tr AO)
  | [] => some H
  | o :: l => match H.get .dead o with
    | .defd true => shut (H.put .dead o (.defd false)) l
    | _ => none

/-! ### Values without anything in memory that may turn -/

mutual
def bare : AV → Bool
  | .lit _ => true
  | .str _ => true
  | .opq _ => true
  | .any => true
  | .emp => true
  | .lst _ es => bares es
  | .eptr cs => bares cs
  | .fmp es => bareE es
  | .agg cs => bares cs
  | .tup cs => bares cs
  | .ifc _ v => bare v
  | .fn _ a b => bares a && bares b
  | _ => false
def bares : List AV → Bool
  | [] => true
  | a :: l => bare a && bares l
def bareE : List (AV × AV × Nat) → Bool
  | [] => true
  | (a, b, _) :: l => bare a && bare b && bareE l
end

mutual
/-- The same, without rights to write. -/
def nrm : AV → AV
  | .lit v => match v with | .slice none 0 0 => .lst .no [] | v => .lit v
  | .emp => .lst .no []
  | .lst _ es => .lst .no (nrms es)
  | .eptr cs => .eptr (nrms cs)
  | .fmp es => .fmp (nrmE es)
  | .agg cs => .agg (nrms cs)
  | .tup cs => .tup (nrms cs)
  | .ifc t v => .ifc t (nrm v)
  | .fn f a b => .fn f (nrms a) (nrms b)
  | v => v
def nrms : List AV → List AV
  | [] => []
  | a :: l => nrm a :: nrms l
def nrmE : List (AV × AV × Nat) → List (AV × AV × Nat)
  | [] => []
  | (a, b, n) :: l => (nrm a, nrm b, n) :: nrmE l
end

/-- The types of a type's cells. -/
def cellTys (T : Tab) : Nat → Nat → List Nat
  | 0, _ => []
  | d + 1, t => match T.t t with
    | some i => match i.desc with
      | .struct fs => fs.toList.flatMap fun f => cellTys T d f.type
      | .array n e => (List.replicate n (cellTys T d e)).flatten
      | _ => [t]
    | none => []

def capOk (n : Nat) : ACap → Bool
  | .ex c => Nat.ble n c
  | .op _ => true

/-- Values are frozen, one after another. -/
def frzL (g : Nat → AV → Tr AO → Option (AV × Tr AO)) : List Nat → List AV → Tr AO → Option (List AV × Tr AO)
  | [], [], H => some ([], H)
  | t :: ts, v :: vs, H => match g t v H with
    | some (u, H1) => match frzL g ts vs H1 with
      | some (us, H2) => some (u :: us, H2)
      | none => none
    | none => none
  | _, _, _ => none

/-- A value without anything that may turn: what it names in memory is not written any more. -/
def frz (T : Tab) : Nat → Nat → AV → Tr AO → Option (AV × Tr AO)
  | 0, _, _, _ => none
  | d + 1, t, v, H => bif bare v then some (nrm v, H) else
    match v, T.t t with
    | .lst _ es, some i => (match i.desc with
      | .slice e => match T.t e with
        | some ei => bif es.all (sizeOk ei.size) && Nat.blt 0 ei.size then
          (match frzL (frz T d) (List.replicate es.length (cellTys T 20 e)).flatten (es.flatMap AV.cells) H with
          | some (us, H1) => bif isAggD ei.desc || (Nat.beq ei.size 1 && us.all oneCell) then some (.lst .no (chunk (isAggD ei.desc) ei.size es.length us), H1) else none
          | none => none) else none
        | none => none
      | _ => none)
    | .slc o off n cap, some i => (match i.desc with
      | .slice e => match T.t e with
        | some ei => (match H.get .dead o, rd H o off (n * ei.size) with
          | .cells c _, some l => bif Nat.blt 0 ei.size && capOk n cap then
            (match frzL (frz T d) (List.replicate n (cellTys T 20 e)).flatten l (H.put .dead o (.cells c true)) with
            | some (us, H1) => bif isAggD ei.desc || (Nat.beq ei.size 1 && us.all oneCell) then some (.lst .no (chunk (isAggD ei.desc) ei.size n us), H1) else none
            | none => none) else none
          | _, _ => none)
        | none => none
      | _ => none)
    | .agg cs, _ => (match frzL (frz T d) (cellTys T 20 t) cs H with
      | some (us, H1) => some (.agg us, H1)
      | none => none)
    | .ptr o off, some i => (match i.desc, H.get .dead o with
      | .pointer e, .cells c ro => match rd H o off (match T.t e with | some ei => ei.size | none => 0) with
        | some l => (match frzL (frz T d) (cellTys T 20 e) l (H.put .dead o (.cells c true)) with
          | some (us, H1) => some (.eptr us, H1)
          | none => none)
        | none => none
      | _, _ => none)
    | .mp o, some i => (match i.desc, H.get .dead o with
      | .map k e, .map es _ => match frzL (frz T d) (List.replicate es.length k) (es.map (·.1)) (H.put .dead o .dead) with
        | some (ks, H1) => (match frzL (frz T d) (List.replicate es.length e) (es.map (·.2.1)) H1 with
          | some (vs, H2) => some (.fmp (ks.zip (vs.zip (es.map (·.2.2)))), H2)
          | none => none)
        | none => none
      | _, _ => none)
    | .ifc u x, _ => (match frz T d u x H with
      | some (y, H1) => some (.ifc u y, H1)
      | none => none)
    | .fn (.func f) a b, _ => (match T.f f with
      | some fi => match frzL (frz T d) (fi.pts.take a.length) a H with
        | some (a', H1) => (match frzL (frz T d) (fi.pts.drop (fi.pts.length - b.length)) b H1 with
          | some (b', H2) => some (.fn (.func f) a' b', H2)
          | none => none)
        | none => none
      | none => none)
    | _, _ => none

/-- What a function hands back, frozen. -/
def frzR (T : Tab) (rts : List Nat) (v : AV) (H : Tr AO) : Option (AV × Tr AO) :=
  bif bare v then some (v, H) else
  match rts with
  | [t] => frz T 30 t v H
  | ts => match v with
    | .tup vs => (match frzL (frz T 30) ts vs H with
      | some (us, H1) => some (.tup us, H1)
      | none => none)
    | _ => none

def lmOf (k : Nat) (m : Bool) : Bool := bif Nat.beq k 0 then false else bif Nat.beq k 1 then true else m

/-- A function's code runs. -/
def bodyF (rec : Rec) (T : Tab) (fi : FI) (m : Bool) (args : List AV) (H : Tr AO) (hs : Nat) : Option (AV × Tr AO × Nat) :=
    match rec none fi.body ⟨putL .lf 0 args, max args.length fi.ntmps, H, hs, [], lmOf fi.lm m⟩ with
    | some (.normal, s') => match shut s'.heap s'.defs with
      | some H' => match resOf T { s' with heap := H' } fi.results with
        | some l => some (one l, H', s'.hs)
        | none => none
      | none => none
    | some (.ret, s') => match shut s'.heap s'.defs with
      | some H' => match resOf T { s' with heap := H' } fi.results with
        | some l => some (one l, H', s'.hs)
        | none => none
      | none => none
    | _ => none

/-- A function by itself: frozen arguments, empty memory, a frozen answer. -/
def isoF (rec : Rec) (T : Tab) (fi : FI) (m : Bool) (args : List AV) : Option AV :=
  match bodyF rec T fi m args .lf 0 with
  | some (v, H, _) => match frzR T fi.rts v H with
    | some (u, _) => bif bare u then some (nrm u) else none
    | none => none
  | none => none

/-- A call of function f: as it is told, or else as its code runs. -/
def callF (T : Tab) (rec : Rec) (m : Bool) (f : Nat) (args : List AV) (H : Tr AO) (hs : Nat) : Option (AV × Tr AO × Nat) :=
  match T.con f args H hs with
  | some r => some r
  | none => match T.f f with
  | none => none
  | some fi => bif fi.iso then
      match (bif bares args then some (args, H) else frzL (frz T 30) fi.pts args H) with
      | some (as, H1) => bif bares as then (match isoF rec T fi m (nrms as) with
        | some v => some (v, H1, hs)
        | none => none) else none
      | none => none
    else bodyF rec T fi m args H hs

def setL (t : List AV) : List (Nat × AV) → List AV
  | [] => t
  | (i, a) :: l => setL (t.set i a) l

/-- A round of a loop over a function. -/
def roundF (rec : Rec) (o : Nat) (args : List AV) (H : Tr AO) (hs : Nat) : Option (AV × Tr AO × Nat) :=
  match H.get .dead o with
  | .loop .ready _ tmps ps assign body d lm =>
    bif decide (args.length = ps.size) then
      let t := setL tmps (ps.toList.zip args)
      match rec (some o) assign ⟨putL .lf 0 t, t.length, H, hs, [], lm⟩ with
      | some (.normal, s1) =>
        match s1.heap.get .dead o with
        | .loop .ready p1 t1 ps1 a1 b1 d1 lm1 =>
          match rec (some o) body { s1 with heap := s1.heap.put .dead o (.loop .busy p1 t1 ps1 a1 b1 d1 lm1) } with
          | some (x, s2) =>
            match s2.heap.get .dead o with
            | .loop _ _ t2 ps2 a2 b2 d2 lm2 =>
              (match x with
              | .normal => some (.lit (.bool true), s2.heap.put .dead o (.loop .ready none t2 ps2 a2 b2 d2 lm2), s2.hs)
              | .ret => some (.lit (.bool false), s2.heap.put .dead o (.loop .done (some .ret) t2 ps2 a2 b2 d2 lm2), s2.hs)
              | .exit i => some (.lit (.bool false), s2.heap.put .dead o (.loop .done (some (.exit i)) t2 ps2 a2 b2 d2 lm2), s2.hs)
              | .goto i => some (.lit (.bool false), s2.heap.put .dead o (.loop .done (some (.goto i)) t2 ps2 a2 b2 d2 lm2), s2.hs))
            | _ => none
          | none => none
        | _ => none
      | _ => none
    else none
  | _ => none

/-- A call of a value. -/
def callV (T : Tab) (rec : Rec) (m : Bool) (f : AV) (args : List AV) (H : Tr AO) (hs : Nat) : Option (AV × Tr AO × Nat) :=
  match f with
  | .fn (.func g) a b => callF T rec m g (a ++ args ++ b) H hs
  | .yld o => roundF rec o args H hs
  | _ => none

/-- An operation that writes memory, or calls. -/
def actOp (T : Tab) (rec : Rec) (s : AS) (o : Op) : Option (AV × Tr AO × Nat) :=
  match o with
  | .call c => match c.callee with
    | .value f => match opd s f, opds s c.args.toList with
      | some g, some as => callV T rec s.lm g as s.heap s.hs
      | _, _ => none
    | _ => effOp T s o
  | _ => effOp T s o

/-- 0: no memory; 1: it reads; 2: it makes; 3: it writes or calls. -/
def cls : Op → Nat
  | .load .. => 1
  | .lookup .. => 1
  | .convert .. => 4
  | .alloc .. => 2
  | .box .. => 2
  | .buildSlice .. => 2
  | .makeMap .. => 2
  | .makeSlice .. => 2
  | .store .. => 3
  | .mapUpdate .. => 3
  | .insert .. => 3
  | .call c => match c.callee with
    | .builtin .len => 4
    | .builtin .cap => 4
    | _ => 3
  | _ => 0

def setT (s : AS) (d : Option Nat) (v : AV) : Option AS :=
  match d with
  | none => some s
  | some i => bif Nat.blt i s.nt then some { s with tmps := s.tmps.put .any i v } else none

/-- One operation. -/
def evOp (T : Tab) (rec : Rec) (o : Oper) (s : AS) : Option AS :=
  match cls o.op with
  | 0 => match pureOp T s o.op with | some v => setT s o.dst v | none => none
  | 1 => match readOp T s s.heap o.op with | some v => setT s o.dst v | none => none
  | 2 => match newOp T s s.hs o.op with | some (.dead, v) => setT s o.dst v | some (A, v) => setT { s with heap := s.heap.put .dead s.hs A, hs := s.hs + 1 } o.dst v | none => none
  | 3 => match actOp T rec s o.op with | some (v, H, hs) => setT { s with heap := H, hs := hs } o.dst v | none => none
  | _ => match (match pureOp T s o.op with | some v => some v | none => readOp T s s.heap o.op) with
    | some v => setT s o.dst v
    | none => match effOp T s o.op with
      | some (v, H, hs) => setT { s with heap := H, hs := hs } o.dst v
      | none => none

/-- What a guard says: none: it can't be told. -/
def wantd (s : AS) (ops : Array Oper) (o : Oper) : Option Bool :=
  match o.guard with
  | none => some true
  | some (j, w) => match (ops[j]?).bind (·.dst) with
    | some d => bif Nat.blt d s.nt then (match s.tmps.get .any d with
      | .lit (.bool b) => some (b == w)
      | .tup [] => some false
      | _ => none) else none
    | none => none

def evOps (T : Tab) (rec : Rec) (ops : Array Oper) : List Oper → AS → Option (AX × AS)
  | [], s => some (.normal, s)
  | o :: l, s => match wantd s ops o with
    | some true => match evOp T rec o s with
      | some s' => evOps T rec ops l s'
      | none => none
    | some false => match setT s o.dst udef with
      | some s' => evOps T rec ops l s'
      | none => none
    | none => none

end Go.Proofs.Ytbcecenneganeaa.Ev
