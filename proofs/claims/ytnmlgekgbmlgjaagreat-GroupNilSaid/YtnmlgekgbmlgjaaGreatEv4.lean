import Derived.Test.YtnmlgekgbmlgjaaGreatEv3
set_option linter.all false
namespace Go.Proofs.YtnmlgekgbmlgjaaGreat.Ev

/-- The cells of what is appended. -/
def srcCells (H : Tr AO) (size : Nat) : AV → Option (Nat × List AV)
  | .str l => bif Nat.beq size 1 then some (l.length, l.map fun b => .lit (.int .u8 b.toNat)) else none
  | .lit (.slice none 0 0) => some (0, [])
  | .emp => some (0, [])
  | .slc o off n _ => match rd H o off (n * size) with
    | some l => some (n, l)
    | none => none
  | _ => none

def append' (H : Tr AO) (hs size bytes : Nat) (x : AV) (n : Nat) (cs : List AV) : Option (AV × Tr AO × Nat) :=
  bif Nat.beq n 0 then
    match x with
    | .slc o off len (.ex c) => bif Nat.ble len c then some (.slc o off len (.ex c), H, hs) else none
    | .slc o off len (.op z) => some (.slc o off len (.op z), H, hs)
    | .lit (.slice none 0 0) => some (.lit (.slice none 0 0), H, hs)
    | .emp => some (.emp, H, hs)
    | _ => none
  else bif cs.all oneCell && Nat.beq cs.length (n * size) then
    match x with
    | .lit (.slice none 0 0) => bif Nat.ble ((4 * n + 4000) * bytes) 281474976710656 then some (.slc hs 0 n (.op size), H.put .dead hs (.cells cs false), hs + 1) else none
    | .slc o off len cap =>
      match H.get .dead o with
      | .cells c ro =>
        bif Nat.ble (off + len * size) c.length && Nat.ble ((4 * (len + n) + 4000) * bytes) 281474976710656 then
          match cap with
          | .ex k =>
            bif Nat.ble (len + n) k then
              (match wr H o (off + len * size) cs with | some H' => some (.slc o off (len + n) (.ex k), H', hs) | none => none)
            else bif Nat.ble len k then some (.slc hs 0 (len + n) (.op size), H.put .dead hs (.cells ((c.drop off).take (len * size) ++ cs) false), hs + 1) else none
          | .op z =>
            bif Nat.beq z size && !ro then
              bif Nat.ble (off + (len + n) * size) c.length then
                (match wr H o (off + len * size) cs with | some H' => some (.slc o off (len + n) (.op z), H', hs) | none => none)
              else some (.slc hs 0 (len + n) (.op size), (H.put .dead o .dead).put .dead hs (.cells ((c.drop off).take (len * size) ++ cs) false), hs + 1)
            else none
        else none
      | _ => none
    | _ => none
  else none

def modE (f : AV × AV × Nat → AV × AV × Nat) : List (AV × AV × Nat) → Nat → List (AV × AV × Nat)
  | [], _ => []
  | e :: l, 0 => f e :: l
  | e :: l, i + 1 => e :: modE f l i

/-- An operation that writes memory and calls no function of the program's. -/
def effOp (T : Tab) (s : AS) : Op → Option (AV × Tr AO × Nat)
  | .store t a x => match opd s a, opd s x, T.t t with
    | some (.ptr o off), some v, some ti =>
      bif Nat.beq v.cells.length ti.size && flatOk v then (match wr s.heap o off v.cells with | some H => some (udef, H, s.hs) | none => none) else none
    | _, _, _ => none
  | .call c => match c.callee, c.args.toList, c.argTypes.toList with
    | .builtin .append, [x, y], st :: ys :: [] => match opd s x, opd s y, T.t st, T.t ys with
      | some u, some v, some si, some yi => match si.desc, yi.desc with
        | .slice e, .int _ => match T.t e, v with
          | some ei, .lit (.int .i64 n) => bif Nat.blt 0 ei.bytes && Nat.blt 0 ei.size && decide (ei.zero.cells.length = ei.size) && flatOk ei.zero && decide (0 < n ∧ n ≤ 1000000 ∧ n * ei.bytes ≤ 281474976710656) then
              append' s.heap s.hs ei.size ei.bytes u n.toNat (List.replicate n.toNat ei.zero.cells).flatten else none
          | _, _ => none
        | .slice e, _ => match T.t e with
          | some ei => bif Nat.blt 0 ei.bytes && Nat.blt 0 ei.size && decide (ei.zero.cells.length = ei.size) && flatOk ei.zero then
            (match srcCells s.heap ei.size v with
             | some (n, cs) => append' s.heap s.hs ei.size ei.bytes u n cs
             | none => none) else none
          | none => none
        | _, _ => none
      | _, _, _, _ => none
    | .builtin .copy, [x, y], st :: _ => match opd s x, opd s y, T.t st with
      | some u, some v, some si => match si.desc with
        | .slice e => match T.t e with
          | some ei => match u with
            | .slc o off len _ => match v with
              | .slc o2 off2 n2 _ => match rd s.heap o2 off2 (min n2 len * ei.size) with
                | some cs => match wr s.heap o off cs with
                  | some H => some (.lit (.int .i64 (min n2 len : Nat)), H, s.hs)
                  | none => none
                | none => none
              | _ => none
            | _ => none
          | none => none
        | _ => none
      | _, _, _ => none
    | .builtin .delete, [m, k], mt :: _ => match opd s m, opd s k, T.t mt with
      | some (.mp o), some kv, some ti => match ti.desc, s.heap.get .dead o with
        | .map kt _, .map es clock => match T.t kt with
          | some ki => bif okKey ki.desc then
            (match findE ki.desc kv es 0 with
             | some (some (i, _)) => some (udef, s.heap.put .dead o (.map (es.eraseIdx i) clock), s.hs)
             | some none => some (udef, s.heap, s.hs)
             | none => none) else none
          | none => none
        | _, _ => none
      | _, _, _ => none
    | _, _, _ => none
  | .mapUpdate t m k x => match opd s m, opd s k, opd s x, T.t t with
    | some (.mp o), some kv, some v, some ti => match ti.desc, s.heap.get .dead o with
      | .map kt _, .map es clock => match T.t kt with
        | some ki => bif okKey ki.desc then
          (match findE ki.desc kv es 0 with
           | some (some (i, _)) => some (udef, s.heap.put .dead o (.map (modE (fun e => (kv, v, e.2.2)) es i) clock), s.hs)
           | some none => some (udef, s.heap.put .dead o (.map (es ++ [(kv, v, clock)]) (clock + 1)), s.hs)
           | none => none) else none
        | none => none
      | _, _ => none
    | _, _, _, _ => none
  | _ => none

abbrev Rec := Option Nat → Code → AS → Option (AX × AS)

def putL (t : Tr AV) (i : Nat) : List AV → Tr AV
  | [] => t
  | a :: l => putL (t.put .any i a) (i + 1) l

/-- What a function hands back. -/
def resOf (T : Tab) (s : AS) : List ResultVar → Option (List AV)
  | [] => some []
  | .tmp t :: l => match (bif Nat.blt t s.nt then some (s.tmps.get .any t) else none), resOf T s l with
    | some a, some as => some (a :: as)
    | _, _ => none
  | .cell t ty :: l => match (bif Nat.blt t s.nt then ldv T s.heap ty (s.tmps.get .any t) else none), resOf T s l with
    | some a, some as => some (a :: as)
    | _, _ => none

def one (l : List AV) : AV := match l with
  | [a] => a
  | l => .tup l

/-- The marks of loops over functions: their blocks are shut. -/
def shut (H : Tr AO) : List Nat → Option (Tr AO)
  | [] => some H
  | o :: l => match H.get .dead o with
    | .defd true => shut (H.put .dead o (.defd false)) l
    | _ => none

/-- A call of function f. -/
def callF (T : Tab) (rec : Rec) (f : Nat) (args : List AV) (H : Tr AO) (hs : Nat) : Option (AV × Tr AO × Nat) :=
  match T.f f with
  | none => none
  | some fi =>
    match rec none fi.body ⟨putL .lf 0 args, max args.length fi.ntmps, H, hs, []⟩ with
    | some (.normal, s') => match shut s'.heap s'.defs with
      | some H' => match resOf T { s' with heap := H' } fi.results with
        | some l => some (one l, H', s'.hs)
        | none => none
      | none => none
    | some (.ret, s') => match shut s'.heap s'.defs with
      | some H' => match resOf T { s' with heap := H' } fi.results with
        | some l => some (one l, H', s'.hs)
        | none => none
      | none => none
    | _ => none

def setL (t : List AV) : List (Nat × AV) → List AV
  | [] => t
  | (i, a) :: l => setL (t.set i a) l

/-- A round of a loop over a function. -/
def roundF (rec : Rec) (o : Nat) (args : List AV) (H : Tr AO) (hs : Nat) : Option (AV × Tr AO × Nat) :=
  match H.get .dead o with
  | .loop .ready _ tmps ps assign body d =>
    bif decide (args.length = ps.size) then
      let t := setL tmps (ps.toList.zip args)
      match rec (some o) assign ⟨putL .lf 0 t, t.length, H, hs, []⟩ with
      | some (.normal, s1) =>
        match s1.heap.get .dead o with
        | .loop .ready p1 t1 ps1 a1 b1 d1 =>
          match rec (some o) body { s1 with heap := s1.heap.put .dead o (.loop .busy p1 t1 ps1 a1 b1 d1) } with
          | some (x, s2) =>
            match s2.heap.get .dead o with
            | .loop _ _ t2 ps2 a2 b2 d2 =>
              (match x with
              | .normal => some (.lit (.bool true), s2.heap.put .dead o (.loop .ready none t2 ps2 a2 b2 d2), s2.hs)
              | .ret => some (.lit (.bool false), s2.heap.put .dead o (.loop .done (some .ret) t2 ps2 a2 b2 d2), s2.hs)
              | .exit i => some (.lit (.bool false), s2.heap.put .dead o (.loop .done (some (.exit i)) t2 ps2 a2 b2 d2), s2.hs)
              | .goto i => some (.lit (.bool false), s2.heap.put .dead o (.loop .done (some (.goto i)) t2 ps2 a2 b2 d2), s2.hs))
            | _ => none
          | none => none
        | _ => none
      | _ => none
    else none
  | _ => none

/-- A call of a value. -/
def callV (T : Tab) (rec : Rec) (f : AV) (args : List AV) (H : Tr AO) (hs : Nat) : Option (AV × Tr AO × Nat) :=
  match f with
  | .fn (.func g) a b => callF T rec g (a ++ args ++ b) H hs
  | .yld o => roundF rec o args H hs
  | _ => none

/-- An operation that writes memory, or calls. -/
def actOp (T : Tab) (rec : Rec) (s : AS) (o : Op) : Option (AV × Tr AO × Nat) :=
  match o with
  | .call c => match c.callee with
    | .value f => match opd s f, opds s c.args.toList with
      | some g, some as => callV T rec g as s.heap s.hs
      | _, _ => none
    | _ => effOp T s o
  | _ => effOp T s o

/-- 0: no memory; 1: it reads; 2: it makes; 3: it writes or calls. -/
def cls : Op → Nat
  | .load .. => 1
  | .lookup .. => 1
  | .convert .. => 4
  | .alloc .. => 2
  | .box .. => 2
  | .buildSlice .. => 2
  | .makeMap .. => 2
  | .makeSlice .. => 2
  | .store .. => 3
  | .mapUpdate .. => 3
  | .insert .. => 3
  | .call c => match c.callee with
    | .builtin .len => 4
    | .builtin .cap => 4
    | _ => 3
  | _ => 0

def setT (s : AS) (d : Option Nat) (v : AV) : Option AS :=
  match d with
  | none => some s
  | some i => bif Nat.blt i s.nt then some { s with tmps := s.tmps.put .any i v } else none

/-- One operation. -/
def evOp (T : Tab) (rec : Rec) (o : Oper) (s : AS) : Option AS :=
  match cls o.op with
  | 0 => match pureOp T s o.op with | some v => setT s o.dst v | none => none
  | 1 => match readOp T s s.heap o.op with | some v => setT s o.dst v | none => none
  | 2 => match newOp T s s.hs o.op with | some (A, v) => setT { s with heap := s.heap.put .dead s.hs A, hs := s.hs + 1 } o.dst v | none => none
  | 3 => match actOp T rec s o.op with | some (v, H, hs) => setT { s with heap := H, hs := hs } o.dst v | none => none
  | _ => match (match pureOp T s o.op with | some v => some v | none => readOp T s s.heap o.op) with | some v => setT s o.dst v | none => none

/-- What a guard says: none: it can't be told. -/
def wantd (s : AS) (ops : Array Oper) (o : Oper) : Option Bool :=
  match o.guard with
  | none => some true
  | some (j, w) => match (ops[j]?).bind (·.dst) with
    | some d => bif Nat.blt d s.nt then (match s.tmps.get .any d with
      | .lit (.bool b) => some (b == w)
      | .tup [] => some false
      | _ => none) else none
    | none => none

def evOps (T : Tab) (rec : Rec) (ops : Array Oper) : List Oper → AS → Option (AX × AS)
  | [], s => some (.normal, s)
  | o :: l, s => match wantd s ops o with
    | some true => match evOp T rec o s with
      | some s' => evOps T rec ops l s'
      | none => none
    | some false => match setT s o.dst udef with
      | some s' => evOps T rec ops l s'
      | none => none
    | none => none

end Go.Proofs.YtnmlgekgbmlgjaaGreat.Ev
