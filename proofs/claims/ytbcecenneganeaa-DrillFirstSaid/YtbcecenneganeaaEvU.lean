import Derived.Test.YtbcecenneganeaaEvY
set_option linter.all false
namespace Go.Proofs.Ytbcecenneganeaa.Ev
open Go.RowKit

/-! ### What an operation does, its types being known -/

def pickO : Option AV → Option AV → Option AV → Option AV
  | some (.lit (.bool t)), some u, some v => some (bif t then u else v)
  | _, _, _ => none
def nilO : Option AV → Option AV
  | some (.ptr o off) => some (.ptr o off)
  | some (.eptr cs) => some (.eptr cs)
  | some (.fn (.func f) a b) => some (.fn (.func f) a b)
  | _ => none
def binO (T : Tab) (op : BinOp) (t : Nat) (p q : Operand) : Option AV → Option AV → Option AV
  | some a, some b => (match binV T op t a b with
    | some r => some r
    | none => ifcBin T op t p q a b)
  | _, _ => none
def unO (op : UnOp) : Option AV → Option AV
  | some a => unV op a
  | none => none
def fnO (f : Fn) : Option (List AV) → Option (List AV) → Option AV
  | some x, some y => some (.fn f x y)
  | _, _ => none
def extractO (i : Nat) : Option AV → Option AV
  | some (.tup vs) => vs[i]?
  | _ => none
/-- A part of an aggregate: cells from 'off' on, 'n' of them ('agg': as one). -/
def partO (agg : Bool) (off n : Nat) (cs : List AV) : Option AV := bif agg then (bif Nat.ble (off + n) cs.length then some (.agg ((cs.drop off).take n)) else none) else cs[off]?
def fieldO (agg : Bool) (off n : Nat) : Option AV → Option AV
  | some (.agg cs) => partO agg off n cs
  | _ => none
def fieldAddrO (off : Nat) : Option AV → Option AV
  | some (.ptr o k) => some (.ptr o (k + off))
  | some (.eptr cs) => some (.eptr (cs.drop off))
  | _ => none
def indexAddrO (size : Nat) : Option AV → Option AV → Option AV
  | some (.slc o off len _), some (.lit (.int _ n)) => bif decide (0 ≤ n ∧ n < (len : Int)) then some (.ptr o (off + n.toNat * size)) else none
  | some (.lst _ es), some (.lit (.int _ n)) => bif decide (0 ≤ n) then (match es[n.toNat]? with | some x => bif sizeOk size x then some (.eptr x.cells) else none | none => none) else none
  | _, _ => none
def indexArrO (len size : Nat) : Option AV → Option AV → Option AV
  | some (.ptr o off), some (.lit (.int _ n)) => bif decide (0 ≤ n ∧ n < (len : Int)) then some (.ptr o (off + n.toNat * size)) else none
  | some (.eptr cs), some (.lit (.int _ n)) => bif decide (0 ≤ n ∧ n < (len : Int)) then some (.eptr (cs.drop (n.toNat * size))) else none
  | _, _ => none
def indexStrO : Option AV → Option AV → Option AV
  | some (.str l), some (.lit (.int _ n)) => bif decide (0 ≤ n) then (match l[n.toNat]? with | some b => some (.lit (.int .u8 b.toNat)) | none => none) else none
  | _, _ => none
def one' (agg : Bool) (l : List AV) : Option AV := bif agg then some (.agg l) else match l with | [v] => some v | _ => none
def loadO (H : Tr AO) (agg : Bool) (n : Nat) : Option AV → Option AV
  | some (.ptr o off) => (match rd H o off n with
    | some l => one' agg l
    | none => none)
  | some (.eptr cs) => bif Nat.blt 0 n && Nat.ble n cs.length then one' agg (cs.take n) else none
  | _ => none
def lenO : Option AV → Option AV
  | some (.str l) => some (.lit (.int .i64 l.length))
  | some (.slc _ _ n _) => some (.lit (.int .i64 n))
  | some (.lst _ es) => some (.lit (.int .i64 es.length))
  | some (.lit (.slice none n _)) => some (.lit (.int .i64 n))
  | some .emp => some (.lit (.int .i64 0))
  | _ => none
def storeO (H : Tr AO) (hs n : Nat) : Option AV → Option AV → Option (AV × Tr AO × Nat)
  | some (.ptr o off), some v => bif Nat.beq v.cells.length n && flatOk v then (match wr H o off v.cells with | some H => some (udef, H, hs) | none => none) else none
  | _, _ => none
def boxO : Option AV → Nat → Option (AO × AV)
  | some a, hs => bif flatOk a then some (.cells a.cells false, .ptr hs 0) else none
  | none, _ => none
def buildO (place : Nat → Option (Nat × Nat)) (z : List AV) : Option (List (Nat × AV)) → Option AV
  | some ps => (match fillV place z ps with
    | some cs => bif ps.all (fun p => flatOk p.2) then some (.agg cs) else none
    | none => none)
  | none => none
def buildSO (lm : Bool) (hs len size : Nat) (z : AV) : Option (List (Nat × AV)) → Option (AO × AV)
  | some ps => bif ps.all (fun p => flatOk p.2) then
      (bif lm && ps.all (fun p => sizeOk size p.2 && Nat.blt p.1 len) then some (.dead, .lst .full (setEs (List.replicate len z) ps)) else
       (match fillV (fun i => some (i * size, size)) (List.replicate len z.cells).flatten ps with
        | some cs => some (.cells cs false, .slc hs 0 len (.ex len))
        | none => none)) else none
  | none => none
def convIO (k : IntKind) : Option AV → Option AV
  | some (.lit (.int _ n)) => some (.lit (.int k (k.wrap n)))
  | _ => none
/-- Elements, or bytes, behind a list. -/
def appendO (H : Tr AO) (hs : Nat) (lm agg : Bool) (size bytes : Nat) : Option AV → Option AV → Option (AV × Tr AO × Nat)
  | some u, some v => (match lstOf lm u with
    | some (tk, es) => (match srcElems H agg size v with
      | some ys => appendL H hs size bytes tk es ys
      | none => none)
    | none => (match srcCells H size v with
      | some (n, cs) => append' H hs size bytes u n cs
      | none => none))
  | _, _ => none
def lookupO (d : TypeDesc) (z : AV) (ok : Bool) (H : Tr AO) : Option AV → Option AV → Option AV
  | some m, some kv => (match (match m with | .lit (.map none) => some [] | .mp o => (match H.get .dead o with | .map es _ => some es | _ => none) | .fmp es => some es | _ => none) with
    | some es => match findE d kv es 0 with
      | some (some (_, v)) => some (bif ok then .tup [v, .lit (.bool true)] else v)
      | some none => some (bif ok then .tup [z, .lit (.bool false)] else z)
      | none => none
    | none => none)
  | _, _ => none
def mapUpdO (d : TypeDesc) (H : Tr AO) (hs : Nat) : Option AV → Option AV → Option AV → Option (AV × Tr AO × Nat)
  | some (.mp o), some kv, some v => (match H.get .dead o with
    | .map es clock => (match findE d kv es 0 with
      | some (some (i, _)) => some (udef, H.put .dead o (.map (modE (fun e => (kv, v, e.2.2)) es i) clock), hs)
      | some none => some (udef, H.put .dead o (.map (es ++ [(kv, v, clock)]) (clock + 1)), hs)
      | none => none)
    | _ => none)
  | _, _, _ => none
def sliceStrO (l : List UInt8) : Option Nat → Option Nat → Option AV
  | some a, some b => bif Nat.ble a b && Nat.ble b l.length then some (.str ((l.take b).drop a)) else none
  | _, _ => none

section
variable {T : Tab} {s : AS} {H : Tr AO}

theorem u_pick {c a b : Operand} : pureOp T s (.pick c a b) = pickO (opd s c) (opd s a) (opd s b) := by
  simp only [pureOp]
  unfold pickO; rfl
theorem u_nil {x : Operand} : pureOp T s (.nilCheck x) = nilO (opd s x) := by simp only [pureOp]; unfold nilO; rfl
theorem u_bin {op : BinOp} {t r : TypeId} {x y : Operand} : pureOp T s (.binOp op t x y r) = binO T op t x y (opd s x) (opd s y) := by simp only [pureOp]; unfold binO; rfl
theorem u_un {op : UnOp} {t : TypeId} {x : Operand} : pureOp T s (.unOp op t x) = unO op (opd s x) := by simp only [pureOp]; unfold unO; rfl
theorem u_fn {f : Fn} {a b : Array Operand} : pureOp T s (.makeFunc f a b) = fnO f (opds s a.toList) (opds s b.toList) := by simp only [pureOp]; unfold fnO; rfl
theorem u_extract {x : Operand} {i : Nat} : pureOp T s (.extract x i) = extractO i (opd s x) := by simp only [pureOp]; unfold extractO; rfl
theorem u_field {t : TypeId} {x : Operand} {i : Nat} {ti fi : TI} {fs : Array Field} {f : Field} (h1 : T.t t = some ti) (h2 : ti.desc = .struct fs) (h3 : fs[i]? = some f) (h4 : T.t f.type = some fi) {agg : Bool} (h5 : isAggD fi.desc = agg) {off n : Nat} (h6 : f.offset = off) (h7 : fi.size = n) :
    pureOp T s (.field t x i) = fieldO agg off n (opd s x) := by
  subst h5; subst h6; subst h7
  simp only [pureOp, h1]
  cases opd s x with
  | none => rfl
  | some v => cases v <;> first | rfl | (simp only [h2, h3, part', h4]; rfl)
theorem u_fieldAddr {t : TypeId} {x : Operand} {i : Nat} {ti fi : TI} {fs : Array Field} {f : Field} (h1 : T.t t = some ti) (h2 : ti.desc = .struct fs) (h3 : fs[i]? = some f) (h4 : T.t f.type = some fi) (h5 : Nat.beq fi.size 0 = false) {off : Nat} (h6 : f.offset = off) :
    pureOp T s (.fieldAddr t x i) = fieldAddrO off (opd s x) := by
  subst h6
  simp only [pureOp, h1]
  cases opd s x with
  | none => rfl
  | some v => cases v <;> first | rfl | (simp only [h2, h3, h4, h5, cond_false]; rfl)
theorem u_indexAddr {t e : TypeId} {x y : Operand} {ti ei : TI} (h1 : T.t t = some ti) (h2 : ti.desc = .slice e) (h3 : T.t e = some ei) {n : Nat} (h4 : ei.size = n) : pureOp T s (.indexAddr t x y) = indexAddrO n (opd s x) (opd s y) := by
  subst h4
  simp only [pureOp, h1]
  cases opd s x with
  | none => rfl
  | some v =>
    cases opd s y with
    | none => cases v <;> rfl
    | some u => cases v <;> (try rfl) <;> (cases u <;> (try rfl)) <;> (rename_i w; cases w <;> (try rfl)) <;> simp only [h2, h3] <;> rfl
theorem u_indexArr {t e len : Nat} {x y : Operand} {ti ei : TI} (h1 : T.t t = some ti) (h2 : ti.desc = .array len e) (h3 : T.t e = some ei) {n : Nat} (h4 : ei.size = n) : pureOp T s (.indexAddr t x y) = indexArrO len n (opd s x) (opd s y) := by
  subst h4
  simp only [pureOp, h1]
  cases opd s x with
  | none => rfl
  | some v =>
    cases opd s y with
    | none => cases v <;> rfl
    | some u => cases v <;> (try rfl) <;> (cases u <;> (try rfl)) <;> (rename_i w; cases w <;> (try rfl)) <;> simp only [h2, h3] <;> rfl
theorem u_index {t : TypeId} {x y : Operand} {ti : TI} (h1 : T.t t = some ti) (h2 : ti.desc = .string) : pureOp T s (.index t x y) = indexStrO (opd s x) (opd s y) := by
  simp only [pureOp, h1]
  cases opd s x with
  | none => rfl
  | some v =>
    cases opd s y with
    | none => cases v <;> rfl
    | some u => cases v <;> (try rfl) <;> (cases u <;> (try rfl)) <;> (rename_i w; cases w <;> (try rfl)) <;> simp only [h2] <;> rfl
theorem u_load {t : TypeId} {x : Operand} {i : TI} (h1 : T.t t = some i) {agg : Bool} (h2 : isAggD i.desc = agg) {n : Nat} (h3 : i.size = n) : readOp T s H (.load t x) = loadO H agg n (opd s x) := by
  subst h2; subst h3
  simp only [readOp]
  cases opd s x with
  | none => rfl
  | some v =>
    cases v with
    | ptr o off =>
      simp only [ldv, h1, loadO]
      cases rd H o off i.size <;> rfl
    | eptr cs => simp only [ldv, h1, loadO]; rfl
    | _ => rfl
theorem u_len {t : TypeId} {x : Operand} {ti : TI} (h1 : T.t t = some ti) (h2 : (match ti.desc with | .slice _ => true | .string => true | _ => false) = true) {v : AV} (h3 : lenO (opd s x) = some v)
    (h4 : (match ti.desc, opd s x with | .string, some (.str _) => true | .slice _, some (.str _) => false | .string, _ => false | _, _ => true) = true) :
    pureOp T s (.call ⟨.builtin .len, #[x], #[t]⟩) = some v := by
  simp only [pureOp, h1]
  cases hx : opd s x with
  | none => rw [hx] at h3; cases h3
  | some u =>
    rw [hx] at h3 h4
    cases hd : ti.desc <;> rw [hd] at h2 h4 <;> first | (cases h2; done) | skip
    all_goals (cases u <;> first | (cases h3; done) | (cases h4; done) | skip)
    all_goals (first | (simpa [lenO, hd] using h3; done) | skip)
    all_goals (rename_i w; cases w <;> first | (cases h3; done) | skip)
    all_goals (rename_i p _ _; cases p <;> first | (cases h3; done) | (simpa [lenO, hd] using h3; done) | skip)
theorem u_store {t : TypeId} {x y : Operand} {ti : TI} (h1 : T.t t = some ti) {n : Nat} (h2 : ti.size = n) : effOp T s (.store t x y) = storeO s.heap s.hs n (opd s x) (opd s y) := by
  subst h2
  simp only [effOp, h1]
  cases opd s x with
  | none => rfl
  | some v =>
    cases opd s y with
    | none => cases v <;> rfl
    | some u => cases v <;> rfl
theorem u_box {t : TypeId} {x : Operand} {hs : Nat} : newOp T s hs (.box t x) = boxO (opd s x) hs := by
  simp only [newOp]; cases opd s x <;> rfl
theorem u_alloc {t : TypeId} {ti : TI} {hs : Nat} {cs : List AV} (h1 : T.t t = some ti) (h2 : ti.zero.cells = cs) (h3 : flatOk ti.zero = true) : newOp T s hs (.alloc t) = some (.cells cs false, .ptr hs 0) := by
  subst h2
  simp only [newOp, h1, h3, cond_true]
theorem u_build {t : TypeId} {ps : Array (Nat × Operand)} {ti : TI} {fs : Array Field} {z : List AV} (h1 : T.t t = some ti) (h2 : ti.desc = .struct fs) (h3 : ti.zero = .agg z) (h4 : fs.toList.all (fun f => (T.t f.type).isSome) = true) {pl : Nat → Option (Nat × Nat)} (h5 : places T fs = pl) :
    pureOp T s (.build t ps) = buildO pl z (opdParts s ps.toList) := by
  subst h5
  simp only [pureOp, h1]
  cases opdParts s ps.toList with
  | none => rfl
  | some q =>
    simp only [buildO, h2, h3]
    cases fillV (places T fs) z q with
    | none => rfl
    | some cs => simp only [h4, Bool.true_and]
theorem u_buildSlice {t e len : Nat} {ps : Array (Nat × Operand)} {ti ei : TI} {hs : Nat} (h1 : T.t t = some ti) (h2 : ti.desc = .slice e) (h3 : T.t e = some ei) {n : Nat} (h4 : ei.size = n) {z : AV} (h5 : ei.zero = z)
    (h6 : (Nat.ble (len * n) 16777216 && Nat.blt 0 n && decide (z.cells.length = n) && flatOk z) = true) : newOp T s hs (.buildSlice t len ps) = buildSO s.lm hs len n z (opdParts s ps.toList) := by
  subst h4; subst h5
  simp only [Bool.and_eq_true] at h6
  simp only [newOp, h1]
  cases opdParts s ps.toList with
  | none => rfl
  | some q => simp only [h2, h3, h6.1.1.1, h6.1.1.2, h6.1.2, h6.2, Bool.true_and, Bool.and_true]; rfl
theorem u_append {x y : Operand} {st yt e : TypeId} {si yi ei : TI} (h1 : T.t st = some si) (h2 : T.t yt = some yi) (h3 : si.desc = .slice e) (h4 : (match yi.desc with | .int _ => false | _ => true) = true) (h5 : T.t e = some ei) {n b : Nat} (h6 : ei.size = n) (h7 : ei.bytes = b) {agg : Bool} (h8 : isAggD ei.desc = agg)
    (h9 : (Nat.blt 0 ei.bytes && Nat.blt 0 ei.size && decide (ei.zero.cells.length = ei.size) && flatOk ei.zero) = true) : effOp T s (.call ⟨.builtin .append, #[x, y], #[st, yt]⟩) = appendO s.heap s.hs s.lm agg n b (opd s x) (opd s y) := by
  subst h6; subst h7; subst h8
  simp only [effOp, h1, h2]
  cases opd s x with
  | none => rfl
  | some u =>
    cases opd s y with
    | none => rfl
    | some v =>
      simp only [h3, appendO]
      cases hd : yi.desc <;> rw [hd] at h4 <;> first | (cases h4; done) | skip
      all_goals (simp only [h5, h9, cond_true]; rfl)
theorem u_lookup {t kt et : TypeId} {x y : Operand} {ok : Bool} {ti ki ei : TI} (h1 : T.t t = some ti) (h2 : ti.desc = .map kt et) (h3 : T.t kt = some ki) (h4 : T.t et = some ei) {d : TypeDesc} (h5 : ki.desc = d) (h6 : okKey d = true) {z : AV} (h7 : ei.zero = z) :
    readOp T s H (.lookup t x y ok) = lookupO d z ok H (opd s x) (opd s y) := by
  subst h5; subst h7
  simp only [readOp, h1]
  cases opd s x with
  | none => rfl
  | some m => cases opd s y <;> first | rfl | (simp only [h2, h3, h4, h6, cond_true]; rfl)
theorem u_mapUpdate {t kt et : TypeId} {x y z : Operand} {ti ki : TI} (h1 : T.t t = some ti) (h2 : ti.desc = .map kt et) (h3 : T.t kt = some ki) {d : TypeDesc} (h5 : ki.desc = d) (h6 : okKey d = true) :
    effOp T s (.mapUpdate t x y z) = mapUpdO d s.heap s.hs (opd s x) (opd s y) (opd s z) := by
  subst h5
  simp only [effOp, h1]
  cases opd s x with
  | none => rfl
  | some m =>
    cases opd s y with
    | none => cases m <;> rfl
    | some k =>
      cases opd s z with
      | none => cases m <;> rfl
      | some v =>
        cases m with
        | mp o =>
          simp only [mapUpdO]
          cases hg : s.heap.get .dead o <;> simp only [h2, hg] <;> first | rfl | (simp only [h3, h6, cond_true]; rfl)
        | _ => rfl
theorem u_makeMap {t : TypeId} {hs : Nat} : newOp T s hs (.makeMap t none) = some (.map [] 0, .mp hs) := rfl
theorem u_conv {a b : TypeId} {x : Operand} {i j : TI} (h1 : T.t a = some i) (h2 : T.t b = some j) {k : IntKind} (h3 : j.desc = .int k) : pureOp T s (.convert a b x) = convIO k (opd s x) := by
  simp only [pureOp]
  cases opd s x with
  | none => rfl
  | some v => simp only [convV, h1, h2, h3]; cases v <;> (try rfl) <;> (rename_i w; cases w <;> rfl)
end
end Go.Proofs.Ytbcecenneganeaa.Ev
