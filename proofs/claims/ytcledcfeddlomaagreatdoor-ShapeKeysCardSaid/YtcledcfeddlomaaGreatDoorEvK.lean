import Derived.Test.YtcledcfeddlomaaGreatDoorEvY
set_option linter.all false
namespace Go.Proofs.YtcledcfeddlomaaGreatDoor.Ev
open Go.RowKit
def pickO : Option AV -> Option AV -> Option AV -> Option AV
 | some (.lit (.bool t)), some u, some v => some (bif t then u else v)
 | _, _, _ => none
def nilO : Option AV -> Option AV
 | some (.ptr o off) => some (.ptr o off)
 | some (.eptr cs) => some (.eptr cs)
 | some (.fn (.func f) a b) => some (.fn (.func f) a b)
 | _ => none
def binO (T : Tab) (op : BinOp) (t : Nat) (p q : Operand) : Option AV -> Option AV -> Option AV
 | some a, some b => (match binV T op t a b with
  | some r => some r
  | none => ifcBin T op t p q a b)
 | _, _ => none
def unO (op : UnOp) : Option AV -> Option AV
 | some a => unV op a
 | none => none
def fnO (f : Fn) : Option (List AV) -> Option (List AV) -> Option AV
 | some x, some y => some (.fn f x y)
 | _, _ => none
def extractO (i : Nat) : Option AV -> Option AV
 | some (.tup vs) => vs[i]?
 | _ => none
def partO (agg : Bool) (off n : Nat) (cs : List AV) : Option AV := bif agg then (bif Nat.ble (off + n) cs.length then some (.agg ((cs.drop off).take n)) else none) else cs[off]?
def fieldO (agg : Bool) (off n : Nat) : Option AV -> Option AV
 | some (.agg cs) => partO agg off n cs
 | _ => none
def fieldAddrO (off : Nat) : Option AV -> Option AV
 | some (.ptr o k) => some (.ptr o (k + off))
 | some (.eptr cs) => some (.eptr (cs.drop off))
 | _ => none
def indexAddrO (size : Nat) : Option AV -> Option AV -> Option AV
 | some (.slc o off len _), some (.lit (.int _ n)) => bif decide (0 <= n /\ n < (len : Int)) then some (.ptr o (off + n.toNat * size)) else none
 | some (.lst _ es), some (.lit (.int _ n)) => bif decide (0 <= n) then (match es[n.toNat]? with | some x => bif sizeOk size x then some (.eptr x.cells) else none | none => none) else none
 | _, _ => none
def indexArrO (len size : Nat) : Option AV -> Option AV -> Option AV
 | some (.ptr o off), some (.lit (.int _ n)) => bif decide (0 <= n /\ n < (len : Int)) then some (.ptr o (off + n.toNat * size)) else none
 | some (.eptr cs), some (.lit (.int _ n)) => bif decide (0 <= n /\ n < (len : Int)) then some (.eptr (cs.drop (n.toNat * size))) else none
 | _, _ => none
def indexStrO : Option AV -> Option AV -> Option AV
 | some (.str l), some (.lit (.int _ n)) => bif decide (0 <= n) then (match l[n.toNat]? with | some b => some (.lit (.int .u8 b.toNat)) | none => none) else none
 | _, _ => none
def one' (agg : Bool) (l : List AV) : Option AV := bif agg then some (.agg l) else match l with | [v] => some v | _ => none
def loadO (H : Tr AO) (agg : Bool) (n : Nat) : Option AV -> Option AV
 | some (.ptr o off) => (match rd H o off n with
  | some l => one' agg l
  | none => none)
 | some (.eptr cs) => bif Nat.blt 0 n && Nat.ble n cs.length then one' agg (cs.take n) else none
 | _ => none
def storeO (H : Tr AO) (hs n : Nat) : Option AV -> Option AV -> Option (AV × Tr AO × Nat)
 | some (.ptr o off), some v => bif Nat.beq v.cells.length n && flatOk v then (match wr H o off v.cells with | some H => some (udef, H, hs) | none => none) else none
 | _, _ => none
def boxO : Option AV -> Nat -> Option (AO × AV)
 | some a, hs => bif flatOk a then some (.cells a.cells false, .ptr hs 0) else none
 | none, _ => none
def buildO (place : Nat -> Option (Nat × Nat)) (z : List AV) : Option (List (Nat × AV)) -> Option AV
 | some ps => (match fillV place z ps with
  | some cs => bif ps.all (fun p => flatOk p.2) then some (.agg cs) else none
  | none => none)
 | none => none
def buildSO (lm : Bool) (hs len size : Nat) (z : AV) : Option (List (Nat × AV)) -> Option (AO × AV)
 | some ps => bif ps.all (fun p => flatOk p.2) then
   (bif lm && ps.all (fun p => sizeOk size p.2 && Nat.blt p.1 len) then some (.dead, .lst .full (setEs (List.replicate len z) ps)) else
    (match fillV (fun i => some (i * size, size)) (List.replicate len z.cells).flatten ps with
    | some cs => some (.cells cs false, .slc hs 0 len (.ex len))
    | none => none)) else none
 | none => none
def convIO (k : IntKind) : Option AV -> Option AV
 | some (.lit (.int _ n)) => some (.lit (.int k (k.wrap n)))
 | _ => none
def appendO (H : Tr AO) (hs : Nat) (lm agg : Bool) (size bytes : Nat) : Option AV -> Option AV -> Option (AV × Tr AO × Nat)
 | some u, some v => (match lstX lm u with
  | some (tk, es) => (match srcElems H agg size v with
   | some ys => appendL H hs size bytes tk es ys
   | none => none)
  | none => (match srcCells H size v with
   | some (n, cs) => append' H hs size bytes u n cs
   | none => none))
 | _, _ => none
def lookupO (d : TypeDesc) (z : AV) (ok : Bool) (H : Tr AO) : Option AV -> Option AV -> Option AV
 | some m, some kv => (match (match m with | .lit (.map none) => some [] | .mp o => (match H.get .dead o with | .map es _ => some es | _ => none) | .fmp es => some es | _ => none) with
  | some es => match findE d kv es 0 with
   | some (some (_, v)) => some (bif ok then .tup [v, .lit (.bool true)] else v)
   | some none => some (bif ok then .tup [z, .lit (.bool false)] else z)
   | none => none
  | none => none)
 | _, _ => none
def mapUpdO (d : TypeDesc) (H : Tr AO) (hs : Nat) : Option AV -> Option AV -> Option AV -> Option (AV × Tr AO × Nat)
 | some (.mp o), some kv, some v => (match H.get .dead o with
  | .map es clock => (match findE d kv es 0 with
   | some (some (i, _)) => some (udef, H.put .dead o (.map (modE (fun e => (kv, v, e.2.2)) es i) clock), hs)
   | some none => some (udef, H.put .dead o (.map (es ++ [(kv, v, clock)]) (clock + 1)), hs)
   | none => none)
  | _ => none)
 | _, _, _ => none
def sliceStrO (l : List UInt8) : Option Nat -> Option Nat -> Option AV
 | some a, some b => bif Nat.ble a b && Nat.ble b l.length then some (.str ((l.take b).drop a)) else none
 | _, _ => none
section
variable {T : Tab} {s : AS} {H : Tr AO}
theorem u_pick {c a b : Operand} : pureOp T s (.pick c a b) = pickO (opd s c) (opd s a) (opd s b) := by
 simp only [pureOp]
 unfold pickO; rfl
theorem u_nil {x : Operand} : pureOp T s (.nilCheck x) = nilO (opd s x) := by simp only [pureOp]; unfold nilO; rfl
theorem u_bin {op : BinOp} {t r : TypeId} {x y : Operand} : pureOp T s (.binOp op t x y r) = binO T op t x y (opd s x) (opd s y) := by simp only [pureOp]; unfold binO; rfl
theorem u_un {op : UnOp} {t : TypeId} {x : Operand} : pureOp T s (.unOp op t x) = unO op (opd s x) := by simp only [pureOp]; unfold unO; rfl
theorem u_fn {f : Fn} {a b : Array Operand} : pureOp T s (.makeFunc f a b) = fnO f (opds s a.toList) (opds s b.toList) := by simp only [pureOp]; unfold fnO; rfl
theorem u_extract {x : Operand} {i : Nat} : pureOp T s (.extract x i) = extractO i (opd s x) := by simp only [pureOp]; unfold extractO; rfl
theorem u_field {t : TypeId} {x : Operand} {i : Nat} {ti fi : TI} {fs : Array Field} {f : Field} (h1 : T.t t = some ti) (h2 : ti.desc = .struct fs) (h3 : fs[i]? = some f) (h4 : T.t f.type = some fi) {agg : Bool} (h5 : isAggD fi.desc = agg) {off n : Nat} (h6 : f.offset = off) (h7 : fi.size = n) :
  pureOp T s (.field t x i) = fieldO agg off n (opd s x) := by
 subst h5; subst h6; subst h7
 simp only [pureOp, h1]
 cases opd s x with
 | none => rfl
 | some v => cases v <;> first | rfl | (simp only [h2, h3, part', h4]; rfl)
theorem u_fieldAddr {t : TypeId} {x : Operand} {i : Nat} {ti fi : TI} {fs : Array Field} {f : Field} (h1 : T.t t = some ti) (h2 : ti.desc = .struct fs) (h3 : fs[i]? = some f) (h4 : T.t f.type = some fi) (h5 : Nat.beq fi.size 0 = false) {off : Nat} (h6 : f.offset = off) :
  pureOp T s (.fieldAddr t x i) = fieldAddrO off (opd s x) := by
 subst h6
 simp only [pureOp, h1]
 cases opd s x with
 | none => rfl
 | some v => cases v <;> first | rfl | (simp only [h2, h3, h4, h5, cond_false]; rfl)
theorem u_indexAddr {t e : TypeId} {x y : Operand} {ti ei : TI} (h1 : T.t t = some ti) (h2 : ti.desc = .slice e) (h3 : T.t e = some ei) {n : Nat} (h4 : ei.size = n) : pureOp T s (.indexAddr t x y) = indexAddrO n (opd s x) (opd s y) := by
 subst h4
 simp only [pureOp, h1]
 cases opd s x with
 | none => rfl
 | some v =>
  cases opd s y with
  | none => cases v <;> rfl
  | some u => cases v <;> (try rfl) <;> (cases u <;> (try rfl)) <;> (rename_i w; cases w <;> (try rfl)) <;> simp only [h2, h3] <;> rfl
theorem u_index {t : TypeId} {x y : Operand} {ti : TI} (h1 : T.t t = some ti) (h2 : ti.desc = .string) : pureOp T s (.index t x y) = indexStrO (opd s x) (opd s y) := by
 simp only [pureOp, h1]
 cases opd s x with
 | none => rfl
 | some v =>
  cases opd s y with
  | none => cases v <;> rfl
  | some u => cases v <;> (try rfl) <;> (cases u <;> (try rfl)) <;> (rename_i w; cases w <;> (try rfl)) <;> simp only [h2] <;> rfl
theorem u_load {t : TypeId} {x : Operand} {i : TI} (h1 : T.t t = some i) {agg : Bool} (h2 : isAggD i.desc = agg) {n : Nat} (h3 : i.size = n) : readOp T s H (.load t x) = loadO H agg n (opd s x) := by
 subst h2; subst h3
 simp only [readOp]
 cases opd s x with
 | none => rfl
 | some v =>
  cases v with
  | ptr o off =>
   simp only [ldv, h1, loadO]
   cases rd H o off i.size <;> rfl
  | eptr cs => simp only [ldv, h1, loadO]; rfl
  | _ => rfl
theorem u_store {t : TypeId} {x y : Operand} {ti : TI} (h1 : T.t t = some ti) {n : Nat} (h2 : ti.size = n) : effOp T s (.store t x y) = storeO s.heap s.hs n (opd s x) (opd s y) := by
 subst h2
 simp only [effOp, h1]
 cases opd s x with
 | none => rfl
 | some v =>
  cases opd s y with
  | none => cases v <;> rfl
  | some u => cases v <;> rfl
theorem u_box {t : TypeId} {x : Operand} {hs : Nat} : newOp T s hs (.box t x) = boxO (opd s x) hs := by
 simp only [newOp]; cases opd s x <;> rfl
theorem u_alloc {t : TypeId} {ti : TI} {hs : Nat} {cs : List AV} (h1 : T.t t = some ti) (h2 : ti.zero.cells = cs) (h3 : flatOk ti.zero = true) : newOp T s hs (.alloc t) = some (.cells cs false, .ptr hs 0) := by
 subst h2
 simp only [newOp, h1, h3, cond_true]
theorem u_build {t : TypeId} {ps : Array (Nat × Operand)} {ti : TI} {fs : Array Field} {z : List AV} (h1 : T.t t = some ti) (h2 : ti.desc = .struct fs) (h3 : ti.zero = .agg z) (h4 : fs.toList.all (fun f => (T.t f.type).isSome) = true) {pl : Nat -> Option (Nat × Nat)} (h5 : places T fs = pl) :
  pureOp T s (.build t ps) = buildO pl z (opdParts s ps.toList) := by
 subst h5
 simp only [pureOp, h1]
 cases opdParts s ps.toList with
 | none => rfl
 | some q =>
  simp only [buildO, h2, h3]
  cases fillV (places T fs) z q with
  | none => rfl
  | some cs => simp only [h4, Bool.true_and]
theorem u_buildSlice {t e len : Nat} {ps : Array (Nat × Operand)} {ti ei : TI} {hs : Nat} (h1 : T.t t = some ti) (h2 : ti.desc = .slice e) (h3 : T.t e = some ei) {n : Nat} (h4 : ei.size = n) {z : AV} (h5 : ei.zero = z)
  (h6 : (Nat.ble (len * n) 16777216 && Nat.blt 0 n && decide (z.cells.length = n) && flatOk z) = true) : newOp T s hs (.buildSlice t len ps) = buildSO s.md.lm hs len n z (opdParts s ps.toList) := by
 subst h4; subst h5
 simp only [Bool.and_eq_true] at h6
 simp only [newOp, h1]
 cases opdParts s ps.toList with
 | none => rfl
 | some q => simp only [h2, h3, h6.1.1.1, h6.1.1.2, h6.1.2, h6.2, Bool.true_and, Bool.and_true]; rfl
theorem u_append {x y : Operand} {st yt e : TypeId} {si yi ei : TI} (h1 : T.t st = some si) (h2 : T.t yt = some yi) (h3 : si.desc = .slice e) (h4 : (match yi.desc with | .int _ => false | _ => true) = true) (h5 : T.t e = some ei) {n b : Nat} (h6 : ei.size = n) (h7 : ei.bytes = b) {agg : Bool} (h8 : isAggD ei.desc = agg)
  (h9 : (Nat.blt 0 ei.bytes && Nat.blt 0 ei.size && decide (ei.zero.cells.length = ei.size) && flatOk ei.zero) = true) : effOp T s (.call ⟨.builtin .append, #[x, y], #[st, yt]⟩) = appendO s.heap s.hs s.md.lm agg n b (opd s x) (opd s y) := by
 subst h6; subst h7; subst h8
 simp only [effOp, h1, h2]
 cases opd s x with
 | none => rfl
 | some u =>
  cases opd s y with
  | none => rfl
  | some v =>
   simp only [h3, appendO]
   cases hd : yi.desc <;> rw [hd] at h4 <;> first | (cases h4; done) | skip
   all_goals (simp only [h5, h9, cond_true]; rfl)
theorem u_lookup {t kt et : TypeId} {x y : Operand} {ok : Bool} {ti ki ei : TI} (h1 : T.t t = some ti) (h2 : ti.desc = .map kt et) (h3 : T.t kt = some ki) (h4 : T.t et = some ei) {d : TypeDesc} (h5 : ki.desc = d) (h6 : okKey d = true) {z : AV} (h7 : ei.zero = z) :
  readOp T s H (.lookup t x y ok) = lookupO d z ok H (opd s x) (opd s y) := by
 subst h5; subst h7
 simp only [readOp, h1]
 cases opd s x with
 | none => rfl
 | some m => cases opd s y <;> first | rfl | (simp only [h2, h3, h4, h6, cond_true]; rfl)
theorem u_mapUpdate {t kt et : TypeId} {x y z : Operand} {ti ki : TI} (h1 : T.t t = some ti) (h2 : ti.desc = .map kt et) (h3 : T.t kt = some ki) {d : TypeDesc} (h5 : ki.desc = d) (h6 : okKey d = true) :
  effOp T s (.mapUpdate t x y z) = mapUpdO d s.heap s.hs (opd s x) (opd s y) (opd s z) := by
 subst h5
 simp only [effOp, h1]
 cases opd s x with
 | none => rfl
 | some m =>
  cases opd s y with
  | none => cases m <;> rfl
  | some k =>
   cases opd s z with
   | none => cases m <;> rfl
   | some v =>
    cases m with
    | mp o =>
     simp only [mapUpdO]
     cases hg : s.heap.get .dead o <;> simp only [h2, hg] <;> first | rfl | (simp only [h3, h6, cond_true]; rfl)
    | _ => rfl
theorem u_conv {a b : TypeId} {x : Operand} {i j : TI} (h1 : T.t a = some i) (h2 : T.t b = some j) {k : IntKind} (h3 : j.desc = .int k) : pureOp T s (.convert a b x) = convIO k (opd s x) := by
 simp only [pureOp]
 cases opd s x with
 | none => rfl
 | some v => simp only [convV, h1, h2, h3]; cases v <;> (try rfl) <;> (rename_i w; cases w <;> rfl)
end
section
variable {T : Tab} {α : Type} {ro : Option Nat} {F : AX -> AS -> Option α} {K : List Fr} {s : AS} {ops : Array Oper} {k : Nat}
end
def lenSO : Option AV -> Option AV
 | some (.str l) => some (.lit (.int .i64 l.length))
 | _ => none
def lenLO : Option AV -> Option AV
 | some (.slc _ _ n _) => some (.lit (.int .i64 n))
 | some (.lst _ es) => some (.lit (.int .i64 es.length))
 | some (.lit (.slice none n _)) => some (.lit (.int .i64 n))
 | some .emp => some (.lit (.int .i64 0))
 | _ => none
def lenMO (H : Tr AO) : Option AV -> Option AV
 | some (.mp o) => (match H.get .dead o with | .map es _ => some (.lit (.int .i64 es.length)) | _ => none)
 | some (.lit (.map none)) => some (.lit (.int .i64 0))
 | some (.fmp es) => some (.lit (.int .i64 es.length))
 | _ => none
def placesL (l : List (Nat × Nat)) (i : Nat) : Option (Nat × Nat) := l[i]?
section
variable {T : Tab} {rec : Rec} {s : AS} {d : Option Tmp} {ty : TypeId} {pos : String} {after : Array Edge} {g : Option (Nat × Bool)}
theorem u_lenS {t : TypeId} {x : Operand} {ti : TI} (h1 : T.t t = some ti) (h2 : ti.desc = .string) : evOp T rec ⟨d, .call ⟨.builtin .len, #[x], #[t]⟩, ty, pos, after, g⟩ s = setO s d (lenSO (opd s x)) := by
 rw [ev_len]
 have hp : pureOp T s (.call ⟨.builtin .len, #[x], #[t]⟩) = lenSO (opd s x) := by
  simp only [pureOp, h1]
  cases opd s x with
  | none => rfl
  | some v => cases v with
   | lit w => cases w with
    | slice p n c => cases p <;> first | rfl | (simp only [h2]; done) | (simp only [h2]; rfl)
    | _ => rfl
   | _ => first | rfl | (simp only [h2]; done) | (simp only [h2]; rfl)
 have hr : readOp T s s.heap (.call ⟨.builtin .len, #[x], #[t]⟩) = none := by
  simp only [readOp, h1]
  cases opd s x with
  | none => rfl
  | some v => cases v with
   | lit w => cases w with
    | map p => cases p <;> first | rfl | (simp only [h2]; done) | (simp only [h2]; rfl)
    | _ => rfl
   | mp o => simp only [h2]
   | _ => first | rfl | (simp only [h2]; done) | (simp only [h2]; rfl)
 have he : effOp T s (.call ⟨.builtin .len, #[x], #[t]⟩) = none := rfl
 rw [hp, hr]
 cases lenSO (opd s x) <;> rfl
theorem u_lenL {e t : TypeId} {x : Operand} {ti : TI} (h1 : T.t t = some ti) (h2 : ti.desc = .slice e) : evOp T rec ⟨d, .call ⟨.builtin .len, #[x], #[t]⟩, ty, pos, after, g⟩ s = setO s d (lenLO (opd s x)) := by
 rw [ev_len]
 have hp : pureOp T s (.call ⟨.builtin .len, #[x], #[t]⟩) = lenLO (opd s x) := by
  simp only [pureOp, h1]
  cases opd s x with
  | none => rfl
  | some v => cases v with
   | lit w => cases w with
    | slice p n c => cases p <;> first | rfl | (simp only [h2]; done) | (simp only [h2]; rfl)
    | _ => rfl
   | _ => first | rfl | (simp only [h2]; done) | (simp only [h2]; rfl)
 have hr : readOp T s s.heap (.call ⟨.builtin .len, #[x], #[t]⟩) = none := by
  simp only [readOp, h1]
  cases opd s x with
  | none => rfl
  | some v => cases v with
   | lit w => cases w with
    | map p => cases p <;> first | rfl | (simp only [h2]; done) | (simp only [h2]; rfl)
    | _ => rfl
   | mp o => simp only [h2]
   | _ => first | rfl | (simp only [h2]; done) | (simp only [h2]; rfl)
 have he : effOp T s (.call ⟨.builtin .len, #[x], #[t]⟩) = none := rfl
 rw [hp, hr]
 cases lenLO (opd s x) <;> rfl
theorem u_lenM {t ke e : TypeId} {x : Operand} {ti : TI} (h1 : T.t t = some ti) (h2 : ti.desc = .map ke e) : evOp T rec ⟨d, .call ⟨.builtin .len, #[x], #[t]⟩, ty, pos, after, g⟩ s = setO s d (lenMO s.heap (opd s x)) := by
 rw [ev_len]
 have hp : pureOp T s (.call ⟨.builtin .len, #[x], #[t]⟩) = none := by
  simp only [pureOp, h1]
  cases opd s x with
  | none => rfl
  | some v => cases v with
   | lit w => cases w with
    | slice p n c => cases p <;> first | rfl | (simp only [h2]; done) | (simp only [h2]; rfl)
    | _ => rfl
   | _ => first | rfl | (simp only [h2]; done) | (simp only [h2]; rfl)
 have hr : readOp T s s.heap (.call ⟨.builtin .len, #[x], #[t]⟩) = lenMO s.heap (opd s x) := by
  simp only [readOp, h1]
  cases opd s x with
  | none => rfl
  | some v => cases v with
   | lit w => cases w with
    | map p => cases p <;> first | rfl | (simp only [h2]; rfl)
    | _ => rfl
   | mp o => simp only [h2, lenMO]; cases s.heap.get .dead o <;> rfl
   | _ => first | rfl | (simp only [h2]; rfl)
 have he : effOp T s (.call ⟨.builtin .len, #[x], #[t]⟩) = none := rfl
 rw [hp, hr]
 cases lenMO s.heap (opd s x) <;> rfl
theorem u_convI {a b : TypeId} {x : Operand} {i j : TI} {k : IntKind} (h1 : T.t a = some i) (h2 : T.t b = some j) (h3 : j.desc = .int k) : evOp T rec ⟨d, .convert a b x, ty, pos, after, g⟩ s = setO s d (convIO k (opd s x)) := by
 rw [ev_convert, u_conv h1 h2 h3]
 have hr : readOp T s s.heap (.convert a b x) = none := by
  simp only [readOp, h1, h2]
  cases opd s x with
  | none => rfl
  | some v => simp only [h3]; cases i.desc <;> rfl
 have he : effOp T s (.convert a b x) = none := by
  simp only [effOp, h1, h2]
  cases opd s x with
  | none => rfl
  | some v => cases v <;> (try simp only [h3])
 rw [hr]
 cases hc : convIO k (opd s x) with
 | some v => rfl
 | none => simp only [mixO, he]; rfl
theorem places_eq {fs : Array Field} {l : List (Nat × Nat)} (h : fs.toList.mapM (fun (f : Field) => (T.t f.type).map fun fi => (f.offset, fi.size)) = some l) : places T fs = placesL l := by
 funext i
 unfold places placesL
 have key : ∀ (fl : List Field) (l : List (Nat × Nat)), fl.mapM (fun (f : Field) => (T.t f.type).map fun fi => (f.offset, fi.size)) = some l -> ∀ (i : Nat), (match fl[i]? with | some f => (match T.t f.type with | some fi => some (f.offset, fi.size) | none => none) | none => none) = l[i]? := by
  intro fl
  induction fl with
  | nil => intro l h i; simp at h; subst h; simp
  | cons f fl ih =>
   intro l h i
   rw [List.mapM_cons] at h
   cases ht : T.t f.type with
   | none => simp [ht] at h
   | some fi =>
    cases hm : fl.mapM (fun (f : Field) => (T.t f.type).map fun fi => (f.offset, fi.size)) with
    | none => simp [ht, hm] at h
    | some l' =>
     simp [ht, hm] at h
     subst h
     cases i with
     | zero => simp [ht]
     | succ i => simpa using ih l' hm i
 rw [<- key fs.toList l h i, Array.getElem?_toList]
 cases fs[i]? <;> rfl
def callG (T : Tab) (rec : Rec) (s : AS) (f : Nat) : Option (List AV) -> Option (AV × Tr AO × Nat)
 | some as => callF T rec s.md f as s.heap s.hs
 | none => none
end
section
variable {T : Tab}
def fin (T : Tab) (fi : FI) (x : AX) (s : AS) : Option (AV × Tr AO × Nat) :=
 match x with
 | .normal => (match shut s.heap s.defs with
  | some H' => (match resOf T { s with heap := H' } fi.results with
   | some l => some (one l, H', s.hs)
   | none => none)
  | none => none)
 | .ret => (match shut s.heap s.defs with
  | some H' => (match resOf T { s with heap := H' } fi.results with
   | some l => some (one l, H', s.hs)
   | none => none)
  | none => none)
 | _ => none
theorem bodyF_W {fi : FI} {m : Md} {args : List AV} {H : Tr AO} {hs : Nat} : bodyF (evw T) T fi m args H hs = W T none (fin T fi) fi.body [] ⟨putL .lf 0 args, max args.length fi.ntmps, H, hs, [], lmOf fi.lm m⟩ := by
 unfold bodyF W
 cases evw T none fi.body _ with
 | none => rfl
 | some p =>
  obtain ⟨x, s'⟩ := p
  cases x <;> rfl
theorem fin_ret {fi : FI} {s : AS} : fin T fi .ret s = fin T fi .normal s := rfl
theorem fin_nil {fi : FI} {t : Tr AV} {nt hs : Nat} {H : Tr AO} {lm : Md} : fin T fi .normal ⟨t, nt, H, hs, [], lm⟩ = (match resOf T ⟨t, nt, H, hs, [], lm⟩ fi.results with | some l => some (one l, H, hs) | none => none) := rfl
noncomputable def iso (T : Tab) (fi : FI) (m : Md) (args : List AV) : Option AV := isoF (evw T) T fi m args
theorem iso_of {fi : FI} {m : Md} {args : List AV} {v : AV} {H : Tr AO} {hs : Nat} (h : bodyF (evw T) T fi m args .lf 0 = some (v, H, hs)) (hv : bare v = true) : iso T fi m args = some (nrm v) := by
 unfold iso isoF frzR
 rw [h]
 simp only [hv, cond_true]
theorem callF_iso {m : Md} {f : Nat} {fi : FI} {args : List AV} {H : Tr AO} {hs : Nat} (hc : ∀ f args H hs, T.con f args H hs = none) (hf : T.f f = some fi) (hi : fi.iso = true) (hb : bares args = true) {v : AV} (h : iso T fi m (nrms args) = some v) (hsp : fi.spl = none := by rfl) :
  callF T (evw T) m f args H hs = some (v, H, hs) := by
 unfold callF
 rw [hc]
 simp only [hf, hi, hb, cond_true]
 unfold iso at h
 unfold isoX
 rw [hsp]
 simp only [h]
theorem callF_own {m : Md} {f : Nat} {fi : FI} {args bs : List AV} {H H1 : Tr AO} {hs : Nat} (hc : ∀ f args H hs, T.con f args H hs = none) (hf : T.f f = some fi) (hi : fi.iso = false) (ho : fi.own = true) (ha : (bif bares args then some (args, H) else frzL (frz T 300) fi.pts args H) = some (bs, H1)) (hb : bares bs = true) {v : AV} (h : isoO (evw T) T fi m (nrms bs) = some v) :
  callF T (evw T) m f args H hs = some (v, H, hs) := by
 unfold callF
 rw [hc]
 simp only [hf, hi, ho, cond_true, cond_false, ha, hb, h]
theorem own_of {fi : FI} {m : Md} {args : List AV} {v u : AV} {H : Tr AO} {hs : Nat} (h : bodyF (evw T) T fi m args .lf 0 = some (v, H, hs)) (hv : ownR T fi.rts v H = some u) : isoO (evw T) T fi m args = some u := by
 unfold isoO
 rw [h]
 exact hv
theorem callF_in {m : Md} {f : Nat} {fi : FI} {args : List AV} {H : Tr AO} {hs : Nat} (hc : ∀ f args H hs, T.con f args H hs = none) (hf : T.f f = some fi) (hi : fi.iso = false) (ho : fi.own = false) : callF T (evw T) m f args H hs = bodyF (evw T) T fi m args H hs := by
 unfold callF
 rw [hc]
 simp only [hf, hi, ho, cond_false]
theorem putL_nil {t : Tr AV} {i : Nat} : putL t i [] = t := rfl
theorem putL_cons {t : Tr AV} {i : Nat} {a : AV} {l : List AV} : putL t i (a :: l) = putL (t.put .any i a) (i + 1) l := rfl
theorem ofConst_int {k : IntKind} {n : Int} : ofConst (.int k n) = .lit (.int k n) := rfl
theorem ofConst_bool {b : Bool} : ofConst (.bool b) = .lit (.bool b) := rfl
theorem ofConst_str {a : Array UInt8} : ofConst (.string ⟨a⟩) = .str a.toList := rfl
theorem ofConst_ptr : ofConst (.pointer none) = .lit (.pointer none) := rfl
theorem ofConst_slice {a b : Nat} : ofConst (.slice none a b) = .lit (.slice none a b) := rfl
theorem ofConst_map : ofConst (.map none) = .lit (.map none) := rfl
theorem ofConst_agg {a : Array Value} : ofConst (.agg a) = .agg (a.toList.map scal) := rfl
theorem ofConst_nf : ofConst .nilFunc = .lit .nilFunc := rfl
theorem ofConst_ni : ofConst .nilIface = .lit .nilIface := rfl
theorem scal_int {k : IntKind} {n : Int} : scal (.int k n) = .lit (.int k n) := rfl
theorem scal_bool {b : Bool} : scal (.bool b) = .lit (.bool b) := rfl
theorem scal_str {a : Array UInt8} : scal (.string ⟨a⟩) = .str a.toList := rfl
theorem scal_slice {a b : Nat} : scal (.slice none a b) = .lit (.slice none a b) := rfl
theorem one_int {k : IntKind} {n : Int} : (Value.int k n).oneCell' = true := rfl
theorem one_bool {b : Bool} : (Value.bool b).oneCell' = true := rfl
theorem one_slice {a b : Nat} : (Value.slice none a b).oneCell' = true := rfl
theorem one_ptr : (Value.pointer none).oneCell' = true := rfl
theorem one_map : (Value.map none).oneCell' = true := rfl
theorem one_nf : (Value.nilFunc).oneCell' = true := rfl
theorem one_ni : (Value.nilIface).oneCell' = true := rfl
theorem b_add {t : Nat} {p q : Operand} {k : IntKind} {a b : Int} : binO T .add t p q (some (.lit (.int k a))) (some (.lit (.int k b))) = some (.lit (.int k (k.wrap (a + b)))) := by cases k <;> rfl
theorem b_sub {t : Nat} {p q : Operand} {k : IntKind} {a b : Int} : binO T .sub t p q (some (.lit (.int k a))) (some (.lit (.int k b))) = some (.lit (.int k (k.wrap (a - b)))) := by cases k <;> rfl
theorem b_mul {t : Nat} {p q : Operand} {k : IntKind} {a b : Int} : binO T .mul t p q (some (.lit (.int k a))) (some (.lit (.int k b))) = some (.lit (.int k (k.wrap (a * b)))) := by cases k <;> rfl
theorem b_lss {t : Nat} {p q : Operand} {k : IntKind} {a b : Int} : binO T .lss t p q (some (.lit (.int k a))) (some (.lit (.int k b))) = some (.lit (.bool (decide (a < b)))) := by cases k <;> rfl
theorem b_leq {t : Nat} {p q : Operand} {k : IntKind} {a b : Int} : binO T .leq t p q (some (.lit (.int k a))) (some (.lit (.int k b))) = some (.lit (.bool (decide (a <= b)))) := by cases k <;> rfl
theorem b_gtr {t : Nat} {p q : Operand} {k : IntKind} {a b : Int} : binO T .gtr t p q (some (.lit (.int k a))) (some (.lit (.int k b))) = some (.lit (.bool (decide (b < a)))) := by cases k <;> rfl
theorem b_geq {t : Nat} {p q : Operand} {k : IntKind} {a b : Int} : binO T .geq t p q (some (.lit (.int k a))) (some (.lit (.int k b))) = some (.lit (.bool (decide (b <= a)))) := by cases k <;> rfl
theorem b_eql {t : Nat} {p q : Operand} {k : IntKind} {a b : Int} : binO T .eql t p q (some (.lit (.int k a))) (some (.lit (.int k b))) = some (.lit (.bool (decide (a = b)))) := by cases k <;> rfl
theorem b_neq {t : Nat} {p q : Operand} {k : IntKind} {a b : Int} : binO T .neq t p q (some (.lit (.int k a))) (some (.lit (.int k b))) = some (.lit (.bool (!decide (a = b)))) := by cases k <;> rfl
theorem b_rem {t : Nat} {p q : Operand} {k : IntKind} {a b : Int} (h : b ≠ 0) : binO T .rem t p q (some (.lit (.int k a))) (some (.lit (.int k b))) = some (.lit (.int k (a.tmod b))) := by
 simp only [binO, binV, intBin, decide_true, cond_true, decide_eq_false h, cond_false]
theorem b_quo {t : Nat} {p q : Operand} {k : IntKind} {a b : Int} (h : b ≠ 0) : binO T .quo t p q (some (.lit (.int k a))) (some (.lit (.int k b))) = some (.lit (.int k (k.wrap (a.tdiv b)))) := by
 simp only [binO, binV, intBin, decide_true, cond_true, decide_eq_false h, cond_false]
theorem b_shr {t : Nat} {p q : Operand} {k j : IntKind} {a b : Int} (h : 0 <= b) : binO T .shr t p q (some (.lit (.int k a))) (some (.lit (.int j b))) = some (.lit (.int k (a.fdiv (2 ^ (min b.toNat k.bits))))) := by
 have : decide (b < 0) = false := by simp; omega
 simp only [binO, binV, shiftBin, this, cond_false]
theorem b_shl {t : Nat} {p q : Operand} {k j : IntKind} {a b : Int} (h : 0 <= b) : binO T .shl t p q (some (.lit (.int k a))) (some (.lit (.int j b))) = some (.lit (.int k (k.wrap (a * 2 ^ (min b.toNat k.bits))))) := by
 have : decide (b < 0) = false := by simp; omega
 simp only [binO, binV, shiftBin, this, cond_false]
theorem b_seql {t : Nat} {p q : Operand} {a b : List UInt8} : binO T .eql t p q (some (.str a)) (some (.str b)) = some (.lit (.bool (a == b))) := rfl
theorem b_sneq {t : Nat} {p q : Operand} {a b : List UInt8} : binO T .neq t p q (some (.str a)) (some (.str b)) = some (.lit (.bool !(a == b))) := rfl
theorem b_slss {t : Nat} {p q : Operand} {a b : List UInt8} : binO T .lss t p q (some (.str a)) (some (.str b)) = some (.lit (.bool (Op.bytesLess a b))) := rfl
theorem b_sadd {t : Nat} {p q : Operand} {a b : List UInt8} (h : a.length + b.length <= 9223372036854775807) : binO T .add t p q (some (.str a)) (some (.str b)) = some (.str (a ++ b)) := by
 simp only [binO, binV, strBin]
 rw [show Nat.ble (a.length + b.length) 9223372036854775807 = true from ble_le.2 h, cond_true]
end
end Go.Proofs.YtcledcfeddlomaaGreatDoor.Ev
