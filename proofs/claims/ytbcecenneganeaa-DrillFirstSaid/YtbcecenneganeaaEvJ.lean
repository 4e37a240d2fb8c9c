import Derived.Test.YtbcecenneganeaaEvK
set_option linter.all false
namespace Go.Proofs.Ytbcecenneganeaa.Ev
open Go.RowKit

section
variable {T : Tab} {rec : Rec} {D : DI} {k : Nat} {q : JS} {o : Oper} {rv : List (Nat × AV)}

noncomputable def JR (T : Tab) (rec : Rec) (D : DI) (k : Nat) (q : JS) : Option JS := jrun T rec D (D.ops.toList.drop k) k q
noncomputable def J1 (T : Tab) (rec : Rec) (D : DI) (k : Nat) : Option JS → Option JS
  | some q => JR T rec D k q
  | none => none
theorem J1_some : J1 T rec D k (some q) = JR T rec D k q := rfl

def wantO (w : Bool) : AV → Option Bool
  | .lit (.bool b) => some (b == w)
  | .tup [] => some false
  | _ => none
theorem wantO_bool {w b : Bool} : wantO w (.lit (.bool b)) = some (b == w) := rfl
theorem wantO_udef {w : Bool} : wantO w udef = some false := rfl
/-- A guarded operation that doesn't write. -/
def jg (q : JS) (i : Nat) (e : Option AV) : Option Bool → Option JS
  | none => none
  | some true => jput q i e
  | some false => jput q i (some udef)
def jge (q : JS) (i : Nat) (rv : List (Nat × AV)) (e : Option (AV × Tr AO × Nat)) : Option Bool → Option JS
  | none => none
  | some true => jeff q i rv e
  | some false => jeff q i rv (some (udef, q.H, q.hs))

theorem jr_any (ho : D.ops.toList[k]? = some o) (hrv : rvals D q.vals k (readsOf D.ops o) = some rv) {q' : Option JS} (hj : jgo T rec k o q rv (stOf D rv q.H q.hs) (wantd (stOf D rv q.H q.hs) D.ops o) = q') : JR T rec D k q = J1 T rec D (k + 1) q' := by
  subst hj
  obtain ⟨hlt, ho'⟩ := List.getElem?_eq_some_iff.1 ho
  unfold JR
  rw [List.drop_eq_getElem_cons hlt, ho']
  simp only [jrun, jstep, hrv]
  cases jgo T rec k o q rv (stOf D rv q.H q.hs) (wantd (stOf D rv q.H q.hs) D.ops o) <;> rfl
theorem jr_plain (ho : D.ops.toList[k]? = some o) (hg : o.guard = none) (hc : Nat.beq (cls o.op) 3 = false) (hrv : rvals D q.vals k (readsOf D.ops o) = some rv) {e : Option AV} (he : nonEff T (stOf D rv q.H q.hs) q.H o.op = e) :
    JR T rec D k q = J1 T rec D (k + 1) (jput q k e) := by
  subst he
  refine jr_any ho hrv ?_
  simp only [wantd, hg, jgo, hc, cond_false]
theorem jr_eff (ho : D.ops.toList[k]? = some o) (hg : o.guard = none) (hc : Nat.beq (cls o.op) 3 = true) (hrv : rvals D q.vals k (readsOf D.ops o) = some rv) {e : Option (AV × Tr AO × Nat)} (he : actOp T rec (stOf D rv q.H q.hs) o.op = e) :
    JR T rec D k q = J1 T rec D (k + 1) (jeff q k rv e) := by
  subst he
  refine jr_any ho hrv ?_
  simp only [wantd, hg, jgo, hc, cond_true]
theorem jr_gplain {w : Option Bool} (ho : D.ops.toList[k]? = some o) (hc : Nat.beq (cls o.op) 3 = false) (hrv : rvals D q.vals k (readsOf D.ops o) = some rv) {e : Option AV} (he : nonEff T (stOf D rv q.H q.hs) q.H o.op = e) (hw : wantd (stOf D rv q.H q.hs) D.ops o = w) :
    JR T rec D k q = J1 T rec D (k + 1) (jg q k e w) := by
  subst he; subst hw
  refine jr_any ho hrv ?_
  cases wantd (stOf D rv q.H q.hs) D.ops o with
  | none => rfl
  | some b => cases b <;> simp only [jgo, hc, cond_false, jg]
theorem jr_geff {w : Option Bool} (ho : D.ops.toList[k]? = some o) (hc : Nat.beq (cls o.op) 3 = true) (hrv : rvals D q.vals k (readsOf D.ops o) = some rv) {e : Option (AV × Tr AO × Nat)} (he : actOp T rec (stOf D rv q.H q.hs) o.op = e) (hw : wantd (stOf D rv q.H q.hs) D.ops o = w) :
    JR T rec D k q = J1 T rec D (k + 1) (jge q k rv e w) := by
  subst he; subst hw
  refine jr_any ho hrv ?_
  cases wantd (stOf D rv q.H q.hs) D.ops o with
  | none => rfl
  | some b => cases b <;> simp only [jgo, hc, cond_true, jge]
theorem jr_end (h : D.ops.toList.length = k) : JR T rec D k q = some q := by
  subst h
  unfold JR
  rw [List.drop_length]; rfl

theorem jput_some {i : Nat} {v : AV} {V : Tr AV} {H : Tr AO} {hs : Nat} {hps : List (Tr AO × Nat)} {fs : List EffR} : jput ⟨V, H, hs, hps, fs⟩ i (some v) = some ⟨V.put .any i v, H, hs, hps, fs⟩ := rfl
theorem jeff_some {i : Nat} {v : AV} {V : Tr AV} {H H' : Tr AO} {hs hs' : Nat} {hps : List (Tr AO × Nat)} {fs : List EffR} : jeff ⟨V, H, hs, hps, fs⟩ i rv (some (v, H', hs')) = some ⟨V.put .any i v, H', hs', hps ++ [(H', hs')], fs ++ [⟨i, rv, v⟩]⟩ := rfl
theorem jg_true {i : Nat} {e : Option AV} : jg q i e (some true) = jput q i e := rfl
theorem jg_false {i : Nat} {e : Option AV} : jg q i e (some false) = jput q i (some udef) := rfl
theorem jge_true {i : Nat} {e : Option (AV × Tr AO × Nat)} : jge q i rv e (some true) = jeff q i rv e := rfl
theorem jge_false {i : Nat} {e : Option (AV × Tr AO × Nat)} : jge q i rv e (some false) = jeff q i rv (some (udef, q.H, q.hs)) := rfl

/-! What an operation comes to -/
theorem ne_pure {s : AS} {H : Tr AO} {op : Op} (h : cls op = 0) : nonEff T s H op = pureOp T s op := by simp only [nonEff, prOp, h]; rfl
theorem ne_read {s : AS} {H : Tr AO} {op : Op} (h : cls op = 1) : nonEff T s H op = readOp T s H op := by simp only [nonEff, prOp, h]; rfl
def deadO : Option (AO × AV) → Option AV
  | some (.dead, v) => some v
  | _ => none
theorem ne_dead {s : AS} {H : Tr AO} {op : Op} (h : cls op = 2) : nonEff T s H op = deadO (newOp T s 0 op) := by
  simp only [nonEff, h]
  show (match newOp T s 0 op with | some (.dead, v) => some v | _ => none) = _
  cases newOp T s 0 op with
  | none => rfl
  | some p => obtain ⟨A, v⟩ := p; cases A <;> rfl
theorem ne_mix {s : AS} {H : Tr AO} {op : Op} (h : cls op = 4) : nonEff T s H op = (match pureOp T s op with | some v => some v | none => readOp T s H op) := by simp only [nonEff, prOp, h]; rfl
theorem ac_call {s : AS} {f : Operand} {as : Array Operand} {ts : Array TypeId} : actOp T rec s (.call ⟨.value f, as, ts⟩) = callO T rec s (opd s f) (opds s as.toList) := by
  simp only [actOp, callO]
  cases opd s f <;> cases opds s as.toList <;> rfl

theorem ac_store {s : AS} {t : TypeId} {a x : Operand} : actOp T rec s (.store t a x) = effOp T s (.store t a x) := rfl
theorem ac_mapUpdate {s : AS} {t : TypeId} {m k x : Operand} : actOp T rec s (.mapUpdate t m k x) = effOp T s (.mapUpdate t m k x) := rfl
theorem ac_append {s : AS} {as : Array Operand} {ts : Array TypeId} : actOp T rec s (.call ⟨.builtin .append, as, ts⟩) = effOp T s (.call ⟨.builtin .append, as, ts⟩) := rfl

/-! The looks -/
def vchk (w : AV) : Option AV → Bool
  | some v => same 20 v w
  | none => false
def dchk (w : AV) : Option (AO × AV) → Bool
  | some (.dead, v) => same 20 v w
  | _ => false
def hchk (lo hi : Nat) (f : Tr AO → Option AV) (w : AV) : List (Tr AO × Nat) → Nat → Bool
  | [], _ => true
  | h :: l, k => (!within_ lo hi k || vchk w (f h.1)) && hchk lo hi f w l (k + 1)
def gchk (u : AV) (c : Bool) : Option Bool → Bool
  | none => false
  | some true => c
  | some false => same 20 u udef

noncomputable def CA (T : Tab) (D : DI) (hps : List (Tr AO × Nat)) (V : Tr AV) (k : Nat) : Bool := chkAll T D (lays hps) V .lf .lf (D.ops.toList.drop k) k

variable {hps : List (Tr AO × Nat)} {V : Tr AV}

theorem ca_end (h : D.ops.toList.length = k) : CA T D hps V k = true := by
  subst h; unfold CA; rw [List.drop_length]; rfl
theorem ca_any (ho : D.ops.toList[k]? = some o) {c : Bool} (hc : (bif Nat.beq (cls o.op) 3 then D.es.contains k else chkOp T D (lays hps) V .lf .lf k o && !D.es.contains k) = c) : CA T D hps V k = (c && CA T D hps V (k + 1)) := by
  subst hc
  obtain ⟨hlt, ho'⟩ := List.getElem?_eq_some_iff.1 ho
  unfold CA
  rw [List.drop_eq_getElem_cons hlt, ho']
  simp only [chkAll]
  cases Nat.beq (cls o.op) 3 with
  | true => rfl
  | false => simp only [cond_false]; rw [show (Tr.lf : Tr Nat).get 0 k = 0 from rfl]; simp only [Bool.and_true]
theorem ca_eff (ho : D.ops.toList[k]? = some o) (h3 : Nat.beq (cls o.op) 3 = true) (hm : D.es.contains k = true) : CA T D hps V k = CA T D hps V (k + 1) := by
  rw [ca_any ho rfl, h3, cond_true, hm, Bool.true_and]

/-- The looks at one operation that doesn't write, but for what it comes to. -/
theorem ca_op {w : Option Bool} (ho : D.ops.toList[k]? = some o) (h3 : Nat.beq (cls o.op) 3 = false) (hm : D.es.contains k = false) (hrv : rvals D V k (readsOf D.ops o) = some rv)
    (hb : ((Nat.beq (loOf D k) 0 || (match D.es[loOf D k - 1]? with | some e => (D.ms.get 0 k).testBit e | none => false)) &&
      (match D.es[hiOf D k]? with | some e => (D.ms.get 0 e).testBit k | none => Nat.beq (hiOf D k) D.es.length)) = true) (hw : wantd (stOf D rv .lf 0) D.ops o = w) {c : Bool}
    (hc : (bif Nat.beq (cls o.op) 2 then dchk (V.get .any k) (newOp T (stOf D rv .lf 0) 0 o.op) else (match cls o.op with
      | 0 => vchk (V.get .any k) (pureOp T (stOf D rv .lf 0) o.op)
      | _ => hchk (loOf D k) (hiOf D k) (fun H => prOp T (stOf D rv .lf 0) H o.op) (V.get .any k) hps 0)) = c) : CA T D hps V k = (gchk (V.get .any k) c w && CA T D hps V (k + 1)) := by
  subst hc; subst hw
  rw [ca_any ho rfl, h3, cond_false, hm]
  congr 1
  simp only [Bool.not_false, Bool.and_true]
  have hall : ∀ (f : Tr AO → Option AV) (lo hi : Nat) (u : AV) (l : List (Tr AO × Nat)) (i : Nat), allLay (fun k H _ => !within_ lo hi k || (match f H with | some v => same 20 v u | none => false)) (lays l) i = hchk lo hi f u l i := by
    intro f lo hi u l
    induction l with
    | nil => intro i; rfl
    | cons h l ih =>
      intro i
      show ((!within_ lo hi i || (match f h.1 with | some v => same 20 v u | none => false)) && allLay _ (lays l) (i + 1)) = _
      rw [ih]
      simp only [hchk, vchk]
  unfold chkOp
  simp only [hrv]
  rw [Bool.and_eq_true] at hb
  have key : ∀ (a b c d : Bool), a = true → b = true → c = d → (a && b && c) = d := by
    intro a b c d h1 h2 h3; rw [h1, h2, h3]; rfl
  refine key _ _ _ _ hb.1 hb.2 ?_
  have ha : (Tr.lf : Tr Nat).get 0 k = 0 := rfl
  cases hwd : wantd (stOf D rv .lf 0) D.ops o with
  | none => rfl
  | some b =>
    cases b with
    | false =>
      simp only [gchk, ha]
      rw [show Nat.beq 0 0 = true from rfl, Bool.and_true]
    | true =>
      simp only [gchk, ha]
      cases hc2 : Nat.beq (cls o.op) 2 with
      | true =>
        simp only [cond_true]
        cases newOp T (stOf D rv .lf 0) 0 o.op with
        | none => rfl
        | some p => obtain ⟨A, v⟩ := p; cases A <;> rfl
      | false =>
        simp only [cond_false]
        rw [show Nat.beq 0 0 = true from rfl, Bool.true_and]
        rcases hcl : cls o.op with _ | n
        · simp only [vchk]
          cases pureOp T (stOf D rv .lf 0) o.op <;> rfl
        · simp only
          exact hall (fun H => prOp T (stOf D rv .lf 0) H o.op) _ _ _ _ _

/-- What is known of the places of an operation that doesn't write. -/
def hbB (ms : Tr Nat) (es : List Nat) (k : Nat) : Bool :=
  let D : DI := ⟨#[], ms, .lf, es, ⟨.lf, 0, .lf, 0, [], true⟩⟩
  !es.contains k && ((Nat.beq (loOf D k) 0 || (match es[loOf D k - 1]? with | some e => (ms.get 0 k).testBit e | none => false)) &&
      (match es[hiOf D k]? with | some e => (ms.get 0 e).testBit k | none => Nat.beq (hiOf D k) es.length))

theorem ca_op' {w : Option Bool} (ho : D.ops.toList[k]? = some o) (h3 : Nat.beq (cls o.op) 3 = false) (hrv : rvals D V k (readsOf D.ops o) = some rv) (hb : hbB D.ms D.es k = true) (hw : wantd (stOf D rv .lf 0) D.ops o = w) {c : Bool}
    (hc : (bif Nat.beq (cls o.op) 2 then dchk (V.get .any k) (newOp T (stOf D rv .lf 0) 0 o.op) else (match cls o.op with
      | 0 => vchk (V.get .any k) (pureOp T (stOf D rv .lf 0) o.op)
      | _ => hchk (loOf D k) (hiOf D k) (fun H => prOp T (stOf D rv .lf 0) H o.op) (V.get .any k) hps 0)) = c) : CA T D hps V k = (gchk (V.get .any k) c w && CA T D hps V (k + 1)) := by
  unfold hbB at hb
  rw [Bool.and_eq_true] at hb
  exact ca_op ho h3 (by simpa using hb.1) hrv hb.2 hw hc

theorem wantd_none {s : AS} {ops : Array Oper} (h : o.guard = none) : wantd s ops o = some true := by simp only [wantd, h]
theorem ca_p (ho : D.ops.toList[k]? = some o) (hg : o.guard = none) (h0 : cls o.op = 0) (hrv : rvals D V k (readsOf D.ops o) = some rv) (hb : hbB D.ms D.es k = true) {e : Option AV} (hv : pureOp T (stOf D rv .lf 0) o.op = e) : CA T D hps V k = (vchk (V.get .any k) e && CA T D hps V (k + 1)) := by
  subst hv
  exact ca_op' ho (by rw [h0]; rfl) hrv hb (wantd_none hg) (by rw [h0]; rfl)
theorem ca_pg {w : Option Bool} (ho : D.ops.toList[k]? = some o) (hw : wantd (stOf D rv .lf 0) D.ops o = w) (h0 : cls o.op = 0) (hrv : rvals D V k (readsOf D.ops o) = some rv) (hb : hbB D.ms D.es k = true) {e : Option AV} (hv : pureOp T (stOf D rv .lf 0) o.op = e) : CA T D hps V k = (gchk (V.get .any k) (vchk (V.get .any k) e) w && CA T D hps V (k + 1)) := by
  subst hv
  exact ca_op' ho (by rw [h0]; rfl) hrv hb hw (by rw [h0]; rfl)
theorem ca_d (ho : D.ops.toList[k]? = some o) (hg : o.guard = none) (h0 : cls o.op = 2) (hrv : rvals D V k (readsOf D.ops o) = some rv) (hb : hbB D.ms D.es k = true) {e : Option (AO × AV)} (hv : newOp T (stOf D rv .lf 0) 0 o.op = e) : CA T D hps V k = (dchk (V.get .any k) e && CA T D hps V (k + 1)) := by
  subst hv
  exact ca_op' ho (by rw [h0]; rfl) hrv hb (wantd_none hg) (by rw [h0]; rfl)
theorem ca_dg {w : Option Bool} (ho : D.ops.toList[k]? = some o) (hw : wantd (stOf D rv .lf 0) D.ops o = w) (h0 : cls o.op = 2) (hrv : rvals D V k (readsOf D.ops o) = some rv) (hb : hbB D.ms D.es k = true) {e : Option (AO × AV)} (hv : newOp T (stOf D rv .lf 0) 0 o.op = e) : CA T D hps V k = (gchk (V.get .any k) (dchk (V.get .any k) e) w && CA T D hps V (k + 1)) := by
  subst hv
  exact ca_op' ho (by rw [h0]; rfl) hrv hb hw (by rw [h0]; rfl)
theorem ca_h (ho : D.ops.toList[k]? = some o) (hg : o.guard = none) {n : Nat} (h0 : cls o.op = n) (hn : (Nat.beq n 1 || Nat.beq n 4) = true) (hrv : rvals D V k (readsOf D.ops o) = some rv) (hb : hbB D.ms D.es k = true) {lo hi : Nat} (hlo : loOf D k = lo) (hhi : hiOf D k = hi) {f : Tr AO → Option AV} (hv : ∀ H, nonEff T (stOf D rv .lf 0) H o.op = f H) :
    CA T D hps V k = (hchk lo hi f (V.get .any k) hps 0 && CA T D hps V (k + 1)) := by
  have hf : (fun H => prOp T (stOf D rv .lf 0) H o.op) = f := by
    funext H; rw [← hv H]; unfold nonEff
    rw [Bool.or_eq_true] at hn
    rcases hn with h | h <;> (have := Nat.eq_of_beq_eq_true h; subst this; rw [h0]; rfl)
  subst hlo; subst hhi; subst hf
  rw [Bool.or_eq_true] at hn
  rcases hn with h | h <;> (have := Nat.eq_of_beq_eq_true h; subst this)
  · exact ca_op' ho (by rw [h0]; rfl) hrv hb (wantd_none hg) (by rw [h0]; rfl)
  · exact ca_op' ho (by rw [h0]; rfl) hrv hb (wantd_none hg) (by rw [h0]; rfl)
theorem ca_hg {w : Option Bool} (ho : D.ops.toList[k]? = some o) (hw : wantd (stOf D rv .lf 0) D.ops o = w) {n : Nat} (h0 : cls o.op = n) (hn : (Nat.beq n 1 || Nat.beq n 4) = true) (hrv : rvals D V k (readsOf D.ops o) = some rv) (hb : hbB D.ms D.es k = true) {lo hi : Nat} (hlo : loOf D k = lo) (hhi : hiOf D k = hi) {f : Tr AO → Option AV} (hv : ∀ H, nonEff T (stOf D rv .lf 0) H o.op = f H) :
    CA T D hps V k = (gchk (V.get .any k) (hchk lo hi f (V.get .any k) hps 0) w && CA T D hps V (k + 1)) := by
  have hf : (fun H => prOp T (stOf D rv .lf 0) H o.op) = f := by
    funext H; rw [← hv H]; unfold nonEff
    rw [Bool.or_eq_true] at hn
    rcases hn with h | h <;> (have := Nat.eq_of_beq_eq_true h; subst this; rw [h0]; rfl)
  subst hlo; subst hhi; subst hf
  rw [Bool.or_eq_true] at hn
  rcases hn with h | h <;> (have := Nat.eq_of_beq_eq_true h; subst this)
  · exact ca_op' ho (by rw [h0]; rfl) hrv hb hw (by rw [h0]; rfl)
  · exact ca_op' ho (by rw [h0]; rfl) hrv hb hw (by rw [h0]; rfl)

theorem ce_cons {e : Nat} {rv rv' : List (Nat × AV)} {v : AV} {fs : List EffR} {es : List Nat} (ho : D.ops[e]? = some o) (hrv : rvals D V e (readsOf D.ops o) = some rv') : chkEff D V .lf (⟨e, rv, v⟩ :: fs) (e :: es) = (same 20 v (V.get .any e) && sameRV rv rv' && chkEff D V .lf fs es) := by
  simp only [chkEff, ho, hrv]
  rw [Nat.beq_refl, show (Tr.lf : Tr Nat).get 0 e = 0 from rfl, show Nat.beq 0 0 = true from rfl]
  simp only [Bool.true_and, Bool.and_true]
theorem ce_nil : chkEff D V .lf [] [] = true := rfl

/-- The end of a region of open order. -/
noncomputable def JE (T : Tab) (D : DI) (t : Tr AV) (nt : Nat) (ds : List Nat) : Option JS → Option (AX × AS)
  | some q => bif chkEff D q.vals .lf q.fs D.es && CA T D q.hps q.vals 0 then some (.normal, ⟨putsD q.vals D.ops.toList 0 t, nt, q.H, q.hs, ds, true⟩) else none
  | none => none
theorem JE_some {t : Tr AV} {nt : Nat} {ds : List Nat} : JE T D t nt ds (some q) = bif chkEff D q.vals .lf q.fs D.es && CA T D q.hps q.vals 0 then some (.normal, ⟨putsD q.vals D.ops.toList 0 t, nt, q.H, q.hs, ds, true⟩) else none := rfl

theorem evDr_J {ops : Array Oper} {ms wt : Tr Nat} {es : List Nat} {t : Tr AV} {nt : Nat} {H : Tr AO} {hs : Nat} {ds : List Nat} (h1 : masks ops.toList 0 .lf = some ms) (h2 : writers ops.toList 0 .lf = some wt) (h3 : effIdx ops.toList 0 = es) (h4 : (useJ true ops.toList && chain ms es && dstsOk nt ops.toList) = true) :
    evDr T rec ops ⟨t, nt, H, hs, ds, true⟩ = JE T ⟨ops, ms, wt, es, ⟨t, nt, H, hs, ds, true⟩⟩ t nt ds (JR T rec ⟨ops, ms, wt, es, ⟨t, nt, H, hs, ds, true⟩⟩ 0 ⟨.lf, H, hs, [(H, hs)], []⟩) := by
  subst h3
  simp only [Bool.and_eq_true] at h4
  unfold evDr
  simp only [h4.1.1, cond_true]
  unfold evDrawJ
  simp only [h1, h2, JR, List.drop_zero]
  cases jrun T rec ⟨ops, ms, wt, effIdx ops.toList 0, ⟨t, nt, H, hs, ds, true⟩⟩ ops.toList 0 ⟨.lf, H, hs, [(H, hs)], []⟩ with
  | none => rfl
  | some q => simp only [h4.1.2, h4.2, Bool.true_and, JE, CA, List.drop_zero]

theorem putsD_n {vals : Tr AV} {i : Nat} {t : Tr AV} : putsD vals [] i t = t := rfl
end

section
variable {T : Tab} {s : AS} {H : Tr AO}
theorem v_lenS {t : TypeId} {x : Operand} {ti : TI} (h1 : T.t t = some ti) (h2 : ti.desc = .string) : (match pureOp T s (.call ⟨.builtin .len, #[x], #[t]⟩) with | some v => some v | none => readOp T s H (.call ⟨.builtin .len, #[x], #[t]⟩)) = lenSO (opd s x) := by
  have hp : pureOp T s (.call ⟨.builtin .len, #[x], #[t]⟩) = lenSO (opd s x) := by
    simp only [pureOp, h1]
    cases opd s x with
    | none => rfl
    | some v => cases v with
      | lit w => cases w with
        | slice p n c => cases p <;> first | rfl | (simp only [h2]; done) | (simp only [h2]; rfl)
        | _ => rfl
      | _ => first | rfl | (simp only [h2]; done) | (simp only [h2]; rfl)
  have hr : readOp T s H (.call ⟨.builtin .len, #[x], #[t]⟩) = none := by
    simp only [readOp, h1]
    cases opd s x with
    | none => rfl
    | some v => cases v with
      | lit w => cases w with
        | map p => cases p <;> first | rfl | (simp only [h2]; done) | (simp only [h2]; rfl)
        | _ => rfl
      | mp o => simp only [h2]
      | _ => first | rfl | (simp only [h2]; done) | (simp only [h2]; rfl)
  rw [hp, hr]
  cases lenSO (opd s x) <;> rfl
theorem v_lenL {t e : TypeId} {x : Operand} {ti : TI} (h1 : T.t t = some ti) (h2 : ti.desc = .slice e) : (match pureOp T s (.call ⟨.builtin .len, #[x], #[t]⟩) with | some v => some v | none => readOp T s H (.call ⟨.builtin .len, #[x], #[t]⟩)) = lenLO (opd s x) := by
  have hp : pureOp T s (.call ⟨.builtin .len, #[x], #[t]⟩) = lenLO (opd s x) := by
    simp only [pureOp, h1]
    cases opd s x with
    | none => rfl
    | some v => cases v with
      | lit w => cases w with
        | slice p n c => cases p <;> first | rfl | (simp only [h2]; done) | (simp only [h2]; rfl)
        | _ => rfl
      | _ => first | rfl | (simp only [h2]; done) | (simp only [h2]; rfl)
  have hr : readOp T s H (.call ⟨.builtin .len, #[x], #[t]⟩) = none := by
    simp only [readOp, h1]
    cases opd s x with
    | none => rfl
    | some v => cases v with
      | lit w => cases w with
        | map p => cases p <;> first | rfl | (simp only [h2]; done) | (simp only [h2]; rfl)
        | _ => rfl
      | mp o => simp only [h2]
      | _ => first | rfl | (simp only [h2]; done) | (simp only [h2]; rfl)
  rw [hp, hr]
  cases lenLO (opd s x) <;> rfl
theorem v_convI {a b : TypeId} {x : Operand} {i j : TI} {k : IntKind} (h1 : T.t a = some i) (h2 : T.t b = some j) (h3 : j.desc = .int k) : (match pureOp T s (.convert a b x) with | some v => some v | none => readOp T s H (.convert a b x)) = convIO k (opd s x) := by
  rw [u_conv h1 h2 h3]
  have hr : readOp T s H (.convert a b x) = none := by
    simp only [readOp, h1, h2]
    cases opd s x with
    | none => rfl
    | some v => simp only [h3]; cases i.desc <;> rfl
  rw [hr]
  cases convIO k (opd s x) <;> rfl
end

theorem s20_int {k : IntKind} {a : Int} : same 20 (.lit (.int k a)) (.lit (.int k a)) = true := by simp [same, valSame]
theorem s20_bool {a : Bool} : same 20 (.lit (.bool a)) (.lit (.bool a)) = true := by simp [same, valSame]
theorem s20_str {l : List UInt8} : same 20 (.str l) (.str l) = true := by simp [same]
theorem s20_ptr {o k : Nat} : same 20 (.ptr o k) (.ptr o k) = true := by simp [same, Nat.beq_refl]
theorem s20_pn : same 20 (.lit (.pointer none)) (.lit (.pointer none)) = true := rfl
theorem s20_mn : same 20 (.lit (.map none)) (.lit (.map none)) = true := rfl
theorem s20_sn {a b : Nat} : same 20 (.lit (.slice none a b)) (.lit (.slice none a b)) = true := by simp [same, valSame, Nat.beq_refl]
theorem s20_udef : same 20 udef udef = true := rfl
theorem s20_mp {o : Nat} : same 20 (.mp o) (.mp o) = true := by simp [same, Nat.beq_refl]
/-- Surely one with itself, however deep it is asked from. -/
def okS (a : AV) : Prop := ∀ n, 12 ≤ n → same n a a = true
theorem tkSame_refl (t : ATk) : tkSame t t = true := by cases t <;> simp [tkSame, Nat.beq_refl]
theorem go_refl {n : Nat} : ∀ {l : List AV}, (∀ x ∈ l, same n x x = true) → same.go n l l = true
  | [], _ => rfl
  | x :: l, h => by
    have h1 := h x (by simp)
    have h2 := go_refl (l := l) fun y hy => h y (by simp [hy])
    simp only [same.go, h1, h2, Bool.and_self]
theorem s20_lst {t : ATk} {l : List AV} (h : ∀ x ∈ l, same 19 x x = true) : same 20 (.lst t l) (.lst t l) = true := by simp [same, tkSame_refl, go_refl h]
theorem s20_eptr {l : List AV} (h : ∀ x ∈ l, same 19 x x = true) : same 20 (.eptr l) (.eptr l) = true := by simp [same, go_refl h]
theorem s20_agg {l : List AV} (h : ∀ x ∈ l, same 19 x x = true) : same 20 (.agg l) (.agg l) = true := by simp [same, go_refl h]
theorem s20_tup {l : List AV} (h : ∀ x ∈ l, same 19 x x = true) : same 20 (.tup l) (.tup l) = true := by simp [same, go_refl h]

end Go.Proofs.Ytbcecenneganeaa.Ev
