import Derived.Test.YtcledcfeddlomaaGreatDoorEv4
import Derived.OrdersIn
import Derived.Laws.Strings
import Derived.Laws.StructEq
import Derived.Laws.Tables
set_option linter.all false
namespace Go.Proofs.YtcledcfeddlomaaGreatDoor.Ev
open Go.RowKit
structure TOk (P : Program) (T : Tab) : Prop where
 ty : ∀ t i, T.t t = some i -> P.underlying t = some i.desc /\ (∃ inf, P.info? t = some inf /\ inf.size = i.size /\ inf.bytes = i.bytes /\ ∃ z, inf.zero = some z /\ ∀ β, VR β i.zero z) /\
  (i.plain = true -> P.stoodInHeld t = false /\ P.eqGuardType P.depth t = false)
 fn : ∀ f i, T.f f = some i -> ∃ fn, P.funcs[f]? = some fn /\ fn.body = some i.body /\ fn.ntmps = i.ntmps /\ fn.results.toList = i.results /\ fn.name ≠ "runtime.NumGoroutine"
 mixed : P.follows .mixedOrders = true
 cmp : ∀ t i, T.t t = some i -> i.comp = true -> ∀ inf, P.info? t = some inf -> inf.comparable = true
structure FR (β : Env) (s : AS) (a : Act) : Prop where
 size : a.tmps.size = s.nt
 get : ∀ i, i < s.nt -> VR β (s.tmps.get .any i) (a.tmps.getD i undef)
 gl : GlOk β s.md.gl
theorem FR.mono {β β' : Env} (h : β.le β') {s : AS} {a : Act} (hf : FR β s a) : FR β' s a := ⟨hf.size, fun i hi => (hf.get i hi).mono h, hf.gl.mono h⟩
theorem VR.scal (β : Env) (v : Value) : VR β (scal v) v := by
 cases v with
 | string b => exact VR.str b.data.toList
 | _ => exact VR.lit _
theorem VRs.scal (β : Env) : ∀ (l : List Value), VRs β (l.map scal) l
 | [] => .nil
 | v :: l => .cons _ _ _ _ (VR.scal β v) (VRs.scal β l)
theorem VR.const (β : Env) (v : Value) : VR β (ofConst v) v := by
 cases v with
 | agg cs => exact VR.agg _ cs.toList (VRs.scal β _)
 | string b => exact VR.scal β (.string b)
 | _ => exact VR.lit _
theorem udef_rel (β : Env) : VR β udef undef := VR.tup [] [] .nil
theorem opd_rel {β : Env} {s : AS} {a : Act} (h : FR β s a) {x : Operand} {v : AV} (hx : opd s x = some v) : VR β v (a.eval x) := by
 cases x with
 | tmp t =>
  simp only [opd] at hx
  cases hb : Nat.blt t s.nt with
  | false => rw [hb] at hx; cases hx
  | true =>
   rw [hb, cond_true] at hx; cases hx
   exact h.get t (by simpa [Nat.blt_eq] using hb)
 | const c => simp only [opd] at hx; cases hx; exact VR.const β c
 | func f => simp only [opd] at hx; cases hx; exact VR.fn (.func f) [] [] [] [] .nil .nil
 | global g => exact (h.gl g v hx).1.mono β.al_le
theorem opds_rel {β : Env} {s : AS} {a : Act} (h : FR β s a) : ∀ {l : List Operand} {vs : List AV}, opds s l = some vs -> VRs β vs (l.map a.eval)
 | [], vs, hx => by simp [opds] at hx; subst hx; exact .nil
 | x :: l, vs, hx => by
  simp only [opds] at hx
  cases h1 : opd s x with
  | none => simp [h1] at hx
  | some v =>
   cases h2 : opds s l with
   | none => simp [h1, h2] at hx
   | some ws =>
    simp [h1, h2] at hx; subst hx
    exact .cons _ _ _ _ (opd_rel h h1) (opds_rel h h2)
section types
variable {P : Program} {T : Tab} (hT : TOk P T) {t : Nat} {i : TI} (h : T.t t = some i) (W : World)
include hT h
theorem run_und : (underlying t).run P W = .ok i.desc W := by simp [underlying, (hT.ty t i h).1]
theorem run_size : (sizeOf t).run P W = .ok i.size W := by
 obtain ⟨inf, h1, h2, _⟩ := (hT.ty t i h).2.1
 simp [sizeOf, typeInfo, h1, h2]
theorem run_info : ∃ inf, (typeInfo t).run P W = .ok inf W /\ inf.bytes = i.bytes := by
 obtain ⟨inf, h1, _, h3, _⟩ := (hT.ty t i h).2.1
 exact ⟨inf, by simp [typeInfo, h1], h3⟩
theorem run_zero : ∃ z, (zeroValue t).run P W = .ok z W /\ ∀ β, VR β i.zero z := by
 obtain ⟨inf, h1, _, _, z, hz, hr⟩ := (hT.ty t i h).2.1
 exact ⟨z, by simp [zeroValue, typeInfo, h1, hz], hr⟩
theorem run_isAgg : (isAgg t).run P W = .ok (isAggD i.desc) W := by
 unfold isAgg
 rw [Sem.run_bind, run_und hT h]
 simp only [Result.andThen_ok]
 cases i.desc <;> rfl
end types
def Yl (P : Program) (a : Act) (op : Op) (v : Value) : Prop :=
 ∀ (dst : Option Tmp) (ty : TypeId) (pos : String) (after : Array Edge) (guard : Option (Nat × Bool)) (W : World), (execOp a.eval ⟨dst, op, ty, pos, after, guard⟩).run P W = .ok (.value v) W
theorem Yl.of {P : Program} {a : Act} {op : Op} {v : Value} {m : Sem Value} (h : ∀ (dst : Option Tmp) (ty : TypeId) (pos : String) (after : Array Edge) (guard : Option (Nat × Bool)), execOp a.eval ⟨dst, op, ty, pos, after, guard⟩ = (do pure (.value (<- m))))
  (hm : ∀ W, m.run P W = .ok v W) : Yl P a op v := fun dst ty pos after guard W => by rw [h, Sem.run_bind, hm]; rfl
theorem VR.of_int {β : Env} {k : IntKind} {n : Int} {v : Value} (h : VR β (.lit (.int k n)) v) : v = .int k n := by cases h; rfl
theorem VR.of_lit {β : Env} {u v : Value} (h : VR β (.lit u) v) : v = u := by cases h; rfl
theorem VR.of_str {β : Env} {l : List UInt8} {v : Value} (h : VR β (.str l) v) : v = .string ⟨l.toArray⟩ := by cases h; rfl
theorem VR.of_agg {β : Env} {l : List AV} {v : Value} (h : VR β (.agg l) v) : ∃ x, v = .agg x /\ VRs β l x.toList := by cases h with | agg _ x hx => exact ⟨_, rfl, by simpa using hx⟩
theorem VR.of_tup {β : Env} {l : List AV} {v : Value} (h : VR β (.tup l) v) : ∃ x, v = .tuple x /\ VRs β l x.toList := by cases h with | tup _ x hx => exact ⟨_, rfl, by simpa using hx⟩
theorem VR.of_ptr {β : Env} {o off : Nat} {v : Value} (h : VR β (.ptr o off) v) : ∃ k, β.b o = some k /\ v = .pointer (some ⟨k.blk, k.sh + off, none⟩) := by cases h with | ptr _ _ k hk => exact ⟨k, hk, rfl⟩
theorem VR.of_mp {β : Env} {o : Nat} {v : Value} (h : VR β (.mp o) v) : ∃ k, β.b o = some k /\ v = .map (some k.blk) := by cases h with | mp _ k hk => exact ⟨k, hk, rfl⟩
theorem VR.of_slc {β : Env} {o off len : Nat} {cap : ACap} {v : Value} (h : VR β (.slc o off len cap) v) : ∃ k c, β.b o = some k /\ v = .slice (some ⟨k.blk, k.sh + off, none⟩) len c /\
  (∀ n, cap = .ex n -> c = n) /\ (∀ z, cap = .op z -> k.esz = z /\ k.sh + off + c * z = k.sz /\ len <= c) := by
 cases h with
 | slcX _ _ _ c k hk => exact ⟨k, c, hk, rfl, fun n hn => by cases hn; rfl, fun z hn => by cases hn⟩
 | slcO _ _ _ c z k hk hz h1 h2 => exact ⟨k, c, hk, rfl, fun n hn => (by cases hn), fun z' hn => by cases hn; exact ⟨hz, h1, h2⟩⟩
theorem VR.of_eptr {β : Env} {cs : List AV} {v : Value} (h : VR β (.eptr cs) v) : ∃ vs b o, v = .pointer (some ⟨b, o, none⟩) /\ VRs β cs vs /\ ∀ (i : Nat) v, vs[i]? = some v -> β.fz b (o + i) = some v := by
 cases h with | eptr _ vs b o h hv => exact ⟨vs, b, o, rfl, h, hv⟩
theorem VR.of_lst {β : Env} {tk : ATk} {es : List AV} {v : Value} (h : VR β (.lst tk es) v) :
  (es = [] /\ v = .slice none 0 0) ∨ (es = [] /\ ∃ a c, v = .slice (some a) 0 c /\ (tk = .full -> c = 0) /\ ∀ o, tk ≠ .room o) ∨
  (∃ sz vs b o c, v = .slice (some ⟨b, o, none⟩) es.length c /\ VRs β (es.flatMap AV.cells) vs /\ (∀ e ∈ es, e.cells.length = sz) /\ 0 < sz /\ (∀ (i : Nat) v, vs[i]? = some v -> β.fz b (o + i) = some v) /\ es.length <= c /\ TK β tk sz b (o + es.length * sz) (o + c * sz)) := by
 cases h with
 | lstN => exact .inl ⟨rfl, rfl⟩
 | lstE _ a c h1 h2 => exact .inr (.inl ⟨rfl, a, c, rfl, h1, h2⟩)
 | lst _ sz es vs b o c h1 h2 h3 h4 h5 h6 => exact .inr (.inr ⟨sz, vs, b, o, c, rfl, h1, h2, h3, h4, h5, h6⟩)
theorem VR.len_lst {β : Env} {tk : ATk} {es : List AV} {v : Value} (h : VR β (.lst tk es) v) : ∃ ad c, v = .slice ad es.length c /\ (tk = .full -> c = es.length) := by
 rcases h.of_lst with ⟨rfl, rfl⟩ | ⟨rfl, a, c, rfl, h1, _⟩ | ⟨sz, vs, b, o, c, rfl, _, _, hz, _, _, ht⟩
 ·exact ⟨_, _, rfl, fun _ => rfl⟩
 ·exact ⟨_, _, rfl, h1⟩
 ·refine ⟨_, _, rfl, fun e => ?_⟩
  subst e
  have ht : o + es.length * sz = o + c * sz := ht
  exact (Nat.eq_of_mul_eq_mul_right hz (by omega)).symm
theorem flat_at {sz : Nat} : ∀ {es : List AV} {i : Nat} {e : AV}, (∀ x ∈ es, x.cells.length = sz) -> es[i]? = some e -> ((es.flatMap AV.cells).drop (i * sz)).take sz = e.cells
 | [], i, e, _, h => by simp at h
 | x :: es, 0, e, hs, h => by
  simp at h; subst h
  have := hs x (by simp)
  simp only [List.flatMap_cons, Nat.zero_mul, List.drop_zero]
  rw [<- this, List.take_left]
 | x :: es, i + 1, e, hs, h => by
  simp at h
  have hx := hs x (by simp)
  have := flat_at (fun y hy => hs y (by simp [hy])) h
  rw [List.flatMap_cons, Nat.succ_mul, Nat.add_comm, <- List.drop_drop]
  rw [<- hx, List.drop_left, hx]; exact this
theorem flat_len {sz : Nat} : ∀ {es : List AV}, (∀ x ∈ es, x.cells.length = sz) -> (es.flatMap AV.cells).length = es.length * sz
 | [], _ => by simp
 | x :: es, hs => by
  rw [List.flatMap_cons, List.length_append, hs x (by simp), flat_len (fun y hy => hs y (by simp [hy])), List.length_cons, Nat.succ_mul, Nat.add_comm]
theorem flat_drop {sz : Nat} : ∀ {es : List AV} {i : Nat}, (∀ x ∈ es, x.cells.length = sz) -> (es.flatMap AV.cells).drop (i * sz) = (es.drop i).flatMap AV.cells
 | [], i, _ => by simp
 | x :: es, 0, _ => by simp
 | x :: es, i + 1, hs => by
  have hx := hs x (by simp)
  rw [List.flatMap_cons, Nat.succ_mul, Nat.add_comm, <- List.drop_drop, List.drop_succ_cons]
  rw [<- hx, List.drop_left, hx]; exact flat_drop (fun y hy => hs y (by simp [hy]))
theorem flat_take {sz : Nat} : ∀ {es : List AV} {i : Nat}, (∀ x ∈ es, x.cells.length = sz) -> (es.flatMap AV.cells).take (i * sz) = (es.take i).flatMap AV.cells
 | [], i, _ => by simp
 | x :: es, 0, _ => by simp
 | x :: es, i + 1, hs => by
  have hx := hs x (by simp)
  rw [List.flatMap_cons, Nat.succ_mul, List.take_succ_cons, List.flatMap_cons, List.take_append, hx, List.take_of_length_le (by omega), show i * sz + sz - sz = i * sz from by omega, flat_take (fun y hy => hs y (by simp [hy]))]
theorem fz_sub {β : Env} {b o : Nat} {vs : List Value} (h : ∀ (i : Nat) v, vs[i]? = some v -> β.fz b (o + i) = some v) (k n : Nat) : ∀ (i : Nat) v, ((vs.drop k).take n)[i]? = some v -> β.fz b (o + k + i) = some v := fun i v hi => by
 rw [List.getElem?_take] at hi
 split at hi
 ·rw [List.getElem?_drop] at hi; rw [Nat.add_assoc]; exact h _ _ hi
 ·cases hi
theorem fz_drop {β : Env} {b o : Nat} {vs : List Value} (h : ∀ (i : Nat) v, vs[i]? = some v -> β.fz b (o + i) = some v) (k : Nat) : ∀ (i : Nat) v, (vs.drop k)[i]? = some v -> β.fz b (o + k + i) = some v := fun i v hi => by
 rw [List.getElem?_drop] at hi; rw [Nat.add_assoc]; exact h _ _ hi
theorem sizeOk_iff {n : Nat} {e : AV} : sizeOk n e = true ↔ e.cells.length = n := by unfold sizeOk; exact ⟨Nat.eq_of_beq_eq_true, fun h => by rw [h]; exact Nat.beq_refl n⟩
theorem str_size (l : List UInt8) : (⟨l.toArray⟩ : ByteArray).size = l.length := by simp [ByteArray.size]
theorem intBin_rel {P : Program} {β : Env} {op : BinOp} {k : IntKind} {a b : Int} {v : AV} (h : intBin op k a b = some v) (hs : op ≠ .shl /\ op ≠ .shr) (t : TypeId) :
  ∃ v', VR β v v' /\ ∀ W, (Go.binOp op t (.int k a) (.int k b)).run P W = .ok v' W := by
 cases op <;> simp only [intBin, Option.some.injEq, reduceCtorEq, Bool.cond_decide] at h <;> (try split at h) <;> (try (cases h; done)) <;> (try simp only [Option.some.injEq] at h) <;>
  first
  | exact absurd rfl hs.1
  | exact absurd rfl hs.2
  | (subst h; refine ⟨_, VR.lit _, fun W => ?_⟩; simp [Go.binOp, Op.intArith, Op.intDiv, Op.intBits, Op.intCmp, *]; done)
  | (subst h; refine ⟨_, VR.lit _, fun W => ?_⟩; simp [Go.binOp, Op.intArith, Op.intDiv, Op.intBits, Op.intCmp, *]; first | rfl | (congr 1; rw [Bool.eq_iff_iff]; simp) | (congr 2; rw [Bool.eq_iff_iff]; simp))
theorem shiftBin_rel {P : Program} {β : Env} {op : BinOp} {k k' : IntKind} {a b : Int} {v : AV} (h : shiftBin op k a b = some v) (t : TypeId) :
  ∃ v', VR β v v' /\ ∀ W, (Go.binOp op t (.int k a) (.int k' b)).run P W = .ok v' W := by
 unfold shiftBin at h
 rw [Bool.cond_decide] at h
 split at h
 ·cases h
 ·cases op <;> simp only [Option.some.injEq, reduceCtorEq] at h <;> (subst h; refine ⟨_, VR.lit _, fun W => ?_⟩; simp [Go.binOp, Op.shift, *])
theorem strBin_rel {P : Program} {β : Env} {op : BinOp} {a b : List UInt8} {v : AV} (h : strBin op a b = some v) (t : TypeId) :
  ∃ v', VR β v v' /\ ∀ W, (Go.binOp op t (.string ⟨a.toArray⟩) (.string ⟨b.toArray⟩)).run P W = .ok v' W := by
 cases op <;> simp only [strBin, Option.some.injEq, reduceCtorEq] at h
 case add =>
  cases hb : Nat.ble (a.length + b.length) 9223372036854775807 with
  | false => rw [hb] at h; cases h
  | true =>
   rw [hb, cond_true] at h; cases h
   have hle : a.length + b.length <= 9223372036854775807 := by simpa using hb
   refine ⟨_, VR.str _, fun W => ?_⟩
   have hm : ¬ ((((⟨a.toArray⟩ : ByteArray).size + (⟨b.toArray⟩ : ByteArray).size : Nat) : Int) > IntKind.i64.max) := by
    rw [str_size, str_size]; simp [IntKind.max, IntKind.signed, IntKind.bits]; omega
   simp only [Go.binOp, Op.stringOp, if_neg hm, Sem.run_pure]
   congr 2
 all_goals (subst h; refine ⟨_, VR.lit _, fun W => ?_⟩; simp [Go.binOp, Op.stringOp])
theorem part_rel {P : Program} {T : Tab} (hT : TOk P T) {β : Env} {t : Nat} {cs : List AV} {xs : Array Value} {off : Nat} {v : AV} (h : part' T t cs off = some v) (hx : VRs β cs xs.toList) :
  ∃ v', VR β v v' /\ ∀ W, (part t xs off).run P W = .ok v' W := by
 unfold part' at h
 cases ht : T.t t with
 | none => simp [ht] at h
 | some i =>
  simp only [ht] at h
  cases ha : isAggD i.desc with
  | true =>
   rw [ha, cond_true] at h
   cases hb : Nat.ble (off + i.size) cs.length with
   | false => rw [hb] at h; cases h
   | true =>
    rw [hb, cond_true] at h; cases h
    refine ⟨_, VR.agg _ _ ((hx.drop off).take i.size), fun W => ?_⟩
    simp only [part, Sem.run_bind, run_isAgg hT ht, Result.andThen_ok, ha, if_true, run_size hT ht, Sem.run_pure]
    congr 2
    apply Array.ext'
    simp [List.take_drop, Array.toList_extract]
  | false =>
   rw [ha, cond_false] at h
   obtain ⟨v', hv, hr⟩ := hx.get off v h
   refine ⟨v', hr, fun W => ?_⟩
   have hv' : xs[off]? = some v' := by simpa using hv
   simp only [part, Sem.run_bind, run_isAgg hT ht, Result.andThen_ok, ha, if_false, Bool.false_eq_true, hv', Sem.run_pure]
theorem eqFields_rel {P : Program} {T : Tab} (hT : TOk P T) {β : Env} {rec : Nat -> AV -> AV -> Option Bool} {d : Nat} {xs ys : Array Value}
  (hrec : ∀ (t : Nat) (x y : AV) (b : Bool) (u v : Value), rec t x y = some b -> VR β x u -> VR β y v -> ∀ W, (Op.equalIn d t u v).run P W = .ok b W) {cs ds : List AV} (hx : VRs β cs xs.toList) (hy : VRs β ds ys.toList) :
  ∀ (fs : List Field) (b : Bool), eqFields T rec fs cs ds = some b -> ∀ W, (Op.eqFields d xs ys fs).run P W = .ok b W
 | [], b, h, W => by simp only [eqFields, Option.some.injEq] at h; subst h; simp [Op.eqFields]
 | f :: fs, b, h, W => by
  simp only [eqFields, Bool.cond_decide] at h
  rw [Op.eqFields]
  by_cases hn : f.name = "_"
  ·rw [if_pos hn] at h
   rw [if_neg (by simpa using hn)]
   exact eqFields_rel hT hrec hx hy fs b h W
  ·rw [if_neg hn] at h
   rw [if_pos hn]
   cases h1 : part' T f.type cs f.offset with
   | none => simp [h1] at h
   | some x =>
    cases h2 : part' T f.type ds f.offset with
    | none => simp [h1, h2] at h
    | some y =>
     simp only [h1, h2] at h
     obtain ⟨u, hu, ru⟩ := part_rel hT h1 hx
     obtain ⟨v, hv, rv⟩ := part_rel hT h2 hy
     cases h3 : rec f.type x y with
     | none => simp [h3] at h
     | some c =>
      have he := hrec _ _ _ _ _ _ h3 hu hv
      simp only [Sem.run_bind, ru, rv, he, Result.andThen_ok]
      cases c with
      | true =>
       simp only [h3] at h
       simpa using eqFields_rel hT hrec hx hy fs b h W
      | false => simp only [h3, Option.some.injEq] at h; subst h; simp
theorem eqv_rel {P : Program} {T : Tab} (hT : TOk P T) {β : Env} : ∀ (n d t : Nat) (x y : AV) (b : Bool) (u v : Value), d <= n -> eqv T d t x y = some b -> VR β x u -> VR β y v -> ∀ W, (Op.equalIn n t u v).run P W = .ok b W
 | n, 0, _, _, _, _, _, _, _, h, _, _, _ => by simp [eqv] at h
 | 0, d + 1, _, _, _, _, _, _, hd, _, _, _, _ => by omega
 | n + 1, d + 1, t, x, y, b, u, v, hd, h, hu, hv, W => by
  have ih := eqv_rel hT (β := β) n d
  unfold eqv at h
  cases ht : T.t t with
  | none => simp [ht] at h
  | some i =>
   simp only [ht] at h
   have hun := run_und hT ht
   split at h
   case h_21 =>
    rename_i fs xs ys hdesc
    cases hp : i.plain with
    | false => rw [hp] at h; cases h
    | true =>
     rw [hp, cond_true] at h
     obtain ⟨X, rfl, hX⟩ := hu.of_agg
     obtain ⟨Y, rfl, hY⟩ := hv.of_agg
     have hst := ((hT.ty t i ht).2.2 hp).1
     have hu' : P.underlying t = some (.struct fs) := by rw [(hT.ty t i ht).1, hdesc]
     have hf : P.fieldsOf t = fs := by simp [Program.fieldsOf, hu']
     rw [run_equalIn_struct (P := P) W n t X Y (by rw [hf]; exact hu') hst, hf]
     exact eqFields_rel hT (fun t x y b u v h1 h2 h3 W => ih t x y b u v (by omega) h1 h2 h3 W) hX hY _ _ h W
   all_goals (try (cases h; done))
   all_goals (rename_i hdesc; first | rw [hdesc] at hun | skip)
   all_goals (first | (have hu' := hu.of_str; subst hu') | (have hu' := hu.of_lit; subst hu') | (obtain ⟨_, _, rfl⟩ := hu.of_ptr) | (obtain ⟨_, _, _, rfl, _⟩ := hu.of_slc) | (obtain ⟨_, _, rfl⟩ := hu.of_mp) | cases hu)
   all_goals (first | (have hv' := hv.of_str; subst hv') | (have hv' := hv.of_lit; subst hv') | (obtain ⟨_, _, rfl⟩ := hv.of_ptr) | (obtain ⟨_, _, _, rfl, _⟩ := hv.of_slc) | (obtain ⟨_, _, rfl⟩ := hv.of_mp) | cases hv)
   all_goals (try rw [Bool.cond_decide] at h)
   all_goals (try split at h)
   all_goals (try (cases h; done))
   all_goals (try simp only [Option.some.injEq] at h)
   all_goals (try subst h)
   all_goals (simp only [Op.equalIn, Sem.run_bind, hun, Result.andThen_ok]; first | rfl | (rw [if_pos (by assumption)]; rfl) | (rw [beq_toListBytes]; simp; done) | (simp [*]; done))
theorem eqGuard_ok {P : Program} {op : BinOp} {t : TypeId} {x y : Operand} {a b : Value} (h : P.eqGuardType P.depth t = false) (W : World) (hn : a = .nilIface -> b = .nilIface -> False) :
  (eqGuard op t x y a b).run P W = .ok () W := by
 cases op <;> first
  | rfl
  | (cases a <;> cases b <;> first | rfl | exact (hn rfl rfl).elim | (simp [eqGuard, h]; done))
theorem eqGuard_plain {P : Program} {op : BinOp} {t : TypeId} {x y : Operand} {a b : Value} (W : World) (hn : a = .nilIface -> b = .nilIface -> False) (hg : ∀ c d, a = .agg c -> b = .agg d -> False) :
  (eqGuard op t x y a b).run P W = .ok () W := by
 cases op <;> first
  | rfl
  | (cases a <;> cases b <;> first | rfl | exact (hn rfl rfl).elim | exact (hg _ _ rfl rfl).elim)
theorem eqv_noIface {P : Program} {T : Tab} {β : Env} {d t : Nat} {x y : AV} {b : Bool} {u v : Value} (h : eqv T d t x y = some b) (hu : VR β x u) (hv : VR β y v) : u = .nilIface -> v = .nilIface -> False := by
 intro e1 e2
 subst e1; subst e2
 cases d with
 | zero => simp [eqv] at h
 | succ d =>
  unfold eqv at h
  cases ht : T.t t with
  | none => simp [ht] at h
  | some i =>
   simp only [ht] at h
   split at h
   all_goals first | (cases h; done) | (cases hu; done) | (cases hv; done) | skip
theorem eqv_forms {T : Tab} {β : Env} {d t : Nat} {x y : AV} {b : Bool} {u v : Value} (h : eqv T d t x y = some b) (hu : VR β x u) (hv : VR β y v)
  (n1 : ∀ k a k' b, x = .lit (.int k a) -> y = .lit (.int k' b) -> False) (n2 : ∀ a b, x = .str a -> y = .str b -> False) :
  Go.binOp .eql t u v = (do pure (.bool (<- Op.equal t u v))) /\ Go.binOp .neq t u v = (do pure (.bool (!(<- Op.equal t u v)))) := by
 cases d with
 | zero => simp [eqv] at h
 | succ d =>
  unfold eqv at h
  cases ht : T.t t with
  | none => simp [ht] at h
  | some i =>
   simp only [ht] at h
   split at h
   all_goals first
    | (cases h; done)
    | exact (n1 _ _ _ _ rfl rfl).elim
    | exact (n2 _ _ rfl rfl).elim
    | (cases hu <;> cases hv <;> exact ⟨rfl, rfl⟩)
theorem binV_rel {P : Program} {T : Tab} (hT : TOk P T) {β : Env} {op : BinOp} {t : Nat} {x y : AV} {r : AV} {u v : Value} (h : binV T op t x y = some r) (hu : VR β x u) (hv : VR β y v) (p q : Operand) :
  ∃ r', VR β r r' /\ ∀ W, (do eqGuard op t p q u v; Go.binOp op t u v : Sem Value).run P W = .ok r' W := by
 unfold binV at h
 split at h
 ·rename_i k a k' b
  obtain rfl := hu.of_int
  obtain rfl := hv.of_int
  have hg : ∀ W, (eqGuard op t p q (.int k a) (.int k' b)).run P W = .ok () W := fun W => eqGuard_plain W (fun e => by cases e) (fun _ _ e => by cases e)
  by_cases hs : op = .shl ∨ op = .shr
  ·have h' : shiftBin op k a b = some r := by rcases hs with rfl | rfl <;> simpa using h
   obtain ⟨r', h1, h2⟩ := shiftBin_rel (P := P) (β := β) (k' := k') h' t
   exact ⟨r', h1, fun W => by rw [Sem.run_bind, hg]; exact h2 W⟩
  ·have h' : k = k' /\ intBin op k a b = some r := by
    cases op <;> simp only [Bool.cond_decide] at h <;> first | exact (hs (.inl rfl)).elim | exact (hs (.inr rfl)).elim | (split at h; exact ⟨by assumption, h⟩; cases h)
   obtain ⟨rfl, h'⟩ := h'
   obtain ⟨r', h1, h2⟩ := intBin_rel (P := P) (β := β) h' ⟨fun e => hs (.inl e), fun e => hs (.inr e)⟩ t
   exact ⟨r', h1, fun W => by rw [Sem.run_bind, hg]; exact h2 W⟩
 ·obtain rfl := hu.of_str
  obtain rfl := hv.of_str
  obtain ⟨r', h1, h2⟩ := strBin_rel (P := P) (β := β) h t
  exact ⟨r', h1, fun W => by rw [Sem.run_bind, eqGuard_plain W (fun e => by cases e) (fun _ _ e => by cases e)]; exact h2 W⟩
 ·rename_i hn1 hn2
  cases ht : T.t t with
  | none => simp [ht] at h
  | some i =>
   simp only [ht] at h
   cases hp : i.plain with
   | false => rw [hp] at h; cases h
   | true =>
    rw [hp, cond_true] at h
    have hgt := ((hT.ty t i ht).2.2 hp).2
    cases he : eqv T 20 t x y with
    | none => cases op <;> simp [he] at h
    | some b =>
     have hq := fun W => eqv_rel hT Op.maxDepth 20 t x y b u v (by simp [Op.maxDepth]) he hu hv W
     have hg : ∀ W, (eqGuard op t p q u v).run P W = .ok () W := fun W => eqGuard_ok hgt W (eqv_noIface (P := P) he hu hv)
     have hF := eqv_forms he hu hv (fun k a k' b e1 e2 => hn1 k a k' b e1 e2) (fun a b e1 e2 => hn2 a b e1 e2)
     cases op <;> simp only [he, reduceCtorEq, Option.some.injEq] at h
     all_goals (subst h; refine ⟨_, VR.lit _, fun W => ?_⟩; rw [Sem.run_bind, hg]; simp only [Result.andThen_ok])
     all_goals ((first | rw [hF.1] | rw [hF.2]); simp only [Sem.run_bind, Op.equal, hq, Result.andThen_ok, Sem.run_pure])
theorem ifcBin_rel {P : Program} {T : Tab} (hT : TOk P T) {β : Env} {op : BinOp} {t : Nat} {x y : AV} {r : AV} {u v : Value} {p q : Operand} (h : ifcBin T op t p q x y = some r) (hu : VR β x u) (hv : VR β y v) :
  ∃ r', VR β r r' /\ ∀ W, (do eqGuard op t p q u v; Go.binOp op t u v : Sem Value).run P W = .ok r' W := by
 unfold ifcBin at h
 cases ht : T.t t with
 | none => simp [ht] at h
 | some i =>
  simp only [ht] at h
  have hun := run_und hT ht
  split at h
  ·rename_i ms hd
   rw [hd] at hun
   have hm : Op.maxDepth = (Op.maxDepth - 1) + 1 := by decide
   have E1 : ∀ W a b, (Op.equal t (.iface a b) .nilIface).run P W = .ok false W := fun W a b => by
    have e : ∀ n, (Op.equalIn (n + 1) t (.iface a b) .nilIface).run P W = .ok false W := fun n => by
     simp only [Op.equalIn, Sem.run_bind, hun, Result.andThen_ok, Sem.run_pure]
    unfold Op.equal; rw [hm]; exact e _
   have E2 : ∀ W a b, (Op.equal t .nilIface (.iface a b)).run P W = .ok false W := fun W a b => by
    have e : ∀ n, (Op.equalIn (n + 1) t .nilIface (.iface a b)).run P W = .ok false W := fun n => by
     simp only [Op.equalIn, Sem.run_bind, hun, Result.andThen_ok, Sem.run_pure]
    unfold Op.equal; rw [hm]; exact e _
   have E3 : ∀ W, (Op.equal t .nilIface .nilIface).run P W = .ok true W := fun W => by
    have e : ∀ n, (Op.equalIn (n + 1) t .nilIface .nilIface).run P W = .ok true W := fun n => by
     simp only [Op.equalIn, Sem.run_bind, hun, Result.andThen_ok, Sem.run_pure]
    unfold Op.equal; rw [hm]; exact e _
   split at h
   ·cases hu with
    | ifc _ _ w _ =>
     obtain rfl := hv.of_lit
     split at h
     ·cases h; exact ⟨_, .lit _, fun W => by rw [Sem.run_bind, eqGuard_plain W (fun e => by cases e) (fun _ _ e => by cases e)]; simp only [Result.andThen_ok, Go.binOp, Sem.run_bind, E1, Sem.run_pure, Bool.not_false]⟩
     ·cases h; exact ⟨_, .lit _, fun W => by rw [Sem.run_bind, eqGuard_plain W (fun e => by cases e) (fun _ _ e => by cases e)]; simp only [Result.andThen_ok, Go.binOp, Sem.run_bind, E1, Sem.run_pure, Bool.not_false]⟩
     ·cases h
   ·obtain rfl := hu.of_lit
    cases hv with
    | ifc _ _ w _ =>
     split at h
     ·cases h; exact ⟨_, .lit _, fun W => by rw [Sem.run_bind, eqGuard_plain W (fun _ e => by cases e) (fun _ _ e => by cases e)]; simp only [Result.andThen_ok, Go.binOp, Sem.run_bind, E2, Sem.run_pure, Bool.not_false]⟩
     ·cases h; exact ⟨_, .lit _, fun W => by rw [Sem.run_bind, eqGuard_plain W (fun _ e => by cases e) (fun _ _ e => by cases e)]; simp only [Result.andThen_ok, Go.binOp, Sem.run_bind, E2, Sem.run_pure, Bool.not_false]⟩
     ·cases h
   ·rename_i tx vx ty vy
    cases hu with
    | ifc _ _ xv hx =>
     cases hv with
     | ifc _ _ yv hy =>
      have hg : ∀ (o : BinOp) W, (eqGuard o t p q (.iface tx xv) (.iface ty yv)).run P W = .ok () W := fun o W => eqGuard_plain W (fun e => by cases e) (fun _ _ e => by cases e)
      rw [beq_if] at h
      split at h
      ·rename_i e; subst e
       split at h
       ·rename_i j hj
        cases hcm : j.comp with
        | false => rw [hcm] at h; cases h
        | true =>
         rw [hcm, cond_true] at h
         obtain ⟨inf, hinf, _⟩ := (hT.ty tx j hj).2.1
         have hco := hT.cmp tx j hj hcm inf hinf
         have hti : ∀ W, (typeInfo tx).run P W = .ok inf W := fun W => by simp [typeInfo, hinf]
         have E : ∀ b, eqv T 19 tx vx vy = some b -> ∀ W, (Op.equal t (.iface tx xv) (.iface tx yv)).run P W = .ok b W := fun b hb W => by
          have e : ∀ n, 19 <= n -> (Op.equalIn (n + 1) t (.iface tx xv) (.iface tx yv)).run P W = .ok b W := fun n hn => by
           simp only [Op.equalIn, Sem.run_bind, hun, Result.andThen_ok, ne_eq, not_true_eq_false, if_false, hti, hco, Bool.not_true, Bool.false_eq_true]
           exact eqv_rel hT n 19 tx vx vy b xv yv hn hb hx hy W
          unfold Op.equal; rw [hm]; exact e _ (by decide)
         split at h
         ·rename_i b hb _ _
          cases h; exact ⟨_, .lit _, fun W => by rw [Sem.run_bind, hg]; simp only [Result.andThen_ok, Go.binOp, Sem.run_bind, E _ ‹_›, Sem.run_pure]⟩
         ·rename_i b hb _ _
          cases h; exact ⟨_, .lit _, fun W => by rw [Sem.run_bind, hg]; simp only [Result.andThen_ok, Go.binOp, Sem.run_bind, E _ ‹_›, Sem.run_pure]⟩
         ·cases h
       ·cases h
      ·rename_i hne
       have E : ∀ W, (Op.equal t (.iface tx xv) (.iface ty yv)).run P W = .ok false W := fun W => by
        have e : ∀ n, (Op.equalIn (n + 1) t (.iface tx xv) (.iface ty yv)).run P W = .ok false W := fun n => by
         simp only [Op.equalIn, Sem.run_bind, hun, Result.andThen_ok, ne_eq, hne, not_false_eq_true, if_true, Sem.run_pure]
        unfold Op.equal; rw [hm]; exact e _
       split at h
       ·cases h; exact ⟨_, .lit _, fun W => by rw [Sem.run_bind, hg]; simp only [Result.andThen_ok, Go.binOp, Sem.run_bind, E, Sem.run_pure]⟩
       ·cases h; exact ⟨_, .lit _, fun W => by rw [Sem.run_bind, hg]; simp only [Result.andThen_ok, Go.binOp, Sem.run_bind, E, Sem.run_pure, Bool.not_false]⟩
       ·cases h
   ·obtain rfl := hu.of_lit
    obtain rfl := hv.of_lit
    cases hc : (isConst p || isConst q) with
    | false => rw [hc] at h; cases h
    | true =>
     rw [hc, cond_true] at h
     have hg : ∀ (o : BinOp) W, (eqGuard o t p q .nilIface .nilIface).run P W = .ok () W := by
      intro o W
      cases o <;> first | rfl | (cases p <;> cases q <;> simp [isConst] at hc <;> simp [eqGuard])
     split at h
     ·cases h; exact ⟨_, .lit _, fun W => by rw [Sem.run_bind, hg]; simp only [Result.andThen_ok, Go.binOp, Sem.run_bind, E3, Sem.run_pure, Bool.not_true]⟩
     ·cases h; exact ⟨_, .lit _, fun W => by rw [Sem.run_bind, hg]; simp only [Result.andThen_ok, Go.binOp, Sem.run_bind, E3, Sem.run_pure, Bool.not_true]⟩
     ·cases h
   ·cases h
  ·cases h
theorem add_addr (b o n : Nat) : (⟨b, o, none⟩ : Addr).add n = ⟨b, o + n, none⟩ := by
 unfold Addr.add; split
 ·rename_i e; subst e; rfl
 ·rfl
section
variable {P : Program} {T : Tab} (hT : TOk P T) {β : Env} {s : AS} {a : Act} (hf : FR β s a)
include hf
theorem move_rel {x : Operand} {v : AV} (h : opd s x = some v) : ∃ v', VR β v v' /\ Yl P a (.move x) v' := ⟨_, opd_rel hf h, fun _ _ _ _ _ W => rfl⟩
theorem assign_rel {x : Operand} {v : AV} (h : opd s x = some v) : ∃ v', VR β v v' /\ Yl P a (.assign x) v' := ⟨_, opd_rel hf h, fun _ _ _ _ _ W => rfl⟩
theorem pick_rel {c x y : Operand} {v : AV} (h : pureOp T s (.pick c x y) = some v) : ∃ v', VR β v v' /\ Yl P a (.pick c x y) v' := by
 simp only [pureOp] at h
 split at h
 ·rename_i t u w h1 h2 h3
  have e := (opd_rel hf h1).of_lit
  cases t with
  | true =>
   cases h
   refine ⟨_, opd_rel hf h2, fun _ _ _ _ _ W => ?_⟩
   simp [execOp, e, asBool]
  | false =>
   cases h
   refine ⟨_, opd_rel hf h3, fun _ _ _ _ _ W => ?_⟩
   simp [execOp, e, asBool]
 ·cases h
theorem nilCheck_rel {x : Operand} {v : AV} (h : pureOp T s (.nilCheck x) = some v) : ∃ v', VR β v v' /\ Yl P a (.nilCheck x) v' := by
 simp only [pureOp] at h
 split at h
 ·rename_i o off h1
  cases h
  have hr := opd_rel hf h1
  obtain ⟨k, _, e⟩ := hr.of_ptr
  refine ⟨_, hr, fun _ _ _ _ _ W => ?_⟩
  simp [execOp, e]
 ·rename_i cs h1
  cases h
  have hr := opd_rel hf h1
  obtain ⟨_, _, _, e, _⟩ := hr.of_eptr
  refine ⟨_, hr, fun _ _ _ _ _ W => ?_⟩
  simp [execOp, e]
 ·rename_i f x1 x2 h1
  cases h
  have hr := opd_rel hf h1
  have e : ∃ p q, a.eval x = .func (.func f) p q := by
   generalize a.eval x = w at hr
   cases hr
   exact ⟨_, _, rfl⟩
  obtain ⟨p, q, e⟩ := e
  refine ⟨_, hr, fun _ _ _ _ _ W => ?_⟩
  simp [execOp, e]
 ·cases h
include hT
theorem binOp_rel {op : BinOp} {t ty : TypeId} {x y : Operand} {v : AV} (h : pureOp T s (.binOp op t x y ty) = some v) : ∃ v', VR β v v' /\ Yl P a (.binOp op t x y ty) v' := by
 simp only [pureOp] at h
 split at h
 ·rename_i u w h1 h2
  split at h
  ·rename_i r hb
   cases h
   obtain ⟨r', hr, he⟩ := binV_rel hT hb (opd_rel hf h1) (opd_rel hf h2) x y
   exact ⟨r', hr, Yl.of (m := do eqGuard op t x y (a.eval x) (a.eval y); Go.binOp op t (a.eval x) (a.eval y)) (fun _ _ _ _ _ => rfl) he⟩
  ·obtain ⟨r', hr, he⟩ := ifcBin_rel hT h (opd_rel hf h1) (opd_rel hf h2)
   exact ⟨r', hr, Yl.of (m := do eqGuard op t x y (a.eval x) (a.eval y); Go.binOp op t (a.eval x) (a.eval y)) (fun _ _ _ _ _ => rfl) he⟩
 ·cases h
omit hT
theorem unOp_rel {op : UnOp} {t : TypeId} {x : Operand} {v : AV} (h : pureOp T s (.unOp op t x) = some v) : ∃ v', VR β v v' /\ Yl P a (.unOp op t x) v' := by
 simp only [pureOp] at h
 split at h
 ·rename_i u h1
  unfold unV at h
  split at h
  ·rename_i k n
   cases h
   have e := (opd_rel hf h1).of_lit
   refine ⟨_, VR.lit _, Yl.of (m := Op.unary .neg (a.eval x)) (fun _ _ _ _ _ => rfl) fun W => ?_⟩
   rw [e]; simp [Op.unary, Op.intArith]
  ·rename_i b
   cases h
   have e := (opd_rel hf h1).of_lit
   refine ⟨_, VR.lit _, Yl.of (m := Op.unary .not (a.eval x)) (fun _ _ _ _ _ => rfl) fun W => ?_⟩
   rw [e]; simp [Op.unary]
  ·cases h
 ·cases h
include hT
theorem convP_rel {src dst : TypeId} {x : Operand} {v : AV} (h : pureOp T s (.convert src dst x) = some v) : ∃ v', VR β v v' /\ Yl P a (.convert src dst x) v' := by
 simp only [pureOp] at h
 split at h
 ·rename_i u h1
  have hu := opd_rel hf h1
  unfold convV at h
  split at h
  ·rename_i i j hi hj
   split at h
   ·rename_i k kk n hd
    cases h
    have e := hu.of_lit
    refine ⟨_, VR.lit _, Yl.of (m := Go.convert src dst (a.eval x)) (fun _ _ _ _ _ => rfl) fun W => ?_⟩
    rw [e]
    simp only [Go.convert, Sem.run_bind, run_und hT hi, run_und hT hj, hd, Result.andThen_ok]
    rfl
   ·rename_i l hd
    cases h
    have e := hu.of_str
    refine ⟨_, VR.str _, Yl.of (m := Go.convert src dst (a.eval x)) (fun _ _ _ _ _ => rfl) fun W => ?_⟩
    rw [e]
    simp only [Go.convert, Sem.run_bind, run_und hT hi, run_und hT hj, hd, Result.andThen_ok]
    rfl
   ·cases h
  ·cases h
 ·cases h
omit hT
theorem makeFunc_rel {f : Fn} {x y : Array Operand} {v : AV} (h : pureOp T s (.makeFunc f x y) = some v) : ∃ v', VR β v v' /\ Yl P a (.makeFunc f x y) v' := by
 simp only [pureOp] at h
 split at h
 ·rename_i u w h1 h2
  cases h
  refine ⟨_, VR.fn f _ _ _ _ (opds_rel hf h1) (opds_rel hf h2), fun _ _ _ _ _ W => ?_⟩
  simp only [execOp, Instr.makeFunc, Sem.run_bind, Sem.run_pure, Result.andThen_ok]
  congr 3 <;> (apply Array.ext'; simp)
 ·cases h
theorem extract_rel {x : Operand} {i : Nat} {v : AV} (h : pureOp T s (.extract x i) = some v) : ∃ v', VR β v v' /\ Yl P a (.extract x i) v' := by
 simp only [pureOp] at h
 split at h
 ·rename_i vs h1
  obtain ⟨X, e, hX⟩ := (opd_rel hf h1).of_tup
  obtain ⟨v', hv, hr⟩ := hX.get i v h
  refine ⟨v', hr, Yl.of (m := Instr.extract (a.eval x) i) (fun _ _ _ _ _ => rfl) fun W => ?_⟩
  have hv' : X[i]? = some v' := by simpa using hv
  rw [e]; simp [Instr.extract, hv']
 ·cases h
include hT
theorem field_rel {t : TypeId} {x : Operand} {i : Nat} {v : AV} (h : pureOp T s (.field t x i) = some v) : ∃ v', VR β v v' /\ Yl P a (.field t x i) v' := by
 simp only [pureOp] at h
 split at h
 ·rename_i cs ti h1 h2
  split at h
  ·rename_i fs hd
   split at h
   ·rename_i f hfi
    obtain ⟨X, e, hX⟩ := (opd_rel hf h1).of_agg
    obtain ⟨v', hr, hp⟩ := part_rel hT h hX
    refine ⟨v', hr, Yl.of (m := Instr.field t (a.eval x) i) (fun _ _ _ _ _ => rfl) fun W => ?_⟩
    rw [e]
    simp only [Instr.field, Sem.run_bind, run_und hT h2, hd, Result.andThen_ok, hfi, asAgg, Sem.run_pure]
    exact hp W
   ·cases h
  ·cases h
 ·cases h
theorem fieldAddr_rel {t : TypeId} {x : Operand} {i : Nat} {v : AV} (h : pureOp T s (.fieldAddr t x i) = some v) : ∃ v', VR β v v' /\ Yl P a (.fieldAddr t x i) v' := by
 simp only [pureOp] at h
 split at h
 ·rename_i o off ti h1 h2
  split at h
  ·rename_i fs hd
   split at h
   ·rename_i f hfi
    split at h
    ·rename_i fi hft
     rw [beq_if] at h
     split at h
     ·cases h
     ·rename_i hne
      cases h
      obtain ⟨k, hk, e⟩ := (opd_rel hf h1).of_ptr
      refine ⟨_, VR.ptr _ _ k hk, Yl.of (m := Instr.fieldAt t (a.eval x) i) (fun _ _ _ _ _ => rfl) fun W => ?_⟩
      rw [e]
      simp only [Instr.fieldAt, Sem.run_bind, run_und hT h2, hd, Result.andThen_ok, hfi, Instr.sureAddr, Sem.run_pure, fieldPlace, run_size hT hft, hne, if_false, add_addr, Nat.add_assoc]
    ·cases h
   ·cases h
  ·cases h
 ·rename_i cs ti h1 h2
  split at h
  ·rename_i fs hd
   split at h
   ·rename_i f hfi
    split at h
    ·rename_i fi hft
     rw [beq_if] at h
     split at h
     ·cases h
     ·rename_i hne
      cases h
      obtain ⟨vs, b, o, e, hr, hz⟩ := (opd_rel hf h1).of_eptr
      refine ⟨_, VR.eptr _ _ b _ (hr.drop f.offset) (fz_drop hz f.offset), Yl.of (m := Instr.fieldAt t (a.eval x) i) (fun _ _ _ _ _ => rfl) fun W => ?_⟩
      rw [e]
      simp only [Instr.fieldAt, Sem.run_bind, run_und hT h2, hd, Result.andThen_ok, hfi, Instr.sureAddr, Sem.run_pure, fieldPlace, run_size hT hft, hne, if_false, add_addr, Nat.add_assoc]
    ·cases h
   ·cases h
  ·cases h
 ·cases h
theorem indexAddr_rel {t : TypeId} {x y : Operand} {v : AV} (h : pureOp T s (.indexAddr t x y) = some v) : ∃ v', VR β v v' /\ Yl P a (.indexAddr t x y) v' := by
 simp only [pureOp] at h
 split at h
 ·rename_i o off len cap k n ti h1 h2 h3
  split at h
  ·rename_i e hd
   split at h
   ·rename_i ei hei
    rw [Bool.cond_decide] at h
    split at h
    ·rename_i hb
     cases h
     obtain ⟨kb, c, hk, ev, _⟩ := (opd_rel hf h1).of_slc
     have en := (opd_rel hf h2).of_lit
     refine ⟨_, VR.ptr _ _ kb hk, Yl.of (m := Instr.indexAt t (a.eval x) (a.eval y)) (fun _ _ _ _ _ => rfl) fun W => ?_⟩
     rw [ev, en]
     simp only [Instr.indexAt, asIntOf, Sem.run_bind, Sem.run_pure, Result.andThen_ok, run_und hT h3, hd, hb, and_self, if_true, run_size hT hei, add_addr, Nat.add_assoc]
    ·cases h
   ·cases h
  ·cases h
 ·rename_i o off k n ti h1 h2 h3
  split at h
  ·rename_i len e hd
   split at h
   ·rename_i ei hei
    rw [Bool.cond_decide] at h
    split at h
    ·rename_i hb
     cases h
     obtain ⟨kb, hk, ev⟩ := (opd_rel hf h1).of_ptr
     have en := (opd_rel hf h2).of_lit
     refine ⟨_, VR.ptr _ _ kb hk, Yl.of (m := Instr.indexAt t (a.eval x) (a.eval y)) (fun _ _ _ _ _ => rfl) fun W => ?_⟩
     rw [ev, en]
     simp only [Instr.indexAt, asIntOf, Instr.sureAddr, Sem.run_bind, Sem.run_pure, Result.andThen_ok, run_und hT h3, hd, hb, and_self, if_true, run_size hT hei, add_addr, Nat.add_assoc]
    ·cases h
   ·cases h
  ·cases h
 ·rename_i tk es k n ti h1 h2 h3
  split at h
  ·rename_i e hd
   split at h
   ·rename_i ei hei
    rw [Bool.cond_decide] at h
    split at h
    ·rename_i hb0
     split at h
     ·rename_i x0 hx0
      cases hso : sizeOk ei.size x0 with
      | false => rw [hso] at h; cases h
      | true =>
       rw [hso, cond_true] at h
       cases h
       have hso := sizeOk_iff.1 hso
       have hlt := (List.getElem?_eq_some_iff.1 hx0).1
       have hb : 0 <= n /\ n < (es.length : Int) := ⟨hb0, by omega⟩
       rcases (opd_rel hf h1).of_lst with ⟨rfl, _⟩ | ⟨rfl, _⟩ | ⟨sz, vs, b, o, c, ev, g1, g2, g3, g4, g5, g6⟩
       ·simp at hx0
       ·simp at hx0
       ·have en := (opd_rel hf h2).of_lit
        have hsz : sz = ei.size := by rw [<- hso]; exact (g2 x0 (List.mem_of_getElem? hx0)).symm
        have hc := flat_at g2 hx0
        have hr := (g1.drop (n.toNat * sz)).take sz
        rw [hc] at hr
        refine ⟨_, VR.eptr _ _ b _ hr (fz_sub g4 _ _), Yl.of (m := Instr.indexAt t (a.eval x) (a.eval y)) (fun _ _ _ _ _ => rfl) fun W => ?_⟩
        rw [ev, en]
        simp only [Instr.indexAt, asIntOf, Sem.run_bind, Sem.run_pure, Result.andThen_ok, run_und hT h3, hd, hb, and_self, if_true, run_size hT hei, add_addr, Nat.add_assoc, hsz]
     ·cases h
    ·cases h
   ·cases h
  ·cases h
 ·rename_i cs k n ti h1 h2 h3
  split at h
  ·rename_i len e hd
   split at h
   ·rename_i ei hei
    rw [Bool.cond_decide] at h
    split at h
    ·rename_i hb
     cases h
     obtain ⟨vs, b, o, ev, hr, hz⟩ := (opd_rel hf h1).of_eptr
     have en := (opd_rel hf h2).of_lit
     refine ⟨_, VR.eptr _ _ b _ (hr.drop _) (fz_drop hz _), Yl.of (m := Instr.indexAt t (a.eval x) (a.eval y)) (fun _ _ _ _ _ => rfl) fun W => ?_⟩
     rw [ev, en]
     simp only [Instr.indexAt, asIntOf, Instr.sureAddr, Sem.run_bind, Sem.run_pure, Result.andThen_ok, run_und hT h3, hd, hb, and_self, if_true, run_size hT hei, add_addr, Nat.add_assoc]
    ·cases h
   ·cases h
  ·cases h
 ·cases h
theorem index_rel {t : TypeId} {x y : Operand} {v : AV} (h : pureOp T s (.index t x y) = some v) : ∃ v', VR β v v' /\ Yl P a (.index t x y) v' := by
 simp only [pureOp] at h
 split at h
 ·rename_i l k n ti h1 h2 h3
  split at h
  ·rename_i hd
   rw [Bool.cond_decide] at h
   split at h
   ·rename_i hb
    split at h
    ·rename_i b hb2
     cases h
     have ev := (opd_rel hf h1).of_str
     have en := (opd_rel hf h2).of_lit
     refine ⟨_, VR.lit _, Yl.of (m := Instr.index t (a.eval x) (a.eval y)) (fun _ _ _ _ _ => rfl) fun W => ?_⟩
     rw [ev, en]
     have hg : (⟨l.toArray⟩ : ByteArray)[n.toNat]? = some b := by
      have hlt : n.toNat < l.length := (List.getElem?_eq_some_iff.1 hb2).1
      have hl2 : n.toNat < (⟨l.toArray⟩ : ByteArray).size := by rw [str_size]; exact hlt
      rw [getElem?_pos (⟨l.toArray⟩ : ByteArray) n.toNat hl2]
      have : l[n.toNat] = b := by simpa [hlt] using hb2
      rw [<- this]; rfl
     simp only [Instr.index, asIntOf, Sem.run_bind, Sem.run_pure, Result.andThen_ok, run_und hT h3, hd, hb, if_true, hg]
    ·cases h
   ·cases h
  ·cases h
 ·cases h
omit hT
theorem makeInterface_rel (hT : TOk P T) {t : TypeId} {x : Operand} {v : AV} (h : pureOp T s (.makeInterface t x) = some v) : ∃ v', VR β v v' /\ Yl P a (.makeInterface t x) v' := by
 simp only [pureOp] at h
 split at h
 ·rename_i u ti h1 h2
  have hr := opd_rel hf h1
  have key : ∀ d, ti.desc = d -> (∀ ms, d ≠ .interface ms) -> ∀ W, (Instr.makeInterface t (a.eval x)).run P W = .ok (.iface t (a.eval x)) W := by
   intro d hd hn W
   simp only [Instr.makeInterface, Sem.run_bind, run_und hT h2, hd, Result.andThen_ok]
   cases d <;> first | rfl | exact (hn _ rfl).elim
  split at h
  ·cases h
  ·rename_i hn
   cases h
   exact ⟨_, VR.ifc t _ _ hr, Yl.of (m := Instr.makeInterface t (a.eval x)) (fun _ _ _ _ _ => rfl) (key _ rfl (fun ms e => hn ms e))⟩
 ·cases h
theorem len_rel (hT : TOk P T) {c : Call} {v : AV} (h : pureOp T s (.call c) = some v) : ∃ v', VR β v v' /\ Yl P a (.call c) v' := by
 obtain ⟨callee, args, argTypes⟩ := c
 simp only [pureOp] at h
 split at h
 ·rename_i x t ha ht
  have ea : args = #[x] := by apply Array.ext'; simpa using ha
  have et : argTypes = #[t] := by apply Array.ext'; simpa using ht
  subst ea; subst et
  have key : ∀ (u : Value) (n : Nat), a.eval x = u -> (∀ ty W, (Builtin.len_ #[t] ty #[u]).run P W = .ok (goInt n) W) -> Yl P a (.call ⟨.builtin .len, #[x], #[t]⟩) (goInt n) := by
   intro u n e hl dst ty pos after guard W
   simp only [execOp, resolve, invoke, builtin, Sem.run_bind, Sem.run_pure, Result.andThen_ok, pure_bind]
   have : (#[x].map a.eval : Array Value) = #[u] := by simp [e]
   simp only [this, hl, Result.andThen_ok]
  split at h
  ·rename_i l ti h1 h2
   split at h
   ·rename_i hd
    cases h
    have e := (opd_rel hf h1).of_str
    refine ⟨_, VR.lit _, key _ l.length e fun ty W => ?_⟩
    simp [Builtin.len_, run_und hT h2, hd, str_size]
   ·cases h
  ·rename_i o off len cap ti h1 h2
   split at h
   ·rename_i e hd
    cases h
    obtain ⟨k, c, _, e, _⟩ := (opd_rel hf h1).of_slc
    refine ⟨_, VR.lit _, key _ len e fun ty W => ?_⟩
    simp [Builtin.len_, run_und hT h2, hd]
   ·cases h
  ·rename_i n c ti h1 h2
   split at h
   ·rename_i e hd
    cases h
    have e := (opd_rel hf h1).of_lit
    refine ⟨_, VR.lit _, key _ n e fun ty W => ?_⟩
    simp [Builtin.len_, run_und hT h2, hd]
   ·cases h
  ·rename_i tk es ti h1 h2
   split at h
   ·rename_i e hd
    cases h
    obtain ⟨ad, c, e, _⟩ := (opd_rel hf h1).len_lst
    refine ⟨_, VR.lit _, key _ es.length e fun ty W => ?_⟩
    simp [Builtin.len_, run_und hT h2, hd]
   ·cases h
  ·rename_i ti h1 h2
   split at h
   ·rename_i e hd
    cases h
    have hr := opd_rel hf h1
    have e : ∃ p q, a.eval x = .slice (some p) 0 q := by
     generalize a.eval x = w at hr
     cases hr
     exact ⟨_, _, rfl⟩
    obtain ⟨p, q, e⟩ := e
    refine ⟨_, VR.lit _, key _ 0 e fun ty W => ?_⟩
    simp [Builtin.len_, run_und hT h2, hd]
   ·cases h
  ·cases h
 ·rename_i x t ha ht
  have ea : args = #[x] := by apply Array.ext'; simpa using ha
  have et : argTypes = #[t] := by apply Array.ext'; simpa using ht
  subst ea; subst et
  have key : ∀ (u : Value) (n : Nat), a.eval x = u -> (∀ ty W, (Builtin.cap_ #[t] ty #[u]).run P W = .ok (goInt n) W) -> Yl P a (.call ⟨.builtin .cap, #[x], #[t]⟩) (goInt n) := by
   intro u n e hl dst ty pos after guard W
   simp only [execOp, resolve, invoke, builtin, Sem.run_bind, Sem.run_pure, Result.andThen_ok, pure_bind]
   have : (#[x].map a.eval : Array Value) = #[u] := by simp [e]
   simp only [this, hl, Result.andThen_ok]
  split at h
  ·rename_i o off len c ti h1 h2
   split at h
   ·rename_i e hd
    cases h
    obtain ⟨k, c', _, e, hc', _⟩ := (opd_rel hf h1).of_slc
    obtain rfl := hc' c rfl
    refine ⟨_, VR.lit _, key _ c' e fun ty W => ?_⟩
    simp [Builtin.cap_, run_und hT h2, hd]
   ·cases h
  ·rename_i n c ti h1 h2
   split at h
   ·rename_i e hd
    cases h
    have e := (opd_rel hf h1).of_lit
    refine ⟨_, VR.lit _, key _ c e fun ty W => ?_⟩
    simp [Builtin.cap_, run_und hT h2, hd]
   ·cases h
  ·cases h
 ·rename_i x y t u ha ht
  have ea : args = #[x, y] := by apply Array.ext'; simpa using ha
  subst ea
  split at h
  ·rename_i k n k' m h1 h2
   cases h
   have e1 := (opd_rel hf h1).of_lit
   have e2 := (opd_rel hf h2).of_lit
   refine ⟨_, VR.lit _, ?_⟩
   intro dst ty pos after guard W
   simp only [execOp, resolve, invoke, builtin, Sem.run_bind, Sem.run_pure, Result.andThen_ok, pure_bind]
   have e3 : (#[x, y].map a.eval : Array Value) = #[.int k n, .int k' m] := by simp [e1, e2]
   have e4 : (Builtin.max_ argTypes ty #[.int k n, .int k' m]).run P W = .ok (.int k (bif decide (n < m) then m else n)) W := by
    have : (if m > n then m else n) = (bif decide (n < m) then m else n) := by by_cases h : n < m <;> simp [h]
    simp [Builtin.max_, Builtin.max2, this]
   simp only [e3, e4, Result.andThen_ok]
  ·cases h
 ·rename_i x y t u ha ht
  have ea : args = #[x, y] := by apply Array.ext'; simpa using ha
  subst ea
  split at h
  ·rename_i k n k' m h1 h2
   cases h
   have e1 := (opd_rel hf h1).of_lit
   have e2 := (opd_rel hf h2).of_lit
   refine ⟨_, VR.lit _, ?_⟩
   intro dst ty pos after guard W
   simp only [execOp, resolve, invoke, builtin, Sem.run_bind, Sem.run_pure, Result.andThen_ok, pure_bind]
   have e3 : (#[x, y].map a.eval : Array Value) = #[.int k n, .int k' m] := by simp [e1, e2]
   have e4 : (Builtin.min_ argTypes ty #[.int k n, .int k' m]).run P W = .ok (.int k (bif decide (m < n) then m else n)) W := by
    have : (if m < n then m else n) = (bif decide (m < n) then m else n) := by by_cases h : m < n <;> simp [h]
    simp [Builtin.min_, Builtin.min2, this]
   simp only [e3, e4, Result.andThen_ok]
  ·cases h
 ·cases h
end
theorem foldl_put (off : Nat) : ∀ (vs : List Value) (j : Nat) (cs : Array Value), off + j + vs.length <= cs.size ->
  ((vs.zipIdx j).foldl (fun cs (x : Value × Nat) => cs.setIfInBounds (off + x.2) x.1) cs).toList = cs.toList.take (off + j) ++ (vs ++ cs.toList.drop (off + j + vs.length))
 | [], j, cs, h => by simp
 | v :: vs, j, cs, h => by
  simp only [List.length_cons] at h
  rw [List.zipIdx_cons, List.foldl_cons, foldl_put off vs (j + 1) _ (by simp; omega)]
  have hlt : off + j < cs.toList.length := by simp; omega
  simp only [Array.toList_setIfInBounds, List.length_cons]
  rw [show off + (j + 1) = off + j + 1 from by omega, show off + j + 1 + vs.length = off + j + (vs.length + 1) from by omega]
  rw [List.take_set, List.drop_set, if_pos (by omega), List.take_succ_eq_append_getElem hlt]
  rw [List.set_append_right _ _ (by simp; omega)]
  have hm : min (off + j) cs.size = off + j := by simp at hlt; omega
  simp [hm]
theorem fill_step (off : Nat) (vs : Array Value) (cs : Array Value) (h : off + vs.size <= cs.size) :
  (vs.zipIdx.foldl (fun cs (c, j) => cs.setIfInBounds (off + j) c) cs).toList = cs.toList.take off ++ (vs.toList ++ cs.toList.drop (off + vs.toList.length)) := by
 have := foldl_put off vs.toList 0 cs (by simpa using h)
 rw [<- Array.foldl_toList, Array.toList_zipIdx]
 simpa using this
theorem VR.cells_rel {β : Env} {v : AV} {u : Value} (h : VR β v u) (hq : ∀ k, v ≠ .opq k) (hy : v ≠ .any) (hl : ∀ c, v ≠ .lit (.agg c)) : VRs β v.cells u.cells.toList := by
 cases h with
 | agg a x hx => simpa [AV.cells, Value.cells] using hx
 | opq k => exact (hq k rfl).elim
 | any => exact (hy rfl).elim
 | lit =>
  cases u with
  | agg c => exact (hl c rfl).elim
  | _ => exact .cons _ _ _ _ (.lit _) .nil
 | str l => exact .cons _ _ _ _ (.str l) .nil
 | ptr o off k hk => exact .cons _ _ _ _ (.ptr o off k hk) .nil
 | slcX o off len c k hk => exact .cons _ _ _ _ (.slcX o off len c k hk) .nil
 | slcO o off len c z k hk hz h1 h2 => exact .cons _ _ _ _ (.slcO o off len c z k hk hz h1 h2) .nil
 | emp p q => exact .cons _ _ _ _ (.emp p q) .nil
 | mp o k hk => exact .cons _ _ _ _ (.mp o k hk) .nil
 | yld o k hk => exact .cons _ _ _ _ (.yld o k hk) .nil
 | fn f a b x y h1 h2 => exact .cons _ _ _ _ (.fn f a b x y h1 h2) .nil
 | ifc t a w hw => exact .cons _ _ _ _ (.ifc t a w hw) .nil
 | tup a x hx => exact .cons _ _ _ _ (.tup a x hx) .nil
 | lstN tk => exact .cons _ _ _ _ (.lstN tk) .nil
 | lstE tk a c h1 h2 => exact .cons _ _ _ _ (.lstE tk a c h1 h2) .nil
 | lst tk sz es vs b o c h1 h2 h3 h4 h5 h6 => exact .cons _ _ _ _ (.lst tk sz es vs b o c h1 h2 h3 h4 h5 h6) .nil
 | eptr cs vs b o h1 h2 => exact .cons _ _ _ _ (.eptr cs vs b o h1 h2) .nil
 | fmpN => exact .cons _ _ _ _ .fmpN .nil
 | fmp es es' clk r h1 h2 => exact .cons _ _ _ _ (.fmp es es' clk r h1 h2) .nil
theorem VR.cells_ok {β : Env} {v : AV} {u : Value} (h : VR β v u) (hq : flatOk v = true) : VRs β v.cells u.cells.toList :=
 h.cells_rel (fun k e => by subst e; cases hq) (fun e => by subst e; cases hq) (fun c e => by subst e; cases hq)
inductive PR (β : Env) : List (Nat × AV) -> List (Nat × Value) -> Prop where
 | nil : PR β [] []
 | cons (i : Nat) (a : AV) (v : Value) (l : List (Nat × AV)) (x : List (Nat × Value)) (h : VR β a v) (t : PR β l x) : PR β ((i, a) :: l) ((i, v) :: x)
theorem opdParts_rel {β : Env} {s : AS} {a : Act} (h : FR β s a) : ∀ {l : List (Nat × Operand)} {vs : List (Nat × AV)}, opdParts s l = some vs -> PR β vs (l.map fun p => (p.1, a.eval p.2))
 | [], vs, hx => by simp [opdParts] at hx; subst hx; exact .nil
 | (i, x) :: l, vs, hx => by
  simp only [opdParts] at hx
  cases h1 : opd s x with
  | none => simp [h1] at hx
  | some v =>
   cases h2 : opdParts s l with
   | none => simp [h1, h2] at hx
   | some ws =>
    simp [h1, h2] at hx; subst hx
    exact .cons _ _ _ _ _ (opd_rel h h1) (opdParts_rel h h2)
theorem splice_rel {β : Env} {c vs : List AV} {x y : List Value} (h : VRs β c x) (h' : VRs β vs y) (off : Nat) : VRs β (splice c off vs) (x.take off ++ (y ++ x.drop (off + y.length))) := by
 unfold splice
 rw [h'.length]
 exact (h.take off).append (h'.append (h.drop _))
theorem splice_length {c vs : List AV} {off : Nat} (h : off + vs.length <= c.length) : (splice c off vs).length = c.length := by
 unfold splice; simp; omega
theorem fillV_rel {β : Env} {place place' : Nat -> Option (Nat × Nat)} (hp : ∀ i p, place i = some p -> place' i = some p) : ∀ {ps : List (Nat × AV)} {qs : List (Nat × Value)} {cells cs : List AV} {x : Array Value},
  (∀ p ∈ ps, flatOk p.2 = true) -> fillV place cells ps = some cs -> PR β ps qs -> VRs β cells x.toList -> ∃ y, Instr.fill place' x qs = some y /\ VRs β cs y.toList
 | [], _, cells, cs, x, _, h, .nil, hx => by simp only [fillV, Option.some.injEq] at h; subst h; exact ⟨x, rfl, hx⟩
 | (i, v) :: rest, _, cells, cs, x, hfl, h, .cons _ _ u _ qs hv ht, hx => by
  simp only [fillV] at h
  cases hpl : place i with
  | none => simp [hpl] at h
  | some q =>
   obtain ⟨off, size⟩ := q
   simp only [hpl] at h
   cases hb : (decide (v.cells.length = size) && Nat.ble (off + v.cells.length) cells.length) with
   | false => rw [hb] at h; cases h
   | true =>
    rw [hb, cond_true] at h
    simp only [Bool.and_eq_true, decide_eq_true_eq, Nat.ble_eq] at hb
    have hc := hv.cells_ok (hfl (i, v) (by simp))
    have hlen := hc.length
    have hxl := hx.length
    simp only [Array.length_toList] at hlen hxl
    have hstep := fill_step off u.cells x (by omega)
    obtain ⟨y, hy, hr⟩ := fillV_rel hp (fun p hpm => hfl p (by simp [hpm])) h ht (x := u.cells.zipIdx.foldl (fun cs (c, j) => cs.setIfInBounds (off + j) c) x) (by
     rw [hstep]; simpa using splice_rel hx hc off)
    refine ⟨y, ?_, hr⟩
    simp only [Instr.fill, hp i _ hpl]
    rw [if_neg]
    ·exact hy
    ·simp only [Bool.or_eq_true, decide_eq_true_eq, not_or]
     constructor
     ·simp; omega
     ·omega
end Go.Proofs.YtcledcfeddlomaaGreatDoor.Ev
