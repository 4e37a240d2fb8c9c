import Derived.Test.YtcledcfeddlomaaGreatDoorEvY
import Derived.ChangeArms
import Derived.ChangeMaps5
set_option linter.all false
namespace Go.Proofs.YtcledcfeddlomaaGreatDoor.Ev
open Go.RowKit Go.ChangeShapes
def sizeT (T : Tab) (t : Nat) : Nat := match T.t t with | some i => i.size | none => 0
def aggT (T : Tab) (t : Nat) : Bool := match T.t t with | some i => isAggD i.desc | none => false
def contig (T : Tab) : List Field -> Nat -> Nat -> Bool
 | [], off, n => Nat.beq off n
 | f :: fs, off, n => Nat.beq f.offset off && (T.t f.type).isSome && contig T fs (off + sizeT T f.type) n
def chkS (T : Tab) (t : Nat) (i : TI) : Bool := match i.desc with
 | .struct fs => contig T fs.toList 0 i.size
 | .slice e => bif (T.t e).isSome then Nat.blt 0 (sizeT T e) && (aggT T e || Nat.beq (sizeT T e) 1) else true
 | .pointer e => true
 | _ => true
mutual
inductive Ty (T : Tab) : Nat -> List AV -> Prop where
 | unk (t : Nat) (as : List AV) (h : T.t t = none) (ha : ∀ a ∈ as, a = .any) : Ty T t as
 | oth (t : Nat) (i : TI) (as : List AV) (h : T.t t = some i) (hd : (match i.desc with | .bool => false | .int _ => false | .string => false | .pointer _ => false | .slice _ => false | .struct _ => false | _ => true) = true) (ha : ∀ a ∈ as, a = .any) : Ty T t as
 | bool (t : Nat) (i : TI) (b : Bool) (h : T.t t = some i) (hd : i.desc = .bool) : Ty T t [.lit (.bool b)]
 | int (t : Nat) (i : TI) (k : IntKind) (n : Int) (h : T.t t = some i) (hd : i.desc = .int k) (hw : (Lit.int k n).wf = true) : Ty T t [.lit (.int k n)]
 | str (t : Nat) (i : TI) (l : List UInt8) (h : T.t t = some i) (hd : i.desc = .string) (hl : l.length <= maxLen) : Ty T t [.str l]
 | pnil (t : Nat) (i : TI) (e : Nat) (h : T.t t = some i) (hd : i.desc = .pointer e) : Ty T t [.lit (.pointer none)]
 | ptr (t : Nat) (i : TI) (e : Nat) (cs : List AV) (h : T.t t = some i) (hd : i.desc = .pointer e) (hc : Ty T e cs) (hl : cs.length = sizeT T e) : Ty T t [.eptr cs]
 | pany (t : Nat) (i : TI) (e : Nat) (h : T.t t = some i) (hd : i.desc = .pointer e) (hu : T.t e = none ∨ sizeT T e = 0) : Ty T t [.any]
 | sany (t : Nat) (i : TI) (e : Nat) (h : T.t t = some i) (hd : i.desc = .slice e) (hu : T.t e = none) : Ty T t [.any]
 | slc (t : Nat) (i : TI) (e : Nat) (es : List AV) (h : T.t t = some i) (hd : i.desc = .slice e) (hl : es.length <= maxLen)
   (he : ∀ x ∈ es, Ty T e x.cells) (hs : ∀ x ∈ es, x.cells.length = sizeT T e) (ha : ∀ x ∈ es, (aggT T e = true -> ∃ cs, x = .agg cs) /\ (aggT T e = false -> x.cells = [x])) : Ty T t [.lst .no es]
 | struct (t : Nat) (i : TI) (fs : Array Field) (as : List AV) (h : T.t t = some i) (hd : i.desc = .struct fs) (hf : TyS T fs.toList as) : Ty T t as
inductive TyS (T : Tab) : List Field -> List AV -> Prop where
 | nil : TyS T [] []
 | cons (f : Field) (fs : List Field) (a b : List AV) (h : Ty T f.type a) (hl : a.length = sizeT T f.type) (t : TyS T fs b) : TyS T (f :: fs) (a ++ b)
end
section
variable {P : Program} {T : Tab} (hT : TOk P T)
include hT
theorem cellsOf_eq {t : Nat} {i : TI} (h : T.t t = some i) : P.cellsOf t = i.size := by
 obtain ⟨inf, h1, h2, _⟩ := (hT.ty t i h).2.1
 simp [Program.cellsOf, h1, h2]
omit hT in
theorem cells_fz {W : World} {b o n : Nat} {l : List Value} (h : W.cells? 0 ⟨b, o, none⟩ n = some l) : l.length = n /\ ∀ (j : Nat) v, l[j]? = some v -> fzOf W b (o + j) = some v := by
 unfold World.cells? at h
 rw [if_pos (Nat.zero_le _)] at h
 have hl := mapM_some_length h
 refine ⟨by simpa using hl, fun j v hj => ?_⟩
 have hlt : j < n := by
  have := (List.getElem?_eq_some_iff.1 hj).1
  simp at hl; omega
 have := mapM_some_get h j j (by simp [hlt])
 rw [add_addr] at this
 rw [<- this] at hj
 unfold World.cell? at hj
 unfold fzOf
 simp only at hj
 split at hj
 ·rename_i c e f hc
  rw [hc]
  simpa using hj
 ·cases hj
omit hT in
theorem cells_spot {W : World} {a : Addr} {n : Nat} {l : List Value} (h : W.cells? 0 a n = some l) (hn : 0 < n) : a.spot = none := by
 unfold World.cells? at h
 rw [if_pos (Nat.zero_le _)] at h
 have hl := mapM_some_length h
 have := mapM_some_get h 0 0 (by simp [hn])
 have hl2 : 0 < l.length := by simp at hl; omega
 rw [List.getElem?_eq_getElem hl2] at this
 simp only [Addr.add, if_true] at this
 simpa using World.cell?_spot this
theorem arg_rel (hC : ∀ t i, T.t t = some i -> chkS T t i = true) {H : Type} {enc : TypeId × Value -> H} (q : Nat -> Value) (W : World) {sp : Nat -> Bool} {held : Bool} : ∀ (fuel t : Nat) (cs : List Value) (x : DataW H × List MemPlace), DataW.trod enc P W 0 sp held fuel t cs = some x ->
  ∃ as, VRs (env0 q W) as cs /\ Ty T t as
 | 0, t, cs, x, h => by simp [DataW.trod] at h
 | fuel + 1, t, cs, x, h => by
  have hany : VRs (env0 q W) (cs.map fun _ => AV.any) cs := by
   clear h
   induction cs with
   | nil => exact .nil
   | cons a l ih => exact .cons _ _ _ _ (.any _) ih
  have hany' : ∀ a ∈ cs.map (fun _ => AV.any), a = .any := fun a ha => by obtain ⟨_, _, rfl⟩ := List.mem_map.1 ha; rfl
  cases ht : T.t t with
  | none => exact ⟨_, hany, .unk t _ ht hany'⟩
  | some i =>
   have hu := (hT.ty t i ht).1
   have hc := hC t i ht
   have pl : ∀ a : Addr, a.spot = none -> a = ⟨a.block, a.off, none⟩ := fun a h => by cases a; simp only at h; subst h; rfl
   cases hd : i.desc with
   | bool =>
    rw [hd] at hu
    obtain ⟨b, rfl, _⟩ := DataW.trod_bool hu h
    exact ⟨[.lit (.bool b)], .cons _ _ _ _ (.lit _) .nil, .bool t i b ht hd⟩
   | int k =>
    rw [hd] at hu
    obtain ⟨n, rfl, _, hw⟩ := DataW.trod_int hu h
    exact ⟨[.lit (.int k n)], .cons _ _ _ _ (.lit _) .nil, .int t i k n ht hd hw⟩
   | string =>
    rw [hd] at hu
    obtain ⟨s, rfl, _, hs⟩ := DataW.trod_string hu h
    refine ⟨[.str s.data.toList], .cons _ _ _ _ (VR.str _) .nil, .str t i _ ht hd ?_⟩
    have : s.data.toList.length = s.size := Array.length_toList
    rw [this]; exact hs
   | pointer e =>
    rw [hd] at hu
    rcases DataW.trod_pointer hu h with ⟨rfl, _⟩ | ⟨a, cs', y, n, hn, rfl, _, hc', hy⟩
    ·exact ⟨[.lit (.pointer none)], .cons _ _ _ _ (.lit _) .nil, .pnil t i e ht hd⟩
    ·cases he : T.t e with
     | none => exact ⟨[.any], .cons _ _ _ _ (.any _) .nil, .pany t i e ht hd (.inl he)⟩
     | some ei =>
      have hse : sizeT T e = ei.size := by simp [sizeT, he]
      rw [cellsOf_eq hT he] at hc'
      by_cases h0 : ei.size = 0
      ·exact ⟨[.any], .cons _ _ _ _ (.any _) .nil, .pany t i e ht hd (.inr (by rw [hse]; exact h0))⟩
      ·have hsp := pl a (cells_spot hc' (by omega))
       rw [hsp] at hc'
       obtain ⟨l1, l2⟩ := cells_fz hc'
       cases hn
       obtain ⟨as, r1, r2⟩ := arg_rel hC q W fuel e cs' y hy
       refine ⟨[.eptr as], .cons _ _ _ _ ?_ .nil, .ptr t i e as ht hd r2 (by rw [hse, <- l1]; exact r1.length.symm)⟩
       rw [hsp]
       exact VR.eptr as cs' _ _ r1 l2
   | slice e =>
    rw [hd] at hu
    rcases DataW.trod_slice hu h with ⟨rfl, _⟩ | ⟨a, len, cap, elems, rest, n, hn, rfl, _, _, hlc, hcm, hel, hat, _, _⟩
    ·exact ⟨[.lst .no []], .cons _ _ _ _ (.lstN _) .nil, .slc t i e [] ht hd (Nat.zero_le _) (fun _ h => by cases h) (fun _ h => by cases h) (fun _ h => by cases h)⟩
    ·cases he : T.t e with
     | none => exact ⟨[.any], .cons _ _ _ _ (.any _) .nil, .sany t i e ht hd he⟩
     | some ei =>
      have hse : sizeT T e = ei.size := by simp [sizeT, he]
      have hag : aggT T e = isAggD ei.desc := by simp [aggT, he]
      have hci := hc
      unfold chkS at hci
      rw [hd] at hci
      simp only [he, Option.isSome_some, cond_true, Bool.and_eq_true, blt_lt, Bool.or_eq_true] at hci
      obtain ⟨c1, c2⟩ := hci
      rw [hse] at c1 c2
      rw [cellsOf_eq hT he] at hat
      cases hn
      by_cases h0 : len = 0
      ·subst h0
       exact ⟨[.lst .no []], .cons _ _ _ _ (.lstE _ _ _ (fun e => by cases e) (fun o e => by cases e)) .nil, .slc t i e [] ht hd (Nat.zero_le _) (fun _ h => by cases h) (fun _ h => by cases h) (fun _ h => by cases h)⟩
      ·have key : ∀ k, k < len -> ∃ (l : List Value) (y : DataW H × List MemPlace), W.cells? 0 (a.add (k * ei.size)) ei.size = some l /\ DataW.trod enc P W 0 sp held fuel e l = some y := by
        intro k hk
        have := hat k hk
        rw [List.getElem?_eq_getElem (by omega)] at this
        obtain ⟨l, h1, h2⟩ := Option.bind_eq_some_iff.1 this
        exact ⟨l, _, h1, h2⟩
       have hsp : a = ⟨a.block, a.off, none⟩ := by
        obtain ⟨l, y, h1, _⟩ := key 0 (by omega)
        rw [Nat.zero_mul] at h1
        have : a.add 0 = a := by simp [Addr.add]
        rw [this] at h1
        exact pl a (cells_spot h1 c1)
       have build : ∀ m, m <= len -> ∃ (es : List AV) (vs : List Value), es.length = m /\ VRs (env0 q W) (es.flatMap AV.cells) vs /\ vs.length = m * ei.size /\ (∀ x ∈ es, Ty T e x.cells) /\ (∀ x ∈ es, x.cells.length = ei.size) /\ (∀ x ∈ es, (aggT T e = true -> ∃ cs, x = .agg cs) /\ (aggT T e = false -> x.cells = [x])) /\
         ∀ (j : Nat) v, vs[j]? = some v -> fzOf W a.block (a.off + j) = some v := by
        intro m
        induction m with
        | zero => intro _; exact ⟨[], [], rfl, .nil, by simp, fun _ h => (by cases h), fun _ h => (by cases h), fun _ h => (by cases h), fun j v h => by simp at h⟩
        | succ m ih =>
         intro hm
         obtain ⟨es, vs, b1, b2, b3, b4, b5, b6, b7⟩ := ih (by omega)
         obtain ⟨l, y, h1, h2⟩ := key m (by omega)
         rw [hsp, add_addr] at h1
         obtain ⟨l1, l2⟩ := cells_fz h1
         obtain ⟨as, r1, r2⟩ := arg_rel hC q W fuel e l y h2
         have hal := r1.length
         have hx : ∃ x : AV, x.cells = as /\ (aggT T e = true -> ∃ cs, x = .agg cs) /\ (aggT T e = false -> x.cells = [x]) := by
          cases hb : aggT T e with
          | true => exact ⟨.agg as, rfl, fun _ => ⟨as, rfl⟩, fun h => by cases h⟩
          | false =>
           rw [hb] at c2
           have h1 : ei.size = 1 := c2.elim (fun x => by cases x) Nat.eq_of_beq_eq_true
           have : as.length = 1 := by omega
           obtain ⟨z, rfl⟩ := List.length_eq_one_iff.1 this
           have hz : ∀ cs, z ≠ .agg cs := by
            rintro cs rfl
            have hnagg : isAggD ei.desc = false := by rw [<- hag]; exact hb
            cases r2 with
            | unk _ _ h _ => rw [he] at h; cases h
            | oth _ i2 _ h hd2 ha => exact AV.noConfusion (ha _ (List.mem_singleton.2 rfl))
            | struct _ i2 fs _ h hd2 _ =>
             rw [he] at h; cases h
             rw [hd2] at hnagg; cases hnagg
           have hzc : z.cells = [z] := by cases z <;> first | rfl | exact (hz _ rfl).elim
           exact ⟨z, hzc, (fun h => Bool.noConfusion h), (fun _ => hzc)⟩
         obtain ⟨x, x1, x2⟩ := hx
         refine ⟨es ++ [x], vs ++ l, by simp [b1], ?_, ?_, ?_, ?_, ?_, ?_⟩
         ·rw [List.flatMap_append]
          have : [x].flatMap AV.cells = as := by simp [x1]
          rw [this]; exact b2.append r1
         ·rw [List.length_append, b3, l1, Nat.succ_mul]
         ·intro z hz
          rcases List.mem_append.1 hz with h | h
          ·exact b4 z h
          ·rw [List.mem_singleton.1 h, x1]; exact r2
         ·intro z hz
          rcases List.mem_append.1 hz with h | h
          ·exact b5 z h
          ·rw [List.mem_singleton.1 h, x1]; omega
         ·intro z hz
          rcases List.mem_append.1 hz with h | h
          ·exact b6 z h
          ·rw [List.mem_singleton.1 h]; exact x2
         ·intro j v hj
          by_cases c : j < vs.length
          ·rw [List.getElem?_append_left c] at hj; exact b7 j v hj
          ·rw [List.getElem?_append_right (by omega)] at hj
           have := l2 _ v hj
           rw [show a.off + m * ei.size + (j - vs.length) = a.off + j from by omega] at this
           exact this
       obtain ⟨es, vs, b1, b2, b3, b4, b5, b6, b7⟩ := build len (Nat.le_refl _)
       refine ⟨[.lst .no es], .cons _ _ _ _ ?_ .nil, .slc t i e es ht hd (by omega) b4 (by rw [hse]; exact b5) b6⟩
       rw [hsp, <- b1]
       exact VR.lst .no ei.size es vs _ _ cap b2 b5 c1 b7 (by omega) trivial
   | struct fs =>
    rw [hd] at hu
    obtain ⟨xs, n, hn, _, hl, _, hat⟩ := DataW.trod_struct hu h
    cases hn
    rw [cellsOf_eq hT ht] at hl
    have hci := hc
    unfold chkS at hci
    rw [hd] at hci
    simp only at hci
    have go : ∀ (fl : List Field) (k : Nat), fs.toList.drop k = fl -> ∀ off, contig T fl off i.size = true -> off <= i.size -> ∃ as, VRs (env0 q W) as (cs.drop off) /\ TyS T fl as := by
     intro fl
     induction fl with
     | nil =>
      intro k _ off hct _
      have : off = i.size := Nat.eq_of_beq_eq_true hct
      rw [List.drop_of_length_le (by omega)]
      exact ⟨[], .nil, .nil⟩
     | cons f fl ih =>
      intro k hk off hct hle
      simp only [contig, Bool.and_eq_true] at hct
      obtain ⟨⟨g1, g2⟩, g3⟩ := hct
      have g1 := Nat.eq_of_beq_eq_true g1
      cases hft : T.t f.type with
      | none => rw [hft] at g2; cases g2
      | some fi =>
       have hsf : sizeT T f.type = fi.size := by simp [sizeT, hft]
       have hfk : fs[k]? = some f := by
        have : fs.toList[k]? = some f := by
         have : (fs.toList.drop k)[0]? = some f := by rw [hk]; rfl
         rw [List.getElem?_drop] at this; simpa using this
        rw [<- Array.getElem?_toList]; exact this
       have hle2 : off + sizeT T f.type <= i.size := by
        clear ih
        have : ∀ (fl : List Field) off, contig T fl off i.size = true -> off <= i.size := by
         intro fl
         induction fl with
         | nil => intro off h; have := Nat.eq_of_beq_eq_true h; omega
         | cons f fl ih => intro off h; simp only [contig, Bool.and_eq_true] at h; have := ih _ h.2; omega
        exact this fl _ g3
       have hx := hat k f hfk
       rw [cellsOf_eq hT hft, g1] at hx
       have hxl : k < xs.length := by
        have hk2 := (Array.getElem?_eq_some_iff.1 hfk).1
        omega
       rw [List.getElem?_eq_getElem hxl] at hx
       obtain ⟨as, r1, r2⟩ := arg_rel hC q W fuel f.type _ _ hx
       obtain ⟨bs, s1, s2⟩ := ih (k + 1) (by rw [<- List.drop_drop, hk]; rfl) _ g3 hle2
       refine ⟨as ++ bs, ?_, .cons f fl as bs r2 ?_ s2⟩
       ·have := r1.append s1
        rw [hsf, <- List.drop_drop, List.take_append_drop] at this
        exact this
       ·have := r1.length
        rw [List.length_take, List.length_drop] at this
        rw [hsf] at hle2 ⊢; omega
    obtain ⟨as, r1, r2⟩ := go fs.toList 0 rfl 0 hci (Nat.zero_le _)
    exact ⟨as, by simpa using r1, .struct t i fs as ht hd r2⟩
   | _ => exact ⟨_, hany, .oth t i _ ht (by rw [hd]) hany'⟩
end
section
variable {T : Tab} {t : Nat} {i : TI} {as : List AV}
theorem Ty.of_int {k : IntKind} (h : Ty T t as) (ht : T.t t = some i) (hd : i.desc = .int k) : ∃ n, as = [.lit (.int k n)] /\ (Lit.int k n).wf = true := by
 cases h with
 | int _ i2 k2 n h hd2 hw => rw [ht] at h; cases h; rw [hd] at hd2; cases hd2; exact ⟨n, rfl, hw⟩
 | unk _ _ h _ => rw [ht] at h; cases h
 | oth _ i2 _ h hd2 _ => rw [ht] at h; cases h; rw [hd] at hd2; cases hd2
 | struct _ i2 fs _ h hd2 _ => rw [ht] at h; cases h; rw [hd] at hd2; cases hd2
 | bool _ i2 _ h hd2 => rw [ht] at h; cases h; rw [hd] at hd2; cases hd2
 | str _ i2 _ h hd2 _ => rw [ht] at h; cases h; rw [hd] at hd2; cases hd2
 | pnil _ i2 _ h hd2 => rw [ht] at h; cases h; rw [hd] at hd2; cases hd2
 | ptr _ i2 _ _ h hd2 _ _ => rw [ht] at h; cases h; rw [hd] at hd2; cases hd2
 | pany _ i2 _ h hd2 _ => rw [ht] at h; cases h; rw [hd] at hd2; cases hd2
 | sany _ i2 _ h hd2 _ => rw [ht] at h; cases h; rw [hd] at hd2; cases hd2
 | slc _ i2 _ _ h hd2 _ _ _ _ => rw [ht] at h; cases h; rw [hd] at hd2; cases hd2
theorem Ty.of_bool (h : Ty T t as) (ht : T.t t = some i) (hd : i.desc = .bool) : ∃ b, as = [.lit (.bool b)] := by
 cases h with
 | bool _ i2 b h hd2 => exact ⟨b, rfl⟩
 | unk _ _ h _ => rw [ht] at h; cases h
 | oth _ i2 _ h hd2 _ => rw [ht] at h; cases h; rw [hd] at hd2; cases hd2
 | struct _ i2 fs _ h hd2 _ => rw [ht] at h; cases h; rw [hd] at hd2; cases hd2
 | int _ i2 _ _ h hd2 _ => rw [ht] at h; cases h; rw [hd] at hd2; cases hd2
 | str _ i2 _ h hd2 _ => rw [ht] at h; cases h; rw [hd] at hd2; cases hd2
 | pnil _ i2 _ h hd2 => rw [ht] at h; cases h; rw [hd] at hd2; cases hd2
 | ptr _ i2 _ _ h hd2 _ _ => rw [ht] at h; cases h; rw [hd] at hd2; cases hd2
 | pany _ i2 _ h hd2 _ => rw [ht] at h; cases h; rw [hd] at hd2; cases hd2
 | sany _ i2 _ h hd2 _ => rw [ht] at h; cases h; rw [hd] at hd2; cases hd2
 | slc _ i2 _ _ h hd2 _ _ _ _ => rw [ht] at h; cases h; rw [hd] at hd2; cases hd2
theorem Ty.of_str (h : Ty T t as) (ht : T.t t = some i) (hd : i.desc = .string) : ∃ l, as = [.str l] /\ l.length <= maxLen := by
 cases h with
 | str _ i2 l h hd2 hl => exact ⟨l, rfl, hl⟩
 | unk _ _ h _ => rw [ht] at h; cases h
 | oth _ i2 _ h hd2 _ => rw [ht] at h; cases h; rw [hd] at hd2; cases hd2
 | struct _ i2 fs _ h hd2 _ => rw [ht] at h; cases h; rw [hd] at hd2; cases hd2
 | int _ i2 _ _ h hd2 _ => rw [ht] at h; cases h; rw [hd] at hd2; cases hd2
 | bool _ i2 _ h hd2 => rw [ht] at h; cases h; rw [hd] at hd2; cases hd2
 | pnil _ i2 _ h hd2 => rw [ht] at h; cases h; rw [hd] at hd2; cases hd2
 | ptr _ i2 _ _ h hd2 _ _ => rw [ht] at h; cases h; rw [hd] at hd2; cases hd2
 | pany _ i2 _ h hd2 _ => rw [ht] at h; cases h; rw [hd] at hd2; cases hd2
 | sany _ i2 _ h hd2 _ => rw [ht] at h; cases h; rw [hd] at hd2; cases hd2
 | slc _ i2 _ _ h hd2 _ _ _ _ => rw [ht] at h; cases h; rw [hd] at hd2; cases hd2
theorem Ty.of_slc {e : Nat} {ei : TI} (h : Ty T t as) (ht : T.t t = some i) (hd : i.desc = .slice e) (he : T.t e = some ei) :
  ∃ es, as = [.lst .no es] /\ es.length <= maxLen /\ (∀ x ∈ es, Ty T e x.cells) /\ (∀ x ∈ es, (aggT T e = true -> ∃ cs, x = .agg cs) /\ (aggT T e = false -> x.cells = [x])) := by
 cases h with
 | slc _ i2 e2 es h hd2 hl h1 h2 h3 => rw [ht] at h; cases h; rw [hd] at hd2; cases hd2; exact ⟨es, rfl, hl, h1, h3⟩
 | unk _ _ h _ => rw [ht] at h; cases h
 | oth _ i2 _ h hd2 _ => rw [ht] at h; cases h; rw [hd] at hd2; cases hd2
 | struct _ i2 fs _ h hd2 _ => rw [ht] at h; cases h; rw [hd] at hd2; cases hd2
 | int _ i2 _ _ h hd2 _ => rw [ht] at h; cases h; rw [hd] at hd2; cases hd2
 | bool _ i2 _ h hd2 => rw [ht] at h; cases h; rw [hd] at hd2; cases hd2
 | str _ i2 _ h hd2 _ => rw [ht] at h; cases h; rw [hd] at hd2; cases hd2
 | pnil _ i2 _ h hd2 => rw [ht] at h; cases h; rw [hd] at hd2; cases hd2
 | ptr _ i2 _ _ h hd2 _ _ => rw [ht] at h; cases h; rw [hd] at hd2; cases hd2
 | pany _ i2 _ h hd2 _ => rw [ht] at h; cases h; rw [hd] at hd2; cases hd2
 | sany _ i2 e2 h hd2 hu => rw [ht] at h; cases h; rw [hd] at hd2; cases hd2; rw [he] at hu; cases hu
theorem Ty.of_struct {fs : Array Field} (h : Ty T t as) (ht : T.t t = some i) (hd : i.desc = .struct fs) : TyS T fs.toList as := by
 cases h with
 | struct _ i2 fs2 _ h hd2 hf => rw [ht] at h; cases h; rw [hd] at hd2; cases hd2; exact hf
 | slc _ i2 e2 es h hd2 hl h1 h2 h3 => rw [ht] at h; cases h; rw [hd] at hd2; cases hd2
 | unk _ _ h _ => rw [ht] at h; cases h
 | oth _ i2 _ h hd2 _ => rw [ht] at h; cases h; rw [hd] at hd2; cases hd2
 | int _ i2 _ _ h hd2 _ => rw [ht] at h; cases h; rw [hd] at hd2; cases hd2
 | bool _ i2 _ h hd2 => rw [ht] at h; cases h; rw [hd] at hd2; cases hd2
 | str _ i2 _ h hd2 _ => rw [ht] at h; cases h; rw [hd] at hd2; cases hd2
 | pnil _ i2 _ h hd2 => rw [ht] at h; cases h; rw [hd] at hd2; cases hd2
 | ptr _ i2 _ _ h hd2 _ _ => rw [ht] at h; cases h; rw [hd] at hd2; cases hd2
 | pany _ i2 _ h hd2 _ => rw [ht] at h; cases h; rw [hd] at hd2; cases hd2
 | sany _ i2 e2 h hd2 hu => rw [ht] at h; cases h; rw [hd] at hd2; cases hd2
theorem TyS.of_cons {f : Field} {fs : List Field} (h : TyS T (f :: fs) as) : ∃ a b, as = a ++ b /\ Ty T f.type a /\ TyS T fs b := by
 cases h with
 | cons _ _ a b h hl t => exact ⟨a, b, rfl, h, t⟩
theorem TyS.of_nil (h : TyS T [] as) : as = [] := by cases h; rfl
end
end Go.Proofs.YtcledcfeddlomaaGreatDoor.Ev
