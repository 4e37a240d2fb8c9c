import Derived.LoopNIn
import Derived.RangeFuncRecord
import Derived.Below
set_option linter.all false
namespace Go.Proofs.YtcledcfeddlomaaGreatDoor.Ev
open Go.RowKit
theorem dcT {p : Prop} [Decidable p] (h : p) : decide p = true := decide_eq_true h
theorem dcF {p : Prop} [Decidable p] (h : ¬p) : decide p = false := decide_eq_false h
theorem an {p q : Prop} (a : p) (b : q) : p /\ q := ⟨a, b⟩
theorem atS {α : Type} {l : List α} {i : Nat} (h : i < l.length) : ∃ v, l[i] = v /\ decide ((i : Int) < l.length) = true /\ decide (0 <= (i : Int)) = true /\ l[i]? = some v /\ l.drop i = v :: l.drop (i + 1) /\ l.take (i + 1) = l.take i ++ [v] :=
  ⟨_, rfl, dcT (Int.ofNat_lt.2 h), dcT (Int.natCast_nonneg i), List.getElem?_eq_getElem _, List.drop_eq_getElem_cons h, List.take_succ_eq_append_getElem h⟩
def lG := an @List.getElem?_map.{0, 0} (an @List.length_map.{0, 0} @Int.toNat_natCast)
inductive Tr (α : Type) where
 | lf
 | nd (v : α) (l r : Tr α)
def Tr.get {α : Type} (d : α) : Tr α -> Nat -> α
 | .lf, _ => d
 | .nd v l r, n => bif Nat.beq n 0 then v else bif Nat.beq (n % 2) 1 then l.get d (n / 2) else r.get d (n / 2 - 1)
def Tr.set {α : Type} (d : α) (x : α) : Nat -> Tr α -> Nat -> Tr α
 | 0, t, _ => t
 | k + 1, .lf, n => bif Nat.beq n 0 then .nd x .lf .lf else bif Nat.beq (n % 2) 1 then .nd d (Tr.set d x k .lf (n / 2)) .lf else .nd d .lf (Tr.set d x k .lf (n / 2 - 1))
 | k + 1, .nd v l r, n => bif Nat.beq n 0 then .nd x l r else bif Nat.beq (n % 2) 1 then .nd v (Tr.set d x k l (n / 2)) r else .nd v l (Tr.set d x k r (n / 2 - 1))
theorem Tr.get_lf {α : Type} (d : α) (m : Nat) : (Tr.lf : Tr α).get d m = d := rfl
theorem beq_if {α : Type} (n k : Nat) (a b : α) : (bif Nat.beq n k then a else b) = if n = k then a else b := by
 by_cases h : n = k
 ·subst h; rw [if_pos rfl]
  have : Nat.beq n n = true := Nat.beq_refl n
  rw [this, cond_true]
 ·rw [if_neg h]
  cases hb : Nat.beq n k with
  | false => rfl
  | true => exact absurd (Nat.eq_of_beq_eq_true hb) h
theorem Tr.get_nd {α : Type} (d v : α) (l r : Tr α) (n : Nat) : (Tr.nd v l r).get d n = if n = 0 then v else if n % 2 = 1 then l.get d (n / 2) else r.get d (n / 2 - 1) := by
 simp only [Tr.get, beq_if]
theorem Tr.get_set {α : Type} (d x : α) : ∀ (k : Nat) (t : Tr α) (n m : Nat), n < k -> (Tr.set d x k t n).get d m = if m = n then x else t.get d m := by
 intro k
 induction k with
 | zero => intro t n m h; omega
 | succ k ih =>
  intro t n m h
  cases t with
  | lf =>
   simp only [Tr.set, beq_if]
   by_cases h0 : n = 0
   ·subst h0; rw [if_pos rfl, Tr.get_nd]; simp only [Tr.get_lf]; split <;> (try split) <;> rfl
   ·rw [if_neg h0]
    by_cases h1 : n % 2 = 1
    ·rw [if_pos h1, Tr.get_nd, ih _ _ _ (by omega)]
     simp only [Tr.get_lf]
     by_cases hm : m = n
     ·subst hm; rw [if_neg h0, if_pos h1, if_pos rfl, if_pos rfl]
     ·rw [if_neg hm]
      split
      ·rfl
      ·split
       ·rw [if_neg (by omega)]
       ·rfl
    ·rw [if_neg h1, Tr.get_nd, ih _ _ _ (by omega)]
     simp only [Tr.get_lf]
     by_cases hm : m = n
     ·subst hm; rw [if_neg h0, if_neg h1, if_pos rfl, if_pos rfl]
     ·rw [if_neg hm]
      split
      ·rfl
      ·split
       ·rfl
       ·rw [if_neg (by omega)]
  | nd v l r =>
   simp only [Tr.set, beq_if]
   by_cases h0 : n = 0
   ·subst h0; rw [if_pos rfl, Tr.get_nd, Tr.get_nd]; split <;> rfl
   ·rw [if_neg h0]
    by_cases h1 : n % 2 = 1
    ·rw [if_pos h1, Tr.get_nd, Tr.get_nd, ih _ _ _ (by omega)]
     by_cases hm : m = n
     ·subst hm; rw [if_neg h0, if_pos h1, if_pos rfl, if_pos rfl]
     ·rw [if_neg hm]
      split
      ·rfl
      ·split
       ·rw [if_neg (by omega)]
       ·rfl
    ·rw [if_neg h1, Tr.get_nd, Tr.get_nd, ih _ _ _ (by omega)]
     by_cases hm : m = n
     ·subst hm; rw [if_neg h0, if_neg h1, if_pos rfl, if_pos rfl]
     ·rw [if_neg hm]
      split
      ·rfl
      ·split
       ·rfl
       ·rw [if_neg (by omega)]
def Tr.put {α : Type} (d : α) (t : Tr α) (n : Nat) (x : α) : Tr α := Tr.set d x (n + 1) t n
theorem Tr.get_put {α : Type} (d x : α) (t : Tr α) (n m : Nat) : (t.put d n x).get d m = if m = n then x else t.get d m :=
 Tr.get_set d x (n + 1) t n m (by omega)
inductive ACap where
 | ex (c : Nat)
 | op (z : Nat)
 deriving Inhabited
inductive ATk where
 | no
 | full
 | room (o : Nat)
 deriving Inhabited
inductive AV where
 | lit (v : Value)
 | str (l : List UInt8)
 | ptr (o off : Nat)
 | slc (o off len : Nat) (cap : ACap)
 | emp
 | mp (o : Nat)
 | yld (o : Nat)
 | fn (f : Fn) (first captured : List AV)
 | ifc (t : TypeId) (v : AV)
 | agg (cs : List AV)
 | tup (vs : List AV)
 | opq (k : Nat)
 | any
 | lst (tk : ATk) (es : List AV)
 | eptr (cs : List AV)
 | fmp (es : List (AV × AV × Nat))
 deriving Inhabited
def AV.cells : AV -> List AV
 | .agg cs => cs
 | a => [a]
structure Bk where
 blk : Nat
 sh : Nat
 sz : Nat
 esz : Nat
structure Env where
 b : Nat -> Option Bk
 q : Nat -> Value
 fz : Nat -> Nat -> Option Value
 fm : Nat -> Option Obj
def TK (β : Env) (tk : ATk) (sz b e l : Nat) : Prop :=
 match tk with
 | .no => True
 | .full => e = l
 | .room t => ∃ k, β.b t = some k /\ k.blk = b /\ k.sh = e /\ k.sz = l /\ k.esz = sz
mutual
inductive VR (β : Env) : AV -> Value -> Prop where
 | lit (v : Value) : VR β (.lit v) v
 | str (l : List UInt8) : VR β (.str l) (.string ⟨l.toArray⟩)
 | ptr (o off : Nat) (k : Bk) (h : β.b o = some k) : VR β (.ptr o off) (.pointer (some ⟨k.blk, k.sh + off, none⟩))
 | slcX (o off len c : Nat) (k : Bk) (h : β.b o = some k) : VR β (.slc o off len (.ex c)) (.slice (some ⟨k.blk, k.sh + off, none⟩) len c)
 | slcO (o off len c z : Nat) (k : Bk) (h : β.b o = some k) (hz : k.esz = z) (hc : k.sh + off + c * z = k.sz) (hl : len <= c) : VR β (.slc o off len (.op z)) (.slice (some ⟨k.blk, k.sh + off, none⟩) len c)
 | emp (a : Addr) (c : Nat) : VR β .emp (.slice (some a) 0 c)
 | mp (o : Nat) (k : Bk) (h : β.b o = some k) : VR β (.mp o) (.map (some k.blk))
 | yld (o : Nat) (k : Bk) (h : β.b o = some k) : VR β (.yld o) (.func (.yield k.blk) #[] #[])
 | fn (f : Fn) (a b : List AV) (x y : List Value) (h1 : VRs β a x) (h2 : VRs β b y) : VR β (.fn f a b) (.func f x.toArray y.toArray)
 | ifc (t : TypeId) (a : AV) (v : Value) (h : VR β a v) : VR β (.ifc t a) (.iface t v)
 | agg (a : List AV) (x : List Value) (h : VRs β a x) : VR β (.agg a) (.agg x.toArray)
 | tup (a : List AV) (x : List Value) (h : VRs β a x) : VR β (.tup a) (.tuple x.toArray)
 | opq (k : Nat) : VR β (.opq k) (β.q k)
 | any (v : Value) : VR β .any v
 | lstN (tk : ATk) : VR β (.lst tk []) (.slice none 0 0)
 | lstE (tk : ATk) (a : Addr) (c : Nat) (hf : tk = .full -> c = 0) (hr : ∀ o, tk ≠ .room o) : VR β (.lst tk []) (.slice (some a) 0 c)
 | lst (tk : ATk) (sz : Nat) (es : List AV) (vs : List Value) (b o c : Nat) (h : VRs β (es.flatMap AV.cells) vs) (hl : ∀ e ∈ es, e.cells.length = sz) (hz : 0 < sz)
   (hv : ∀ (i : Nat) v, vs[i]? = some v -> β.fz b (o + i) = some v) (hc : es.length <= c) (ht : TK β tk sz b (o + es.length * sz) (o + c * sz)) : VR β (.lst tk es) (.slice (some ⟨b, o, none⟩) es.length c)
 | eptr (cs : List AV) (vs : List Value) (b o : Nat) (h : VRs β cs vs) (hv : ∀ (i : Nat) v, vs[i]? = some v -> β.fz b (o + i) = some v) : VR β (.eptr cs) (.pointer (some ⟨b, o, none⟩))
 | fmpN : VR β (.fmp []) (.map none)
 | fmp (es : List (AV × AV × Nat)) (es' : Array MapEntry) (clk r : Nat) (h : ERel β es es'.toList) (hf : β.fm r = some (.map es' clk)) : VR β (.fmp es) (.map (some r))
inductive VRs (β : Env) : List AV -> List Value -> Prop where
 | nil : VRs β [] []
 | cons (a : AV) (v : Value) (l : List AV) (x : List Value) (h : VR β a v) (t : VRs β l x) : VRs β (a :: l) (v :: x)
inductive ERel (β : Env) : List (AV × AV × Nat) -> List MapEntry -> Prop where
 | nil : ERel β [] []
 | cons (a b : AV) (n : Nat) (k v : Value) (l : List (AV × AV × Nat)) (x : List MapEntry) (hk : VR β a k) (hv : VR β b v) (t : ERel β l x) : ERel β ((a, b, n) :: l) (⟨k, v, n⟩ :: x)
end
structure Env.le (β β' : Env) : Prop where
 b : ∀ o k, β.b o = some k -> β'.b o = some k
 q : β'.q = β.q
 fz : ∀ b o v, β.fz b o = some v -> β'.fz b o = some v
 fm : ∀ r x, β.fm r = some x -> β'.fm r = some x
theorem Env.le.refl (β : Env) : β.le β := ⟨fun _ _ h => h, rfl, fun _ _ _ h => h, fun _ _ h => h⟩
theorem Env.le.trans {a b c : Env} (h : a.le b) (k : b.le c) : a.le c := ⟨fun o x hx => k.b o x (h.b o x hx), k.q.trans h.q, fun r o v hx => k.fz r o v (h.fz r o v hx), fun r x hx => k.fm r x (h.fm r x hx)⟩
theorem TK.mono {β β' : Env} (h : β.le β') {tk : ATk} {sz b e l : Nat} (g : TK β tk sz b e l) : TK β' tk sz b e l := by
 cases tk with
 | no => trivial
 | full => exact g
 | room t => obtain ⟨k, h1, h2⟩ := g; exact ⟨k, h.b _ _ h1, h2⟩
mutual
theorem VR.mono {β β' : Env} (h : β.le β') : ∀ {a : AV} {v : Value}, VR β a v -> VR β' a v
 | _, _, .lit v => .lit v
 | _, _, .str l => .str l
 | _, _, .ptr o off k hk => .ptr o off k (h.b o k hk)
 | _, _, .slcX o off len c k hk => .slcX o off len c k (h.b o k hk)
 | _, _, .slcO o off len c z k hk hz hc hl => .slcO o off len c z k (h.b o k hk) hz hc hl
 | _, _, .emp a c => .emp a c
 | _, _, .mp o k hk => .mp o k (h.b o k hk)
 | _, _, .yld o k hk => .yld o k (h.b o k hk)
 | _, _, .fn f a b x y h1 h2 => .fn f a b x y (VRs.mono h h1) (VRs.mono h h2)
 | _, _, .ifc t a v hv => .ifc t a v (VR.mono h hv)
 | _, _, .agg a x hx => .agg a x (VRs.mono h hx)
 | _, _, .tup a x hx => .tup a x (VRs.mono h hx)
 | _, _, .opq k => h.q ▸ VR.opq k
 | _, _, .any v => .any v
 | _, _, .lstN tk => .lstN tk
 | _, _, .lstE tk a c h1 h2 => .lstE tk a c h1 h2
 | _, _, .lst tk sz es vs b o c h1 hl hz hv hc ht => .lst tk sz es vs b o c (VRs.mono h h1) hl hz (fun i v hi => h.fz _ _ _ (hv i v hi)) hc (ht.mono h)
 | _, _, .eptr cs vs b o h1 hv => .eptr cs vs b o (VRs.mono h h1) (fun i v hi => h.fz _ _ _ (hv i v hi))
 | _, _, .fmpN => .fmpN
 | _, _, .fmp es es' clk r h1 hf => .fmp es es' clk r (ERel.mono h h1) (h.fm _ _ hf)
theorem VRs.mono {β β' : Env} (h : β.le β') : ∀ {a : List AV} {v : List Value}, VRs β a v -> VRs β' a v
 | _, _, .nil => .nil
 | _, _, .cons a v l x hv ht => .cons a v l x (VR.mono h hv) (VRs.mono h ht)
theorem ERel.mono {β β' : Env} (h : β.le β') : ∀ {l : List (AV × AV × Nat)} {x : List MapEntry}, ERel β l x -> ERel β' l x
 | _, _, .nil => .nil
 | _, _, .cons a b n k v l x hk hv t => .cons a b n k v l x (VR.mono h hk) (VR.mono h hv) (ERel.mono h t)
end
structure Md where
 lm : Bool
 tx : Bool
 gl : Tr (Option AV)
def Env.al (β : Env) : Env := ⟨fun _ => none, β.q, β.fz, β.fm⟩
theorem Env.al_le (β : Env) : β.al.le β := ⟨fun _ _ h => (by cases h), rfl, fun _ _ _ h => h, fun _ _ h => h⟩
theorem Env.le.al {β β' : Env} (h : β.le β') : β.al.le β'.al := ⟨fun _ _ h => (by cases h), h.q, h.fz, h.fm⟩
def GlOk (β : Env) (gl : Tr (Option AV)) : Prop := ∀ g v, gl.get none g = some v -> VR β.al v (.pointer (some ⟨g, 0, none⟩)) /\ ∃ arr e f, β.fm g = some (.cells arr e f) /\ ∀ cs, v = .eptr cs -> arr.size = cs.length
theorem GlOk.mono {β β' : Env} (h : β.le β') {gl : Tr (Option AV)} (k : GlOk β gl) : GlOk β' gl := fun g v hg => ⟨(k g v hg).1.mono h.al, let ⟨arr, e, f, h1, h2⟩ := (k g v hg).2; ⟨arr, e, f, h.fm _ _ h1, h2⟩⟩
theorem GlOk.lf (β : Env) : GlOk β .lf := fun _ _ h => (by cases h)
theorem VRs.length {β : Env} : ∀ {a : List AV} {v : List Value}, VRs β a v -> v.length = a.length
 | _, _, .nil => rfl
 | _, _, .cons _ _ _ _ _ t => by simp [t.length]
theorem VRs.append {β : Env} : ∀ {a b : List AV} {x y : List Value}, VRs β a x -> VRs β b y -> VRs β (a ++ b) (x ++ y)
 | _, _, _, _, .nil, h => h
 | _, _, _, _, .cons a v l x hv ht, h => .cons a v _ _ hv (VRs.append ht h)
theorem VRs.get {β : Env} : ∀ {a : List AV} {x : List Value}, VRs β a x -> ∀ (i : Nat) (c : AV), a[i]? = some c -> ∃ v, x[i]? = some v /\ VR β c v
 | _, _, .nil, i, c, h => by simp at h
 | _, _, .cons a v l x hv ht, 0, c, h => by simp at h; subst h; exact ⟨v, rfl, hv⟩
 | _, _, .cons a v l x hv ht, i + 1, c, h => by
  simp at h
  simpa using ht.get i c h
theorem VRs.of_get {β : Env} : ∀ {a : List AV} {x : List Value}, x.length = a.length -> (∀ (i : Nat) (c : AV) (v : Value), a[i]? = some c -> x[i]? = some v -> VR β c v) -> VRs β a x
 | [], [], _, _ => .nil
 | [], _ :: _, h, _ => by simp at h
 | _ :: _, [], h, _ => by simp at h
 | a :: l, v :: x, h, g => .cons a v l x (g 0 a v rfl rfl) (VRs.of_get (by simpa using h) fun i c u h1 h2 => g (i + 1) c u (by simpa using h1) (by simpa using h2))
theorem VRs.take {β : Env} {a : List AV} {x : List Value} (h : VRs β a x) (n : Nat) : VRs β (a.take n) (x.take n) :=
 VRs.of_get (by simp [h.length]) fun i c v h1 h2 => by
  simp only [List.getElem?_take] at h1 h2
  split at h1
  ·rename_i hi
   rw [if_pos hi] at h2
   obtain ⟨u, hu, hr⟩ := h.get i c h1
   rw [hu] at h2; cases h2; exact hr
  ·cases h1
theorem VRs.drop {β : Env} {a : List AV} {x : List Value} (h : VRs β a x) (n : Nat) : VRs β (a.drop n) (x.drop n) :=
 VRs.of_get (by simp [h.length]) fun i c v h1 h2 => by
  simp only [List.getElem?_drop] at h1 h2
  obtain ⟨u, hu, hr⟩ := h.get _ c h1
  rw [hu] at h2; cases h2; exact hr
theorem VRs.set {β : Env} {a : List AV} {x : List Value} (h : VRs β a x) (n : Nat) {c : AV} {v : Value} (hc : VR β c v) : VRs β (a.set n c) (x.set n v) :=
 VRs.of_get (by simp [h.length]) fun i c' v' h1 h2 => by
  simp only [List.getElem?_set] at h1 h2
  split at h1
  ·rename_i hi
   rw [if_pos hi] at h2
   rw [h.length] at h2
   split at h1
   ·rename_i hl; rw [if_pos hl] at h2; cases h1; cases h2; exact hc
   ·cases h1
  ·rename_i hi
   rw [if_neg hi] at h2
   obtain ⟨u, hu, hr⟩ := h.get i c' h1
   rw [hu] at h2; cases h2; exact hr
theorem VRs.replicate {β : Env} {c : AV} {v : Value} (hc : VR β c v) : ∀ n, VRs β (List.replicate n c) (List.replicate n v)
 | 0 => .nil
 | n + 1 => .cons c v _ _ hc (VRs.replicate hc n)
inductive AO where
 | dead
 | cells (c : List AV) (ro : Bool)
 | map (es : List (AV × AV × Nat)) (clock : Nat)
 | siter (s : List UInt8) (pos : Nat)
 | loop (st : LoopState) (pending : Option Code) (tmps : List AV) (params : Array Tmp) (assign body : Code) (dblk : Nat) (lm : Bool)
 | defd (open_ : Bool)
 | room (sz : Nat)
 deriving Inhabited
def ORel (β : Env) (pr : Nat -> Prop) : AO -> Bk -> Option Obj -> Prop
 | .dead, _, _ => True
 | .cells c ro, k, x => ∃ arr e fz, x = some (.cells arr e fz) /\ arr.size = k.sz /\ k.sh + c.length <= k.sz /\
   (fz.2 <= fz.1 ∨ k.sz <= fz.1) /\ ((ro = false -> ¬ pr k.blk) /\ (ro = true -> ∀ i v, i < c.length -> arr[k.sh + i]? = some v -> β.fz k.blk (k.sh + i) = some v)) /\ (∀ i a, c[i]? = some a -> ∃ v, arr[k.sh + i]? = some v /\ VR β a v)
 | .map es clock, k, x => ∃ es', x = some (.map es' clock) /\ ERel β es es'.toList /\ ¬ pr k.blk
 | .siter s pos, k, x => x = some (.stringIter ⟨s.toArray⟩ pos) /\ ¬ pr k.blk
 | .loop st pending tmps params assign body dblk _, k, x => ∃ fn tm dk, x = some (.loop ⟨st, pending, fn, tm, params, assign, body, dk⟩) /\ VRs β tmps tm.toList /\ (∃ kd, β.b dblk = some kd /\ kd.blk = dk) /\ ¬ pr k.blk
 | .defd o, k, x => x = some (.deferred (if o then some [] else none)) /\ ¬ pr k.blk
 | .room z, k, x => k.esz = z /\ ∃ arr e fz, x = some (.cells arr e fz) /\ arr.size = k.sz /\ k.sh <= k.sz /\ (fz.2 <= fz.1 ∨ k.sz <= fz.1) /\ ¬ pr k.blk
theorem ORel.mono {β β' : Env} (h : β.le β') {pr : Nat -> Prop} : ∀ {A : AO} {k : Bk} {x : Option Obj}, ORel β pr A k x -> ORel β' pr A k x
 | .dead, _, _, _ => trivial
 | .cells .., _, _, ⟨arr, e, fz, h1, h2, h3, h5, ⟨h6, h6'⟩, h7⟩ => ⟨arr, e, fz, h1, h2, h3, h5, ⟨h6, fun hr i v hi hv => h.fz _ _ _ (h6' hr i v hi hv)⟩, fun i a ha => let ⟨v, hv, hr⟩ := h7 i a ha; ⟨v, hv, hr.mono h⟩⟩
 | .map .., _, _, ⟨es', h1, h2, h3⟩ => ⟨es', h1, h2.mono h, h3⟩
 | .siter .., _, _, g => g
 | .loop .., _, _, ⟨fn, tm, dk, h1, h2, ⟨kd, h3, h4⟩, h5⟩ => ⟨fn, tm, dk, h1, h2.mono h, ⟨kd, h.b _ _ h3, h4⟩, h5⟩
 | .defd _, _, _, g => g
 | .room _, _, _, g => g
def AO.own : AO -> Bool
 | .dead => false
 | .cells _ ro => !ro
 | _ => true
def AO.live : AO -> Bool
 | .dead => false
 | _ => true
def AO.isRoom : AO -> Bool
 | .room _ => true
 | _ => false
structure Gd where
 w : World
 pr : Nat -> Prop
 lt : ∀ k, pr k -> k < w.heap.size
 fz : Nat -> Nat -> Option Value
 fm : Nat -> Option Obj
structure Keep (pr : Nat -> Prop) (w w' : World) : Prop where
 os : w'.os = w.os
 tape : w'.tape = w.tape
 output : w'.output = w.output
 size : w.heap.size <= w'.heap.size
 block : ∀ k, pr k -> w'.heap[k]? = w.heap[k]?
theorem Keep.refl (pr : Nat -> Prop) (w : World) : Keep pr w w := ⟨rfl, rfl, rfl, Nat.le_refl _, fun _ _ => rfl⟩
theorem Keep.trans {pr : Nat -> Prop} {a b c : World} (h : Keep pr a b) (k : Keep pr b c) : Keep pr a c :=
 ⟨k.os.trans h.os, k.tape.trans h.tape, k.output.trans h.output, Nat.le_trans h.size k.size, fun i hi => (k.block i hi).trans (h.block i hi)⟩
theorem Keep.alloc {G : Gd} {w : World} (h : Keep G.pr G.w w) (o : Obj) : Keep G.pr G.w (w.alloc o) :=
 h.trans ⟨rfl, rfl, rfl, by simp, fun k hk => Below.heap_alloc _ _ _ (Nat.lt_of_lt_of_le (G.lt k hk) h.size)⟩
structure WR (β : Env) (B : Gd) (H : Tr AO) (hs : Nat) (W : World) : Prop where
 below : Keep B.pr B.w W
 dom : ∀ o, hs <= o -> β.b o = none
 obj : ∀ o k, β.b o = some k -> ORel β B.pr (H.get .dead o) k W.heap[k.blk]?
 blk : ∀ o k, β.b o = some k -> k.blk < W.heap.size
 inj : ∀ o o' k k', o ≠ o' -> β.b o = some k -> β.b o' = some k' -> (H.get .dead o).own = true -> (H.get .dead o').live = true -> k.blk ≠ k'.blk
 fz : ∀ b o v, β.fz b o = some v -> ∃ arr e f, W.heap[b]? = some (.cells arr e f) /\ arr[o]? = some v
 fm : ∀ r x, β.fm r = some x -> W.heap[r]? = some x
 apart : ∀ o k, β.b o = some k -> (H.get .dead o).own = true -> (∀ off, ((H.get .dead o).isRoom = true -> k.sh <= off) -> β.fz k.blk off = none) /\ β.fm k.blk = none
 gfz : ∀ b o v, B.pr b -> β.fz b o = some v -> B.fz b o = some v
 gfm : ∀ b x, B.pr b -> β.fm b = some x -> B.fm b = some x
theorem heap_lt {W : World} {b : Nat} {x : Obj} (h : W.heap[b]? = some x) : b < W.heap.size := (Array.getElem?_eq_some_iff.1 h).1
theorem WR.fz_lt {β : Env} {B : Gd} {H : Tr AO} {hs : Nat} {W : World} (h : WR β B H hs W) {b o : Nat} {v : Value} (hb : β.fz b o = some v) : b < W.heap.size := by
 obtain ⟨_, _, _, g, _⟩ := h.fz b o v hb; exact heap_lt g
theorem WR.fz_new {β : Env} {B : Gd} {H : Tr AO} {hs : Nat} {W : World} (h : WR β B H hs W) (b off : Nat) (hb : W.heap.size <= b) : β.fz b off = none := by
 cases hx : β.fz b off with
 | none => rfl
 | some v => have := h.fz_lt hx; omega
theorem WR.fm_new {β : Env} {B : Gd} {H : Tr AO} {hs : Nat} {W : World} (h : WR β B H hs W) (b : Nat) (hb : W.heap.size <= b) : β.fm b = none := by
 cases hx : β.fm b with
 | none => rfl
 | some v => have := heap_lt (h.fm _ _ hx); omega
theorem WR.new {β : Env} {B : Gd} {H : Tr AO} {hs : Nat} {W : World} (h : WR β B H hs W) : ¬ B.pr W.heap.size := fun hp => by
 have := B.lt _ hp
 have := h.below.size
 omega
def Env.add (β : Env) (o : Nat) (k : Bk) : Env := { β with b := fun j => if j = o then some k else β.b j }
theorem Env.le_add {β : Env} {o : Nat} {k : Bk} (h : β.b o = none) : β.le (β.add o k) := by
 refine ⟨fun j x hj => ?_, rfl, fun _ _ _ h => h, fun _ _ h => h⟩
 simp only [Env.add]
 split
 ·rename_i e; subst e; rw [h] at hj; cases hj
 ·exact hj
theorem Env.add_self (β : Env) (o : Nat) (k : Bk) : (β.add o k).b o = some k := by simp [Env.add]
theorem Env.add_other (β : Env) {o j : Nat} (k : Bk) (h : j ≠ o) : (β.add o k).b j = β.b j := by simp [Env.add, h]
theorem heap_alloc_old {W : World} {o : Obj} {k : Nat} (h : k < W.heap.size) : (W.alloc o).heap[k]? = W.heap[k]? := Below.heap_alloc W o k h
theorem heap_alloc_new (W : World) (o : Obj) : (W.alloc o).heap[W.heap.size]? = some o := World.alloc_heap_new W o
theorem WR.alloc {β : Env} {B : Gd} {W : World} {H : Tr AO} {hs : Nat} (h : WR β B H hs W) (o : Obj) (A : AO) (sz esz : Nat)
  (hA : ORel (β.add hs ⟨W.heap.size, 0, sz, esz⟩) B.pr A ⟨W.heap.size, 0, sz, esz⟩ (some o)) :
  WR (β.add hs ⟨W.heap.size, 0, sz, esz⟩) B (H.put .dead hs A) (hs + 1) (W.alloc o) := by
 have hle := Env.le_add (k := ⟨W.heap.size, 0, sz, esz⟩) (h.dom hs (Nat.le_refl _))
 refine ⟨h.below.alloc o, ?_, ?_, ?_, ?_, fun b i v hv => (by rw [heap_alloc_old (h.fz_lt hv)]; exact h.fz b i v hv), fun r x hx => (by rw [heap_alloc_old (heap_lt (h.fm r x hx))]; exact h.fm r x hx), ?_, h.gfz, h.gfm⟩
 ·intro j hj; rw [Env.add_other _ _ (by omega)]; exact h.dom j (by omega)
 ·intro j k hk
  rw [Tr.get_put]
  by_cases e : j = hs
  ·subst e; rw [Env.add_self] at hk; cases hk; rw [if_pos rfl, heap_alloc_new]; exact hA
  ·rw [Env.add_other _ _ e] at hk; rw [if_neg e, heap_alloc_old (h.blk j k hk)]; exact (h.obj j k hk).mono hle
 ·intro j k hk
  have : (W.alloc o).heap.size = W.heap.size + 1 := World.size_alloc W o
  by_cases e : j = hs
  ·subst e; rw [Env.add_self] at hk; cases hk; rw [this]; exact Nat.lt_succ_self _
  ·rw [Env.add_other _ _ e] at hk; have := h.blk j k hk; omega
 ·intro j j' k k' hne hk hk' ho hl
  rw [Tr.get_put] at ho hl
  by_cases e : j = hs
  ·subst e; rw [Env.add_self] at hk; cases hk
   rw [Env.add_other _ _ (fun x => hne x.symm)] at hk'; have := h.blk j' k' hk'; simp only; omega
  ·rw [Env.add_other _ _ e] at hk; rw [if_neg e] at ho
   by_cases e' : j' = hs
   ·subst e'; rw [Env.add_self] at hk'; cases hk'; have := h.blk j k hk; simp only; omega
   ·rw [Env.add_other _ _ e'] at hk'; rw [if_neg e'] at hl; exact h.inj j j' k k' hne hk hk' ho hl
 ·intro j k hk ho
  rw [Tr.get_put] at ho
  by_cases e : j = hs
  ·subst e; rw [Env.add_self] at hk; cases hk
   exact ⟨fun off _ => h.fz_new _ _ (Nat.le_refl _), h.fm_new _ (Nat.le_refl _)⟩
  ·rw [Env.add_other _ _ e] at hk; rw [if_neg e] at ho
   rw [Tr.get_put, if_neg e]; exact h.apart j k hk ho
theorem WR.write {β : Env} {B : Gd} {W W' : World} {H : Tr AO} {hs : Nat} (h : WR β B H hs W) {o : Nat} {k : Bk} (hk : β.b o = some k) (A : AO) (hown : (H.get .dead o).own = true) (hnr : (H.get .dead o).isRoom = false)
  (hb : Keep B.pr W W') (hsz : W'.heap.size = W.heap.size) (hoth : ∀ j, j ≠ k.blk -> W'.heap[j]? = W.heap[j]?)
  (hA : ORel β B.pr A k W'.heap[k.blk]?) (hAo : A.own = true -> (H.get .dead o).own = true) :
  WR β B (H.put .dead o A) hs W' := by
 have hap := h.apart o k hk hown
 have hfz : ∀ off, β.fz k.blk off = none := fun off => hap.1 off (fun e => by rw [hnr] at e; cases e)
 have hb1 : ∀ b i v, β.fz b i = some v -> b ≠ k.blk := fun b i v hv e => by subst e; rw [hfz] at hv; cases hv
 have hb2 : ∀ b x, β.fm b = some x -> b ≠ k.blk := fun b x hv e => by subst e; rw [hap.2] at hv; cases hv
 refine ⟨h.below.trans hb, h.dom, ?_, ?_, ?_, fun b i v hv => (by rw [hoth b (hb1 b i v hv)]; exact h.fz b i v hv), fun r x hx => (by rw [hoth r (hb2 r x hx)]; exact h.fm r x hx), ?_, h.gfz, h.gfm⟩
 ·intro j kj hj
  rw [Tr.get_put]
  by_cases e : j = o
  ·subst e; rw [hk] at hj; cases hj; rw [if_pos rfl]; exact hA
  ·rw [if_neg e]
   by_cases hlive : (H.get .dead j).live = true
   ·rw [hoth kj.blk (fun x => h.inj o j k kj (Ne.symm e) hk hj hown hlive x.symm)]; exact h.obj j kj hj
   ·have : H.get .dead j = .dead := by
     cases hx : H.get .dead j <;> simp [hx, AO.live] at hlive
     rfl
    rw [this]; trivial
 ·intro j kj hj; rw [hsz]; exact h.blk j kj hj
 ·intro j j' kj kj' hne hj hj' ho hl
  rw [Tr.get_put] at ho hl
  have ho' : (H.get .dead j).own = true := by
   by_cases e : j = o
   ·subst e; exact hown
   ·rw [if_neg e] at ho; exact ho
  have hl' : (H.get .dead j').live = true := by
   by_cases e : j' = o
   ·subst e
    cases hx : H.get .dead j' <;> simp [hx, AO.own] at hown <;> rfl
   ·rw [if_neg e] at hl; exact hl
  exact h.inj j j' kj kj' hne hj hj' ho' hl'
 ·intro j kj hj ho
  rw [Tr.get_put] at ho
  by_cases e : j = o
  ·subst e; rw [hk] at hj; cases hj
   exact ⟨fun off _ => hfz off, hap.2⟩
  ·rw [if_neg e] at ho; rw [Tr.get_put, if_neg e]; exact h.apart j kj hj ho
theorem WR.kill {β : Env} {B : Gd} {W : World} {H : Tr AO} {hs : Nat} (h : WR β B H hs W) (o : Nat) : WR β B (H.put .dead o .dead) hs W := by
 refine ⟨h.below, h.dom, ?_, h.blk, ?_, h.fz, h.fm, ?_, h.gfz, h.gfm⟩
 ·intro j kj hj
  rw [Tr.get_put]
  by_cases e : j = o
  ·rw [if_pos e]; trivial
  ·rw [if_neg e]; exact h.obj j kj hj
 ·intro j j' kj kj' hne hj hj' ho hl
  rw [Tr.get_put] at ho hl
  by_cases e : j = o
  ·rw [if_pos e] at ho; simp [AO.own] at ho
  ·by_cases e' : j' = o
   ·rw [if_pos e'] at hl; simp [AO.live] at hl
   ·rw [if_neg e] at ho; rw [if_neg e'] at hl; exact h.inj j j' kj kj' hne hj hj' ho hl
 ·intro j kj hj ho
  rw [Tr.get_put] at ho
  by_cases e : j = o
  ·rw [if_pos e] at ho; simp [AO.own] at ho
  ·rw [if_neg e] at ho; rw [Tr.get_put, if_neg e]; exact h.apart j kj hj ho
theorem WR.rename {β : Env} {B : Gd} {W W' : World} {H : Tr AO} {hs : Nat} (h : WR β B H hs W) {o : Nat} {k : Bk} (hk : β.b o = some k) (hown : (H.get .dead o).own = true) (hnr : (H.get .dead o).isRoom = false)
  (hb : Keep B.pr W W') (hsz : W'.heap.size = W.heap.size) (hoth : ∀ j, j ≠ k.blk -> W'.heap[j]? = W.heap[j]?)
  (k' : Bk) (hkb : k'.blk = k.blk) (A : AO) (hA : ORel (β.add hs k') B.pr A k' W'.heap[k.blk]?) :
  WR (β.add hs k') B ((H.put .dead o .dead).put .dead hs A) (hs + 1) W' := by
 have hle := Env.le_add (k := k') (h.dom hs (Nat.le_refl _))
 have hne : o ≠ hs := fun e => by have := h.dom hs (Nat.le_refl _); rw [<- e, hk] at this; cases this
 have hap := h.apart o k hk hown
 have hfz : ∀ off, β.fz k.blk off = none := fun off => hap.1 off (fun e => by rw [hnr] at e; cases e)
 have hb1 : ∀ b i v, β.fz b i = some v -> b ≠ k.blk := fun b i v hv e => by subst e; rw [hfz] at hv; cases hv
 have hb2 : ∀ b x, β.fm b = some x -> b ≠ k.blk := fun b x hv e => by subst e; rw [hap.2] at hv; cases hv
 refine ⟨h.below.trans hb, ?_, ?_, ?_, ?_, fun b i v hv => (by rw [hoth b (hb1 b i v hv)]; exact h.fz b i v hv), fun r x hx => (by rw [hoth r (hb2 r x hx)]; exact h.fm r x hx), ?_, h.gfz, h.gfm⟩
 ·intro j hj; rw [Env.add_other _ _ (by omega)]; exact h.dom j (by omega)
 ·intro j kj hj
  rw [Tr.get_put, Tr.get_put]
  by_cases e : j = hs
  ·subst e; rw [Env.add_self] at hj; cases hj; rw [if_pos rfl, hkb]; exact hA
  ·rw [Env.add_other _ _ e] at hj; rw [if_neg e]
   by_cases e' : j = o
   ·rw [if_pos e']; trivial
   ·rw [if_neg e']
    by_cases hlive : (H.get .dead j).live = true
    ·rw [hoth kj.blk (fun x => h.inj o j k kj (Ne.symm e') hk hj hown hlive x.symm)]; exact (h.obj j kj hj).mono hle
    ·have : H.get .dead j = .dead := by
      cases hx : H.get .dead j <;> simp [hx, AO.live] at hlive
      rfl
     rw [this]; trivial
 ·intro j kj hj
  rw [hsz]
  by_cases e : j = hs
  ·subst e; rw [Env.add_self] at hj; cases hj; rw [hkb]; exact h.blk o k hk
  ·rw [Env.add_other _ _ e] at hj; exact h.blk j kj hj
 ·intro j j' kj kj' hne' hj hj' ho hl
  rw [Tr.get_put, Tr.get_put] at ho hl
  by_cases e : j = hs
  ·subst e; rw [Env.add_self] at hj; cases hj
   have e' : j' ≠ j := fun x => hne' x.symm
   rw [Env.add_other _ _ e'] at hj'; rw [if_neg e'] at hl
   by_cases e2 : j' = o
   ·rw [if_pos e2] at hl; simp [AO.live] at hl
   ·rw [if_neg e2] at hl; rw [hkb]; exact h.inj o j' k kj' (Ne.symm e2) hk hj' hown hl
  ·rw [Env.add_other _ _ e] at hj; rw [if_neg e] at ho
   by_cases e2 : j = o
   ·rw [if_pos e2] at ho; simp [AO.own] at ho
   ·rw [if_neg e2] at ho
    by_cases e' : j' = hs
    ·subst e'; rw [Env.add_self] at hj'; cases hj'; rw [hkb]
     refine h.inj j o kj k e2 hj hk ho ?_
     cases hx : H.get .dead o <;> simp [hx, AO.own] at hown <;> rfl
    ·rw [Env.add_other _ _ e'] at hj'; rw [if_neg e'] at hl
     by_cases e3 : j' = o
     ·rw [if_pos e3] at hl; simp [AO.live] at hl
     ·rw [if_neg e3] at hl; exact h.inj j j' kj kj' hne' hj hj' ho hl
 ·intro j kj hj ho
  rw [Tr.get_put, Tr.get_put] at ho
  by_cases e : j = hs
  ·subst e; rw [Env.add_self] at hj; cases hj
   rw [hkb]; exact ⟨fun off _ => hfz off, hap.2⟩
  ·rw [Env.add_other _ _ e] at hj; rw [if_neg e] at ho
   by_cases e2 : j = o
   ·rw [if_pos e2] at ho; simp [AO.own] at ho
   ·rw [if_neg e2] at ho; rw [Tr.get_put, Tr.get_put, if_neg e, if_neg e2]; exact h.apart j kj hj ho
theorem WR.congr {β : Env} {B : Gd} {W : World} {H H' : Tr AO} {hs : Nat} (h : WR β B H hs W) (e : ∀ j, H'.get .dead j = H.get .dead j) : WR β B H' hs W :=
 ⟨h.below, h.dom, fun o k hk => by rw [e]; exact h.obj o k hk, h.blk, fun o o' k k' hne hk hk' ho hl => (by rw [e] at ho hl; exact h.inj o o' k k' hne hk hk' ho hl), h.fz, h.fm, fun o k hk ho => (by rw [e] at ho ⊢; exact h.apart o k hk ho), h.gfz, h.gfm⟩
theorem WR.drew {β : Env} {B : Gd} {W : World} {H : Tr AO} {hs : Nat} (h : WR β B H hs W) (n : Nat) : WR β B H hs { W with drawn := n } :=
 ⟨⟨h.below.os, h.below.tape, h.below.output, h.below.size, h.below.block⟩, h.dom, h.obj, h.blk, h.inj, h.fz, h.fm, h.apart, h.gfz, h.gfm⟩
theorem WR.freeze {β : Env} {B : Gd} {W : World} {H : Tr AO} {hs : Nat} (h : WR β B H hs W) {o : Nat} {k : Bk} {c : List AV} (hk : β.b o = some k) (hg : H.get .dead o = .cells c false) :
  ∃ β', β.le β' /\ β'.b = β.b /\ WR β' B (H.put .dead o (.cells c true)) hs W := by
 have ho := h.obj o k hk
 rw [hg] at ho
 obtain ⟨arr, e, fz, h1, h2, h3, h4, ⟨h5, _⟩, h6⟩ := ho
 have hap := h.apart o k hk (by rw [hg]; rfl)
 have hfz : ∀ off, β.fz k.blk off = none := fun off => hap.1 off (fun x => by rw [hg] at x; cases x)
 have hpr := h5 rfl
 refine ⟨{ β with fz := fun b i => if b = k.blk then arr[i]? else β.fz b i }, ⟨fun _ _ x => x, rfl, fun b i v hv => ?_, fun _ _ x => x⟩, rfl, ?_⟩
 ·simp only
  by_cases e1 : b = k.blk
  ·subst e1; rw [hfz] at hv; cases hv
  ·rw [if_neg e1]; exact hv
 have hle : β.le { β with fz := fun b i => if b = k.blk then arr[i]? else β.fz b i } := ⟨fun _ _ x => x, rfl, fun b i v hv => by
  simp only
  by_cases e1 : b = k.blk
  ·subst e1; rw [hfz] at hv; cases hv
  ·rw [if_neg e1]; exact hv, fun _ _ x => x⟩
 refine ⟨h.below, h.dom, ?_, h.blk, ?_, ?_, h.fm, ?_, ?_, h.gfm⟩
 ·intro j kj hj
  rw [Tr.get_put]
  by_cases e1 : j = o
  ·subst e1; rw [hk] at hj; cases hj; rw [if_pos rfl]
   refine ⟨arr, e, fz, h1, h2, h3, h4, ⟨fun x => (by cases x), fun _ i v hi hv => ?_⟩, fun i a ha => ?_⟩
   ·simp only [if_true]; exact hv
   ·obtain ⟨v, hv, hr⟩ := h6 i a ha
    exact ⟨v, hv, hr.mono hle⟩
  ·rw [if_neg e1]; exact (h.obj j kj hj).mono hle
 ·intro j j' kj kj' hne hj hj' ho' hl
  rw [Tr.get_put] at ho' hl
  by_cases e1 : j = o
  ·rw [if_pos e1] at ho'; simp [AO.own] at ho'
  ·rw [if_neg e1] at ho'
   refine h.inj j j' kj kj' hne hj hj' ho' ?_
   by_cases e2 : j' = o
   ·subst e2; rw [hg]; rfl
   ·rw [if_neg e2] at hl; exact hl
 ·intro b i v hv
  simp only at hv
  by_cases e1 : b = k.blk
  ·rw [if_pos e1] at hv; subst e1; exact ⟨arr, e, fz, h1, hv⟩
  ·rw [if_neg e1] at hv; exact h.fz b i v hv
 ·intro j kj hj ho'
  rw [Tr.get_put] at ho'
  by_cases e1 : j = o
  ·rw [if_pos e1] at ho'; simp [AO.own] at ho'
  ·rw [if_neg e1] at ho'
   rw [Tr.get_put, if_neg e1]
   have hne : kj.blk ≠ k.blk := h.inj j o kj k e1 hj hk ho' (by rw [hg]; rfl)
   obtain ⟨a1, a2⟩ := h.apart j kj hj ho'
   exact ⟨fun off hoff => by simp only; rw [if_neg hne]; exact a1 off hoff, a2⟩
 ·intro b i v hb hv
  simp only at hv
  rw [if_neg (show ¬ b = k.blk from fun e1 => hpr (e1 ▸ hb))] at hv
  exact h.gfz b i v hb hv
theorem WR.freezeMap {β : Env} {B : Gd} {W : World} {H : Tr AO} {hs : Nat} (h : WR β B H hs W) {o : Nat} {k : Bk} {es : List (AV × AV × Nat)} {clk : Nat} (hk : β.b o = some k) (hg : H.get .dead o = .map es clk) :
  ∃ β' es', β.le β' /\ β'.b = β.b /\ WR β' B (H.put .dead o .dead) hs W /\ ERel β' es es'.toList /\ β'.fm k.blk = some (.map es' clk) := by
 have ho := h.obj o k hk
 rw [hg] at ho
 obtain ⟨es', h1, h2, h3⟩ := ho
 have hap := h.apart o k hk (by rw [hg]; rfl)
 have hfm : β.fm k.blk = none := hap.2
 have hle : β.le { β with fm := fun b => if b = k.blk then some (.map es' clk) else β.fm b } := ⟨fun _ _ x => x, rfl, fun _ _ _ x => x, fun b x hv => by
  simp only
  by_cases e1 : b = k.blk
  ·subst e1; rw [hfm] at hv; cases hv
  ·rw [if_neg e1]; exact hv⟩
 refine ⟨_, es', hle, rfl, ?_, h2.mono hle, by simp⟩
 have hkl := h.kill o
 refine ⟨h.below, h.dom, fun j kj hj => (hkl.obj j kj hj).mono hle, h.blk, hkl.inj, h.fz, ?_, ?_, h.gfz, ?_⟩
 ·intro b x hv
  simp only at hv
  by_cases e1 : b = k.blk
  ·rw [if_pos e1] at hv; subst e1; cases hv; exact h1
  ·rw [if_neg e1] at hv; exact h.fm b x hv
 ·intro j kj hj ho'
  obtain ⟨a1, a2⟩ := hkl.apart j kj hj ho'
  refine ⟨a1, ?_⟩
  rw [Tr.get_put] at ho'
  by_cases e1 : j = o
  ·rw [if_pos e1] at ho'; simp [AO.own] at ho'
  ·rw [if_neg e1] at ho'
   have hne : kj.blk ≠ k.blk := h.inj j o kj k e1 hj hk ho' (by rw [hg]; rfl)
   simp only; rw [if_neg hne]; exact a2
 ·intro b x hb hv
  simp only at hv
  rw [if_neg (show ¬ b = k.blk from fun e1 => h3 (e1 ▸ hb))] at hv
  exact h.gfm b x hb hv
end Go.Proofs.YtcledcfeddlomaaGreatDoor.Ev
