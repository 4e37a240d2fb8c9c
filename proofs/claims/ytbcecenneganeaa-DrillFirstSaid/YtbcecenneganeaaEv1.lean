/- A small machine that runs closed code: values, memory, and how they stand to the model's. -/
import Derived.LoopNIn
import Derived.RangeFuncRecord
import Derived.Below
set_option linter.all false
namespace Go.Proofs.Ytbcecenneganeaa.Ev
open Go.RowKit

/-- A tree that keeps something for each number. -/
inductive Tr (α : Type) where
  | lf
  | nd (v : α) (l r : Tr α)

def Tr.get {α : Type} (d : α) : Tr α → Nat → α
  | .lf, _ => d
  | .nd v l r, n => bif Nat.beq n 0 then v else bif Nat.beq (n % 2) 1 then l.get d (n / 2) else r.get d (n / 2 - 1)

def Tr.set {α : Type} (d : α) (x : α) : Nat → Tr α → Nat → Tr α
  | 0, t, _ => t
  | k + 1, .lf, n => bif Nat.beq n 0 then .nd x .lf .lf else bif Nat.beq (n % 2) 1 then .nd d (Tr.set d x k .lf (n / 2)) .lf else .nd d .lf (Tr.set d x k .lf (n / 2 - 1))
  | k + 1, .nd v l r, n => bif Nat.beq n 0 then .nd x l r else bif Nat.beq (n % 2) 1 then .nd v (Tr.set d x k l (n / 2)) r else .nd v l (Tr.set d x k r (n / 2 - 1))

theorem Tr.get_lf {α : Type} (d : α) (m : Nat) : (Tr.lf : Tr α).get d m = d := rfl

theorem beq_if {α : Type} (n k : Nat) (a b : α) : (bif Nat.beq n k then a else b) = if n = k then a else b := by
  by_cases h : n = k
  · subst h; rw [if_pos rfl]
    have : Nat.beq n n = true := Nat.beq_refl n
    rw [this, cond_true]
  · rw [if_neg h]
    cases hb : Nat.beq n k with
    | false => rfl
    | true => exact absurd (Nat.eq_of_beq_eq_true hb) h

theorem Tr.get_nd {α : Type} (d v : α) (l r : Tr α) (n : Nat) : (Tr.nd v l r).get d n = if n = 0 then v else if n % 2 = 1 then l.get d (n / 2) else r.get d (n / 2 - 1) := by
  simp only [Tr.get, beq_if]

theorem Tr.get_set {α : Type} (d x : α) : ∀ (k : Nat) (t : Tr α) (n m : Nat), n < k → (Tr.set d x k t n).get d m = if m = n then x else t.get d m := by
  intro k
  induction k with
  | zero => intro t n m h; omega
  | succ k ih =>
    intro t n m h
    cases t with
    | lf =>
      simp only [Tr.set, beq_if]
      by_cases h0 : n = 0
      · subst h0; rw [if_pos rfl, Tr.get_nd]; simp only [Tr.get_lf]; split <;> (try split) <;> rfl
      · rw [if_neg h0]
        by_cases h1 : n % 2 = 1
        · rw [if_pos h1, Tr.get_nd, ih _ _ _ (by omega)]
          simp only [Tr.get_lf]
          by_cases hm : m = n
          · subst hm; rw [if_neg h0, if_pos h1, if_pos rfl, if_pos rfl]
          · rw [if_neg hm]
            split
            · rfl
            · split
              · rw [if_neg (by omega)]
              · rfl
        · rw [if_neg h1, Tr.get_nd, ih _ _ _ (by omega)]
          simp only [Tr.get_lf]
          by_cases hm : m = n
          · subst hm; rw [if_neg h0, if_neg h1, if_pos rfl, if_pos rfl]
          · rw [if_neg hm]
            split
            · rfl
            · split
              · rfl
              · rw [if_neg (by omega)]
    | nd v l r =>
      simp only [Tr.set, beq_if]
      by_cases h0 : n = 0
      · subst h0; rw [if_pos rfl, Tr.get_nd, Tr.get_nd]; split <;> rfl
      · rw [if_neg h0]
        by_cases h1 : n % 2 = 1
        · rw [if_pos h1, Tr.get_nd, Tr.get_nd, ih _ _ _ (by omega)]
          by_cases hm : m = n
          · subst hm; rw [if_neg h0, if_pos h1, if_pos rfl, if_pos rfl]
          · rw [if_neg hm]
            split
            · rfl
            · split
              · rw [if_neg (by omega)]
              · rfl
        · rw [if_neg h1, Tr.get_nd, Tr.get_nd, ih _ _ _ (by omega)]
          by_cases hm : m = n
          · subst hm; rw [if_neg h0, if_neg h1, if_pos rfl, if_pos rfl]
          · rw [if_neg hm]
            split
            · rfl
            · split
              · rfl
              · rw [if_neg (by omega)]

def Tr.put {α : Type} (d : α) (t : Tr α) (n : Nat) (x : α) : Tr α := Tr.set d x (n + 1) t n

theorem Tr.get_put {α : Type} (d x : α) (t : Tr α) (n m : Nat) : (t.put d n x).get d m = if m = n then x else t.get d m :=
  Tr.get_set d x (n + 1) t n m (by omega)

/-- A slice's capacity: known, or left open (the elements' cells). -/
inductive ACap where
  | ex (c : Nat)
  | op (z : Nat)
  deriving Inhabited

/-- The right to what lies behind a slice's cells: none; there is no room; the room is a thing in memory. -/
inductive ATk where
  | no
  | full
  | room (o : Nat)
  deriving Inhabited

/-- A value: 'o' names a thing in memory by its own number; a slice's capacity may be left open; 'opq k' is any value whatever;
'lst', 'eptr', 'fmp': a slice, a pointer, a map whose cells never turn again ('tk': the right to what lies behind them). -/
inductive AV where
  | lit (v : Value)
  | str (l : List UInt8)
  | ptr (o off : Nat)
  | slc (o off len : Nat) (cap : ACap)
  | emp
  | mp (o : Nat)
  | yld (o : Nat)
  | fn (f : Fn) (first captured : List AV)
  | ifc (t : TypeId) (v : AV)
  | agg (cs : List AV)
  | tup (vs : List AV)
  | opq (k : Nat)
  | any
  | lst (tk : ATk) (es : List AV)
  | eptr (cs : List AV)
  | fmp (es : List (AV × AV × Nat))
  deriving Inhabited

/-- A value's cells. -/
def AV.cells : AV → List AV
  | .agg cs => cs
  | a => [a]

/-- Where a thing lies: its block, where it begins there, how many cells the block has, how many an element takes. -/
structure Bk where
  blk : Nat
  sh : Nat
  sz : Nat
  esz : Nat

structure Env where
  b : Nat → Option Bk
  q : Nat → Value
  fz : Nat → Nat → Option Value
  fm : Nat → Option Obj

/-- The right to what lies behind a slice's cells. -/
def TK (β : Env) (tk : ATk) (sz b e l : Nat) : Prop :=
  match tk with
  | .no => True
  | .full => e = l
  | .room t => ∃ k, β.b t = some k ∧ k.blk = b ∧ k.sh = e ∧ k.sz = l ∧ k.esz = sz

mutual
inductive VR (β : Env) : AV → Value → Prop where
  | lit (v : Value) : VR β (.lit v) v
  | str (l : List UInt8) : VR β (.str l) (.string ⟨l.toArray⟩)
  | ptr (o off : Nat) (k : Bk) (h : β.b o = some k) : VR β (.ptr o off) (.pointer (some ⟨k.blk, k.sh + off, none⟩))
  | slcX (o off len c : Nat) (k : Bk) (h : β.b o = some k) : VR β (.slc o off len (.ex c)) (.slice (some ⟨k.blk, k.sh + off, none⟩) len c)
  | slcO (o off len c z : Nat) (k : Bk) (h : β.b o = some k) (hz : k.esz = z) (hc : k.sh + off + c * z = k.sz) (hl : len ≤ c) : VR β (.slc o off len (.op z)) (.slice (some ⟨k.blk, k.sh + off, none⟩) len c)
  | emp (a : Addr) (c : Nat) : VR β .emp (.slice (some a) 0 c)
  | mp (o : Nat) (k : Bk) (h : β.b o = some k) : VR β (.mp o) (.map (some k.blk))
  | yld (o : Nat) (k : Bk) (h : β.b o = some k) : VR β (.yld o) (.func (.yield k.blk) #[] #[])
  | fn (f : Fn) (a b : List AV) (x y : List Value) (h1 : VRs β a x) (h2 : VRs β b y) : VR β (.fn f a b) (.func f x.toArray y.toArray)
  | ifc (t : TypeId) (a : AV) (v : Value) (h : VR β a v) : VR β (.ifc t a) (.iface t v)
  | agg (a : List AV) (x : List Value) (h : VRs β a x) : VR β (.agg a) (.agg x.toArray)
  | tup (a : List AV) (x : List Value) (h : VRs β a x) : VR β (.tup a) (.tuple x.toArray)
  | opq (k : Nat) : VR β (.opq k) (β.q k)
  | any (v : Value) : VR β .any v
  | lstN (tk : ATk) : VR β (.lst tk []) (.slice none 0 0)
  | lstE (tk : ATk) (a : Addr) (c : Nat) (hf : tk = .full → c = 0) (hr : ∀ o, tk ≠ .room o) : VR β (.lst tk []) (.slice (some a) 0 c)
  | lst (tk : ATk) (sz : Nat) (es : List AV) (vs : List Value) (b o c : Nat) (h : VRs β (es.flatMap AV.cells) vs) (hl : ∀ e ∈ es, e.cells.length = sz) (hz : 0 < sz)
      (hv : ∀ (i : Nat) v, vs[i]? = some v → β.fz b (o + i) = some v) (hc : es.length ≤ c) (ht : TK β tk sz b (o + es.length * sz) (o + c * sz)) : VR β (.lst tk es) (.slice (some ⟨b, o, none⟩) es.length c)
  | eptr (cs : List AV) (vs : List Value) (b o : Nat) (h : VRs β cs vs) (hv : ∀ (i : Nat) v, vs[i]? = some v → β.fz b (o + i) = some v) : VR β (.eptr cs) (.pointer (some ⟨b, o, none⟩))
  | fmpN : VR β (.fmp []) (.map none)
  | fmp (es : List (AV × AV × Nat)) (es' : Array MapEntry) (clk r : Nat) (h : ERel β es es'.toList) (hf : β.fm r = some (.map es' clk)) : VR β (.fmp es) (.map (some r))
inductive VRs (β : Env) : List AV → List Value → Prop where
  | nil : VRs β [] []
  | cons (a : AV) (v : Value) (l : List AV) (x : List Value) (h : VR β a v) (t : VRs β l x) : VRs β (a :: l) (v :: x)
inductive ERel (β : Env) : List (AV × AV × Nat) → List MapEntry → Prop where
  | nil : ERel β [] []
  | cons (a b : AV) (n : Nat) (k v : Value) (l : List (AV × AV × Nat)) (x : List MapEntry) (hk : VR β a k) (hv : VR β b v) (t : ERel β l x) : ERel β ((a, b, n) :: l) (⟨k, v, n⟩ :: x)
end

/-- Later: more things lie in memory. -/
structure Env.le (β β' : Env) : Prop where
  b : ∀ o k, β.b o = some k → β'.b o = some k
  q : β'.q = β.q
  fz : ∀ b o v, β.fz b o = some v → β'.fz b o = some v
  fm : ∀ r x, β.fm r = some x → β'.fm r = some x

theorem Env.le.refl (β : Env) : β.le β := ⟨fun _ _ h => h, rfl, fun _ _ _ h => h, fun _ _ h => h⟩
theorem Env.le.trans {a b c : Env} (h : a.le b) (k : b.le c) : a.le c := ⟨fun o x hx => k.b o x (h.b o x hx), k.q.trans h.q, fun r o v hx => k.fz r o v (h.fz r o v hx), fun r x hx => k.fm r x (h.fm r x hx)⟩

theorem TK.mono {β β' : Env} (h : β.le β') {tk : ATk} {sz b e l : Nat} (g : TK β tk sz b e l) : TK β' tk sz b e l := by
  cases tk with
  | no => trivial
  | full => exact g
  | room t => obtain ⟨k, h1, h2⟩ := g; exact ⟨k, h.b _ _ h1, h2⟩

mutual
theorem VR.mono {β β' : Env} (h : β.le β') : ∀ {a : AV} {v : Value}, VR β a v → VR β' a v
  | _, _, .lit v => .lit v
  | _, _, .str l => .str l
  | _, _, .ptr o off k hk => .ptr o off k (h.b o k hk)
  | _, _, .slcX o off len c k hk => .slcX o off len c k (h.b o k hk)
  | _, _, .slcO o off len c z k hk hz hc hl => .slcO o off len c z k (h.b o k hk) hz hc hl
  | _, _, .emp a c => .emp a c
  | _, _, .mp o k hk => .mp o k (h.b o k hk)
  | _, _, .yld o k hk => .yld o k (h.b o k hk)
  | _, _, .fn f a b x y h1 h2 => .fn f a b x y (VRs.mono h h1) (VRs.mono h h2)
  | _, _, .ifc t a v hv => .ifc t a v (VR.mono h hv)
  | _, _, .agg a x hx => .agg a x (VRs.mono h hx)
  | _, _, .tup a x hx => .tup a x (VRs.mono h hx)
  | _, _, .opq k => h.q ▸ VR.opq k
  | _, _, .any v => .any v
  | _, _, .lstN tk => .lstN tk
  | _, _, .lstE tk a c h1 h2 => .lstE tk a c h1 h2
  | _, _, .lst tk sz es vs b o c h1 hl hz hv hc ht => .lst tk sz es vs b o c (VRs.mono h h1) hl hz (fun i v hi => h.fz _ _ _ (hv i v hi)) hc (ht.mono h)
  | _, _, .eptr cs vs b o h1 hv => .eptr cs vs b o (VRs.mono h h1) (fun i v hi => h.fz _ _ _ (hv i v hi))
  | _, _, .fmpN => .fmpN
  | _, _, .fmp es es' clk r h1 hf => .fmp es es' clk r (ERel.mono h h1) (h.fm _ _ hf)
theorem VRs.mono {β β' : Env} (h : β.le β') : ∀ {a : List AV} {v : List Value}, VRs β a v → VRs β' a v
  | _, _, .nil => .nil
  | _, _, .cons a v l x hv ht => .cons a v l x (VR.mono h hv) (VRs.mono h ht)
theorem ERel.mono {β β' : Env} (h : β.le β') : ∀ {l : List (AV × AV × Nat)} {x : List MapEntry}, ERel β l x → ERel β' l x
  | _, _, .nil => .nil
  | _, _, .cons a b n k v l x hk hv t => .cons a b n k v l x (VR.mono h hk) (VR.mono h hv) (ERel.mono h t)
end

theorem VRs.length {β : Env} : ∀ {a : List AV} {v : List Value}, VRs β a v → v.length = a.length
  | _, _, .nil => rfl
  | _, _, .cons _ _ _ _ _ t => by simp [t.length]

theorem VRs.append {β : Env} : ∀ {a b : List AV} {x y : List Value}, VRs β a x → VRs β b y → VRs β (a ++ b) (x ++ y)
  | _, _, _, _, .nil, h => h
  | _, _, _, _, .cons a v l x hv ht, h => .cons a v _ _ hv (VRs.append ht h)

theorem VRs.get {β : Env} : ∀ {a : List AV} {x : List Value}, VRs β a x → ∀ (i : Nat) (c : AV), a[i]? = some c → ∃ v, x[i]? = some v ∧ VR β c v
  | _, _, .nil, i, c, h => by simp at h
  | _, _, .cons a v l x hv ht, 0, c, h => by simp at h; subst h; exact ⟨v, rfl, hv⟩
  | _, _, .cons a v l x hv ht, i + 1, c, h => by
    simp at h
    simpa using ht.get i c h

theorem VRs.of_get {β : Env} : ∀ {a : List AV} {x : List Value}, x.length = a.length → (∀ (i : Nat) (c : AV) (v : Value), a[i]? = some c → x[i]? = some v → VR β c v) → VRs β a x
  | [], [], _, _ => .nil
  | [], _ :: _, h, _ => by simp at h
  | _ :: _, [], h, _ => by simp at h
  | a :: l, v :: x, h, g => .cons a v l x (g 0 a v rfl rfl) (VRs.of_get (by simpa using h) fun i c u h1 h2 => g (i + 1) c u (by simpa using h1) (by simpa using h2))

theorem VRs.take {β : Env} {a : List AV} {x : List Value} (h : VRs β a x) (n : Nat) : VRs β (a.take n) (x.take n) :=
  VRs.of_get (by simp [h.length]) fun i c v h1 h2 => by
    simp only [List.getElem?_take] at h1 h2
    split at h1
    · rename_i hi
      rw [if_pos hi] at h2
      obtain ⟨u, hu, hr⟩ := h.get i c h1
      rw [hu] at h2; cases h2; exact hr
    · cases h1

theorem VRs.drop {β : Env} {a : List AV} {x : List Value} (h : VRs β a x) (n : Nat) : VRs β (a.drop n) (x.drop n) :=
  VRs.of_get (by simp [h.length]) fun i c v h1 h2 => by
    simp only [List.getElem?_drop] at h1 h2
    obtain ⟨u, hu, hr⟩ := h.get _ c h1
    rw [hu] at h2; cases h2; exact hr

theorem VRs.set {β : Env} {a : List AV} {x : List Value} (h : VRs β a x) (n : Nat) {c : AV} {v : Value} (hc : VR β c v) : VRs β (a.set n c) (x.set n v) :=
  VRs.of_get (by simp [h.length]) fun i c' v' h1 h2 => by
    simp only [List.getElem?_set] at h1 h2
    split at h1
    · rename_i hi
      rw [if_pos hi] at h2
      rw [h.length] at h2
      split at h1
      · rename_i hl; rw [if_pos hl] at h2; cases h1; cases h2; exact hc
      · cases h1
    · rename_i hi
      rw [if_neg hi] at h2
      obtain ⟨u, hu, hr⟩ := h.get i c' h1
      rw [hu] at h2; cases h2; exact hr

theorem VRs.replicate {β : Env} {c : AV} {v : Value} (hc : VR β c v) : ∀ n, VRs β (List.replicate n c) (List.replicate n v)
  | 0 => .nil
  | n + 1 => .cons c v _ _ hc (VRs.replicate hc n)

end Go.Proofs.Ytbcecenneganeaa.Ev
