import Derived.Test.YtancionamhenmaaGreatEvQ3
set_option linter.all false
set_option maxRecDepth 100000
namespace Go.Proofs.YtancionamhenmaaGreat.Ev
open Go.RowKit
structure Vl where
 k : Int
 b : Bool
 n : Int
 s : List UInt8
abbrev Vl.cs (v : Vl) : List AV := [.lit (.int .i64 v.k), .lit (.bool v.b), .lit (.int .i64 v.n), .str v.s]
def encV (v : Vl) : AV := .agg v.cs
abbrev Row := List Vl
def encR (r : Row) : AV := .lst .no (r.map encV)
structure En where
 r : Row
 m : Int
def encE (e : En) : AV := .agg [encR e.r, .lit (.int .i64 e.m)]
structure Rl where
 n : List UInt8
 l : List En
def encL (r : Rl) : AV := .agg [.str r.n, .lst .no (r.l.map encE)]
structure Tm where
 x : List UInt8
 a : Bool
 v : Vl
def encT (t : Tm) : AV := .agg [.str t.x, .lit (.bool t.a), .lit (.int .i64 t.v.k), .lit (.bool t.v.b), .lit (.int .i64 t.v.n), .str t.v.s]
structure Lt where
 no : Bool
 n : List UInt8
 l : List Tm
 o : Int
def encA (a : Lt) : AV := .agg [.lit (.bool a.no), .str a.n, .lst .no (a.l.map encT), .lit (.int .i64 a.o)]
structure Ru where
 k : Int
 n : List UInt8
 h : List (List UInt8)
 a : Int
 f : List UInt8
 m : Int
 b : List Lt
def encX (x : Ru) : AV := .agg [.lit (.int .i64 x.k), .str x.n, .lst .no (x.h.map .str), .lit (.int .i64 x.a), .str x.f, .lit (.int .i64 x.m), .lst .no (x.b.map encA)]
theorem bares_map {α : Type} {f : α -> AV} (h : ∀ x, bare (f x) = true) : ∀ l : List α, bares (l.map f) = true
 | [] => rfl
 | x :: l => by simp only [List.map_cons, bares, h x, bares_map h l, Bool.and_self]
theorem nrms_mapf {α : Type} {f : α -> AV} (h : ∀ x, nrm (f x) = f x) : ∀ l : List α, nrms (l.map f) = l.map f
 | [] => rfl
 | x :: l => by simp only [List.map_cons, nrms, h x, nrms_mapf h l]
theorem all_map {α : Type} {f : α -> AV} {p : AV -> Bool} (h : ∀ x, p (f x) = true) (l : List α) : (l.map f).all p = true := by
 rw [List.all_eq_true]; intro y hy; obtain ⟨x, _, rfl⟩ := List.mem_map.1 hy; exact h x
theorem bare_V (v : Vl) : bare (encV v) = true := rfl
theorem nrm_V (v : Vl) : nrm (encV v) = encV v := rfl
theorem bare_R (r : Row) : bare (encR r) = true := by simp only [encR, bare, bares_map bare_V]
theorem nrm_R (r : Row) : nrm (encR r) = encR r := by simp only [encR, nrm, nrms_mapf nrm_V]
theorem bare_E (e : En) : bare (encE e) = true := by simp only [encE, bare, bares, bare_R, Bool.and_self]
theorem nrm_E (e : En) : nrm (encE e) = encE e := by simp only [encE, nrm, nrms, nrm_R]
theorem bare_L (e : Rl) : bare (encL e) = true := by simp only [encL, bare, bares, bares_map bare_E, Bool.and_self]
theorem nrm_L (e : Rl) : nrm (encL e) = encL e := by simp only [encL, nrm, nrms, nrms_mapf nrm_E]
theorem bare_T (t : Tm) : bare (encT t) = true := rfl
theorem nrm_T (t : Tm) : nrm (encT t) = encT t := rfl
theorem bare_A (e : Lt) : bare (encA e) = true := by simp only [encA, bare, bares, bares_map bare_T, Bool.and_self]
theorem nrm_A (e : Lt) : nrm (encA e) = encA e := by simp only [encA, nrm, nrms, nrms_mapf nrm_T]
theorem bare_X (e : Ru) : bare (encX e) = true := by simp only [encX, bare, bares, bares_map bare_A, bares_map (f := AV.str) (fun _ => rfl), Bool.and_self]
theorem nrm_X (e : Ru) : nrm (encX e) = encX e := by simp only [encX, nrm, nrms, nrms_mapf nrm_A, nrms_mapf (f := AV.str) (fun _ => rfl)]
theorem bares_S (l : List (List UInt8)) : bares (l.map .str) = true := bares_map (fun _ => rfl) l
theorem nrms_S (l : List (List UInt8)) : nrms (l.map .str) = l.map .str := nrms_mapf (fun _ => rfl) l
theorem bares_V (l : List Vl) : bares (l.map encV) = true := bares_map bare_V l
theorem nrms_V (l : List Vl) : nrms (l.map encV) = l.map encV := nrms_mapf nrm_V l
theorem bares_R (l : List Row) : bares (l.map encR) = true := bares_map bare_R l
theorem nrms_R (l : List Row) : nrms (l.map encR) = l.map encR := nrms_mapf nrm_R l
theorem bares_E (l : List En) : bares (l.map encE) = true := bares_map bare_E l
theorem nrms_E (l : List En) : nrms (l.map encE) = l.map encE := nrms_mapf nrm_E l
theorem bares_L (l : List Rl) : bares (l.map encL) = true := bares_map bare_L l
theorem nrms_L (l : List Rl) : nrms (l.map encL) = l.map encL := nrms_mapf nrm_L l
theorem bares_T (l : List Tm) : bares (l.map encT) = true := bares_map bare_T l
theorem nrms_T (l : List Tm) : nrms (l.map encT) = l.map encT := nrms_mapf nrm_T l
theorem bares_A (l : List Lt) : bares (l.map encA) = true := bares_map bare_A l
theorem nrms_A (l : List Lt) : nrms (l.map encA) = l.map encA := nrms_mapf nrm_A l
def dBN := an @bare_V (an @nrm_V (an @bare_R (an @nrm_R (an @bare_E (an @nrm_E (an @bare_L (an @nrm_L (an @bare_T (an @nrm_T (an @bare_A (an @nrm_A (an @bare_X (an @nrm_X (an @bares_S (an @nrms_S (an @bares_V (an @nrms_V (an @bares_R (an @nrms_R (an @bares_E (an @nrms_E (an @bares_L (an @nrms_L (an @bares_T (an @nrms_T (an @bares_A @nrms_A))))))))))))))))))))))))))
theorem wrap_i64 {n : Int} (h1 : -9223372036854775808 <= n) (h2 : n <= 9223372036854775807) : IntKind.i64.wrap n = n := by
 rw [IntKind.wrap_i64]; omega
theorem wrap_succ {i : Nat} (h : i < 9223372036854775807) : IntKind.i64.wrap ((i : Int) + 1) = ((i + 1 : Nat) : Int) := by rw [wrap_i64 (by omega) (by omega)]; omega
def cmpI (a b : Int) : Int := bif decide (a < b) then -1 else bif decide (b < a) then 1 else 0
def tr (b : Bool) : Int := bif b then 1 else 0
def vcmp (a b : Vl) : Int := bif decide (a.k = b.k) then (bif decide (a.k = 1) then cmpI (tr a.b) (tr b.b) else bif decide (a.k = 2) then cmpI a.n b.n else bif decide (a.k = 3) then Lib.compareBytes a.s b.s else 0) else cmpI a.k b.k
def rcmp : Row -> Row -> Int
 | [], [] => 0
 | [], _ :: _ => -1
 | _ :: _, [] => 1
 | a :: r, b :: q => bif decide (vcmp a b = 0) then rcmp r q else vcmp a b
structure Ord {α : Type} (c : α -> α -> Int) : Prop where
 sw : ∀ a b, c b a = - c a b
 tr : ∀ a b d, c a b <= 0 -> c b d <= 0 -> c a d <= 0
section
variable {α : Type} {c : α -> α -> Int} (h : Ord c)
include h
theorem Ord.rf (a : α) : c a a = 0 := by have := h.sw a a; omega
theorem Ord.lt_le {a b d : α} (h1 : c a b < 0) (h2 : c b d <= 0) : c a d < 0 := by
 rcases Int.lt_or_le (c a d) 0 with h3 | h3
 ·exact h3
 ·have h4 : c d a <= 0 := by rw [h.sw a d]; omega
  have h5 := h.tr b d a h2 h4
  rw [h.sw a b] at h5; omega
theorem Ord.le_lt {a b d : α} (h1 : c a b <= 0) (h2 : c b d < 0) : c a d < 0 := by
 rcases Int.lt_or_le (c a d) 0 with h3 | h3
 ·exact h3
 ·have h4 : c d a <= 0 := by rw [h.sw a d]; omega
  have h5 := h.tr d a b h4 h1
  rw [h.sw b d] at h5; omega
theorem Ord.lt {a b d : α} (h1 : c a b < 0) (h2 : c b d < 0) : c a d < 0 := h.lt_le h1 (Int.le_of_lt h2)
theorem Ord.eq_l {a b d : α} (h1 : c a b = 0) : (c a d < 0 ↔ c b d < 0) /\ (c a d = 0 ↔ c b d = 0) := by
 have h2 : c b a = 0 := by rw [h.sw a b]; omega
 have e1 : c a d < 0 -> c b d < 0 := fun h3 => h.le_lt (by omega) h3
 have e2 : c b d < 0 -> c a d < 0 := fun h3 => h.le_lt (by omega) h3
 have e3 : c a d <= 0 -> c b d <= 0 := fun h3 => h.tr b a d (by omega) h3
 have e4 : c b d <= 0 -> c a d <= 0 := fun h3 => h.tr a b d (by omega) h3
 constructor
 ·exact ⟨e1, e2⟩
 ·constructor <;> intro h5 <;> omega
end
def lex {α : Type} (c : α -> α -> Int) : List α -> List α -> Int
 | [], [] => 0
 | [], _ :: _ => -1
 | _ :: _, [] => 1
 | a :: r, b :: q => bif decide (c a b = 0) then lex c r q else c a b
theorem lex_ord {α : Type} {c : α -> α -> Int} (h : Ord c) : Ord (lex c) := by
 constructor
 ·intro a
  induction a with
  | nil => intro b; cases b <;> rfl
  | cons x a ih =>
   intro b
   cases b with
   | nil => rfl
   | cons y b =>
    simp only [lex, h.sw x y]
    by_cases e : c x y = 0
    ·have e2 : -c x y = 0 := by omega
     simp only [e, decide_true, cond_true, ih b]
     simp
    ·have e2 : ¬ (-c x y = 0) := by omega
     simp only [e, e2, decide_false, cond_false]
 ·intro a
  induction a with
  | nil => intro b d h1 h2; cases d <;> simp [lex]
  | cons x a ih =>
   intro b d h1 h2
   cases b with
   | nil => simp [lex] at h1
   | cons y b =>
    cases d with
    | nil => simp [lex] at h2
    | cons z d =>
     simp only [lex] at h1 h2 ⊢
     by_cases e1 : c x y = 0
     ·simp only [e1, decide_true, cond_true] at h1
      have q := h.eq_l (d := z) e1
      by_cases e2 : c y z = 0
      ·simp only [e2, decide_true, cond_true] at h2
       have e3 : c x z = 0 := q.2.2 e2
       simp only [e3, decide_true, cond_true]
       exact ih b d h1 h2
      ·simp only [e2, decide_false, cond_false] at h2
       have e3 : c x z < 0 := q.1.2 (by omega)
       have e4 : ¬ c x z = 0 := by omega
       simp only [e4, decide_false, cond_false]; omega
     ·simp only [e1, decide_false, cond_false] at h1
      have e3 : c x z < 0 := by
       by_cases e2 : c y z = 0
       ·exact h.lt_le (b := y) (by omega) (by omega)
       ·simp only [e2, decide_false, cond_false] at h2
        exact h.lt (b := y) (by omega) (by omega)
      have e4 : ¬ c x z = 0 := by omega
      simp only [e4, decide_false, cond_false]; omega
theorem cmpI_ord : Ord cmpI := by
 constructor
 ·intro a b
  unfold cmpI
  by_cases h1 : a < b
  ·have h2 : ¬ b < a := by omega
   simp [h1, h2]
  ·by_cases h2 : b < a <;> simp [h1, h2]
 ·intro a b d h1 h2
  unfold cmpI at h1 h2 ⊢
  by_cases e1 : a < b <;> by_cases e2 : b < a <;> by_cases e3 : b < d <;> by_cases e4 : d < b <;> by_cases e5 : a < d <;> by_cases e6 : d < a <;> simp [e1, e2, e3, e4, e5, e6] at h1 h2 ⊢ <;> omega
def cmpB (a b : UInt8) : Int := cmpI a.toNat b.toNat
theorem cmpB_ord : Ord cmpB := ⟨fun a b => cmpI_ord.sw _ _, fun a b d => cmpI_ord.tr _ _ _⟩
theorem compareBytes_lex : ∀ (a b : List UInt8), Lib.compareBytes a b = lex cmpB a b
 | [], [] => rfl
 | [], _ :: _ => rfl
 | _ :: _, [] => rfl
 | x :: a, y :: b => by
  show (if x < y then -1 else if y < x then 1 else Lib.compareBytes a b) = (bif decide (cmpB x y = 0) then lex cmpB a b else cmpB x y)
  by_cases h1 : x < y
  ·have h3 : (x.toNat : Int) < y.toNat := by have := UInt8.lt_iff_toNat_lt.1 h1; omega
   have e : cmpB x y = -1 := by unfold cmpB cmpI; simp only [h3, decide_true, cond_true]
   rw [e, if_pos h1]; rfl
  ·by_cases h2 : y < x
   ·have h3 : (y.toNat : Int) < x.toNat := by have := UInt8.lt_iff_toNat_lt.1 h2; omega
    have h4 : ¬ (x.toNat : Int) < y.toNat := by omega
    have e : cmpB x y = 1 := by unfold cmpB cmpI; simp only [h3, h4, decide_true, decide_false, cond_true, cond_false]
    rw [e, if_neg h1, if_pos h2]; rfl
   ·have h3 : ¬ (x.toNat : Int) < y.toNat := by intro h; apply h1; rw [UInt8.lt_iff_toNat_lt]; omega
    have h4 : ¬ (y.toNat : Int) < x.toNat := by intro h; apply h2; rw [UInt8.lt_iff_toNat_lt]; omega
    have e : cmpB x y = 0 := by unfold cmpB cmpI; simp only [h3, h4, decide_false, cond_false]
    rw [e, if_neg h1, if_neg h2, compareBytes_lex a b]; rfl
theorem vcmp_ord : Ord vcmp := by
 have hB := lex_ord cmpB_ord
 constructor
 ·intro a b
  unfold vcmp
  by_cases h1 : a.k = b.k
  ·rw [<- h1]
   simp only [decide_true, cond_true]
   by_cases h2 : a.k = 1
   ·simp only [h2, decide_true, cond_true]; exact cmpI_ord.sw _ _
   ·by_cases h3 : a.k = 2
    ·simp only [h3, decide_true, cond_true]
     simp only [show decide ((2 : Int) = 1) = false from rfl, cond_false]; exact cmpI_ord.sw _ _
    ·by_cases h4 : a.k = 3
     ·simp only [h4, show decide ((3 : Int) = 1) = false from rfl, show decide ((3 : Int) = 2) = false from rfl, decide_true, cond_true, cond_false, compareBytes_lex]
      exact hB.sw _ _
     ·simp [h2, h3, h4]
  ·have h2 : ¬ b.k = a.k := fun h => h1 h.symm
   simp only [h1, h2, decide_false, cond_false]
   exact cmpI_ord.sw _ _
 ·intro a b d h1 h2
  have key : ∀ x y : Vl, ¬ x.k = y.k -> (vcmp x y = -1 /\ x.k < y.k) ∨ (vcmp x y = 1 /\ y.k < x.k) := fun x y h => by
   unfold vcmp cmpI
   by_cases e : x.k < y.k
   ·left; simp [h, e]
   ·right
    have e2 : y.k < x.k := by omega
    simp [h, e, e2]
  by_cases e1 : a.k = b.k
  ·by_cases e2 : b.k = d.k
   ·have e3 : a.k = d.k := e1.trans e2
    unfold vcmp at h1 h2 ⊢
    rw [<- e2, <- e1] at h2
    rw [<- e3]
    rw [<- e1] at h1
    simp only [decide_true, cond_true] at h1 h2 ⊢
    by_cases k1 : a.k = 1
    ·simp only [k1, decide_true, cond_true] at h1 h2 ⊢; exact cmpI_ord.tr _ _ _ h1 h2
    ·by_cases k2 : a.k = 2
     ·simp only [k2, show decide ((2 : Int) = 1) = false from rfl, decide_true, cond_true, cond_false] at h1 h2 ⊢; exact cmpI_ord.tr _ _ _ h1 h2
     ·by_cases k3 : a.k = 3
      ·simp only [k3, show decide ((3 : Int) = 1) = false from rfl, show decide ((3 : Int) = 2) = false from rfl, decide_true, cond_true, cond_false, compareBytes_lex] at h1 h2 ⊢; exact hB.tr _ _ _ h1 h2
      ·simp [k1, k2, k3]
   ·rcases key b d e2 with ⟨q1, q2⟩ | ⟨q1, q2⟩
    ·rcases key a d (by rw [e1]; exact e2) with ⟨q3, q4⟩ | ⟨q3, q4⟩
     ·omega
     ·omega
    ·omega
  ·rcases key a b e1 with ⟨q1, q2⟩ | ⟨q1, q2⟩
   ·by_cases e2 : b.k = d.k
    ·rcases key a d (by omega) with ⟨q3, q4⟩ | ⟨q3, q4⟩ <;> omega
    ·rcases key b d e2 with ⟨q3, q4⟩ | ⟨q3, q4⟩
     ·rcases key a d (by omega) with ⟨q5, q6⟩ | ⟨q5, q6⟩ <;> omega
     ·omega
   ·omega
theorem rcmp_lex : ∀ (a b : Row), rcmp a b = lex vcmp a b
 | [], [] => rfl
 | [], _ :: _ => rfl
 | _ :: _, [] => rfl
 | x :: a, y :: b => by unfold rcmp lex; rw [rcmp_lex a b]
theorem rcmp_ord : Ord rcmp := by
 have h := lex_ord vcmp_ord
 exact ⟨fun a b => by rw [rcmp_lex, rcmp_lex]; exact h.sw _ _, fun a b d => by rw [rcmp_lex, rcmp_lex, rcmp_lex]; exact h.tr _ _ _⟩
def Srt (l : List En) : Prop := l.Pairwise fun a b => rcmp a.r b.r < 0
def bget (l : List En) (r : Row) : Option En := l.find? fun e => decide (rcmp e.r r = 0)
def bmany (l : List En) (r : Row) : Int := match bget l r with | some e => e.m | none => 0
def bset : List En -> Row -> Int -> List En
 | [], r, m => bif decide (m = 0) then [] else [⟨r, m⟩]
 | e :: l, r, m => bif decide (rcmp e.r r < 0) then e :: bset l r m else bif decide (rcmp e.r r = 0) then (bif decide (m = 0) then l else ⟨e.r, m⟩ :: l) else (bif decide (m = 0) then e :: l else ⟨r, m⟩ :: e :: l)
theorem rc_gt {a b : Row} : 0 < rcmp a b ↔ rcmp b a < 0 := by rw [rcmp_ord.sw a b]; omega
theorem rc_eq {a b : Row} : rcmp a b = 0 ↔ rcmp b a = 0 := by rw [rcmp_ord.sw a b]; omega
theorem Srt.cons {e : En} {l : List En} (h : Srt (e :: l)) : Srt l /\ ∀ x ∈ l, rcmp e.r x.r < 0 := by
 unfold Srt at h
 rw [List.pairwise_cons] at h
 exact ⟨h.2, h.1⟩
theorem Srt.app {a b : List En} (h : Srt (a ++ b)) : Srt a /\ Srt b /\ ∀ x ∈ a, ∀ y ∈ b, rcmp x.r y.r < 0 := by
 unfold Srt at h
 rw [List.pairwise_append] at h
 exact h
theorem bget_ahead {l : List En} {r : Row} (h : ∀ x ∈ l, rcmp r x.r < 0) : bget l r = none := by
 unfold bget
 rw [List.find?_eq_none]
 intro x hx
 have := rc_gt.2 (h x hx)
 simp only [decide_eq_true_eq]
 omega
theorem bget_behind {l : List En} {r : Row} (h : ∀ x ∈ l, rcmp x.r r < 0) : bget l r = none := by
 unfold bget
 rw [List.find?_eq_none]
 intro x hx
 have := h x hx
 simp only [decide_eq_true_eq]
 omega
theorem bget_app {a b : List En} {r : Row} : bget (a ++ b) r = (bget a r).or (bget b r) := by
 unfold bget
 rw [List.find?_append]
theorem bget_cons {e : En} {l : List En} {r : Row} : bget (e :: l) r = bif decide (rcmp e.r r = 0) then some e else bget l r := by
 unfold bget
 rw [List.find?_cons]
 cases decide (rcmp e.r r = 0) <;> rfl
theorem Srt.mid {a b : List En} {e : En} (h : Srt (a ++ e :: b)) : (∀ x ∈ a, rcmp x.r e.r < 0) /\ (∀ x ∈ b, rcmp e.r x.r < 0) /\ Srt a /\ Srt b := by
 obtain ⟨h1, h2, h3⟩ := h.app
 obtain ⟨h4, h5⟩ := h2.cons
 exact ⟨fun x hx => h3 x hx e (List.mem_cons_self ..), h5, h1, h4⟩
theorem bget_lt {a b : List En} {e : En} {r : Row} (h : Srt (a ++ e :: b)) (hr : rcmp r e.r < 0) : bget (a ++ e :: b) r = bget a r := by
 obtain ⟨h1, h2, _, _⟩ := h.mid
 have h3 : bget (e :: b) r = none := bget_ahead fun x hx => by
  rcases List.mem_cons.1 hx with rfl | hx
  ·exact hr
  ·exact rcmp_ord.lt hr (h2 x hx)
 rw [bget_app, h3, Option.or_none]
theorem bget_gt {a b : List En} {e : En} {r : Row} (h : Srt (a ++ e :: b)) (hr : 0 < rcmp r e.r) : bget (a ++ e :: b) r = bget b r := by
 obtain ⟨h1, h2, _, _⟩ := h.mid
 have hr := rc_gt.1 hr
 have h3 : bget a r = none := bget_behind fun x hx => rcmp_ord.lt (h1 x hx) hr
 have h4 : decide (rcmp e.r r = 0) = false := dcF (by omega)
 rw [bget_app, h3, Option.none_or, bget_cons, h4]; rfl
theorem bget_mid {a b : List En} {e : En} {r : Row} (h : Srt (a ++ e :: b)) (hr : rcmp r e.r = 0) : bget (a ++ e :: b) r = some e := by
 obtain ⟨h1, h2, _, _⟩ := h.mid
 have hr := rc_eq.1 hr
 have h3 : bget a r = none := bget_behind fun x hx => rcmp_ord.lt_le (h1 x hx) (by omega)
 have h4 : decide (rcmp e.r r = 0) = true := by rw [decide_eq_true_iff]; exact hr
 rw [bget_app, h3, Option.none_or, bget_cons, h4]; rfl
theorem bset_behind {a b : List En} {r : Row} {m : Int} (h : ∀ x ∈ a, rcmp x.r r < 0) : bset (a ++ b) r m = a ++ bset b r m := by
 induction a with
 | nil => rfl
 | cons e a ih =>
  have h1 : decide (rcmp e.r r < 0) = true := by rw [decide_eq_true_iff]; exact h e (List.mem_cons_self ..)
  rw [List.cons_append, bset, h1, cond_true, ih fun x hx => h x (List.mem_cons_of_mem _ hx)]; rfl
theorem bset_app {a b : List En} {r : Row} {m : Int} (h : ∀ x ∈ b, rcmp r x.r < 0) (hs : Srt a) : bset (a ++ b) r m = bset a r m ++ b := by
 induction a with
 | nil =>
  cases b with
  | nil => simp [bset]
  | cons e b =>
   have h1 := rc_gt.2 (h e (List.mem_cons_self ..))
   have h2 : decide (rcmp e.r r < 0) = false := dcF (by omega)
   have h3 : decide (rcmp e.r r = 0) = false := dcF (by omega)
   simp only [List.nil_append, bset, h2, h3, cond_false]
   cases decide (m = 0) <;> rfl
 | cons e a ih =>
  obtain ⟨h4, h5⟩ := hs.cons
  rw [List.cons_append, bset, bset, ih h4]
  cases decide (rcmp e.r r < 0) <;> cases decide (rcmp e.r r = 0) <;> cases decide (m = 0) <;> rfl
theorem bset_lt {a b : List En} {e : En} {r : Row} {m : Int} (h : Srt (a ++ e :: b)) (hr : rcmp r e.r < 0) : bset (a ++ e :: b) r m = bset a r m ++ e :: b := by
 obtain ⟨h1, h2, h3, h4⟩ := h.mid
 exact bset_app (fun x hx => by
  rcases List.mem_cons.1 hx with rfl | hx
  ·exact hr
  ·exact rcmp_ord.lt hr (h2 x hx)) h3
theorem bset_gt {a b : List En} {e : En} {r : Row} {m : Int} (h : Srt (a ++ e :: b)) (hr : 0 < rcmp r e.r) : bset (a ++ e :: b) r m = a ++ e :: bset b r m := by
 obtain ⟨h1, h2, h3, h4⟩ := h.mid
 have hr := rc_gt.1 hr
 have h5 : decide (rcmp e.r r < 0) = true := by rw [decide_eq_true_iff]; exact hr
 rw [bset_behind fun x hx => rcmp_ord.lt (h1 x hx) hr, bset, h5]; rfl
theorem bset_mid {a b : List En} {e : En} {r : Row} {m : Int} (h : Srt (a ++ e :: b)) (hr : rcmp r e.r = 0) : bset (a ++ e :: b) r m = a ++ (bif decide (m = 0) then b else ⟨e.r, m⟩ :: b) := by
 obtain ⟨h1, h2, h3, h4⟩ := h.mid
 have hr := rc_eq.1 hr
 have h5 : decide (rcmp e.r r < 0) = false := dcF (by omega)
 have h6 : decide (rcmp e.r r = 0) = true := by rw [decide_eq_true_iff]; exact hr
 rw [bset_behind fun x hx => rcmp_ord.lt_le (h1 x hx) (by omega), bset, h5, h6]; rfl
theorem bset_row {l : List En} {r : Row} {m : Int} : ∀ x ∈ bset l r m, x ∈ l ∨ (x.m = m /\ m ≠ 0 /\ (x.r = r ∨ ∃ e ∈ l, x.r = e.r /\ rcmp e.r r = 0)) := by
 induction l with
 | nil =>
  intro x hx
  unfold bset at hx
  by_cases h : m = 0
  ·simp [h] at hx
  ·simp [h] at hx; subst hx; exact .inr ⟨rfl, h, .inl rfl⟩
 | cons e l ih =>
  intro x hx
  unfold bset at hx
  by_cases h1 : rcmp e.r r < 0
  ·simp only [h1, decide_true, cond_true] at hx
   rcases List.mem_cons.1 hx with rfl | hx
   ·exact .inl (List.mem_cons_self ..)
   ·rcases ih x hx with h | ⟨h2, h3, h4⟩
    ·exact .inl (List.mem_cons_of_mem _ h)
    ·refine .inr ⟨h2, h3, ?_⟩
     rcases h4 with h4 | ⟨y, hy, h5⟩
     ·exact .inl h4
     ·exact .inr ⟨y, List.mem_cons_of_mem _ hy, h5⟩
  ·simp only [h1, decide_false, cond_false] at hx
   by_cases h2 : rcmp e.r r = 0
   ·simp only [h2, decide_true, cond_true] at hx
    by_cases h3 : m = 0
    ·simp only [h3, decide_true, cond_true] at hx; exact .inl (List.mem_cons_of_mem _ hx)
    ·simp only [h3, decide_false, cond_false] at hx
     rcases List.mem_cons.1 hx with rfl | hx
     ·exact .inr ⟨rfl, h3, .inr ⟨e, List.mem_cons_self .., rfl, h2⟩⟩
     ·exact .inl (List.mem_cons_of_mem _ hx)
   ·simp only [h2, decide_false, cond_false] at hx
    by_cases h3 : m = 0
    ·simp only [h3, decide_true, cond_true] at hx; exact .inl hx
    ·simp only [h3, decide_false, cond_false] at hx
     rcases List.mem_cons.1 hx with rfl | hx
     ·exact .inr ⟨rfl, h3, .inl rfl⟩
     ·exact .inl hx
theorem bset_srt {l : List En} {r : Row} {m : Int} (h : Srt l) : Srt (bset l r m) := by
 induction l with
 | nil => unfold bset; by_cases h : m = 0 <;> simp [h, Srt]
 | cons e l ih =>
  obtain ⟨h4, h5⟩ := h.cons
  unfold bset
  by_cases h1 : rcmp e.r r < 0
  ·simp only [h1, decide_true, cond_true]
   unfold Srt
   rw [List.pairwise_cons]
   refine ⟨fun x hx => ?_, ih h4⟩
   rcases bset_row x hx with hx | ⟨_, _, hx | ⟨y, hy, e1, e2⟩⟩
   ·exact h5 x hx
   ·rw [hx]; exact h1
   ·rw [e1]; exact h5 y hy
  ·simp only [h1, decide_false, cond_false]
   by_cases h2 : rcmp e.r r = 0
   ·simp only [h2, decide_true, cond_true]
    by_cases h3 : m = 0
    ·simp only [h3, decide_true, cond_true]; exact h4
    ·simp only [h3, decide_false, cond_false]
     unfold Srt
     rw [List.pairwise_cons]
     exact ⟨h5, h4⟩
   ·simp only [h2, decide_false, cond_false]
    by_cases h3 : m = 0
    ·simp only [h3, decide_true, cond_true]; exact h
    ·simp only [h3, decide_false, cond_false]
     unfold Srt
     rw [List.pairwise_cons]
     have h6 : rcmp r e.r < 0 := by rw [<- rc_gt]; omega
     exact ⟨fun x hx => by
      rcases List.mem_cons.1 hx with rfl | hx
      ·exact h6
      ·exact rcmp_ord.lt h6 (h5 x hx), h⟩
inductive T where
 | nil
 | nd (o : Nat) (l : T) (e : En) (r : T) (h : Int)
def T.val : T -> AV
 | .nil => .lit (.pointer none)
 | .nd o _ _ _ _ => .ptr o 0
def T.hgt : T -> Int
 | .nil => 0
 | .nd _ _ _ _ h => h
def T.es : T -> List En
 | .nil => []
 | .nd _ l e r _ => l.es ++ e :: r.es
def T.ads : T -> List Nat
 | .nil => []
 | .nd o l _ r _ => o :: (l.ads ++ r.ads)
def T.sz : T -> Nat
 | .nil => 0
 | .nd _ l _ r _ => l.sz + r.sz + 1
def T.ok : T -> Prop
 | .nil => True
 | .nd _ l _ r h => 1 <= h /\ h <= l.sz + r.sz + 1 /\ l.ok /\ r.ok
abbrev ncs (l : T) (e : En) (r : T) (h : Int) : List AV := [.lst .no (e.r.map encV), .lit (.int .i64 e.m), l.val, r.val, .lit (.int .i64 h)]
def Mt (H : Tr AO) : T -> Prop
 | .nil => True
 | .nd o l e r h => H.get .dead o = .cells (ncs l e r h) false /\ Mt H l /\ Mt H r
theorem Mt.frame {H H' : Tr AO} : ∀ {t : T}, Mt H t -> (∀ o ∈ t.ads, H'.get .dead o = H.get .dead o) -> Mt H' t
 | .nil, _, _ => trivial
 | .nd o l e r h, ⟨h1, h2, h3⟩, hf => ⟨by rw [hf o (List.mem_cons_self ..)]; exact h1, h2.frame fun p hp => hf p (List.mem_cons_of_mem _ (List.mem_append_left _ hp)), h3.frame fun p hp => hf p (List.mem_cons_of_mem _ (List.mem_append_right _ hp))⟩
theorem Mt.put {H : Tr AO} {t : T} (h : Mt H t) {o : Nat} {X : AO} (ho : o ∉ t.ads) : Mt (H.put .dead o X) t :=
 h.frame fun p hp => by rw [Tr.get_put, if_neg]; rintro rfl; exact ho hp
theorem T.es_len : ∀ t : T, t.es.length = t.sz
 | .nil => rfl
 | .nd o l e r h => by simp [T.es, T.sz, T.es_len l, T.es_len r]; omega
theorem T.ads_len : ∀ t : T, t.ads.length = t.sz
 | .nil => rfl
 | .nd o l e r h => by simp [T.ads, T.sz, T.ads_len l, T.ads_len r]
theorem T.ok_h {t : T} (h : t.ok) : 0 <= t.hgt /\ t.hgt <= t.sz := by
 cases t with
 | nil => simp [T.hgt, T.sz]
 | nd o l e r k => obtain ⟨h1, h2, _, _⟩ := h; simp only [T.hgt, T.sz]; omega
def mk (o : Nat) (l : T) (e : En) (r : T) : T := .nd o l e r (1 + max l.hgt r.hgt)
theorem mk_ok {o : Nat} {l : T} {e : En} {r : T} (hl : l.ok) (hr : r.ok) : (mk o l e r).ok := by
 have h1 := T.ok_h hl
 have h2 := T.ok_h hr
 refine ⟨?_, ?_, hl, hr⟩
 ·have := Int.le_max_left l.hgt r.hgt; omega
 ·rcases Int.le_total l.hgt r.hgt with h | h
  ·rw [Int.max_eq_right h]; omega
  ·rw [Int.max_eq_left h]; omega
def rotR : T -> T
 | .nd o (.nd p a x b _) e c _ => mk p a x (mk o b e c)
 | t => t
def rotL : T -> T
 | .nd o a e (.nd p b x c _) _ => mk p (mk o a e b) x c
 | t => t
def leanT : T -> Int
 | .nil => 0
 | .nd _ l _ r _ => l.hgt - r.hgt
def evenN (o : Nat) (l : T) (e : En) (r : T) : T :=
  bif decide (1 < l.hgt - r.hgt) then rotR (.nd o (bif decide (leanT l < 0) then rotL l else l) e r (1 + max l.hgt r.hgt))
  else bif decide (l.hgt - r.hgt < -1) then rotL (.nd o l e (bif decide (0 < leanT r) then rotR r else r) (1 + max l.hgt r.hgt))
  else mk o l e r
def evenT : T -> T
 | .nil => .nil
 | .nd o l e r _ => evenN o l e r
theorem rotR_es : ∀ t : T, (rotR t).es = t.es
 | .nil => rfl
 | .nd o .nil e c h => rfl
 | .nd o (.nd p a x b _) e c h => by simp [rotR, mk, T.es]
theorem rotL_es : ∀ t : T, (rotL t).es = t.es
 | .nil => rfl
 | .nd o a e .nil h => by simp [rotL, T.es]
 | .nd o a e (.nd p b x c _) h => by simp [rotL, mk, T.es]
theorem rotR_ads : ∀ t : T, (rotR t).ads.Perm t.ads
 | .nil => .refl _
 | .nd o .nil e c h => .refl _
 | .nd o (.nd p a x b _) e c h => by
  simp only [rotR, mk, T.ads]
  rw [List.perm_iff_count]
  intro q
  simp only [List.count_cons, List.count_append]
  omega
theorem rotL_ads : ∀ t : T, (rotL t).ads.Perm t.ads
 | .nil => .refl _
 | .nd o a e .nil h => .refl _
 | .nd o a e (.nd p b x c _) h => by
  simp only [rotL, mk, T.ads]
  rw [List.perm_iff_count]
  intro q
  simp only [List.count_cons, List.count_append]
  omega
theorem rotR_ok : ∀ {t : T}, t.ok -> (rotR t).ok
 | .nil, h => h
 | .nd o .nil e c k, h => h
 | .nd o (.nd p a x b _) e c k, ⟨_, _, ⟨_, _, ha, hb⟩, hc⟩ => mk_ok ha (mk_ok hb hc)
theorem rotL_ok : ∀ {t : T}, t.ok -> (rotL t).ok
 | .nil, h => h
 | .nd o a e .nil k, h => h
 | .nd o a e (.nd p b x c _) k, ⟨_, _, ha, ⟨_, _, hb, hc⟩⟩ => mk_ok (mk_ok ha hb) hc
theorem evenT_es (t : T) : (evenT t).es = t.es := by
 cases t with
 | nil => rfl
 | nd o l e r h =>
  show (evenN o l e r).es = _
  unfold evenN
  cases decide (1 < l.hgt - r.hgt) with
  | true =>
   rw [cond_true, rotR_es]
   cases decide (leanT l < 0) <;> simp [T.es, rotL_es]
  | false =>
   rw [cond_false]
   cases decide (l.hgt - r.hgt < -1) with
   | true =>
    rw [cond_true, rotL_es]
    cases decide (0 < leanT r) <;> simp [T.es, rotR_es]
   | false => rfl
theorem evenT_ads (t : T) : (evenT t).ads.Perm t.ads := by
 cases t with
 | nil => exact .refl _
 | nd o l e r h =>
  show (evenN o l e r).ads.Perm _
  unfold evenN
  cases decide (1 < l.hgt - r.hgt) with
  | true =>
   rw [cond_true]
   refine (rotR_ads _).trans ?_
   cases decide (leanT l < 0) with
   | true => exact .cons _ ((rotL_ads l).append_right _)
   | false => exact .refl _
  | false =>
   rw [cond_false]
   cases decide (l.hgt - r.hgt < -1) with
   | true =>
    rw [cond_true]
    refine (rotL_ads _).trans ?_
    cases decide (0 < leanT r) with
    | true => exact .cons _ ((rotR_ads r).append_left _)
    | false => exact .refl _
   | false => exact .refl _
theorem sz_rotR (t : T) : (rotR t).sz = t.sz := by rw [<- T.es_len, <- T.es_len, rotR_es]
theorem sz_rotL (t : T) : (rotL t).sz = t.sz := by rw [<- T.es_len, <- T.es_len, rotL_es]
theorem evenT_ok {o : Nat} {l : T} {e : En} {r : T} {h : Int} (hl : l.ok) (hr : r.ok) : (evenT (.nd o l e r h)).ok := by
 show (evenN o l e r).ok
 unfold evenN
 obtain ⟨m1, m2, _, _⟩ := mk_ok (o := o) (e := e) hl hr
 cases decide (1 < l.hgt - r.hgt) with
 | true =>
  rw [cond_true]
  cases decide (leanT l < 0) with
  | true => exact rotR_ok ⟨m1, by rw [cond_true, sz_rotL]; exact m2, rotL_ok hl, hr⟩
  | false => exact rotR_ok ⟨m1, m2, hl, hr⟩
 | false =>
  rw [cond_false]
  cases decide (l.hgt - r.hgt < -1) with
  | true =>
   rw [cond_true]
   cases decide (0 < leanT r) with
   | true => exact rotL_ok ⟨m1, by rw [cond_true, sz_rotR]; exact m2, hl, rotR_ok hr⟩
   | false => exact rotL_ok ⟨m1, m2, hl, hr⟩
  | false => exact mk_ok hl hr
def findT : T -> Row -> T
 | .nil, _ => .nil
 | .nd o l e r h, x => bif decide (rcmp x e.r < 0) then findT l x else bif decide (0 < rcmp x e.r) then findT r x else .nd o l e r h
theorem findT_get : ∀ {t : T} {x : Row}, Srt t.es -> bget t.es x = (match findT t x with | .nil => none | .nd _ _ e _ _ => some e)
 | .nil, x, _ => rfl
 | .nd o l e r h, x, hs => by
  obtain ⟨_, _, hl, hr⟩ := hs.mid
  unfold findT
  by_cases h1 : rcmp x e.r < 0
  ·simp only [h1, decide_true, cond_true]
   rw [<- findT_get hl]; exact bget_lt hs h1
  ·by_cases h2 : 0 < rcmp x e.r
   ·simp only [h1, h2, decide_true, decide_false, cond_true, cond_false]
    rw [<- findT_get hr]; exact bget_gt hs h2
   ·simp only [h1, h2, decide_false, cond_false]
    exact bget_mid hs (by omega)
def putT : T -> En -> Nat -> T
 | .nil, e, q => .nd q .nil e .nil 1
 | .nd o l x r h, e, q => evenT (bif decide (rcmp e.r x.r < 0) then .nd o (putT l e q) x r h else .nd o l x (putT r e q) h)
theorem putT_es : ∀ {t : T} {e : En} {q : Nat}, Srt t.es -> bget t.es e.r = none -> e.m ≠ 0 -> (putT t e q).es = bset t.es e.r e.m
 | .nil, e, q, _, _, hm => by
  have : decide (e.m = 0) = false := by rw [decide_eq_false_iff_not]; exact hm
  simp [putT, T.es, bset, this]
 | .nd o l x r h, e, q, hs, hb, hm => by
  obtain ⟨_, _, hl, hr⟩ := hs.mid
  unfold putT
  rw [evenT_es]
  by_cases h1 : rcmp e.r x.r < 0
  ·simp only [h1, decide_true, cond_true, T.es]
   rw [bset_lt hs h1, putT_es hl (by rw [<- hb]; exact (bget_lt hs h1).symm) hm]
  ·simp only [h1, decide_false, cond_false, T.es]
   have h2 : 0 < rcmp e.r x.r := by
    rcases Int.lt_trichotomy (rcmp e.r x.r) 0 with h3 | h3 | h3
    ·exact absurd h3 h1
    ·have := bget_mid hs h3
     rw [show T.es (.nd o l x r h) = l.es ++ x :: r.es from rfl] at hb
     rw [hb] at this; cases this
    ·exact h3
   rw [bset_gt hs h2, putT_es hr (by rw [<- hb]; exact (bget_gt hs h2).symm) hm]
theorem putT_ads : ∀ {t : T} {e : En} {q : Nat}, (putT t e q).ads.Perm (q :: t.ads)
 | .nil, e, q => .refl _
 | .nd o l x r h, e, q => by
  unfold putT
  refine (evenT_ads _).trans ?_
  cases decide (rcmp e.r x.r < 0) with
  | true =>
   simp only [cond_true, T.ads]
   exact (List.Perm.cons _ ((putT_ads (t := l)).append_right _)).trans (.swap _ _ _)
  | false =>
   simp only [cond_false, T.ads]
   refine (List.Perm.cons _ ((putT_ads (t := r)).append_left _)).trans ?_
   refine (List.Perm.cons _ List.perm_middle).trans (.swap _ _ _)
theorem putT_ok : ∀ {t : T} {e : En} {q : Nat}, t.ok -> (putT t e q).ok
 | .nil, e, q, _ => by simp [putT, T.ok, T.sz]
 | .nd o l x r h, e, q, ⟨_, _, hl, hr⟩ => by
  unfold putT
  cases decide (rcmp e.r x.r < 0) with
  | true => exact evenT_ok (putT_ok hl) hr
  | false => exact evenT_ok hl (putT_ok hr)
def firstT : T -> Option En
 | .nil => none
 | .nd _ l e _ _ => match firstT l with | some x => some x | none => some e
def dropT : Nat -> T -> Row -> T
 | 0, t, _ => t
 | _ + 1, .nil, _ => .nil
 | n + 1, .nd o l e r h, x =>
  bif decide (rcmp x e.r < 0) then evenT (.nd o (dropT n l x) e r h)
  else bif decide (0 < rcmp x e.r) then evenT (.nd o l e (dropT n r x) h)
  else match l, r with
   | .nil, _ => r
   | _, .nil => l
   | _, _ => match firstT r with
    | some f => evenT (.nd o l f (dropT n r f.r) h)
    | none => .nil
theorem firstT_es : ∀ {t : T}, (t = .nil /\ firstT t = none) ∨ ∃ f tl, firstT t = some f /\ t.es = f :: tl
 | .nil => .inl ⟨rfl, rfl⟩
 | .nd o l e r h => by
  right
  rcases firstT_es (t := l) with ⟨rfl, _⟩ | ⟨f, tl, h1, h2⟩
  ·exact ⟨e, r.es, rfl, rfl⟩
  ·exact ⟨f, tl ++ e :: r.es, by simp only [firstT, h1], by simp only [T.es, h2, List.cons_append]⟩
theorem bset_first {f : En} {tl : List En} (h : Srt (f :: tl)) : bset (f :: tl) f.r 0 = tl := by
 have h1 : decide (rcmp f.r f.r < 0) = false := by rw [rcmp_ord.rf]; rfl
 have h2 : decide (rcmp f.r f.r = 0) = true := by rw [rcmp_ord.rf]; rfl
 simp only [bset, h1, h2, cond_true, cond_false, decide_true]
theorem bget_first {f : En} {tl : List En} : bget (f :: tl) f.r = some f := by
 rw [bget_cons, rcmp_ord.rf]; rfl
structure DropS (t t' : T) (x : Row) : Prop where
 es : t'.es = bset t.es x 0
 ads : ∃ q, t.ads.Perm (q :: t'.ads)
 ok : t'.ok
theorem dropT_s : ∀ {n : Nat} {t : T} {x : Row}, t.sz <= n -> Srt t.es -> t.ok -> bget t.es x ≠ none -> DropS t (dropT n t x) x
 | 0, .nil, x, _, _, _, hb => absurd rfl hb
 | 0, .nd o l e r h, x, hz, _, _, _ => by simp [T.sz] at hz
 | n + 1, .nil, x, _, _, _, hb => absurd rfl hb
 | n + 1, .nd o l e r h, x, hz, hs, hok, hb => by
  obtain ⟨hl, hr, sl, sr⟩ := hs.mid
  obtain ⟨_, _, okl, okr⟩ := hok
  have zl : l.sz <= n := by simp only [T.sz] at hz; omega
  have zr : r.sz <= n := by simp only [T.sz] at hz; omega
  unfold dropT
  have he : T.es (.nd o l e r h) = l.es ++ e :: r.es := rfl
  rw [he] at hb hs
  by_cases h1 : rcmp x e.r < 0
  ·simp only [h1, decide_true, cond_true]
   rw [bget_lt hs h1] at hb
   obtain ⟨q1, ⟨q, q2⟩, q3⟩ := dropT_s zl sl okl hb
   refine ⟨by rw [evenT_es, he, bset_lt hs h1]; simp only [T.es, q1], ⟨q, ?_⟩, evenT_ok q3 okr⟩
   refine (List.Perm.cons o (q2.append_right r.ads)).trans ?_
   refine (List.Perm.swap q o _).trans (List.Perm.cons q ?_)
   exact (evenT_ads (.nd o (dropT n l x) e r h)).symm
  ·by_cases h2 : 0 < rcmp x e.r
   ·simp only [h1, h2, decide_true, decide_false, cond_true, cond_false]
    rw [bget_gt hs h2] at hb
    obtain ⟨q1, ⟨q, q2⟩, q3⟩ := dropT_s zr sr okr hb
    refine ⟨by rw [evenT_es, he, bset_gt hs h2]; simp only [T.es, q1], ⟨q, ?_⟩, evenT_ok okl q3⟩
    refine (List.Perm.cons o (q2.append_left l.ads)).trans ?_
    refine (List.Perm.cons o List.perm_middle).trans ?_
    refine (List.Perm.swap q o _).trans (List.Perm.cons q ?_)
    exact (evenT_ads (.nd o l e (dropT n r x) h)).symm
   ·have h3 : rcmp x e.r = 0 := by omega
    simp only [h1, h2, decide_false, cond_false]
    have hbs : bset (l.es ++ e :: r.es) x 0 = l.es ++ r.es := by rw [bset_mid hs h3]; rfl
    cases l with
    | nil => exact ⟨by rw [he, hbs]; rfl, ⟨o, .refl _⟩, okr⟩
    | nd lo ll le lr lh =>
     cases r with
     | nil => exact ⟨by rw [he, hbs]; simp [T.es], ⟨o, by simp [T.ads]⟩, okl⟩
     | nd ro rl re rr rh =>
      rcases firstT_es (t := .nd ro rl re rr rh) with ⟨h4, _⟩ | ⟨f, tl, h4, h5⟩
      ·cases h4
      ·simp only [h4]
       have hbf : bget (T.es (.nd ro rl re rr rh)) f.r ≠ none := by rw [h5, bget_first]; simp
       obtain ⟨q1, ⟨q, q2⟩, q3⟩ := dropT_s (x := f.r) zr sr okr hbf
       have h6 : (dropT n (.nd ro rl re rr rh) f.r).es = tl := by rw [q1, h5]; exact bset_first (by rw [<- h5]; exact sr)
       refine ⟨by rw [evenT_es, he, hbs]; simp only [T.es]; rw [h6]; simp only [T.es] at h5; rw [h5], ⟨q, ?_⟩, evenT_ok okl q3⟩
       refine (List.Perm.cons o (q2.append_left (T.ads (.nd lo ll le lr lh)))).trans ?_
       refine (List.Perm.cons o List.perm_middle).trans ?_
       refine (List.Perm.swap q o _).trans (List.Perm.cons q ?_)
       exact (evenT_ads (.nd o (.nd lo ll le lr lh) f (dropT n (.nd ro rl re rr rh) f.r) h)).symm
def setM : T -> Row -> Int -> T
 | .nil, _, _ => .nil
 | .nd o l e r h, x, m => bif decide (rcmp x e.r < 0) then .nd o (setM l x m) e r h else bif decide (0 < rcmp x e.r) then .nd o l e (setM r x m) h else .nd o l ⟨e.r, m⟩ r h
theorem setM_val {t : T} {x : Row} {m : Int} : (setM t x m).val = t.val := by
 cases t with
 | nil => rfl
 | nd o l e r h => unfold setM; cases decide (rcmp x e.r < 0) <;> cases decide (0 < rcmp x e.r) <;> rfl
theorem setM_ads : ∀ {t : T} {x : Row} {m : Int}, (setM t x m).ads = t.ads
 | .nil, _, _ => rfl
 | .nd o l e r h, x, m => by
  unfold setM
  cases decide (rcmp x e.r < 0) with
  | true => simp only [cond_true, T.ads, setM_ads (t := l)]
  | false =>
   cases decide (0 < rcmp x e.r) with
   | true => simp only [cond_true, cond_false, T.ads, setM_ads (t := r)]
   | false => rfl
theorem setM_sz {t : T} {x : Row} {m : Int} : (setM t x m).sz = t.sz := by rw [<- T.ads_len, setM_ads, T.ads_len]
theorem setM_ok : ∀ {t : T} {x : Row} {m : Int}, t.ok -> (setM t x m).ok
 | .nil, _, _, _ => trivial
 | .nd o l e r h, x, m, ⟨h1, h2, h3, h4⟩ => by
  unfold setM
  cases decide (rcmp x e.r < 0) with
  | true => exact ⟨h1, by rw [setM_sz]; exact h2, setM_ok h3, h4⟩
  | false =>
   cases decide (0 < rcmp x e.r) with
   | true => exact ⟨h1, by rw [setM_sz]; exact h2, h3, setM_ok h4⟩
   | false => exact ⟨h1, h2, h3, h4⟩
theorem setM_es : ∀ {t : T} {x : Row} {m : Int}, Srt t.es -> bget t.es x ≠ none -> m ≠ 0 -> (setM t x m).es = bset t.es x m
 | .nil, x, m, _, hb, _ => absurd rfl hb
 | .nd o l e r h, x, m, hs, hb, hm => by
  obtain ⟨_, _, sl, sr⟩ := hs.mid
  have hd : decide (m = 0) = false := by rw [decide_eq_false_iff_not]; exact hm
  have he : T.es (.nd o l e r h) = l.es ++ e :: r.es := rfl
  rw [he] at hb hs ⊢
  unfold setM
  by_cases h1 : rcmp x e.r < 0
  ·rw [bget_lt hs h1] at hb
   simp only [h1, decide_true, cond_true, T.es]
   rw [bset_lt hs h1, setM_es sl hb hm]
  ·by_cases h2 : 0 < rcmp x e.r
   ·rw [bget_gt hs h2] at hb
    simp only [h1, h2, decide_true, decide_false, cond_true, cond_false, T.es]
    rw [bset_gt hs h2, setM_es sr hb hm]
   ·simp only [h1, h2, decide_false, cond_false, T.es]
    rw [bset_mid hs (by omega), hd]; rfl
theorem setM_mt {H : Tr AO} : ∀ {t : T} {x : Row} {s : Int} {o : Nat} {l : T} {e : En} {r : T} {k : Int}, Mt H t -> t.ads.Nodup -> findT t x = .nd o l e r k -> o ∈ t.ads /\ Mt (H.put .dead o (.cells (ncs l ⟨e.r, s⟩ r k) false)) (setM t x s)
 | .nil, x, s, o, l, e, r, k, _, _, hf => by cases hf
 | .nd p a y b c, x, s, o, l, e, r, k, ⟨h1, h2, h3⟩, hn, hf => by
  simp only [T.ads, List.nodup_cons, List.nodup_append, List.mem_append, not_or] at hn
  obtain ⟨⟨n1, n2⟩, n3, n4, n5⟩ := hn
  unfold findT at hf
  unfold setM
  cases c1 : decide (rcmp x y.r < 0) with
  | true =>
   rw [c1, cond_true] at hf
   obtain ⟨q1, q2⟩ := setM_mt (s := s) h2 n3 hf
   refine ⟨by simp [T.ads, q1], ?_, q2, h3.put fun h => n5 o q1 o h rfl⟩
   rw [Tr.get_put, if_neg (by rintro rfl; exact n1 q1), h1]
   simp only [ncs, setM_val]
  | false =>
   rw [c1, cond_false] at hf
   rw [cond_false]
   cases c2 : decide (0 < rcmp x y.r) with
   | true =>
    rw [c2, cond_true] at hf
    obtain ⟨q1, q2⟩ := setM_mt (s := s) h3 n4 hf
    refine ⟨by simp [T.ads, q1], ?_, h2.put fun h => n5 o h o q1 rfl, q2⟩
    rw [Tr.get_put, if_neg (by rintro rfl; exact n2 q1), h1]
    simp only [ncs, setM_val]
   | false =>
    rw [c2, cond_false] at hf
    cases hf
    exact ⟨by simp [T.ads], by rw [Tr.get_put, if_pos rfl], h2.put n1, h3.put n2⟩
end Go.Proofs.YtancionamhenmaaGreat.Ev
