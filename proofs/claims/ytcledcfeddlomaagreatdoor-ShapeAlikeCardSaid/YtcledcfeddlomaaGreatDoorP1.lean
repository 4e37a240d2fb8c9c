import Derived.Test.YtcledcfeddlomaaGreatDoorEvQ3
set_option linter.all false
set_option maxRecDepth 100000
namespace Go.Proofs.YtcledcfeddlomaaGreatDoor.Ev
open Go.RowKit

/-! ### Data -/
structure Vl where
  k : Int
  b : Bool
  n : Int
  s : List UInt8
abbrev Vl.cs (v : Vl) : List AV := [.lit (.int .i64 v.k), .lit (.bool v.b), .lit (.int .i64 v.n), .str v.s]
def encV (v : Vl) : AV := .agg v.cs
abbrev Row := List Vl
def encR (r : Row) : AV := .lst .no (r.map encV)
structure En where
  r : Row
  m : Int
def encE (e : En) : AV := .agg [encR e.r, .lit (.int .i64 e.m)]
structure Rl where
  n : List UInt8
  l : List En
def encL (r : Rl) : AV := .agg [.str r.n, .lst .no (r.l.map encE)]
structure Tm where
  x : List UInt8
  a : Bool
  v : Vl
def encT (t : Tm) : AV := .agg [.str t.x, .lit (.bool t.a), .lit (.int .i64 t.v.k), .lit (.bool t.v.b), .lit (.int .i64 t.v.n), .str t.v.s]
structure Lt where
  no : Bool
  n : List UInt8
  l : List Tm
  o : Int
def encA (a : Lt) : AV := .agg [.lit (.bool a.no), .str a.n, .lst .no (a.l.map encT), .lit (.int .i64 a.o)]
structure Ru where
  k : Int
  n : List UInt8
  h : List (List UInt8)
  a : Int
  f : List UInt8
  m : Int
  b : List Lt
def encX (x : Ru) : AV := .agg [.lit (.int .i64 x.k), .str x.n, .lst .no (x.h.map .str), .lit (.int .i64 x.a), .str x.f, .lit (.int .i64 x.m), .lst .no (x.b.map encA)]

theorem bares_map {α : Type} {f : α → AV} (h : ∀ x, bare (f x) = true) : ∀ l : List α, bares (l.map f) = true
  | [] => rfl
  | x :: l => by simp only [List.map_cons, bares, h x, bares_map h l, Bool.and_self]
theorem nrms_mapf {α : Type} {f : α → AV} (h : ∀ x, nrm (f x) = f x) : ∀ l : List α, nrms (l.map f) = l.map f
  | [] => rfl
  | x :: l => by simp only [List.map_cons, nrms, h x, nrms_mapf h l]
theorem all_map {α : Type} {f : α → AV} {p : AV → Bool} (h : ∀ x, p (f x) = true) (l : List α) : (l.map f).all p = true := by
  rw [List.all_eq_true]; intro y hy; obtain ⟨x, _, rfl⟩ := List.mem_map.1 hy; exact h x
theorem bare_V (v : Vl) : bare (encV v) = true := rfl
theorem nrm_V (v : Vl) : nrm (encV v) = encV v := rfl
theorem bare_R (r : Row) : bare (encR r) = true := by simp only [encR, bare, bares_map bare_V]
theorem nrm_R (r : Row) : nrm (encR r) = encR r := by simp only [encR, nrm, nrms_mapf nrm_V]
theorem bare_E (e : En) : bare (encE e) = true := by simp only [encE, bare, bares, bare_R, Bool.and_self]
theorem nrm_E (e : En) : nrm (encE e) = encE e := by simp only [encE, nrm, nrms, nrm_R]
theorem bare_L (e : Rl) : bare (encL e) = true := by simp only [encL, bare, bares, bares_map bare_E, Bool.and_self]
theorem nrm_L (e : Rl) : nrm (encL e) = encL e := by simp only [encL, nrm, nrms, nrms_mapf nrm_E]
theorem bare_T (t : Tm) : bare (encT t) = true := rfl
theorem nrm_T (t : Tm) : nrm (encT t) = encT t := rfl
theorem bare_A (e : Lt) : bare (encA e) = true := by simp only [encA, bare, bares, bares_map bare_T, Bool.and_self]
theorem nrm_A (e : Lt) : nrm (encA e) = encA e := by simp only [encA, nrm, nrms, nrms_mapf nrm_T]
theorem bare_X (e : Ru) : bare (encX e) = true := by simp only [encX, bare, bares, bares_map bare_A, bares_map (f := AV.str) (fun _ => rfl), Bool.and_self]
theorem nrm_X (e : Ru) : nrm (encX e) = encX e := by simp only [encX, nrm, nrms, nrms_mapf nrm_A, nrms_mapf (f := AV.str) (fun _ => rfl)]
theorem bares_S (l : List (List UInt8)) : bares (l.map .str) = true := bares_map (fun _ => rfl) l
theorem nrms_S (l : List (List UInt8)) : nrms (l.map .str) = l.map .str := nrms_mapf (fun _ => rfl) l
theorem bares_V (l : List Vl) : bares (l.map encV) = true := bares_map bare_V l
theorem nrms_V (l : List Vl) : nrms (l.map encV) = l.map encV := nrms_mapf nrm_V l
theorem bares_R (l : List Row) : bares (l.map encR) = true := bares_map bare_R l
theorem nrms_R (l : List Row) : nrms (l.map encR) = l.map encR := nrms_mapf nrm_R l
theorem bares_E (l : List En) : bares (l.map encE) = true := bares_map bare_E l
theorem nrms_E (l : List En) : nrms (l.map encE) = l.map encE := nrms_mapf nrm_E l
theorem bares_L (l : List Rl) : bares (l.map encL) = true := bares_map bare_L l
theorem nrms_L (l : List Rl) : nrms (l.map encL) = l.map encL := nrms_mapf nrm_L l
theorem bares_T (l : List Tm) : bares (l.map encT) = true := bares_map bare_T l
theorem nrms_T (l : List Tm) : nrms (l.map encT) = l.map encT := nrms_mapf nrm_T l
theorem bares_A (l : List Lt) : bares (l.map encA) = true := bares_map bare_A l
theorem nrms_A (l : List Lt) : nrms (l.map encA) = l.map encA := nrms_mapf nrm_A l
def dBN := And.intro @bare_V (And.intro @nrm_V (And.intro @bare_R (And.intro @nrm_R (And.intro @bare_E (And.intro @nrm_E (And.intro @bare_L (And.intro @nrm_L (And.intro @bare_T (And.intro @nrm_T (And.intro @bare_A (And.intro @nrm_A (And.intro @bare_X (And.intro @nrm_X (And.intro @bares_S (And.intro @nrms_S (And.intro @bares_V (And.intro @nrms_V (And.intro @bares_R (And.intro @nrms_R (And.intro @bares_E (And.intro @nrms_E (And.intro @bares_L (And.intro @nrms_L (And.intro @bares_T (And.intro @nrms_T (And.intro @bares_A @nrms_A))))))))))))))))))))))))))

theorem wrap_i64 {n : Int} (h1 : -9223372036854775808 ≤ n) (h2 : n ≤ 9223372036854775807) : IntKind.i64.wrap n = n := by
  rw [IntKind.wrap_i64]; omega
theorem wrap_succ {i : Nat} (h : i < 9223372036854775807) : IntKind.i64.wrap ((i : Int) + 1) = ((i + 1 : Nat) : Int) := by rw [wrap_i64 (by omega) (by omega)]; omega

def cmpI (a b : Int) : Int := bif decide (a < b) then -1 else bif decide (b < a) then 1 else 0
def tr (b : Bool) : Int := bif b then 1 else 0
def vcmp (a b : Vl) : Int := bif decide (a.k = b.k) then (bif decide (a.k = 1) then cmpI (tr a.b) (tr b.b) else bif decide (a.k = 2) then cmpI a.n b.n else bif decide (a.k = 3) then Lib.compareBytes a.s b.s else 0) else cmpI a.k b.k
def rcmp : Row → Row → Int
  | [], [] => 0
  | [], _ :: _ => -1
  | _ :: _, [] => 1
  | a :: r, b :: q => bif decide (vcmp a b = 0) then rcmp r q else vcmp a b

/-! ### An order by a comparison -/
structure Ord {α : Type} (c : α → α → Int) : Prop where
  sw : ∀ a b, c b a = - c a b
  tr : ∀ a b d, c a b ≤ 0 → c b d ≤ 0 → c a d ≤ 0
section
variable {α : Type} {c : α → α → Int} (h : Ord c)
include h
theorem Ord.rf (a : α) : c a a = 0 := by have := h.sw a a; omega
theorem Ord.lt_le {a b d : α} (h1 : c a b < 0) (h2 : c b d ≤ 0) : c a d < 0 := by
  rcases Int.lt_or_le (c a d) 0 with h3 | h3
  · exact h3
  · have h4 : c d a ≤ 0 := by rw [h.sw a d]; omega
    have h5 := h.tr b d a h2 h4
    rw [h.sw a b] at h5; omega
theorem Ord.le_lt {a b d : α} (h1 : c a b ≤ 0) (h2 : c b d < 0) : c a d < 0 := by
  rcases Int.lt_or_le (c a d) 0 with h3 | h3
  · exact h3
  · have h4 : c d a ≤ 0 := by rw [h.sw a d]; omega
    have h5 := h.tr d a b h4 h1
    rw [h.sw b d] at h5; omega
theorem Ord.lt {a b d : α} (h1 : c a b < 0) (h2 : c b d < 0) : c a d < 0 := h.lt_le h1 (Int.le_of_lt h2)
theorem Ord.eq_l {a b d : α} (h1 : c a b = 0) : (c a d < 0 ↔ c b d < 0) ∧ (c a d = 0 ↔ c b d = 0) := by
  have h2 : c b a = 0 := by rw [h.sw a b]; omega
  have e1 : c a d < 0 → c b d < 0 := fun h3 => h.le_lt (by omega) h3
  have e2 : c b d < 0 → c a d < 0 := fun h3 => h.le_lt (by omega) h3
  have e3 : c a d ≤ 0 → c b d ≤ 0 := fun h3 => h.tr b a d (by omega) h3
  have e4 : c b d ≤ 0 → c a d ≤ 0 := fun h3 => h.tr a b d (by omega) h3
  constructor
  · exact ⟨e1, e2⟩
  · constructor <;> intro h5 <;> omega
end
/-- Lists, by their first element that differs. -/
def lex {α : Type} (c : α → α → Int) : List α → List α → Int
  | [], [] => 0
  | [], _ :: _ => -1
  | _ :: _, [] => 1
  | a :: r, b :: q => bif decide (c a b = 0) then lex c r q else c a b
theorem lex_ord {α : Type} {c : α → α → Int} (h : Ord c) : Ord (lex c) := by
  constructor
  · intro a
    induction a with
    | nil => intro b; cases b <;> rfl
    | cons x a ih =>
      intro b
      cases b with
      | nil => rfl
      | cons y b =>
        simp only [lex, h.sw x y]
        by_cases e : c x y = 0
        · have e2 : -c x y = 0 := by omega
          simp only [e, decide_true, cond_true, ih b]
          simp
        · have e2 : ¬ (-c x y = 0) := by omega
          simp only [e, e2, decide_false, cond_false]
  · intro a
    induction a with
    | nil => intro b d h1 h2; cases d <;> simp [lex]
    | cons x a ih =>
      intro b d h1 h2
      cases b with
      | nil => simp [lex] at h1
      | cons y b =>
        cases d with
        | nil => simp [lex] at h2
        | cons z d =>
          simp only [lex] at h1 h2 ⊢
          by_cases e1 : c x y = 0
          · simp only [e1, decide_true, cond_true] at h1
            have q := h.eq_l (d := z) e1
            by_cases e2 : c y z = 0
            · simp only [e2, decide_true, cond_true] at h2
              have e3 : c x z = 0 := q.2.2 e2
              simp only [e3, decide_true, cond_true]
              exact ih b d h1 h2
            · simp only [e2, decide_false, cond_false] at h2
              have e3 : c x z < 0 := q.1.2 (by omega)
              have e4 : ¬ c x z = 0 := by omega
              simp only [e4, decide_false, cond_false]; omega
          · simp only [e1, decide_false, cond_false] at h1
            have e3 : c x z < 0 := by
              by_cases e2 : c y z = 0
              · exact h.lt_le (b := y) (by omega) (by omega)
              · simp only [e2, decide_false, cond_false] at h2
                exact h.lt (b := y) (by omega) (by omega)
            have e4 : ¬ c x z = 0 := by omega
            simp only [e4, decide_false, cond_false]; omega
theorem cmpI_ord : Ord cmpI := by
  constructor
  · intro a b
    unfold cmpI
    by_cases h1 : a < b
    · have h2 : ¬ b < a := by omega
      simp [h1, h2]
    · by_cases h2 : b < a <;> simp [h1, h2]
  · intro a b d h1 h2
    unfold cmpI at h1 h2 ⊢
    by_cases e1 : a < b <;> by_cases e2 : b < a <;> by_cases e3 : b < d <;> by_cases e4 : d < b <;> by_cases e5 : a < d <;> by_cases e6 : d < a <;> simp [e1, e2, e3, e4, e5, e6] at h1 h2 ⊢ <;> omega
def cmpB (a b : UInt8) : Int := cmpI a.toNat b.toNat
theorem cmpB_ord : Ord cmpB := ⟨fun a b => cmpI_ord.sw _ _, fun a b d => cmpI_ord.tr _ _ _⟩
theorem compareBytes_lex : ∀ (a b : List UInt8), Lib.compareBytes a b = lex cmpB a b
  | [], [] => rfl
  | [], _ :: _ => rfl
  | _ :: _, [] => rfl
  | x :: a, y :: b => by
    show (if x < y then -1 else if y < x then 1 else Lib.compareBytes a b) = (bif decide (cmpB x y = 0) then lex cmpB a b else cmpB x y)
    by_cases h1 : x < y
    · have h3 : (x.toNat : Int) < y.toNat := by have := UInt8.lt_iff_toNat_lt.1 h1; omega
      have e : cmpB x y = -1 := by unfold cmpB cmpI; simp only [h3, decide_true, cond_true]
      rw [e, if_pos h1]; rfl
    · by_cases h2 : y < x
      · have h3 : (y.toNat : Int) < x.toNat := by have := UInt8.lt_iff_toNat_lt.1 h2; omega
        have h4 : ¬ (x.toNat : Int) < y.toNat := by omega
        have e : cmpB x y = 1 := by unfold cmpB cmpI; simp only [h3, h4, decide_true, decide_false, cond_true, cond_false]
        rw [e, if_neg h1, if_pos h2]; rfl
      · have h3 : ¬ (x.toNat : Int) < y.toNat := by intro h; apply h1; rw [UInt8.lt_iff_toNat_lt]; omega
        have h4 : ¬ (y.toNat : Int) < x.toNat := by intro h; apply h2; rw [UInt8.lt_iff_toNat_lt]; omega
        have e : cmpB x y = 0 := by unfold cmpB cmpI; simp only [h3, h4, decide_false, cond_false]
        rw [e, if_neg h1, if_neg h2, compareBytes_lex a b]; rfl
theorem vcmp_ord : Ord vcmp := by
  have hB := lex_ord cmpB_ord
  constructor
  · intro a b
    unfold vcmp
    by_cases h1 : a.k = b.k
    · rw [← h1]
      simp only [decide_true, cond_true]
      by_cases h2 : a.k = 1
      · simp only [h2, decide_true, cond_true]; exact cmpI_ord.sw _ _
      · by_cases h3 : a.k = 2
        · simp only [h3, decide_true, cond_true]
          simp only [show decide ((2 : Int) = 1) = false from rfl, cond_false]; exact cmpI_ord.sw _ _
        · by_cases h4 : a.k = 3
          · simp only [h4, show decide ((3 : Int) = 1) = false from rfl, show decide ((3 : Int) = 2) = false from rfl, decide_true, cond_true, cond_false, compareBytes_lex]
            exact hB.sw _ _
          · simp [h2, h3, h4]
    · have h2 : ¬ b.k = a.k := fun h => h1 h.symm
      simp only [h1, h2, decide_false, cond_false]
      exact cmpI_ord.sw _ _
  · intro a b d h1 h2
    have key : ∀ x y : Vl, ¬ x.k = y.k → (vcmp x y = -1 ∧ x.k < y.k) ∨ (vcmp x y = 1 ∧ y.k < x.k) := fun x y h => by
      unfold vcmp cmpI
      by_cases e : x.k < y.k
      · left; simp [h, e]
      · right
        have e2 : y.k < x.k := by omega
        simp [h, e, e2]
    by_cases e1 : a.k = b.k
    · by_cases e2 : b.k = d.k
      · have e3 : a.k = d.k := e1.trans e2
        unfold vcmp at h1 h2 ⊢
        rw [← e2, ← e1] at h2
        rw [← e3]
        rw [← e1] at h1
        simp only [decide_true, cond_true] at h1 h2 ⊢
        by_cases k1 : a.k = 1
        · simp only [k1, decide_true, cond_true] at h1 h2 ⊢; exact cmpI_ord.tr _ _ _ h1 h2
        · by_cases k2 : a.k = 2
          · simp only [k2, show decide ((2 : Int) = 1) = false from rfl, decide_true, cond_true, cond_false] at h1 h2 ⊢; exact cmpI_ord.tr _ _ _ h1 h2
          · by_cases k3 : a.k = 3
            · simp only [k3, show decide ((3 : Int) = 1) = false from rfl, show decide ((3 : Int) = 2) = false from rfl, decide_true, cond_true, cond_false, compareBytes_lex] at h1 h2 ⊢; exact hB.tr _ _ _ h1 h2
            · simp [k1, k2, k3]
      · rcases key b d e2 with ⟨q1, q2⟩ | ⟨q1, q2⟩
        · rcases key a d (by rw [e1]; exact e2) with ⟨q3, q4⟩ | ⟨q3, q4⟩
          · omega
          · omega
        · omega
    · rcases key a b e1 with ⟨q1, q2⟩ | ⟨q1, q2⟩
      · by_cases e2 : b.k = d.k
        · rcases key a d (by omega) with ⟨q3, q4⟩ | ⟨q3, q4⟩ <;> omega
        · rcases key b d e2 with ⟨q3, q4⟩ | ⟨q3, q4⟩
          · rcases key a d (by omega) with ⟨q5, q6⟩ | ⟨q5, q6⟩ <;> omega
          · omega
      · omega
theorem rcmp_lex : ∀ (a b : Row), rcmp a b = lex vcmp a b
  | [], [] => rfl
  | [], _ :: _ => rfl
  | _ :: _, [] => rfl
  | x :: a, y :: b => by unfold rcmp lex; rw [rcmp_lex a b]
theorem rcmp_ord : Ord rcmp := by
  have h := lex_ord vcmp_ord
  exact ⟨fun a b => by rw [rcmp_lex, rcmp_lex]; exact h.sw _ _, fun a b d => by rw [rcmp_lex, rcmp_lex, rcmp_lex]; exact h.tr _ _ _⟩
end Go.Proofs.YtcledcfeddlomaaGreatDoor.Ev
