import Derived.Test.YtcledcfeddlomaaGreatDoorR2
import Derived.Test.YtcledcfeddlomaaGreatDoorT0
set_option linter.all false
set_option maxRecDepth 100000
set_option maxHeartbeats 4000000
namespace Go.Proofs.YtcledcfeddlomaaGreatDoor.Ev
open Go Go.Proofs.YtcledcfeddlomaaGreatDoor.Ev Go.Proofs Go.Proofs.YtcledcfeddlomaaGreatDoor Go.Proofs.YtcledcfeddlomaaGreatDoor.Tab
theorem u64_wrap (n : Int) : IntKind.u64.wrap n = n % 18446744073709551616 := by
 unfold IntKind.wrap
 simp [IntKind.signed, IntKind.bits]
theorem u8_wrap (n : Int) : IntKind.u8.wrap n = n % 256 := by
 unfold IntKind.wrap
 simp [IntKind.signed, IntKind.bits]
theorem uOf_b (n : Int) : 0 <= uOf n /\ uOf n < 18446744073709551616 := by
 unfold uOf; rw [u64_wrap]; omega
theorem byteI_eq (n : Int) (i : Nat) : byteI n i = (uOf n / (2 ^ (min i 64))) % 256 := by
 unfold byteI
 rw [u8_wrap, Int.fdiv_eq_ediv_of_nonneg _ (by
  have : (0 : Int) < 2 ^ (min i IntKind.u64.bits) := Int.pow_pos (by decide)
  omega)]
 rfl
theorem hexc_dig (x : Int) : hexc x ≠ 32 := by
 unfold hexc
 by_cases h : x.toNat < 16
 ·have key : ∀ a : Fin 16, hexT.getD a.val 0 ≠ 32 := by decide
  exact key ⟨x.toNat, h⟩
 ·rw [List.getD_eq_getElem?_getD, List.getElem?_eq_none (by show 16 <= _; omega)]; decide
theorem hexI_noB : ∀ l : List Int, noB (hexI l)
 | [], h => by cases h
 | n :: l, h => by
  simp only [hexI, List.mem_cons] at h
  rcases h with h | h | h
  ·exact hexc_dig _ h.symm
  ·exact hexc_dig _ h.symm
  ·exact hexI_noB l h
theorem hexI_len : ∀ l : List Int, (hexI l).length = 2 * l.length
 | [] => rfl
 | n :: l => by simp [hexI, hexI_len l]; omega
def textN : Nd -> List (List UInt8)
 | .nil => []
 | .mk k nm w cs ps cl ag of l r => ownW k nm w cs ps cl ag of ++ (textN l ++ textN r)
def okTC (c : Cd) : Prop := i64B c.l /\ i64B c.op /\ i64B c.r /\ i64B c.v.n
def okNd : Nd -> Prop
 | .nil => True
 | .mk k _ w cs ps cl ag of l r => i64B k /\ i64B w /\ i64B ag /\ i64B of /\ (∀ c ∈ cs, okTC c) /\ (∀ p ∈ ps, i64B p.1 /\ i64B p.2) /\ (∀ n ∈ cl, i64B n) /\ okNd l /\ okNd r
def okV (c : Cd) : Prop := okTC c /\ ((c.r = -1 /\ vright c.v = true) ∨ (c.r ≠ -1 /\ c.v = v0))
theorem condB_ok {c : Cd} {w : Int} (h : condB c w = true) : (c.r = -1 /\ vright c.v = true) ∨ (c.r ≠ -1 /\ c.v = v0) := by
 unfold condB at h
 cases h1 : decide (c.l = -1) with
 | true =>
  rw [h1, cond_true] at h
  unfold cdeq at h
  simp only [Bool.and_eq_true, decide_eq_true_iff] at h
  have e := veq_iff.1 h.2.2.2
  refine .inl ⟨h.2.2.1, ?_⟩
  rw [e]; decide
 | false =>
  rw [h1, cond_false] at h
  cases h2 : (!colB c.l w || decide (c.op < 1) || decide (6 < c.op)) with
  | true => rw [h2] at h; cases h
  | false =>
   rw [h2, cond_false] at h
   cases h3 : decide (c.r = -1) with
   | true => rw [h3] at h; exact .inl ⟨of_decide_eq_true h3, h⟩
   | false =>
    rw [h3, cond_false, Bool.and_eq_true] at h
    exact .inr ⟨of_decide_eq_false h3, veq_iff.1 h.2⟩
def kw (k : Int) : List UInt8 := bif decide (k = 1) then [115, 99, 97, 110] else bif decide (k = 2) then [119, 104, 101, 114, 101] else bif decide (k = 3) then [109, 101, 101, 116] else bif decide (k = 4) then [109, 105, 115, 115] else bif decide (k = 5) then [116, 97, 107, 101] else bif decide (k = 6) then [111, 110, 99, 101] else [103, 114, 111, 117, 112]
def ownX (k : Int) (nm : List UInt8) (w : Int) (cs : List Cd) (ps : List (Int × Int)) (cl : List Int) (ag of : Int) : List (List UInt8) :=
 bif decide (k = 1) then [nm, numT w] else
 bif decide (k = 2) then numT cs.length :: cwL cs else
 bif decide (k = 3) then numT ps.length :: pwL ps else
 bif decide (k = 4) then numT ps.length :: pwL ps else
 bif decide (k = 5) then numT cl.length :: cl.map numT else
 bif decide (k = 6) then [] else
 numT cl.length :: (cl.map numT ++ [numT ag, numT of])
theorem ownW_kw {k : Int} {nm : List UInt8} {w : Int} {cs : List Cd} {ps : List (Int × Int)} {cl : List Int} {ag of : Int} : ownW k nm w cs ps cl ag of = kw k :: ownX k nm w cs ps cl ag of := by
 unfold ownW kw ownX
 cases decide (k = 1)
 ·cases decide (k = 2)
  ·cases decide (k = 3)
   ·cases decide (k = 4)
    ·cases decide (k = 5)
     ·cases decide (k = 6) <;> rfl
     ·rfl
    ·rfl
   ·rfl
  ·rfl
 ·rfl
def k17 (k : Int) : Prop := k = 1 ∨ k = 2 ∨ k = 3 ∨ k = 4 ∨ k = 5 ∨ k = 6 ∨ k = 7
theorem fitsB_k {k : Int} {nm : List UInt8} {w : Int} {cs : List Cd} {ps : List (Int × Int)} {cl : List Int} {ag of : Int} {l r : Nd} (h : fitsB k nm w cs ps cl ag of l r = true) : k17 k := by
 unfold fitsB at h
 unfold k17
 by_cases h1 : k = 1
 ·exact .inl h1
 by_cases h2 : k = 2
 ·exact .inr (.inl h2)
 by_cases h3 : k = 3
 ·exact .inr (.inr (.inl h3))
 by_cases h4 : k = 4
 ·exact .inr (.inr (.inr (.inl h4)))
 by_cases h5 : k = 5
 ·exact .inr (.inr (.inr (.inr (.inl h5))))
 by_cases h6 : k = 6
 ·exact .inr (.inr (.inr (.inr (.inr (.inl h6)))))
 by_cases h7 : k = 7
 ·exact .inr (.inr (.inr (.inr (.inr (.inr h7)))))
 rw [decide_eq_false h1, decide_eq_false h2, decide_eq_false h3, decide_eq_false h4, decide_eq_false h5, decide_eq_false h6, decide_eq_false h7] at h
 simp at h
structure BareP (k : Int) (nm : List UInt8) (w : Int) (cs : List Cd) (ps : List (Int × Int)) (cl : List Int) (ag of : Int) (l r : Nd) : Prop where
 b1 : k ≠ 1 -> nm = [] /\ w = 0
 b2 : k ≠ 2 -> cs = []
 b3 : k ≠ 3 -> k ≠ 4 -> ps = []
 b5 : k ≠ 5 -> k ≠ 7 -> cl = []
 b7 : k ≠ 7 -> ag = 0 /\ of = 0
 bl : k ≠ 1 -> l ≠ .nil
 bl1 : k = 1 -> l = .nil
 br : (k = 3 ∨ k = 4) -> r ≠ .nil
 br1 : k ≠ 3 -> k ≠ 4 -> r = .nil
theorem isNil_iff {n : Nd} : isNil n = true ↔ n = .nil := by cases n <;> simp [isNil]
theorem isNil_not {n : Nd} : isNil n = false ↔ n ≠ .nil := by cases n <;> simp [isNil]
theorem bareB_p {k : Int} {nm : List UInt8} {w : Int} {cs : List Cd} {ps : List (Int × Int)} {cl : List Int} {ag of : Int} {l r : Nd} (h : bareB k nm w cs ps cl ag of l r = true) : BareP k nm w cs ps cl ag of l r := by
 unfold bareB at h
 cases c1 : (!decide (k = 1) && (!(nm == []) || !decide (w = 0)))
 case true => rw [c1] at h; cases h
 rw [c1, cond_false] at h
 cases c2 : (!decide (k = 2) && decide ((0 : Int) < cs.length))
 case true => rw [c2] at h; cases h
 rw [c2, cond_false] at h
 cases c3 : (!(decide (k = 3) || decide (k = 4)) && decide ((0 : Int) < ps.length))
 case true => rw [c3] at h; cases h
 rw [c3, cond_false] at h
 cases c4 : (!(decide (k = 5) || decide (k = 7)) && decide ((0 : Int) < cl.length))
 case true => rw [c4] at h; cases h
 rw [c4, cond_false] at h
 cases c5 : (!decide (k = 7) && (!decide (ag = 0) || !decide (of = 0)))
 case true => rw [c5] at h; cases h
 rw [c5, cond_false] at h
 have e0 : ∀ {α : Type} (l : List α), decide ((0 : Int) < l.length) = false -> l = [] := fun l h => by
  have := of_decide_eq_false h
  exact List.length_eq_zero_iff.1 (by omega)
 refine ⟨fun n => ?_, fun n => ?_, fun n m => ?_, fun n m => ?_, fun n => ?_, fun n => ?_, fun n => ?_, fun n => ?_, fun n m => ?_⟩
 ·rw [decide_eq_false n] at c1; simp at c1; exact c1
 ·rw [decide_eq_false n] at c2; exact e0 _ (by simpa using c2)
 ·rw [decide_eq_false n, decide_eq_false m] at c3; exact e0 _ (by simpa using c3)
 ·rw [decide_eq_false n, decide_eq_false m] at c4; exact e0 _ (by simpa using c4)
 ·rw [decide_eq_false n] at c5; simp at c5; exact c5
 ·rw [decide_eq_false n, cond_false, Bool.and_eq_true] at h
  exact isNil_not.1 (by simpa using h.1)
 ·rw [decide_eq_true n, cond_true, Bool.and_eq_true] at h
  exact isNil_iff.1 h.1
 ·have h1 : k ≠ 1 := by omega
  rw [decide_eq_false h1, cond_false, Bool.and_eq_true] at h
  have : (decide (k = 3) || decide (k = 4)) = true := by rcases n with n | n <;> simp [n]
  rw [this] at h
  exact isNil_not.1 (by simpa using h.2)
 ·by_cases h1 : k = 1
  ·rw [decide_eq_true h1, cond_true, Bool.and_eq_true] at h
   exact isNil_iff.1 h.2
  ·rw [decide_eq_false h1, cond_false, Bool.and_eq_true, decide_eq_false n, decide_eq_false m] at h
   exact isNil_iff.1 (by simpa using h.2)
theorem each_inv {k : Int} {nm : List UInt8} {w : Int} {cs : List Cd} {ps : List (Int × Int)} {cl : List Int} {ag of : Int} {l r : Nd} (h : eachB (.mk k nm w cs ps cl ag of l r) = true) : eachB l = true /\ eachB r = true /\ BareP k nm w cs ps cl ag of l r /\ k17 k /\ (k = 2 -> ∀ c ∈ cs, (c.r = -1 /\ vright c.v = true) ∨ (c.r ≠ -1 /\ c.v = v0)) /\ (k = 1 -> nameB nm = true) := by
 rw [eachB, Bool.and_eq_true, Bool.and_eq_true, Bool.and_eq_true] at h
 obtain ⟨h1, h2, h3, h4⟩ := h
 refine ⟨h1, h2, bareB_p h3, fitsB_k h4, fun hk c hc => ?_, fun hk => ?_⟩
 ·subst hk
  unfold fitsB at h4
  simp only [show decide ((2 : Int) = 1) = false from rfl, decide_true, cond_true, cond_false, Bool.and_eq_true, List.all_eq_true] at h4
  exact condB_ok (h4.2 c hc)
 ·subst hk
  unfold fitsB at h4
  simp only [decide_true, cond_true, Bool.and_eq_true] at h4
  exact h4.1
def smallN : Nd -> Prop
 | .nil => True
 | .mk _ nm _ cs ps cl _ _ l r => nm.length <= 300 /\ cs.length <= 60 /\ ps.length <= 60 /\ cl.length <= 60 /\ smallN l /\ smallN r
def cntN : Nd -> Nat
 | .nil => 0
 | .mk _ _ _ _ _ _ _ _ l r => 1 + cntN l + cntN r
theorem smallN.short : ∀ {n : Nd}, smallN n -> shortN n
 | .nil, _ => trivial
 | .mk .., h => ⟨by have := h.1; omega, by have := h.2.1; omega, by have := h.2.2.1; omega, by have := h.2.2.2.1; omega, smallN.short h.2.2.2.2.1, smallN.short h.2.2.2.2.2⟩
theorem deepN_rng : ∀ (n : Nd) (x : Int), -1 <= x -> 0 <= deepN n x /\ deepN n x <= x + 1
 | .nil, x, h => ⟨Int.le_refl _, by show (0 : Int) <= _; omega⟩
 | .mk k nm w cs ps cl ag of l r, x, h => by
  rw [deepN]
  by_cases hx : x < 0
  ·rw [decide_eq_true hx, cond_true]; omega
  ·rw [decide_eq_false hx, cond_false]
   cases bigN nm cs ps cl with
   | true => rw [cond_true]; omega
   | false =>
    rw [cond_false]
    have h1 := deepN_rng l (x - 1) (by omega)
    have h2 := deepN_rng r (x - (1 + deepN l (x - 1))) (by omega)
    omega
theorem deepN_small : ∀ (n : Nd) (x : Int), -1 <= x -> deepN n x <= x -> smallN n /\ (cntN n : Int) = deepN n x
 | .nil, x, _, _ => ⟨trivial, rfl⟩
 | .mk k nm w cs ps cl ag of l r, x, h, h0 => by
  rw [deepN] at h0 ⊢
  by_cases hx : x < 0
  ·rw [decide_eq_true hx, cond_true] at h0; omega
  ·rw [decide_eq_false hx, cond_false] at h0 ⊢
   cases hb : bigN nm cs ps cl with
   | true => rw [hb, cond_true] at h0; omega
   | false =>
    rw [hb, cond_false] at h0
    rw [cond_false]
    have h1 := deepN_rng l (x - 1) (by omega)
    have h2 := deepN_rng r (x - (1 + deepN l (x - 1))) (by omega)
    have h3 := deepN_small l (x - 1) (by omega) (by omega)
    have h4 := deepN_small r (x - (1 + deepN l (x - 1))) (by omega) (by omega)
    unfold bigN at hb
    simp only [Bool.or_eq_false_iff, decide_eq_false_iff_not] at hb
    refine ⟨⟨by omega, by omega, by omega, by omega, h3.1, h4.1⟩, ?_⟩
    rw [cntN]; have := h3.2; have := h4.2; omega
def wordOk (w : List UInt8) : Prop := noB w /\ w.length <= 400
theorem numT_ok (n : Int) : wordOk (numT n) := ⟨numT_noB n, by have := numT_len n; omega⟩
theorem okc_ne {c : UInt8} (h : okc c = true) : c ≠ 32 := by
 rintro rfl; exact absurd h (by decide)
theorem letB_ok {c : UInt8} (h : letB c = true) : okc c = true := by unfold okc; rw [h]; rfl
theorem nameB_noB {s : List UInt8} (h : nameB s = true) : noB s := by
 unfold nameB at h
 cases h1 : decide (s.length = 0) with
 | true => rw [h1] at h; cases h
 | false =>
  rw [h1, cond_false] at h
  cases h2 : decide ((16 : Int) < s.length) with
  | true => rw [h2] at h; cases h
  | false =>
   rw [h2, cond_false] at h
   cases h3 : letB (s.headD 0) with
   | false => rw [h3] at h; cases h
   | true =>
    rw [h3, cond_true, List.all_eq_true] at h
    exact fun hm => okc_ne (h 32 hm) rfl
theorem mem_cwL {c : List Cd} {w : List UInt8} (h : w ∈ cwL c) : ∃ x ∈ c, w ∈ cw x := by
 induction c with
 | nil => cases h
 | cons x c ih =>
  rw [cwL, List.mem_append] at h
  rcases h with h | h
  ·exact ⟨x, by simp, h⟩
  ·obtain ⟨y, h1, h2⟩ := ih h; exact ⟨y, by simp [h1], h2⟩
theorem mem_pwL {c : List (Int × Int)} {w : List UInt8} (h : w ∈ pwL c) : ∃ n, w = numT n := by
 induction c with
 | nil => cases h
 | cons x c ih =>
  simp only [pwL, List.mem_cons] at h
  rcases h with h | h | h
  ·exact ⟨_, h⟩
  ·exact ⟨_, h⟩
  ·exact ih h
theorem cw_ok {c : Cd} (hc : c.r = -1 -> vright c.v = true) {w : List UInt8} (h : w ∈ cw c) : wordOk w := by
 unfold cw at h
 rw [List.mem_append] at h
 rcases h with h | h
 ·obtain ⟨n, _, rfl⟩ := List.mem_map.1 h; exact numT_ok n
 ·cases hr : decide (c.r = -1) with
  | false => rw [hr] at h; cases h
  | true =>
   rw [hr, cond_true, List.mem_singleton] at h
   subst h
   refine ⟨hexI_noB _, ?_⟩
   rw [hexI_len]
   have := packV_len (hc (of_decide_eq_true hr))
   omega
theorem ownX_ok {k : Int} {nm : List UInt8} {w : Int} {cs : List Cd} {ps : List (Int × Int)} {cl : List Int} {ag of : Int} (hk : k17 k) (hn : k = 1 -> wordOk nm) (hc : k = 2 -> ∀ c ∈ cs, c.r = -1 -> vright c.v = true) {x : List UInt8} (h : x ∈ ownX k nm w cs ps cl ag of) : wordOk x := by
 unfold ownX at h
 rcases hk with rfl | rfl | rfl | rfl | rfl | rfl | rfl
 ·simp only [decide_true, cond_true, List.mem_cons, List.not_mem_nil, or_false] at h
  rcases h with rfl | rfl
  ·exact hn rfl
  ·exact numT_ok _
 ·simp only [show decide ((2 : Int) = 1) = false from rfl, decide_true, cond_true, cond_false, List.mem_cons] at h
  rcases h with rfl | h
  ·exact numT_ok _
  ·obtain ⟨c, h1, h2⟩ := mem_cwL h
   exact cw_ok (hc rfl c h1) h2
 ·simp only [show decide ((3 : Int) = 1) = false from rfl, show decide ((3 : Int) = 2) = false from rfl, decide_true, cond_true, cond_false, List.mem_cons] at h
  rcases h with rfl | h
  ·exact numT_ok _
  ·obtain ⟨n, rfl⟩ := mem_pwL h; exact numT_ok _
 ·simp only [show decide ((4 : Int) = 1) = false from rfl, show decide ((4 : Int) = 2) = false from rfl, show decide ((4 : Int) = 3) = false from rfl, decide_true, cond_true, cond_false, List.mem_cons] at h
  rcases h with rfl | h
  ·exact numT_ok _
  ·obtain ⟨n, rfl⟩ := mem_pwL h; exact numT_ok _
 ·simp only [show decide ((5 : Int) = 1) = false from rfl, show decide ((5 : Int) = 2) = false from rfl, show decide ((5 : Int) = 3) = false from rfl, show decide ((5 : Int) = 4) = false from rfl, decide_true, cond_true, cond_false, List.mem_cons] at h
  rcases h with rfl | h
  ·exact numT_ok _
  ·obtain ⟨n, _, rfl⟩ := List.mem_map.1 h; exact numT_ok _
 ·simp only [show decide ((6 : Int) = 1) = false from rfl, show decide ((6 : Int) = 2) = false from rfl, show decide ((6 : Int) = 3) = false from rfl, show decide ((6 : Int) = 4) = false from rfl, show decide ((6 : Int) = 5) = false from rfl, decide_true, cond_true, cond_false] at h
  cases h
 ·simp only [show decide ((7 : Int) = 1) = false from rfl, show decide ((7 : Int) = 2) = false from rfl, show decide ((7 : Int) = 3) = false from rfl, show decide ((7 : Int) = 4) = false from rfl, show decide ((7 : Int) = 5) = false from rfl, show decide ((7 : Int) = 6) = false from rfl, cond_false, List.mem_cons, List.mem_append, List.not_mem_nil, or_false] at h
  rcases h with rfl | h | rfl | rfl
  ·exact numT_ok _
  ·obtain ⟨n, _, rfl⟩ := List.mem_map.1 h; exact numT_ok _
  ·exact numT_ok _
  ·exact numT_ok _
theorem kw_ok {k : Int} (hk : k17 k) : wordOk (kw k) := by
 rcases hk with rfl | rfl | rfl | rfl | rfl | rfl | rfl <;> exact ⟨by unfold noB; decide, by decide⟩
theorem textN_ok : ∀ {n : Nd}, eachB n = true -> smallN n -> ∀ w ∈ textN n, wordOk w
 | .nil, _, _, w, h => by cases h
 | .mk k nm w cs ps cl ag of l r, he, hs, x, h => by
  obtain ⟨el, er, ba, ka, ca, na⟩ := each_inv he
  rw [textN, ownW_kw, List.cons_append, List.mem_cons, List.mem_append, List.mem_append] at h
  rcases h with rfl | h | h | h
  ·exact kw_ok ka
  ·exact ownX_ok ka (fun hk => ⟨nameB_noB (na hk), by have := hs.1; omega⟩) (fun hk c hc hr => by
    rcases ca hk c hc with ⟨_, h⟩ | ⟨h, _⟩
    ·exact h
    ·exact absurd hr h) h
  ·exact textN_ok el hs.2.2.2.2.1 x h
  ·exact textN_ok er hs.2.2.2.2.2 x h
theorem textN_ne {n : Nd} (h : n ≠ .nil) : textN n ≠ [] := by
 cases n with
 | nil => exact (h rfl).elim
 | mk k nm w cs ps cl ag of l r => rw [textN, ownW_kw]; exact fun h => by cases h
theorem cw_len (c : Cd) : (cw c).length <= 4 := by
 unfold cw
 cases decide (c.r = -1) <;> simp
theorem cwL_len : ∀ c : List Cd, (cwL c).length <= 4 * c.length
 | [] => Nat.le_refl _
 | x :: c => by have := cw_len x; have := cwL_len c; simp [cwL]; omega
theorem pwL_len : ∀ c : List (Int × Int), (pwL c).length = 2 * c.length
 | [] => rfl
 | x :: c => by simp [pwL, pwL_len c]; omega
theorem ownX_len {k : Int} {nm : List UInt8} {w : Int} {cs : List Cd} {ps : List (Int × Int)} {cl : List Int} {ag of : Int} (h1 : cs.length <= 60) (h2 : ps.length <= 60) (h3 : cl.length <= 60) : (ownX k nm w cs ps cl ag of).length <= 249 := by
 unfold ownX
 have := cwL_len cs
 have := pwL_len ps
 cases decide (k = 1)
 ·cases decide (k = 2)
  ·cases decide (k = 3)
   ·cases decide (k = 4)
    ·cases decide (k = 5)
     ·cases decide (k = 6)
      ·simp; omega
      ·simp
     ·simp; omega
    ·simp; omega
   ·simp; omega
  ·simp; omega
 ·simp
theorem textN_len : ∀ {n : Nd}, smallN n -> (textN n).length <= 250 * cntN n
 | .nil, _ => Nat.le_refl _
 | .mk k nm w cs ps cl ag of l r, h => by
  have h1 := textN_len h.2.2.2.2.1
  have h2 := textN_len h.2.2.2.2.2
  have h3 := @ownX_len k nm w cs ps cl ag of h.2.1 h.2.2.1 h.2.2.2.1
  rw [textN, ownW_kw, List.length_append, List.length_append, List.length_cons, cntN]
  omega
theorem eqL_eq {α : Type} {f : α -> α -> Bool} (hf : ∀ x y, f x y = true ↔ x = y) : ∀ {a b : List α}, a.length = b.length -> (eqL f a b = true ↔ a = b)
 | [], [], _ => by simp [eqL]
 | [], _ :: _, h => by cases h
 | _ :: _, [], h => by cases h
 | x :: a, y :: b, h => by
  have := eqL_eq hf (a := a) (b := b) (by simpa using h)
  rw [eqL]
  cases h1 : f x y with
  | true => rw [cond_true, this, (hf x y).1 h1]; simp
  | false =>
   rw [cond_false]
   constructor
   ·intro h; cases h
   ·intro h; cases h; rw [(hf x x).2 rfl] at h1; cases h1
theorem cdeq_iff (x y : Cd) : cdeq x y = true ↔ x = y := by
 obtain ⟨a, b, c, d⟩ := x
 obtain ⟨a', b', c', d'⟩ := y
 unfold cdeq
 simp only [Bool.and_eq_true, decide_eq_true_iff, veq_iff, Cd.mk.injEq]
theorem preq_iff (x y : Int × Int) : preq x y = true ↔ x = y := by
 unfold preq
 simp only [Bool.and_eq_true, decide_eq_true_iff, Prod.ext_iff]
theorem ieq_iff (x y : Int) : ieq x y = true ↔ x = y := by unfold ieq; rw [decide_eq_true_iff]
theorem sameN_iff : ∀ {a b : Nd}, sameN a b = true ↔ a = b
 | .nil, .nil => by simp [sameN, isNil]
 | .nil, .mk .. => by simp [sameN, isNil]
 | .mk .., .nil => by simp [sameN]
 | .mk k nm w cs ps cl ag of l r, .mk k' nm' w' cs' ps' cl' ag' of' l' r' => by
  have hl := @sameN_iff l l'
  have hr := @sameN_iff r r'
  constructor
  ·intro h
   rw [sameN] at h
   cases g1 : decide (k = k') with
   | false => rw [g1] at h; cases h
   | true =>
   rw [g1, cond_true] at h
   cases g2 : nm == nm' with
   | false => rw [g2] at h; cases h
   | true =>
   rw [g2, cond_true] at h
   cases g3 : decide (w = w') with
   | false => rw [g3] at h; cases h
   | true =>
   rw [g3, cond_true] at h
   cases g4 : decide (ag = ag') with
   | false => rw [g4] at h; cases h
   | true =>
   rw [g4, cond_true] at h
   cases g5 : decide (of = of') with
   | false => rw [g5] at h; cases h
   | true =>
   rw [g5, cond_true] at h
   cases g6 : decide ((cs.length : Int) = cs'.length) with
   | false => rw [g6] at h; cases h
   | true =>
   rw [g6, cond_true] at h
   cases g7 : decide ((ps.length : Int) = ps'.length) with
   | false => rw [g7] at h; cases h
   | true =>
   rw [g7, cond_true] at h
   cases g8 : decide ((cl.length : Int) = cl'.length) with
   | false => rw [g8] at h; cases h
   | true =>
   rw [g8, cond_true] at h
   have g6 := of_decide_eq_true g6
   have g7 := of_decide_eq_true g7
   have g8 := of_decide_eq_true g8
   rw [Bool.and_eq_true, Bool.and_eq_true, Bool.and_eq_true, Bool.and_eq_true] at h
   obtain ⟨h1, h2, h3, h4, h5⟩ := h
   rw [of_decide_eq_true g1, eq_of_beq g2, of_decide_eq_true g3, of_decide_eq_true g4, of_decide_eq_true g5, (eqL_eq cdeq_iff (by omega)).1 h1, (eqL_eq preq_iff (by omega)).1 h2, (eqL_eq ieq_iff (by omega)).1 h3, hl.1 h4, hr.1 h5]
  ·intro h
   cases h
   rw [sameN]
   simp only [decide_true, beq_self_eq_true, cond_true, (eqL_eq cdeq_iff rfl).2, (eqL_eq preq_iff rfl).2, (eqL_eq ieq_iff rfl).2, hl.2 rfl, hr.2 rfl, Bool.and_self]
theorem right_inv {n : Nd} (h : rightN n = true) : n ≠ .nil /\ eachB n = true := by
 unfold rightN at h
 rw [Bool.and_eq_true, Bool.and_eq_true] at h
 exact ⟨isNil_not.1 (by simpa using h.1), h.2.2⟩
end Go.Proofs.YtcledcfeddlomaaGreatDoor.Ev
