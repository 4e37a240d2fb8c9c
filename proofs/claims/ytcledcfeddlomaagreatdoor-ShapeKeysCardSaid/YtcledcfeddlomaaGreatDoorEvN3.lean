import Derived.Test.YtcledcfeddlomaaGreatDoorEvT
import Derived.Lib.Join
import Derived.Lib.ItoaNum
import Derived.Lib.LaidTab
import Derived.Sort.Grow
import Derived.Deep.Draws
import Derived.Lib.Atoi
import Derived.Lib.Split
import Derived.Lib.CountLaws
import Derived.Lib.AtoiErrMem
set_option linter.all false
namespace Go.Proofs.YtcledcfeddlomaaGreatDoor.Ev
open Go Go.RowKit
theorem WR.below' {β : Env} {B : Gd} {H : Tr AO} {hs : Nat} {W W' : World} (h : WR β B H hs W) (hb : Below W.heap.size W W') :
  ∃ fz', (∀ b o v, β.fz b o = some v -> fz' b o = some v) /\ WR ⟨β.b, β.q, fz', β.fm⟩ B H hs W' /\ ∀ b arr e f o v, W.heap.size <= b -> W'.heap[b]? = some (.cells arr e f) -> arr[o]? = some v -> fz' b o = some v :=
 h.made ⟨hb.os, hb.tape, hb.output, hb.size, hb.block⟩
theorem endB {β : Env} {B : Gd} {H : Tr AO} {hs : Nat} {W W' : World} (h : WR β B H hs W) (hb : Below W.heap.size W W') {v : AV} {v' : Value} (hv : VR β v v') : EndR β B hs v H hs (.returned v') W' := by
 obtain ⟨fz', h1, h2, _⟩ := h.below' hb
 have hle : β.le ⟨β.b, β.q, fz', β.fm⟩ := ⟨fun _ _ x => x, rfl, h1, fun _ _ x => x⟩
 exact ⟨_, ⟨hle, fun _ _ => rfl, Nat.le_refl _⟩, h2, hv.mono hle⟩
theorem below_drewN (w : World) (k : Nat) : Below w.heap.size w (w.drewN k) := ⟨rfl, rfl, rfl, Nat.le_refl _, fun _ _ => rfl⟩
theorem below_grow {B : Nat} (w : World) (os : Array Obj) (h : B <= w.heap.size) : Below B w (Go.Sort.grow w os) := ⟨rfl, rfl, rfl, by simp [Go.Sort.grow], fun k hk => by
 show (w.heap ++ os)[k]? = w.heap[k]?
 rw [Array.getElem?_append, if_pos (by omega)]⟩
theorem below_gd (w : World) (k : Nat) (os : Array Obj) : Below w.heap.size w (Go.Sort.grow (w.drewN k) os) :=
 (below_drewN w k).trans (below_grow _ _ (Nat.le_refl _))
theorem joinS_eq (sep : List UInt8) : ∀ xs : List (List UInt8), joinS sep xs = Go.Lib.join xs sep
 | [] => rfl
 | [a] => (Go.Lib.join_one a sep).symm
 | a :: b :: l => by
  rw [joinS, joinS_eq sep (b :: l), Go.Lib.join_cons a (b :: l), Go.Lib.join_cons b l]
  simp [Go.Lib.joinTail]
theorem strsOf_some : ∀ {es : List AV} {xs : List (List UInt8)}, strsOf es = some xs -> es = xs.map AV.str
 | [], xs, h => by cases h; rfl
 | .str a :: l, xs, h => by
  unfold strsOf at h
  split at h
  ·rename_i x hx; cases h; rw [strsOf_some hx]; rfl
  ·cases h
 | .lit _ :: _, _, h => by cases h
 | .ptr .. :: _, _, h => by cases h
 | .slc .. :: _, _, h => by cases h
 | .emp :: _, _, h => by cases h
 | .mp _ :: _, _, h => by cases h
 | .yld _ :: _, _, h => by cases h
 | .fn .. :: _, _, h => by cases h
 | .ifc .. :: _, _, h => by cases h
 | .agg _ :: _, _, h => by cases h
 | .tup _ :: _, _, h => by cases h
 | .opq _ :: _, _, h => by cases h
 | .any :: _, _, h => by cases h
 | .lst .. :: _, _, h => by cases h
 | .eptr _ :: _, _, h => by cases h
 | .fmp _ :: _, _, h => by cases h
theorem VRs.strs {β : Env} : ∀ {xs : List (List UInt8)} {vs : List Value}, VRs β ((xs.map AV.str).flatMap AV.cells) vs -> vs = xs.map fun l => Value.string ⟨l.toArray⟩
 | [], _, .nil => rfl
 | x :: xs, _, .cons _ _ _ _ h t => by
  cases h
  rw [VRs.strs t]; rfl
theorem natC_join {P : Program} {f : Nat} (hf : ∃ fn c, P.funcs[f]? = some fn /\ fn.body = some c /\ fn.name ≠ "runtime.NumGoroutine")
  (h0 : ∀ (a : Option Addr) (c : Nat) (sep : ByteArray) (w : World), Calls P f #[.slice a 0 c, .string sep] w fun e w' => e = .returned (.string ⟨#[]⟩) /\ w' = w)
  (h1 : ∀ (bk o c : Nat) (xs : List ByteArray) (sep : ByteArray) (w : World) (hcells : ∀ (j : Nat) x, xs[j]? = some x -> w.cell? ⟨bk, o + j, none⟩ = some (.string x)) (hbk : bk < w.heap.size) (hN : xs.length <= 140737488355328) (hcap : xs.length <= c) (hlen : (Go.Lib.join (xs.map (·.data.toList)) sep.data.toList).length <= 140737488355328),
   Calls P f #[.slice (some ⟨bk, o, none⟩) xs.length c, .string sep] w fun e w' => e = .returned (.string ⟨(Go.Lib.join (xs.map (·.data.toList)) sep.data.toList).toArray⟩) /\ Below w.heap.size w w') : NatC P f 5 := by
 refine ⟨hf, fun gl args v hv β B H hs W hw hgl xs hx => ?_⟩
 have none_ : ∀ (a : Option Addr) (c : Nat) (sep : List UInt8), Calls P f #[.slice a 0 c, .string ⟨sep.toArray⟩] W (EndR β B hs (.str []) H hs) := fun a c sep =>
  (h0 a c ⟨sep.toArray⟩ W).mono fun e w' ⟨he, hw'⟩ => by subst he hw'; exact endB hw (Below.refl _ _) (.str [])
 match args, hv, hx with
 | [.lit (.slice none 0 0), .str sep], hv, .cons _ _ _ _ (.lit _) (.cons _ _ _ _ (.str _) .nil) =>
  cases hv
  exact none_ none 0 sep
 | [.lst tk es, .str sep], hv, .cons _ x _ _ hl (.cons _ _ _ _ (.str _) .nil) =>
  have hv2 : (match strsOf es with
   | some xs => bif Nat.ble xs.length 1000000000 && Nat.ble (joinS sep xs).length 100000000000 then some (AV.str (joinS sep xs)) else none
   | none => none) = some v := hv
  split at hv2
  ·rename_i xs hxs
   have he := strsOf_some hxs
   subst he
   cases hb : (Nat.ble xs.length 1000000000 && Nat.ble (joinS sep xs).length 100000000000) with
   | false => rw [hb] at hv2; cases hv2
   | true =>
    rw [hb] at hv2
    cases hv2
    rw [Bool.and_eq_true] at hb
    have hb1 := Nat.le_of_ble_eq_true hb.1
    have hb2 := Nat.le_of_ble_eq_true hb.2
    generalize hes : xs.map AV.str = es at hl
    cases hl with
    | lstN tk =>
     have : xs = [] := by simpa using hes
     subst this
     exact none_ none 0 sep
    | lstE tk a c _ _ =>
     have : xs = [] := by simpa using hes
     subst this
     exact none_ (some a) c sep
    | lst tk sz es vs b o c h _ _ hfz hc _ =>
     subst hes
     have hvs := VRs.strs h
     subst hvs
     have hE := joinS_eq sep xs
     have hm : ((xs.map fun l => (⟨l.toArray⟩ : ByteArray)).map (·.data.toList)) = xs := by simp [Function.comp_def]
     cases hx0 : xs with
     | nil =>
      subst hx0
      exact none_ _ _ sep
     | cons x0 xr =>
     rw [<- hx0]
     have hcell : ∀ (j : Nat) x, (xs.map fun l => (⟨l.toArray⟩ : ByteArray))[j]? = some x -> W.cell? ⟨b, o + j, none⟩ = some (.string x) := by
      intro j x hj
      rw [List.getElem?_map] at hj
      cases hxj : xs[j]? with
      | none => rw [hxj] at hj; cases hj
      | some l =>
       rw [hxj] at hj; cases hj
       obtain ⟨arr, e, fz, g1, g2⟩ := hw.fz b (o + j) _ (hfz j (.string ⟨l.toArray⟩) (by rw [List.getElem?_map, hxj]; rfl))
       simp [World.cell?, g1, g2]
     have hbk : b < W.heap.size := hw.fz_lt (hfz 0 (.string ⟨x0.toArray⟩) (by rw [hx0]; rfl))
     have hc' := h1 b o c (xs.map fun l => (⟨l.toArray⟩ : ByteArray)) ⟨sep.toArray⟩ W hcell hbk (by simpa using (by omega : xs.length <= 140737488355328)) (by simpa using hc) (by
      rw [hm]
      show (Go.Lib.join xs sep.toArray.toList).length <= _
      rw [List.toList_toArray, <- hE]; omega)
     rw [hm] at hc'
     simp only [List.length_map] at hc' ⊢
     refine hc'.mono fun e w' ⟨he, hb⟩ => ?_
     subst he
     refine endB hw hb ?_
     show VR β (.str (joinS sep xs)) (.string ⟨(Go.Lib.join xs sep.toArray.toList).toArray⟩)
     rw [List.toList_toArray, <- hE]
     exact .str _
  ·cases hv2
theorem digsR_eq : ∀ (f u : Nat), u < 10 ^ (f + 1) -> (digsR (f + 1) u).reverse = Go.Lib.decDigits u
 | 0, u, h => by
  unfold digsR
  rw [Go.Lib.decDigits, blt_lt.2 (by simpa using h), cond_true, dif_pos (by simpa using h)]; rfl
 | f + 1, u, h => by
  rw [digsR, Go.Lib.decDigits]
  cases hb : Nat.blt u 10 with
  | true =>
   have := blt_lt.1 hb
   rw [cond_true, dif_pos this]; rfl
  | false =>
   have hn : ¬ u < 10 := fun h' => by rw [blt_lt.2 h'] at hb; cases hb
   rw [cond_false, dif_neg hn, List.reverse_cons, digsR_eq f (u / 10) (by rw [Nat.pow_succ] at h; omega)]
theorem numT_eq (n : Int) (h0 : -9223372036854775808 <= n) (h1 : n <= 9223372036854775807) : numT n = Go.Lib.itoa n := by
 unfold numT Go.Lib.itoa digsN
 by_cases h : n < 0
 ·rw [if_pos h, decide_eq_true h, cond_true, digsR_eq 29 _ (by omega)]
 ·rw [if_neg h, decide_eq_false h, cond_false, digsR_eq 29 _ (by omega)]
theorem isU64s_vals {β : Env} : ∀ {ns : List Nat} {cs : List AV} {vs : List Value}, isU64s ns cs = true -> VRs β cs vs -> vs = ns.map fun (n : Nat) => Value.int .u64 (n : Int)
 | [], [], _, _, .nil => rfl
 | n :: ns, a :: cs, _, h, .cons _ v _ x hv t => by
  unfold isU64s at h
  split at h
  ·rename_i e1 e2; cases e1
  ·rename_i n1 l m r e1 e2
   cases e1; cases e2
   rw [Bool.and_eq_true] at h
   have := Nat.eq_of_beq_eq_true h.1
   subst this
   cases hv
   rw [isU64s_vals h.2 t]; rfl
  ·cases h
theorem GlOk.var {P : Program} {β : Env} {B : Gd} {H : Tr AO} {hs : Nat} {W : World} (hw : WR β B H hs W) {gl : Tr (Option AV)} (hgl : GlOk β gl) {g : Nat} {cs : List AV} (hg : gl.get none g = some (.eptr cs)) {name : String} (hn : P.globalNamed name = some g) :
  ∃ vs : List Value, VRs β.al cs vs /\ W.var? P name = some vs.toArray := by
 obtain ⟨hv, arr, e, f, h1, h2⟩ := hgl g _ hg
 cases hv with
 | eptr _ vs _ _ hvs hfz =>
  refine ⟨vs, hvs, ?_⟩
  have hl := VRs.length hvs
  have hsz := h2 cs rfl
  have hb := hw.fm g _ h1
  have : arr = vs.toArray := by
   apply Array.ext (by simpa [hl] using hsz)
   intro i hi1 hi2
   have hi : vs[i]? = some vs[i] := List.getElem?_eq_getElem (by simpa using hi2)
   obtain ⟨arr', e', f', q1, q2⟩ := hw.fz g (0 + i) _ (hfz i _ hi)
   rw [hb] at q1; cases q1
   rw [Nat.zero_add] at q2
   have := (Array.getElem?_eq_some_iff.1 q2).2
   simpa using this
  simp [World.var?, hn, hb, this]
theorem natC_itoa {P : Program} {f g : Nat} (hf : ∃ fn c, P.funcs[f]? = some fn /\ fn.body = some c /\ fn.name ≠ "runtime.NumGoroutine") (hn : P.globalNamed "internal/strconv.uint64pow10" = some g)
  (h1 : ∀ (n : Int) (h0 : -9223372036854775808 <= n) (h1 : n <= 9223372036854775807) (w : World) (htab : Go.Lib.TabIs P w "internal/strconv.uint64pow10" .u64 (pow10T.map fun (n : Nat) => (n : Int))),
   Calls P f #[.int .i64 n] w fun e w' => e = .returned (.string ⟨(Go.Lib.itoa n).toArray⟩) /\ ∃ k os, w' = Go.Sort.grow (w.drewN k) os)
  (h2 : ∀ (i : Nat) (hi : i < 100) (w : World), Calls P f #[.int .i64 i] w fun e w' => e = .returned (.string ⟨(Go.Lib.itoa i).toArray⟩) /\ w' = w) : NatC P f (6 + 16 * g) := by
 refine ⟨hf, fun gl args v hv β B H hs W hw hgl xs hx => ?_⟩
 have e1 : (6 + 16 * g) % 16 = 6 := by omega
 have e2 : (6 + 16 * g) / 16 = g := by omega
 have hv : nItoa (gl.get none g) args = some v := by
  unfold natB at hv; rw [e1, e2] at hv; exact hv
 match args, hv, hx with
 | [.lit (.int .i64 n)], hv, .cons _ _ _ _ (.lit _) .nil =>
  dsimp only [nItoa] at hv
  cases hd : decide (-9223372036854775808 <= n /\ n <= 9223372036854775807) with
  | false => rw [hd] at hv; cases hv
  | true =>
   rw [hd, cond_true] at hv
   obtain ⟨d1, d2⟩ := of_decide_eq_true hd
   split at hv
   ·rename_i cs hg
    cases hu : isU64s pow10T cs with
    | false => rw [hu] at hv; cases hv
    | true =>
     rw [hu, cond_true] at hv; cases hv
     obtain ⟨vs, hvs, hvar⟩ := GlOk.var (P := P) hw hgl hg hn
     have hvs' := isU64s_vals hu hvs
     refine (h1 n d1 d2 W (by rw [Go.Lib.TabIs, hvar, hvs', List.map_map]; rfl)).mono fun e w' ⟨he, k, os, hw'⟩ => ?_
     subst he hw'
     refine endB hw (below_gd W k os) ?_
     rw [<- numT_eq n d1 d2]; exact .str _
   ·cases hd2 : decide (0 <= n /\ n < 100) with
    | false => rw [hd2] at hv; cases hv
    | true =>
     rw [hd2, cond_true] at hv; cases hv
     obtain ⟨c1, c2⟩ := of_decide_eq_true hd2
     obtain ⟨i, rfl⟩ : ∃ i : Nat, n = i := ⟨n.toNat, by omega⟩
     refine (h2 i (by omega) W).mono fun e w' ⟨he, hw'⟩ => ?_
     subst he hw'
     refine endB hw (Below.refl _ _) ?_
     rw [<- numT_eq _ d1 d2]; exact .str _
theorem numB_eq : ∀ {l : List UInt8} {u m : Nat}, numB u l = some m -> Go.Lib.decFrom u l = some m
  | [], u, m, h => h
  | a :: l, u, m, h => by
    unfold numB at h
    cases hb : (Nat.ble 48 a.toNat && Nat.ble a.toNat 57) with
    | false => rw [hb] at h; cases h
    | true =>
      rw [hb, cond_true] at h
      rw [Bool.and_eq_true] at hb
      have h1 := Nat.le_of_ble_eq_true hb.1
      have h2 := Nat.le_of_ble_eq_true hb.2
      have := numB_eq h
      unfold Go.Lib.decFrom Go.Lib.digitVal
      rw [if_pos ⟨h1, h2⟩]
      simp only
      rw [show u * 10 + (a.toNat - 48) = 10 * u + (a.toNat - 48) from by omega]
      exact this
theorem decNat_eq {l : List UInt8} {m : Nat} (h : numB 0 l = some m) (hl : l ≠ []) : Go.Lib.decNat l = some m := by
  unfold Go.Lib.decNat
  cases l with
  | nil => exact absurd rfl hl
  | cons a l => exact numB_eq h
theorem atoiT_eq {s : List UInt8} {n : Int} (h : atoiT s = some n) : Go.Lib.atoi s = some n /\ s.length <= 18 := by
  unfold atoiT at h
  cases hb : Nat.ble s.length 18 with
  | false => rw [hb] at h; cases h
  | true =>
    rw [hb, cond_true] at h
    refine ⟨?_, Nat.le_of_ble_eq_true hb⟩
    split at h
    · cases h
    · cases h
    · cases h
    · rename_i l hne
      split at h
      · rename_i u hu
        cases h
        rw [Go.Lib.atoi, if_pos (beq_self_eq_true _), decNat_eq hu (fun e => hne (by rw [e]))]; rfl
      · cases h
    · rename_i l hne
      split at h
      · rename_i u hu
        cases h
        rw [Go.Lib.atoi, if_neg (by decide), if_pos (beq_self_eq_true _), decNat_eq hu (fun e => hne (by rw [e]))]; rfl
      · cases h
    · rename_i h0 h1 h2 h3 h4
      split at h
      · rename_i u hu
        cases h
        cases s with
        | nil => exact absurd rfl h0
        | cons b r =>
          rw [Go.Lib.atoi, if_neg (fun e => h3 r (by rw [eq_of_beq e])), if_neg (fun e => h4 r (by rw [eq_of_beq e])), decNat_eq hu (by simp)]; rfl
      · cases h
theorem natC_atoi {P : Program} {f e5 : Nat} (hf : ∃ fn c, P.funcs[f]? = some fn /\ fn.body = some c /\ fn.name ≠ "runtime.NumGoroutine")
    (h1 : ∀ (s : ByteArray) (n : Int) (hl : s.size <= 18) (h : Go.Lib.atoi s.data.toList = some n) (w : World), Calls P f #[.string s] w fun e w' => e = .returned (.tuple #[.int .i64 n, .nilIface]) /\ ∃ t, w' = Go.Lib.bytesWorld w e5 t) : NatC P f 8 := by
  refine ⟨hf, fun gl args v hv β B H hs W hw hgl xs hx => ?_⟩
  have hv : nAtoi args = some v := hv
  match args, hv, hx with
  | [.str s], hv, .cons _ _ _ _ (.str _) .nil =>
    dsimp only [nAtoi] at hv
    split at hv
    · rename_i n hn
      cases hv
      obtain ⟨g1, g2⟩ := atoiT_eq hn
      refine (h1 ⟨s.toArray⟩ n (by simpa [ByteArray.size] using g2) (by simpa using g1) W).mono fun e w' ⟨he, t, hw'⟩ => ?_
      subst he hw'
      exact endB hw (Go.Lib.bytesWorld_below W e5 t) (.tup _ _ (.cons _ _ _ _ (.lit _) (.cons _ _ _ _ (.lit _) .nil)))
    · cases hv
theorem idx_miss {c : UInt8} : ∀ {l acc : List UInt8}, Go.Lib.index l [c] = -1 -> splitT c acc l = [acc.reverse ++ l]
  | [], acc, _ => by simp [splitT]
  | a :: l, acc, h => by
    unfold Go.Lib.index at h
    have hp : [c].isPrefixOf (a :: l) = (c == a) := by simp [List.isPrefixOf]
    rw [hp] at h
    split at h
    · cases h
    · rename_i hc
      split at h
      · rename_i hm
        have hac : (a == c) = false := by
          cases hx : (a == c) with
          | false => rfl
          | true => exact absurd (by rw [eq_of_beq hx]; exact beq_self_eq_true c) hc
        rw [splitT, hac, cond_false, idx_miss (eq_of_beq hm)]
        simp
      · have := Go.Lib.index_ge l [c]; rename_i hm; exfalso; apply hm; rw [beq_iff_eq]; omega
theorem idx_hit {c : UInt8} : ∀ {l acc : List UInt8} {i : Nat}, Go.Lib.index l [c] = i -> splitT c acc l = (acc.reverse ++ l.take i) :: splitT c [] (l.drop (i + 1))
  | [], acc, i, h => by
    unfold Go.Lib.index at h
    simp at h
  | a :: l, acc, i, h => by
    unfold Go.Lib.index at h
    have hp : [c].isPrefixOf (a :: l) = (c == a) := by simp [List.isPrefixOf]
    rw [hp] at h
    split at h
    · rename_i hc
      have : i = 0 := by omega
      subst this
      have := eq_of_beq hc
      subst this
      simp [splitT]
    · rename_i hc
      split at h
      · omega
      · have hac : (a == c) = false := by
          cases hx : (a == c) with
          | false => rfl
          | true => exact absurd (by rw [eq_of_beq hx]; exact beq_self_eq_true c) hc
        have := Go.Lib.index_ge l [c]
        have hne : Go.Lib.index l [c] ≠ -1 := by rename_i hm; exact fun e => hm (by rw [beq_iff_eq]; exact e)
        obtain ⟨j, rfl⟩ : ∃ j, i = j + 1 := ⟨i - 1, by omega⟩
        rw [splitT, hac, cond_false, idx_hit (i := j) (by omega)]
        simp
theorem splitB_eq {c : UInt8} : ∀ (k : Nat) (s : ByteArray), k = Go.Lib.countB s ⟨#[c]⟩ -> (Go.Lib.splitB ⟨#[c]⟩ 0 k s).map (·.data.toList) = splitT c [] s.data.toList := by
  intro k
  induction k with
  | zero =>
    intro s hk
    have hm : Go.Lib.indexB s ⟨#[c]⟩ = -1 := by
      have := Go.Lib.index_ge s.data.toList [c]
      by_cases h : Go.Lib.indexB s ⟨#[c]⟩ = -1
      · exact h
      · obtain ⟨i, hi⟩ : ∃ i : Nat, Go.Lib.indexB s ⟨#[c]⟩ = i := ⟨(Go.Lib.indexB s ⟨#[c]⟩).toNat, by
          have h2 : -1 <= Go.Lib.indexB s ⟨#[c]⟩ := this
          omega⟩
        have := Go.Lib.countB_hit s ⟨#[c]⟩ i (Nat.le_refl 1) hi
        omega
    rw [Go.Lib.splitB_zero, idx_miss (c := c) (l := s.data.toList) hm]
    simp
  | succ k ih =>
    intro s hk
    by_cases h : Go.Lib.indexB s ⟨#[c]⟩ = -1
    · have := Go.Lib.countB_miss s ⟨#[c]⟩ h; omega
    · have h2 : -1 <= Go.Lib.indexB s ⟨#[c]⟩ := Go.Lib.index_ge s.data.toList [c]
      obtain ⟨i, hi⟩ : ∃ i : Nat, Go.Lib.indexB s ⟨#[c]⟩ = i := ⟨(Go.Lib.indexB s ⟨#[c]⟩).toNat, by omega⟩
      have hc := Go.Lib.countB_hit s ⟨#[c]⟩ i (Nat.le_refl 1) hi
      rw [Go.Lib.splitB_hit _ _ _ _ i hi, List.map_cons, ih _ (by omega), idx_hit (c := c) (l := s.data.toList) hi]
      have e1 : (s.extract 0 (i + 0)).data.toList = s.data.toList.take i := by simp [ByteArray.data_extract]
      have e2 : (s.extract (i + 1) s.size).data.toList = s.data.toList.drop (i + 1) := by
        rw [ByteArray.data_extract, Array.toList_extract, List.extract_eq_drop_take]
        exact List.take_of_length_le (by rw [List.length_drop, Array.length_toList]; exact Nat.le_refl _)
      rw [e1]
      show _ :: splitT c [] (s.extract (i + 1) s.size).data.toList = _
      rw [e2]; simp
theorem splitB_len {c : UInt8} : ∀ (k : Nat) (s : ByteArray), k = Go.Lib.countB s ⟨#[c]⟩ -> (Go.Lib.splitB ⟨#[c]⟩ 0 k s).length = k + 1 := by
  intro k
  induction k with
  | zero => intro s _; rw [Go.Lib.splitB_zero]; rfl
  | succ k ih =>
    intro s hk
    by_cases h : Go.Lib.indexB s ⟨#[c]⟩ = -1
    · have := Go.Lib.countB_miss s ⟨#[c]⟩ h; omega
    · have h2 : -1 <= Go.Lib.indexB s ⟨#[c]⟩ := Go.Lib.index_ge s.data.toList [c]
      obtain ⟨i, hi⟩ : ∃ i : Nat, Go.Lib.indexB s ⟨#[c]⟩ = i := ⟨(Go.Lib.indexB s ⟨#[c]⟩).toNat, by omega⟩
      have hc := Go.Lib.countB_hit s ⟨#[c]⟩ i (Nat.le_refl 1) hi
      rw [Go.Lib.splitB_hit _ _ _ _ i hi, List.length_cons]
      show (Go.Lib.splitB _ 0 k (s.extract (i + 1) s.size)).length + 1 = _
      rw [ih (s.extract (i + 1) s.size) (by
        have : (⟨#[c]⟩ : ByteArray).size = 1 := rfl
        rw [this] at hc; omega)]
theorem VRs.ofStrs {β : Env} : ∀ (xs : List ByteArray), VRs β (((xs.map (·.data.toList)).map AV.str).flatMap AV.cells) (xs.map Value.string)
  | [] => .nil
  | x :: xs => .cons _ _ _ _ (by
      have : VR β (.str x.data.toList) (.string ⟨x.data.toList.toArray⟩) := .str _
      simpa using this) (VRs.ofStrs xs)
theorem natC_split {P : Program} {f g e9 : Nat} (hf : ∃ fn c, P.funcs[f]? = some fn /\ fn.body = some c /\ fn.name ≠ "runtime.NumGoroutine")
    (h1 : ∀ (s sep : ByteArray) (m : Int) (w : World) (hs : s.size < 4294967281) (hm : w.cell? ⟨g, 0, none⟩ = some (.int .i64 m)) (h1 : 1 <= sep.size),
      Calls P f #[.string s, .string sep] w fun e w' => e = .returned (.slice (some ⟨w.heap.size, 0, none⟩) (Go.Lib.countB s sep + 1) (Go.Lib.countB s sep + 1)) /\ w' = w.alloc (.cells ((Go.Lib.splitB sep 0 (Go.Lib.countB s sep) s).map Value.string).toArray e9)) : NatC P f (7 + 16 * g) := by
  refine ⟨hf, fun gl args v hv β B H hs W hw hgl xs hx => ?_⟩
  have e1 : (7 + 16 * g) % 16 = 7 := by omega
  have e2 : (7 + 16 * g) / 16 = g := by omega
  have hv : nSplit (gl.get none g) args = some v := by
    unfold natB at hv; rw [e1, e2] at hv; exact hv
  match args, hv, hx with
  | [.str s, .str [c]], hv, .cons _ _ _ _ (.str _) (.cons _ _ _ _ (.str _) .nil) =>
    dsimp only [nSplit] at hv
    split at hv
    · rename_i m hg
      cases hb : Nat.ble s.length 1000000000 with
      | false => rw [hb] at hv; cases hv
      | true =>
        rw [hb, cond_true] at hv
        cases hv
        have hl := Nat.le_of_ble_eq_true hb
        have hm : W.cell? ⟨g, 0, none⟩ = some (.int .i64 m) := by
          obtain ⟨hv, _⟩ := hgl g _ hg
          cases hv with
          | eptr _ vs _ _ hvs hfz =>
            cases hvs with
            | cons _ _ _ _ hv1 _ =>
              cases hv1
              obtain ⟨arr, e, fz, g1, g2⟩ := hw.fz g (0 + 0) _ (hfz 0 _ rfl)
              rw [Nat.zero_add] at g2
              simp [World.cell?, g1, g2]
        refine (h1 ⟨s.toArray⟩ ⟨#[c]⟩ m W (by have : (⟨s.toArray⟩ : ByteArray).size = s.length := by simp [ByteArray.size]
                                              omega) hm (Nat.le_refl 1)).mono fun e w' ⟨he, hw'⟩ => ?_
        have hsp := splitB_eq (c := c) (Go.Lib.countB ⟨s.toArray⟩ ⟨#[c]⟩) ⟨s.toArray⟩ rfl
        generalize hps : Go.Lib.splitB ⟨#[c]⟩ 0 (Go.Lib.countB ⟨s.toArray⟩ ⟨#[c]⟩) ⟨s.toArray⟩ = ps at hsp hw'
        have hsp' : splitT c [] s = ps.map (·.data.toList) := by rw [hsp]
        have hlen : ps.length = Go.Lib.countB ⟨s.toArray⟩ ⟨#[c]⟩ + 1 := by rw [<- hps]; exact splitB_len _ _ rfl
        subst he
        have hbl : Below W.heap.size W w' := by rw [hw']; exact (Below.refl _ _).alloc (Nat.le_refl _) _
        obtain ⟨fz', q1, q2, q3⟩ := hw.below' hbl
        have hnew : w'.heap[W.heap.size]? = some (.cells (ps.map Value.string).toArray e9) := by rw [hw']; exact Array.getElem?_push_size
        refine ⟨⟨β.b, β.q, fz', β.fm⟩, ⟨⟨fun _ _ x => x, rfl, q1, fun _ _ x => x⟩, fun _ _ => rfl, Nat.le_refl _⟩, q2, ?_⟩
        rw [hsp', <- hlen]
        have hl2 : ps.length = ((ps.map (·.data.toList)).map AV.str).length := by simp
        rw [hl2]
        refine VR.lst .no 1 _ (ps.map Value.string) W.heap.size 0 _ (VRs.ofStrs ps) (fun e he => ?_) (by decide) (fun i v hi => ?_) (Nat.le_refl _) trivial
        · obtain ⟨x, _, rfl⟩ := List.mem_map.1 he; rfl
        · rw [Nat.zero_add]
          exact q3 _ _ _ _ i v (Nat.le_refl _) hnew (by simpa using hi)
    · cases hv
end Go.Proofs.YtcledcfeddlomaaGreatDoor.Ev
