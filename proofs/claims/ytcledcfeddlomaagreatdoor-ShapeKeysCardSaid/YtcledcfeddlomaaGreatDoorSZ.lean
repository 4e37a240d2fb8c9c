import Derived.Test.YtcledcfeddlomaaGreatDoorST
import Derived.Test.YtcledcfeddlomaaGreatDoorKS
set_option linter.all false
set_option maxRecDepth 100000
set_option maxHeartbeats 8000000
namespace Go.Proofs.YtcledcfeddlomaaGreatDoor.Ev
open Go Go.Proofs.YtcledcfeddlomaaGreatDoor.Ev Go.Proofs Go.Proofs.YtcledcfeddlomaaGreatDoor Go.Proofs.YtcledcfeddlomaaGreatDoor.Tab
theorem natW_itoa {q n : Int} (h0 : -9223372036854775808 <= n) (h1 : n <= 9223372036854775807) : natW (glK q) 86 [.lit (.int .i64 n)] = some (.str (numT n)) := by
 have hg : (glK q).get none 5 = some (.eptr (pow10T.map fun (n : Nat) => AV.lit (Value.int .u64 (Int.ofNat n)))) := rfl
 show nItoa ((glK q).get none 5) [.lit (.int .i64 n)] = _
 rw [hg]
 show (bif decide (-9223372036854775808 <= n /\ n <= 9223372036854775807) then (bif isU64s pow10T (pow10T.map fun (n : Nat) => AV.lit (Value.int .u64 (Int.ofNat n))) then some (AV.str (numT n)) else none) else none) = _
 rw [decide_eq_true (And.intro h0 h1), cond_true, show isU64s pow10T (pow10T.map fun (n : Nat) => AV.lit (Value.int .u64 (Int.ofNat n))) = true from rfl, cond_true]
theorem strsOf_map : ∀ xs : List (List UInt8), strsOf (xs.map AV.str) = some xs
 | [] => rfl
 | x :: xs => by rw [List.map_cons, strsOf, strsOf_map xs]
theorem natW_join {gl : Tr (Option AV)} {k1 : ATk} {xs : List (List UInt8)} {sep : List UInt8} (h0 : xs.length <= 1000000000) (h1 : (joinS sep xs).length <= 100000000000) : natW gl 5 [.lst k1 (xs.map AV.str), .str sep] = some (.str (joinS sep xs)) := by
 show nJoin [.lst k1 (xs.map AV.str), .str sep] = _
 unfold nJoin
 simp only [strsOf_map]
 rw [bleT h0, bleT h1]; rfl
theorem natO_itoa {q n : Int} {H : Tr AO} {hs : Nat} (h0 : -9223372036854775808 <= n) (h1 : n <= 9223372036854775807) : natO (glK q) H hs 86 (some [.lit (.int .i64 n)]) = some (.str (numT n), H, hs) := by
 dsimp only [natO]; rw [natW_itoa h0 h1]
theorem natO_join {gl : Tr (Option AV)} {k1 : ATk} {xs : List (List UInt8)} {sep : List UInt8} {H : Tr AO} {hs : Nat} (h0 : xs.length <= 1000000000) (h1 : (joinS sep xs).length <= 100000000000) : natO gl H hs 5 (some [.lst k1 (xs.map AV.str), .str sep]) = some (.str (joinS sep xs), H, hs) := by
 dsimp only [natO]; rw [natW_join h0 h1]
theorem cNames {m : Md} {H : Tr AO} {hs : Nat} : callF tab (evw tab) m 49 [] H hs = some (.lst .no [.str [], .str [115, 99, 97, 110], .str [119, 104, 101, 114, 101], .str [109, 101, 101, 116], .str [109, 105, 115, 115], .str [116, 97, 107, 101], .str [111, 110, 99, 101], .str [103, 114, 111, 117, 112]], H, hs) := by
 refine callF_iso tcon rfl rfl rfl ?_
 refine iso_ret ?_
 simp (maxSteps := 4000000) only [sG, seval, x49, stU, b49, Tryz.f49]
theorem elS (l : List (List UInt8)) : ∀ z ∈ l.map AV.str, elOk 1 z = true := by
 intro z hz; obtain ⟨x, _, rfl⟩ := List.mem_map.1 hz; rfl
theorem appTx {H : Tr AO} {hs : Nat} {A : AV} {es : List (List UInt8)} (h : AccF H hs 1 A (es.map AV.str)) (hl : es.length < 1000000) (x : List UInt8) : ∃ H', appendO H hs true false 1 16 (some A) (some (.lst .full [.str x])) = some (.lst (.room hs) ((es ++ [x]).map AV.str), H', hs + 1) /\ H'.get .dead hs = .room 1 /\ ∀ q, q < hs -> (H.get .dead q).isRoom = false -> H'.get .dead q = H.get .dead q := by
 obtain ⟨H', h1, h2, h3⟩ := appF h (elS es) 16 false .full (.str x) [] (elS [x]) (by simp only [List.length_map, List.length_cons, List.length_nil]; omega)
 rw [List.map_append]
 refine ⟨H', h1, ?_, h3⟩
 rcases h2 with ⟨h, _⟩ | ⟨r, e, g, _⟩
 ·exact absurd h (by simp)
 ·cases e; exact g
theorem frameL {α : Type} {x : Option (α × Tr AO × Nat)} {v : α} {H H1 : Tr AO} {hs hs1 o : Nat} {F : Tr AO -> Nat -> AV -> Prop} (hf : ∀ p, p < hs1 -> p ≠ o -> (H1.get .dead p).isRoom = false -> p < hs /\ H.get .dead p = H1.get .dead p)
  (h : ∃ H' hs' A', x = some (v, H', hs') /\ F H' hs' A' /\ H'.get .dead o = .cells [A'] false /\ o < hs' /\ hs <= hs' /\ (∀ p, p < hs -> p ≠ o -> (H.get .dead p).isRoom = false -> H'.get .dead p = H.get .dead p)) (hh : hs1 <= hs := by omega) :
  ∃ H' hs' A', x = some (v, H', hs') /\ F H' hs' A' /\ H'.get .dead o = .cells [A'] false /\ o < hs' /\ hs1 <= hs' /\ (∀ p, p < hs1 -> p ≠ o -> (H1.get .dead p).isRoom = false -> H'.get .dead p = H1.get .dead p) := by
 obtain ⟨H', hs', A', h1, h2, h3, h4, h5, h6⟩ := h
 refine ⟨H', hs', A', h1, h2, h3, h4, by omega, fun p p1 p2 p3 => ?_⟩
 obtain ⟨q1, q2⟩ := hf p p1 p2 p3
 rw [h6 p q1 p2 (by rw [q2]; exact p3), q2]
theorem loopPut {ns : List Int} {q : Int} {o : Nat} {k1 : ATk} (hL : ns.length < 1000000) (hn : ∀ n ∈ ns, -9223372036854775808 <= n /\ n <= 9223372036854775807) : ∀ (k i : Nat) (t : Tr AV) (H : Tr AO) (hs : Nat) (A : AV) (es : List (List UInt8)), i + k = ns.length -> es.length + k < 1000000 -> AccF H hs 1 A (es.map AV.str) -> H.get .dead o = .cells [A] false -> o < hs ->
  t.get .any 1 = .ptr o 0 -> t.get .any 5 = .lst k1 (ns.map ci) -> t.get .any 6 = .lit (.int .i64 ns.length) -> t.get .any 7 = .lit (.int .i64 i) ->
  ∃ H' hs' A', W tab none (fin tab fi68) (lpc fi68 0) (lpk fi68 0) ⟨t, 17, H, hs, [], ⟨true, true, glK q⟩⟩ = some (one [], H', hs') /\ AccF H' hs' 1 A' ((es ++ (ns.drop i).map numT).map AV.str) /\ H'.get .dead o = .cells [A'] false /\ o < hs' /\ hs <= hs' /\ (∀ p, p < hs -> p ≠ o -> (H.get .dead p).isRoom = false -> H'.get .dead p = H.get .dead p) := by
 have D := d68
 simp only [stD, stC, List.cons.injEq, b68, Tryz.f68] at D
 simp only [stU, stC, b68, Tryz.f68]
 intro k
 induction k with
 | zero =>
  intro i t H hs A es hi hes hA hB hb a1 a5 a6 a7
  have e1 : decide ((i : Int) < ns.length) = false := dcF (by omega)
  refine ⟨H, hs, A, ?_, by rw [List.drop_of_length_le (by omega)]; simpa using hA, hB, hb, Nat.le_refl _, fun _ _ _ _ => rfl⟩
  rw [W_loop]
  simp only [sG, seval, x68, stU, b68, Tryz.f68, a1, a5, a6, a7, e1]
 | succ k ih =>
  intro i t H hs A es hi hes hA hB hb a1 a5 a6 a7
  have hlt : i < (ns).length := by omega
  obtain ⟨x, hv, e1, e3, e4, e6, e7⟩ := atS hlt
  have e5 := wrap_succ (i := i) (by omega)
  obtain ⟨x0, x1⟩ := hn x (by rw [<- hv]; exact List.getElem_mem _)
  obtain ⟨H1, hP, g1, g2⟩ := appTx hA (by omega) (numT x)
  have g3 := g2 o hb (by rw [hB]; rfl)
  rw [hB] at g3
  have cI := fun H hs => @natO_itoa q x H hs x0 x1
  rw [W_loop, e6, List.map_cons]
  rw [show es ++ (numT x :: (ns.drop (i + 1)).map numT) = (es ++ [numT x]) ++ (ns.drop (i + 1)).map numT by simp]
  simp (maxSteps := 2000000) only [sGA, seval, x68, stU, b68, Tryz.f68, ci, a1, a5, a6, a7, e1, e3, e4, e5, lG, hB, D, hP, cI, g3]
  refine frameL (H1 := H) (hs1 := hs) ?_ (ih (i + 1) _ (H1.put .dead o _) (hs + 1) _ (es ++ [numT x]) (by omega) (by simp; omega) (.inl (.inr ⟨hs, rfl, by rw [Tr.get_put, if_neg (by omega)]; exact g1, by omega⟩)) (by rw [Tr.get_put, if_pos rfl]) (by omega) ?_ ?_ ?_ ?_)
  ·intro p p1 p2 p3
   rw [Tr.get_put, if_neg p2]
   exact ⟨by omega, g2 p p1 p3⟩
  all_goals simp only [sG, seval, ci, a1, a5, a6, a7]
theorem cPutF {ns : List Int} {q : Int} {o : Nat} {k1 : ATk} {H : Tr AO} {hs : Nat} {A : AV} {es : List (List UInt8)} {lm tx : Bool} (hL : ns.length < 500000) (hn : ∀ n ∈ ns, -9223372036854775808 <= n /\ n <= 9223372036854775807) (hes : es.length < 500000) (hA : AccF H hs 1 A (es.map AV.str)) (hB : H.get .dead o = .cells [A] false) (hb : o < hs) :
  ∃ H' hs' A', callF tab (evw tab) ⟨lm, tx, glK q⟩ 68 [.lst k1 (ns.map ci), .ptr o 0] H hs = some (one [], H', hs') /\ AccF H' hs' 1 A' ((es ++ ns.map numT).map AV.str) /\ H'.get .dead o = .cells [A'] false /\ o < hs' /\ hs <= hs' /\ (∀ p, p < hs -> p ≠ o -> (H.get .dead p).isRoom = false -> H'.get .dead p = H.get .dead p) := by
 have L := @loopPut ns q o k1 (by omega) hn ns.length 0
 simp only [stU, stC, b68, Tryz.f68, List.drop_zero] at L
 rw [callF_in (fi := fi68) tcon rfl rfl rfl]
 simp only [sGA, seval, x68, stU, b68, Tryz.f68, List.length_map]
 apply L _ _ _ A es (by trivial) (by omega) hA hB hb
 all_goals simp only [sG, seval]
 all_goals rfl
theorem cPutN {ns : List Int} {q : Int} {o : Nat} {k1 : ATk} {H : Tr AO} {hs : Nat} {A : AV} {es : List (List UInt8)} {lm tx : Bool} (hL : ns.length < 500000) (hn : ∀ n ∈ ns, -9223372036854775808 <= n /\ n <= 9223372036854775807) (hes : es.length < 500000) (hA : AccF H hs 1 A (es.map AV.str)) (hB : H.get .dead o = .cells [A] false) (hb : o < hs) :
  ∃ H' hs' A', callF tab (evw tab) ⟨lm, tx, glK q⟩ 68 [.lst k1 (ns.map ci), .ptr o 0] H hs = some (one [], H', hs') /\ AccF H' hs' 1 A' ((es ++ ns.map numT).map AV.str) /\ H'.get .dead o = .cells [A'] false /\ o < hs' := by
 obtain ⟨H', hs', A', h1, h2, h3, h4, _⟩ := @cPutF ns q o k1 H hs A es lm tx hL hn hes hA hB hb
 exact ⟨H', hs', A', h1, h2, h3, h4⟩
def hexT : List UInt8 := [48, 49, 50, 51, 52, 53, 54, 55, 56, 57, 97, 98, 99, 100, 101, 102]
def hexc (n : Int) : UInt8 := hexT.getD n.toNat 0
def hexI : List Int -> List UInt8
 | [] => []
 | n :: l => hexc (n / 16) :: hexc (n % 16) :: hexI l
theorem hexT_get {y : Int} (h0 : 0 <= y) (h1 : y < 16) : ([48, 49, 50, 51, 52, 53, 54, 55, 56, 57, 97, 98, 99, 100, 101, 102] : List UInt8)[y.toNat]? = some (hexc y) := by
 unfold hexc
 rw [List.getD_eq_getElem?_getD]
 have h : y.toNat < hexT.length := by show y.toNat < 16; omega
 show hexT[y.toNat]? = _
 rw [List.getElem?_eq_getElem h]; rfl
theorem bytesOf_I : ∀ l : List Int, bytesOf (l.map encI) = some (l.map fun n => UInt8.ofNat n.toNat)
 | [] => rfl
 | n :: l => by
  have := bytesOf_I l
  show (match bytesOf (l.map encI) with | some r => some (UInt8.ofNat n.toNat :: r) | none => none) = _
  rw [this]; rfl
theorem and15 {x : Int} (h0 : 0 <= x) (h1 : x < 256) {p q : Operand} : binO tab .and 5 p q (some (.lit (.int .u8 x))) (some (.lit (.int .u8 15))) = some (.lit (.int .u8 (x % 16))) := by
 have e : binO tab .and 5 p q (some (.lit (.int .u8 x))) (some (.lit (.int .u8 15))) = some (.lit (.int .u8 (IntKind.u8.wrap (BitVec.ofInt IntKind.u8.bits x &&& BitVec.ofInt IntKind.u8.bits 15).toNat))) := rfl
 have key : ∀ k : Fin 256, IntKind.u8.wrap ((BitVec.ofInt IntKind.u8.bits ((k.val : Nat) : Int) &&& BitVec.ofInt IntKind.u8.bits 15).toNat : Int) = ((k.val : Nat) : Int) % 16 := by decide +kernel
 rw [e]
 have := key ⟨x.toNat, by omega⟩
 simp only [Int.toNat_of_nonneg h0] at this
 rw [this]
theorem loopHex {ns : List Int} {gl : Tr (Option AV)} (hL : ns.length < 100000) (hn : ∀ n ∈ ns, 0 <= n /\ n < 256) : ∀ (k i : Nat) (t : Tr AV) (H : Tr AO) (hs : Nat) (A : AV) (es : List Int), i + k = ns.length -> es.length <= 2 * i -> AccF H hs 1 A (es.map encI) ->
  t.get .any 3 = A -> t.get .any 6 = .lst .no (ns.map encI) -> t.get .any 7 = .lit (.int .i64 ns.length) -> t.get .any 8 = .lit (.int .i64 i) ->
  RetN (W tab none (fin tab fi70) (lpc fi70 0) (lpk fi70 0) ⟨t, 24, H, hs, [], ⟨true, true, gl⟩⟩) (.str ((es.map fun n => UInt8.ofNat n.toNat) ++ hexI (ns.drop i))) := by
 have D := d70
 simp only [stD, stC, List.cons.injEq, b70, Tryz.f70] at D
 simp only [stU, stC, b70, Tryz.f70]
 intro k
 induction k with
 | zero =>
  intro i t H hs A es hi hes hA a3 a6 a7 a8
  have e1 : decide ((i : Int) < ns.length) = false := dcF (by omega)
  rw [W_loop]
  have hc : convSO H (some A) = some (.str (es.map fun n => UInt8.ofNat n.toNat)) := by
   have hb := bytesOf_I es
   rcases hA with (⟨h, rfl⟩ | ⟨r, rfl, _⟩) | rfl
   ·have : es = [] := by simpa using h
    subst this; rfl
   ·simp only [convSO, hb]
   ·simp only [convSO, hb]
  rw [List.drop_of_length_le (by omega)]
  simp (maxSteps := 2000000) only [sG, seval, x70, stU, b70, Tryz.f70, a3, a6, a7, a8, e1, dMO, hc, hexI, List.append_nil]
 | succ k ih =>
  intro i t H hs A es hi hes hA a3 a6 a7 a8
  have hlt : i < (ns).length := by omega
  obtain ⟨x, hv, e1, e3, e4, e6, e7⟩ := atS hlt
  have e5 := wrap_succ (i := i) (by omega)
  obtain ⟨x0, x1⟩ := hn x (by rw [<- hv]; exact List.getElem_mem _)
  rw [W_loop, e6]
  have f1 : x.fdiv (2 ^ min 4 IntKind.u8.bits) = x / 16 := Int.fdiv_eq_ediv_of_nonneg _ (by decide)
  have f2 : decide (0 <= x / 16) = true := decide_eq_true (by omega)
  have f3 := hexT_get (y := x / 16) (by omega) (by omega)
  have f6 := fun p q => @and15 x x0 x1 p q
  obtain ⟨H1, hP, hA1, _⟩ := appF hA (elIs es) 1 false .full (encI (hexc (x / 16)).toNat) [encI (hexc (x % 16)).toNat] (elIs [((hexc (x / 16)).toNat : Int), ((hexc (x % 16)).toNat : Int)]) (by simp only [List.length_map, List.length_cons, List.length_nil]; omega)
  have hP' : appendO H hs true false 1 1 (some A) (some (.lst .full [.lit (.int .u8 ((hexc (x / 16)).toNat : Int)), .lit (.int .u8 ((hexc (x % 16)).toNat : Int))])) = some (.lst (.room hs) ((es ++ [((hexc (x / 16)).toNat : Int), ((hexc (x % 16)).toNat : Int)]).map encI), H1, hs + 1) := by rw [List.map_append]; exact hP
  have hA2 : AccF H1 (hs + 1) 1 (.lst (.room hs) ((es ++ [((hexc (x / 16)).toNat : Int), ((hexc (x % 16)).toNat : Int)]).map encI)) ((es ++ [((hexc (x / 16)).toNat : Int), ((hexc (x % 16)).toNat : Int)]).map encI) := by rw [List.map_append]; exact .inl hA1
  rw [show (es.map fun n => UInt8.ofNat n.toNat) ++ hexI (x :: ns.drop (i + 1)) = ((es ++ [((hexc (x / 16)).toNat : Int), ((hexc (x % 16)).toNat : Int)]).map fun n => UInt8.ofNat n.toNat) ++ hexI (ns.drop (i + 1)) by simp [hexI]]
  have f4 : decide (0 <= x % 16) = true := decide_eq_true (by omega)
  have f5 := hexT_get (y := x % 16) (by omega) (by omega)
  simp (maxSteps := 2000000) only [sGA, seval, x70, stU, b70, Tryz.f70, f1, f2, f3, f4, f5, f6, hP', encI, a3, a6, a7, a8, e1, e3, e4, e5, lG, D, dMO]
  apply ih (i + 1) _ _ _ _ _ (by omega) (by simp; omega) hA2
  all_goals simp only [sG, seval, encI, a3, a6, a7, a8]
theorem bares_I (l : List Int) : bares (l.map encI) = true := bares_mapg (f := encI) (fun _ => rfl) l
theorem nrms_I (l : List Int) : nrms (l.map encI) = l.map encI := nrms_mapg (f := encI) (fun _ => rfl) l
theorem eqHex {m : Md} {ns : List Int} (hL : ns.length < 100000) (hn : ∀ n ∈ ns, 0 <= n /\ n < 256) : iso tab fi70 m [.lst .no (ns.map encI)] = some (.str (hexI ns)) := by
 refine iso_ret ?_
 have L := @loopHex ns m.gl hL hn ns.length 0
 simp only [stU, stC, b70, Tryz.f70] at L
 simp (maxSteps := 2000000) only [sG, seval, x70, stU, b70, Tryz.f70, List.length_map]
 apply L _ _ _ (.lit (.slice none 0 0)) [] (by simp) (by simp) (.inl (.inl ⟨rfl, rfl⟩))
 all_goals simp only [sG, seval]
 all_goals try rfl
theorem cHex {m : Md} {k1 : ATk} {ns : List Int} {H : Tr AO} {hs : Nat} (hL : ns.length < 100000) (hn : ∀ n ∈ ns, 0 <= n /\ n < 256) : callF tab (evw tab) m 70 [.lst k1 (ns.map encI)] H hs = some (.str (hexI ns), H, hs) :=
 callF_iso tcon rfl rfl (by simp only [bares, bare, bares_I, Bool.and_self]) (by simp only [nrms, nrm, nrms_I]; exact eqHex hL hn)
end Go.Proofs.YtcledcfeddlomaaGreatDoor.Ev
namespace Go.Proofs.YtcledcfeddlomaaGreatDoor.Ev
open Go Go.Proofs.YtcledcfeddlomaaGreatDoor.Ev Go.Proofs Go.Proofs.YtcledcfeddlomaaGreatDoor Go.Proofs.YtcledcfeddlomaaGreatDoor.Tab
variable {q : Int} {nm : List UInt8} {w : Int} {cs : List Cd} {ps : List (Int × Int)} {cl : List Int} {ag of : Int} {l r : Nd} {lm tx : Bool}
theorem AccF.out {H : Tr AO} {hs : Nat} {A : AV} {es : List (List UInt8)} (h : AccF H hs 1 A (es.map AV.str)) : bare A = true /\ nrm A = .lst .no (es.map AV.str) := by
 rcases h with (⟨h, rfl⟩ | ⟨r, rfl, _⟩) | rfl
 ·have : es = [] := by simpa using h
  subst this; exact ⟨rfl, rfl⟩
 ·exact ⟨bares_S es, by rw [nrm, nrms_S]⟩
 ·exact ⟨bares_S es, by rw [nrm, nrms_S]⟩
theorem eqWords6 : iso tab fi42 ⟨lm, tx, glK q⟩ [encN (.mk 6 nm w cs ps cl ag of l r)] = some (.lst .no [.str [111, 110, 99, 101]]) := by
 have D := d42
 simp only [stD, stC, List.cons.injEq, b42, Tryz.f42] at D
 refine iso_ret ?_
 have cn := fun m H hs => @cNames m H hs
 simp (maxSteps := 4000000) only [sG, seval, x42, stU, b42, Tryz.f42, encN, ci, D, cn]
theorem eqWords1 (hw : -9223372036854775808 <= w /\ w <= 9223372036854775807) : iso tab fi42 ⟨lm, tx, glK q⟩ [encN (.mk 1 nm w cs ps cl ag of l r)] = some (.lst .no [.str [115, 99, 97, 110], .str nm, .str (numT w)]) := by
 have D := d42
 simp only [stD, stC, List.cons.injEq, b42, Tryz.f42] at D
 refine iso_ret ?_
 have cn := fun m H hs => @cNames m H hs
 simp (maxSteps := 4000000) only [sG, seval, x42, stU, b42, Tryz.f42, encN, ci, D, cn]
 obtain ⟨H', hs', A', c, hA, hB, hb⟩ := @cPutN [w] q 0 .full (Tr.put AO.dead (Tr.put AO.dead (Tr.put AO.dead (Tr.put AO.dead Tr.lf 0 (AO.cells [AV.lit (Value.slice none 0 0)] false)) 0 (AO.cells [AV.lst ATk.full [AV.str [115, 99, 97, 110]]] false)) 1 (AO.room 1)) 0 (AO.cells [AV.lst (ATk.room 1) [AV.str [115, 99, 97, 110], AV.str nm]] false)) 2 (AV.lst (ATk.room 1) [AV.str [115, 99, 97, 110], AV.str nm]) [[115, 99, 97, 110], nm] true true (by simp) (by simpa using hw) (by simp) (.inl (.inr ⟨1, rfl, rfl, by omega⟩)) rfl (by omega)
 obtain ⟨o1, o2⟩ := hA.out
 simp only [List.map_cons, List.map_nil, ci, List.cons_append, List.nil_append] at c o2
 simp (maxSteps := 4000000) only [sG, seval, x42, stU, b42, Tryz.f42, c, hB, o1, o2]
theorem eqWords5 (hc : cl.length < 100000) (hn : ∀ n ∈ cl, -9223372036854775808 <= n /\ n <= 9223372036854775807) : iso tab fi42 ⟨lm, tx, glK q⟩ [encN (.mk 5 nm w cs ps cl ag of l r)] = some (.lst .no (([[116, 97, 107, 101]] ++ [(cl.length : Int)].map numT ++ cl.map numT).map AV.str)) := by
 have D := d42
 simp only [stD, stC, List.cons.injEq, b42, Tryz.f42] at D
 refine iso_ret ?_
 have cn := fun m H hs => @cNames m H hs
 simp (maxSteps := 4000000) only [sG, seval, x42, stU, b42, Tryz.f42, encN, ci, D, cn, List.length_map]
 obtain ⟨H', hs', A', c, hA, hB, hb⟩ := @cPutN [(cl.length : Int)] q 0 .full (Tr.put AO.dead (Tr.put AO.dead Tr.lf 0 (AO.cells [AV.lit (Value.slice none 0 0)] false)) 0 (AO.cells [AV.lst ATk.full [AV.str [116, 97, 107, 101]]] false)) 1 (AV.lst ATk.full [AV.str [116, 97, 107, 101]]) [[116, 97, 107, 101]] true true (by simp) (by intro n hm; rw [List.mem_singleton.1 hm]; omega) (by simp) (.inr rfl) rfl (by omega)
 simp only [List.map_cons, List.map_nil, ci] at c
 simp (maxSteps := 4000000) only [sG, seval, x42, stU, b42, Tryz.f42, c, hB]
 obtain ⟨H2, hs2, A2, c2, hA2, hB2, hb2⟩ := @cPutN cl q 0 .no H' hs' A' _ true true (by omega) hn (by simp) hA hB hb
 obtain ⟨o1, o2⟩ := hA2.out
 simp (maxSteps := 4000000) only [sG, seval, x42, stU, b42, Tryz.f42, c2, hB2, o1, o2]
 try rfl
theorem eqWords7 (hc : cl.length < 100000) (ha : -9223372036854775808 <= ag /\ ag <= 9223372036854775807) (hof : -9223372036854775808 <= of /\ of <= 9223372036854775807) (hn : ∀ n ∈ cl, -9223372036854775808 <= n /\ n <= 9223372036854775807) : iso tab fi42 ⟨lm, tx, glK q⟩ [encN (.mk 7 nm w cs ps cl ag of l r)] = some (.lst .no (([[103, 114, 111, 117, 112]] ++ [(cl.length : Int)].map numT ++ cl.map numT ++ [ag, of].map numT).map AV.str)) := by
 have D := d42
 simp only [stD, stC, List.cons.injEq, b42, Tryz.f42] at D
 refine iso_ret ?_
 have cn := fun m H hs => @cNames m H hs
 simp (maxSteps := 4000000) only [sG, seval, x42, stU, b42, Tryz.f42, encN, ci, D, cn, List.length_map]
 obtain ⟨H', hs', A', c, hA, hB, hb⟩ := @cPutN [(cl.length : Int)] q 0 .full (Tr.put AO.dead (Tr.put AO.dead Tr.lf 0 (AO.cells [AV.lit (Value.slice none 0 0)] false)) 0 (AO.cells [AV.lst ATk.full [AV.str [103, 114, 111, 117, 112]]] false)) 1 (AV.lst ATk.full [AV.str [103, 114, 111, 117, 112]]) [[103, 114, 111, 117, 112]] true true (by simp) (by intro n hm; rw [List.mem_singleton.1 hm]; omega) (by simp) (.inr rfl) rfl (by omega)
 simp only [List.map_cons, List.map_nil, ci] at c
 simp (maxSteps := 4000000) only [sG, seval, x42, stU, b42, Tryz.f42, c, hB]
 obtain ⟨H2, hs2, A2, c2, hA2, hB2, hb2⟩ := @cPutN cl q 0 .no H' hs' A' _ true true (by omega) hn (by simp) hA hB hb
 simp (maxSteps := 4000000) only [sG, seval, x42, stU, b42, Tryz.f42, D, c2, hB2]
 obtain ⟨H3, hs3, A3, c3, hA3, hB3, hb3⟩ := @cPutN [ag, of] q 0 .full H2 hs2 A2 _ true true (by simp) (by intro n hm; simp only [List.mem_cons, List.not_mem_nil, or_false] at hm; rcases hm with rfl | rfl <;> assumption) (by simp; omega) hA2 hB2 hb2
 have c3' : callF tab (evw tab) ⟨true, true, glK q⟩ 68 [.lst .full [.lit (.int .i64 ag), .lit (.int .i64 of)], .ptr 0 0] H2 hs2 = some (one [], H3, hs3) := c3
 obtain ⟨o1, o2⟩ := hA3.out
 simp (maxSteps := 4000000) only [sG, seval, x42, stU, b42, Tryz.f42, D, c3', hB3, o1, o2]
 try rfl
end Go.Proofs.YtcledcfeddlomaaGreatDoor.Ev
namespace Go.Proofs.YtcledcfeddlomaaGreatDoor.Ev
open Go Go.Proofs.YtcledcfeddlomaaGreatDoor.Ev Go.Proofs Go.Proofs.YtcledcfeddlomaaGreatDoor Go.Proofs.YtcledcfeddlomaaGreatDoor.Tab
theorem AccF.put2' {H : Tr AO} {hs sz : Nat} {A : AV} {es : List AV} {X Y : AO} (h : AccF H hs sz A es) : AccF ((H.put .dead hs X).put .dead hs Y) (hs + 1) sz A es := by
 rcases h with (h | ⟨r, rfl, g, hr⟩) | h
 ·exact .inl (.inl h)
 ·exact .inl (.inr ⟨r, rfl, by rw [Tr.get_put, if_neg (by omega), Tr.get_put, if_neg (by omega)]; exact g, by omega⟩)
 ·exact .inr h
def pwL : List (Int × Int) -> List (List UInt8)
 | [] => []
 | p :: l => numT p.1 :: numT p.2 :: pwL l
def i64B (n : Int) : Prop := -9223372036854775808 <= n /\ n <= 9223372036854775807
theorem loopPs {ps : List (Int × Int)} {q : Int} (hL : ps.length < 100000) (hn : ∀ p ∈ ps, i64B p.1 /\ i64B p.2) : ∀ (k i : Nat) (t : Tr AV) (H : Tr AO) (hs : Nat) (A : AV) (es : List (List UInt8)), i + k = ps.length -> es.length <= 10 + 2 * i -> AccF H hs 1 A (es.map AV.str) -> H.get .dead 0 = .cells [A] false -> 0 < hs ->
  t.get .any 3 = .ptr 0 0 -> t.get .any 4 = .fn (.func 68) [] [.ptr 0 0] -> t.get .any 91 = .lst .no (ps.map encPr) -> t.get .any 92 = .lit (.int .i64 ps.length) -> t.get .any 93 = .lit (.int .i64 i) ->
  RetN (W tab none (fin tab fi42) (lpc fi42 1) (lpk fi42 1) ⟨t, 139, H, hs, [], ⟨true, true, glK q⟩⟩) (.lst .no ((es ++ pwL (ps.drop i)).map AV.str)) := by
 have D := d42
 simp only [stD, stC, List.cons.injEq, b42, Tryz.f42] at D
 simp only [stU, stC, b42, Tryz.f42]
 intro k
 induction k with
 | zero =>
  intro i t H hs A es hi hes hA hB hb a3 a4 a91 a92 a93
  have e1 : decide ((i : Int) < ps.length) = false := dcF (by omega)
  obtain ⟨o1, o2⟩ := hA.out
  rw [W_loop, List.drop_of_length_le (by omega)]
  simp (maxSteps := 4000000) only [sG, seval, x42, stU, b42, Tryz.f42, a3, a4, a91, a92, a93, e1, hB, o1, o2, pwL, List.append_nil]
 | succ k ih =>
  intro i t H hs A es hi hes hA hB hb a3 a4 a91 a92 a93
  have hlt : i < (ps).length := by omega
  obtain ⟨x, hv, e1, e3, e4, e6, e7⟩ := atS hlt
  have e5 := wrap_succ (i := i) (by omega)
  obtain ⟨x0, x1⟩ := hn x (by rw [<- hv]; exact List.getElem_mem _)
  rw [W_loop, e6]
  simp (maxSteps := 4000000) only [sG, seval, x42, stU, b42, Tryz.f42, encPr, ci, a3, a4, a91, a92, a93, e1, e3, e4, e5, lG, hB, D]
  obtain ⟨H', hs', A', c, hA', hB', hb'⟩ := @cPutN [x.1, x.2] q 0 .full ((H.put .dead hs (.cells [.lit (.int .i64 0), .lit (.int .i64 0)] false)).put .dead hs (.cells [.lit (.int .i64 x.1), .lit (.int .i64 x.2)] false)) (hs + 1) A es true true (by simp) (by intro n hm; simp only [List.mem_cons, List.not_mem_nil, or_false] at hm; rcases hm with rfl | rfl <;> assumption) (by omega) hA.put2' (by rw [Tr.get_put, if_neg (by omega), Tr.get_put, if_neg (by omega)]; exact hB) (by omega)
  have c' : callF tab (evw tab) ⟨true, true, glK q⟩ 68 [.lst .full [.lit (.int .i64 x.1), .lit (.int .i64 x.2)], .ptr 0 0] ((H.put .dead hs (.cells [.lit (.int .i64 0), .lit (.int .i64 0)] false)).put .dead hs (.cells [.lit (.int .i64 x.1), .lit (.int .i64 x.2)] false)) (hs + 1) = some (one [], H', hs') := c
  rw [show es ++ pwL (x :: ps.drop (i + 1)) = (es ++ [x.1, x.2].map numT) ++ pwL (ps.drop (i + 1)) by simp [pwL]]
  have e5' : IntKind.i64.wrap ((i : Int) + 1) = ((i + 1 : Nat) : Int) := e5
  simp (maxSteps := 4000000) only [sG, seval, x42, stU, b42, Tryz.f42, c', a93, e1, e3, e4, e5, lG, D]
  apply ih (i + 1) _ _ _ A' _ (by omega) (by simp; omega) hA' hB' hb'
  all_goals simp only [sG, seval, a3, a4, a91, a92, a93]
theorem eqWords3 {q : Int} {nm : List UInt8} {w : Int} {cs : List Cd} {ps : List (Int × Int)} {cl : List Int} {ag of : Int} {l r : Nd} {lm tx : Bool} (hL : ps.length < 100000) (hn : ∀ p ∈ ps, i64B p.1 /\ i64B p.2) : iso tab fi42 ⟨lm, tx, glK q⟩ [encN (.mk 3 nm w cs ps cl ag of l r)] = some (.lst .no ((([[109, 101, 101, 116]] ++ [(ps.length : Int)].map numT) ++ pwL ps).map AV.str)) := by
 have D := d42
 simp only [stD, stC, List.cons.injEq, b42, Tryz.f42] at D
 refine iso_ret ?_
 have cn := fun m H hs => @cNames m H hs
 have L := @loopPs ps q hL hn ps.length 0
 simp only [stU, stC, b42, Tryz.f42] at L
 simp (maxSteps := 4000000) only [sG, seval, x42, stU, b42, Tryz.f42, encN, ci, D, cn, List.length_map]
 obtain ⟨H', hs', A', c, hA, hB, hb⟩ := @cPutN [(ps.length : Int)] q 0 .full (Tr.put AO.dead (Tr.put AO.dead Tr.lf 0 (AO.cells [AV.lit (Value.slice none 0 0)] false)) 0 (AO.cells [AV.lst ATk.full [AV.str [109, 101, 101, 116]]] false)) 1 (AV.lst ATk.full [AV.str [109, 101, 101, 116]]) [[109, 101, 101, 116]] true true (by simp) (by intro n hm; rw [List.mem_singleton.1 hm]; omega) (by simp) (.inr rfl) rfl (by omega)
 simp only [List.map_cons, List.map_nil, ci] at c
 simp (maxSteps := 4000000) only [sG, seval, x42, stU, b42, Tryz.f42, c, hB, D, List.length_map]
 apply L _ _ _ A' _ (by trivial) (by simp) hA hB hb
 all_goals simp only [sG, seval]
 all_goals try rfl
theorem eqWords4 {q : Int} {nm : List UInt8} {w : Int} {cs : List Cd} {ps : List (Int × Int)} {cl : List Int} {ag of : Int} {l r : Nd} {lm tx : Bool} (hL : ps.length < 100000) (hn : ∀ p ∈ ps, i64B p.1 /\ i64B p.2) : iso tab fi42 ⟨lm, tx, glK q⟩ [encN (.mk 4 nm w cs ps cl ag of l r)] = some (.lst .no ((([[109, 105, 115, 115]] ++ [(ps.length : Int)].map numT) ++ pwL ps).map AV.str)) := by
 have D := d42
 simp only [stD, stC, List.cons.injEq, b42, Tryz.f42] at D
 refine iso_ret ?_
 have cn := fun m H hs => @cNames m H hs
 have L := @loopPs ps q hL hn ps.length 0
 simp only [stU, stC, b42, Tryz.f42] at L
 simp (maxSteps := 4000000) only [sG, seval, x42, stU, b42, Tryz.f42, encN, ci, D, cn, List.length_map]
 obtain ⟨H', hs', A', c, hA, hB, hb⟩ := @cPutN [(ps.length : Int)] q 0 .full (Tr.put AO.dead (Tr.put AO.dead Tr.lf 0 (AO.cells [AV.lit (Value.slice none 0 0)] false)) 0 (AO.cells [AV.lst ATk.full [AV.str [109, 105, 115, 115]]] false)) 1 (AV.lst ATk.full [AV.str [109, 105, 115, 115]]) [[109, 105, 115, 115]] true true (by simp) (by intro n hm; rw [List.mem_singleton.1 hm]; omega) (by simp) (.inr rfl) rfl (by omega)
 simp only [List.map_cons, List.map_nil, ci] at c
 simp (maxSteps := 4000000) only [sG, seval, x42, stU, b42, Tryz.f42, c, hB, D, List.length_map]
 apply L _ _ _ A' _ (by trivial) (by simp) hA hB hb
 all_goals simp only [sG, seval]
 all_goals try rfl
end Go.Proofs.YtcledcfeddlomaaGreatDoor.Ev
