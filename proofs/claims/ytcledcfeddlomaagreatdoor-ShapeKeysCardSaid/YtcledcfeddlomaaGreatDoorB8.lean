import Derived.Test.YtcledcfeddlomaaGreatDoorA9
import Derived.Test.YtcledcfeddlomaaGreatDoorU4
set_option linter.all false
set_option maxRecDepth 100000
set_option maxHeartbeats 8000000
namespace Go.Proofs.YtcledcfeddlomaaGreatDoor.Ev
open Go Go.Proofs.YtcledcfeddlomaaGreatDoor.Ev Go.Proofs Go.Proofs.YtcledcfeddlomaaGreatDoor Go.Proofs.YtcledcfeddlomaaGreatDoor.Tab
def RdC (ws : List (List UInt8)) (left : Int) : AO := .cells [.lst .no (ws.map AV.str), .lit (.bool false), .lit (.int .i64 left)] false
theorem atoi_num {n : Int} (h0 : -1 <= n) (h1 : n <= 1000) : atoiT (numT n) = some n := by
 have key : ∀ j : Fin 1002, atoiT (numT ((j.val : Int) - 1)) = some ((j.val : Int) - 1) := by decide +kernel
 have := key ⟨(n + 1).toNat, by omega⟩
 simp only at this
 rw [show (((n + 1).toNat : Nat) : Int) - 1 = n by omega] at this
 exact this
theorem natO_atoi {gl : Tr (Option AV)} {n : Int} {H : Tr AO} {hs : Nat} (h0 : -1 <= n) (h1 : n <= 1000) : natO gl H hs 8 (some [.str (numT n)]) = some (.tup [.lit (.int .i64 n), .lit .nilIface], H, hs) := by
 have : natW gl 8 [.str (numT n)] = some (.tup [.lit (.int .i64 n), .lit .nilIface]) := by
  show (match atoiT (numT n) with
   | some n => some (AV.tup [.lit (.int .i64 n), .lit .nilIface])
   | none => none) = _
  rw [atoi_num h0 h1]
 dsimp only [natO]; rw [this]
theorem cWord {m : Md} {B : Nat} {w : List UInt8} {ws : List (List UInt8)} {left : Int} {H : Tr AO} {hs : Nat} (hl : ws.length < 1000000) (hB : H.get .dead B = RdC (w :: ws) left) : callF tab (evw tab) m 50 [.ptr B 0] H hs = some (.str w, H.put .dead B (RdC ws left), hs) := by
 unfold RdC at hB ⊢
 rw [callF_in (fi := fi50) tcon rfl rfl rfl]
 simp only [List.map_cons] at hB
 have e0 : decide (((ws.length + 1 : Nat) : Int) = 0) = false := dcF (by omega)
 have e1 : Nat.ble 1 (ws.length + 1) = true := bleT (by omega)
 have e2 : Nat.ble (ws.length + 1) (ws.length + 1) = true := bleT (by omega)
 have e3 : ((AV.str w :: ws.map AV.str).take (ws.length + 1)).drop 1 = ws.map AV.str := by
  rw [List.take_of_length_le (by simp)]; rfl
 have e4 : (AV.str w :: ws.map AV.str).all (sizeOk 1) = true := size_S (w :: ws)
 have e5 : List.take ws.length (ws.map AV.str) = ws.map AV.str := List.take_of_length_le (by simp)
 simp (maxSteps := 2000000) only [sG, seval, x50, stU, b50, Tryz.f50, hB, dSL, e0, e1, e2, e3, e4, e5, List.length_map]
theorem nIf {p : Operand} : binO tab .neq 89 p (.const .nilIface) (some (.lit .nilIface)) (some (.lit .nilIface)) = some (.lit (.bool false)) := by cases p <;> rfl
theorem cNumber {q : Int} {B : Nat} {n : Int} {ws : List (List UInt8)} {left : Int} {H : Tr AO} {hs : Nat} {lm tx : Bool} (h0 : -1 <= n) (h1 : n <= 1000) (hl : ws.length < 1000000) (hB : H.get .dead B = RdC (numT n :: ws) left) : callF tab (evw tab) ⟨lm, tx, glK q⟩ 51 [.ptr B 0] H hs = some (.lit (.int .i64 n), H.put .dead B (RdC ws left), hs) := by
 have c := fun m hs => @cWord m B (numT n) ws left H hs hl hB
 have cA := fun gl H hs => @natO_atoi gl n H hs h0 h1
 have cI := fun H hs => @natO_itoa q n H hs (by omega) (by omega)
 have e1 : decide (n < -1) = false := dcF (by omega)
 have e2 : decide (1000 < n) = false := dcF (by omega)
 have e3 : (numT n == numT n) = true := beq_self_eq_true _
 rw [callF_in (fi := fi51) tcon rfl rfl rfl]
 simp (maxSteps := 2000000) only [sG, seval, x51, stU, b51, Tryz.f51, c, cA, cI, nIf, e1, e2, e3, Bool.not_true]
theorem ixH {q : Int} (k : Int) (hk : k17 k) : isoF (ev tab 100) tab fi48 ⟨true, true, glK q⟩ [.lst .no [.str [], .str [115, 99, 97, 110], .str [119, 104, 101, 114, 101], .str [109, 101, 101, 116], .str [109, 105, 115, 115], .str [116, 97, 107, 101], .str [111, 110, 99, 101], .str [103, 114, 111, 117, 112]], .str (kw k)] = some (ci k) := by
 rcases hk with rfl | rfl | rfl | rfl | rfl | rfl | rfl <;> kernel_rfl
theorem cIndexK {q : Int} {k : Int} (hk : k17 k) {H : Tr AO} {hs : Nat} : callF tab (evw tab) ⟨true, true, glK q⟩ 48 [.lst .no [.str [], .str [115, 99, 97, 110], .str [119, 104, 101, 114, 101], .str [109, 101, 101, 116], .str [109, 105, 115, 115], .str [116, 97, 107, 101], .str [111, 110, 99, 101], .str [103, 114, 111, 117, 112]], .str (kw k)] H hs = some (.lit (.int .i64 k), H, hs) := by
 refine callF_iso tcon rfl rfl rfl ?_
 exact (good_isoF fi48 ⟨true, true, glK q⟩ _).1 _ _ _ (fun ro c s r h => evw_of (ev_mono tab) h) (ixH k hk)
theorem cIB0 {m : Md} {s : List UInt8} {c : Int} {H : Tr AO} {hs : Nat} : callF tab (evw tab) m 151 [.str s, .lit (.int .u8 c)] H hs = some (.lit (.int .i64 (Lib.indexByte s c.toNat.toUInt8)), H, hs) := by
 rw [callF_in (fi := fi151) tcon rfl rfl rfl]
 simp (maxSteps := 2000000) only [sG, seval, x151, stU, b151, Tryz.f151]
theorem cIB {m : Md} {s : List UInt8} {c : Int} {H : Tr AO} {hs : Nat} : callF tab (evw tab) m 160 [.str s, .lit (.int .u8 c)] H hs = some (.lit (.int .i64 (Lib.indexByte s c.toNat.toUInt8)), H, hs) := by
 have c0 := fun m H hs => @cIB0 m s c H hs
 rw [callF_in (fi := fi160) tcon rfl rfl rfl]
 simp (maxSteps := 2000000) only [sG, seval, x160, stU, b160, Tryz.f160, c0]
theorem ixHex {d : Int} (h0 : 0 <= d) (h1 : d < 16) : Lib.indexByte [48, 49, 50, 51, 52, 53, 54, 55, 56, 57, 97, 98, 99, 100, 101, 102] (((hexc d).toNat : Int)).toNat.toUInt8 = d := by
 have key : ∀ j : Fin 16, Lib.indexByte hexT (((hexT.getD j.val 0).toNat : Int)).toNat.toUInt8 = (j.val : Int) := by decide +kernel
 have := key ⟨d.toNat, by omega⟩
 rw [show (((⟨d.toNat, by omega⟩ : Fin 16).val : Nat) : Int) = d by simp; omega] at this
 exact this
theorem orHex {x : Int} (h0 : 0 <= x) (h1 : x < 256) {p q : Operand} : binO tab .or 3 p q (some (.lit (.int .i64 (IntKind.i64.wrap (x / 16 * 2 ^ min 4 IntKind.i64.bits))))) (some (.lit (.int .i64 (x % 16)))) = some (.lit (.int .i64 x)) := by
 have e : ∀ a b : Int, binO tab .or 3 p q (some (.lit (.int .i64 a))) (some (.lit (.int .i64 b))) = some (.lit (.int .i64 (IntKind.i64.wrap (BitVec.ofInt IntKind.i64.bits a ||| BitVec.ofInt IntKind.i64.bits b).toNat))) := fun a b => rfl
 have key : ∀ j : Fin 256, IntKind.i64.wrap ((BitVec.ofInt IntKind.i64.bits (IntKind.i64.wrap (((j.val : Nat) : Int) / 16 * 2 ^ min 4 IntKind.i64.bits)) ||| BitVec.ofInt IntKind.i64.bits (((j.val : Nat) : Int) % 16)).toNat : Int) = ((j.val : Nat) : Int) := by decide +kernel
 rw [e]
 have := key ⟨x.toNat, by omega⟩
 rw [show (((⟨x.toNat, by omega⟩ : Fin 256).val : Nat) : Int) = x by simp; omega] at this
 rw [this]
theorem loopUn {ns : List Int} {gl : Tr (Option AV)} (hL : ns.length < 100000) (hn : ∀ n ∈ ns, 0 <= n /\ n < 256) : ∀ (k i : Nat) (t : Tr AV) (H : Tr AO) (hs : Nat) (A : AV) (es : List Int), i + k = ns.length -> es.length <= i -> AccF H hs 1 A (es.map encI) ->
  t.get .any 0 = .str (hexI (ns.drop i)) -> t.get .any 4 = A ->
  RetN (W tab none (fin tab fi133) (lpc fi133 0) (lpk fi133 0) ⟨t, 35, H, hs, [], ⟨true, true, gl⟩⟩) (.tup [.lst .no ((es ++ ns.drop i).map encI), .lit (.bool true)]) := by
 have D := d133
 simp only [stD, stC, List.cons.injEq, b133, Tryz.f133] at D
 simp only [stU, stC, b133, Tryz.f133]
 intro k
 induction k with
 | zero =>
  intro i t H hs A es hi hes hA a0 a4
  obtain ⟨o1, o2⟩ := hA.bn bare_I nrm_I
  rw [List.drop_of_length_le (by omega), hexI] at a0
  rw [W_loop, List.drop_of_length_le (by omega), List.append_nil]
  have e1 : decide ((2 : Int) <= ((0 : Nat) : Int)) = false := by decide
  simp (maxSteps := 2000000) only [sG, seval, x133, stU, b133, Tryz.f133, a0, a4, e1, o1, o2]
 | succ k ih =>
  intro i t H hs A es hi hes hA a0 a4
  have hlt : i < (ns).length := by omega
  obtain ⟨x, hv, e1, e3, e4, e6, e7⟩ := atS hlt
  have e5 := wrap_succ (i := i) (by omega)
  obtain ⟨x0, x1⟩ := hn x (by rw [<- hv]; exact List.getElem_mem _)
  rw [e6] at a0 ⊢
  rw [hexI] at a0
  have i1 := fun m H hs => @cIB m [48, 49, 50, 51, 52, 53, 54, 55, 56, 57, 97, 98, 99, 100, 101, 102] ((hexc (x / 16)).toNat : Int) H hs
  have i2 := fun m H hs => @cIB m [48, 49, 50, 51, 52, 53, 54, 55, 56, 57, 97, 98, 99, 100, 101, 102] ((hexc (x % 16)).toNat : Int) H hs
  simp only [ixHex (d := x / 16) (by omega) (by omega)] at i1
  simp only [ixHex (d := x % 16) (by omega) (by omega)] at i2
  obtain ⟨H1, hP, hA1, _⟩ := appI hA (by omega) x
  have e2 : decide ((2 : Int) <= (((hexI (ns.drop (i + 1))).length + 1 + 1 : Nat) : Int)) = true := dcT (by omega)
  have p1 : decide (x / 16 < 0) = false := dcF (by omega)
  have p2 : decide (x % 16 < 0) = false := dcF (by omega)
  have bb : Nat.ble ((hexI (ns.drop (i + 1))).length + 1 + 1) ((hexI (ns.drop (i + 1))).length + 1 + 1) = true := bleT (by omega)
  have tk : List.take (hexI (ns.drop (i + 1))).length (hexI (ns.drop (i + 1))) = hexI (ns.drop (i + 1)) := List.take_length
  have o := fun p q => @orHex x x0 x1 p q
  have w := (show IntKind.u8.wrap x = x by rw [IntKind.wrap_u8]; omega)
  rw [W_loop, show es ++ x :: ns.drop (i + 1) = (es ++ [x]) ++ ns.drop (i + 1) by simp]
  simp (maxSteps := 2000000) only [sGA, seval, x133, stU, b133, Tryz.f133, a0, a4, e2, D, i1, i2, p1, p2, o, w, dMO, dSS, bb, tk, convIO, hP]
  apply ih (i + 1) _ _ _ _ _ (by omega) (by simp; omega) hA1
  all_goals simp only [sG, seval, a0, a4]
theorem eqUnhex {m : Md} {ns : List Int} (hL : ns.length < 100000) (hn : ∀ n ∈ ns, 0 <= n /\ n < 256) : iso tab fi133 m [.str (hexI ns)] = some (.tup [.lst .no (ns.map encI), .lit (.bool true)]) := by
 refine iso_ret ?_
 have L := @loopUn ns m.gl hL hn ns.length 0
 simp only [stU, stC, b133, Tryz.f133, List.drop_zero] at L
 simp (maxSteps := 2000000) only [sG, seval, x133, stU, b133, Tryz.f133]
 apply L _ _ _ (.lit (.slice none 0 0)) [] (by simp) (by simp) (.inl (.inl ⟨rfl, rfl⟩))
 all_goals simp only [sG, seval]
theorem cUnhex {m : Md} {ns : List Int} {H : Tr AO} {hs : Nat} (hL : ns.length < 100000) (hn : ∀ n ∈ ns, 0 <= n /\ n < 256) : callF tab (evw tab) m 133 [.str (hexI ns)] H hs = some (.tup [.lst .no (ns.map encI), .lit (.bool true)], H, hs) :=
 callF_iso tcon rfl rfl rfl (eqUnhex hL hn)
theorem or8 {a b : Nat} (ha : a < 72057594037927936) (hb : b < 256) {p q : Operand} : binO tab .or 149 p q (some (.lit (.int .u64 (IntKind.u64.wrap ((a : Int) * 2 ^ min 8 IntKind.u64.bits))))) (some (.lit (.int .u64 (b : Int)))) = some (.lit (.int .u64 ((a * 256 + b : Nat) : Int))) := by
 have e : ∀ x y : Int, binO tab .or 149 p q (some (.lit (.int .u64 x))) (some (.lit (.int .u64 y))) = some (.lit (.int .u64 (IntKind.u64.wrap (BitVec.ofInt IntKind.u64.bits x ||| BitVec.ofInt IntKind.u64.bits y).toNat))) := fun x y => rfl
 rw [e]
 have w : IntKind.u64.wrap ((a : Int) * 2 ^ min 8 IntKind.u64.bits) = ((a * 256 : Nat) : Int) := by
  rw [show (2 : Int) ^ min 8 IntKind.u64.bits = 256 from rfl, IntKind.wrap_u64]; omega
 have n1 : (BitVec.ofInt IntKind.u64.bits ((a * 256 : Nat) : Int)).toNat = a * 256 := by
  rw [BitVec.toNat_ofInt]
  have hb : ((2 ^ IntKind.u64.bits : Nat) : Int) = 18446744073709551616 := rfl
  rw [hb]; omega
 have n2 : (BitVec.ofInt IntKind.u64.bits (b : Int)).toNat = b := by
  rw [BitVec.toNat_ofInt]
  have hb : ((2 ^ IntKind.u64.bits : Nat) : Int) = 18446744073709551616 := rfl
  rw [hb]; omega
 rw [w, BitVec.toNat_or, n1, n2]
 have : a * 256 ||| b = a * 256 + b := by
  have := Nat.shiftLeft_add_eq_or_of_lt (i := 8) (b := b) (by omega) a
  rw [Nat.shiftLeft_eq] at this
  exact this.symm
 rw [this, IntKind.wrap_u64]
 congr 3
 omega
def uN (n : Int) : Nat := (uOf n).toNat
theorem uN_eq (n : Int) : uOf n = (uN n : Int) := by have := uOf_b n; unfold uN; omega
theorem uN_lt (n : Int) : uN n < 18446744073709551616 := by have := uOf_b n; unfold uN; omega
def pU (U i : Nat) : Nat := U / 256 ^ (8 - i)
def bU (U i : Nat) : Nat := (U / 256 ^ (7 - i)) % 256
theorem pU_next {U i : Nat} (hi : i < 8) : pU U i * 256 + bU U i = pU U (i + 1) := by
 unfold pU bU
 rw [show 8 - i = (7 - i) + 1 by omega, show 8 - (i + 1) = 7 - i by omega, Nat.pow_succ, <- Nat.div_div_eq_div_mul]
 omega
theorem pU_lt {U i : Nat} (hU : U < 18446744073709551616) (hi : i < 8) : pU U i < 72057594037927936 := by
 unfold pU
 have h1 : (256 : Nat) <= 256 ^ (8 - i) := by
  calc (256 : Nat) = 256 ^ 1 := rfl
   _ <= 256 ^ (8 - i) := Nat.pow_le_pow_right (by omega) (by omega)
 have : U / 256 ^ (8 - i) <= U / 256 := Nat.div_le_div_left h1 (by omega)
 omega
theorem byteL_at {n : Int} {i : Nat} (hi : i < 8) : (byteL n 8)[i]? = some ((bU (uN n) i : Nat) : Int) := by
 have hb : ∀ j : Nat, j <= 7 -> byteI n (8 * j) = (((uN n / 256 ^ j) % 256 : Nat) : Int) := fun j hj => by
  rw [byteI_eq, uN_eq]
  have h1 : (2 : Int) ^ (min (8 * j) 64) = ((256 ^ j : Nat) : Int) := by
   rw [Nat.min_eq_left (by omega), Int.pow_mul]
   push_cast
   rfl
  rw [h1]; norm_cast
 have key : (byteL n 8)[i]? = some (byteI n (8 * (7 - i))) := by
  match i, hi with
  | 0, _ => rfl
  | 1, _ => rfl
  | 2, _ => rfl
  | 3, _ => rfl
  | 4, _ => rfl
  | 5, _ => rfl
  | 6, _ => rfl
  | 7, _ => rfl
 rw [key, hb (7 - i) (by omega)]; rfl
theorem xorBack {n : Int} (hn : i64B n) {p q : Operand} : binO tab .xor 149 p q (some (.lit (.int .u64 ((uN n : Nat) : Int)))) (some (.lit (.int .u64 9223372036854775808))) = some (.lit (.int .u64 (n % 18446744073709551616))) := by
 have e : ∀ x y : Int, binO tab .xor 149 p q (some (.lit (.int .u64 x))) (some (.lit (.int .u64 y))) = some (.lit (.int .u64 (IntKind.u64.wrap (BitVec.ofInt IntKind.u64.bits x ^^^ BitVec.ofInt IntKind.u64.bits y).toNat))) := fun x y => rfl
 rw [e]
 have hlt := uN_lt n
 have e2 : (BitVec.ofInt IntKind.u64.bits ((uN n : Nat) : Int) ^^^ BitVec.ofInt IntKind.u64.bits 9223372036854775808).toNat = (uN n + 9223372036854775808) % 18446744073709551616 := by
  rw [<- xor63 _ hlt, BitVec.toNat_xor, BitVec.toNat_ofInt, BitVec.toNat_ofInt]
  have hb : ((2 ^ IntKind.u64.bits : Nat) : Int) = 18446744073709551616 := rfl
  rw [hb]
  congr 1
  omega
 rw [e2, u64_wrap]
 have h3 := uOf_add (n := n)
 rw [u64_wrap, u64_wrap, uN_eq] at h3
 congr 3
 omega
theorem loopCnt {n : Int} {gl : Tr (Option AV)} (hn : i64B n) : ∀ (k i : Nat) (t : Tr AV) (H : Tr AO) (hs : Nat), i + k = 8 ->
  t.get .any 5 = .lit (.int .u64 ((pU (uN n) i : Nat) : Int)) -> t.get .any 13 = .lst .no ((byteL n 8).map encI) -> t.get .any 14 = .lit (.int .i64 8) -> t.get .any 15 = .lit (.int .i64 i) -> t.get .any 2 = .ptr 0 0 -> H.get .dead 0 = .cells [.lit (.int .i64 0), .lit (.bool false), .lit (.int .i64 0), .str []] false ->
  RetN (W tab none (fin tab fi162) (lpc fi162 0) (lpk fi162 0) ⟨t, 29, H, hs, [], ⟨true, true, gl⟩⟩) (.tup [encV ⟨2, false, n, []⟩, .lit (.int .i64 9), .lit (.int .i64 0)]) := by
 simp only [stU, stC, b162, Tryz.f162]
 intro k
 induction k with
 | zero =>
  intro i t H hs hi a5 a13 a14 a15 a2 hB
  obtain rfl : i = 8 := by omega
  have e1 : decide (((8 : Nat) : Int) < 8) = false := by decide
  have hp : pU (uN n) 8 = uN n := by unfold pU; simp
  rw [hp] at a5
  have x := fun p q => @xorBack n hn p q
  have w : IntKind.i64.wrap (n % 18446744073709551616) = n := by
   obtain ⟨h0, h1⟩ := hn
   rw [IntKind.wrap_i64]; omega
  have c := fun m H hs => @cInt m n H hs
  simp only [encV, Vl.cs] at c
  rw [W_loop]
  simp (maxSteps := 4000000) only [sG, seval, x162, stU, b162, Tryz.f162, encV, Vl.cs, a5, a13, a14, a15, a2, hB, e1, x, w, dMO, convIO, c, ldv, tt58, isAggD]
 | succ k ih =>
  intro i t H hs hi a5 a13 a14 a15 a2 hB
  have e1 : decide ((i : Int) < 8) = true := dcT (by omega)
  have e3 : decide (0 <= (i : Int)) = true := dcT (by omega)
  have e4 := byteL_at (n := n) (i := i) (by omega)
  have e5 := wrap_succ (i := i) (by omega)
  have w : IntKind.u64.wrap ((bU (uN n) i : Nat) : Int) = ((bU (uN n) i : Nat) : Int) := by
   have : bU (uN n) i < 256 := Nat.mod_lt _ (by omega)
   rw [IntKind.wrap_u64]; omega
  have o := fun p q => @or8 (pU (uN n) i) (bU (uN n) i) (pU_lt (uN_lt n) (by omega)) (Nat.mod_lt _ (by omega)) p q
  rw [pU_next (by omega)] at o
  rw [W_loop]
  simp (maxSteps := 4000000) only [sG, seval, x162, stU, b162, Tryz.f162, encI, a5, a13, a14, a15, e1, e3, e4, e5, w, o, dMO, convIO, List.getElem?_map, Option.map_some, Int.toNat_natCast]
  apply ih (i + 1) _ _ _ (by omega)
  all_goals simp only [sG, seval, encI, a5, a13, a14, a15, a2, hB]
theorem eqCount {m : Md} {n : Int} (hn : i64B n) : iso tab fi162 m [.lst .no ((byteL n 8).map encI)] = some (.tup [encV ⟨2, false, n, []⟩, .lit (.int .i64 9), .lit (.int .i64 0)]) := by
 refine iso_ret ?_
 have L := @loopCnt n m.gl hn 8 0
 simp only [stU, stC, b162, Tryz.f162] at L
 have hp : pU (uN n) 0 = 0 := by
  unfold pU
  exact Nat.div_eq_of_lt (uN_lt n)
 rw [hp] at L
 have hl : ((byteL n 8).map encI).length = 8 := rfl
 have b1 : ((byteL n 8).map encI).all (sizeOk 1) = true := rfl
 have t1 : List.take 8 ((byteL n 8).map encI) = (byteL n 8).map encI := rfl
 have e1 : decide (((8 : Nat) : Int) < 8) = false := by decide
 generalize hb : (byteL n 8).map encI = bs at *
 simp (maxSteps := 4000000) only [sG, seval, x162, stU, b162, Tryz.f162, dSL, hl, b1, t1, e1, List.drop_zero]
 apply L _ _ _ (by trivial)
 all_goals simp only [sG, seval]
 all_goals try rfl
theorem cCount {m : Md} {k1 : ATk} {n : Int} {H : Tr AO} {hs : Nat} (hn : i64B n) : callF tab (evw tab) m 162 [.lst k1 ((byteL n 8).map encI)] H hs = some (.tup [encV ⟨2, false, n, []⟩, .lit (.int .i64 9), .lit (.int .i64 0)], H, hs) :=
 callF_iso tcon rfl rfl (by simp only [bares, bare, bares_I, Bool.and_self]) (by simp only [nrms, nrm, nrms_I]; exact eqCount hn)
theorem kont_goto {α : Type} {T : Tab} {ro : Option Nat} {F : AX -> AS -> Option α} {l : Nat} {s : AS} : ∀ K : List Fr, kont T ro F K (.goto l) s = F (.goto l) s
 | [] => rfl
 | .sq c :: K => kont_goto K
 | .bk i :: K => kont_goto K
 | .lp c :: K => kont_goto K
theorem W_scope {α : Type} {T : Tab} {ro : Option Nat} {F : AX -> AS -> Option α} (hF : ∀ l s, F (.goto l) s = none) {c : Code} {K : List Fr} {s : AS} {v : α} (h : W T ro F c K s = some v) : W T ro F (.scope c) K s = some v := by
 unfold W at h ⊢
 rw [evw_step]
 have e : step T (evw T) ro (.scope c) s = (match evw T ro c s with
  | some (.goto l, s') => (match findLabel c l with
   | some rest => scopeGo (evw T) ro c 999999 rest s'
   | none => some (.goto l, s'))
  | r => r) := rfl
 rw [e]
 cases he : evw T ro c s with
 | none => rw [he] at h; cases h
 | some p =>
  obtain ⟨x, s'⟩ := p
  rw [he] at h
  cases x with
  | goto l =>
   simp only [kont_goto, hF] at h
   cases h
  | normal => exact h
  | ret => exact h
  | exit i => exact h
theorem RetN_scope {T : Tab} {fi : FI} {c : Code} {K : List Fr} {s : AS} {v : AV} (h : RetN (W T none (fin T fi) c K s) v) : RetN (W T none (fin T fi) (.scope c) K s) v := by
 obtain ⟨u, H, hs, h1, h2⟩ := h
 exact ⟨u, H, hs, W_scope (fun _ _ => rfl) h1, h2⟩
def u8i (c : UInt8) : Int := (c.toNat : Int)
theorem accF_len {H : Tr AO} {hs sz : Nat} {A : AV} {es : List AV} (h : AccF H hs sz A es) : lenLO (some A) = some (.lit (.int .i64 es.length)) := by
 rcases h with h | rfl
 ·exact h.len
 ·rfl
theorem accF_str {H : Tr AO} {hs : Nat} {A : AV} {s : List UInt8} (h : AccF H hs 1 A ((s.map u8i).map encI)) : convSO H (some A) = some (.str s) := by
 have hb := bytesOf_I (s.map u8i)
 have e : ((s.map u8i).map fun n => UInt8.ofNat n.toNat) = s := by
  rw [List.map_map]
  conv => rhs; rw [<- List.map_id s]
  apply List.map_congr_left
  intro c _
  show UInt8.ofNat ((c.toNat : Int)).toNat = c
  rw [Int.toNat_natCast]; exact UInt8.ofNat_toNat
 rw [e] at hb
 rcases h with (⟨h, rfl⟩ | ⟨r, rfl, _⟩) | rfl
 ·have : s = [] := by simpa using h
  subst this; rfl
 ·simp only [convSO, hb]
 ·simp only [convSO, hb]
theorem drop_get {α : Type} {L : List α} {p : Nat} {x : α} {r : List α} (h : L.drop p = x :: r) : L[p]? = some x /\ L.drop (p + 1) = r /\ p < L.length := by
 have h0 : (L.drop p)[0]? = some x := by rw [h]; rfl
 rw [List.getElem?_drop, Nat.add_zero] at h0
 refine ⟨h0, ?_, (List.getElem?_eq_some_iff.1 h0).1⟩
 have := congrArg (List.drop 1) h
 rw [List.drop_drop] at this
 exact this
theorem loopCut {L : List Int} {gl : Tr (Option AV)} (hL : L.length <= 1000) : ∀ (rest pre : List UInt8) (p : Nat) (t : Tr AV) (H : Tr AO) (hs : Nat) (A : AV), pre.length + rest.length <= 60 -> L.drop p = packS rest ++ [0, 1] -> AccF H hs 1 A ((pre.map u8i).map encI) ->
  t.get .any 0 = .lst .no (L.map encI) -> t.get .any 5 = A -> t.get .any 6 = .lit (.int .i64 (p : Int)) ->
  RetN (W tab none (fin tab fi163) (lpc fi163 0) (lpk fi163 0) ⟨t, 50, H, hs, [], ⟨true, true, gl⟩⟩) (.tup [.str (pre ++ rest), .lit (.int .i64 ((p + (packS rest).length + 2 : Nat) : Int)), .lit (.int .i64 0)]) := by
 simp only [stU, stC, b163, Tryz.f163]
 intro rest
 induction rest with
 | nil =>
  intro pre p t H hs A hp hd hA a0 a5 a6
  obtain ⟨g0, hd1, hlt0⟩ := drop_get hd
  obtain ⟨g1, hd2, hlt1⟩ := drop_get hd1
  have e1 : decide ((p : Int) < L.length) = true := dcT (by omega)
  have e3 : decide (0 <= (p : Int)) = true := dcT (by omega)
  have e4 : decide (0 <= ((p + 1 : Nat) : Int)) = true := dcT (by omega)
  have w1 : IntKind.i64.wrap ((p : Int) + 1) = ((p + 1 : Nat) : Int) := wrap_succ (by omega)
  have w2 : IntKind.i64.wrap (((p + 1 : Nat) : Int) + 1) = ((p + 2 : Nat) : Int) := wrap_succ (by omega)
  have e5 : decide (((p + 1 : Nat) : Int) = L.length) = false := dcF (by omega)
  have hc := accF_str hA
  rw [W_loop, List.append_nil]
  simp (maxSteps := 4000000) only [sG, seval, x163, stU, b163, Tryz.f163, encI, a0, a5, a6, e1, e3, e4, e5, w1, w2, g0, g1, hc, dMO, List.getElem?_map, Option.map_some, Int.toNat_natCast, List.length_map, packS]
 | cons c rest ih =>
  intro pre p t H hs A hp hd hA a0 a5 a6
  simp only [List.length_cons] at hp
  have e3 : decide (0 <= (p : Int)) = true := dcT (by omega)
  have w1 : IntKind.i64.wrap ((p : Int) + 1) = ((p + 1 : Nat) : Int) := by
   have : p <= 1000 := by
    have := congrArg List.length hd
    rw [List.length_drop] at this
    rcases Nat.lt_or_ge p L.length with h | h
    ·omega
    ·rw [List.drop_of_length_le h] at hd
     have := congrArg List.length hd
     simp at this
   exact wrap_succ (by omega)
  have hlen := accF_len hA
  rw [List.length_map, List.length_map] at hlen
  have e6 : decide ((pre.length : Int) = 60) = false := dcF (by omega)
  obtain ⟨H1, hP, hA1, _⟩ := appI hA (by simp; omega) (u8i c)
  have hmap : (pre.map u8i ++ [u8i c]) = (pre ++ [c]).map u8i := by simp
  rw [hmap] at hP hA1
  rw [W_loop, show pre ++ c :: rest = (pre ++ [c]) ++ rest by simp]
  rw [show u8i c = (c.toNat : Int) from rfl] at hP
  cases h0 : decide ((c.toNat : Int) = 0) with
  | false =>
   unfold packS at hd ⊢
   rw [h0, cond_false] at hd ⊢
   obtain ⟨g0, hd1, hlt0⟩ := drop_get hd
   have e1 : decide ((p : Int) < L.length) = true := dcT (by omega)
   simp (maxSteps := 4000000) only [sGA, seval, x163, stU, b163, Tryz.f163, encI, a0, a5, a6, e1, e3, e6, w1, g0, h0, hlen, hP, List.getElem?_map, Option.map_some, Int.toNat_natCast, List.length_map]
   have := ih (pre ++ [c]) (p + 1)
   rw [show p + 1 + (packS rest).length + 2 = p + ((packS rest).length + 1) + 2 by omega] at this
   apply this _ _ _ _ (by simp; omega) hd1 hA1
   all_goals simp only [sG, seval, a0, a5, a6]
  | true =>
   have hc0 : (c.toNat : Int) = 0 := of_decide_eq_true h0
   unfold packS at hd ⊢
   rw [h0, cond_true] at hd ⊢
   obtain ⟨g0, hd1, hlt0⟩ := drop_get hd
   obtain ⟨g1, hd2, hlt1⟩ := drop_get hd1
   have e1 : decide ((p : Int) < L.length) = true := dcT (by omega)
   have e4 : decide (0 <= ((p + 1 : Nat) : Int)) = true := dcT (by omega)
   have e5 : decide (((p + 1 : Nat) : Int) = L.length) = false := dcF (by omega)
   have w2 : IntKind.i64.wrap (((p + 1 : Nat) : Int) + 1) = ((p + 2 : Nat) : Int) := wrap_succ (by omega)
   simp (maxSteps := 4000000) only [sGA, seval, x163, stU, b163, Tryz.f163, encI, a0, a5, a6, e1, e3, e4, e5, e6, w1, w2, g0, g1, h0, hlen, hP, List.getElem?_map, Option.map_some, Int.toNat_natCast, List.length_map]
   have := ih (pre ++ [c]) (p + 2)
   rw [show p + 2 + (packS rest).length + 2 = p + ((packS rest).length + 1 + 1) + 2 by omega] at this
   apply this _ _ _ _ (by simp; omega) hd2 hA1
   all_goals simp only [sG, seval, a0, a5, a6]
theorem eqCut {m : Md} {s : List UInt8} (hs0 : s.length <= 60) : iso tab fi163 m [.lst .no ((packS s ++ [0, 1]).map encI)] = some (.tup [.str s, .lit (.int .i64 (((packS s).length + 2 : Nat) : Int)), .lit (.int .i64 0)]) := by
 refine iso_ret ?_
 have hl := packS_len s
 have L := @loopCut (packS s ++ [0, 1]) m.gl (by simp; omega) s [] 0
 simp only [stU, stC, b163, Tryz.f163, List.nil_append, Nat.zero_add] at L
 simp (maxSteps := 4000000) only [sG, seval, x163, stU, b163, Tryz.f163]
 refine RetN_scope ?_
 simp (maxSteps := 4000000) only [sG, seval, x163, stU, b163, Tryz.f163]
 apply L _ _ _ (.lit (.slice none 0 0)) (by simpa using hs0) (by trivial) (.inl (.inl ⟨rfl, rfl⟩))
 all_goals simp only [sG, seval]
 all_goals try rfl
theorem cCut {m : Md} {k1 : ATk} {s : List UInt8} {H : Tr AO} {hs : Nat} (hs0 : s.length <= 60) : callF tab (evw tab) m 163 [.lst k1 ((packS s ++ [0, 1]).map encI)] H hs = some (.tup [.str s, .lit (.int .i64 (((packS s).length + 2 : Nat) : Int)), .lit (.int .i64 0)], H, hs) :=
 callF_iso tcon rfl rfl (by simp only [bares, bare, bares_I, Bool.and_self]) (by simp only [nrms, nrm, nrms_I]; exact eqCut hs0)
theorem first0 {q : Int} : isoF (ev tab 100) tab fi134 ⟨true, true, glK q⟩ [.lst .no ([1].map encI)] = some (.tup [encV v0, .lit (.int .i64 1), .lit (.int .i64 0)]) := by kernel_rfl
theorem first1 {q : Int} : isoF (ev tab 100) tab fi134 ⟨true, true, glK q⟩ [.lst .no ([2, 1].map encI)] = some (.tup [encV ⟨1, true, 0, []⟩, .lit (.int .i64 2), .lit (.int .i64 0)]) := by kernel_rfl
theorem first2 {q : Int} : isoF (ev tab 100) tab fi134 ⟨true, true, glK q⟩ [.lst .no ([2, 0].map encI)] = some (.tup [encV ⟨1, false, 0, []⟩, .lit (.int .i64 2), .lit (.int .i64 0)]) := by kernel_rfl
theorem iso_kn {q : Int} {fi : FI} {as' : List AV} {v : AV} (h : isoF (ev tab 100) tab fi ⟨true, true, glK q⟩ as' = some v) : iso tab fi ⟨true, true, glK q⟩ as' = some v :=
 (good_isoF fi ⟨true, true, glK q⟩ as').1 _ _ _ (fun ro c s r h => evw_of (ev_mono tab) h) h
theorem eqFirst {q : Int} {v : Vl} (hv : vright v = true) (hn : i64B v.n) : iso tab fi134 ⟨true, true, glK q⟩ [.lst .no ((packV v).map encI)] = some (.tup [encV v, .lit (.int .i64 ((packV v).length : Int)), .lit (.int .i64 0)]) := by
 rcases vright_cases hv with h | h | h | ⟨h, hl⟩
 ·rw [h]; exact iso_kn first0
 ·rw [h]
  cases v.b
  ·exact iso_kn first2
  ·exact iso_kn first1
 ·have hp : packV v = 3 :: byteL v.n 8 := by rw [h]; rfl
  rw [hp]
  have hlen : ((3 :: byteL v.n 8).length : Int) = 9 := rfl
  rw [hlen]
  have cC := fun m k1 H hs => @cCount m k1 v.n H hs hn
  have e : encV v = encV ⟨2, false, v.n, []⟩ := by rw [<- h]
  rw [e]
  have l1 : ((byteL v.n 8).map encI).length = 8 := rfl
  have b1 : ((byteL v.n 8).map encI).all (sizeOk 1) = true := rfl
  have t1 : List.take 8 ((byteL v.n 8).map encI) = (byteL v.n 8).map encI := rfl
  have s1 : sizeOk 1 (AV.lit (.int .u8 3)) = true := rfl
  have hb1 := bares_I (byteL v.n 8)
  have hb2 := nrms_I (byteL v.n 8)
  rw [List.map_cons]
  generalize hb : (byteL v.n 8).map encI = bs at *
  refine iso_ret ?_
  simp only [encV, Vl.cs] at cC ⊢
  simp (maxSteps := 4000000) only [sG, seval, x134, stU, b134, Tryz.f134, encI, dSL, l1, b1, t1, s1, hb1, hb2, cC, ldv, tt58, isAggD, Bool.true_and, List.all_cons]
 ·have hp : packV v = 4 :: (packS v.s ++ [0, 1]) := by rw [h]; rfl
  rw [hp]
  have hlen : (((4 :: (packS v.s ++ [0, 1])).length : Nat) : Int) = (((packS v.s).length + 3 : Nat) : Int) := by simp; omega
  rw [hlen]
  have hps := packS_len v.s
  have cC := fun m k1 H hs => @cCut m k1 v.s H hs hl
  have cT := fun m H hs => @cText m v.s H hs
  have e : encV v = encV ⟨3, false, 0, v.s⟩ := by rw [<- h]
  rw [e]
  have l1 : ((packS v.s ++ [0, 1]).map encI).length = (packS v.s).length + 2 := by simp
  have b1 : ((packS v.s ++ [0, 1]).map encI).all (sizeOk 1) = true := by rw [List.all_eq_true]; intro x hx; obtain ⟨n, _, rfl⟩ := List.mem_map.1 hx; rfl
  have t1 : List.take ((packS v.s).length + 2) ((packS v.s ++ [0, 1]).map encI) = (packS v.s ++ [0, 1]).map encI := List.take_of_length_le (by simp)
  have s1 : sizeOk 1 (AV.lit (.int .u8 4)) = true := rfl
  have hb1 := bares_I (packS v.s ++ [0, 1])
  have hb2 := nrms_I (packS v.s ++ [0, 1])
  have q1 : Nat.ble 1 ((packS v.s).length + 2 + 1) = true := bleT (by omega)
  have q2 : Nat.ble ((packS v.s).length + 2 + 1) ((packS v.s).length + 2 + 1) = true := bleT (by omega)
  have q3 : decide ((((packS v.s).length + 2 + 1 : Nat) : Int) = 0) = false := dcF (by omega)
  have w1 : IntKind.i64.wrap (1 + (((packS v.s).length + 2 : Nat) : Int)) = (((packS v.s).length + 3 : Nat) : Int) := by rw [wrap_i64 (by omega) (by omega)]; omega
  rw [List.map_cons]
  generalize hb : (packS v.s ++ [0, 1]).map encI = bs at *
  refine iso_ret ?_
  simp only [encV, Vl.cs] at cT ⊢
  simp (maxSteps := 4000000) only [sG, seval, x134, stU, b134, Tryz.f134, encI, dSL, l1, b1, t1, s1, q1, q2, q3, w1, hb1, hb2, cC, cT, ldv, tt58, isAggD, Bool.true_and, List.all_cons]
theorem cFirst {q : Int} {k1 : ATk} {v : Vl} {H : Tr AO} {hs : Nat} (hv : vright v = true) (hn : i64B v.n) : callF tab (evw tab) ⟨true, true, glK q⟩ 134 [.lst k1 ((packV v).map encI)] H hs = some (.tup [encV v, .lit (.int .i64 ((packV v).length : Int)), .lit (.int .i64 0)], H, hs) :=
 callF_iso tcon rfl rfl (by simp only [bares, bare, bares_I, Bool.and_self]) (by simp only [nrms, nrm, nrms_I]; exact eqFirst hv hn)
def RdP (H : Tr AO) (hs B : Nat) (ws : List (List UInt8)) (left : Int) (H' : Tr AO) (hs' : Nat) : Prop := H'.get .dead B = RdC ws left /\ hs <= hs' /\ ∀ p, p < hs -> p ≠ B -> H'.get .dead p = H.get .dead p
theorem cValueR {q : Int} {B : Nat} {v : Vl} {ws : List (List UInt8)} {left : Int} {H : Tr AO} {hs : Nat} (hv : vright v = true) (hn : i64B v.n) (hl : ws.length < 1000000) (hBh : B < hs) (hB : H.get .dead B = RdC (hexI (packV v) :: ws) left) :
  ∃ H' hs', callF tab (evw tab) ⟨true, true, glK q⟩ 94 [.ptr B 0] H hs = some (encV v, H', hs') /\ RdP H hs B ws left H' hs' := by
 have n0 : (hs = B) = False := eq_false (by omega)
 have n1 : (B = hs) = False := eq_false (by omega)
 have n2 : (hs + 1 = B) = False := eq_false (by omega)
 have n3 : (B = hs + 1) = False := eq_false (by omega)
 have c1 := fun m H hs h => @cWord m B (hexI (packV v)) ws left H hs hl h
 have c2 := fun m H hs => @cUnhex m (packV v) H hs (by have := packV_len hv; omega) (packV_rng v)
 have c3 := fun k1 H hs => @cFirst q k1 v H hs hv hn
 simp only [encV, Vl.cs] at c3 ⊢
 rw [callF_in (fi := fi94) tcon rfl rfl rfl]
 refine ⟨?x, ?y, ?a, ?b⟩
 case a =>
  simp (maxSteps := 4000000) only [sG, seval, x94, stU, b94, Tryz.f94, hB, n0, n1, n2, n3, c1, c2, c3, List.length_map, ldv, tt58, isAggD, bares_I, nrms_I, Bool.not_true]
  rfl
 case b =>
  refine ⟨?_, by omega, fun p p1 p2 => ?_⟩
  ·simp only [Tr.get_put, n0, n1, n2, n3, if_false, if_true]
  ·repeat rw [Tr.get_put, if_neg (by omega)]
def okNum (n : Int) : Prop := -1 <= n /\ n <= 1000
theorem cPairR {q : Int} {B : Nat} {x : Int × Int} {ws : List (List UInt8)} {left : Int} {H : Tr AO} {hs : Nat} (h1 : okNum x.1) (h2 : okNum x.2) (hl : ws.length + 1 < 1000000) (hBh : B < hs) (hB : H.get .dead B = RdC (numT x.1 :: numT x.2 :: ws) left) :
  ∃ H' hs', callF tab (evw tab) ⟨true, true, glK q⟩ 55 [.ptr B 0] H hs = some (encPr x, H', hs') /\ RdP H hs B ws left H' hs' := by
 have n0 : (hs = B) = False := eq_false (by omega)
 have n1 : (B = hs) = False := eq_false (by omega)
 have c1 := fun lm tx H hs h => @cNumber q B x.1 (numT x.2 :: ws) left H hs lm tx h1.1 h1.2 (by simp; omega) h
 have c2 := fun lm tx H hs h => @cNumber q B x.2 ws left H hs lm tx h2.1 h2.2 (by omega) h
 simp only [encPr, ci]
 rw [callF_in (fi := fi55) tcon rfl rfl rfl]
 refine ⟨?x, ?y, ?a, ?b⟩
 case a =>
  simp (maxSteps := 4000000) only [sG, seval, x55, stU, b55, Tryz.f55, hB, n0, n1, c1, c2, ldv, tt62, isAggD]
  rfl
 case b =>
  refine ⟨?_, by omega, fun p p1 p2 => ?_⟩
  ·simp only [Tr.get_put, n0, n1, if_false, if_true]
  ·repeat rw [Tr.get_put, if_neg (by omega)]
theorem cCondR0 {q : Int} {B : Nat} {c : Cd} {ws : List (List UInt8)} {left : Int} {H : Tr AO} {hs : Nat} (h1 : okNum c.l) (h2 : okNum c.op) (h3 : okNum c.r) (hr : c.r ≠ -1) (hv : c.v = v0) (hl : ws.length + 2 < 1000000) (hBh : B < hs) (hB : H.get .dead B = RdC (numT c.l :: numT c.op :: numT c.r :: ws) left) :
  ∃ H' hs', callF tab (evw tab) ⟨true, true, glK q⟩ 53 [.ptr B 0] H hs = some (encC c, H', hs') /\ RdP H hs B ws left H' hs' := by
 have n0 : (hs = B) = False := eq_false (by omega)
 have n1 : (B = hs) = False := eq_false (by omega)
 have n2 : (hs + 1 = B) = False := eq_false (by omega)
 have n3 : (B = hs + 1) = False := eq_false (by omega)
 have c1 := fun lm tx H hs h => @cNumber q B c.l (numT c.op :: numT c.r :: ws) left H hs lm tx h1.1 h1.2 (by simp; omega) h
 have c2 := fun lm tx H hs h => @cNumber q B c.op (numT c.r :: ws) left H hs lm tx h2.1 h2.2 (by simp; omega) h
 have c3 := fun lm tx H hs h => @cNumber q B c.r ws left H hs lm tx h3.1 h3.2 (by omega) h
 have e1 : decide (c.r = -1) = false := decide_eq_false hr
 simp only [encC, ci, hv, Vl.cs, v0]
 rw [callF_in (fi := fi53) tcon rfl rfl rfl]
 refine ⟨?x, ?y, ?a, ?b⟩
 case a =>
  simp (maxSteps := 4000000) only [sG, seval, x53, stU, b53, Tryz.f53, hB, n0, n1, n2, n3, c1, c2, c3, e1, ldv, tt60, isAggD]
  rfl
 case b =>
  refine ⟨?_, by omega, fun p p1 p2 => ?_⟩
  ·simp only [Tr.get_put, n0, n1, n2, n3, if_false, if_true]
  ·repeat rw [Tr.get_put, if_neg (by omega)]
theorem cCondR1 {q : Int} {B : Nat} {c : Cd} {ws : List (List UInt8)} {left : Int} {H : Tr AO} {hs : Nat} (h1 : okNum c.l) (h2 : okNum c.op) (hr : c.r = -1) (hv : vright c.v = true) (hn : i64B c.v.n) (hl : ws.length + 3 < 1000000) (hBh : B < hs) (hB : H.get .dead B = RdC (numT c.l :: numT c.op :: numT c.r :: hexI (packV c.v) :: ws) left) :
  ∃ H' hs', callF tab (evw tab) ⟨true, true, glK q⟩ 53 [.ptr B 0] H hs = some (encC c, H', hs') /\ RdP H hs B ws left H' hs' := by
 have n0 : (hs = B) = False := eq_false (by omega)
 have n1 : (B = hs) = False := eq_false (by omega)
 have n2 : (hs + 1 = B) = False := eq_false (by omega)
 have n3 : (B = hs + 1) = False := eq_false (by omega)
 have c1 := fun lm tx H hs h => @cNumber q B c.l (numT c.op :: numT c.r :: hexI (packV c.v) :: ws) left H hs lm tx h1.1 h1.2 (by simp; omega) h
 have c2 := fun lm tx H hs h => @cNumber q B c.op (numT c.r :: hexI (packV c.v) :: ws) left H hs lm tx h2.1 h2.2 (by simp; omega) h
 have c3 := fun lm tx H hs h => @cNumber q B c.r (hexI (packV c.v) :: ws) left H hs lm tx (by omega) (by omega) (by simp; omega) h
 have e1 : decide (c.r = -1) = true := decide_eq_true hr
 simp only [encC, ci, Vl.cs]
 rw [callF_in (fi := fi53) tcon rfl rfl rfl]
 simp (maxSteps := 4000000) only [sG, seval, x53, stU, b53, Tryz.f53, hB, n0, n1, n2, n3, c1, c2, c3, e1]
 have hM : ∀ (Z C : AO), ∃ H1 hs1, callF tab (evw tab) ⟨true, true, glK q⟩ 94 [.ptr B 0] ((((((H.put .dead hs Z).put .dead B (RdC (numT c.op :: numT c.r :: hexI (packV c.v) :: ws) left)).put .dead B (RdC (numT c.r :: hexI (packV c.v) :: ws) left)).put .dead B (RdC (hexI (packV c.v) :: ws) left)).put .dead (hs + 1) Z).put .dead (hs + 1) C) (hs + 1 + 1) = some (encV c.v, H1, hs1) /\ H1.get .dead B = RdC ws left /\ hs + 1 + 1 <= hs1 /\ H1.get .dead hs = Z /\ H1.get .dead (hs + 1) = C /\ ∀ p, p < hs -> p ≠ B -> H1.get .dead p = H.get .dead p := fun Z C => by
  obtain ⟨H1, hs1, e, r1, r2, r3⟩ := @cValueR q B c.v ws left ((((((H.put .dead hs Z).put .dead B (RdC (numT c.op :: numT c.r :: hexI (packV c.v) :: ws) left)).put .dead B (RdC (numT c.r :: hexI (packV c.v) :: ws) left)).put .dead B (RdC (hexI (packV c.v) :: ws) left)).put .dead (hs + 1) Z).put .dead (hs + 1) C) (hs + 1 + 1) hv hn (by omega) (by omega) (by
   rw [Tr.get_put, if_neg (by omega), Tr.get_put, if_neg (by omega), Tr.get_put, if_pos rfl])
  refine ⟨H1, hs1, e, r1, r2, ?_, ?_, fun p p1 p2 => ?_⟩
  ·rw [r3 hs (by omega) (by omega)]
   rw [Tr.get_put, if_neg (by omega), Tr.get_put, if_neg (by omega), Tr.get_put, if_neg (by omega), Tr.get_put, if_neg (by omega), Tr.get_put, if_neg (by omega), Tr.get_put, if_pos rfl]
  ·rw [r3 (hs + 1) (by omega) (by omega), Tr.get_put, if_pos rfl]
  ·rw [r3 p (by omega) p2]
   repeat rw [Tr.get_put, if_neg (by omega)]
 obtain ⟨H1, hs1, e, r1, r2, r3, r4, r5⟩ := hM (.cells [.lit (.int .i64 0), .lit (.int .i64 0), .lit (.int .i64 0), .lit (.int .i64 0), .lit (.bool false), .lit (.int .i64 0), .str []] false) (.cells [.lit (.int .i64 c.l), .lit (.int .i64 c.op), .lit (.int .i64 c.r), .lit (.int .i64 0), .lit (.bool false), .lit (.int .i64 0), .str []] false)
 clear hM
 simp only [encV, Vl.cs] at e
 refine ⟨?xx, ?yy, ?aa, ?bb⟩
 case aa =>
  simp (maxSteps := 4000000) only [sG, seval, x53, stU, b53, Tryz.f53, e, r3, r4, ldv, tt60, isAggD]
  rfl
 case bb =>
  refine ⟨?_, by omega, fun p p1 p2 => ?_⟩
  ·simp only [Tr.get_put, n0, n1, n2, n3, if_false, r1]
  ·repeat rw [Tr.get_put, if_neg (by omega)]
   exact r5 p p1 p2
theorem cCondR {q : Int} {B : Nat} {c : Cd} {ws : List (List UInt8)} {left : Int} {H : Tr AO} {hs : Nat} (h1 : okNum c.l) (h2 : okNum c.op) (h3 : okNum c.r) (ho : okV c) (hl : ws.length + 3 < 1000000) (hBh : B < hs) (hB : H.get .dead B = RdC (cw c ++ ws) left) :
  ∃ H' hs', callF tab (evw tab) ⟨true, true, glK q⟩ 53 [.ptr B 0] H hs = some (encC c, H', hs') /\ RdP H hs B ws left H' hs' := by
 obtain ⟨⟨_, _, _, hn⟩, ⟨hr, hv⟩ | ⟨hr, hv⟩⟩ := ho
 ·unfold cw at hB
  rw [decide_eq_true hr, cond_true] at hB
  exact cCondR1 h1 h2 hr hv hn hl hBh hB
 ·unfold cw at hB
  rw [decide_eq_false hr, cond_false] at hB
  exact cCondR0 h1 h2 h3 hr hv (by omega) hBh hB
def RdQ (H : Tr AO) (hs B : Nat) (ws : List (List UInt8)) (left : Int) (H' : Tr AO) (hs' : Nat) : Prop := H'.get .dead B = RdC ws left /\ hs <= hs' /\ ∀ p, p < hs -> p ≠ B -> (H.get .dead p).isRoom = false -> H'.get .dead p = H.get .dead p
theorem acc_step {H H' : Tr AO} {hs hs' sz B : Nat} {A : AV} {es : List AV} {X : AO} (h : Acc H hs sz A es) (hh : hs <= hs') (hB : H.get .dead B = X) (hX : X.isRoom = false) (hk : ∀ p, p < hs -> p ≠ B -> H'.get .dead p = H.get .dead p) : Acc H' hs' sz A es := by
 rcases h with h | ⟨r, rfl, g1, g2⟩
 ·exact .inl h
 ·refine .inr ⟨r, rfl, ?_, by omega⟩
  rw [hk r g2 (by rintro rfl; rw [g1] at hB; rw [<- hB] at hX; cases hX), g1]
theorem acc_bn {H : Tr AO} {hs sz : Nat} {A : AV} {α : Type} {f : α -> AV} (hb : ∀ x, bare (f x) = true) (hn : ∀ x, nrm (f x) = f x) {es : List α} (h : Acc H hs sz A (es.map f)) : bare A = true /\ nrm A = .lst .no (es.map f) := AccF.bn hb hn (.inl h)
def numL (l : List Int) : List (List UInt8) := l.map numT
theorem loopSmCd {q : Int} {B : Nat} {ws : List (List UInt8)} {left : Int} : ∀ (l es : List Cd) (t : Tr AV) (H : Tr AO) (hs : Nat) (A : AV), (∀ c ∈ l, okNum c.l /\ okNum c.op /\ okNum c.r /\ okV c) -> (cwL l ++ ws).length < 900000 -> es.length + l.length < 100000 -> Acc H hs 7 A (es.map encC) -> B < hs -> H.get .dead B = RdC (cwL l ++ ws) left ->
  t.get .any 0 = .ptr B 0 -> t.get .any 1 = .fn (.func 53) [.ptr B 0] [] -> t.get .any 5 = A -> t.get .any 6 = .lit (.int .i64 (l.length : Int)) ->
  ∃ H' hs' A', W tab none (fin tab fi52) (lpc fi52 0) (lpk fi52 0) ⟨t, 26, H, hs, [], ⟨true, true, glK q⟩⟩ = some (A', H', hs') /\ (bare A' = true /\ nrm A' = .lst .no ((es ++ l).map encC)) /\ RdQ H hs B ws left H' hs' := by
 simp only [stU, stC, b52, Tryz.f52]
 intro l
 induction l with
 | nil =>
  intro es t H hs A _ _ _ hA hBh hB a0 a1 a5 a6
  have e1 : decide ((0 : Int) < ((0 : Nat) : Int)) = false := by decide
  refine ⟨H, hs, A, ?_, by rw [List.append_nil]; exact acc_bn (fun _ => rfl) (fun _ => rfl) hA, by simpa [cwL] using hB, Nat.le_refl _, fun _ _ _ _ => rfl⟩
  unfold RdC at hB
  rw [W_loop]
  simp (maxSteps := 4000000) only [sG, seval, x52, stU, b52, Tryz.f52, a0, a1, a5, a6, hB, e1, List.length_nil]
 | cons c l ih =>
  intro es t H hs A hall hlen hel hA hBh hB a0 a1 a5 a6
  have hx := hall c (by simp)
  have e1 : decide ((0 : Int) < ((l.length + 1 : Nat) : Int)) = true := dcT (by omega)
  have w1 : IntKind.i64.wrap (((l.length + 1 : Nat) : Int) - 1) = (l.length : Int) := by simp only [List.length_cons] at hel; rw [wrap_i64 (by omega) (by omega)]; omega
  rw [show cwL (c :: l) ++ ws = cw c ++ (cwL l ++ ws) by simp [cwL]] at hB hlen
  simp only [List.length_append, List.length_cons] at hlen hel a6
  obtain ⟨H1, hs1, e, r1, r2, r3⟩ := @cCondR q B c (cwL l ++ ws) left H hs hx.1 hx.2.1 hx.2.2.1 hx.2.2.2 (by simp only [List.length_append]; omega) hBh hB
  have hA1 : Acc H1 hs1 7 A (es.map encC) := acc_step hA r2 hB rfl r3
  have hP := accApp (f := encC) (agg := true) (b := 64) c hA1 rfl (by omega)
  have hk : ∀ p, p < hs -> p ≠ B -> (H.get .dead p).isRoom = false -> (accH H1 hs1 7 A).get .dead p = H.get .dead p := fun p p1 p2 p3 => by
   rw [hA1.get (by omega) (by rw [r3 p p1 p2]; exact p3), r3 p p1 p2]
  have hB2 : (accH H1 hs1 7 A).get .dead B = RdC (cwL l ++ ws) left := by rw [hA1.get (by omega) (by rw [r1]; rfl), r1]
  have key : ∀ t' : Tr AV, t'.get .any 0 = .ptr B 0 -> t'.get .any 1 = .fn (.func 53) [.ptr B 0] [] -> t'.get .any 5 = .lst (.room hs1) ((es ++ [c]).map encC) -> t'.get .any 6 = .lit (.int .i64 (l.length : Int)) ->
    ∃ H' hs' A', W tab none (fin tab fi52) (lpc fi52 0) (lpk fi52 0) ⟨t', 26, accH H1 hs1 7 A, hs1 + 1, [], ⟨true, true, glK q⟩⟩ = some (A', H', hs') /\ (bare A' = true /\ nrm A' = .lst .no ((es ++ c :: l).map encC)) /\ RdQ H hs B ws left H' hs' := by
   intro t' b0 b1 b5 b6
   simp only [stU, stC, b52, Tryz.f52]
   obtain ⟨H', hs', A', q1, q2, q3, q4, q5⟩ := ih (es ++ [c]) t' (accH H1 hs1 7 A) (hs1 + 1) (.lst (.room hs1) ((es ++ [c]).map encC)) (fun d hd => hall d (by simp [hd])) (by simp only [List.length_append]; omega) (by simp; omega) accN (by omega) hB2 b0 b1 b5 b6
   refine ⟨H', hs', A', q1, by rw [show es ++ c :: l = (es ++ [c]) ++ l by simp]; exact q2, q3, by omega, fun p p1 p2 p3 => ?_⟩
   have := hk p p1 p2 p3
   rw [q5 p (by omega) p2 (by rw [this]; exact p3), this]
  simp only [stU, stC, b52, Tryz.f52] at key
  unfold RdC at hB
  simp only [encC, ci, Vl.cs] at e hP
  rw [W_loop]
  simp (maxSteps := 4000000) only [sGA, seval, x52, stU, b52, Tryz.f52, a0, a1, a5, a6, hB, e1, w1, e, hP, Bool.not_false]
  apply key
  all_goals simp only [sG, seval, a0, a1, a5, a6]
theorem cSomeCd {q : Int} {B : Nat} {l : List Cd} {ws : List (List UInt8)} {left : Int} {H : Tr AO} {hs : Nat} (hall : ∀ c ∈ l, okNum c.l /\ okNum c.op /\ okNum c.r /\ okV c) (hl : l.length <= 1000) (hlen : (cwL l ++ ws).length < 800000) (hBh : B < hs) (hB : H.get .dead B = RdC (numT (l.length : Int) :: (cwL l ++ ws)) left) :
  ∃ H' hs' A', callF tab (evw tab) ⟨true, true, glK q⟩ 52 [.ptr B 0, .fn (.func 53) [.ptr B 0] []] H hs = some (A', H', hs') /\ (bare A' = true /\ nrm A' = .lst .no (l.map encC)) /\ RdQ H hs B ws left H' hs' := by
 have c1 := fun lm tx H hs h => @cNumber q B (l.length : Int) (cwL l ++ ws) left H hs lm tx (by omega) (by omega) (by omega) h
 have key : ∀ t' : Tr AV, t'.get .any 0 = .ptr B 0 -> t'.get .any 1 = .fn (.func 53) [.ptr B 0] [] -> t'.get .any 5 = .lit (.slice none 0 0) -> t'.get .any 6 = .lit (.int .i64 (l.length : Int)) ->
   ∃ H' hs' A', W tab none (fin tab fi52) (lpc fi52 0) (lpk fi52 0) ⟨t', 26, H.put .dead B (RdC (cwL l ++ ws) left), hs, [], ⟨true, true, glK q⟩⟩ = some (A', H', hs') /\ (bare A' = true /\ nrm A' = .lst .no (l.map encC)) /\ RdQ H hs B ws left H' hs' := by
  intro t' b0 b1 b5 b6
  obtain ⟨H', hs', A', q1, q2, q3, q4, q5⟩ := @loopSmCd q B ws left l [] t' (H.put .dead B (RdC (cwL l ++ ws) left)) hs (.lit (.slice none 0 0)) hall (by omega) (by simp; omega) .nil hBh (by rw [Tr.get_put, if_pos rfl]) b0 b1 b5 b6
  refine ⟨H', hs', A', q1, by simpa using q2, q3, q4, fun p p1 p2 p3 => ?_⟩
  rw [q5 p p1 p2 (by rw [Tr.get_put, if_neg p2]; exact p3), Tr.get_put, if_neg p2]
 simp only [stU, stC, b52, Tryz.f52] at key
 rw [callF_in (fi := fi52) tcon rfl rfl rfl]
 simp (maxSteps := 4000000) only [sG, seval, x52, stU, b52, Tryz.f52, c1, hB]
 apply key
 all_goals simp only [sG, seval]
theorem loopSmPr {q : Int} {B : Nat} {ws : List (List UInt8)} {left : Int} : ∀ (l es : List (Int × Int)) (t : Tr AV) (H : Tr AO) (hs : Nat) (A : AV), (∀ c ∈ l, okNum c.1 /\ okNum c.2) -> (pwL l ++ ws).length < 900000 -> es.length + l.length < 100000 -> Acc H hs 2 A (es.map encPr) -> B < hs -> H.get .dead B = RdC (pwL l ++ ws) left ->
  t.get .any 0 = .ptr B 0 -> t.get .any 1 = .fn (.func 55) [.ptr B 0] [] -> t.get .any 5 = A -> t.get .any 6 = .lit (.int .i64 (l.length : Int)) ->
  ∃ H' hs' A', W tab none (fin tab fi54) (lpc fi54 0) (lpk fi54 0) ⟨t, 26, H, hs, [], ⟨true, true, glK q⟩⟩ = some (A', H', hs') /\ (bare A' = true /\ nrm A' = .lst .no ((es ++ l).map encPr)) /\ RdQ H hs B ws left H' hs' := by
 simp only [stU, stC, b54, Tryz.f54]
 intro l
 induction l with
 | nil =>
  intro es t H hs A _ _ _ hA hBh hB a0 a1 a5 a6
  have e1 : decide ((0 : Int) < ((0 : Nat) : Int)) = false := by decide
  refine ⟨H, hs, A, ?_, by rw [List.append_nil]; exact acc_bn (fun _ => rfl) (fun _ => rfl) hA, by simpa [pwL] using hB, Nat.le_refl _, fun _ _ _ _ => rfl⟩
  unfold RdC at hB
  rw [W_loop]
  simp (maxSteps := 4000000) only [sG, seval, x54, stU, b54, Tryz.f54, a0, a1, a5, a6, hB, e1, List.length_nil]
 | cons c l ih =>
  intro es t H hs A hall hlen hel hA hBh hB a0 a1 a5 a6
  have hx := hall c (by simp)
  have e1 : decide ((0 : Int) < ((l.length + 1 : Nat) : Int)) = true := dcT (by omega)
  have w1 : IntKind.i64.wrap (((l.length + 1 : Nat) : Int) - 1) = (l.length : Int) := by simp only [List.length_cons] at hel; rw [wrap_i64 (by omega) (by omega)]; omega
  rw [show pwL (c :: l) ++ ws = numT c.1 :: numT c.2 :: (pwL l ++ ws) by simp [pwL]] at hB hlen
  simp only [List.length_append, List.length_cons] at hlen hel a6
  obtain ⟨H1, hs1, e, r1, r2, r3⟩ := @cPairR q B c (pwL l ++ ws) left H hs hx.1 hx.2 (by simp only [List.length_append]; omega) hBh hB
  have hA1 : Acc H1 hs1 2 A (es.map encPr) := acc_step hA r2 hB rfl r3
  have hP := accApp (f := encPr) (agg := true) (b := 16) c hA1 rfl (by omega)
  have hk : ∀ p, p < hs -> p ≠ B -> (H.get .dead p).isRoom = false -> (accH H1 hs1 2 A).get .dead p = H.get .dead p := fun p p1 p2 p3 => by
   rw [hA1.get (by omega) (by rw [r3 p p1 p2]; exact p3), r3 p p1 p2]
  have hB2 : (accH H1 hs1 2 A).get .dead B = RdC (pwL l ++ ws) left := by rw [hA1.get (by omega) (by rw [r1]; rfl), r1]
  have key : ∀ t' : Tr AV, t'.get .any 0 = .ptr B 0 -> t'.get .any 1 = .fn (.func 55) [.ptr B 0] [] -> t'.get .any 5 = .lst (.room hs1) ((es ++ [c]).map encPr) -> t'.get .any 6 = .lit (.int .i64 (l.length : Int)) ->
    ∃ H' hs' A', W tab none (fin tab fi54) (lpc fi54 0) (lpk fi54 0) ⟨t', 26, accH H1 hs1 2 A, hs1 + 1, [], ⟨true, true, glK q⟩⟩ = some (A', H', hs') /\ (bare A' = true /\ nrm A' = .lst .no ((es ++ c :: l).map encPr)) /\ RdQ H hs B ws left H' hs' := by
   intro t' b0 b1 b5 b6
   simp only [stU, stC, b54, Tryz.f54]
   obtain ⟨H', hs', A', q1, q2, q3, q4, q5⟩ := ih (es ++ [c]) t' (accH H1 hs1 2 A) (hs1 + 1) (.lst (.room hs1) ((es ++ [c]).map encPr)) (fun d hd => hall d (by simp [hd])) (by simp only [List.length_append]; omega) (by simp; omega) accN (by omega) hB2 b0 b1 b5 b6
   refine ⟨H', hs', A', q1, by rw [show es ++ c :: l = (es ++ [c]) ++ l by simp]; exact q2, q3, by omega, fun p p1 p2 p3 => ?_⟩
   have := hk p p1 p2 p3
   rw [q5 p (by omega) p2 (by rw [this]; exact p3), this]
  simp only [stU, stC, b54, Tryz.f54] at key
  unfold RdC at hB
  simp only [encPr, ci] at e hP
  rw [W_loop]
  simp (maxSteps := 4000000) only [sGA, seval, x54, stU, b54, Tryz.f54, a0, a1, a5, a6, hB, e1, w1, e, hP, Bool.not_false]
  apply key
  all_goals simp only [sG, seval, a0, a1, a5, a6, encPr, ci]
theorem cSomePr {q : Int} {B : Nat} {l : List (Int × Int)} {ws : List (List UInt8)} {left : Int} {H : Tr AO} {hs : Nat} (hall : ∀ c ∈ l, okNum c.1 /\ okNum c.2) (hl : l.length <= 1000) (hlen : (pwL l ++ ws).length < 800000) (hBh : B < hs) (hB : H.get .dead B = RdC (numT (l.length : Int) :: (pwL l ++ ws)) left) :
  ∃ H' hs' A', callF tab (evw tab) ⟨true, true, glK q⟩ 54 [.ptr B 0, .fn (.func 55) [.ptr B 0] []] H hs = some (A', H', hs') /\ (bare A' = true /\ nrm A' = .lst .no (l.map encPr)) /\ RdQ H hs B ws left H' hs' := by
 have c1 := fun lm tx H hs h => @cNumber q B (l.length : Int) (pwL l ++ ws) left H hs lm tx (by omega) (by omega) (by omega) h
 have key : ∀ t' : Tr AV, t'.get .any 0 = .ptr B 0 -> t'.get .any 1 = .fn (.func 55) [.ptr B 0] [] -> t'.get .any 5 = .lit (.slice none 0 0) -> t'.get .any 6 = .lit (.int .i64 (l.length : Int)) ->
   ∃ H' hs' A', W tab none (fin tab fi54) (lpc fi54 0) (lpk fi54 0) ⟨t', 26, H.put .dead B (RdC (pwL l ++ ws) left), hs, [], ⟨true, true, glK q⟩⟩ = some (A', H', hs') /\ (bare A' = true /\ nrm A' = .lst .no (l.map encPr)) /\ RdQ H hs B ws left H' hs' := by
  intro t' b0 b1 b5 b6
  obtain ⟨H', hs', A', q1, q2, q3, q4, q5⟩ := @loopSmPr q B ws left l [] t' (H.put .dead B (RdC (pwL l ++ ws) left)) hs (.lit (.slice none 0 0)) hall (by omega) (by simp; omega) .nil hBh (by rw [Tr.get_put, if_pos rfl]) b0 b1 b5 b6
  refine ⟨H', hs', A', q1, by simpa using q2, q3, q4, fun p p1 p2 p3 => ?_⟩
  rw [q5 p p1 p2 (by rw [Tr.get_put, if_neg p2]; exact p3), Tr.get_put, if_neg p2]
 simp only [stU, stC, b54, Tryz.f54] at key
 rw [callF_in (fi := fi54) tcon rfl rfl rfl]
 simp (maxSteps := 4000000) only [sG, seval, x54, stU, b54, Tryz.f54, c1, hB]
 apply key
 all_goals simp only [sG, seval]
theorem loopSmIn {q : Int} {B : Nat} {ws : List (List UInt8)} {left : Int} : ∀ (l es : List Int) (t : Tr AV) (H : Tr AO) (hs : Nat) (A : AV), (∀ c ∈ l, okNum c) -> (numL l ++ ws).length < 900000 -> es.length + l.length < 100000 -> Acc H hs 1 A (es.map ci) -> B < hs -> H.get .dead B = RdC (numL l ++ ws) left ->
  t.get .any 0 = .ptr B 0 -> t.get .any 1 = .fn (.func 51) [.ptr B 0] [] -> t.get .any 5 = A -> t.get .any 6 = .lit (.int .i64 (l.length : Int)) ->
  ∃ H' hs' A', W tab none (fin tab fi56) (lpc fi56 0) (lpk fi56 0) ⟨t, 26, H, hs, [], ⟨true, true, glK q⟩⟩ = some (A', H', hs') /\ (bare A' = true /\ nrm A' = .lst .no ((es ++ l).map ci)) /\ RdQ H hs B ws left H' hs' := by
 simp only [stU, stC, b56, Tryz.f56]
 intro l
 induction l with
 | nil =>
  intro es t H hs A _ _ _ hA hBh hB a0 a1 a5 a6
  have e1 : decide ((0 : Int) < ((0 : Nat) : Int)) = false := by decide
  refine ⟨H, hs, A, ?_, by rw [List.append_nil]; exact acc_bn (fun _ => rfl) (fun _ => rfl) hA, by simpa [numL] using hB, Nat.le_refl _, fun _ _ _ _ => rfl⟩
  unfold RdC at hB
  rw [W_loop]
  simp (maxSteps := 4000000) only [sG, seval, x56, stU, b56, Tryz.f56, a0, a1, a5, a6, hB, e1, List.length_nil]
 | cons c l ih =>
  intro es t H hs A hall hlen hel hA hBh hB a0 a1 a5 a6
  have hx := hall c (by simp)
  have e1 : decide ((0 : Int) < ((l.length + 1 : Nat) : Int)) = true := dcT (by omega)
  have w1 : IntKind.i64.wrap (((l.length + 1 : Nat) : Int) - 1) = (l.length : Int) := by simp only [List.length_cons] at hel; rw [wrap_i64 (by omega) (by omega)]; omega
  rw [show numL (c :: l) ++ ws = numT c :: (numL l ++ ws) by simp [numL]] at hB hlen
  simp only [List.length_append, List.length_cons] at hlen hel a6
  have e := @cNumber q B c (numL l ++ ws) left H hs true true hx.1 hx.2 (by simp only [List.length_append]; omega) hB
  have r1 : (H.put .dead B (RdC (numL l ++ ws) left)).get .dead B = RdC (numL l ++ ws) left := by rw [Tr.get_put, if_pos rfl]
  have r2 : hs <= hs := Nat.le_refl _
  have r3 : ∀ p, p < hs -> p ≠ B -> (H.put .dead B (RdC (numL l ++ ws) left)).get .dead p = H.get .dead p := fun p _ p2 => by rw [Tr.get_put, if_neg p2]
  generalize H.put .dead B (RdC (numL l ++ ws) left) = H1 at e r1 r3
  have hA1 : Acc H1 hs 1 A (es.map ci) := acc_step hA r2 hB rfl r3
  have hP := accApp (f := ci) (agg := false) (b := 8) c hA1 rfl (by omega)
  have hk : ∀ p, p < hs -> p ≠ B -> (H.get .dead p).isRoom = false -> (accH H1 hs 1 A).get .dead p = H.get .dead p := fun p p1 p2 p3 => by
   rw [hA1.get (by omega) (by rw [r3 p p1 p2]; exact p3), r3 p p1 p2]
  have hB2 : (accH H1 hs 1 A).get .dead B = RdC (numL l ++ ws) left := by rw [hA1.get (by omega) (by rw [r1]; rfl), r1]
  have key : ∀ t' : Tr AV, t'.get .any 0 = .ptr B 0 -> t'.get .any 1 = .fn (.func 51) [.ptr B 0] [] -> t'.get .any 5 = .lst (.room hs) ((es ++ [c]).map ci) -> t'.get .any 6 = .lit (.int .i64 (l.length : Int)) ->
    ∃ H' hs' A', W tab none (fin tab fi56) (lpc fi56 0) (lpk fi56 0) ⟨t', 26, accH H1 hs 1 A, hs + 1, [], ⟨true, true, glK q⟩⟩ = some (A', H', hs') /\ (bare A' = true /\ nrm A' = .lst .no ((es ++ c :: l).map ci)) /\ RdQ H hs B ws left H' hs' := by
   intro t' b0 b1 b5 b6
   simp only [stU, stC, b56, Tryz.f56]
   obtain ⟨H', hs', A', q1, q2, q3, q4, q5⟩ := ih (es ++ [c]) t' (accH H1 hs 1 A) (hs + 1) (.lst (.room hs) ((es ++ [c]).map ci)) (fun d hd => hall d (by simp [hd])) (by simp only [List.length_append]; omega) (by simp; omega) accN (by omega) hB2 b0 b1 b5 b6
   refine ⟨H', hs', A', q1, by rw [show es ++ c :: l = (es ++ [c]) ++ l by simp]; exact q2, q3, by omega, fun p p1 p2 p3 => ?_⟩
   have := hk p p1 p2 p3
   rw [q5 p (by omega) p2 (by rw [this]; exact p3), this]
  simp only [stU, stC, b56, Tryz.f56] at key
  unfold RdC at hB
  simp only [ci] at e hP
  rw [W_loop]
  simp (maxSteps := 4000000) only [sGA, seval, x56, stU, b56, Tryz.f56, a0, a1, a5, a6, hB, e1, w1, e, hP, Bool.not_false]
  apply key
  all_goals simp only [sG, seval, a0, a1, a5, a6]
theorem cSomeIn {q : Int} {B : Nat} {l : List Int} {ws : List (List UInt8)} {left : Int} {H : Tr AO} {hs : Nat} (hall : ∀ c ∈ l, okNum c) (hl : l.length <= 1000) (hlen : (numL l ++ ws).length < 800000) (hBh : B < hs) (hB : H.get .dead B = RdC (numT (l.length : Int) :: (numL l ++ ws)) left) :
  ∃ H' hs' A', callF tab (evw tab) ⟨true, true, glK q⟩ 56 [.ptr B 0, .fn (.func 51) [.ptr B 0] []] H hs = some (A', H', hs') /\ (bare A' = true /\ nrm A' = .lst .no (l.map ci)) /\ RdQ H hs B ws left H' hs' := by
 have c1 := fun lm tx H hs h => @cNumber q B (l.length : Int) (numL l ++ ws) left H hs lm tx (by omega) (by omega) (by omega) h
 have key : ∀ t' : Tr AV, t'.get .any 0 = .ptr B 0 -> t'.get .any 1 = .fn (.func 51) [.ptr B 0] [] -> t'.get .any 5 = .lit (.slice none 0 0) -> t'.get .any 6 = .lit (.int .i64 (l.length : Int)) ->
   ∃ H' hs' A', W tab none (fin tab fi56) (lpc fi56 0) (lpk fi56 0) ⟨t', 26, H.put .dead B (RdC (numL l ++ ws) left), hs, [], ⟨true, true, glK q⟩⟩ = some (A', H', hs') /\ (bare A' = true /\ nrm A' = .lst .no (l.map ci)) /\ RdQ H hs B ws left H' hs' := by
  intro t' b0 b1 b5 b6
  obtain ⟨H', hs', A', q1, q2, q3, q4, q5⟩ := @loopSmIn q B ws left l [] t' (H.put .dead B (RdC (numL l ++ ws) left)) hs (.lit (.slice none 0 0)) hall (by omega) (by simp; omega) .nil hBh (by rw [Tr.get_put, if_pos rfl]) b0 b1 b5 b6
  refine ⟨H', hs', A', q1, by simpa using q2, q3, q4, fun p p1 p2 p3 => ?_⟩
  rw [q5 p p1 p2 (by rw [Tr.get_put, if_neg p2]; exact p3), Tr.get_put, if_neg p2]
 simp only [stU, stC, b56, Tryz.f56] at key
 rw [callF_in (fi := fi56) tcon rfl rfl rfl]
 simp (maxSteps := 4000000) only [sG, seval, x56, stU, b56, Tryz.f56, c1, hB]
 apply key
 all_goals simp only [sG, seval]
theorem wide_rng : ∀ {n : Nd}, eachB n = true -> 0 <= wideN n /\ wideN n <= 40
 | .nil, _ => ⟨Int.le_refl _, by show (0 : Int) <= 40; omega⟩
 | .mk k nm w cs ps cl ag of l r, h => by
  obtain ⟨el, er, ba, ka, _⟩ := each_inv h
  have hf : fitsB k nm w cs ps cl ag of l r = true := by
   rw [eachB, Bool.and_eq_true, Bool.and_eq_true, Bool.and_eq_true] at h
   exact h.2.2.2
  have h1 := wide_rng el
  have h2 := wide_rng er
  unfold fitsB at hf
  rw [wideN]
  rcases ka with rfl | rfl | rfl | rfl | rfl | rfl | rfl
  ·simp at hf ⊢; omega
  ·simp at hf ⊢; omega
  ·simp at hf ⊢
   have : IntKind.i64.wrap (wideN l + wideN r) = wideN l + wideN r := wrap_i64 (by omega) (by omega)
   omega
  ·simp at hf ⊢; omega
  ·simp at hf ⊢; omega
  ·simp at hf ⊢; omega
  ·simp at hf ⊢
   have : IntKind.i64.wrap ((cl.length : Int) + 1) = (cl.length : Int) + 1 := wrap_i64 (by omega) (by omega)
   omega
theorem colB_ok {x w : Int} (h : colB x w = true) (hw : w <= 40) : okNum x := by
 unfold colB at h
 rw [Bool.and_eq_true, decide_eq_true_iff, decide_eq_true_iff] at h
 exact ⟨by omega, by omega⟩
theorem condB_num {c : Cd} {w : Int} (h : condB c w = true) (hw : w <= 40) : okNum c.l /\ okNum c.op /\ okNum c.r := by
 unfold condB at h
 cases h1 : decide (c.l = -1) with
 | true =>
  rw [h1, cond_true] at h
  unfold cdeq at h
  simp only [Bool.and_eq_true, decide_eq_true_iff] at h
  obtain ⟨g1, g2, g3, _⟩ := h
  have g1 : c.l = -1 := g1
  have g2 : c.op = 1 := g2
  have g3 : c.r = -1 := g3
  exact ⟨⟨by omega, by omega⟩, ⟨by omega, by omega⟩, ⟨by omega, by omega⟩⟩
 | false =>
  rw [h1, cond_false] at h
  cases h2 : (!colB c.l w || decide (c.op < 1) || decide (6 < c.op)) with
  | true => rw [h2] at h; cases h
  | false =>
   rw [h2, cond_false] at h
   simp only [Bool.or_eq_false_iff, decide_eq_false_iff_not] at h2
   obtain ⟨⟨g1, g2⟩, g3⟩ := h2
   have g1 : colB c.l w = true := by simpa using g1
   refine ⟨colB_ok g1 hw, ⟨by omega, by omega⟩, ?_⟩
   cases h3 : decide (c.r = -1) with
   | true => have := of_decide_eq_true h3; exact ⟨by omega, by omega⟩
   | false =>
    rw [h3, cond_false, Bool.and_eq_true] at h
    exact colB_ok h.1 hw
structure NumOk (k w : Int) (cs : List Cd) (ps : List (Int × Int)) (cl : List Int) (ag of : Int) : Prop where
 n1 : k = 1 -> okNum w
 n2 : k = 2 -> ∀ c ∈ cs, okNum c.l /\ okNum c.op /\ okNum c.r /\ okV c
 n3 : (k = 3 ∨ k = 4) -> ∀ c ∈ ps, okNum c.1 /\ okNum c.2
 n5 : (k = 5 ∨ k = 7) -> ∀ c ∈ cl, okNum c
 n7 : k = 7 -> okNum ag /\ okNum of
theorem num_ok {k : Int} {nm : List UInt8} {w : Int} {cs : List Cd} {ps : List (Int × Int)} {cl : List Int} {ag of : Int} {l r : Nd} (h : eachB (.mk k nm w cs ps cl ag of l r) = true) (ho : okNd (.mk k nm w cs ps cl ag of l r)) : NumOk k w cs ps cl ag of := by
 obtain ⟨el, er, ba, ka, ca, _⟩ := each_inv h
 obtain ⟨o1, o2, o3, o4, o5, o6, o7, ol, or⟩ := ho
 have hf : fitsB k nm w cs ps cl ag of l r = true := by
  rw [eachB, Bool.and_eq_true, Bool.and_eq_true, Bool.and_eq_true] at h
  exact h.2.2.2
 have h1 := wide_rng el
 have h2 := wide_rng er
 unfold fitsB at hf
 refine ⟨fun hk => ?_, fun hk c hc => ?_, fun hk c hc => ?_, fun hk c hc => ?_, fun hk => ?_⟩
 ·subst hk; simp at hf; exact ⟨by omega, by omega⟩
 ·subst hk
  simp only [show decide ((2 : Int) = 1) = false from rfl, decide_true, cond_true, cond_false, Bool.and_eq_true, List.all_eq_true] at hf
  obtain ⟨g1, g2, g3⟩ := condB_num (hf.2 c hc) h1.2
  exact ⟨g1, g2, g3, o5 c hc, ca rfl c hc⟩
 ·have : pairB c (wideN l) (wideN r) = true := by
   rcases hk with rfl | rfl
   ·simp only [show decide ((3 : Int) = 1) = false from rfl, show decide ((3 : Int) = 2) = false from rfl, decide_true, cond_true, cond_false, Bool.and_eq_true, List.all_eq_true] at hf
    exact hf.1 c hc
   ·simp only [show decide ((4 : Int) = 1) = false from rfl, show decide ((4 : Int) = 2) = false from rfl, show decide ((4 : Int) = 3) = false from rfl, decide_true, cond_true, cond_false, List.all_eq_true] at hf
    exact hf c hc
  unfold pairB at this
  rw [Bool.and_eq_true] at this
  exact ⟨colB_ok this.1 h1.2, colB_ok this.2 h2.2⟩
 ·have : colB c (wideN l) = true := by
   rcases hk with rfl | rfl
   ·simp only [show decide ((5 : Int) = 1) = false from rfl, show decide ((5 : Int) = 2) = false from rfl, show decide ((5 : Int) = 3) = false from rfl, show decide ((5 : Int) = 4) = false from rfl, decide_true, cond_true, cond_false, Bool.and_eq_true, List.all_eq_true] at hf
    exact hf.2.2 c hc
   ·simp only [show decide ((7 : Int) = 1) = false from rfl, show decide ((7 : Int) = 2) = false from rfl, show decide ((7 : Int) = 3) = false from rfl, show decide ((7 : Int) = 4) = false from rfl, show decide ((7 : Int) = 5) = false from rfl, show decide ((7 : Int) = 6) = false from rfl, decide_true, cond_true, cond_false, Bool.and_eq_true, List.all_eq_true] at hf
    exact hf.2.1 c hc
  exact colB_ok this h1.2
 ·subst hk
  simp only [show decide ((7 : Int) = 1) = false from rfl, show decide ((7 : Int) = 2) = false from rfl, show decide ((7 : Int) = 3) = false from rfl, show decide ((7 : Int) = 4) = false from rfl, show decide ((7 : Int) = 5) = false from rfl, show decide ((7 : Int) = 6) = false from rfl, decide_true, cond_true, cond_false, Bool.and_eq_true, Bool.or_eq_true, decide_eq_true_iff] at hf
  obtain ⟨_, _, ⟨g1, g2⟩ | ⟨g1, g2, g3⟩⟩ := hf
  ·exact ⟨⟨by omega, by omega⟩, ⟨by omega, by omega⟩⟩
  ·exact ⟨⟨by omega, by omega⟩, colB_ok g3 h1.2⟩
def NdB (H : Tr AO) (lo hs : Nat) : AV -> Nd -> Prop
 | a, .nil => a = .lit (.pointer none)
 | a, .mk k nm w cs ps cl ag of l r => ∃ o ro la ra X Y Z, a = .ptr o 0 /\ lo <= o /\ o < hs /\ H.get .dead o = .cells (nodeC k nm w X Y Z ag of la ra) ro /\ LsN X (cs.map encC) /\ LsN Y (ps.map encPr) /\ LsN Z (cl.map ci) /\ NdB H lo hs la l /\ NdB H lo hs ra r
theorem NdB.at {H : Tr AO} {lo hs : Nat} : ∀ {n : Nd} {a : AV}, NdB H lo hs a n -> NdAt H hs a n
 | .nil, a, h => h
 | .mk .., a, ⟨o, ro, la, ra, X, Y, Z, h1, _, h2, h3, x1, x2, x3, h4, h5⟩ => ⟨o, ro, la, ra, X, Y, Z, h1, h2, h3, x1, x2, x3, NdB.at h4, NdB.at h5⟩
theorem NdB.keep {H H1 : Tr AO} {lo lo1 hs hs1 : Nat} (hl : lo1 <= lo) (hh : hs <= hs1) (hS : ∀ p, lo <= p -> p < hs -> (H.get .dead p).isRoom = false -> H1.get .dead p = H.get .dead p) : ∀ {n : Nd} {a : AV}, NdB H lo hs a n -> NdB H1 lo1 hs1 a n
 | .nil, a, h => h
 | .mk .., a, ⟨o, ro, la, ra, X, Y, Z, h1, g, h2, h3, x1, x2, x3, h4, h5⟩ => ⟨o, ro, la, ra, X, Y, Z, h1, by omega, by omega, by rw [hS o g h2 (by rw [h3]; rfl)]; exact h3, x1, x2, x3, NdB.keep hl hh hS h4, NdB.keep hl hh hS h5⟩
end Go.Proofs.YtcledcfeddlomaaGreatDoor.Ev
