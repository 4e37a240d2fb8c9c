import Derived.Test.YtcledcfeddlomaaGreatDoorU4
import Derived.Test.YtcledcfeddlomaaGreatDoorEvG2
import Derived.Test.YtcledcfeddlomaaGreatDoorC1
import Derived.Test.YtcledcfeddlomaaGreatDoorRows
import Derived.Stop.LaidErr
set_option linter.all false
set_option maxRecDepth 100000
set_option maxHeartbeats 4000000
namespace Go.Proofs.YtcledcfeddlomaaGreatDoor.Ev
open Go Go.Proofs.YtcledcfeddlomaaGreatDoor.Ev Go.Proofs Go.Proofs.YtcledcfeddlomaaGreatDoor Go.Proofs.YtcledcfeddlomaaGreatDoor.Tab
theorem TyS.split1 {T : Tab} {fs : List Field} {as' : List AV} {t : Nat} {ts : List Nat} (hf : fs.map (fun f => f.type) = t :: ts) (h : TyS T fs as') : ∃ a b fs', as' = a ++ b /\ Ty T t a /\ TyS T fs' b /\ fs'.map (fun f => f.type) = ts := by
 cases fs with
 | nil => cases hf
 | cons f fs =>
  simp only [List.map_cons, List.cons.injEq] at hf
  obtain ⟨rfl, rfl⟩ := hf
  obtain ⟨a, b, e, h1, h2⟩ := h.of_cons
  exact ⟨a, b, fs, e, h1, h2, rfl⟩
theorem TyS.split0 {T : Tab} {fs : List Field} {as' : List AV} (hf : fs.map (fun f => f.type) = []) (h : TyS T fs as') : as' = [] := by
 cases fs with
 | nil => exact h.of_nil
 | cons f fs => cases hf
theorem es_map {α : Type} {enc : α -> AV} {P : α -> Prop} : ∀ {es : List AV}, (∀ x ∈ es, ∃ a, x = enc a /\ P a) -> ∃ l : List α, es = l.map enc /\ ∀ a ∈ l, P a
 | [], _ => ⟨[], rfl, by simp⟩
 | x :: es, h => by
  obtain ⟨a, rfl, ha⟩ := h x (by simp)
  obtain ⟨l, rfl, hl⟩ := es_map (enc := enc) (P := P) (es := es) fun y hy => h y (List.mem_cons_of_mem _ hy)
  exact ⟨a :: l, rfl, fun b hb => by rcases List.mem_cons.1 hb with rfl | hb; exact ha; exact hl b hb⟩
theorem k3 : ∃ i, tab.t 3 = some i /\ i.desc = .int .i64 := ⟨_, rfl, rfl⟩
theorem k2 : ∃ i, tab.t 2 = some i /\ i.desc = .int .i64 := ⟨_, rfl, rfl⟩
theorem k4 : ∃ i, tab.t 4 = some i /\ i.desc = .bool := ⟨_, rfl, rfl⟩
theorem k9 : ∃ i, tab.t 9 = some i /\ i.desc = .string := ⟨_, rfl, rfl⟩
theorem k58 : ∃ i fs, tab.t 58 = some i /\ i.desc = .struct fs /\ fs.toList.map (fun f => f.type) = [3, 4, 2, 9] /\ aggT tab 58 = true := ⟨_, _, rfl, rfl, rfl, rfl⟩
theorem k60 : ∃ i fs, tab.t 60 = some i /\ i.desc = .struct fs /\ fs.toList.map (fun f => f.type) = [3, 3, 3, 58] /\ aggT tab 60 = true := ⟨_, _, rfl, rfl, rfl, rfl⟩
theorem k62 : ∃ i fs, tab.t 62 = some i /\ i.desc = .struct fs /\ fs.toList.map (fun f => f.type) = [3, 3] /\ aggT tab 62 = true := ⟨_, _, rfl, rfl, rfl, rfl⟩
theorem k43 : ∃ i, tab.t 43 = some i /\ i.desc = .slice 60 := ⟨_, rfl, rfl⟩
theorem k44 : ∃ i, tab.t 44 = some i /\ i.desc = .slice 62 := ⟨_, rfl, rfl⟩
theorem k45 : ∃ i, tab.t 45 = some i /\ i.desc = .slice 3 /\ aggT tab 3 = false := ⟨_, rfl, rfl, rfl⟩
theorem k47 : ∃ i fs, tab.t 47 = some i /\ i.desc = .struct fs /\ fs.toList.map (fun f => f.type) = [3, 9, 3, 43, 44, 45, 3, 3, 3, 3] /\ aggT tab 47 = true := ⟨_, _, rfl, rfl, rfl, rfl⟩
theorem k22 : ∃ i, tab.t 22 = some i /\ i.desc = .slice 47 := ⟨_, rfl, rfl⟩
theorem wf_i64 {n : Int} (hw : (Lit.int .i64 n).wf = true) : i64B n := by
 simp [Lit.wf, IntKind.signed, IntKind.bits, IntKind.min, IntKind.max] at hw
 unfold i64B
 omega
theorem tyI {cs : List AV} (h : Ty tab 3 cs) : ∃ n, cs = [.lit (.int .i64 n)] /\ i64B n := by
 obtain ⟨i, h1, h2⟩ := k3
 obtain ⟨n, e, hw⟩ := h.of_int h1 h2
 exact ⟨n, e, wf_i64 hw⟩
theorem tyJ {cs : List AV} (h : Ty tab 2 cs) : ∃ n : Int, cs = [.lit (.int .i64 n)] /\ i64B n := by
 obtain ⟨i, h1, h2⟩ := k2
 obtain ⟨n, e, hw⟩ := h.of_int h1 h2
 exact ⟨n, e, wf_i64 hw⟩
theorem tyB {cs : List AV} (h : Ty tab 4 cs) : ∃ n, cs = [.lit (.bool n)] := by
 obtain ⟨i, h1, h2⟩ := k4
 exact h.of_bool h1 h2
theorem tyS {cs : List AV} (h : Ty tab 9 cs) : ∃ l, cs = [.str l] /\ l.length <= 9223372036854775807 := by
 obtain ⟨i, h1, h2⟩ := k9
 exact h.of_str h1 h2
theorem tyV {cs : List AV} (h : Ty tab 58 cs) : ∃ v : Vl, cs = v.cs /\ i64B v.n := by
 obtain ⟨i, fs, h1, h2, h3, _⟩ := k58
 have hs := h.of_struct h1 h2
 obtain ⟨a, b, f2, rfl, t1, s1, e1⟩ := hs.split1 h3
 obtain ⟨c, d, f3, rfl, t2, s2, e2⟩ := s1.split1 e1
 obtain ⟨e, f, f4, rfl, t3, s3, e3⟩ := s2.split1 e2
 obtain ⟨g, k, f5, rfl, t4, s4, e4⟩ := s3.split1 e3
 have := s4.split0 e4
 subst this
 obtain ⟨n, rfl, _⟩ := tyI t1
 obtain ⟨p, rfl⟩ := tyB t2
 obtain ⟨m, rfl, hm⟩ := tyJ t3
 obtain ⟨l, rfl, _⟩ := tyS t4
 exact ⟨⟨n, p, m, l⟩, rfl, hm⟩
theorem ty_slc {α : Type} {enc : α -> AV} {P : α -> Prop} {t e : Nat} {cs : List AV} (hk : ∃ i, tab.t t = some i /\ i.desc = .slice e) (he : ∃ i, tab.t e = some i) (hA : aggT tab e = true) (hE : ∀ cs, Ty tab e cs -> ∃ a : α, AV.agg cs = enc a /\ P a) (h : Ty tab t cs) : ∃ l : List α, cs = [.lst .no (l.map enc)] /\ l.length <= 9223372036854775807 /\ ∀ a ∈ l, P a := by
 obtain ⟨i, h1, h2⟩ := hk
 obtain ⟨j, h3⟩ := he
 obtain ⟨es, rfl, hl, q1, q2⟩ := h.of_slc h1 h2 h3
 obtain ⟨l, rfl, hp⟩ := es_map (enc := enc) (P := P) (es := es) fun x hx => by
  obtain ⟨c, rfl⟩ := (q2 x hx).1 hA
  exact hE c (q1 _ hx)
 exact ⟨l, rfl, by rw [List.length_map] at hl; exact hl, hp⟩
theorem ty_slc1 {α : Type} {enc : α -> AV} {P : α -> Prop} {t e : Nat} {cs : List AV} (hk : ∃ i, tab.t t = some i /\ i.desc = .slice e) (he : ∃ i, tab.t e = some i) (hA : aggT tab e = false) (hE : ∀ x, Ty tab e [x] -> ∃ a : α, x = enc a /\ P a) (h : Ty tab t cs) : ∃ l : List α, cs = [.lst .no (l.map enc)] /\ l.length <= 9223372036854775807 /\ ∀ a ∈ l, P a := by
 obtain ⟨i, h1, h2⟩ := hk
 obtain ⟨j, h3⟩ := he
 obtain ⟨es, rfl, hl, q1, q2⟩ := h.of_slc h1 h2 h3
 obtain ⟨l, rfl, hp⟩ := es_map (enc := enc) (P := P) (es := es) fun x hx => by
  have := (q2 x hx).2 hA
  have h4 := q1 x hx
  rw [this] at h4
  exact hE x h4
 exact ⟨l, rfl, by rw [List.length_map] at hl; exact hl, hp⟩
theorem tyC {cs : List AV} (h : Ty tab 60 cs) : ∃ c : Cd, AV.agg cs = encC c /\ okTC c := by
 obtain ⟨i, fs, h1, h2, h3, _⟩ := k60
 have hs := h.of_struct h1 h2
 obtain ⟨a, b, f2, rfl, t1, s1, e1⟩ := hs.split1 h3
 obtain ⟨c, d, f3, rfl, t2, s2, e2⟩ := s1.split1 e1
 obtain ⟨e, f, f4, rfl, t3, s3, e3⟩ := s2.split1 e2
 obtain ⟨g, k, f5, rfl, t4, s4, e4⟩ := s3.split1 e3
 have := s4.split0 e4
 subst this
 obtain ⟨n, rfl, hn⟩ := tyI t1
 obtain ⟨p, rfl, hp⟩ := tyI t2
 obtain ⟨m, rfl, hm⟩ := tyI t3
 obtain ⟨v, rfl, hv⟩ := tyV t4
 refine ⟨⟨n, p, m, v⟩, ?_, hn, hp, hm, hv⟩
 simp [encC, ci]
theorem tyP2 {cs : List AV} (h : Ty tab 62 cs) : ∃ p : Int × Int, AV.agg cs = encPr p /\ (i64B p.1 /\ i64B p.2) := by
 obtain ⟨i, fs, h1, h2, h3, _⟩ := k62
 have hs := h.of_struct h1 h2
 obtain ⟨a, b, f2, rfl, t1, s1, e1⟩ := hs.split1 h3
 obtain ⟨c, d, f3, rfl, t2, s2, e2⟩ := s1.split1 e1
 have := s2.split0 e2
 subst this
 obtain ⟨n, rfl, hn⟩ := tyI t1
 obtain ⟨m, rfl, hm⟩ := tyI t2
 exact ⟨⟨n, m⟩, rfl, hn, hm⟩
theorem tyCs {cs : List AV} (h : Ty tab 43 cs) : ∃ l : List Cd, cs = [.lst .no (l.map encC)] /\ ∀ e ∈ l, okTC e := by
 obtain ⟨j, _, h4, _, _, hA⟩ := k60
 obtain ⟨l, rfl, hl, hp⟩ := ty_slc (enc := encC) (P := okTC) k43 ⟨j, h4⟩ hA (fun cs h => tyC h) h
 exact ⟨l, rfl, hp⟩
theorem tyPs {cs : List AV} (h : Ty tab 44 cs) : ∃ l : List (Int × Int), cs = [.lst .no (l.map encPr)] /\ ∀ p ∈ l, i64B p.1 /\ i64B p.2 := by
 obtain ⟨j, _, h4, _, _, hA⟩ := k62
 obtain ⟨l, rfl, hl, hp⟩ := ty_slc (enc := encPr) (P := fun p => i64B p.1 /\ i64B p.2) k44 ⟨j, h4⟩ hA (fun cs h => tyP2 h) h
 exact ⟨l, rfl, hp⟩
theorem tyIs {cs : List AV} (h : Ty tab 45 cs) : ∃ l : List Int, cs = [.lst .no (l.map ci)] /\ ∀ n ∈ l, i64B n := by
 obtain ⟨i, h1, h2, hA⟩ := k45
 obtain ⟨j, h3, _⟩ := k3
 obtain ⟨l, rfl, hl, hp⟩ := ty_slc1 (enc := ci) (P := i64B) ⟨i, h1, h2⟩ ⟨j, h3⟩ hA (fun x h => by
  obtain ⟨n, e, hn⟩ := tyI h
  cases e
  exact ⟨n, rfl, hn⟩) h
 exact ⟨l, rfl, hp⟩
theorem tyPc {cs : List AV} (h : Ty tab 47 cs) : ∃ p : Pc, AV.agg cs = encP p /\ okNd (mkN [] p) := by
 obtain ⟨i, fs, h1, h2, h3, _⟩ := k47
 have hs := h.of_struct h1 h2
 obtain ⟨a0, b, f, rfl, t0, s, e0⟩ := hs.split1 h3
 obtain ⟨a1, b, f, rfl, t1, s, e1⟩ := s.split1 e0
 obtain ⟨a2, b, f, rfl, t2, s, e2⟩ := s.split1 e1
 obtain ⟨a3, b, f, rfl, t3, s, e3⟩ := s.split1 e2
 obtain ⟨a4, b, f, rfl, t4, s, e4⟩ := s.split1 e3
 obtain ⟨a5, b, f, rfl, t5, s, e5⟩ := s.split1 e4
 obtain ⟨a6, b, f, rfl, t6, s, e6⟩ := s.split1 e5
 obtain ⟨a7, b, f, rfl, t7, s, e7⟩ := s.split1 e6
 obtain ⟨a8, b, f, rfl, t8, s, e8⟩ := s.split1 e7
 obtain ⟨a9, b, f, rfl, t9, s, e9⟩ := s.split1 e8
 have := s.split0 e9
 subst this
 obtain ⟨k, rfl, hk⟩ := tyI t0
 obtain ⟨nm, rfl, _⟩ := tyS t1
 obtain ⟨w, rfl, hw⟩ := tyI t2
 obtain ⟨cs, rfl, hcs⟩ := tyCs t3
 obtain ⟨ps, rfl, hps⟩ := tyPs t4
 obtain ⟨cl, rfl, hcl⟩ := tyIs t5
 obtain ⟨ag, rfl, hag⟩ := tyI t6
 obtain ⟨of, rfl, hof⟩ := tyI t7
 obtain ⟨l, rfl, _⟩ := tyI t8
 obtain ⟨r, rfl, _⟩ := tyI t9
 exact ⟨⟨k, nm, w, cs, ps, cl, ag, of, l, r⟩, rfl, hk, hw, hag, hof, hcs, hps, hcl, lk_P (fun _ h => by cases h) trivial, lk_P (fun _ h => by cases h) trivial⟩
theorem argPcs {a : AV} (h : ArgT tab 22 a) : ∃ l : List Pc, a = .lst .no (l.map encP) /\ ∀ p ∈ l, okNd (mkN [] p) := by
 obtain ⟨i, h1, h2⟩ := k22
 obtain ⟨j, _, h3, _, _, hA⟩ := k47
 cases h with
 | agg i2 fs2 cs g1 g2 g3 => rw [h1] at g1; cases g1; rw [h2] at g2; cases g2
 | one _ hc _ =>
  obtain ⟨l, e, hl, hp⟩ := ty_slc (enc := encP) (P := fun p => okNd (mkN [] p)) ⟨i, h1, h2⟩ ⟨j, h3⟩ hA (fun cs h => tyPc h) hc
  cases e
  exact ⟨l, rfl, hp⟩
 | any g =>
  rcases g with g | ⟨i2, g, g2⟩ <;> (rw [h1] at g; cases g)
  rw [h2] at g2; cases g2
theorem u22 : Tryz.prog.underlying 22 = some (.slice 47) := by kernel_rfl
theorem b47 : Tryz.prog.bytesOf 47 = 136 := by kernel_rfl
theorem szdPcs {ts : List Nat} {xs : List AV} (h : Szd Tryz.prog ts xs) {j : Nat} (hj : ts[j]? = some 22) {l : List Pc} (ha : xs[j]? = some (.lst .no (l.map encP))) : l.length <= 1100000000000 := by
 have := h j 22 47 .no _ hj u22 ha
 rw [b47, List.length_map] at this
 have h2 : reachBytes = 140737488351232 := rfl
 omega
theorem walk3 (q : Int) : WalkG Tryz.prog tab (glK q) 3 [22] := by
 intro args h hz
 obtain ⟨a, l, rfl, h1, h⟩ := h.inv
 obtain rfl := h.inv_nil
 obtain ⟨k, rfl, ok⟩ := argPcs h1
 exact lawKeys (szdPcs hz (j := 0) rfl rfl) ok
theorem gP10 : Tryz.prog.globalNamed "internal/strconv.uint64pow10" = some 5 := by kernel_rfl
theorem tP10 : (Tryz.prog.globals[5]?).map (·.type) = some 206 := by kernel_rfl
theorem u206 : Tryz.prog.underlying 206 = some (.array 20 149) := by kernel_rfl
theorem u149 : Tryz.prog.underlying 149 = some (.int .u64) := by kernel_rfl
theorem c149 : Tryz.prog.cellsOf 149 = 1 := by kernel_rfl
theorem c206 : Tryz.prog.cellsOf 206 = 20 := by kernel_rfl
theorem int_of_shape {P : Program} {w : World} {g : Nat} {t : TypeId} {zero : Array Value} {k : IntKind} (h : w.ShapedOpen P) (hg : g < P.globals.size)
  (h0 : ((begin P (fun _ _ => 0) default).world.heap[g]?).bind Obj.row? = some (zero, t)) (hz : zero.size = 1)
  (hb : P.buildable t = true) (hc : P.cellTypes P.depth t = some [t]) (hu : P.underlying t = some (.int k)) : ∃ n, w.heap[g]? = some (.cells #[.int k n] t) := by
 obtain ⟨cs, hh, hs, hr⟩ := h.1 g zero t hg h0
 obtain ⟨ts, hts, _, hall⟩ := hr hb
 rw [hc] at hts
 cases hts
 have h1 : 0 < cs.size := by omega
 obtain ⟨u, hu', hok⟩ := hall 0 cs[0] (by simp [h1])
 have : u = t := by simpa using hu'.symm
 subst this
 unfold Cell.ok at hok
 rw [hu] at hok
 cases hv : cs[0] with
 | int k' n =>
  rw [hv] at hok
  obtain ⟨rfl, _⟩ := hok
  refine ⟨n, ?_⟩
  rw [hh]
  have : cs = #[.int k' n] := by
   apply Array.ext (by simp; omega)
   intro i hi1 hi2
   have : i = 0 := by simp at hi2; omega
   subst this
   simpa using hv
  rw [this]
 | _ => rw [hv] at hok; simp at hok
theorem gMax {W : World} (h : W.ShapedOpen Tryz.prog) : ∃ n, W.heap[0]? = some (.cells #[.int .i64 n] 3) :=
 int_of_shape h (zero := #[.int .i64 0]) (of_decide_eq_true (by kernel_rfl)) (by kernel_rfl) rfl (by kernel_rfl) (by kernel_rfl) (by kernel_rfl)
theorem glOk {W : World} (hL : laidMet Tryz.prog Rows.shapeAlikeRow.laid W) (hS : W.ShapedOpen Tryz.prog) : ∃ q, GlOk (env0 (fun _ => undef) W) (glK q) := by
 obtain ⟨n, hn⟩ := gMax hS
 refine ⟨n, fun g v hg => ?_⟩
 have h5 : Go.Lib.TabIs Tryz.prog W "internal/strconv.uint64pow10" .u64 (pow10T.map fun (n : Nat) => Int.ofNat n) :=
  Go.Lib.tabIs_of_head (rest := _) gP10 tP10 u206 u149 c149 c206 hL.tail.tail
 unfold glK at hg
 rw [Tr.get_put] at hg
 by_cases e5 : g = 5
 ·rw [if_pos e5] at hg
  subst e5
  cases hg
  have := gl_tab (q := fun _ => undef) gP10 h5
  rw [List.map_map] at this
  exact this
 ·rw [if_neg e5, Tr.get_put] at hg
  by_cases e0 : g = 0
  ·rw [if_pos e0] at hg
   subst e0
   cases hg
   exact vr_glob hn (.cons _ _ _ _ (.lit _) .nil)
  ·rw [if_neg e0] at hg; cases hg
end Go.Proofs.YtcledcfeddlomaaGreatDoor.Ev
