import Derived.Test.YtancionamhenmaaGreatFK
import Derived.Test.YtancionamhenmaaGreatEvG
set_option linter.all false
set_option maxRecDepth 100000
set_option maxHeartbeats 4000000
namespace Go.Proofs.YtancionamhenmaaGreat.Ev
open Go Go.Proofs.YtancionamhenmaaGreat.Ev Go.Proofs Go.Proofs.YtancionamhenmaaGreat Go.Proofs.YtancionamhenmaaGreat.Tab
theorem TyS.split1 {T : Tab} {fs : List Field} {as' : List AV} {t : Nat} {ts : List Nat} (hf : fs.map (fun f => f.type) = t :: ts) (h : TyS T fs as') : ∃ a b fs', as' = a ++ b /\ Ty T t a /\ TyS T fs' b /\ fs'.map (fun f => f.type) = ts := by
 cases fs with
 | nil => cases hf
 | cons f fs =>
  simp only [List.map_cons, List.cons.injEq] at hf
  obtain ⟨rfl, rfl⟩ := hf
  obtain ⟨a, b, e, h1, h2⟩ := h.of_cons
  exact ⟨a, b, fs, e, h1, h2, rfl⟩
theorem TyS.split0 {T : Tab} {fs : List Field} {as' : List AV} (hf : fs.map (fun f => f.type) = []) (h : TyS T fs as') : as' = [] := by
 cases fs with
 | nil => exact h.of_nil
 | cons f fs => cases hf
theorem es_map {α : Type} {enc : α -> AV} {P : α -> Prop} : ∀ {es : List AV}, (∀ x ∈ es, ∃ a, x = enc a /\ P a) -> ∃ l : List α, es = l.map enc /\ ∀ a ∈ l, P a
 | [], _ => ⟨[], rfl, by simp⟩
 | x :: es, h => by
  obtain ⟨a, rfl, ha⟩ := h x (by simp)
  obtain ⟨l, rfl, hl⟩ := es_map (enc := enc) (P := P) (es := es) fun y hy => h y (List.mem_cons_of_mem _ hy)
  exact ⟨a :: l, rfl, fun b hb => by rcases List.mem_cons.1 hb with rfl | hb; exact ha; exact hl b hb⟩
theorem k3 : ∃ i, tab.t 3 = some i /\ i.desc = .int .i64 := ⟨_, rfl, rfl⟩
theorem k2 : ∃ i, tab.t 2 = some i /\ i.desc = .int .i64 := ⟨_, rfl, rfl⟩
theorem k4 : ∃ i, tab.t 4 = some i /\ i.desc = .bool := ⟨_, rfl, rfl⟩
theorem k9 : ∃ i, tab.t 9 = some i /\ i.desc = .string := ⟨_, rfl, rfl⟩
theorem k47 : ∃ i fs, tab.t 47 = some i /\ i.desc = .struct fs /\ fs.toList.map (fun f => f.type) = [3, 4, 2, 9] /\ aggT tab 47 = true := ⟨_, _, rfl, rfl, rfl, rfl⟩
theorem k43 : ∃ i, tab.t 43 = some i /\ i.desc = .slice 47 := ⟨_, rfl, rfl⟩
theorem k45 : ∃ i fs, tab.t 45 = some i /\ i.desc = .struct fs /\ fs.toList.map (fun f => f.type) = [43, 2] /\ aggT tab 45 = true := ⟨_, _, rfl, rfl, rfl, rfl⟩
theorem k33 : ∃ i, tab.t 33 = some i /\ i.desc = .slice 45 := ⟨_, rfl, rfl⟩
theorem k37 : ∃ i fs, tab.t 37 = some i /\ i.desc = .struct fs /\ fs.toList.map (fun f => f.type) = [33, 33] /\ aggT tab 37 = true := ⟨_, _, rfl, rfl, rfl, rfl⟩
theorem k23 : ∃ i, tab.t 23 = some i /\ i.desc = .slice 37 := ⟨_, rfl, rfl⟩
theorem k50 : ∃ i fs, tab.t 50 = some i /\ i.desc = .struct fs /\ fs.toList.map (fun f => f.type) = [3, 3] /\ aggT tab 50 = true := ⟨_, _, rfl, rfl, rfl, rfl⟩
theorem k22 : ∃ i, tab.t 22 = some i /\ i.desc = .slice 50 := ⟨_, rfl, rfl⟩
theorem tyI {cs : List AV} (h : Ty tab 3 cs) : ∃ n, cs = [.lit (.int .i64 n)] := by
 obtain ⟨i, h1, h2⟩ := k3
 obtain ⟨n, e, _⟩ := h.of_int h1 h2
 exact ⟨n, e⟩
theorem tyJ {cs : List AV} (h : Ty tab 2 cs) : ∃ n : Int, cs = [.lit (.int .i64 n)] /\ -9223372036854775808 <= n /\ n <= 9223372036854775807 := by
 obtain ⟨i, h1, h2⟩ := k2
 obtain ⟨n, e, hw⟩ := h.of_int h1 h2
 refine ⟨n, e, ?_⟩
 simp [Lit.wf, IntKind.signed, IntKind.bits, IntKind.min, IntKind.max] at hw
 omega
theorem tyB {cs : List AV} (h : Ty tab 4 cs) : ∃ n, cs = [.lit (.bool n)] := by
 obtain ⟨i, h1, h2⟩ := k4
 exact h.of_bool h1 h2
theorem tyS {cs : List AV} (h : Ty tab 9 cs) : ∃ l, cs = [.str l] /\ l.length <= 9223372036854775807 := by
 obtain ⟨i, h1, h2⟩ := k9
 exact h.of_str h1 h2
def OkW (v : Vl) : Prop := OkN v /\ v.s.length <= 9223372036854775807
theorem tyV {cs : List AV} (h : Ty tab 47 cs) : ∃ v : Vl, cs = v.cs /\ OkW v := by
 obtain ⟨i, fs, h1, h2, h3, _⟩ := k47
 have hs := h.of_struct h1 h2
 obtain ⟨a, b, f2, rfl, t1, s1, e1⟩ := hs.split1 h3
 obtain ⟨c, d, f3, rfl, t2, s2, e2⟩ := s1.split1 e1
 obtain ⟨e, f, f4, rfl, t3, s3, e3⟩ := s2.split1 e2
 obtain ⟨g, k, f5, rfl, t4, s4, e4⟩ := s3.split1 e3
 have := s4.split0 e4
 subst this
 obtain ⟨n, rfl⟩ := tyI t1
 obtain ⟨p, rfl⟩ := tyB t2
 obtain ⟨m, rfl, hm⟩ := tyJ t3
 obtain ⟨l, rfl, hl⟩ := tyS t4
 exact ⟨⟨n, p, m, l⟩, rfl, hm, hl⟩
theorem ty_slc {α : Type} {enc : α -> AV} {P : α -> Prop} {t e : Nat} {cs : List AV} (hk : ∃ i, tab.t t = some i /\ i.desc = .slice e) (he : ∃ i, tab.t e = some i) (hA : aggT tab e = true) (hE : ∀ cs, Ty tab e cs -> ∃ a : α, AV.agg cs = enc a /\ P a) (h : Ty tab t cs) : ∃ l : List α, cs = [.lst .no (l.map enc)] /\ l.length <= 9223372036854775807 /\ ∀ a ∈ l, P a := by
 obtain ⟨i, h1, h2⟩ := hk
 obtain ⟨j, h3⟩ := he
 obtain ⟨es, rfl, hl, q1, q2⟩ := h.of_slc h1 h2 h3
 obtain ⟨l, rfl, hp⟩ := es_map (enc := enc) (P := P) (es := es) fun x hx => by
  obtain ⟨c, rfl⟩ := (q2 x hx).1 hA
  exact hE c (q1 _ hx)
 exact ⟨l, rfl, by rw [List.length_map] at hl; exact hl, hp⟩
theorem tyR {cs : List AV} (h : Ty tab 43 cs) : ∃ r : Row, cs = [encR r] /\ ∀ v ∈ r, OkW v := by
 obtain ⟨j, _, h3, _, _, hA⟩ := k47
 obtain ⟨l, rfl, hl, hp⟩ := ty_slc (enc := encV) (P := OkW) k43 ⟨j, h3⟩ hA (fun cs h => by obtain ⟨v, rfl, hv⟩ := tyV h; exact ⟨v, rfl, hv⟩) h
 exact ⟨l, rfl, hp⟩
theorem tyE {cs : List AV} (h : Ty tab 45 cs) : ∃ e : En, AV.agg cs = encE e /\ ∀ v ∈ e.r, OkW v := by
 obtain ⟨i, fs, h1, h2, h3, _⟩ := k45
 have hs := h.of_struct h1 h2
 obtain ⟨a, b, f2, rfl, t1, s1, e1⟩ := hs.split1 h3
 obtain ⟨c, d, f3, rfl, t2, s2, e2⟩ := s1.split1 e1
 have := s2.split0 e2
 subst this
 obtain ⟨r, rfl, hr⟩ := tyR t1
 obtain ⟨n, rfl, _⟩ := tyJ t2
 exact ⟨⟨r, n⟩, rfl, hr⟩
theorem tyEs {cs : List AV} (h : Ty tab 33 cs) : ∃ l : List En, cs = [.lst .no (l.map encE)] /\ ∀ e ∈ l, ∀ v ∈ e.r, OkW v := by
 obtain ⟨j, _, h4, _, _, hA⟩ := k45
 obtain ⟨l, rfl, hl, hp⟩ := ty_slc (enc := encE) (P := fun e => ∀ v ∈ e.r, OkW v) k33 ⟨j, h4⟩ hA (fun cs h => tyE h) h
 exact ⟨l, rfl, hp⟩
theorem tyAc {cs : List AV} (h : Ty tab 37 cs) : ∃ p : Ac, AV.agg cs = encAc p /\ ∀ e, e ∈ p.x ∨ e ∈ p.y -> ∀ v ∈ e.r, OkW v := by
 obtain ⟨i, fs, h1, h2, h3, _⟩ := k37
 have hs := h.of_struct h1 h2
 obtain ⟨a, b, f2, rfl, t1, s1, e1⟩ := hs.split1 h3
 obtain ⟨c, d, f3, rfl, t2, s2, e2⟩ := s1.split1 e1
 have := s2.split0 e2
 subst this
 obtain ⟨x, rfl, hx⟩ := tyEs t1
 obtain ⟨y, rfl, hy⟩ := tyEs t2
 exact ⟨⟨x, y⟩, rfl, fun e he => he.elim (hx e) (hy e)⟩
theorem tyP {cs : List AV} (h : Ty tab 50 cs) : ∃ p : Pr, AV.agg cs = encP p /\ True := by
 obtain ⟨i, fs, h1, h2, h3, _⟩ := k50
 have hs := h.of_struct h1 h2
 obtain ⟨a, b, f2, rfl, t1, s1, e1⟩ := hs.split1 h3
 obtain ⟨c, d, f3, rfl, t2, s2, e2⟩ := s1.split1 e1
 have := s2.split0 e2
 subst this
 obtain ⟨n, rfl⟩ := tyI t1
 obtain ⟨m, rfl⟩ := tyI t2
 exact ⟨⟨n, m⟩, rfl, trivial⟩
theorem argPs {a : AV} (h : ArgT tab 22 a) : ∃ l : List Pr, a = .lst .no (l.map encP) := by
 obtain ⟨i, h1, h2⟩ := k22
 obtain ⟨j, _, h3, _, _, hA⟩ := k50
 cases h with
 | agg i2 fs2 cs g1 g2 g3 => rw [h1] at g1; cases g1; rw [h2] at g2; cases g2
 | one _ hc _ =>
  obtain ⟨l, e, hl, hp⟩ := ty_slc (enc := encP) (P := fun _ => True) ⟨i, h1, h2⟩ ⟨j, h3⟩ hA (fun cs h => tyP h) hc
  cases e
  exact ⟨l, rfl⟩
 | any g =>
  rcases g with g | ⟨i2, g, g2⟩ <;> (rw [h1] at g; cases g)
  rw [h2] at g2; cases g2
theorem argAcs {a : AV} (h : ArgT tab 23 a) : ∃ l : List Ac, a = .lst .no (l.map encAc) /\ OkArg l := by
 obtain ⟨i, h1, h2⟩ := k23
 obtain ⟨j, _, h3, _, _, hA⟩ := k37
 cases h with
 | agg i2 fs2 cs g1 g2 g3 => rw [h1] at g1; cases g1; rw [h2] at g2; cases g2
 | one _ hc _ =>
  obtain ⟨l, e, hl, hp⟩ := ty_slc (enc := encAc) (P := fun p => ∀ e, e ∈ p.x ∨ e ∈ p.y -> ∀ v ∈ e.r, OkW v) ⟨i, h1, h2⟩ ⟨j, h3⟩ hA (fun cs h => tyAc h) hc
  cases e
  exact ⟨l, rfl, hp⟩
 | any g =>
  rcases g with g | ⟨i2, g, g2⟩ <;> (rw [h1] at g; cases g)
  rw [h2] at g2; cases g2
theorem walk3 : WalkT Tryz.prog tab 3 [3, 3, 22, 23] := by
 intro args h
 obtain ⟨a, l, rfl, h1, h⟩ := h.inv
 obtain ⟨b, l, rfl, h2, h⟩ := h.inv
 obtain ⟨c, l, rfl, h3, h⟩ := h.inv
 obtain ⟨d, l, rfl, h4, h⟩ := h.inv
 obtain rfl := h.inv_nil
 obtain ⟨i, q1, q2⟩ := k3
 obtain ⟨n, rfl, _⟩ := h1.of_int q1 q2
 obtain ⟨k, rfl, _⟩ := h2.of_int q1 q2
 obtain ⟨ps, rfl⟩ := argPs h3
 obtain ⟨acs, rfl, ho⟩ := argAcs h4
 exact lawT ho
end Go.Proofs.YtancionamhenmaaGreat.Ev
