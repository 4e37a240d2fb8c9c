import Derived.Test.YtcledcfeddlomaaGreatDoorEvA
import Derived.Test.YtcledcfeddlomaaGreatDoorEvL
import Derived.WideShapes
set_option linter.all false
namespace Go.Proofs.YtcledcfeddlomaaGreatDoor.Ev
open Go.RowKit Go.ChangeShapes Go.WideShapes Go.ChangeAt
def othD : TypeDesc -> Bool
 | .bool => false | .int _ => false | .string => false | .pointer _ => false | .slice _ => false | .struct _ => false | _ => true
inductive ArgT (T : Tab) (t : Nat) : AV -> Prop where
 | agg (i : TI) (fs : Array Field) (cs : List AV) (h : T.t t = some i) (hd : i.desc = .struct fs) (hc : Ty T t cs) : ArgT T t (.agg cs)
 | one (a : AV) (hc : Ty T t [a]) (hs : ∀ i fs, T.t t = some i -> i.desc ≠ .struct fs) : ArgT T t a
 | any (h : T.t t = none ∨ ∃ i, T.t t = some i /\ othD i.desc = true) : ArgT T t .any
inductive ArgsT (T : Tab) : List Nat -> List AV -> Prop where
 | nil : ArgsT T [] []
 | cons (t : Nat) (ts : List Nat) (a : AV) (as : List AV) (h : ArgT T t a) (hs : ArgsT T ts as) : ArgsT T (t :: ts) (a :: as)
section
variable {P : Program} {T : Tab}
theorem VRs.one {β : Env} {as : List AV} {v : Value} (h : VRs β as [v]) : ∃ a, as = [a] /\ VR β a v := by
 cases h with
 | cons a l _ _ h1 h2 => cases h2; exact ⟨a, rfl, h1⟩
theorem arg_vr (hT : TOk P T) (hC : ∀ t i, T.t t = some i -> chkS T t i = true) {H : Type} {enc : TypeId × Value -> H} (q : Nat -> Value) (W : World) {sp : Nat -> Bool} {held : Bool} {base fuel t : Nat} {v : Value} {x : DataW H × List MemPlace} (hok : Value.okWide P W .any base t v) (h : DataW.trod enc P W 0 sp held fuel t v.cells.toList = some x) :
  ∃ a, VR (env0 q W) a v /\ ArgT T t a := by
 obtain ⟨as, h1, h2⟩ := arg_rel hT hC q W fuel t _ _ h
 cases ht : T.t t with
 | none => exact ⟨.any, .any _, .any (.inl ht)⟩
 | some i =>
  have hu := (hT.ty t i ht).1
  have fin1 : (v.cells.toList = [v]) -> (∀ fs, i.desc ≠ .struct fs) -> ∃ a, VR (env0 q W) a v /\ ArgT T t a := by
   intro hv hn
   rw [hv] at h1
   obtain ⟨a, rfl, h3⟩ := h1.one
   exact ⟨a, h3, .one a h2 (fun i' fs h4 => by rw [ht] at h4; cases h4; exact hn fs)⟩
  cases hd : i.desc with
  | bool => rw [hd] at hu; obtain ⟨b, rfl⟩ := okWide_bool hu hok; exact fin1 rfl (fun fs e => by rw [hd] at e; cases e)
  | int k => rw [hd] at hu; obtain ⟨b, rfl⟩ := okWide_int hu hok; exact fin1 rfl (fun fs e => by rw [hd] at e; cases e)
  | string => rw [hd] at hu; obtain ⟨b, rfl⟩ := okWide_string hu hok; exact fin1 rfl (fun fs e => by rw [hd] at e; cases e)
  | pointer e => rw [hd] at hu; obtain ⟨b, rfl⟩ := okWide_pointer hu hok; exact fin1 rfl (fun fs e => by rw [hd] at e; cases e)
  | slice e => rw [hd] at hu; obtain ⟨a, b, c, rfl⟩ := okWide_slice hu hok; exact fin1 rfl (fun fs e => by rw [hd] at e; cases e)
  | struct fs =>
   rw [hd] at hu
   obtain ⟨cs, rfl, _⟩ := okWide_struct hu hok
   refine ⟨.agg as, ?_, .agg i fs as ht hd h2⟩
   have := VR.agg as cs.toList h1
   simpa using this
  | _ => exact ⟨.any, .any _, .any (.inr ⟨i, ht, by rw [hd]; rfl⟩)⟩
theorem args_vr (hT : TOk P T) (hC : ∀ t i, T.t t = some i -> chkS T t i = true) {H : Type} {enc : TypeId × Value -> H} (q : Nat -> Value) (W : World) {sp : Nat -> Bool} {held : Bool} {base : Nat} : ∀ {ts : List Nat} {vs : List Value} {ds : List (DataW H)} {ps : List MemPlace}, DataW.TrodAll enc P W 0 sp held ts vs ds ps ->
  (∀ (j : Nat) t v, ts[j]? = some t -> vs[j]? = some v -> Value.okWide P W .any base t v) -> ∃ as, VRs (env0 q W) as vs /\ ArgsT T ts as
 | [], [], [], _, _, _ => ⟨[], .nil, .nil⟩
 | t :: ts, v :: vs, d :: ds, ps, ⟨p, q', ⟨fuel, h⟩, h2, _⟩, hok => by
  obtain ⟨a, r1, r2⟩ := arg_vr hT hC q W (hok 0 t v rfl rfl) h
  obtain ⟨as, s1, s2⟩ := args_vr hT hC q W h2 (fun j t' v' h3 h4 => hok (j + 1) t' v' (by simpa using h3) (by simpa using h4))
  exact ⟨a :: as, .cons _ _ _ _ r1 s1, .cons _ _ _ _ r2 s2⟩
 | [], [], _ :: _, _, h, _ => h.elim
 | [], _ :: _, _, _, h, _ => h.elim
 | _ :: _, [], _, _, h, _ => h.elim
 | _ :: _, _ :: _, [], _, h, _ => h.elim
theorem ArgsT.inv {t : Nat} {ts : List Nat} {as : List AV} (h : ArgsT T (t :: ts) as) : ∃ a l, as = a :: l /\ ArgT T t a /\ ArgsT T ts l := by
 cases h with
 | cons _ _ a l h hs => exact ⟨a, l, rfl, h, hs⟩
theorem ArgsT.inv_nil {as : List AV} (h : ArgsT T [] as) : as = [] := by cases h; rfl
variable {t : Nat} {i : TI} {a : AV}
theorem ArgT.of_int {k : IntKind} (h : ArgT T t a) (ht : T.t t = some i) (hd : i.desc = .int k) : ∃ n, a = .lit (.int k n) /\ (Lit.int k n).wf = true := by
 cases h with
 | agg i2 fs cs h hd2 _ => rw [ht] at h; cases h; rw [hd] at hd2; cases hd2
 | one _ hc _ => obtain ⟨n, e, hn⟩ := hc.of_int ht hd; cases e; exact ⟨n, rfl, hn⟩
 | any h => rcases h with h | ⟨i2, h, h2⟩ <;> (rw [ht] at h; cases h); rw [hd] at h2; cases h2
theorem ArgT.of_bool (h : ArgT T t a) (ht : T.t t = some i) (hd : i.desc = .bool) : ∃ n, a = .lit (.bool n) := by
 cases h with
 | agg i2 fs cs h hd2 _ => rw [ht] at h; cases h; rw [hd] at hd2; cases hd2
 | one _ hc _ => obtain ⟨n, e⟩ := hc.of_bool ht hd; cases e; exact ⟨n, rfl⟩
 | any h => rcases h with h | ⟨i2, h, h2⟩ <;> (rw [ht] at h; cases h); rw [hd] at h2; cases h2
theorem ArgT.of_str (h : ArgT T t a) (ht : T.t t = some i) (hd : i.desc = .string) : ∃ l, a = .str l /\ l.length <= maxLen := by
 cases h with
 | agg i2 fs cs h hd2 _ => rw [ht] at h; cases h; rw [hd] at hd2; cases hd2
 | one _ hc _ => obtain ⟨n, e, hl⟩ := hc.of_str ht hd; cases e; exact ⟨n, rfl, hl⟩
 | any h => rcases h with h | ⟨i2, h, h2⟩ <;> (rw [ht] at h; cases h); rw [hd] at h2; cases h2
theorem ArgT.of_slc {e : Nat} {ei : TI} (h : ArgT T t a) (ht : T.t t = some i) (hd : i.desc = .slice e) (he : T.t e = some ei) :
  ∃ es, a = .lst .no es /\ es.length <= maxLen /\ (∀ x ∈ es, Ty T e x.cells) /\ (∀ x ∈ es, (aggT T e = true -> ∃ cs, x = .agg cs) /\ (aggT T e = false -> x.cells = [x])) := by
 cases h with
 | agg i2 fs cs h hd2 _ => rw [ht] at h; cases h; rw [hd] at hd2; cases hd2
 | one _ hc _ => obtain ⟨es, e', h1, h2, h3⟩ := hc.of_slc ht hd he; cases e'; exact ⟨es, rfl, h1, h2, h3⟩
 | any h => rcases h with h | ⟨i2, h, h2⟩ <;> (rw [ht] at h; cases h); rw [hd] at h2; cases h2
theorem ArgT.of_struct {fs : Array Field} (h : ArgT T t a) (ht : T.t t = some i) (hd : i.desc = .struct fs) : ∃ cs, a = .agg cs /\ TyS T fs.toList cs := by
 cases h with
 | agg i2 fs cs h hd2 hc => exact ⟨cs, rfl, hc.of_struct ht hd⟩
 | one _ hc hs => exact (hs _ _ ht hd).elim
 | any h => rcases h with h | ⟨i2, h, h2⟩ <;> (rw [ht] at h; cases h); rw [hd] at h2; cases h2
end
end Go.Proofs.YtcledcfeddlomaaGreatDoor.Ev
