import Derived.Test.YtbcecenneganeaaEvD6
set_option linter.all false
namespace Go.Proofs.Ytbcecenneganeaa.Ev
open Go.RowKit

theorem putsD_other (vals : Tr AV) (t : Nat) : ∀ (l : List Oper) (i : Nat) (t0 : Tr AV), (∀ (k : Nat) (o : Oper), l[k]? = some o → o.dst ≠ some t) → (putsD vals l i t0).get .any t = t0.get .any t
  | [], _, _, _ => rfl
  | o :: l, i, t0, h => by
    have h' : ∀ (k : Nat) (o : Oper), l[k]? = some o → o.dst ≠ some t := fun k o' hk => h (k + 1) o' (by simpa using hk)
    have h0 := h 0 o (by simp)
    simp only [putsD]
    cases hd : o.dst with
    | none => simp only; exact putsD_other vals t l (i + 1) t0 h'
    | some d =>
      simp only
      rw [putsD_other vals t l (i + 1) _ h', Tr.get_put, if_neg]
      rintro rfl
      exact h0 hd

theorem putsD_at (vals : Tr AV) (t : Nat) : ∀ (l : List Oper) (i : Nat) (t0 : Tr AV) (k0 : Nat) (o0 : Oper), l[k0]? = some o0 → o0.dst = some t → (∀ (k : Nat) (o : Oper), l[k]? = some o → o.dst = some t → k = k0) →
    (putsD vals l i t0).get .any t = vals.get .any (i + k0)
  | [], _, _, k0, o0, h, _, _ => by simp at h
  | o :: l, i, t0, 0, o0, h, hd, hu => by
    simp at h; subst h
    simp only [putsD, hd]
    rw [putsD_other vals t l (i + 1) _ (fun k o' hk hd' => by have := hu (k + 1) o' (by simpa using hk) hd'; omega), Tr.get_put, if_pos rfl]
    rfl
  | o :: l, i, t0, k0 + 1, o0, h, hd, hu => by
    have h0 : o.dst ≠ some t := fun e => by have := hu 0 o (by simp) e; omega
    have hr := fun t1 => putsD_at vals t l (i + 1) t1 k0 o0 (by simpa using h) hd (fun k o' hk hd' => by have := hu (k + 1) o' (by simpa using hk) hd'; omega)
    simp only [putsD]
    rw [show i + (k0 + 1) = i + 1 + k0 from by omega]
    cases o.dst with
    | none => exact hr _
    | some d => exact hr _

theorem lastLay_of : ∀ {ls : List Lay} {L : Lay}, lastLay ls = some L → ls[ls.length - 1]? = some L
  | [], _, h => by simp [lastLay] at h
  | [L0], L, h => by simpa [lastLay] using h
  | _ :: L1 :: l, L, h => by
    have := lastLay_of (ls := L1 :: l) (by simpa [lastLay] using h)
    simpa using this

theorem dstsOk_get {nt : Nat} : ∀ {l : List Oper}, dstsOk nt l = true → ∀ (k : Nat) (o : Oper) (d : Nat), l[k]? = some o → o.dst = some d → d < nt
  | [], _, k, o, d, h, _ => by simp at h
  | o0 :: l, h, k, o, d, hk, hd => by
    simp only [dstsOk, Bool.and_eq_true] at h
    cases k with
    | zero =>
      simp at hk; subst hk
      have := h.1
      rw [hd] at this
      exact blt_lt.1 this
    | succ k => exact dstsOk_get h.2 k o d (by simpa using hk) hd

theorem all_listed {ops : Array Oper} {ms : Tr Nat} (hM : MOk ops ms) {listed : Array Bool} (hs : listed.size = ops.size) (h : Region.ready .any ops listed = []) : ∀ i, i < ops.size → listed.getD i false = true := by
  intro i
  induction i using Nat.strongRecOn with
  | _ i ih =>
    intro hi
    cases hx : listed.getD i false with
    | true => rfl
    | false =>
      have hil : i < listed.size := by omega
      have : i ∈ Region.ready .any ops listed := mem_ready.2 ⟨by simp [hil] at hx ⊢; exact hx, ops[i], by simp [hi], fun e he hb => by
        have hlt := hM.lt i ops[i] (by simp [hi]) e he hb
        exact ih e.on hlt (by omega)⟩
      rw [h] at this; cases this

theorem none_ready {ops : Array Oper} {listed : Array Bool} (hs : listed.size = ops.size) (h : listed.toList.count false = 0) : Region.ready .any ops listed = [] := by
  cases hr : Region.ready .any ops listed with
  | nil => rfl
  | cons i l =>
    have hi : i ∈ Region.ready .any ops listed := by rw [hr]; simp
    obtain ⟨hun, o, ho, _⟩ := mem_ready.1 hi
    have hlt : i < listed.size := by rw [hs]; exact (Array.getElem?_eq_some_iff.1 ho).1
    simp [hlt] at hun
    have h0 : false ∉ listed.toList := List.count_eq_zero.1 h
    exact absurd (by rw [← hun]; simp) h0

section
variable {P : Program} {T : Tab} (hT : TSnd P T) {rec : Rec} (hR : Snd P rec)
include hT hR

theorem draw_all {D : DI} {ls : List Lay} {fs : List EffR} {vals : Tr AV} {aid own : Tr Nat} (hD : DCert T rec D ls fs vals aid own) {β0 : Env} {B : Gd} (n : Nat) (r : Option Nat) (Q : Exit → Act → World → Prop)
    (hQ : ∀ listed a W j L β, (∀ i, i < D.ops.size → listed.getD i false = true) → DInv D ls vals aid β0 B listed a W j L β → Q .normal a W) :
    ∀ (fuel : Nat) (listed : Array Bool) (a : Act) (W : World) (j : Nat) (L : Lay) (β : Env), listed.toList.count false ≤ fuel → DInv D ls vals aid β0 B listed a W j L β → wpAnyIn (FW r) n P .any D.ops Q fuel listed a W := by
  intro fuel
  induction fuel with
  | zero =>
    intro listed a W j L β hc hI
    have hr := none_ready hI.size (Nat.le_zero.1 hc)
    exact ⟨hr, hQ listed a W j L β (all_listed hD.m hI.size hr) hI⟩
  | succ fuel ih =>
    intro listed a W j L β hc hI
    refine ⟨fun hr => hQ listed a W j L β (all_listed hD.m hI.size hr) hI, fun i hi => ?_⟩
    refine draw_step hT hR hD hI hi n r Q _ fun a' W' j' L' β' hI' => ih _ a' W' j' L' β' ?_ hI'
    obtain ⟨hun, o, ho, _⟩ := mem_ready.1 hi
    have hlt : i < listed.size := by rw [hI.size]; exact (Array.getElem?_eq_some_iff.1 ho).1
    have hx : listed[i] = false := by simpa [hlt] using hun
    have hpos : 0 < listed.toList.count false := List.count_pos_iff.2 (by rw [← hx]; simp)
    rw [Array.toList_setIfInBounds, List.count_set (by simpa using hlt)]
    simp [hx]
    simp at hc hpos
    omega

theorem cert_rel {D : DI} {ls : List Lay} {fs : List EffR} {vals : Tr AV} {aid own : Tr Nat} (hD : DCert T rec D ls fs vals aid own) {ops : Array Oper} {s : AS} {L : Lay} (eops : D.ops = ops) (es0 : D.s0 = s) (hL : lastLay ls = some L) {L0 : Lay} {ls' : List Lay} (hls : ls = L0 :: ls') (hh0 : L0.h0 = s.heap) (hn0 : L0.n0 = s.hs)
    {β : Env} {B : Gd} {a : Act} {W : World} (hs : SR β B s a W) (id n : Nat) (r : Option Nat) (Q : Exit → Act → World → Prop)
    (hQ : ∀ β' a' W', Env.on β β' s.hs (lN L) → SR β' B { s with tmps := putsD vals ops.toList 0 s.tmps, heap := lH L, hs := lN L } a' W' → Q .normal a' W') : (Code.region id ops true).wpIn (FW r) n P Q a W := by
  have hlen := Runs.length hT hR hD
  rw [← eops]
  refine wpIn_region_any hT.mixed ?_
  have hI0 : DInv D ls vals aid β B (Array.replicate D.ops.size false) a { W with drawn := W.drawn + 1 } 0 L0 β := by
    have hfls : ∀ i, (Array.replicate D.ops.size false).getD i false = false := by
      intro i
      by_cases hi : i < D.ops.size <;> simp [hi]
    have hle : L0.n0 ≤ lN L0 := pushes_le _ _ _
    refine ⟨by rw [hls]; rfl, ⟨Env.le.refl _, fun _ _ => rfl, ?_⟩, ?_, by simp, ?_, ?_, ?_, ?_, ?_, ?_⟩
    · rw [es0]; omega
    · have := hs.w.drew (W.drawn + 1)
      rw [← hh0, ← hn0] at this
      exact this.pushes
    · intro i o hi; rw [hfls] at hi; cases hi
    · intro k e he; rw [hfls]; simp
    · rw [es0]; exact hs.f.size
    · intro t ht
      rw [es0] at ht
      have : tmL D.wt D.s0 vals (fun i => (Array.replicate D.ops.size false).getD i false) t = D.s0.tmps.get .any t := by
        unfold tmL
        split
        · rfl
        · simp only [hfls]; simp
      rw [this, es0]
      exact hs.f.get t ht
    · rw [es0]; exact hs.d
    · intro i o id2 ho hid _
      have := chkIds_get (aid_spec hD ho hid).2.1 0 L0 (by rw [hls]; rfl) (Nat.zero_le _)
      exact hs.w.dom id2 (by omega)
  refine draw_all hT hR hD n r Q ?_ _ _ _ _ _ _ _ ?_ hI0
  · intro listed a' W' j Lj β' hall hI
    have hj : j = D.es.length := by
      have h1 := (List.getElem?_eq_some_iff.1 hI.lay).1
      rcases Nat.lt_or_ge j D.es.length with hlt | hge
      · have h3 : D.es[j]? = some (D.es[j]'hlt) := by simp
        obtain ⟨_, o', _, _, _, _, ho', _⟩ := chkEff_get hD.eff j _ h3
        have := (hI.es j _ h3).1 (hall _ (Array.getElem?_eq_some_iff.1 ho').1)
        omega
      · omega
    have hLj : Lj = L := by
      have h1 := lastLay_of hL
      have h2 := hI.lay
      rw [hj] at h2
      rw [hlen.1, Nat.add_sub_cancel, h2] at h1
      exact Option.some.inj h1
    subst hLj
    have hon := hI.on
    rw [es0] at hon
    refine hQ β' a' W' (by simpa using hon) ⟨hI.w, ⟨by rw [hI.tsz, es0], fun t ht => ?_⟩, ?_⟩
    · have htm := hI.tm t (by rw [es0]; exact ht)
      have : (putsD vals ops.toList 0 s.tmps).get .any t = tmL D.wt D.s0 vals (fun i => listed.getD i false) t := by
        unfold tmL
        split
        · rename_i h0
          rw [putsD_other, es0]
          intro k o hk hd
          have := hD.w.to k o t (by rw [eops]; simpa using hk) hd
          omega
        · rename_i w hw
          obtain ⟨o0, ho0, hd0⟩ := hD.w.of t w hw
          rw [if_pos (hall w (Array.getElem?_eq_some_iff.1 ho0).1)]
          rw [putsD_at vals t ops.toList 0 s.tmps w o0 (by rw [eops] at ho0; simpa using ho0) hd0 fun k o hk hd => ?_, Nat.zero_add]
          have := hD.w.to k o t (by rw [eops]; simpa using hk) hd
          omega
      simp only
      rw [this]
      exact htm
    · have := hI.defs
      rw [es0] at this
      exact this
  · simp

theorem evDraw_rel {ops : Array Oper} {s s' : AS} {x : AX} (h : evDraw T rec ops s = some (x, s')) {β : Env} {B : Gd} {a : Act} {W : World} (hs : SR β B s a W) (id n : Nat) (r : Option Nat) (Q : Exit → Act → World → Prop)
    (hQ : ∀ β' a' W', Env.on β β' s.hs s'.hs → SR β' B s' a' W' → s'.nt = s.nt → Q (XR x) a' W') : (Code.region id ops true).wpIn (FW r) n P Q a W := by
  unfold evDraw at h
  split at h
  · rename_i ms wt hms hwt
    simp only at h
    split at h
    · rename_i ls fs vals aid hgo
      generalize hown : ownOf ops.size 0 aid .lf = own at h
      generalize hDd : (DI.mk ops ms wt (effIdx ops.toList 0) s) = D at h hgo
      split at h
      case h_2 => cases hb : (chain ms (effIdx ops.toList 0) && dstsOk s.nt ops.toList && chkEff D vals aid fs (effIdx ops.toList 0) && chkAll T D ls vals aid own ops.toList 0) <;> (rw [hb] at h; cases h)
      rename_i L hL
      cases hb : (chain ms (effIdx ops.toList 0) && dstsOk s.nt ops.toList && chkEff D vals aid fs (effIdx ops.toList 0) && chkAll T D ls vals aid own ops.toList 0) with
      | false => rw [hb] at h; cases h
      | true =>
        rw [hb, cond_true] at h
        cases h
        simp only [Bool.and_eq_true] at hb
        obtain ⟨⟨⟨b1, b2⟩, b3⟩, b4⟩ := hb
        obtain ⟨hruns, L0, ls', hls, hh0, hn0⟩ := drawGo_runs _ _ _ _ _ _ _ _ _ _ hgo
        have eops : D.ops = ops := by rw [← hDd]
        have ems : D.ms = ms := by rw [← hDd]
        have ewt : D.wt = wt := by rw [← hDd]
        have ees : D.es = effIdx ops.toList 0 := by rw [← hDd]
        have es0 : D.s0 = s := by rw [← hDd]
        rw [← ees] at hruns b1 b3
        rw [← eops] at b2 b4
        have hD : DCert T rec D ls fs vals aid own := by
          refine ⟨?_, ?_, hruns, ?_, b3, b4, ⟨L0, by rw [hls]; rfl, by rw [es0]; exact hh0, by rw [es0]; exact hn0⟩, ?_⟩
          · rw [eops, ems]; exact masks_ok hms
          · rw [eops, ewt]; exact writers_ok hwt
          · rw [ems]; exact b1
          · intro i o d ho hd
            rw [es0]
            exact dstsOk_get b2 i o d (by simpa using ho) hd
        refine cert_rel hT hR hD eops es0 hL hls hh0 hn0 hs id n r Q fun β' a' W' hon hsr => hQ β' a' W' hon hsr rfl
    · cases h
  · cases h

/-! ### By the text's order -/

omit hT hR in
theorem lays_get {l : List (Tr AO × Nat)} {k : Nat} {h : Tr AO × Nat} (hk : l[k]? = some h) : (lays l)[k]? = some ⟨h.1, h.2, []⟩ := by
  simp [lays, hk]

/-- What the operations that write do, of a run by the text's order. -/
theorem jrun_runs {D : DI} : ∀ (l : List Oper) (i : Nat) (q q' : JS), jrun T rec D l i q = some q' → (∀ k o, l[k]? = some o → D.ops[i + k]? = some o) →
    ∀ (pre : List (Tr AO × Nat)), q.hps = pre ++ [(q.H, q.hs)] → ∃ (hl : List (Tr AO × Nat)) (fl : List EffR), q'.hps = pre ++ hl ∧ q'.fs = q.fs ++ fl ∧ Runs T rec D (effIdx l i) (lays hl) fl ∧ hl[0]? = some (q.H, q.hs) ∧ hl.getLast? = some (q'.H, q'.hs)
  | [], i, q, q', h, _, pre, hp => by
    simp only [jrun, Option.some.injEq] at h
    subst h
    exact ⟨[(q.H, q.hs)], [], hp, by simp, .nil _, rfl, rfl⟩
  | o :: l, i, q, q', h, hat, pre, hp => by
    simp only [jrun] at h
    split at h
    · rename_i q1 hq1
      have ho : D.ops[i]? = some o := by simpa using hat 0 o rfl
      have hat' : ∀ k o', l[k]? = some o' → D.ops[i + 1 + k]? = some o' := fun k o' hk => by
        have := hat (k + 1) o' (by simpa using hk)
        rw [show i + 1 + k = i + (k + 1) from by omega]; exact this
      unfold jstep at hq1
      split at hq1
      · cases hq1
      · rename_i rv hrv
        have eff : ∀ {b : Bool} {r : Option (AV × Tr AO × Nat)}, cls o.op = 3 → wantd (stOf D rv q.H q.hs) D.ops o = some b → (b = false → r = some (udef, q.H, q.hs)) → (b = true → r = actOp T rec (stOf D rv q.H q.hs) o.op) → jeff q i rv r = some q1 →
            ∃ (hl : List (Tr AO × Nat)) (fl : List EffR), q'.hps = pre ++ hl ∧ q'.fs = q.fs ++ fl ∧ Runs T rec D (effIdx (o :: l) i) (lays hl) fl ∧ hl[0]? = some (q.H, q.hs) ∧ hl.getLast? = some (q'.H, q'.hs) := by
          intro b r hc hw hbf hbt hj
          unfold jeff at hj
          split at hj
          · rename_i v H1 hs1
            cases hj
            obtain ⟨hl, fl, e1, e2, e3, e4, e5⟩ := jrun_runs l (i + 1) _ q' h hat' (pre ++ [(q.H, q.hs)]) (by simp only; rw [hp])
            cases hl with
            | nil => simp at e4
            | cons h0 hl =>
              simp at e4
              subst e4
              refine ⟨(q.H, q.hs) :: (H1, hs1) :: hl, ⟨i, rv, v⟩ :: fl, by rw [e1]; simp, by rw [e2]; simp, ?_, rfl, ?_⟩
              · have hei : effIdx (o :: l) i = i :: effIdx l (i + 1) := by simp only [effIdx, hc]; rfl
                rw [hei]
                cases b with
                | false =>
                  have := hbf rfl
                  simp only [Option.some.injEq, Prod.mk.injEq] at this
                  obtain ⟨rfl, rfl, rfl⟩ := this
                  exact Runs.skip i o rv _ ⟨q.H, q.hs, []⟩ ⟨q.H, q.hs, []⟩ _ fl ho hw rfl rfl e3
                | true =>
                  exact Runs.act i o rv v _ ⟨q.H, q.hs, []⟩ ⟨H1, hs1, []⟩ _ fl ho hw (hbt rfl).symm e3
              · simpa using e5
          · cases hj
        have non : ∀ {r : Option AV}, cls o.op ≠ 3 → jput q i r = some q1 →
            ∃ (hl : List (Tr AO × Nat)) (fl : List EffR), q'.hps = pre ++ hl ∧ q'.fs = q.fs ++ fl ∧ Runs T rec D (effIdx (o :: l) i) (lays hl) fl ∧ hl[0]? = some (q.H, q.hs) ∧ hl.getLast? = some (q'.H, q'.hs) := by
          intro r hc hj
          unfold jput at hj
          split at hj
          · cases hj
            have hei : effIdx (o :: l) i = effIdx l (i + 1) := by
              simp only [effIdx]
              rw [beq_if, if_neg hc]
            rw [hei]
            exact jrun_runs l (i + 1) _ q' h hat' pre hp
          · cases hj
        cases hw : wantd (stOf D rv q.H q.hs) D.ops o with
        | none => rw [hw] at hq1; cases hq1
        | some b =>
          rw [hw] at hq1
          cases b with
          | false =>
            simp only [jgo] at hq1
            rw [beq_if] at hq1
            split at hq1
            · rename_i hc; exact eff hc hw (fun _ => rfl) (fun h => by cases h) hq1
            · rename_i hc; exact non hc hq1
          | true =>
            simp only [jgo] at hq1
            rw [beq_if] at hq1
            split at hq1
            · rename_i hc; exact eff hc hw (fun h => by cases h) (fun _ => rfl) hq1
            · rename_i hc; exact non hc hq1
    · cases h

omit hT hR in
theorem lastLay_lays : ∀ {l : List (Tr AO × Nat)} {h : Tr AO × Nat}, l.getLast? = some h → lastLay (lays l) = some ⟨h.1, h.2, []⟩
  | [], h, hl => by simp at hl
  | [a], h, hl => by simp at hl; subst hl; rfl
  | a :: b :: l, h, hl => by
    have := lastLay_lays (l := b :: l) (h := h) (by simpa using hl)
    simpa [lays, lastLay] using this

theorem evDrawJ_rel {ops : Array Oper} {s s' : AS} {x : AX} (h : evDrawJ T rec ops s = some (x, s')) {β : Env} {B : Gd} {a : Act} {W : World} (hs : SR β B s a W) (id n : Nat) (r : Option Nat) (Q : Exit → Act → World → Prop)
    (hQ : ∀ β' a' W', Env.on β β' s.hs s'.hs → SR β' B s' a' W' → s'.nt = s.nt → Q (XR x) a' W') : (Code.region id ops true).wpIn (FW r) n P Q a W := by
  unfold evDrawJ at h
  split at h
  · rename_i ms wt hms hwt
    split at h
    · rename_i q hq
      cases hb : (chain ms (effIdx ops.toList 0) && dstsOk s.nt ops.toList && chkEff ⟨ops, ms, wt, effIdx ops.toList 0, s⟩ q.vals .lf q.fs (effIdx ops.toList 0) && chkAll T ⟨ops, ms, wt, effIdx ops.toList 0, s⟩ (lays q.hps) q.vals .lf .lf ops.toList 0) with
      | false => rw [hb] at h; cases h
      | true =>
        rw [hb, cond_true] at h
        cases h
        simp only [Bool.and_eq_true] at hb
        obtain ⟨⟨⟨b1, b2⟩, b3⟩, b4⟩ := hb
        obtain ⟨hl, fl, e1, e2, e3, e4, e5⟩ := jrun_runs hT hR ops.toList 0 _ q hq (fun k o hk => by simpa using hk) [] rfl
        simp only [List.nil_append] at e1 e2
        subst e2
        rw [e1] at b4
        have hD : DCert T rec ⟨ops, ms, wt, effIdx ops.toList 0, s⟩ (lays hl) q.fs q.vals .lf .lf := by
          refine ⟨masks_ok hms, writers_ok hwt, e3, b1, b3, b4, ⟨_, lays_get e4, rfl, rfl⟩, fun i o d ho hd => dstsOk_get b2 i o d (by simpa using ho) hd⟩
        have hls : ∃ ls', lays hl = ⟨s.heap, s.hs, []⟩ :: ls' := by
          cases hl with
          | nil => simp at e4
          | cons h0 hl => simp at e4; subst e4; exact ⟨_, rfl⟩
        obtain ⟨ls', hls⟩ := hls
        exact cert_rel hT hR hD (L := ⟨q.H, q.hs, []⟩) rfl rfl (lastLay_lays e5) hls rfl rfl hs id n r Q fun β' a' W' hon hsr => hQ β' a' W' hon hsr rfl
    · cases h
  · cases h

theorem evDr_rel {ops : Array Oper} {s s' : AS} {x : AX} (h : evDr T rec ops s = some (x, s')) {β : Env} {B : Gd} {a : Act} {W : World} (hs : SR β B s a W) (id n : Nat) (r : Option Nat) (Q : Exit → Act → World → Prop)
    (hQ : ∀ β' a' W', Env.on β β' s.hs s'.hs → SR β' B s' a' W' → s'.nt = s.nt → Q (XR x) a' W') : (Code.region id ops true).wpIn (FW r) n P Q a W := by
  unfold evDr at h
  cases hu : useJ s.lm ops.toList with
  | true => rw [hu, cond_true] at h; exact evDrawJ_rel hT hR h hs id n r Q hQ
  | false => rw [hu, cond_false] at h; exact evDraw_rel hT hR h hs id n r Q hQ

end
end Go.Proofs.Ytbcecenneganeaa.Ev
