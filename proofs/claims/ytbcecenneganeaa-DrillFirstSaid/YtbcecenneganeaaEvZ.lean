import Derived.Test.YtbcecenneganeaaEv19
set_option linter.all false
namespace Go.Proofs.Ytbcecenneganeaa.Ev
open Go.RowKit Go.Builtin

theorem nrms_map : ∀ l : List AV, nrms l = l.map nrm
  | [] => rfl
  | a :: l => by rw [nrms, nrms_map l]; rfl
theorem bares_all : ∀ l : List AV, bares l = l.all bare
  | [] => rfl
  | a :: l => by rw [bares, bares_all l]; rfl

/-- Cells of a value without rights. -/
theorem nrm_cells' : ∀ a : AV, (nrm a).cells = a.cells.map nrm
  | .agg cs => by simp only [nrm, AV.cells, nrms_map]
  | .lit v => by
    show (nrm (.lit v)).cells = [nrm (.lit v)]
    unfold nrm
    split <;> rfl
  | .str _ => rfl
  | .ptr _ _ => rfl
  | .slc _ _ _ _ => rfl
  | .emp => by simp [nrm, AV.cells]
  | .mp _ => rfl
  | .yld _ => rfl
  | .fn _ _ _ => by simp [nrm, AV.cells]
  | .ifc _ _ => by simp [nrm, AV.cells]
  | .tup _ => by simp [nrm, AV.cells]
  | .opq _ => rfl
  | .any => rfl
  | .lst _ _ => by simp [nrm, AV.cells]
  | .eptr _ => by simp [nrm, AV.cells]
  | .fmp _ => by simp [nrm, AV.cells]

theorem nrms_flat : ∀ l : List AV, (nrms l).flatMap AV.cells = nrms (l.flatMap AV.cells)
  | [] => rfl
  | a :: l => by
    rw [nrms, List.flatMap_cons, List.flatMap_cons, nrms_flat l, nrm_cells']
    rw [nrms_map, nrms_map, ← List.map_append]

/-- What is known of cells that never turn is known still; nothing else is asked. -/
structure Frz (β β' : Env) : Prop where
  q : β'.q = β.q
  fz : ∀ b o v, β.fz b o = some v → β'.fz b o = some v
  fm : ∀ r x, β.fm r = some x → β'.fm r = some x

theorem bares_flat : ∀ {es : List AV}, bares es = true → bares (es.flatMap AV.cells) = true
  | [], _ => rfl
  | a :: l, h => by
    simp only [bares, Bool.and_eq_true] at h
    rw [List.flatMap_cons, bares_all, List.all_append, ← bares_all, ← bares_all, bares_flat h.2, Bool.and_true]
    cases a <;> first | (simpa [AV.cells, bare, bares] using h.1) | (have := h.1; simp only [bare] at this; exact this)

mutual
theorem VR.nrm {β β' : Env} (hF : Frz β β') : ∀ {a : AV} {v : Value}, VR β a v → bare a = true → VR β' (nrm a) v
  | _, _, .lit v, _ => by
    unfold Ev.nrm
    split
    · exact .lstN _
    · exact .lit _
  | _, _, .str l, _ => .str l
  | _, _, .ptr .., h => by simp [bare] at h
  | _, _, .slcX .., h => by simp [bare] at h
  | _, _, .slcO .., h => by simp [bare] at h
  | _, _, .emp a c, _ => by simp only [Ev.nrm]; exact .lstE _ _ _ (fun e => by cases e) (fun o e => by cases e)
  | _, _, .mp .., h => by simp [bare] at h
  | _, _, .yld .., h => by simp [bare] at h
  | _, _, .fn f a b x y h1 h2, h => by
    simp only [bare, Bool.and_eq_true] at h
    simp only [Ev.nrm]
    exact .fn f _ _ x y (VRs.nrm hF h1 h.1) (VRs.nrm hF h2 h.2)
  | _, _, .ifc t a v hv, h => by
    simp only [bare] at h
    simp only [Ev.nrm]
    exact .ifc t _ v (VR.nrm hF hv h)
  | _, _, .agg a x hx, h => by
    simp only [bare] at h
    simp only [Ev.nrm]
    exact .agg _ x (VRs.nrm hF hx h)
  | _, _, .tup a x hx, h => by
    simp only [bare] at h
    simp only [Ev.nrm]
    exact .tup _ x (VRs.nrm hF hx h)
  | _, _, .opq k, _ => by
    simp only [Ev.nrm]
    rw [← hF.q]; exact .opq k
  | _, _, .any v, _ => .any v
  | _, _, .lstN tk, _ => by simp only [Ev.nrm]; exact .lstN _
  | _, _, .lstE tk a c h1 h2, _ => by simp only [Ev.nrm]; exact .lstE _ _ _ (fun e => by cases e) (fun o e => by cases e)
  | _, _, .lst tk sz es vs b o c h1 hl hz hv hc ht, h => by
    simp only [bare] at h
    simp only [Ev.nrm]
    have hlen : (nrms es).length = es.length := by rw [nrms_map, List.length_map]
    have := VR.lst (β := β') .no sz (nrms es) vs b o c (by rw [nrms_flat]; exact VRs.nrm hF h1 (bares_flat h)) (fun e he => by
      rw [nrms_map] at he
      obtain ⟨x, hx, rfl⟩ := List.mem_map.1 he
      rw [nrm_cells', List.length_map]; exact hl x hx) hz (fun i v hi => hF.fz _ _ _ (hv i v hi)) (by rw [hlen]; exact hc) trivial
    rw [hlen] at this; exact this
  | _, _, .eptr cs vs b o h1 hv, h => by
    simp only [bare] at h
    simp only [Ev.nrm]
    exact .eptr _ vs b o (VRs.nrm hF h1 h) (fun i v hi => hF.fz _ _ _ (hv i v hi))
  | _, _, .fmpN, _ => by simp only [Ev.nrm, nrmE]; exact .fmpN
  | _, _, .fmp es es' clk r h1 hf, h => by
    simp only [bare] at h
    simp only [Ev.nrm]
    exact .fmp _ es' clk r (ERel.nrm hF h1 h) (hF.fm _ _ hf)
theorem VRs.nrm {β β' : Env} (hF : Frz β β') : ∀ {a : List AV} {v : List Value}, VRs β a v → bares a = true → VRs β' (nrms a) v
  | _, _, .nil, _ => by simp only [nrms]; exact .nil
  | _, _, .cons a v l x hv ht, h => by
    simp only [bares, Bool.and_eq_true] at h
    simp only [nrms]
    exact .cons _ v _ x (VR.nrm hF hv h.1) (VRs.nrm hF ht h.2)
theorem ERel.nrm {β β' : Env} (hF : Frz β β') : ∀ {l : List (AV × AV × Nat)} {x : List MapEntry}, ERel β l x → bareE l = true → ERel β' (nrmE l) x
  | _, _, .nil, _ => by simp only [nrmE]; exact .nil
  | _, _, .cons a b n k v l x hk hv t, h => by
    simp only [bareE, Bool.and_eq_true] at h
    simp only [nrmE]
    exact .cons _ _ n k v _ x (VR.nrm hF hk h.1.1) (VR.nrm hF hv h.1.2) (ERel.nrm hF t h.2)
end

end Go.Proofs.Ytbcecenneganeaa.Ev
