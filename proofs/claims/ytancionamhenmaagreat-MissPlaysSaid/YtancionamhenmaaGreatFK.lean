import Derived.Test.YtancionamhenmaaGreatTabB
import Derived.Test.YtancionamhenmaaGreatEvK
import Derived.KernelRfl
import Derived.Test.YtancionamhenmaaGreatFJ
set_option linter.all false
set_option maxRecDepth 100000
set_option maxHeartbeats 4000000
namespace Go.Proofs.YtancionamhenmaaGreat.Ev
open Go Go.Proofs.YtancionamhenmaaGreat.Ev Go.Proofs Go.Proofs.YtancionamhenmaaGreat Go.Proofs.YtancionamhenmaaGreat.Tab
theorem kn5 : isoF (ev tab 1000) tab fi5 ⟨true, true, .lf⟩ [] = some (.lit (.bool true)) := by kernel_rfl
theorem cKnown {H : Tr AO} {hs : Nat} : callF tab (evw tab) ⟨true, true, .lf⟩ 5 [] H hs = some (.lit (.bool true), H, hs) := by
 refine callF_iso tcon rfl rfl rfl ?_
 exact (good_isoF fi5 ⟨true, true, .lf⟩ []).1 _ _ _ (fun ro c s r h => evw_of (ev_mono tab) h) kn5
theorem lawT {a b : Int} {l : List Pr} {acs : List Ac} (ho : OkArg acs) :
  ∃ H' hs', callF tab (evw tab) ⟨true, true, .lf⟩ 3 [.lit (.int .i64 a), .lit (.int .i64 b), .lst .no (l.map encP), .lst .no (acs.map encAc)] .lf 0 = some (.lit (.bool true), H', hs') :=
 law (m := ⟨true, true, .lf⟩) ho (fun q _ => rfl) (fun H hs => cKnown)
end Go.Proofs.YtancionamhenmaaGreat.Ev
