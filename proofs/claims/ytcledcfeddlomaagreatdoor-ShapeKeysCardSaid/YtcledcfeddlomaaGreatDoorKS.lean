import Derived.Test.YtcledcfeddlomaaGreatDoorTabS
import Derived.Test.YtcledcfeddlomaaGreatDoorEvK
import Derived.KernelRfl
set_option linter.all false
set_option maxRecDepth 100000
namespace Go.Proofs.YtcledcfeddlomaaGreatDoor.Ev
open Go Go.Proofs.YtcledcfeddlomaaGreatDoor.Ev Go.Proofs Go.Proofs.YtcledcfeddlomaaGreatDoor Go.Proofs.YtcledcfeddlomaaGreatDoor.Tab
def glK (m : Int) : Tr (Option AV) := Tr.put none (Tr.put none .lf 0 (some (.eptr [.lit (.int .i64 m)]))) 5 (some (.eptr (pow10T.map fun (n : Nat) => AV.lit (Value.int .u64 (Int.ofNat n)))))
theorem kn9 (m : Int) : isoF (ev tab 1000) tab fi9 ⟨true, true, glK m⟩ [] = some (.lit (.bool true)) := by kernel_rfl
end Go.Proofs.YtcledcfeddlomaaGreatDoor.Ev
