import Derived.Test.YtcledcfeddlomaaGreatDoorEvN3
import Derived.Test.YtcledcfeddlomaaGreatDoorTS
import Derived.KernelRfl
set_option linter.all false
set_option maxRecDepth 100000
namespace Go.Proofs.YtcledcfeddlomaaGreatDoor.Tab
open Go Go.Proofs.YtcledcfeddlomaaGreatDoor.Ev Go.Proofs Go.Proofs.YtcledcfeddlomaaGreatDoor
theorem nok22 : NatOk Tryz.prog 22 5 := natC_join ⟨Tryz.f22, bodyOf Tryz.f22, Tryz.func22, rfl, by decide⟩ Tryz.strings_Join_none Tryz.strings_Join
theorem nok69 : NatOk Tryz.prog 69 86 := natC_itoa (g := 5) ⟨Tryz.f69, bodyOf Tryz.f69, Tryz.func69, rfl, by decide⟩ (by kernel_rfl) (fun n h0 h1 w ht => Tryz.strconv_Itoa n h0 h1 w ht) (fun i hi w => by
 have h := Tryz.strconv_Itoa_small i hi w
 have e : Go.Lib.itoa (i : Int) = Go.Lib.decDigits i := by rw [Go.Lib.itoa, if_neg (by omega)]; rfl
 rw [e]; exact h)
theorem nok29 : NatOk Tryz.prog 29 7 := natC_split (g := 0) ⟨Tryz.f29, bodyOf Tryz.f29, Tryz.func29, rfl, by decide⟩ Tryz.strings_Split
theorem nok93 : NatOk Tryz.prog 93 8 := natC_atoi ⟨Tryz.f93, bodyOf Tryz.f93, Tryz.func93, rfl, by decide⟩ Tryz.strconv_Atoi
end Go.Proofs.YtcledcfeddlomaaGreatDoor.Tab
