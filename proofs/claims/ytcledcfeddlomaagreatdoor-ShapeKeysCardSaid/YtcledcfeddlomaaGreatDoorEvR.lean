import Derived.Test.YtcledcfeddlomaaGreatDoorEvK
set_option linter.all false
namespace Go.Proofs.YtcledcfeddlomaaGreatDoor.Ev
open Go.RowKit
section
variable {T : Tab} {α : Type}
variable {ro : Option Nat} {F : AX -> AS -> Option α} {K : List Fr} {s : AS}
end
end Go.Proofs.YtcledcfeddlomaaGreatDoor.Ev
