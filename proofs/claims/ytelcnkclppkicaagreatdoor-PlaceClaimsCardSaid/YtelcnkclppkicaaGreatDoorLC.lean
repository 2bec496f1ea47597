/- The input of the statements about manifests, opened. -/
import Derived.Test.YtelcnkclppkicaaGreatDoorLD
import Derived.Test.YtelcnkclppkicaaGreatDoorG5
import Derived.Test.YtelcnkclppkicaaGreatDoorG1
set_option linter.unusedSimpArgs false
set_option linter.unusedVariables false
namespace Go.Proofs.YtelcnkclppkicaaGreatDoor
open Go Go.Eng Go.Proofs Go.ChangeShapes Go.WideShapes Go.ChangeAt Go.RowKit
theorem q7i:Tryz.prog.underlying 29 = some (.slice 3):=by kernel_rfl
theorem q9W:qiB Tryz.prog 3 3 = some kI:=by kernel_rfl
theorem q7f:Tryz.prog.cellsOf 3 = kI.length:=by kernel_rfl
theorem qy5:Tryz.prog.cellsOf 29 = 1:=by kernel_rfl
section
variable {H:Type} {enc:TypeId × Value->H} {W:World} {base b:Nat} {sp:Nat->Bool}
end
end Go.Proofs.YtelcnkclppkicaaGreatDoor
