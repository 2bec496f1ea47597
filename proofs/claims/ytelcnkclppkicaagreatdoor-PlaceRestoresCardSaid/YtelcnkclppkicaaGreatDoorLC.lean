/- The input of the statements about manifests, opened. -/
import Derived.Test.YtelcnkclppkicaaGreatDoorLD
import Derived.Test.YtelcnkclppkicaaGreatDoorG5
import Derived.Test.YtelcnkclppkicaaGreatDoorG1
set_option linter.unusedSimpArgs false
set_option linter.unusedVariables false
namespace Go.Proofs.YtelcnkclppkicaaGreatDoor
open Go Go.Eng Go.Proofs Go.ChangeShapes Go.WideShapes Go.ChangeAt Go.RowKit
theorem q83:Tryz.prog.underlying 29 = some (.slice 3):=by kernel_rfl
theorem qBa:qje Tryz.prog 3 3 = some kI:=by kernel_rfl
theorem q7P:Tryz.prog.cellsOf 3 = kI.length:=by kernel_rfl
theorem q8K:Tryz.prog.cellsOf 29 = 1:=by kernel_rfl
theorem q9m:Tryz.prog.bytesOf 3 = 8:=by kernel_rfl
theorem q3i {W:World} {r:Option Addr} {rows:List (List Value)} (h:qjy W kI r rows):({ d:=rows }:U).good:=q2W h
section
variable {H:Type} {enc:TypeId × Value->H} {W:World} {base b:Nat} {sp:Nat->Bool}
end
theorem q43 {W:World} {r:Option Addr} {rows:List (List Value)} (h:qjy W kI r rows):∀ row ∈ rows,row.length = 1:=fun row hr=>by
 obtain ⟨j,hj⟩:=jbd hr
 exact (qwQ h hj).1
end Go.Proofs.YtelcnkclppkicaaGreatDoor
