/- The input of the statements about manifests, opened. -/
import Derived.Test.YtelcnkclppkicaaGreatDoorLD
import Derived.Test.YtelcnkclppkicaaGreatDoorG5
set_option linter.unusedSimpArgs false
set_option linter.unusedVariables false
namespace Go.Proofs.YtelcnkclppkicaaGreatDoor
open Go Go.Eng Go.Proofs Go.ChangeShapes Go.WideShapes Go.ChangeAt Go.RowKit
theorem qy5:Tryz.prog.underlying 29 = some (.slice 3):=by kernel_rfl
theorem q8O:qkh Tryz.prog 3 3 = some kI:=by kernel_rfl
theorem qxX:Tryz.prog.cellsOf 3 = kI.length:=by kernel_rfl
theorem qy0:Tryz.prog.cellsOf 29 = 1:=by kernel_rfl
theorem q1T:Tryz.prog.bytesOf 3 = 8:=by kernel_rfl
theorem qst {W:World} {r:Option Addr} {rows:List (List Value)} (h:qif W kI r rows):({ d:=rows }:U).good:=q2A h
section
variable {H:Type} {enc:TypeId × Value->H} {W:World} {base b:Nat} {sp:Nat->Bool}
end
theorem qv4 {W:World} {r:Option Addr} {rows:List (List Value)} (h:qif W kI r rows):∀ row ∈ rows,row.length = 1:=fun row hr=>by
 obtain ⟨j,hj⟩:=List.getElem?_of_mem hr
 exact (qxg h hj).1
end Go.Proofs.YtelcnkclppkicaaGreatDoor
