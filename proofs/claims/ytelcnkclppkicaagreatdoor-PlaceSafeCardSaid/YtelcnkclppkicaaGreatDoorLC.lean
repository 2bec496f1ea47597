/- The input of the statements about manifests, opened. -/
import Derived.Test.YtelcnkclppkicaaGreatDoorLD
import Derived.Test.YtelcnkclppkicaaGreatDoorG5
set_option linter.unusedSimpArgs false
set_option linter.unusedVariables false
namespace Go.Proofs.YtelcnkclppkicaaGreatDoor
open Go Go.Eng Go.Proofs Go.ChangeShapes Go.WideShapes Go.ChangeAt Go.RowKit
theorem q59:Tryz.prog.underlying 29 = some (.slice 3):=by kernel_rfl
theorem q8u:qiN Tryz.prog 3 3 = some kI:=by kernel_rfl
theorem q5S:Tryz.prog.cellsOf 3 = kI.length:=by kernel_rfl
theorem q5r:Tryz.prog.cellsOf 29 = 1:=by kernel_rfl
theorem q6J:Tryz.prog.bytesOf 3 = 8:=by kernel_rfl
theorem q0h {W:World} {r:Option Addr} {rows:List (List Value)} (h:qh8 W kI r rows):({ d:=rows }:U).good:=qru h
section
variable {H:Type} {enc:TypeId × Value->H} {W:World} {base b:Nat} {sp:Nat->Bool}
end
theorem q22 {W:World} {r:Option Addr} {rows:List (List Value)} (h:qh8 W kI r rows):∀ row ∈ rows,row.length = 1:=fun row hr=>by
 obtain ⟨j,hj⟩:=List.getElem?_of_mem hr
 exact (qm0 h hj).1
end Go.Proofs.YtelcnkclppkicaaGreatDoor
