/- The input of the statements about manifests, opened. -/
import Derived.Test.YtelcnkclppkicaaGreatDoorLD
import Derived.Test.YtelcnkclppkicaaGreatDoorG5
set_option linter.unusedSimpArgs false
set_option linter.unusedVariables false
namespace Go.Proofs.YtelcnkclppkicaaGreatDoor
open Go Go.Eng Go.Proofs Go.ChangeShapes Go.WideShapes Go.ChangeAt Go.RowKit
theorem q5G:Tryz.prog.underlying 29 = some (.slice 3):=by kernel_rfl
theorem q8l:qkb Tryz.prog 3 3 = some kI:=by kernel_rfl
theorem q5b:Tryz.prog.cellsOf 3 = kI.length:=by kernel_rfl
theorem q5H:Tryz.prog.cellsOf 29 = 1:=by kernel_rfl
theorem q6m:Tryz.prog.bytesOf 3 = 8:=by kernel_rfl
theorem q1f {W:World} {r:Option Addr} {rows:List (List Value)} (h:qjd W kI r rows):({ d:=rows }:U).good:=q0T h
section
variable {H:Type} {enc:TypeId × Value->H} {W:World} {base b:Nat} {sp:Nat->Bool}
end
theorem q3h {W:World} {r:Option Addr} {rows:List (List Value)} (h:qjd W kI r rows):∀ row ∈ rows,row.length = 1:=fun row hr=>by
 obtain ⟨j,hj⟩:=List.getElem?_of_mem hr
 exact (qvH h hj).1
end Go.Proofs.YtelcnkclppkicaaGreatDoor
