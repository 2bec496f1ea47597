/- The input of the statements about manifests, opened. -/
import Derived.Test.YtelcnkclppkicaaGreatDoorLD
import Derived.Test.YtelcnkclppkicaaGreatDoorG5
set_option linter.unusedSimpArgs false
set_option linter.unusedVariables false
namespace Go.Proofs.YtelcnkclppkicaaGreatDoor
open Go Go.Eng Go.Proofs Go.ChangeShapes Go.WideShapes Go.ChangeAt Go.RowKit
theorem qw3:Tryz.prog.underlying 29 = some (.slice 3):=by kernel_rfl
theorem q5L:qjx Tryz.prog 3 3 = some kI:=by kernel_rfl
theorem qw0:Tryz.prog.cellsOf 3 = kI.length:=by kernel_rfl
theorem qwp:Tryz.prog.cellsOf 29 = 1:=by kernel_rfl
theorem q1y:Tryz.prog.bytesOf 3 = 8:=by kernel_rfl
theorem qrw {W:World} {r:Option Addr} {rows:List (List Value)} (h:qht W kI r rows):({ d:=rows }:U).good:=q0n h
section
variable {H:Type} {enc:TypeId × Value->H} {W:World} {base b:Nat} {sp:Nat->Bool}
end
theorem qt9 {W:World} {r:Option Addr} {rows:List (List Value)} (h:qht W kI r rows):∀ row ∈ rows,row.length = 1:=fun row hr=>by
 obtain ⟨j,hj⟩:=List.getElem?_of_mem hr
 exact (qvX h hj).1
end Go.Proofs.YtelcnkclppkicaaGreatDoor
