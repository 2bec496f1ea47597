/- The input of the statements about manifests, opened. -/
import Derived.Test.YtelcnkclppkicaaGreatDoorLD
import Derived.Test.YtelcnkclppkicaaGreatDoorG5
set_option linter.unusedSimpArgs false
set_option linter.unusedVariables false
namespace Go.Proofs.YtelcnkclppkicaaGreatDoor
open Go Go.Eng Go.Proofs Go.ChangeShapes Go.WideShapes Go.ChangeAt Go.RowKit
theorem qyh:Tryz.prog.underlying 29 = some (.slice 3):=by kernel_rfl
theorem q8u:qkC Tryz.prog 3 3 = some kI:=by kernel_rfl
theorem qyk:Tryz.prog.cellsOf 3 = kI.length:=by kernel_rfl
theorem qy6:Tryz.prog.cellsOf 29 = 1:=by kernel_rfl
theorem q37:Tryz.prog.bytesOf 3 = 8:=by kernel_rfl
theorem qrW {W:World} {r:Option Addr} {rows:List (List Value)} (h:qib W kI r rows):({ d:=rows }:U).good:=q2i h
section
variable {H:Type} {enc:TypeId × Value->H} {W:World} {base b:Nat} {sp:Nat->Bool}
end
theorem qvx {W:World} {r:Option Addr} {rows:List (List Value)} (h:qib W kI r rows):∀ row ∈ rows,row.length = 1:=fun row hr=>by
 obtain ⟨j,hj⟩:=List.getElem?_of_mem hr
 exact (qxF h hj).1
end Go.Proofs.YtelcnkclppkicaaGreatDoor
