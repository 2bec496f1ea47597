/- An offer (a manifest, a piece, a number), opened. -/
import Derived.Test.YtelcnkclppkicaaGreatDoorLC
import Derived.Test.YtelcnkclppkicaaGreatDoorG1
set_option linter.unusedSimpArgs false
set_option linter.unusedVariables false
namespace Go.Proofs.YtelcnkclppkicaaGreatDoor
open Go Go.Eng Go.Proofs Go.ChangeShapes Go.WideShapes Go.ChangeAt Go.RowKit
noncomputable def q4s:Array Field:=match Tryz.prog.underlying 96 with | some (.struct fs)=>fs | _=>#[]
theorem qtq:Tryz.prog.underlying 96 = some (.struct q4s):=by kernel_rfl
theorem qDk:(q4s[0]?).map (fun f=>(f.type,f.offset)) = some (27,0):=by kernel_rfl
theorem qDt:(q4s[1]?).map (fun f=>(f.type,f.offset)) = some (86,37):=by kernel_rfl
theorem qDI:(q4s[2]?).map (fun f=>(f.type,f.offset)) = some (3,39):=by kernel_rfl
section
variable {H:Type} {enc:TypeId × Value->H} {W:World} {base b:Nat} {sp:Nat->Bool}
end
end Go.Proofs.YtelcnkclppkicaaGreatDoor
