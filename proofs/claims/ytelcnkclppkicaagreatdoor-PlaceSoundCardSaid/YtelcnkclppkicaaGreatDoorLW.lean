/- An offer (a manifest, a piece, a number), opened. -/
import Derived.Test.YtelcnkclppkicaaGreatDoorLC
set_option linter.unusedSimpArgs false
set_option linter.unusedVariables false
namespace Go.Proofs.YtelcnkclppkicaaGreatDoor
open Go Go.Eng Go.Proofs Go.ChangeShapes Go.WideShapes Go.ChangeAt Go.RowKit
noncomputable def q13:Array Field:=match Tryz.prog.underlying 96 with | some (.struct fs)=>fs | _=>#[]
theorem qrw:Tryz.prog.underlying 96 = some (.struct q13):=by kernel_rfl
theorem qAx:(q13[0]?).map (fun f=>(f.type,f.offset)) = some (27,0):=by kernel_rfl
theorem qAa:(q13[1]?).map (fun f=>(f.type,f.offset)) = some (86,37):=by kernel_rfl
theorem q9V:(q13[2]?).map (fun f=>(f.type,f.offset)) = some (3,39):=by kernel_rfl
section
variable {H:Type} {enc:TypeId × Value->H} {W:World} {base b:Nat} {sp:Nat->Bool}
end
end Go.Proofs.YtelcnkclppkicaaGreatDoor
