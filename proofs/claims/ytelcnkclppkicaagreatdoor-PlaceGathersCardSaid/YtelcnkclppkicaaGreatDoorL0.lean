/- What the statements' arguments are opened with. -/
import Derived.Test.YtelcnkclppkicaaGreatDoorRows
import Derived.Test.YtelcnkclppkicaaGreatDoorG8
import Derived.Test.YtelcnkclppkicaaGreatDoorG5
import Derived.Test.YtelcnkclppkicaaGreatDoorG1
set_option linter.unusedSimpArgs false
set_option linter.unusedVariables false
namespace Go.Proofs.YtelcnkclppkicaaGreatDoor
open Go Go.Eng Go.Proofs Go.ChangeShapes Go.WideShapes Go.ChangeAt Go.RowKit
theorem own:ownKnob Tryz.prog.godebug = none:=by kernel_rfl
theorem qCU:laidOutB Tryz.prog = true:=by kernel_rfl
theorem qFz:qjq Tryz.prog 3 5 = some kB:=by kernel_rfl
theorem qDy:Tryz.prog.cellsOf 5 = kB.length:=by kernel_rfl
theorem qkY {z:Int} (h:(Lit.int .i64 z).wf = true):-9223372036854775808 <= z/\z < 9223372036854775808:=by
 have u1:IntKind.i64.min = -9223372036854775808:=rfl;have u2:IntKind.i64.max = 9223372036854775807:=rfl;simp [Lit.wf,IntKind.wrap,IntKind.bits,IntKind.signed] at h;omega
theorem qBm {z:Int} (h:(Lit.int .u8 z).wf = true):0 <= z/\z < 256:=by
 have u1:IntKind.u8.min = 0:=rfl;have u2:IntKind.u8.max = 255:=rfl;simp [Lit.wf,IntKind.wrap,IntKind.bits,IntKind.signed] at h;omega
section
variable {H:Type} {enc:TypeId × Value->H} {W:World} {base b:Nat} {sp:Nat->Bool}
theorem q91 {ts:List TypeId} {ds:List (DataW H)} {j:Nat} {t:TypeId} {d:DataW H} (hsz:(DataW.weightsEach Tryz.prog ts ds).all (· <= reachBytes) = true) (hts:ts[j]? = some t) (hds:ds[j]? = some d):∀ n ∈ d.weights Tryz.prog t,n <= reachBytes:=fun n hn=>by
 have:=ja3.1 hsz n (DataW.weights_mem_each hts hds n hn);simpa using this
end
end Go.Proofs.YtelcnkclppkicaaGreatDoor
