/- What the statements' arguments are opened with. -/
import Derived.Test.YtelcnkclppkicaaGreatDoorRows
import Derived.Test.YtelcnkclppkicaaGreatDoorG7
import Derived.Test.YtelcnkclppkicaaGreatDoorG5
import Derived.Test.YtelcnkclppkicaaGreatDoorG1
set_option linter.unusedSimpArgs false
set_option linter.unusedVariables false
namespace Go.Proofs.YtelcnkclppkicaaGreatDoor
open Go Go.Eng Go.Proofs Go.ChangeShapes Go.WideShapes Go.ChangeAt Go.RowKit
theorem own:ownKnob Tryz.prog.godebug = none:=by kernel_rfl
theorem q7w:laidOutB Tryz.prog = true:=by kernel_rfl
theorem q9H {z:Int} (h:(Lit.int .u8 z).wf = true):0 <= z/\z < 256:=by
 have u1:IntKind.u8.min = 0:=rfl
 have u2:IntKind.u8.max = 255:=rfl
 simp [Lit.wf,IntKind.wrap,IntKind.bits,IntKind.signed] at h
 omega
section
variable {H:Type} {enc:TypeId × Value->H} {W:World} {base b:Nat} {sp:Nat->Bool}
theorem q3I {ts:List TypeId} {ds:List (DataW H)} {j:Nat} {t:TypeId} {d:DataW H} (hsz:(DataW.weightsEach Tryz.prog ts ds).all (· <= reachBytes) = true) (hts:ts[j]? = some t) (hds:ds[j]? = some d):∀ n ∈ d.weights Tryz.prog t,n <= reachBytes:=fun n hn=>by
 have:=jax.1 hsz n (DataW.weights_mem_each hts hds n hn)
 simpa using this
end
end Go.Proofs.YtelcnkclppkicaaGreatDoor
