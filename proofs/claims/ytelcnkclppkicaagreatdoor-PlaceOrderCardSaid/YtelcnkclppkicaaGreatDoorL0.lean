/- What the statements' arguments are opened with. -/
import Derived.Test.YtelcnkclppkicaaGreatDoorRows
import Derived.Test.YtelcnkclppkicaaGreatDoorG8
import Derived.Test.YtelcnkclppkicaaGreatDoorG5
set_option linter.unusedSimpArgs false
set_option linter.unusedVariables false
namespace Go.Proofs.YtelcnkclppkicaaGreatDoor
open Go Go.Eng Go.Proofs Go.ChangeShapes Go.WideShapes Go.ChangeAt Go.RowKit
theorem own:ownKnob Tryz.prog.godebug = none:=by kernel_rfl
theorem laidOut:laidOutB Tryz.prog = true:=by kernel_rfl
theorem good3:Tryz.prog.readableRec 3 = true∧3 < Tryz.prog.types.size:=⟨by kernel_rfl,of_decide_eq_true (by kernel_rfl)⟩
theorem wf_i64 {z:Int} (h:(Lit.int .i64 z).wf = true):-9223372036854775808 ≤ z∧z < 9223372036854775808:=by
 have u1:IntKind.i64.min = -9223372036854775808:=rfl
 have u2:IntKind.i64.max = 9223372036854775807:=rfl
 simp [Lit.wf,IntKind.wrap,IntKind.bits,IntKind.signed] at h
 omega
theorem wf_u8 {z:Int} (h:(Lit.int .u8 z).wf = true):0 ≤ z∧z < 256:=by
 have u1:IntKind.u8.min = 0:=rfl
 have u2:IntKind.u8.max = 255:=rfl
 simp [Lit.wf,IntKind.wrap,IntKind.bits,IntKind.signed] at h
 omega
section
variable {H:Type} {enc:TypeId × Value→H} {W:World} {base b:Nat} {sp:Nat→Bool}
end
end Go.Proofs.YtelcnkclppkicaaGreatDoor
