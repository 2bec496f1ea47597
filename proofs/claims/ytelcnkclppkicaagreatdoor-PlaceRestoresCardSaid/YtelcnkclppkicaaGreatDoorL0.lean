/- What the statements' arguments are opened with. -/
import Derived.Test.YtelcnkclppkicaaGreatDoorRows
import Derived.Test.YtelcnkclppkicaaGreatDoorG8
import Derived.Test.YtelcnkclppkicaaGreatDoorG5
import Derived.Test.YtelcnkclppkicaaGreatDoorG1
set_option linter.unusedSimpArgs false
set_option linter.unusedVariables false
namespace Go.Proofs.YtelcnkclppkicaaGreatDoor
open Go Go.Eng Go.Proofs Go.ChangeShapes Go.WideShapes Go.ChangeAt Go.RowKit
theorem own:ownKnob Tryz.prog.godebug = none:=by kernel_rfl
theorem q7V:laidOutB Tryz.prog = true:=by kernel_rfl
theorem qAW:qje Tryz.prog 3 5 = some kB:=by kernel_rfl
theorem q97:Tryz.prog.cellsOf 5 = kB.length:=by kernel_rfl
theorem q8Z:Tryz.prog.bytesOf 5 = 1:=by kernel_rfl
theorem q2M {z:Int} (h:(Lit.int .i64 z).wf = true):-9223372036854775808 <= z/\z < 9223372036854775808:=by
 have u1:IntKind.i64.min = -9223372036854775808:=rfl
 have u2:IntKind.i64.max = 9223372036854775807:=rfl
 simp [Lit.wf,IntKind.wrap,IntKind.bits,IntKind.signed] at h
 omega
theorem qA5 {z:Int} (h:(Lit.int .u8 z).wf = true):0 <= z/\z < 256:=by
 have u1:IntKind.u8.min = 0:=rfl
 have u2:IntKind.u8.max = 255:=rfl
 simp [Lit.wf,IntKind.wrap,IntKind.bits,IntKind.signed] at h
 omega
def qqJ (W:World) (r:Option Addr) (rows:List (List Value)):Prop:=rows = []∨∃ b o c ty fr,r = some ⟨b,o,none⟩/\W.heap[b]? = some (.cells c ty fr)/\qP c o kB rows
section
variable {H:Type} {enc:TypeId × Value->H} {W:World} {base b:Nat} {sp:Nat->Bool}
set_option maxRecDepth 100000 in
theorem qzY {fuel:Nat} {v:Value} {x:DataW H × List MemPlace} (hsp:∀ b,sp b = true) (hf:DataW.trod enc Tryz.prog W base sp true fuel 22 [v] = some x) (hsz:∀ n ∈ x.1.weights Tryz.prog 22,n <= reachBytes) :
  ∃ (r:Option Addr) (rows:List (List Value)) (cap:Nat),v = .slice (qm r 0) rows.length cap/\rows.length <= cap/\(rows.length:Int) <= 140737488351232/\qp rows/\qqJ W r rows:=by
 obtain ⟨rows,hr,ht,hd⟩:=qrx (ps:=x.2) (d:=x.1) Tryz.underlying22 qAW q97 (by decide) hsp hf
 have hbound:(rows.length:Int) <= 140737488351232:=by
  rcases hd with ⟨_,h0⟩ | ⟨elems,spare,h3,h4,_⟩
  ·rw [h0]; decide
  ·have:=hsz ((elems.length + spare.length) * Tryz.prog.bytesOf 5) (by rw [h3]; simp only [DataW.weights,Tryz.underlying22]; exact jae ..)
   rw [q8Z] at this
   have hrb:reachBytes = 140737488351232:=by decide
   rw [hrb] at this
   omega
 have hall:qp rows:=fun row hrow=>by
  obtain ⟨fuel',x',h⟩:=ht row hrow
  obtain ⟨z,e,_,hw⟩:=DataW.trod_int Tryz.underlying5 h
  rw [e]
  exact qA5 hw
 rcases hr with ⟨r,e1,e2⟩ | ⟨b,o,cap,c,ty,fr,e1,hle,e3,e4⟩
 ·exact ⟨r,rows,0,by rw [e1,e2,qgl]; rfl,by rw [e2]; exact jfw _,hbound,hall,.inl e2⟩
 ·exact ⟨some ⟨b,o,none⟩,rows,cap,by rw [e1]; rfl,by omega,hbound,hall,.inr ⟨b,o,c,ty,fr,rfl,e3,e4⟩⟩
theorem q6q {ts:List TypeId} {ds:List (DataW H)} {j:Nat} {t:TypeId} {d:DataW H} (hsz:(DataW.weightsEach Tryz.prog ts ds).all (· <= reachBytes) = true) (hts:ts[j]? = some t) (hds:ds[j]? = some d):∀ n ∈ d.weights Tryz.prog t,n <= reachBytes:=fun n hn=>by
 have:=ja1.1 hsz n (DataW.weights_mem_each hts hds n hn)
 simpa using this
theorem qzI {r:Option Addr} {rows:List (List Value)} (h:qqJ W r rows):({ d:=rows }:U).good:=by
 refine ⟨rfl,?_⟩
 rcases h with h | ⟨_,_,_,_,_,_,_,h⟩
 ·simp only; rw [h]; simp
 ·exact qgq h
end
end Go.Proofs.YtelcnkclppkicaaGreatDoor
