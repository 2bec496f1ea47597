/- What all statements of this seat ask of the start: the package variable is laid, the program begins as it does. -/
import Derived.Test.YtelcnkclppkicaaGreatDoorRows
import Derived.Test.YtelcnkclppkicaaGreatDoorTie
import Derived.Test.YtelcnkclppkicaaGreatDoorCards
import Derived.Test.YtelcnkclppkicaaGreatDoorL0
import Derived.Test.YtelcnkclppkicaaGreatDoorLQ
import Derived.Test.YtelcnkclppkicaaGreatDoorG5
import Derived.Test.YtelcnkclppkicaaGreatDoorG6
import Derived.LaidLaws
import Derived.SevenTiedAt
import Derived.Test.YtelcnkclppkicaaGreatDoorG1
set_option linter.unusedSimpArgs false
set_option linter.unusedVariables false
namespace Go.Proofs.YtelcnkclppkicaaGreatDoor
open Go Go.Eng Go.Proofs Go.ChangeShapes Go.WideShapes Go.ChangeAt Go.RowKit
theorem gN:Tryz.prog.globalNamed "stolon/digest.rounds" = some 1:=by kernel_rfl
theorem gT:(Tryz.prog.globals[1]?).map (·.type) = some 206 := by kernel_rfl
theorem gU:Tryz.prog.underlying 206 = some (.array 64 131):=by kernel_rfl
theorem gE:Tryz.prog.underlying 131 = some (.int .u32):=by kernel_rfl
theorem gC:Tryz.prog.cellsOf 131 = 1:=by kernel_rfl
theorem qFx:Tryz.prog.cellsOf 206 = 64:=by kernel_rfl
theorem gD:(Rows.laid_stolon_digest_rounds:DataW Unit) = .agg (qQ.map fun z=>.lit (.int .u32 z)):=by kernel_rfl
theorem q7P {W:World} {c:Array Value} {ty:TypeId} {fr:Nat × Nat} (h:W.heap[1]? = some (.cells c ty fr)) (hc:c.toList = qQ.map (Value.int .u32)) {Z:Env} {r d:Nat} (hr:(Z r).r = some ⟨1,0,none⟩) (hd:(Z d).d = [qQ.map (Value.int .u32)]):(gHp r d).roden Z (fun b=>W.heap[b]?):=by
 refine .inr ⟨1,0,c,ty,fr,hr,h,?_⟩;simp only [T.den];rw [hd];intro i row hi
 match i with
 | 0 =>
  simp only [jav,jaa] at hi;subst hi;refine ⟨qhL (by kernel_rfl),fun k v hv=>?_⟩;rw [<- hc,jca] at hv;simpa using hv
 | i + 1=>simp at hi
theorem qo8:({ d:=[qQ.map (Value.int .u32)] }:U).good:=by
 refine ⟨rfl,?_⟩;intro row hr;obtain rfl:=jak.1 hr;intro v hv;obtain ⟨z,_,rfl⟩:=jbk.1 hv;rfl
set_option maxRecDepth 100000
theorem qDb {P:Program} {l:List Char} (h:P.initOrder = String.ofList l):P.mainIs = (match wordsSigns l with
 | h :: s :: _=>if !isSumSigns s then none else if h == "harness".toList then some (true,s) else if h == "ownmain".toList then some (false,s) else none
 | _=>none):=by
 unfold Program.mainIs;rw [h,String.toList_ofList]
 first | rfl | (split <;> rfl)
theorem qD2:Tryz.pinned.checked.prog.mainIs = some (true, "2696f152e3f098426033aa0dd70b800404442d55c89d31263bcb6b381c23969b".toList):=(qDb qxr).trans (by kernel_rfl)
theorem qBG:false = Tryz.pinned.checked.prog.looks []:=by kernel_rfl
end Go.Proofs.YtelcnkclppkicaaGreatDoor
