/- What all statements of this seat ask of the start: the package variable is laid, the program begins as it does. -/
import Derived.Test.YtelcnkclppkicaaGreatDoorRows
import Derived.Test.YtelcnkclppkicaaGreatDoorTie
import Derived.Test.YtelcnkclppkicaaGreatDoorCards
import Derived.Test.YtelcnkclppkicaaGreatDoorL0
import Derived.Test.YtelcnkclppkicaaGreatDoorLQ
import Derived.Test.YtelcnkclppkicaaGreatDoorG5
import Derived.Test.YtelcnkclppkicaaGreatDoorG6
import Derived.LaidLaws
import Derived.SevenTiedAt
import Derived.Test.YtelcnkclppkicaaGreatDoorG1
set_option linter.unusedSimpArgs false
set_option linter.unusedVariables false
namespace Go.Proofs.YtelcnkclppkicaaGreatDoor
open Go Go.Eng Go.Proofs Go.ChangeShapes Go.WideShapes Go.ChangeAt Go.RowKit
theorem gN:Tryz.prog.globalNamed "stolon/digest.rounds" = some 1:=by kernel_rfl
theorem gT:(Tryz.prog.globals[1]?).map (·.type) = some 206 := by kernel_rfl
theorem gU:Tryz.prog.underlying 206 = some (.array 64 131):=by kernel_rfl
theorem gE:Tryz.prog.underlying 131 = some (.int .u32):=by kernel_rfl
theorem gC:Tryz.prog.cellsOf 131 = 1:=by kernel_rfl
theorem qAY:Tryz.prog.cellsOf 206 = 64:=by kernel_rfl
theorem gD:(Rows.laid_stolon_digest_rounds:DataW Unit) = .agg (qaO.map fun z=>.lit (.int .u32 z)):=by kernel_rfl
theorem qqx {W:World} (h:laidMet Tryz.prog [("stolon/digest.rounds",Rows.laid_stolon_digest_rounds)] W):∃ c ty fr,W.heap[1]? = some (.cells c ty fr)/\c.toList = qaO.map (Value.int .u32):=by
 obtain ⟨ps,⟨g,t,cs,fuel,p,q,hg,ht,hvar,hd,_,_⟩,_⟩:=h
 obtain rfl:=jaz (gN.symm.trans hg)
 obtain rfl:=jaz (gT.symm.trans ht)
 obtain ⟨xs,m,_,hx,hl,hn,hall⟩:=DataW.trod_array gU hd
 rw [qAY] at hl
 rw [gC] at hall
 have hx1:=(Prod.mk.inj hx).1
 rw [gD] at hx1
 have hx2:qaO.map (fun z=>(DataW.lit (Lit.int .u32 z):DataW Unit)) = xs.map (·.1):=by injection hx1
 have hlist:cs.toList = qaO.map (Value.int .u32):=by
  have hK:=qkn
  refine jbt fun i=>?_
  by_cases hi:i < 64
  ·have h1:i < cs.toList.length:=by omega
   have hc:=hall i hi
   have hxi:xs[i]? = some xs[i]:=jac (by omega)
   rw [hxi] at hc
   obtain ⟨z,e,hz,_⟩:=DataW.trod_int gE hc
   have e1:(cs.toList.drop (i * 1)).take 1 = [cs.toList[i]]:=by
    rw [jfk,jbw h1]; rfl
   rw [e1] at e
   have e2:cs.toList[i] = Value.int .u32 z:=by simpa using e
   have e3:(xs.map (·.1))[i]? = some (DataW.lit (Lit.int .u32 z)):=by
    rw [jan,hxi,hz]; rfl
   have e5:qaO[i]? = some z:=by
    rw [<- hx2,jan] at e3
    cases hk:qaO[i]? with
    | none=>rw [hk] at e3; cases e3
    | some y=>rw [hk] at e3; simp at e3; rw [e3]
   rw [jac h1,e2,jan,e5]; rfl
  ·rw [jas (by omega),jas (by rw [ja7,hK]; omega)]
 unfold World.var? at hvar
 rw [gN] at hvar
 simp only [je1] at hvar
 split at hvar
 ·rename_i c ty fr hh
  obtain rfl:=jaz hvar
  exact ⟨_,_,_,hh,hlist⟩
 ·cases hvar
noncomputable def qrC (os:Os):World :=
 let w0:=World.holding Tryz.prog os ⟨#[],#[],[]⟩
 { w0 with heap:=w0.heap.modify 1 fun
   | .cells _ t frozen=>.cells (qaO.map (Value.int .u32)).toArray t frozen
   | o=>o }
set_option maxRecDepth 100000 in
theorem q5G (os:Os) (args:Array Value):laidMet Tryz.prog [("stolon/digest.rounds",Rows.laid_stolon_digest_rounds)] ((qrC os).forCall (fun _ _=>0) ⟨#[],args,[]⟩).memory :=
 laidMet_of_run (ps:=MemPlace.row ⟨1,0,none⟩ 64) 8 (by kernel_rfl) (by kernel_rfl) (by kernel_rfl)
theorem q2O {W:World} {c:Array Value} {ty:TypeId} {fr:Nat × Nat} (h:W.heap[1]? = some (.cells c ty fr)) (hc:c.toList = qaO.map (Value.int .u32)) {Z:Env} {r d:Nat} (hr:(Z r).r = some ⟨1,0,none⟩) (hd:(Z d).d = [qaO.map (Value.int .u32)]):(gHp r d).roden Z (fun b=>W.heap[b]?):=by
 refine .inr ⟨1,0,c,ty,fr,hr,h,?_⟩
 simp only [T.den]
 rw [hd]
 intro i row hi
 match i with
 | 0 =>
  simp only [jax,jaa] at hi
  subst hi
  refine ⟨qiP (by kernel_rfl),fun k v hv=>?_⟩
  rw [<- hc,jck] at hv
  simpa using hv
 | i + 1=>simp at hi
theorem qwT:({ d:=[qaO.map (Value.int .u32)] }:U).good:=by
 refine ⟨rfl,?_⟩
 intro row hr
 obtain rfl:=jaj.1 hr
 intro v hv
 obtain ⟨z,_,rfl⟩:=jbl.1 hv
 rfl
set_option maxRecDepth 100000
theorem q7q {P:Program} {l:List Char} (h:P.initOrder = String.ofList l):P.mainIs = (match wordsSigns l with
 | h :: s :: _=>if !isSumSigns s then none else if h == "harness".toList then some (true,s) else if h == "ownmain".toList then some (false,s) else none
 | _=>none):=by
 unfold Program.mainIs
 rw [h,String.toList_ofList]
 first | rfl | (split <;> rfl)
theorem q9t:Tryz.pinned.checked.prog.mainIs = some (true, "2696f152e3f098426033aa0dd70b800404442d55c89d31263bcb6b381c23969b".toList):=(q7q qtH).trans (by kernel_rfl)
theorem q7p:false = Tryz.pinned.checked.prog.looks []:=by kernel_rfl
end Go.Proofs.YtelcnkclppkicaaGreatDoor
