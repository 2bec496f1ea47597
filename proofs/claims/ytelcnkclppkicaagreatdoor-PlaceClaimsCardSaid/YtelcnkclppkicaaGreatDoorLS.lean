/- What the statements ask of the start that use the document's sums: two package variables are laid. -/
import Derived.Test.YtelcnkclppkicaaGreatDoorLR
import Derived.Test.YtelcnkclppkicaaGreatDoorG1
set_option linter.unusedSimpArgs false
set_option linter.unusedVariables false
namespace Go.Proofs.YtelcnkclppkicaaGreatDoor
open Go Go.Eng Go.Proofs Go.ChangeShapes Go.WideShapes Go.ChangeAt Go.RowKit
theorem hN0:Tryz.prog.globalNamed "stolon/stolonref02.rounds" = some 0:=by kernel_rfl
theorem hT0:(Tryz.prog.globals[0]?).map (·.type) = some 206 := by kernel_rfl
theorem hD0:(Rows.laid_stolon_stolonref02_rounds:DataW Unit) = .agg (qM.map fun z=>.lit (.int .u32 z)):=by kernel_rfl
theorem qqs {W:World} {nm:String} {dd:DataW Unit} {gi:Nat} {r:List (String × DataW Unit)} {ps:List MemPlace} (hN:Tryz.prog.globalNamed nm = some gi) (hT:(Tryz.prog.globals[gi]?).map (·.type) = some 206) (hD:dd = .agg (qM.map fun z=>.lit (.int .u32 z)))
  (h:DataW.LaidVars Tryz.prog W ((nm,dd) :: r) ps):(∃ c ty fr,W.heap[gi]? = some (.cells c ty fr)/\c.toList = qM.map (Value.int .u32))/\∃ q,DataW.LaidVars Tryz.prog W r q:=by
 obtain ⟨g,t,cs,fuel,p,q,hg,ht,hvar,hd,hrest,_⟩:=h
 obtain rfl:=jaz (hN.symm.trans hg)
 obtain rfl:=jaz (hT.symm.trans ht)
 obtain ⟨xs,m,_,hx,hl,hn,hall⟩:=DataW.trod_array gU hd
 rw [qAa] at hl
 rw [gC] at hall
 have hx1:=(Prod.mk.inj hx).1
 rw [hD] at hx1
 have hx2:qM.map (fun z=>(DataW.lit (Lit.int .u32 z):DataW Unit)) = xs.map (·.1):=by injection hx1
 have hlist:cs.toList = qM.map (Value.int .u32):=by
  have hK:=qfe
  refine jbv fun i=>?_
  by_cases hi:i < 64
  ·have h1:i < cs.toList.length:=by omega
   have hc:=hall i hi
   have hxi:xs[i]? = some xs[i]:=jac (by omega)
   rw [hxi] at hc
   obtain ⟨z,e,hz,_⟩:=DataW.trod_int gE hc
   have e1:(cs.toList.drop (i * 1)).take 1 = [cs.toList[i]]:=by
    rw [je0,jcg h1]; rfl
   rw [e1] at e
   have e2:cs.toList[i] = Value.int .u32 z:=by simpa using e
   have e3:(xs.map (·.1))[i]? = some (DataW.lit (Lit.int .u32 z)):=by
    rw [jan,hxi,hz]; rfl
   have e5:qM[i]? = some z:=by
    rw [<- hx2,jan] at e3
    cases hk:qM[i]? with
    | none=>rw [hk] at e3; cases e3
    | some y=>rw [hk] at e3; simp at e3; rw [e3]
   rw [jac h1,e2,jan,e5]; rfl
  ·rw [jaw (by omega),jaw (by rw [ja0,hK]; omega)]
 unfold World.var? at hvar
 rw [hN] at hvar
 simp only [je3] at hvar
 split at hvar
 ·rename_i c ty fr hh
  obtain rfl:=jaz hvar
  exact ⟨⟨_,_,_,hh,hlist⟩,_,hrest⟩
 ·cases hvar
theorem qyI {W:World} (h:laidMet Tryz.prog [("stolon/stolonref02.rounds",Rows.laid_stolon_stolonref02_rounds),("stolon/digest.rounds",Rows.laid_stolon_digest_rounds)] W) :
  (∃ c ty fr,W.heap[0]? = some (.cells c ty fr)/\c.toList = qM.map (Value.int .u32))/\(∃ c ty fr,W.heap[1]? = some (.cells c ty fr)/\c.toList = qM.map (Value.int .u32)):=by
 obtain ⟨ps,h1,_⟩:=h
 obtain ⟨a,q,h2⟩:=qqs hN0 hT0 hD0 h1
 exact ⟨a,(qqs gN gT gD h2).1⟩
noncomputable def qpb (os:Os):World :=
 let f:Obj->Obj:=fun
   | .cells _ t frozen=>.cells (qM.map (Value.int .u32)).toArray t frozen
   | o=>o
 let w0:=World.holding Tryz.prog os ⟨#[],#[],[]⟩
 { w0 with heap:=(w0.heap.modify 0 f).modify 1 f }
set_option maxRecDepth 100000 in
theorem q3o (os:Os) (args:Array Value):laidMet Tryz.prog [("stolon/stolonref02.rounds",Rows.laid_stolon_stolonref02_rounds),("stolon/digest.rounds",Rows.laid_stolon_digest_rounds)] ((qpb os).forCall (fun _ _=>0) ⟨#[],args,[]⟩).memory :=
 laidMet_of_run (ps:=MemPlace.row ⟨0,0,none⟩ 64 ++ MemPlace.row ⟨1,0,none⟩ 64) 8 (by kernel_rfl) (by kernel_rfl) (by kernel_rfl)
theorem qzy {W:World} {c:Array Value} {ty:TypeId} {fr:Nat × Nat} (h:W.heap[0]? = some (.cells c ty fr)) (hc:c.toList = qM.map (Value.int .u32)) {Z:Env} {r d:Nat} (hr:(Z r).r = some ⟨0,0,none⟩) (hd:(Z d).d = [qM.map (Value.int .u32)]):(gHp r d).roden Z (fun b=>W.heap[b]?):=by
 refine .inr ⟨0,0,c,ty,fr,hr,h,?_⟩
 simp only [T.den]
 rw [hd]
 intro i row hi
 match i with
 | 0 =>
  simp only [jat,jaa] at hi
  subst hi
  refine ⟨qg2 (by kernel_rfl),fun k v hv=>?_⟩
  rw [<- hc,jca] at hv
  simpa using hv
 | i + 1=>simp at hi
end Go.Proofs.YtelcnkclppkicaaGreatDoor
