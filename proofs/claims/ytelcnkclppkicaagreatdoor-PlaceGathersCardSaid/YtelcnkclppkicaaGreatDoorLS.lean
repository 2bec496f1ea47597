/- What the statements ask of the start that use the document's sums: two package variables are laid. -/
import Derived.Test.YtelcnkclppkicaaGreatDoorLR
import Derived.Test.YtelcnkclppkicaaGreatDoorG1
set_option linter.unusedSimpArgs false
set_option linter.unusedVariables false
namespace Go.Proofs.YtelcnkclppkicaaGreatDoor
open Go Go.Eng Go.Proofs Go.ChangeShapes Go.WideShapes Go.ChangeAt Go.RowKit
theorem hN0:Tryz.prog.globalNamed "stolon/stolonref02.rounds" = some 0:=by kernel_rfl
theorem hT0:(Tryz.prog.globals[0]?).map (·.type) = some 206 := by kernel_rfl
theorem hD0:(Rows.laid_stolon_stolonref02_rounds:DataW Unit) = .agg (qQ.map fun z=>.lit (.int .u32 z)):=by kernel_rfl
theorem qsm {W:World} {nm:String} {dd:DataW Unit} {gi:Nat} {r:List (String × DataW Unit)} {ps:List MemPlace} (hN:Tryz.prog.globalNamed nm = some gi) (hT:(Tryz.prog.globals[gi]?).map (·.type) = some 206) (hD:dd = .agg (qQ.map fun z=>.lit (.int .u32 z)))
  (h:DataW.LaidVars Tryz.prog W ((nm,dd) :: r) ps):(∃ c ty fr,W.heap[gi]? = some (.cells c ty fr)/\c.toList = qQ.map (Value.int .u32))/\∃ q,DataW.LaidVars Tryz.prog W r q:=by
 obtain ⟨g,t,cs,fuel,p,q,hg,ht,hvar,hd,hrest,_⟩:=h;obtain rfl:=jax (hN.symm.trans hg);obtain rfl:=jax (hT.symm.trans ht);obtain ⟨xs,m,_,hx,hl,hn,hall⟩:=DataW.trod_array gU hd;rw [qFx] at hl;rw [gC] at hall;have hx1:=(Prod.mk.inj hx).1;rw [hD] at hx1;have hx2:qQ.map (fun z=>(DataW.lit (Lit.int .u32 z):DataW Unit)) = xs.map (·.1):=by injection hx1
 have hlist:cs.toList = qQ.map (Value.int .u32):=by
  have hK:=qgr;refine jbs fun i=>?_
  by_cases hi:i < 64
  ·have h1:i < cs.toList.length:=by omega
   have hc:=hall i hi;have hxi:xs[i]? = some xs[i]:=jac (by omega);rw [hxi] at hc;obtain ⟨z,e,hz,_⟩:=DataW.trod_int gE hc;have e1:(cs.toList.drop (i * 1)).take 1 = [cs.toList[i]]:=by
    rw [je5,jcf h1]; rfl
   rw [e1] at e;have e2:cs.toList[i] = Value.int .u32 z:=by simpa using e
   have e3:(xs.map (·.1))[i]? = some (DataW.lit (Lit.int .u32 z)):=by
    rw [jaq,hxi,hz]; rfl
   have e5:qQ[i]? = some z:=by
    rw [<- hx2,jaq] at e3;cases hk:qQ[i]? with
    | none=>rw [hk] at e3; cases e3
    | some y=>rw [hk] at e3; simp at e3; rw [e3]
   rw [jac h1,e2,jaq,e5]; rfl
  ·rw [jat (by omega),jat (by rw [ja7,hK]; omega)]
 unfold World.var? at hvar;rw [hN] at hvar;simp only [je8] at hvar;split at hvar
 ·rename_i c ty fr hh
  obtain rfl:=jax hvar;exact ⟨⟨_,_,_,hh,hlist⟩,_,hrest⟩
 ·cases hvar
theorem q4z {W:World} (h:laidMet Tryz.prog [("stolon/stolonref02.rounds",Rows.laid_stolon_stolonref02_rounds),("stolon/digest.rounds",Rows.laid_stolon_digest_rounds)] W) :
  (∃ c ty fr,W.heap[0]? = some (.cells c ty fr)/\c.toList = qQ.map (Value.int .u32))/\(∃ c ty fr,W.heap[1]? = some (.cells c ty fr)/\c.toList = qQ.map (Value.int .u32)):=by
 obtain ⟨ps,h1,_⟩:=h;obtain ⟨a,q,h2⟩:=qsm hN0 hT0 hD0 h1;exact ⟨a,(qsm gN gT gD h2).1⟩
noncomputable def qsn (os:Os):World :=
 let f:Obj->Obj:=fun
   | .cells _ t frozen=>.cells (qQ.map (Value.int .u32)).toArray t frozen
   | o=>o
 let w0:=World.holding Tryz.prog os ⟨#[],#[],[]⟩
 { w0 with heap:=(w0.heap.modify 0 f).modify 1 f }
set_option maxRecDepth 100000 in
theorem q5l (os:Os) (args:Array Value):laidMet Tryz.prog [("stolon/stolonref02.rounds",Rows.laid_stolon_stolonref02_rounds),("stolon/digest.rounds",Rows.laid_stolon_digest_rounds)] ((qsn os).forCall (fun _ _=>0) ⟨#[],args,[]⟩).memory :=
 laidMet_of_run (ps:=MemPlace.row ⟨0,0,none⟩ 64 ++ MemPlace.row ⟨1,0,none⟩ 64) 8 (by kernel_rfl) (by kernel_rfl) (by kernel_rfl)
theorem q33 {W:World} {c:Array Value} {ty:TypeId} {fr:Nat × Nat} (h:W.heap[0]? = some (.cells c ty fr)) (hc:c.toList = qQ.map (Value.int .u32)) {Z:Env} {r d:Nat} (hr:(Z r).r = some ⟨0,0,none⟩) (hd:(Z d).d = [qQ.map (Value.int .u32)]):(gHp r d).roden Z (fun b=>W.heap[b]?):=by
 refine .inr ⟨0,0,c,ty,fr,hr,h,?_⟩;simp only [T.den];rw [hd];intro i row hi
 match i with
 | 0 =>
  simp only [jav,jaa] at hi;subst hi;refine ⟨qhL (by kernel_rfl),fun k v hv=>?_⟩;rw [<- hc,jca] at hv;simpa using hv
 | i + 1=>simp at hi
end Go.Proofs.YtelcnkclppkicaaGreatDoor
