/- The offers of the statement about what a Gather returns, opened. -/
import Derived.Test.YtelcnkclppkicaaGreatDoorLW
import Derived.Test.YtelcnkclppkicaaGreatDoorG9
import Derived.Test.YtelcnkclppkicaaGreatDoorG1
set_option linter.unusedSimpArgs false
set_option linter.unusedVariables false
namespace Go.Proofs.YtelcnkclppkicaaGreatDoor
open Go Go.Eng Go.Proofs Go.ChangeShapes Go.WideShapes Go.ChangeAt Go.RowKit
theorem qC1:Tryz.prog.readableRec 92 = true /\ 92 < Tryz.prog.types.size:=⟨by kernel_rfl,jbh (by kernel_rfl)⟩
theorem qyx:Tryz.prog.underlying 92 = some (.slice 96):=by kernel_rfl
theorem qED:qjq Tryz.prog 6 96 = some qsZ:=by kernel_rfl
theorem qCj:Tryz.prog.cellsOf 96 = qsZ.length:=by kernel_rfl
theorem qCc:Tryz.prog.bytesOf 96 = 128:=by kernel_rfl
section
variable {H:Type} {enc:TypeId × Value->H} {W:World} {base b:Nat} {sp:Nat->Bool}
theorem q9R {fuel:Nat} {v:Value} {x:DataW H × List MemPlace} (hsp:∀ b,sp b = true) (hf:DataW.trod enc Tryz.prog W base sp true fuel 25 [v] = some x) :
  ∃ rows:List (List Value),Rd (fun b=>W.heap[b]?) k32 v rows/\qbJ rows:=by
 obtain ⟨rows,hr,ht,hd⟩:=qnm (ps:=x.2) (d:=x.1) qC9 qF2 qCy (by decide) hsp hf;refine ⟨rows,hr,fun row hrow=>?_⟩;obtain ⟨fuel',x',h⟩:=ht row hrow;have hb:=qkg h;exact ⟨hb.1,qmN hb⟩
theorem qd5 {α:Type} {l:List α} {n k:Nat} (hk:k < n):((l.take n).drop k).take 1 = (l.drop k).take 1:=by
 rw [jf2,jeg,jb8 (by omega)]
set_option maxRecDepth 100000 in
theorem qzw {v:Value} {d:DataW H} {p:List MemPlace} {ts:List TypeId} {ds:List (DataW H)} {j:Nat} (hsp:∀ b,sp b = true)
  (hv:Value.okWide Tryz.prog W .any b 92 v) (h:DataW.Trod enc Tryz.prog W base sp true 92 v d p) (hsz:(DataW.weightsEach Tryz.prog ts ds).all (· <= reachBytes) = true) (hts:ts[j]? = some 92) (hds:ds[j]? = some d) :
  ∃ (r:Option Addr) (rows:List (List Value)) (cap:Nat),v = .slice (qn r 0) rows.length cap/\rows.length <= cap/\(rows.length:Int) <= 1099511627744/\(∀ i:Int,0 <= i->i < rows.length->q1y (fun b=>W.heap[b]?) rows i)/\qr8 W qsZ r rows:=by
 obtain ⟨h1,h2⟩:=Go.Eng.okWide_slice qyx hv;obtain ⟨fuel,hf⟩:=h;rw [h1] at hf;obtain ⟨r,rows,cap,e1,e2,e3,e4,e5⟩:=q9U (w:=128) (m:=1099511627744) hsp qyx qED qCj (by decide) qCc (by decide) hf (q91 hsz hts hds);refine ⟨r,rows,cap,e1,e2,e3,fun i i0 i1=>?_,e5⟩;have hi:i.toNat < rows.length:=by omega
 obtain ⟨fuel',x',ht⟩:=e4 rows[i.toNat] (jbv hi);have hlen:(rows[i.toNat]).length = 40:=(qzP e5 (jac hi)).1;have hcell:∀ k,qC rows i k = (rows[i.toNat])[k]?.getD .nilFunc:=fun k=>by unfold qC; rw [jac hi]; rfl
 generalize rows[i.toNat] = row at ht hlen hcell;have g:∀ k (hk:k < 40),(row.drop k).take 1 = [row[k]'(by omega)]:=fun k hk=>by
  rw [jcf (by omega)]; rfl
 have c:∀ k (hk:k < 40),qC rows i k = row[k]'(by omega):=fun k hk=>by rw [hcell,jac (by omega)]; rfl
 obtain ⟨n0,y0,f0,_⟩:=qb4 qtq ht qDk;obtain ⟨n1,y1,f1,_⟩:=qb4 qtq ht qDt;obtain ⟨n2,y2,f2,_⟩:=qb4 qtq ht qDI;rw [qEe,jdl] at f0;rw [qEz] at f1;rw [qkN,g 39 (by decide)] at f2;obtain ⟨m0,x0,g0,_⟩:=qb4 qkW f0 qFh;obtain ⟨m1,x1,g1,_⟩:=qb4 qkW f0 qFb;obtain ⟨m2,x2,g2,_⟩:=qb4 qkW f0 qFc;obtain ⟨m3,x3,g3,_⟩:=qb4 qkW f0 qEI;obtain ⟨m4,x4,g4,_⟩:=qb4 qkW f0 qEM;obtain ⟨m5,x5,g5,_⟩:=qb4 qkW f0 qFa;obtain ⟨q0,w0,p0,_⟩:=qb4 q7p f1 qET;obtain ⟨q1,w1,p1,_⟩:=qb4 q7p f1 qEH;rw [qkN,qd5 (by decide),g 0 (by decide)] at g0;rw [qkN,qd5 (by decide),g 1 (by decide)] at g1;rw [qkN,qd5 (by decide),g 2 (by decide)] at g2;rw [qkN,qd5 (by decide),g 3 (by decide)] at g3;rw [q77,jf2,jeg,jb8 (by decide)] at g4;rw [qCx,qd5 (by decide),g 36 (by decide)] at g5;rw [qkN,qd5 (by decide),je0,g 37 (by decide)] at p0;rw [q8X,qd5 (by decide),je0,g 38 (by decide)] at p1;obtain ⟨z0,s0,_,v0⟩:=DataW.trod_int Tryz.underlying3 g0;obtain ⟨z1,s1,_,v1⟩:=DataW.trod_int Tryz.underlying3 g1;obtain ⟨z2,s2,_,v2⟩:=DataW.trod_int Tryz.underlying3 g2;obtain ⟨z3,s3,_,v3⟩:=DataW.trod_int Tryz.underlying3 g3;obtain ⟨z4,s4,_,v4⟩:=DataW.trod_int Tryz.underlying3 p0;obtain ⟨z5,s5,_,v5⟩:=DataW.trod_int Tryz.underlying3 f2;simp only [jcg,and_true] at s0 s1 s2 s3 s4 s5;have hb:=qmN (qkg g4);refine ⟨?_,?_,?_,?_,fun x hx=>?_,?_,?_,?_,?_⟩
 ·unfold qb; rw [c 0 (by decide),s0]; exact qkY v0
 ·unfold qb; rw [c 1 (by decide),s1]; exact qkY v1
 ·unfold qb; rw [c 2 (by decide),s2]; exact qkY v2
 ·unfold qb; rw [c 3 (by decide),s3]; exact qkY v3
 ·obtain ⟨k,hk,rfl⟩:=jbk.1 hx
  have hk:=jb1.1 hk;refine hb _ (jbk.2 ⟨k,jb1.2 hk,?_⟩);unfold qb;rw [hcell];simp only [qa,jbm];rw [jbb,jah hk,jbc]
 ·rw [c 36 (by decide)]; exact q9R hsp g5
 ·unfold qb; rw [c 37 (by decide),s4]; exact qkY v4
 ·rw [c 38 (by decide)]; exact q4F hsp p1
 ·unfold qb; rw [c 39 (by decide),s5]; exact qkY v5
end
end Go.Proofs.YtelcnkclppkicaaGreatDoor
