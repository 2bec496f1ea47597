/- The offers of the statement about what a Gather returns, opened. -/
import Derived.Test.YtelcnkclppkicaaGreatDoorLW
import Derived.Test.YtelcnkclppkicaaGreatDoorG9
set_option linter.unusedSimpArgs false
set_option linter.unusedVariables false
namespace Go.Proofs.YtelcnkclppkicaaGreatDoor
open Go Go.Eng Go.Proofs Go.ChangeShapes Go.WideShapes Go.ChangeAt Go.RowKit
theorem q8w:Tryz.prog.readableRec 92 = true /\ 92 < Tryz.prog.types.size:=⟨by kernel_rfl,of_decide_eq_true (by kernel_rfl)⟩
theorem qu5:Tryz.prog.underlying 92 = some (.slice 96):=by kernel_rfl
theorem qBr:qhS Tryz.prog 6 96 = some q2f:=by kernel_rfl
theorem q8m:Tryz.prog.cellsOf 96 = q2f.length:=by kernel_rfl
theorem q8W:Tryz.prog.bytesOf 96 = 128:=by kernel_rfl
section
variable {H:Type} {enc:TypeId × Value->H} {W:World} {base b:Nat} {sp:Nat->Bool}
theorem q5M {fuel:Nat} {v:Value} {x:DataW H × List MemPlace} (hsp:∀ b,sp b = true) (hf:DataW.trod enc Tryz.prog W base sp true fuel 25 [v] = some x) :
  ∃ rows:List (List Value),Rd (fun b=>W.heap[b]?) k32 v rows/\qcC rows:=by
 obtain ⟨rows,hr,ht,hd⟩:=qm1 (ps:=x.2) (d:=x.1) q8k qBL q8i (by decide) hsp hf
 refine ⟨rows,hr,fun row hrow=>?_⟩
 obtain ⟨fuel',x',h⟩:=ht row hrow
 have hb:=qjm h
 exact ⟨hb.1,qm9 hb⟩
theorem qdz {α:Type} {l:List α} {n k:Nat} (hk:k < n):((l.take n).drop k).take 1 = (l.drop k).take 1:=by
 rw [List.drop_take,List.take_take,Nat.min_eq_left (by omega)]
set_option maxRecDepth 100000 in
theorem qyg {v:Value} {d:DataW H} {p:List MemPlace} {ts:List TypeId} {ds:List (DataW H)} {j:Nat} (hsp:∀ b,sp b = true)
  (hv:Value.okWide Tryz.prog W .any b 92 v) (h:DataW.Trod enc Tryz.prog W base sp true 92 v d p) (hsz:(DataW.weightsEach Tryz.prog ts ds).all (· <= reachBytes) = true) (hts:ts[j]? = some 92) (hds:ds[j]? = some d) :
  ∃ (r:Option Addr) (rows:List (List Value)) (cap:Nat),v = .slice (qm r 0) rows.length cap/\rows.length <= cap/\(rows.length:Int) <= 1099511627744/\(∀ i:Int,0 <= i->i < rows.length->qzw (fun b=>W.heap[b]?) rows i)/\qqg W q2f r rows:=by
 obtain ⟨h1,h2⟩:=Go.Eng.okWide_slice qu5 hv
 obtain ⟨fuel,hf⟩:=h
 rw [h1] at hf
 obtain ⟨r,rows,cap,e1,e2,e3,e4,e5⟩:=q6c (w:=128) (m:=1099511627744) hsp qu5 qBr q8m (by decide) q8W (by decide) hf (q52 hsz hts hds)
 refine ⟨r,rows,cap,e1,e2,e3,fun i i0 i1=>?_,e5⟩
 have hi:i.toNat < rows.length:=by omega
 obtain ⟨fuel',x',ht⟩:=e4 rows[i.toNat] (List.getElem_mem hi)
 have hlen:(rows[i.toNat]).length = 40:=(qxZ e5 (List.getElem?_eq_getElem hi)).1
 have hcell:∀ k,qF rows i k = (rows[i.toNat])[k]?.getD .nilFunc:=fun k=>by unfold qF; rw [List.getElem?_eq_getElem hi]; rfl
 generalize rows[i.toNat] = row at ht hlen hcell
 have g:∀ k (hk:k < 40),(row.drop k).take 1 = [row[k]'(by omega)]:=fun k hk=>by
  rw [List.drop_eq_getElem_cons (by omega)]; rfl
 have c:∀ k (hk:k < 40),qF rows i k = row[k]'(by omega):=fun k hk=>by rw [hcell,List.getElem?_eq_getElem (by omega)]; rfl
 obtain ⟨n0,y0,f0,_⟩:=qbz qrw ht qAx
 obtain ⟨n1,y1,f1,_⟩:=qbz qrw ht qAa
 obtain ⟨n2,y2,f2,_⟩:=qbz qrw ht q9V
 rw [qAm,List.drop_zero] at f0
 rw [q9J] at f1
 rw [qkc,g 39 (by decide)] at f2
 obtain ⟨m0,x0,g0,_⟩:=qbz qkf f0 qB1
 obtain ⟨m1,x1,g1,_⟩:=qbz qkf f0 qBy
 obtain ⟨m2,x2,g2,_⟩:=qbz qkf f0 qBv
 obtain ⟨m3,x3,g3,_⟩:=qbz qkf f0 qBc
 obtain ⟨m4,x4,g4,_⟩:=qbz qkf f0 qBp
 obtain ⟨m5,x5,g5,_⟩:=qbz qkf f0 qB2
 obtain ⟨q0,w0,p0,_⟩:=qbz q3S f1 qBs
 obtain ⟨q1,w1,p1,_⟩:=qbz q3S f1 qAS
 rw [qkc,qdz (by decide),g 0 (by decide)] at g0
 rw [qkc,qdz (by decide),g 1 (by decide)] at g1
 rw [qkc,qdz (by decide),g 2 (by decide)] at g2
 rw [qkc,qdz (by decide),g 3 (by decide)] at g3
 rw [q3v,List.drop_take,List.take_take,Nat.min_eq_left (by decide)] at g4
 rw [q8Q,qdz (by decide),g 36 (by decide)] at g5
 rw [qkc,qdz (by decide),List.drop_drop,g 37 (by decide)] at p0
 rw [q5e,qdz (by decide),List.drop_drop,g 38 (by decide)] at p1
 obtain ⟨z0,s0,_,v0⟩:=DataW.trod_int Tryz.underlying3 g0
 obtain ⟨z1,s1,_,v1⟩:=DataW.trod_int Tryz.underlying3 g1
 obtain ⟨z2,s2,_,v2⟩:=DataW.trod_int Tryz.underlying3 g2
 obtain ⟨z3,s3,_,v3⟩:=DataW.trod_int Tryz.underlying3 g3
 obtain ⟨z4,s4,_,v4⟩:=DataW.trod_int Tryz.underlying3 p0
 obtain ⟨z5,s5,_,v5⟩:=DataW.trod_int Tryz.underlying3 f2
 simp only [List.cons.injEq,and_true] at s0 s1 s2 s3 s4 s5
 have hb:=qm9 (qjm g4)
 refine ⟨?_,?_,?_,?_,fun x hx=>?_,?_,?_,?_,?_⟩
 ·unfold qb; rw [c 0 (by decide),s0]; exact qjY v0
 ·unfold qb; rw [c 1 (by decide),s1]; exact qjY v1
 ·unfold qb; rw [c 2 (by decide),s2]; exact qjY v2
 ·unfold qb; rw [c 3 (by decide),s3]; exact qjY v3
 ·obtain ⟨k,hk,rfl⟩:=List.mem_map.1 hx
  have hk:=List.mem_range.1 hk
  refine hb _ (List.mem_map.2 ⟨k,List.mem_range.2 hk,?_⟩)
  unfold qb
  rw [hcell]
  simp only [qa,List.headD_cons]
  rw [List.getElem?_take,if_pos hk,List.getElem?_drop]
 ·rw [c 36 (by decide)]; exact q5M hsp g5
 ·unfold qb; rw [c 37 (by decide),s4]; exact qjY v4
 ·rw [c 38 (by decide)]; exact q1h hsp p1
 ·unfold qb; rw [c 39 (by decide),s5]; exact qjY v5
end
end Go.Proofs.YtelcnkclppkicaaGreatDoor
