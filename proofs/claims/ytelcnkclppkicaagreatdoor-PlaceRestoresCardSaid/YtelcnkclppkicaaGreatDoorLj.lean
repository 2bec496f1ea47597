/- The input of type stolonlaw07.Pieces, opened (printed by openS.py). -/
import Derived.Test.YtelcnkclppkicaaGreatDoorLC
import Derived.Test.YtelcnkclppkicaaGreatDoorG8
import Derived.Test.YtelcnkclppkicaaGreatDoorG1
set_option linter.unusedSimpArgs false
set_option linter.unusedVariables false
namespace Go.Proofs.YtelcnkclppkicaaGreatDoor
open Go Go.Eng Go.Proofs Go.ChangeShapes Go.WideShapes Go.ChangeAt Go.RowKit
theorem q8T:Tryz.prog.readableRec 76 = true /\ 76 < Tryz.prog.types.size:=⟨by kernel_rfl,jbq (by kernel_rfl)⟩
noncomputable def quN:Array Field:=match Tryz.prog.underlying 76 with | some (.struct fs)=>fs | _=>#[]
theorem qjU:Tryz.prog.underlying 76 = some (.struct quN):=by kernel_rfl
theorem q9s:(quN[0]?).map (fun f=>(f.type,f.offset)) = some (3,0):=by kernel_rfl
theorem q9a:(quN[1]?).map (fun f=>(f.type,f.offset)) = some (3,1):=by kernel_rfl
theorem q9B:(quN[2]?).map (fun f=>(f.type,f.offset)) = some (22,2):=by kernel_rfl
theorem q8X:(quN[3]?).map (fun f=>(f.type,f.offset)) = some (29,3):=by kernel_rfl
theorem q8C:Tryz.prog.cellsOf 76 = 4:=by kernel_rfl
section
variable {H:Type} {enc:TypeId × Value->H} {W:World} {base b:Nat} {sp:Nat->Bool}
set_option maxRecDepth 100000 in
theorem q8r {v:Value} {d:DataW H} {p:List MemPlace} {ts:List TypeId} {ds:List (DataW H)} {j:Nat} (hsp:∀ b,sp b = true)
  (hv:Value.okWide Tryz.prog W .any b 76 v) (h:DataW.Trod enc Tryz.prog W base sp true 76 v d p) (hsz:(DataW.weightsEach Tryz.prog ts ds).all (· <= reachBytes) = true) (hts:ts[j]? = some 76) (hds:ds[j]? = some d) :
  ∃ (k0:Int) (k1:Int) (r2:Option Addr) (d2:List (List Value)) (c2:Nat) (r3:Option Addr) (d3:List (List Value)) (c3:Nat),v = .agg (([.int .i64 k0,.int .i64 k1,.slice (qm r2 0) d2.length c2,.slice (qm r3 0) d3.length c3]:List Value)).toArray/\qbn k0/\qbn k1/\d2.length <= c2/\qqJ W r2 d2/\(d2.length:Int) <= 140737488351232/\qp d2/\d3.length <= c3/\qjy W kI r3 d3/\(d3.length:Int) <= 17592186043904:=by
 simp only [Value.okWide,qjU] at hv
 obtain ⟨cs,rfl,hsize,_⟩:=hv
 rw [q8C] at hsize
 obtain ⟨fuel,hf⟩:=h
 simp only [Value.cells] at hf
 have hw:=q6q hsz hts hds
 have hl:cs.toList.length = 4:=by simpa using hsize
 generalize hcl:cs.toList = l at hf hl
 obtain rfl:cs = l.toArray:=by rw [<- hcl]
 have g:∀ i (hi:i < 4),(l.drop i).take 1 = [l[i]'(by omega)]:=fun i hi=>by
  rw [jbw (by omega)]; rfl
 obtain ⟨m0,y0,h0,hw0⟩:=qgY qjU hf q9s
 obtain ⟨m1,y1,h1,hw1⟩:=qgY qjU hf q9a
 obtain ⟨m2,y2,h2,hw2⟩:=qgY qjU hf q9B
 obtain ⟨m3,y3,h3,hw3⟩:=qgY qjU hf q8X
 rw [q4b] at h0
 rw [q4b] at h1
 rw [q45] at h2
 rw [q8K] at h3
 rw [g 0 (by decide)] at h0
 obtain ⟨z0,e0,_,w0⟩:=DataW.trod_int Tryz.underlying3 h0
 simp only [jb9,and_true] at e0
 rw [g 1 (by decide)] at h1
 obtain ⟨z1,e1,_,w1⟩:=DataW.trod_int Tryz.underlying3 h1
 simp only [jb9,and_true] at e1
 rw [g 2 (by decide)] at h2
 obtain ⟨r2,d2,q2,e2,s2,t2,a2,x2⟩:=qzY hsp h2 fun n hn=>hw n (hw2 n hn)
 rw [g 3 (by decide)] at h3
 obtain ⟨r3,d3,q3,e3,s3,t3,_,x3⟩:=q44 (w:=8) (m:=17592186043904) hsp q83 qBa q7P (by decide) q9m (by decide) h3 fun n hn=>hw n (hw3 n hn)
 have hrest:l = l.take 0 ++ [l[0]'(by omega),l[1]'(by omega),l[2]'(by omega),l[3]'(by omega)]:=by
  conv=>lhs; rw [<- jec 0 l]
  rw [jbw (by omega),jbw (by omega),jbw (by omega),jbw (by omega),List.drop_of_length_le (by omega)]
 refine ⟨z0,z1,r2,d2,q2,r3,d3,q3,?_,q2M w0,q2M w1,s2,x2,t2,a2,s3,x3,t3⟩
 conv=>lhs; rw [hrest,e0,e1,e2,e3]
 rfl
end
end Go.Proofs.YtelcnkclppkicaaGreatDoor
