/- The input of type stolonlaw07.Swarm, opened (printed by openS.py). -/
import Derived.Test.YtelcnkclppkicaaGreatDoorLC
import Derived.Test.YtelcnkclppkicaaGreatDoorG8
set_option linter.unusedSimpArgs false
set_option linter.unusedVariables false
namespace Go.Proofs.YtelcnkclppkicaaGreatDoor
open Go Go.Eng Go.Proofs Go.ChangeShapes Go.WideShapes Go.ChangeAt Go.RowKit
theorem q7r:Tryz.prog.readableRec 61 = true /\ 61 < Tryz.prog.types.size:=⟨by kernel_rfl,of_decide_eq_true (by kernel_rfl)⟩
noncomputable def qqg:Array Field:=match Tryz.prog.underlying 61 with | some (.struct fs)=>fs | _=>#[]
theorem qhr:Tryz.prog.underlying 61 = some (.struct qqg):=by kernel_rfl
theorem q64:(qqg[0]?).map (fun f=>(f.type,f.offset)) = some (24,0):=by kernel_rfl
theorem q62:(qqg[1]?).map (fun f=>(f.type,f.offset)) = some (3,32):=by kernel_rfl
theorem q6X:(qqg[2]?).map (fun f=>(f.type,f.offset)) = some (3,33):=by kernel_rfl
theorem q73:(qqg[3]?).map (fun f=>(f.type,f.offset)) = some (29,34):=by kernel_rfl
theorem q6O:(qqg[4]?).map (fun f=>(f.type,f.offset)) = some (59,35):=by kernel_rfl
theorem q6y:Tryz.prog.cellsOf 61 = 36:=by kernel_rfl
theorem q0L:Tryz.prog.underlying 59 = some (.slice 67):=by kernel_rfl
theorem q69:qiN Tryz.prog 3 67 = some kEv:=by kernel_rfl
theorem q3L:Tryz.prog.cellsOf 67 = kEv.length:=by kernel_rfl
theorem q41:Tryz.prog.bytesOf 67 = 24:=by kernel_rfl
theorem q0U:Tryz.prog.cellsOf 59 = 1:=by kernel_rfl
section
variable {H:Type} {enc:TypeId × Value->H} {W:World} {base b:Nat} {sp:Nat->Bool}
set_option maxRecDepth 100000 in
theorem q5D {v:Value} {d:DataW H} {p:List MemPlace} {ts:List TypeId} {ds:List (DataW H)} {j:Nat} (hsp:∀ b,sp b = true)
  (hv:Value.okWide Tryz.prog W .any b 61 v) (h:DataW.Trod enc Tryz.prog W base sp true 61 v d p) (hsz:(DataW.weightsEach Tryz.prog ts ds).all (· <= reachBytes) = true) (hts:ts[j]? = some 61) (hds:ds[j]? = some d) :
  ∃ (row:List Value) (k1:Int) (k2:Int) (r3:Option Addr) (d3:List (List Value)) (c3:Nat) (r4:Option Addr) (d4:List (List Value)) (c4:Nat),v = .agg (row ++ ([.int .i64 k1,.int .i64 k2,.slice (ql r3 0) d3.length c3,.slice (ql r4 0) d4.length c4]:List Value)).toArray/\row.length = 32/\qgb 32 row/\qiP k1/\qiP k2/\d3.length <= c3/\qh8 W kI r3 d3/\(d3.length:Int) <= 17592186043904/\d4.length <= c4/\qh8 W kEv r4 d4/\(d4.length:Int) <= 5864062014634:=by
 simp only [Value.okWide,qhr] at hv
 obtain ⟨cs,rfl,hsize,_⟩:=hv
 rw [q6y] at hsize
 obtain ⟨fuel,hf⟩:=h
 simp only [Value.cells] at hf
 have hw:=q4m hsz hts hds
 have hl:cs.toList.length = 36:=by simpa using hsize
 generalize hcl:cs.toList = l at hf hl
 obtain rfl:cs = l.toArray:=by rw [<- hcl]
 have g:∀ i (hi:i < 36),(l.drop i).take 1 = [l[i]'(by omega)]:=fun i hi=>by
  rw [List.drop_eq_getElem_cons (by omega)]; rfl
 obtain ⟨m0,y0,h0,hw0⟩:=qfF qhr hf q64
 obtain ⟨m1,y1,h1,hw1⟩:=qfF qhr hf q62
 obtain ⟨m2,y2,h2,hw2⟩:=qfF qhr hf q6X
 obtain ⟨m3,y3,h3,hw3⟩:=qfF qhr hf q73
 obtain ⟨m4,y4,h4,hw4⟩:=qfF qhr hf q6O
 rw [q1M] at h0
 rw [q12] at h1
 rw [q12] at h2
 rw [q5r] at h3
 rw [q0U] at h4
 have rb:qgb 32 (l.take 32):=qw2 h0
 rw [g 32 (by decide)] at h1
 obtain ⟨z1,e1,_,w1⟩:=DataW.trod_int Tryz.underlying3 h1
 simp only [List.cons.injEq,and_true] at e1
 rw [g 33 (by decide)] at h2
 obtain ⟨z2,e2,_,w2⟩:=DataW.trod_int Tryz.underlying3 h2
 simp only [List.cons.injEq,and_true] at e2
 rw [g 34 (by decide)] at h3
 obtain ⟨r3,d3,q3,e3,s3,t3,_,x3⟩:=quL (w:=8) (m:=17592186043904) hsp q59 q8u q5S (by decide) q6J (by decide) h3 fun n hn=>hw n (hw3 n hn)
 rw [g 35 (by decide)] at h4
 obtain ⟨r4,d4,q4,e4,s4,t4,_,x4⟩:=quL (w:=24) (m:=5864062014634) hsp q0L q69 q3L (by decide) q41 (by decide) h4 fun n hn=>hw n (hw4 n hn)
 have hrest:l = l.take 32 ++ [l[32]'(by omega),l[33]'(by omega),l[34]'(by omega),l[35]'(by omega)]:=by
  conv=>lhs; rw [<- List.take_append_drop 32 l]
  rw [List.drop_eq_getElem_cons (by omega),List.drop_eq_getElem_cons (by omega),List.drop_eq_getElem_cons (by omega),List.drop_eq_getElem_cons (by omega),List.drop_of_length_le (by omega)]
 refine ⟨l.take 32,z1,z2,r3,d3,q3,r4,d4,q4,?_,by rw [List.length_take]; omega,rb,q0d w1,q0d w2,s3,x3,t3,s4,x4,t4⟩
 conv=>lhs; rw [hrest,e1,e2,e3,e4]
end
end Go.Proofs.YtelcnkclppkicaaGreatDoor
