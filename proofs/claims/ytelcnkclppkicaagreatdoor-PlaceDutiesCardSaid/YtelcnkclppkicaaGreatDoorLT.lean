/- The input of type stolonlaw07.Case, opened (printed by openS.py). -/
import Derived.Test.YtelcnkclppkicaaGreatDoorLC
import Derived.Test.YtelcnkclppkicaaGreatDoorG9
set_option linter.unusedSimpArgs false
set_option linter.unusedVariables false
namespace Go.Proofs.YtelcnkclppkicaaGreatDoor
open Go Go.Eng Go.Proofs Go.ChangeShapes Go.WideShapes Go.ChangeAt Go.RowKit
theorem q9a:Tryz.prog.readableRec 72 = true /\ 72 < Tryz.prog.types.size:=⟨by kernel_rfl,of_decide_eq_true (by kernel_rfl)⟩
noncomputable def qm8:Array Field:=match Tryz.prog.underlying 72 with | some (.struct fs)=>fs | _=>#[]
theorem qfz:Tryz.prog.underlying 72 = some (.struct qm8):=by kernel_rfl
theorem q9p:(qm8[0]?).map (fun f=>(f.type,f.offset)) = some (24,0):=by kernel_rfl
theorem q8j:(qm8[1]?).map (fun f=>(f.type,f.offset)) = some (3,32):=by kernel_rfl
theorem q8b:(qm8[2]?).map (fun f=>(f.type,f.offset)) = some (3,33):=by kernel_rfl
theorem q8L:(qm8[3]?).map (fun f=>(f.type,f.offset)) = some (29,34):=by kernel_rfl
theorem q8C:(qm8[4]?).map (fun f=>(f.type,f.offset)) = some (29,35):=by kernel_rfl
theorem q8r:(qm8[5]?).map (fun f=>(f.type,f.offset)) = some (4,36):=by kernel_rfl
theorem q8G:(qm8[6]?).map (fun f=>(f.type,f.offset)) = some (4,37):=by kernel_rfl
theorem q7V:Tryz.prog.cellsOf 72 = 38:=by kernel_rfl
theorem quD:Tryz.prog.cellsOf 4 = 1:=by kernel_rfl
section
variable {H:Type} {enc:TypeId × Value->H} {W:World} {base b:Nat} {sp:Nat->Bool}
set_option maxRecDepth 100000 in
theorem q6Z {v:Value} {d:DataW H} {p:List MemPlace} {ts:List TypeId} {ds:List (DataW H)} {j:Nat} (hsp:∀ b,sp b = true)
  (hv:Value.okWide Tryz.prog W .any b 72 v) (h:DataW.Trod enc Tryz.prog W base sp true 72 v d p) (hsz:(DataW.weightsEach Tryz.prog ts ds).all (· <= reachBytes) = true) (hts:ts[j]? = some 72) (hds:ds[j]? = some d) :
  ∃ (row:List Value) (k1:Int) (k2:Int) (r3:Option Addr) (d3:List (List Value)) (c3:Nat) (r4:Option Addr) (d4:List (List Value)) (c4:Nat) (k5:Bool) (k6:Bool),v = .agg (row ++ ([.int .i64 k1,.int .i64 k2,.slice (qm r3 0) d3.length c3,.slice (qm r4 0) d4.length c4,.bool k5,.bool k6]:List Value)).toArray/\row.length = 32/\qg5 32 row/\qjp k1/\qjp k2/\d3.length <= c3/\qif W kI r3 d3/\(d3.length:Int) <= 17592186043904/\d4.length <= c4/\qif W kI r4 d4/\(d4.length:Int) <= 17592186043904:=by
 simp only [Value.okWide,qfz] at hv
 obtain ⟨cs,rfl,hsize,_⟩:=hv
 rw [q7V] at hsize
 obtain ⟨fuel,hf⟩:=h
 simp only [Value.cells] at hf
 have hw:=q5u hsz hts hds
 have hl:cs.toList.length = 38:=by simpa using hsize
 generalize hcl:cs.toList = l at hf hl
 obtain rfl:cs = l.toArray:=by rw [<- hcl]
 have g:∀ i (hi:i < 38),(l.drop i).take 1 = [l[i]'(by omega)]:=fun i hi=>by
  rw [List.drop_eq_getElem_cons (by omega)]; rfl
 obtain ⟨m0,y0,h0,hw0⟩:=qdq qfz hf q9p
 obtain ⟨m1,y1,h1,hw1⟩:=qdq qfz hf q8j
 obtain ⟨m2,y2,h2,hw2⟩:=qdq qfz hf q8b
 obtain ⟨m3,y3,h3,hw3⟩:=qdq qfz hf q8L
 obtain ⟨m4,y4,h4,hw4⟩:=qdq qfz hf q8C
 obtain ⟨m5,y5,h5,hw5⟩:=qdq qfz hf q8r
 obtain ⟨m6,y6,h6,hw6⟩:=qdq qfz hf q8G
 rw [q2f] at h0
 rw [q32] at h1
 rw [q32] at h2
 rw [qy0] at h3
 rw [qy0] at h4
 rw [quD] at h5
 rw [quD] at h6
 have rb:qg5 32 (l.take 32):=qxF h0
 rw [g 32 (by decide)] at h1
 obtain ⟨z1,e1,_,w1⟩:=DataW.trod_int Tryz.underlying3 h1
 simp only [List.cons.injEq,and_true] at e1
 rw [g 33 (by decide)] at h2
 obtain ⟨z2,e2,_,w2⟩:=DataW.trod_int Tryz.underlying3 h2
 simp only [List.cons.injEq,and_true] at e2
 rw [g 34 (by decide)] at h3
 obtain ⟨r3,d3,q3,e3,s3,t3,_,x3⟩:=qvR (w:=8) (m:=17592186043904) hsp qy5 q8O qxX (by decide) q1T (by decide) h3 fun n hn=>hw n (hw3 n hn)
 rw [g 35 (by decide)] at h4
 obtain ⟨r4,d4,q4,e4,s4,t4,_,x4⟩:=qvR (w:=8) (m:=17592186043904) hsp qy5 q8O qxX (by decide) q1T (by decide) h4 fun n hn=>hw n (hw4 n hn)
 rw [g 36 (by decide)] at h5
 obtain ⟨z5,e5,_⟩:=DataW.trod_bool Tryz.underlying4 h5
 simp only [List.cons.injEq,and_true] at e5
 rw [g 37 (by decide)] at h6
 obtain ⟨z6,e6,_⟩:=DataW.trod_bool Tryz.underlying4 h6
 simp only [List.cons.injEq,and_true] at e6
 have hrest:l = l.take 32 ++ [l[32]'(by omega),l[33]'(by omega),l[34]'(by omega),l[35]'(by omega),l[36]'(by omega),l[37]'(by omega)]:=by
  conv=>lhs; rw [<- List.take_append_drop 32 l]
  rw [List.drop_eq_getElem_cons (by omega),List.drop_eq_getElem_cons (by omega),List.drop_eq_getElem_cons (by omega),List.drop_eq_getElem_cons (by omega),List.drop_eq_getElem_cons (by omega),List.drop_eq_getElem_cons (by omega),List.drop_of_length_le (by omega)]
 refine ⟨l.take 32,z1,z2,r3,d3,q3,r4,d4,q4,z5,z6,?_,by rw [List.length_take]; omega,rb,q2L w1,q2L w2,s3,x3,t3,s4,x4,t4⟩
 conv=>lhs; rw [hrest,e1,e2,e3,e4,e5,e6]
end
end Go.Proofs.YtelcnkclppkicaaGreatDoor
