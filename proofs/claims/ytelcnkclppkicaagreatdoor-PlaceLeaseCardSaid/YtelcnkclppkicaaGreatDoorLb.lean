/- The input of type stolonlaw07.Lease, opened (printed by openS.py). -/
import Derived.Test.YtelcnkclppkicaaGreatDoorLC
import Derived.Test.YtelcnkclppkicaaGreatDoorG8
set_option linter.unusedSimpArgs false
set_option linter.unusedVariables false
namespace Go.Proofs.YtelcnkclppkicaaGreatDoor
open Go Go.Eng Go.Proofs Go.ChangeShapes Go.WideShapes Go.ChangeAt Go.RowKit
theorem q6H:Tryz.prog.readableRec 126 = true /\ 126 < Tryz.prog.types.size:=⟨by kernel_rfl,of_decide_eq_true (by kernel_rfl)⟩
noncomputable def qpM:Array Field:=match Tryz.prog.underlying 126 with | some (.struct fs)=>fs | _=>#[]
theorem qhx:Tryz.prog.underlying 126 = some (.struct qpM):=by kernel_rfl
theorem q6k:(qpM[0]?).map (fun f=>(f.type,f.offset)) = some (24,0):=by kernel_rfl
theorem q6n:(qpM[1]?).map (fun f=>(f.type,f.offset)) = some (3,32):=by kernel_rfl
theorem q6T:(qpM[2]?).map (fun f=>(f.type,f.offset)) = some (3,33):=by kernel_rfl
theorem q6A:(qpM[3]?).map (fun f=>(f.type,f.offset)) = some (113,34):=by kernel_rfl
theorem q6M:(qpM[4]?).map (fun f=>(f.type,f.offset)) = some (113,35):=by kernel_rfl
theorem q59:Tryz.prog.cellsOf 126 = 36:=by kernel_rfl
theorem qtR:Tryz.prog.cellsOf 113 = 1:=by kernel_rfl
theorem qtE:Tryz.prog.underlying 113 = some (.int .u64):=by kernel_rfl
section
variable {H:Type} {enc:TypeId × Value->H} {W:World} {base b:Nat} {sp:Nat->Bool}
set_option maxRecDepth 100000 in
theorem q4V {v:Value} {d:DataW H} {p:List MemPlace} {ts:List TypeId} {ds:List (DataW H)} {j:Nat} (hsp:∀ b,sp b = true)
  (hv:Value.okWide Tryz.prog W .any b 126 v) (h:DataW.Trod enc Tryz.prog W base sp true 126 v d p) (hsz:(DataW.weightsEach Tryz.prog ts ds).all (· <= reachBytes) = true) (hts:ts[j]? = some 126) (hds:ds[j]? = some d) :
  ∃ (row:List Value) (k1:Int) (k2:Int) (k3:Int) (k4:Int),v = .agg (row ++ ([.int .i64 k1,.int .i64 k2,.int .u64 k3,.int .u64 k4]:List Value)).toArray/\row.length = 32/\qgh 32 row/\qiS k1/\qiS k2/\(0 <= k3/\k3 < 18446744073709551616)/\(0 <= k4/\k4 < 18446744073709551616):=by
 simp only [Value.okWide,qhx] at hv
 obtain ⟨cs,rfl,hsize,_⟩:=hv
 rw [q59] at hsize
 obtain ⟨fuel,hf⟩:=h
 simp only [Value.cells] at hf
 have hw:=q2w hsz hts hds
 have hl:cs.toList.length = 36:=by simpa using hsize
 generalize hcl:cs.toList = l at hf hl
 obtain rfl:cs = l.toArray:=by rw [<- hcl]
 have g:∀ i (hi:i < 36),(l.drop i).take 1 = [l[i]'(by omega)]:=fun i hi=>by
  rw [List.drop_eq_getElem_cons (by omega)]; rfl
 obtain ⟨m0,y0,h0,hw0⟩:=qfN qhx hf q6k
 obtain ⟨m1,y1,h1,hw1⟩:=qfN qhx hf q6n
 obtain ⟨m2,y2,h2,hw2⟩:=qfN qhx hf q6T
 obtain ⟨m3,y3,h3,hw3⟩:=qfN qhx hf q6A
 obtain ⟨m4,y4,h4,hw4⟩:=qfN qhx hf q6M
 rw [q0O] at h0
 rw [q2i] at h1
 rw [q2i] at h2
 rw [qtR] at h3
 rw [qtR] at h4
 have rb:qgh 32 (l.take 32):=qw1 h0
 rw [g 32 (by decide)] at h1
 obtain ⟨z1,e1,_,w1⟩:=DataW.trod_int Tryz.underlying3 h1
 simp only [List.cons.injEq,and_true] at e1
 rw [g 33 (by decide)] at h2
 obtain ⟨z2,e2,_,w2⟩:=DataW.trod_int Tryz.underlying3 h2
 simp only [List.cons.injEq,and_true] at e2
 rw [g 34 (by decide)] at h3
 obtain ⟨z3,e3,_,w3⟩:=DataW.trod_int qtE h3
 simp only [List.cons.injEq,and_true] at e3
 rw [g 35 (by decide)] at h4
 obtain ⟨z4,e4,_,w4⟩:=DataW.trod_int qtE h4
 simp only [List.cons.injEq,and_true] at e4
 have hrest:l = l.take 32 ++ [l[32]'(by omega),l[33]'(by omega),l[34]'(by omega),l[35]'(by omega)]:=by
  conv=>lhs; rw [<- List.take_append_drop 32 l]
  rw [List.drop_eq_getElem_cons (by omega),List.drop_eq_getElem_cons (by omega),List.drop_eq_getElem_cons (by omega),List.drop_eq_getElem_cons (by omega),List.drop_of_length_le (by omega)]
 refine ⟨l.take 32,z1,z2,z3,z4,?_,by rw [List.length_take]; omega,rb,q0h w1,q0h w2,q0c w3,q0c w4⟩
 conv=>lhs; rw [hrest,e1,e2,e3,e4]
end
end Go.Proofs.YtelcnkclppkicaaGreatDoor
