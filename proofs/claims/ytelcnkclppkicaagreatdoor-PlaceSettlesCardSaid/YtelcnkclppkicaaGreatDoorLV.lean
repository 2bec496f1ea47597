/- The input of type stolonlaw07.Settled, opened (printed by openS.py). -/
import Derived.Test.YtelcnkclppkicaaGreatDoorLC
import Derived.Test.YtelcnkclppkicaaGreatDoorG8
set_option linter.unusedSimpArgs false
set_option linter.unusedVariables false
namespace Go.Proofs.YtelcnkclppkicaaGreatDoor
open Go Go.Eng Go.Proofs Go.ChangeShapes Go.WideShapes Go.ChangeAt Go.RowKit
theorem q6a:Tryz.prog.readableRec 55 = true /\ 55 < Tryz.prog.types.size:=⟨by kernel_rfl,of_decide_eq_true (by kernel_rfl)⟩
noncomputable def qul:Array Field:=match Tryz.prog.underlying 55 with | some (.struct fs)=>fs | _=>#[]
theorem qiV:Tryz.prog.underlying 55 = some (.struct qul):=by kernel_rfl
theorem q5X:(qul[0]?).map (fun f=>(f.type,f.offset)) = some (24,0):=by kernel_rfl
theorem q6e:(qul[1]?).map (fun f=>(f.type,f.offset)) = some (29,32):=by kernel_rfl
theorem q5P:(qul[2]?).map (fun f=>(f.type,f.offset)) = some (29,33):=by kernel_rfl
theorem q6f:(qul[3]?).map (fun f=>(f.type,f.offset)) = some (3,34):=by kernel_rfl
theorem q4n:Tryz.prog.cellsOf 55 = 35:=by kernel_rfl
section
variable {H:Type} {enc:TypeId × Value->H} {W:World} {base b:Nat} {sp:Nat->Bool}
set_option maxRecDepth 100000 in
theorem q5e {v:Value} {d:DataW H} {p:List MemPlace} {ts:List TypeId} {ds:List (DataW H)} {j:Nat} (hsp:∀ b,sp b = true)
  (hv:Value.okWide Tryz.prog W .any b 55 v) (h:DataW.Trod enc Tryz.prog W base sp true 55 v d p) (hsz:(DataW.weightsEach Tryz.prog ts ds).all (· <= reachBytes) = true) (hts:ts[j]? = some 55) (hds:ds[j]? = some d) :
  ∃ (row:List Value) (r1:Option Addr) (d1:List (List Value)) (c1:Nat) (r2:Option Addr) (d2:List (List Value)) (c2:Nat) (k3:Int),v = .agg (row ++ ([.slice (qm r1 0) d1.length c1,.slice (qm r2 0) d2.length c2,.int .i64 k3]:List Value)).toArray/\row.length = 32/\qfE 32 row/\d1.length <= c1/\qht W kI r1 d1/\(d1.length:Int) <= 17592186043904/\d2.length <= c2/\qht W kI r2 d2/\(d2.length:Int) <= 17592186043904/\qkd k3:=by
 simp only [Value.okWide,qiV] at hv
 obtain ⟨cs,rfl,hsize,_⟩:=hv
 rw [q4n] at hsize
 obtain ⟨fuel,hf⟩:=h
 simp only [Value.cells] at hf
 have hw:=q3A hsz hts hds
 have hl:cs.toList.length = 35:=by simpa using hsize
 generalize hcl:cs.toList = l at hf hl
 obtain rfl:cs = l.toArray:=by rw [<- hcl]
 have g:∀ i (hi:i < 35),(l.drop i).take 1 = [l[i]'(by omega)]:=fun i hi=>by
  rw [List.drop_eq_getElem_cons (by omega)]; rfl
 obtain ⟨m0,y0,h0,hw0⟩:=qgQ qiV hf q5X
 obtain ⟨m1,y1,h1,hw1⟩:=qgQ qiV hf q6e
 obtain ⟨m2,y2,h2,hw2⟩:=qgQ qiV hf q5P
 obtain ⟨m3,y3,h3,hw3⟩:=qgQ qiV hf q6f
 rw [q1n] at h0
 rw [qwp] at h1
 rw [qwp] at h2
 rw [q5S] at h3
 have rb:qfE 32 (l.take 32):=qvR h0
 rw [g 32 (by decide)] at h1
 obtain ⟨r1,d1,q1,e1,s1,t1,_,x1⟩:=qtG (w:=8) (m:=17592186043904) hsp qw3 q5L qw0 (by decide) q1y (by decide) h1 fun n hn=>hw n (hw1 n hn)
 rw [g 33 (by decide)] at h2
 obtain ⟨r2,d2,q2,e2,s2,t2,_,x2⟩:=qtG (w:=8) (m:=17592186043904) hsp qw3 q5L qw0 (by decide) q1y (by decide) h2 fun n hn=>hw n (hw2 n hn)
 rw [g 34 (by decide)] at h3
 obtain ⟨z3,e3,_,w3⟩:=DataW.trod_int Tryz.underlying3 h3
 simp only [List.cons.injEq,and_true] at e3
 have hrest:l = l.take 32 ++ [l[32]'(by omega),l[33]'(by omega),l[34]'(by omega)]:=by
  conv=>lhs; rw [<- List.take_append_drop 32 l]
  rw [List.drop_eq_getElem_cons (by omega),List.drop_eq_getElem_cons (by omega),List.drop_eq_getElem_cons (by omega),List.drop_of_length_le (by omega)]
 refine ⟨l.take 32,r1,d1,q1,r2,d2,q2,z3,?_,by rw [List.length_take]; omega,rb,s1,x1,t1,s2,x2,t2,q6t w3⟩
 conv=>lhs; rw [hrest,e1,e2,e3]
end
end Go.Proofs.YtelcnkclppkicaaGreatDoor
