/- The input of type stolonlaw07.Live, opened (printed by openS.py). -/
import Derived.Test.YtelcnkclppkicaaGreatDoorLC
import Derived.Test.YtelcnkclppkicaaGreatDoorG8
set_option linter.unusedSimpArgs false
set_option linter.unusedVariables false
namespace Go.Proofs.YtelcnkclppkicaaGreatDoor
open Go Go.Eng Go.Proofs Go.ChangeShapes Go.WideShapes Go.ChangeAt Go.RowKit
theorem q6h:Tryz.prog.readableRec 49 = true /\ 49 < Tryz.prog.types.size:=⟨by kernel_rfl,of_decide_eq_true (by kernel_rfl)⟩
noncomputable def qs0:Array Field:=match Tryz.prog.underlying 49 with | some (.struct fs)=>fs | _=>#[]
theorem qji:Tryz.prog.underlying 49 = some (.struct qs0):=by kernel_rfl
theorem q60:(qs0[0]?).map (fun f=>(f.type,f.offset)) = some (24,0):=by kernel_rfl
theorem q63:(qs0[1]?).map (fun f=>(f.type,f.offset)) = some (29,32):=by kernel_rfl
theorem q6d:(qs0[2]?).map (fun f=>(f.type,f.offset)) = some (3,33):=by kernel_rfl
theorem q6S:(qs0[3]?).map (fun f=>(f.type,f.offset)) = some (3,34):=by kernel_rfl
theorem q4W:Tryz.prog.cellsOf 49 = 35:=by kernel_rfl
section
variable {H:Type} {enc:TypeId × Value->H} {W:World} {base b:Nat} {sp:Nat->Bool}
set_option maxRecDepth 100000 in
theorem q5t {v:Value} {d:DataW H} {p:List MemPlace} {ts:List TypeId} {ds:List (DataW H)} {j:Nat} (hsp:∀ b,sp b = true)
  (hv:Value.okWide Tryz.prog W .any b 49 v) (h:DataW.Trod enc Tryz.prog W base sp true 49 v d p) (hsz:(DataW.weightsEach Tryz.prog ts ds).all (· <= reachBytes) = true) (hts:ts[j]? = some 49) (hds:ds[j]? = some d) :
  ∃ (row:List Value) (r1:Option Addr) (d1:List (List Value)) (c1:Nat) (k2:Int) (k3:Int),v = .agg (row ++ ([.slice (qm r1 0) d1.length c1,.int .i64 k2,.int .i64 k3]:List Value)).toArray/\row.length = 32/\qfW 32 row/\d1.length <= c1/\qjd W kI r1 d1/\(d1.length:Int) <= 17592186043904/\qiv k2/\qiv k3:=by
 simp only [Value.okWide,qji] at hv
 obtain ⟨cs,rfl,hsize,_⟩:=hv
 rw [q4W] at hsize
 obtain ⟨fuel,hf⟩:=h
 simp only [Value.cells] at hf
 have hw:=q2E hsz hts hds
 have hl:cs.toList.length = 35:=by simpa using hsize
 generalize hcl:cs.toList = l at hf hl
 obtain rfl:cs = l.toArray:=by rw [<- hcl]
 have g:∀ i (hi:i < 35),(l.drop i).take 1 = [l[i]'(by omega)]:=fun i hi=>by
  rw [List.drop_eq_getElem_cons (by omega)]; rfl
 obtain ⟨m0,y0,h0,hw0⟩:=qgR qji hf q60
 obtain ⟨m1,y1,h1,hw1⟩:=qgR qji hf q63
 obtain ⟨m2,y2,h2,hw2⟩:=qgR qji hf q6d
 obtain ⟨m3,y3,h3,hw3⟩:=qgR qji hf q6S
 rw [q1i] at h0
 rw [q5H] at h1
 rw [qzI] at h2
 rw [qzI] at h3
 have rb:qfW 32 (l.take 32):=qvW h0
 rw [g 32 (by decide)] at h1
 obtain ⟨r1,d1,q1,e1,s1,t1,_,x1⟩:=q28 (w:=8) (m:=17592186043904) hsp q5G q8l q5b (by decide) q6m (by decide) h1 fun n hn=>hw n (hw1 n hn)
 rw [g 33 (by decide)] at h2
 obtain ⟨z2,e2,_,w2⟩:=DataW.trod_int Tryz.underlying3 h2
 simp only [List.cons.injEq,and_true] at e2
 rw [g 34 (by decide)] at h3
 obtain ⟨z3,e3,_,w3⟩:=DataW.trod_int Tryz.underlying3 h3
 simp only [List.cons.injEq,and_true] at e3
 have hrest:l = l.take 32 ++ [l[32]'(by omega),l[33]'(by omega),l[34]'(by omega)]:=by
  conv=>lhs; rw [<- List.take_append_drop 32 l]
  rw [List.drop_eq_getElem_cons (by omega),List.drop_eq_getElem_cons (by omega),List.drop_eq_getElem_cons (by omega),List.drop_of_length_le (by omega)]
 refine ⟨l.take 32,r1,d1,q1,z2,z3,?_,by rw [List.length_take]; omega,rb,s1,x1,t1,q0N w2,q0N w3⟩
 conv=>lhs; rw [hrest,e1,e2,e3]
end
end Go.Proofs.YtelcnkclppkicaaGreatDoor
