/- An offer (a manifest, a piece, a number), opened. -/
import Derived.Test.YtelcnkclppkicaaGreatDoorLC
set_option linter.unusedSimpArgs false
set_option linter.unusedVariables false
namespace Go.Proofs.YtelcnkclppkicaaGreatDoor
open Go Go.Eng Go.Proofs Go.ChangeShapes Go.WideShapes Go.ChangeAt Go.RowKit
theorem q6h:Tryz.prog.readableRec 96 = true /\ 96 < Tryz.prog.types.size:=⟨by kernel_rfl,of_decide_eq_true (by kernel_rfl)⟩
noncomputable def qyG:Array Field:=match Tryz.prog.underlying 96 with | some (.struct fs)=>fs | _=>#[]
theorem qmk:Tryz.prog.underlying 96 = some (.struct qyG):=by kernel_rfl
theorem q6D:(qyG[0]?).map (fun f=>(f.type,f.offset)) = some (27,0):=by kernel_rfl
theorem q7j:(qyG[1]?).map (fun f=>(f.type,f.offset)) = some (86,37):=by kernel_rfl
theorem q7a:(qyG[2]?).map (fun f=>(f.type,f.offset)) = some (3,39):=by kernel_rfl
theorem q2x:Tryz.prog.cellsOf 96 = 40:=by kernel_rfl
section
variable {H:Type} {enc:TypeId × Value->H} {W:World} {base b:Nat} {sp:Nat->Bool}
set_option maxRecDepth 100000 in
theorem qvu {fuel:Nat} {l:List Value} {x:DataW H × List MemPlace} (hsp:∀ b,sp b = true) (hl:l.length = 40) (hf:DataW.trod enc Tryz.prog W base sp true fuel 96 l = some x) (hw:∀ n ∈ x.1.weights Tryz.prog 96,n <= reachBytes) :
  ∃ (k n t s:Int) (row:List Value) (r:Option Addr) (rows:List (List Value)) (cap:Nat) (i:Int) (r1:Option Addr) (d1:List (List Value)) (c1:Nat) (x:Int),
   l = (([.int .i64 k,.int .i64 n,.int .i64 t,.int .i64 s]:List Value) ++ (row ++ [Value.slice (ql r 0) rows.length cap])) ++ ([.int .i64 i,.slice (ql r1 0) d1.length c1,.int .i64 x]:List Value) /\
   qcR k/\qcR n/\qcR t/\qcR s/\row.length = 32/\qdb 32 row/\rows.length <= cap/\(rows.length:Int) <= 4398046510976/\qdi rows/\qhB W k32 r rows /\
   qcR i/\d1.length <= c1/\(d1.length:Int) <= 140737488351232/\qy d1/\qmh W r1 d1/\qcR x:=by
 obtain ⟨m0,y0,h0,hw0⟩:=qbk qmk hf q6D
 obtain ⟨m1,y1,h1,hw1⟩:=qbk qmk hf q7j
 obtain ⟨m2,y2,h2,_⟩:=qbk qmk hf q7a
 rw [q6q] at h0
 rw [q60] at h1
 rw [qsX] at h2
 have g0:(l.drop 0).take 37 = l.take 37:=rfl
 have g1:(l.drop 37).take 2 = [l[37]'(by omega),l[38]'(by omega)]:=by
  rw [List.drop_eq_getElem_cons (by omega),List.drop_eq_getElem_cons (by omega)]; rfl
 have g2:(l.drop 39).take 1 = [l[39]'(by omega)]:=by
  rw [List.drop_eq_getElem_cons (by omega)]; rfl
 rw [g0] at h0
 rw [g1] at h1
 rw [g2] at h2
 obtain ⟨z2,e2,_,w2⟩:=DataW.trod_int Tryz.underlying3 h2
 simp only [List.cons.injEq,and_true] at e2
 obtain ⟨mk,mn,mt,ms,row,r1,d1,k1,e5,wk,wn,wt,wsz,rl,rb,q1,q2,q3,q4⟩:=qq7 hsp (by rw [List.length_take]; omega) h0 fun n hn=>hw n (hw0 n hn)
 obtain ⟨mp,yp,hp0,_⟩:=qbk q1p h1 q7J
 obtain ⟨mq,yq,hp1,hwq⟩:=qbk q1p h1 q78
 rw [qsX] at hp0
 rw [q4d] at hp1
 simp at hp0 hp1
 obtain ⟨z0,e0,_,w0⟩:=DataW.trod_int Tryz.underlying3 hp0
 simp only [List.cons.injEq,and_true] at e0
 obtain ⟨r3,d3,c3,e3,s1,s2,s3,s4⟩:=qyA hsp hp1 fun n hn=>hw n (hw1 n (hwq n hn))
 have hrest:l = l.take 37 ++ [l[37]'(by omega),l[38]'(by omega),l[39]'(by omega)]:=by
  conv=>lhs; rw [<- List.take_append_drop 37 l]
  rw [List.drop_eq_getElem_cons (by omega),List.drop_eq_getElem_cons (by omega),List.drop_eq_getElem_cons (by omega),List.drop_of_length_le (by omega)]
 refine ⟨mk,mn,mt,ms,row,r1,d1,k1,z0,r3,d3,c3,z2,?_,wk,wn,wt,wsz,rl,rb,q1,q2,q3,q4,qjg w0,s1,s2,s3,s4,qjg w2⟩
 conv=>lhs; rw [hrest,e5,e0,e3,e2]
set_option maxRecDepth 100000 in
theorem qxH {v:Value} {d:DataW H} {p:List MemPlace} {ts:List TypeId} {ds:List (DataW H)} {j:Nat} (hsp:∀ b,sp b = true)
  (hv:Value.okWide Tryz.prog W .any b 96 v) (h:DataW.Trod enc Tryz.prog W base sp true 96 v d p) (hsz:(DataW.weightsEach Tryz.prog ts ds).all (· <= reachBytes) = true) (hts:ts[j]? = some 96) (hds:ds[j]? = some d) :
  ∃ (k n t s:Int) (row:List Value) (r:Option Addr) (rows:List (List Value)) (cap:Nat) (i:Int) (r1:Option Addr) (d1:List (List Value)) (c1:Nat) (x:Int),
   v = .agg ((([.int .i64 k,.int .i64 n,.int .i64 t,.int .i64 s]:List Value) ++ (row ++ [Value.slice (ql r 0) rows.length cap])) ++ ([.int .i64 i,.slice (ql r1 0) d1.length c1,.int .i64 x]:List Value)).toArray /\
   qcR k/\qcR n/\qcR t/\qcR s/\row.length = 32/\qdb 32 row/\rows.length <= cap/\(rows.length:Int) <= 4398046510976/\qdi rows/\qhB W k32 r rows /\
   qcR i/\d1.length <= c1/\(d1.length:Int) <= 140737488351232/\qy d1/\qmh W r1 d1/\qcR x:=by
 simp only [Value.okWide,qmk] at hv
 obtain ⟨cs,rfl,hsize,_⟩:=hv
 rw [q2x] at hsize
 obtain ⟨fuel,hf⟩:=h
 simp only [Value.cells] at hf
 obtain ⟨k,n,t,s,row,r,rows,cap,i,r1,d1,c1,x,e,rest⟩:=qvu hsp (by simpa using hsize) hf (q3x hsz hts hds)
 exact ⟨k,n,t,s,row,r,rows,cap,i,r1,d1,c1,x,by rw [<- e],rest⟩
end
end Go.Proofs.YtelcnkclppkicaaGreatDoor
