/- The input of the statements about manifests, opened. -/
import Derived.Test.YtelcnkclppkicaaDoorLD
import Derived.Test.YtelcnkclppkicaaDoorG5
set_option linter.unusedSimpArgs false
set_option linter.unusedVariables false
namespace Go.Proofs.YtelcnkclppkicaaDoor
open Go Go.Eng Go.Proofs Go.ChangeShapes Go.WideShapes Go.ChangeAt Go.RowKit
theorem goodCase:Tryd.prog.readableRec 31 = true ∧ 31 < Tryd.prog.types.size:=⟨by kernel_rfl,of_decide_eq_true (by kernel_rfl)⟩
noncomputable def fsC:Array Field:=match Tryd.prog.underlying 31 with | some (.struct fs)=>fs | _=>#[]
theorem underC:Tryd.prog.underlying 31 = some (.struct fsC):=by kernel_rfl
theorem fsC_0:(fsC[0]?).map (fun f=>(f.type,f.offset)) = some (3,0):=by kernel_rfl
theorem fsC_1:(fsC[1]?).map (fun f=>(f.type,f.offset)) = some (3,1):=by kernel_rfl
theorem fsC_2:(fsC[2]?).map (fun f=>(f.type,f.offset)) = some (3,2):=by kernel_rfl
theorem fsC_3:(fsC[3]?).map (fun f=>(f.type,f.offset)) = some (3,3):=by kernel_rfl
theorem fsC_4:(fsC[4]?).map (fun f=>(f.type,f.offset)) = some (22,4):=by kernel_rfl
theorem fsC_5:(fsC[5]?).map (fun f=>(f.type,f.offset)) = some (27,5):=by kernel_rfl
theorem fsC_6:(fsC[6]?).map (fun f=>(f.type,f.offset)) = some (28,42):=by kernel_rfl
theorem fsC_7:(fsC[7]?).map (fun f=>(f.type,f.offset)) = some (29,43):=by kernel_rfl
theorem cellsC:Tryd.prog.cellsOf 31 = 44:=by kernel_rfl
theorem underPs:Tryd.prog.underlying 28 = some (.slice 45):=by kernel_rfl
theorem underIs:Tryd.prog.underlying 29 = some (.slice 3):=by kernel_rfl
theorem patPc:patP Tryd.prog 3 45 = some kPiece:=by kernel_rfl
theorem cellsPc:Tryd.prog.cellsOf 45 = kPiece.length:=by kernel_rfl
theorem cellsPs:Tryd.prog.cellsOf 28 = 1:=by kernel_rfl
theorem bytesPc:Tryd.prog.bytesOf 45 = 32:=by kernel_rfl
theorem pat3:patP Tryd.prog 3 3 = some kI:=by kernel_rfl
theorem cells3':Tryd.prog.cellsOf 3 = kI.length:=by kernel_rfl
theorem cellsIs:Tryd.prog.cellsOf 29 = 1:=by kernel_rfl
theorem bytes3:Tryd.prog.bytesOf 3 = 8:=by kernel_rfl
theorem pieces_good {W:World} {r:Option Addr} {rows:List (List Value)} (h:rowsIn W kPiece r rows):({ d:=rows }:U).good:=rows_good h
theorem ints_good {W:World} {r:Option Addr} {rows:List (List Value)} (h:rowsIn W kI r rows):({ d:=rows }:U).good:=rows_good h
section
variable {H:Type} {enc:TypeId × Value→H} {W:World} {base b:Nat} {sp:Nat→Bool}
set_option maxRecDepth 100000 in
theorem open_case {v:Value} {d:DataW H} {p:List MemPlace} {ts:List TypeId} {ds:List (DataW H)} {j:Nat} (hsp:∀ b,sp b = true)
  (hv:Value.okWide Tryd.prog W .any b 31 v) (h:DataW.Trod enc Tryd.prog W base sp true 31 v d p) (hsz:(DataW.weightsEach Tryd.prog ts ds).all (· ≤ reachBytes) = true) (hts:ts[j]? = some 31) (hds:ds[j]? = some d) :
  ∃ (k0 k1 k2 k3 mk mn mt ms:Int) (row:List Value) (r0 r1 r2 r3:Option Addr) (d0 d1 d2 d3:List (List Value)) (c0 c1 c2 c3:Nat),
   v = .agg (([.int .i64 k0,.int .i64 k1,.int .i64 k2,.int .i64 k3,.slice (addrOf r0 0) d0.length c0]:List Value) ++ ((([.int .i64 mk,.int .i64 mn,.int .i64 mt,.int .i64 ms]:List Value) ++ (row ++ [Value.slice (addrOf r1 0) d1.length c1])) ++ [Value.slice (addrOf r2 0) d2.length c2,.slice (addrOf r3 0) d3.length c3])).toArray ∧
   row.length = 32∧rowBytes 32 row∧bytesAt W r0 d0∧rowsIn W k32 r1 d1∧rowsIn W kPiece r2 d2∧rowsIn W kI r3 d3 ∧
   caseP k0 k1 k2 k3 mk mn mt ms d0.length c0 d1.length c1 d2.length c2 d3.length c3 [row] d0 d1 d2 d3 (fun b=>W.heap[b]?):=by
 simp only [Value.okWide,underC] at hv
 obtain ⟨cs,rfl,hsize,_⟩:=hv
 rw [cellsC] at hsize
 obtain ⟨fuel,hf⟩:=h
 simp only [Value.cells] at hf
 have hw:=sized_of hsz hts hds
 have hl:cs.toList.length = 44:=by simpa using hsize
 generalize hcl:cs.toList = l at hf hl
 obtain rfl:cs = l.toArray:=by rw [← hcl]
 obtain ⟨m0,y0,h0,_⟩:=open_field underC hf fsC_0
 obtain ⟨m1,y1,h1,_⟩:=open_field underC hf fsC_1
 obtain ⟨m2,y2,h2,_⟩:=open_field underC hf fsC_2
 obtain ⟨m3,y3,h3,_⟩:=open_field underC hf fsC_3
 obtain ⟨m4,y4,h4,hw4⟩:=open_field underC hf fsC_4
 obtain ⟨m5,y5,h5,hw5⟩:=open_field underC hf fsC_5
 obtain ⟨m6,y6,h6,hw6⟩:=open_field underC hf fsC_6
 obtain ⟨m7,y7,h7,hw7⟩:=open_field underC hf fsC_7
 rw [cells3] at h0 h1 h2 h3
 rw [cells22'] at h4
 rw [cellsM] at h5
 rw [cellsPs] at h6
 rw [cellsIs] at h7
 match l,hl with
 | a0 :: a1 :: a2 :: a3 :: a4 :: rest,hl =>
  simp only [List.length_cons] at hl
  have g5:((a0 :: a1 :: a2 :: a3 :: a4 :: rest).drop 5).take 37 = rest.take 37:=rfl
  have g6:((a0 :: a1 :: a2 :: a3 :: a4 :: rest).drop 42).take 1 = [rest[37]'(by omega)]:=by
   show (rest.drop 37).take 1 = _
   rw [List.drop_eq_getElem_cons (by omega)]; rfl
  have g7:((a0 :: a1 :: a2 :: a3 :: a4 :: rest).drop 43).take 1 = [rest[38]'(by omega)]:=by
   show (rest.drop 38).take 1 = _
   rw [List.drop_eq_getElem_cons (by omega)]; rfl
  rw [g5] at h5
  rw [g6] at h6
  rw [g7] at h7
  simp at h0 h1 h2 h3 h4
  obtain ⟨z0,e0,_,w0⟩:=DataW.trod_int Tryd.underlying3 h0
  obtain ⟨z1,e1,_,w1⟩:=DataW.trod_int Tryd.underlying3 h1
  obtain ⟨z2,e2,_,w2⟩:=DataW.trod_int Tryd.underlying3 h2
  obtain ⟨z3,e3,_,w3⟩:=DataW.trod_int Tryd.underlying3 h3
  simp only [List.cons.injEq,and_true] at e0 e1 e2 e3
  obtain ⟨r0,d0,k0,e4,p1,p2,p3,p4⟩:=rows_bytes hsp h4 fun n hn=>hw n (hw4 n hn)
  obtain ⟨mk,mn,mt,ms,row,r1,d1,k1,e5,wk,wn,wt,wsz,rl,rb,q1,q2,q3,q4⟩:=cells_manifest hsp (by rw [List.length_take]; omega) h5 fun n hn=>hw n (hw5 n hn)
  obtain ⟨r2,d2,k2,e6,s1,s2,s3,s4⟩:=rows_any (w:=32) (m:=4398046510976) hsp underPs patPc cellsPc (by decide) bytesPc (by decide) h6 fun n hn=>hw n (hw6 n hn)
  obtain ⟨r3,d3,k3,e7,t1,t2,t3,t4⟩:=rows_any (w:=8) (m:=17592186043904) hsp underIs pat3 cells3' (by decide) bytes3 (by decide) h7 fun n hn=>hw n (hw7 n hn)
  have hrest:rest = rest.take 37 ++ [rest[37]'(by omega),rest[38]'(by omega)]:=by
   conv=>lhs; rw [← List.take_append_drop 37 rest]
   rw [List.drop_eq_getElem_cons (by omega),List.drop_eq_getElem_cons (by omega),List.drop_of_length_le (by omega)]
  refine ⟨z0,z1,z2,z3,mk,mn,mt,ms,row,r0,r1,r2,r3,d0,d1,d2,d3,k0,k1,k2,k3,?_,rl,rb,p4,q4,s4,t4,?_⟩
  ·conv=>lhs; rw [hrest,e5,e6,e7,e0,e1,e2,e3,e4]
   rfl
  ·refine ⟨wf_i64 w0,wf_i64 w1,wf_i64 w2,wf_i64 w3,wk,wn,wt,wsz,⟨rfl,p2,p3,Int.ofNat_le.2 p1⟩,row_bytes rb,⟨rfl,q2,q3,Int.ofNat_le.2 q1⟩,⟨rfl,s2,Int.ofNat_le.2 s1,fun i hi=>?_⟩,⟨rfl,t2⟩⟩
   obtain ⟨fuel',x',ht⟩:=s3 d2[i] (List.getElem_mem hi)
   have hfit:=rowsIn_fits s4 (List.getElem?_eq_getElem hi)
   match hm:d2[i],hfit.1 with
   | [a,v],_ =>
    rw [hm] at ht hfit
    obtain ⟨z,rfl⟩:=fits_int (hfit.2 0 (.int .i64) a rfl rfl)
    obtain ⟨m,y,hy,_⟩:=open_field underP ht fsP_1
    rw [cells22'] at hy
    obtain ⟨dd,g1,g2⟩:=cell_bytes hsp hy
    exact ⟨z,v,dd,by rw [List.getElem?_eq_getElem hi,hm],g1,g2⟩
end
end Go.Proofs.YtelcnkclppkicaaDoor
