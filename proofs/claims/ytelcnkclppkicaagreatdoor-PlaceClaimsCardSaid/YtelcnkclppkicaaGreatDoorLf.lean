/- The calls of the statement about claims, opened. -/
import Derived.Test.YtelcnkclppkicaaGreatDoorLC
import Derived.Test.YtelcnkclppkicaaGreatDoorG8
import Derived.Test.YtelcnkclppkicaaGreatDoorG1
set_option linter.unusedSimpArgs false
set_option linter.unusedVariables false
namespace Go.Proofs.YtelcnkclppkicaaGreatDoor
open Go Go.Eng Go.Proofs Go.ChangeShapes Go.WideShapes Go.ChangeAt Go.RowKit
theorem q88:Tryz.prog.readableRec 109 = true /\ 109 < Tryz.prog.types.size:=⟨by kernel_rfl,jbf (by kernel_rfl)⟩
noncomputable def qrw:Array Field:=match Tryz.prog.underlying 115 with | some (.struct fs)=>fs | _=>#[]
theorem qj6:Tryz.prog.underlying 115 = some (.struct qrw):=by kernel_rfl
theorem q9d:(qrw[1]?).map (fun f=>(f.type,f.offset)) = some (24,1):=by kernel_rfl
theorem q9b:(qrw[4]?).map (fun f=>(f.type,f.offset)) = some (113,35):=by kernel_rfl
theorem q8S:(qrw[5]?).map (fun f=>(f.type,f.offset)) = some (113,36):=by kernel_rfl
theorem q8n:(qrw[6]?).map (fun f=>(f.type,f.offset)) = some (29,37):=by kernel_rfl
theorem q8C:(qrw[7]?).map (fun f=>(f.type,f.offset)) = some (29,38):=by kernel_rfl
theorem qyB:Tryz.prog.cellsOf 113 = 1:=by kernel_rfl
theorem qyr:Tryz.prog.underlying 113 = some (.int .u64):=by kernel_rfl
theorem qxD:Tryz.prog.underlying 109 = some (.slice 115):=by kernel_rfl
theorem q98:qiB Tryz.prog 3 115 = some kNt:=by kernel_rfl
theorem q7b:Tryz.prog.cellsOf 115 = kNt.length:=by kernel_rfl
theorem q7L:Tryz.prog.bytesOf 115 = 120:=by kernel_rfl
section
variable {H:Type} {enc:TypeId × Value->H} {W:World} {base b:Nat} {sp:Nat->Bool}
theorem q8F {h:Hp} {v:Value} {d:qf} (hr:Rd h kI v d):∀ row ∈ d,row.length = 1:=fun row hrow=>by
 rcases hr with ⟨_,_,rfl⟩ | ⟨_,_,_,_,_,_,_,_,_,h4⟩
 ·cases hrow
 ·obtain ⟨j,hj⟩:=ja8 hrow
  exact (h4 j row hj).1.1
theorem qsk {fuel:Nat} {v:Value} {x:DataW H × List MemPlace} (hsp:∀ b,sp b = true) (hf:DataW.trod enc Tryz.prog W base sp true fuel 29 [v] = some x) :
  ∃ rows:List (List Value),Rd (fun b=>W.heap[b]?) kI v rows/\∀ row ∈ rows,row.length = 1:=by
 obtain ⟨rows,hr,ht,hd⟩:=qsi (ps:=x.2) (d:=x.1) q7i q9W q7f (by decide) hsp hf
 exact ⟨rows,hr,q8F hr⟩
set_option maxRecDepth 100000 in
theorem qyT {v:Value} {d:DataW H} {p:List MemPlace} {ts:List TypeId} {ds:List (DataW H)} {j:Nat} (hsp:∀ b,sp b = true)
  (hv:Value.okWide Tryz.prog W .any b 109 v) (h:DataW.Trod enc Tryz.prog W base sp true 109 v d p) (hsz:(DataW.weightsEach Tryz.prog ts ds).all (· <= reachBytes) = true) (hts:ts[j]? = some 109) (hds:ds[j]? = some d) :
  ∃ (r:Option Addr) (rows:List (List Value)) (cap:Nat),v = .slice (qm r 0) rows.length cap/\rows.length <= cap/\(rows.length:Int) <= 1172812402926/\(∀ i:Int,0 <= i->i < rows.length->q1X (fun b=>W.heap[b]?) rows i)/\qoP W kNt r rows:=by
 obtain ⟨h1,h2⟩:=Go.Eng.okWide_slice qxD hv
 obtain ⟨fuel,hf⟩:=h
 rw [h1] at hf
 obtain ⟨r,rows,cap,e1,e2,e3,e4,e5⟩:=q3M (w:=120) (m:=1172812402926) hsp qxD q98 q7b (by decide) q7L (by decide) hf (q3I hsz hts hds)
 refine ⟨r,rows,cap,e1,e2,e3,fun i i0 i1=>?_,e5⟩
 have hi:i.toNat < rows.length:=by omega
 obtain ⟨fuel',x',ht⟩:=e4 rows[i.toNat] (jbz hi)
 have hlen:(rows[i.toNat]).length = 39:=(qwV e5 (jac hi)).1
 have hcell:∀ k,qG rows i k = (rows[i.toNat])[k]?.getD .nilFunc:=fun k=>by unfold qG; rw [jac hi]; rfl
 generalize rows[i.toNat] = row at ht hlen hcell
 have g:∀ k (hk:k < 39),(row.drop k).take 1 = [row[k]'(by omega)]:=fun k hk=>by
  rw [jcg (by omega)]; rfl
 obtain ⟨m1,y1,g1,_⟩:=qf7 qj6 ht q9d
 obtain ⟨m4,y4,g4,_⟩:=qf7 qj6 ht q9b
 obtain ⟨m5,y5,g5,_⟩:=qf7 qj6 ht q8S
 obtain ⟨m6,y6,g6,_⟩:=qf7 qj6 ht q8n
 obtain ⟨m7,y7,g7,_⟩:=qf7 qj6 ht q8C
 rw [q16] at g1
 rw [qyB,g 35 (by decide)] at g4
 rw [qyB,g 36 (by decide)] at g5
 rw [qy5,g 37 (by decide)] at g6
 rw [qy5,g 38 (by decide)] at g7
 have hb:=q2A (qxf g1)
 obtain ⟨z4,q4,_,w4⟩:=DataW.trod_int qyr g4
 obtain ⟨z5,q5,_,w5⟩:=DataW.trod_int qyr g5
 simp only [jb2,and_true] at q4 q5
 have c:∀ k (hk:k < 39),qG rows i k = row[k]'(by omega):=fun k hk=>by rw [hcell,jac (by omega)]; rfl
 refine ⟨fun x hx=>?_,?_,?_,?_,?_⟩
 ·obtain ⟨k,hk,rfl⟩:=jbb.1 hx
  have hk:=jb5.1 hk
  refine hb _ (jbb.2 ⟨k,jb5.2 hk,?_⟩)
  unfold qb
  rw [hcell]
  simp only [qa,jbq]
  rw [jbh,jah hk,jbd,jdd]
 ·unfold qb; rw [c 35 (by decide),q4]; exact q18 w4
 ·unfold qb; rw [c 36 (by decide),q5]; exact q18 w5
 ·rw [c 37 (by decide)]; exact qsk hsp g6
 ·rw [c 38 (by decide)]; exact qsk hsp g7
end
end Go.Proofs.YtelcnkclppkicaaGreatDoor
