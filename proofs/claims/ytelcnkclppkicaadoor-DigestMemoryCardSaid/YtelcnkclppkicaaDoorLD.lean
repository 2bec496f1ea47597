/- Digests, strings, lists of bytes, manifests, pieces and calls that come in, opened. -/
import Derived.Test.YtelcnkclppkicaaDoorL0
import Derived.Test.YtelcnkclppkicaaDoorG5
set_option linter.unusedSimpArgs false
set_option linter.unusedVariables false
namespace Go.Proofs.YtelcnkclppkicaaDoor
open Go Go.Eng Go.Proofs Go.ChangeShapes Go.WideShapes Go.ChangeAt Go.RowKit
set_option maxRecDepth 100000
theorem underD:Tryd.prog.underlying 24 = some (.array 32 5):=by kernel_rfl
theorem cells5':Tryd.prog.cellsOf 5 = 1:=by kernel_rfl
theorem cellsD:Tryd.prog.cellsOf 24 = 32:=by kernel_rfl
def rowBytes (n:Nat) (row:List Value):Prop:=row.length = n∧∀ j,j < n→∃ z,row[j]? = some (.int .u8 z)∧0 ≤ z∧z < 256
section
variable {H:Type} {enc:TypeId × Value→H} {W:World} {base b:Nat} {sp:Nat→Bool}
set_option maxRecDepth 100000 in
theorem trod_digest {fuel:Nat} {cs:List Value} {x:DataW H × List MemPlace} (hf:DataW.trod enc Tryd.prog W base sp true fuel 24 cs = some x):rowBytes 32 cs:=by
 obtain ⟨xs,m,_,_,hl,hn,hall⟩:=DataW.trod_array underD hf
 rw [cellsD] at hl
 refine ⟨hl,fun i hi=>?_⟩
 have hc:=hall i hi
 rw [cells5'] at hc
 have hxi:xs[i]? = some xs[i]:=List.getElem?_eq_getElem (by omega)
 rw [hxi] at hc
 obtain ⟨z,e,_,hw⟩:=DataW.trod_int Tryd.underlying5 hc
 have h1:i < cs.length:=by omega
 have e1:(cs.drop (i * 1)).take 1 = [cs[i]]:=by
  rw [Nat.mul_one,List.drop_eq_getElem_cons h1]; rfl
 rw [e1] at e
 exact ⟨z,by rw [List.getElem?_eq_getElem h1]; simpa using e,wf_u8 hw⟩
end
theorem digest_good {row:List Value} (h:rowBytes 32 row):({ d:=[row] }:U).good:=by
 refine ⟨rfl,?_⟩
 intro r hr
 obtain rfl:=List.mem_singleton.1 hr
 intro v hv
 obtain ⟨j,hj⟩:=List.getElem?_of_mem hv
 obtain ⟨z,hz,_⟩:=h.2 j (by rw [← h.1]; exact (List.getElem?_eq_some_iff.1 hj).1)
 rw [hz] at hj
 obtain rfl:=Option.some.inj hj
 rfl
theorem den_cells {n m:Nat} {ρ:Env} {row:List Value} (hn:(ρ n).d = [row]) (h:rowBytes m row):denVs ρ (cellsT .u8 n m) = row:=by
 refine List.ext_getElem? fun j=>?_
 unfold denVs cellsT
 rw [List.map_map,List.getElem?_map]
 by_cases hj:j < m
 ·obtain ⟨z,hz,_⟩:=h.2 j hj
  rw [List.getElem?_range hj,hz]
  simp [T.den,O1.den,O2.den,hn,cellX,hz,vInt]
 ·rw [List.getElem?_eq_none (by simp; omega),List.getElem?_eq_none (by rw [h.1]; omega)]
  rfl
theorem row_bytes {row:List Value} {n:Nat} (h:rowBytes n row):allM (rowL [row] n):=fun x hx=>by
 obtain ⟨j,hj,rfl⟩:=List.mem_map.1 hx
 obtain ⟨z,hz,h0⟩:=h.2 j (List.mem_range.1 hj)
 show 0 ≤ vInt (row[j]?.getD .nilFunc)∧vInt (row[j]?.getD .nilFunc) < 256
 rw [hz]; exact h0
theorem cells22':Tryd.prog.cellsOf 22 = 1:=by kernel_rfl
theorem cells3:Tryd.prog.cellsOf 3 = 1:=by kernel_rfl
noncomputable def fsM:Array Field:=match Tryd.prog.underlying 27 with | some (.struct fs)=>fs | _=>#[]
theorem underM:Tryd.prog.underlying 27 = some (.struct fsM):=by kernel_rfl
theorem fsM_0:(fsM[0]?).map (fun f=>(f.type,f.offset)) = some (3,0):=by kernel_rfl
theorem fsM_1:(fsM[1]?).map (fun f=>(f.type,f.offset)) = some (3,1):=by kernel_rfl
theorem fsM_2:(fsM[2]?).map (fun f=>(f.type,f.offset)) = some (3,2):=by kernel_rfl
theorem fsM_3:(fsM[3]?).map (fun f=>(f.type,f.offset)) = some (3,3):=by kernel_rfl
theorem fsM_4:(fsM[4]?).map (fun f=>(f.type,f.offset)) = some (24,4):=by kernel_rfl
theorem fsM_5:(fsM[5]?).map (fun f=>(f.type,f.offset)) = some (25,36):=by kernel_rfl
theorem cellsM:Tryd.prog.cellsOf 27 = 37:=by kernel_rfl
theorem underDs:Tryd.prog.underlying 25 = some (.slice 24):=by kernel_rfl
theorem patD:patP Tryd.prog 3 24 = some k32:=by kernel_rfl
theorem cellsD':Tryd.prog.cellsOf 24 = k32.length:=by kernel_rfl
theorem cellsDs:Tryd.prog.cellsOf 25 = 1:=by kernel_rfl
theorem bytesD:Tryd.prog.bytesOf 24 = 32:=by kernel_rfl
noncomputable def fsP:Array Field:=match Tryd.prog.underlying 45 with | some (.struct fs)=>fs | _=>#[]
theorem underP:Tryd.prog.underlying 45 = some (.struct fsP):=by kernel_rfl
theorem fsP_1:(fsP[1]?).map (fun f=>(f.type,f.offset)) = some (22,1):=by kernel_rfl
def rowsIn (W:World) (k:List CK) (r:Option Addr) (rows:List (List Value)):Prop:=rows = []∨∃ b o c ty fr,r = some ⟨b,o,none⟩∧W.heap[b]? = some (.cells c ty fr)∧rowsAt c o k rows
theorem rows_good {W:World} {k:List CK} {r:Option Addr} {rows:List (List Value)} (h:rowsIn W k r rows):({ d:=rows }:U).good:=by
 refine ⟨rfl,?_⟩
 rcases h with h | ⟨_,_,_,_,_,_,_,h⟩
 ·simp only; rw [h]; simp
 ·exact rowsAt_good h
theorem dgs_good {W:World} {r:Option Addr} {rows:List (List Value)} (h:rowsIn W k32 r rows):({ d:=rows }:U).good:=rows_good h
section
variable {H:Type} {enc:TypeId × Value→H} {W:World} {base b:Nat} {sp:Nat→Bool}
theorem open_field {t u:TypeId} {fs:Array Field} {cs:List Value} {fuel:Nat} {x:DataW H × List MemPlace} {k off:Nat} (ht:Tryd.prog.underlying t = some (.struct fs)) (h:DataW.trod enc Tryd.prog W base sp true fuel t cs = some x)
  (hk:(fs[k]?).map (fun f=>(f.type,f.offset)) = some (u,off)):∃ m y,DataW.trod enc Tryd.prog W base sp true m u ((cs.drop off).take (Tryd.prog.cellsOf u)) = some y∧∀ n ∈ y.1.weights Tryd.prog u,n ∈ x.1.weights Tryd.prog t:=by
 obtain ⟨xs,n,_,hx,_,hxl,hall⟩:=DataW.trod_struct ht h
 obtain ⟨f,hf,hf'⟩:=Option.map_eq_some_iff.1 hk
 simp only [Prod.mk.injEq] at hf'
 have h1:=hall k f hf
 rw [hf'.1,hf'.2] at h1
 have hlt:k < xs.length:=by rw [hxl]; exact (Array.getElem?_eq_some_iff.1 hf).1
 rw [List.getElem?_eq_getElem hlt] at h1
 refine ⟨n,_,h1,fun m hm=>?_⟩
 rw [hx]
 simp only [DataW.weights,ht]
 exact DataW.weights_mem_each (j:=k) (by rw [List.getElem?_map,Array.getElem?_toList,hf,Option.map_some,hf'.1]) (by simp [hlt]) m hm
theorem cell_bytes {fuel:Nat} {v:Value} {x:DataW H × List MemPlace} (hsp:∀ b,sp b = true) (hf:DataW.trod enc Tryd.prog W base sp true fuel 22 [v] = some x) :
  ∃ rows:List (List Value),Rd (fun b=>W.heap[b]?) kB v rows∧allB rows:=by
 obtain ⟨rows,hr,ht,hd⟩:=open_rows (ps:=x.2) (d:=x.1) Tryd.underlying22 pat5 cells5 (by decide) hsp hf
 refine ⟨rows,hr,fun row hrow=>?_⟩
 obtain ⟨fuel',x',h⟩:=ht row hrow
 obtain ⟨z,e,_,hw⟩:=DataW.trod_int Tryd.underlying5 h
 rw [e]
 exact wf_u8 hw
theorem rows_any {t e:TypeId} {pat:List CK} {n w m:Nat} {fuel:Nat} {v:Value} {x:DataW H × List MemPlace} (hsp:∀ b,sp b = true) (hu:Tryd.prog.underlying t = some (.slice e)) (hp:patP Tryd.prog n e = some pat) (hc:Tryd.prog.cellsOf e = pat.length) (h0:0 < pat.length) (hb:Tryd.prog.bytesOf e = w) (hm:140737488351232 < (m + 1) * w)
  (hf:DataW.trod enc Tryd.prog W base sp true fuel t [v] = some x) (hsz:∀ n ∈ x.1.weights Tryd.prog t,n ≤ reachBytes) :
  ∃ (r:Option Addr) (rows:List (List Value)) (cap:Nat),v = .slice (addrOf r 0) rows.length cap∧rows.length ≤ cap∧(rows.length:Int) ≤ m∧(∀ row ∈ rows,∃ fuel x,DataW.trod enc Tryd.prog W base sp true fuel e row = some x)∧rowsIn W pat r rows:=by
 obtain ⟨rows,hr,ht,hd⟩:=open_rows (ps:=x.2) (d:=x.1) hu hp hc h0 hsp hf
 have hbound:(rows.length:Int) ≤ m:=by
  rcases hd with ⟨_,h0⟩ | ⟨elems,spare,h3,h4,_⟩
  ·rw [h0]; simp
  ·have:=hsz ((elems.length + spare.length) * Tryd.prog.bytesOf e) (by rw [h3]; simp only [DataW.weights,hu]; exact List.mem_cons_self ..)
   rw [hb] at this
   have hrb:reachBytes = 140737488351232:=by decide
   rw [hrb] at this
   rcases Nat.lt_or_ge m (elems.length + spare.length) with hlt | hge
   ·have:=Nat.mul_le_mul_right w hlt
    simp only [Nat.succ_eq_add_one] at this
    omega
   ·omega
 rcases hr with ⟨r,e1,e2⟩ | ⟨b,o,cap,c,ty,fr,e1,hle,e3,e4⟩
 ·exact ⟨r,rows,0,by rw [e1,e2,addrOf_zero]; rfl,by rw [e2]; exact Nat.zero_le _,hbound,ht,.inl e2⟩
 ·exact ⟨some ⟨b,o,none⟩,rows,cap,by rw [e1]; rfl,by omega,hbound,ht,.inr ⟨b,o,c,ty,fr,rfl,e3,e4⟩⟩
theorem rowsIn_fits {k:List CK} {r:Option Addr} {rows:List (List Value)} (h:rowsIn W k r rows) {j:Nat} {row:List Value} (hj:rows[j]? = some row):fitsRow k row:=by
 rcases h with h | ⟨_,_,_,_,_,_,_,h⟩
 ·rw [h] at hj; simp at hj
 ·exact (h j row hj).1
theorem fits_int {k:IntKind} {v:Value} (h:CK.fits (.int k) v = true):∃ z,v = .int k z:=by
 cases v <;> simp [CK.fits] at h
 subst h; exact ⟨_,rfl⟩
set_option maxRecDepth 100000 in
theorem rows_dgs {fuel:Nat} {v:Value} {x:DataW H × List MemPlace} (hsp:∀ b,sp b = true) (hf:DataW.trod enc Tryd.prog W base sp true fuel 25 [v] = some x) (hsz:∀ n ∈ x.1.weights Tryd.prog 25,n ≤ reachBytes) :
  ∃ (r:Option Addr) (rows:List (List Value)) (cap:Nat),v = .slice (addrOf r 0) rows.length cap∧rows.length ≤ cap∧(rows.length:Int) ≤ 4398046510976∧dgsOk rows∧rowsIn W k32 r rows:=by
 obtain ⟨r,rows,cap,e1,e2,e3,e4,e5⟩:=rows_any (w:=32) (m:=4398046510976) hsp underDs patD cellsD' (by decide) bytesD (by decide) hf hsz
 refine ⟨r,rows,cap,e1,e2,e3,fun row hrow=>?_,e5⟩
 obtain ⟨fuel',x',ht⟩:=e4 row hrow
 have hb:=trod_digest ht
 exact ⟨hb.1,row_bytes hb⟩
set_option maxRecDepth 100000 in
theorem cells_manifest {fuel:Nat} {cs:List Value} {x:DataW H × List MemPlace} (hsp:∀ b,sp b = true) (hl:cs.length = 37) (hf:DataW.trod enc Tryd.prog W base sp true fuel 27 cs = some x) (hsz:∀ n ∈ x.1.weights Tryd.prog 27,n ≤ reachBytes) :
  ∃ (k n t s:Int) (row:List Value) (r:Option Addr) (rows:List (List Value)) (cap:Nat),cs = [.int .i64 k,.int .i64 n,.int .i64 t,.int .i64 s] ++ (row ++ [.slice (addrOf r 0) rows.length cap]) ∧
   (-9223372036854775808 ≤ k∧k < 9223372036854775808)∧(-9223372036854775808 ≤ n∧n < 9223372036854775808)∧(-9223372036854775808 ≤ t∧t < 9223372036854775808)∧(-9223372036854775808 ≤ s∧s < 9223372036854775808) ∧
   row.length = 32∧rowBytes 32 row∧rows.length ≤ cap∧(rows.length:Int) ≤ 4398046510976∧dgsOk rows∧rowsIn W k32 r rows:=by
 obtain ⟨m0,y0,g0,_⟩:=open_field underM hf fsM_0
 obtain ⟨m1,y1,g1,_⟩:=open_field underM hf fsM_1
 obtain ⟨m2,y2,g2,_⟩:=open_field underM hf fsM_2
 obtain ⟨m3,y3,g3,_⟩:=open_field underM hf fsM_3
 obtain ⟨m4,y4,g4,_⟩:=open_field underM hf fsM_4
 obtain ⟨m5,y5,g5,hw5⟩:=open_field underM hf fsM_5
 rw [cells3] at g0 g1 g2 g3
 rw [cellsD] at g4
 rw [cellsDs] at g5
 match cs,hl with
 | a0 :: a1 :: a2 :: a3 :: rest,hl =>
  simp only [List.length_cons] at hl
  have h5:((a0 :: a1 :: a2 :: a3 :: rest).drop 36).take 1 = [rest[32]'(by omega)]:=by
   show (rest.drop 32).take 1 = _
   rw [List.drop_eq_getElem_cons (by omega)]; rfl
  rw [h5] at g5
  have h4:((a0 :: a1 :: a2 :: a3 :: rest).drop 4).take 32 = rest.take 32:=rfl
  rw [h4] at g4
  simp at g0 g1 g2 g3
  obtain ⟨z0,q0,_,w0⟩:=DataW.trod_int Tryd.underlying3 g0
  obtain ⟨z1,q1,_,w1⟩:=DataW.trod_int Tryd.underlying3 g1
  obtain ⟨z2,q2,_,w2⟩:=DataW.trod_int Tryd.underlying3 g2
  obtain ⟨z3,q3,_,w3⟩:=DataW.trod_int Tryd.underlying3 g3
  simp only [List.cons.injEq,and_true] at q0 q1 q2 q3
  have hb:=trod_digest g4
  obtain ⟨r,rows,cap,e1,e2,e3,e4,e5⟩:=rows_dgs hsp g5 fun n hn=>hsz n (hw5 n hn)
  refine ⟨z0,z1,z2,z3,rest.take 32,r,rows,cap,?_,wf_i64 w0,wf_i64 w1,wf_i64 w2,wf_i64 w3,hb.1,hb,e2,e3,e4,e5⟩
  rw [q0,q1,q2,q3]
  have:rest = rest.take 32 ++ [rest[32]'(by omega)]:=by
   conv=>lhs; rw [← List.take_append_drop 32 rest]
   rw [List.drop_eq_getElem_cons (by omega),List.drop_of_length_le (by omega)]
  conv=>lhs; rw [this,e1]
  rfl
end
end Go.Proofs.YtelcnkclppkicaaDoor
