/- Digests, strings, lists of bytes, manifests, pieces and calls that come in, opened. -/
import Derived.Test.YtelcnkclppkicaaGreatDoorL0
import Derived.Test.YtelcnkclppkicaaGreatDoorG5
set_option linter.unusedSimpArgs false
set_option linter.unusedVariables false
namespace Go.Proofs.YtelcnkclppkicaaGreatDoor
open Go Go.Eng Go.Proofs Go.ChangeShapes Go.WideShapes Go.ChangeAt Go.RowKit
set_option maxRecDepth 100000
theorem q6r:Tryz.prog.readableRec 24 = true /\ 24 < Tryz.prog.types.size:=⟨by kernel_rfl,of_decide_eq_true (by kernel_rfl)⟩
theorem qzU:Tryz.prog.underlying 24 = some (.array 32 5):=by kernel_rfl
theorem q5i:Tryz.prog.cellsOf 5 = 1:=by kernel_rfl
theorem q1O:Tryz.prog.cellsOf 24 = 32:=by kernel_rfl
def qdb (n:Nat) (row:List Value):Prop:=row.length = n/\∀ j,j < n->∃ z,row[j]? = some (.int .u8 z)/\0 <= z/\z < 256
section
variable {H:Type} {enc:TypeId × Value->H} {W:World} {base b:Nat} {sp:Nat->Bool}
set_option maxRecDepth 100000 in
theorem qiP {fuel:Nat} {cs:List Value} {x:DataW H × List MemPlace} (hf:DataW.trod enc Tryz.prog W base sp true fuel 24 cs = some x):qdb 32 cs:=by
 obtain ⟨xs,m,_,_,hl,hn,hall⟩:=DataW.trod_array qzU hf
 rw [q1O] at hl
 refine ⟨hl,fun i hi=>?_⟩
 have hc:=hall i hi
 rw [q5i] at hc
 have hxi:xs[i]? = some xs[i]:=List.getElem?_eq_getElem (by omega)
 rw [hxi] at hc
 obtain ⟨z,e,_,hw⟩:=DataW.trod_int Tryz.underlying5 hc
 have h1:i < cs.length:=by omega
 have e1:(cs.drop (i * 1)).take 1 = [cs[i]]:=by
  rw [Nat.mul_one,List.drop_eq_getElem_cons h1]; rfl
 rw [e1] at e
 exact ⟨z,by rw [List.getElem?_eq_getElem h1]; simpa using e,q42 hw⟩
theorem qwl {v:Value} {d:DataW H} {p:List MemPlace} (hv:Value.okWide Tryz.prog W .any b 24 v) (h:DataW.Trod enc Tryz.prog W base sp true 24 v d p):∃ row:List Value,v = .agg row.toArray/\row.length = 32/\qdb 32 row:=by
 simp only [Value.okWide,qzU] at hv
 obtain ⟨cs,rfl,hsize,_⟩:=hv
 obtain ⟨fuel,hf⟩:=h
 simp only [Value.cells] at hf
 have:=qiP hf
 exact ⟨cs.toList,by simp,this.1,this⟩
end
theorem qmv {row:List Value} (h:qdb 32 row):({ d:=[row] }:U).good:=by
 refine ⟨rfl,?_⟩
 intro r hr
 obtain rfl:=List.mem_singleton.1 hr
 intro v hv
 obtain ⟨j,hj⟩:=List.getElem?_of_mem hv
 obtain ⟨z,hz,_⟩:=h.2 j (by rw [<- h.1]; exact (List.getElem?_eq_some_iff.1 hj).1)
 rw [hz] at hj
 obtain rfl:=Option.some.inj hj
 rfl
theorem qqW {n m:Nat} {ρ:Env} {row:List Value} (hn:(ρ n).d = [row]) (h:qdb m row):qb ρ (qaK .u8 n m) = row:=by
 refine List.ext_getElem? fun j=>?_
 unfold qb qaK
 rw [List.map_map,List.getElem?_map]
 by_cases hj:j < m
 ·obtain ⟨z,hz,_⟩:=h.2 j hj
  rw [List.getElem?_range hj,hz]
  simp [T.den,O1.den,O2.den,hn,qa,hz,qad]
 ·rw [List.getElem?_eq_none (by simp; omega),List.getElem?_eq_none (by rw [h.1]; omega)]
  rfl
theorem q5p {n:Nat} {ρ:Env} {row:List Value} (hn:(ρ n).d = [row]) (h:qdb 32 row):SV.den ρ (dgV n) = .agg row.toArray:=by
 show Value.agg (qb ρ (qaK .u8 n 32)).toArray = _
 rw [qqW hn h]
theorem qzT {row:List Value} {n:Nat} (h:qdb n row):qQ (qf [row] n):=fun x hx=>by
 obtain ⟨j,hj,rfl⟩:=List.mem_map.1 hx
 obtain ⟨z,hz,h0⟩:=h.2 j (List.mem_range.1 hj)
 show 0 <= qad (row[j]?.getD .nilFunc)/\qad (row[j]?.getD .nilFunc) < 256
 rw [hz]; exact h0
theorem q4d:Tryz.prog.cellsOf 22 = 1:=by kernel_rfl
theorem qsX:Tryz.prog.cellsOf 3 = 1:=by kernel_rfl
noncomputable def fsM:Array Field:=match Tryz.prog.underlying 27 with | some (.struct fs)=>fs | _=>#[]
theorem qiT:Tryz.prog.underlying 27 = some (.struct fsM):=by kernel_rfl
theorem q75:(fsM[0]?).map (fun f=>(f.type,f.offset)) = some (3,0):=by kernel_rfl
theorem q7F:(fsM[1]?).map (fun f=>(f.type,f.offset)) = some (3,1):=by kernel_rfl
theorem q7C:(fsM[2]?).map (fun f=>(f.type,f.offset)) = some (3,2):=by kernel_rfl
theorem q7P:(fsM[3]?).map (fun f=>(f.type,f.offset)) = some (3,3):=by kernel_rfl
theorem q7S:(fsM[4]?).map (fun f=>(f.type,f.offset)) = some (24,4):=by kernel_rfl
theorem q72:(fsM[5]?).map (fun f=>(f.type,f.offset)) = some (25,36):=by kernel_rfl
theorem q6q:Tryz.prog.cellsOf 27 = 37:=by kernel_rfl
theorem q4X:Tryz.prog.underlying 25 = some (.slice 24):=by kernel_rfl
theorem q8c:qi5 Tryz.prog 3 24 = some k32:=by kernel_rfl
theorem q5D:Tryz.prog.cellsOf 24 = k32.length:=by kernel_rfl
theorem q51:Tryz.prog.cellsOf 25 = 1:=by kernel_rfl
theorem q7d:Tryz.prog.bytesOf 24 = 32:=by kernel_rfl
noncomputable def fsP:Array Field:=match Tryz.prog.underlying 86 with | some (.struct fs)=>fs | _=>#[]
theorem q1p:Tryz.prog.underlying 86 = some (.struct fsP):=by kernel_rfl
theorem q7J:(fsP[0]?).map (fun f=>(f.type,f.offset)) = some (3,0):=by kernel_rfl
theorem q78:(fsP[1]?).map (fun f=>(f.type,f.offset)) = some (22,1):=by kernel_rfl
theorem q60:Tryz.prog.cellsOf 86 = 2:=by kernel_rfl
def qhB (W:World) (k:List CK) (r:Option Addr) (rows:List (List Value)):Prop:=rows = []∨∃ b o c ty fr,r = some ⟨b,o,none⟩/\W.heap[b]? = some (.cells c ty fr)/\qV c o k rows
theorem qzW {W:World} {k:List CK} {r:Option Addr} {rows:List (List Value)} (h:qhB W k r rows):({ d:=rows }:U).good:=by
 refine ⟨rfl,?_⟩
 rcases h with h | ⟨_,_,_,_,_,_,_,h⟩
 ·simp only; rw [h]; simp
 ·exact qg1 h
theorem q2m {W:World} {r:Option Addr} {rows:List (List Value)} (h:qhB W k32 r rows):({ d:=rows }:U).good:=qzW h
section
variable {H:Type} {enc:TypeId × Value->H} {W:World} {base b:Nat} {sp:Nat->Bool}
theorem qbk {t u:TypeId} {fs:Array Field} {cs:List Value} {fuel:Nat} {x:DataW H × List MemPlace} {k off:Nat} (ht:Tryz.prog.underlying t = some (.struct fs)) (h:DataW.trod enc Tryz.prog W base sp true fuel t cs = some x)
  (hk:(fs[k]?).map (fun f=>(f.type,f.offset)) = some (u,off)):∃ m y,DataW.trod enc Tryz.prog W base sp true m u ((cs.drop off).take (Tryz.prog.cellsOf u)) = some y/\∀ n ∈ y.1.weights Tryz.prog u,n ∈ x.1.weights Tryz.prog t:=by
 obtain ⟨xs,n,_,hx,_,hxl,hall⟩:=DataW.trod_struct ht h
 obtain ⟨f,hf,hf'⟩:=Option.map_eq_some_iff.1 hk
 simp only [Prod.mk.injEq] at hf'
 have h1:=hall k f hf
 rw [hf'.1,hf'.2] at h1
 have hlt:k < xs.length:=by rw [hxl]; exact (Array.getElem?_eq_some_iff.1 hf).1
 rw [List.getElem?_eq_getElem hlt] at h1
 refine ⟨n,_,h1,fun m hm=>?_⟩
 rw [hx]
 simp only [DataW.weights,ht]
 exact DataW.weights_mem_each (j:=k) (by rw [List.getElem?_map,Array.getElem?_toList,hf,Option.map_some,hf'.1]) (by simp [hlt]) m hm
theorem q4a {t e:TypeId} {pat:List CK} {n w m:Nat} {fuel:Nat} {v:Value} {x:DataW H × List MemPlace} (hsp:∀ b,sp b = true) (hu:Tryz.prog.underlying t = some (.slice e)) (hp:qi5 Tryz.prog n e = some pat) (hc:Tryz.prog.cellsOf e = pat.length) (h0:0 < pat.length) (hb:Tryz.prog.bytesOf e = w) (hm:140737488351232 < (m + 1) * w)
  (hf:DataW.trod enc Tryz.prog W base sp true fuel t [v] = some x) (hsz:∀ n ∈ x.1.weights Tryz.prog t,n <= reachBytes) :
  ∃ (r:Option Addr) (rows:List (List Value)) (cap:Nat),v = .slice (ql r 0) rows.length cap/\rows.length <= cap/\(rows.length:Int) <= m/\(∀ row ∈ rows,∃ fuel x,DataW.trod enc Tryz.prog W base sp true fuel e row = some x)/\qhB W pat r rows:=by
 obtain ⟨rows,hr,ht,hd⟩:=qrv (ps:=x.2) (d:=x.1) hu hp hc h0 hsp hf
 have hbound:(rows.length:Int) <= m:=by
  rcases hd with ⟨_,h0⟩ | ⟨elems,spare,h3,h4,_⟩
  ·rw [h0]; simp
  ·have:=hsz ((elems.length + spare.length) * Tryz.prog.bytesOf e) (by rw [h3]; simp only [DataW.weights,hu]; exact List.mem_cons_self ..)
   rw [hb] at this
   have hrb:reachBytes = 140737488351232:=by decide
   rw [hrb] at this
   rcases Nat.lt_or_ge m (elems.length + spare.length) with hlt | hge
   ·have:=Nat.mul_le_mul_right w hlt
    simp only [Nat.succ_eq_add_one] at this
    omega
   ·omega
 rcases hr with ⟨r,e1,e2⟩ | ⟨b,o,cap,c,ty,fr,e1,hle,e3,e4⟩
 ·exact ⟨r,rows,0,by rw [e1,e2,qiI]; rfl,by rw [e2]; exact Nat.zero_le _,hbound,ht,.inl e2⟩
 ·exact ⟨some ⟨b,o,none⟩,rows,cap,by rw [e1]; rfl,by omega,hbound,ht,.inr ⟨b,o,c,ty,fr,rfl,e3,e4⟩⟩
set_option maxRecDepth 100000 in
theorem q3D {fuel:Nat} {v:Value} {x:DataW H × List MemPlace} (hsp:∀ b,sp b = true) (hf:DataW.trod enc Tryz.prog W base sp true fuel 25 [v] = some x) (hsz:∀ n ∈ x.1.weights Tryz.prog 25,n <= reachBytes) :
  ∃ (r:Option Addr) (rows:List (List Value)) (cap:Nat),v = .slice (ql r 0) rows.length cap/\rows.length <= cap/\(rows.length:Int) <= 4398046510976/\qdi rows/\qhB W k32 r rows:=by
 obtain ⟨r,rows,cap,e1,e2,e3,e4,e5⟩:=q4a (w:=32) (m:=4398046510976) hsp q4X q8c q5D (by decide) q7d (by decide) hf hsz
 refine ⟨r,rows,cap,e1,e2,e3,fun row hrow=>?_,e5⟩
 obtain ⟨fuel',x',ht⟩:=e4 row hrow
 have hb:=qiP ht
 exact ⟨hb.1,qzT hb⟩
set_option maxRecDepth 100000 in
theorem qq7 {fuel:Nat} {cs:List Value} {x:DataW H × List MemPlace} (hsp:∀ b,sp b = true) (hl:cs.length = 37) (hf:DataW.trod enc Tryz.prog W base sp true fuel 27 cs = some x) (hsz:∀ n ∈ x.1.weights Tryz.prog 27,n <= reachBytes) :
  ∃ (k n t s:Int) (row:List Value) (r:Option Addr) (rows:List (List Value)) (cap:Nat),cs = [.int .i64 k,.int .i64 n,.int .i64 t,.int .i64 s] ++ (row ++ [.slice (ql r 0) rows.length cap]) /\
   (-9223372036854775808 <= k/\k < 9223372036854775808)/\(-9223372036854775808 <= n/\n < 9223372036854775808)/\(-9223372036854775808 <= t/\t < 9223372036854775808)/\(-9223372036854775808 <= s/\s < 9223372036854775808) /\
   row.length = 32/\qdb 32 row/\rows.length <= cap/\(rows.length:Int) <= 4398046510976/\qdi rows/\qhB W k32 r rows:=by
 obtain ⟨m0,y0,g0,_⟩:=qbk qiT hf q75
 obtain ⟨m1,y1,g1,_⟩:=qbk qiT hf q7F
 obtain ⟨m2,y2,g2,_⟩:=qbk qiT hf q7C
 obtain ⟨m3,y3,g3,_⟩:=qbk qiT hf q7P
 obtain ⟨m4,y4,g4,_⟩:=qbk qiT hf q7S
 obtain ⟨m5,y5,g5,hw5⟩:=qbk qiT hf q72
 rw [qsX] at g0 g1 g2 g3
 rw [q1O] at g4
 rw [q51] at g5
 match cs,hl with
 | a0 :: a1 :: a2 :: a3 :: rest,hl =>
  simp only [List.length_cons] at hl
  have h5:((a0 :: a1 :: a2 :: a3 :: rest).drop 36).take 1 = [rest[32]'(by omega)]:=by
   show (rest.drop 32).take 1 = _
   rw [List.drop_eq_getElem_cons (by omega)]; rfl
  rw [h5] at g5
  have h4:((a0 :: a1 :: a2 :: a3 :: rest).drop 4).take 32 = rest.take 32:=rfl
  rw [h4] at g4
  simp at g0 g1 g2 g3
  obtain ⟨z0,q0,_,w0⟩:=DataW.trod_int Tryz.underlying3 g0
  obtain ⟨z1,q1,_,w1⟩:=DataW.trod_int Tryz.underlying3 g1
  obtain ⟨z2,q2,_,w2⟩:=DataW.trod_int Tryz.underlying3 g2
  obtain ⟨z3,q3,_,w3⟩:=DataW.trod_int Tryz.underlying3 g3
  simp only [List.cons.injEq,and_true] at q0 q1 q2 q3
  have hb:=qiP g4
  obtain ⟨r,rows,cap,e1,e2,e3,e4,e5⟩:=q3D hsp g5 fun n hn=>hsz n (hw5 n hn)
  refine ⟨z0,z1,z2,z3,rest.take 32,r,rows,cap,?_,qjg w0,qjg w1,qjg w2,qjg w3,hb.1,hb,e2,e3,e4,e5⟩
  rw [q0,q1,q2,q3]
  have:rest = rest.take 32 ++ [rest[32]'(by omega)]:=by
   conv=>lhs; rw [<- List.take_append_drop 32 rest]
   rw [List.drop_eq_getElem_cons (by omega),List.drop_of_length_le (by omega)]
  conv=>lhs; rw [this,e1]
  rfl
end
end Go.Proofs.YtelcnkclppkicaaGreatDoor
