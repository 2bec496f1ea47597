/- Digests, strings, lists of bytes, manifests, pieces and calls that come in, opened. -/
import Derived.Test.YtelcnkclppkicaaGreatDoorL0
import Derived.Test.YtelcnkclppkicaaGreatDoorG5
set_option linter.unusedSimpArgs false
set_option linter.unusedVariables false
namespace Go.Proofs.YtelcnkclppkicaaGreatDoor
open Go Go.Eng Go.Proofs Go.ChangeShapes Go.WideShapes Go.ChangeAt Go.RowKit
set_option maxRecDepth 100000
theorem q99:Tryz.prog.readableRec 24 = true /\ 24 < Tryz.prog.types.size:=⟨by kernel_rfl,of_decide_eq_true (by kernel_rfl)⟩
theorem q26:Tryz.prog.underlying 24 = some (.array 32 5):=by kernel_rfl
theorem q9b:Tryz.prog.cellsOf 5 = 1:=by kernel_rfl
theorem q3v:Tryz.prog.cellsOf 24 = 32:=by kernel_rfl
def qgo (n:Nat) (row:List Value):Prop:=row.length = n/\∀ j,j < n->∃ z,row[j]? = some (.int .u8 z)/\0 <= z/\z < 256
section
variable {H:Type} {enc:TypeId × Value->H} {W:World} {base b:Nat} {sp:Nat->Bool}
set_option maxRecDepth 100000 in
theorem qjm {fuel:Nat} {cs:List Value} {x:DataW H × List MemPlace} (hf:DataW.trod enc Tryz.prog W base sp true fuel 24 cs = some x):qgo 32 cs:=by
 obtain ⟨xs,m,_,_,hl,hn,hall⟩:=DataW.trod_array q26 hf
 rw [q3v] at hl
 refine ⟨hl,fun i hi=>?_⟩
 have hc:=hall i hi
 rw [q9b] at hc
 have hxi:xs[i]? = some xs[i]:=List.getElem?_eq_getElem (by omega)
 rw [hxi] at hc
 obtain ⟨z,e,_,hw⟩:=DataW.trod_int Tryz.underlying5 hc
 have h1:i < cs.length:=by omega
 have e1:(cs.drop (i * 1)).take 1 = [cs[i]]:=by
  rw [Nat.mul_one,List.drop_eq_getElem_cons h1]; rfl
 rw [e1] at e
 exact ⟨z,by rw [List.getElem?_eq_getElem h1]; simpa using e,q7H hw⟩
theorem qyM {v:Value} {d:DataW H} {p:List MemPlace} (hv:Value.okWide Tryz.prog W .any b 24 v) (h:DataW.Trod enc Tryz.prog W base sp true 24 v d p):∃ row:List Value,v = .agg row.toArray/\row.length = 32/\qgo 32 row:=by
 simp only [Value.okWide,q26] at hv
 obtain ⟨cs,rfl,hsize,_⟩:=hv
 obtain ⟨fuel,hf⟩:=h
 simp only [Value.cells] at hf
 have:=qjm hf
 exact ⟨cs.toList,by simp,this.1,this⟩
end
theorem qyI {row:List Value} (h:qgo 32 row):({ d:=[row] }:U).good:=by
 refine ⟨rfl,?_⟩
 intro r hr
 obtain rfl:=List.mem_singleton.1 hr
 intro v hv
 obtain ⟨j,hj⟩:=List.getElem?_of_mem hv
 obtain ⟨z,hz,_⟩:=h.2 j (by rw [<- h.1]; exact (List.getElem?_eq_some_iff.1 hj).1)
 rw [hz] at hj
 obtain rfl:=Option.some.inj hj
 rfl
theorem q2K {n m:Nat} {ρ:Env} {row:List Value} (hn:(ρ n).d = [row]) (h:qgo m row):qc ρ (qaG .u8 n m) = row:=by
 refine List.ext_getElem? fun j=>?_
 unfold qc qaG
 rw [List.map_map,List.getElem?_map]
 by_cases hj:j < m
 ·obtain ⟨z,hz,_⟩:=h.2 j hj
  rw [List.getElem?_range hj,hz]
  simp [T.den,O1.den,O2.den,hn,qa,hz,qag]
 ·rw [List.getElem?_eq_none (by simp; omega),List.getElem?_eq_none (by rw [h.1]; omega)]
  rfl
theorem q93 {n:Nat} {ρ:Env} {row:List Value} (hn:(ρ n).d = [row]) (h:qgo 32 row):SV.den ρ (dgV n) = .agg row.toArray:=by
 show Value.agg (qc ρ (qaG .u8 n 32)).toArray = _
 rw [q2K hn h]
theorem qm9 {row:List Value} {n:Nat} (h:qgo n row):qL (qg [row] n):=fun x hx=>by
 obtain ⟨j,hj,rfl⟩:=List.mem_map.1 hx
 obtain ⟨z,hz,h0⟩:=h.2 j (List.mem_range.1 hj)
 show 0 <= qag (row[j]?.getD .nilFunc)/\qag (row[j]?.getD .nilFunc) < 256
 rw [hz]; exact h0
theorem q5e:Tryz.prog.cellsOf 22 = 1:=by kernel_rfl
theorem qkc:Tryz.prog.cellsOf 3 = 1:=by kernel_rfl
noncomputable def fsM:Array Field:=match Tryz.prog.underlying 27 with | some (.struct fs)=>fs | _=>#[]
theorem qkf:Tryz.prog.underlying 27 = some (.struct fsM):=by kernel_rfl
theorem qB1:(fsM[0]?).map (fun f=>(f.type,f.offset)) = some (3,0):=by kernel_rfl
theorem qBy:(fsM[1]?).map (fun f=>(f.type,f.offset)) = some (3,1):=by kernel_rfl
theorem qBv:(fsM[2]?).map (fun f=>(f.type,f.offset)) = some (3,2):=by kernel_rfl
theorem qBc:(fsM[3]?).map (fun f=>(f.type,f.offset)) = some (3,3):=by kernel_rfl
theorem qBp:(fsM[4]?).map (fun f=>(f.type,f.offset)) = some (24,4):=by kernel_rfl
theorem qB2:(fsM[5]?).map (fun f=>(f.type,f.offset)) = some (25,36):=by kernel_rfl
theorem qAm:Tryz.prog.cellsOf 27 = 37:=by kernel_rfl
theorem q8k:Tryz.prog.underlying 25 = some (.slice 24):=by kernel_rfl
theorem qBL:qhS Tryz.prog 3 24 = some k32:=by kernel_rfl
theorem q8i:Tryz.prog.cellsOf 24 = k32.length:=by kernel_rfl
theorem q8Q:Tryz.prog.cellsOf 25 = 1:=by kernel_rfl
noncomputable def fsP:Array Field:=match Tryz.prog.underlying 86 with | some (.struct fs)=>fs | _=>#[]
theorem q3S:Tryz.prog.underlying 86 = some (.struct fsP):=by kernel_rfl
theorem qBs:(fsP[0]?).map (fun f=>(f.type,f.offset)) = some (3,0):=by kernel_rfl
theorem qAS:(fsP[1]?).map (fun f=>(f.type,f.offset)) = some (22,1):=by kernel_rfl
theorem q9J:Tryz.prog.cellsOf 86 = 2:=by kernel_rfl
def qqg (W:World) (k:List CK) (r:Option Addr) (rows:List (List Value)):Prop:=rows = []∨∃ b o c ty fr,r = some ⟨b,o,none⟩/\W.heap[b]? = some (.cells c ty fr)/\qU c o k rows
theorem q4L {W:World} {k:List CK} {r:Option Addr} {rows:List (List Value)} (h:qqg W k r rows):({ d:=rows }:U).good:=by
 refine ⟨rfl,?_⟩
 rcases h with h | ⟨_,_,_,_,_,_,_,h⟩
 ·simp only; rw [h]; simp
 ·exact qjy h
section
variable {H:Type} {enc:TypeId × Value->H} {W:World} {base b:Nat} {sp:Nat->Bool}
theorem qbz {t u:TypeId} {fs:Array Field} {cs:List Value} {fuel:Nat} {x:DataW H × List MemPlace} {k off:Nat} (ht:Tryz.prog.underlying t = some (.struct fs)) (h:DataW.trod enc Tryz.prog W base sp true fuel t cs = some x)
  (hk:(fs[k]?).map (fun f=>(f.type,f.offset)) = some (u,off)):∃ m y,DataW.trod enc Tryz.prog W base sp true m u ((cs.drop off).take (Tryz.prog.cellsOf u)) = some y/\∀ n ∈ y.1.weights Tryz.prog u,n ∈ x.1.weights Tryz.prog t:=by
 obtain ⟨xs,n,_,hx,_,hxl,hall⟩:=DataW.trod_struct ht h
 obtain ⟨f,hf,hf'⟩:=Option.map_eq_some_iff.1 hk
 simp only [Prod.mk.injEq] at hf'
 have h1:=hall k f hf
 rw [hf'.1,hf'.2] at h1
 have hlt:k < xs.length:=by rw [hxl]; exact (Array.getElem?_eq_some_iff.1 hf).1
 rw [List.getElem?_eq_getElem hlt] at h1
 refine ⟨n,_,h1,fun m hm=>?_⟩
 rw [hx]
 simp only [DataW.weights,ht]
 exact DataW.weights_mem_each (j:=k) (by rw [List.getElem?_map,Array.getElem?_toList,hf,Option.map_some,hf'.1]) (by simp [hlt]) m hm
theorem q1h {fuel:Nat} {v:Value} {x:DataW H × List MemPlace} (hsp:∀ b,sp b = true) (hf:DataW.trod enc Tryz.prog W base sp true fuel 22 [v] = some x) :
  ∃ rows:List (List Value),Rd (fun b=>W.heap[b]?) kB v rows/\qn rows:=by
 obtain ⟨rows,hr,ht,hd⟩:=qm1 (ps:=x.2) (d:=x.1) Tryz.underlying22 qBC qAw (by decide) hsp hf
 refine ⟨rows,hr,fun row hrow=>?_⟩
 obtain ⟨fuel',x',h⟩:=ht row hrow
 obtain ⟨z,e,_,hw⟩:=DataW.trod_int Tryz.underlying5 h
 rw [e]
 exact q7H hw
theorem q6c {t e:TypeId} {pat:List CK} {n w m:Nat} {fuel:Nat} {v:Value} {x:DataW H × List MemPlace} (hsp:∀ b,sp b = true) (hu:Tryz.prog.underlying t = some (.slice e)) (hp:qhS Tryz.prog n e = some pat) (hc:Tryz.prog.cellsOf e = pat.length) (h0:0 < pat.length) (hb:Tryz.prog.bytesOf e = w) (hm:140737488351232 < (m + 1) * w)
  (hf:DataW.trod enc Tryz.prog W base sp true fuel t [v] = some x) (hsz:∀ n ∈ x.1.weights Tryz.prog t,n <= reachBytes) :
  ∃ (r:Option Addr) (rows:List (List Value)) (cap:Nat),v = .slice (qm r 0) rows.length cap/\rows.length <= cap/\(rows.length:Int) <= m/\(∀ row ∈ rows,∃ fuel x,DataW.trod enc Tryz.prog W base sp true fuel e row = some x)/\qqg W pat r rows:=by
 obtain ⟨rows,hr,ht,hd⟩:=qm1 (ps:=x.2) (d:=x.1) hu hp hc h0 hsp hf
 have hbound:(rows.length:Int) <= m:=by
  rcases hd with ⟨_,h0⟩ | ⟨elems,spare,h3,h4,_⟩
  ·rw [h0]; simp
  ·have:=hsz ((elems.length + spare.length) * Tryz.prog.bytesOf e) (by rw [h3]; simp only [DataW.weights,hu]; exact List.mem_cons_self ..)
   rw [hb] at this
   have hrb:reachBytes = 140737488351232:=by decide
   rw [hrb] at this
   rcases Nat.lt_or_ge m (elems.length + spare.length) with hlt | hge
   ·have:=Nat.mul_le_mul_right w hlt
    simp only [Nat.succ_eq_add_one] at this
    omega
   ·omega
 rcases hr with ⟨r,e1,e2⟩ | ⟨b,o,cap,c,ty,fr,e1,hle,e3,e4⟩
 ·exact ⟨r,rows,0,by rw [e1,e2,qjh]; rfl,by rw [e2]; exact Nat.zero_le _,hbound,ht,.inl e2⟩
 ·exact ⟨some ⟨b,o,none⟩,rows,cap,by rw [e1]; rfl,by omega,hbound,ht,.inr ⟨b,o,c,ty,fr,rfl,e3,e4⟩⟩
theorem qxZ {k:List CK} {r:Option Addr} {rows:List (List Value)} (h:qqg W k r rows) {j:Nat} {row:List Value} (hj:rows[j]? = some row):qu k row:=by
 rcases h with h | ⟨_,_,_,_,_,_,_,h⟩
 ·rw [h] at hj; simp at hj
 ·exact (h j row hj).1
end
end Go.Proofs.YtelcnkclppkicaaGreatDoor
