/- Digests, strings, lists of bytes, manifests, pieces and calls that come in, opened. -/
import Derived.Test.YtelcnkclppkicaaGreatDoorL0
import Derived.Test.YtelcnkclppkicaaGreatDoorG5
import Derived.Test.YtelcnkclppkicaaGreatDoorG1
set_option linter.unusedSimpArgs false
set_option linter.unusedVariables false
namespace Go.Proofs.YtelcnkclppkicaaGreatDoor
open Go Go.Eng Go.Proofs Go.ChangeShapes Go.WideShapes Go.ChangeAt Go.RowKit
set_option maxRecDepth 100000
theorem qEj:Tryz.prog.readableRec 24 = true /\ 24 < Tryz.prog.types.size:=⟨by kernel_rfl,jbh (by kernel_rfl)⟩
theorem q5N:Tryz.prog.underlying 24 = some (.array 32 5):=by kernel_rfl
theorem qCC:Tryz.prog.cellsOf 5 = 1:=by kernel_rfl
theorem q77:Tryz.prog.cellsOf 24 = 32:=by kernel_rfl
def qgX (n:Nat) (row:List Value):Prop:=row.length = n/\∀ j,j < n->∃ z,row[j]? = some (.int .u8 z)/\0 <= z/\z < 256
section
variable {H:Type} {enc:TypeId × Value->H} {W:World} {base b:Nat} {sp:Nat->Bool}
set_option maxRecDepth 100000 in
theorem qkg {fuel:Nat} {cs:List Value} {x:DataW H × List MemPlace} (hf:DataW.trod enc Tryz.prog W base sp true fuel 24 cs = some x):qgX 32 cs:=by
 obtain ⟨xs,m,_,_,hl,hn,hall⟩:=DataW.trod_array q5N hf;rw [q77] at hl;refine ⟨hl,fun i hi=>?_⟩;have hc:=hall i hi;rw [qCC] at hc;have hxi:xs[i]? = some xs[i]:=jac (by omega);rw [hxi] at hc;obtain ⟨z,e,_,hw⟩:=DataW.trod_int Tryz.underlying5 hc;have h1:i < cs.length:=by omega
 have e1:(cs.drop (i * 1)).take 1 = [cs[i]]:=by
  rw [je5,jcf h1]; rfl
 rw [e1] at e;exact ⟨z,by rw [jac h1]; simpa using e,qBm hw⟩
theorem qzA {v:Value} {d:DataW H} {p:List MemPlace} (hv:Value.okWide Tryz.prog W .any b 24 v) (h:DataW.Trod enc Tryz.prog W base sp true 24 v d p):∃ row:List Value,v = .agg row.toArray/\row.length = 32/\qgX 32 row:=by
 simp only [Value.okWide,q5N] at hv;obtain ⟨cs,rfl,hsize,_⟩:=hv;obtain ⟨fuel,hf⟩:=h;simp only [Value.cells] at hf;have:=qkg hf;exact ⟨cs.toList,by simp,this.1,this⟩
end
theorem qzJ {row:List Value} (h:qgX 32 row):({ d:=[row] }:U).good:=by
 refine ⟨rfl,?_⟩;intro r hr;obtain rfl:=jak.1 hr;intro v hv;obtain ⟨j,hj⟩:=jbi hv;obtain ⟨z,hz,_⟩:=h.2 j (by rw [<- h.1]; exact (jan.1 hj).1);rw [hz] at hj;obtain rfl:=jax hj;rfl
theorem q7g {n m:Nat} {Z:Env} {row:List Value} (hn:(Z n).d = [row]) (h:qgX m row):qd Z (qN .u8 n m) = row:=by
 refine jbs fun j=>?_
 unfold qd qN;rw [jdr,jaq];by_cases hj:j < m
 ·obtain ⟨z,hz,_⟩:=h.2 j hj
  rw [jbp hj,hz];simp [T.den,O1.den,O2.den,hn,qa,hz,qX]
 ·rw [jat (by simp; omega),jat (by rw [h.1]; omega)]
  rfl
theorem qB9 {n:Nat} {Z:Env} {row:List Value} (hn:(Z n).d = [row]) (h:qgX 32 row):SV.den Z (dgV n) = .agg row.toArray:=by
 show Value.agg (qd Z (qN .u8 n 32)).toArray = _
 rw [q7g hn h]
theorem qmN {row:List Value} {n:Nat} (h:qgX n row):qH (qf [row] n):=fun x hx=>by
 obtain ⟨j,hj,rfl⟩:=jbk.1 hx;obtain ⟨z,hz,h0⟩:=h.2 j (jb1.1 hj)
 show 0 <= qX (row[j]?.getD .nilFunc)/\qX (row[j]?.getD .nilFunc) < 256
 rw [hz]; exact h0
theorem q8X:Tryz.prog.cellsOf 22 = 1:=by kernel_rfl
theorem qkN:Tryz.prog.cellsOf 3 = 1:=by kernel_rfl
noncomputable def fsM:Array Field:=match Tryz.prog.underlying 27 with | some (.struct fs)=>fs | _=>#[]
theorem qkW:Tryz.prog.underlying 27 = some (.struct fsM):=by kernel_rfl
theorem qFh:(fsM[0]?).map (fun f=>(f.type,f.offset)) = some (3,0):=by kernel_rfl
theorem qFb:(fsM[1]?).map (fun f=>(f.type,f.offset)) = some (3,1):=by kernel_rfl
theorem qFc:(fsM[2]?).map (fun f=>(f.type,f.offset)) = some (3,2):=by kernel_rfl
theorem qEI:(fsM[3]?).map (fun f=>(f.type,f.offset)) = some (3,3):=by kernel_rfl
theorem qEM:(fsM[4]?).map (fun f=>(f.type,f.offset)) = some (24,4):=by kernel_rfl
theorem qFa:(fsM[5]?).map (fun f=>(f.type,f.offset)) = some (25,36):=by kernel_rfl
theorem qEe:Tryz.prog.cellsOf 27 = 37:=by kernel_rfl
theorem qC9:Tryz.prog.underlying 25 = some (.slice 24):=by kernel_rfl
theorem qF2:qjq Tryz.prog 3 24 = some k32:=by kernel_rfl
theorem qCy:Tryz.prog.cellsOf 24 = k32.length:=by kernel_rfl
theorem qCx:Tryz.prog.cellsOf 25 = 1:=by kernel_rfl
noncomputable def fsP:Array Field:=match Tryz.prog.underlying 86 with | some (.struct fs)=>fs | _=>#[]
theorem q7p:Tryz.prog.underlying 86 = some (.struct fsP):=by kernel_rfl
theorem qET:(fsP[0]?).map (fun f=>(f.type,f.offset)) = some (3,0):=by kernel_rfl
theorem qEH:(fsP[1]?).map (fun f=>(f.type,f.offset)) = some (22,1):=by kernel_rfl
theorem qEz:Tryz.prog.cellsOf 86 = 2:=by kernel_rfl
def qr8 (W:World) (k:List CK) (r:Option Addr) (rows:List (List Value)):Prop:=rows = []∨∃ b o c ty fr,r = some ⟨b,o,none⟩/\W.heap[b]? = some (.cells c ty fr)/\qT c o k rows
theorem q6U {W:World} {k:List CK} {r:Option Addr} {rows:List (List Value)} (h:qr8 W k r rows):({ d:=rows }:U).good:=by
 refine ⟨rfl,?_⟩;rcases h with h | ⟨_,_,_,_,_,_,_,h⟩
 ·simp only; rw [h]; simp
 ·exact qko h
section
variable {H:Type} {enc:TypeId × Value->H} {W:World} {base b:Nat} {sp:Nat->Bool}
theorem qb4 {t u:TypeId} {fs:Array Field} {cs:List Value} {fuel:Nat} {x:DataW H × List MemPlace} {k off:Nat} (ht:Tryz.prog.underlying t = some (.struct fs)) (h:DataW.trod enc Tryz.prog W base sp true fuel t cs = some x)
  (hk:(fs[k]?).map (fun f=>(f.type,f.offset)) = some (u,off)):∃ m y,DataW.trod enc Tryz.prog W base sp true m u ((cs.drop off).take (Tryz.prog.cellsOf u)) = some y/\∀ n ∈ y.1.weights Tryz.prog u,n ∈ x.1.weights Tryz.prog t:=by
 obtain ⟨xs,n,_,hx,_,hxl,hall⟩:=DataW.trod_struct ht h;obtain ⟨f,hf,hf'⟩:=jai.1 hk;simp only [jau] at hf';have h1:=hall k f hf;rw [hf'.1,hf'.2] at h1;have hlt:k < xs.length:=by rw [hxl]; exact (jcm.1 hf).1
 rw [jac hlt] at h1;refine ⟨n,_,h1,fun m hm=>?_⟩;rw [hx];simp only [DataW.weights,ht];exact DataW.weights_mem_each (j:=k) (by rw [jaq,jca,hf,ja0,hf'.1]) (by simp [hlt]) m hm
theorem q4F {fuel:Nat} {v:Value} {x:DataW H × List MemPlace} (hsp:∀ b,sp b = true) (hf:DataW.trod enc Tryz.prog W base sp true fuel 22 [v] = some x) :
  ∃ rows:List (List Value),Rd (fun b=>W.heap[b]?) kB v rows/\qk rows:=by
 obtain ⟨rows,hr,ht,hd⟩:=qnm (ps:=x.2) (d:=x.1) Tryz.underlying22 qFz qDy (by decide) hsp hf;refine ⟨rows,hr,fun row hrow=>?_⟩;obtain ⟨fuel',x',h⟩:=ht row hrow;obtain ⟨z,e,_,hw⟩:=DataW.trod_int Tryz.underlying5 h;rw [e];exact qBm hw
theorem q9U {t e:TypeId} {pat:List CK} {n w m:Nat} {fuel:Nat} {v:Value} {x:DataW H × List MemPlace} (hsp:∀ b,sp b = true) (hu:Tryz.prog.underlying t = some (.slice e)) (hp:qjq Tryz.prog n e = some pat) (hc:Tryz.prog.cellsOf e = pat.length) (h0:0 < pat.length) (hb:Tryz.prog.bytesOf e = w) (hm:140737488351232 < (m + 1) * w)
  (hf:DataW.trod enc Tryz.prog W base sp true fuel t [v] = some x) (hsz:∀ n ∈ x.1.weights Tryz.prog t,n <= reachBytes) :
  ∃ (r:Option Addr) (rows:List (List Value)) (cap:Nat),v = .slice (qn r 0) rows.length cap/\rows.length <= cap/\(rows.length:Int) <= m/\(∀ row ∈ rows,∃ fuel x,DataW.trod enc Tryz.prog W base sp true fuel e row = some x)/\qr8 W pat r rows:=by
 obtain ⟨rows,hr,ht,hd⟩:=qnm (ps:=x.2) (d:=x.1) hu hp hc h0 hsp hf;have hbound:(rows.length:Int) <= m:=by
  rcases hd with ⟨_,h0⟩ | ⟨elems,spare,h3,h4,_⟩
  ·rw [h0]; simp
  ·have:=hsz ((elems.length + spare.length) * Tryz.prog.bytesOf e) (by rw [h3]; simp only [DataW.weights,hu]; exact jae ..)
   rw [hb] at this;have hrb:reachBytes = 140737488351232:=by decide
   rw [hrb] at this;rcases jbu m (elems.length + spare.length) with hlt | hge
   ·have:=jbq w hlt
    simp only [Nat.succ_eq_add_one] at this;omega
   ·omega
 rcases hr with ⟨r,e1,e2⟩ | ⟨b,o,cap,c,ty,fr,e1,hle,e3,e4⟩
 ·exact ⟨r,rows,0,by rw [e1,e2,qkn]; rfl,by rw [e2]; exact Nat.zero_le _,hbound,ht,.inl e2⟩
 ·exact ⟨some ⟨b,o,none⟩,rows,cap,by rw [e1]; rfl,by omega,hbound,ht,.inr ⟨b,o,c,ty,fr,rfl,e3,e4⟩⟩
theorem qzP {k:List CK} {r:Option Addr} {rows:List (List Value)} (h:qr8 W k r rows) {j:Nat} {row:List Value} (hj:rows[j]? = some row):qv k row:=by
 rcases h with h | ⟨_,_,_,_,_,_,_,h⟩
 ·rw [h] at hj; simp at hj
 ·exact (h j row hj).1
end
end Go.Proofs.YtelcnkclppkicaaGreatDoor
