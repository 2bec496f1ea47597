/- Digests, strings, lists of bytes, manifests, pieces and calls that come in, opened. -/
import Derived.Test.YtelcnkclppkicaaGreatDoorL0
import Derived.Test.YtelcnkclppkicaaGreatDoorG5
import Derived.Test.YtelcnkclppkicaaGreatDoorG1
set_option linter.unusedSimpArgs false
set_option linter.unusedVariables false
namespace Go.Proofs.YtelcnkclppkicaaGreatDoor
open Go Go.Eng Go.Proofs Go.ChangeShapes Go.WideShapes Go.ChangeAt Go.RowKit
set_option maxRecDepth 100000
theorem q18 {z:Int} (h:(Lit.int .u64 z).wf = true):0 <= z/\z < 18446744073709551616:=by
 have u1:IntKind.u64.min = 0:=rfl
 have u2:IntKind.u64.max = 18446744073709551615:=rfl
 simp [Lit.wf,IntKind.wrap,IntKind.bits,IntKind.signed] at h
 omega
theorem q8x:Tryz.prog.underlying 24 = some (.array 32 5):=by kernel_rfl
theorem q7y:Tryz.prog.cellsOf 5 = 1:=by kernel_rfl
theorem q16:Tryz.prog.cellsOf 24 = 32:=by kernel_rfl
def qu4 (n:Nat) (row:List Value):Prop:=row.length = n/\∀ j,j < n->∃ z,row[j]? = some (.int .u8 z)/\0 <= z/\z < 256
section
variable {H:Type} {enc:TypeId × Value->H} {W:World} {base b:Nat} {sp:Nat->Bool}
set_option maxRecDepth 100000 in
theorem qxf {fuel:Nat} {cs:List Value} {x:DataW H × List MemPlace} (hf:DataW.trod enc Tryz.prog W base sp true fuel 24 cs = some x):qu4 32 cs:=by
 obtain ⟨xs,m,_,_,hl,hn,hall⟩:=DataW.trod_array q8x hf
 rw [q16] at hl
 refine ⟨hl,fun i hi=>?_⟩
 have hc:=hall i hi
 rw [q7y] at hc
 have hxi:xs[i]? = some xs[i]:=jac (by omega)
 rw [hxi] at hc
 obtain ⟨z,e,_,hw⟩:=DataW.trod_int Tryz.underlying5 hc
 have h1:i < cs.length:=by omega
 have e1:(cs.drop (i * 1)).take 1 = [cs[i]]:=by
  rw [je0,jcg h1]; rfl
 rw [e1] at e
 exact ⟨z,by rw [jac h1]; simpa using e,q9H hw⟩
end
theorem q2A {row:List Value} {n:Nat} (h:qu4 n row):qH (qd [row] n):=fun x hx=>by
 obtain ⟨j,hj,rfl⟩:=jbb.1 hx
 obtain ⟨z,hz,h0⟩:=h.2 j (jb5.1 hj)
 show 0 <= qS (row[j]?.getD .nilFunc)/\qS (row[j]?.getD .nilFunc) < 256
 rw [hz]; exact h0
def qoP (W:World) (k:List CK) (r:Option Addr) (rows:List (List Value)):Prop:=rows = []∨∃ b o c ty fr,r = some ⟨b,o,none⟩/\W.heap[b]? = some (.cells c ty fr)/\qT c o k rows
theorem q3e {W:World} {k:List CK} {r:Option Addr} {rows:List (List Value)} (h:qoP W k r rows):({ d:=rows }:U).good:=by
 refine ⟨rfl,?_⟩
 rcases h with h | ⟨_,_,_,_,_,_,_,h⟩
 ·simp only; rw [h]; simp
 ·exact qiJ h
section
variable {H:Type} {enc:TypeId × Value->H} {W:World} {base b:Nat} {sp:Nat->Bool}
theorem qf7 {t u:TypeId} {fs:Array Field} {cs:List Value} {fuel:Nat} {x:DataW H × List MemPlace} {k off:Nat} (ht:Tryz.prog.underlying t = some (.struct fs)) (h:DataW.trod enc Tryz.prog W base sp true fuel t cs = some x)
  (hk:(fs[k]?).map (fun f=>(f.type,f.offset)) = some (u,off)):∃ m y,DataW.trod enc Tryz.prog W base sp true m u ((cs.drop off).take (Tryz.prog.cellsOf u)) = some y/\∀ n ∈ y.1.weights Tryz.prog u,n ∈ x.1.weights Tryz.prog t:=by
 obtain ⟨xs,n,_,hx,_,hxl,hall⟩:=DataW.trod_struct ht h
 obtain ⟨f,hf,hf'⟩:=jai.1 hk
 simp only [jao] at hf'
 have h1:=hall k f hf
 rw [hf'.1,hf'.2] at h1
 have hlt:k < xs.length:=by rw [hxl]; exact (jb7.1 hf).1
 rw [jac hlt] at h1
 refine ⟨n,_,h1,fun m hm=>?_⟩
 rw [hx]
 simp only [DataW.weights,ht]
 exact DataW.weights_mem_each (j:=k) (by rw [jan,jca,hf,jav,hf'.1]) (by simp [hlt]) m hm
theorem q3M {t e:TypeId} {pat:List CK} {n w m:Nat} {fuel:Nat} {v:Value} {x:DataW H × List MemPlace} (hsp:∀ b,sp b = true) (hu:Tryz.prog.underlying t = some (.slice e)) (hp:qiB Tryz.prog n e = some pat) (hc:Tryz.prog.cellsOf e = pat.length) (h0:0 < pat.length) (hb:Tryz.prog.bytesOf e = w) (hm:140737488351232 < (m + 1) * w)
  (hf:DataW.trod enc Tryz.prog W base sp true fuel t [v] = some x) (hsz:∀ n ∈ x.1.weights Tryz.prog t,n <= reachBytes) :
  ∃ (r:Option Addr) (rows:List (List Value)) (cap:Nat),v = .slice (qm r 0) rows.length cap/\rows.length <= cap/\(rows.length:Int) <= m/\(∀ row ∈ rows,∃ fuel x,DataW.trod enc Tryz.prog W base sp true fuel e row = some x)/\qoP W pat r rows:=by
 obtain ⟨rows,hr,ht,hd⟩:=qsi (ps:=x.2) (d:=x.1) hu hp hc h0 hsp hf
 have hbound:(rows.length:Int) <= m:=by
  rcases hd with ⟨_,h0⟩ | ⟨elems,spare,h3,h4,_⟩
  ·rw [h0]; simp
  ·have:=hsz ((elems.length + spare.length) * Tryz.prog.bytesOf e) (by rw [h3]; simp only [DataW.weights,hu]; exact jae ..)
   rw [hb] at this
   have hrb:reachBytes = 140737488351232:=by decide
   rw [hrb] at this
   rcases jbs m (elems.length + spare.length) with hlt | hge
   ·have:=jbl w hlt
    simp only [Nat.succ_eq_add_one] at this
    omega
   ·omega
 rcases hr with ⟨r,e1,e2⟩ | ⟨b,o,cap,c,ty,fr,e1,hle,e3,e4⟩
 ·exact ⟨r,rows,0,by rw [e1,e2,qmQ]; rfl,by rw [e2]; exact Nat.zero_le _,hbound,ht,.inl e2⟩
 ·exact ⟨some ⟨b,o,none⟩,rows,cap,by rw [e1]; rfl,by omega,hbound,ht,.inr ⟨b,o,c,ty,fr,rfl,e3,e4⟩⟩
theorem qwV {k:List CK} {r:Option Addr} {rows:List (List Value)} (h:qoP W k r rows) {j:Nat} {row:List Value} (hj:rows[j]? = some row):qt k row:=by
 rcases h with h | ⟨_,_,_,_,_,_,_,h⟩
 ·rw [h] at hj; simp at hj
 ·exact (h j row hj).1
end
end Go.Proofs.YtelcnkclppkicaaGreatDoor
