/- Digests, strings, lists of bytes, manifests, pieces and calls that come in, opened. -/
import Derived.Test.YtelcnkclppkicaaGreatDoorL0
import Derived.Test.YtelcnkclppkicaaGreatDoorG5
import Derived.Test.YtelcnkclppkicaaGreatDoorG1
set_option linter.unusedSimpArgs false
set_option linter.unusedVariables false
namespace Go.Proofs.YtelcnkclppkicaaGreatDoor
open Go Go.Eng Go.Proofs Go.ChangeShapes Go.WideShapes Go.ChangeAt Go.RowKit
set_option maxRecDepth 100000
section
variable {H:Type} {enc:TypeId × Value->H} {W:World} {base b:Nat} {sp:Nat->Bool}
end
theorem q45:Tryz.prog.cellsOf 22 = 1:=by kernel_rfl
theorem q4b:Tryz.prog.cellsOf 3 = 1:=by kernel_rfl
def qjy (W:World) (k:List CK) (r:Option Addr) (rows:List (List Value)):Prop:=rows = []∨∃ b o c ty fr,r = some ⟨b,o,none⟩/\W.heap[b]? = some (.cells c ty fr)/\qP c o k rows
theorem q2W {W:World} {k:List CK} {r:Option Addr} {rows:List (List Value)} (h:qjy W k r rows):({ d:=rows }:U).good:=by
 refine ⟨rfl,?_⟩
 rcases h with h | ⟨_,_,_,_,_,_,_,h⟩
 ·simp only; rw [h]; simp
 ·exact qgq h
section
variable {H:Type} {enc:TypeId × Value->H} {W:World} {base b:Nat} {sp:Nat->Bool}
theorem qgY {t u:TypeId} {fs:Array Field} {cs:List Value} {fuel:Nat} {x:DataW H × List MemPlace} {k off:Nat} (ht:Tryz.prog.underlying t = some (.struct fs)) (h:DataW.trod enc Tryz.prog W base sp true fuel t cs = some x)
  (hk:(fs[k]?).map (fun f=>(f.type,f.offset)) = some (u,off)):∃ m y,DataW.trod enc Tryz.prog W base sp true m u ((cs.drop off).take (Tryz.prog.cellsOf u)) = some y/\∀ n ∈ y.1.weights Tryz.prog u,n ∈ x.1.weights Tryz.prog t:=by
 obtain ⟨xs,n,_,hx,_,hxl,hall⟩:=DataW.trod_struct ht h
 obtain ⟨f,hf,hf'⟩:=jai.1 hk
 simp only [jaq] at hf'
 have h1:=hall k f hf
 rw [hf'.1,hf'.2] at h1
 have hlt:k < xs.length:=by rw [hxl]; exact (jcl.1 hf).1
 rw [jac hlt] at h1
 refine ⟨n,_,h1,fun m hm=>?_⟩
 rw [hx]
 simp only [DataW.weights,ht]
 exact DataW.weights_mem_each (j:=k) (by rw [jan,jck,hf,jaw,hf'.1]) (by simp [hlt]) m hm
theorem q44 {t e:TypeId} {pat:List CK} {n w m:Nat} {fuel:Nat} {v:Value} {x:DataW H × List MemPlace} (hsp:∀ b,sp b = true) (hu:Tryz.prog.underlying t = some (.slice e)) (hp:qje Tryz.prog n e = some pat) (hc:Tryz.prog.cellsOf e = pat.length) (h0:0 < pat.length) (hb:Tryz.prog.bytesOf e = w) (hm:140737488351232 < (m + 1) * w)
  (hf:DataW.trod enc Tryz.prog W base sp true fuel t [v] = some x) (hsz:∀ n ∈ x.1.weights Tryz.prog t,n <= reachBytes) :
  ∃ (r:Option Addr) (rows:List (List Value)) (cap:Nat),v = .slice (qm r 0) rows.length cap/\rows.length <= cap/\(rows.length:Int) <= m/\(∀ row ∈ rows,∃ fuel x,DataW.trod enc Tryz.prog W base sp true fuel e row = some x)/\qjy W pat r rows:=by
 obtain ⟨rows,hr,ht,hd⟩:=qrx (ps:=x.2) (d:=x.1) hu hp hc h0 hsp hf
 have hbound:(rows.length:Int) <= m:=by
  rcases hd with ⟨_,h0⟩ | ⟨elems,spare,h3,h4,_⟩
  ·rw [h0]; simp
  ·have:=hsz ((elems.length + spare.length) * Tryz.prog.bytesOf e) (by rw [h3]; simp only [DataW.weights,hu]; exact jae ..)
   rw [hb] at this
   have hrb:reachBytes = 140737488351232:=by decide
   rw [hrb] at this
   rcases jbu m (elems.length + spare.length) with hlt | hge
   ·have:=jbk w hlt
    simp only [Nat.succ_eq_add_one] at this
    omega
   ·omega
 rcases hr with ⟨r,e1,e2⟩ | ⟨b,o,cap,c,ty,fr,e1,hle,e3,e4⟩
 ·exact ⟨r,rows,0,by rw [e1,e2,qgl]; rfl,by rw [e2]; exact jfw _,hbound,ht,.inl e2⟩
 ·exact ⟨some ⟨b,o,none⟩,rows,cap,by rw [e1]; rfl,by omega,hbound,ht,.inr ⟨b,o,c,ty,fr,rfl,e3,e4⟩⟩
theorem qwQ {k:List CK} {r:Option Addr} {rows:List (List Value)} (h:qjy W k r rows) {j:Nat} {row:List Value} (hj:rows[j]? = some row):qv k row:=by
 rcases h with h | ⟨_,_,_,_,_,_,_,h⟩
 ·rw [h] at hj; simp at hj
 ·exact (h j row hj).1
end
end Go.Proofs.YtelcnkclppkicaaGreatDoor
