/- Digests, strings, lists of bytes, manifests, pieces and calls that come in, opened. -/
import Derived.Test.YtelcnkclppkicaaGreatDoorL0
import Derived.Test.YtelcnkclppkicaaGreatDoorG5
set_option linter.unusedSimpArgs false
set_option linter.unusedVariables false
namespace Go.Proofs.YtelcnkclppkicaaGreatDoor
open Go Go.Eng Go.Proofs Go.ChangeShapes Go.WideShapes Go.ChangeAt Go.RowKit
set_option maxRecDepth 100000
theorem q7t:Tryz.prog.underlying 24 = some (.array 32 5):=by kernel_rfl
theorem q6r:Tryz.prog.cellsOf 5 = 1:=by kernel_rfl
theorem q1M:Tryz.prog.cellsOf 24 = 32:=by kernel_rfl
def qgb (n:Nat) (row:List Value):Prop:=row.length = n/\∀ j,j < n->∃ z,row[j]? = some (.int .u8 z)/\0 <= z/\z < 256
section
variable {H:Type} {enc:TypeId × Value->H} {W:World} {base b:Nat} {sp:Nat->Bool}
set_option maxRecDepth 100000 in
theorem qw2 {fuel:Nat} {cs:List Value} {x:DataW H × List MemPlace} (hf:DataW.trod enc Tryz.prog W base sp true fuel 24 cs = some x):qgb 32 cs:=by
 obtain ⟨xs,m,_,_,hl,hn,hall⟩:=DataW.trod_array q7t hf
 rw [q1M] at hl
 refine ⟨hl,fun i hi=>?_⟩
 have hc:=hall i hi
 rw [q6r] at hc
 have hxi:xs[i]? = some xs[i]:=List.getElem?_eq_getElem (by omega)
 rw [hxi] at hc
 obtain ⟨z,e,_,hw⟩:=DataW.trod_int Tryz.underlying5 hc
 have h1:i < cs.length:=by omega
 have e1:(cs.drop (i * 1)).take 1 = [cs[i]]:=by
  rw [Nat.mul_one,List.drop_eq_getElem_cons h1]; rfl
 rw [e1] at e
 exact ⟨z,by rw [List.getElem?_eq_getElem h1]; simpa using e,q7N hw⟩
end
theorem qv2 {row:List Value} (h:qgb 32 row):({ d:=[row] }:U).good:=by
 refine ⟨rfl,?_⟩
 intro r hr
 obtain rfl:=List.mem_singleton.1 hr
 intro v hv
 obtain ⟨j,hj⟩:=List.getElem?_of_mem hv
 obtain ⟨z,hz,_⟩:=h.2 j (by rw [<- h.1]; exact (List.getElem?_eq_some_iff.1 hj).1)
 rw [hz] at hj
 obtain rfl:=Option.some.inj hj
 rfl
theorem q0G {n m:Nat} {ρ:Env} {row:List Value} (hn:(ρ n).d = [row]) (h:qgb m row):qb ρ (qaY .u8 n m) = row:=by
 refine List.ext_getElem? fun j=>?_
 unfold qb qaY
 rw [List.map_map,List.getElem?_map]
 by_cases hj:j < m
 ·obtain ⟨z,hz,_⟩:=h.2 j hj
  rw [List.getElem?_range hj,hz]
  simp [T.den,O1.den,O2.den,hn,qa,hz,qaf]
 ·rw [List.getElem?_eq_none (by simp; omega),List.getElem?_eq_none (by rw [h.1]; omega)]
  rfl
theorem q0u {row:List Value} {n:Nat} (h:qgb n row):qS (qf [row] n):=fun x hx=>by
 obtain ⟨j,hj,rfl⟩:=List.mem_map.1 hx
 obtain ⟨z,hz,h0⟩:=h.2 j (List.mem_range.1 hj)
 show 0 <= qaf (row[j]?.getD .nilFunc)/\qaf (row[j]?.getD .nilFunc) < 256
 rw [hz]; exact h0
theorem q12:Tryz.prog.cellsOf 3 = 1:=by kernel_rfl
def qh8 (W:World) (k:List CK) (r:Option Addr) (rows:List (List Value)):Prop:=rows = []∨∃ b o c ty fr,r = some ⟨b,o,none⟩/\W.heap[b]? = some (.cells c ty fr)/\qT c o k rows
theorem qru {W:World} {k:List CK} {r:Option Addr} {rows:List (List Value)} (h:qh8 W k r rows):({ d:=rows }:U).good:=by
 refine ⟨rfl,?_⟩
 rcases h with h | ⟨_,_,_,_,_,_,_,h⟩
 ·simp only; rw [h]; simp
 ·exact qiI h
section
variable {H:Type} {enc:TypeId × Value->H} {W:World} {base b:Nat} {sp:Nat->Bool}
theorem qfF {t u:TypeId} {fs:Array Field} {cs:List Value} {fuel:Nat} {x:DataW H × List MemPlace} {k off:Nat} (ht:Tryz.prog.underlying t = some (.struct fs)) (h:DataW.trod enc Tryz.prog W base sp true fuel t cs = some x)
  (hk:(fs[k]?).map (fun f=>(f.type,f.offset)) = some (u,off)):∃ m y,DataW.trod enc Tryz.prog W base sp true m u ((cs.drop off).take (Tryz.prog.cellsOf u)) = some y/\∀ n ∈ y.1.weights Tryz.prog u,n ∈ x.1.weights Tryz.prog t:=by
 obtain ⟨xs,n,_,hx,_,hxl,hall⟩:=DataW.trod_struct ht h
 obtain ⟨f,hf,hf'⟩:=Option.map_eq_some_iff.1 hk
 simp only [Prod.mk.injEq] at hf'
 have h1:=hall k f hf
 rw [hf'.1,hf'.2] at h1
 have hlt:k < xs.length:=by rw [hxl]; exact (Array.getElem?_eq_some_iff.1 hf).1
 rw [List.getElem?_eq_getElem hlt] at h1
 refine ⟨n,_,h1,fun m hm=>?_⟩
 rw [hx]
 simp only [DataW.weights,ht]
 exact DataW.weights_mem_each (j:=k) (by rw [List.getElem?_map,Array.getElem?_toList,hf,Option.map_some,hf'.1]) (by simp [hlt]) m hm
theorem quL {t e:TypeId} {pat:List CK} {n w m:Nat} {fuel:Nat} {v:Value} {x:DataW H × List MemPlace} (hsp:∀ b,sp b = true) (hu:Tryz.prog.underlying t = some (.slice e)) (hp:qiN Tryz.prog n e = some pat) (hc:Tryz.prog.cellsOf e = pat.length) (h0:0 < pat.length) (hb:Tryz.prog.bytesOf e = w) (hm:140737488351232 < (m + 1) * w)
  (hf:DataW.trod enc Tryz.prog W base sp true fuel t [v] = some x) (hsz:∀ n ∈ x.1.weights Tryz.prog t,n <= reachBytes) :
  ∃ (r:Option Addr) (rows:List (List Value)) (cap:Nat),v = .slice (ql r 0) rows.length cap/\rows.length <= cap/\(rows.length:Int) <= m/\(∀ row ∈ rows,∃ fuel x,DataW.trod enc Tryz.prog W base sp true fuel e row = some x)/\qh8 W pat r rows:=by
 obtain ⟨rows,hr,ht,hd⟩:=q0Y (ps:=x.2) (d:=x.1) hu hp hc h0 hsp hf
 have hbound:(rows.length:Int) <= m:=by
  rcases hd with ⟨_,h0⟩ | ⟨elems,spare,h3,h4,_⟩
  ·rw [h0]; simp
  ·have:=hsz ((elems.length + spare.length) * Tryz.prog.bytesOf e) (by rw [h3]; simp only [DataW.weights,hu]; exact List.mem_cons_self ..)
   rw [hb] at this
   have hrb:reachBytes = 140737488351232:=by decide
   rw [hrb] at this
   rcases Nat.lt_or_ge m (elems.length + spare.length) with hlt | hge
   ·have:=Nat.mul_le_mul_right w hlt
    simp only [Nat.succ_eq_add_one] at this
    omega
   ·omega
 rcases hr with ⟨r,e1,e2⟩ | ⟨b,o,cap,c,ty,fr,e1,hle,e3,e4⟩
 ·exact ⟨r,rows,0,by rw [e1,e2,qmS]; rfl,by rw [e2]; exact Nat.zero_le _,hbound,ht,.inl e2⟩
 ·exact ⟨some ⟨b,o,none⟩,rows,cap,by rw [e1]; rfl,by omega,hbound,ht,.inr ⟨b,o,c,ty,fr,rfl,e3,e4⟩⟩
theorem qm0 {k:List CK} {r:Option Addr} {rows:List (List Value)} (h:qh8 W k r rows) {j:Nat} {row:List Value} (hj:rows[j]? = some row):qr k row:=by
 rcases h with h | ⟨_,_,_,_,_,_,_,h⟩
 ·rw [h] at hj; simp at hj
 ·exact (h j row hj).1
end
end Go.Proofs.YtelcnkclppkicaaGreatDoor
