/- Digests, strings, lists of bytes, manifests, pieces and calls that come in, opened. -/
import Derived.Test.YtelcnkclppkicaaGreatDoorL0
import Derived.Test.YtelcnkclppkicaaGreatDoorG5
set_option linter.unusedSimpArgs false
set_option linter.unusedVariables false
namespace Go.Proofs.YtelcnkclppkicaaGreatDoor
open Go Go.Eng Go.Proofs Go.ChangeShapes Go.WideShapes Go.ChangeAt Go.RowKit
set_option maxRecDepth 100000
theorem q0c {z:Int} (h:(Lit.int .u64 z).wf = true):0 <= z/\z < 18446744073709551616:=by
 have u1:IntKind.u64.min = 0:=rfl
 have u2:IntKind.u64.max = 18446744073709551615:=rfl
 simp [Lit.wf,IntKind.wrap,IntKind.bits,IntKind.signed] at h
 omega
theorem q6F:Tryz.prog.underlying 24 = some (.array 32 5):=by kernel_rfl
theorem q5d:Tryz.prog.cellsOf 5 = 1:=by kernel_rfl
theorem q0O:Tryz.prog.cellsOf 24 = 32:=by kernel_rfl
def qgh (n:Nat) (row:List Value):Prop:=row.length = n/\∀ j,j < n->∃ z,row[j]? = some (.int .u8 z)/\0 <= z/\z < 256
section
variable {H:Type} {enc:TypeId × Value->H} {W:World} {base b:Nat} {sp:Nat->Bool}
set_option maxRecDepth 100000 in
theorem qw1 {fuel:Nat} {cs:List Value} {x:DataW H × List MemPlace} (hf:DataW.trod enc Tryz.prog W base sp true fuel 24 cs = some x):qgh 32 cs:=by
 obtain ⟨xs,m,_,_,hl,hn,hall⟩:=DataW.trod_array q6F hf
 rw [q0O] at hl
 refine ⟨hl,fun i hi=>?_⟩
 have hc:=hall i hi
 rw [q5d] at hc
 have hxi:xs[i]? = some xs[i]:=List.getElem?_eq_getElem (by omega)
 rw [hxi] at hc
 obtain ⟨z,e,_,hw⟩:=DataW.trod_int Tryz.underlying5 hc
 have h1:i < cs.length:=by omega
 have e1:(cs.drop (i * 1)).take 1 = [cs[i]]:=by
  rw [Nat.mul_one,List.drop_eq_getElem_cons h1]; rfl
 rw [e1] at e
 exact ⟨z,by rw [List.getElem?_eq_getElem h1]; simpa using e,q7v hw⟩
end
theorem qvE {row:List Value} (h:qgh 32 row):({ d:=[row] }:U).good:=by
 refine ⟨rfl,?_⟩
 intro r hr
 obtain rfl:=List.mem_singleton.1 hr
 intro v hv
 obtain ⟨j,hj⟩:=List.getElem?_of_mem hv
 obtain ⟨z,hz,_⟩:=h.2 j (by rw [<- h.1]; exact (List.getElem?_eq_some_iff.1 hj).1)
 rw [hz] at hj
 obtain rfl:=Option.some.inj hj
 rfl
theorem q15 {n m:Nat} {ρ:Env} {row:List Value} (hn:(ρ n).d = [row]) (h:qgh m row):qb ρ (qaY .u8 n m) = row:=by
 refine List.ext_getElem? fun j=>?_
 unfold qb qaY
 rw [List.map_map,List.getElem?_map]
 by_cases hj:j < m
 ·obtain ⟨z,hz,_⟩:=h.2 j hj
  rw [List.getElem?_range hj,hz]
  simp [T.den,O1.den,O2.den,hn,qa,hz,qQ]
 ·rw [List.getElem?_eq_none (by simp; omega),List.getElem?_eq_none (by rw [h.1]; omega)]
  rfl
theorem q0s {row:List Value} {n:Nat} (h:qgh n row):qT (qd [row] n):=fun x hx=>by
 obtain ⟨j,hj,rfl⟩:=List.mem_map.1 hx
 obtain ⟨z,hz,h0⟩:=h.2 j (List.mem_range.1 hj)
 show 0 <= qQ (row[j]?.getD .nilFunc)/\qQ (row[j]?.getD .nilFunc) < 256
 rw [hz]; exact h0
theorem q2i:Tryz.prog.cellsOf 3 = 1:=by kernel_rfl
section
variable {H:Type} {enc:TypeId × Value->H} {W:World} {base b:Nat} {sp:Nat->Bool}
theorem qfN {t u:TypeId} {fs:Array Field} {cs:List Value} {fuel:Nat} {x:DataW H × List MemPlace} {k off:Nat} (ht:Tryz.prog.underlying t = some (.struct fs)) (h:DataW.trod enc Tryz.prog W base sp true fuel t cs = some x)
  (hk:(fs[k]?).map (fun f=>(f.type,f.offset)) = some (u,off)):∃ m y,DataW.trod enc Tryz.prog W base sp true m u ((cs.drop off).take (Tryz.prog.cellsOf u)) = some y/\∀ n ∈ y.1.weights Tryz.prog u,n ∈ x.1.weights Tryz.prog t:=by
 obtain ⟨xs,n,_,hx,_,hxl,hall⟩:=DataW.trod_struct ht h
 obtain ⟨f,hf,hf'⟩:=Option.map_eq_some_iff.1 hk
 simp only [Prod.mk.injEq] at hf'
 have h1:=hall k f hf
 rw [hf'.1,hf'.2] at h1
 have hlt:k < xs.length:=by rw [hxl]; exact (Array.getElem?_eq_some_iff.1 hf).1
 rw [List.getElem?_eq_getElem hlt] at h1
 refine ⟨n,_,h1,fun m hm=>?_⟩
 rw [hx]
 simp only [DataW.weights,ht]
 exact DataW.weights_mem_each (j:=k) (by rw [List.getElem?_map,Array.getElem?_toList,hf,Option.map_some,hf'.1]) (by simp [hlt]) m hm
end
end Go.Proofs.YtelcnkclppkicaaGreatDoor
