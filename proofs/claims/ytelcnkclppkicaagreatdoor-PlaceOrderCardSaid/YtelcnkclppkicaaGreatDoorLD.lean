/- Digests, strings, lists of bytes, manifests, pieces and calls that come in, opened. -/
import Derived.Test.YtelcnkclppkicaaGreatDoorL0
import Derived.Test.YtelcnkclppkicaaGreatDoorG5
set_option linter.unusedSimpArgs false
set_option linter.unusedVariables false
namespace Go.Proofs.YtelcnkclppkicaaGreatDoor
open Go Go.Eng Go.Proofs Go.ChangeShapes Go.WideShapes Go.ChangeAt Go.RowKit
set_option maxRecDepth 100000
theorem goodDg:Tryz.prog.readableRec 24 = true ∧ 24 < Tryz.prog.types.size:=⟨by kernel_rfl,of_decide_eq_true (by kernel_rfl)⟩
theorem underD:Tryz.prog.underlying 24 = some (.array 32 5):=by kernel_rfl
theorem cells5':Tryz.prog.cellsOf 5 = 1:=by kernel_rfl
theorem cellsD:Tryz.prog.cellsOf 24 = 32:=by kernel_rfl
def rowBytes (n:Nat) (row:List Value):Prop:=row.length = n∧∀ j,j < n→∃ z,row[j]? = some (.int .u8 z)∧0 ≤ z∧z < 256
section
variable {H:Type} {enc:TypeId × Value→H} {W:World} {base b:Nat} {sp:Nat→Bool}
set_option maxRecDepth 100000 in
theorem trod_digest {fuel:Nat} {cs:List Value} {x:DataW H × List MemPlace} (hf:DataW.trod enc Tryz.prog W base sp true fuel 24 cs = some x):rowBytes 32 cs:=by
 obtain ⟨xs,m,_,_,hl,hn,hall⟩:=DataW.trod_array underD hf
 rw [cellsD] at hl
 refine ⟨hl,fun i hi=>?_⟩
 have hc:=hall i hi
 rw [cells5'] at hc
 have hxi:xs[i]? = some xs[i]:=List.getElem?_eq_getElem (by omega)
 rw [hxi] at hc
 obtain ⟨z,e,_,hw⟩:=DataW.trod_int Tryz.underlying5 hc
 have h1:i < cs.length:=by omega
 have e1:(cs.drop (i * 1)).take 1 = [cs[i]]:=by
  rw [Nat.mul_one,List.drop_eq_getElem_cons h1]; rfl
 rw [e1] at e
 exact ⟨z,by rw [List.getElem?_eq_getElem h1]; simpa using e,wf_u8 hw⟩
theorem open_digest {v:Value} {d:DataW H} {p:List MemPlace} (hv:Value.okWide Tryz.prog W .any b 24 v) (h:DataW.Trod enc Tryz.prog W base sp true 24 v d p):∃ row:List Value,v = .agg row.toArray∧row.length = 32∧rowBytes 32 row:=by
 simp only [Value.okWide,underD] at hv
 obtain ⟨cs,rfl,hsize,_⟩:=hv
 obtain ⟨fuel,hf⟩:=h
 simp only [Value.cells] at hf
 have:=trod_digest hf
 exact ⟨cs.toList,by simp,this.1,this⟩
end
theorem digest_good {row:List Value} (h:rowBytes 32 row):({ d:=[row] }:U).good:=by
 refine ⟨rfl,?_⟩
 intro r hr
 obtain rfl:=List.mem_singleton.1 hr
 intro v hv
 obtain ⟨j,hj⟩:=List.getElem?_of_mem hv
 obtain ⟨z,hz,_⟩:=h.2 j (by rw [← h.1]; exact (List.getElem?_eq_some_iff.1 hj).1)
 rw [hz] at hj
 obtain rfl:=Option.some.inj hj
 rfl
theorem den_cells {n m:Nat} {ρ:Env} {row:List Value} (hn:(ρ n).d = [row]) (h:rowBytes m row):denVs ρ (cellsT .u8 n m) = row:=by
 refine List.ext_getElem? fun j=>?_
 unfold denVs cellsT
 rw [List.map_map,List.getElem?_map]
 by_cases hj:j < m
 ·obtain ⟨z,hz,_⟩:=h.2 j hj
  rw [List.getElem?_range hj,hz]
  simp [T.den,O1.den,O2.den,hn,cellX,hz,vInt]
 ·rw [List.getElem?_eq_none (by simp; omega),List.getElem?_eq_none (by rw [h.1]; omega)]
  rfl
theorem den_dgV {n:Nat} {ρ:Env} {row:List Value} (hn:(ρ n).d = [row]) (h:rowBytes 32 row):SV.den ρ (dgV n) = .agg row.toArray:=by
 show Value.agg (denVs ρ (cellsT .u8 n 32)).toArray = _
 rw [den_cells hn h]
theorem row_bytes {row:List Value} {n:Nat} (h:rowBytes n row):allM (rowL [row] n):=fun x hx=>by
 obtain ⟨j,hj,rfl⟩:=List.mem_map.1 hx
 obtain ⟨z,hz,h0⟩:=h.2 j (List.mem_range.1 hj)
 show 0 ≤ vInt (row[j]?.getD .nilFunc)∧vInt (row[j]?.getD .nilFunc) < 256
 rw [hz]; exact h0
section
variable {H:Type} {enc:TypeId × Value→H} {W:World} {base b:Nat} {sp:Nat→Bool}
end
end Go.Proofs.YtelcnkclppkicaaGreatDoor
