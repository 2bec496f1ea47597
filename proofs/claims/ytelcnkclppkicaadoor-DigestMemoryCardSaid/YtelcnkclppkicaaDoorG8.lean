/- Texts W9, V3, VT, VZ, VW, CT, CW, V4, VM, VU, WF, YU, YV, YW, VV, WA, WE, VX, VY, WG, WH, WI, WN, CV, CX, WO, WQ, CY, E13, E14, FD, FE, FF, FG, FK, FL, FM, FN. -/
import Derived.Test.YtelcnkclppkicaaDoorG7
import Derived.Test.YtelcnkclppkicaaDoorProg
import Derived.Test.YtelcnkclppkicaaDoorG6
import Derived.Test.YtelcnkclppkicaaDoorG4
import Derived.WalkKit
import Derived.ProofKit
import Derived.OpenShut
import Derived.Carry
import Derived.SizedLaws
set_option linter.unusedSimpArgs false
set_option linter.unusedVariables false
namespace Go.Eng
open Go Go.Proofs
def blk:Value→Option Nat
 | .slice (some a) _ _=>some a.block
 | _=>none
def tabV (h:Hp) (vs:Nat→Value) (n:Nat) (M:Nat→List Int):Prop :=
 (∀ j,j < n→∃ d,Rd h kB (vs j) d∧bI d = M j∧allB d)∧∀ i j,i < n→j < n→i ≠ j→M i ≠ []→M j ≠ []→blk (vs i) ≠ blk (vs j)
end Go.Eng
namespace Go.Proofs
open Go Go.Eng
theorem tab_at {h:Hp} {vs:Nat→Value} {n j:Nat} {M:Nat→List Int} (ht:tabV h vs n M) (hj:j < n):∃ d,Rd h kB (vs j) d∧bI d = M j∧allB d:=ht.1 j hj
end Go.Proofs

set_option linter.unusedSimpArgs false
set_option linter.unusedVariables false
namespace Go.Eng
open Go Go.Proofs
def tvs (D:Rows'):Nat→Value:=fun j=>cellV D j 0
end Go.Eng

set_option linter.unusedSimpArgs false
set_option linter.unusedVariables false
namespace Go.Eng
open Go Go.Proofs
noncomputable def pcN (h:Hp) (D:Rows') (j:Nat):Nat:=(pcD h D j).length
def rdB (h:Hp) (v:Value):Prop:=∃ d,Rd h kB v d∧allB d
noncomputable def idxL (D:Rows') (k:Nat):List Int:=(List.range k).map (pcI D)
noncomputable def colF (h:Hp) (D:Rows'):Nat→List Int:=fun j=>rdL h (tvs D j)
noncomputable def valLr (h:Hp) (D:Rows') (k:Nat) (x:Int):List Int:=mixN (pcD h D) (wgtL (idxL D k) x) (pcN h D 0) k
def invL (total k:Nat) (rs:List Int):List Int:=(invE (selL (genL k total) k rs) k).2.1
noncomputable def solM (h:Hp) (D:Rows') (total k:Nat) (i:Nat):List Int:=mixN (pcD h D) (seg (invL total k (idxL D k)) (i * k) k) (pcN h D 0) k
def solPre (h:Hp) (D:Rows') (k total n:Int):Prop:=sizesB k total = true∧k ≤ n∧n ≤ 17592186043904∧pcOk h D n.toNat∧chooseOk k.toNat total.toNat (idxL D k.toNat)∧pcN h D 0 ≤ 8192∧∀ j,j < k.toNat→pcN h D j = pcN h D 0
end Go.Eng

set_option linter.unusedSimpArgs false
set_option linter.unusedVariables false
namespace Go.Eng
open Go Go.Proofs
end Go.Eng

set_option linter.unusedSimpArgs false
set_option linter.unusedVariables false
namespace Go.Eng
open Go Go.Proofs
end Go.Eng

set_option linter.unusedSimpArgs false
set_option linter.unusedVariables false
namespace Go.Eng
open Go Go.Proofs
end Go.Eng

set_option linter.unusedSimpArgs false
set_option linter.unusedVariables false
namespace Go.Proofs
open Go Go.Eng
section
variable {M:Bool} {C:Int→Prop} {x t:Int} {D O:List Int}
end
end Go.Proofs

set_option linter.unusedSimpArgs false
set_option linter.unusedVariables false
namespace Go.Proofs
open Go Go.Eng
variable {rows wide c rank:Nat} {T0:Mat} {M:Nat→List Int}
end Go.Proofs

set_option linter.unusedSimpArgs false
set_option linter.unusedVariables false
namespace Go.Proofs
open Go Go.Eng
end Go.Proofs

set_option linter.unusedSimpArgs false
set_option linter.unusedVariables false
set_option maxRecDepth 100000
namespace Go.Proofs
open Go Go.Eng

end Go.Proofs

set_option linter.unusedSimpArgs false
set_option linter.unusedVariables false
namespace Go.Proofs
open Go Go.Eng
variable {k total len e e':Int} {n i:Nat} {I I':Nat→Int} {L L':Nat→Nat}
end Go.Proofs

set_option linter.unusedSimpArgs false
set_option linter.unusedVariables false
set_option maxRecDepth 100000
namespace Go.Proofs
open Go Go.Eng

end Go.Proofs

set_option linter.unusedSimpArgs false
set_option linter.unusedVariables false
namespace Go.Proofs
open Go Go.Eng
theorem range_nodup {n:Nat}:(rangeI n).Nodup:=List.pairwise_map.2 (List.nodup_range.imp fun h e=>h (by omega))
theorem range_mem {n:Nat} {x:Int} (h:x ∈ rangeI n):0 ≤ x∧x < n:=by
 obtain ⟨m,hm,rfl⟩:=List.mem_map.1 h
 have:=List.mem_range.1 hm
 omega
theorem chosen {o l:List Int} {n k:Nat} (h:(o ++ l).Perm (rangeI n)) (hk:o.length = k):o.length = k∧o.Nodup∧∀ x ∈ o,0 ≤ x∧x < (n:Int) :=
 ⟨hk,(List.nodup_append.1 (h.nodup_iff.2 range_nodup)).1,fun x hx=>range_mem (h.mem_iff.1 (List.mem_append_left _ hx))⟩
end Go.Proofs

set_option linter.unusedSimpArgs false
set_option linter.unusedVariables false
namespace Go.Proofs
open Go Go.Eng
end Go.Proofs

set_option linter.unusedSimpArgs false
set_option linter.unusedVariables false
namespace Go.Proofs
open Go Go.Eng
set_option maxRecDepth 100000
end Go.Proofs

set_option linter.unusedSimpArgs false
set_option linter.unusedVariables false
namespace Go.Proofs
open Go Go.Eng
def byF (r:F) (y:Nat→F):Nat→F:=fun l=>(if l = 0 then 0 else y (l - 1)) ^^^ fmul r (y l)
theorem pval_one {y:Nat→F} {x:F}:pval 1 y x = y 0:=by
 show (0:F) ^^^ fmul (y 0) (fpow x 0) = y 0
 rw [zero_xor',show fpow x 0 = 1 from rfl,fmul_one]
theorem byF_val' {r x:F} {y:Nat→F}:∀ n,pval (n + 1) (byF r y) x = fmul (x ^^^ r) (pval n y x) ^^^ fmul (fmul r (y n)) (fpow x n)
 | 0=>by rw [pval_one,byF,if_pos rfl,zero_xor',show pval 0 y x = 0 from rfl,fmul_zero,zero_xor',show fpow x 0 = 1 from rfl,fmul_one]
 | n + 1=>by
  have ih:=byF_val' (r:=r) (x:=x) (y:=y) n
  have h1:pval (n + 2) (byF r y) x = pval (n + 1) (byF r y) x ^^^ fmul (byF r y (n + 1)) (fpow x (n + 1)):=rfl
  have h2:pval (n + 1) y x = pval n y x ^^^ fmul (y n) (fpow x n):=rfl
  rw [h1,ih,h2,byF,if_neg (by omega),Nat.add_sub_cancel,xor_fmul,fmul_xor (x:=y n)]
  have h3:fmul (x ^^^ r) (fmul (y n) (fpow x n)) = fmul (y n) (fpow x (n + 1)) ^^^ fmul (fmul r (y n)) (fpow x n):=by
   rw [fmul_xor,fpow]
   congr 1
   ·rw [← fmul_assoc,fmul_comm (x:=x),fmul_assoc]
    try rw [fmul_comm (x:=x)]
   ·rw [fmul_assoc]
  rw [h3]
  generalize fmul (x ^^^ r) (pval n y x) = a
  generalize fmul (fmul r (y n)) (fpow x n) = b
  generalize fmul (y n) (fpow x (n + 1)) = c
  generalize fmul (fmul r (y (n + 1))) (fpow x (n + 1)) = d
  rw [BitVec.xor_assoc,BitVec.xor_assoc,BitVec.xor_assoc]
  congr 1
  rw [← BitVec.xor_assoc,← BitVec.xor_assoc,BitVec.xor_comm b c]
theorem byF_val {r x:F} {y:Nat→F} {n:Nat} (h:y n = 0):pval (n + 1) (byF r y) x = fmul (x ^^^ r) (pval n y x):=by
 rw [byF_val',h,fmul_zero,zero_fmul,xor_zero']
theorem pval_more {y:Nat→F} {x:F} {n:Nat} (h:∀ l,n ≤ l→y l = 0):∀ m,pval (n + m) y x = pval n y x
 | 0=>rfl
 | m + 1=>by
  show pval (n + m) y x ^^^ fmul (y (n + m)) (fpow x (n + m)) = _
  rw [pval_more h m,h _ (by omega),zero_fmul,xor_zero']
theorem pval_xor {y z:Nat→F} {x:F} {n:Nat}:pval n (fun l=>y l ^^^ z l) x = pval n y x ^^^ pval n z x:=by
 simp only [pval]
 rw [← fsum_xor]
 exact fsum_congr fun j _=>fmul_xor
theorem pval_mul {y:Nat→F} {x c:F} {n:Nat}:pval n (fun l=>fmul c (y l)) x = fmul c (pval n y x):=by
 simp only [pval]
 rw [← fsum_mul]
 exact fsum_congr fun j _=>fmul_assoc
def ddF (xs ys:Nat→F):Nat→Nat→F
 | s,0=>ys s
 | s,j + 1=>fmul (ddF xs ys (s + 1) j ^^^ ddF xs ys s j) (finv (xs (s + j + 1) ^^^ xs s))
theorem newton_top {n:Nat} {xs ys:Nat→F} (hd:distinct n xs):∀ j s,s + j < n→∃ y:Nat→F,(∀ l,j < l→y l = 0)∧(∀ i,i ≤ j→pval (j + 1) y (xs (s + i)) = ys (s + i))∧y j = ddF xs ys s j
 | 0,s,hs=>⟨fun l=>if l = 0 then ys s else 0,fun l hl=>if_neg (by omega),fun i hi=>by
   obtain rfl:i = 0:=by omega
   rw [pval_one,if_pos rfl,Nat.add_zero],rfl⟩
 | j + 1,s,hs=>by
  obtain ⟨y1,a1,b1,c1⟩:=newton_top (ys:=ys) hd j (s + 1) (by omega)
  obtain ⟨y0,a0,b0,c0⟩:=newton_top (ys:=ys) hd j s (by omega)
  have hne:xs (s + j + 1) ^^^ xs s ≠ 0:=fun h=>by have:=hd _ _ (by omega) (by omega) (xor_eq_zero.1 h); omega
  let w:F:=finv (xs (s + j + 1) ^^^ xs s)
  have hv:∀ x,pval (j + 2) (fun l=>fmul w (byF (xs s) y1 l ^^^ byF (xs (s + j + 1)) y0 l)) x = fmul w (fmul (x ^^^ xs s) (pval (j + 1) y1 x) ^^^ fmul (x ^^^ xs (s + j + 1)) (pval (j + 1) y0 x)):=fun x=>by
   rw [pval_mul,pval_xor,byF_val (a1 _ (by omega)),byF_val (a0 _ (by omega))]
  refine ⟨fun l=>fmul w (byF (xs s) y1 l ^^^ byF (xs (s + j + 1)) y0 l),fun l hl=>?_,fun i hi=>?_,?_⟩
  ·simp only [byF]
   rw [if_neg (by omega),if_neg (by omega),a1 l (by omega),a0 l (by omega),a1 (l - 1) (by omega),a0 (l - 1) (by omega),fmul_zero,fmul_zero,xor_self',fmul_zero]
  ·rw [hv]
   have hw:∀ z,fmul w (fmul (xs (s + j + 1) ^^^ xs s) z) = z:=fun z=>by
    rw [← fmul_assoc,fmul_comm (x:=w),fmul_finv hne,one_fmul]
   by_cases h0:i = 0
   ·subst h0
    have hb0:=b0 0 (by omega)
    simp only [Nat.add_zero] at hb0
    rw [Nat.add_zero,xor_self',zero_fmul,zero_xor',hb0,BitVec.xor_comm,hw]
   ·by_cases h1:i = j + 1
    ·subst h1
     have:=b1 j (Nat.le_refl _)
     rw [show s + 1 + j = s + (j + 1) by omega] at this
     rw [this,← Nat.add_assoc,xor_self',zero_fmul,xor_zero',hw]
    ·have h2:=b1 (i - 1) (by omega)
     rw [show s + 1 + (i - 1) = s + i by omega] at h2
     rw [h2,b0 i (by omega),← fmul_xor,xor_swap,xor_self',zero_xor',BitVec.xor_comm,hw]
  ·simp only [byF]
   rw [if_neg (by omega),if_neg (by omega),a1 (j + 1) (by omega),a0 (j + 1) (by omega),fmul_zero,fmul_zero,xor_zero',xor_zero',Nat.add_sub_cancel,c1,c0,fmul_comm]
   rfl
def monF (xs:Nat→F):Nat→Nat→F
 | 0=>fun l=>if l = 0 then 1 else 0
 | m + 1=>byF (xs m) (monF xs m)
theorem mon_facts {xs:Nat→F}:∀ m,(∀ l,m < l→monF xs m l = 0)∧monF xs m m = 1∧∀ x,pval (m + 1) (monF xs m) x = fprod (fun u=>x ^^^ xs u) m
 | 0=>⟨fun l hl=>if_neg (by omega),rfl,fun x=>by rw [pval_one]; rfl⟩
 | m + 1=>by
  obtain ⟨h1,h2,h3⟩:=mon_facts (xs:=xs) m
  refine ⟨fun l hl=>?_,?_,fun x=>?_⟩
  ·simp only [monF,byF]
   rw [if_neg (by omega),h1 (l - 1) (by omega),h1 l (by omega),fmul_zero,xor_zero']
  ·simp only [monF,byF]
   rw [if_neg (by omega),Nat.add_sub_cancel,h2,h1 (m + 1) (by omega),fmul_zero,xor_zero']
  ·rw [monF,byF_val (h1 _ (by omega)),h3,fprod,fmul_comm]
def newtF (xs ys:Nat→F) (x:F) (m:Nat):F:=fsum (fun t=>fmul (ddF xs ys 0 t) (fprod (fun u=>x ^^^ xs u) t)) m
theorem newton_at {n:Nat} {xs ys:Nat→F} (hd:distinct n xs):∀ m,m < n→∃ y:Nat→F,(∀ l,m < l→y l = 0)∧(∀ i,i ≤ m→pval (m + 1) y (xs i) = ys i)∧∀ x,pval (m + 1) y x = newtF xs ys x (m + 1)
 | 0,hm=>by
  obtain ⟨y,a,b,c⟩:=newton_top (ys:=ys) hd 0 0 (by omega)
  refine ⟨y,a,fun i hi=>by have:=b i hi; simp only [Nat.zero_add] at this ⊢; exact this,fun x=>?_⟩
  rw [pval_one,c]
  show ys 0 = (0:F) ^^^ fmul (ys 0) 1
  rw [zero_xor',fmul_one]
 | m + 1,hm=>by
  obtain ⟨y0,a0,b0,c0⟩:=newton_at (ys:=ys) hd m (by omega)
  obtain ⟨y,a,b,c⟩:=newton_top (ys:=ys) hd (m + 1) 0 (by omega)
  obtain ⟨p1,p2,p3⟩:=mon_facts (xs:=xs) (m + 1)
  refine ⟨y,a,fun i hi=>by have:=b i hi; rwa [Nat.zero_add] at this,fun x=>?_⟩
  let R:Nat→F:=fun l=>(y l ^^^ y0 l) ^^^ fmul (ddF xs ys 0 (m + 1)) (monF xs (m + 1) l)
  have hRv:∀ x,pval (m + 2) R x = (pval (m + 2) y x ^^^ pval (m + 1) y0 x) ^^^ fmul (ddF xs ys 0 (m + 1)) (fprod (fun u=>x ^^^ xs u) (m + 1)):=fun x=>by
   rw [← p3,← pval_mul,← pval_more (y:=y0) (n:=m + 1) (fun l hl=>a0 l (by omega)) 1,← pval_xor,← pval_xor]
  have hRt:R (m + 1) = 0:=by
   simp only [R]
   rw [c,a0 (m + 1) (by omega),p2,fmul_one,xor_zero',xor_self']
  have hRe:∀ x,pval (m + 1) R x = pval (m + 2) R x:=fun x=>by
   show _ = pval (m + 1) R x ^^^ fmul (R (m + 1)) (fpow x (m + 1))
   rw [hRt,zero_fmul,xor_zero']
  have h0:=pval_roots (n:=m + 1) (y:=R) (xs:=xs) (fun i j hi hj=>hd i j (by omega) (by omega)) fun i hi=>by
   rw [hRe,hRv,b0 i (by omega)]
   have:=b i (by omega)
   rw [Nat.zero_add] at this
   rw [this,xor_self',zero_xor',fprod_zero (k:=i) hi xor_self',fmul_zero]
  have hz:pval (m + 1) R x = 0:=fsum_zero fun l hl=>by rw [h0 l hl,zero_fmul]
  rw [hRe,hRv] at hz
  have h1:newtF xs ys x (m + 2) = newtF xs ys x (m + 1) ^^^ fmul (ddF xs ys 0 (m + 1)) (fprod (fun u=>x ^^^ xs u) (m + 1)):=rfl
  rw [h1,← c0 x]
  have h2:=xor_eq_zero.1 hz
  rw [← h2,← BitVec.xor_assoc,BitVec.xor_comm,← BitVec.xor_assoc,xor_self',zero_xor']
end Go.Proofs

set_option linter.unusedSimpArgs false
set_option linter.unusedVariables false
namespace Go.Proofs
open Go Go.Eng
theorem mixN_facts {f:Nat→List Int} {w:List Int} {l:Nat} (hw:bytesL w):∀ k,(∀ j,j < k→(f j).length = l∧bytesL (f j))→(mixN f w l k).length = l∧bytesL (mixN f w l k)∧∀ c,c < l→toF ((mixN f w l k).getD c 0) = fsum (fun m=>fmul (toF (w.getD m 0)) (toF ((f m).getD c 0))) k
 | 0,_=>⟨by simp [mixN],fun x hx=>by rw [mixN] at hx; rw [List.eq_of_mem_replicate hx]; exact ⟨by omega,by omega⟩,fun c hc=>by
   rw [mixN,List.getD_eq_getElem?_getD,List.getElem?_replicate,if_pos hc]; rfl⟩
 | k + 1,h=>by
  obtain ⟨h1,h2,h3⟩:=mixN_facts hw k fun j hj=>h j (by omega)
  obtain ⟨f1,f2⟩:=h k (by omega)
  have hsl:seg (f k) 0 l = f k:=by rw [← f1]; simp [seg]
  rw [mixN,hsl]
  refine ⟨by rw [addToL_len,h1],addToL_bytes h2,fun c hc=>?_⟩
  rw [List.getD_eq_getElem?_getD,addToL_get,List.getElem?_eq_getElem (by omega),Option.map_some,Option.getD_some,if_pos ⟨by omega,by omega⟩,Nat.sub_zero,toF_xorB,toF_mulF (bytesL_get hw _) (bytesL_get f2 _),fsum,← h3 c hc,List.getD_eq_getElem?_getD (l:=mixN f w l k),List.getElem?_eq_getElem (by omega),Option.getD_some]
theorem mix_eq {f g:Nat→List Int} {w v:List Int} {l k:Nat} (hw:bytesL w) (hv:bytesL v) (hf:∀ j,j < k→(f j).length = l∧bytesL (f j)) (hg:∀ j,j < k→(g j).length = l∧bytesL (g j))
  (h:∀ c,c < l→fsum (fun m=>fmul (toF (w.getD m 0)) (toF ((f m).getD c 0))) k = fsum (fun m=>fmul (toF (v.getD m 0)) (toF ((g m).getD c 0))) k):mixN f w l k = mixN g v l k:=by
 obtain ⟨a1,a2,a3⟩:=mixN_facts hw k hf
 obtain ⟨b1,b2,b3⟩:=mixN_facts hv k hg
 refine list_ext_getD (by omega) fun c hc=>toF_inj (bytesL_get a2 c) (bytesL_get b2 c) ?_
 rw [a3 c (by omega),b3 c (by omega),h c (by omega)]
theorem wgt_at {rs:List Int} {x:Int} {j:Nat} (hj:j < rs.length):toF ((wgtL rs x).getD j 0) = lagF rs.length (fun m=>toF (rs.getD m 0)) (toF x) j:=by
 unfold wgtL
 rw [List.getD_eq_getElem?_getD,List.getElem?_map,List.getElem?_range hj,Option.map_some,Option.getD_some,toF_ofF]
theorem wgt_byte {xs:List Int} {x:Int}:bytesL (wgtL xs x):=fun y hy=>by
 obtain ⟨m,_,rfl⟩:=List.mem_map.1 hy
 exact ofF_isB
variable {k total:Nat} {rs:List Int}
theorem chosen_xs (hc:chooseOk k total rs) {j:Nat} (hj:j < k):toF (rs.getD j 0) = xsF (rs.getD j 0).toNat:=by
 have h1:=hc.1
 have h2:=hc.2.2 (rs.getD j 0) (getD_mem (by omega))
 unfold xsF
 rw [Int.toNat_of_nonneg h2.1]
theorem chosen_dist (hc:chooseOk k total rs) (ht:total ≤ 255):distinct k fun m=>toF (rs.getD m 0):=fun i j hi hj he=>by
 refine chosen_distinct hc ht i j hi hj ?_
 simp only [chosen_xs hc hi,chosen_xs hc hj] at he
 exact he
theorem poly_thru {xs v:Nat→F} (h1:1 ≤ k) (hd:distinct k xs):∃ y:Nat→F,(∀ i,i < k→pval k y (xs i) = v i)∧∀ x,pval k y x = fsum (fun j=>fmul (lagF k xs x j) (v j)) k:=by
 obtain ⟨y,_,hy,_⟩:=newton_at (ys:=v) hd (k - 1) (by omega)
 rw [show k - 1 + 1 = k by omega] at hy
 refine ⟨y,fun i hi=>hy i (by omega),fun x=>?_⟩
 rw [lagrange hd]
 exact fsum_congr fun j hj=>by rw [hy j (by omega)]
theorem inv_apply (hc:chooseOk k total rs) (h1:1 ≤ k) (hk:k ≤ total) (ht:total ≤ 255) (v:Nat→F) {i:Nat} (hi:i < k) :
    fsum (fun j=>fmul (matL k (invL total k rs) i j) (v j)) k = fsum (fun j=>fmul (lagF k (fun m=>toF (rs.getD m 0)) (xsF i) j) (v j)) k:=by
  obtain ⟨y,hy,hL⟩:=poly_thru (v:=v) h1 (chosen_dist hc ht)
  obtain ⟨g1,g2,_,g4⟩:=gen_facts h1 hk ht
  have hlen:=sel_len' hc g1
  have hr:=rows_gen hc h1 hk ht
  obtain ⟨t2,he⟩:=inv_ech hlen (sel_bytes g2)
  rw [hr] at he
  obtain ⟨m1,_⟩:=inv_mul he
  have hS:∀ j,j < k→∀ m,m < k→matL k (selL (genL k total) k rs) j m = lagF k xsF (toF (rs.getD j 0)) m:=fun j hj m hm=>by
    have hrj:=hc.2.2 (rs.getD j 0) (getD_mem (by rw [hc.1]; exact hj))
    unfold matL
    rw [sel_get g1 hc.2.2 (by rw [hc.1]; exact hj) hm,chosen_xs hc hj,← g4 (rs.getD j 0).toNat m (by omega) hm]
    rfl
  have hx:distinct k xsF:=xs_distinct (by omega)
  rw [← hL]
  calc fsum (fun j=>fmul (matL k (invL total k rs) i j) (v j)) k
      = fsum (fun j=>fsum (fun m=>fmul (fmul (matL k (invL total k rs) i j) (matL k (selL (genL k total) k rs) j m)) (pval k y (xsF m))) k) k:=by
        refine fsum_congr fun j hj=>?_
        rw [← hy j hj,lagrange hx (x:=toF (rs.getD j 0)),← fsum_mul]
        exact fsum_congr fun m hm=>by rw [hS j hj m hm,fmul_assoc]
    _ = fsum (fun m=>fmul (del m i) (pval k y (xsF m))) k:=by
        rw [fsum_swap]
        refine fsum_congr fun m hm=>?_
        rw [fsum_mul',del_symm]
        congr 1
        exact m1 i m hi hm
    _ = pval k y (xsF i):=fsum_del (f:=fun m=>pval k y (xsF m)) hi
theorem seg_row {m:List Int} {i j:Nat} (hj:j < k):toF ((seg m (i * k) k).getD j 0) = matL k m i j:=by
 unfold matL seg
 rw [List.getD_eq_getElem?_getD,List.getElem?_take,if_pos hj,List.getElem?_drop,List.getD_eq_getElem?_getD]
theorem inv_bytes (hc:chooseOk k total rs) (h1:1 ≤ k) (hk:k ≤ total) (ht:total ≤ 255):(invL total k rs).length = k * k∧bytesL (invL total k rs):=by
 obtain ⟨g1,g2,_,_⟩:=gen_facts h1 hk ht
 obtain ⟨t2,_⟩:=inv_ech (sel_len' hc g1) (sel_bytes g2)
 exact ⟨t2.lb,t2.bb⟩
theorem seg_byte {l:List Int} {o n:Nat} (h:bytesL l):bytesL (seg l o n):=fun x hx=>h x (List.mem_of_mem_drop (List.mem_of_mem_take hx))
theorem col_val (hc:chooseOk k total rs) (h1:1 ≤ k) (hk:k ≤ total) (ht:total ≤ 255) {f:Nat→List Int} {l i:Nat} (hf:∀ j,j < k→(f j).length = l∧bytesL (f j)) (hi:i < k) :
  mixN f (seg (invL total k rs) (i * k) k) l k = mixN f (wgtL rs (i:Int)) l k:=by
 refine mix_eq (seg_byte (inv_bytes hc h1 hk ht).2) wgt_byte hf hf fun c hcl=>?_
 rw [fsum_congr fun m hm=>by rw [seg_row hm],inv_apply hc h1 hk ht _ hi]
 exact fsum_congr fun m hm=>by rw [wgt_at (by rw [hc.1]; exact hm),hc.1]; rfl
theorem comb_val (hc:chooseOk k total rs) (h1:1 ≤ k) (hk:k ≤ total) (ht:total ≤ 255) {f:Nat→List Int} {l r:Nat} (hf:∀ j,j < k→(f j).length = l∧bytesL (f j)) (hr:r < total) {g:Nat→List Int} (hg:∀ i,i < k→g i = mixN f (wgtL rs (i:Int)) l k) :
  mixN g (seg (genL k total) (r * k) k) l k = mixN f (wgtL rs (r:Int)) l k:=by
 obtain ⟨g1,g2,_,g4⟩:=gen_facts h1 hk ht
 have hgf:∀ i,i < k→(g i).length = l∧bytesL (g i):=fun i hi=>by
  obtain ⟨a,b,_⟩:=mixN_facts (wgt_byte (xs:=rs) (x:=(i:Int))) k hf
  rw [hg i hi]; exact ⟨a,b⟩
 refine mix_eq (seg_byte g2) wgt_byte hgf hf fun c hcl=>?_
 obtain ⟨y,hy,hL⟩:=poly_thru (v:=fun j=>toF ((f j).getD c 0)) h1 (chosen_dist hc ht)
 have hx:distinct k xsF:=xs_distinct (by omega)
 have hv:∀ x:Int,fsum (fun m=>fmul (toF ((wgtL rs x).getD m 0)) (toF ((f m).getD c 0))) k = pval k y (toF x):=fun x=>by
  rw [hL]
  exact fsum_congr fun m hm=>by rw [wgt_at (by rw [hc.1]; exact hm),hc.1]
 rw [hv,show toF ((r:Nat):Int) = xsF r from rfl,lagrange hx]
 refine fsum_congr fun m hm=>?_
 rw [seg_row hm,g4 r m hr hm,hg m hm,(mixN_facts wgt_byte k hf).2.2 c hcl,hv]
 rfl
end Go.Proofs

set_option linter.unusedSimpArgs false
set_option linter.unusedVariables false
namespace Go.Proofs
open Go Go.Eng
set_option maxRecDepth 100000
end Go.Proofs

set_option linter.unusedSimpArgs false
set_option linter.unusedVariables false
namespace Go.Proofs
open Go Go.Eng
set_option maxRecDepth 100000
end Go.Proofs

set_option linter.unusedSimpArgs false
set_option linter.unusedVariables false
set_option maxRecDepth 100000
namespace Go.Proofs
open Go Go.Eng

end Go.Proofs

set_option linter.unusedSimpArgs false
set_option linter.unusedVariables false
namespace Go.Proofs
open Go Go.Eng
set_option maxRecDepth 100000
structure PcIn (h:Hp) (D:Rows') (k total n:Int):Prop where
 k1:1 ≤ k
 k2:k ≤ total
 k3:total ≤ 255
 kn:k ≤ n
 sol:solPre h D k total n
 idx:∀ j,j < n.toNat→0 ≤ pcI D j∧pcI D j < total
 len:∀ j,j < n.toNat→pcN h D j = pcN h D 0
 fs:∀ j,j < n.toNat→(pcD h D j).length = pcN h D 0∧bytesL (pcD h D j)
variable {h:Hp} {D:Rows'} {k total n:Int}
theorem PcIn.f (p:PcIn h D k total n):∀ j,j < k.toNat→(pcD h D j).length = pcN h D 0∧bytesL (pcD h D j):=fun j hj=>p.fs j (by have:=p.kn; omega)
theorem PcIn.cols (p:PcIn h D k total n) {hc:Hp} {C:Rows'} (ht:tabV hc (tvs C) k.toNat (solM h D total.toNat k.toNat)) :
  (∀ j,j < k.toNat→rdB hc (tvs C j)∧(colF hc C j).length = (colF hc C 0).length)∧(colF hc C 0).length = pcN h D 0∧∀ r:Int,0 ≤ r→r < total→mixN (colF hc C) (seg (genL k.toNat total.toNat) (r.toNat * k.toNat) k.toNat) (colF hc C 0).length k.toNat = valLr h D k.toNat r:=by
 have h1:=p.k1
 have h2:=p.k2
 have h3:=p.k3
 have hch:=p.sol.2.2.2.2.1
 have hcol:∀ j,j < k.toNat→rdB hc (tvs C j)∧colF hc C j = solM h D total.toNat k.toNat j:=fun j hj=>by
  obtain ⟨d,hr,hd,hB⟩:=tab_at ht hj
  exact ⟨⟨d,hr,hB⟩,by rw [colF,rdL_eq hr,hd]⟩
 have hl:∀ j,j < k.toNat→(colF hc C j).length = pcN h D 0:=fun j hj=>by
  rw [(hcol j hj).2,solM,mixN_len]
 refine ⟨fun j hj=>⟨(hcol j hj).1,by rw [hl j hj,hl 0 (by omega)]⟩,hl 0 (by omega),fun r r0 r1=>?_⟩
 rw [hl 0 (by omega),comb_val hch (by omega) (by omega) (by omega) (f:=pcD h D) p.f (by omega) (r:=r.toNat) (fun i hi=>by
  rw [(hcol i hi).2,solM,col_val hch (by omega) (by omega) (by omega) p.f hi]),Int.toNat_of_nonneg r0]
 rfl
theorem PcIn.value (p:PcIn h D k total n):(∀ j:Nat,(j:Int) < k→0 ≤ pcI D j∧pcI D j < 256)∧(idxL D k.toNat).Nodup∧pcN h D 0 ≤ 9000∧(∀ j:Nat,(j:Int) < k→pcN h D j = pcN h D 0)∧pcOk h D k.toNat:=by
 have h1:=p.k1
 have h2:=p.k2
 have h3:=p.k3
 have h4:=p.kn
 have h5:=p.sol.2.2.2.2.2.1
 refine ⟨fun j hj=>?_,p.sol.2.2.2.2.1.2.1,by omega,fun j hj=>p.len j (by omega),fun j hj=>p.sol.2.2.2.1 j (by omega)⟩
 have:=p.idx j (by omega)
 omega
end Go.Proofs

set_option linter.unusedSimpArgs false
set_option linter.unusedVariables false
namespace Go.Proofs
open Go Go.Eng
set_option maxRecDepth 100000
variable {h h':Hp} {D D':Rows'} {k total n index len e e':Int} {b b':Bool}
end Go.Proofs

set_option linter.unusedSimpArgs false
set_option linter.unusedVariables false
namespace Go.Proofs
open Go Go.Eng
end Go.Proofs

set_option linter.unusedSimpArgs false
set_option linter.unusedVariables false
namespace Go.Proofs
open Go Go.Eng
theorem manOk_iff {k n t s l:Int}:manOk k n t s l = true↔1 ≤ k∧k ≤ n∧n ≤ t∧t ≤ 255∧0 ≤ s∧s ≤ 8192∧l = t:=by
 simp [manOk,sizes3,and_assoc]
end Go.Proofs

set_option linter.unusedSimpArgs false
set_option linter.unusedVariables false
set_option maxRecDepth 100000
namespace Go.Proofs
open Go Go.Eng

end Go.Proofs

set_option linter.unusedSimpArgs false
set_option linter.unusedVariables false
set_option maxRecDepth 100000
namespace Go.Proofs
open Go Go.Eng

end Go.Proofs

set_option linter.unusedSimpArgs false
set_option linter.unusedVariables false
namespace Go.Proofs
open Go Go.Eng
set_option maxRecDepth 100000
end Go.Proofs

set_option linter.unusedSimpArgs false
set_option linter.unusedVariables false
namespace Go.Proofs
open Go Go.Eng
set_option maxRecDepth 20000
end Go.Proofs

set_option linter.unusedSimpArgs false
set_option linter.unusedVariables false
namespace Go.Eng
open Go Go.ChangeShapes Go.WideShapes Go.ChangeAt Go.RowKit

structure Grew (W w':World):Prop where
 os:w'.os = W.os
 out:w'.output = W.output
 blk:∀ (b:Nat) (o:Obj),W.heap[b]? = some o→w'.heap[b]? = some o

theorem Grew.block {W w':World} (h:Grew W w') {i:Nat} (hi:i < W.heap.size):w'.heap[i]? = W.heap[i]?:=by
 rw [Array.getElem?_eq_getElem hi]; exact h.blk i _ (Array.getElem?_eq_getElem hi)

theorem Grew.kept {W w':World} (h:Grew W w') (may:MemPlace→Prop):W.keptBut w' may:=by
 refine ⟨h.os,h.out,fun i hi=>?_⟩
 rw [h.block hi,Array.getElem?_eq_getElem hi]
 cases W.heap[i] <;> simp

theorem Grew.trodAll {H:Type} {enc:TypeId × Value→H} {P:Program} {W W':World} (hg:Grew W W') (hl:laidOutB P = true) {sp:Nat→Bool}:∀ {ts:List TypeId} {vs:List Value} {ds:List (DataW H)} {ps:List MemPlace},
  (∀ t ∈ ts,P.readableRec t = true∧t < P.types.size)→DataW.TrodAll enc P W 0 (fun _=>true) true ts vs ds ps→(∀ p ∈ ps,p.block < W.heap.size)→(∀ p ∈ ps,sp p.block = true) →
  DataW.TrodAll enc P W' 0 sp true ts vs ds ps
 | [],[],[],_,_,h,_,_=>h
 | _ :: _,_ :: _,_ :: _,_,hT,⟨p,q,h1,h2,e⟩,hlt,hs=>by
  subst e
  refine ⟨p,q,?_,Grew.trodAll hg hl (fun t ht=>hT t (List.mem_cons_of_mem _ ht)) h2 (fun x hx=>hlt x (List.mem_append_right _ hx)) (fun x hx=>hs x (List.mem_append_right _ hx)),rfl⟩
  have hr:=hT _ (List.mem_cons_self ..)
  refine WideElems.Trod_stays hl hr.1 hr.2 h1 (fun x hx=>?_) (fun x hx=>hs x (List.mem_append_left _ hx))
  have hb:=hg.block (hlt x (List.mem_append_left _ hx))
  cases x with
  | cell b o=>exact World.cell?_of_block (w:=W) hb
  | map b=>exact hb

theorem law_calls {P:Program} {c:Ctr} (hok:c.ok P) (hheap:c.heap = []) (halts:∀ al ∈ c.alts,al.ret = .one (.vbool (.bl true))) {ρ:Env} (hg:ρ.good) (W:World)
  (hro:∀ x ∈ c.ro,x.roden ρ (fun b=>W.heap[b]?)) (hpre:c.pre ρ) :
  Calls P c.fn (c.args.map (SV.den ρ)).toArray W fun e W'=>e = .returned (.bool true)∧Grew W W':=by
 have h:=hok.2 ρ W ⟨fun b=>W.heap[b]?,W.os,W.output⟩ Hp.emp hg (Hp.disj_emp _)
  ⟨fun b o hb=>by simpa [Hp.union,Hp.emp] using hb,rfl,rfl⟩ (by rw [hheap]; trivial) hro hpre
 refine h.mono fun e w' hq=>?_
 obtain ⟨ai,al,ρ',hal,_,_,rfl,_,hO,_,_,hsub,hwi⟩:=hq
 refine ⟨by rw [halts al (List.mem_of_getElem? hal)]; rfl,⟨hwi.1,hwi.2,fun b o hb=>hsub b o ?_⟩⟩
 simp [Hp.union,hb]

theorem law_post {H:Type} {enc:TypeId × Value→H} {P:Program} {f:Func} {s:ChangeSpec} {W W':World} {args:Array Value} {ds gs:List (DataW H)} {before:List MemPlace} {bt:TypeId}
  (hl:laidOutB P = true) (hT:∀ t ∈ f.params.toList,P.readableRec t = true∧t < P.types.size) (hvars:s.vars = []) (hrt:f.resultTypes = #[bt]) (hbt:P.underlying bt = some .bool)
  (hfn:∀ ds':List (DataW H),ds'.length = f.params.size→s.fn H ds' = { results:=[.lit (.bool true)],args:=ds' })
  (hW:DataW.Whole enc P f.params.toList s.vars false W args.toList ds gs before) (hg:Grew W W'):s.post enc P f false true false false W args (.bool true) W':=by
 have hlt:=hW.lt
 have hW0:=hW
 obtain ⟨p,q,hA,hV,hpq,hz,hn⟩:=hW
 rw [hvars] at hV
 obtain ⟨rfl,rfl⟩:=trodVars_none hV
 have hlen:ds.length = f.params.size:=by
  have:∀ {ts:List TypeId} {vs:List Value} {ds:List (DataW H)} {ps:List MemPlace},DataW.TrodAll enc P W 0 (fun _=>true) true ts vs ds ps→ds.length = ts.length:=by
   intro ts
   induction ts with
   | nil=>intro vs ds ps h; cases vs <;> cases ds <;> simp_all [DataW.TrodAll]
   | cons t ts ih =>
    intro vs ds ps h
    cases vs <;> cases ds <;> simp_all [DataW.TrodAll]
    obtain ⟨p,q,_,h2,_⟩:=h
    exact ih h2
  simpa using this hA
 have hlt':∀ x ∈ p,x.block < W.heap.size:=fun x hx=>hlt x (by rw [hpq]; exact List.mem_append_left _ hx)
 refine ⟨ds,[],before,[],p,[],hW0,?_,?_,?_,hg.kept _,fun h=>by cases h⟩
 ·rw [List.append_nil,hfn ds hlen,hrt]
  exact ⟨[],[],⟨1,by simp [DataW.trod,hbt,Value.cells]⟩,rfl,rfl⟩
 ·rw [List.append_nil,hfn ds hlen]
  exact hg.trodAll hl hT hA hlt' (fun x hx=>by simpa using hlt' x hx)
 ·rw [List.append_nil,hfn ds hlen,hvars]
  rfl

theorem law_call {H:Type} {enc:TypeId × Value→H} {P:Program} {f:Func} {s:ChangeSpec} {c:Ctr} {W:World} {args:Array Value} {ds gs:List (DataW H)} {before:List MemPlace} {bt:TypeId} {ρ:Env}
  (hok:c.ok P) (hheap:c.heap = []) (halts:∀ al ∈ c.alts,al.ret = .one (.vbool (.bl true)))
  (hl:laidOutB P = true) (hT:∀ t ∈ f.params.toList,P.readableRec t = true∧t < P.types.size) (hvars:s.vars = []) (hrt:f.resultTypes = #[bt]) (hbt:P.underlying bt = some .bool)
  (hfn:∀ ds':List (DataW H),ds'.length = f.params.size→s.fn H ds' = { results:=[.lit (.bool true)],args:=ds' })
  (hW:DataW.Whole enc P f.params.toList s.vars false W args.toList ds gs before)
  (hg:ρ.good) (hargs:args = (c.args.map (SV.den ρ)).toArray) (hro:∀ x ∈ c.ro,x.roden ρ (fun b=>W.heap[b]?)) (hpre:c.pre ρ) :
  Calls P c.fn args W fun e W'=>∃ v,e = .returned v∧s.post enc P f false true false false W args v W':=by
 rw [hargs]
 refine (law_calls hok hheap halts hg W hro hpre).mono fun e W' ⟨he,hgr⟩=>⟨_,he,?_⟩
 rw [← hargs]
 exact law_post hl hT hvars hrt hbt hfn hW hgr
end Go.Eng

set_option linter.unusedSimpArgs false
set_option linter.unusedVariables false
namespace Go.Eng
open Go Go.ChangeShapes Go.WideShapes Go.ChangeAt Go.RowKit

def patFs (P:Program) (f:TypeId→Option (List CK)):List Field→Nat→Option (List CK)
 | [],_=>some []
 | x :: fs,off =>
  if Nat.beq x.offset off then
   match f x.type with
   | some p=>if Nat.beq p.length (P.cellsOf x.type) then (patFs P f fs (off + p.length)).map (p ++ ·) else none
   | none=>none
  else none
def patArr (p:List CK):Nat→List CK
 | 0=>[]
 | n + 1=>p ++ patArr p n
def patP (P:Program):Nat→TypeId→Option (List CK)
 | 0,_=>none
 | n + 1,t =>
  match P.underlying t with
  | some (.int k)=>some [.int k]
  | some .bool=>some [.bool]
  | some .string=>some [.any]
  | some (.slice _)=>some [.any]
  | some (.pointer _)=>some [.any]
  | some (.struct fs)=>match patFs P (patP P n) fs.toList 0 with
   | some p=>if Nat.beq p.length (P.cellsOf t) then some p else none
   | none=>none
  | some (.array m e)=>match patP P n e with
   | some p=>if Nat.beq p.length (P.cellsOf e) && Nat.beq (P.cellsOf t) (m * P.cellsOf e) then some (patArr p m) else none
   | none=>none
  | _=>none

theorem fitsRow_append {p q:List CK} {cs:List Value} (h1:fitsRow p (cs.take p.length)) (h2:fitsRow q (cs.drop p.length)):fitsRow (p ++ q) cs:=by
 obtain ⟨a1,a2⟩:=h1
 obtain ⟨b1,b2⟩:=h2
 have hle:p.length ≤ cs.length:=by simp at a1; omega
 refine ⟨by simp at a1 b1 ⊢; omega,fun c k v hk hv=>?_⟩
 by_cases hc:c < p.length
 ·rw [List.getElem?_append_left hc] at hk
  exact a2 c k v hk (by rw [List.getElem?_take,if_pos hc]; exact hv)
 ·rw [List.getElem?_append_right (by omega)] at hk
  exact b2 (c - p.length) k v hk (by rw [List.getElem?_drop,show p.length + (c - p.length) = c by omega]; exact hv)

section
variable {H:Type} {enc:TypeId × Value→H} {P:Program} {w:World} {base:Nat} {spare:Nat→Bool} {held:Bool}

theorem fits_one_any {v:Value} (h:v.oneCell' = true):fitsRow [.any] [v]:=⟨rfl,fun c k v' hk hv=>by
 cases c with
 | zero=>simp at hk hv; subst hk; subst hv; exact h
 | succ c=>simp at hk⟩

theorem patFs_fits {f:TypeId→Option (List CK)} {cs:List Value} (hf:∀ t p,f t = some p→∀ cs',(∃ fuel x,DataW.trod enc P w base spare held fuel t cs' = some x)→fitsRow p cs') :
  ∀ {fs:List Field} {off:Nat} {p:List CK},patFs P f fs off = some p→(∀ x ∈ fs,∃ fuel y,DataW.trod enc P w base spare held fuel x.type ((cs.drop x.offset).take (P.cellsOf x.type)) = some y)→off + p.length = cs.length→fitsRow p (cs.drop off)
 | [],off,p,h,_,hl=>by
  simp only [patFs,Option.some.injEq] at h; subst h
  simp at hl
  refine ⟨by simp; omega,fun c k v hk=>by simp at hk⟩
 | x :: fs,off,p,h,ht,hl=>by
  simp only [patFs] at h
  split at h
  ·rename_i ho
   have ho:=Nat.eq_of_beq_eq_true ho
   split at h
   ·rename_i p1 hp1
    split at h
    ·rename_i hc
     have hc:=Nat.eq_of_beq_eq_true hc
     simp only [Option.map_eq_some_iff] at h
     obtain ⟨p2,hp2,rfl⟩:=h
     simp only [List.length_append] at hl
     have h1:=hf x.type p1 hp1 _ (ht x (List.mem_cons_self ..))
     rw [ho,← hc] at h1
     have h2:=patFs_fits hf hp2 (fun y hy=>ht y (List.mem_cons_of_mem _ hy)) (by omega)
     exact fitsRow_append h1 (by rw [List.drop_drop]; exact h2)
    ·simp at h
   ·simp at h
  ·simp at h

theorem patArr_fits {p:List CK}:∀ {m:Nat} {cs:List Value},cs.length = m * p.length→(∀ i,i < m→fitsRow p ((cs.drop (i * p.length)).take p.length))→fitsRow (patArr p m) cs
 | 0,cs,hl,_=>by
  simp at hl; subst hl
  exact ⟨rfl,fun c k v hk=>by simp [patArr] at hk⟩
 | m + 1,cs,hl,h=>by
  simp only [patArr]
  refine fitsRow_append (by simpa using h 0 (by omega)) (patArr_fits (by rw [List.length_drop,hl,Nat.add_mul]; omega) fun i hi=>?_)
  rw [List.drop_drop,show p.length + i * p.length = (i + 1) * p.length by rw [Nat.add_mul]; omega]
  exact h (i + 1) (by omega)

theorem trod_fits:∀ (n:Nat) {t:TypeId} {pat:List CK},patP P n t = some pat→∀ cs,(∃ fuel x,DataW.trod enc P w base spare held fuel t cs = some x)→fitsRow pat cs
 | 0,t,pat,h,_,_=>by simp [patP] at h
 | n + 1,t,pat,h,cs,⟨fuel,x,hx⟩=>by
  simp only [patP] at h
  split at h
  ·rename_i k hu
   simp only [Option.some.injEq] at h; subst h
   obtain ⟨z,rfl,_,_⟩:=DataW.trod_int hu hx
   refine ⟨rfl,fun c k' v hk hv=>?_⟩
   cases c with
   | zero=>simp at hk hv; subst hk; subst hv; simp [CK.fits]
   | succ c=>simp at hk
  ·rename_i hu
   simp only [Option.some.injEq] at h; subst h
   cases fuel with
   | zero=>simp [DataW.trod] at hx
   | succ m =>
    unfold DataW.trod at hx
    rw [hu] at hx
    split at hx <;> simp_all
    refine ⟨rfl,fun c k' v hk hv=>?_⟩
    cases c with
    | zero=>simp at hk hv; subst hk; subst hv; simp [CK.fits]
    | succ c=>simp at hk
  ·rename_i hu
   simp only [Option.some.injEq] at h; subst h
   cases fuel with
   | zero=>simp [DataW.trod] at hx
   | succ m =>
    unfold DataW.trod at hx
    rw [hu] at hx
    split at hx <;> simp_all
    exact fits_one_any rfl
  ·rename_i e hu
   simp only [Option.some.injEq] at h; subst h
   rcases DataW.trod_slice hu hx with ⟨rfl,_⟩ | ⟨a,len,cap,elems,rest,m,_,rfl,_⟩
   ·exact fits_one_any rfl
   ·exact fits_one_any rfl
  ·rename_i e hu
   simp only [Option.some.injEq] at h; subst h
   cases fuel with
   | zero=>simp [DataW.trod] at hx
   | succ m =>
    unfold DataW.trod at hx
    rw [hu] at hx
    split at hx <;> simp_all
    all_goals exact fits_one_any rfl
  ·rename_i fs hu
   split at h
   ·rename_i p hp
    split at h
    ·rename_i hc
     have hc:=Nat.eq_of_beq_eq_true hc
     simp only [Option.some.injEq] at h; subst h
     obtain ⟨xs,m,_,_,hl,hxl,hall⟩:=DataW.trod_struct hu hx
     have:=patFs_fits (cs:=cs) (f:=patP P n) (fun t p hp cs' hh=>trod_fits n hp cs' hh) hp (fun y hy=>by
      obtain ⟨i,hi⟩:=List.getElem?_of_mem hy
      have hi':fs[i]? = some y:=by simpa using hi
      have h1:=hall i y hi'
      have hlt:i < xs.length:=by
       rw [hxl]; exact (Array.getElem?_eq_some_iff.1 hi').1
      exact ⟨m,xs[i],by rw [h1]; simp [hlt]⟩) (by omega)
     simpa using this
    ·simp at h
   ·simp at h
  ·rename_i m e hu
   split at h
   ·rename_i p hp
    split at h
    ·rename_i hc
     simp only [Bool.and_eq_true] at hc
     have hc1:=Nat.eq_of_beq_eq_true hc.1
     have hc2:=Nat.eq_of_beq_eq_true hc.2
     simp only [Option.some.injEq] at h; subst h
     obtain ⟨xs,k,_,_,hl,hxl,hall⟩:=DataW.trod_array hu hx
     refine patArr_fits (by rw [hl,hc2,hc1]) fun i hi=>?_
     have h1:=hall i hi
     rw [← hc1] at h1
     exact trod_fits n hp _ ⟨k,xs[i]'(by omega),by rw [h1]; simp [hxl,hi]⟩
    ·simp at h
   ·simp at h
  ·simp at h

theorem cells?_get {a:Addr} {n:Nat} {cs:List Value} (h:w.cells? base a n = some cs):cs.length = n∧∀ i,i < n→w.cell? (a.add i) = cs[i]?:=by
 unfold World.cells? at h
 split at h
 ·exact ⟨by simpa using mapM_some_length h,fun i hi=>by simpa using mapM_some_get h i i (by simp [hi])⟩
 ·simp at h

theorem open_rows {t e:TypeId} {pat:List CK} {n:Nat} {v:Value} {d:DataW H} {ps:List MemPlace} (ht:P.underlying t = some (.slice e)) (hpat:patP P n e = some pat) (hce:P.cellsOf e = pat.length) (hpos:0 < pat.length)
  {fuel:Nat} (hsp:∀ b,spare b = true) (hf:DataW.trod enc P w base spare held fuel t [v] = some (d,ps)) :
  ∃ rows:List (List Value),Rd (fun b=>w.heap[b]?) pat v rows∧(∀ row ∈ rows,∃ fuel x,DataW.trod enc P w base spare held fuel e row = some x) ∧
   ((d = .nil∧rows = [])∨∃ elems sp,d = .slice elems sp∧elems.length = rows.length∧∀ (i:Nat) (row:List Value),rows[i]? = some row→∃ fuel x,DataW.trod enc P w base spare held fuel e row = some x∧elems[i]? = some x.1):=by
 rcases DataW.trod_slice ht hf with ⟨h1,h2⟩ | ⟨a,len,cap,elems,rest,m,_,h1,h2,hb,hlc,hcm,hel,hall,hrest,_⟩
 ·simp at h1 h2
  exact ⟨[],.inl ⟨_,h1,rfl⟩,by simp,.inl ⟨h2.1,rfl⟩⟩
 ·simp at h1 h2
  subst h1
  have hrow:∀ i,i < len→∃ cs x,w.cells? base (a.add (i * P.cellsOf e)) (P.cellsOf e) = some cs∧DataW.trod enc P w base spare held m e cs = some x∧elems[i]? = some x:=fun i hi=>by
   have:=hall i hi
   rw [List.getElem?_eq_getElem (by omega)] at this
   obtain ⟨cs,g1,g2⟩:=Option.bind_eq_some_iff.1 this
   exact ⟨cs,_,g1,g2,List.getElem?_eq_getElem _⟩
  let rows:List (List Value):=(List.range len).map fun i=>((w.cells? base (a.add (i * P.cellsOf e)) (P.cellsOf e)).getD [])
  have hget:∀ i row,rows[i]? = some row→i < len∧w.cells? base (a.add (i * P.cellsOf e)) (P.cellsOf e) = some row:=fun i row hr=>by
   simp only [rows,List.getElem?_map,Option.map_eq_some_iff] at hr
   obtain ⟨j,hj,rfl⟩:=hr
   have hlt:i < len:=by
    have:=(List.getElem?_eq_some_iff.1 hj).1; simpa using this
   rw [List.getElem?_range hlt] at hj
   simp only [Option.some.injEq] at hj; subst hj
   obtain ⟨cs,x,g1,_,_⟩:=hrow i hlt
   exact ⟨hlt,by rw [g1]; rfl⟩
  have hrl:rows.length = len:=by simp [rows]
  have htr:∀ row ∈ rows,∃ fuel x,DataW.trod enc P w base spare held fuel e row = some x:=fun row hr=>by
   obtain ⟨i,hi⟩:=List.getElem?_of_mem hr
   obtain ⟨hlt,hc⟩:=hget i row hi
   obtain ⟨cs,x,g1,g2,_⟩:=hrow i hlt
   rw [hc] at g1
   simp only [Option.some.injEq] at g1; subst g1
   exact ⟨m,x,g2⟩
  refine ⟨rows,?_,htr,.inr ⟨_,_,h2.1,by simp [hel,hrl],fun i row hi=>?_⟩⟩
  rotate_left
  ·obtain ⟨hlt,hc⟩:=hget i row hi
   obtain ⟨cs,x,g1,g2,g3⟩:=hrow i hlt
   rw [hc] at g1
   simp only [Option.some.injEq] at g1; subst g1
   exact ⟨m,x,g2,by simp [g3]⟩
  by_cases hcap:cap = 0
  ·have hl0:len = 0:=by omega
   have:rows = []:=by apply List.eq_nil_of_length_eq_zero; omega
   exact .inl ⟨some a,by rw [hl0,hcap],this⟩
  have hfirst:∃ cs,w.cells? base (a.add 0) (P.cellsOf e) = some cs:=by
   by_cases hl:0 < len
   ·obtain ⟨cs,_,g1,_,_⟩:=hrow 0 hl
    rw [Nat.zero_mul] at g1
    exact ⟨cs,g1⟩
   ·obtain ⟨r1,r2⟩:=hrest (hsp _)
    have:=r2 0 (by omega)
    rw [show (len + 0) * P.cellsOf e = 0 by rw [show len + 0 = 0 by omega]; simp,List.getElem?_eq_getElem (by omega)] at this
    obtain ⟨cs,g1,_⟩:=Option.bind_eq_some_iff.1 this
    exact ⟨cs,g1⟩
  obtain ⟨cs0,hc0⟩:=hfirst
  obtain ⟨hl0,hg0⟩:=cells?_get hc0
  have h00:=hg0 0 (by omega)
  rw [show (a.add 0).add 0 = a from rfl,List.getElem?_eq_getElem (by omega)] at h00
  obtain ⟨ab,ao,asp⟩:=a
  have hblk0:=h00
  unfold World.cell? at hblk0
  split at hblk0
  ·rename_i c ty fr hblk
   simp only at hblk
   have hsp0:asp = none:=by
    cases asp with
    | none=>rfl
    | some s=>simp at hblk0
   subst hsp0
   refine .inr ⟨ab,ao,cap,c,ty,fr,by rw [hrl],by omega,hblk,fun i row hi=>?_⟩
   obtain ⟨hlt,hc⟩:=hget i row hi
   refine ⟨trod_fits n hpat row (htr row (List.mem_of_getElem? hi)),fun k x hk=>?_⟩
   obtain ⟨hl1,hg⟩:=cells?_get hc
   have hkl:k < P.cellsOf e:=by
    rw [← hl1]; exact (List.getElem?_eq_some_iff.1 hk).1
   have:=hg k hkl
   rw [hk,hce] at this
   rw [Go.Eng.addr_add,Go.Eng.addr_add,cell_of_heap hblk] at this
   exact this
  ·simp at hblk0
end

end Go.Eng

set_option linter.unusedSimpArgs false
set_option linter.unusedVariables false
namespace Go.Eng
open Go Go.Proofs
def makeGC:Ctr:={ makeC with pre:=fun ρ=>makeC.pre ρ∧sizes3 (ρ 2).i (ρ 3).i (ρ 4).i = true∧(ρ 6).i ≤ 8192,alts:=[{ k:=9,ret:=.tup [(true,manT 2 3 4 6 12 13 4 14),(false,[.vslice 15 (.lit 0) (.var 4) (.var 16) 2]),eRet (.lit 0)],heap:=[fHp 17,dgsHp 13 18 14,.arr 15 45 kPiece (.var 19) (.var 16),.abs 20 10],post:=fun ρ=>fieldD (ρ 17).d∧sizes3 (ρ 2).i (ρ 3).i (ρ 4).i = true∧(ρ 6).i ≤ 8192∧(ρ 19).d.length = (ρ 4).i.toNat∧encAt (ρ 20).h (ρ 19).d (ρ 4).i.toNat (encP (ρ 2).i.toNat (ρ 4).i.toNat (bI (ρ 8).d))∧rowL (ρ 12).d 32 = sha (bI (ρ 8).d)∧dgsOk (ρ 18).d∧dgs (ρ 18).d = madeAt (encP (ρ 2).i.toNat (ρ 4).i.toNat (bI (ρ 8).d)) (ρ 4).i.toNat }] }
noncomputable def rstF (ρ:Env):Nat→List Int:=encP (ρ 0).i.toNat (ρ 2).i.toNat (bI (ρ 21).d)
end Go.Eng

set_option linter.unusedSimpArgs false
set_option linter.unusedVariables false
set_option maxRecDepth 100000
namespace Go.Proofs
open Go Go.Eng

end Go.Proofs

set_option linter.unusedSimpArgs false
set_option linter.unusedVariables false
namespace Go.Proofs
open Go Go.Eng
section
variable {k total:Nat} {data:List Int}
end
section
variable {h:Hp} {P:Rows'} {k n t s l:Int} {data:List Int} {G:Rows'}
end
section
variable {h h':Hp} {D S L:Rows'} {n i:Nat} {t:Int} {f:Nat→List Int}
end
section
variable {h h0:Hp} {P P0 G R:Rows'} {k n t s l x e y m:Int} {data O:List Int} {N N':Nat}
theorem star_leT {ρ:Env} {l:List SH} {H:Hp} (n t:Nat) (hs:star ρ l H) (hm:SH.abs n t ∈ l):Hp.le (ρ n).h H:=by
 obtain ⟨hb,lb,db⟩:=star_mem_abs hs hm
 exact Hp.le_trans db lb
theorem made_len {f:Nat→List Int} {c:Nat} (h:dgs G = madeAt f c):G.length = c:=by
 have:=congrArg List.length h
 simpa [dgs,madeAt] using this
end
section
variable {h h':Hp} {S L:Rows'} {i n j i':Int} {t:Int} {f:Nat→List Int}
end
section
variable {h h0:Hp} {D D0 G:Rows'} {T:Nat} {t:Int} {f:Nat→List Int} {N N' M:Nat}
theorem enc_len9 {k n:Nat} {data:List Int} {j:Nat} (hE:encAt h D T (encP k n data)) (hj:j < T) (h1:1 ≤ k) (hk:k ≤ n) (ht:n ≤ 255) (hb:bytesL data) (hl:data.length ≤ 2000):(pcD h D j).length ≤ 9000:=by
 rw [((enc_pc hE).2 j hj).2,(enc_facts h1 hk ht hb j).1]
 have:=pieceLen_le (k:=k) (n:=data.length) (by omega)
 omega
end
end Go.Proofs

set_option linter.unusedSimpArgs false
set_option linter.unusedVariables false
namespace Go.Proofs
open Go Go.Eng
theorem makeG_ok:makeGC.ok Tryd.prog:=by
 refine ⟨make_ok.1,fun ρ w hF hO hg hd hw hs hro hp=>?_⟩
 obtain ⟨hp,hs3,h8⟩:=hp
 refine (make_ok.2 ρ w hF hO hg hd hw hs hro hp).mono fun e w' h=>?_
 obtain ⟨ai,al,ρ',h1,h2,hρ,h4,hpost,h6⟩:=h
 match ai,h1 with
 | 0,h1 =>
  obtain rfl:=(Option.some.inj h1).symm
  exfalso
  have e2:=hρ 2 (by decide)
  have e3:=hρ 3 (by decide)
  have e4:=hρ 4 (by decide)
  have e6:=hρ 6 (by decide)
  obtain ⟨_,⟨h1,_⟩ | ⟨_,h1,_⟩⟩:=hpost
  ·change sizes3 (ρ' 2).i (ρ' 3).i (ρ' 4).i = false at h1
   rw [e2,e3,e4,hs3] at h1; cases h1
  ·change 8192 < (ρ' 6).i at h1
   rw [e6] at h1; omega
 | 1,h1 =>
  obtain rfl:=(Option.some.inj h1).symm
  exact ⟨0,_,ρ',rfl,h2,hρ,h4,hpost,h6⟩
 | ai + 2,h1=>simp [makeC] at h1
set_option maxRecDepth 20000
end Go.Proofs

set_option linter.unusedSimpArgs false
set_option linter.unusedVariables false
namespace Go.Eng
open Go Go.Proofs
def encMan1C:Ctr:={ encManC with pre:=fun ρ=>encManC.pre ρ∧manOk (ρ 0).i (ρ 1).i (ρ 2).i (ρ 3).i (ρ 6).i = true,alts:=encManC.alts.drop 1 }
def same33M:Ctr:=same33Of [.abs 10 611,.abs 11 10] [] 10 11
def same33MI:Inv:=same33IOf [.abs 10 611,.abs 11 10] 10 11
def lawMemoryC:Ctr:={ fn := 4,nv:=32,ip:=[gIp 30,(1005,7),(1001,9),(1002,9)],ow:=[1003,5210130,5210139],args:=[caseArg],heap:=[],ro:=caseRo ++ [gHp 30 31],pre:=fun ρ=>caseIn ρ∧gOk ρ 30 31 gR,alts:=[lawTrue] }
def memIs (ρ:Env):Prop:=(1 ≤ (ρ 0).i∧(ρ 0).i ≤ (ρ 1).i∧(ρ 1).i ≤ (ρ 2).i∧(ρ 2).i ≤ 20∧(ρ 5).i ≤ 2000)
def vLen:Value→Int
 | .slice _ n _=>n
 | _=>0
def pcL (D:Rows') (n:Nat):Prop:=∀ j:Nat,j < n→vLen (cellV D j 1) ≤ 9000
def memM (ρ:Env):Prop:=(ρ 1007).d.length = (ρ 2).i.toNat∧(ρ 1010).d.length = (ρ 2).i.toNat∧pcOk (ρ 1011).h (ρ 1010).d (ρ 2).i.toNat∧pcL (ρ 1010).d (ρ 2).i.toNat
def memN (ρ:Env):Prop:=rowL (ρ 1013).d 32 = sha (bI (ρ 21).d)∧dgsOk (ρ 1016).d∧dgs (ρ 1016).d = madeAt (rstF ρ) (ρ 2).i.toNat∧(ρ 1019).d.length = (ρ 2).i.toNat∧encAt (ρ 1020).h (ρ 1019).d (ρ 2).i.toNat (rstF ρ)
def memE0:List (Nat × SV):=[(1,.one (.vptr 1000 (.lit 0) 44 0)),(3,.one (.vptr 1001 (.lit 0) 769 0))]
def memH0:List SH:=[.cells 1000 31 caseCells,.arr 1001 121 kField (.var 1002) (.lit 1)]
def memE1:List (Nat × SV):=[(4,.one (.vptr 1003 (.lit 0) 37 0)),(5,pcS 1008 2 1009)]
def memH1:List SH:=[.cells 1003 27 (manT 0 1 2 5 1004 1005 2 1006),dgsHp 1005 1007 1006,pcHp 1008 1010 1009,.abs 1011 511]
def memE2:List (Nat × SV):=[(7,.one (.vptr 1012 (.lit 0) 37 0)),(8,pcS 1017 2 1018)]
def memH2:List SH:=[.cells 1012 27 (manT 0 1 2 5 1013 1014 2 1015),dgsHp 1014 1016 1015,pcHp 1017 1019 1018,.abs 1020 611]
def memE3:List (Nat × SV):=[(10,.one (.vslice 1021 (.lit 0) (.var 1022) (.var 1023) 1)),(12,.one (.vslice 1025 (.lit 0) (.var 1026) (.var 1027) 1))]
def memH3:List SH:=[bHp 1021 1024 1023,bHp 1025 1028 1027]
def err0:SV:=.one (.vint .i64 (.lit 0))
def memA (ρ:Env):Prop:=(ρ 1026).i = (ρ 1028).d.length∧allB (ρ 1028).d∧bI (ρ 1028).d = manHead (ρ 0).i (ρ 1).i (ρ 2).i (ρ 5).i (sha (bI (ρ 21).d)) ++ (madeAt (rstF ρ) (ρ 2).i.toNat).flatten
def memW (ρ:Env):Prop:=memIs ρ∧fieldD (ρ 1002).d∧memN ρ∧memA ρ
def memJ1:Inv:={ key:=1000005,nv:=12,env:=memE0 ++ memE1 ++ [(6,err0)],heap:=memH0 ++ memH1,inv:=(fun ρ=>memIs ρ∧fieldD (ρ 1002).d∧memM ρ∧rowL (ρ 1004).d 32 = sha (bI (ρ 21).d)∧dgsOk (ρ 1007).d),mu:=fun _=>0 }
def memJ2:Inv:={ key:=1000006,nv:=21,env:=memE0 ++ memE1 ++ memE2 ++ [(6,err0),(9,err0)],heap:=memH0 ++ memH1 ++ memH2,inv:=(fun ρ=>memIs ρ∧fieldD (ρ 1002).d∧memM ρ∧rowL (ρ 1004).d 32 = sha (bI (ρ 21).d)∧dgsOk (ρ 1007).d∧memN ρ),mu:=fun _=>0 }
def memL1:Inv:={ key:=11,nv:=30,env:=memE0 ++ memE1 ++ memE2 ++ memE3 ++ [(14,iv .i64 (.var 1029))],heap:=memH0 ++ memH1 ++ memH2 ++ memH3,inv:=(fun ρ=>memW ρ∧memM ρ∧(ρ 1022).i = (ρ 1024).d.length∧(ρ 1022).i ≤ 1000∧0 ≤ (ρ 1029).i∧(ρ 1029).i ≤ (ρ 2).i),mu:=(fun ρ=>((ρ 2).i - (ρ 1029).i).toNat) }
def memL2:Inv:={ key:=15,nv:=30,env:=memE0 ++ memE1 ++ memE2 ++ memE3 ++ [(15,iv .i64 (.var 1029))],heap:=memH0 ++ memH1 ++ memH2 ++ memH3,inv:=(fun ρ=>memW ρ∧memM ρ∧(ρ 1022).i = (ρ 1024).d.length∧(ρ 1022).i ≤ 1000∧0 ≤ (ρ 1029).i∧(ρ 1029).i ≤ (ρ 2).i),mu:=(fun ρ=>((ρ 2).i - (ρ 1029).i).toNat) }
def memL3:Inv:={ key:=18,nv:=31,env:=memE0 ++ memE1 ++ memE2 ++ memE3 ++ [(15,iv .i64 (.var 1029)),(16,iv .i64 (.var 1030))],heap:=memH0 ++ memH1 ++ memH2 ++ memH3,inv:=(fun ρ=>memW ρ∧memM ρ∧(ρ 1022).i = (ρ 1024).d.length∧(ρ 1022).i ≤ 1000∧0 ≤ (ρ 1029).i∧(ρ 1029).i < (ρ 2).i∧0 ≤ (ρ 1030).i∧(ρ 1029).i = (ρ 135).i),mu:=(fun ρ=>(vLen (cellV (ρ 1010).d (ρ 1029).i 1) - (ρ 1030).i).toNat) }
def memL4:Inv:={ key:=22,nv:=30,env:=memE0 ++ memE2 ++ memE3 ++ [(17,iv .i64 (.var 1029))],heap:=memH0 ++ memH2 ++ memH3,inv:=(fun ρ=>memW ρ∧(ρ 1022).i = (ρ 1024).d.length∧(ρ 1022).i ≤ 1000∧0 ≤ (ρ 1029).i∧(ρ 1029).i ≤ (ρ 1022).i),mu:=(fun ρ=>((ρ 1022).i - (ρ 1029).i).toNat) }
def memJ3:Inv:={ key:=1000027,nv:=33,env:=memE0 ++ [(8,pcS 1017 2 1018),(12,.one (.vslice 1025 (.lit 0) (.var 1026) (.var 1027) 1)),(18,.one (.vslice 1021 (.lit 0) (.var 1022) (.var 1023) 1)),(20,pcS 1029 2 1030),(6,err0),(9,err0)],heap:=memH0 ++ [pcHp 1017 1019 1018,.abs 1020 611,bHp 1021 1024 1023,bHp 1025 1028 1027,pcHp 1029 1031 1030,.abs 1032 10],inv:=(fun ρ=>memIs ρ∧memA ρ∧(ρ 1022).i = (ρ 1024).d.length∧allB (ρ 1024).d∧bI (ρ 1024).d = bI (ρ 1028).d∧(ρ 1019).d.length = (ρ 2).i.toNat∧encAt (ρ 1020).h (ρ 1019).d (ρ 2).i.toNat (rstF ρ)∧(ρ 1031).d.length = (ρ 2).i.toNat∧encAt (ρ 1032).h (ρ 1031).d (ρ 2).i.toNat (rstF ρ)),mu:=fun _=>0 }
end Go.Eng

set_option linter.unusedSimpArgs false
set_option linter.unusedVariables false
namespace Go.Proofs
open Go Go.Eng
theorem put_Rd {h h':Hp} {r:Option Addr} {d:Rows'} {k:Nat} {x:Int} {v:Value} {e:Rows'} (hP:Put h h' r kB d k [.int .u8 x]) (hr:Rd h kB v e) (hB:allB e) (hx:0 ≤ x∧x < 256):∃ e',Rd h' kB v e'∧allB e':=by
 obtain ⟨b,o,c0,c1,ty,rfl,hb,hrows,hw,rfl⟩:=hP
 rcases hr with ⟨a,h1,h2⟩ | ⟨b',o',cap,c,ty',fr,h1,h2,h3,h4⟩
 ·exact ⟨[],.inl ⟨a,h1,rfl⟩,fun r hr=>(by cases hr)⟩
 ·by_cases hbb:b' = b
  ·subst hbb
   rw [hb] at h3
   injection h3 with h3
   injection h3 with e1 e2 e3
   subst e1
   refine ⟨e.mapIdx fun i row=>if o' + i = o + k then [.int .u8 x] else row,.inr ⟨b',o',cap,c1,ty,(0,0),by rw [h1,List.length_mapIdx],by rw [List.length_mapIdx]; exact h2,by simp [Hp.upd],?_⟩,?_⟩
   ·intro i row hi
    rw [List.getElem?_mapIdx] at hi
    obtain ⟨row0,hr0,rfl⟩:=Option.map_eq_some_iff.1 hi
    obtain ⟨hf,hc⟩:=h4 i row0 hr0
    split
    ·rename_i heq
     refine ⟨⟨rfl,fun c kk v hkk hv=>?_⟩,fun c v hv=>?_⟩
     ·cases c with
      | zero =>
       simp only [kB,List.getElem?_cons_zero,Option.some.injEq] at hkk hv
       subst hkk hv; rfl
      | succ c=>simp [kB] at hkk
     ·cases c with
      | zero =>
       simp only [List.getElem?_cons_zero,Option.some.injEq] at hv
       subst hv
       rw [hw.2,if_pos (by simp [kB] at heq ⊢; omega)]
       have:o' + i * kB.length + 0 - (o + k) = 0:=by simp [kB] at heq ⊢; omega
       rw [this]; rfl
      | succ c=>simp at hv
    ·rename_i hne
     refine ⟨hf,fun c v hv=>?_⟩
     have hcl:c < 1:=by
      have:=(List.getElem?_eq_some_iff.1 hv).1
      rw [hf.1] at this
      simpa [kB] using this
     rw [hw.2,if_neg (by simp [kB] at hne ⊢; omega)]
     exact hc c v hv
   ·intro row hrow
    obtain ⟨i,hi,rfl⟩:=List.mem_mapIdx.1 hrow
    split
    ·exact hx
    ·exact hB _ (List.getElem_mem ..)
  ·exact ⟨e,.inr ⟨b',o',cap,c,ty',fr,h1,h2,by simp [Hp.upd,hbb]; exact h3,h4⟩,hB⟩
theorem put_pcOk {h h':Hp} {r:Option Addr} {d:Rows'} {k:Nat} {x:Int} {D:Rows'} {n:Nat} (hD:pcOk h D n) (hP:Put h h' r kB d k [.int .u8 x]) (hx:0 ≤ x∧x < 256):pcOk h' D n:=fun j hj=>by
 obtain ⟨i,v,e,h1,h2,h3⟩:=hD j hj
 obtain ⟨e',h4,h5⟩:=put_Rd hP h2 h3 hx
 exact ⟨i,v,e',h1,h4,h5⟩
end Go.Proofs

set_option linter.unusedSimpArgs false
set_option linter.unusedVariables false
set_option maxRecDepth 100000
namespace Go.Proofs
open Go Go.Eng

def o_same33m:Out:=(.need (.cmp .leq (.lit 0) (.var 1)) (.need (.cmp .leq (.lit 0) (.var 6)) (.br (.cmp .neq (.var 1) (.var 6))
 (.ret 0 (sg 12 [bt 12 (.bl false)]))
 (.inv 0 12 (sg 1000 [bt 1000 (.lit 0)]) (.fresh 12 (.hyp 0 12 (.br (.cmp .lss (.var 12) (.var 1))
 (.need (.cmp .leq (.lit 0) (.var 12)) (.need (.cmp .lss (.var 12) (.dlen (.var 3))) (.need (.cmp .lss (.var 12) (.var 6)) (.need (.cmp .lss (.var 12) (.dlen (.var 8))) (.br (.cmp .neq (.icell (.var 3) (.var 12) 0) (.icell (.var 8) (.var 12) 0))
 (.ret 0 (sg 12 [bt 12 (.bl false)]))
 (.both (.view (.vcell (.var 3) (.var 12) 1) [CK.int .u8] [10,11] 13 (.both (.view (.vcell (.var 8) (.var 12) 1) [CK.int .u8] [10,11] 16 (.br (.not (.c2 .veq (.c1 .vbytes (.var 15)) (.c1 .vbytes (.var 18))))
 (.ret 0 (sg 12 [bt 12 (.bl false)]))
 (.back 0 12 (sg 1000 [bt 1000 (.arith .add .i64 (.var 12) (.lit 1))])))) .top)) (.both (.view (.vcell (.var 8) (.var 12) 1) [CK.int .u8] [10,11] 13 (.both (.view (.vcell (.var 3) (.var 12) 1) [CK.int .u8] [10,11] 16 (.br (.not (.c2 .veq (.c1 .vbytes (.var 18)) (.c1 .vbytes (.var 15))))
 (.ret 0 (sg 12 [bt 12 (.bl false)]))
 (.back 0 12 (sg 1000 [bt 1000 (.arith .add .i64 (.var 12) (.lit 1))])))) .top)) .top)))))))
 (.ret 0 (sg 12 [bt 12 (.bl true)])))))))))
theorem o_same33m_eq:treeOf ⟨Tryd.prog,same33M,[],[same33MI]⟩ 100000 Tryd.f27 = o_same33m:=by kernel_rfl
theorem same33m_of (hd:∀ c ∈ ([]:List Ctr),c.ok Tryd.prog) (h:∀ ρ:Env,ρ.good→(same33M).pre ρ→o_same33m.den ⟨Tryd.prog,same33M,[],[same33MI]⟩ ρ):(same33M).ok Tryd.prog :=
 ok_of_tree Tryd.func27 (fun a w=>Tryd.call27 a w) hd 100000 (fun ρ hg hp=>by rw [o_same33m_eq]; exact h ρ hg hp)
@[simp] def o_mem6_1:Sg:=sg 0 [bv 9 200,bv 8 201,bv 4 188,bv 3 189,bg 11 202,bg 10 190,bv 7 200,bv 6 2,bg 5 199,bv 2 188,bv 1 2,bg 0 187]
def o_mem6:Out:=(.hyp 6 170 (.need (.cmp .leq (.lit 0) (.var 192)) (.need (.cmp .leq (.var 192) (.dlen (.var 194))) (.need (.cmp .leq (.lit 0) (.var 196)) (.need (.cmp .leq (.var 196) (.dlen (.var 198))) (.br (.c2 .veq (.c1 .vbytes (.dtake (.var 194) (.var 192))) (.c1 .vbytes (.dtake (.var 198) (.var 196))))
 (.know (.cmp .leq (.dlen (.var 198)) (.var 197)) (.br (.cmp .eql (.var 196) (.arith .add .i64 (.lit 39) (.arith .mul .i64 (.lit 32) (.var 2))))
 (.know (.cmp .leq (.dlen (.var 189)) (.var 188)) (.know (.cmp .leq (.dlen (.var 201)) (.var 200)) (.pre 4 o_mem6_1 (.both (.fresh 203 (.post 4 0 o_mem6_1 203 (.br (.var 203)
 (.pre 0 (sg 0 [bv 1 31,bg 0 30]) (.both (.post 0 0 (sg 0 [bv 1 31,bg 0 30]) 204 (.ret 0 (sg 32 []))) .top))
 (.stuck 7 0 0)))) .top))))
 (.stuck 7 0 0)))
 (.stuck 7 0 0)))))))
def o_mem4:Out:=(.hyp 4 136 (.need (.cmp .leq (.lit 0) (.var 165)) (.need (.cmp .lss (.var 165) (.var 2)) (.need (.cmp .lss (.var 165) (.dlen (.var 146))) (.viewL (.vcell (.var 146) (.var 165) 1) [CK.int .u8] [147] 167 (.br (.cmp .lss (.var 166) (.dlen (.var 169)))
 (.viewL (.vcell (.var 146) (.var 165) 1) [CK.int .u8] [147] 170 (.need (.cmp .leq (.lit 0) (.var 166)) (.need (.cmp .lss (.var 166) (.dlen (.var 172))) (.put 147 170 [CK.int .u8] (.var 172) (.var 166) 0 [(.vint .u8 (.arith .xor .u8 (.icell (.var 172) (.var 166) 0) (.lit 255)))] 173 (.back 4 136 (sg 1000 [bv 1028 164,bv 1024 160,bg 1020 156,bv 1019 155,bv 1016 152,bv 1015 151,bg 1014 150,bt 1013 (r8 149),bg 1011 173,bv 1010 146,bv 1007 143,bv 1006 142,bg 1005 141,bt 1004 (r8 140),bv 1002 138,bt 1030 (.arith .add .i64 (.var 166) (.lit 1)),bv 1029 165,bv 1027 163,bv 1026 162,bg 1025 161,bv 1023 159,bv 1022 158,bg 1021 157,bv 1018 154,bg 1017 153,bg 1012 148,bv 1009 145,bg 1008 144,bg 1003 139,bg 1001 137,bg 1000 136]))))))
 (.back 3 106 (sg 1000 [bv 1028 164,bv 1024 160,bg 1020 156,bv 1019 155,bv 1016 152,bv 1015 151,bg 1014 150,bt 1013 (r8 149),bg 1011 147,bv 1010 146,bv 1007 143,bv 1006 142,bg 1005 141,bt 1004 (r8 140),bv 1002 138,bt 1029 (.arith .add .i64 (.var 165) (.lit 1)),bv 1027 163,bv 1026 162,bg 1025 161,bv 1023 159,bv 1022 158,bg 1021 157,bv 1018 154,bg 1017 153,bg 1012 148,bv 1009 145,bg 1008 144,bg 1003 139,bg 1001 137,bg 1000 136]))))))))
@[simp] def o_mem5_3:Sg:=sg 0 [bv 11 31,bv 9 173,bt 8 (.dtake (.var 21) (.var 5)),bv 1 138,bv 7 173,bv 6 5,bg 5 172,bv 4 2,bv 3 1,bv 2 0,bg 0 137,bg 10 30]
@[simp] def o_mem5_2:Sg:=sg 0 [bv 11 31,bv 9 172,bt 8 (.dtake (.var 21) (.var 5)),bv 1 138,bv 7 172,bv 6 5,bg 5 171,bv 4 2,bv 3 1,bv 2 0,bg 0 137,bg 10 30]
@[simp] def o_mem5_1:Sg:=sg 1000 [bg 1032 183,bv 1031 181,bv 1028 164,bv 1024 169,bg 1020 156,bv 1019 155,bv 1002 179,bv 1030 178,bg 1029 177,bv 1023 168,bv 1022 167,bg 1021 166,bv 1027 163,bv 1026 162,bg 1025 161,bv 1018 154,bg 1017 153,bg 1001 137,bg 1000 136]
def o_mem5:Out:=(.hyp 5 136 (.know (.cmp .leq (.dlen (.var 160)) (.var 159)) (.need (.cmp .leq (.lit 0) (.var 158)) (.br (.cmp .lss (.var 165) (.var 158))
 (.need (.cmp .leq (.lit 0) (.var 165)) (.need (.cmp .lss (.var 165) (.dlen (.var 160))) (.back 5 136 (sg 1000 [bv 1028 164,bt 1024 (.dput (.var 160) (.var 165) 0 (.rcons o8 .rnil)),bg 1020 156,bv 1019 155,bv 1016 152,bv 1015 151,bg 1014 150,bt 1013 (r8 149),bv 1002 138,bt 1029 (.arith .add .i64 (.var 165) (.lit 1)),bv 1027 163,bv 1026 162,bg 1025 161,bv 1023 159,bv 1022 158,bg 1021 157,bv 1018 154,bg 1017 153,bg 1012 148,bg 1001 137,bg 1000 136]))))
 (.know (.cmp .leq (.dlen (.var 152)) (.var 151)) (.pre 3 (sg 0 [bv 9 151,bv 8 152,bv 7 151,bv 6 2,bg 5 150,bv 3 5,bv 2 2,bv 1 1,bv 0 0,bt 4 (r8 149)]) (.both (.fresh 166 (.fresh 167 (.fresh 168 (.fresh 169 (.post 3 0 (sg 0 [bv 9 151,bv 8 152,bv 7 151,bv 6 2,bg 5 150,bv 3 5,bv 2 2,bv 1 1,bv 0 0,bt 4 (r8 149)]) 166 (.both (.both (.fresh 170 (.both (.need (.cmp .leq (.var 5) (.dlen (.var 21))) (.need (.cmp .leq (.tims (.lit 1) (.var 5)) (.lit 140737488355328)) (.fresh 171 (.fresh 172 (.both (.know (.cmp .leq (.dlen (.dtake (.var 21) (.var 5))) (.var 172)) (.pre 2 o_mem5_2 (.both (.fresh 173 (.fresh 174 (.fresh 175 (.fresh 176 (.fresh 177 (.fresh 178 (.fresh 179 (.fresh 180 (.fresh 181 (.post 2 0 o_mem5_2 173 (.both (.fresh 182 (.both (.pack [.cells 182 27 [(.vint .i64 (.var 0)),(.vint .i64 (.var 1)),(.vint .i64 (.var 2)),(.vint .i64 (.var 5)),(x8 0 173),(x8 1 173),(x8 2 173),(x8 3 173),(x8 4 173),(x8 5 173),(x8 6 173),(x8 7 173),(x8 8 173),(x8 9 173),(x8 10 173),(x8 11 173),(x8 12 173),(x8 13 173),(x8 14 173),(x8 15 173),(x8 16 173),(x8 17 173),(x8 18 173),(x8 19 173),(x8 20 173),(x8 21 173),(x8 22 173),(x8 23 173),(x8 24 173),(x8 25 173),(x8 26 173),(x8 27 173),(x8 28 173),(x8 29 173),(x8 30 173),(x8 31 173),(.vslice 174 (.lit 0) (.var 2) (.var 175) 32)],.arr 174 24 [CK.int .u8,CK.int .u8,CK.int .u8,CK.int .u8,CK.int .u8,CK.int .u8,CK.int .u8,CK.int .u8,CK.int .u8,CK.int .u8,CK.int .u8,CK.int .u8,CK.int .u8,CK.int .u8,CK.int .u8,CK.int .u8,CK.int .u8,CK.int .u8,CK.int .u8,CK.int .u8,CK.int .u8,CK.int .u8,CK.int .u8,CK.int .u8,CK.int .u8,CK.int .u8,CK.int .u8,CK.int .u8,CK.int .u8,CK.int .u8,CK.int .u8,CK.int .u8] (.var 179) (.var 175),.abs 181 10,.arr 171 5 [CK.int .u8] (.dtake (.var 21) (.var 5)) (.var 172),.cells 148 27 [(.vint .i64 (.var 0)),(.vint .i64 (.var 1)),(.vint .i64 (.var 2)),(.vint .i64 (.var 5)),(x8 0 149),(x8 1 149),(x8 2 149),(x8 3 149),(x8 4 149),(x8 5 149),(x8 6 149),(x8 7 149),(x8 8 149),(x8 9 149),(x8 10 149),(x8 11 149),(x8 12 149),(x8 13 149),(x8 14 149),(x8 15 149),(x8 16 149),(x8 17 149),(x8 18 149),(x8 19 149),(x8 20 149),(x8 21 149),(x8 22 149),(x8 23 149),(x8 24 149),(x8 25 149),(x8 26 149),(x8 27 149),(x8 28 149),(x8 29 149),(x8 30 149),(x8 31 149),(.vslice 150 (.lit 0) (.var 2) (.var 151) 32)],.arr 150 24 [CK.int .u8,CK.int .u8,CK.int .u8,CK.int .u8,CK.int .u8,CK.int .u8,CK.int .u8,CK.int .u8,CK.int .u8,CK.int .u8,CK.int .u8,CK.int .u8,CK.int .u8,CK.int .u8,CK.int .u8,CK.int .u8,CK.int .u8,CK.int .u8,CK.int .u8,CK.int .u8,CK.int .u8,CK.int .u8,CK.int .u8,CK.int .u8,CK.int .u8,CK.int .u8,CK.int .u8,CK.int .u8,CK.int .u8,CK.int .u8,CK.int .u8,CK.int .u8] (.var 152) (.var 151),.arr 157 5 [CK.int .u8] (.var 160) (.var 159)] 183 (.cut 6 170 (sg 1000 [bg 1032 183,bv 1031 180,bv 1028 164,bv 1024 169,bg 1020 156,bv 1019 155,bv 1002 178,bv 1030 177,bg 1029 176,bv 1023 168,bv 1022 167,bg 1021 166,bv 1027 163,bv 1026 162,bg 1025 161,bv 1018 154,bg 1017 153,bg 1001 137,bg 1000 136]))) .top)) .top))))))))))) .top))) (.both (.fresh 173 (.both (.know (.cmp .leq (.dlen (.dtake (.var 21) (.var 5))) (.var 172)) (.pre 2 o_mem5_2 (.both (.fresh 174 (.fresh 175 (.fresh 176 (.fresh 177 (.fresh 178 (.fresh 179 (.fresh 180 (.fresh 181 (.fresh 182 (.post 2 0 o_mem5_2 174 (.both (.pack [.arr 175 24 [CK.int .u8,CK.int .u8,CK.int .u8,CK.int .u8,CK.int .u8,CK.int .u8,CK.int .u8,CK.int .u8,CK.int .u8,CK.int .u8,CK.int .u8,CK.int .u8,CK.int .u8,CK.int .u8,CK.int .u8,CK.int .u8,CK.int .u8,CK.int .u8,CK.int .u8,CK.int .u8,CK.int .u8,CK.int .u8,CK.int .u8,CK.int .u8,CK.int .u8,CK.int .u8,CK.int .u8,CK.int .u8,CK.int .u8,CK.int .u8,CK.int .u8,CK.int .u8] (.var 180) (.var 176),.abs 182 10,.cells 173 27 [(.vint .i64 (.var 0)),(.vint .i64 (.var 1)),(.vint .i64 (.var 2)),(.vint .i64 (.var 5)),(x8 0 174),(x8 1 174),(x8 2 174),(x8 3 174),(x8 4 174),(x8 5 174),(x8 6 174),(x8 7 174),(x8 8 174),(x8 9 174),(x8 10 174),(x8 11 174),(x8 12 174),(x8 13 174),(x8 14 174),(x8 15 174),(x8 16 174),(x8 17 174),(x8 18 174),(x8 19 174),(x8 20 174),(x8 21 174),(x8 22 174),(x8 23 174),(x8 24 174),(x8 25 174),(x8 26 174),(x8 27 174),(x8 28 174),(x8 29 174),(x8 30 174),(x8 31 174),(.vslice 175 (.lit 0) (.var 2) (.var 176) 32)],.arr 171 5 [CK.int .u8] (.dtake (.var 21) (.var 5)) (.var 172),.cells 148 27 [(.vint .i64 (.var 0)),(.vint .i64 (.var 1)),(.vint .i64 (.var 2)),(.vint .i64 (.var 5)),(x8 0 149),(x8 1 149),(x8 2 149),(x8 3 149),(x8 4 149),(x8 5 149),(x8 6 149),(x8 7 149),(x8 8 149),(x8 9 149),(x8 10 149),(x8 11 149),(x8 12 149),(x8 13 149),(x8 14 149),(x8 15 149),(x8 16 149),(x8 17 149),(x8 18 149),(x8 19 149),(x8 20 149),(x8 21 149),(x8 22 149),(x8 23 149),(x8 24 149),(x8 25 149),(x8 26 149),(x8 27 149),(x8 28 149),(x8 29 149),(x8 30 149),(x8 31 149),(.vslice 150 (.lit 0) (.var 2) (.var 151) 32)],.arr 150 24 [CK.int .u8,CK.int .u8,CK.int .u8,CK.int .u8,CK.int .u8,CK.int .u8,CK.int .u8,CK.int .u8,CK.int .u8,CK.int .u8,CK.int .u8,CK.int .u8,CK.int .u8,CK.int .u8,CK.int .u8,CK.int .u8,CK.int .u8,CK.int .u8,CK.int .u8,CK.int .u8,CK.int .u8,CK.int .u8,CK.int .u8,CK.int .u8,CK.int .u8,CK.int .u8,CK.int .u8,CK.int .u8,CK.int .u8,CK.int .u8,CK.int .u8,CK.int .u8] (.var 152) (.var 151),.arr 157 5 [CK.int .u8] (.var 160) (.var 159)] 183 (.cut 6 170 o_mem5_1)) .top))))))))))) .top))) .top)) .top)))))) (.both (.fresh 171 (.both (.need (.cmp .leq (.var 5) (.dlen (.var 21))) (.need (.cmp .leq (.tims (.lit 1) (.var 5)) (.lit 140737488355328)) (.fresh 172 (.fresh 173 (.both (.know (.cmp .leq (.dlen (.dtake (.var 21) (.var 5))) (.var 173)) (.pre 2 o_mem5_3 (.both (.fresh 174 (.fresh 175 (.fresh 176 (.fresh 177 (.fresh 178 (.fresh 179 (.fresh 180 (.fresh 181 (.fresh 182 (.post 2 0 o_mem5_3 174 (.both (.pack [.arr 175 24 [CK.int .u8,CK.int .u8,CK.int .u8,CK.int .u8,CK.int .u8,CK.int .u8,CK.int .u8,CK.int .u8,CK.int .u8,CK.int .u8,CK.int .u8,CK.int .u8,CK.int .u8,CK.int .u8,CK.int .u8,CK.int .u8,CK.int .u8,CK.int .u8,CK.int .u8,CK.int .u8,CK.int .u8,CK.int .u8,CK.int .u8,CK.int .u8,CK.int .u8,CK.int .u8,CK.int .u8,CK.int .u8,CK.int .u8,CK.int .u8,CK.int .u8,CK.int .u8] (.var 180) (.var 176),.abs 182 10,.arr 172 5 [CK.int .u8] (.dtake (.var 21) (.var 5)) (.var 173),.cells 171 27 [(.vint .i64 (.var 0)),(.vint .i64 (.var 1)),(.vint .i64 (.var 2)),(.vint .i64 (.var 5)),(x8 0 174),(x8 1 174),(x8 2 174),(x8 3 174),(x8 4 174),(x8 5 174),(x8 6 174),(x8 7 174),(x8 8 174),(x8 9 174),(x8 10 174),(x8 11 174),(x8 12 174),(x8 13 174),(x8 14 174),(x8 15 174),(x8 16 174),(x8 17 174),(x8 18 174),(x8 19 174),(x8 20 174),(x8 21 174),(x8 22 174),(x8 23 174),(x8 24 174),(x8 25 174),(x8 26 174),(x8 27 174),(x8 28 174),(x8 29 174),(x8 30 174),(x8 31 174),(.vslice 175 (.lit 0) (.var 2) (.var 176) 32)],.cells 148 27 [(.vint .i64 (.var 0)),(.vint .i64 (.var 1)),(.vint .i64 (.var 2)),(.vint .i64 (.var 5)),(x8 0 149),(x8 1 149),(x8 2 149),(x8 3 149),(x8 4 149),(x8 5 149),(x8 6 149),(x8 7 149),(x8 8 149),(x8 9 149),(x8 10 149),(x8 11 149),(x8 12 149),(x8 13 149),(x8 14 149),(x8 15 149),(x8 16 149),(x8 17 149),(x8 18 149),(x8 19 149),(x8 20 149),(x8 21 149),(x8 22 149),(x8 23 149),(x8 24 149),(x8 25 149),(x8 26 149),(x8 27 149),(x8 28 149),(x8 29 149),(x8 30 149),(x8 31 149),(.vslice 150 (.lit 0) (.var 2) (.var 151) 32)],.arr 150 24 [CK.int .u8,CK.int .u8,CK.int .u8,CK.int .u8,CK.int .u8,CK.int .u8,CK.int .u8,CK.int .u8,CK.int .u8,CK.int .u8,CK.int .u8,CK.int .u8,CK.int .u8,CK.int .u8,CK.int .u8,CK.int .u8,CK.int .u8,CK.int .u8,CK.int .u8,CK.int .u8,CK.int .u8,CK.int .u8,CK.int .u8,CK.int .u8,CK.int .u8,CK.int .u8,CK.int .u8,CK.int .u8,CK.int .u8,CK.int .u8,CK.int .u8,CK.int .u8] (.var 152) (.var 151),.arr 157 5 [CK.int .u8] (.var 160) (.var 159)] 183 (.cut 6 170 o_mem5_1)) .top))))))))))) .top))) .top))))) .top)) .top))) (.both (.fresh 170 (.both (.fresh 171 (.both (.need (.cmp .leq (.var 5) (.dlen (.var 21))) (.need (.cmp .leq (.tims (.lit 1) (.var 5)) (.lit 140737488355328)) (.fresh 172 (.fresh 173 (.both (.know (.cmp .leq (.dlen (.dtake (.var 21) (.var 5))) (.var 173)) (.pre 2 o_mem5_3 (.both (.fresh 174 (.fresh 175 (.fresh 176 (.fresh 177 (.fresh 178 (.fresh 179 (.fresh 180 (.fresh 181 (.fresh 182 (.post 2 0 o_mem5_3 174 (.both (.pack [.arr 175 24 [CK.int .u8,CK.int .u8,CK.int .u8,CK.int .u8,CK.int .u8,CK.int .u8,CK.int .u8,CK.int .u8,CK.int .u8,CK.int .u8,CK.int .u8,CK.int .u8,CK.int .u8,CK.int .u8,CK.int .u8,CK.int .u8,CK.int .u8,CK.int .u8,CK.int .u8,CK.int .u8,CK.int .u8,CK.int .u8,CK.int .u8,CK.int .u8,CK.int .u8,CK.int .u8,CK.int .u8,CK.int .u8,CK.int .u8,CK.int .u8,CK.int .u8,CK.int .u8] (.var 180) (.var 176),.abs 182 10,.arr 172 5 [CK.int .u8] (.dtake (.var 21) (.var 5)) (.var 173),.cells 170 27 [(.vint .i64 (.var 0)),(.vint .i64 (.var 1)),(.vint .i64 (.var 2)),(.vint .i64 (.var 5)),(x8 0 174),(x8 1 174),(x8 2 174),(x8 3 174),(x8 4 174),(x8 5 174),(x8 6 174),(x8 7 174),(x8 8 174),(x8 9 174),(x8 10 174),(x8 11 174),(x8 12 174),(x8 13 174),(x8 14 174),(x8 15 174),(x8 16 174),(x8 17 174),(x8 18 174),(x8 19 174),(x8 20 174),(x8 21 174),(x8 22 174),(x8 23 174),(x8 24 174),(x8 25 174),(x8 26 174),(x8 27 174),(x8 28 174),(x8 29 174),(x8 30 174),(x8 31 174),(.vslice 175 (.lit 0) (.var 2) (.var 176) 32)],.cells 148 27 [(.vint .i64 (.var 0)),(.vint .i64 (.var 1)),(.vint .i64 (.var 2)),(.vint .i64 (.var 5)),(x8 0 149),(x8 1 149),(x8 2 149),(x8 3 149),(x8 4 149),(x8 5 149),(x8 6 149),(x8 7 149),(x8 8 149),(x8 9 149),(x8 10 149),(x8 11 149),(x8 12 149),(x8 13 149),(x8 14 149),(x8 15 149),(x8 16 149),(x8 17 149),(x8 18 149),(x8 19 149),(x8 20 149),(x8 21 149),(x8 22 149),(x8 23 149),(x8 24 149),(x8 25 149),(x8 26 149),(x8 27 149),(x8 28 149),(x8 29 149),(x8 30 149),(x8 31 149),(.vslice 150 (.lit 0) (.var 2) (.var 151) 32)],.arr 150 24 [CK.int .u8,CK.int .u8,CK.int .u8,CK.int .u8,CK.int .u8,CK.int .u8,CK.int .u8,CK.int .u8,CK.int .u8,CK.int .u8,CK.int .u8,CK.int .u8,CK.int .u8,CK.int .u8,CK.int .u8,CK.int .u8,CK.int .u8,CK.int .u8,CK.int .u8,CK.int .u8,CK.int .u8,CK.int .u8,CK.int .u8,CK.int .u8,CK.int .u8,CK.int .u8,CK.int .u8,CK.int .u8,CK.int .u8,CK.int .u8,CK.int .u8,CK.int .u8] (.var 152) (.var 151),.arr 157 5 [CK.int .u8] (.var 160) (.var 159)] 183 (.cut 6 170 o_mem5_1)) .top))))))))))) .top))) .top))))) .top)) .top)) .top)) (.fresh 170 (.fresh 171 (.fresh 172 (.fresh 173 (.fresh 174 (.fresh 175 (.fresh 176 (.fresh 177 (.fresh 178 (.fresh 179 (.fresh 180 (.fresh 181 (.fresh 182 (.fresh 183 (.fresh 184 (.fresh 185 (.fresh 186 (.fresh 187 (.fresh 188 (.fresh 189 (.fresh 190 (.fresh 191 (.fresh 192 (.fresh 193 (.fresh 194 (.fresh 195 (.fresh 196 (.fresh 197 (.fresh 198 (.fresh 199 (.fresh 200 (.fresh 201 (.fresh 202 o_mem6))))))))))))))))))))))))))))))))))))))) .top)))))))
def o_mem3:Out:=(.hyp 3 106 (.know (.cmp .leq (.dlen (.var 116)) (.var 115)) (.br (.cmp .lss (.var 135) (.var 2))
 (.inv 4 136 (sg 1000 [bv 1028 134,bv 1024 130,bg 1020 126,bv 1019 125,bv 1016 122,bv 1015 121,bg 1014 120,bt 1013 (r8 119),bg 1011 117,bv 1010 116,bv 1007 113,bv 1006 112,bg 1005 111,bt 1004 (r8 110),bv 1002 108,bt 1030 (.lit 0),bv 1029 135,bv 1027 133,bv 1026 132,bg 1025 131,bv 1023 129,bv 1022 128,bg 1021 127,bv 1018 124,bg 1017 123,bg 1012 118,bv 1009 115,bg 1008 114,bg 1003 109,bg 1001 107,bg 1000 106]) (.fresh 136 (.fresh 137 (.fresh 138 (.fresh 139 (.fresh 140 (.fresh 141 (.fresh 142 (.fresh 143 (.fresh 144 (.fresh 145 (.fresh 146 (.fresh 147 (.fresh 148 (.fresh 149 (.fresh 150 (.fresh 151 (.fresh 152 (.fresh 153 (.fresh 154 (.fresh 155 (.fresh 156 (.fresh 157 (.fresh 158 (.fresh 159 (.fresh 160 (.fresh 161 (.fresh 162 (.fresh 163 (.fresh 164 (.fresh 165 (.fresh 166 o_mem4))))))))))))))))))))))))))))))))
 (.inv 5 136 (sg 1000 [bv 1028 134,bv 1024 130,bg 1020 126,bv 1019 125,bv 1016 122,bv 1015 121,bg 1014 120,bt 1013 (r8 119),bv 1002 108,bt 1029 (.lit 0),bv 1027 133,bv 1026 132,bg 1025 131,bv 1023 129,bv 1022 128,bg 1021 127,bv 1018 124,bg 1017 123,bg 1012 118,bg 1001 107,bg 1000 106]) (.fresh 136 (.fresh 137 (.fresh 138 (.fresh 139 (.fresh 140 (.fresh 141 (.fresh 142 (.fresh 143 (.fresh 144 (.fresh 145 (.fresh 146 (.fresh 147 (.fresh 148 (.fresh 149 (.fresh 150 (.fresh 151 (.fresh 152 (.fresh 153 (.fresh 154 (.fresh 155 (.fresh 156 (.fresh 157 (.fresh 158 (.fresh 159 (.fresh 160 (.fresh 161 (.fresh 162 (.fresh 163 (.fresh 164 (.fresh 165 o_mem5))))))))))))))))))))))))))))))))))
def o_mem2:Out:=(.hyp 2 76 (.know (.cmp .leq (.dlen (.var 83)) (.var 82)) (.br (.cmp .lss (.var 105) (.var 2))
 (.need (.cmp .leq (.lit 0) (.var 105)) (.need (.cmp .lss (.var 105) (.dlen (.var 83))) (.back 2 76 (sg 1000 [bv 1028 104,bv 1024 100,bg 1020 96,bv 1019 95,bv 1016 92,bv 1015 91,bg 1014 90,bt 1013 (r8 89),bg 1011 87,bv 1010 86,bt 1007 (.dput (.var 83) (.var 105) 0 z8),bv 1006 82,bg 1005 81,bt 1004 (r8 80),bv 1002 78,bt 1029 (.arith .add .i64 (.var 105) (.lit 1)),bv 1027 103,bv 1026 102,bg 1025 101,bv 1023 99,bv 1022 98,bg 1021 97,bv 1018 94,bg 1017 93,bg 1012 88,bv 1009 85,bg 1008 84,bg 1003 79,bg 1001 77,bg 1000 76]))))
 (.inv 3 106 (sg 1000 [bv 1028 104,bv 1024 100,bg 1020 96,bv 1019 95,bv 1016 92,bv 1015 91,bg 1014 90,bt 1013 (r8 89),bg 1011 87,bv 1010 86,bv 1007 83,bv 1006 82,bg 1005 81,bt 1004 (r8 80),bv 1002 78,bt 1029 (.lit 0),bv 1027 103,bv 1026 102,bg 1025 101,bv 1023 99,bv 1022 98,bg 1021 97,bv 1018 94,bg 1017 93,bg 1012 88,bv 1009 85,bg 1008 84,bg 1003 79,bg 1001 77,bg 1000 76]) (.fresh 106 (.fresh 107 (.fresh 108 (.fresh 109 (.fresh 110 (.fresh 111 (.fresh 112 (.fresh 113 (.fresh 114 (.fresh 115 (.fresh 116 (.fresh 117 (.fresh 118 (.fresh 119 (.fresh 120 (.fresh 121 (.fresh 122 (.fresh 123 (.fresh 124 (.fresh 125 (.fresh 126 (.fresh 127 (.fresh 128 (.fresh 129 (.fresh 130 (.fresh 131 (.fresh 132 (.fresh 133 (.fresh 134 (.fresh 135 o_mem3))))))))))))))))))))))))))))))))))
def o_mem1:Out:=(.hyp 1 47 (.know (.cmp .leq (.dlen (.var 54)) (.var 53)) (.need (.cmp .leq (.lit 0) (.var 2)) (.pre 3 (sg 0 [bv 9 53,bv 8 54,bv 7 53,bv 6 2,bg 5 52,bv 3 5,bv 2 2,bv 1 1,bv 0 0,bt 4 (r8 51)]) (.both (.fresh 68 (.fresh 69 (.fresh 70 (.fresh 71 (.post 3 0 (sg 0 [bv 9 53,bv 8 54,bv 7 53,bv 6 2,bg 5 52,bv 3 5,bv 2 2,bv 1 1,bv 0 0,bt 4 (r8 51)]) 68 (.know (.cmp .leq (.dlen (.var 63)) (.var 62)) (.pre 3 (sg 0 [bv 9 62,bv 8 63,bv 7 62,bv 6 2,bg 5 61,bv 3 5,bv 2 2,bv 1 1,bv 0 0,bt 4 (r8 60)]) (.both (.fresh 72 (.fresh 73 (.fresh 74 (.fresh 75 (.post 3 0 (sg 0 [bv 9 62,bv 8 63,bv 7 62,bv 6 2,bg 5 61,bv 3 5,bv 2 2,bv 1 1,bv 0 0,bt 4 (r8 60)]) 72 (.inv 2 76 (sg 1000 [bv 1028 75,bv 1024 71,bg 1020 67,bv 1019 66,bv 1016 63,bv 1015 62,bg 1014 61,bt 1013 (r8 60),bg 1011 58,bv 1010 57,bv 1007 54,bv 1006 53,bg 1005 52,bt 1004 (r8 51),bv 1002 49,bt 1029 (.lit 0),bv 1027 74,bv 1026 73,bg 1025 72,bv 1023 70,bv 1022 69,bg 1021 68,bv 1018 65,bg 1017 64,bg 1012 59,bv 1009 56,bg 1008 55,bg 1003 50,bg 1001 48,bg 1000 47]) (.fresh 76 (.fresh 77 (.fresh 78 (.fresh 79 (.fresh 80 (.fresh 81 (.fresh 82 (.fresh 83 (.fresh 84 (.fresh 85 (.fresh 86 (.fresh 87 (.fresh 88 (.fresh 89 (.fresh 90 (.fresh 91 (.fresh 92 (.fresh 93 (.fresh 94 (.fresh 95 (.fresh 96 (.fresh 97 (.fresh 98 (.fresh 99 (.fresh 100 (.fresh 101 (.fresh 102 (.fresh 103 (.fresh 104 (.fresh 105 o_mem2)))))))))))))))))))))))))))))))))))) .top)))))))) .top)))))
@[simp] def o_mem0_2:Sg:=sg 0 [bv 11 31,bv 9 50,bt 8 (.dtake (.var 21) (.var 5)),bv 1 37,bv 7 50,bv 6 5,bg 5 49,bv 4 2,bv 3 1,bv 2 0,bg 0 36,bg 10 30]
@[simp] def o_mem0_1:Sg:=sg 0 [bv 11 31,bv 9 49,bt 8 (.dtake (.var 21) (.var 5)),bv 1 37,bv 7 49,bv 6 5,bg 5 48,bv 4 2,bv 3 1,bv 2 0,bg 0 36,bg 10 30]
def o_mem0:Out:=(.hyp 0 35 (.both (.both (.fresh 47 (.both (.need (.cmp .leq (.var 5) (.dlen (.var 21))) (.need (.cmp .leq (.tims (.lit 1) (.var 5)) (.lit 140737488355328)) (.fresh 48 (.fresh 49 (.both (.know (.cmp .leq (.dlen (.dtake (.var 21) (.var 5))) (.var 49)) (.pre 2 o_mem0_1 (.both (.fresh 50 (.fresh 51 (.fresh 52 (.fresh 53 (.fresh 54 (.fresh 55 (.fresh 56 (.fresh 57 (.fresh 58 (.post 2 0 o_mem0_1 50 (.both (.fresh 59 (.both (.pack [.abs 58 10] 60 (.cut 1 47 (sg 1000 [bg 1020 60,bv 1019 57,bv 1016 56,bv 1015 52,bg 1014 51,bt 1013 (r8 50),bg 1011 46,bv 1010 45,bv 1007 42,bv 1006 41,bg 1005 40,bt 1004 (r8 39),bv 1002 55,bv 1018 54,bg 1017 53,bg 1012 59,bv 1009 44,bg 1008 43,bg 1003 38,bg 1001 36,bg 1000 35]))) .top)) .top))))))))))) .top))) (.both (.fresh 50 (.both (.know (.cmp .leq (.dlen (.dtake (.var 21) (.var 5))) (.var 49)) (.pre 2 o_mem0_1 (.both (.fresh 51 (.fresh 52 (.fresh 53 (.fresh 54 (.fresh 55 (.fresh 56 (.fresh 57 (.fresh 58 (.fresh 59 (.post 2 0 o_mem0_1 51 (.both (.pack [.abs 59 10] 60 (.cut 1 47 (sg 1000 [bg 1020 60,bv 1019 58,bv 1016 57,bv 1015 53,bg 1014 52,bt 1013 (r8 51),bg 1011 46,bv 1010 45,bv 1007 42,bv 1006 41,bg 1005 40,bt 1004 (r8 39),bv 1002 56,bv 1018 55,bg 1017 54,bg 1012 50,bv 1009 44,bg 1008 43,bg 1003 38,bg 1001 36,bg 1000 35]))) .top))))))))))) .top))) .top)) .top)))))) (.both (.fresh 48 (.both (.need (.cmp .leq (.var 5) (.dlen (.var 21))) (.need (.cmp .leq (.tims (.lit 1) (.var 5)) (.lit 140737488355328)) (.fresh 49 (.fresh 50 (.both (.know (.cmp .leq (.dlen (.dtake (.var 21) (.var 5))) (.var 50)) (.pre 2 o_mem0_2 (.both (.fresh 51 (.fresh 52 (.fresh 53 (.fresh 54 (.fresh 55 (.fresh 56 (.fresh 57 (.fresh 58 (.fresh 59 (.post 2 0 o_mem0_2 51 (.both (.pack [.abs 59 10] 60 (.cut 1 47 (sg 1000 [bg 1020 60,bv 1019 58,bv 1016 57,bv 1015 53,bg 1014 52,bt 1013 (r8 51),bg 1011 46,bv 1010 45,bv 1007 42,bv 1006 41,bg 1005 40,bt 1004 (r8 39),bv 1002 56,bv 1018 55,bg 1017 54,bg 1012 48,bv 1009 44,bg 1008 43,bg 1003 38,bg 1001 36,bg 1000 35]))) .top))))))))))) .top))) .top))))) .top)) .top))) (.both (.fresh 47 (.both (.fresh 48 (.both (.need (.cmp .leq (.var 5) (.dlen (.var 21))) (.need (.cmp .leq (.tims (.lit 1) (.var 5)) (.lit 140737488355328)) (.fresh 49 (.fresh 50 (.both (.know (.cmp .leq (.dlen (.dtake (.var 21) (.var 5))) (.var 50)) (.pre 2 o_mem0_2 (.both (.fresh 51 (.fresh 52 (.fresh 53 (.fresh 54 (.fresh 55 (.fresh 56 (.fresh 57 (.fresh 58 (.fresh 59 (.post 2 0 o_mem0_2 51 (.both (.pack [.abs 59 10] 60 (.cut 1 47 (sg 1000 [bg 1020 60,bv 1019 58,bv 1016 57,bv 1015 53,bg 1014 52,bt 1013 (r8 51),bg 1011 46,bv 1010 45,bv 1007 42,bv 1006 41,bg 1005 40,bt 1004 (r8 39),bv 1002 56,bv 1018 55,bg 1017 54,bg 1012 47,bv 1009 44,bg 1008 43,bg 1003 38,bg 1001 36,bg 1000 35]))) .top))))))))))) .top))) .top))))) .top)) .top)) .top)) (.fresh 47 (.fresh 48 (.fresh 49 (.fresh 50 (.fresh 51 (.fresh 52 (.fresh 53 (.fresh 54 (.fresh 55 (.fresh 56 (.fresh 57 (.fresh 58 (.fresh 59 (.fresh 60 (.fresh 61 (.fresh 62 (.fresh 63 (.fresh 64 (.fresh 65 (.fresh 66 (.fresh 67 o_mem1)))))))))))))))))))))))
@[simp] def o_lawMemory_3:Out:=.pre 0 (sg 0 [bv 1 31,bg 0 30]) (.both (.post 0 0 (sg 0 [bv 1 31,bg 0 30]) 33 (.ret 0 (sg 32 []))) .top)
@[simp] def o_lawMemory_2:Sg:=sg 0 [bv 11 31,bv 9 38,bt 8 (.dtake (.var 21) (.var 5)),bv 1 34,bv 7 38,bv 6 5,bg 5 37,bv 4 2,bv 3 1,bv 2 0,bg 0 33,bg 10 30]
@[simp] def o_lawMemory_1:Sg:=sg 0 [bv 11 31,bv 9 37,bt 8 (.dtake (.var 21) (.var 5)),bv 1 34,bv 7 37,bv 6 5,bg 5 36,bv 4 2,bv 3 1,bv 2 0,bg 0 33,bg 10 30]
def o_lawMemory:Out:=(.fresh 32 (.br (.cmp .lss (.var 0) (.lit 1))
 o_lawMemory_3
 (.br (.cmp .gtr (.var 0) (.var 1))
 o_lawMemory_3
 (.br (.cmp .gtr (.var 1) (.var 2))
 o_lawMemory_3
 (.br (.cmp .gtr (.var 2) (.lit 20))
 o_lawMemory_3
 (.need (.cmp .leq (.lit 0) (.var 5)) (.br (.cmp .gtr (.var 5) (.lit 2000))
 o_lawMemory_3
 (.pre 1 (sg 0 []) (.both (.fresh 33 (.fresh 34 (.post 1 0 (sg 0 []) 33 (.both (.both (.fresh 35 (.both (.need (.cmp .leq (.var 5) (.dlen (.var 21))) (.need (.cmp .leq (.tims (.lit 1) (.var 5)) (.lit 140737488355328)) (.fresh 36 (.fresh 37 (.both (.know (.cmp .leq (.dlen (.dtake (.var 21) (.var 5))) (.var 37)) (.pre 2 o_lawMemory_1 (.both (.fresh 38 (.fresh 39 (.fresh 40 (.fresh 41 (.fresh 42 (.fresh 43 (.fresh 44 (.fresh 45 (.fresh 46 (.post 2 0 o_lawMemory_1 38 (.both (.fresh 47 (.both (.pack [.abs 46 10] 48 (.cut 0 35 (sg 1000 [bg 1011 48,bv 1010 45,bv 1007 44,bv 1006 40,bg 1005 39,bt 1004 (r8 38),bv 1002 43,bv 1009 42,bg 1008 41,bg 1003 47,bg 1001 33,bg 1000 32]))) .top)) .top))))))))))) .top))) (.both (.fresh 38 (.both (.know (.cmp .leq (.dlen (.dtake (.var 21) (.var 5))) (.var 37)) (.pre 2 o_lawMemory_1 (.both (.fresh 39 (.fresh 40 (.fresh 41 (.fresh 42 (.fresh 43 (.fresh 44 (.fresh 45 (.fresh 46 (.fresh 47 (.post 2 0 o_lawMemory_1 39 (.both (.pack [.abs 47 10] 48 (.cut 0 35 (sg 1000 [bg 1011 48,bv 1010 46,bv 1007 45,bv 1006 41,bg 1005 40,bt 1004 (r8 39),bv 1002 44,bv 1009 43,bg 1008 42,bg 1003 38,bg 1001 33,bg 1000 32]))) .top))))))))))) .top))) .top)) .top)))))) (.both (.fresh 36 (.both (.need (.cmp .leq (.var 5) (.dlen (.var 21))) (.need (.cmp .leq (.tims (.lit 1) (.var 5)) (.lit 140737488355328)) (.fresh 37 (.fresh 38 (.both (.know (.cmp .leq (.dlen (.dtake (.var 21) (.var 5))) (.var 38)) (.pre 2 o_lawMemory_2 (.both (.fresh 39 (.fresh 40 (.fresh 41 (.fresh 42 (.fresh 43 (.fresh 44 (.fresh 45 (.fresh 46 (.fresh 47 (.post 2 0 o_lawMemory_2 39 (.both (.pack [.abs 47 10] 48 (.cut 0 35 (sg 1000 [bg 1011 48,bv 1010 46,bv 1007 45,bv 1006 41,bg 1005 40,bt 1004 (r8 39),bv 1002 44,bv 1009 43,bg 1008 42,bg 1003 36,bg 1001 33,bg 1000 32]))) .top))))))))))) .top))) .top))))) .top)) .top))) (.both (.fresh 35 (.both (.fresh 36 (.both (.need (.cmp .leq (.var 5) (.dlen (.var 21))) (.need (.cmp .leq (.tims (.lit 1) (.var 5)) (.lit 140737488355328)) (.fresh 37 (.fresh 38 (.both (.know (.cmp .leq (.dlen (.dtake (.var 21) (.var 5))) (.var 38)) (.pre 2 o_lawMemory_2 (.both (.fresh 39 (.fresh 40 (.fresh 41 (.fresh 42 (.fresh 43 (.fresh 44 (.fresh 45 (.fresh 46 (.fresh 47 (.post 2 0 o_lawMemory_2 39 (.both (.pack [.abs 47 10] 48 (.cut 0 35 (sg 1000 [bg 1011 48,bv 1010 46,bv 1007 45,bv 1006 41,bg 1005 40,bt 1004 (r8 39),bv 1002 44,bv 1009 43,bg 1008 42,bg 1003 35,bg 1001 33,bg 1000 32]))) .top))))))))))) .top))) .top))))) .top)) .top)) .top)) (.fresh 35 (.fresh 36 (.fresh 37 (.fresh 38 (.fresh 39 (.fresh 40 (.fresh 41 (.fresh 42 (.fresh 43 (.fresh 44 (.fresh 45 (.fresh 46 o_mem0)))))))))))))))) .top)))))))))
theorem o_lawMemory_eq:treeOf ⟨Tryd.prog,lawMemoryC,[knownC,newFieldC,makeGC,encMan1C,same33M],[memJ1,memJ2,memL1,memL2,memL3,memL4,memJ3]⟩ 100000 Tryd.f4 = o_lawMemory:=by kernel_rfl
theorem lawMemory_of (hd:∀ c ∈ ([knownC,newFieldC,makeGC,encMan1C,same33M]:List Ctr),c.ok Tryd.prog) (h:∀ ρ:Env,ρ.good→(lawMemoryC).pre ρ→o_lawMemory.den ⟨Tryd.prog,lawMemoryC,[knownC,newFieldC,makeGC,encMan1C,same33M],[memJ1,memJ2,memL1,memL2,memL3,memL4,memJ3]⟩ ρ):(lawMemoryC).ok Tryd.prog :=
 ok_of_tree Tryd.func4 (fun a w=>Tryd.call4 a w) hd 100000 (fun ρ hg hp=>by rw [o_lawMemory_eq]; exact h ρ hg hp)
end Go.Proofs

set_option linter.unusedSimpArgs false
set_option linter.unusedVariables false
namespace Go.Proofs
open Go Go.Eng
theorem encMan1_ok:encMan1C.ok Tryd.prog:=Ctr.ok_less encMan_ok rfl rfl rfl rfl rfl (fun ρ h=>h.1) fun ρ ρ' ai al hp hag hal hpost=>by
 match ai,hal with
 | 0,hal =>
  exfalso
  obtain rfl:=Option.some.inj hal
  have h2:manOk ((ρ'.upto 10) 0).i ((ρ'.upto 10) 1).i ((ρ'.upto 10) 2).i ((ρ'.upto 10) 3).i ((ρ'.upto 10) 6).i = false:=hpost
  have e:=upto_at (m:=10) (nv:=10) hag (by omega)
  rw [e 0 (by omega),e 1 (by omega),e 2 (by omega),e 3 (by omega),e 6 (by omega),hp.2] at h2
  cases h2
 | 1,hal=>exact ⟨0,hal⟩
 | n + 2,hal=>cases hal
theorem same33m_ok:same33M.ok Tryd.prog:=same33m_of (by simp) fun ρ hg hp=>by
 obtain ⟨n0,n9,n1,p0,p1⟩:=hp
 simp (config:={ maxSteps:=4000000 }) [o_same33m,same33M,same33MI,same33Of,same33IOf]
 refine ⟨n0,n1,fun h hs=>h (by have:=hs.1; omega),fun hn=>⟨⟨n0,hn,fun j hj=>absurd hj (by omega)⟩,fun i _ i0 i1 _ hin=>⟨fun hi=>?_,fun hi=>⟨by rw [hn],fun j hj=>hin j (by omega)⟩⟩⟩⟩
 obtain ⟨l1,c1,d1,r1,b1,e1⟩:=pc_atI p0 i0 hi
 obtain ⟨l2,c2,d2,r2,b2,e2⟩:=pc_atI p1 i0 (by omega)
 rw [c1,c2,add64 (by omega) (by omega)]
 have hnext:vStr (.string ⟨(bytesOf d1).toArray⟩) = vStr (.string ⟨(bytesOf d2).toArray⟩)→pcI (ρ 3).d i.i.toNat = pcI (ρ 8).d i.i.toNat→∀ j:Nat,(j:Int) < i.i + 1→pcI (ρ 3).d j = pcI (ρ 8).d j∧pcD (ρ 10).h (ρ 3).d j = pcD (ρ 11).h (ρ 8).d j:=fun h hI j hj=>by
  by_cases hj':j = i.i.toNat
  ·subst hj'
   rw [str_eq,str_eq,bytesOf_inj b1 b2] at h
   exact ⟨hI,by rw [e1,e2,h]⟩
  ·exact hin j (by omega)
 have hdiff:samePc (ρ 10).h (ρ 11).h (ρ 3).d (ρ 8).d (ρ 1).i.toNat (ρ 6).i.toNat→vStr (.string ⟨(bytesOf d1).toArray⟩) = vStr (.string ⟨(bytesOf d2).toArray⟩):=fun hs=>by
  rw [str_eq,str_eq,bytesOf_inj b1 b2,← e1,← e2]
  exact (hs.2 _ (by omega)).2
 exact ⟨i0,l1,by omega,l2,fun h hs=>h (hs.2 i.i.toNat (by omega)).1,fun hI=>⟨⟨d1,.inl r1,d2,.inr r2,fun h hs=>h (hdiff hs),fun h=>⟨⟨by omega,by omega,hn,hnext h hI⟩,by omega⟩⟩,⟨d2,.inr r2,d1,.inl r1,fun h hs=>h (hdiff hs),fun h=>⟨⟨by omega,by omega,hn,hnext h hI⟩,by omega⟩⟩⟩⟩
set_option maxRecDepth 100000
theorem vLen_Rd {h:Hp} {pat:List CK} {v:Value} {d:Rows'} (hr:Rd h pat v d):vLen v = d.length:=by
 rcases hr with ⟨a,h1,h2⟩ | ⟨b,o,cap,c,ty,fr,h1,_⟩
 ·rw [h1,h2]; rfl
 ·rw [h1]; rfl
theorem same_enc {h h':Hp} {D D':Rows'} {n:Nat} {f:Nat→List Int} (h1:encAt h D n f) (h2:encAt h' D' n f):samePc h h' D D' n n :=
 ⟨rfl,fun j hj=>⟨((enc_pc h1).2 j hj).1.trans ((enc_pc h2).2 j hj).1.symm,((enc_pc h1).2 j hj).2.trans ((enc_pc h2).2 j hj).2.symm⟩⟩
theorem mem_flat {l:List (List Int)} {n:Nat} (h:∀ x ∈ l,x.length = n):l.flatten.length = n * l.length:=by
 induction l with
 | nil=>simp
 | cons x l ih =>
  rw [List.flatten_cons,List.length_append,ih (fun y hy=>h y (List.mem_cons_of_mem _ hy)),h x (List.mem_cons_self ..),List.length_cons,Nat.mul_succ]; omega
theorem memA_len {k n t s:Int} {f:Nat→List Int} {D:Rows'} {O:List Int} (h:bI D = manHead k n t s (sha O) ++ (madeAt f t.toNat).flatten) (h0:0 ≤ t):(D.length:Int) = 39 + 32 * t:=by
 have h1:=congrArg List.length h
 rw [bI_len,List.length_append,manHead_len sha_len,mem_flat (n:=32) (fun x hx=>by
  obtain ⟨i,_,rfl⟩:=List.mem_map.1 hx
  exact sha_len)] at h1
 have h2:(madeAt f t.toNat).length = t.toNat:=by simp [madeAt]
 rw [h2] at h1
 omega
theorem mem_take {a b:Int} {A B:Rows'} (ha:a = (A.length:Int)) (hb:b = (B.length:Int)) (h:bI A = bI B):bytesOf (A.take a.toNat) = bytesOf (B.take b.toNat):=by
 rw [List.take_of_length_le (by omega),List.take_of_length_le (by omega),bytesOf_eq,bytesOf_eq,h]
theorem pcL_enc {k t:Int} {h:Hp} {D:Rows'} {O:List Int} (hE:encAt h D t.toNat (encP k.toNat t.toNat O)) (h9:∀ j,j < t.toNat→(pcD h D j).length ≤ 9000):pcL D t.toNat:=fun j hj=>by
 obtain ⟨v,d,e,hr,hd,hB⟩:=hE j hj
 have hv:cellV D j 1 = v:=by simp only [cellV,Int.toNat_natCast,e,Option.getD_some]; rfl
 have h1:=h9 j hj
 have h2:=((enc_pc hE).2 j hj).2
 rw [h2,← hd,bI_len] at h1
 rw [hv,vLen_Rd hr]; omega
theorem top_ofM {k t:Int} (hs:sizesB k t = true):(topE k.toNat t.toNat).2.2 = k.toNat:=by
 obtain ⟨k1,k2,k3⟩:=sizesB_iff.1 hs
 exact top_rank (by omega) (by omega)
theorem enc_same {k n t s:Int} {A G:Rows'} {R O:List Int} {f:Nat→List Int} {c:Nat} (h:bI A = manHead k n t s R ++ (dgs G).flatten) (hR:R = sha O) (hG:dgs G = madeAt f c):bI A = manHead k n t s (sha O) ++ (madeAt f c).flatten:=by rw [h,hR,hG]
theorem enc_same2 {k n t s:Int} {A B G:Rows'} {R O:List Int} {f:Nat→List Int} {c:Nat} (h:bI A = manHead k n t s R ++ (dgs G).flatten) (hR:R = sha O) (hG:dgs G = madeAt f c) (hB:bI B = manHead k n t s (sha O) ++ (madeAt f c).flatten):bI A = bI B:=by rw [enc_same h hR hG,hB]
theorem allM_sha {R O:List Int} (h:R = sha O):allM R:=by rw [h]; exact sha_allM _
theorem enc_short {k n t s l x:Int} {A G:Rows'} {R O:List Int} (hx:x = (A.length:Int)) (h:bI A = manHead k n t s R ++ (dgs G).flatten) (hR:R = sha O) (hl:(G.length:Int) = l) (h2:l ≤ 20):x ≤ 1000:=by
 have h1:=congrArg List.length h
 rw [bI_len,List.length_append,hR,manHead_len sha_len,mem_flat (n:=32) (fun y hy=>by
  obtain ⟨r,_,rfl⟩:=List.mem_map.1 hy
  simp [rowB])] at h1
 have h3:(dgs G).length = G.length:=by simp [dgs]
 rw [h3] at h1
 omega
noncomputable abbrev memE:Ctx:=⟨Tryd.prog,lawMemoryC,[knownC,newFieldC,makeGC,encMan1C,same33M],[memJ1,memJ2,memL1,memL2,memL3,memL4,memJ3]⟩
theorem mem_pre {ρ ρ':Env} (h:∀ n,n < 32→ρ' n = ρ n) (hp:lawMemoryC.pre ρ):lawMemoryC.pre ρ':=by
 change caseIn ρ'∧gOk ρ' 30 31 gR
 have hp:caseIn ρ∧gOk ρ 30 31 gR:=hp
 unfold caseIn gOk at hp ⊢
 simp only [h 0 (by decide),h 1 (by decide),h 2 (by decide),h 3 (by decide),h 5 (by decide),h 6 (by decide),h 7 (by decide),h 8 (by decide),h 9 (by decide),h 10 (by decide),h 11 (by decide),h 13 (by decide),h 14 (by decide),h 16 (by decide),h 17 (by decide),h 19 (by decide),h 20 (by decide),h 21 (by decide),h 23 (by decide),h 25 (by decide),h 27 (by decide),h 29 (by decide),h 30 (by decide),h 31 (by decide)]
 exact hp
set_option maxHeartbeats 8000000 in
theorem mem6_den:∀ ρ:Env,lawMemoryC.pre ρ→o_mem6.den memE ρ:=fun ρ hp=>by
 obtain ⟨⟨ik,i1,i2,i3,mk,m1,m2,m3,⟨dl,dl1,dB,dc⟩,hO,⟨ml,ml1,mD,mc⟩,⟨pl,pl1,pc,pok⟩,bl,bl1⟩,hGr,hGd⟩:=hp
 simp (config:={ maxSteps:=8000000 }) [o_mem6,lawMemoryC,lawTrue,knownC,same33M,same33Of,memJ3,memIs,memA,rstF,manT,cellsT,gOk,vStr_mk,hGr,hGd,dl,dB]
 repeat' (first | with_reducible apply And.intro | with_reducible intro _)
 all_goals first
  | assumption
  | omega
  | trivial
  | exact (enc_pc (by assumption)).1
  | (rename_i h; refine h.2 ?_; exact same_enc (by assumption) (by assumption))
  | exact mem_take (by assumption) (by assumption) (by assumption)
  | (have e1:arithOf .mul .i64 32 (ρ 2).i = 32 * (ρ 2).i:=mul64 (by omega) (by omega); have e2:arithOf .add .i64 39 (32 * (ρ 2).i) = 39 + 32 * (ρ 2).i:=add64 (by omega) (by omega); rw [e1,e2,← memA_len (by assumption) (by omega)]; omega)
set_option maxHeartbeats 8000000 in
theorem mem4_den:∀ ρ:Env,lawMemoryC.pre ρ→o_mem4.den memE ρ:=fun ρ hp=>by
 obtain ⟨⟨ik,i1,i2,i3,mk,m1,m2,m3,⟨dl,dl1,dB,dc⟩,hO,⟨ml,ml1,mD,mc⟩,⟨pl,pl1,pc,pok⟩,bl,bl1⟩,hGr,hGd⟩:=hp
 simp (config:={ maxSteps:=8000000 }) [o_mem4,lawMemoryC,memL3,memL2,memW,memM,memN,memIs,memA,rstF,manT,cellsT,gOk,hGr,hGd,dl,dB]
 intro k1 kn nt t20 dl20 hf hObj hGk hG hEl hE hA1 hA2 hA3 hMl hPl hpc hpl hBl hBs i0 i1 j0 hij
 have hpcn:pcOk (ρ 147).h (ρ 146).d (ρ 2).i.toNat:=hpc
 obtain ⟨l1,c1,d,hr,hB,hd⟩:=pc_atI hpcn i0 i1
 have hv:=vLen_Rd hr
 have h9:=hpl (ρ 165).i.toNat (by omega)
 rw [Int.toNat_of_nonneg i0,hv] at h9
 have ha:arithOf .add .i64 (ρ 165).i 1 = (ρ 165).i + 1:=add64 (by omega) (by omega)
 refine ⟨i0,i1,by omega,d,hr,fun u0 _ u1 _ hs hc=>⟨fun hlt=>⟨d,hr,fun v0 _ v1 _ hs' hc'=>⟨j0,hlt,fun u _ hP=>?_⟩⟩,fun hge=>?_⟩⟩
 ·have hP':Put (ρ 147).h u.h v0.r kB d (ρ 166).i.toNat [.int .u8 (arithOf .xor .u8 (cellI d (ρ 166).i 0) 255)]:=hP
  have hp2:=put_pcOk hpcn hP' xor8_range
  have hb:arithOf .add .i64 (ρ 166).i 1 = (ρ 166).i + 1:=add64 (by omega) (by omega)
  rw [hb,hv]
  refine ⟨⟨⟨⟨k1,kn,nt,t20,dl20⟩,hf,⟨hObj,hGk,hG,hEl,hE⟩,hA1,hA2,hA3⟩,⟨hMl,hPl,hp2,hpl⟩,hBl,hBs,i0,i1,by omega,hij⟩,by omega⟩
 ·rw [ha]
  refine ⟨⟨⟨⟨k1,kn,nt,t20,dl20⟩,hf,⟨hObj,hGk,hG,hEl,hE⟩,hA1,hA2,hA3⟩,⟨hMl,hPl,hpc,hpl⟩,hBl,hBs,by omega,by omega⟩,by omega⟩
set_option maxHeartbeats 8000000 in
theorem mem5_den:∀ ρ:Env,lawMemoryC.pre ρ→o_mem5.den memE ρ:=fun ρ hp=>by
 have hp0:=hp
 obtain ⟨⟨ik,i1,i2,i3,mk,m1,m2,m3,⟨dl,dl1,dB,dc⟩,hO,⟨ml,ml1,mD,mc⟩,⟨pl,pl1,pc,pok⟩,bl,bl1⟩,hGr,hGd⟩:=hp
 simp (config:={ maxSteps:=8000000 }) [o_mem5,lawMemoryC,lawTrue,knownC,newFieldC,makeGC,makeC,encMan1C,encManC,memJ1,memJ2,memL1,memL2,memL3,memL4,memJ3,memW,memM,memN,memIs,memA,rstF,manV,manT,cellsT,gOk,hGr,hGd,dl,dB]
 have hb:bytesL (bI (ρ 21).d):=allB_list dB
 repeat' (first | with_reducible apply And.intro | with_reducible intro _)
 all_goals first
  | assumption
  | omega
  | trivial
  | (rw [putD_len]; omega)
  | (rw [add64 (by omega) (by omega)]; omega)
  | exact top_ofM (by assumption)
  | exact (by unfold sizes3; exact decide_eq_true ⟨by assumption,by assumption,by assumption,by omega⟩)
  | exact manOk_iff.2 ⟨by assumption,by assumption,by assumption,by omega,by omega,by omega,rfl⟩
  | exact allM_sha (by assumption)
  | exact (by have h:=made_len (by assumption); omega)
  | exact enc_same2 (by assumption) (by assumption) (by assumption) (by assumption)
  | exact enc_same (by assumption) (by assumption) (by assumption)
  | exact enc_short (l:=(ρ 2).i) (by assumption) (by assumption) (by assumption) (by omega) (by assumption)
  | exact (enc_pc (by assumption)).1
  | exact encAt_mono (by assumption) (by have h:=star_leT 182 10 (by assumption) (by simp); simpa using h)
  | exact encAt_mono (by assumption) (by have h:=star_leT 181 10 (by assumption) (by simp); simpa using h)
  | exact encAt_mono (by assumption) (by have h:=star_leT 58 10 (by assumption) (by simp); simpa using h)
  | exact encAt_mono (by assumption) (by have h:=star_leT 59 10 (by assumption) (by simp); simpa using h)
  | exact encAt_mono (by assumption) (by have h:=star_leT 46 10 (by assumption) (by simp); simpa using h)
  | exact encAt_mono (by assumption) (by have h:=star_leT 47 10 (by assumption) (by simp); simpa using h)
  | exact pcL_enc (by assumption) (fun j hj=>enc_len9 (by assumption) hj (by omega) (by omega) (by omega) hb (by rw [bI_len]; omega))
  | exact mem6_den _ (mem_pre (fun n hn=>by repeat rw [Env.set_ne _ _ (by omega)]) hp0)
set_option maxHeartbeats 8000000 in
theorem mem3_den:∀ ρ:Env,lawMemoryC.pre ρ→o_mem3.den memE ρ:=fun ρ hp=>by
 have hp0:=hp
 obtain ⟨⟨ik,i1,i2,i3,mk,m1,m2,m3,⟨dl,dl1,dB,dc⟩,hO,⟨ml,ml1,mD,mc⟩,⟨pl,pl1,pc,pok⟩,bl,bl1⟩,hGr,hGd⟩:=hp
 simp (config:={ maxSteps:=8000000 }) [o_mem3,lawMemoryC,lawTrue,knownC,newFieldC,makeGC,makeC,encMan1C,encManC,memJ1,memJ2,memL1,memL2,memL3,memL4,memJ3,memW,memM,memN,memIs,memA,rstF,manV,manT,cellsT,gOk,hGr,hGd,dl,dB]
 have hb:bytesL (bI (ρ 21).d):=allB_list dB
 repeat' (first | with_reducible apply And.intro | with_reducible intro _)
 all_goals first
  | assumption
  | omega
  | trivial
  | (rw [putD_len]; omega)
  | (rw [add64 (by omega) (by omega)]; omega)
  | exact top_ofM (by assumption)
  | exact (by unfold sizes3; exact decide_eq_true ⟨by assumption,by assumption,by assumption,by omega⟩)
  | exact manOk_iff.2 ⟨by assumption,by assumption,by assumption,by omega,by omega,by omega,rfl⟩
  | exact allM_sha (by assumption)
  | exact (by have h:=made_len (by assumption); omega)
  | exact enc_same2 (by assumption) (by assumption) (by assumption) (by assumption)
  | exact enc_same (by assumption) (by assumption) (by assumption)
  | exact enc_short (l:=(ρ 2).i) (by assumption) (by assumption) (by assumption) (by omega) (by assumption)
  | exact (enc_pc (by assumption)).1
  | exact encAt_mono (by assumption) (by have h:=star_leT 182 10 (by assumption) (by simp); simpa using h)
  | exact encAt_mono (by assumption) (by have h:=star_leT 181 10 (by assumption) (by simp); simpa using h)
  | exact encAt_mono (by assumption) (by have h:=star_leT 58 10 (by assumption) (by simp); simpa using h)
  | exact encAt_mono (by assumption) (by have h:=star_leT 59 10 (by assumption) (by simp); simpa using h)
  | exact encAt_mono (by assumption) (by have h:=star_leT 46 10 (by assumption) (by simp); simpa using h)
  | exact encAt_mono (by assumption) (by have h:=star_leT 47 10 (by assumption) (by simp); simpa using h)
  | exact pcL_enc (by assumption) (fun j hj=>enc_len9 (by assumption) hj (by omega) (by omega) (by omega) hb (by rw [bI_len]; omega))
  | exact mem6_den _ (mem_pre (fun n hn=>by repeat rw [Env.set_ne _ _ (by omega)]) hp0)
  | exact mem5_den _ (mem_pre (fun n hn=>by repeat rw [Env.set_ne _ _ (by omega)]) hp0)
  | exact mem4_den _ (mem_pre (fun n hn=>by repeat rw [Env.set_ne _ _ (by omega)]) hp0)
set_option maxHeartbeats 8000000 in
theorem mem2_den:∀ ρ:Env,lawMemoryC.pre ρ→o_mem2.den memE ρ:=fun ρ hp=>by
 have hp0:=hp
 obtain ⟨⟨ik,i1,i2,i3,mk,m1,m2,m3,⟨dl,dl1,dB,dc⟩,hO,⟨ml,ml1,mD,mc⟩,⟨pl,pl1,pc,pok⟩,bl,bl1⟩,hGr,hGd⟩:=hp
 simp (config:={ maxSteps:=8000000 }) [o_mem2,lawMemoryC,lawTrue,knownC,newFieldC,makeGC,makeC,encMan1C,encManC,memJ1,memJ2,memL1,memL2,memL3,memL4,memJ3,memW,memM,memN,memIs,memA,rstF,manV,manT,cellsT,gOk,hGr,hGd,dl,dB]
 have hb:bytesL (bI (ρ 21).d):=allB_list dB
 repeat' (first | with_reducible apply And.intro | with_reducible intro _)
 all_goals first
  | assumption
  | omega
  | trivial
  | (rw [putD_len]; omega)
  | (rw [add64 (by omega) (by omega)]; omega)
  | exact top_ofM (by assumption)
  | exact (by unfold sizes3; exact decide_eq_true ⟨by assumption,by assumption,by assumption,by omega⟩)
  | exact manOk_iff.2 ⟨by assumption,by assumption,by assumption,by omega,by omega,by omega,rfl⟩
  | exact allM_sha (by assumption)
  | exact (by have h:=made_len (by assumption); omega)
  | exact enc_same2 (by assumption) (by assumption) (by assumption) (by assumption)
  | exact enc_same (by assumption) (by assumption) (by assumption)
  | exact enc_short (l:=(ρ 2).i) (by assumption) (by assumption) (by assumption) (by omega) (by assumption)
  | exact (enc_pc (by assumption)).1
  | exact encAt_mono (by assumption) (by have h:=star_leT 182 10 (by assumption) (by simp); simpa using h)
  | exact encAt_mono (by assumption) (by have h:=star_leT 181 10 (by assumption) (by simp); simpa using h)
  | exact encAt_mono (by assumption) (by have h:=star_leT 58 10 (by assumption) (by simp); simpa using h)
  | exact encAt_mono (by assumption) (by have h:=star_leT 59 10 (by assumption) (by simp); simpa using h)
  | exact encAt_mono (by assumption) (by have h:=star_leT 46 10 (by assumption) (by simp); simpa using h)
  | exact encAt_mono (by assumption) (by have h:=star_leT 47 10 (by assumption) (by simp); simpa using h)
  | exact pcL_enc (by assumption) (fun j hj=>enc_len9 (by assumption) hj (by omega) (by omega) (by omega) hb (by rw [bI_len]; omega))
  | exact mem6_den _ (mem_pre (fun n hn=>by repeat rw [Env.set_ne _ _ (by omega)]) hp0)
  | exact mem5_den _ (mem_pre (fun n hn=>by repeat rw [Env.set_ne _ _ (by omega)]) hp0)
  | exact mem4_den _ (mem_pre (fun n hn=>by repeat rw [Env.set_ne _ _ (by omega)]) hp0)
  | exact mem3_den _ (mem_pre (fun n hn=>by repeat rw [Env.set_ne _ _ (by omega)]) hp0)
set_option maxHeartbeats 8000000 in
theorem mem1_den:∀ ρ:Env,lawMemoryC.pre ρ→o_mem1.den memE ρ:=fun ρ hp=>by
 have hp0:=hp
 obtain ⟨⟨ik,i1,i2,i3,mk,m1,m2,m3,⟨dl,dl1,dB,dc⟩,hO,⟨ml,ml1,mD,mc⟩,⟨pl,pl1,pc,pok⟩,bl,bl1⟩,hGr,hGd⟩:=hp
 simp (config:={ maxSteps:=8000000 }) [o_mem1,lawMemoryC,lawTrue,knownC,newFieldC,makeGC,makeC,encMan1C,encManC,memJ1,memJ2,memL1,memL2,memL3,memL4,memJ3,memW,memM,memN,memIs,memA,rstF,manV,manT,cellsT,gOk,hGr,hGd,dl,dB]
 have hb:bytesL (bI (ρ 21).d):=allB_list dB
 repeat' (first | with_reducible apply And.intro | with_reducible intro _)
 all_goals first
  | assumption
  | omega
  | trivial
  | (rw [putD_len]; omega)
  | (rw [add64 (by omega) (by omega)]; omega)
  | exact top_ofM (by assumption)
  | exact (by unfold sizes3; exact decide_eq_true ⟨by assumption,by assumption,by assumption,by omega⟩)
  | exact manOk_iff.2 ⟨by assumption,by assumption,by assumption,by omega,by omega,by omega,rfl⟩
  | exact allM_sha (by assumption)
  | exact (by have h:=made_len (by assumption); omega)
  | exact enc_same2 (by assumption) (by assumption) (by assumption) (by assumption)
  | exact enc_same (by assumption) (by assumption) (by assumption)
  | exact enc_short (l:=(ρ 2).i) (by assumption) (by assumption) (by assumption) (by omega) (by assumption)
  | exact (enc_pc (by assumption)).1
  | exact encAt_mono (by assumption) (by have h:=star_leT 182 10 (by assumption) (by simp); simpa using h)
  | exact encAt_mono (by assumption) (by have h:=star_leT 181 10 (by assumption) (by simp); simpa using h)
  | exact encAt_mono (by assumption) (by have h:=star_leT 58 10 (by assumption) (by simp); simpa using h)
  | exact encAt_mono (by assumption) (by have h:=star_leT 59 10 (by assumption) (by simp); simpa using h)
  | exact encAt_mono (by assumption) (by have h:=star_leT 46 10 (by assumption) (by simp); simpa using h)
  | exact encAt_mono (by assumption) (by have h:=star_leT 47 10 (by assumption) (by simp); simpa using h)
  | exact pcL_enc (by assumption) (fun j hj=>enc_len9 (by assumption) hj (by omega) (by omega) (by omega) hb (by rw [bI_len]; omega))
  | exact mem6_den _ (mem_pre (fun n hn=>by repeat rw [Env.set_ne _ _ (by omega)]) hp0)
  | exact mem5_den _ (mem_pre (fun n hn=>by repeat rw [Env.set_ne _ _ (by omega)]) hp0)
  | exact mem4_den _ (mem_pre (fun n hn=>by repeat rw [Env.set_ne _ _ (by omega)]) hp0)
  | exact mem3_den _ (mem_pre (fun n hn=>by repeat rw [Env.set_ne _ _ (by omega)]) hp0)
  | exact mem2_den _ (mem_pre (fun n hn=>by repeat rw [Env.set_ne _ _ (by omega)]) hp0)
set_option maxHeartbeats 8000000 in
theorem mem0_den:∀ ρ:Env,lawMemoryC.pre ρ→o_mem0.den memE ρ:=fun ρ hp=>by
 have hp0:=hp
 obtain ⟨⟨ik,i1,i2,i3,mk,m1,m2,m3,⟨dl,dl1,dB,dc⟩,hO,⟨ml,ml1,mD,mc⟩,⟨pl,pl1,pc,pok⟩,bl,bl1⟩,hGr,hGd⟩:=hp
 simp (config:={ maxSteps:=8000000 }) [o_mem0,lawMemoryC,lawTrue,knownC,newFieldC,makeGC,makeC,encMan1C,encManC,memJ1,memJ2,memL1,memL2,memL3,memL4,memJ3,memW,memM,memN,memIs,memA,rstF,manV,manT,cellsT,gOk,hGr,hGd,dl,dB]
 have hb:bytesL (bI (ρ 21).d):=allB_list dB
 repeat' (first | with_reducible apply And.intro | with_reducible intro _)
 all_goals first
  | assumption
  | omega
  | trivial
  | (rw [putD_len]; omega)
  | (rw [add64 (by omega) (by omega)]; omega)
  | exact top_ofM (by assumption)
  | exact (by unfold sizes3; exact decide_eq_true ⟨by assumption,by assumption,by assumption,by omega⟩)
  | exact manOk_iff.2 ⟨by assumption,by assumption,by assumption,by omega,by omega,by omega,rfl⟩
  | exact allM_sha (by assumption)
  | exact (by have h:=made_len (by assumption); omega)
  | exact enc_same2 (by assumption) (by assumption) (by assumption) (by assumption)
  | exact enc_same (by assumption) (by assumption) (by assumption)
  | exact enc_short (l:=(ρ 2).i) (by assumption) (by assumption) (by assumption) (by omega) (by assumption)
  | exact (enc_pc (by assumption)).1
  | exact encAt_mono (by assumption) (by have h:=star_leT 182 10 (by assumption) (by simp); simpa using h)
  | exact encAt_mono (by assumption) (by have h:=star_leT 181 10 (by assumption) (by simp); simpa using h)
  | exact encAt_mono (by assumption) (by have h:=star_leT 58 10 (by assumption) (by simp); simpa using h)
  | exact encAt_mono (by assumption) (by have h:=star_leT 59 10 (by assumption) (by simp); simpa using h)
  | exact encAt_mono (by assumption) (by have h:=star_leT 46 10 (by assumption) (by simp); simpa using h)
  | exact encAt_mono (by assumption) (by have h:=star_leT 47 10 (by assumption) (by simp); simpa using h)
  | exact pcL_enc (by assumption) (fun j hj=>enc_len9 (by assumption) hj (by omega) (by omega) (by omega) hb (by rw [bI_len]; omega))
  | exact mem6_den _ (mem_pre (fun n hn=>by repeat rw [Env.set_ne _ _ (by omega)]) hp0)
  | exact mem5_den _ (mem_pre (fun n hn=>by repeat rw [Env.set_ne _ _ (by omega)]) hp0)
  | exact mem4_den _ (mem_pre (fun n hn=>by repeat rw [Env.set_ne _ _ (by omega)]) hp0)
  | exact mem3_den _ (mem_pre (fun n hn=>by repeat rw [Env.set_ne _ _ (by omega)]) hp0)
  | exact mem2_den _ (mem_pre (fun n hn=>by repeat rw [Env.set_ne _ _ (by omega)]) hp0)
  | exact mem1_den _ (mem_pre (fun n hn=>by repeat rw [Env.set_ne _ _ (by omega)]) hp0)
set_option maxHeartbeats 8000000 in
theorem lawMemory_ok:lawMemoryC.ok Tryd.prog:=lawMemory_of (by simp [known_ok,newField_ok,makeG_ok,encMan1_ok,same33m_ok]) fun ρ hg hp=>by
 have hp0:=hp
 obtain ⟨⟨ik,i1,i2,i3,mk,m1,m2,m3,⟨dl,dl1,dB,dc⟩,hO,⟨ml,ml1,mD,mc⟩,⟨pl,pl1,pc,pok⟩,bl,bl1⟩,hGr,hGd⟩:=hp
 simp (config:={ maxSteps:=8000000 }) [o_lawMemory,lawMemoryC,lawTrue,knownC,newFieldC,makeGC,makeC,memJ1,memM,memIs,rstF,manV,manT,cellsT,gOk,hGr,hGd,dl,dB]
 have hb:bytesL (bI (ρ 21).d):=allB_list dB
 repeat' (first | with_reducible apply And.intro | with_reducible intro _)
 all_goals first
  | assumption
  | omega
  | trivial
  | exact .inl (by assumption)
  | exact top_ofM (by assumption)
  | exact (by unfold sizes3; exact decide_eq_true ⟨by assumption,by assumption,by assumption,by omega⟩)
  | exact (by have h:=made_len (by assumption); omega)
  | exact encAt_mono (by assumption) (by have h:=star_leT 182 10 (by assumption) (by simp); simpa using h)
  | exact encAt_mono (by assumption) (by have h:=star_leT 181 10 (by assumption) (by simp); simpa using h)
  | exact encAt_mono (by assumption) (by have h:=star_leT 58 10 (by assumption) (by simp); simpa using h)
  | exact encAt_mono (by assumption) (by have h:=star_leT 59 10 (by assumption) (by simp); simpa using h)
  | exact encAt_mono (by assumption) (by have h:=star_leT 46 10 (by assumption) (by simp); simpa using h)
  | exact encAt_mono (by assumption) (by have h:=star_leT 47 10 (by assumption) (by simp); simpa using h)
  | exact (enc_pc (encAt_mono (by assumption) (by have h:=star_leT 46 10 (by assumption) (by simp); simpa using h))).1
  | exact (enc_pc (encAt_mono (by assumption) (by have h:=star_leT 47 10 (by assumption) (by simp); simpa using h))).1
  | exact (enc_pc (by assumption)).1
  | exact pcL_enc (by assumption) (fun j hj=>enc_len9 (by assumption) hj (by omega) (by omega) (by omega) hb (by rw [bI_len]; omega))
  | exact mem0_den _ (mem_pre (fun n hn=>by repeat rw [Env.set_ne _ _ (by omega)]) hp0)
end Go.Proofs
