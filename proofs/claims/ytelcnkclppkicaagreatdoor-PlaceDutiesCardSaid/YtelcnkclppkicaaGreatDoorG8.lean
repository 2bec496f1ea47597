/- Texts W5, W6, YM, YR, CQ, CR, YS, W7, YU, YV, YW, CS, W9, V3, VT, VZ, VW, CT, CW, V4, VM, VU, WF, VV, WA, WE, VX, VY, WG, WH, WI, WN, CV, CX, WO, WQ, CY, E13, E14, FD, FE, FF, FG, PF, PH, PL, PO, PR, PS, QA, QF, PG, PI, PJ, PK, PM, PN, PP, PQ, PT, PU. -/
import Derived.Test.YtelcnkclppkicaaGreatDoorG7
import Derived.Test.YtelcnkclppkicaaGreatDoorG5
import Derived.Test.YtelcnkclppkicaaGreatDoorProg
import Derived.Test.YtelcnkclppkicaaGreatDoorG4
import Derived.WalkKit
import Derived.ProofKit
import Derived.OpenShut
import Derived.Carry
import Derived.SizedLaws
import Derived.WalkCall
import Derived.Laws.Externs
import Derived.Lib.Bytealg
import Derived.Lib.BytesEntry
set_option linter.unusedSimpArgs false
set_option linter.unusedVariables false
namespace Go.Eng
open Go Go.Proofs
def qcs (k total:Nat) (rs:List Int):Prop:=rs.length = k/\rs.Nodup/\∀ x ∈ rs,0 <= x/\x < (total:Int)
end Go.Eng
namespace Go.Proofs
open Go Go.Eng

theorem qud {i j:Nat}:del i j = del j i:=by
 unfold del
 by_cases hij:i = j
 ·rw [if_pos hij,if_pos hij.symm]
 ·rw [if_neg hij,if_neg (Ne.symm hij)]
theorem qqZ {m:List Int} {k R:Nat} (hm:m.length = R * k):∀ {rs:List Int},(∀ x ∈ rs,0 <= x/\x < (R:Int))->∀ {i j:Nat},i < rs.length->j < k->(qg0 m k rs).getD (i * k + j) 0 = m.getD ((rs.getD i 0).toNat * k + j) 0
 | [],_,i,j,hi,_=>by simp at hi
 | x :: rs,h,i,j,hi,hj=>by
  have hx:=h x (List.mem_cons_self ..)
  have hxk:x.toNat * k + k <= R * k:=by
   have h1:x.toNat + 1 <= R:=by omega
   have:=Nat.mul_le_mul_right k h1
   rw [Nat.add_mul] at this; omega
  have hsl:(seg m (x.toNat * k) k).length = k:=by rw [seg,List.length_take,List.length_drop]; omega
  rw [qg0,List.flatMap_cons]
  cases i with
  | zero =>
   rw [Nat.zero_mul,Nat.zero_add,List.getD_eq_getElem?_getD,List.getElem?_append_left (by rw [hsl]; exact hj),seg,List.getElem?_take,if_pos hj,List.getElem?_drop,<- List.getD_eq_getElem?_getD]
   rfl
  | succ i =>
   have ih:=qqZ hm (rs:=rs) (fun y hy=>h y (List.mem_cons_of_mem _ hy)) (i:=i) (j:=j) (by simpa using hi) hj
   rw [List.getD_eq_getElem?_getD,List.getElem?_append_right (by rw [hsl,Nat.add_mul]; omega),hsl,show (i + 1) * k + j - k = i * k + j by rw [Nat.add_mul]; omega,<- List.getD_eq_getElem?_getD]
   exact ih
theorem qmr {m:List Int} {k:Nat} {rs:List Int} (h:qy m):qy (qg0 m k rs):=fun x hx=>by
 rw [qg0,List.mem_flatMap] at hx
 obtain ⟨r,_,hx⟩:=hx
 exact h x (List.mem_of_mem_drop (List.mem_of_mem_take hx))
theorem qiI {k total:Nat} {rs:List Int} (h:qcs k total rs) (ht:total <= 255):qbC k fun i=>xsF (rs.getD i 0).toNat:=by
 obtain ⟨h1,h2,h3⟩:=h
 intro i j hi hj he
 have gi:rs.getD i 0 = rs[i]'(by omega):=by rw [List.getD_eq_getElem?_getD,List.getElem?_eq_getElem (by omega)]; rfl
 have gj:rs.getD j 0 = rs[j]'(by omega):=by rw [List.getD_eq_getElem?_getD,List.getElem?_eq_getElem (by omega)]; rfl
 have mi:=h3 _ (List.getElem_mem (l:=rs) (n:=i) (by omega))
 have mj:=h3 _ (List.getElem_mem (l:=rs) (n:=j) (by omega))
 simp only [gi,gj] at he
 have:=qfb (n:=256) (Nat.le_refl _) _ _ (by omega) (by omega) he
 exact (List.getElem_inj (h₀:=by omega) (h₁:=by omega) h2).1 (by omega)
theorem qo0 {m:List Int} {k total:Nat} {rs:List Int} (h:qcs k total rs) (hm:m.length = total * k):(qg0 m k rs).length = k * k:=by
 rw [quQ (r:=total) (by omega) h.2.2,h.1]
theorem q7K {k total:Nat} {rs:List Int} (h:qcs k total rs) (h1:1 <= k) (hk:k <= total) (ht:total <= 255) {y:Nat->F}
  (hy:∀ i,i < k->qx (fun j=>qi (q6 k (qdk k total) (rs.getD i 0).toNat j) (y j)) k = 0):∀ j,j < k->y j = 0:=by
 obtain ⟨g1,g2,g3,_⟩:=qf0 h1 hk ht
 obtain ⟨t2,he⟩:=qyx hk ht
 obtain ⟨_,m2⟩:=qqO he
 have hz:∀ l,l < k->qx (fun j=>qi (q6 k (qcq k total).2.1 l j) (y j)) k = 0:=qqt (qiI h ht) fun i hi=>by
  rw [<- hy i hi]
  have hx:=h.2.2 (rs.getD i 0) (by rw [List.getD_eq_getElem?_getD,List.getElem?_eq_getElem (by rw [h.1]; exact hi)]; exact List.getElem_mem _)
  have e2:qx (fun j=>qi (q6 k (qdk k total) (rs.getD i 0).toNat j) (y j)) k = qx (fun j=>qx (fun l=>qi (qi (qaM (xsF (rs.getD i 0).toNat) l) (q6 k (qcq k total).2.1 l j)) (y j)) k) k:=ql fun j hj=>by rw [g3 _ j (by omega) hj,qeb]
  rw [e2,qf9]
  refine ql fun l hl=>?_
  rw [<- qdx]
  exact ql fun j hj=>by rw [qQ]
 intro j hj
 have e1:y j = qx (fun i=>qi (y i) (del i j)) k:=(qhj (f:=y) hj).symm
 rw [e1,ql (g:=fun i=>qx (fun l=>qi (q6 k ((qb0 total k).take (k * k)) j l) (qi (q6 k (qcq k total).2.1 l i) (y i))) k) fun i hi=>?_,qf9]
 ·refine qcD fun l hl=>?_
  rw [qdx,hz l hl,q7]
 ·have:=m2 j i hj hi
  rw [show del i j = del j i from qud,<- this,qah,<- qeb]
  exact ql fun l hl=>by rw [qQ]
theorem q4o {k total:Nat} {rs:List Int} (h:qcs k total rs) (h1:1 <= k) (hk:k <= total) (ht:total <= 255):(qeE (qg0 (qdk k total) k rs) k).2.2 = k:=by
 obtain ⟨g1,g2,_,_⟩:=qf0 h1 hk ht
 refine qwu (qo0 h g1) (qmr g2) fun y hy=>q7K h h1 hk ht fun i hi=>?_
 rw [<- hy i hi]
 refine ql fun j hj=>?_
 rw [q6,q6,qqZ g1 h.2.2 (by rw [h.1]; exact hi) hj]

end Go.Proofs

set_option linter.unusedSimpArgs false
set_option linter.unusedVariables false
namespace Go.Eng
open Go Go.Proofs
end Go.Eng
namespace Go.Proofs
open Go Go.Eng
theorem q8n {h:Hp} {D:qe} {n:Nat} {f:Nat->List Int} (he:qgc h D n f):qq7 h D n/\∀ j,j < n->pcI D j = j/\pcD h D j = f j:=by
 refine ⟨fun j hj=>?_,fun j hj=>?_⟩
 ·obtain ⟨v,d,e,hr,_,hb⟩:=he j hj
  exact ⟨_,v,d,e,hr,hb⟩
 ·obtain ⟨v,d,e,hr,hf,hb⟩:=he j hj
  refine ⟨by simp [pcI,qg,qar,e,qV],?_⟩
  rw [pcD,show qar D (j:Int) 1 = v by simp [qar,e],qj2 hr,hf]
end Go.Proofs

set_option linter.unusedSimpArgs false
set_option linter.unusedVariables false
namespace Go.Eng
open Go Go.Proofs

def quM (n:Nat):List Int:=(List.range n).map fun (m:Nat)=>(m:Int)
end Go.Eng

set_option linter.unusedSimpArgs false
set_option linter.unusedVariables false
namespace Go.Eng
open Go Go.Proofs

def qc6 (f:Nat->List Int) (w:List Int) (l:Nat):Nat->List Int
 | 0=>List.replicate l 0
 | j + 1=>qae (qc6 f w l j) 0 (seg (f j) 0 l) (w.getD j 0)
end Go.Eng

set_option linter.unusedSimpArgs false
set_option linter.unusedVariables false
namespace Go.Eng
open Go Go.Proofs
end Go.Eng

set_option linter.unusedSimpArgs false
set_option linter.unusedVariables false
set_option maxRecDepth 100000
namespace Go.Proofs
open Go Go.Eng

end Go.Proofs

set_option linter.unusedSimpArgs false
set_option linter.unusedVariables false
namespace Go.Eng
open Go Go.Proofs

end Go.Eng

set_option linter.unusedSimpArgs false
set_option linter.unusedVariables false
namespace Go.Proofs
open Go Go.Eng

theorem quc {f:Nat->List Int} {w:List Int} {l:Nat}:∀ j,(qc6 f w l j).length = l
 | 0=>by simp [qc6]
 | j + 1=>by rw [qc6,qcA,quc j]
end Go.Proofs

set_option linter.unusedSimpArgs false
set_option linter.unusedVariables false
set_option maxRecDepth 100000
namespace Go.Proofs
open Go Go.Eng

end Go.Proofs

set_option linter.unusedSimpArgs false
set_option linter.unusedVariables false
namespace Go.Proofs
open Go Go.Eng
theorem qwQ {n:Nat}:(quM n).Nodup:=List.pairwise_map.2 (List.nodup_range.imp fun h e=>h (by omega))
theorem q19 {n:Nat} {x:Int} (h:x ∈ quM n):0 <= x/\x < n:=by
 obtain ⟨m,hm,rfl⟩:=List.mem_map.1 h
 have:=List.mem_range.1 hm
 omega
theorem qhb {o l:List Int} {n k:Nat} (h:(o ++ l).Perm (quM n)) (hk:o.length = k):o.length = k/\o.Nodup/\∀ x ∈ o,0 <= x/\x < (n:Int) :=
 ⟨hk,(List.nodup_append.1 (h.nodup_iff.2 qwQ)).1,fun x hx=>q19 (h.mem_iff.1 (List.mem_append_left _ hx))⟩
end Go.Proofs

set_option linter.unusedSimpArgs false
set_option linter.unusedVariables false
namespace Go.Proofs
open Go Go.Eng
end Go.Proofs

set_option linter.unusedSimpArgs false
set_option linter.unusedVariables false
namespace Go.Proofs
open Go Go.Eng
set_option maxRecDepth 20000
end Go.Proofs

set_option linter.unusedSimpArgs false
set_option linter.unusedVariables false
namespace Go.Eng
open Go Go.Proofs
def blk:Value->Option Nat
 | .slice (some a) _ _=>some a.block
 | _=>none
def q8F (h:Hp) (vs:Nat->Value) (n:Nat) (M:Nat->List Int):Prop :=
 (∀ j,j < n->∃ d,Rd h kB (vs j) d/\bI d = M j/\qz d)/\∀ i j,i < n->j < n->i ≠ j->M i ≠ []->M j ≠ []->blk (vs i) ≠ blk (vs j)
end Go.Eng
namespace Go.Proofs
open Go Go.Eng
theorem q8W {h:Hp} {vs:Nat->Value} {n j:Nat} {M:Nat->List Int} (ht:q8F h vs n M) (hj:j < n):∃ d,Rd h kB (vs j) d/\bI d = M j/\qz d:=ht.1 j hj
end Go.Proofs

set_option linter.unusedSimpArgs false
set_option linter.unusedVariables false
namespace Go.Eng
open Go Go.Proofs
def tvs (D:qe):Nat->Value:=fun j=>qar D j 0
end Go.Eng

set_option linter.unusedSimpArgs false
set_option linter.unusedVariables false
namespace Go.Eng
open Go Go.Proofs
noncomputable def pcN (h:Hp) (D:qe) (j:Nat):Nat:=(pcD h D j).length
def rdB (h:Hp) (v:Value):Prop:=∃ d,Rd h kB v d/\qz d
noncomputable def qhy (D:qe) (k:Nat):List Int:=(List.range k).map (pcI D)
noncomputable def qlG (h:Hp) (D:qe):Nat->List Int:=fun j=>rdL h (tvs D j)
noncomputable def q96 (h:Hp) (D:qe) (k:Nat) (x:Int):List Int:=qc6 (pcD h D) (qlv (qhy D k) x) (pcN h D 0) k
def qog (total k:Nat) (rs:List Int):List Int:=(qeE (qg0 (qdk k total) k rs) k).2.1
noncomputable def q0q (h:Hp) (D:qe) (total k:Nat) (i:Nat):List Int:=qc6 (pcD h D) (seg (qog total k (qhy D k)) (i * k) k) (pcN h D 0) k
def q8N (h:Hp) (D:qe) (k total n:Int):Prop:=qaF k total = true/\k <= n/\n <= 17592186043904/\qq7 h D n.toNat/\qcs k.toNat total.toNat (qhy D k.toNat)/\pcN h D 0 <= 8192/\∀ j,j < k.toNat->pcN h D j = pcN h D 0
end Go.Eng

set_option linter.unusedSimpArgs false
set_option linter.unusedVariables false
namespace Go.Eng
open Go Go.Proofs
end Go.Eng

set_option linter.unusedSimpArgs false
set_option linter.unusedVariables false
namespace Go.Eng
open Go Go.Proofs
noncomputable def plI (k size:Int):Int:=(qG k.toNat size.toNat:Int)
end Go.Eng

set_option linter.unusedSimpArgs false
set_option linter.unusedVariables false
namespace Go.Eng
open Go Go.Proofs
def q6p (r:Nat):SV:=.agg (qjo r (r + 1) (r + 2) (r + 3) (r + 4) (r + 5) (r + 6) (r + 7))
end Go.Eng

set_option linter.unusedSimpArgs false
set_option linter.unusedVariables false
namespace Go.Proofs
open Go Go.Eng
section
variable {M:Bool} {C:Int->Prop} {x t:Int} {D O:List Int}
end
end Go.Proofs

set_option linter.unusedSimpArgs false
set_option linter.unusedVariables false
namespace Go.Proofs
open Go Go.Eng
variable {rows wide c rank:Nat} {T0:Mat} {M:Nat->List Int}
end Go.Proofs

set_option linter.unusedSimpArgs false
set_option linter.unusedVariables false
namespace Go.Proofs
open Go Go.Eng
end Go.Proofs

set_option linter.unusedSimpArgs false
set_option linter.unusedVariables false
set_option maxRecDepth 100000
namespace Go.Proofs
open Go Go.Eng

end Go.Proofs

set_option linter.unusedSimpArgs false
set_option linter.unusedVariables false
namespace Go.Proofs
open Go Go.Eng
variable {k total len e e':Int} {n i:Nat} {I I':Nat->Int} {L L':Nat->Nat}
end Go.Proofs

set_option linter.unusedSimpArgs false
set_option linter.unusedVariables false
namespace Go.Proofs
open Go Go.Eng
set_option maxRecDepth 100000
end Go.Proofs

set_option linter.unusedSimpArgs false
set_option linter.unusedVariables false
namespace Go.Proofs
open Go Go.Eng
def byF (r:F) (y:Nat->F):Nat->F:=fun l=>(if l = 0 then 0 else y (l - 1)) ^^^ qi r (y l)
theorem qk1 {y:Nat->F} {x:F}:q9 1 y x = y 0:=by
 show (0:F) ^^^ qi (y 0) (qaM x 0) = y 0
 rw [qav,show qaM x 0 = 1 from rfl,qbh]
theorem qtG {r x:F} {y:Nat->F}:∀ n,q9 (n + 1) (byF r y) x = qi (x ^^^ r) (q9 n y x) ^^^ qi (qi r (y n)) (qaM x n)
 | 0=>by rw [qk1,byF,if_pos rfl,qav,show q9 0 y x = 0 from rfl,q7,qav,show qaM x 0 = 1 from rfl,qbh]
 | n + 1=>by
  have ih:=qtG (r:=r) (x:=x) (y:=y) n
  have h1:q9 (n + 2) (byF r y) x = q9 (n + 1) (byF r y) x ^^^ qi (byF r y (n + 1)) (qaM x (n + 1)):=rfl
  have h2:q9 (n + 1) y x = q9 n y x ^^^ qi (y n) (qaM x n):=rfl
  rw [h1,ih,h2,byF,if_neg (by omega),Nat.add_sub_cancel,qiw,qcp (x:=y n)]
  have h3:qi (x ^^^ r) (qi (y n) (qaM x n)) = qi (y n) (qaM x (n + 1)) ^^^ qi (qi r (y n)) (qaM x n):=by
   rw [qcp,qaM]
   congr 1
   ·rw [<- qQ,qah (x:=x),qQ]
    try rw [qah (x:=x)]
   ·rw [qQ]
  rw [h3]
  generalize qi (x ^^^ r) (q9 n y x) = a
  generalize qi (qi r (y n)) (qaM x n) = b
  generalize qi (y n) (qaM x (n + 1)) = c
  generalize qi (qi r (y (n + 1))) (qaM x (n + 1)) = d
  rw [BitVec.xor_assoc,BitVec.xor_assoc,BitVec.xor_assoc]
  congr 1
  rw [<- BitVec.xor_assoc,<- BitVec.xor_assoc,BitVec.xor_comm b c]
theorem qqz {r x:F} {y:Nat->F} {n:Nat} (h:y n = 0):q9 (n + 1) (byF r y) x = qi (x ^^^ r) (q9 n y x):=by
 rw [qtG,h,q7,qC,qaf]
theorem qsh {y:Nat->F} {x:F} {n:Nat} (h:∀ l,n <= l->y l = 0):∀ m,q9 (n + m) y x = q9 n y x
 | 0=>rfl
 | m + 1=>by
  show q9 (n + m) y x ^^^ qi (y (n + m)) (qaM x (n + m)) = _
  rw [qsh h m,h _ (by omega),qC,qaf]
theorem qnX {y z:Nat->F} {x:F} {n:Nat}:q9 n (fun l=>y l ^^^ z l) x = q9 n y x ^^^ q9 n z x:=by
 simp only [q9]
 rw [<- qg2]
 exact ql fun j _=>qcp
theorem quB {y:Nat->F} {x c:F} {n:Nat}:q9 n (fun l=>qi c (y l)) x = qi c (q9 n y x):=by
 simp only [q9]
 rw [<- qdx]
 exact ql fun j _=>qQ
def ddF (xs ys:Nat->F):Nat->Nat->F
 | s,0=>ys s
 | s,j + 1=>qi (ddF xs ys (s + 1) j ^^^ ddF xs ys s j) (qeH (xs (s + j + 1) ^^^ xs s))
theorem qhB {n:Nat} {xs ys:Nat->F} (hd:qbC n xs):∀ j s,s + j < n->∃ y:Nat->F,(∀ l,j < l->y l = 0)/\(∀ i,i <= j->q9 (j + 1) y (xs (s + i)) = ys (s + i))/\y j = ddF xs ys s j
 | 0,s,hs=>⟨fun l=>if l = 0 then ys s else 0,fun l hl=>if_neg (by omega),fun i hi=>by
   obtain rfl:i = 0:=by omega
   rw [qk1,if_pos rfl,Nat.add_zero],rfl⟩
 | j + 1,s,hs=>by
  obtain ⟨y1,a1,b1,c1⟩:=qhB (ys:=ys) hd j (s + 1) (by omega)
  obtain ⟨y0,a0,b0,c0⟩:=qhB (ys:=ys) hd j s (by omega)
  have hne:xs (s + j + 1) ^^^ xs s ≠ 0:=fun h=>by have:=hd _ _ (by omega) (by omega) (qfa.1 h); omega
  let w:F:=qeH (xs (s + j + 1) ^^^ xs s)
  have hv:∀ x,q9 (j + 2) (fun l=>qi w (byF (xs s) y1 l ^^^ byF (xs (s + j + 1)) y0 l)) x = qi w (qi (x ^^^ xs s) (q9 (j + 1) y1 x) ^^^ qi (x ^^^ xs (s + j + 1)) (q9 (j + 1) y0 x)):=fun x=>by
   rw [quB,qnX,qqz (a1 _ (by omega)),qqz (a0 _ (by omega))]
  refine ⟨fun l=>qi w (byF (xs s) y1 l ^^^ byF (xs (s + j + 1)) y0 l),fun l hl=>?_,fun i hi=>?_,?_⟩
  ·simp only [byF]
   rw [if_neg (by omega),if_neg (by omega),a1 l (by omega),a0 l (by omega),a1 (l - 1) (by omega),a0 (l - 1) (by omega),q7,q7,qaA,q7]
  ·rw [hv]
   have hw:∀ z,qi w (qi (xs (s + j + 1) ^^^ xs s) z) = z:=fun z=>by
    rw [<- qQ,qah (x:=w),qiE hne,qhX]
   by_cases h0:i = 0
   ·subst h0
    have hb0:=b0 0 (by omega)
    simp only [Nat.add_zero] at hb0
    rw [Nat.add_zero,qaA,qC,qav,hb0,BitVec.xor_comm,hw]
   ·by_cases h1:i = j + 1
    ·subst h1
     have:=b1 j (Nat.le_refl _)
     rw [show s + 1 + j = s + (j + 1) by omega] at this
     rw [this,<- Nat.add_assoc,qaA,qC,qaf,hw]
    ·have h2:=b1 (i - 1) (by omega)
     rw [show s + 1 + (i - 1) = s + i by omega] at h2
     rw [h2,b0 i (by omega),<- qcp,qo3,qaA,qav,BitVec.xor_comm,hw]
  ·simp only [byF]
   rw [if_neg (by omega),if_neg (by omega),a1 (j + 1) (by omega),a0 (j + 1) (by omega),q7,q7,qaf,qaf,Nat.add_sub_cancel,c1,c0,qah]
   rfl
def qlR (xs:Nat->F):Nat->Nat->F
 | 0=>fun l=>if l = 0 then 1 else 0
 | m + 1=>byF (xs m) (qlR xs m)
theorem qsL {xs:Nat->F}:∀ m,(∀ l,m < l->qlR xs m l = 0)/\qlR xs m m = 1/\∀ x,q9 (m + 1) (qlR xs m) x = qdf (fun u=>x ^^^ xs u) m
 | 0=>⟨fun l hl=>if_neg (by omega),rfl,fun x=>by rw [qk1]; rfl⟩
 | m + 1=>by
  obtain ⟨h1,h2,h3⟩:=qsL (xs:=xs) m
  refine ⟨fun l hl=>?_,?_,fun x=>?_⟩
  ·simp only [qlR,byF]
   rw [if_neg (by omega),h1 (l - 1) (by omega),h1 l (by omega),q7,qaf]
  ·simp only [qlR,byF]
   rw [if_neg (by omega),Nat.add_sub_cancel,h2,h1 (m + 1) (by omega),q7,qaf]
  ·rw [qlR,qqz (h1 _ (by omega)),h3,qdf,qah]
def q00 (xs ys:Nat->F) (x:F) (m:Nat):F:=qx (fun t=>qi (ddF xs ys 0 t) (qdf (fun u=>x ^^^ xs u) t)) m
theorem qs3 {n:Nat} {xs ys:Nat->F} (hd:qbC n xs):∀ m,m < n->∃ y:Nat->F,(∀ l,m < l->y l = 0)/\(∀ i,i <= m->q9 (m + 1) y (xs i) = ys i)/\∀ x,q9 (m + 1) y x = q00 xs ys x (m + 1)
 | 0,hm=>by
  obtain ⟨y,a,b,c⟩:=qhB (ys:=ys) hd 0 0 (by omega)
  refine ⟨y,a,fun i hi=>by have:=b i hi; simp only [Nat.zero_add] at this ⊢; exact this,fun x=>?_⟩
  rw [qk1,c]
  show ys 0 = (0:F) ^^^ qi (ys 0) 1
  rw [qav,qbh]
 | m + 1,hm=>by
  obtain ⟨y0,a0,b0,c0⟩:=qs3 (ys:=ys) hd m (by omega)
  obtain ⟨y,a,b,c⟩:=qhB (ys:=ys) hd (m + 1) 0 (by omega)
  obtain ⟨p1,p2,p3⟩:=qsL (xs:=xs) (m + 1)
  refine ⟨y,a,fun i hi=>by have:=b i hi; rwa [Nat.zero_add] at this,fun x=>?_⟩
  let R:Nat->F:=fun l=>(y l ^^^ y0 l) ^^^ qi (ddF xs ys 0 (m + 1)) (qlR xs (m + 1) l)
  have hRv:∀ x,q9 (m + 2) R x = (q9 (m + 2) y x ^^^ q9 (m + 1) y0 x) ^^^ qi (ddF xs ys 0 (m + 1)) (qdf (fun u=>x ^^^ xs u) (m + 1)):=fun x=>by
   rw [<- p3,<- quB,<- qsh (y:=y0) (n:=m + 1) (fun l hl=>a0 l (by omega)) 1,<- qnX,<- qnX]
  have hRt:R (m + 1) = 0:=by
   simp only [R]
   rw [c,a0 (m + 1) (by omega),p2,qbh,qaf,qaA]
  have hRe:∀ x,q9 (m + 1) R x = q9 (m + 2) R x:=fun x=>by
   show _ = q9 (m + 1) R x ^^^ qi (R (m + 1)) (qaM x (m + 1))
   rw [hRt,qC,qaf]
  have h0:=qk5 (n:=m + 1) (y:=R) (xs:=xs) (fun i j hi hj=>hd i j (by omega) (by omega)) fun i hi=>by
   rw [hRe,hRv,b0 i (by omega)]
   have:=b i (by omega)
   rw [Nat.zero_add] at this
   rw [this,qaA,qav,qps (k:=i) hi qaA,q7]
  have hz:q9 (m + 1) R x = 0:=qcD fun l hl=>by rw [h0 l hl,qC]
  rw [hRe,hRv] at hz
  have h1:q00 xs ys x (m + 2) = q00 xs ys x (m + 1) ^^^ qi (ddF xs ys 0 (m + 1)) (qdf (fun u=>x ^^^ xs u) (m + 1)):=rfl
  rw [h1,<- c0 x]
  have h2:=qfa.1 hz
  rw [<- h2,<- BitVec.xor_assoc,BitVec.xor_comm,<- BitVec.xor_assoc,qaA,qav]
end Go.Proofs

set_option linter.unusedSimpArgs false
set_option linter.unusedVariables false
namespace Go.Proofs
open Go Go.Eng
theorem qfU {f:Nat->List Int} {w:List Int} {l:Nat} (hw:qy w):∀ k,(∀ j,j < k->(f j).length = l/\qy (f j))->(qc6 f w l k).length = l/\qy (qc6 f w l k)/\∀ c,c < l->toF ((qc6 f w l k).getD c 0) = qx (fun m=>qi (toF (w.getD m 0)) (toF ((f m).getD c 0))) k
 | 0,_=>⟨by simp [qc6],fun x hx=>by rw [qc6] at hx; rw [List.eq_of_mem_replicate hx]; exact ⟨by omega,by omega⟩,fun c hc=>by
   rw [qc6,List.getD_eq_getElem?_getD,List.getElem?_replicate,if_pos hc]; rfl⟩
 | k + 1,h=>by
  obtain ⟨h1,h2,h3⟩:=qfU hw k fun j hj=>h j (by omega)
  obtain ⟨f1,f2⟩:=h k (by omega)
  have hsl:seg (f k) 0 l = f k:=by rw [<- f1]; simp [seg]
  rw [qc6,hsl]
  refine ⟨by rw [qcA,h1],qeh h2,fun c hc=>?_⟩
  rw [List.getD_eq_getElem?_getD,qbK,List.getElem?_eq_getElem (by omega),Option.map_some,Option.getD_some,if_pos ⟨by omega,by omega⟩,Nat.sub_zero,qkI,qhQ (qaL hw _) (qaL f2 _),qx,<- h3 c hc,List.getD_eq_getElem?_getD (l:=qc6 f w l k),List.getElem?_eq_getElem (by omega),Option.getD_some]
theorem q3G {f g:Nat->List Int} {w v:List Int} {l k:Nat} (hw:qy w) (hv:qy v) (hf:∀ j,j < k->(f j).length = l/\qy (f j)) (hg:∀ j,j < k->(g j).length = l/\qy (g j))
  (h:∀ c,c < l->qx (fun m=>qi (toF (w.getD m 0)) (toF ((f m).getD c 0))) k = qx (fun m=>qi (toF (v.getD m 0)) (toF ((g m).getD c 0))) k):qc6 f w l k = qc6 g v l k:=by
 obtain ⟨a1,a2,a3⟩:=qfU hw k hf
 obtain ⟨b1,b2,b3⟩:=qfU hv k hg
 refine qsT (by omega) fun c hc=>qr7 (qaL a2 c) (qaL b2 c) ?_
 rw [a3 c (by omega),b3 c (by omega),h c (by omega)]
theorem q2h {rs:List Int} {x:Int} {j:Nat} (hj:j < rs.length):toF ((qlv rs x).getD j 0) = qfT rs.length (fun m=>toF (rs.getD m 0)) (toF x) j:=by
 unfold qlv
 rw [List.getD_eq_getElem?_getD,List.getElem?_map,List.getElem?_range hj,Option.map_some,Option.getD_some,qj9]
theorem qk6 {xs:List Int} {x:Int}:qy (qlv xs x):=fun y hy=>by
 obtain ⟨m,_,rfl⟩:=List.mem_map.1 hy
 exact qjJ
variable {k total:Nat} {rs:List Int}
theorem qm6 (hc:qcs k total rs) {j:Nat} (hj:j < k):toF (rs.getD j 0) = xsF (rs.getD j 0).toNat:=by
 have h1:=hc.1
 have h2:=hc.2.2 (rs.getD j 0) (qug (by omega))
 unfold xsF
 rw [Int.toNat_of_nonneg h2.1]
theorem qnd (hc:qcs k total rs) (ht:total <= 255):qbC k fun m=>toF (rs.getD m 0):=fun i j hi hj he=>by
 refine qiI hc ht i j hi hj ?_
 simp only [qm6 hc hi,qm6 hc hj] at he
 exact he
theorem qsb {xs v:Nat->F} (h1:1 <= k) (hd:qbC k xs):∃ y:Nat->F,(∀ i,i < k->q9 k y (xs i) = v i)/\∀ x,q9 k y x = qx (fun j=>qi (qfT k xs x j) (v j)) k:=by
 obtain ⟨y,_,hy,_⟩:=qs3 (ys:=v) hd (k - 1) (by omega)
 rw [show k - 1 + 1 = k by omega] at hy
 refine ⟨y,fun i hi=>hy i (by omega),fun x=>?_⟩
 rw [qjV hd]
 exact ql fun j hj=>by rw [hy j (by omega)]
theorem q3F (hc:qcs k total rs) (h1:1 <= k) (hk:k <= total) (ht:total <= 255) (v:Nat->F) {i:Nat} (hi:i < k) :
    qx (fun j=>qi (q6 k (qog total k rs) i j) (v j)) k = qx (fun j=>qi (qfT k (fun m=>toF (rs.getD m 0)) (xsF i) j) (v j)) k:=by
  obtain ⟨y,hy,hL⟩:=qsb (v:=v) h1 (qnd hc ht)
  obtain ⟨g1,g2,_,g4⟩:=qf0 h1 hk ht
  have hlen:=qo0 hc g1
  have hr:=q4o hc h1 hk ht
  obtain ⟨t2,he⟩:=qmS hlen (qmr g2)
  rw [hr] at he
  obtain ⟨m1,_⟩:=qqO he
  have hS:∀ j,j < k->∀ m,m < k->q6 k (qg0 (qdk k total) k rs) j m = qfT k xsF (toF (rs.getD j 0)) m:=fun j hj m hm=>by
    have hrj:=hc.2.2 (rs.getD j 0) (qug (by rw [hc.1]; exact hj))
    unfold q6
    rw [qqZ g1 hc.2.2 (by rw [hc.1]; exact hj) hm,qm6 hc hj,<- g4 (rs.getD j 0).toNat m (by omega) hm]
    rfl
  have hx:qbC k xsF:=qfb (by omega)
  rw [<- hL]
  calc qx (fun j=>qi (q6 k (qog total k rs) i j) (v j)) k
      = qx (fun j=>qx (fun m=>qi (qi (q6 k (qog total k rs) i j) (q6 k (qg0 (qdk k total) k rs) j m)) (q9 k y (xsF m))) k) k:=by
        refine ql fun j hj=>?_
        rw [<- hy j hj,qjV hx (x:=toF (rs.getD j 0)),<- qdx]
        exact ql fun m hm=>by rw [hS j hj m hm,qQ]
    _ = qx (fun m=>qi (del m i) (q9 k y (xsF m))) k:=by
        rw [qf9]
        refine ql fun m hm=>?_
        rw [qeb,qud]
        congr 1
        exact m1 i m hi hm
    _ = q9 k y (xsF i):=qoe (f:=fun m=>q9 k y (xsF m)) hi
theorem qy1 {m:List Int} {i j:Nat} (hj:j < k):toF ((seg m (i * k) k).getD j 0) = q6 k m i j:=by
 unfold q6 seg
 rw [List.getD_eq_getElem?_getD,List.getElem?_take,if_pos hj,List.getElem?_drop,List.getD_eq_getElem?_getD]
theorem q3f (hc:qcs k total rs) (h1:1 <= k) (hk:k <= total) (ht:total <= 255):(qog total k rs).length = k * k/\qy (qog total k rs):=by
 obtain ⟨g1,g2,_,_⟩:=qf0 h1 hk ht
 obtain ⟨t2,_⟩:=qmS (qo0 hc g1) (qmr g2)
 exact ⟨t2.lb,t2.bb⟩
theorem qtE {l:List Int} {o n:Nat} (h:qy l):qy (seg l o n):=fun x hx=>h x (List.mem_of_mem_drop (List.mem_of_mem_take hx))
theorem q7Z (hc:qcs k total rs) (h1:1 <= k) (hk:k <= total) (ht:total <= 255) {f:Nat->List Int} {l i:Nat} (hf:∀ j,j < k->(f j).length = l/\qy (f j)) (hi:i < k) :
  qc6 f (seg (qog total k rs) (i * k) k) l k = qc6 f (qlv rs (i:Int)) l k:=by
 refine q3G (qtE (q3f hc h1 hk ht).2) qk6 hf hf fun c hcl=>?_
 rw [ql fun m hm=>by rw [qy1 hm],q3F hc h1 hk ht _ hi]
 exact ql fun m hm=>by rw [q2h (by rw [hc.1]; exact hm),hc.1]; rfl
theorem q4w (hc:qcs k total rs) (h1:1 <= k) (hk:k <= total) (ht:total <= 255) {f:Nat->List Int} {l r:Nat} (hf:∀ j,j < k->(f j).length = l/\qy (f j)) (hr:r < total) {g:Nat->List Int} (hg:∀ i,i < k->g i = qc6 f (qlv rs (i:Int)) l k) :
  qc6 g (seg (qdk k total) (r * k) k) l k = qc6 f (qlv rs (r:Int)) l k:=by
 obtain ⟨g1,g2,_,g4⟩:=qf0 h1 hk ht
 have hgf:∀ i,i < k->(g i).length = l/\qy (g i):=fun i hi=>by
  obtain ⟨a,b,_⟩:=qfU (qk6 (xs:=rs) (x:=(i:Int))) k hf
  rw [hg i hi]; exact ⟨a,b⟩
 refine q3G (qtE g2) qk6 hgf hf fun c hcl=>?_
 obtain ⟨y,hy,hL⟩:=qsb (v:=fun j=>toF ((f j).getD c 0)) h1 (qnd hc ht)
 have hx:qbC k xsF:=qfb (by omega)
 have hv:∀ x:Int,qx (fun m=>qi (toF ((qlv rs x).getD m 0)) (toF ((f m).getD c 0))) k = q9 k y (toF x):=fun x=>by
  rw [hL]
  exact ql fun m hm=>by rw [q2h (by rw [hc.1]; exact hm),hc.1]
 rw [hv,show toF ((r:Nat):Int) = xsF r from rfl,qjV hx]
 refine ql fun m hm=>?_
 rw [qy1 hm,g4 r m hr hm,hg m hm,(qfU qk6 k hf).2.2 c hcl,hv]
 rfl
end Go.Proofs

set_option linter.unusedSimpArgs false
set_option linter.unusedVariables false
namespace Go.Proofs
open Go Go.Eng
set_option maxRecDepth 100000
end Go.Proofs

set_option linter.unusedSimpArgs false
set_option linter.unusedVariables false
namespace Go.Proofs
open Go Go.Eng
set_option maxRecDepth 100000
end Go.Proofs

set_option linter.unusedSimpArgs false
set_option linter.unusedVariables false
set_option maxRecDepth 100000
namespace Go.Proofs
open Go Go.Eng

end Go.Proofs

set_option linter.unusedSimpArgs false
set_option linter.unusedVariables false
namespace Go.Proofs
open Go Go.Eng
set_option maxRecDepth 100000
structure PcIn (h:Hp) (D:qe) (k total n:Int):Prop where
 k1:1 <= k
 k2:k <= total
 k3:total <= 255
 kn:k <= n
 sol:q8N h D k total n
 idx:∀ j,j < n.toNat->0 <= pcI D j/\pcI D j < total
 len:∀ j,j < n.toNat->pcN h D j = pcN h D 0
 fs:∀ j,j < n.toNat->(pcD h D j).length = pcN h D 0/\qy (pcD h D j)
variable {h:Hp} {D:qe} {k total n:Int}
theorem PcIn.f (p:PcIn h D k total n):∀ j,j < k.toNat->(pcD h D j).length = pcN h D 0/\qy (pcD h D j):=fun j hj=>p.fs j (by have:=p.kn; omega)
theorem PcIn.cols (p:PcIn h D k total n) {hc:Hp} {C:qe} (ht:q8F hc (tvs C) k.toNat (q0q h D total.toNat k.toNat)) :
  (∀ j,j < k.toNat->rdB hc (tvs C j)/\(qlG hc C j).length = (qlG hc C 0).length)/\(qlG hc C 0).length = pcN h D 0/\∀ r:Int,0 <= r->r < total->qc6 (qlG hc C) (seg (qdk k.toNat total.toNat) (r.toNat * k.toNat) k.toNat) (qlG hc C 0).length k.toNat = q96 h D k.toNat r:=by
 have h1:=p.k1
 have h2:=p.k2
 have h3:=p.k3
 have hch:=p.sol.2.2.2.2.1
 have hcol:∀ j,j < k.toNat->rdB hc (tvs C j)/\qlG hc C j = q0q h D total.toNat k.toNat j:=fun j hj=>by
  obtain ⟨d,hr,hd,hB⟩:=q8W ht hj
  exact ⟨⟨d,hr,hB⟩,by rw [qlG,qj2 hr,hd]⟩
 have hl:∀ j,j < k.toNat->(qlG hc C j).length = pcN h D 0:=fun j hj=>by
  rw [(hcol j hj).2,q0q,quc]
 refine ⟨fun j hj=>⟨(hcol j hj).1,by rw [hl j hj,hl 0 (by omega)]⟩,hl 0 (by omega),fun r r0 r1=>?_⟩
 rw [hl 0 (by omega),q4w hch (by omega) (by omega) (by omega) (f:=pcD h D) p.f (by omega) (r:=r.toNat) (fun i hi=>by
  rw [(hcol i hi).2,q0q,q7Z hch (by omega) (by omega) (by omega) p.f hi]),Int.toNat_of_nonneg r0]
 rfl
theorem PcIn.value (p:PcIn h D k total n):(∀ j:Nat,(j:Int) < k->0 <= pcI D j/\pcI D j < 256)/\(qhy D k.toNat).Nodup/\pcN h D 0 <= 9000/\(∀ j:Nat,(j:Int) < k->pcN h D j = pcN h D 0)/\qq7 h D k.toNat:=by
 have h1:=p.k1
 have h2:=p.k2
 have h3:=p.k3
 have h4:=p.kn
 have h5:=p.sol.2.2.2.2.2.1
 refine ⟨fun j hj=>?_,p.sol.2.2.2.2.1.2.1,by omega,fun j hj=>p.len j (by omega),fun j hj=>p.sol.2.2.2.1 j (by omega)⟩
 have:=p.idx j (by omega)
 omega
end Go.Proofs

set_option linter.unusedSimpArgs false
set_option linter.unusedVariables false
namespace Go.Proofs
open Go Go.Eng
set_option maxRecDepth 100000
variable {h h':Hp} {D D':qe} {k total n index len e e':Int} {b b':Bool}
end Go.Proofs

set_option linter.unusedSimpArgs false
set_option linter.unusedVariables false
namespace Go.Proofs
open Go Go.Eng
end Go.Proofs

set_option linter.unusedSimpArgs false
set_option linter.unusedVariables false
namespace Go.Proofs
open Go Go.Eng
theorem q1q {k n t s l i:Int} {D:List (List Int)} {m:List Int} (h:qct k n t s l D i m = 0):qJ k n t s l = true/\0 <= i/\i < t/\(m.length:Int) = qe2 k s/\sha (qcn i ++ m) = D.getD i.toNat []:=by
 unfold qct at h
 by_cases h1:qJ k n t s l = false
 ·rw [if_pos h1] at h; omega
 rw [if_neg h1] at h
 by_cases h2:i < 0∨t <= i
 ·rw [if_pos h2] at h; omega
 rw [if_neg h2] at h
 by_cases h3:(m.length:Int) ≠ qe2 k s
 ·rw [if_pos h3] at h; omega
 rw [if_neg h3] at h
 by_cases h4:sha (qcn i ++ m) ≠ D.getD i.toNat []
 ·rw [if_pos h4] at h; omega
 exact ⟨by simpa using h1,by omega,by omega,by omega,by simpa using h4⟩
theorem q3w {k n t s l:Int}:qJ k n t s l = true↔1 <= k/\k <= n/\n <= t/\t <= 255/\0 <= s/\s <= 8192/\l = t:=by
 simp [qJ,qbv,and_assoc]
theorem q41 {k s:Int} (hk:1 <= k) (hs:0 <= s):qe2 k s = plI k s:=by
 obtain ⟨k,rfl⟩:=Int.eq_ofNat_of_zero_le (show 0 <= k by omega)
 obtain ⟨s,rfl⟩:=Int.eq_ofNat_of_zero_le hs
 have e:((s:Int) + (k:Int) - 1) = ((s + k - 1:Nat):Int):=by omega
 unfold qe2 plI qG
 rw [e,Int.ofNat_tdiv]
 simp
end Go.Proofs

set_option linter.unusedSimpArgs false
set_option linter.unusedVariables false
set_option maxRecDepth 100000
namespace Go.Proofs
open Go Go.Eng

end Go.Proofs

set_option linter.unusedSimpArgs false
set_option linter.unusedVariables false
set_option maxRecDepth 100000
namespace Go.Proofs
open Go Go.Eng

end Go.Proofs

set_option linter.unusedSimpArgs false
set_option linter.unusedVariables false
namespace Go.Proofs
open Go Go.Eng
set_option maxRecDepth 100000
end Go.Proofs

set_option linter.unusedSimpArgs false
set_option linter.unusedVariables false
namespace Go.Proofs
open Go Go.Eng
set_option maxRecDepth 20000
end Go.Proofs

set_option linter.unusedSimpArgs false
set_option linter.unusedVariables false
namespace Go.Eng
open Go Go.ChangeShapes Go.WideShapes Go.ChangeAt Go.RowKit

structure Grew (W w':World):Prop where
 os:w'.os = W.os
 out:w'.output = W.output
 blk:∀ (b:Nat) (o:Obj),W.heap[b]? = some o->w'.heap[b]? = some o

theorem Grew.block {W w':World} (h:Grew W w') {i:Nat} (hi:i < W.heap.size):w'.heap[i]? = W.heap[i]?:=by
 rw [Array.getElem?_eq_getElem hi]; exact h.blk i _ (Array.getElem?_eq_getElem hi)

theorem Grew.kept {W w':World} (h:Grew W w') (may:MemPlace->Prop):W.keptBut w' may:=by
 refine ⟨h.os,h.out,fun i hi=>?_⟩
 rw [h.block hi,Array.getElem?_eq_getElem hi]
 cases W.heap[i] <;> simp

theorem Grew.trodAll {H:Type} {enc:TypeId × Value->H} {P:Program} {W W':World} (hg:Grew W W') (hl:laidOutB P = true) {sp:Nat->Bool}:∀ {ts:List TypeId} {vs:List Value} {ds:List (DataW H)} {ps:List MemPlace},
  (∀ t ∈ ts,P.readableRec t = true/\t < P.types.size)->DataW.TrodAll enc P W 0 (fun _=>true) true ts vs ds ps->(∀ p ∈ ps,p.block < W.heap.size)->(∀ p ∈ ps,sp p.block = true) ->
  DataW.TrodAll enc P W' 0 sp true ts vs ds ps
 | [],[],[],_,_,h,_,_=>h
 | _ :: _,_ :: _,_ :: _,_,hT,⟨p,q,h1,h2,e⟩,hlt,hs=>by
  subst e
  refine ⟨p,q,?_,Grew.trodAll hg hl (fun t ht=>hT t (List.mem_cons_of_mem _ ht)) h2 (fun x hx=>hlt x (List.mem_append_right _ hx)) (fun x hx=>hs x (List.mem_append_right _ hx)),rfl⟩
  have hr:=hT _ (List.mem_cons_self ..)
  refine WideElems.Trod_stays hl hr.1 hr.2 h1 (fun x hx=>?_) (fun x hx=>hs x (List.mem_append_left _ hx))
  have hb:=hg.block (hlt x (List.mem_append_left _ hx))
  cases x with
  | cell b o=>exact World.cell?_of_block (w:=W) hb
  | map b=>exact hb

theorem q1A {P:Program} {c:Ctr} (hok:c.ok P) (hheap:c.heap = []) (halts:∀ al ∈ c.alts,al.ret = .one (.vbool (.bl true))) {ρ:Env} (hg:ρ.good) (W:World)
  (hro:∀ x ∈ c.ro,x.roden ρ (fun b=>W.heap[b]?)) (hpre:c.pre ρ) :
  Calls P c.fn (c.args.map (SV.den ρ)).toArray W fun e W'=>e = .returned (.bool true)/\Grew W W':=by
 have h:=hok.2 ρ W ⟨fun b=>W.heap[b]?,W.os,W.output⟩ Hp.emp hg (Hp.disj_emp _)
  ⟨fun b o hb=>by simpa [Hp.union,Hp.emp] using hb,rfl,rfl⟩ (by rw [hheap]; trivial) hro hpre
 refine h.mono fun e w' hq=>?_
 obtain ⟨ai,al,ρ',hal,_,_,rfl,_,hO,_,_,hsub,hwi⟩:=hq
 refine ⟨by rw [halts al (List.mem_of_getElem? hal)]; rfl,⟨hwi.1,hwi.2,fun b o hb=>hsub b o ?_⟩⟩
 simp [Hp.union,hb]

theorem q5Q {H:Type} {enc:TypeId × Value->H} {P:Program} {f:Func} {s:ChangeSpec} {W W':World} {args:Array Value} {ds gs:List (DataW H)} {before:List MemPlace} {bt:TypeId}
  (hl:laidOutB P = true) (hT:∀ t ∈ f.params.toList,P.readableRec t = true/\t < P.types.size) (hvars:s.vars = []) (hrt:f.resultTypes = #[bt]) (hbt:P.underlying bt = some .bool)
  (hfn:∀ ds':List (DataW H),ds'.length = f.params.size->s.fn H ds' = { results:=[.lit (.bool true)],args:=ds' })
  (hW:DataW.Whole enc P f.params.toList s.vars false W args.toList ds gs before) (hg:Grew W W'):s.post enc P f false true false false W args (.bool true) W':=by
 have hlt:=hW.lt
 have hW0:=hW
 obtain ⟨p,q,hA,hV,hpq,hz,hn⟩:=hW
 rw [hvars] at hV
 obtain ⟨rfl,rfl⟩:=trodVars_none hV
 have hlen:ds.length = f.params.size:=by
  have:∀ {ts:List TypeId} {vs:List Value} {ds:List (DataW H)} {ps:List MemPlace},DataW.TrodAll enc P W 0 (fun _=>true) true ts vs ds ps->ds.length = ts.length:=by
   intro ts
   induction ts with
   | nil=>intro vs ds ps h; cases vs <;> cases ds <;> simp_all [DataW.TrodAll]
   | cons t ts ih =>
    intro vs ds ps h
    cases vs <;> cases ds <;> simp_all [DataW.TrodAll]
    obtain ⟨p,q,_,h2,_⟩:=h
    exact ih h2
  simpa using this hA
 have hlt':∀ x ∈ p,x.block < W.heap.size:=fun x hx=>hlt x (by rw [hpq]; exact List.mem_append_left _ hx)
 refine ⟨ds,[],before,[],p,[],hW0,?_,?_,?_,hg.kept _,fun h=>by cases h⟩
 ·rw [List.append_nil,hfn ds hlen,hrt]
  exact ⟨[],[],⟨1,by simp [DataW.trod,hbt,Value.cells]⟩,rfl,rfl⟩
 ·rw [List.append_nil,hfn ds hlen]
  exact hg.trodAll hl hT hA hlt' (fun x hx=>by simpa using hlt' x hx)
 ·rw [List.append_nil,hfn ds hlen,hvars]
  rfl

theorem q5f {H:Type} {enc:TypeId × Value->H} {P:Program} {f:Func} {s:ChangeSpec} {c:Ctr} {W:World} {args:Array Value} {ds gs:List (DataW H)} {before:List MemPlace} {bt:TypeId} {ρ:Env}
  (hok:c.ok P) (hheap:c.heap = []) (halts:∀ al ∈ c.alts,al.ret = .one (.vbool (.bl true)))
  (hl:laidOutB P = true) (hT:∀ t ∈ f.params.toList,P.readableRec t = true/\t < P.types.size) (hvars:s.vars = []) (hrt:f.resultTypes = #[bt]) (hbt:P.underlying bt = some .bool)
  (hfn:∀ ds':List (DataW H),ds'.length = f.params.size->s.fn H ds' = { results:=[.lit (.bool true)],args:=ds' })
  (hW:DataW.Whole enc P f.params.toList s.vars false W args.toList ds gs before)
  (hg:ρ.good) (hargs:args = (c.args.map (SV.den ρ)).toArray) (hro:∀ x ∈ c.ro,x.roden ρ (fun b=>W.heap[b]?)) (hpre:c.pre ρ) :
  Calls P c.fn args W fun e W'=>∃ v,e = .returned v/\s.post enc P f false true false false W args v W':=by
 rw [hargs]
 refine (q1A hok hheap halts hg W hro hpre).mono fun e W' ⟨he,hgr⟩=>⟨_,he,?_⟩
 rw [<- hargs]
 exact q5Q hl hT hvars hrt hbt hfn hW hgr
end Go.Eng

set_option linter.unusedSimpArgs false
set_option linter.unusedVariables false
namespace Go.Eng
open Go Go.ChangeShapes Go.WideShapes Go.ChangeAt Go.RowKit

def qqe (P:Program) (f:TypeId->Option (List CK)):List Field->Nat->Option (List CK)
 | [],_=>some []
 | x :: fs,off =>
  if Nat.beq x.offset off then
   match f x.type with
   | some p=>if Nat.beq p.length (P.cellsOf x.type) then (qqe P f fs (off + p.length)).map (p ++ ·) else none
   | none=>none
  else none
def qmc (p:List CK):Nat->List CK
 | 0=>[]
 | n + 1=>p ++ qmc p n
def qkh (P:Program):Nat->TypeId->Option (List CK)
 | 0,_=>none
 | n + 1,t =>
  match P.underlying t with
  | some (.int k)=>some [.int k]
  | some .bool=>some [.bool]
  | some .string=>some [.any]
  | some (.slice _)=>some [.any]
  | some (.pointer _)=>some [.any]
  | some (.struct fs)=>match qqe P (qkh P n) fs.toList 0 with
   | some p=>if Nat.beq p.length (P.cellsOf t) then some p else none
   | none=>none
  | some (.array m e)=>match qkh P n e with
   | some p=>if Nat.beq p.length (P.cellsOf e) && Nat.beq (P.cellsOf t) (m * P.cellsOf e) then some (qmc p m) else none
   | none=>none
  | _=>none

theorem qjP {p q:List CK} {cs:List Value} (h1:qt p (cs.take p.length)) (h2:qt q (cs.drop p.length)):qt (p ++ q) cs:=by
 obtain ⟨a1,a2⟩:=h1
 obtain ⟨b1,b2⟩:=h2
 have hle:p.length <= cs.length:=by simp at a1; omega
 refine ⟨by simp at a1 b1 ⊢; omega,fun c k v hk hv=>?_⟩
 by_cases hc:c < p.length
 ·rw [List.getElem?_append_left hc] at hk
  exact a2 c k v hk (by rw [List.getElem?_take,if_pos hc]; exact hv)
 ·rw [List.getElem?_append_right (by omega)] at hk
  exact b2 (c - p.length) k v hk (by rw [List.getElem?_drop,show p.length + (c - p.length) = c by omega]; exact hv)

section
variable {H:Type} {enc:TypeId × Value->H} {P:Program} {w:World} {base:Nat} {spare:Nat->Bool} {held:Bool}

theorem qfZ {v:Value} (h:v.oneCell' = true):qt [.any] [v]:=⟨rfl,fun c k v' hk hv=>by
 cases c with
 | zero=>simp at hk hv; subst hk; subst hv; exact h
 | succ c=>simp at hk⟩

theorem qqu {f:TypeId->Option (List CK)} {cs:List Value} (hf:∀ t p,f t = some p->∀ cs',(∃ fuel x,DataW.trod enc P w base spare held fuel t cs' = some x)->qt p cs') :
  ∀ {fs:List Field} {off:Nat} {p:List CK},qqe P f fs off = some p->(∀ x ∈ fs,∃ fuel y,DataW.trod enc P w base spare held fuel x.type ((cs.drop x.offset).take (P.cellsOf x.type)) = some y)->off + p.length = cs.length->qt p (cs.drop off)
 | [],off,p,h,_,hl=>by
  simp only [qqe,Option.some.injEq] at h; subst h
  simp at hl
  refine ⟨by simp; omega,fun c k v hk=>by simp at hk⟩
 | x :: fs,off,p,h,ht,hl=>by
  simp only [qqe] at h
  split at h
  ·rename_i ho
   have ho:=Nat.eq_of_beq_eq_true ho
   split at h
   ·rename_i p1 hp1
    split at h
    ·rename_i hc
     have hc:=Nat.eq_of_beq_eq_true hc
     simp only [Option.map_eq_some_iff] at h
     obtain ⟨p2,hp2,rfl⟩:=h
     simp only [List.length_append] at hl
     have h1:=hf x.type p1 hp1 _ (ht x (List.mem_cons_self ..))
     rw [ho,<- hc] at h1
     have h2:=qqu hf hp2 (fun y hy=>ht y (List.mem_cons_of_mem _ hy)) (by omega)
     exact qjP h1 (by rw [List.drop_drop]; exact h2)
    ·simp at h
   ·simp at h
  ·simp at h

theorem qmU {p:List CK}:∀ {m:Nat} {cs:List Value},cs.length = m * p.length->(∀ i,i < m->qt p ((cs.drop (i * p.length)).take p.length))->qt (qmc p m) cs
 | 0,cs,hl,_=>by
  simp at hl; subst hl
  exact ⟨rfl,fun c k v hk=>by simp [qmc] at hk⟩
 | m + 1,cs,hl,h=>by
  simp only [qmc]
  refine qjP (by simpa using h 0 (by omega)) (qmU (by rw [List.length_drop,hl,Nat.add_mul]; omega) fun i hi=>?_)
  rw [List.drop_drop,show p.length + i * p.length = (i + 1) * p.length by rw [Nat.add_mul]; omega]
  exact h (i + 1) (by omega)

theorem qmb:∀ (n:Nat) {t:TypeId} {pat:List CK},qkh P n t = some pat->∀ cs,(∃ fuel x,DataW.trod enc P w base spare held fuel t cs = some x)->qt pat cs
 | 0,t,pat,h,_,_=>by simp [qkh] at h
 | n + 1,t,pat,h,cs,⟨fuel,x,hx⟩=>by
  simp only [qkh] at h
  split at h
  ·rename_i k hu
   simp only [Option.some.injEq] at h; subst h
   obtain ⟨z,rfl,_,_⟩:=DataW.trod_int hu hx
   refine ⟨rfl,fun c k' v hk hv=>?_⟩
   cases c with
   | zero=>simp at hk hv; subst hk; subst hv; simp [CK.fits]
   | succ c=>simp at hk
  ·rename_i hu
   simp only [Option.some.injEq] at h; subst h
   cases fuel with
   | zero=>simp [DataW.trod] at hx
   | succ m =>
    unfold DataW.trod at hx
    rw [hu] at hx
    split at hx <;> simp_all
    refine ⟨rfl,fun c k' v hk hv=>?_⟩
    cases c with
    | zero=>simp at hk hv; subst hk; subst hv; simp [CK.fits]
    | succ c=>simp at hk
  ·rename_i hu
   simp only [Option.some.injEq] at h; subst h
   cases fuel with
   | zero=>simp [DataW.trod] at hx
   | succ m =>
    unfold DataW.trod at hx
    rw [hu] at hx
    split at hx <;> simp_all
    exact qfZ rfl
  ·rename_i e hu
   simp only [Option.some.injEq] at h; subst h
   rcases DataW.trod_slice hu hx with ⟨rfl,_⟩ | ⟨a,len,cap,elems,rest,m,_,rfl,_⟩
   ·exact qfZ rfl
   ·exact qfZ rfl
  ·rename_i e hu
   simp only [Option.some.injEq] at h; subst h
   cases fuel with
   | zero=>simp [DataW.trod] at hx
   | succ m =>
    unfold DataW.trod at hx
    rw [hu] at hx
    split at hx <;> simp_all
    all_goals exact qfZ rfl
  ·rename_i fs hu
   split at h
   ·rename_i p hp
    split at h
    ·rename_i hc
     have hc:=Nat.eq_of_beq_eq_true hc
     simp only [Option.some.injEq] at h; subst h
     obtain ⟨xs,m,_,_,hl,hxl,hall⟩:=DataW.trod_struct hu hx
     have:=qqu (cs:=cs) (f:=qkh P n) (fun t p hp cs' hh=>qmb n hp cs' hh) hp (fun y hy=>by
      obtain ⟨i,hi⟩:=List.getElem?_of_mem hy
      have hi':fs[i]? = some y:=by simpa using hi
      have h1:=hall i y hi'
      have hlt:i < xs.length:=by
       rw [hxl]; exact (Array.getElem?_eq_some_iff.1 hi').1
      exact ⟨m,xs[i],by rw [h1]; simp [hlt]⟩) (by omega)
     simpa using this
    ·simp at h
   ·simp at h
  ·rename_i m e hu
   split at h
   ·rename_i p hp
    split at h
    ·rename_i hc
     simp only [Bool.and_eq_true] at hc
     have hc1:=Nat.eq_of_beq_eq_true hc.1
     have hc2:=Nat.eq_of_beq_eq_true hc.2
     simp only [Option.some.injEq] at h; subst h
     obtain ⟨xs,k,_,_,hl,hxl,hall⟩:=DataW.trod_array hu hx
     refine qmU (by rw [hl,hc2,hc1]) fun i hi=>?_
     have h1:=hall i hi
     rw [<- hc1] at h1
     exact qmb n hp _ ⟨k,xs[i]'(by omega),by rw [h1]; simp [hxl,hi]⟩
    ·simp at h
   ·simp at h
  ·simp at h

theorem qpW {a:Addr} {n:Nat} {cs:List Value} (h:w.cells? base a n = some cs):cs.length = n/\∀ i,i < n->w.cell? (a.add i) = cs[i]?:=by
 unfold World.cells? at h
 split at h
 ·exact ⟨by simpa using mapM_some_length h,fun i hi=>by simpa using mapM_some_get h i i (by simp [hi])⟩
 ·simp at h

theorem q20 {t e:TypeId} {pat:List CK} {n:Nat} {v:Value} {d:DataW H} {ps:List MemPlace} (ht:P.underlying t = some (.slice e)) (hpat:qkh P n e = some pat) (hce:P.cellsOf e = pat.length) (hpos:0 < pat.length)
  {fuel:Nat} (hsp:∀ b,spare b = true) (hf:DataW.trod enc P w base spare held fuel t [v] = some (d,ps)) :
  ∃ rows:List (List Value),Rd (fun b=>w.heap[b]?) pat v rows/\(∀ row ∈ rows,∃ fuel x,DataW.trod enc P w base spare held fuel e row = some x) /\
   ((d = .nil/\rows = [])∨∃ elems sp,d = .slice elems sp/\elems.length = rows.length/\∀ (i:Nat) (row:List Value),rows[i]? = some row->∃ fuel x,DataW.trod enc P w base spare held fuel e row = some x/\elems[i]? = some x.1):=by
 rcases DataW.trod_slice ht hf with ⟨h1,h2⟩ | ⟨a,len,cap,elems,rest,m,_,h1,h2,hb,hlc,hcm,hel,hall,hrest,_⟩
 ·simp at h1 h2
  exact ⟨[],.inl ⟨_,h1,rfl⟩,by simp,.inl ⟨h2.1,rfl⟩⟩
 ·simp at h1 h2
  subst h1
  have hrow:∀ i,i < len->∃ cs x,w.cells? base (a.add (i * P.cellsOf e)) (P.cellsOf e) = some cs/\DataW.trod enc P w base spare held m e cs = some x/\elems[i]? = some x:=fun i hi=>by
   have:=hall i hi
   rw [List.getElem?_eq_getElem (by omega)] at this
   obtain ⟨cs,g1,g2⟩:=Option.bind_eq_some_iff.1 this
   exact ⟨cs,_,g1,g2,List.getElem?_eq_getElem _⟩
  let rows:List (List Value):=(List.range len).map fun i=>((w.cells? base (a.add (i * P.cellsOf e)) (P.cellsOf e)).getD [])
  have hget:∀ i row,rows[i]? = some row->i < len/\w.cells? base (a.add (i * P.cellsOf e)) (P.cellsOf e) = some row:=fun i row hr=>by
   simp only [rows,List.getElem?_map,Option.map_eq_some_iff] at hr
   obtain ⟨j,hj,rfl⟩:=hr
   have hlt:i < len:=by
    have:=(List.getElem?_eq_some_iff.1 hj).1; simpa using this
   rw [List.getElem?_range hlt] at hj
   simp only [Option.some.injEq] at hj; subst hj
   obtain ⟨cs,x,g1,_,_⟩:=hrow i hlt
   exact ⟨hlt,by rw [g1]; rfl⟩
  have hrl:rows.length = len:=by simp [rows]
  have htr:∀ row ∈ rows,∃ fuel x,DataW.trod enc P w base spare held fuel e row = some x:=fun row hr=>by
   obtain ⟨i,hi⟩:=List.getElem?_of_mem hr
   obtain ⟨hlt,hc⟩:=hget i row hi
   obtain ⟨cs,x,g1,g2,_⟩:=hrow i hlt
   rw [hc] at g1
   simp only [Option.some.injEq] at g1; subst g1
   exact ⟨m,x,g2⟩
  refine ⟨rows,?_,htr,.inr ⟨_,_,h2.1,by simp [hel,hrl],fun i row hi=>?_⟩⟩
  rotate_left
  ·obtain ⟨hlt,hc⟩:=hget i row hi
   obtain ⟨cs,x,g1,g2,g3⟩:=hrow i hlt
   rw [hc] at g1
   simp only [Option.some.injEq] at g1; subst g1
   exact ⟨m,x,g2,by simp [g3]⟩
  by_cases hcap:cap = 0
  ·have hl0:len = 0:=by omega
   have:rows = []:=by apply List.eq_nil_of_length_eq_zero; omega
   exact .inl ⟨some a,by rw [hl0,hcap],this⟩
  have hfirst:∃ cs,w.cells? base (a.add 0) (P.cellsOf e) = some cs:=by
   by_cases hl:0 < len
   ·obtain ⟨cs,_,g1,_,_⟩:=hrow 0 hl
    rw [Nat.zero_mul] at g1
    exact ⟨cs,g1⟩
   ·obtain ⟨r1,r2⟩:=hrest (hsp _)
    have:=r2 0 (by omega)
    rw [show (len + 0) * P.cellsOf e = 0 by rw [show len + 0 = 0 by omega]; simp,List.getElem?_eq_getElem (by omega)] at this
    obtain ⟨cs,g1,_⟩:=Option.bind_eq_some_iff.1 this
    exact ⟨cs,g1⟩
  obtain ⟨cs0,hc0⟩:=hfirst
  obtain ⟨hl0,hg0⟩:=qpW hc0
  have h00:=hg0 0 (by omega)
  rw [show (a.add 0).add 0 = a from rfl,List.getElem?_eq_getElem (by omega)] at h00
  obtain ⟨ab,ao,asp⟩:=a
  have hblk0:=h00
  unfold World.cell? at hblk0
  split at hblk0
  ·rename_i c ty fr hblk
   simp only at hblk
   have hsp0:asp = none:=by
    cases asp with
    | none=>rfl
    | some s=>simp at hblk0
   subst hsp0
   refine .inr ⟨ab,ao,cap,c,ty,fr,by rw [hrl],by omega,hblk,fun i row hi=>?_⟩
   obtain ⟨hlt,hc⟩:=hget i row hi
   refine ⟨qmb n hpat row (htr row (List.mem_of_getElem? hi)),fun k x hk=>?_⟩
   obtain ⟨hl1,hg⟩:=qpW hc
   have hkl:k < P.cellsOf e:=by
    rw [<- hl1]; exact (List.getElem?_eq_some_iff.1 hk).1
   have:=hg k hkl
   rw [hk,hce] at this
   rw [Go.Eng.addr_add,Go.Eng.addr_add,qaV hblk] at this
   exact this
  ·simp at hblk0
end

end Go.Eng

set_option linter.unusedSimpArgs false
set_option linter.unusedVariables false
namespace Go.Eng
open Go Go.Proofs
def qj7:Ctr:={ qgG with pre:=fun ρ=>qgG.pre ρ/\qbv (ρ 2).i (ρ 3).i (ρ 4).i = true/\(ρ 6).i <= 8192,alts:=[{ k:=9,ret:=.tup [(true,qjo 2 3 4 6 12 13 4 14),(false,[.vslice 15 (.lit 0) (.var 4) (.var 16) 2]),qcV (.lit 0)],heap:=[fHp 17,qfV 13 18 14,.arr 15 86 qjB (.var 19) (.var 16),.abs 20 10],post:=fun ρ=>qw (ρ 17).d/\qbv (ρ 2).i (ρ 3).i (ρ 4).i = true/\(ρ 6).i <= 8192/\(ρ 19).d.length = (ρ 4).i.toNat/\qgc (ρ 20).h (ρ 19).d (ρ 4).i.toNat (qdS (ρ 2).i.toNat (ρ 4).i.toNat (bI (ρ 8).d))/\qd (ρ 12).d 32 = sha (bI (ρ 8).d)/\qfD (ρ 18).d/\dgs (ρ 18).d = qdB (qdS (ρ 2).i.toNat (ρ 4).i.toNat (bI (ρ 8).d)) (ρ 4).i.toNat }] }
end Go.Eng

set_option linter.unusedSimpArgs false
set_option linter.unusedVariables false
set_option maxRecDepth 100000
namespace Go.Proofs
open Go Go.Eng

end Go.Proofs

set_option linter.unusedSimpArgs false
set_option linter.unusedVariables false
namespace Go.Proofs
open Go Go.Eng
section
variable {k total:Nat} {data:List Int}
end
section
variable {h:Hp} {P:qe} {k n t s l:Int} {data:List Int} {G:qe}
theorem q6j {f:Nat->List Int} {m:Nat} {x:Int} (x0:0 <= x) (x1:x < m):(qdB f m).getD x.toNat [] = sha (qcn x ++ f x.toNat):=by
 unfold qdB
 rw [List.getD_eq_getElem?_getD,List.getElem?_map,List.getElem?_range (by omega)]
 simp only [Option.map_some,Option.getD_some]
 rw [Int.toNat_of_nonneg x0]
theorem q3V {x:Int} {m:List Int} (hM:qJ k n t s l = true) (hb:qy data) (hsz:s = data.length) (hG:dgs G = qdB (qdS k.toNat t.toNat data) t.toNat) (x0:0 <= x) (x1:x < t) (hm:m = qdS k.toNat t.toNat data x.toNat):qct k n t s l (dgs G) x m = 0:=by
 obtain ⟨k1,k2,k3,k4,s0,s1,htl⟩:=q3w.1 hM
 have hl:(m.length:Int) = qe2 k s:=by
  rw [hm,(q1M (by omega) (by omega) (by omega) hb _).1,q41 k1 s0,hsz]
  unfold plI
  simp
 have hS:sha (qcn x ++ m) = (dgs G).getD x.toNat []:=by rw [hm,hG,q6j x0 (by omega)]
 rw [qct,if_neg (by rw [hM]; decide),if_neg (by omega),if_neg (fun h=>h hl),if_neg (fun h=>h hS)]
end
section
variable {h h':Hp} {D S L:qe} {n i:Nat} {t:Int} {f:Nat->List Int}
end
section
variable {h h0:Hp} {P P0 G R:qe} {k n t s l x e y m:Int} {data O:List Int} {N N':Nat}
end
section
variable {h h':Hp} {S L:qe} {i n j i':Int} {t:Int} {f:Nat->List Int}
end
section
variable {h h0:Hp} {D D0 G:qe} {T:Nat} {t:Int} {f:Nat->List Int} {N N' M:Nat}
end
end Go.Proofs

set_option linter.unusedSimpArgs false
set_option linter.unusedVariables false
namespace Go.Proofs
open Go Go.Eng
theorem q4a:qj7.ok Tryz.prog:=by
 refine ⟨qxQ.1,fun ρ w hF hO hg hd hw hs hro hp=>?_⟩
 obtain ⟨hp,hs3,h8⟩:=hp
 refine (qxQ.2 ρ w hF hO hg hd hw hs hro hp).mono fun e w' h=>?_
 obtain ⟨ai,al,ρ',h1,h2,hρ,h4,hpost,h6⟩:=h
 match ai,h1 with
 | 0,h1 =>
  obtain rfl:=(Option.some.inj h1).symm
  exfalso
  have e2:=hρ 2 (by decide)
  have e3:=hρ 3 (by decide)
  have e4:=hρ 4 (by decide)
  have e6:=hρ 6 (by decide)
  obtain ⟨_,⟨h1,_⟩ | ⟨_,h1,_⟩⟩:=hpost
  ·change qbv (ρ' 2).i (ρ' 3).i (ρ' 4).i = false at h1
   rw [e2,e3,e4,hs3] at h1; cases h1
  ·change 8192 < (ρ' 6).i at h1
   rw [e6] at h1; omega
 | 1,h1 =>
  obtain rfl:=(Option.some.inj h1).symm
  exact ⟨0,_,ρ',rfl,h2,hρ,h4,hpost,h6⟩
 | ai + 2,h1=>simp [qgG] at h1
set_option maxRecDepth 20000
end Go.Proofs

set_option linter.unusedSimpArgs false
set_option linter.unusedVariables false
namespace Go.Eng
open Go Go.Proofs
def qh (d:qe):List Int:=d.map fun row=>qb6 row 0
def qjz:List CK:=List.replicate 16 .bool
def b16 (n:Nat):SV:=.agg ((List.range 16).map fun i=>.c1 .vbool (.var (n + i)))
def qp3 (x:Int):Bool:=decide (0 <= x/\x < 16)
def qc2:Ctr:={ fn := 100,nv:=1,args:=[iv .i64 (.var 0)],heap:=[],ro:=[],pre:=fun _=>True,alts:=[{ k:=1,ret:=.one (.vbool (.var 1)),heap:=[],post:=fun ρ=>(ρ 1).b = qp3 (ρ 0).i }] }
def qaK (r:Nat):SH:=iHp r (r + 3) (r + 4)
def qal (ρ:Env) (r:Nat):Prop:=(ρ (r + 1)).i = (ρ (r + 3)).d.length/\(ρ (r + 1)).i <= 1000000000000/\∀ row ∈ (ρ (r + 3)).d,row.length = 1
def qeO (l:List Bool) (L:List Int):Prop:=l.length = 16/\∀ j:Nat,j < 16->(l.getD j false = true↔(j:Int) ∈ L)
def qcb:Ctr:={ fn := 82,nv:=5,args:=[bS 0],heap:=[],ro:=[qaK 0],pre:=fun ρ=>qal ρ 0,alts:=[
 { k:=16,ret:=b16 5,heap:=[],post:=fun ρ=>qeO [(ρ 5).b,(ρ 6).b,(ρ 7).b,(ρ 8).b,(ρ 9).b,(ρ 10).b,(ρ 11).b,(ρ 12).b,(ρ 13).b,(ρ 14).b,(ρ 15).b,(ρ 16).b,(ρ 17).b,(ρ 18).b,(ρ 19).b,(ρ 20).b] (qh (ρ 3).d) }] }
def qcP (s:qe) (l:List Int) (n:Nat):Prop:=(∃ row,s = [row]/\row.length = 16)/\∀ x:Int,0 <= x->x < 16->(qbb s x.toNat = true↔x ∈ l.take n)
def qq3:Inv:={ key:=2,nv:=3,env:=[(2,.one (.vptr 1000 (.lit 0) 16 0)),(5,bS 0),(6,iv .i64 (.var 1)),(7,iv .i64 (.var 1002))],heap:=[.arr 1000 157 qjz (.var 1001) (.lit 1)],inv:=(fun ρ=>0 <= (ρ 1002).i/\(ρ 1002).i <= (ρ 1).i/\qcP (ρ 1001).d (qh (ρ 3).d) (ρ 1002).i.toNat),mu:=(fun ρ=>((ρ 1).i - (ρ 1002).i).toNat) }
def qN (o:List Int) (p:Int):List Int:=sha (o ++ [p % 256])
def qcx:Ctr:={ fn := 24,nv:=4,ip:=[gIp 2,(1005,9)],args:=[dgV 0,iv .i64 (.var 1)],heap:=[],ro:=[gHp 2 3],pre:=fun ρ=>qM (qd (ρ 0).d 32)/\gOk ρ 2 3 gR,alts:=[
 { k:=1,ret:=dgV 4,heap:=[],post:=fun ρ=>qd (ρ 4).d 32 = qN (qd (ρ 0).d 32) (ρ 1).i }] }
def qdH:Ctr:={ fn := 25,nv:=4,ip:=[gIs 2],args:=[dgV 0,iv .i64 (.var 1)],heap:=[],ro:=[gHp 2 3],pre:=fun ρ=>qM (qd (ρ 0).d 32)/\gOk ρ 2 3 gS,alts:=[
 { k:=1,ret:=dgV 4,heap:=[],post:=fun ρ=>qd (ρ 4).d 32 = qN (qd (ρ 0).d 32) (ρ 1).i }] }
def rkV (p d:Nat):SV:=.agg (.vint .i64 (.var p) :: qaz .u8 d 32)
def qdZ:Ctr:={ fn := 80,nv:=4,ip:=[gIp 2],args:=[dgV 0,iv .i64 (.var 1)],heap:=[],ro:=[gHp 2 3],pre:=fun ρ=>qM (qd (ρ 0).d 32)/\gOk ρ 2 3 gR,alts:=[
 { k:=2,ret:=.agg (.vint .i64 (.var 1) :: qaz .u8 4 32),heap:=[],post:=fun ρ=>qd (ρ 4).d 32 = qN (qd (ρ 0).d 32) (ρ 1).i }] }
def qbr:List Int->List Int->Int
 | [],[]=>0
 | [],_ :: _=>-1
 | _ :: _,[]=>1
 | a :: l,b :: m=>if a < b then -1 else if b < a then 1 else qbr l m
def kRk:List CK:=.int .i64 :: List.replicate 32 (.int .u8)
def qkb:Ctr:={ fn := 118,nv:=4,args:=[.one (.vslice 0 (.lit 1) (.lit 32) (.lit 32) 1),.one (.vslice 1 (.lit 1) (.lit 32) (.lit 32) 1)],heap:=[],ro:=[.arr 0 153 kRk (.var 2) (.lit 1),.arr 1 153 kRk (.var 3) (.lit 1)],pre:=fun ρ=>qD (ρ 2).d 33/\qD (ρ 3).d 33/\qM ((qd (ρ 2).d 33).drop 1)/\qM ((qd (ρ 3).d 33).drop 1),alts:=[
 { k:=1,ret:=iv .i64 (.var 4),heap:=[],post:=fun ρ=>(ρ 4).i = qbr ((qd (ρ 2).d 33).drop 1) ((qd (ρ 3).d 33).drop 1) }] }
def qcZ:Ctr:={ fn := 81,nv:=4,args:=[rkV 0 1,rkV 2 3],heap:=[],ro:=[],pre:=fun ρ=>qM (qd (ρ 1).d 32)/\qM (qd (ρ 3).d 32),alts:=[
 { k:=1,ret:=iv .i64 (.var 4),heap:=[],post:=fun ρ=>(ρ 4).i = if qbr (qd (ρ 1).d 32) (qd (ρ 3).d 32) = 0 then qc .sub .i64 (ρ 0).i (ρ 2).i else qbr (qd (ρ 1).d 32) (qd (ρ 3).d 32) }] }
def qA (o:List Int) (a b:Int):Bool:=if qN o a = qN o b then decide (a < b) else decide (qbr (qN o a) (qN o b) < 0)
def qaS:Ctr:={ fn := 26,nv:=5,ip:=[gIp 3],args:=[dgV 0,iv .i64 (.var 1),iv .i64 (.var 2)],heap:=[],ro:=[gHp 3 4],pre:=fun ρ=>qM (qd (ρ 0).d 32)/\gOk ρ 3 4 gR,alts:=[
 { k:=1,ret:=.one (.vbool (.var 5)),heap:=[],post:=fun ρ=>(ρ 5).b = qA (qd (ρ 0).d 32) (ρ 1).i (ρ 2).i }] }
def qbs:Ctr:={ fn := 27,nv:=5,ip:=[gIs 3],args:=[dgV 0,iv .i64 (.var 1),iv .i64 (.var 2)],heap:=[],ro:=[gHp 3 4],pre:=fun ρ=>qM (qd (ρ 0).d 32)/\gOk ρ 3 4 gS,alts:=[
 { k:=1,ret:=.one (.vbool (.var 5)),heap:=[],post:=fun ρ=>(ρ 5).b = qA (qd (ρ 0).d 32) (ρ 1).i (ρ 2).i }] }
end Go.Eng

set_option linter.unusedSimpArgs false
set_option linter.unusedVariables false
namespace Go.Eng
open Go Go.Proofs
def qd6 (o:List Int) (a b:Int):Int:=if qN o a = qN o b then a - b else qbr (qN o a) (qN o b)
def qmA (o:List Int) (s out:List Int):Prop:=out.Perm s/\out.Pairwise fun a b=>qA o a b = true
def qbc (l:List Int):List Int:=((List.range 16).map fun (i:Nat)=>(i:Int)).filter fun x=>decide (x ∈ l)
end Go.Eng
namespace Go.Proofs
open Go Go.Eng
theorem qf1:∀ {a b:List Int},qbr a b = 0↔a = b
 | [],[]=>by simp [qbr]
 | [],_ :: _=>by simp [qbr]
 | _ :: _,[]=>by simp [qbr]
 | x :: a,y :: b=>by
  unfold qbr
  by_cases h1:x < y
  ·rw [if_pos h1]
   constructor
   ·intro h; omega
   ·intro h; injection h; omega
  ·rw [if_neg h1]
   by_cases h2:y < x
   ·rw [if_pos h2]
    constructor
    ·intro h; omega
    ·intro h; injection h; omega
   ·rw [if_neg h2,qf1]
    have:x = y:=by omega
    subst this
    simp
theorem qv6:∀ {a b:List Int},qbr b a = - qbr a b
 | [],[]=>rfl
 | [],_ :: _=>rfl
 | _ :: _,[]=>rfl
 | x :: a,y :: b=>by
  unfold qbr
  by_cases h1:x < y
  ·rw [if_pos h1,if_neg (by omega),if_pos h1]; rfl
  ·by_cases h2:y < x
   ·rw [if_pos h2,if_neg h1,if_pos h2]
   ·rw [if_neg h2,if_neg h1,if_neg h1,if_neg h2]; exact qv6
theorem qqr:∀ {a b c:List Int},qbr a b < 0->qbr b c < 0->qbr a c < 0
 | [],[],_,h,_=>by simp [qbr] at h
 | [],_ :: _,[],_,h=>by simp [qbr] at h
 | [],_ :: _,_ :: _,_,_=>by simp [qbr]
 | _ :: _,[],_,h,_=>by simp [qbr] at h
 | _ :: _,_ :: _,[],_,h=>by simp [qbr] at h
 | x :: a,y :: b,z :: c,h1,h2=>by
  unfold qbr at h1 h2 ⊢
  by_cases a1:x < y
  ·by_cases b1:y < z
   ·rw [if_pos (by omega)]; decide
   ·rw [if_neg b1] at h2
    by_cases b2:z < y
    ·rw [if_pos b2] at h2; omega
    ·rw [if_pos (by omega)]; decide
  ·rw [if_neg a1] at h1
   by_cases a2:y < x
   ·rw [if_pos a2] at h1; omega
   ·rw [if_neg a2] at h1
    have e:x = y:=by omega
    subst e
    by_cases b1:x < z
    ·rw [if_pos b1]; decide
    ·rw [if_neg b1] at h2 ⊢
     by_cases b2:z < x
     ·rw [if_pos b2] at h2; omega
     ·rw [if_neg b2] at h2 ⊢
      exact qqr h1 h2
variable {o:List Int} {a b c:Int}
theorem qfC:qA o a b = decide (qd6 o a b < 0):=by
 unfold qA qd6
 by_cases h:qN o a = qN o b
 ·rw [if_pos h,if_pos h]
  exact decide_eq_decide.2 ⟨fun h=>by omega,fun h=>by omega⟩
 ·rw [if_neg h,if_neg h]
theorem qfx:qd6 o a b = 0↔a = b:=by
 unfold qd6
 by_cases h:qN o a = qN o b
 ·rw [if_pos h]; omega
 ·rw [if_neg h,qf1]
  exact ⟨fun h'=>(h h').elim,fun h'=>by rw [h']⟩
theorem qkt:qd6 o b a = - qd6 o a b:=by
 unfold qd6
 by_cases h:qN o a = qN o b
 ·rw [if_pos h,if_pos h.symm]; omega
 ·rw [if_neg h,if_neg (fun h'=>h h'.symm),qv6]
theorem qkP (h1:qd6 o a b < 0) (h2:qd6 o b c < 0):qd6 o a c < 0:=by
 unfold qd6 at h1 h2 ⊢
 by_cases e1:qN o a = qN o b
 ·rw [if_pos e1] at h1
  by_cases e2:qN o b = qN o c
  ·rw [if_pos e2] at h2
   rw [if_pos (e1.trans e2)]; omega
  ·rw [if_neg e2] at h2
   rw [if_neg (by rw [e1]; exact e2),e1]; exact h2
 ·rw [if_neg e1] at h1
  by_cases e2:qN o b = qN o c
  ·rw [if_neg (by rw [<- e2]; exact e1),<- e2]; exact h1
  ·rw [if_neg e2] at h2
   have h3:=qqr h1 h2
   by_cases e3:qN o a = qN o c
   ·rw [e3,qf1.2 rfl] at h3; omega
   ·rw [if_neg e3]; exact h3
theorem qsE (h1:qA o a b = true) (h2:qA o b c = true):qA o a c = true:=by
 rw [qfC,decide_eq_true_eq] at h1 h2 ⊢
 exact qkP h1 h2
theorem q0c:qA o a a = false:=by
 rw [qfC,qfx.2 rfl]; rfl
theorem q2C (h:qA o a b = true):qA o b a = false:=by
 rw [qfC,decide_eq_true_eq] at h
 rw [qfC,decide_eq_false_iff_not,qkt]; omega
theorem qlg (h:a ≠ b):qA o a b = true∨qA o b a = true:=by
 rw [qfC,qfC,decide_eq_true_eq,decide_eq_true_eq,qkt (a:=a) (b:=b)]
 have:¬ qd6 o a b = 0:=fun h'=>h (qfx.1 h')
 omega
theorem qsk:∀ {l m:List Int},l.Perm m->(l.Pairwise fun a b=>qA o a b = true)->(m.Pairwise fun a b=>qA o a b = true)->l = m
 | [],m,h,_,_=>(List.Perm.nil_eq h)
 | x :: l,[],h,_,_=>by simp at h
 | x :: l,y :: m,h,h1,h2=>by
  rw [List.pairwise_cons] at h1 h2
  have hxy:x = y:=by
   rcases List.mem_cons.1 (h.subset (List.mem_cons_self ..)) with e | e
   ·exact e
   ·rcases List.mem_cons.1 (h.symm.subset (List.mem_cons_self ..)) with e' | e'
    ·exact e'.symm
    ·have a1:=h2.1 x e
     have a2:=h1.1 y e'
     rw [q2C a1] at a2; cases a2
  subst hxy
  rw [qsk (List.Perm.cons_inv h) h1.2 h2.2]
theorem qx7 {s l m:List Int} (h1:qmA o s l) (h2:qmA o s m):l = m:=qsk (h1.1.trans h2.1.symm) h1.2 h2.2
end Go.Proofs

set_option linter.unusedSimpArgs false
set_option linter.unusedVariables false
namespace Go.Eng
open Go Go.Proofs
def qdQ:Ctr:={ fn := 34,nv:=6,args:=[bS 0,iv .i64 (.var 5)],heap:=[],ro:=[qaK 0],pre:=fun ρ=>qal ρ 0,alts:=[{ k:=1,ret:=.one (.vbool (.var 6)),heap:=[],post:=fun ρ=>(ρ 6).b = decide ((ρ 5).i ∈ qh (ρ 3).d) }] }
def q4M:Inv:={ key:=2,nv:=1,env:=[(0,bS 0),(1,iv .i64 (.var 5)),(5,iv .i64 (.var 1000))],heap:=[],inv:=(fun ρ=>0 <= (ρ 1000).i/\(ρ 1000).i <= (ρ 1).i/\(ρ 5).i ∉ (qh (ρ 3).d).take (ρ 1000).i.toNat),mu:=(fun ρ=>((ρ 1).i - (ρ 1000).i).toNat) }
def qeQ:Ctr:={ fn := 28,nv:=10,args:=[bS 0,bS 5],heap:=[],ro:=[qaK 0,qaK 5],pre:=fun ρ=>qal ρ 0/\qal ρ 5,alts:=[{ k:=1,ret:=.one (.vbool (.var 10)),heap:=[],post:=fun ρ=>(ρ 10).b = decide (qh (ρ 3).d = qh (ρ 8).d) }] }
def qt6:Inv:={ key:=4,nv:=1,env:=[(0,bS 0),(1,bS 5),(5,iv .i64 (.var 1000))],heap:=[],inv:=(fun ρ=>0 <= (ρ 1000).i/\(ρ 1000).i <= (ρ 1).i/\(qh (ρ 3).d).take (ρ 1000).i.toNat = (qh (ρ 8).d).take (ρ 1000).i.toNat),mu:=(fun ρ=>((ρ 1).i - (ρ 1000).i).toNat) }
def qgX:Ctr:={ fn := 33,nv:=5,args:=[bS 0],heap:=[],ro:=[qaK 0],pre:=fun ρ=>qal ρ 0,alts:=[{ k:=3,ret:=.one (.vslice 5 (.lit 0) (.var 1) (.var 6) 1),heap:=[iHp 5 7 6],post:=fun ρ=>(ρ 7).d = (ρ 3).d }] }
end Go.Eng

set_option linter.unusedSimpArgs false
set_option linter.unusedVariables false
namespace Go.Eng
open Go Go.Proofs
def qH (L:List Int) (n:Nat):List Int:=((List.range n).map fun (i:Nat)=>(i:Int)).filter fun x=>decide (x ∈ L)
def qcG:Ctr:={ fn := 85,nv:=5,args:=[bS 0],heap:=[],ro:=[qaK 0],pre:=fun ρ=>qal ρ 0,alts:=[{ k:=4,ret:=.one (.vslice 5 (.lit 0) (.var 6) (.var 7) 1),heap:=[iHp 5 8 7],post:=fun ρ=>(ρ 6).i = (ρ 8).d.length/\qh (ρ 8).d = qbc (qh (ρ 3).d)/\∀ row ∈ (ρ 8).d,row.length = 1 }] }
def qwk:Inv:={ key:=3,nv:=5,env:=[(0,bS 0),(3,.one (.vslice 1000 (.lit 0) (.var 1001) (.var 1002) 1)),(4,iv .i64 (.var 1004))],heap:=[iHp 1000 1003 1002],inv:=(fun ρ=>0 <= (ρ 1004).i/\(ρ 1004).i <= 16/\(ρ 1001).i = (ρ 1003).d.length/\(ρ 1001).i <= (ρ 1004).i/\qh (ρ 1003).d = qH (qh (ρ 3).d) (ρ 1004).i.toNat/\∀ row ∈ (ρ 1003).d,row.length = 1),mu:=(fun ρ=>(16 - (ρ 1004).i).toNat) }
def qeL:Ctr:={ fn := 121,nv:=6,args:=[bS 0,iv .i64 (.var 5)],heap:=[],ro:=[qaK 0],pre:=fun ρ=>qal ρ 0,alts:=[{ k:=1,ret:=iv .i64 (.var 6),heap:=[],post:=fun ρ=>0 <= (ρ 6).i↔(ρ 5).i ∈ qh (ρ 3).d }] }
def quH:Inv:={ key:=2,nv:=1,env:=[(0,bS 0),(1,iv .i64 (.var 5)),(6,bS 0),(7,iv .i64 (.var 1)),(8,iv .i64 (.var 1000))],heap:=[],inv:=(fun ρ=>0 <= (ρ 1000).i/\(ρ 1000).i <= (ρ 1).i/\(ρ 5).i ∉ (qh (ρ 3).d).take (ρ 1000).i.toNat),mu:=(fun ρ=>((ρ 1).i - (ρ 1000).i).toNat) }
def qaR:Ctr:={ fn := 84,nv:=6,args:=[bS 0,iv .i64 (.var 5)],heap:=[],ro:=[qaK 0],pre:=fun ρ=>qal ρ 0,alts:=[{ k:=1,ret:=.one (.vbool (.var 6)),heap:=[],post:=fun ρ=>(ρ 6).b = decide ((ρ 5).i ∈ qh (ρ 3).d) }] }
end Go.Eng

set_option linter.unusedSimpArgs false
set_option linter.unusedVariables false
namespace Go.Eng
open Go Go.Proofs
def qhq (o:List Int) (self n:Int) (L:List Int):Bool:=decide (1 <= n) && decide (n <= (((qbc L).filter fun i=>qA o i self).length:Int))
def qvS (ρ:Env) (g:Nat):Prop:=qM (qd (ρ 0).d 32)/\qal ρ 3/\gOk ρ 8 9 g
def qft:Ctr:={ fn := 37,nv:=10,ip:=[gIp 8],args:=[dgV 0,iv .i64 (.var 1),iv .i64 (.var 2),bS 3],heap:=[],ro:=[qaK 3,gHp 8 9],pre:=fun ρ=>qvS ρ gR,alts:=[{ k:=1,ret:=.one (.vbool (.var 10)),heap:=[],post:=fun ρ=>(ρ 10).b = qhq (qd (ρ 0).d 32) (ρ 1).i (ρ 2).i (qh (ρ 6).d) }] }
def qu0:Inv:={ key:=3,nv:=3,env:=[(1,iv .i64 (.var 1)),(2,iv .i64 (.var 2)),(4,.one (.vptr 1000 (.lit 0) 32 0)),(9,iv .i64 (.var 1002)),(13,b16 11),(14,iv .i64 (.var 1001))],heap:=[.cells 1000 24 (qaz .u8 0 32)],inv:=(fun ρ=>0 <= (ρ 1001).i/\(ρ 1001).i <= 16/\(ρ 1002).i = (((qH (qh (ρ 6).d) (ρ 1001).i.toNat).filter fun i=>qA (qd (ρ 0).d 32) i (ρ 1).i).length:Int)),mu:=(fun ρ=>(16 - (ρ 1001).i).toNat) }
def qgJ:Ctr:={ qft with fn := 42,ip:=[gIs 8],pre:=fun ρ=>qvS ρ gS }
def qyO:Inv:={ key:=4,nv:=7,env:=[(1,iv .i64 (.var 1)),(2,iv .i64 (.var 2)),(4,.one (.vptr 1000 (.lit 0) 32 0)),(9,iv .i64 (.var 1002)),(10,.one (.vslice 1003 (.lit 0) (.var 1004) (.var 1005) 1)),(11,iv .i64 (.var 1001))],heap:=[.cells 1000 24 (qaz .u8 0 32),iHp 1003 1006 1005],inv:=(fun ρ=>0 <= (ρ 1001).i/\(ρ 1001).i <= (ρ 1004).i/\(ρ 1004).i = (ρ 1006).d.length/\qh (ρ 1006).d = qbc (qh (ρ 6).d)/\(ρ 1002).i = ((((qh (ρ 1006).d).take (ρ 1001).i.toNat).filter fun i=>qA (qd (ρ 0).d 32) i (ρ 1).i).length:Int)),mu:=(fun ρ=>((ρ 1004).i - (ρ 1001).i).toNat) }
end Go.Eng

set_option linter.unusedSimpArgs false
set_option linter.unusedVariables false
namespace Go.Eng
open Go Go.Proofs
def qE (o:List Int) (p:Int):List Value:=.int .i64 p :: (qN o p).map (Value.int .u8)
def qaj (o l:List Int):List Int:=l.mergeSort fun a b=>!qA o b a
def qaq (o live:List Int) (n:Int):List Int:=(qaj o (qbc live)).take n.toNat
def qa4 (d:qe) (n:Int) (l:List Int):Prop:=n = d.length/\qh d = l/\∀ row ∈ d,row.length = 1
def quP (r d c:Nat):SH:=.arr r 153 kRk (.var d) (.var c)
def rkS (r l c:Nat):SV:=.one (.vslice r (.lit 0) (.var l) (.var c) 33)
def qeC:Ctr:={ fn := 83,nv:=4,args:=[rkS 0 1 2,.fn (.func 81) [] []],heap:=[quP 0 3 2],ro:=[],pre:=fun ρ=>(ρ 1).i = (ρ 3).d.length/\(ρ 1).i <= 1000000/\∃ o L:List Int,qM o/\(ρ 3).d = L.map (qE o)/\∀ x ∈ L,0 <= x/\x < 16,alts:=[
 { k:=1,ret:=.tup [],heap:=[quP 0 4 2],post:=fun ρ=>∀ o L:List Int,qM o->(ρ 3).d = L.map (qE o)->(∀ x ∈ L,0 <= x/\x < 16)->(ρ 4).d = (qaj o L).map (qE o) }] }
def qt4 (r:Nat):SH:=.cells r 24 (qaz .u8 0 32)
def qvo (r:Nat):SV:=.one (.vptr r (.lit 0) 32 0)
def qi4 (ρ:Env) (g:Nat):Prop:=qM (qd (ρ 0).d 32)/\qal ρ 1/\gOk ρ 7 8 g
def qat:Ctr:={ fn := 32,nv:=9,ip:=[gIp 7],args:=[dgV 0,bS 1,iv .i64 (.var 6)],heap:=[],ro:=[qaK 1,gHp 7 8],pre:=fun ρ=>qi4 ρ gR,alts:=[
 { k:=4,ret:=.one (.vslice 9 (.lit 0) (.var 10) (.var 11) 1),heap:=[iHp 9 12 11],post:=fun ρ=>qa4 (ρ 12).d (ρ 10).i (qaq (qd (ρ 0).d 32) (qh (ρ 4).d) (ρ 6).i) }] }
def qqD:Inv:={ key:=3,nv:=6,env:=[(2,iv .i64 (.var 6)),(3,qvo 1000),(7,rkS 1002 1003 1004),(14,b16 10),(15,iv .i64 (.var 1001))],heap:=[qt4 1000,quP 1002 1005 1004],inv:=(fun ρ=>0 <= (ρ 1001).i/\(ρ 1001).i <= 16/\(ρ 1003).i = (ρ 1005).d.length/\(ρ 1005).d = (qH (qh (ρ 4).d) (ρ 1001).i.toNat).map (qE (qd (ρ 0).d 32))),mu:=(fun ρ=>(16 - (ρ 1001).i).toNat) }
def qrD:Inv:={ key:=11,nv:=9,env:=[(36,rkS 1000 1001 1002),(37,iv .i64 (.var 1001)),(38,iv .i64 (.var 1003)),(10,.one (.vslice 1004 (.lit 0) (.var 1005) (.var 1006) 1))],heap:=[quP 1000 1007 1002,iHp 1004 1008 1006],inv:=(fun ρ=>0 <= (ρ 1003).i/\(ρ 1003).i <= (ρ 1001).i/\(ρ 1001).i <= (ρ 1007).d.length/\(ρ 1007).d = (qaj (qd (ρ 0).d 32) (qbc (qh (ρ 4).d))).map (qE (qd (ρ 0).d 32))/\(ρ 1001).i = min (max (ρ 6).i 0) ((qaj (qd (ρ 0).d 32) (qbc (qh (ρ 4).d))).length:Int)/\qa4 (ρ 1008).d (ρ 1005).i ((qaj (qd (ρ 0).d 32) (qbc (qh (ρ 4).d))).take (ρ 1003).i.toNat)),mu:=(fun ρ=>((ρ 1001).i - (ρ 1003).i).toNat) }
def qaQ:Ctr:={ qat with fn := 38,ip:=[gIs 7,(50,2),(55,2)],pre:=fun ρ=>qi4 ρ gS }
def q1s (D:qe) (n:Int):Prop:=n = D.length/\∀ row ∈ D,row.length = 1
def chR (o L:List Int) (D E:qe) (n m k:Int):Prop:=q1s D n/\q1s E m/\(qh D).Nodup/\(∀ x ∈ qh D,0 <= x/\x < 16)/\m <= max k 0/\qh E ++ qaj o (qh D) = qaj o (qbc L)
def qfL (o l:List Int) (b n:Nat):Prop:=b < n/\n <= l.length/\∀ j,j < n->j ≠ b->qA o (l.getD b 0) (l.getD j 0) = true
def qo2:Inv:={ key:=3,nv:=9,env:=[(2,iv .i64 (.var 6)),(3,qvo 1000),(7,.one (.vslice 1001 (.lit 0) (.var 1002) (.var 1003) 1)),(8,.one (.vslice 1005 (.lit 0) (.var 1006) (.var 1007) 1))],heap:=[qt4 1000,iHp 1001 1004 1003,iHp 1005 1008 1007],inv:=(fun ρ=>chR (qd (ρ 0).d 32) (qh (ρ 4).d) (ρ 1004).d (ρ 1008).d (ρ 1002).i (ρ 1006).i (ρ 6).i),mu:=(fun ρ=>(ρ 1002).i.toNat) }
def qo4:Inv:={ key:=6,nv:=11,env:=[(2,iv .i64 (.var 6)),(3,qvo 1000),(7,.one (.vslice 1001 (.lit 0) (.var 1002) (.var 1003) 1)),(8,.one (.vslice 1005 (.lit 0) (.var 1006) (.var 1007) 1)),(9,iv .i64 (.var 1009)),(10,iv .i64 (.var 1010))],heap:=[qt4 1000,iHp 1001 1004 1003,iHp 1005 1008 1007],inv:=(fun ρ=>chR (qd (ρ 0).d 32) (qh (ρ 4).d) (ρ 1004).d (ρ 1008).d (ρ 1002).i (ρ 1006).i (ρ 6).i/\(ρ 1006).i < (ρ 6).i/\0 <= (ρ 1009).i/\1 <= (ρ 1010).i/\(ρ 1002).i = (ρ 17).i/\qfL (qd (ρ 0).d 32) (qh (ρ 1004).d) (ρ 1009).i.toNat (ρ 1010).i.toNat),mu:=(fun ρ=>((ρ 1002).i - (ρ 1010).i).toNat) }
def qgo (n:Int):List Int:=(List.range (min (max n 0) 16).toNat).map fun (i:Nat)=>(i:Int)
def qkn (o:List Int) (n:Int):List Int:=qaq o (qgo n) 16
def qc0:Ctr:={ fn := 29,nv:=4,ip:=[gIp 2],args:=[dgV 0,iv .i64 (.var 1)],heap:=[],ro:=[gHp 2 3],pre:=fun ρ=>qM (qd (ρ 0).d 32)/\gOk ρ 2 3 gR,alts:=[
 { k:=4,ret:=.one (.vslice 4 (.lit 0) (.var 5) (.var 6) 1),heap:=[iHp 4 7 6],post:=fun ρ=>qa4 (ρ 7).d (ρ 5).i (qkn (qd (ρ 0).d 32) (ρ 1).i) }] }
def qnJ:Inv:={ key:=3,nv:=7,env:=[(2,qvo 1000),(5,.one (.vslice 1001 (.lit 0) (.var 1002) (.var 1003) 1)),(10,iv .i64 (.var 1006)),(11,iv .i64 (.var 1005))],heap:=[qt4 1000,iHp 1001 1004 1003],inv:=(fun ρ=>0 <= (ρ 1005).i/\(ρ 1005).i <= (ρ 1006).i/\(ρ 1006).i = min (max (ρ 1).i 0) 16/\qa4 (ρ 1004).d (ρ 1002).i (qgo (ρ 1005).i)),mu:=(fun ρ=>((ρ 1006).i - (ρ 1005).i).toNat) }
def qdm (self:Int) (H L:List Int) (n:Nat):List Int:=((List.range n).map fun (i:Nat)=>(i:Int)).filter fun x=>decide (x ∈ H/\x ∈ L/\x ≠ self)
def qhu:Ctr:={ fn := 39,nv:=11,args:=[iv .i64 (.var 0),bS 1,bS 6],heap:=[],ro:=[qaK 1,qaK 6],pre:=fun ρ=>qal ρ 1/\qal ρ 6,alts:=[
 { k:=4,ret:=.one (.vslice 11 (.lit 0) (.var 12) (.var 13) 1),heap:=[iHp 11 14 13],post:=fun ρ=>qa4 (ρ 14).d (ρ 12).i (qdm (ρ 0).i (qh (ρ 4).d) (qh (ρ 9).d) 16) }] }
def q42:Inv:={ key:=4,nv:=9,env:=[(0,iv .i64 (.var 0)),(7,.one (.vptr 1000 (.lit 0) 16 0)),(8,.one (.vptr 1002 (.lit 0) 16 0)),(9,.one (.vslice 1004 (.lit 0) (.var 1005) (.var 1006) 1)),(16,iv .i64 (.var 1008))],heap:=[.arr 1000 157 qjz (.var 1001) (.lit 1),.arr 1002 157 qjz (.var 1003) (.lit 1),iHp 1004 1007 1006],inv:=(fun ρ=>0 <= (ρ 1008).i/\(ρ 1008).i <= 16/\qcP (ρ 1001).d (qh (ρ 4).d) (ρ 4).d.length/\qcP (ρ 1003).d (qh (ρ 9).d) (ρ 9).d.length/\qa4 (ρ 1007).d (ρ 1005).i (qdm (ρ 0).i (qh (ρ 4).d) (qh (ρ 9).d) (ρ 1008).i.toNat)),mu:=(fun ρ=>(16 - (ρ 1008).i).toNat) }
def qgP:Ctr:={ qhu with fn := 40 }
def q0U:Inv:={ key:=3,nv:=5,env:=[(0,iv .i64 (.var 0)),(1,bS 1),(2,bS 6),(7,.one (.vslice 1000 (.lit 0) (.var 1001) (.var 1002) 1)),(8,iv .i64 (.var 1004))],heap:=[iHp 1000 1003 1002],inv:=(fun ρ=>0 <= (ρ 1004).i/\(ρ 1004).i <= 16/\qa4 (ρ 1003).d (ρ 1001).i (qdm (ρ 0).i (qh (ρ 4).d) (qh (ρ 9).d) (ρ 1004).i.toNat)),mu:=(fun ρ=>(16 - (ρ 1004).i).toNat) }
def qeA (o:List Int) (self:Int) (L:List Int) (n:Int) (held buried:Bool):Int :=
 if buried then (if held then 3 else 0) else if n < 1 then 0 else if self ∈ qaq o L n then (if held then 0 else 1) else if held = true/\((qaq o L n).length:Int) = n then 2 else 0
def qtz (ρ:Env) (g:Nat):Prop:=qM (qd (ρ 0).d 32)/\qal ρ 2/\gOk ρ 10 11 g
def qcI:Ctr:={ fn := 35,nv:=12,ip:=[gIp 10],args:=[dgV 0,iv .i64 (.var 1),bS 2,iv .i64 (.var 7),.one (.vbool (.var 8)),.one (.vbool (.var 9))],heap:=[],ro:=[qaK 2,gHp 10 11],pre:=fun ρ=>qtz ρ gR,alts:=[
 { k:=1,ret:=iv .u8 (.var 12),heap:=[],post:=fun ρ=>(ρ 12).i = qeA (qd (ρ 0).d 32) (ρ 1).i (qh (ρ 5).d) (ρ 7).i (ρ 8).b (ρ 9).b }] }
def qeW:Ctr:={ qcI with fn := 41,ip:=[gIs 10],pre:=fun ρ=>qtz ρ gS }
end Go.Eng

set_option linter.unusedSimpArgs false
set_option linter.unusedVariables false
namespace Go.Eng
open Go Go.Proofs
def mtI:MT:=⟨false,[.i64],false,[.int .u64],[.vint .u64 (.lit 0)]⟩
def mtO:MT:=⟨true,List.replicate 32 .u8,false,[.any],[.vnilm]⟩
abbrev Cl:=List Int->Int->Option Int
def qdR (l:List ME) (i:Int):Option Int:=(l.find? fun x=>x.k == [i]).map fun x=>qV (x.v.headD .nilFunc)
def qW (h:Hp) (v:Value) (cl:Cl):Prop:=∃ b l c,v = .map (some b)/\qaW h b mtO l c /\
 (∀ x ∈ l,∃ b' m c',x.v = [.map (some b')]/\b' ≠ b/\qaW h b' mtI m c'/\∀ i,cl x.k i = qdR m i) /\
 (∀ x ∈ l,∀ y ∈ l,x.k ≠ y.k->x.v ≠ y.v)/\(∀ o i,(∀ x ∈ l,x.k ≠ o)->cl o i = none)/\∀ o i t,cl o i = some t->0 <= i/\i < 16/\0 <= t/\t < 18446744073709551616
def qeB (cl:Cl) (o:List Int) (i t:Int):Cl:=if 0 <= i/\i < 16 then fun o' i'=>if o' = o/\i' = i then some t else cl o' i' else cl
def qkQ (t clock:Int):Bool:=decide (t <= clock) && decide (clock - t < 12)
def qef (cl:Cl) (o:List Int) (self clock:Int) (L H:List Int):Bool:=(List.range 16).any fun (i:Nat)=>match cl o i with
 | some t=>qkQ t clock && decide ((i:Int) ∈ L) && !decide ((i:Int) ∈ H) && qA o i self
 | none=>false
def qqM (r v:Nat):SH:=.cells r 179 [.var v]
def clP (r:Nat):SV:=.one (.vptr r (.lit 0) 1 0)
def q9o (r v:Nat):SH:=.cells r 24 (qaz .u8 v 32)
def qep:Ctr:={ fn := 61,nv:=0,args:=[],heap:=[],ro:=[],pre:=fun _=>True,alts:=[
 { k:=3,ret:=clP 0,heap:=[qqM 0 1,.abs 2 1003],post:=fun ρ=>qW (ρ 2).h (ρ 1).v fun _ _=>none }] }
def qjd:Ctr:={ fn := 101,nv:=2,args:=[iv .u64 (.var 0),iv .u64 (.var 1)],heap:=[],ro:=[],pre:=fun ρ=>0 <= (ρ 0).i/\(ρ 0).i < 18446744073709551616/\0 <= (ρ 1).i/\(ρ 1).i < 18446744073709551616,alts:=[
 { k:=1,ret:=.one (.vbool (.var 2)),heap:=[],post:=fun ρ=>(ρ 2).b = qkQ (ρ 0).i (ρ 1).i }] }
def qfY:Ctr:={ fn := 62,nv:=6,args:=[clP 0,dgV 1,iv .i64 (.var 2),iv .u64 (.var 3)],heap:=[qqM 0 4,.abs 5 1003],ro:=[],pre:=fun ρ=>(∃ cl,qW (ρ 5).h (ρ 4).v cl)/\0 <= (ρ 3).i/\(ρ 3).i < 18446744073709551616,alts:=[
 { k:=1,ret:=.tup [],heap:=[qqM 0 4,.abs 6 1003],post:=fun ρ=>∀ cl,qW (ρ 5).h (ρ 4).v cl->qW (ρ 6).h (ρ 4).v (qeB cl (qd (ρ 1).d 32) (ρ 2).i (ρ 3).i) }] }
def q8Q (h:Hp) (it:Value) (m:List ME) (seen:List Nat):Prop:=∃ b' mo since st,it = .pointer (some ⟨b',0,none⟩)/\h b' = some (.mapIter mo since seen.toArray st) /\
 ((mo = none/\m = [])∨∃ b c,mo = some b/\b' ≠ b/\qaW h b mtI m c/\c <= since/\(seen = []∨m = []∨∃ e ∈ m,e.born < st)/\∀ n ∈ seen,∃ e ∈ m,e.born = n)
def qiq (h:Hp) (it:Value):Nat :=
 match it with
 | .pointer (some a) =>
  match h a.block with
  | some (.mapIter (some b) _ seen _) =>
   match h b with
   | some (.map es _)=>(es.toList.filter fun e=>!(seen.contains e.born)).length
   | _=>0
  | _=>0
 | _=>0
def q65 (ρ:Env):Prop:=(∃ cl,qW (ρ 5).h (ρ 4).v cl)/\qM (qd (ρ 1).d 32)/\qal ρ 6/\qal ρ 11/\gOk ρ 16 17 gR/\0 <= (ρ 3).i/\(ρ 3).i < 18446744073709551616
def qcr:Ctr:={ fn := 68,nv:=18,ip:=[gIp 16,(5030, 181)],args:=[clP 0,dgV 1,iv .i64 (.var 2),iv .u64 (.var 3),bS 6,bS 11],heap:=[qqM 0 4,.abs 5 1003],ro:=[qaK 6,qaK 11,gHp 16 17],pre:=q65,alts:=[
 { k:=2,ret:=.one (.vbool (.var 18)),heap:=[qqM 0 4,.abs 19 1003],post:=fun ρ=>∀ cl,qW (ρ 5).h (ρ 4).v cl->qW (ρ 19).h (ρ 4).v cl/\(ρ 18).b = qef cl (qd (ρ 1).d 32) (ρ 2).i (ρ 3).i (qh (ρ 9).d) (qh (ρ 14).d) }] }
def qju (o:List Int) (self clock:Int) (L H:List Int) (x:ME):Bool:=qkQ (qV (x.v.headD .nilFunc)) clock && decide (x.k.headD 0 ∈ L) && !decide (x.k.headD 0 ∈ H) && qA o (x.k.headD 0) self
def qqy (h0 h:Hp) (v it:Value) (o:List Int) (self clock:Int) (L H:List Int) (x:Bool):Prop:=∀ cl,qW h0 v cl->qW h v cl/\∃ m seen,q8Q h it m seen/\(∀ i,cl o i = qdR m i)/\x = (m.filter fun e=>seen.contains e.born).any (qju o self clock L H)
def qor:Inv:={ key:=6,nv:=8,env:=[(2,iv .i64 (.var 2)),(3,iv .u64 (.var 3)),(7,qvo 1000),(13,.one (.vptr 1001 (.lit 0) 16 0)),(14,.one (.vptr 1003 (.lit 0) 16 0)),(15,.one (.vbool (.var 1005))),(30,.one (.var 1006))],heap:=[q9o 1000 1,.arr 1001 157 qjz (.var 1002) (.lit 1),.arr 1003 157 qjz (.var 1004) (.lit 1),qqM 0 4,.abs 1007 1003],inv:=(fun ρ=>qcP (ρ 1002).d (qh (ρ 14).d) (ρ 14).d.length/\qcP (ρ 1004).d (qh (ρ 9).d) (ρ 9).d.length/\qqy (ρ 5).h (ρ 1007).h (ρ 4).v (ρ 1006).v (qd (ρ 1).d 32) (ρ 2).i (ρ 3).i (qh (ρ 9).d) (qh (ρ 14).d) (ρ 1005).b),mu:=(fun ρ=>qiq (ρ 1007).h (ρ 1006).v) }
end Go.Eng

set_option linter.unusedSimpArgs false
set_option linter.unusedVariables false
namespace Go.Eng
open Go Go.Proofs
structure ManV where
 k:Int
 n:Int
 t:Int
 s:Int
 o:List Int
 D:List (List Int)
def ManV.ok (m:ManV):Bool:=qJ m.k m.n m.t m.s m.D.length
def ManV.bytes (m:ManV):List Int:=qaO m.k m.n m.t m.s m.o ++ m.D.flatten
abbrev PcL:=List (Int × List Int)
def q8p (m d c:Nat):SH:=.arr m 27 qvI (.var d) (.var c)
def q8S (g o m p l q:Nat):SH:=.cells g 165 (qaz .u8 o 32 ++ [.vptr m (.lit 0) 37 0,.vslice p (.lit 0) (.var l) (.var q) 2])
def gaP (g:Nat):SV:=.one (.vptr g (.lit 0) 34 0)
def qt0 (b tag:Nat):List SH:=[q8S b (b + 1) (b + 2) (b + 5) (b + 6) (b + 7),q8p (b + 2) (b + 3) (b + 4),q5o (b + 5) (b + 8) (b + 7),.abs (b + 9) tag]
def qhW (h:Hp) (d:qe) (m:ManV):Prop:=∃ row D,d = [row]/\qt qvI row/\Rd h k32 (row[36]?.getD .nilFunc) D/\qfD D/\dgs D = m.D/\qb6 row 0 = m.k/\qb6 row 1 = m.n/\qb6 row 2 = m.t/\qb6 row 3 = m.s/\((List.range 32).map fun j=>qb6 row (4 + j)) = m.o/\qM m.o/\m.ok = true
def qpw (h:Hp) (P:qe) (L:PcL):Prop:=P.length = L.length/\qq7 h P P.length/\∀ j,j < P.length->(pcI P j,pcD h P j) = L.getD j (0,[])
def qcc (h:Hp) (r:Option Addr) (d:qe) (c n:Int) (P:qe) (M:Option ManV) (L:PcL):Prop:=n = P.length/\qpw h P L/\(∀ x ∈ L,(x.2.length:Int) <= 9000)/\L.length <= 255/\((M = none/\r = none/\c = 0/\d = []/\L = [])∨∃ m,M = some m/\c = 1/\qhW h d m/\L ≠ [])
def qhc (M:Option ManV) (L:PcL):Bool:=match M with
 | some m=>decide (m.k <= L.length)
 | none=>false
def gaB (ρ:Env) (b:Nat) (M:Option ManV) (L:PcL):Prop:=qcc (ρ (b + 9)).h (ρ (b + 2)).r (ρ (b + 3)).d (ρ (b + 4)).i (ρ (b + 6)).i (ρ (b + 8)).d M L
def qew:Ctr:={ fn := 45,nv:=1,args:=[dgV 0],heap:=[],ro:=[],pre:=fun _=>True,alts:=[
 { k:=1,ret:=gaP 1,heap:=[.cells 1 165 (qaz .u8 0 32 ++ [.vnilp,.vnils])],post:=fun _=>True }] }
def qcz:Ctr:={ fn := 47,nv:=10,args:=[gaP 0],heap:=[],ro:=qt0 0 20,pre:=fun ρ=>∃ M L,gaB ρ 0 M L,alts:=[
 { k:=1,ret:=.one (.vbool (.var 10)),heap:=[],post:=fun ρ=>∀ M L,gaB ρ 0 M L->(ρ 10).b = qhc M L }] }
def qdy:Ctr:={ fn := 55,nv:=10,args:=[gaP 0],heap:=[],ro:=qt0 0 20,pre:=fun ρ=>∃ M L,gaB ρ 0 M L,alts:=[
 { k:=4,ret:=.one (.vslice 10 (.lit 0) (.var 11) (.var 12) 1),heap:=[iHp 10 13 12],post:=fun ρ=>∀ M L,gaB ρ 0 M L->qa4 (ρ 13).d (ρ 11).i (L.map Prod.fst) }] }
def qyN:Inv:={ key:=5,nv:=5,env:=[(3,.one (.vslice 1000 (.lit 0) (.var 1001) (.var 1002) 1)),(12,pcS 5 6 7),(13,iv .i64 (.var 6)),(14,iv .i64 (.var 1004))],heap:=[iHp 1000 1003 1002],inv:=(fun ρ=>0 <= (ρ 1004).i/\(ρ 1004).i <= (ρ 6).i/\qa4 (ρ 1003).d (ρ 1001).i (qhy (ρ 8).d (ρ 1004).i.toNat)),mu:=(fun ρ=>((ρ 6).i - (ρ 1004).i).toNat) }
def qdD:Ctr:={ fn := 90,nv:=5,args:=[.one (.vslice 0 (.lit 0) (.var 1) (.var 2) 32)],heap:=[],ro:=[qfV 0 3 4],pre:=fun ρ=>0 <= (ρ 1).i/\(ρ 1).i = (ρ 3).d.length/\(ρ 1).i <= 4398046510976,alts:=[
 { k:=3,ret:=.one (.vslice 5 (.lit 0) (.var 1) (.var 6) 32),heap:=[qfV 5 7 6],post:=fun ρ=>(ρ 7).d = (ρ 3).d }] }
def qg6 (o:List Int) (M:Option ManV) (L:PcL) (m:ManV) (i:Int) (b:List Int):Int :=
 if m.ok = false then 2 else if sha m.bytes ≠ o then 20 else if qct m.k m.n m.t m.s m.D.length m.D i b ≠ 0 then qct m.k m.n m.t m.s m.D.length m.D i b else if i ∈ L.map Prod.fst then 7 else if qhc M L then 8 else 0
def q0l (ρ:Env) (r:Nat):ManV:=⟨(ρ r).i,(ρ (r + 1)).i,(ρ (r + 2)).i,(ρ (r + 3)).i,qd (ρ (r + 4)).d 32,dgs (ρ (r + 8)).d⟩
def q3c (ρ:Env):Prop:=(∃ M L,gaB ρ 0 M L)/\qM (qd (ρ 1).d 32)/\q67 ρ 10/\qjp (ρ 20).i/\qhC ρ 20/\(ρ 22).i <= 9000
def qei:Ctr:={ fn := 48,nv:=28,ip:=[gIp 26,(1002,9)],args:=[gaP 0,q6p 10,qkr 20],heap:=qt0 0 20,ro:=[qfV 15 18 19,qrq 20,gHp 26 27],pre:=fun ρ=>q3c ρ/\gOk ρ 26 27 gR,alts:=[
 { k:=9,ret:=iv .i64 (.var 36),heap:=[q8S 0 1 28 31 32 33,q8p 28 29 30,q5o 31 34 33,.abs 35 20],post:=fun ρ=>∀ M L,gaB ρ 0 M L->(ρ 36).i = qg6 (qd (ρ 1).d 32) M L (q0l ρ 10) (ρ 20).i (bI (ρ 24).d)/\qcc (ρ 35).h (ρ 28).r (ρ 29).d (ρ 30).i (ρ 32).i (ρ 34).d (if (ρ 36).i = 0 then some (q0l ρ 10) else M) (if (ρ 36).i = 0 then L ++ [((ρ 20).i,bI (ρ 24).d)] else L) }] }
end Go.Eng

set_option linter.unusedSimpArgs false
set_option linter.unusedVariables false
namespace Go.Proofs
open Go Go.Eng Go.RowKit Go.Lib
theorem q4K {P:Program} (a b:Addr) (xs ys:List Int) (c c':Nat) (w:World) (hx:∀ j x,xs[j]? = some x->w.cell? (a.add j) = some (.int .u8 x)) (hy:∀ j x,ys[j]? = some x->w.cell? (b.add j) = some (.int .u8 x)) :
  (Extern.BytealgCompare.compare #[.slice (some a) xs.length c,.slice (some b) ys.length c']).run P w = .ok (.int .i64 (compareBytes (Lib.bytesOf xs) (Lib.bytesOf ys))) w:=by
 have h1:=run_loadBytesX (P:=P) w xs a .empty hx
 have h2:=run_loadBytesX (P:=P) w ys b .empty hy
 change Sem.run P (do pure (goInt (Extern.BytealgCompare.cmp (<- Extern.Bytes.bytesOf (.slice (some a) xs.length c)) (<- Extern.Bytes.bytesOf (.slice (some b) ys.length c'))))) w = _
 simp only [Extern.Bytes.bytesOf,Sem.run_bind,h1,h2,Sem.run_pure,Result.andThen]
 rw [cmp_eq]
 simp [goInt]
set_option maxHeartbeats 1000000 in
set_option maxRecDepth 100000 in
theorem qpZ (a b:Addr) (xs ys:List Int) (c c':Nat) (w:World) (hx:∀ j x,xs[j]? = some x->w.cell? (a.add j) = some (.int .u8 x)) (hy:∀ j x,ys[j]? = some x->w.cell? (b.add j) = some (.int .u8 x)) :
  Calls Tryz.prog 118 #[.slice (some a) xs.length c,.slice (some b) ys.length c'] w fun e w'=>e = .returned (.int .i64 (compareBytes (Lib.bytesOf xs) (Lib.bytesOf ys)))/\w' = w:=by
 go_enter Tryz.func118,Tryz.ntmps118
 go_wp2
 rw [run_callFunc_extern Tryz.func139 (by kernel_rfl) (by kernel_rfl) (by kernel_rfl) (e:=Extern.BytealgCompare.compare) (by kernel_rfl),q4K a b xs ys c c' w hx hy]
 simp only [Result.andThen]
 rw [Oper.upon_value]
 go_wp2
 go_ret
 exact ⟨rfl,rfl⟩
end Go.Proofs

set_option linter.unusedSimpArgs false
set_option linter.unusedVariables false
namespace Go.Proofs
open Go Go.Eng
theorem qtw {x y:Int} (hx:0 <= x/\x < 256) (hy:0 <= y/\y < 256):x.toNat.toUInt8 < y.toNat.toUInt8↔x < y:=by
 rw [UInt8.lt_iff_toNat_lt]
 have h1:x.toNat.toUInt8.toNat = x.toNat:=by
  show x.toNat % 256 = x.toNat
  omega
 have h2:y.toNat.toUInt8.toNat = y.toNat:=by
  show y.toNat % 256 = y.toNat
  omega
 rw [h1,h2]; omega
theorem qlK:∀ {xs ys:List Int},qM xs->qM ys->Lib.compareBytes (Lib.bytesOf xs) (Lib.bytesOf ys) = qbr xs ys
 | [],[],_,_=>rfl
 | [],_ :: _,_,_=>rfl
 | _ :: _,[],_,_=>rfl
 | x :: xs,y :: ys,hx,hy=>by
  have h1:=qtw (hx x (List.mem_cons_self ..)) (hy y (List.mem_cons_self ..))
  have h2:=qtw (hy y (List.mem_cons_self ..)) (hx x (List.mem_cons_self ..))
  have h3:=qlK (xs:=xs) (ys:=ys) (fun z hz=>hx z (List.mem_cons_of_mem _ hz)) (fun z hz=>hy z (List.mem_cons_of_mem _ hz))
  show (if x.toNat.toUInt8 < y.toNat.toUInt8 then -1 else if y.toNat.toUInt8 < x.toNat.toUInt8 then 1 else Lib.compareBytes (Lib.bytesOf xs) (Lib.bytesOf ys)) = _
  rw [h3,qbr]
  simp only [h1,h2]
theorem q9e {k:IntKind} {v:Value} (h:CK.fits (.int k) v = true):∃ z,v = .int k z:=by
 cases v <;> simp [CK.fits] at h
 subst h
 exact ⟨_,rfl⟩
theorem quU {c:Array Value} {b o:Nat} {ty:TypeId} {fr:Nat × Nat} {d:qe} {w:World} (hb:w.heap[b]? = some (.cells c ty fr)) (hd:qD d 33) (hr:qad c o kRk d) :
  ∀ j x,((qd d 33).drop 1)[j]? = some x->w.cell? ((⟨b,o + 1,none⟩:Addr).add j) = some (.int .u8 x):=fun j x hx=>by
 obtain ⟨row,rfl,hl⟩:=hd
 obtain ⟨hf,hc⟩:=hr 0 row rfl
 rw [List.getElem?_drop] at hx
 have hj:1 + j < 33:=by
  rcases Nat.lt_or_ge (1 + j) 33 with h | h
  ·exact h
  ·rw [List.getElem?_eq_none (by simp [qd]; omega)] at hx; cases hx
 have hx2:x = qV (row[1 + j]?.getD .nilFunc):=by
  rw [qd,List.getElem?_map,List.getElem?_range hj] at hx
  have:=(Option.some.inj hx).symm
  rw [this]; rfl
 have hrow:row[1 + j]? = some row[1 + j]:=List.getElem?_eq_getElem (by omega)
 have hk:kRk[1 + j]? = some (.int .u8):=by
  have:kRk = .int .i64 :: List.replicate 32 (.int .u8):=rfl
  rw [this,Nat.add_comm,List.getElem?_cons_succ,List.getElem?_replicate,if_pos (by omega)]
 obtain ⟨z,hz⟩:=q9e (hf.2 (1 + j) (.int .u8) row[1 + j] hk hrow)
 have hv:=hc (1 + j) row[1 + j] hrow
 rw [hx2,hrow]
 simp only [Option.getD_some]
 rw [hz] at hv ⊢
 have e:((⟨b,o + 1,none⟩:Addr).add j) = ⟨b,o + 1 + j,none⟩:=by
  unfold Addr.add
  by_cases hj0:j = 0
  ·subst hj0; simp
  ·simp [hj0]
 rw [e]
 simp only [World.cell?,hb]
 show c[o + 1 + j]? = _
 rw [show o + 1 + j = o + 0 * kRk.length + (1 + j) by omega,hv]
 rfl
theorem q7f:qkb.ok Tryz.prog:=by
 refine ⟨fun args w=>Tryz.call118 args w,fun ρ w hF hO hg hd hw hs hro hp=>?_⟩
 obtain ⟨h2,h3,b2,b3⟩:=hp
 have hr0:=hro _ (List.mem_cons_self ..)
 have hr1:=hro _ (List.mem_cons_of_mem _ (List.mem_cons_self ..))
 obtain ⟨row2,e2,l2⟩:=h2
 obtain ⟨row3,e3,l3⟩:=h3
 rcases hr0 with h | ⟨b,o,c,ty,fr,q1,q2,q3⟩
 ·have h:(ρ 2).d = []:=h
  rw [e2] at h; cases h
 rcases hr1 with h | ⟨b',o',c',ty',fr',p1,p2,p3⟩
 ·have h:(ρ 3).d = []:=h
  rw [e3] at h; cases h
 have hsub:∀ {x:Nat} {X:Obj},hF.h x = some X->w.heap[x]? = some X:=fun h=>hw.1 _ _ (by simp [Hp.union,h])
 have hx:=quU (w:=w) (hsub q2) ⟨row2,e2,l2⟩ q3
 have hy:=quU (w:=w) (hsub p2) ⟨row3,e3,l3⟩ p3
 have hlen:∀ d:qe,((qd d 33).drop 1).length = 32:=fun d=>by simp [qd]
 have hc:=qpZ ⟨b,o + 1,none⟩ ⟨b',o' + 1,none⟩ _ _ 32 32 w hx hy
 rw [hlen,hlen] at hc
 have hargs:(List.map (SV.den ρ) qkb.args).toArray = #[.slice (some ⟨b,o + 1,none⟩) 32 32,.slice (some ⟨b',o' + 1,none⟩) 32 32]:=by
  simp [qkb,SV.den,T.den,O0.den,O3.den,q1,p1,qm]
 rw [hargs]
 refine hc.mono fun e w' h=>?_
 obtain ⟨rfl,rfl⟩:=h
 refine ⟨0,_,ρ.set 4 { i:=qbr ((qd (ρ 2).d 33).drop 1) ((qd (ρ 3).d 33).drop 1) },rfl,fun n=>?_,fun n hn=>Env.set_ne _ _ (by have:n < 4:=hn; omega),?_,?_,hO,hd,trivial,hw.1,hw.2⟩
 ·by_cases hn:n = 4
  ·subst hn; rw [Env.set_same]; exact ⟨rfl,fun row hr=>(by cases hr)⟩
  ·rw [Env.set_ne _ _ hn]; exact hg n
 ·rw [qlK b2 b3]; rfl
 ·rfl
end Go.Proofs

set_option linter.unusedSimpArgs false
set_option linter.unusedVariables false
set_option maxRecDepth 100000
namespace Go.Proofs
open Go Go.Eng

def qtD:Out:=(.br (.cmp .geq (.var 0) (.lit 0))
 (.ret 0 (sg 1 [bt 1 (.cmp .lss (.var 0) (.lit 16))]))
 (.ret 0 (sg 1 [bt 1 (.bl false)])))
theorem q2l:qk ⟨Tryz.prog,qc2,[],[]⟩ 100000 Tryz.f100 = qtD:=by kernel_rfl
theorem q72 (hd:∀ c ∈ ([]:List Ctr),c.ok Tryz.prog) (h:∀ ρ:Env,ρ.good->(qc2).pre ρ->qtD.den ⟨Tryz.prog,qc2,[],[]⟩ ρ):(qc2).ok Tryz.prog :=
 qf Tryz.func100 (fun a w=>Tryz.call100 a w) hd 100000 (fun ρ hg hp=>by rw [q2l]; exact h ρ hg hp)
@[simp] def qb1:T:=.rcons (.vbool (.bcell (.var 7) (.lit 0) 0)) (.rcons (.vbool (.bcell (.var 7) (.lit 0) 1)) (.rcons (.vbool (.bcell (.var 7) (.lit 0) 2)) (.rcons (.vbool (.bcell (.var 7) (.lit 0) 3)) (.rcons (.vbool (.bcell (.var 7) (.lit 0) 4)) (.rcons (.vbool (.bcell (.var 7) (.lit 0) 5)) (.rcons (.vbool (.bcell (.var 7) (.lit 0) 6)) (.rcons (.vbool (.bcell (.var 7) (.lit 0) 7)) (.rcons (.vbool (.bcell (.var 7) (.lit 0) 8)) (.rcons (.vbool (.bcell (.var 7) (.lit 0) 9)) (.rcons (.vbool (.bcell (.var 7) (.lit 0) 10)) (.rcons (.vbool (.bcell (.var 7) (.lit 0) 11)) (.rcons (.vbool (.bcell (.var 7) (.lit 0) 12)) (.rcons (.vbool (.bcell (.var 7) (.lit 0) 13)) (.rcons (.vbool (.bcell (.var 7) (.lit 0) 14)) (.rcons (.vbool (.bcell (.var 7) (.lit 0) 15)) .rnil)))))))))))))))
def qmH:Out:=(.fresh 5 (.need (.cmp .leq (.lit 0) (.var 1)) (.inv 0 6 (sg 1000 [bt 1001 (.rcons (.vbool (.bl false)) (.rcons (.vbool (.bl false)) (.rcons (.vbool (.bl false)) (.rcons (.vbool (.bl false)) (.rcons (.vbool (.bl false)) (.rcons (.vbool (.bl false)) (.rcons (.vbool (.bl false)) (.rcons (.vbool (.bl false)) (.rcons (.vbool (.bl false)) (.rcons (.vbool (.bl false)) (.rcons (.vbool (.bl false)) (.rcons (.vbool (.bl false)) (.rcons (.vbool (.bl false)) (.rcons (.vbool (.bl false)) (.rcons (.vbool (.bl false)) (.rcons (.vbool (.bl false)) .rnil)))))))))))))))),bt 1002 (.lit 0),bg 1000 5]) (.fresh 6 (.fresh 7 (.fresh 8 (.hyp 0 6 (.br (.cmp .lss (.var 8) (.var 1))
 (.need (.cmp .leq (.lit 0) (.var 8)) (.need (.cmp .lss (.var 8) (.dlen (.var 3))) (.pre 0 (sg 0 [bt 0 (.icell (.var 3) (.var 8) 0)]) (.both (.fresh 9 (.post 0 0 (sg 0 [bt 0 (.icell (.var 3) (.var 8) 0)]) 9 (.br (.var 9)
 (.need (.cmp .leq (.lit 0) (.icell (.var 3) (.var 8) 0)) (.need (.cmp .lss (.icell (.var 3) (.var 8) 0) (.lit 16)) (.need (.cmp .lss (.lit 0) (.dlen (.var 7))) (.back 0 6 (sg 1000 [bt 1001 (.c3 (.xput 0) (.var 7) (.icell (.var 3) (.var 8) 0) (.vbool (.bl true))),bt 1002 (.arith .add .i64 (.var 8) (.lit 1)),bg 1000 6])))))
 (.back 0 6 (sg 1000 [bv 1001 7,bt 1002 (.arith .add .i64 (.var 8) (.lit 1)),bg 1000 6]))))) .top))))
 (.need (.cmp .lss (.lit 0) (.dlen (.var 7))) (.ret 0 (sg 5 [bt 20 (.bcell (.dput (.var 7) (.lit 0) 0 qb1) (.lit 0) 15),bt 19 (.bcell (.dput (.var 7) (.lit 0) 0 qb1) (.lit 0) 14),bt 18 (.bcell (.dput (.var 7) (.lit 0) 0 qb1) (.lit 0) 13),bt 17 (.bcell (.dput (.var 7) (.lit 0) 0 qb1) (.lit 0) 12),bt 16 (.bcell (.dput (.var 7) (.lit 0) 0 qb1) (.lit 0) 11),bt 15 (.bcell (.dput (.var 7) (.lit 0) 0 qb1) (.lit 0) 10),bt 14 (.bcell (.dput (.var 7) (.lit 0) 0 qb1) (.lit 0) 9),bt 13 (.bcell (.dput (.var 7) (.lit 0) 0 qb1) (.lit 0) 8),bt 12 (.bcell (.dput (.var 7) (.lit 0) 0 qb1) (.lit 0) 7),bt 11 (.bcell (.dput (.var 7) (.lit 0) 0 qb1) (.lit 0) 6),bt 10 (.bcell (.dput (.var 7) (.lit 0) 0 qb1) (.lit 0) 5),bt 9 (.bcell (.dput (.var 7) (.lit 0) 0 qb1) (.lit 0) 4),bt 8 (.bcell (.dput (.var 7) (.lit 0) 0 qb1) (.lit 0) 3),bt 7 (.bcell (.dput (.var 7) (.lit 0) 0 qb1) (.lit 0) 2),bt 6 (.bcell (.dput (.var 7) (.lit 0) 0 qb1) (.lit 0) 1),bt 5 (.bcell (.dput (.var 7) (.lit 0) 0 qb1) (.lit 0) 0)])))))))))))
theorem q4z:qk ⟨Tryz.prog,qcb,[qc2],[qq3]⟩ 100000 Tryz.f82 = qmH:=by kernel_rfl
theorem q9f (hd:∀ c ∈ ([qc2]:List Ctr),c.ok Tryz.prog) (h:∀ ρ:Env,ρ.good->(qcb).pre ρ->qmH.den ⟨Tryz.prog,qcb,[qc2],[qq3]⟩ ρ):(qcb).ok Tryz.prog :=
 qf Tryz.func82 (fun a w=>Tryz.call82 a w) hd 100000 (fun ρ hg hp=>by rw [q4z]; exact h ρ hg hp)
@[simp] def qss:Sg:=sg 0 [bv 7 3,bv 5 8,bt 4 (.dapp (.dapp (.rcons (x8 0 0) .rnil) (.dapp (.rcons (x8 1 0) .rnil) (.dapp (.rcons (x8 2 0) .rnil) (.dapp (.rcons (x8 3 0) .rnil) (.dapp (.rcons (x8 4 0) .rnil) (.dapp (.rcons (x8 5 0) .rnil) (.dapp (.rcons (x8 6 0) .rnil) (.dapp (.rcons (x8 7 0) .rnil) (.dapp (.rcons (x8 8 0) .rnil) (.dapp (.rcons (x8 9 0) .rnil) (.dapp (.rcons (x8 10 0) .rnil) (.dapp (.rcons (x8 11 0) .rnil) (.dapp (.rcons (x8 12 0) .rnil) (.dapp (.rcons (x8 13 0) .rnil) (.dapp (.rcons (x8 14 0) .rnil) (.dapp (.rcons (x8 15 0) .rnil) (.dapp (.rcons (x8 16 0) .rnil) (.dapp (.rcons (x8 17 0) .rnil) (.dapp (.rcons (x8 18 0) .rnil) (.dapp (.rcons (x8 19 0) .rnil) (.dapp (.rcons (x8 20 0) .rnil) (.dapp (.rcons (x8 21 0) .rnil) (.dapp (.rcons (x8 22 0) .rnil) (.dapp (.rcons (x8 23 0) .rnil) (.dapp (.rcons (x8 24 0) .rnil) (.dapp (.rcons (x8 25 0) .rnil) (.dapp (.rcons (x8 26 0) .rnil) (.dapp (.rcons (x8 27 0) .rnil) (.dapp (.rcons (x8 28 0) .rnil) (.dapp (.rcons (x8 29 0) .rnil) (.dapp (.rcons (x8 30 0) .rnil) (.rcons (x8 31 0) .rnil)))))))))))))))))))))))))))))))) (.rcons (.vint .u8 (.conv .u8 (.var 1))) .rnil)),bv 3 8,bt 2 (.lit 33),bt 1 (.lit 0),bg 0 7,bg 6 2]
def qqx:Out:=(.fresh 4 (.fresh 5 (.fresh 6 (.need (.cmp .leq (.tims (.lit 1) (.lit 33)) (.lit 140737488355328)) (.fresh 7 (.fresh 8 (.know (.cmp .leq (.lit 33) (.var 8)) (.pre 0 qss (.both (.fresh 9 (.post 0 0 qss 9 (.ret 0 (sg 4 [bt 4 (r8 9)])))) .top)))))))))
theorem qyG:qk ⟨Tryz.prog,qcx,[qaT],[]⟩ 100000 Tryz.f24 = qqx:=by kernel_rfl
theorem q52 (hd:∀ c ∈ ([qaT]:List Ctr),c.ok Tryz.prog) (h:∀ ρ:Env,ρ.good->(qcx).pre ρ->qqx.den ⟨Tryz.prog,qcx,[qaT],[]⟩ ρ):(qcx).ok Tryz.prog :=
 qf Tryz.func24 (fun a w=>Tryz.call24 a w) hd 100000 (fun ρ hg hp=>by rw [qyG]; exact h ρ hg hp)
@[simp] def qqf:Sg:=sg 0 [bv 6 3,bv 4 11,bt 3 (.dapp (.dapp (.rcons (x8 0 0) .rnil) (.dapp (.rcons (x8 1 0) .rnil) (.dapp (.rcons (x8 2 0) .rnil) (.dapp (.rcons (x8 3 0) .rnil) (.dapp (.rcons (x8 4 0) .rnil) (.dapp (.rcons (x8 5 0) .rnil) (.dapp (.rcons (x8 6 0) .rnil) (.dapp (.rcons (x8 7 0) .rnil) (.dapp (.rcons (x8 8 0) .rnil) (.dapp (.rcons (x8 9 0) .rnil) (.dapp (.rcons (x8 10 0) .rnil) (.dapp (.rcons (x8 11 0) .rnil) (.dapp (.rcons (x8 12 0) .rnil) (.dapp (.rcons (x8 13 0) .rnil) (.dapp (.rcons (x8 14 0) .rnil) (.dapp (.rcons (x8 15 0) .rnil) (.dapp (.rcons (x8 16 0) .rnil) (.dapp (.rcons (x8 17 0) .rnil) (.dapp (.rcons (x8 18 0) .rnil) (.dapp (.rcons (x8 19 0) .rnil) (.dapp (.rcons (x8 20 0) .rnil) (.dapp (.rcons (x8 21 0) .rnil) (.dapp (.rcons (x8 22 0) .rnil) (.dapp (.rcons (x8 23 0) .rnil) (.dapp (.rcons (x8 24 0) .rnil) (.dapp (.rcons (x8 25 0) .rnil) (.dapp (.rcons (x8 26 0) .rnil) (.dapp (.rcons (x8 27 0) .rnil) (.dapp (.rcons (x8 28 0) .rnil) (.dapp (.rcons (x8 29 0) .rnil) (.dapp (.rcons (x8 30 0) .rnil) (.rcons (x8 31 0) .rnil)))))))))))))))))))))))))))))))) (.rcons (.vint .u8 (.conv .u8 (.var 1))) .rnil)),bv 2 11,bt 1 (.lit 33),bg 0 10,bg 5 2]
def qoz:Out:=(.fresh 4 (.fresh 5 (.fresh 6 (.need (.cmp .leq (.tims (.lit 1) (.lit 32)) (.lit 140737488355328)) (.fresh 7 (.fresh 8 (.fresh 9 (.need (.cmp .leq (.tims (.lit 1) (.lit 33)) (.lit 140737488355328)) (.fresh 10 (.fresh 11 (.pre 0 qqf (.both (.fresh 12 (.post 0 0 qqf 12 (.ret 0 (sg 4 [bt 4 (r8 12)])))) .top))))))))))))
theorem qxm:qk ⟨Tryz.prog,qdH,[qgK],[]⟩ 100000 Tryz.f25 = qoz:=by kernel_rfl
theorem q14 (hd:∀ c ∈ ([qgK]:List Ctr),c.ok Tryz.prog) (h:∀ ρ:Env,ρ.good->(qdH).pre ρ->qoz.den ⟨Tryz.prog,qdH,[qgK],[]⟩ ρ):(qdH).ok Tryz.prog :=
 qf Tryz.func25 (fun a w=>Tryz.call25 a w) hd 100000 (fun ρ hg hp=>by rw [qxm]; exact h ρ hg hp)
def qvP:Out:=(.fresh 4 (.fresh 5 (.pre 0 (sg 0 [bv 3 3,bv 1 1,bt 0 (r8 0),bg 2 2]) (.both (.fresh 6 (.post 0 0 (sg 0 [bv 3 3,bv 1 1,bt 0 (r8 0),bg 2 2]) 6 (.ret 0 (sg 4 [bt 4 (r8 6)])))) .top))))
theorem q2r:qk ⟨Tryz.prog,qdZ,[qcx],[]⟩ 100000 Tryz.f80 = qvP:=by kernel_rfl
theorem q6I (hd:∀ c ∈ ([qcx]:List Ctr),c.ok Tryz.prog) (h:∀ ρ:Env,ρ.good->(qdZ).pre ρ->qvP.den ⟨Tryz.prog,qdZ,[qcx],[]⟩ ρ):(qdZ).ok Tryz.prog :=
 qf Tryz.func80 (fun a w=>Tryz.call80 a w) hd 100000 (fun ρ hg hp=>by rw [q2r]; exact h ρ hg hp)
def qmq:Out:=(.fresh 4 (.fresh 5 (.both (.pre 0 (sg 0 [bt 3 (.rcons (.vint .i64 (.var 2)) (r8 3)),bt 2 (.rcons (.vint .i64 (.var 0)) (r8 1)),bg 1 5,bg 0 4]) (.both (.fresh 6 (.post 0 0 (sg 0 [bt 3 (.rcons (.vint .i64 (.var 2)) (r8 3)),bt 2 (.rcons (.vint .i64 (.var 0)) (r8 1)),bg 1 5,bg 0 4]) 6 (.br (.cmp .neq (.var 6) (.lit 0))
 (.ret 0 (sg 4 [bv 4 6]))
 (.ret 0 (sg 4 [bt 4 (.arith .sub .i64 (.var 0) (.var 2))]))))) .top)) .top)))
theorem qwm:qk ⟨Tryz.prog,qcZ,[qkb],[]⟩ 100000 Tryz.f81 = qmq:=by kernel_rfl
theorem qzu (hd:∀ c ∈ ([qkb]:List Ctr),c.ok Tryz.prog) (h:∀ ρ:Env,ρ.good->(qcZ).pre ρ->qmq.den ⟨Tryz.prog,qcZ,[qkb],[]⟩ ρ):(qcZ).ok Tryz.prog :=
 qf Tryz.func81 (fun a w=>Tryz.call81 a w) hd 100000 (fun ρ hg hp=>by rw [qwm]; exact h ρ hg hp)
@[simp] def qpU:Out:=.fresh 10 (.both (.fresh 11 (.both (.both (.br (.c2 .req (r8 6) (r8 8))
 (.ret 0 (sg 5 [bt 5 (.cmp .lss (.var 1) (.var 2))]))
 (.pre 1 (sg 0 [bv 2 2,bt 3 (r8 8),bv 0 1,bt 1 (r8 6)]) (.both (.fresh 12 (.post 1 0 (sg 0 [bv 2 2,bt 3 (r8 8),bv 0 1,bt 1 (r8 6)]) 12 (.ret 0 (sg 5 [bt 5 (.cmp .lss (.var 12) (.lit 0))])))) .top))) .top) .top)) .top)
@[simp] def qpe:Out:=.fresh 8 (.both (.pre 0 (sg 0 [bv 3 4,bv 1 2,bt 0 (r8 0),bg 2 3]) (.both (.fresh 9 (.fresh 10 (.post 0 0 (sg 0 [bv 3 4,bv 1 2,bt 0 (r8 0),bg 2 3]) 9 (.both (.fresh 11 (.both (.both (.br (.c2 .req (r8 6) (r8 9))
 (.ret 0 (sg 5 [bt 5 (.cmp .lss (.var 1) (.var 2))]))
 (.pre 1 (sg 0 [bv 2 2,bt 3 (r8 9),bv 0 1,bt 1 (r8 6)]) (.both (.fresh 12 (.post 1 0 (sg 0 [bv 2 2,bt 3 (r8 9),bv 0 1,bt 1 (r8 6)]) 12 (.ret 0 (sg 5 [bt 5 (.cmp .lss (.var 12) (.lit 0))])))) .top))) .top) .top)) .top)))) .top)) (.both (.fresh 9 (.both (.pre 0 (sg 0 [bv 3 4,bv 1 2,bt 0 (r8 0),bg 2 3]) (.both (.fresh 10 (.fresh 11 (.post 0 0 (sg 0 [bv 3 4,bv 1 2,bt 0 (r8 0),bg 2 3]) 10 (.both (.both (.br (.c2 .req (r8 6) (r8 10))
 (.ret 0 (sg 5 [bt 5 (.cmp .lss (.var 1) (.var 2))]))
 (.pre 1 (sg 0 [bv 2 2,bt 3 (r8 10),bv 0 1,bt 1 (r8 6)]) (.both (.fresh 12 (.post 1 0 (sg 0 [bv 2 2,bt 3 (r8 10),bv 0 1,bt 1 (r8 6)]) 12 (.ret 0 (sg 5 [bt 5 (.cmp .lss (.var 12) (.lit 0))])))) .top))) .top) .top)))) .top)) .top)) .top))
@[simp] def qqn:Out:=.fresh 6 (.both (.pre 0 (sg 0 [bv 3 4,bv 1 1,bt 0 (r8 0),bg 2 3]) (.both (.fresh 7 (.fresh 8 (.post 0 0 (sg 0 [bv 3 4,bv 1 1,bt 0 (r8 0),bg 2 3]) 7 (.both (.pre 0 (sg 0 [bv 3 4,bv 1 2,bt 0 (r8 0),bg 2 3]) (.both (.fresh 9 (.fresh 10 (.post 0 0 (sg 0 [bv 3 4,bv 1 2,bt 0 (r8 0),bg 2 3]) 9 (.both (.fresh 11 (.both (.both (.br (.c2 .req (r8 7) (r8 9))
 (.ret 0 (sg 5 [bt 5 (.cmp .lss (.var 1) (.var 2))]))
 (.pre 1 (sg 0 [bv 2 2,bt 3 (r8 9),bv 0 1,bt 1 (r8 7)]) (.both (.fresh 12 (.post 1 0 (sg 0 [bv 2 2,bt 3 (r8 9),bv 0 1,bt 1 (r8 7)]) 12 (.ret 0 (sg 5 [bt 5 (.cmp .lss (.var 12) (.lit 0))])))) .top))) .top) .top)) .top)))) .top)) (.both (.fresh 9 (.both (.pre 0 (sg 0 [bv 3 4,bv 1 2,bt 0 (r8 0),bg 2 3]) (.both (.fresh 10 (.fresh 11 (.post 0 0 (sg 0 [bv 3 4,bv 1 2,bt 0 (r8 0),bg 2 3]) 10 (.both (.both (.br (.c2 .req (r8 7) (r8 10))
 (.ret 0 (sg 5 [bt 5 (.cmp .lss (.var 1) (.var 2))]))
 (.pre 1 (sg 0 [bv 2 2,bt 3 (r8 10),bv 0 1,bt 1 (r8 7)]) (.both (.fresh 12 (.post 1 0 (sg 0 [bv 2 2,bt 3 (r8 10),bv 0 1,bt 1 (r8 7)]) 12 (.ret 0 (sg 5 [bt 5 (.cmp .lss (.var 12) (.lit 0))])))) .top))) .top) .top)))) .top)) .top)) .top))))) .top)) (.both (.fresh 7 (.both (.pre 0 (sg 0 [bv 3 4,bv 1 1,bt 0 (r8 0),bg 2 3]) (.both (.fresh 8 (.fresh 9 (.post 0 0 (sg 0 [bv 3 4,bv 1 1,bt 0 (r8 0),bg 2 3]) 8 (.both (.pre 0 (sg 0 [bv 3 4,bv 1 2,bt 0 (r8 0),bg 2 3]) (.both (.fresh 10 (.fresh 11 (.post 0 0 (sg 0 [bv 3 4,bv 1 2,bt 0 (r8 0),bg 2 3]) 10 (.both (.both (.br (.c2 .req (r8 8) (r8 10))
 (.ret 0 (sg 5 [bt 5 (.cmp .lss (.var 1) (.var 2))]))
 (.pre 1 (sg 0 [bv 2 2,bt 3 (r8 10),bv 0 1,bt 1 (r8 8)]) (.both (.fresh 12 (.post 1 0 (sg 0 [bv 2 2,bt 3 (r8 10),bv 0 1,bt 1 (r8 8)]) 12 (.ret 0 (sg 5 [bt 5 (.cmp .lss (.var 12) (.lit 0))])))) .top))) .top) .top)))) .top)) .top)))) .top)) .top)) .top))
def qo7:Out:=(.fresh 5 (.both (.pre 0 (sg 0 [bv 3 4,bv 1 1,bt 0 (r8 0),bg 2 3]) (.both (.fresh 6 (.fresh 7 (.post 0 0 (sg 0 [bv 3 4,bv 1 1,bt 0 (r8 0),bg 2 3]) 6 (.both (.pre 0 (sg 0 [bv 3 4,bv 1 2,bt 0 (r8 0),bg 2 3]) (.both (.fresh 8 (.fresh 9 (.post 0 0 (sg 0 [bv 3 4,bv 1 2,bt 0 (r8 0),bg 2 3]) 8 (.both qpU (.both qpU .top))))) .top)) (.both qpe (.both qpe .top)))))) .top)) (.both qqn (.both qqn .top))))
theorem qwH:qk ⟨Tryz.prog,qaS,[qdZ,qcZ],[]⟩ 100000 Tryz.f26 = qo7:=by kernel_rfl
theorem q2T (hd:∀ c ∈ ([qdZ,qcZ]:List Ctr),c.ok Tryz.prog) (h:∀ ρ:Env,ρ.good->(qaS).pre ρ->qo7.den ⟨Tryz.prog,qaS,[qdZ,qcZ],[]⟩ ρ):(qaS).ok Tryz.prog :=
 qf Tryz.func26 (fun a w=>Tryz.call26 a w) hd 100000 (fun ρ hg hp=>by rw [qwH]; exact h ρ hg hp)
@[simp] def qjs:T:=.c1 .vbytes (.dapp (.rcons (x8 0 9) .rnil) (.dapp (.rcons (x8 1 9) .rnil) (.dapp (.rcons (x8 2 9) .rnil) (.dapp (.rcons (x8 3 9) .rnil) (.dapp (.rcons (x8 4 9) .rnil) (.dapp (.rcons (x8 5 9) .rnil) (.dapp (.rcons (x8 6 9) .rnil) (.dapp (.rcons (x8 7 9) .rnil) (.dapp (.rcons (x8 8 9) .rnil) (.dapp (.rcons (x8 9 9) .rnil) (.dapp (.rcons (x8 10 9) .rnil) (.dapp (.rcons (x8 11 9) .rnil) (.dapp (.rcons (x8 12 9) .rnil) (.dapp (.rcons (x8 13 9) .rnil) (.dapp (.rcons (x8 14 9) .rnil) (.dapp (.rcons (x8 15 9) .rnil) (.dapp (.rcons (x8 16 9) .rnil) (.dapp (.rcons (x8 17 9) .rnil) (.dapp (.rcons (x8 18 9) .rnil) (.dapp (.rcons (x8 19 9) .rnil) (.dapp (.rcons (x8 20 9) .rnil) (.dapp (.rcons (x8 21 9) .rnil) (.dapp (.rcons (x8 22 9) .rnil) (.dapp (.rcons (x8 23 9) .rnil) (.dapp (.rcons (x8 24 9) .rnil) (.dapp (.rcons (x8 25 9) .rnil) (.dapp (.rcons (x8 26 9) .rnil) (.dapp (.rcons (x8 27 9) .rnil) (.dapp (.rcons (x8 28 9) .rnil) (.dapp (.rcons (x8 29 9) .rnil) (.dapp (.rcons (x8 30 9) .rnil) (.rcons (x8 31 9) .rnil))))))))))))))))))))))))))))))))
@[simp] def qjq:T:=.c1 .vbytes (.dapp (.rcons (x8 0 8) .rnil) (.dapp (.rcons (x8 1 8) .rnil) (.dapp (.rcons (x8 2 8) .rnil) (.dapp (.rcons (x8 3 8) .rnil) (.dapp (.rcons (x8 4 8) .rnil) (.dapp (.rcons (x8 5 8) .rnil) (.dapp (.rcons (x8 6 8) .rnil) (.dapp (.rcons (x8 7 8) .rnil) (.dapp (.rcons (x8 8 8) .rnil) (.dapp (.rcons (x8 9 8) .rnil) (.dapp (.rcons (x8 10 8) .rnil) (.dapp (.rcons (x8 11 8) .rnil) (.dapp (.rcons (x8 12 8) .rnil) (.dapp (.rcons (x8 13 8) .rnil) (.dapp (.rcons (x8 14 8) .rnil) (.dapp (.rcons (x8 15 8) .rnil) (.dapp (.rcons (x8 16 8) .rnil) (.dapp (.rcons (x8 17 8) .rnil) (.dapp (.rcons (x8 18 8) .rnil) (.dapp (.rcons (x8 19 8) .rnil) (.dapp (.rcons (x8 20 8) .rnil) (.dapp (.rcons (x8 21 8) .rnil) (.dapp (.rcons (x8 22 8) .rnil) (.dapp (.rcons (x8 23 8) .rnil) (.dapp (.rcons (x8 24 8) .rnil) (.dapp (.rcons (x8 25 8) .rnil) (.dapp (.rcons (x8 26 8) .rnil) (.dapp (.rcons (x8 27 8) .rnil) (.dapp (.rcons (x8 28 8) .rnil) (.dapp (.rcons (x8 29 8) .rnil) (.dapp (.rcons (x8 30 8) .rnil) (.rcons (x8 31 8) .rnil))))))))))))))))))))))))))))))))
@[simp] def qjk:T:=.c1 .vbytes (.dapp (.rcons (x8 0 7) .rnil) (.dapp (.rcons (x8 1 7) .rnil) (.dapp (.rcons (x8 2 7) .rnil) (.dapp (.rcons (x8 3 7) .rnil) (.dapp (.rcons (x8 4 7) .rnil) (.dapp (.rcons (x8 5 7) .rnil) (.dapp (.rcons (x8 6 7) .rnil) (.dapp (.rcons (x8 7 7) .rnil) (.dapp (.rcons (x8 8 7) .rnil) (.dapp (.rcons (x8 9 7) .rnil) (.dapp (.rcons (x8 10 7) .rnil) (.dapp (.rcons (x8 11 7) .rnil) (.dapp (.rcons (x8 12 7) .rnil) (.dapp (.rcons (x8 13 7) .rnil) (.dapp (.rcons (x8 14 7) .rnil) (.dapp (.rcons (x8 15 7) .rnil) (.dapp (.rcons (x8 16 7) .rnil) (.dapp (.rcons (x8 17 7) .rnil) (.dapp (.rcons (x8 18 7) .rnil) (.dapp (.rcons (x8 19 7) .rnil) (.dapp (.rcons (x8 20 7) .rnil) (.dapp (.rcons (x8 21 7) .rnil) (.dapp (.rcons (x8 22 7) .rnil) (.dapp (.rcons (x8 23 7) .rnil) (.dapp (.rcons (x8 24 7) .rnil) (.dapp (.rcons (x8 25 7) .rnil) (.dapp (.rcons (x8 26 7) .rnil) (.dapp (.rcons (x8 27 7) .rnil) (.dapp (.rcons (x8 28 7) .rnil) (.dapp (.rcons (x8 29 7) .rnil) (.dapp (.rcons (x8 30 7) .rnil) (.rcons (x8 31 7) .rnil))))))))))))))))))))))))))))))))
@[simp] def qjx:T:=.c1 .vbytes (.dapp (.rcons (x8 0 6) .rnil) (.dapp (.rcons (x8 1 6) .rnil) (.dapp (.rcons (x8 2 6) .rnil) (.dapp (.rcons (x8 3 6) .rnil) (.dapp (.rcons (x8 4 6) .rnil) (.dapp (.rcons (x8 5 6) .rnil) (.dapp (.rcons (x8 6 6) .rnil) (.dapp (.rcons (x8 7 6) .rnil) (.dapp (.rcons (x8 8 6) .rnil) (.dapp (.rcons (x8 9 6) .rnil) (.dapp (.rcons (x8 10 6) .rnil) (.dapp (.rcons (x8 11 6) .rnil) (.dapp (.rcons (x8 12 6) .rnil) (.dapp (.rcons (x8 13 6) .rnil) (.dapp (.rcons (x8 14 6) .rnil) (.dapp (.rcons (x8 15 6) .rnil) (.dapp (.rcons (x8 16 6) .rnil) (.dapp (.rcons (x8 17 6) .rnil) (.dapp (.rcons (x8 18 6) .rnil) (.dapp (.rcons (x8 19 6) .rnil) (.dapp (.rcons (x8 20 6) .rnil) (.dapp (.rcons (x8 21 6) .rnil) (.dapp (.rcons (x8 22 6) .rnil) (.dapp (.rcons (x8 23 6) .rnil) (.dapp (.rcons (x8 24 6) .rnil) (.dapp (.rcons (x8 25 6) .rnil) (.dapp (.rcons (x8 26 6) .rnil) (.dapp (.rcons (x8 27 6) .rnil) (.dapp (.rcons (x8 28 6) .rnil) (.dapp (.rcons (x8 29 6) .rnil) (.dapp (.rcons (x8 30 6) .rnil) (.rcons (x8 31 6) .rnil))))))))))))))))))))))))))))))))
@[simp] def qnf:Out:=.fresh 8 (.both (.fresh 9 (.both (.both (.br (.c2 .req (r8 6) (r8 7))
 (.ret 0 (sg 5 [bt 5 (.cmp .lss (.var 1) (.var 2))]))
 (.ret 0 (sg 5 [bt 5 (.c2 .slt qjx qjk)]))) .top) .top)) .top)
@[simp] def qne:Out:=.fresh 7 (.both (.pre 0 (sg 0 [bv 3 4,bv 1 2,bt 0 (r8 0),bg 2 3]) (.both (.fresh 8 (.post 0 0 (sg 0 [bv 3 4,bv 1 2,bt 0 (r8 0),bg 2 3]) 8 (.both (.fresh 9 (.both (.both (.br (.c2 .req (r8 6) (r8 8))
 (.ret 0 (sg 5 [bt 5 (.cmp .lss (.var 1) (.var 2))]))
 (.ret 0 (sg 5 [bt 5 (.c2 .slt qjx qjq)]))) .top) .top)) .top))) .top)) (.both (.fresh 8 (.both (.pre 0 (sg 0 [bv 3 4,bv 1 2,bt 0 (r8 0),bg 2 3]) (.both (.fresh 9 (.post 0 0 (sg 0 [bv 3 4,bv 1 2,bt 0 (r8 0),bg 2 3]) 9 (.both (.both (.br (.c2 .req (r8 6) (r8 9))
 (.ret 0 (sg 5 [bt 5 (.cmp .lss (.var 1) (.var 2))]))
 (.ret 0 (sg 5 [bt 5 (.c2 .slt qjx qjs)]))) .top) .top))) .top)) .top)) .top))
@[simp] def qn7:Out:=.fresh 6 (.both (.pre 0 (sg 0 [bv 3 4,bv 1 1,bt 0 (r8 0),bg 2 3]) (.both (.fresh 7 (.post 0 0 (sg 0 [bv 3 4,bv 1 1,bt 0 (r8 0),bg 2 3]) 7 (.both (.pre 0 (sg 0 [bv 3 4,bv 1 2,bt 0 (r8 0),bg 2 3]) (.both (.fresh 8 (.post 0 0 (sg 0 [bv 3 4,bv 1 2,bt 0 (r8 0),bg 2 3]) 8 (.both (.fresh 9 (.both (.both (.br (.c2 .req (r8 7) (r8 8))
 (.ret 0 (sg 5 [bt 5 (.cmp .lss (.var 1) (.var 2))]))
 (.ret 0 (sg 5 [bt 5 (.c2 .slt qjk qjq)]))) .top) .top)) .top))) .top)) (.both (.fresh 8 (.both (.pre 0 (sg 0 [bv 3 4,bv 1 2,bt 0 (r8 0),bg 2 3]) (.both (.fresh 9 (.post 0 0 (sg 0 [bv 3 4,bv 1 2,bt 0 (r8 0),bg 2 3]) 9 (.both (.both (.br (.c2 .req (r8 7) (r8 9))
 (.ret 0 (sg 5 [bt 5 (.cmp .lss (.var 1) (.var 2))]))
 (.ret 0 (sg 5 [bt 5 (.c2 .slt qjk qjs)]))) .top) .top))) .top)) .top)) .top)))) .top)) (.both (.fresh 7 (.both (.pre 0 (sg 0 [bv 3 4,bv 1 1,bt 0 (r8 0),bg 2 3]) (.both (.fresh 8 (.post 0 0 (sg 0 [bv 3 4,bv 1 1,bt 0 (r8 0),bg 2 3]) 8 (.both (.pre 0 (sg 0 [bv 3 4,bv 1 2,bt 0 (r8 0),bg 2 3]) (.both (.fresh 9 (.post 0 0 (sg 0 [bv 3 4,bv 1 2,bt 0 (r8 0),bg 2 3]) 9 (.both (.both (.br (.c2 .req (r8 8) (r8 9))
 (.ret 0 (sg 5 [bt 5 (.cmp .lss (.var 1) (.var 2))]))
 (.ret 0 (sg 5 [bt 5 (.c2 .slt qjq qjs)]))) .top) .top))) .top)) .top))) .top)) .top)) .top))
def qmd:Out:=(.fresh 5 (.both (.pre 0 (sg 0 [bv 3 4,bv 1 1,bt 0 (r8 0),bg 2 3]) (.both (.fresh 6 (.post 0 0 (sg 0 [bv 3 4,bv 1 1,bt 0 (r8 0),bg 2 3]) 6 (.both (.pre 0 (sg 0 [bv 3 4,bv 1 2,bt 0 (r8 0),bg 2 3]) (.both (.fresh 7 (.post 0 0 (sg 0 [bv 3 4,bv 1 2,bt 0 (r8 0),bg 2 3]) 7 (.both qnf (.both qnf .top)))) .top)) (.both qne (.both qne .top))))) .top)) (.both qn7 (.both qn7 .top))))
theorem quK:qk ⟨Tryz.prog,qbs,[qdH],[]⟩ 100000 Tryz.f27 = qmd:=by kernel_rfl
theorem qyV (hd:∀ c ∈ ([qdH]:List Ctr),c.ok Tryz.prog) (h:∀ ρ:Env,ρ.good->(qbs).pre ρ->qmd.den ⟨Tryz.prog,qbs,[qdH],[]⟩ ρ):(qbs).ok Tryz.prog :=
 qf Tryz.func27 (fun a w=>Tryz.call27 a w) hd 100000 (fun ρ hg hp=>by rw [quK]; exact h ρ hg hp)
end Go.Proofs

set_option linter.unusedSimpArgs false
set_option linter.unusedVariables false
namespace Go.Proofs
open Go Go.Eng
set_option maxRecDepth 20000
theorem qrk:qc2.ok Tryz.prog:=q72 (by simp) fun ρ hg hp=>by
 simp (config:={ maxSteps:=4000000 }) [qtD,qc2,qp3]
 exact ⟨fun h=>by simp [qK,h],fun h1 h2=>by omega⟩
theorem qoD (d:qe) (p:Int):(qd d 32).map (fun x=>[Value.int .u8 x]) ++ [[Value.int .u8 (IntKind.u8.wrap p)]] = [[.int .u8 (qa d 0)],[.int .u8 (qa d 1)],[.int .u8 (qa d 2)],[.int .u8 (qa d 3)],[.int .u8 (qa d 4)],[.int .u8 (qa d 5)],[.int .u8 (qa d 6)],[.int .u8 (qa d 7)],[.int .u8 (qa d 8)],[.int .u8 (qa d 9)],[.int .u8 (qa d 10)],[.int .u8 (qa d 11)],[.int .u8 (qa d 12)],[.int .u8 (qa d 13)],[.int .u8 (qa d 14)],[.int .u8 (qa d 15)],[.int .u8 (qa d 16)],[.int .u8 (qa d 17)],[.int .u8 (qa d 18)],[.int .u8 (qa d 19)],[.int .u8 (qa d 20)],[.int .u8 (qa d 21)],[.int .u8 (qa d 22)],[.int .u8 (qa d 23)],[.int .u8 (qa d 24)],[.int .u8 (qa d 25)],[.int .u8 (qa d 26)],[.int .u8 (qa d 27)],[.int .u8 (qa d 28)],[.int .u8 (qa d 29)],[.int .u8 (qa d 30)],[.int .u8 (qa d 31)],[.int .u8 (IntKind.u8.wrap p)]]:=rfl
theorem qou (d:qe) (p:Int):bI ((qd d 32).map (fun x=>[Value.int .u8 x]) ++ [[Value.int .u8 (IntKind.u8.wrap p)]]) = qd d 32 ++ [p % 256]:=by
 rw [qj4]
 congr 1
theorem qpd {d:qe} {p:Int} (h:qM (qd d 32)):qz ((qd d 32).map (fun x=>[Value.int .u8 x]) ++ [[Value.int .u8 (IntKind.u8.wrap p)]]):=by
 refine q7e ?_
 rw [qou]
 intro x hx
 rcases List.mem_append.1 hx with hx | hx
 ·exact h x hx
 ·rw [List.mem_singleton.1 hx]; exact ⟨Int.emod_nonneg _ (by decide),Int.emod_lt_of_pos _ (by decide)⟩
theorem qvt:qcx.ok Tryz.prog:=q52 (by simp [qlp]) fun ρ hg hp=>by
 obtain ⟨hO,hGr,hGd⟩:=hp
 simp (config:={ maxSteps:=4000000 }) [qqx,qcx,qaT,qmC,gOk,hGr,hGd,hO]
 rw [<- qoD]
 refine fun u _ hu=>⟨⟨by omega,qpd hO⟩,fun v _ hv=>?_⟩
 rw [hv,qkx (by simp [qd]),qou]; rfl
theorem q3E:qdH.ok Tryz.prog:=q14 (by simp [q7m]) fun ρ hg hp=>by
 obtain ⟨hO,hGr,hGd⟩:=hp
 simp (config:={ maxSteps:=4000000 }) [qoz,qdH,qgK,gOk,hGr,hGd,hO]
 rw [<- qoD]
 refine ⟨qpd hO,fun v _ hv=>?_⟩
 rw [hv,qou]; rfl
theorem qy9:qdZ.ok Tryz.prog:=q6I (by simp [qvt]) fun ρ hg hp=>by
 obtain ⟨hO,hGr,hGd⟩:=hp
 simp (config:={ maxSteps:=4000000 }) [qvP,qdZ,qcx,gOk,hGr,hGd,hO]
theorem qzD:qcZ.ok Tryz.prog:=qzu (by simp [q7f]) fun ρ hg hp=>by
 obtain ⟨h1,h3⟩:=hp
 simp (config:={ maxSteps:=4000000 }) [qmq,qcZ,qkb]
 refine ⟨⟨⟨_,rfl,rfl⟩,⟨_,rfl,rfl⟩,h1,h3⟩,fun u _ hu=>?_⟩
 have hu:u.i = qbr (qd (ρ 1).d 32) (qd (ρ 3).d 32):=hu
 rw [<- hu]
 exact ⟨fun h=>by simp [h],fun h=>by simp [h]⟩
theorem qlC:qaS.ok Tryz.prog:=q2T (by simp [qy9,qzD]) fun ρ hg hp=>by
 obtain ⟨hO,hGr,hGd⟩:=hp
 simp (config:={ maxSteps:=4000000 }) [qo7,qaS,qdZ,qcZ,gOk,hGr,hGd,hO]
 intro u _ hu u1 _ hu1
 rw [hu,hu1]
 unfold qA
 refine ⟨fun h=>by rw [if_pos h]; rfl,fun h=>⟨⟨qed _,qed _⟩,fun v _ hv=>?_⟩⟩
 rw [if_neg (fun h'=>h (qf1.1 h'))] at hv
 rw [if_neg h,hv]; rfl
theorem q3A (d:qe):(qd d 32).map (fun x=>[Value.int .u8 x]) = [[.int .u8 (qa d 0)],[.int .u8 (qa d 1)],[.int .u8 (qa d 2)],[.int .u8 (qa d 3)],[.int .u8 (qa d 4)],[.int .u8 (qa d 5)],[.int .u8 (qa d 6)],[.int .u8 (qa d 7)],[.int .u8 (qa d 8)],[.int .u8 (qa d 9)],[.int .u8 (qa d 10)],[.int .u8 (qa d 11)],[.int .u8 (qa d 12)],[.int .u8 (qa d 13)],[.int .u8 (qa d 14)],[.int .u8 (qa d 15)],[.int .u8 (qa d 16)],[.int .u8 (qa d 17)],[.int .u8 (qa d 18)],[.int .u8 (qa d 19)],[.int .u8 (qa d 20)],[.int .u8 (qa d 21)],[.int .u8 (qa d 22)],[.int .u8 (qa d 23)],[.int .u8 (qa d 24)],[.int .u8 (qa d 25)],[.int .u8 (qa d 26)],[.int .u8 (qa d 27)],[.int .u8 (qa d 28)],[.int .u8 (qa d 29)],[.int .u8 (qa d 30)],[.int .u8 (qa d 31)]]:=rfl
theorem q62:∀ {xs ys:List Int},qM xs->qM ys->Op.bytesLess (xs.map fun x=>UInt8.ofNat x.toNat) (ys.map fun x=>UInt8.ofNat x.toNat) = decide (qbr xs ys < 0)
 | [],[],_,_=>rfl
 | [],_ :: _,_,_=>rfl
 | _ :: _,[],_,_=>rfl
 | x :: xs,y :: ys,hx,hy=>by
  have h1:=qtw (hx x (List.mem_cons_self ..)) (hy y (List.mem_cons_self ..))
  have h2:=qtw (hy y (List.mem_cons_self ..)) (hx x (List.mem_cons_self ..))
  have h3:=q62 (xs:=xs) (ys:=ys) (fun z hz=>hx z (List.mem_cons_of_mem _ hz)) (fun z hz=>hy z (List.mem_cons_of_mem _ hz))
  change UInt8.ofNat x.toNat < UInt8.ofNat y.toNat↔x < y at h1
  change UInt8.ofNat y.toNat < UInt8.ofNat x.toNat↔y < x at h2
  show (decide (UInt8.ofNat x.toNat < UInt8.ofNat y.toNat) || (UInt8.ofNat x.toNat == UInt8.ofNat y.toNat && Op.bytesLess (xs.map fun x=>UInt8.ofNat x.toNat) (ys.map fun x=>UInt8.ofNat x.toNat))) = _
  rw [h3,qbr]
  by_cases a1:x < y
  ·rw [if_pos a1,decide_eq_true (h1.2 a1)]; rfl
  ·rw [if_neg a1,decide_eq_false (fun h=>a1 (h1.1 h))]
   by_cases a2:y < x
   ·rw [if_pos a2]
    have:(UInt8.ofNat x.toNat == UInt8.ofNat y.toNat) = false:=by
     rw [beq_eq_false_iff_ne]
     intro h
     have h4:=h2.2 a2
     rw [h] at h4
     exact UInt8.lt_irrefl _ h4
    rw [this]; rfl
   ·rw [if_neg a2]
    obtain rfl:x = y:=by omega
    simp
theorem qoB:qbs.ok Tryz.prog:=qyV (by simp [q3E]) fun ρ hg hp=>by
 obtain ⟨hO,hGr,hGd⟩:=hp
 simp (config:={ maxSteps:=4000000 }) [qmd,qbs,qdH,gOk,qhM,hGr,hGd,hO]
 intro u _ hu u1 _ hu1
 rw [<- q3A u.d,<- q3A u1.d,qpK,qpK,show bI ((qd u.d 32).map fun x=>[Value.int .u8 x]) = qd u.d 32 from rfl,show bI ((qd u1.d 32).map fun x=>[Value.int .u8 x]) = qd u1.d 32 from rfl,hu,hu1]
 unfold qA
 refine ⟨fun h=>by rw [if_pos h]; rfl,fun h=>?_⟩
 rw [if_neg h]
 exact q62 (qed _) (qed _)
theorem qmZ {L:List Int}:qcP [List.replicate 16 (.bool false)] L 0:=by
 refine ⟨⟨_,rfl,List.length_replicate ..⟩,fun x h0 h1=>⟨fun h=>?_,fun h=>by simp at h⟩⟩
 exfalso
 have h2:qbb [List.replicate 16 (Value.bool false)] x.toNat = false:=by
  unfold qbb
  rw [List.headD_cons,List.getElem?_replicate,if_pos (by omega)]; rfl
 rw [h2] at h; cases h
theorem qcC {L:List Int} {n:Nat} (hn:n < L.length):L.take (n + 1) = L.take n ++ [L.getD n 0]:=by
 rw [List.take_add_one,List.getElem?_eq_getElem hn,List.getD_eq_getElem?_getD,List.getElem?_eq_getElem hn]; rfl
theorem qnw {s:qe} {L:List Int} {n:Nat} {y:Int} (h:qcP s L n) (hn:n < L.length) (hy:y = L.getD n 0) (h0:0 <= y) (h1:y < 16):qcP (qa6 s y.toNat (.bool true)) L (n + 1):=by
 obtain ⟨⟨row,rfl,hr⟩,h2⟩:=h
 refine ⟨⟨_,rfl,by rw [List.length_set]; exact hr⟩,fun x x0 x1=>?_⟩
 have hc:qbb (qa6 [row] y.toNat (.bool true)) x.toNat = if x = y then true else qbb [row] x.toNat:=by
  unfold qbb qa6
  rw [List.headD_cons,List.headD_cons,List.getElem?_set]
  by_cases hxe:x = y
  ·rw [if_pos (by rw [hxe]),if_pos (by omega),if_pos hxe]; rfl
  ·rw [if_neg (fun e=>hxe (by omega)),if_neg hxe]
 rw [hc,qcC hn,<- hy,List.mem_append,List.mem_singleton]
 by_cases hxe:x = y
 ·rw [if_pos hxe]; exact ⟨fun _=>.inr hxe,fun _=>rfl⟩
 ·rw [if_neg hxe,h2 x x0 x1]
  exact ⟨.inl,fun h=>h.resolve_right hxe⟩
theorem qny {s:qe} {L:List Int} {n:Nat} {y:Int} (h:qcP s L n) (hn:n < L.length) (hy:y = L.getD n 0) (hne:¬ (0 <= y/\y < 16)):qcP s L (n + 1):=by
 refine ⟨h.1,fun x x0 x1=>?_⟩
 rw [h.2 x x0 x1,qcC hn,<- hy,List.mem_append,List.mem_singleton]
 exact ⟨.inl,fun h=>h.resolve_right (fun e=>hne (by omega))⟩
theorem qa0 {d:qe} {i:Int} (h0:0 <= i) (h1:i < d.length):qg d i 0 = (qh d).getD i.toNat 0:=by
 have hl:i.toNat < d.length:=by omega
 rw [qh,List.getD_eq_getElem?_getD,List.getElem?_map,List.getElem?_eq_getElem hl]
 simp [qg,qar,qb6,List.getElem?_eq_getElem hl]
theorem qpP:qcb.ok Tryz.prog:=q9f (by simp [qrk]) fun ρ hg hp=>by
 obtain ⟨hl,h1,hr⟩:=hp
 simp only [Nat.reduceAdd] at hl h1 hr
 simp (config:={ maxSteps:=4000000 }) [qmH,qcb,qq3,qc2,hl]
 have hil:(qh (ρ 3).d).length = (ρ 3).d.length:=by simp [qh]
 refine ⟨qmZ,fun s _ i _ i0 i1 hs=>⟨fun hi=>⟨i0,hi,fun u _ hu=>⟨fun ht=>?_,fun hf=>?_⟩⟩,fun hi=>?_⟩⟩
 ·have hp:0 <= qg (ρ 3).d i.i 0/\qg (ρ 3).d i.i 0 < 16:=by rw [hu] at ht; exact of_decide_eq_true ht
  have hsl:0 < s.d.length:=by obtain ⟨⟨row,e,_⟩,_⟩:=hs; rw [e]; exact Nat.one_pos
  rw [add64 (x:=i.i) (by omega) (by omega)]
  refine ⟨hp.1,hp.2,hsl,⟨by omega,by omega,?_⟩,by omega⟩
  rw [show (i.i + 1).toNat = i.i.toNat + 1 by omega]
  exact qnw hs (by omega) (qa0 i0 hi) hp.1 hp.2
 ·have hp:¬ (0 <= qg (ρ 3).d i.i 0/\qg (ρ 3).d i.i 0 < 16):=by rw [hu] at hf; exact of_decide_eq_false hf
  rw [add64 (x:=i.i) (by omega) (by omega)]
  refine ⟨⟨by omega,by omega,?_⟩,by omega⟩
  rw [show (i.i + 1).toNat = i.i.toNat + 1 by omega]
  exact qny hs (by omega) (qa0 i0 hi) hp
 ·obtain ⟨⟨row,hs1,hrl⟩,hs2⟩:=hs
  rw [List.take_of_length_le (by omega)] at hs2
  rw [hs1] at hs2 ⊢
  match row,hrl with
  | [a0,a1,a2,a3,a4,a5,a6,a7,a8,a9,a10,a11,a12,a13,a14,a15],_ =>
   refine ⟨by simp,?_⟩
   have key:qeO ((List.range 16).map (qbb [[a0,a1,a2,a3,a4,a5,a6,a7,a8,a9,a10,a11,a12,a13,a14,a15]])) (qh (ρ 3).d):=⟨by simp,fun j hj=>by
    rw [List.getD_eq_getElem?_getD,List.getElem?_map,List.getElem?_range hj]
    exact hs2 j (by omega) (by omega)⟩
   exact key
end Go.Proofs

set_option linter.unusedSimpArgs false
set_option linter.unusedVariables false
set_option maxRecDepth 100000
namespace Go.Proofs
open Go Go.Eng

def q0X:Out:=(.inv 0 6 (sg 1000 [bt 1000 (.lit 0)]) (.fresh 6 (.hyp 0 6 (.need (.cmp .leq (.lit 0) (.var 1)) (.br (.cmp .lss (.var 6) (.var 1))
 (.need (.cmp .leq (.lit 0) (.var 6)) (.need (.cmp .lss (.var 6) (.dlen (.var 3))) (.br (.cmp .eql (.icell (.var 3) (.var 6) 0) (.var 5))
 (.ret 0 (sg 6 [bt 6 (.bl true)]))
 (.back 0 6 (sg 1000 [bt 1000 (.arith .add .i64 (.var 6) (.lit 1))])))))
 (.ret 0 (sg 6 [bt 6 (.bl false)])))))))
theorem q4c:qk ⟨Tryz.prog,qdQ,[],[q4M]⟩ 100000 Tryz.f34 = q0X:=by kernel_rfl
theorem q8d (hd:∀ c ∈ ([]:List Ctr),c.ok Tryz.prog) (h:∀ ρ:Env,ρ.good->(qdQ).pre ρ->q0X.den ⟨Tryz.prog,qdQ,[],[q4M]⟩ ρ):(qdQ).ok Tryz.prog :=
 qf Tryz.func34 (fun a w=>Tryz.call34 a w) hd 100000 (fun ρ hg hp=>by rw [q4c]; exact h ρ hg hp)
def qrp:Out:=(.need (.cmp .leq (.lit 0) (.var 1)) (.need (.cmp .leq (.lit 0) (.var 6)) (.br (.cmp .neq (.var 1) (.var 6))
 (.ret 0 (sg 10 [bt 10 (.bl false)]))
 (.inv 0 10 (sg 1000 [bt 1000 (.lit 0)]) (.fresh 10 (.hyp 0 10 (.br (.cmp .lss (.var 10) (.var 1))
 (.need (.cmp .leq (.lit 0) (.var 10)) (.need (.cmp .lss (.var 10) (.dlen (.var 3))) (.need (.cmp .lss (.var 10) (.var 6)) (.need (.cmp .lss (.var 10) (.dlen (.var 8))) (.br (.cmp .neq (.icell (.var 3) (.var 10) 0) (.icell (.var 8) (.var 10) 0))
 (.ret 0 (sg 10 [bt 10 (.bl false)]))
 (.back 0 10 (sg 1000 [bt 1000 (.arith .add .i64 (.var 10) (.lit 1))])))))))
 (.ret 0 (sg 10 [bt 10 (.bl true)])))))))))
theorem qyK:qk ⟨Tryz.prog,qeQ,[],[qt6]⟩ 100000 Tryz.f28 = qrp:=by kernel_rfl
theorem q4g (hd:∀ c ∈ ([]:List Ctr),c.ok Tryz.prog) (h:∀ ρ:Env,ρ.good->(qeQ).pre ρ->qrp.den ⟨Tryz.prog,qeQ,[],[qt6]⟩ ρ):(qeQ).ok Tryz.prog :=
 qf Tryz.func28 (fun a w=>Tryz.call28 a w) hd 100000 (fun ρ hg hp=>by rw [qyK]; exact h ρ hg hp)
def qwn:Out:=(.fresh 5 (.need (.cmp .leq (.lit 0) (.var 1)) (.need (.cmp .leq (.var 1) (.dlen (.var 3))) (.need (.cmp .leq (.tims (.lit 8) (.var 1)) (.lit 140737488355328)) (.fresh 6 (.fresh 7 (.ret 0 (sg 5 [bt 7 (.dtake (.var 3) (.var 1)),bv 6 7,bg 5 6]))))))))
theorem q31:qk ⟨Tryz.prog,qgX,[],[]⟩ 100000 Tryz.f33 = qwn:=by kernel_rfl
theorem q76 (hd:∀ c ∈ ([]:List Ctr),c.ok Tryz.prog) (h:∀ ρ:Env,ρ.good->(qgX).pre ρ->qwn.den ⟨Tryz.prog,qgX,[],[]⟩ ρ):(qgX).ok Tryz.prog :=
 qf Tryz.func33 (fun a w=>Tryz.call33 a w) hd 100000 (fun ρ hg hp=>by rw [q31]; exact h ρ hg hp)
end Go.Proofs

set_option linter.unusedSimpArgs false
set_option linter.unusedVariables false
namespace Go.Proofs
open Go Go.Eng
set_option maxRecDepth 20000
theorem qB {d:qe}:(qh d).length = d.length:=by simp [qh]
theorem qvw:qdQ.ok Tryz.prog:=q8d (by simp) fun ρ hg hp=>by
 obtain ⟨hl,h1,hr⟩:=hp
 simp only [Nat.reduceAdd] at hl h1 hr
 simp (config:={ maxSteps:=4000000 }) [q0X,qdQ,q4M,hl]
 have hil:=qB (d:=(ρ 3).d)
 intro i _ i0 i1 hno
 refine ⟨fun hi=>⟨i0,hi,fun he=>?_,fun hne=>?_⟩,fun hi=>?_⟩
 ·rw [qa0 i0 hi] at he
  rw [<- he,List.getD_eq_getElem?_getD,List.getElem?_eq_getElem (by omega)]
  exact List.getElem_mem _
 ·rw [qa0 i0 hi] at hne
  rw [add64 (x:=i.i) (by omega) (by omega)]
  refine ⟨⟨by omega,by omega,?_⟩,by omega⟩
  rw [show (i.i + 1).toNat = i.i.toNat + 1 by omega,qcC (by omega),List.mem_append,List.mem_singleton]
  exact fun h=>h.elim hno fun h=>hne h.symm
 ·rw [List.take_of_length_le (by omega)] at hno
  exact hno
theorem q7k:qgX.ok Tryz.prog:=q76 (by simp) fun ρ hg hp=>by
 obtain ⟨hl,h1,hr⟩:=hp
 simp only [Nat.reduceAdd] at hl h1 hr
 simp (config:={ maxSteps:=4000000 }) [qwn,qgX,hl]
 omega
theorem q4T:qeQ.ok Tryz.prog:=q4g (by simp) fun ρ hg hp=>by
 obtain ⟨⟨hl,h1,hr⟩,⟨hl2,h12,hr2⟩⟩:=hp
 simp only [Nat.reduceAdd] at hl h1 hr hl2 h12 hr2
 simp (config:={ maxSteps:=4000000 }) [qrp,qeQ,qt6,hl,hl2]
 have la:=qB (d:=(ρ 3).d)
 have lb:=qB (d:=(ρ 8).d)
 refine ⟨fun hne he=>hne (by rw [<- la,<- lb,he]),fun hll i _ i0 i1 ht=>⟨fun hi=>⟨i0,hi,by omega,fun hne he=>?_,fun he=>?_⟩,fun hi=>?_⟩⟩
 ·rw [qa0 i0 hi,qa0 i0 (by omega),he] at hne
  exact hne rfl
 ·rw [add64 (x:=i.i) (by omega) (by omega)]
  refine ⟨⟨by omega,by omega,?_⟩,by omega⟩
  rw [qa0 i0 hi,qa0 i0 (by omega)] at he
  rw [show (i.i + 1).toNat = i.i.toNat + 1 by omega,qcC (by omega),qcC (by omega),ht,he]
 ·rw [List.take_of_length_le (by omega),List.take_of_length_le (by omega)] at ht
  exact ht
end Go.Proofs

set_option linter.unusedSimpArgs false
set_option linter.unusedVariables false
set_option maxRecDepth 100000
namespace Go.Proofs
open Go Go.Eng

def qrc:Out:=(.fresh 5 (.inv 0 6 (sg 1000 [bt 1003 .dnil,bt 1004 (.lit 0),bt 1002 (.lit 0),bt 1001 (.lit 0),bg 1000 5]) (.fresh 6 (.fresh 7 (.fresh 8 (.fresh 9 (.fresh 10 (.hyp 0 6 (.br (.cmp .lss (.var 10) (.lit 16))
 (.pre 0 (sg 0 [bv 4 4,bv 3 3,bv 5 10,bv 2 2,bv 1 1,bg 0 0]) (.both (.fresh 11 (.post 0 0 (sg 0 [bv 4 4,bv 3 3,bv 5 10,bv 2 2,bv 1 1,bg 0 0]) 11 (.br (.var 11)
 (.fresh 12 (.need (.cmp .eql (.var 7) (.dlen (.var 9))) (.need (.cmp .leq (.tims (.lit 8) (.plus (.var 7) (.lit 1))) (.lit 140737488355328)) (.fresh 13 (.fresh 14 (.back 0 6 (sg 1000 [bt 1003 (.dapp (.var 9) (.rcons (.vint .i64 (.var 10)) .rnil)),bt 1004 (.arith .add .i64 (.var 10) (.lit 1)),bv 1002 14,bt 1001 (.plus (.var 7) (.lit 1)),bg 1000 13])))))))
 (.back 0 6 (sg 1000 [bv 1003 9,bt 1004 (.arith .add .i64 (.var 10) (.lit 1)),bv 1002 8,bv 1001 7,bg 1000 6]))))) .top))
 (.ret 0 (sg 5 [bv 8 9,bv 7 8,bv 6 7,bg 5 6])))))))))))
theorem q0y:qk ⟨Tryz.prog,qcG,[qdQ],[qwk]⟩ 100000 Tryz.f85 = qrc:=by kernel_rfl
theorem q48 (hd:∀ c ∈ ([qdQ]:List Ctr),c.ok Tryz.prog) (h:∀ ρ:Env,ρ.good->(qcG).pre ρ->qrc.den ⟨Tryz.prog,qcG,[qdQ],[qwk]⟩ ρ):(qcG).ok Tryz.prog :=
 qf Tryz.func85 (fun a w=>Tryz.call85 a w) hd 100000 (fun ρ hg hp=>by rw [q0y]; exact h ρ hg hp)
def qq0:Out:=(.need (.cmp .leq (.lit 0) (.var 1)) (.inv 0 6 (sg 1000 [bt 1000 (.lit 0)]) (.fresh 6 (.hyp 0 6 (.br (.cmp .lss (.var 6) (.var 1))
 (.need (.cmp .leq (.lit 0) (.var 6)) (.need (.cmp .lss (.var 6) (.dlen (.var 3))) (.br (.cmp .eql (.var 5) (.icell (.var 3) (.var 6) 0))
 (.ret 0 (sg 6 [bv 6 6]))
 (.back 0 6 (sg 1000 [bt 1000 (.arith .add .i64 (.var 6) (.lit 1))])))))
 (.ret 0 (sg 6 [bt 6 (.lit (-1))])))))))
theorem qyY:qk ⟨Tryz.prog,qeL,[],[quH]⟩ 100000 Tryz.f121 = qq0:=by kernel_rfl
theorem q54 (hd:∀ c ∈ ([]:List Ctr),c.ok Tryz.prog) (h:∀ ρ:Env,ρ.good->(qeL).pre ρ->qq0.den ⟨Tryz.prog,qeL,[],[quH]⟩ ρ):(qeL).ok Tryz.prog :=
 qf Tryz.func121 (fun a w=>Tryz.call121 a w) hd 100000 (fun ρ hg hp=>by rw [qyY]; exact h ρ hg hp)
def qkL:Out:=(.pre 0 (sg 0 [bv 4 4,bv 3 3,bv 5 5,bv 2 2,bv 1 1,bg 0 0]) (.both (.fresh 6 (.post 0 0 (sg 0 [bv 4 4,bv 3 3,bv 5 5,bv 2 2,bv 1 1,bg 0 0]) 6 (.ret 0 (sg 6 [bt 6 (.cmp .geq (.var 6) (.lit 0))])))) .top))
theorem qsR:qk ⟨Tryz.prog,qaR,[qeL],[]⟩ 100000 Tryz.f84 = qkL:=by kernel_rfl
theorem qwZ (hd:∀ c ∈ ([qeL]:List Ctr),c.ok Tryz.prog) (h:∀ ρ:Env,ρ.good->(qaR).pre ρ->qkL.den ⟨Tryz.prog,qaR,[qeL],[]⟩ ρ):(qaR).ok Tryz.prog :=
 qf Tryz.func84 (fun a w=>Tryz.call84 a w) hd 100000 (fun ρ hg hp=>by rw [qsR]; exact h ρ hg hp)
end Go.Proofs

set_option linter.unusedSimpArgs false
set_option linter.unusedVariables false
namespace Go.Proofs
open Go Go.Eng
set_option maxRecDepth 20000
theorem qcv {L:List Int} {n:Nat}:qH L (n + 1) = qH L n ++ (if (n:Int) ∈ L then [(n:Int)] else []):=by
 unfold qH
 rw [List.range_succ,List.map_append,List.filter_append]
 congr 1
 simp only [List.map_cons,List.map_nil,List.filter_cons,List.filter_nil,decide_eq_true_eq]
theorem qfA {d:qe} {x:Int}:qh (d ++ [[.int .i64 x]]) = qh d ++ [x]:=by simp [qh,qb6,qV]
theorem qvv:qcG.ok Tryz.prog:=q48 (by simp [qvw]) fun ρ hg hp=>by
 obtain ⟨hl,h1,hr⟩:=hp
 simp only [Nat.reduceAdd] at hl h1 hr
 simp (config:={ maxSteps:=4000000 }) [qrc,qcG,qwk,qdQ,qaK,qal,hl]
 refine ⟨rfl,fun n _ D _ i _ i0 i1 hn hni hD hD1=>⟨fun hi=>⟨⟨by omega,hr⟩,fun u _ hu=>⟨fun ht=>?_,fun hf=>?_⟩⟩,fun hi=>⟨hn,?_,hD1⟩⟩⟩
 ·have hm:i.i ∈ qh (ρ 3).d:=by rw [hu] at ht; exact of_decide_eq_true ht
  rw [add64 (x:=i.i) (by omega) (by omega)]
  refine ⟨hn,by omega,⟨by omega,by omega,hn,by omega,?_,fun row h=>h.elim (hD1 row) fun h=>by rw [h]; rfl⟩,by omega⟩
  rw [qfA,hD,show (i.i + 1).toNat = i.i.toNat + 1 by omega,qcv,Int.toNat_of_nonneg i0,if_pos hm]
 ·have hm:¬ i.i ∈ qh (ρ 3).d:=by rw [hu] at hf; exact of_decide_eq_false hf
  rw [add64 (x:=i.i) (by omega) (by omega)]
  refine ⟨⟨by omega,by omega,hn,by omega,?_,hD1⟩,by omega⟩
  rw [hD,show (i.i + 1).toNat = i.i.toNat + 1 by omega,qcv,Int.toNat_of_nonneg i0,if_neg hm,List.append_nil]
 ·rw [hD,show i.i.toNat = 16 by omega]; rfl
theorem q4e:qeL.ok Tryz.prog:=q54 (by simp) fun ρ hg hp=>by
 obtain ⟨hl,h1,hr⟩:=hp
 simp only [Nat.reduceAdd] at hl h1 hr
 simp (config:={ maxSteps:=4000000 }) [qq0,qeL,quH,hl]
 have hil:=qB (d:=(ρ 3).d)
 intro i _ i0 i1 hno
 refine ⟨fun hi=>⟨i0,hi,fun he=>⟨fun _=>?_,fun _=>i0⟩,fun hne=>?_⟩,fun hi=>?_⟩
 ·rw [he,qa0 i0 hi,List.getD_eq_getElem?_getD,List.getElem?_eq_getElem (by omega)]
  exact List.getElem_mem _
 ·rw [qa0 i0 hi] at hne
  rw [add64 (x:=i.i) (by omega) (by omega)]
  refine ⟨⟨by omega,by omega,?_⟩,by omega⟩
  rw [show (i.i + 1).toNat = i.i.toNat + 1 by omega,qcC (by omega),List.mem_append,List.mem_singleton]
  exact fun h=>h.elim hno fun h=>hne h
 ·rw [List.take_of_length_le (by omega)] at hno
  exact hno
theorem qnz:qaR.ok Tryz.prog:=qwZ (by simp [q4e]) fun ρ hg hp=>by
 obtain ⟨hl,h1,hr⟩:=hp
 simp only [Nat.reduceAdd] at hl h1 hr
 simp (config:={ maxSteps:=4000000 }) [qkL,qaR,qeL,qaK,qal,hl]
 refine ⟨⟨by omega,hr⟩,fun u _ hu=>?_⟩
 show decide (u.i ≥ 0) = _
 exact decide_eq_decide.2 hu
end Go.Proofs

set_option linter.unusedSimpArgs false
set_option linter.unusedVariables false
set_option maxRecDepth 100000
namespace Go.Proofs
open Go Go.Eng

@[simp] def qr9:Out:=.back 0 46 (sg 1000 [bv 1007 53,bv 1003 49,bv 1001 47,bt 1008 (.arith .add .i64 (.var 54) (.lit 1)),bv 1006 52,bv 1005 51,bg 1004 50,bg 1002 48,bg 1000 46])
def qz2:Out:=(.pre 0 (sg 0 [bv 4 5,bv 3 4,bv 2 3,bv 1 2,bg 0 1]) (.both (.fresh 11 (.fresh 12 (.fresh 13 (.fresh 14 (.fresh 15 (.fresh 16 (.fresh 17 (.fresh 18 (.fresh 19 (.fresh 20 (.fresh 21 (.fresh 22 (.fresh 23 (.fresh 24 (.fresh 25 (.fresh 26 (.post 0 0 (sg 0 [bv 4 5,bv 3 4,bv 2 3,bv 1 2,bg 0 1]) 11 (.pre 0 (sg 0 [bv 4 10,bv 3 9,bv 2 8,bv 1 7,bg 0 6]) (.both (.fresh 27 (.fresh 28 (.fresh 29 (.fresh 30 (.fresh 31 (.fresh 32 (.fresh 33 (.fresh 34 (.fresh 35 (.fresh 36 (.fresh 37 (.fresh 38 (.fresh 39 (.fresh 40 (.fresh 41 (.fresh 42 (.post 0 0 (sg 0 [bv 4 10,bv 3 9,bv 2 8,bv 1 7,bg 0 6]) 27 (.fresh 43 (.fresh 44 (.fresh 45 (.inv 0 46 (sg 1000 [bt 1007 .dnil,bt 1003 (.rcons (.vbool (.var 27)) (.rcons (.vbool (.var 28)) (.rcons (.vbool (.var 29)) (.rcons (.vbool (.var 30)) (.rcons (.vbool (.var 31)) (.rcons (.vbool (.var 32)) (.rcons (.vbool (.var 33)) (.rcons (.vbool (.var 34)) (.rcons (.vbool (.var 35)) (.rcons (.vbool (.var 36)) (.rcons (.vbool (.var 37)) (.rcons (.vbool (.var 38)) (.rcons (.vbool (.var 39)) (.rcons (.vbool (.var 40)) (.rcons (.vbool (.var 41)) (.rcons (.vbool (.var 42)) .rnil)))))))))))))))),bt 1001 (.rcons (.vbool (.var 11)) (.rcons (.vbool (.var 12)) (.rcons (.vbool (.var 13)) (.rcons (.vbool (.var 14)) (.rcons (.vbool (.var 15)) (.rcons (.vbool (.var 16)) (.rcons (.vbool (.var 17)) (.rcons (.vbool (.var 18)) (.rcons (.vbool (.var 19)) (.rcons (.vbool (.var 20)) (.rcons (.vbool (.var 21)) (.rcons (.vbool (.var 22)) (.rcons (.vbool (.var 23)) (.rcons (.vbool (.var 24)) (.rcons (.vbool (.var 25)) (.rcons (.vbool (.var 26)) .rnil)))))))))))))))),bt 1008 (.lit 0),bt 1006 (.lit 0),bt 1005 (.lit 0),bg 1004 45,bg 1002 44,bg 1000 43]) (.fresh 46 (.fresh 47 (.fresh 48 (.fresh 49 (.fresh 50 (.fresh 51 (.fresh 52 (.fresh 53 (.fresh 54 (.hyp 0 46 (.br (.cmp .lss (.var 54) (.lit 16))
 (.need (.cmp .leq (.lit 0) (.var 54)) (.need (.cmp .lss (.lit 0) (.dlen (.var 47))) (.br (.c2 (.xbool 0) (.var 47) (.var 54))
 (.need (.cmp .lss (.lit 0) (.dlen (.var 49))) (.br (.c2 (.xbool 0) (.var 49) (.var 54))
 (.br (.cmp .neq (.var 54) (.var 0))
 (.fresh 55 (.need (.cmp .eql (.var 51) (.dlen (.var 53))) (.need (.cmp .leq (.tims (.lit 8) (.plus (.var 51) (.lit 1))) (.lit 140737488355328)) (.fresh 56 (.fresh 57 (.back 0 46 (sg 1000 [bt 1007 (.dapp (.var 53) (.rcons (.vint .i64 (.var 54)) .rnil)),bv 1003 49,bv 1001 47,bt 1008 (.arith .add .i64 (.var 54) (.lit 1)),bv 1006 57,bt 1005 (.plus (.var 51) (.lit 1)),bg 1004 56,bg 1002 48,bg 1000 46])))))))
 qr9)
 qr9))
 qr9)))
 (.ret 0 (sg 11 [bv 14 53,bv 13 52,bv 12 51,bg 11 50])))))))))))))))))))))))))))))))))) .top))))))))))))))))))) .top))
theorem q5N:qk ⟨Tryz.prog,qhu,[qcb],[q42]⟩ 100000 Tryz.f39 = qz2:=by kernel_rfl
theorem q8Y (hd:∀ c ∈ ([qcb]:List Ctr),c.ok Tryz.prog) (h:∀ ρ:Env,ρ.good->(qhu).pre ρ->qz2.den ⟨Tryz.prog,qhu,[qcb],[q42]⟩ ρ):(qhu).ok Tryz.prog :=
 qf Tryz.func39 (fun a w=>Tryz.call39 a w) hd 100000 (fun ρ hg hp=>by rw [q5N]; exact h ρ hg hp)
@[simp] def qnW:Out:=.back 0 12 (sg 1000 [bv 1003 15,bt 1004 (.arith .add .i64 (.var 16) (.lit 1)),bv 1002 14,bv 1001 13,bg 1000 12])
def qwy:Out:=(.fresh 11 (.inv 0 12 (sg 1000 [bt 1003 .dnil,bt 1004 (.lit 0),bt 1002 (.lit 0),bt 1001 (.lit 0),bg 1000 11]) (.fresh 12 (.fresh 13 (.fresh 14 (.fresh 15 (.fresh 16 (.hyp 0 12 (.br (.cmp .lss (.var 16) (.lit 16))
 (.br (.cmp .neq (.var 16) (.var 0))
 (.pre 0 (sg 0 [bv 4 5,bv 3 4,bv 5 16,bv 2 3,bv 1 2,bg 0 1]) (.both (.fresh 17 (.post 0 0 (sg 0 [bv 4 5,bv 3 4,bv 5 16,bv 2 3,bv 1 2,bg 0 1]) 17 (.br (.var 17)
 (.pre 0 (sg 0 [bv 4 10,bv 3 9,bv 5 16,bv 2 8,bv 1 7,bg 0 6]) (.both (.fresh 18 (.post 0 0 (sg 0 [bv 4 10,bv 3 9,bv 5 16,bv 2 8,bv 1 7,bg 0 6]) 18 (.br (.var 18)
 (.fresh 19 (.need (.cmp .eql (.var 13) (.dlen (.var 15))) (.need (.cmp .leq (.tims (.lit 8) (.plus (.var 13) (.lit 1))) (.lit 140737488355328)) (.fresh 20 (.fresh 21 (.back 0 12 (sg 1000 [bt 1003 (.dapp (.var 15) (.rcons (.vint .i64 (.var 16)) .rnil)),bt 1004 (.arith .add .i64 (.var 16) (.lit 1)),bv 1002 21,bt 1001 (.plus (.var 13) (.lit 1)),bg 1000 20])))))))
 qnW))) .top))
 qnW))) .top))
 qnW)
 (.ret 0 (sg 11 [bv 14 15,bv 13 14,bv 12 13,bg 11 12])))))))))))
theorem q1v:qk ⟨Tryz.prog,qgP,[qdQ],[q0U]⟩ 100000 Tryz.f40 = qwy:=by kernel_rfl
theorem q7G (hd:∀ c ∈ ([qdQ]:List Ctr),c.ok Tryz.prog) (h:∀ ρ:Env,ρ.good->(qgP).pre ρ->qwy.den ⟨Tryz.prog,qgP,[qdQ],[q0U]⟩ ρ):(qgP).ok Tryz.prog :=
 qf Tryz.func40 (fun a w=>Tryz.call40 a w) hd 100000 (fun ρ hg hp=>by rw [q1v]; exact h ρ hg hp)
def qoq:Out:=(.fresh 9 (.pre 0 (sg 0 [bv 4 5,bv 3 4,bv 2 3,bv 1 2,bg 0 1]) (.both (.fresh 10 (.fresh 11 (.fresh 12 (.fresh 13 (.fresh 14 (.fresh 15 (.fresh 16 (.fresh 17 (.fresh 18 (.fresh 19 (.fresh 20 (.fresh 21 (.fresh 22 (.fresh 23 (.fresh 24 (.fresh 25 (.post 0 0 (sg 0 [bv 4 5,bv 3 4,bv 2 3,bv 1 2,bg 0 1]) 10 (.inv 0 26 (sg 1000 [bt 1005 .dnil,bt 1001 (.lit 0),bt 1004 (.lit 0),bt 1003 (.lit 0),(1002,.nil),bg 1000 9]) (.fresh 26 (.fresh 27 (.fresh 28 (.fresh 29 (.fresh 30 (.fresh 31 (.hyp 0 26 (.br (.cmp .lss (.var 27) (.lit 16))
 (.need (.cmp .leq (.lit 0) (.var 27)) (.br (.c2 (.xbool 0) (.rcons (.vbool (.var 10)) (.rcons (.vbool (.var 11)) (.rcons (.vbool (.var 12)) (.rcons (.vbool (.var 13)) (.rcons (.vbool (.var 14)) (.rcons (.vbool (.var 15)) (.rcons (.vbool (.var 16)) (.rcons (.vbool (.var 17)) (.rcons (.vbool (.var 18)) (.rcons (.vbool (.var 19)) (.rcons (.vbool (.var 20)) (.rcons (.vbool (.var 21)) (.rcons (.vbool (.var 22)) (.rcons (.vbool (.var 23)) (.rcons (.vbool (.var 24)) (.rcons (.vbool (.var 25)) .rnil)))))))))))))))) (.var 27))
 (.pre 1 (sg 0 [bv 3 8,bv 1 27,bt 0 (r8 0),bg 2 7]) (.both (.fresh 32 (.fresh 33 (.post 1 0 (sg 0 [bv 3 8,bv 1 27,bt 0 (r8 0),bg 2 7]) 32 (.fresh 34 (.need (.cmp .eql (.var 29) (.dlen (.var 31))) (.need (.cmp .leq (.tims (.lit 40) (.plus (.var 29) (.lit 1))) (.lit 140737488355328)) (.fresh 35 (.fresh 36 (.back 0 26 (sg 1000 [bt 1005 (.dapp (.var 31) (.rcons (.vint .i64 (.var 27)) (r8 32))),bt 1001 (.arith .add .i64 (.var 27) (.lit 1)),bv 1004 36,bt 1003 (.plus (.var 29) (.lit 1)),bg 1002 35,bg 1000 26])))))))))) .top))
 (.back 0 26 (sg 1000 [bv 1005 31,bt 1001 (.arith .add .i64 (.var 27) (.lit 1)),bv 1004 30,bv 1003 29,bg 1002 28,bg 1000 26]))))
 (.pre 2 (sg 0 [bv 3 31,bv 2 30,bv 1 29,bg 0 28]) (.both (.fresh 32 (.post 2 0 (sg 0 [bv 3 31,bv 2 30,bv 1 29,bg 0 28]) 32 (.fresh 33 (.need (.cmp .leq (.lit 0) (.var 29)) (.know (.cmp .leq (.dlen (.var 32)) (.var 30)) (.need (.cmp .leq (.lit 0) (.var 30)) (.need (.cmp .leq (.lit 0) (.imin (.imax (.var 6) (.lit 0)) (.var 29))) (.need (.cmp .leq (.imin (.imax (.var 6) (.lit 0)) (.var 29)) (.var 30)) (.inv 1 34 (sg 1000 [bt 1008 .dnil,bv 1007 32,bt 1006 (.lit 0),bt 1005 (.lit 0),bg 1004 33,bt 1003 (.lit 0),bv 1002 30,bt 1001 (.imin (.imax (.var 6) (.lit 0)) (.var 29)),bg 1000 28]) (.fresh 34 (.fresh 35 (.fresh 36 (.fresh 37 (.fresh 38 (.fresh 39 (.fresh 40 (.fresh 41 (.fresh 42 (.hyp 1 34 (.br (.cmp .lss (.var 37) (.var 35))
 (.need (.cmp .leq (.lit 0) (.var 37)) (.need (.cmp .lss (.var 37) (.dlen (.var 41))) (.fresh 43 (.fresh 44 (.need (.cmp .eql (.var 39) (.dlen (.var 42))) (.need (.cmp .leq (.tims (.lit 8) (.plus (.var 39) (.lit 1))) (.lit 140737488355328)) (.fresh 45 (.fresh 46 (.back 1 34 (sg 1000 [bt 1008 (.dapp (.var 42) (.rcons (.vint .i64 (.icell (.var 41) (.var 37) 0)) .rnil)),bv 1007 41,bv 1006 46,bt 1005 (.plus (.var 39) (.lit 1)),bg 1004 45,bt 1003 (.arith .add .i64 (.var 37) (.lit 1)),bv 1002 36,bv 1001 35,bg 1000 34]))))))))))
 (.ret 0 (sg 9 [bv 12 42,bv 11 40,bv 10 39,bg 9 38])))))))))))))))))))))) .top)))))))))))))))))))))))))))) .top)))
theorem qwR:qk ⟨Tryz.prog,qat,[qcb,qdZ,qeC],[qqD,qrD]⟩ 100000 Tryz.f32 = qoq:=by kernel_rfl
theorem q1t (hd:∀ c ∈ ([qcb,qdZ,qeC]:List Ctr),c.ok Tryz.prog) (h:∀ ρ:Env,ρ.good->(qat).pre ρ->qoq.den ⟨Tryz.prog,qat,[qcb,qdZ,qeC],[qqD,qrD]⟩ ρ):(qat).ok Tryz.prog :=
 qf Tryz.func32 (fun a w=>Tryz.call32 a w) hd 100000 (fun ρ hg hp=>by rw [qwR]; exact h ρ hg hp)
@[simp] def qjl:T:=.ife (.var 27) (.arith .add .i64 (.var 33) (.lit 1)) (.lit 0) (.arith .add .i64 (.var 33) (.lit 1))
def qmh:Out:=(.fresh 9 (.pre 0 (sg 0 [bv 4 5,bv 3 4,bv 2 3,bv 1 2,bg 0 1]) (.both (.fresh 10 (.fresh 11 (.fresh 12 (.fresh 13 (.post 0 0 (sg 0 [bv 4 5,bv 3 4,bv 2 3,bv 1 2,bg 0 1]) 10 (.fresh 14 (.inv 0 15 (sg 1000 [bt 1008 .dnil,bv 1004 13,bt 1007 (.lit 0),bt 1006 (.lit 0),bg 1005 14,bv 1003 12,bv 1002 11,bg 1001 10,bg 1000 9]) (.fresh 15 (.fresh 16 (.fresh 17 (.fresh 18 (.fresh 19 (.fresh 20 (.fresh 21 (.fresh 22 (.fresh 23 (.hyp 0 15 (.need (.cmp .leq (.lit 0) (.var 17)) (.br (.cmp .gtr (.var 17) (.lit 0))
 (.need (.cmp .leq (.lit 0) (.var 21)) (.br (.cmp .lss (.var 21) (.var 6))
 (.inv 1 24 (sg 1000 [bv 1008 23,bv 1004 19,bt 1010 (.lit 1),bt 1009 (.lit 0),bv 1007 22,bv 1006 21,bg 1005 20,bv 1003 18,bv 1002 17,bg 1001 16,bg 1000 15]) (.fresh 24 (.fresh 25 (.fresh 26 (.fresh 27 (.fresh 28 (.fresh 29 (.fresh 30 (.fresh 31 (.fresh 32 (.fresh 33 (.fresh 34 (.hyp 1 24 (.need (.cmp .leq (.lit 0) (.var 26)) (.br (.cmp .lss (.var 34) (.var 26))
 (.need (.cmp .leq (.lit 0) (.var 34)) (.need (.cmp .lss (.var 34) (.dlen (.var 28))) (.need (.cmp .leq (.lit 0) (.var 33)) (.need (.cmp .lss (.var 33) (.var 26)) (.need (.cmp .lss (.var 33) (.dlen (.var 28))) (.both (.pre 1 (sg 0 [bv 4 8,bt 2 (.icell (.var 28) (.var 33) 0),bt 1 (.icell (.var 28) (.var 34) 0),bt 0 (r8 0),bg 3 7]) (.both (.fresh 35 (.post 1 0 (sg 0 [bv 4 8,bt 2 (.icell (.var 28) (.var 33) 0),bt 1 (.icell (.var 28) (.var 34) 0),bt 0 (r8 0),bg 3 7]) 35 (.br (.var 35)
 (.back 1 24 (sg 1000 [bv 1008 32,bv 1004 28,bt 1010 (.arith .add .i64 (.var 34) (.lit 1)),bv 1009 34,bv 1007 31,bv 1006 30,bg 1005 29,bv 1003 27,bv 1002 26,bg 1001 25,bg 1000 24]))
 (.back 1 24 (sg 1000 [bv 1008 32,bv 1004 28,bt 1010 (.arith .add .i64 (.var 34) (.lit 1)),bv 1009 33,bv 1007 31,bv 1006 30,bg 1005 29,bv 1003 27,bv 1002 26,bg 1001 25,bg 1000 24]))))) .top)) .top))))))
 (.need (.cmp .leq (.lit 0) (.var 33)) (.need (.cmp .lss (.var 33) (.var 26)) (.need (.cmp .lss (.var 33) (.dlen (.var 28))) (.fresh 35 (.need (.cmp .eql (.var 30) (.dlen (.var 32))) (.need (.cmp .leq (.tims (.lit 8) (.plus (.var 30) (.lit 1))) (.lit 140737488355328)) (.fresh 36 (.fresh 37 (.know (.cmp .leq (.dlen (.var 28)) (.var 27)) (.need (.cmp .leq (.lit 0) (.var 27)) (.need (.cmp .leq (.var 33) (.var 27)) (.need (.cmp .leq (.lit 0) (.arith .add .i64 (.var 33) (.lit 1))) (.need (.cmp .leq (.arith .add .i64 (.var 33) (.lit 1)) (.var 26)) (.need (.cmp .leq (.var 26) (.var 27)) (.both (.fresh 38 (.both (.need (.cmp .leq (.var 33) (.dlen (.var 28))) (.need (.cmp .leq (.tims (.lit 8) (.var 33)) (.lit 140737488355328)) (.fresh 39 (.fresh 40 (.both (.need (.cmp .eql (.var 33) (.dlen (.dtake (.var 28) (.var 33)))) (.need (.cmp .leq (.lit 0) qjl) (.need (.cmp .leq (.lit 0) (.minus (.var 26) (.arith .add .i64 (.var 33) (.lit 1)))) (.need (.cmp .leq (.plus qjl (.minus (.var 26) (.arith .add .i64 (.var 33) (.lit 1)))) (.dlen (.var 28))) (.need (.cmp .leq (.tims (.lit 8) (.plus (.var 33) (.minus (.var 26) (.arith .add .i64 (.var 33) (.lit 1))))) (.lit 140737488355328)) (.fresh 41 (.fresh 42 (.both (.back 0 15 (sg 1000 [bt 1008 (.dapp (.var 32) (.rcons (.vint .i64 (.icell (.var 28) (.var 33) 0)) .rnil)),bt 1004 (.dapp (.dtake (.var 28) (.var 33)) (.dtake (.ddrop (.var 28) qjl) (.minus (.var 26) (.arith .add .i64 (.var 33) (.lit 1))))),bv 1007 37,bt 1006 (.plus (.var 30) (.lit 1)),bg 1005 36,bv 1003 42,bt 1002 (.plus (.var 33) (.minus (.var 26) (.arith .add .i64 (.var 33) (.lit 1)))),bg 1001 41,bg 1000 24])) .top)))))))) .top))))) .top)) .top))))))))))))))))))))))))))))))
 (.ret 0 (sg 9 [bv 12 23,bv 11 22,bv 10 21,bg 9 20]))))
 (.ret 0 (sg 9 [bv 12 23,bv 11 22,bv 10 21,bg 9 20]))))))))))))))))))))) .top)))
theorem qvF:qk ⟨Tryz.prog,qaQ,[qcG,qbs],[qo2,qo4]⟩ 100000 Tryz.f38 = qmh:=by kernel_rfl
theorem q08 (hd:∀ c ∈ ([qcG,qbs]:List Ctr),c.ok Tryz.prog) (h:∀ ρ:Env,ρ.good->(qaQ).pre ρ->qmh.den ⟨Tryz.prog,qaQ,[qcG,qbs],[qo2,qo4]⟩ ρ):(qaQ).ok Tryz.prog :=
 qf Tryz.func38 (fun a w=>Tryz.call38 a w) hd 100000 (fun ρ hg hp=>by rw [qvF]; exact h ρ hg hp)
def qlz:Out:=(.fresh 4 (.fresh 5 (.inv 0 6 (sg 1000 [bt 1004 .dnil,bt 1005 (.lit 0),bt 1006 (.imin (.imax (.var 1) (.lit 0)) (.lit 16)),bt 1003 (.lit 0),bt 1002 (.lit 0),bg 1001 5,bg 1000 4]) (.fresh 6 (.fresh 7 (.fresh 8 (.fresh 9 (.fresh 10 (.fresh 11 (.fresh 12 (.hyp 0 6 (.br (.cmp .lss (.var 11) (.var 12))
 (.fresh 13 (.need (.cmp .eql (.var 8) (.dlen (.var 10))) (.need (.cmp .leq (.tims (.lit 8) (.plus (.var 8) (.lit 1))) (.lit 140737488355328)) (.fresh 14 (.fresh 15 (.back 0 6 (sg 1000 [bt 1004 (.dapp (.var 10) (.rcons (.vint .i64 (.var 11)) .rnil)),bt 1005 (.arith .add .i64 (.var 11) (.lit 1)),bv 1006 12,bv 1003 15,bt 1002 (.plus (.var 8) (.lit 1)),bg 1001 14,bg 1000 6])))))))
 (.pre 0 (sg 0 [bv 8 3,bv 5 9,bv 4 10,bt 6 (.lit 16),bv 3 9,bv 2 8,bg 1 7,bt 0 (r8 0),bg 7 2]) (.both (.fresh 13 (.fresh 14 (.fresh 15 (.fresh 16 (.post 0 0 (sg 0 [bv 8 3,bv 5 9,bv 4 10,bt 6 (.lit 16),bv 3 9,bv 2 8,bg 1 7,bt 0 (r8 0),bg 7 2]) 13 (.ret 0 (sg 4 [bv 7 16,bv 6 15,bv 5 14,bg 4 13]))))))) .top))))))))))))))
theorem qw1:qk ⟨Tryz.prog,qc0,[qat],[qnJ]⟩ 100000 Tryz.f29 = qlz:=by kernel_rfl
theorem qzZ (hd:∀ c ∈ ([qat]:List Ctr),c.ok Tryz.prog) (h:∀ ρ:Env,ρ.good->(qc0).pre ρ->qlz.den ⟨Tryz.prog,qc0,[qat],[qnJ]⟩ ρ):(qc0).ok Tryz.prog :=
 qf Tryz.func29 (fun a w=>Tryz.call29 a w) hd 100000 (fun ρ hg hp=>by rw [qw1]; exact h ρ hg hp)
def qu3:Out:=(.fresh 12 (.br (.var 9)
 (.br (.var 8)
 (.ret 0 (sg 12 [bt 12 (.lit 3)]))
 (.ret 0 (sg 12 [bt 12 (.lit 0)])))
 (.br (.cmp .lss (.var 7) (.lit 1))
 (.ret 0 (sg 12 [bt 12 (.lit 0)]))
 (.pre 0 (sg 0 [bv 8 11,bv 5 6,bv 4 5,bv 6 7,bv 3 4,bv 2 3,bg 1 2,bt 0 (r8 0),bg 7 10]) (.both (.fresh 13 (.fresh 14 (.fresh 15 (.fresh 16 (.post 0 0 (sg 0 [bv 8 11,bv 5 6,bv 4 5,bv 6 7,bv 3 4,bv 2 3,bg 1 2,bt 0 (r8 0),bg 7 10]) 13 (.pre 1 (sg 0 [bv 4 15,bv 3 16,bv 5 1,bv 2 15,bv 1 14,bg 0 13]) (.both (.fresh 17 (.post 1 0 (sg 0 [bv 4 15,bv 3 16,bv 5 1,bv 2 15,bv 1 14,bg 0 13]) 17 (.br (.var 17)
 (.br (.not (.var 8))
 (.ret 0 (sg 12 [bt 12 (.lit 1)]))
 (.ret 0 (sg 12 [bt 12 (.lit 0)])))
 (.br (.var 8)
 (.need (.cmp .leq (.lit 0) (.var 14)) (.br (.cmp .eql (.var 14) (.var 7))
 (.ret 0 (sg 12 [bt 12 (.lit 2)]))
 (.ret 0 (sg 12 [bt 12 (.lit 0)]))))
 (.ret 0 (sg 12 [bt 12 (.lit 0)])))))) .top))))))) .top)))))
theorem q3b:qk ⟨Tryz.prog,qcI,[qat,qaR],[]⟩ 100000 Tryz.f35 = qu3:=by kernel_rfl
theorem q7u (hd:∀ c ∈ ([qat,qaR]:List Ctr),c.ok Tryz.prog) (h:∀ ρ:Env,ρ.good->(qcI).pre ρ->qu3.den ⟨Tryz.prog,qcI,[qat,qaR],[]⟩ ρ):(qcI).ok Tryz.prog :=
 qf Tryz.func35 (fun a w=>Tryz.call35 a w) hd 100000 (fun ρ hg hp=>by rw [q3b]; exact h ρ hg hp)
@[simp] def qrT:Out:=.need (.cmp .leq (.lit 0) (.var 14)) (.br (.cmp .eql (.var 14) (.var 7))
 (.ret 0 (sg 12 [bt 12 (.lit 2)]))
 (.ret 0 (sg 12 [bt 12 (.lit 0)])))
def qrf:Out:=(.fresh 12 (.pre 0 (sg 0 [bv 8 11,bv 5 6,bv 4 5,bv 6 7,bv 3 4,bv 2 3,bg 1 2,bt 0 (r8 0),bg 7 10]) (.both (.fresh 13 (.fresh 14 (.fresh 15 (.fresh 16 (.post 0 0 (sg 0 [bv 8 11,bv 5 6,bv 4 5,bv 6 7,bv 3 4,bv 2 3,bg 1 2,bt 0 (r8 0),bg 7 10]) 13 (.br (.var 9)
 (.br (.var 8)
 (.ret 0 (sg 12 [bt 12 (.lit 3)]))
 (.ret 0 (sg 12 [bt 12 (.lit 0)])))
 (.br (.cmp .lss (.var 7) (.lit 1))
 (.ret 0 (sg 12 [bt 12 (.lit 0)]))
 (.pre 1 (sg 0 [bv 4 15,bv 3 16,bv 5 1,bv 2 15,bv 1 14,bg 0 13]) (.both (.fresh 17 (.post 1 0 (sg 0 [bv 4 15,bv 3 16,bv 5 1,bv 2 15,bv 1 14,bg 0 13]) 17 (.br (.var 17)
 (.br (.not (.var 8))
 (.ret 0 (sg 12 [bt 12 (.lit 1)]))
 (.pre 1 (sg 0 [bv 4 15,bv 3 16,bv 5 1,bv 2 15,bv 1 14,bg 0 13]) (.both (.fresh 18 (.post 1 0 (sg 0 [bv 4 15,bv 3 16,bv 5 1,bv 2 15,bv 1 14,bg 0 13]) 18 (.br (.not (.var 18))
 qrT
 (.ret 0 (sg 12 [bt 12 (.lit 0)]))))) .top)))
 (.pre 1 (sg 0 [bv 4 15,bv 3 16,bv 5 1,bv 2 15,bv 1 14,bg 0 13]) (.both (.fresh 18 (.post 1 0 (sg 0 [bv 4 15,bv 3 16,bv 5 1,bv 2 15,bv 1 14,bg 0 13]) 18 (.br (.not (.var 18))
 (.br (.var 8)
 qrT
 (.ret 0 (sg 12 [bt 12 (.lit 0)])))
 (.ret 0 (sg 12 [bt 12 (.lit 0)]))))) .top))))) .top))))))))) .top)))
theorem q0O:qk ⟨Tryz.prog,qeW,[qaQ,qdQ],[]⟩ 100000 Tryz.f41 = qrf:=by kernel_rfl
theorem q5I (hd:∀ c ∈ ([qaQ,qdQ]:List Ctr),c.ok Tryz.prog) (h:∀ ρ:Env,ρ.good->(qeW).pre ρ->qrf.den ⟨Tryz.prog,qeW,[qaQ,qdQ],[]⟩ ρ):(qeW).ok Tryz.prog :=
 qf Tryz.func41 (fun a w=>Tryz.call41 a w) hd 100000 (fun ρ hg hp=>by rw [q0O]; exact h ρ hg hp)
end Go.Proofs

set_option linter.unusedSimpArgs false
set_option linter.unusedVariables false
namespace Go.Proofs
open Go Go.Eng
variable {o:List Int}
theorem qjN {a b:Int}:(!qA o b a) = true↔qd6 o a b <= 0:=by
 rw [qfC,Bool.not_eq_true',decide_eq_false_iff_not,qkt (a:=a) (b:=b)]; omega
theorem qfP {l:List Int}:(qaj o l).Perm l:=List.mergeSort_perm l _
theorem q4V {l:List Int}:(qaj o l).Pairwise fun a b=>(!qA o b a) = true:=by
 refine List.pairwise_mergeSort (fun a b c h1 h2=>?_) (fun a b=>?_) l
 ·rw [qjN] at h1 h2 ⊢
  by_cases e1:qd6 o a b = 0
  ·rw [qfx.1 e1]; exact h2
  ·by_cases e2:qd6 o b c = 0
   ·rw [<- qfx.1 e2]; exact h1
   ·have:=qkP (o:=o) (a:=a) (b:=b) (c:=c) (by omega) (by omega)
    omega
 ·rw [Bool.or_eq_true,qjN,qjN,qkt (a:=a) (b:=b)]; omega
theorem qlw {l:List Int} (h:l.Nodup):qmA o l (qaj o l):=by
 refine ⟨qfP,?_⟩
 have hn:(qaj o l).Nodup:=qfP.nodup_iff.2 h
 refine List.Pairwise.imp₂ (fun a b h1 h2=>?_) q4V hn
 rcases qlg (o:=o) h2 with h | h
 ·exact h
 ·rw [h] at h1; cases h1
theorem qoL {l m:List Int} (h:qmA o l m) (hn:l.Nodup):m = qaj o l:=qx7 h (qlw hn)
theorem qsz {l:List Int} {x:Int}:x ∈ qaj o l↔x ∈ l:=qfP.mem_iff
theorem qfB {l:List Int}:(qaj o l).length = l.length:=qfP.length_eq
theorem qz7 {l:List Int} (hn:l.Nodup) {b:Nat} (hb:qfL o l b l.length):qaj o l = l.getD b 0 :: qaj o (l.take b ++ l.drop (b + 1)):=by
 obtain ⟨hlt,_,hbest⟩:=hb
 have hget:l.getD b 0 = l[b]:=by rw [List.getD_eq_getElem?_getD,List.getElem?_eq_getElem hlt]; rfl
 have hsplit:l = l.take b ++ (l[b] :: l.drop (b + 1)):=by
  rw [<- List.drop_eq_getElem_cons hlt,List.take_append_drop]
 have hperm:l.Perm (l[b] :: (l.take b ++ l.drop (b + 1))):=by
  conv=>lhs; rw [hsplit]
  exact List.perm_middle
 have hn2:(l[b] :: (l.take b ++ l.drop (b + 1))).Nodup:=hperm.nodup_iff.1 hn
 rw [hget]
 refine (qoL ⟨?_,?_⟩ hn).symm
 ·exact (List.Perm.cons _ qfP).trans hperm.symm
 ·rw [List.pairwise_cons]
  refine ⟨fun x hx=>?_,(qlw (List.nodup_cons.1 hn2).2).2⟩
  rw [qsz] at hx
  have hxl:x ∈ l:=hperm.mem_iff.2 (List.mem_cons_of_mem _ hx)
  obtain ⟨j,hj,rfl⟩:=List.getElem_of_mem hxl
  have hjb:j ≠ b:=fun he=>by subst he; exact (List.nodup_cons.1 hn2).1 hx
  have:=hbest j hj hjb
  rwa [hget,List.getD_eq_getElem?_getD,List.getElem?_eq_getElem hj] at this
theorem qjc {L:List Int} {n:Nat} {x:Int}:x ∈ qH L n↔0 <= x/\x < n/\x ∈ L:=by
 unfold qH
 rw [List.mem_filter,List.mem_map]
 constructor
 ·rintro ⟨⟨i,hi,rfl⟩,h⟩
  rw [List.mem_range] at hi
  exact ⟨by omega,by omega,of_decide_eq_true h⟩
 ·rintro ⟨h0,h1,h2⟩
  exact ⟨⟨x.toNat,List.mem_range.2 (by omega),by omega⟩,decide_eq_true h2⟩
theorem qwj {n:Nat}:((List.range n).map fun (i:Nat)=>(i:Int)).Nodup:=by
 rw [List.Nodup,List.pairwise_map]
 exact List.Pairwise.imp (fun h he=>h (by omega)) List.nodup_range
theorem qtc {L:List Int} {n:Nat}:(qH L n).Nodup:=List.Nodup.sublist List.filter_sublist qwj
theorem qs2 {L:List Int}:qbc L = qH L 16:=rfl
theorem qpq {L:List Int} {x:Int}:x ∈ qbc L↔0 <= x/\x < 16/\x ∈ L:=by rw [qs2,qjc]; rfl
theorem qnr {p:Int}:qM (qN o p):=qed _
theorem qks {p:Int}:(qN o p).length = 32:=q7X
theorem qiG {p:Int}:(qE o p).length = 33:=by simp [qE,qks]
theorem qtJ {l:List Int}:qh (l.map (qE o)) = l:=by
 unfold qh
 rw [List.map_map]
 conv=>rhs; rw [<- List.map_id l]
 exact List.map_congr_left fun x _=>rfl
end Go.Proofs
