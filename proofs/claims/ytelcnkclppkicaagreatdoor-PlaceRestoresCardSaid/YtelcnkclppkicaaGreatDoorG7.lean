/- Texts W1, W2, W3, WD, CN, CO, YB, ZSq, YC, CP, W4, WC, YD, YE, YG, YK, W5, W6, YM, YR, CQ, CR, YS, W7, YU, YV, YW, CS, W9, V3, VT, VZ, VW, CT, CW, V4, VM, VU, WF, VV, WA, WE, VX. -/
import Derived.Test.YtelcnkclppkicaaGreatDoorG6
import Derived.Test.YtelcnkclppkicaaGreatDoorG1
import Derived.Test.YtelcnkclppkicaaGreatDoorG5
import Derived.Test.YtelcnkclppkicaaGreatDoorG4
import Derived.Test.YtelcnkclppkicaaGreatDoorProg
set_option linter.unusedSimpArgs false
set_option linter.unusedVariables false
namespace Go.Proofs
open Go Go.Eng
theorem qsJ (a b c:F):a ^^^ (b ^^^ c) = b ^^^ (a ^^^ c):=by rw [<- jbn,jc0 a b,jbn]
theorem qon (a b c d:F):(a ^^^ b) ^^^ (c ^^^ d) = (a ^^^ c) ^^^ (b ^^^ d):=by rw [jbn,jbn,qsJ b c d]
theorem qe3 {a b:F}:a ^^^ b = 0↔a = b:=⟨fun h=>by
 have:a ^^^ b ^^^ b = b:=by rw [h]; simp
 rwa [jbn,jep,jeq] at this,fun h=>by rw [h]; exact jep⟩
theorem qae {a:F}:a ^^^ 0 = a:=jeq
theorem qat {a:F}:0 ^^^ a = a:=BitVec.zero_xor
theorem qa7 {a:F}:a ^^^ a = 0:=jep
theorem qne {a b:F}:a ^^^ b ^^^ b = a:=by rw [jbn,jep,jeq]
def q6 (f:Nat->F):Nat->F
 | 0=>0
 | n + 1=>q6 f n ^^^ f n
theorem qj {f g:Nat->F} {n:Nat} (h:∀ i,i < n->f i = g i):q6 f n = q6 g n:=by
 induction n with
 | zero=>rfl
 | succ n ih=>rw [q6,q6,ih fun i hi=>h i (by omega),h n (by omega)]
theorem qct {f:Nat->F} {n:Nat} (h:∀ i,i < n->f i = 0):q6 f n = 0:=by
 induction n with
 | zero=>rfl
 | succ n ih=>rw [q6,ih fun i hi=>h i (by omega),h n (by omega),qae]
theorem qgc {f g:Nat->F} {n:Nat}:q6 (fun i=>f i ^^^ g i) n = q6 f n ^^^ q6 g n:=by
 induction n with
 | zero=>exact qae.symm
 | succ n ih=>rw [q6,q6,q6,ih,qon]
theorem qcL {f:Nat->F} {c:F} {n:Nat}:q6 (fun i=>qg c (f i)) n = qg c (q6 f n):=by
 induction n with
 | zero=>exact q9.symm
 | succ n ih=>rw [q6,q6,ih,qhB]
theorem qd7 {f:Nat->F} {c:F} {n:Nat}:q6 (fun i=>qg (f i) c) n = qg (q6 f n) c:=by
 rw [qaf,<- qcL]
 exact qj fun i _=>qaf
theorem qfJ {f:Nat->F} {n k:Nat} (hk:k < n) (h:∀ i,i < n->i ≠ k->f i = 0):q6 f n = f k:=by
 induction n with
 | zero=>omega
 | succ n ih =>
  rw [q6]
  by_cases hkn:k = n
  ·rw [qct fun i hi=>h i (by omega) (by omega),hkn,qat]
  ·rw [ih (by omega) fun i hi=>h i (by omega),h n (by omega) (by omega),qae]
theorem qeS {f:Nat->Nat->F} {n m:Nat}:q6 (fun i=>q6 (fun j=>f i j) m) n = q6 (fun j=>q6 (fun i=>f i j) n) m:=by
 induction n with
 | zero=>exact (qct fun _ _=>rfl).symm
 | succ n ih =>
  rw [q6,ih,<- qgc]
  rfl
def del (i j:Nat):F:=if i = j then 1 else 0
theorem qnL {f:Nat->F} {n k:Nat} (hk:k < n):q6 (fun i=>qg (del i k) (f i)) n = f k:=by
 rw [qfJ hk fun i hi hik=>by rw [del,jaf hik,qB],del,jah rfl,qfY]
theorem qgK {f:Nat->F} {n k:Nat} (hk:k < n):q6 (fun i=>qg (f i) (del i k)) n = f k:=by
 rw [qfJ hk fun i hi hik=>by rw [del,jaf hik,q9],del,jah rfl,qbc]
abbrev Mat:=Nat->Nat->F
def spans (r w:Nat) (T:Mat) (v:Nat->F):Prop:=∃ x:Nat->F,∀ j,j < w->v j = q6 (fun i=>qg (x i) (T i j)) r
theorem qbk {r w:Nat} {T:Mat} {i:Nat} (hi:i < r):spans r w T (T i):=⟨fun a=>del a i,fun j _=>(qnL (f:=fun a=>T a j) hi).symm⟩
theorem qbV {r w:Nat} {T:Mat} {v v':Nat->F} (h:spans r w T v) (he:∀ j,j < w->v' j = v j):spans r w T v':=by
 obtain ⟨x,hx⟩:=h
 exact ⟨x,fun j hj=>by rw [he j hj,hx j hj]⟩
theorem qr8 {r w:Nat} {T:Mat} {v v':Nat->F} (h:spans r w T v) (h':spans r w T v'):spans r w T (fun j=>v j ^^^ v' j):=by
 obtain ⟨x,hx⟩:=h
 obtain ⟨y,hy⟩:=h'
 refine ⟨fun i=>x i ^^^ y i,fun j hj=>?_⟩
 show v j ^^^ v' j = _
 rw [hx j hj,hy j hj,<- qgc]
 exact qj fun i _=>qce.symm
theorem qit {r w:Nat} {T:Mat} {v:Nat->F} {c:F} (h:spans r w T v):spans r w T (fun j=>qg c (v j)):=by
 obtain ⟨x,hx⟩:=h
 refine ⟨fun i=>qg c (x i),fun j hj=>?_⟩
 show qg c (v j) = _
 rw [hx j hj,<- qcL]
 exact qj fun i _=>qQ.symm
theorem qg7 {r w:Nat} {T T':Mat} {v:Nat->F} (h:spans r w T' v) (hr:∀ i,i < r->spans r w T (T' i)):spans r w T v:=by
 obtain ⟨x,hx⟩:=h
 let y:Nat->Nat->F:=fun i=>if h:i < r then (hr i h).choose else fun _=>0
 have hy:∀ i,i < r->∀ j,j < w->T' i j = q6 (fun a=>qg (y i a) (T a j)) r:=fun i hi j hj=>by
  simp only [y,dif_pos hi]
  exact (hr i hi).choose_spec j hj
 refine ⟨fun a=>q6 (fun i=>qg (x i) (y i a)) r,fun j hj=>?_⟩
 rw [hx j hj,qj fun i hi=>by rw [hy i hi j hj,<- qcL],qeS]
 refine qj fun a _=>?_
 rw [<- qd7]
 exact qj fun i _=>qQ.symm
structure Same (r w:Nat) (T T':Mat):Prop where
 to:∀ i,i < r->spans r w T (T' i)
 back:∀ i,i < r->spans r w T' (T i)
theorem Same.refl {r w:Nat} {T:Mat}:Same r w T T:=⟨fun i hi=>qbk hi,fun i hi=>qbk hi⟩
theorem Same.trans {r w:Nat} {T T' T'':Mat} (h:Same r w T T') (h':Same r w T' T''):Same r w T T'' :=
 ⟨fun i hi=>qg7 (h'.to i hi) h.to,fun i hi=>qg7 (h.back i hi) h'.back⟩
theorem Same.symm {r w:Nat} {T T':Mat} (h:Same r w T T'):Same r w T' T:=⟨h.back,h.to⟩
theorem Same.spans {r w:Nat} {T T':Mat} (h:Same r w T T') {v:Nat->F}:spans r w T v↔Go.Proofs.spans r w T' v:=⟨fun hv=>qg7 hv h.back,fun hv=>qg7 hv h.to⟩
theorem qtY {r w:Nat} {T T':Mat} {i p:Nat} {g:F} (hi:i < r) (hp:p < r) (hip:i ≠ p) (h1:∀ j,j < w->T' i j = T i j ^^^ qg g (T p j)) (h2:∀ a,a < r->a ≠ i->∀ j,j < w->T' a j = T a j):Same r w T T':=by
 refine ⟨fun a ha=>?_,fun a ha=>?_⟩
 ·by_cases hai:a = i
  ·subst hai
   exact qbV (qr8 (qbk ha) (qit (c:=g) (qbk hp))) h1
  ·exact qbV (qbk ha) (h2 a ha hai)
 ·by_cases hai:a = i
  ·subst hai
   refine qbV (qr8 (qbk ha) (qit (c:=g) (qbk hp))) fun j hj=>?_
   rw [h1 j hj,h2 p hp (Ne.symm hip) j hj,qne]
  ·exact qbV (qbk ha) fun j hj=>(h2 a ha hai j hj).symm
theorem q49 {r w:Nat} {T T':Mat} {i:Nat} {g:F} (hi:i < r) (hg:g ≠ 0) (h1:∀ j,j < w->T' i j = qg (T i j) g) (h2:∀ a,a < r->a ≠ i->∀ j,j < w->T' a j = T a j):Same r w T T':=by
 refine ⟨fun a ha=>?_,fun a ha=>?_⟩
 ·by_cases hai:a = i
  ·subst hai
   exact qbV (qit (c:=g) (qbk ha)) fun j hj=>by rw [h1 j hj,qaf]
  ·exact qbV (qbk ha) (h2 a ha hai)
 ·by_cases hai:a = i
  ·subst hai
   refine qbV (qit (c:=qet g) (qbk ha)) fun j hj=>?_
   rw [h1 j hj,qaf,qQ,qiK hg,qbc]
  ·exact qbV (qbk ha) fun j hj=>(h2 a ha hai j hj).symm
def lead (r w:Nat) (T:Mat) (c:Nat):Prop:=∃ v,spans r w T v/\(∀ j,j < c->v j = 0)/\v c ≠ 0
open Classical in
noncomputable def cnt (r w:Nat) (T:Mat):Nat->Nat
 | 0=>0
 | c + 1=>cnt r w T c + if lead r w T c then 1 else 0
theorem Same.lead {r w:Nat} {T T':Mat} (h:Same r w T T') {c:Nat}:lead r w T c↔Go.Proofs.lead r w T' c:=by
 unfold Go.Proofs.lead
 simp only [h.spans]
theorem q3s {r w:Nat} {T:Mat}:∀ c,cnt r w T c <= c
 | 0=>ja4 _
 | c + 1=>by
  have:=q3s (r:=r) (w:=w) (T:=T) c
  unfold cnt; split <;> omega
theorem qwi {r w:Nat} {T:Mat} {c:Nat}:∀ d,cnt r w T c <= cnt r w T (c + d)
 | 0=>ja4 _
 | d + 1=>by
  have:=qwi (r:=r) (w:=w) (T:=T) (c:=c) d
  rw [<- jco]
  conv=>rhs; unfold cnt
  omega
theorem qhL {r w:Nat} {T:Mat} {c:Nat} (h:lead r w T c):cnt r w T (c + 1) = cnt r w T c + 1:=by rw [cnt,jah h]
theorem qrn {r w:Nat} {T:Mat} {c:Nat} (h:¬ lead r w T c):cnt r w T (c + 1) = cnt r w T c:=by rw [cnt,jaf h]; rfl
theorem qt0 {r w:Nat} {T:Mat} {c c':Nat} (h:lead r w T c) (hlt:c < c'):cnt r w T c < cnt r w T c':=by
 have:=qwi (r:=r) (w:=w) (T:=T) (c:=c + 1) (c' - (c + 1))
 rw [show c + 1 + (c' - (c + 1)) = c' by omega,qhL h] at this
 omega
theorem q7x {r w:Nat} {T:Mat} {c c':Nat} (h:lead r w T c) (h':lead r w T c') (he:cnt r w T c = cnt r w T c'):c = c':=by
 rcases jdt c c' with h1 | h1 | h1
 ·have:=qt0 h h1; omega
 ·exact h1
 ·have:=qt0 h' h1; omega
theorem qkt {r w:Nat} {T:Mat}:∀ {c i:Nat},i < cnt r w T c->∃ c',c' < c/\lead r w T c'/\cnt r w T c' = i
 | 0,i,h=>by simp [cnt] at h
 | c + 1,i,h=>by
  by_cases hl:lead r w T c
  ·rw [qhL hl] at h
   by_cases hi:i = cnt r w T c
   ·exact ⟨c,by omega,hl,hi.symm⟩
   ·obtain ⟨c',h1,h2,h3⟩:=qkt (r:=r) (w:=w) (T:=T) (c:=c) (i:=i) (by omega)
    exact ⟨c',by omega,h2,h3⟩
  ·rw [qrn hl] at h
   obtain ⟨c',h1,h2,h3⟩:=qkt (c:=c) h
   exact ⟨c',by omega,h2,h3⟩
structure Ech (r w:Nat) (T0 T:Mat) (c rank:Nat):Prop where
 same:Same r w T0 T
 num:rank = cnt r w T0 c
 le:rank <= r
 col:∀ c',c' < c->lead r w T0 c'->∀ i,i < r->T i c' = del i (cnt r w T0 c')
 low:∀ i,rank <= i->i < r->∀ c',c' < c->T i c' = 0
theorem q2T {r w:Nat} {T:Mat}:Ech r w T T 0 0:=⟨Same.refl,rfl,jfw _,fun c' h=>by omega,fun i _ _ c' h=>by omega⟩
theorem q80 {r w:Nat} {T0 T:Mat} {c rank:Nat} (h:Ech r w T0 T c rank) (hc:c <= w) {v:Nat->F} (hv:spans r w T0 v) (h0:∀ j,j < c->v j = 0) :
  ∃ x:Nat->F,(∀ i,i < rank->x i = 0)/\∀ j,j < w->v j = q6 (fun i=>qg (x i) (T i j)) r:=by
 obtain ⟨x,hx⟩:=h.same.spans.1 hv
 refine ⟨x,fun i hi=>?_,hx⟩
 rw [h.num] at hi
 obtain ⟨c',h1,h2,h3⟩:=qkt hi
 have hle:=h.le
 have h4:=hx c' (by omega)
 rw [h0 c' h1,qj fun a ha=>by rw [h.col c' h1 h2 a ha,h3]] at h4
 rw [qgK (f:=x) (by have:=h.num; omega)] at h4
 exact h4.symm
theorem qvM {r w:Nat} {T0 T:Mat} {c rank:Nat} (h:Ech r w T0 T c rank) (hc:c < w) (hz:∀ i,rank <= i->i < r->T i c = 0):Ech r w T0 T (c + 1) rank:=by
 have hn:¬ lead r w T0 c:=fun ⟨v,h1,h2,h3⟩=>by
  obtain ⟨x,hx,he⟩:=q80 h (by omega) h1 h2
  apply h3
  rw [he c hc]
  refine qct fun i hi=>?_
  by_cases hir:i < rank
  ·rw [hx i hir,qB]
  ·rw [hz i (by omega) hi,q9]
 refine ⟨h.same,by rw [qrn hn]; exact h.num,h.le,fun c' hc' hl i hi=>?_,fun i h1 h2 c' hc'=>?_⟩
 ·by_cases he:c' = c
  ·rw [he] at hl; exact (hn hl).elim
  ·exact h.col c' (by omega) hl i hi
 ·by_cases he:c' = c
  ·rw [he]; exact hz i h1 h2
  ·exact h.low i h1 h2 c' (by omega)
theorem q4C {r w:Nat} {T0 T T':Mat} {c rank:Nat} (h:Ech r w T0 T c rank) (hc:c < w) (hr:rank < r) (hs:Same r w T T') (hcol:∀ i,i < r->T' i c = del i rank)
  (hold:∀ c',c' < c->∀ i,i < r->T' i c' = T i c'):Ech r w T0 T' (c + 1) (rank + 1):=by
 have hl:lead r w T0 c:=by
  refine ⟨T' rank,(h.same.trans hs).spans.2 (qbk hr),fun j hj=>?_,?_⟩
  ·rw [hold j hj rank hr]; exact h.low rank (ja4 _) hr j hj
  ·rw [hcol rank hr,del,jah rfl]; decide
 refine ⟨h.same.trans hs,by rw [qhL hl,<- h.num],hr,fun c' hc' hl' i hi=>?_,fun i h1 h2 c' hc'=>?_⟩
 ·by_cases he:c' = c
  ·rw [he,hcol i hi,h.num]
  ·rw [hold c' (by omega) i hi]; exact h.col c' (by omega) hl' i hi
 ·by_cases he:c' = c
  ·rw [he,hcol i h2,del,jaf (by omega)]
  ·rw [hold c' (by omega) i h2]; exact h.low i (by omega) h2 c' (by omega)
theorem qvV {r w:Nat} {T:Mat}:∀ {n:Nat},cnt r w T n = n->∀ c,c < n->lead r w T c/\cnt r w T c = c
 | 0,_,c,h=>by omega
 | n + 1,he,c,h=>by
  by_cases hl:lead r w T n
  ·rw [qhL hl] at he
   by_cases hc:c = n
   ·exact ⟨by rw [hc]; exact hl,by rw [hc]; omega⟩
   ·exact qvV (n:=n) (by omega) c (by omega)
  ·rw [qrn hl] at he
   have:=q3s (r:=r) (w:=w) (T:=T) n
   omega
theorem qt7 {r w:Nat} {T0 T:Mat} {n:Nat} (h:Ech r w T0 T n n):∀ i,i < r->∀ c,c < n->T i c = del i c:=fun i hi c hc=>by
 obtain ⟨h1,h2⟩:=qvV h.num.symm c hc
 rw [h.col c hc h1 i hi,h2]
theorem q5L {r w:Nat} {T0 T:Mat} {n rank:Nat} (h:Ech r w T0 T n rank) (hn:n <= w) (hlt:rank < n):∃ y:Nat->F,(∃ c,c < n/\y c ≠ 0)/\∀ i,i < r->q6 (fun j=>qg (T0 i j) (y j)) n = 0:=by
 have hex:∃ c,c < n/\¬ lead r w T0 c:=by
  refine Classical.byContradiction fun hno=>?_
  have hall:∀ c,c < n->lead r w T0 c:=fun c hc=>Classical.byContradiction fun hl=>hno ⟨c,hc,hl⟩
  have:∀ c,c <= n->cnt r w T0 c = c:=fun c=>by
   induction c with
   | zero=>intro _; rfl
   | succ c ih=>intro hc; rw [qhL (hall c (by omega)),ih (by omega)]
  have:=this n (ja4 _)
  have:=h.num
  omega
 obtain ⟨c,hc,hnl⟩:=hex
 let y:Nat->F:=fun j=>open Classical in if j = c then 1 else if lead r w T0 j then T (cnt r w T0 j) c else 0
 have hyc:y c = 1:=by simp [y]
 have hT:∀ i,i < r->q6 (fun j=>qg (T i j) (y j)) n = 0:=fun i hi=>by
  have hsplit:q6 (fun j=>qg (T i j) (y j)) n = q6 (fun j=>qg (if j = c then T i c else 0) 1) n ^^^ q6 (fun j=>open Classical in if j ≠ c/\lead r w T0 j then qg (del i (cnt r w T0 j)) (T (cnt r w T0 j) c) else 0) n:=by
   rw [<- qgc]
   refine qj fun j hj=>?_
   by_cases hjc:j = c
   ·subst hjc
    simp only [hyc,qbc,jby,ne_eq,not_true,false_and,ja8,qae]
   ·simp only [jaf hjc,qB,qat]
    by_cases hl:lead r w T0 j
    ·rw [jah ⟨hjc,hl⟩,h.col j hj hl i hi]; simp only [y,jaf hjc,jah hl]
    ·rw [jaf fun hh=>hl hh.2]; simp only [y,jaf hjc,jaf hl,q9]
  rw [hsplit,qfJ hc fun j _ hj=>by rw [jaf hj,qB],jah rfl,qbc]
  by_cases hir:i < rank
  ·rw [h.num] at hir
   obtain ⟨c',h1,h2,h3⟩:=qkt hir
   have hcc:c' ≠ c:=fun e=>hnl (e ▸ h2)
   rw [qfJ (k:=c') h1 fun j hj hjc=>?_,jah ⟨hcc,h2⟩,h3,del,jah rfl,qfY,qa7]
   split
   ·rename_i hh
    rw [del,jaf,qB]
    intro e
    exact hjc (q7x hh.2 h2 (by rw [h3,e]))
   ·rfl
  ·rw [h.low i (by omega) hi c hc,qat]
   refine qct fun j hj=>?_
   split
   ·rename_i hh
    rw [del,jaf,qB]
    have:=qt0 hh.2 hj
    have:=h.num
    omega
   ·rfl
 refine ⟨y,⟨c,hc,by rw [hyc]; decide⟩,fun i hi=>?_⟩
 obtain ⟨x,hx⟩:=h.same.back i hi
 rw [qj fun j hj=>by rw [hx j (by omega),<- qd7],qeS]
 refine qct fun a ha=>?_
 rw [qj (g:=fun j=>qg (x a) (qg (T a j) (y j))) fun j _=>qQ,qcL,hT a ha,q9]
def qa0 (x:F):List F->F
 | []=>0
 | c :: l=>qg (qa0 x l) x ^^^ c
theorem qgg {x:F}:qa0 x [] = 0:=rfl
theorem qil {x c:F}:qa0 x [c] = c:=by rw [qa0,qgg,qB,qat]
def qjs (r:F):List F->List F
 | []=>[]
 | [_]=>[]
 | _ :: c' :: l=>qa0 r (c' :: l) :: qjs r (c' :: l)
theorem qu6 {r:F}:∀ {l:List F},(qjs r l).length = l.length - 1
 | []=>rfl
 | [_]=>rfl
 | _ :: c' :: l=>by simp only [qjs,jbh,qu6 (l:=c' :: l)]; omega
theorem qwz {x r:F}:∀ {l:List F},qa0 x l ^^^ qa0 r l = qg (x ^^^ r) (qa0 x (qjs r l))
 | []=>by rw [qjs,qgg,qgg,qa7,q9]
 | [c]=>by rw [qjs,qil,qil,qgg,qa7,q9]
 | c :: c' :: l=>by
  have ih:=qwz (x:=x) (r:=r) (l:=c' :: l)
  rw [qjs,show qa0 x (c :: c' :: l) = qg (qa0 x (c' :: l)) x ^^^ c from rfl,show qa0 r (c :: c' :: l) = qg (qa0 r (c' :: l)) r ^^^ c from rfl]
  conv=>rhs; rw [qa0]
  have h1:∀ a b d:F,a ^^^ b = qg (x ^^^ r) d->qg a x ^^^ c ^^^ (qg b r ^^^ c) = qg (x ^^^ r) (qg d x ^^^ b):=fun a b d h=>by
   rw [qon,qa7,qae,qhB (z:=x ^^^ r),<- qQ,<- h,qce,qaf (x:=x ^^^ r),qhB,<- jbn,qne]
  exact h1 _ _ _ ih
theorem qwg {r:F}:∀ {l:List F} {c:F},(∀ y ∈ qjs r (c :: l),y = 0)->∀ y ∈ l,y = 0
 | [],_,_=>by simp
 | c' :: l,c,h=>by
  simp only [qjs,jbo,forall_eq_or_imp] at h
  have ht:=qwg (l:=l) (c:=c') h.2
  have hh:qa0 r l = 0:=by
   clear h
   induction l with
   | nil=>rfl
   | cons a l ih=>rw [qa0,ih fun y hy=>ht y (jad _ hy),qB,ht a (jae ..),qae]
  have h1:=h.1
  rw [qa0,hh,qB,qat] at h1
  intro y hy
  rcases jbo.1 hy with rfl | hy
  ·exact h1
  ·exact ht y hy
theorem qrV {x:F}:∀ {l:List F},(∀ y ∈ l,y = 0)->qa0 x l = 0
 | [],_=>rfl
 | a :: l,h=>by rw [qa0,qrV fun y hy=>h y (jad _ hy),qB,h a (jae ..),qae]
def qbz (n:Nat) (xs:Nat->F):Prop:=∀ i j,i < n->j < n->xs i = xs j->i = j
theorem qpo {xs:Nat->F}:∀ {n:Nat} {l:List F},l.length <= n->qbz n xs->(∀ i,i < n->qa0 (xs i) l = 0)->∀ y ∈ l,y = 0
 | 0,l,hl,_,_=>by
  have:l = []:=jdg (by omega)
  rw [this]; simp
 | n + 1,[],_,_,_=>by simp
 | n + 1,c :: t,hl,hd,hr=>by
  simp only [jbh] at hl
  have hq:=qpo (n:=n) (l:=qjs (xs n) (c :: t)) (by rw [qu6,jbh]; omega) (fun i j hi hj=>hd i j (by omega) (by omega)) fun i hi=>by
   have h:=qwz (x:=xs i) (r:=xs n) (l:=c :: t)
   rw [hr i (by omega),hr n (by omega),qa7] at h
   rcases quM.1 h.symm with h1 | h1
   ·have:=hd i n (by omega) (by omega) (qe3.1 h1); omega
   ·exact h1
  have ht:=qwg hq
  have h1:=hr n (by omega)
  rw [qa0,qrV ht,qB,qat] at h1
  intro y hy
  rcases jbo.1 hy with rfl | hy
  ·exact h1
  ·exact ht y hy
def qA (n:Nat) (y:Nat->F) (x:F):F:=q6 (fun j=>qg (y j) (qaG x j)) n
theorem qs5 {x c:F}:∀ {l:List F},qa0 x (l ++ [c]) = qa0 x l ^^^ qg c (qaG x l.length)
 | []=>by rw [jdb,qil,qgg,qat,jcr,qaG,qbc]
 | a :: l=>by
  rw [jed,qa0,qs5 (l:=l),qa0,qce,jbh,qaG,jbn,jbn,qQ,jc0 a]
theorem qm8 {y:Nat->F} {x:F}:∀ n,qa0 x ((List.range n).map y) = qA n y x
 | 0=>rfl
 | n + 1=>by
  rw [jd1,jca,ja3,jb6,qs5,qm8 n]
  simp [qA,q6]
theorem qkI {n:Nat} {y:Nat->F} {xs:Nat->F} (hd:qbz n xs) (h:∀ i,i < n->qA n y (xs i) = 0):∀ j,j < n->y j = 0:=fun j hj=>by
 have:=qpo (l:=(List.range n).map y) (by simp) hd (fun i hi=>by rw [qm8]; exact h i hi) (y j)
 exact this (jbl.2 ⟨j,jb8.2 hj,rfl⟩)
theorem q1K {x:F} {l:List F} {n:Nat} (hl:l.length <= n):qa0 x l = qA n (fun j=>l.getD j 0) x:=by
 have h1:∀ m,qA (l.length + m) (fun j=>l.getD j 0) x = qA l.length (fun j=>l.getD j 0) x:=fun m=>by
  induction m with
  | zero=>rfl
  | succ m ih =>
   rw [<- jco,qA,q6]
   rw [show q6 (fun j=>qg (l.getD j 0) (qaG x j)) (l.length + m) = qA (l.length + m) (fun j=>l.getD j 0) x from rfl,ih]
   rw [show l.getD (l.length + m) 0 = 0 by rw [jab,jas (by omega)]; rfl,qB,qae]
 rw [show n = l.length + (n - l.length) by omega,h1,<- qm8]
 congr 1
 apply jbt
 intro j
 by_cases hj:j < l.length
 ·simp [jbj hj,jab,jac hj]
 ·simp [hj]
def qbK (f:Nat->F):Nat->F
 | 0=>1
 | n + 1=>qg (qbK f n) (f n)
theorem qn6 {f g:Nat->F} {n:Nat} (h:∀ i,i < n->f i = g i):qbK f n = qbK g n:=by
 induction n with
 | zero=>rfl
 | succ n ih=>rw [qbK,qbK,ih fun i hi=>h i (by omega),h n (by omega)]
theorem q4Y {f:Nat->F} {n:Nat} (h:∀ i,i < n->f i ≠ 0):qbK f n ≠ 0:=by
 induction n with
 | zero=>exact (by decide:(1:F) ≠ 0)
 | succ n ih=>exact qm7 (ih fun i hi=>h i (by omega)) (h n (by omega))
theorem qqr {f:Nat->F} {n k:Nat} (hk:k < n) (h:f k = 0):qbK f n = 0:=by
 induction n with
 | zero=>omega
 | succ n ih =>
  rw [qbK]
  by_cases hkn:k = n
  ·rw [<- hkn,h,q9]
  ·rw [ih (by omega),qB]
def qos (r:F):F->List F->List F
 | p,[]=>[p]
 | p,c :: l=>(p ^^^ qg r c) :: qos r c l
theorem qwd {r:F}:∀ {p:F} {l:List F},(qos r p l).length = l.length + 1
 | _,[]=>rfl
 | _,c :: l=>by simp [qos,qwd]
theorem qrJ {r x:F}:∀ {p:F} {l:List F},qa0 x (qos r p l) = p ^^^ qg (x ^^^ r) (qa0 x l)
 | p,[]=>by rw [qos,qil,qgg,q9,qae]
 | p,c :: l=>by
  rw [qos,qa0,qrJ,qa0,qce,qhB,jc0 _ (p ^^^ qg r c),jbn,qce (x:=x) (y:=r) (z:=c),<- qQ]
  congr 1
  rw [qaf (x:=c) (y:=x),<- jbn,jc0 (qg r c),jc0]
theorem qrT (xs:Nat->F) (i:Nat):∀ n,∃ l:List F,l.length = (if i < n then n else n + 1)/\∀ x,qa0 x l = qbK (fun m=>if m = i then 1 else x ^^^ xs m) n
 | 0=>⟨[1],by simp,fun x=>by rw [qil,qbK]⟩
 | n + 1=>by
  obtain ⟨l,h1,h2⟩:=qrT xs i n
  by_cases hn:n = i
  ·subst hn
   refine ⟨l,by rw [h1]; simp,fun x=>by rw [h2,qbK,jah rfl,qbc]⟩
  ·refine ⟨qos (xs n) 0 l,?_,fun x=>?_⟩
   ·rw [qwd,h1]; split <;> split <;> omega
   ·rw [qrJ,h2,qbK,jaf hn,qat,qaf]
def qcN (n:Nat) (xs:Nat->F) (x:F) (i:Nat):F:=qg (qbK (fun m=>if m = i then 1 else x ^^^ xs m) n) (qet (qbK (fun m=>if m = i then 1 else xs i ^^^ xs m) n))
theorem qzn {n:Nat} {xs:Nat->F} (hd:qbz n xs) {i k:Nat} (hi:i < n) (hk:k < n):qcN n xs (xs k) i = del i k:=by
 unfold qcN del
 by_cases hik:i = k
 ·subst hik
  rw [jah rfl,qiK]
  refine q4Y fun m hm=>?_
  split
  ·decide
  ·rename_i hmi
   exact fun h=>hmi (hd i m hi hm (qe3.1 h)).symm
 ·rw [jaf hik,qqr (k:=k) hk (by rw [jaf (Ne.symm hik)]; exact qa7),qB]
theorem qik {n:Nat} {xs:Nat->F} (hd:qbz n xs) {y:Nat->F} {x:F}:qA n y x = q6 (fun i=>qg (qcN n xs x i) (qA n y (xs i))) n:=by
 have hex:∀ i,∃ l:Nat->F,i < n->∀ x,qA n l x = qcN n xs x i:=fun i=>by
  obtain ⟨l,h1,h2⟩:=qrT xs i n
  refine ⟨fun j=>qg (l.getD j 0) (qet (qbK (fun m=>if m = i then 1 else xs i ^^^ xs m) n)),fun hi x=>?_⟩
  rw [qcN,<- h2 x,q1K (n:=n) (by rw [h1,jah hi]; exact ja4 _),qA,qA,<- qd7]
  refine qj fun j _=>?_
  rw [qQ,qaf (x:=qet _),<- qQ]
 let lc:Nat->Nat->F:=fun i=>(hex i).choose
 have hlc:∀ i,i < n->∀ x,qA n (lc i) x = qcN n xs x i:=fun i hi=>(hex i).choose_spec hi
 let S:Nat->F:=fun j=>y j ^^^ q6 (fun i=>qg (qA n y (xs i)) (lc i j)) n
 have hS:∀ x,qA n S x = qA n y x ^^^ q6 (fun i=>qg (qcN n xs x i) (qA n y (xs i))) n:=fun x=>by
  have h1:qA n S x = qA n y x ^^^ q6 (fun j=>q6 (fun i=>qg (qA n y (xs i)) (qg (lc i j) (qaG x j))) n) n:=by
   simp only [qA]
   rw [<- qgc]
   refine qj fun j _=>?_
   simp only [S]
   rw [qce]
   congr 1
   rw [<- qd7]
   exact qj fun i _=>qQ
  rw [h1,qeS]
  congr 1
  refine qj fun i hi=>?_
  rw [qcL,<- hlc i hi x,qaf]
  rfl
 have h0:=qkI (y:=S) hd fun k hk=>by
  rw [hS,qj fun i hi=>by rw [qzn hd hi hk],qnL (f:=fun i=>qA n y (xs i)) hk,qa7]
 have:=hS x
 rw [show qA n S x = 0 from qct fun j hj=>by rw [h0 j hj,qB]] at this
 exact qe3.1 this.symm
theorem qpW {n:Nat} {xs:Nat->F} (hd:qbz n xs) {y:Nat->F} (h:∀ i,i < n->q6 (fun j=>qg (qaG (xs i) j) (y j)) n = 0):∀ j,j < n->y j = 0 :=
 qkI hd fun i hi=>by
  rw [qA,<- h i hi]
  exact qj fun j _=>qaf
def qo (l:List Int):Prop:=∀ x ∈ l,isB x
theorem qam {l:List Int} (h:qo l) (i:Nat):isB (l.getD i 0):=by
 rw [jab]
 by_cases hi:i < l.length
 ·rw [jac hi]; exact h _ (jbx hi)
 ·rw [jas (by omega)]; exact ⟨by simp,by simp⟩
def q7 (ca:Nat) (l:List Int):Mat:=fun i j=>toF (l.getD (i * ca + j) 0)
def qaa (ca cb:Nat) (a b:List Int):Mat:=fun i j=>if j < ca then q7 ca a i j else q7 cb b i (j - ca)
theorem quT {i i' ca j:Nat} (hj:j < ca):(i * ca <= i' * ca + j/\i' * ca + j < i * ca + ca)↔i' = i:=by
 constructor
 ·intro ⟨h1,h2⟩
  rcases jdt i' i with h | h | h
  ·have:=jbk ca (show i' + 1 <= i by omega)
   rw [jbc,jc2] at this; omega
  ·exact h
  ·have:=jbk ca (show i + 1 <= i' by omega)
   rw [jbc,jc2] at this; omega
 ·rintro rfl; omega
theorem qeT {i r ca j:Nat} (hi:i < r) (hj:j < ca):i * ca + j < r * ca:=by
 have:=jbk ca (show i + 1 <= r by omega)
 rw [jbc,jc2] at this; omega
theorem qjJ {i r ca:Nat} (hi:i < r):i * ca + ca <= r * ca:=by
 have:=jbk ca (show i + 1 <= r by omega)
 rwa [jbc,jc2] at this
theorem qdC {l s:List Int} {off:Nat} {c:Int} (h:qo l):qo (qE l off s c):=fun x hx=>by
 obtain ⟨i,hi⟩:=jbd hx
 rw [qb9] at hi
 obtain ⟨y,hy,rfl⟩:=jai.1 hi
 split
 ·exact q4R
 ·exact h y (jbi hy)
theorem qlM {l:List Int} {off n:Nat} {c:Int} (h:qo l) (hc:isB c):qo (qbj l off n c):=fun x hx=>by
 obtain ⟨i,hi⟩:=jbd hx
 rw [qei] at hi
 obtain ⟨y,hy,rfl⟩:=jai.1 hi
 have:=h y (jbi hy)
 split
 ·exact q4M this hc
 ·exact this
theorem qug {ca r i p:Nat} {a:List Int} {g:Int} (ha:a.length = r * ca) (hb:qo a) (hg:isB g) (hi:i < r) (hp:p < r) {i' j:Nat} (hi':i' < r) (hj:j < ca) :
  q7 ca (qE a (i * ca) (seg a (p * ca) ca) g) i' j = if i' = i then q7 ca a i j ^^^ qg (toF g) (q7 ca a p j) else q7 ca a i' j:=by
 have hlt:=qeT hi' hj
 have hsl:(seg a (p * ca) ca).length = ca:=qdm (by rw [ha]; exact qjJ hp)
 unfold q7
 rw [jab,qb9,jac (by omega),jaw,ja0,hsl]
 by_cases he:i' = i
 ·subst he
  rw [jah ⟨by omega,by omega⟩,jah rfl,show i' * ca + j - i' * ca = j by omega]
  have hs:(seg a (p * ca) ca).getD j 0 = a.getD (p * ca + j) 0:=by
   rw [jab,qdZ,jah hj,jab]
  rw [hs,qke,qhT hg (qam hb _),jab (l:=a) (i:=i' * ca + j),jac (by omega),ja0]
 ·rw [jaf (fun h=>he ((quT hj).1 h)),jaf he,jab,jac (by omega),ja0]
theorem qo7 {ca r i:Nat} {a:List Int} {g:Int} (ha:a.length = r * ca) (hb:qo a) (hg:isB g) (hi:i < r) {i' j:Nat} (hi':i' < r) (hj:j < ca) :
  q7 ca (qbj a (i * ca) ca g) i' j = if i' = i then qg (q7 ca a i j) (toF g) else q7 ca a i' j:=by
 have hlt:=qeT hi' hj
 unfold q7
 rw [jab,qei,jac (by omega),jaw,ja0]
 by_cases he:i' = i
 ·subst he
  rw [jah ⟨by omega,by omega⟩,jah rfl,jab,jac (by omega),ja0,qhT (hb _ (jbx _)) hg]
 ·rw [jaf (fun h=>he ((quT hj).1 h)),jaf he,jab,jac (by omega),ja0]
structure Two (r ca cb:Nat) (a b:List Int):Prop where
 la:a.length = r * ca
 lb:b.length = r * cb
 ba:qo a
 bb:qo b
variable {r ca cb:Nat} {a b:List Int}
theorem Two.add (h:Two r ca cb a b) {i p:Nat} {g:Int}:Two r ca cb (qE a (i * ca) (seg a (p * ca) ca) g) (qE b (i * cb) (seg b (p * cb) cb) g) :=
 ⟨by rw [qb7,h.la],by rw [qb7,h.lb],qdC h.ba,qdC h.bb⟩
theorem Two.scale (h:Two r ca cb a b) {i:Nat} {g:Int} (hg:isB g):Two r ca cb (qbj a (i * ca) ca g) (qbj b (i * cb) cb g) :=
 ⟨by rw [qkJ,h.la],by rw [qkJ,h.lb],qlM h.ba hg,qlM h.bb hg⟩
theorem qyC (h:Two r ca cb a b) {i p:Nat} {g:Int} (hg:isB g) (hi:i < r) (hp:p < r) {i' j:Nat} (hi':i' < r) (hj:j < ca + cb) :
  qaa ca cb (qE a (i * ca) (seg a (p * ca) ca) g) (qE b (i * cb) (seg b (p * cb) cb) g) i' j = if i' = i then qaa ca cb a b i j ^^^ qg (toF g) (qaa ca cb a b p j) else qaa ca cb a b i' j:=by
 unfold qaa
 by_cases hjc:j < ca
 ·simp only [jah hjc]; exact qug h.la h.ba hg hi hp hi' hjc
 ·simp only [jaf hjc]; exact qug h.lb h.bb hg hi hp hi' (by omega)
theorem q3U (h:Two r ca cb a b) {i:Nat} {g:Int} (hg:isB g) (hi:i < r) {i' j:Nat} (hi':i' < r) (hj:j < ca + cb) :
  qaa ca cb (qbj a (i * ca) ca g) (qbj b (i * cb) cb g) i' j = if i' = i then qg (qaa ca cb a b i j) (toF g) else qaa ca cb a b i' j:=by
 unfold qaa
 by_cases hjc:j < ca
 ·simp only [jah hjc]; exact qo7 h.la h.ba hg hi hi' hjc
 ·simp only [jaf hjc]; exact qo7 h.lb h.bb hg hi hi' (by omega)
theorem qdB {c i:Nat} (hc:c < ca):qaa ca cb a b i c = toF (a.getD (i * ca + c) 0):=by rw [qaa,jah hc,q7]
theorem qs1 (a:List Int) (ca c:Nat):∀ n p,p <= qcE a ca c p n/\qcE a ca c p n <= p + n/\(qcE a ca c p n < p + n->a.getD (qcE a ca c p n * ca + c) 0 ≠ 0)/\∀ i,p <= i->i < qcE a ca c p n->a.getD (i * ca + c) 0 = 0
 | 0,p=>by simp only [qcE]; exact ⟨ja4 _,ja4 _,fun h=>by omega,fun i h1 h2=>by omega⟩
 | n + 1,p=>by
  obtain ⟨h1,h2,h3,h4⟩:=qs1 a ca c n (p + 1)
  simp only [qcE]
  split
  ·rename_i hz
   refine ⟨by omega,by omega,fun h=>h3 (by omega),fun i hi1 hi2=>?_⟩
   by_cases hip:i = p
   ·rw [hip]; exact hz
   ·exact h4 i (by omega) hi2
  ·rename_i hz
   exact ⟨ja4 _,by omega,fun _=>hz,fun i h1 h2=>by omega⟩
theorem Two.rows (h:Two r ca cb a b) {rank c:Nat}:∀ i,Two r ca cb (qa8 ca cb rank c a b i).1 (qa8 ca cb rank c a b i).2
 | 0=>h
 | i + 1=>by
  have ih:=Two.rows h (rank:=rank) (c:=c) i
  simp only [qa8]
  split
  ·exact ih
  ·exact ih.add
theorem qvq (h:Two r ca cb a b) {rank c:Nat} (hr:rank < r) (hc:c < ca):∀ i,i <= r ->
  (∀ i' j,i' < r->j < ca + cb->qaa ca cb (qa8 ca cb rank c a b i).1 (qa8 ca cb rank c a b i).2 i' j = if i' < i/\i' ≠ rank then qaa ca cb a b i' j ^^^ qg (qaa ca cb a b i' c) (qaa ca cb a b rank j) else qaa ca cb a b i' j) /\
  Same r (ca + cb) (qaa ca cb a b) (qaa ca cb (qa8 ca cb rank c a b i).1 (qa8 ca cb rank c a b i).2)
 | 0,_=>⟨fun i' j _ _=>by rw [jaf (by omega)]; rfl,Same.refl⟩
 | i + 1,hi=>by
  obtain ⟨ih,ihs⟩:=qvq h hr hc i (by omega)
  have hT:=h.rows (rank:=rank) (c:=c) i
  simp only [qa8]
  by_cases hir:i = rank
  ·rw [jah hir]
   refine ⟨fun i' j hi' hj=>?_,ihs⟩
   rw [ih i' j hi' hj]
   by_cases h1:i' < i/\i' ≠ rank
   ·rw [jah h1,jah ⟨by omega,h1.2⟩]
   ·rw [jaf h1,jaf (by omega)]
  ·rw [jaf hir]
   simp only
   have hg:=qam hT.ba (i * ca + c)
   have hgv:toF ((qa8 ca cb rank c a b i).1.getD (i * ca + c) 0) = qaa ca cb a b i c:=by
    rw [<- qdB (cb:=cb) (b:=(qa8 ca cb rank c a b i).2) hc,ih i c (by omega) (by omega),jaf (by omega)]
   have hstep:=fun i' j (hi':i' < r) (hj:j < ca + cb)=>qyC hT (g:=(qa8 ca cb rank c a b i).1.getD (i * ca + c) 0) hg (show i < r by omega) hr hi' hj
   refine ⟨fun i' j hi' hj=>?_,ihs.trans (qtY (i:=i) (p:=rank) (g:=toF ((qa8 ca cb rank c a b i).1.getD (i * ca + c) 0)) (by omega) hr hir (fun j hj=>by rw [hstep i j (by omega) hj,jah rfl]) fun a' ha' hne j hj=>by rw [hstep a' j ha' hj,jaf hne])⟩
   rw [hstep i' j hi' hj]
   by_cases he:i' = i
   ·subst he
    rw [jah rfl,hgv,ih i' j hi' hj,jaf (by omega),ih rank j hr hj,jaf (by omega),jah ⟨by omega,hir⟩]
   ·rw [jaf he,ih i' j hi' hj]
    by_cases h1:i' < i/\i' ≠ rank
    ·rw [jah h1,jah ⟨by omega,h1.2⟩]
    ·rw [jaf h1,jaf (by omega)]
theorem q2b {T0:Mat} {c rank:Nat} (h2:Two r ca cb a b) (h:Ech r (ca + cb) T0 (qaa ca cb a b) c rank) (hc:c < ca) :
  Two r ca cb (qcz r ca cb c (a,b,rank)).1 (qcz r ca cb c (a,b,rank)).2.1/\Ech r (ca + cb) T0 (qaa ca cb (qcz r ca cb c (a,b,rank)).1 (qcz r ca cb c (a,b,rank)).2.1) (c + 1) (qcz r ca cb c (a,b,rank)).2.2:=by
 unfold qcz
 simp only
 by_cases hr:r <= rank
 ·rw [jah hr]
  exact ⟨h2,qvM h (by omega) fun i (h1:rank <= i) h3=>by omega⟩
 rw [jaf hr]
 obtain ⟨p1,p2,p3,p4⟩:=qs1 a ca c (r - rank) rank
 by_cases hp:qcE a ca c rank (r - rank) = r
 ·rw [jah hp]
  refine ⟨h2,qvM h (by omega) fun i (h1:rank <= i) h3=>?_⟩
  rw [qdB hc,p4 i h1 (by omega)]; rfl
 rw [jaf hp]
 simp only
 generalize hpv:qcE a ca c rank (r - rank) = p at p1 p2 p3 p4 hp
 have hpr:p < r:=by omega
 have hnz:=p3 (by omega)
 have hmid:qfG r ca cb c (a,b,rank) = qgB ca cb rank c (qb5 ca cb rank p a b).1 (qb5 ca cb rank p a b).2:=by
  unfold qfG; simp only [hpv]
 -- the pivot's row is added
 have h1:Two r ca cb (qb5 ca cb rank p a b).1 (qb5 ca cb rank p a b).2/\Same r (ca + cb) (qaa ca cb a b) (qaa ca cb (qb5 ca cb rank p a b).1 (qb5 ca cb rank p a b).2) /\
   qaa ca cb (qb5 ca cb rank p a b).1 (qb5 ca cb rank p a b).2 rank c ≠ 0/\(∀ i j,i < r->j < ca + cb->i ≠ rank->qaa ca cb (qb5 ca cb rank p a b).1 (qb5 ca cb rank p a b).2 i j = qaa ca cb a b i j) /\
   ∀ c',c' < c->qaa ca cb (qb5 ca cb rank p a b).1 (qb5 ca cb rank p a b).2 rank c' = 0:=by
  have hpc:qaa ca cb a b p c ≠ 0:=by
   rw [qdB hc]
   intro h0
   exact hnz ((qex (qam h2.ba _)).1 h0)
  unfold qb5
  by_cases hpe:p = rank
  ·rw [jah hpe]
   exact ⟨h2,Same.refl,by rw [<- hpe]; exact hpc,fun _ _ _ _ _=>rfl,fun c' hc'=>h.low rank (ja4 _) (by omega) c' hc'⟩
  ·rw [jaf hpe]
   have hst:=fun i' j (hi':i' < r) (hj:j < ca + cb)=>qyC h2 (g:=1) ⟨by omega,by omega⟩ (show rank < r by omega) hpr hi' hj
   have h1:toF 1 = 1:=rfl
   refine ⟨h2.add,qtY (i:=rank) (p:=p) (g:=toF 1) (by omega) hpr (Ne.symm hpe) (fun j hj=>by simp only; rw [hst rank j (by omega) hj,jah rfl]) (fun a' ha' hne j hj=>by simp only; rw [hst a' j ha' hj,jaf hne]),?_,fun i j hi hj hne=>by simp only; rw [hst i j hi hj,jaf hne],fun c' hc'=>?_⟩
   ·simp only
    rw [hst rank c (by omega) (by omega),jah rfl,h1,qfY]
    rw [qdB hc (i:=rank),p4 rank (ja4 _) (by omega),qvF,qat]
    exact hpc
   ·simp only
    rw [hst rank c' (by omega) (by omega),jah rfl,h1,qfY,h.low rank (ja4 _) (by omega) c' hc',h.low p (by omega) hpr c' hc',qae]
 rw [hmid]
 generalize qb5 ca cb rank p a b = s1 at h1
 obtain ⟨t1,same1,nz1,oth1,low1⟩:=h1
 -- it is scaled
 have hgB:=q6h (qam t1.ba (rank * ca + c))
 have hgv:toF (qf6 (s1.1.getD (rank * ca + c) 0)) = qet (qaa ca cb s1.1 s1.2 rank c):=by rw [q5T (qam t1.ba _),qdB hc]
 have t2:Two r ca cb (qgB ca cb rank c s1.1 s1.2).1 (qgB ca cb rank c s1.1 s1.2).2:=t1.scale hgB
 have hsc:∀ i j,i < r->j < ca + cb->qaa ca cb (qgB ca cb rank c s1.1 s1.2).1 (qgB ca cb rank c s1.1 s1.2).2 i j = if i = rank then qg (qaa ca cb s1.1 s1.2 rank j) (qet (qaa ca cb s1.1 s1.2 rank c)) else qaa ca cb s1.1 s1.2 i j:=fun i j hi hj=>by
  rw [<- hgv]
  exact q3U t1 hgB (by omega) hi hj
 generalize qgB ca cb rank c s1.1 s1.2 = s2 at t2 hsc
 have same2:Same r (ca + cb) (qaa ca cb s1.1 s1.2) (qaa ca cb s2.1 s2.2):=q49 (i:=rank) (g:=qet (qaa ca cb s1.1 s1.2 rank c)) (by omega) (q7l nz1) (fun j hj=>by rw [hsc rank j (by omega) hj,jah rfl]) fun a' ha' hne j hj=>by rw [hsc a' j ha' hj,jaf hne]
 have one2:qaa ca cb s2.1 s2.2 rank c = 1:=by rw [hsc rank c (by omega) (by omega),jah rfl,qiK nz1]
 have low2:∀ c',c' < c->qaa ca cb s2.1 s2.2 rank c' = 0:=fun c' hc'=>by rw [hsc rank c' (by omega) (by omega),jah rfl,low1 c' hc',qB]
 have oth2:∀ i j,i < r->j < ca + cb->i ≠ rank->qaa ca cb s2.1 s2.2 i j = qaa ca cb a b i j:=fun i j hi hj hne=>by rw [hsc i j hi hj,jaf hne,oth1 i j hi hj hne]
 -- the others are cleared
 obtain ⟨r3,same3⟩:=qvq t2 (rank:=rank) (c:=c) (by omega) hc r (ja4 _)
 refine ⟨t2.rows r,q4C h (by omega) (by omega) ((same1.trans same2).trans same3) (fun i hi=>?_) fun c' hc' i hi=>?_⟩
 ·rw [r3 i c hi (by omega),one2,qbc]
  by_cases hir:i = rank
  ·rw [jaf (by omega),hir,one2,del,jah rfl]
  ·rw [jah ⟨hi,hir⟩,qa7,del,jaf hir]
 ·rw [r3 i c' hi (by omega),low2 c' hc',q9,qae]
  by_cases hir:i = rank
  ·rw [jaf (by omega),hir,low2 c' hc',h.low rank (ja4 _) (by omega) c' hc']
  ·rw [jah ⟨hi,hir⟩,oth2 i c' hi (by omega) hir]
theorem qvw (h:Two r ca cb a b):∀ c,c <= ca->Two r ca cb (qbQ r ca cb a b c).1 (qbQ r ca cb a b c).2.1/\Ech r (ca + cb) (qaa ca cb a b) (qaa ca cb (qbQ r ca cb a b c).1 (qbQ r ca cb a b c).2.1) c (qbQ r ca cb a b c).2.2
 | 0,_=>⟨h,q2T⟩
 | c + 1,hc=>by
  obtain ⟨h1,h2⟩:=qvw h c (by omega)
  rw [qbQ]
  exact q2b h1 h2 (by omega)
end Go.Proofs
namespace Go.Proofs
open Go Go.Eng
theorem q7r {d:qd} (h:qo (bI d)):qp d:=fun row hr=>h (qbr row 0) (jbl.2 ⟨row,hr,rfl⟩)
theorem qho {d:qd}:bytesOf d = (bI d).map fun x=>UInt8.ofNat x.toNat:=by
 simp only [bytesOf,bI,jdx]
 exact jbz fun r hr=>rfl
set_option maxRecDepth 20000
theorem qxq {k n t s:Int} {o:List Int} (h:o.length = 32):(qaI k n t s o).length = 39:=by simp [qaI,qaN,h]
theorem qzx:idC.ok Tryz.prog:=qA2 (by simp [q2K,qiO]) fun Z hg hp=>by
 obtain ⟨⟨hl,hO,hD⟩,hGr,hGd⟩:=hp
 simp (config:={ maxSteps:=2000000 }) [q9b,idC,qm2,qj4,qcG,qia,qdN,qaT,gOk,qq4,quL,qjL]
 refine ⟨⟨by omega,hl,hO,hD⟩,fun l _ c _ d _ hok hl2 hB hd=>?_⟩
 have hd:bI d.d = qaI (Z 0).i (Z 1).i (Z 2).i (Z 3).i (qf (Z 4).d 32) ++ (dgs (Z 8).d).flatten:=hd
 have hb:=hok
 simp [qz,qaP] at hb
 have hlen:=congrArg List.length hd
 rw [jal,qc3 q93,qq7,bI_len,qxq qde] at hlen
 refine fun hc=>⟨⟨⟨by omega,by omega,by omega,by omega,hB⟩,hGr,hGd⟩,fun x _ hx=>⟨hok,?_⟩⟩
 have hx:qf x.d 32 = sha (qaI (Z 0).i (Z 1).i (Z 2).i (Z 3).i (qf (Z 4).d 32) ++ (dgs (Z 8).d).flatten):=by
  rw [hx,qbT,hd.symm]
  simp only [jdh,jdv]
  rw [jar (by rw [bI_len]; omega)]
 exact hx
set_option maxRecDepth 100000
def qvb:Out:=(fr 18 2 (.pre 0 (sg 0 [bv 9 9,bv 8 8,bv 7 7,bv 6 6,bg 5 5,bv 3 3,bv 2 2,bv 1 1,bv 0 0,bt 4 (r8 4)]) (.both (.fresh 20 (.post 0 0 (sg 0 [bv 9 9,bv 8 8,bv 7 7,bv 6 6,bg 5 5,bv 3 3,bv 2 2,bv 1 1,bv 0 0,bt 4 (r8 4)]) 20 (.br (.cmp .neq (tv 20) (tl 0))
 (.ret 0 (sg 18 [bv 18 20]))
 (.br (.cmp .lss (tv 10) (tl 0))
 (.ret 0 (sg 18 [bt 18 (tl 2)]))
 (.br (.cmp .geq (tv 10) (tv 2))
 (.ret 0 (sg 18 [bt 18 (tl 2)]))
 (.pre 1 (sg 0 [bv 1 3,bv 0 0]) (.both (fr 21 2 (.post 1 0 (sg 0 [bv 1 3,bv 0 0]) 21 (.need (.cmp .leq (tl 0) (tv 12)) (.br (.cmp .neq (tv 12) (tv 21))
 (.ret 0 (sg 18 [bt 18 (tl 10)]))
 (.need (.cmp .leq (tl 0) (tv 10)) (.need (.cmp .lss (tv 10) (tv 6)) (.need (.cmp .lss (tv 10) (.dlen (tv 8))) (.both (.pre 2 (sg 0 [bv 8 17,bv 6 15,bv 5 14,bv 4 13,bv 3 12,bt 2 (tl 0),bg 1 11,bv 0 10,bg 7 16]) (.both (.fresh 23 (.post 2 0 (sg 0 [bv 8 17,bv 6 15,bv 5 14,bv 4 13,bv 3 12,bt 2 (tl 0),bg 1 11,bv 0 10,bg 7 16]) 23 (.br (.not (.c2 .req (r8 23) (.rcons (i8 8 10 0) (.rcons (i8 8 10 1) (.rcons (i8 8 10 2) (.rcons (i8 8 10 3) (.rcons (i8 8 10 4) (.rcons (i8 8 10 5) (.rcons (i8 8 10 6) (.rcons (i8 8 10 7) (.rcons (i8 8 10 8) (.rcons (i8 8 10 9) (.rcons (i8 8 10 10) (.rcons (i8 8 10 11) (.rcons (i8 8 10 12) (.rcons (i8 8 10 13) (.rcons (i8 8 10 14) (.rcons (i8 8 10 15) (.rcons (i8 8 10 16) (.rcons (i8 8 10 17) (.rcons (i8 8 10 18) (.rcons (i8 8 10 19) (.rcons (i8 8 10 20) (.rcons (i8 8 10 21) (.rcons (i8 8 10 22) (.rcons (i8 8 10 23) (.rcons (i8 8 10 24) (.rcons (i8 8 10 25) (.rcons (i8 8 10 26) (.rcons (i8 8 10 27) (.rcons (i8 8 10 28) (.rcons (i8 8 10 29) (.rcons (i8 8 10 30) (.rcons (i8 8 10 31) .rnil))))))))))))))))))))))))))))))))))
 (.ret 0 (sg 18 [bt 18 (tl 20)]))
 (.ret 0 (sg 18 [bt 18 (tl 0)]))))) .top)) .top)))))))) .top))))))) .top)))
theorem q3z:qn Tryz.prog qfV [qcI,qcY,qdg] [] qvb:=qh Tryz.func60 Tryz.call60 (by kernel_rfl)
set_option maxRecDepth 20000
theorem q63 {k n t s l i:Int} {D:List (List Int)} {m:List Int} (h:qz k n t s l = false):2 = qbO k n t s l D i m:=by rw [qbO,jah h]
theorem qvG {k n t s l i:Int} {D:List (List Int)} {m:List Int} (h:qz k n t s l = true) (hi:i < 0∨t <= i):2 = qbO k n t s l D i m:=by rw [qbO,jaf (by rw [h]; decide),jah hi]
theorem q5P {k n t s l i:Int} {D:List (List Int)} {m:List Int} (h:qz k n t s l = true) (h0:0 <= i) (h1:i < t) (hl:(m.length:Int) ≠ qd0 k s):10 = qbO k n t s l D i m:=by rw [qbO,jaf (by rw [h]; decide),jaf (by omega),jah hl]
theorem q4Z {k n t s l i:Int} {D:List (List Int)} {m:List Int} (h:qz k n t s l = true) (h0:0 <= i) (h1:i < t) (hl:(m.length:Int) = qd0 k s) (hs:sha (qaS i ++ m) ≠ D.getD i.toNat []):20 = qbO k n t s l D i m:=by rw [qbO,jaf (by rw [h]; decide),jaf (by omega),jaf (fun h=>h hl),jah hs]
theorem q8B {k n t s l i:Int} {D:List (List Int)} {m:List Int} (h:qz k n t s l = true) (h0:0 <= i) (h1:i < t) (hl:(m.length:Int) = qd0 k s) (hs:sha (qaS i ++ m) = D.getD i.toNat []):0 = qbO k n t s l D i m:=by rw [qbO,jaf (by rw [h]; decide),jaf (by omega),jaf (fun h=>h hl),jaf (fun h=>h hs)]
theorem qzy {k n t s l:Int} (h:qz k n t s l = true):¬ qcX k s:=by
 simp [qz,qaP] at h
 unfold qcX; omega
set_option maxHeartbeats 1000000 in
theorem qst:qfV.ok Tryz.prog:=q3z (by simp [qi9,qkT,qlf]) fun Z hg hp=>by
 obtain ⟨⟨i0,i3,hl,hD,hpl,hpc,hp1,hB⟩,hGr,hGd⟩:=hp
 simp only [Nat.reduceAdd] at hpl hpc hp1 hB
 simp (config:={ maxSteps:=4000000,contextual:=true }) [qvb,qfV,qmK,qcI,qcY,qdg,qia,qdN,qaT,gOk,hGr,hGd,hB,hD,hl,hpl]
 refine fun u _ hu=>⟨q63,fun hok=>⟨fun h0=>qvG hok (.inl h0),fun h0=>⟨fun ht=>qvG hok (.inr ht),fun ht l _ e _ _ hgood=>?_⟩⟩⟩
 have hlen:=(hgood (qzy hok)).1
 have hml:(bI (Z 14).d).length = (Z 14).d.length:=bI_len
 have htl:(Z 2).i = (Z 8).d.length:=by simp [qz] at hok; omega
 have hrow:qmZ (Z 8).d (Z 10).i = (dgs (Z 8).d).getD (Z 10).i.toNat []:=qsh h0 (by omega)
 refine ⟨fun hne=>q5P hok h0 ht (by rw [hml,qd0,<- hlen]; exact hne),fun heq=>⟨by omega,⟨by omega,by omega,by omega⟩,fun x _ hx=>?_⟩⟩
 rw [qhY heq.symm,hrow]
 exact ⟨fun hn=>q4Z hok h0 ht (by rw [hml,qd0,<- hlen]; exact heq) hn,fun he=>q8B hok h0 ht (by rw [hml,qd0,<- hlen]; exact heq) he⟩
set_option maxRecDepth 100000
theorem qft {k n:Nat} (hk:0 < k):n <= k * ql k n:=by
 unfold ql
 have h1:=jdd (n + k - 1) k
 have h2:=jd4 (n + k - 1) hk
 omega
theorem q2l {n:Nat}:(qa3 n n).length = n * n:=by simp [qa3]
theorem q3g {n i:Nat} (hi:i < n * n):(qa3 n n).getD i 0 = if i / n = i % n then 1 else 0:=by
 have hn:0 < n:=by
  cases n with
  | zero=>simp at hi
  | succ n=>omega
 rw [jab,qa3,jan,jbj hi]
 simp only [jaw,ja0]
 have:i / n < n:=jee hi
 by_cases h:i / n = i % n
 ·rw [jah ⟨h,this⟩,jah h]
 ·rw [jaf (fun hh=>h hh.1),jaf h]
theorem qjn {i n j:Nat} (hj:j < n):(i * n + j) / n = i/\(i * n + j) % n = j:=by
 have hn:0 < n:=by omega
 constructor
 ·rw [jce,je9 hn,je4 hj,jci]
 ·rw [jce,jfa,jdi hj]
theorem qxa {n:Nat}:qo (qa3 n n):=fun x hx=>by
 simp only [qa3,jbl] at hx
 obtain ⟨i,_,rfl⟩:=hx
 split <;> exact ⟨by omega,by omega⟩
theorem qrI {n i j:Nat} (hi:i < n) (hj:j < n):q7 n (qa3 n n) i j = del i j:=by
 obtain ⟨h1,h2⟩:=qjn (i:=i) hj
 rw [q7,q3g (qeT hi hj),h1,h2,del]
 split <;> rfl
theorem q1e {r c:Nat}:(qbu r c).length = r * c:=by simp [qbu,qcc]
theorem q1l {r c i j:Nat} (hi:i < r) (hj:j < c):(qbu r c).getD (i * c + j) 0 = qgS (i:Int) (j:Int):=by
 obtain ⟨h1,h2⟩:=qjn (i:=i) hj
 have hlt:=qeT hi hj
 rw [jab,qbu,qcc,jan,jbj hlt]
 simp only [jaw,ja0]
 rw [jah hlt,qmG,h1,h2]
def xsF (m:Nat):F:=toF (m:Int)
theorem qo6 {r c i j:Nat} (hr:r <= 256) (hi:i < r) (hj:j < c) (hc:c < 9223372036854775808):q7 c (qbu r c) i j = qaG (xsF i) j:=by
 rw [q7,q1l hi hj,q3I ⟨by omega,by omega⟩ (by omega),qjA,jav]; rfl
theorem ql3 {r c:Nat} (hr:r <= 256) (hc:c < 9223372036854775808):qo (qbu r c):=fun x hx=>by
 simp only [qbu,qcc,jbl,jb8] at hx
 obtain ⟨i,hi,rfl⟩:=hx
 rw [jah hi]
 have hc0:0 < c:=by
  cases c with
  | zero=>simp at hi
  | succ c=>omega
 have h1:i / c < r:=jee (by rwa [jce] at hi)
 have h2:=jd4 i hc0
 have h3:((i / c:Nat):Int) < 256:=by omega
 exact q5R ⟨Int.natCast_nonneg _,h3⟩ (by omega)
theorem qc1 {n:Nat} (hn:n <= 256):qbz n xsF:=fun i j hi hj h=>by
 have:=qjE (x:=(i:Int)) (y:=(j:Int)) ⟨by omega,by omega⟩ ⟨by omega,by omega⟩ h
 omega
theorem q1a {l:List Int} {n:Nat} (h:qo l):qo (l.take n):=fun x hx=>h x (jbv hx)
theorem q5h {l:List Int} {n c i j:Nat} (hi:i < n) (hj:j < c):q7 c (l.take (n * c)) i j = q7 c l i j:=by
 have hlt:=qeT hi hj
 rw [q7,q7,jab,jab,jbf,jah hlt]
theorem qi5 {ca cb:Nat} {a b:List Int} {i j:Nat}:qaa ca cb a b i (ca + j) = q7 cb b i j:=by
 rw [qaa,jaf (by omega),show ca + j - ca = j by omega]
theorem qqA {n:Nat} {a A B:List Int} (h:Ech n (n + n) (qaa n n a (qa3 n n)) (qaa n n A B) n n) :
  (∀ i j,i < n->j < n->q6 (fun l=>qg (q7 n B i l) (q7 n a l j)) n = del i j)/\∀ i j,i < n->j < n->q6 (fun l=>qg (q7 n a i l) (q7 n B l j)) n = del i j:=by
 refine ⟨fun i j hi hj=>?_,fun i j hi hj=>?_⟩
 ·obtain ⟨x,hx⟩:=h.same.to i hi
  have hxB:∀ l,l < n->x l = q7 n B i l:=fun l hl=>by
   have h1:=hx (n + l) (by omega)
   rw [qi5,qj fun m hm=>by rw [qi5,qrI hm hl],qgK (f:=x) hl] at h1
   exact h1.symm
  have h2:=hx j (by omega)
  rw [qt7 h i hi j hj,qj fun m hm=>by rw [hxB m hm,qdB hj]] at h2
  exact h2.symm
 ·obtain ⟨x,hx⟩:=h.same.back i hi
  have hxa:∀ l,l < n->x l = q7 n a i l:=fun l hl=>by
   have h1:=hx l (by omega)
   rw [qdB hl,qj fun m hm=>by rw [qt7 h m hm l hl],qgK (f:=x) hl] at h1
   exact h1.symm
  have h2:=hx (n + j) (by omega)
  rw [qi5,qrI hi hj,qj fun m hm=>by rw [hxa m hm,qi5]] at h2
  exact h2.symm
theorem q1B {n:Nat} {m:List Int} (hl:m.length = n * n) (hb:qo m):Two n n n m (qa3 n n):=⟨hl,q2l,hb,qxa⟩
theorem qmO {n:Nat} {m:List Int} (hl:m.length = n * n) (hb:qo m):Two n n n (qdM m n).1 (qdM m n).2.1/\Ech n (n + n) (qaa n n m (qa3 n n)) (qaa n n (qdM m n).1 (qdM m n).2.1) n (qdM m n).2.2 :=
 qvw (q1B hl hb) n (ja4 _)
theorem qtQ {n:Nat} {m:List Int} (hl:m.length = n * n) (hb:qo m) (h:∀ y:Nat->F,(∀ i,i < n->q6 (fun j=>qg (q7 n m i j) (y j)) n = 0)->∀ j,j < n->y j = 0):(qdM m n).2.2 = n:=by
 obtain ⟨_,he⟩:=qmO hl hb
 refine Classical.byContradiction fun hne=>?_
 have hlt:(qdM m n).2.2 < n:=by have:=he.le; omega
 obtain ⟨y,⟨c,hc,hyc⟩,hy⟩:=q5L he (by omega) hlt
 exact hyc (h y (fun i hi=>by rw [<- hy i hi]; exact qj fun j hj=>by rw [qdB hj]; rfl) c hc)
theorem qyP {k total:Nat} (h:k <= total):((qbu total k).take (k * k)).length = k * k:=by
 rw [jba,q1e]
 exact jcg (jbk k h)
theorem qyr {k total i j:Nat} (hk:k <= total) (ht:total <= 255) (hi:i < k) (hj:j < k):q7 k ((qbu total k).take (k * k)) i j = qaG (xsF i) j:=by
 rw [q5h hi hj,qo6 (by omega) (by omega) hj (by omega)]
theorem qsn {k total:Nat} (hk:k <= total) (ht:total <= 255):qo ((qbu total k).take (k * k)):=q1a (ql3 (by omega) (by omega))
theorem qod {k total:Nat} (hk:k <= total) (ht:total <= 255):(qbN k total).2.2 = k :=
 qtQ (qyP hk) (qsn hk ht) fun y hy=>qpW (qc1 (by omega)) fun i hi=>by
  rw [<- hy i hi]
  exact qj fun j hj=>by rw [qyr hk ht hi hj]
theorem qyl {k total:Nat} (hk:k <= total) (ht:total <= 255):Two k k k (qbN k total).1 (qbN k total).2.1/\Ech k (k + k) (qaa k k ((qbu total k).take (k * k)) (qa3 k k)) (qaa k k (qbN k total).1 (qbN k total).2.1) k k:=by
 have h:=qmO (qyP hk) (qsn hk ht)
 have hr:=qod hk ht
 unfold qbN at hr ⊢
 rw [hr] at h
 exact h
theorem qnt {a b:List Int} {ra ca cb:Nat} (hb:b.length = ca * cb) (ha:qo a) (hbb:qo b) (hca:0 < ca):∀ t,t <= ra * ca->(qcg a b ra ca cb t).length = ra * cb/\qo (qcg a b ra ca cb t) /\
  ∀ i j,i < ra->j < cb->q7 cb (qcg a b ra ca cb t) i j = q6 (fun l=>if i * ca + l < t then qg (q7 ca a i l) (q7 cb b l j) else 0) ca
 | 0,_=>⟨by simp [qcg],fun x hx=>by rw [qcg] at hx; rw [jc1 hx]; exact ⟨by omega,by omega⟩,fun i j hi hj=>by
   rw [qct fun l _=>jaf (by omega),q7,qcg,jab,jbg,jah (qeT hi hj)]; rfl⟩
 | t + 1,ht=>by
  obtain ⟨h1,h2,h3⟩:=qnt (ra:=ra) hb ha hbb hca t (by omega)
  have hti:t / ca < ra:=jee (by rw [jce]; omega)
  have htl:=jd4 t hca
  have htd:=jdd t ca
  rw [qcg]
  refine ⟨by rw [qb7,h1],qdC h2,fun i j hi hj=>?_⟩
  have hlt:=qeT hi hj
  have hsl:(seg b (t % ca * cb) cb).length = cb:=qdm (by rw [hb]; exact qjJ htl)
  have hL:q7 cb (qE (qcg a b ra ca cb t) (t / ca * cb) (seg b (t % ca * cb) cb) (a.getD t 0)) i j = if i = t / ca then q7 cb (qcg a b ra ca cb t) i j ^^^ qg (toF (a.getD t 0)) (q7 cb b (t % ca) j) else q7 cb (qcg a b ra ca cb t) i j:=by
   unfold q7
   rw [jab,qb9,jac (by omega),jaw,ja0,hsl]
   by_cases he:i = t / ca
   ·subst he
    rw [jah ⟨by omega,by omega⟩,jah rfl,show t / ca * cb + j - t / ca * cb = j by omega]
    have hs:(seg b (t % ca * cb) cb).getD j 0 = b.getD (t % ca * cb + j) 0:=by
     rw [jab,qdZ,jah hj,jab]
    rw [hs,qke,qhT (qam ha _) (qam hbb _),jab (l:=qcg a b ra ca cb t),jac (by omega),ja0]
   ·rw [jaf (fun h=>he ((quT hj).1 h)),jaf he,jab,jac (by omega),ja0]
  rw [hL,h3 i j hi hj]
  by_cases he:i = t / ca
  ·have hit:i * ca + t % ca = t:=by rw [he,jce]; exact htd
   rw [jah he]
   have hat:toF (a.getD t 0) = q7 ca a i (t % ca):=by rw [q7,hit]
   have h4:qg (toF (a.getD t 0)) (q7 cb b (t % ca) j) = q6 (fun l=>if l = t % ca then qg (q7 ca a i l) (q7 cb b l j) else 0) ca:=by
    rw [qfJ htl fun l _ hl=>jaf hl,jah rfl,hat]
   rw [h4,<- qgc]
   refine qj fun l hl=>?_
   by_cases hlt:l = t % ca
   ·subst hlt; rw [jaf (by omega),jah rfl,jah (by omega),qat]
   ·rw [jaf hlt,qae]
    by_cases h5:i * ca + l < t
    ·rw [jah h5,jah (by omega)]
    ·rw [jaf h5,jaf (by omega)]
  ·rw [jaf he]
   refine qj fun l hl=>?_
   have hne:i * ca + l ≠ t:=fun h=>he (by rw [<- h]; exact (qjn hl).1.symm)
   by_cases h5:i * ca + l < t
   ·rw [jah h5,jah (by omega)]
   ·rw [jaf h5,jaf (by omega)]
theorem q18 {a b:List Int} {ra ca cb:Nat} (hb:b.length = ca * cb) (ha:qo a) (hbb:qo b) (hca:0 < ca):(qmV a b ra ca cb).length = ra * cb/\qo (qmV a b ra ca cb) /\
  ∀ i j,i < ra->j < cb->q7 cb (qmV a b ra ca cb) i j = q6 (fun l=>qg (q7 ca a i l) (q7 cb b l j)) ca:=by
 obtain ⟨h1,h2,h3⟩:=qnt (ra:=ra) hb ha hbb hca (ra * ca) (ja4 _)
 refine ⟨h1,h2,fun i j hi hj=>?_⟩
 rw [qmV,h3 i j hi hj]
 exact qj fun l hl=>jah (qeT hi hl)
theorem qck {k total:Nat} (h1:1 <= k) (hk:k <= total) (ht:total <= 255):(qbm k total).length = total * k/\qo (qbm k total) /\
  (∀ i j,i < total->j < k->q7 k (qbm k total) i j = q6 (fun l=>qg (qaG (xsF i) l) (q7 k (qbN k total).2.1 l j)) k) /\
  ∀ i j,i < total->j < k->q7 k (qbm k total) i j = qcN k xsF (xsF i) j:=by
 obtain ⟨t2,he⟩:=qyl hk ht
 obtain ⟨p1,p2,p3⟩:=q18 (ra:=total) t2.lb (ql3 (r:=total) (c:=k) (by omega) (by omega)) t2.bb (by omega)
 have hg:∀ i j,i < total->j < k->q7 k (qbm k total) i j = q6 (fun l=>qg (qaG (xsF i) l) (q7 k (qbN k total).2.1 l j)) k:=fun i j hi hj=>by
  rw [qbm,p3 i j hi hj]
  exact qj fun l hl=>by rw [qo6 (by omega) hi hl (by omega)]
 refine ⟨p1,p2,hg,fun i j hi hj=>?_⟩
 obtain ⟨_,m2⟩:=qqA he
 have hp:∀ x,qA k (fun l=>q7 k (qbN k total).2.1 l j) x = q6 (fun l=>qg (qaG x l) (q7 k (qbN k total).2.1 l j)) k:=fun x=>qj fun l _=>qaf
 rw [hg i j hi hj,<- hp,qik (qc1 (n:=k) (by omega))]
 rw [qj (g:=fun m=>qg (qcN k xsF (xsF i) m) (del m j)) fun m hm=>?_,qgK hj]
 rw [hp,<- m2 m j hm hj]
 congr 1
 exact qj fun l hl=>by rw [qyr hk ht hm hl]
theorem q7g {k total:Nat} (h1:1 <= k) (hk:k <= total) (ht:total <= 255) {i j:Nat} (hi:i < k) (hj:j < k):q7 k (qbm k total) i j = del i j:=by
 rw [(qck h1 hk ht).2.2.2 i j (by omega) hj,qzn (qc1 (by omega)) hj hi,del,del]
 by_cases h:i = j
 ·rw [jah h,jah h.symm]
 ·rw [jaf h,jaf (Ne.symm h)]
theorem qlJ {g full:List Int} {k l i:Nat} (hg:qo g) (hf:qo full) (hl:full.length = k * l):∀ j,j <= k->(qbG g full k l i j).length = l/\qo (qbG g full k l i j) /\
  ∀ c,c < l->toF ((qbG g full k l i j).getD c 0) = q6 (fun m=>qg (q7 k g i m) (toF (full.getD (m * l + c) 0))) j
 | 0,_=>⟨by simp [qbG],fun x hx=>by rw [qbG] at hx; rw [jc1 hx]; exact ⟨by omega,by omega⟩,fun c hc=>by
   rw [qbG,jab,jbg,jah hc]; rfl⟩
 | j + 1,hj=>by
  obtain ⟨h1,h2,h3⟩:=qlJ hg hf hl (i:=i) j (by omega)
  have hsl:(seg full (j * l) l).length = l:=qdm (by rw [hl]; exact qjJ (by omega))
  rw [qbG]
  refine ⟨by rw [qb7,h1],qdC h2,fun c hc=>?_⟩
  rw [jab,qb9,jac (by omega),jaw,ja0,hsl,jah ⟨by omega,by omega⟩,jeb]
  have hs:(seg full (j * l) l).getD c 0 = full.getD (j * l + c) 0:=by
   rw [jab,qdZ,jah hc,jab]
  rw [hs,qke,qhT (qam hg _) (qam hf _),q6,<- h3 c hc,jab (l:=qbG g full k l i j),jac (by omega),ja0]
  rfl
theorem qhl {data:List Int} {n:Nat} (hb:qo data) (hn:data.length <= n):(qd1 data n).length = n/\qo (qd1 data n):=by
 refine ⟨by simp [qd1]; omega,fun x hx=>?_⟩
 rcases jat.1 hx with hx | hx
 ·exact hb x hx
 ·rw [jc1 hx]; exact ⟨by omega,by omega⟩
theorem qtZ {data:List Int} {n i:Nat}:(qd1 data n).getD i 0 = data.getD i 0:=by
 rw [jab,jab,qd1]
 by_cases h:i < data.length
 ·rw [jau h]
 ·rw [jao (by omega),jas (l:=data) (by omega),jbg]
  split <;> rfl
theorem qbC {k total:Nat} {data:List Int} (h1:1 <= k) (hk:k <= total) (ht:total <= 255) (hb:qo data) (i:Nat):(qag k total data i).length = ql k data.length/\qo (qag k total data i) /\
  ∀ c,c < ql k data.length->toF ((qag k total data i).getD c 0) = q6 (fun m=>qg (q7 k (qbm k total) i m) (toF (data.getD (m * ql k data.length + c) 0))) k:=by
 obtain ⟨g1,g2,_,_⟩:=qck h1 hk ht
 obtain ⟨f1,f2⟩:=qhl hb (n:=k * ql k data.length) (qft (by omega))
 obtain ⟨p1,p2,p3⟩:=qlJ (i:=i) g2 f2 f1 k (ja4 _)
 refine ⟨p1,p2,fun c hc=>?_⟩
 rw [qag,p3 c hc]
 exact qj fun m _=>by rw [qtZ]
theorem q85 {k total:Nat} {data:List Int} (h1:1 <= k) (hk:k <= total) (ht:total <= 255) (hb:qo data) {i:Nat} (hi:i < k) {c:Nat} (hc:c < ql k data.length) :
  (qag k total data i).getD c 0 = data.getD (i * ql k data.length + c) 0:=by
 obtain ⟨_,p2,p3⟩:=qbC h1 hk ht hb i
 refine qjE (qam p2 _) (qam hb _) ?_
 rw [p3 c hc,qj fun m hm=>by rw [q7g h1 hk ht hi hm]]
 rw [qfJ hi fun m hm hne=>by rw [del,jaf (Ne.symm hne),qB],del,jah rfl,qfY]
end Go.Proofs
set_option maxRecDepth 100000
namespace Go.Proofs
open Go Go.Eng
theorem qe6 {a b:List Int} (hl:a.length = b.length) (h:∀ i,i < a.length->a.getD i 0 = b.getD i 0):a = b:=by
 apply jdw hl
 intro i h1 h2
 have:=h i h1
 rwa [jab,jac h1,jab,jac h2] at this
theorem qrr {Z Z':Env} {nv m:Nat} (hag:∀ n,n < nv->Z' n = Z n) (h:nv <= m):∀ n,n < nv->(Z'.upto m) n = Z n:=fun n hn=>by
 rw [Env.upto,jah (by omega)]
 exact hag n hn
end Go.Proofs
namespace Go.Eng
open Go Go.Proofs
def qAT:SV:=qnS 0 1 2 3 4
def iI (d:qd):List Int:=d.map fun r=>qbr r 0
def qcF (m:List Int) (cols:Nat) (rs:List Int):List Int:=rs.flatMap fun r=>seg m (r.toNat * cols) cols
def qlr (r c l:Int) (n rows:Int) (rs:List Int):Prop:=¬ qaB r c l∨n = 0∨255 < n∨∃ x ∈ rs,x < 0∨rows <= x
def qhV:Ctr:={ fn := 133,nv:=12,args:=[qAT,.one (.vslice 7 (.lit 0) (.var 8) (.var 9) 1)],heap:=[],ro:=[bHp 2 5 6,iHp 7 10 11],pre:=fun Z=>0 <= (Z 3).i/\(Z 3).i <= (Z 4).i/\(Z 3).i <= (Z 5).d.length/\qp (Z 5).d/\0 <= (Z 8).i/\(Z 8).i = (Z 10).d.length,alts:=[
 { k:=0,ret:=.tup [qoa,qbb (.lit 2)],heap:=[],post:=fun Z=>qlr (Z 0).i (Z 1).i (Z 3).i (Z 8).i (Z 0).i (iI (Z 10).d) },
 { k:=4,ret:=.tup [qoo (.var 8) (.var 1) 12 13 14,qbb (.lit 0)],heap:=[bHp 12 15 14],post:=fun Z=>¬ qlr (Z 0).i (Z 1).i (Z 3).i (Z 8).i (Z 0).i (iI (Z 10).d)/\qd3 (Z 8).i (Z 1).i (Z 13).i (Z 14).i (Z 15).d/\(Z 13).i = (Z 15).d.length/\bI (Z 15).d = qcF (bI (Z 5).d) (Z 1).i.toNat (iI (Z 10).d) }] }
def qtf (r c l n:Int):Prop:=qaB r c l/\1 <= n/\n <= 255
def q2y:Inv:={ key:=4,nv:=3,env:=[(1,.one (.vslice 7 (.lit 0) (.var 8) (.var 9) 1)),(2,.one (.vptr 1001 (.lit 0) 3 0)),(4,.one (.vptr 1002 (.lit 0) 3 0)),(25,.one (.vslice 7 (.lit 0) (.var 8) (.var 9) 1)),(26,iv .i64 (.var 8)),(27,iv .i64 (.var 1000))],heap:=[q0H 1002,qio 1001 0 1 2 3 4],inv:=(fun Z=>qtf (Z 0).i (Z 1).i (Z 3).i (Z 8).i/\0 <= (Z 1000).i/\(Z 1000).i <= (Z 8).i/\∀ x ∈ (iI (Z 10).d).take (Z 1000).i.toNat,0 <= x/\x < (Z 0).i),mu:=(fun Z=>((Z 8).i - (Z 1000).i).toNat) }
def q3e:Inv:={ key:=11,nv:=8,env:=[(2,.one (.vptr 1001 (.lit 0) 3 0)),(4,.one (.vptr 1002 (.lit 0) 3 0)),(8,.one (.vptr 1007 (.lit 0) 3 0)),(46,.one (.vslice 7 (.lit 0) (.var 8) (.var 9) 1)),(47,iv .i64 (.var 8)),(48,iv .i64 (.var 1000))],heap:=[q0H 1002,qio 1001 0 1 2 3 4,qio 1007 8 1 1003 1004 1005,bHp 1003 1006 1005],inv:=(fun Z=>qtf (Z 0).i (Z 1).i (Z 3).i (Z 8).i/\0 <= (Z 1000).i/\(Z 1000).i <= (Z 8).i/\(∀ x ∈ iI (Z 10).d,0 <= x/\x < (Z 0).i)/\qd3 (Z 8).i (Z 1).i (Z 1004).i (Z 1005).i (Z 1006).d/\(Z 1004).i = (Z 1006).d.length/\(bI (Z 1006).d).take ((Z 1000).i * (Z 1).i).toNat = qcF (bI (Z 5).d) (Z 1).i.toNat ((iI (Z 10).d).take (Z 1000).i.toNat)),mu:=(fun Z=>((Z 8).i - (Z 1000).i).toNat) }
def qfo (n:Nat):List Int:=(List.range n).map fun (m:Nat)=>(m:Int)
def qdw (xs:List Int) (x:Int):List Int:=(List.range xs.length).map fun i=>ofF (qcN xs.length (fun m=>toF (xs.getD m 0)) (toF x) i)
end Go.Eng
namespace Go.Proofs
open Go Go.Eng
def qyK:Out:=(fr 12 2 (.pre 0 (sg 0 [bv 6 6,bv 5 5,bv 4 4,bv 3 3,bg 2 2,bv 1 1,bv 0 0]) (.both (.fresh 14 (.post 0 0 (sg 0 [bv 6 6,bv 5 5,bv 4 4,bv 3 3,bg 2 2,bv 1 1,bv 0 0]) 14 (.br (.not (tv 14))
 (.ret 0 (sg 12 []))
 (.need (.cmp .leq (tl 0) (tv 8)) (.br (.cmp .eql (tv 8) (tl 0))
 (.ret 0 (sg 12 []))
 (.br (.cmp .gtr (tv 8) (tl 255))
 (.ret 0 (sg 12 []))
 (.inv 0 15 (sg 1000 [bt 1000 (tl 0),bg 1002 13,bg 1001 12]) (fr 15 3 (.hyp 0 15 (.br (.cmp .lss (tv 15) (tv 8))
 (.need (.cmp .leq (tl 0) (tv 15)) (.need (.cmp .lss (tv 15) (.dlen (tv 10))) (.br (.cmp .lss (.icell (tv 10) (tv 15) 0) (tl 0))
 (.ret 0 (sg 12 []))
 (.br (.cmp .geq (.icell (tv 10) (tv 15) 0) (tv 0))
 (.ret 0 (sg 12 []))
 (.back 0 15 (sg 1000 [bt 1000 (.arith .add .i64 (tv 15) (tl 1)),bg 1002 17,bg 1001 16]))))))
 (.pre 1 (sg 0 [bv 1 1,bv 0 8]) (.both (fr 18 4 (.post 1 0 (sg 0 [bv 1 1,bv 0 8]) 18 (.fresh 22 (.inv 1 23 (sg 1000 [bv 1006 21,bv 1005 20,bv 1004 19,bg 1003 18,bt 1000 (tl 0),bg 1007 22,bg 1002 17,bg 1001 16]) (fr 23 8 (.hyp 1 23 (.br (.cmp .lss (tv 23) (tv 8))
 (.need (.cmp .leq (tl 0) (tv 23)) (.need (.cmp .lss (tv 23) (.dlen (tv 10))) (.both (.pre 2 (sg 0 [bv 6 28,bv 5 29,bv 7 23,bv 4 28,bv 3 27,bg 2 26,bv 1 1,bv 0 8]) (.both (fr 31 3 (.post 2 0 (sg 0 [bv 6 28,bv 5 29,bv 7 23,bv 4 28,bv 3 27,bg 2 26,bv 1 1,bv 0 8]) 31 (.both (.pre 2 (sg 0 [bv 6 6,bv 5 5,bt 7 (.icell (tv 10) (tv 23) 0),bv 4 4,bv 3 3,bg 2 2,bv 1 1,bv 0 0]) (.both (fr 34 3 (.post 2 0 (sg 0 [bv 6 6,bv 5 5,bt 7 (.icell (tv 10) (tv 23) 0),bv 4 4,bv 3 3,bg 2 2,bv 1 1,bv 0 0]) 34 (.both (.need (.cmp .leq (tl 0) (tv 31)) (.need (.cmp .leq (tl 0) (tv 32)) (.need (.cmp .leq (.plus (tv 31) (tv 32)) (.dlen (tv 29))) (.need (.cmp .leq (tl 0) (tv 34)) (.need (.cmp .leq (tl 0) (tv 35)) (.need (.cmp .leq (.plus (tv 34) (tv 35)) (.dlen (tv 5))) (.fresh 37 (.back 1 23 (sg 1000 [bt 1006 (.c3 .dsplice (tv 29) (tv 31) (.dtake (.dtake (.ddrop (tv 5) (tv 34)) (tv 35)) (.imin (tv 32) (tv 35)))),bv 1005 28,bv 1004 27,bg 1003 26,bt 1000 (.arith .add .i64 (tv 23) (tl 1)),bg 1007 30,bg 1002 25,bg 1001 24]))))))))) .top))) .top)) .top))) .top)) .top)))
 (.ret 1 (sg 12 [bv 15 29,bv 14 28,bv 13 27,bg 12 26]))))))))) .top)))))))))))) .top)))
theorem q60:qn Tryz.prog qhV [qdd,qcH,qcd] [q2y,q3e] qyK:=qh Tryz.func133 Tryz.call133 (by kernel_rfl)
theorem qpv {l:List Int} {n:Nat} (h:n < l.length):l.take (n + 1) = l.take n ++ [l.getD n 0]:=by
 rw [jeu,jab,jac h]; rfl
theorem quV {d:qd}:(iI d).length = d.length:=by simp [iI]
theorem qjI {d:qd} {i:Int} (h0:0 <= i) (h1:i < d.length):(iI d).getD i.toNat 0 = qb d i 0:=by
 have hl:i.toNat < d.length:=by omega
 simp [iI,qb,qF,qbr,jab,jac hl]
theorem q37 {m:List Int} {c:Nat} {rs:List Int} {n:Nat} (h:n < rs.length):qcF m c (rs.take (n + 1)) = qcF m c (rs.take n) ++ seg m ((rs.getD n 0).toNat * c) c:=by
 rw [qpv h,qcF,List.flatMap_append]; simp [qcF]
theorem quU {m:List Int} {c r:Nat} (hm:r * c <= m.length):∀ {rs:List Int},(∀ x ∈ rs,0 <= x/\x < (r:Int))->(qcF m c rs).length = rs.length * c
 | [],_=>by simp [qcF]
 | x :: rs,h=>by
  have ih:=quU hm (rs:=rs) fun y hy=>h y (jad _ hy)
  have hx:=h x (jae ..)
  have:=qjJ (ca:=c) (show x.toNat < r by omega)
  rw [qcF,List.flatMap_cons,jal,qdm (by omega),show (rs.flatMap fun r=>seg m (r.toNat * c) c) = qcF m c rs from rfl,ih,jbh,jbc]; omega
theorem qo1 {r c l n rows:Int} {rs:List Int} (h:qtf r c l n) (hr:∀ x ∈ rs,0 <= x/\x < rows):¬ qlr r c l n rows rs:=by
 obtain ⟨h1,h2,h3⟩:=h
 intro hb
 rcases hb with hb | hb | hb | ⟨x,hx,hb⟩
 ·exact hb h1
 ·omega
 ·omega
 ·have:=hr x hx; omega
theorem qsO {l:List Int} {n:Nat} {P:Int->Prop} (hn:n < l.length) (h:∀ x ∈ l.take n,P x) (hx:P (l.getD n 0)):∀ x ∈ l.take (n + 1),P x:=fun x hm=>by
 rw [qpv hn] at hm
 rcases jat.1 hm with hm | hm
 ·exact h x hm
 ·rw [jaj] at hm; rw [hm]; exact hx
theorem qfF {l:List Int} {n:Nat} (h:n < l.length):l.getD n 0 ∈ l:=by
 rw [jab,jac h]; exact jbx h
theorem qxl {d x:qd} {k:Nat} (h:k + x.length <= d.length):(bI (qaK d k x)).take (k + x.length) = (bI d).take k ++ bI x:=by
 rw [qaK,bI,jca,jca,jbs,<- jbs,List.take_append_of_le_length (by simp; omega),jar (by simp; omega)]
 simp [bI,jcu]
theorem qtN {d x:qd} {k:Nat} (hd:qp d) (hx:qp x):qp (qaK d k x):=fun r hr=>by
 unfold qaK at hr
 rcases jat.1 hr with hr | hr
 ·rcases jat.1 hr with hr | hr
  ·exact hd r (jbv hr)
  ·exact hx r hr
 ·exact hd r (jb4 hr)
theorem q8D {d:qd} {n:Nat}:bI (d.drop n) = (bI d).drop n:=by simp [bI,jds]
theorem q5B:qhV.ok Tryz.prog:=q60 (by simp [qkm,qi8,qgj]) fun Z hg hp=>by
 obtain ⟨a0,a1,a2,a3,n0,n1⟩:0 <= (Z 3).i/\(Z 3).i <= (Z 4).i/\(Z 3).i <= (Z 5).d.length/\qp (Z 5).d/\0 <= (Z 8).i/\(Z 8).i = (Z 10).d.length:=hp
 simp (config:={ maxSteps:=4000000 }) [qyK,qhV,q2y,q3e,qdd,qcH,qcd]
 refine ⟨a0,fun v _ hv=>⟨fun hb=>.inl fun h=>?_,fun hb=>⟨n0,fun h=>.inr (.inl h),fun hn=>⟨fun h=>.inr (.inr (.inl h)),fun hn2=>?_⟩⟩⟩⟩
 ·have:=hv.2 h; rw [hb] at this; cases this
 have vA:qaB (Z 0).i (Z 1).i (Z 3).i:=hv.1 hb
 have hok:qtf (Z 0).i (Z 1).i (Z 3).i (Z 8).i:=⟨vA,by omega,hn2⟩
 have vA':=vA
 obtain ⟨r1,r2,c1,c2,hl⟩:=vA'
 have hil:(iI (Z 10).d).length = (Z 8).i.toNat:=by rw [quV]; omega
 refine ⟨⟨hok,n0⟩,fun i _ _ i0 i1 hin=>⟨fun hi=>⟨i0,by omega,fun h=>?_,fun h0=>⟨fun h=>?_,fun h1=>?_⟩⟩,fun hi=>?_⟩⟩
 ·refine .inr (.inr (.inr ⟨qb (Z 10).d i.i 0,?_,.inl h⟩))
  rw [<- qjI i0 (by omega)]; exact qfF (by omega)
 ·refine .inr (.inr (.inr ⟨qb (Z 10).d i.i 0,?_,.inr h⟩))
  rw [<- qjI i0 (by omega)]; exact qfF (by omega)
 ·rw [add64 (by omega) (by omega)]
  refine ⟨⟨hok,by omega,by omega,?_⟩,by omega⟩
  rw [show (i.i + 1).toNat = i.i.toNat + 1 by omega]
  exact qsO (by omega) hin (by rw [qjI i0 (by omega)]; exact ⟨h0,h1⟩)
 have hall:∀ x ∈ iI (Z 10).d,0 <= x/\x < (Z 0).i:=by
  rw [jar (by omega)] at hin; exact hin
 have hbb:=qI (x:=(Z 8).i) (y:=(Z 1).i) n0 hn2 (by omega) c2
 refine ⟨⟨n0,hn2,by omega,c2⟩,fun l _ cp _ d _ hl1 hc1 hd=>⟨⟨hok,n0,hall,?_,by rw [hd,ja5]; omega,rfl⟩,fun j _ l2 _ cp2 _ d2 _ _ j0 j1 _ hM hL hS=>⟨fun hj=>?_,fun hj=>?_⟩⟩⟩
 ·exact ⟨n0,hn2,by omega,c2,hl1,by omega,by rw [hd,ja5]; omega,by rw [hd]; exact qcU⟩
 ·have hx:=hall _ (qfF (l:=iI (Z 10).d) (n:=j.i.toNat) (by omega))
  rw [qjI j0 (by omega)] at hx
  have hM':=hM
  obtain ⟨m1,m2,m3,m4,m5,m6,m7,m8⟩:=hM'
  refine ⟨j0,by omega,⟨j0,hj,hM⟩,fun o _ n _ k _ ho hn' hk=>⟨⟨hx.1,hx.2,by omega,r2,by omega,c2,hl,a1,a2,a3⟩,fun o' _ n' _ k' _ ho' hn'' hk'=>?_⟩⟩
  have hbj:=qI (x:=j.i) (y:=(Z 1).i) j0 (show j.i <= 255 by omega) (by omega) c2
  have hbx:=qI (x:=qb (Z 10).d j.i 0) (y:=(Z 1).i) hx.1 (show _ <= 255 by omega) (by omega) c2
  have hle1:j.i * (Z 1).i + (Z 1).i <= (Z 8).i * (Z 1).i:=by
   have:=ja2 (show j.i + 1 <= (Z 8).i by omega) (show 0 <= (Z 1).i by omega)
   rw [jcc,jcd] at this; omega
  have hle2:qb (Z 10).d j.i 0 * (Z 1).i + (Z 1).i <= (Z 0).i * (Z 1).i:=by
   have:=ja2 (show qb (Z 10).d j.i 0 + 1 <= (Z 0).i by omega) (show 0 <= (Z 1).i by omega)
   rw [jcc,jcd] at this; omega
  rw [jaf (by omega),add64 (by omega) (by omega)]
  have hseg:((((Z 5).d.drop o'.i.toNat).take n'.i.toNat).take n.i.toNat) = ((Z 5).d.drop o'.i.toNat).take (Z 1).i.toNat:=by rw [jfh,hn',hn'',Nat.min_self]
  rw [hseg]
  have hsl:(((Z 5).d.drop o'.i.toNat).take (Z 1).i.toNat).length = (Z 1).i.toNat:=by rw [jba,jch]; omega
  refine ⟨by omega,by omega,by omega,by omega,by omega,by omega,⟨hok,by omega,by omega,hall,?_,?_,?_⟩,by omega⟩
  ·exact ⟨m1,m2,m3,m4,m5,m6,by rw [qg0 (by rw [hsl]; omega)]; exact m7,qtN m8 fun r hr=>a3 r (jb4 (jbv hr))⟩
  ·rw [qg0 (by rw [hsl]; omega)]; exact hL
  ·have hk1:((j.i + 1) * (Z 1).i).toNat = o.i.toNat + (((Z 5).d.drop o'.i.toNat).take (Z 1).i.toNat).length:=by rw [hsl,jcc,jcd]; omega
   rw [hk1,qxl (by rw [hsl]; omega),ho,hS,show (j.i + 1).toNat = j.i.toNat + 1 by omega,q37 (by omega),qjI j0 (by omega),qmT,q8D,ho',seg]
   congr 3
   rw [jb0 hx.1 (by omega)]
 ·have:j.i = (Z 8).i:=by omega
  have hl8:=hM.2.2.2.2.1
  rw [this,jar (by rw [bI_len]; omega),jar (by omega)] at hS
  exact ⟨qo1 hok hall,hM,hL,hS⟩
theorem qpG {n:Nat} {xs ys:Nat->F} {x:F} {i:Nat} (hi:i < n) (h:∀ m,m < n->xs m = ys m):qcN n xs x i = qcN n ys x i:=by
 rw [qcN,qcN,qn6 (g:=fun m=>if m = i then 1 else x ^^^ ys m) fun m hm=>by simp only [h m hm],qn6 (f:=fun m=>if m = i then 1 else xs i ^^^ xs m) (g:=fun m=>if m = i then 1 else ys i ^^^ ys m) fun m hm=>by simp only [h m hm,h i hi]]
theorem qsg {n m:Nat} (h:m < n):(qfo n).getD m 0 = (m:Int):=by
 rw [jab,qfo,jan,jbj h]; rfl
theorem qs7 {n:Nat}:(qfo n).length = n:=by simp [qfo]
theorem q8p {k total i:Nat} (h1:1 <= k) (hk:k <= total) (ht:total <= 255) (hi:i < total):(qbm k total).take ((i + 1) * k) = (qbm k total).take (i * k) ++ qdw (qfo k) (i:Int):=by
 obtain ⟨g1,g2,_,g4⟩:=qck h1 hk ht
 rw [jbc,jc2,jfn]
 congr 1
 have hle:=qjJ (ca:=k) hi
 apply jbt
 intro j
 rw [jbf,jbe,qdw,qs7,jan]
 by_cases hj:j < k
 ·rw [jah hj,jbj hj,jaw,jac (by omega)]
  have h2:=g4 i j hi hj
  rw [q7,jab,jac (by omega),ja0] at h2
  rw [jaa,<- qrv (g2 _ (jbx (l:=qbm k total) (n:=i * k + j) (by omega))),h2]
  congr 1
  refine qpG hj fun m hm=>?_
  rw [qsg hm]; rfl
 ·rw [jaf hj,jas (l:=List.range k) (by simp; omega)]; rfl
end Go.Proofs
namespace Go.Eng
open Go Go.Proofs
def qbo (k total:Nat) (rs:List Int):Prop:=rs.length = k/\rs.Nodup/\∀ x ∈ rs,0 <= x/\x < (total:Int)
end Go.Eng
namespace Go.Proofs
open Go Go.Eng
theorem qtJ {i j:Nat}:del i j = del j i:=by
 unfold del
 by_cases hij:i = j
 ·rw [jah hij,jah hij.symm]
 ·rw [jaf hij,jaf (Ne.symm hij)]
theorem qqW {m:List Int} {k R:Nat} (hm:m.length = R * k):∀ {rs:List Int},(∀ x ∈ rs,0 <= x/\x < (R:Int))->∀ {i j:Nat},i < rs.length->j < k->(qcF m k rs).getD (i * k + j) 0 = m.getD ((rs.getD i 0).toNat * k + j) 0
 | [],_,i,j,hi,_=>by simp at hi
 | x :: rs,h,i,j,hi,hj=>by
  have hx:=h x (jae ..)
  have hxk:x.toNat * k + k <= R * k:=by
   have h1:x.toNat + 1 <= R:=by omega
   have:=jbk k h1
   rw [jbc] at this; omega
  have hsl:(seg m (x.toNat * k) k).length = k:=by rw [seg,jba,jch]; omega
  rw [qcF,List.flatMap_cons]
  cases i with
  | zero =>
   rw [je8,jbr,jab,jau (by rw [hsl]; exact hj),seg,jbf,jah hj,jbe,<- jab]
   rfl
  | succ i =>
   have ih:=qqW hm (rs:=rs) (fun y hy=>h y (jad _ hy)) (i:=i) (j:=j) (by simpa using hi) hj
   rw [jab,jao (by rw [hsl,jbc]; omega),hsl,show (i + 1) * k + j - k = i * k + j by rw [jbc]; omega,<- jab]
   exact ih
theorem ql1 {m:List Int} {k:Nat} {rs:List Int} (h:qo m):qo (qcF m k rs):=fun x hx=>by
 rw [qcF,List.mem_flatMap] at hx
 obtain ⟨r,_,hx⟩:=hx
 exact h x (jb4 (jbv hx))
theorem qi0 {k total:Nat} {rs:List Int} (h:qbo k total rs) (ht:total <= 255):qbz k fun i=>xsF (rs.getD i 0).toNat:=by
 obtain ⟨h1,h2,h3⟩:=h
 intro i j hi hj he
 have gi:rs.getD i 0 = rs[i]'(by omega):=by rw [jab,jac (by omega)]; rfl
 have gj:rs.getD j 0 = rs[j]'(by omega):=by rw [jab,jac (by omega)]; rfl
 have mi:=h3 _ (jbx (l:=rs) (n:=i) (by omega))
 have mj:=h3 _ (jbx (l:=rs) (n:=j) (by omega))
 simp only [gi,gj] at he
 have:=qc1 (n:=256) (ja4 _) _ _ (by omega) (by omega) he
 exact (List.getElem_inj (h₀:=by omega) (h₁:=by omega) h2).1 (by omega)
theorem qog {m:List Int} {k total:Nat} {rs:List Int} (h:qbo k total rs) (hm:m.length = total * k):(qcF m k rs).length = k * k:=by
 rw [quU (r:=total) (by omega) h.2.2,h.1]
theorem q8c {k total:Nat} {rs:List Int} (h:qbo k total rs) (h1:1 <= k) (hk:k <= total) (ht:total <= 255) {y:Nat->F}
  (hy:∀ i,i < k->q6 (fun j=>qg (q7 k (qbm k total) (rs.getD i 0).toNat j) (y j)) k = 0):∀ j,j < k->y j = 0:=by
 obtain ⟨g1,g2,g3,_⟩:=qck h1 hk ht
 obtain ⟨t2,he⟩:=qyl hk ht
 obtain ⟨_,m2⟩:=qqA he
 have hz:∀ l,l < k->q6 (fun j=>qg (q7 k (qbN k total).2.1 l j) (y j)) k = 0:=qpW (qi0 h ht) fun i hi=>by
  rw [<- hy i hi]
  have hx:=h.2.2 (rs.getD i 0) (by rw [jab,jac (by rw [h.1]; exact hi)]; exact jbx _)
  have e2:q6 (fun j=>qg (q7 k (qbm k total) (rs.getD i 0).toNat j) (y j)) k = q6 (fun j=>q6 (fun l=>qg (qg (qaG (xsF (rs.getD i 0).toNat) l) (q7 k (qbN k total).2.1 l j)) (y j)) k) k:=qj fun j hj=>by rw [g3 _ j (by omega) hj,qd7]
  rw [e2,qeS]
  refine qj fun l hl=>?_
  rw [<- qcL]
  exact qj fun j hj=>by rw [qQ]
 intro j hj
 have e1:y j = q6 (fun i=>qg (y i) (del i j)) k:=(qgK (f:=y) hj).symm
 rw [e1,qj (g:=fun i=>q6 (fun l=>qg (q7 k ((qbu total k).take (k * k)) j l) (qg (q7 k (qbN k total).2.1 l i) (y i))) k) fun i hi=>?_,qeS]
 ·refine qct fun l hl=>?_
  rw [qcL,hz l hl,q9]
 ·have:=m2 j i hj hi
  rw [show del i j = del j i from qtJ,<- this,qaf,<- qd7]
  exact qj fun l hl=>by rw [qQ]
theorem qwm {k total:Nat} {rs:List Int} (h:qbo k total rs) (h1:1 <= k) (hk:k <= total) (ht:total <= 255):(qdM (qcF (qbm k total) k rs) k).2.2 = k:=by
 obtain ⟨g1,g2,_,_⟩:=qck h1 hk ht
 refine qtQ (qog h g1) (ql1 g2) fun y hy=>q8c h h1 hk ht fun i hi=>?_
 rw [<- hy i hi]
 refine qj fun j hj=>?_
 rw [q7,q7,qqW g1 h.2.2 (by rw [h.1]; exact hi) hj]
end Go.Proofs
namespace Go.Proofs
open Go Go.Eng
theorem q8Y {h:Hp} {D:qd} {n:Nat} {f:Nat->List Int} (he:qe9 h D n f):qfw h D n/\∀ j,j < n->pcI D j = j/\pcD h D j = f j:=by
 refine ⟨fun j hj=>?_,fun j hj=>?_⟩
 ·obtain ⟨v,d,e,hr,_,hb⟩:=he j hj
  exact ⟨_,v,d,e,hr,hb⟩
 ·obtain ⟨v,d,e,hr,hf,hb⟩:=he j hj
  refine ⟨by simp [pcI,qb,qF,e,qaj],?_⟩
  rw [pcD,show qF D (j:Int) 1 = v by simp [qF,e],qf0 hr,hf]
end Go.Proofs
namespace Go.Eng
open Go Go.Proofs
def q1b:Ctr:={ qfk with pre:=fun Z=>qk (Z 1).d/\qN (Z 2).i (Z 3).i = true,alts:=qfk.alts.drop 1 }
def qz8:Ctr:={ qhV with pre:=fun Z=>qhV.pre Z/\¬ qlr (Z 0).i (Z 1).i (Z 3).i (Z 8).i (Z 0).i (iI (Z 10).d),alts:=qhV.alts.drop 1 }
def q0i:Ctr:={ qbA with pre:=fun Z=>qbA.pre Z/\qaB (Z 2).i (Z 3).i (Z 5).i/\(Z 2).i = (Z 3).i/\(qdM ((bI (Z 7).d).take (Z 5).i.toNat) (Z 2).i.toNat).2.2 = (Z 2).i.toNat,alts:=qbA.alts.drop 1 }
def qwf (n:Nat):List Int:=(List.range n).map fun (m:Nat)=>(m:Int)
def qpn (h h':Hp) (D D':qd) (n n':Nat):Prop:=n = n'/\∀ j,j < n->pcI D j = pcI D' j/\pcD h D j = pcD h' D' j
def qaW (f:Nat->List Int) (w:List Int) (l:Nat):Nat->List Int
 | 0=>List.replicate l 0
 | j + 1=>qE (qaW f w l j) 0 (seg (f j) 0 l) (w.getD j 0)
end Go.Eng
namespace Go.Proofs
open Go Go.Eng
theorem q1I {h:Hp} {D:qd} {n:Int} {j:Int} (hp:qfw h D n.toNat) (h0:0 <= j) (h1:j < n):j < (D.length:Int)/\qb D j 0 = pcI D j.toNat/\∃ d,Rd h kB (qF D j 1) d/\qp d/\pcD h D j.toNat = bI d:=by
 obtain ⟨v,d,e,hv,hr,hb,hd⟩:=qto hp (j:=j.toNat) (by omega)
 rw [jay h0] at hv
 have hl:=(jam.1 e).1
 exact ⟨by omega,by rw [pcI,jay h0],d,by rw [hv]; exact hr,hb,hd⟩
theorem q7s {s:List Int}:seg s 0 s.length = s:=by simp [seg]
theorem qze {k total:Nat} {data:List Int} (h1:1 <= k) (hk:k <= total) (ht:total <= 255) (hb:qo data) {i:Nat} (hi:i < k) :
  qag k total data i = seg (qd1 data (k * ql k data.length)) (i * ql k data.length) (ql k data.length):=by
 obtain ⟨e1,_,_⟩:=qbC h1 hk ht hb i
 obtain ⟨f1,f2⟩:=qhl hb (n:=k * ql k data.length) (qft (by omega))
 have hle:i * ql k data.length + ql k data.length <= k * ql k data.length:=by
  have:=jbk (ql k data.length) (show i + 1 <= k by omega)
  rw [jbc,jc2] at this; exact this
 have hsl:(seg (qd1 data (k * ql k data.length)) (i * ql k data.length) (ql k data.length)).length = ql k data.length:=qdm (by rw [f1]; exact hle)
 refine qe6 (by rw [e1,hsl]) fun c hc=>?_
 rw [e1] at hc
 rw [q85 h1 hk ht hb hi hc,<- qtZ (n:=k * ql k data.length),jab,jab,qdZ,jah hc]
theorem q8H {k total:Nat} {data:List Int} (h1:1 <= k) (hk:k <= total) (ht:total <= 255) (hb:qo data) {i:Nat} (hi:i < total) {f:Nat->List Int} (hf:∀ j,j < k->f j = qag k total data j) :
  qaW f (qdw (qfo k) (i:Int)) (ql k data.length) k = qag k total data i:=by
 have hw:∀ j,j < k->(qdw (qfo k) (i:Int)).getD j 0 = (qbm k total).getD (i * k + j) 0:=fun j hj=>by
  have hr:=q8p h1 hk ht hi
  obtain ⟨g1,_⟩:=qck h1 hk ht
  have hle:=qjJ (ca:=k) hi
  have h2:((qbm k total).take ((i + 1) * k))[i * k + j]? = ((qbm k total).take (i * k) ++ qdw (qfo k) (i:Int))[i * k + j]?:=by rw [hr]
  rw [jbf,jah (by rw [jbc]; omega),jao (by simp; omega),jba,g1,jcg (by omega),Nat.add_sub_cancel_left] at h2
  rw [jab,jab,h2]
 have key:∀ j,j <= k->qaW f (qdw (qfo k) (i:Int)) (ql k data.length) j = qbG (qbm k total) (qd1 data (k * ql k data.length)) k (ql k data.length) i j:=by
  intro j
  induction j with
  | zero=>intro _; rfl
  | succ j ih =>
   intro hj
   rw [qaW,qbG,ih (by omega),hw j (by omega),hf j (by omega)]
   obtain ⟨e1,_,_⟩:=qbC h1 hk ht hb j
   have hs:seg (qag k total data j) 0 (ql k data.length) = qag k total data j:=by
    have:=q7s (s:=qag k total data j)
    rw [e1] at this
    exact this
   rw [hs,qze h1 hk ht hb (i:=j) (by omega)]
 exact key k (ja4 _)
theorem qkf {f:Nat->List Int} {w:List Int} {l:Nat}:∀ j,(qaW f w l j).length = l
 | 0=>by simp [qaW]
 | j + 1=>by rw [qaW,qb7,qkf j]
theorem qx4 {n:Nat}:(qwf n).Nodup:=jd9.2 (List.nodup_range.imp fun h e=>h (by omega))
theorem q2c {n:Nat} {x:Int} (h:x ∈ qwf n):0 <= x/\x < n:=by
 obtain ⟨m,hm,rfl⟩:=jbl.1 h
 have:=jb8.1 hm
 omega
theorem qhP {o l:List Int} {n k:Nat} (h:(o ++ l).Perm (qwf n)) (hk:o.length = k):o.length = k/\o.Nodup/\∀ x ∈ o,0 <= x/\x < (n:Int) :=
 ⟨hk,(jfr.1 (h.nodup_iff.2 qx4)).1,fun x hx=>q2c (h.mem_iff.1 (jb3 _ hx))⟩
theorem q8I:q1b.ok Tryz.prog:=Ctr.ok_less qvt rfl rfl rfl rfl rfl (fun _ h=>h.1) fun Z Z' ai al hp hag hal hpost=>by
 match ai,hal with
 | 0,hal =>
  exfalso
  obtain rfl:=jaz hal
  obtain ⟨_,h2⟩:_/\(qN ((Z'.upto 5) 2).i ((Z'.upto 5) 3).i = true->(qbN ((Z'.upto 5) 2).i.toNat ((Z'.upto 5) 3).i.toNat).2.2 < ((Z'.upto 5) 2).i.toNat):=hpost
  have e:=qrr (m:=5) (nv:=4) hag (by omega)
  rw [e 2 (by omega),e 3 (by omega)] at h2
  obtain ⟨k1,k2,k3⟩:=qbq.1 hp.2
  have:=h2 hp.2
  rw [qod (by omega) (by omega)] at this
  omega
 | 1,hal=>exact ⟨0,hal⟩
 | n + 2,hal=>cases hal
theorem q8M:qz8.ok Tryz.prog:=Ctr.ok_less q5B rfl rfl rfl rfl rfl (fun _ h=>h.1) fun Z Z' ai al hp hag hal hpost=>by
 match ai,hal with
 | 0,hal =>
  exfalso
  obtain rfl:=jaz hal
  have h2:qlr ((Z'.upto 12) 0).i ((Z'.upto 12) 1).i ((Z'.upto 12) 3).i ((Z'.upto 12) 8).i ((Z'.upto 12) 0).i (iI ((Z'.upto 12) 10).d):=hpost
  have e:=qrr (m:=12) (nv:=12) hag (by omega)
  rw [e 0 (by omega),e 1 (by omega),e 3 (by omega),e 8 (by omega),e 10 (by omega)] at h2
  exact hp.2 h2
 | 1,hal=>exact ⟨0,hal⟩
 | n + 2,hal=>cases hal
theorem q7Z:q0i.ok Tryz.prog:=Ctr.ok_less qlG rfl rfl rfl rfl rfl (fun _ h=>h.1) fun Z Z' ai al hp hag hal hpost=>by
 match ai,hal with
 | 0,hal =>
  exfalso
  obtain rfl:=jaz hal
  have e:=qrr (m:=11) (nv:=9) hag (by omega)
  obtain ⟨_,h2⟩:=hpost
  simp only [show (9 + 2:Nat) = 11 from rfl,show qbA.nv = 9 from rfl] at h2
  rw [e 2 (by omega),e 3 (by omega),e 5 (by omega),e 7 (by omega)] at h2
  obtain ⟨_,p1,p2,p3⟩:=hp
  rcases h2 with ⟨h,_⟩ | ⟨_,h,_⟩ | ⟨_,_,h,_⟩
  ·exact h p1
  ·exact h p2
  ·rw [p3] at h; omega
 | 1,hal=>exact ⟨0,hal⟩
 | n + 2,hal=>cases hal
end Go.Proofs
namespace Go.Eng
open Go Go.Proofs
def blk:Value->Option Nat
 | .slice (some a) _ _=>some a.block
 | _=>none
def qdu (h:Hp) (vs:Nat->Value) (n:Nat) (M:Nat->List Int):Prop :=
 (∀ j,j < n->∃ d,Rd h kB (vs j) d/\bI d = M j/\qp d)/\∀ i j,i < n->j < n->i ≠ j->M i ≠ []->M j ≠ []->blk (vs i) ≠ blk (vs j)
end Go.Eng
namespace Go.Proofs
open Go Go.Eng
theorem qpj {d:qd}:bI d = []↔d = []:=by
 constructor
 ·intro h
  have:=congrArg List.length h
  rw [bI_len] at this
  exact jcs.1 (by simpa using this)
 ·rintro rfl; rfl
theorem qoO {h:Hp} {pat:List CK} {v:Value} {d:qd} (hr:Rd h pat v d) (hd:d ≠ []):∃ b o cap c ty fr,v = .slice (some ⟨b,o,none⟩) d.length cap/\d.length <= cap/\blk v = some b/\h b = some (.cells c ty fr)/\qP c o pat d:=by
 rcases hr with ⟨a,_,h0⟩ | ⟨b,o,cap,c,ty,fr,h1,h2,h3,h4⟩
 ·exact (hd h0).elim
 ·exact ⟨b,o,cap,c,ty,fr,h1,h2,by rw [h1]; rfl,h3,h4⟩
theorem qoE {h:Hp} {vs:Nat->Value} {n j:Nat} {M:Nat->List Int} (ht:qdu h vs n M) (hj:j < n):∃ d,Rd h kB (vs j) d/\bI d = M j/\qp d:=ht.1 j hj
theorem q46 {h h':Hp} {vs:Nat->Value} {n:Nat} {M:Nat->List Int} (ht:qdu h vs n M) (hl:Hp.le h h'):qdu h' vs n M :=
 ⟨fun j hj=>by obtain ⟨d,h1,h2⟩:=ht.1 j hj; exact ⟨d,qeU h1 hl,h2⟩,ht.2⟩
theorem qiG {h:Hp} {vs vs':Nat->Value} {n:Nat} {M M':Nat->List Int} (ht:qdu h vs n M) (hv:∀ j,j < n->vs' j = vs j) (hM:∀ j,j < n->M' j = M j):qdu h vs' n M' :=
 ⟨fun j hj=>by rw [hv j hj,hM j hj]; exact ht.1 j hj,fun i j hi hj hne h1 h2=>by rw [hv i hi,hv j hj]; rw [hM i hi] at h1; rw [hM j hj] at h2; exact ht.2 i j hi hj hne h1 h2⟩
theorem q7B {h hx H:Hp} {vs vs':Nat->Value} {n:Nat} {M M':Nat->List Int} {v:Value} {d:qd} (ht:qdu h vs n M) (hl:Hp.le h H) (hr:Rd hx kB v d) (hlx:Hp.le hx H) (hdis:Hp.disj hx h) (hB:qp d)
  (hv:∀ j,j < n->vs' j = vs j) (hvn:vs' n = v) (hM:∀ j,j < n->M' j = M j) (hMn:M' n = bI d):qdu H vs' (n + 1) M':=by
 have key:∀ j,j < n->M j ≠ []->d ≠ []->blk (vs j) ≠ blk v:=fun j hj hne hd he=>by
  obtain ⟨dj,h1,h2,_⟩:=ht.1 j hj
  obtain ⟨b,_,_,c,ty,fr,_,_,e1,hb,_⟩:=qoO h1 (fun h0=>hne (by rw [<- h2,h0]; rfl))
  obtain ⟨b',_,_,c',ty',fr',_,_,e2,hb',_⟩:=qoO hr hd
  rw [e1,e2,jaa] at he
  subst he
  rcases hdis b with h0 | h0
  ·rw [hb'] at h0; cases h0
  ·rw [hb] at h0; cases h0
 refine ⟨fun j hj=>?_,fun i j hi hj hne h1 h2=>?_⟩
 ·by_cases hjn:j = n
  ·subst hjn
   exact ⟨d,by rw [hvn]; exact qeU hr hlx,hMn.symm,hB⟩
  ·obtain ⟨dj,e1,e2,e3⟩:=ht.1 j (by omega)
   exact ⟨dj,by rw [hv j (by omega)]; exact qeU e1 hl,by rw [hM j (by omega)]; exact e2,e3⟩
 ·by_cases hin:i = n
  ·subst hin
   rw [hvn,hv j (by omega)]
   rw [hM j (by omega)] at h2
   rw [hMn] at h1
   exact fun he=>key j (by omega) h2 (fun h0=>h1 (qpj.2 h0)) he.symm
  ·by_cases hjn:j = n
   ·subst hjn
    rw [hvn,hv i (by omega)]
    rw [hM i (by omega)] at h1
    rw [hMn] at h2
    exact key i (by omega) h1 fun h0=>h2 (qpj.2 h0)
   ·rw [hv i (by omega),hv j (by omega)]
    rw [hM i (by omega)] at h1; rw [hM j (by omega)] at h2
    exact ht.2 i j (by omega) (by omega) hne h1 h2
theorem qzZ {c0 c1:Array Value} {o k:Nat} {d:qd} {x:Int} (hd:qP c0 o kB d) (hw:qhj c0 c1 (o + k) [.int .u8 x]) (hk:k < d.length):qP c1 o kB (qaV d k 0 [.int .u8 x]):=by
 obtain ⟨_,hw⟩:=hw
 intro i row hi
 unfold qaV at hi
 rw [jb1] at hi
 split at hi
 ·rename_i hik
  split at hi
  ·simp only [jaa] at hi
   subst hi
   obtain ⟨⟨hl,hf⟩,hc⟩:=hd _ _ (jac (l:=d) (i:=((k:Int).toNat)) (by simpa using hk))
   have hrow:qao ((d[(k:Int).toNat]?).getD []) 0 [.int .u8 x] = [.int .u8 x]:=by
    rw [jac (by simpa using hk),ja0]
    unfold qao
    rw [jfi,jdb,jdk (by rw [hl]; simp [kB]),jc4]
   rw [hrow]
   refine ⟨⟨rfl,fun c kk v hkk hv=>?_⟩,fun c v hv=>?_⟩
   ·cases c with
    | zero =>
     simp only [kB,jax,jaa] at hkk hv
     subst hkk hv; rfl
    | succ c=>simp [kB] at hkk
   ·cases c with
    | zero =>
     simp only [jax,jaa] at hv
     subst hv
     rw [hw,jah (by simp [kB] at hik ⊢; omega)]
     have:o + i * kB.length + 0 - (o + k) = 0:=by simp [kB] at hik ⊢; omega
     rw [this]; rfl
    | succ c=>simp at hv
  ·cases hi
 ·rename_i hik
  obtain ⟨hf,hc⟩:=hd i row hi
  refine ⟨hf,fun c v hv=>?_⟩
  have hcl:c < 1:=by
   have:=(jam.1 hv).1
   rw [hf.1] at this
   simpa [kB] using this
  rw [hw,jaf (by simp [kB] at hik ⊢; omega)]
  exact hc c v hv
theorem q8l {h h':Hp} {vs:Nat->Value} {n i:Nat} {M:Nat->List Int} {r:Option Addr} {d:qd} {k:Nat} {x:Int} {cap:Nat} (ht:qdu h vs n M) (hi:i < n) (hP:Put h h' r kB d k [.int .u8 x]) (hv:vs i = .slice (qm r 0) d.length cap)
  (hr:Rd h kB (vs i) d) (hk:k < d.length) (hx:0 <= x/\x < 256):qdu h' vs n (fun j=>if j = i then (M i).set k x else M j):=by
 obtain ⟨b,o,c0,c1,ty,rfl,hb,hrows,hw,rfl⟩:=hP
 rw [qgl] at hv
 have hdn:d ≠ []:=fun h0=>by rw [h0] at hk; cases hk
 obtain ⟨di,r1,m1,b1⟩:=ht.1 i hi
 obtain rfl:=qiv r1 hr
 have hcap:di.length <= cap:=by
  obtain ⟨_,_,cap',_,_,_,e1,e2,_⟩:=qoO hr hdn
  rw [hv] at e1
  simp only [Value.slice.injEq] at e1
  omega
 have hbi:blk (vs i) = some b:=by rw [hv]; rfl
 have hMi:M i ≠ []:=fun h0=>hdn (qpj.1 (by rw [m1,h0]))
 have hlen:∀ j,((if j = i then (M i).set k x else M j) = [])↔M j = []:=fun j=>by
  by_cases hj:j = i
  ·subst hj
   rw [jah rfl]
   constructor
   ·intro h0
    have:=congrArg List.length h0
    rw [jdq] at this
    exact jcs.1 (by simpa using this)
   ·intro h0; rw [h0]; rfl
  ·rw [jaf hj]
 refine ⟨fun j hj=>?_,fun i' j hi' hj hne h1 h2=>ht.2 i' j hi' hj hne (fun h0=>h1 ((hlen i').2 h0)) (fun h0=>h2 ((hlen j).2 h0))⟩
 by_cases hji:j = i
 ·subst hji
  refine ⟨qaV di k 0 [.int .u8 x],.inr ⟨b,o,cap,c1,ty,(0,0),by rw [hv,qbY],by rw [qbY]; exact hcap,by simp [Hp.upd],qzZ hrows hw hk⟩,?_,qhE b1 hx.1 hx.2⟩
  simp only [jby]
  rw [qj6,m1]; rfl
 ·simp only [jaf hji]
  obtain ⟨dj,r2,m2,b2⟩:=ht.1 j hj
  refine ⟨dj,?_,m2,b2⟩
  by_cases hdj:dj = []
  ·subst hdj
   rcases r2 with h0 | ⟨b',o',cap',c',ty',fr',e1,e2,e3,e4⟩
   ·exact .inl h0
   ·by_cases hbb:b' = b
    ·exact .inr ⟨b',o',cap',c1,ty,(0,0),e1,e2,by simp [Hp.upd,hbb],fun q row hq=>by simp at hq⟩
    ·exact .inr ⟨b',o',cap',c',ty',fr',e1,e2,by simp only [Hp.upd,jaf hbb]; exact e3,e4⟩
  ·obtain ⟨b',o',cap',c',ty',fr',e1,e2,e3,e4,e5⟩:=qoO r2 hdj
   have hbb:b' ≠ b:=fun h0=>by
    refine ht.2 j i hj hi hji (fun h0=>hdj (qpj.1 (by rw [m2,h0]))) hMi ?_
    rw [e3,hbi,h0]
   exact .inr ⟨b',o',cap',c',ty',fr',e1,e2,by simp only [Hp.upd,jaf hbb]; exact e4,e5⟩
theorem qw2 {Z:Env} {x y:SH}:∀ {l1 l2:List SH} {H:Hp},qV Z (l1 ++ x :: l2) H->y ∈ l2->∃ hx hy,Hp.disj hx hy/\Hp.le hx H/\Hp.le hy H/\x.den Z hx/\y.den Z hy
 | [],l2,H,⟨h1,h2,hd,hu,hx,hs⟩,hy=>by
  subst hu
  obtain ⟨g,g1,g2⟩:=qhC hs hy
  refine ⟨h1,g,fun b=>?_,Hp.le_left _ _,Hp.le_trans g1 (Hp.le_right hd),hx,g2⟩
  rcases hd b with h0 | h0
  ·exact .inl h0
  ·right
   cases hg:g b with
   | none=>rfl
   | some v=>rw [g1 _ _ hg] at h0; cases h0
 | z :: l1,l2,H,⟨h1,h2,hd,hu,hz,hs⟩,hy=>by
  subst hu
  obtain ⟨hx,hy',e1,e2,e3,e4⟩:=qw2 (l1:=l1) hs hy
  exact ⟨hx,hy',e1,Hp.le_trans e2 (Hp.le_right hd),Hp.le_trans e3 (Hp.le_right hd),e4⟩
theorem q7j {h h1 h2:Hp} (hd:Hp.disj h h1) (hl:Hp.le h2 h1):Hp.disj h h2:=fun b=>by
 rcases hd b with h0 | h0
 ·exact .inl h0
 ·right
  cases hg:h2 b with
  | none=>rfl
  | some v=>rw [hl _ _ hg] at h0; cases h0
end Go.Proofs
namespace Go.Eng
open Go Go.Proofs
def tvs (D:qd):Nat->Value:=fun j=>qF D j 0
def qeD (len:Int) (L:Nat->Nat):Int:=if len < 0 then (L 0:Int) else len
def qij (total len:Int) (I:Nat->Int) (L:Nat->Nat) (i:Nat):Prop:=∀ j,j < i->(0 <= I j/\I j < total)/\(∀ j',j' < j->I j' ≠ I j)/\(len < 0->L j <= 8192)/\(L j:Int) = qeD len L
def qqq (total len:Int) (I:Nat->Int) (L:Nat->Nat) (i:Nat) (e:Int):Prop :=
 (¬ (0 <= I i/\I i < total)/\e = 2)∨((0 <= I i/\I i < total)/\(∃ j,j < i/\I j = I i)/\e = 7) ∨
 ((0 <= I i/\I i < total)/\(∀ j,j < i->I j ≠ I i)/\(len < 0/\8192 < L i)/\e = 3)∨((0 <= I i/\I i < total)/\(∀ j,j < i->I j ≠ I i)/\¬ (len < 0/\8192 < L i)/\(L i:Int) ≠ qeD len L/\e = 10)
def qrt (k total len:Int) (n:Nat) (I:Nat->Int) (L:Nat->Nat) (e:Int):Prop :=
 (∃ i,i < n/\qij total len I L i/\qqq total len I L i e)∨(qij total len I L n/\(((n:Int) < k/\e = 12)∨(k <= (n:Int)/\e = 0)))
noncomputable def pcN (h:Hp) (D:qd) (j:Nat):Nat:=(pcD h D j).length
def qtj (fn t:Nat):Ctr:={ fn:=fn,nv:=9,args:=[iv .i64 (.var 0),iv .i64 (.var 1),iv .i64 (.var 2),pcS 3 4 5],heap:=[],ro:=[qfI 3 6 7,.abs 8 t],pre:=fun Z=>(Z 1).i <= 255/\0 <= (Z 4).i/\(Z 4).i <= 17592186043904/\qfw (Z 8).h (Z 6).d (Z 4).i.toNat,alts:=[{ k:=1,ret:=iv .i64 (.var 9),heap:=[],post:=fun Z=>qrt (Z 0).i (Z 1).i (Z 2).i (Z 4).i.toNat (pcI (Z 6).d) (pcN (Z 8).h (Z 6).d) (Z 9).i }] }
def qeE:Ctr:={ qtj 110 4 with ip:=[(1000,9),(1001,9)] }
def q4s:List CK:=List.replicate 255 .bool
def qpd (s:qd) (I:Nat->Int) (i:Nat):Prop:=(∃ row,s = [row]/\row.length = 255)/\∀ x:Int,0 <= x->x < 255->(qaq s x.toNat = true↔∃ j,j < i/\I j = x)
def q9S:List (Nat × SV):=[(0,iv .i64 (.var 0)),(1,iv .i64 (.var 1)),(2,iv .i64 (.var 2)),(3,pcS 3 4 5)]
def okR (Z:Env) (i:Nat):Prop:=qij (Z 1).i (Z 2).i (pcI (Z 6).d) (pcN (Z 8).h (Z 6).d) i
def qw9:Inv:={ key:=3,nv:=3,env:=q9S ++ [(9,.one (.vptr 1001 (.lit 0) 255 0)),(13,pcS 3 4 5),(14,iv .i64 (.var 4)),(15,iv .i64 (.var 1000))],heap:=[.arr 1001 225 q4s (.var 1002) (.lit 1)],inv:=(fun Z=>0 <= (Z 1000).i/\(Z 1000).i <= (Z 4).i/\okR Z (Z 1000).i.toNat/\qpd (Z 1002).d (pcI (Z 6).d) (Z 1000).i.toNat),mu:=(fun Z=>((Z 4).i - (Z 1000).i).toNat) }
def rdB (h:Hp) (v:Value):Prop:=∃ d,Rd h kB v d/\qp d
def q9e (r l c:Nat):SV:=.one (.vslice r (.lit 0) (.var l) (.var c) 1)
def qkz (h h':Hp) (v:Value) (g:List Int->List Int):Prop:=∀ (vs:Nat->Value) (n:Nat) (M:Nat->List Int) (i:Nat),qdu h vs n M->i < n->vs i = v->qdu h' vs n fun j=>if j = i then g (M i) else M j
def q3v (h:Hp) (v:Value) (l:Nat):Prop:=∃ (vs:Nat->Value) (n:Nat) (M:Nat->List Int) (i:Nat),qdu h vs n M/\i < n/\vs i = v/\l <= (M i).length
def qlw:Ctr:={ fn := 124,nv:=7,ow:=[1003,3012,19],args:=[qa9,.one (.var 2),.one (.var 3),iv .u8 (.var 4)],heap:=[fHp 1,.abs 5 2],ro:=[.abs 6 4],pre:=fun Z=>qk (Z 1).d/\rdB (Z 6).h (Z 3).v/\(rdL (Z 6).h (Z 3).v).length <= 10000/\q3v (Z 5).h (Z 2).v (rdL (Z 6).h (Z 3).v).length/\qAI (Z 4).i,alts:=[
 { k:=2,ret:=.tup [],heap:=[fHp 7,.abs 8 2],post:=fun Z=>qk (Z 7).d/\qkz (Z 5).h (Z 8).h (Z 2).v fun l=>qE l 0 (rdL (Z 6).h (Z 3).v) (Z 4).i }] }
def qzc:Inv:={ key:=2,nv:=5,env:=[(0,qa9),(1,.one (.var 2)),(3,iv .u8 (.var 4)),(12,.one (.var 1004)),(13,iv .i64 (.var 1002)),(14,iv .i64 (.var 1000))],heap:=[fHp 1001,.abs 1003 2],inv:=(fun Z=>qk (Z 1001).d/\0 <= (Z 1000).i/\(Z 1000).i <= (Z 1002).i/\(Z 1002).i = ((rdL (Z 6).h (Z 3).v).length:Int)/\(Z 1004).v = (Z 3).v/\qkz (Z 5).h (Z 1003).h (Z 2).v fun l=>qE l 0 (seg (rdL (Z 6).h (Z 3).v) 0 (Z 1000).i.toNat) (Z 4).i),mu:=(fun Z=>((Z 1002).i - (Z 1000).i).toNat) }
noncomputable def qaw (D:qd) (k:Nat):List Int:=(List.range k).map (pcI D)
noncomputable def qa2 (h:Hp) (D:qd):Nat->List Int:=fun j=>rdL h (tvs D j)
def qfi:Ctr:={ fn := 153,nv:=14,args:=[qa9,.one (.vslice 2 (.lit 0) (.var 3) (.var 4) 1),bSl 7 8 9 10],heap:=[fHp 1],ro:=[.arr 2 22 [.any] (.var 5) (.var 6),bHp 7 11 12,.abs 13 2],pre:=fun Z=>qk (Z 1).d/\1 <= (Z 3).i/\(Z 3).i <= 255/\(Z 3).i <= (Z 5).d.length/\(∀ row ∈ (Z 5).d,row.length = 1)/\(Z 9).i = (Z 3).i/\0 <= (Z 8).i/\(Z 8).i + (Z 9).i <= (Z 11).d.length/\qp (Z 11).d/\(∀ j,j < (Z 3).i.toNat->rdB (Z 13).h (tvs (Z 5).d j)/\(qa2 (Z 13).h (Z 5).d j).length = (qa2 (Z 13).h (Z 5).d 0).length)/\(qa2 (Z 13).h (Z 5).d 0).length <= 9000,alts:=[
 { k:=5,ret:=.one (.vslice 14 (.lit 0) (.var 15) (.var 16) 1),heap:=[fHp 17,bHp 14 18 16],post:=fun Z=>qk (Z 17).d/\(Z 15).i = (Z 18).d.length/\(Z 18).d.length = (qa2 (Z 13).h (Z 5).d 0).length/\qp (Z 18).d/\bI (Z 18).d = qaW (qa2 (Z 13).h (Z 5).d) (seg (bI (Z 11).d) (Z 8).i.toNat (Z 3).i.toNat) (qa2 (Z 13).h (Z 5).d 0).length (Z 3).i.toNat }] }
def qoY:Inv:={ key:=3,nv:=6,env:=[(0,qa9),(1,.one (.vslice 2 (.lit 0) (.var 3) (.var 4) 1)),(7,q9e 1000 1001 1002),(15,bSl 7 8 9 10),(16,iv .i64 (.var 9)),(17,iv .i64 (.var 1004))],heap:=[fHp 1005,bHp 1000 1003 1002],inv:=(fun Z=>qk (Z 1005).d/\0 <= (Z 1004).i/\(Z 1004).i <= (Z 9).i/\(Z 1001).i = (Z 1003).d.length/\(Z 1003).d.length = (qa2 (Z 13).h (Z 5).d 0).length/\qp (Z 1003).d/\bI (Z 1003).d = qaW (qa2 (Z 13).h (Z 5).d) (seg (bI (Z 11).d) (Z 8).i.toNat (Z 3).i.toNat) (qa2 (Z 13).h (Z 5).d 0).length (Z 1004).i.toNat),mu:=(fun Z=>((Z 9).i - (Z 1004).i).toNat) }
noncomputable def qeA (h:Hp) (D:qd) (k:Nat) (x:Int):List Int:=qaW (pcD h D) (qdw (qaw D k) x) (pcN h D 0) k
def qji (total k:Nat) (rs:List Int):List Int:=(qdM (qcF (qbm k total) k rs) k).2.1
noncomputable def ql4 (h:Hp) (D:qd) (total k:Nat) (i:Nat):List Int:=qaW (pcD h D) (seg (qji total k (qaw D k)) (i * k) k) (pcN h D 0) k
def q21 (h:Hp) (D:qd) (k total n:Int):Prop:=qN k total = true/\k <= n/\n <= 17592186043904/\qfw h D n.toNat/\qbo k.toNat total.toNat (qaw D k.toNat)/\pcN h D 0 <= 8192/\∀ j,j < k.toNat->pcN h D j = pcN h D 0
def qq3 (Z:Env) (l c d:Nat):Prop:=qK (Z 3).i (Z 2).i (Z l).i (Z c).i (Z d).d/\bI (Z d).d = qbm (Z 2).i.toNat (Z 3).i.toNat
def qeF:Ctr:={ fn := 111,nv:=10,ip:=[(1000,9),(1001,9)],args:=[qa9,iv .i64 (.var 2),iv .i64 (.var 3),pcS 4 5 6],heap:=[fHp 1],ro:=[qfI 4 7 8,.abs 9 4],pre:=fun Z=>qk (Z 1).d/\q21 (Z 9).h (Z 7).d (Z 2).i (Z 3).i (Z 5).i,alts:=[
 { k:=8,ret:=.tup [(false,[.vslice 10 (.lit 0) (.var 2) (.var 2) 1]),qoo (.var 3) (.var 2) 11 12 13],heap:=[fHp 14,.arr 10 22 [.any] (.var 15) (.var 2),.abs 16 2,bHp 11 17 13],post:=fun Z=>qk (Z 14).d/\(Z 15).d.length = (Z 2).i.toNat/\(∀ row ∈ (Z 15).d,row.length = 1)/\qdu (Z 16).h (tvs (Z 15).d) (Z 2).i.toNat (ql4 (Z 9).h (Z 7).d (Z 3).i.toNat (Z 2).i.toNat)/\qq3 Z 12 13 17 }] }
def q1O:List (Nat × SV):=[(0,qa9),(1,iv .i64 (.var 2)),(3,pcS 4 5 6),(9,.one (.vptr 1010 (.lit 0) 3 0)),(10,.one (.vptr 1004 (.lit 0) 3 0))]
def q6R:List SH:=[fHp 1003,q0H 1010,qio 1004 3 2 1005 1006 1007,bHp 1005 1008 1007]
def qux:Inv:={ key:=4,nv:=11,env:=q1O ++ [(12,.one (.vslice 1000 (.lit 0) (.var 2) (.var 2) 1)),(31,.one (.vslice 1000 (.lit 0) (.var 2) (.var 2) 1)),(32,iv .i64 (.var 2)),(33,iv .i64 (.var 1002))],heap:=q6R ++ [iHp 1000 1001 2],inv:=(fun Z=>qk (Z 1003).d/\qq3 Z 1006 1007 1008/\0 <= (Z 1002).i/\(Z 1002).i <= (Z 2).i/\(Z 1001).d.length = (Z 2).i.toNat/\∀ j:Int,0 <= j->j < (Z 1002).i->qb (Z 1001).d j 0 = qb (Z 7).d j 0),mu:=(fun Z=>((Z 2).i - (Z 1002).i).toNat) }
def qyd:List (Nat × SV):=q1O ++ [(16,.one (.vptr 1011 (.lit 0) 3 0)),(18,.one (.vslice 1016 (.lit 0) (.var 2) (.var 2) 1)),(59,.one (.vslice 1016 (.lit 0) (.var 2) (.var 2) 1)),(60,iv .i64 (.var 2)),(61,iv .i64 (.var 1002))]
def q2V:List SH:=q6R ++ [qio 1011 2 2 1012 1013 1014,bHp 1012 1015 1014,.arr 1016 22 [.any] (.var 1017) (.var 2),.abs 1018 2]
noncomputable def q52 (Z:Env):Nat->List Int:=ql4 (Z 9).h (Z 7).d (Z 3).i.toNat (Z 2).i.toNat
def q4B (Z:Env):Prop:=qk (Z 1003).d/\qq3 Z 1006 1007 1008/\qK (Z 2).i (Z 2).i (Z 1013).i (Z 1014).i (Z 1015).d/\bI (Z 1015).d = qji (Z 3).i.toNat (Z 2).i.toNat (qaw (Z 7).d (Z 2).i.toNat)/\(Z 1017).d.length = (Z 2).i.toNat/\(∀ row ∈ (Z 1017).d,row.length = 1)/\0 <= (Z 1002).i/\(Z 1002).i <= (Z 2).i
def qut:Inv:={ key:=12,nv:=19,env:=qyd,heap:=q2V,inv:=(fun Z=>q4B Z/\qdu (Z 1018).h (tvs (Z 1017).d) (Z 1002).i.toNat (q52 Z)),mu:=(fun Z=>((Z 2).i - (Z 1002).i).toNat) }
def qvR (w:Nat):Inv:={ key:=16,nv:=23,env:=qyd ++ [(19,iv .i64 (.var 1002)),(75,bSl 1012 1020 1021 1022),(76,iv .i64 (.var 1021)),(77,iv .i64 (.var 1019))],heap:=q2V,inv:=(fun Z=>q4B Z/\(Z 1002).i < (Z 2).i/\(Z 1002).i = (Z w).i/\(Z 1020).i = (Z 1002).i * (Z 2).i/\(Z 1021).i = (Z 2).i/\0 <= (Z 1019).i/\(Z 1019).i <= (Z 2).i /\
 qdu (Z 1018).h (tvs (Z 1017).d) ((Z 1002).i.toNat + 1) (fun r=>if r = (Z 1002).i.toNat then qaW (pcD (Z 9).h (Z 7).d) (seg (qji (Z 3).i.toNat (Z 2).i.toNat (qaw (Z 7).d (Z 2).i.toNat)) ((Z 1002).i.toNat * (Z 2).i.toNat) (Z 2).i.toNat) (pcN (Z 9).h (Z 7).d 0) (Z 1019).i.toNat else q52 Z r)),mu:=(fun Z=>((Z 2).i - (Z 1019).i).toNat) }
noncomputable def qtv (h:Hp) (D:qd) (k total len:Int) (n:Int) (e:Int):Prop:=qrt k total len n.toNat (pcI D) (pcN h D) e
def q9H (h:Hp) (D:qd) (k total n index e:Int):Prop:=((qN k total = false∨index < 0∨total <= index)/\e = 2)∨(qN k total = true/\0 <= index/\index < total/\qtv h D k total (-1) n e/\e ≠ 0)
def q41 (h:Hp) (D:qd) (k total n index:Int):Prop:=qN k total = true/\0 <= index/\index < total/\qtv h D k total (-1) n 0
def qhm (h:Hp) (D:qd) (n:Int):Prop:=0 <= n/\n <= 17592186043904/\qfw h D n.toNat
def q7k:Bool × List T:=(true,[.vint .i64 (.lit 0),.vnils])
def qfv:Ctr:={ fn := 125,nv:=11,ip:=[(1000,9),(1001,9)],args:=[qa9,iv .i64 (.var 2),iv .i64 (.var 3),pcS 4 5 6,iv .i64 (.var 7)],heap:=[fHp 1],ro:=[qfI 4 8 9,.abs 10 4],pre:=fun Z=>qk (Z 1).d/\qhm (Z 10).h (Z 8).d (Z 5).i,alts:=[
 { k:=2,ret:=.tup [q7k,qbb (.var 11)],heap:=[fHp 12],post:=fun Z=>qk (Z 12).d/\q9H (Z 10).h (Z 8).d (Z 2).i (Z 3).i (Z 5).i (Z 7).i (Z 11).i },
 { k:=5,ret:=.tup [(true,[.vint .i64 (.var 7),.vslice 11 (.lit 0) (.var 12) (.var 13) 1]),qbb (.lit 0)],heap:=[fHp 14,bHp 11 15 13],post:=fun Z=>qk (Z 14).d/\q41 (Z 10).h (Z 8).d (Z 2).i (Z 3).i (Z 5).i (Z 7).i/\(Z 12).i = (Z 15).d.length/\(Z 15).d.length = pcN (Z 10).h (Z 8).d 0/\qp (Z 15).d/\bI (Z 15).d = qeA (Z 10).h (Z 8).d (Z 2).i.toNat (Z 7).i }] }
def qjx:Ctr:={ fn := 135,nv:=1,args:=[.one .vnils,iv .i64 (.var 0)],heap:=[],ro:=[],pre:=fun Z=>0 <= (Z 0).i/\(Z 0).i <= 10000000,alts:=[{ k:=3,ret:=.one (.vslice 1 (.lit 0) (.lit 0) (.var 3) 1),heap:=[bHp 1 2 3],post:=fun Z=>qp (Z 2).d }] }
def qbP (f:Nat->List Int):Nat->List Int
 | 0=>[]
 | k + 1=>qbP f k ++ f k
def qg9:Ctr:={ fn := 112,nv:=6,ip:=[(33,1)],args:=[.one (.vslice 0 (.lit 0) (.var 1) (.var 2) 1)],heap:=[],ro:=[.arr 0 22 [.any] (.var 3) (.var 4),.abs 5 2],pre:=fun Z=>0 <= (Z 1).i/\(Z 1).i <= 255/\(Z 1).i <= (Z 3).d.length/\(∀ row ∈ (Z 3).d,row.length = 1)/\∀ j,j < (Z 1).i.toNat->rdB (Z 5).h (tvs (Z 3).d j)/\(qa2 (Z 5).h (Z 3).d j).length <= 9000,alts:=[
 { k:=4,ret:=.one (.vslice 6 (.lit 0) (.var 7) (.var 8) 1),heap:=[bHp 6 9 8],post:=fun Z=>(Z 7).i = ((qbP (qa2 (Z 5).h (Z 3).d) (Z 1).i.toNat).length:Int)/\(Z 7).i <= (Z 9).d.length/\qp ((Z 9).d.take (Z 7).i.toNat)/\bI ((Z 9).d.take (Z 7).i.toNat) = qbP (qa2 (Z 5).h (Z 3).d) (Z 1).i.toNat/\qp (Z 9).d }] }
def qs4:Inv:={ key:=3,nv:=2,env:=[(0,.one (.vslice 0 (.lit 0) (.var 1) (.var 2) 1)),(3,iv .i64 (.var 1001)),(9,.one (.vslice 0 (.lit 0) (.var 1) (.var 2) 1)),(10,iv .i64 (.var 1)),(11,iv .i64 (.var 1000))],heap:=[],inv:=(fun Z=>0 <= (Z 1000).i/\(Z 1000).i <= (Z 1).i/\(Z 1001).i = ((qbP (qa2 (Z 5).h (Z 3).d) (Z 1000).i.toNat).length:Int)),mu:=(fun Z=>((Z 1).i - (Z 1000).i).toNat) }
def qs2:Inv:={ key:=11,nv:=5,env:=[(6,q9e 1000 1001 1002),(25,.one (.vslice 0 (.lit 0) (.var 1) (.var 2) 1)),(26,iv .i64 (.var 1)),(27,iv .i64 (.var 1004))],heap:=[bHp 1000 1003 1002],inv:=(fun Z=>0 <= (Z 1004).i/\(Z 1004).i <= (Z 1).i/\(Z 1001).i = ((qbP (qa2 (Z 5).h (Z 3).d) (Z 1004).i.toNat).length:Int)/\(Z 1001).i <= (Z 1003).d.length/\qp ((Z 1003).d.take (Z 1001).i.toNat)/\bI ((Z 1003).d.take (Z 1001).i.toNat) = qbP (qa2 (Z 5).h (Z 3).d) (Z 1004).i.toNat/\qp (Z 1003).d),mu:=(fun Z=>((Z 1).i - (Z 1004).i).toNat) }
noncomputable def plI (k size:Int):Int:=(ql k.toNat size.toNat:Int)
def q6K (h:Hp) (D:qd) (k total size n e:Int):Prop:=((qN k total = false∨size < 0∨8192 < size)/\e = 2)∨(qN k total = true/\0 <= size/\size <= 8192/\qtv h D k total (plI k size) n e/\e ≠ 0)
def qq8 (h:Hp) (D:qd) (k total size n:Int):Prop:=qN k total = true/\0 <= size/\size <= 8192/\qtv h D k total (plI k size) n 0
noncomputable def qkb (h:Hp) (D:qd) (k:Nat):List Int:=qbP (fun i=>qeA h D k (i:Int)) k
def qgH:Ctr:={ fn := 76,nv:=11,ip:=[(1000,9),(1001,9)],args:=[qa9,iv .i64 (.var 2),iv .i64 (.var 3),iv .i64 (.var 4),pcS 5 6 7],heap:=[fHp 1],ro:=[qfI 5 8 9,.abs 10 4],pre:=fun Z=>qk (Z 1).d/\qhm (Z 10).h (Z 8).d (Z 6).i,alts:=[
 { k:=2,ret:=.tup [(false,[.vnils]),qbb (.var 11)],heap:=[fHp 12],post:=fun Z=>qk (Z 12).d/\q6K (Z 10).h (Z 8).d (Z 2).i (Z 3).i (Z 4).i (Z 6).i (Z 11).i },
 { k:=4,ret:=.tup [(false,[.vslice 11 (.lit 0) (.var 4) (.var 4) 1]),qbb (.lit 0)],heap:=[fHp 12,bHp 11 13 14],post:=fun Z=>qk (Z 12).d/\qq8 (Z 10).h (Z 8).d (Z 2).i (Z 3).i (Z 4).i (Z 6).i/\(Z 4).i <= (Z 13).d.length/\qp ((Z 13).d.take (Z 4).i.toNat)/\bI ((Z 13).d.take (Z 4).i.toNat) = (qkb (Z 10).h (Z 8).d (Z 2).i.toNat).take (Z 4).i.toNat/\qp (Z 13).d }] }
def qc9 (f I:Nat->Int) (n:Nat) (k e:Int):Prop :=
 (∃ i,i < n/\(∀ j,j < i->f j = 0/\∀ l,l < j->I l ≠ I j)/\((f i ≠ 0/\e = f i)∨(f i = 0/\(∃ l,l < i/\I l = I i)/\e = 7))) ∨
 ((∀ j,j < n->f j = 0/\∀ l,l < j->I l ≠ I j)/\(((n:Int) < k/\e = 12)∨(k <= n/\e = 0)))
noncomputable def qkU (k n t s l:Int) (D:List (List Int)) (h:Hp) (P:qd) (j:Nat):Int:=qbO k n t s l D (pcI P j) (pcD h P j)
def qmJ (r:Nat):SV:=.agg (qdN r (r + 1) (r + 2) (r + 3) (r + 4) (r + 5) (r + 6) (r + 7))
def qoh (Z:Env) (r:Nat):Prop:=qbn (Z r).i/\qbn (Z (r + 1)).i/\qbn (Z (r + 2)).i/\qbn (Z (r + 3)).i/\(Z (r + 6)).i = (Z (r + 8)).d.length/\qd4 (Z (r + 8)).d
def psP (n:Int) (P:qd) (h:Hp):Prop:=qhm h P n/\n = P.length/\∀ j,j < P.length->(pcD h P j).length <= 9000
noncomputable def mF (Z:Env) (r p h:Nat):Nat->Int:=qkU (Z r).i (Z (r + 1)).i (Z (r + 2)).i (Z (r + 3)).i (Z (r + 6)).i (dgs (Z (r + 8)).d) (Z h).h (Z p).d
def qrd (Z:Env):Prop:=qoh Z 0/\psP (Z 11).i (Z 13).d (Z 15).h
def qk0:List Alt:=[{ k:=1,ret:=iv .i64 (.var 18),heap:=[],post:=fun Z=>qc9 (mF Z 0 13 15) (pcI (Z 13).d) (Z 13).d.length (Z 0).i (Z 18).i }]
def qlc:Ctr:={ fn := 75,nv:=18,ip:=[gIp 16],ow:=[1003],args:=[qia,pcS 10 11 12],heap:=[],ro:=[qbU 5 8 9,qfI 10 13 14,.abs 15 4,gHp 16 17],pre:=fun Z=>qrd Z/\gOk Z 16 17 gR,alts:=qk0 }
def qj0:MT:=⟨false,[.i64],false,[.bool],[.vbool (.bl false)]⟩
def qvh (h:Hp) (v:Value) (I:Nat->Int) (i:Nat):Prop:=∃ b l c,v = .map (some b)/\qaF h b qj0 l c/\(∀ x ∈ l,x.v = [.bool true])/\∀ z:Int,qaA l [z] = true↔∃ j,j < i/\I j = z
def q7f:Inv:={ key:=3,nv:=4,env:=[(1,pcS 10 11 12),(2,.one (.vptr 1002 (.lit 0) 37 0)),(5,.one (.var 1001)),(10,pcS 10 11 12),(11,iv .i64 (.var 11)),(12,iv .i64 (.var 1003))],heap:=[.cells 1002 27 (qdN 0 1 2 3 4 5 6 7),.abs 1000 1003],inv:=(fun Z=>0 <= (Z 1003).i/\(Z 1003).i <= (Z 11).i/\(∀ j,j < (Z 1003).i.toNat->mF Z 0 13 15 j = 0/\∀ l,l < j->pcI (Z 13).d l ≠ pcI (Z 13).d j)/\qvh (Z 1000).h (Z 1001).v (pcI (Z 13).d) (Z 1003).i.toNat),mu:=(fun Z=>((Z 11).i - (Z 1003).i).toNat) }
def qiY (ok:Bool) (C:Int->Prop) (D O:List Int) (e:Int):Prop:=(ok = false/\e = 2)∨(ok = true/\C e/\e ≠ 0)∨(ok = true/\C 0/\((sha D ≠ O/\e = 20)∨(sha D = O/\e = 0)))
def mOk (Z:Env) (r:Nat):Bool:=qz (Z r).i (Z (r + 1)).i (Z (r + 2)).i (Z (r + 3)).i (Z (r + 6)).i
def qq2 (Z:Env) (r p h:Nat):Int->Prop:=qc9 (mF Z r p h) (pcI (Z p).d) (Z p).d.length (Z r).i
noncomputable def q5S (Z:Env) (r p h:Nat):List Int:=(qkb (Z h).h (Z p).d (Z r).i.toNat).take (Z (r + 3)).i.toNat
noncomputable def q6t (Z:Env) (r p h x:Nat):List Int:=qeA (Z h).h (Z p).d (Z r).i.toNat (Z x).i
def qk3 (ok:Bool) (C:Int->Prop) (x t e y n:Int) (D O:List Int) (R:qd):Prop:=qiY (ok && decide (0 <= x/\x < t)) C (qaS x ++ D) O e/\((e ≠ 0/\y = 0/\n = 0/\R = [])∨(e = 0/\y = x/\n = R.length/\qp R/\bI R = D))
def qwj (ok:Bool) (C:Int->Prop) (sz e n:Int) (D O:List Int) (R:qd):Prop:=qiY ok C D O e/\((e ≠ 0/\n = 0/\R = [])∨(e = 0/\n = sz/\0 <= n/\n <= R.length/\qp R/\bI (R.take n.toNat) = D))
def qqI:Ctr:={ fn := 19,nv:=20,ip:=[gIp 18,(1005,9)],args:=[qa9,qmJ 2,pcS 12 13 14],heap:=[fHp 1],ro:=[qbU 7 10 11,qfI 12 15 16,.abs 17 4,gHp 18 19],pre:=fun Z=>qk (Z 1).d/\qoh Z 2/\qU (qf (Z 6).d 32)/\psP (Z 13).i (Z 15).d (Z 17).h/\gOk Z 18 19 gR,alts:=[
 { k:=7,ret:=.tup [(false,[.vslice 20 (.lit 0) (.var 21) (.var 26) 1]),qbb (.var 24)],heap:=[fHp 25,bHp 20 23 22],post:=fun Z=>qk (Z 25).d/\qwj (mOk Z 2) (qq2 Z 2 15 17) (Z 5).i (Z 24).i (Z 21).i (q5S Z 2 15 17) (qf (Z 6).d 32) (Z 23).d/\(Z 21).i <= (Z 26).i }] }
def qqE:Ctr:={ fn := 92,nv:=21,ip:=[gIp 18,(1005,9)],args:=[qa9,qmJ 2,pcS 12 13 14,iv .i64 (.var 20)],heap:=[fHp 1],ro:=[qbU 7 10 11,qfI 12 15 16,.abs 17 4,gHp 18 19],pre:=fun Z=>qk (Z 1).d/\qoh Z 2/\psP (Z 13).i (Z 15).d (Z 17).h/\gOk Z 18 19 gR/\qbn (Z 20).i,alts:=[
 { k:=7,ret:=.tup [(true,[.vint .i64 (.var 21),.vslice 22 (.lit 0) (.var 23) (.var 24) 1]),qbb (.var 26)],heap:=[fHp 27,bHp 22 25 24],post:=fun Z=>qk (Z 27).d/\qk3 (mOk Z 2) (qq2 Z 2 15 17) (Z 20).i (Z 4).i (Z 26).i (Z 21).i (Z 23).i (q6t Z 2 15 17 20) ((dgs (Z 10).d).getD (Z 20).i.toNat []) (Z 25).d }] }
end Go.Eng
namespace Go.Proofs
open Go Go.Eng
theorem qrP {f I:Nat->Int} {n:Nat} {k:Int} (h:qc9 f I n k 0):(∀ j,j < n->f j = 0/\∀ l,l < j->I l ≠ I j)/\k <= n:=by
 rcases h with ⟨i,hi,h1,⟨a,b⟩ | ⟨a,_,b⟩⟩ | ⟨h1,⟨a,b⟩ | ⟨a,b⟩⟩
 ·exact (a b.symm).elim
 ·omega
 ·omega
 ·exact ⟨h1,a⟩
theorem qhk {f I:Nat->Int} {i j:Nat} {e:Int} (h2:(f i ≠ 0/\e = f i)∨(f i = 0/\(∃ l,l < i/\I l = I i)/\e = 7)) (h:f i = 0/\∀ l,l < i->I l ≠ I i):False:=by
 rcases h2 with ⟨h2,_⟩ | ⟨_,⟨l,hl,hI⟩,_⟩
 ·exact h2 h.1
 ·exact h.2 l hl hI
theorem qrR {f I:Nat->Int} {n:Nat} {k e e':Int} (a:qc9 f I n k e) (b:qc9 f I n k e'):e = e':=by
 rcases a with ⟨i,hi,h1,h2⟩ | ⟨h1,h2⟩ <;> rcases b with ⟨i',hi',g1,g2⟩ | ⟨g1,g2⟩
 ·rcases jdt i i' with h | h | h
  ·exact (qhk (j:=0) h2 (g1 i h)).elim
  ·subst h
   rcases h2 with ⟨a,b⟩ | ⟨a,_,b⟩ <;> rcases g2 with ⟨c,d⟩ | ⟨c,_,d⟩
   ·rw [b,d]
   ·exact (a c).elim
   ·exact (c a).elim
   ·rw [b,d]
  ·exact (qhk (j:=0) g2 (h1 i' h)).elim
 ·exact (qhk (j:=0) h2 (g1 i hi)).elim
 ·exact (qhk (j:=0) g2 (h1 i' hi')).elim
 ·omega
theorem q3R {ok:Bool} {C:Int->Prop} {D O:List Int} (a:qiY ok C D O 0):ok = true/\C 0/\sha D = O:=by
 rcases a with ⟨a,a1⟩ | ⟨a,a1,a2⟩ | ⟨a,a1,⟨a2,a3⟩ | ⟨a2,a3⟩⟩
 ·omega
 ·exact (a2 rfl).elim
 ·omega
 ·exact ⟨a,a1,a2⟩
section
variable {M:Bool} {C:Int->Prop} {x t:Int} {D O:List Int}
theorem q61 (h:M = false):qiY M C D O 2:=.inl ⟨h,rfl⟩
theorem q5c {e:Int} (h:M = true) (hC:C e) (he:¬ e = 0):qiY M C D O e:=.inr (.inl ⟨h,hC,he⟩)
theorem q5y (h:M = true) (hC:C 0) (hs:¬ sha D = O):qiY M C D O 20:=.inr (.inr ⟨h,hC,.inl ⟨hs,rfl⟩⟩)
theorem q7m (h:M = true) (hC:C 0) (hs:sha D = O):qiY M C D O 0:=.inr (.inr ⟨h,hC,.inr ⟨hs,rfl⟩⟩)
theorem qtK {e sz:Int} (a:qiY M C D O e) (h:¬ e = 0):qwj M C sz e 0 D O []:=⟨a,.inl ⟨h,rfl,rfl⟩⟩
theorem q7y {n:Int} {R:qd} (a:qiY M C D O 0) (n0:0 <= n) (hn:n <= R.length) (hB:qp R) (hR:bI (R.take n.toNat) = D):qwj M C n 0 n D O R:=⟨a,.inr ⟨rfl,rfl,n0,hn,hB,hR⟩⟩
theorem q6z (h:M = false):qk3 M C x t 2 0 0 D O []:=⟨.inl ⟨by rw [h]; rfl,rfl⟩,.inl ⟨by omega,rfl,rfl,rfl⟩⟩
theorem quE (h:x < 0∨t <= x):qk3 M C x t 2 0 0 D O []:=⟨.inl ⟨by rw [jem (by omega),Bool.and_false],rfl⟩,.inl ⟨by omega,rfl,rfl,rfl⟩⟩
theorem q5s {e:Int} (h:M = true) (h0:0 <= x) (h1:x < t) (hC:C e) (he:¬ e = 0):qk3 M C x t e 0 0 D O []:=⟨.inr (.inl ⟨by rw [h,jcf ⟨h0,h1⟩]; rfl,hC,he⟩),.inl ⟨he,rfl,rfl,rfl⟩⟩
theorem q4p (h:M = true) (h0:0 <= x) (h1:x < t) (hC:C 0) (hs:¬ sha (qaS x ++ D) = O):qk3 M C x t 20 0 0 D O []:=⟨.inr (.inr ⟨by rw [h,jcf ⟨h0,h1⟩]; rfl,hC,.inl ⟨hs,rfl⟩⟩),.inl ⟨by omega,rfl,rfl,rfl⟩⟩
theorem q7w {n:Int} {R:qd} (h:M = true) (h0:0 <= x) (h1:x < t) (hC:C 0) (hs:sha (qaS x ++ D) = O) (hn:n = R.length) (hB:qp R) (hR:bI R = D):qk3 M C x t 0 x n D O R:=⟨.inr (.inr ⟨by rw [h,jcf ⟨h0,h1⟩]; rfl,hC,.inr ⟨hs,rfl⟩⟩),.inr ⟨rfl,rfl,hn,hB,hR⟩⟩
end
theorem q0M {D D':qd} {k:Nat} (h:∀ j,j < k->pcI D j = pcI D' j):qaw D k = qaw D' k:=by
 unfold qaw
 exact jbz fun j hj=>h j (jb8.1 hj)
theorem q56 {f I:Nat->Int} {n:Nat} {k e x:Int} (x0:0 <= x) (x1:x < n) (h:∀ j:Nat,(j:Int) < x->f j = 0/\∀ l,l < j->¬ I l = I j) (he:e = f x.toNat) (hne:¬ e = 0):qc9 f I n k e :=
 .inl ⟨x.toNat,by omega,fun j hj=>h j (by omega),.inl ⟨by rw [<- he]; exact hne,he⟩⟩
theorem q1k {f I:Nat->Int} {n:Nat} {k x:Int} (x0:0 <= x) (x1:x < n) (h:∀ j:Nat,(j:Int) < x->f j = 0/\∀ l,l < j->¬ I l = I j) (h0:f x.toNat = 0) (hl:∃ l,l < x.toNat/\I l = I x.toNat):qc9 f I n k 7 :=
 .inl ⟨x.toNat,by omega,fun j hj=>h j (by omega),.inr ⟨h0,hl,rfl⟩⟩
theorem qv4 {f I:Nat->Int} {n:Nat} {k e x:Int} (x1:n <= x) (h:∀ j:Nat,(j:Int) < x->f j = 0/\∀ l,l < j->¬ I l = I j) (he:((n:Int) < k/\e = 12)∨(k <= n/\e = 0)):qc9 f I n k e :=
 .inr ⟨fun j hj=>h j (by omega),he⟩
theorem q2t {f I:Nat->Int} {x:Int} (x0:0 <= x) (h:∀ j:Nat,(j:Int) < x->f j = 0/\∀ l,l < j->¬ I l = I j) (h0:f x.toNat = 0) (hl:∀ l,l < x.toNat->¬ I l = I x.toNat):∀ j:Nat,(j:Int) < x + 1->f j = 0/\∀ l,l < j->¬ I l = I j:=fun j hj=>by
 by_cases hjx:(j:Int) = x
 ·obtain rfl:j = x.toNat:=by omega
  exact ⟨h0,hl⟩
 ·exact h j (by omega)
theorem q5J {b:Nat} {v:Value} {h:Hp} {I:Nat->Int} (hv:v = .map (some b)) (hh:h = Hp.one b (.map #[] 0)):qvh h v I 0:=by
 subst hh
 refine ⟨b,[],0,hv,⟨by simp [Hp.one,MT.obj],⟨fun x hx=>(by cases hx),.nil⟩⟩,fun x hx=>(by cases hx),fun z=>⟨fun h=>(by cases h),fun ⟨j,hj,_⟩=>(by omega)⟩⟩
theorem q2j {l:List ME} {k:List Int} (h:∀ x ∈ l,x.v = [.bool true]):qcy l k [.bool false] = [.bool (qaA l k)]:=by
 cases hh:qaA l k with
 | false=>exact qiI hh
 | true =>
  obtain ⟨j,x,h1,_,_,h2⟩:=qel (mt:=qj0) (i:=0) hh
  rw [h2]
  exact h x (jbi h1)
theorem q4k {h h':Hp} {v:Value} {I:Nat->Int} {i b clock:Nat} {l:List ME} {x:Int} (hv:v = .map (some b)) (hm:qaF h b qj0 l clock) (ht:∀ x ∈ l,x.v = [.bool true]) (hs:∀ z:Int,qaA l [z] = true↔∃ j,j < i/\I j = z) (hx:x = I i)
  (hh:h' = Hp.upd h b (qj0.obj (qaQ l [x] [.bool true] clock))):qvh h' v I (i + 1):=by
 have hw:=qjG (k:=[x]) (v:=[.bool true]) hm.2 rfl ⟨rfl,fun c k v hk hv=>by
  match c,hk,hv with
  | 0,hk,hv=>simp [qj0] at hk hv; subst hk hv; rfl
  | c + 1,hk,hv=>simp [qj0] at hk⟩
 refine ⟨b,(qaQ l [x] [.bool true] clock).1,(qaQ l [x] [.bool true] clock).2,hv,⟨by rw [hh]; simp [Hp.upd],hw⟩,?_,?_⟩
 ·intro y hy
  unfold qaQ at hy
  split at hy
  ·obtain ⟨z,hz,rfl⟩:=jbl.1 hy
   split
   ·rfl
   ·exact ht z hz
  ·rcases jat.1 hy with hy | hy
   ·exact ht y hy
   ·rw [jaj.1 hy]
 ·intro z
  have e:qaA (qaQ l [x] [.bool true] clock).1 [z] = (qaA l [z] || decide (x = z)):=by
   unfold qaQ
   split
   ·rename_i hh
    have e1:qaA (l.map fun y=>if y.k = [x] then { y with v:=[.bool true] } else y) [z] = qaA l [z]:=by
     unfold qaA
     rw [List.any_map]
     refine congrArg (fun f=>List.any l f) (funext fun y=>?_)
     simp only [Function.comp]
     split <;> rfl
    rw [e1]
    by_cases hxz:x = z
    ·subst hxz; simp [hh]
    ·simp [hxz]
   ·simp only [qaA,List.any_append,List.any_cons,List.any_nil,Bool.or_false]
    congr 1
    by_cases h:x = z <;> simp [h]
  rw [e,jcx,hs,ja9,hx]
  constructor
  ·rintro (⟨j,hj,h⟩ | h)
   ·exact ⟨j,by omega,h⟩
   ·exact ⟨i,by omega,h⟩
  ·rintro ⟨j,hj,h⟩
   by_cases hji:j = i
   ·subst hji; exact .inr h
   ·exact .inl ⟨j,by omega,h⟩
theorem q4I {M:Bool} {C:Int->Prop} {x t e y n:Int} {D O:List Int} {R:qd} (a:qk3 M C x t e y n D O R) (h:e = 0):M = true/\(0 <= x/\x < t)/\C 0/\sha (qaS x ++ D) = O/\y = x/\n = R.length/\qp R/\bI R = D:=by
 subst h
 obtain ⟨a0,⟨a1,a2,a3,a4⟩ | ⟨a1,a2,a3,a4,a5⟩⟩:=a
 ·exact (a1 rfl).elim
 ·obtain ⟨b1,b2,b3⟩:=q3R a0
  rw [jag,ja9] at b1
  exact ⟨b1.1,b1.2,b2,b3,a2,a3,a4,a5⟩
variable {rows wide c rank:Nat} {T0:Mat} {M:Nat->List Int}
theorem q3C {h:Hp} {vs:Nat->Value} {n j:Nat} {M:Nat->List Int} (ht:qdu h vs n M) (hj:j < n):qo (M j):=by
 obtain ⟨d,_,e,hb⟩:=ht.1 j hj
 rw [<- e]; exact allB_list hb
end Go.Proofs
namespace Go.Proofs
open Go Go.Eng
theorem qqp {D:qd} {i:Int} (h:0 <= i):tvs D i.toNat = qF D i 0:=by
 unfold tvs
 rw [jay h]
theorem qzq {D:qd} {i:Int} {v:Value} (hr:∀ row ∈ D,row.length = 1) (i0:0 <= i) (i1:i < D.length) (j:Nat):tvs (qaV D i 0 [v]) j = if j = i.toNat then v else tvs D j:=by
 unfold tvs qF qaV
 rw [jav,jb1]
 by_cases h:j = i.toNat
 ·rw [jah h.symm,jah h,jah (by omega)]
  rfl
 ·rw [jaf (fun e=>h e.symm),jaf h]
theorem q5Z {D:qd} {i:Int} {v:Value} (hr:∀ row ∈ D,row.length = 1) (i0:0 <= i) (i1:i < D.length):∀ row ∈ qaV D i 0 [v],row.length = 1:=fun row h=>by
 unfold qaV at h
 rcases jcz h with h | rfl
 ·exact hr row h
 ·rw [jac (by omega),ja0]
  have:=hr _ (jbx (l:=D) (n:=i.toNat) (by omega))
  unfold qao
  simp [this]
theorem qvm {l:List Int} {o n i:Nat} (hi:i < n):(seg l o n).getD i 0 = l.getD (o + i) 0:=by
 rw [seg,jab,jbf,jah hi,jbe,jab]
@[simp] def qn2:Out:=.back 0 10 (sg 1000 [bt 1002 (.c3 (.xput 0) (tv 12) (.icell (tv 6) (tv 10) 0) (.vbool (.bl true))),bt 1000 (.arith .add .i64 (tv 10) (tl 1)),bg 1001 11])
def qr7:Out:=(.fresh 9 (.need (.cmp .leq (tl 0) (tv 4)) (.inv 0 10 (sg 1000 [bt 1002 (.rcons (.vbool (.bl false)) (.rcons (.vbool (.bl false)) (.rcons (.vbool (.bl false)) (.rcons (.vbool (.bl false)) (.rcons (.vbool (.bl false)) (.rcons (.vbool (.bl false)) (.rcons (.vbool (.bl false)) (.rcons (.vbool (.bl false)) (.rcons (.vbool (.bl false)) (.rcons (.vbool (.bl false)) (.rcons (.vbool (.bl false)) (.rcons (.vbool (.bl false)) (.rcons (.vbool (.bl false)) (.rcons (.vbool (.bl false)) (.rcons (.vbool (.bl false)) (.rcons (.vbool (.bl false)) (.rcons (.vbool (.bl false)) (.rcons (.vbool (.bl false)) (.rcons (.vbool (.bl false)) (.rcons (.vbool (.bl false)) (.rcons (.vbool (.bl false)) (.rcons (.vbool (.bl false)) (.rcons (.vbool (.bl false)) (.rcons (.vbool (.bl false)) (.rcons (.vbool (.bl false)) (.rcons (.vbool (.bl false)) (.rcons (.vbool (.bl false)) (.rcons (.vbool (.bl false)) (.rcons (.vbool (.bl false)) (.rcons (.vbool (.bl false)) (.rcons (.vbool (.bl false)) (.rcons (.vbool (.bl false)) (.rcons (.vbool (.bl false)) (.rcons (.vbool (.bl false)) (.rcons (.vbool (.bl false)) (.rcons (.vbool (.bl false)) (.rcons (.vbool (.bl false)) (.rcons (.vbool (.bl false)) (.rcons (.vbool (.bl false)) (.rcons (.vbool (.bl false)) (.rcons (.vbool (.bl false)) (.rcons (.vbool (.bl false)) (.rcons (.vbool (.bl false)) (.rcons (.vbool (.bl false)) (.rcons (.vbool (.bl false)) (.rcons (.vbool (.bl false)) (.rcons (.vbool (.bl false)) (.rcons (.vbool (.bl false)) (.rcons (.vbool (.bl false)) (.rcons (.vbool (.bl false)) (.rcons (.vbool (.bl false)) (.rcons (.vbool (.bl false)) (.rcons (.vbool (.bl false)) (.rcons (.vbool (.bl false)) (.rcons (.vbool (.bl false)) (.rcons (.vbool (.bl false)) (.rcons (.vbool (.bl false)) (.rcons (.vbool (.bl false)) (.rcons (.vbool (.bl false)) (.rcons (.vbool (.bl false)) (.rcons (.vbool (.bl false)) (.rcons (.vbool (.bl false)) (.rcons (.vbool (.bl false)) (.rcons (.vbool (.bl false)) (.rcons (.vbool (.bl false)) (.rcons (.vbool (.bl false)) (.rcons (.vbool (.bl false)) (.rcons (.vbool (.bl false)) (.rcons (.vbool (.bl false)) (.rcons (.vbool (.bl false)) (.rcons (.vbool (.bl false)) (.rcons (.vbool (.bl false)) (.rcons (.vbool (.bl false)) (.rcons (.vbool (.bl false)) (.rcons (.vbool (.bl false)) (.rcons (.vbool (.bl false)) (.rcons (.vbool (.bl false)) (.rcons (.vbool (.bl false)) (.rcons (.vbool (.bl false)) (.rcons (.vbool (.bl false)) (.rcons (.vbool (.bl false)) (.rcons (.vbool (.bl false)) (.rcons (.vbool (.bl false)) (.rcons (.vbool (.bl false)) (.rcons (.vbool (.bl false)) (.rcons (.vbool (.bl false)) (.rcons (.vbool (.bl false)) (.rcons (.vbool (.bl false)) (.rcons (.vbool (.bl false)) (.rcons (.vbool (.bl false)) (.rcons (.vbool (.bl false)) (.rcons (.vbool (.bl false)) (.rcons (.vbool (.bl false)) (.rcons (.vbool (.bl false)) (.rcons (.vbool (.bl false)) (.rcons (.vbool (.bl false)) (.rcons (.vbool (.bl false)) (.rcons (.vbool (.bl false)) (.rcons (.vbool (.bl false)) (.rcons (.vbool (.bl false)) (.rcons (.vbool (.bl false)) (.rcons (.vbool (.bl false)) (.rcons (.vbool (.bl false)) (.rcons (.vbool (.bl false)) (.rcons (.vbool (.bl false)) (.rcons (.vbool (.bl false)) (.rcons (.vbool (.bl false)) (.rcons (.vbool (.bl false)) (.rcons (.vbool (.bl false)) (.rcons (.vbool (.bl false)) (.rcons (.vbool (.bl false)) (.rcons (.vbool (.bl false)) (.rcons (.vbool (.bl false)) (.rcons (.vbool (.bl false)) (.rcons (.vbool (.bl false)) (.rcons (.vbool (.bl false)) (.rcons (.vbool (.bl false)) (.rcons (.vbool (.bl false)) (.rcons (.vbool (.bl false)) (.rcons (.vbool (.bl false)) (.rcons (.vbool (.bl false)) (.rcons (.vbool (.bl false)) (.rcons (.vbool (.bl false)) (.rcons (.vbool (.bl false)) (.rcons (.vbool (.bl false)) (.rcons (.vbool (.bl false)) (.rcons (.vbool (.bl false)) (.rcons (.vbool (.bl false)) (.rcons (.vbool (.bl false)) (.rcons (.vbool (.bl false)) (.rcons (.vbool (.bl false)) (.rcons (.vbool (.bl false)) (.rcons (.vbool (.bl false)) (.rcons (.vbool (.bl false)) (.rcons (.vbool (.bl false)) (.rcons (.vbool (.bl false)) (.rcons (.vbool (.bl false)) (.rcons (.vbool (.bl false)) (.rcons (.vbool (.bl false)) (.rcons (.vbool (.bl false)) (.rcons (.vbool (.bl false)) (.rcons (.vbool (.bl false)) (.rcons (.vbool (.bl false)) (.rcons (.vbool (.bl false)) (.rcons (.vbool (.bl false)) (.rcons (.vbool (.bl false)) (.rcons (.vbool (.bl false)) (.rcons (.vbool (.bl false)) (.rcons (.vbool (.bl false)) (.rcons (.vbool (.bl false)) (.rcons (.vbool (.bl false)) (.rcons (.vbool (.bl false)) (.rcons (.vbool (.bl false)) (.rcons (.vbool (.bl false)) (.rcons (.vbool (.bl false)) (.rcons (.vbool (.bl false)) (.rcons (.vbool (.bl false)) (.rcons (.vbool (.bl false)) (.rcons (.vbool (.bl false)) (.rcons (.vbool (.bl false)) (.rcons (.vbool (.bl false)) (.rcons (.vbool (.bl false)) (.rcons (.vbool (.bl false)) (.rcons (.vbool (.bl false)) (.rcons (.vbool (.bl false)) (.rcons (.vbool (.bl false)) (.rcons (.vbool (.bl false)) (.rcons (.vbool (.bl false)) (.rcons (.vbool (.bl false)) (.rcons (.vbool (.bl false)) (.rcons (.vbool (.bl false)) (.rcons (.vbool (.bl false)) (.rcons (.vbool (.bl false)) (.rcons (.vbool (.bl false)) (.rcons (.vbool (.bl false)) (.rcons (.vbool (.bl false)) (.rcons (.vbool (.bl false)) (.rcons (.vbool (.bl false)) (.rcons (.vbool (.bl false)) (.rcons (.vbool (.bl false)) (.rcons (.vbool (.bl false)) (.rcons (.vbool (.bl false)) (.rcons (.vbool (.bl false)) (.rcons (.vbool (.bl false)) (.rcons (.vbool (.bl false)) (.rcons (.vbool (.bl false)) (.rcons (.vbool (.bl false)) (.rcons (.vbool (.bl false)) (.rcons (.vbool (.bl false)) (.rcons (.vbool (.bl false)) (.rcons (.vbool (.bl false)) (.rcons (.vbool (.bl false)) (.rcons (.vbool (.bl false)) (.rcons (.vbool (.bl false)) (.rcons (.vbool (.bl false)) (.rcons (.vbool (.bl false)) (.rcons (.vbool (.bl false)) (.rcons (.vbool (.bl false)) (.rcons (.vbool (.bl false)) (.rcons (.vbool (.bl false)) (.rcons (.vbool (.bl false)) (.rcons (.vbool (.bl false)) (.rcons (.vbool (.bl false)) (.rcons (.vbool (.bl false)) (.rcons (.vbool (.bl false)) (.rcons (.vbool (.bl false)) (.rcons (.vbool (.bl false)) (.rcons (.vbool (.bl false)) (.rcons (.vbool (.bl false)) (.rcons (.vbool (.bl false)) (.rcons (.vbool (.bl false)) (.rcons (.vbool (.bl false)) (.rcons (.vbool (.bl false)) (.rcons (.vbool (.bl false)) (.rcons (.vbool (.bl false)) (.rcons (.vbool (.bl false)) (.rcons (.vbool (.bl false)) (.rcons (.vbool (.bl false)) (.rcons (.vbool (.bl false)) (.rcons (.vbool (.bl false)) (.rcons (.vbool (.bl false)) (.rcons (.vbool (.bl false)) (.rcons (.vbool (.bl false)) (.rcons (.vbool (.bl false)) (.rcons (.vbool (.bl false)) (.rcons (.vbool (.bl false)) (.rcons (.vbool (.bl false)) (.rcons (.vbool (.bl false)) (.rcons (.vbool (.bl false)) (.rcons (.vbool (.bl false)) (.rcons (.vbool (.bl false)) (.rcons (.vbool (.bl false)) (.rcons (.vbool (.bl false)) (.rcons (.vbool (.bl false)) (.rcons (.vbool (.bl false)) (.rcons (.vbool (.bl false)) (.rcons (.vbool (.bl false)) (.rcons (.vbool (.bl false)) (.rcons (.vbool (.bl false)) (.rcons (.vbool (.bl false)) (.rcons (.vbool (.bl false)) (.rcons (.vbool (.bl false)) (.rcons (.vbool (.bl false)) (.rcons (.vbool (.bl false)) (.rcons (.vbool (.bl false)) (.rcons (.vbool (.bl false)) (.rcons (.vbool (.bl false)) (.rcons (.vbool (.bl false)) (.rcons (.vbool (.bl false)) (.rcons (.vbool (.bl false)) (.rcons (.vbool (.bl false)) (.rcons (.vbool (.bl false)) (.rcons (.vbool (.bl false)) (.rcons (.vbool (.bl false)) (.rcons (.vbool (.bl false)) .rnil))))))))))))))))))))))))))))))))))))))))))))))))))))))))))))))))))))))))))))))))))))))))))))))))))))))))))))))))))))))))))))))))))))))))))))))))))))))))))))))))))))))))))))))))))))))))))))))))))))))))))))))))))))))))))))))))))))))))))))))))))))))))))))))),bt 1000 (tl 0),bg 1001 9]) (fr 10 3 (.hyp 0 10 (.br (.cmp .lss (tv 10) (tv 4))
 (.need (.cmp .leq (tl 0) (tv 10)) (.need (.cmp .lss (tv 10) (.dlen (tv 6))) (.fresh 13 (.br (.cmp .lss (.icell (tv 6) (tv 10) 0) (tl 0))
 (.ret 0 (sg 9 [bt 9 (tl 2)]))
 (.br (.cmp .geq (.icell (tv 6) (tv 10) 0) (tv 1))
 (.ret 0 (sg 9 [bt 9 (tl 2)]))
 (.need (.cmp .leq (tl 0) (.icell (tv 6) (tv 10) 0)) (.need (.cmp .lss (.icell (tv 6) (tv 10) 0) (tl 255)) (.need (.cmp .lss (tl 0) (.dlen (tv 12))) (.br (.c2 (.xbool 0) (tv 12) (.icell (tv 6) (tv 10) 0))
 (.ret 0 (sg 9 [bt 9 (tl 7)]))
 (.br (.cmp .lss (tv 2) (tl 0))
 (.view (.vcell (tv 6) (tv 10) 1) [CK.int .u8] [8] 14 (.br (.cmp .gtr (.dlen (tv 16)) (tl 8192))
 (.ret 0 (sg 9 [bt 9 (tl 3)]))
 (.need (.cmp .lss (tl 0) (tv 4)) (.need (.cmp .lss (tl 0) (.dlen (tv 6))) (.view (.vcell (tv 6) (tl 0) 1) [CK.int .u8] [8] 17 (.view (.vcell (tv 6) (tv 10) 1) [CK.int .u8] [8] 20 (.br (.cmp .neq (.dlen (tv 22)) (.dlen (tv 19)))
 (.ret 0 (sg 9 [bt 9 (tl 10)]))
 qn2)))))))
 (.view (.vcell (tv 6) (tv 10) 1) [CK.int .u8] [8] 14 (.br (.cmp .neq (.dlen (tv 16)) (tv 2))
 (.ret 0 (sg 9 [bt 9 (tl 10)]))
 qn2))))))))))))
 (.br (.cmp .lss (tv 4) (tv 0))
 (.ret 0 (sg 9 [bt 9 (tl 12)]))
 (.ret 0 (sg 9 [bt 9 (tl 0)])))))))))
theorem q07:qn Tryz.prog qeE [] [qw9] qr7:=qh Tryz.func110 Tryz.call110 (by kernel_rfl)
def qvc:Out:=(.br (.cmp .eql (tv 4) (tl 0))
 (.ret 0 (sg 7 [bg 8 5,bv 7 1]))
 (.viewL (tv 3) [CK.int .u8] [6] 7 (.inv 0 10 (sg 1000 [bg 1003 5,bv 1001 1,bt 1000 (tl 0),bt 1002 (.dlen (tv 9)),bt 1004 (.vslice 7 (tl 0) (.dlen (tv 9)) (tv 8) 1)]) (fr 10 5 (.hyp 0 10 (.br (.cmp .lss (tv 10) (tv 12))
 (.viewL (tv 14) [CK.int .u8] [6] 15 (.need (.cmp .leq (tl 0) (tv 10)) (.need (.cmp .lss (tv 10) (.dlen (tv 17))) (.both (.viewL (tv 2) [CK.int .u8] [13] 18 (.need (.cmp .lss (tv 10) (.dlen (tv 20))) (.both (.pre 0 (sg 0 [bv 1 11,bt 3 (.icell (tv 17) (tv 10) 0),bv 2 4,bg 0 0]) (.both (fr 21 2 (.post 0 0 (sg 0 [bv 1 11,bt 3 (.icell (tv 17) (tv 10) 0),bv 2 4,bg 0 0]) 21 (.both (.put 13 18 [CK.int .u8] (tv 20) (tv 10) 0 [(.vint .u8 (.arith .xor .u8 (.icell (tv 20) (tv 10) 0) (tv 21)))] 23 (.back 0 10 (sg 1000 [bg 1003 23,bv 1001 22,bt 1000 (.arith .add .i64 (tv 10) (tl 1)),bv 1002 12,bt 1004 (.vslice 15 (tl 0) (.dlen (tv 17)) (tv 16) 1)]))) .top))) .top)) .top))) (.both (.pre 0 (sg 0 [bv 1 11,bt 3 (.icell (tv 17) (tv 10) 0),bv 2 4,bg 0 0]) (.both (fr 18 2 (.post 0 0 (sg 0 [bv 1 11,bt 3 (.icell (tv 17) (tv 10) 0),bv 2 4,bg 0 0]) 18 (.both (.viewL (tv 2) [CK.int .u8] [13] 20 (.need (.cmp .lss (tv 10) (.dlen (tv 22))) (.both (.put 13 20 [CK.int .u8] (tv 22) (tv 10) 0 [(.vint .u8 (.arith .xor .u8 (.icell (tv 22) (tv 10) 0) (tv 18)))] 23 (.back 0 10 (sg 1000 [bg 1003 23,bv 1001 19,bt 1000 (.arith .add .i64 (tv 10) (tl 1)),bv 1002 12,bt 1004 (.vslice 15 (tl 0) (.dlen (tv 17)) (tv 16) 1)]))) .top))) .top))) .top)) .top)))))
 (.ret 0 (sg 7 [bg 8 13,bv 7 11]))))))))
theorem q1V:qn Tryz.prog qlw [qhH] [qzc] qvc:=qh Tryz.func124 Tryz.call124 (by kernel_rfl)
@[simp] def qlg:Sg:=sg 0 [bv 13 25,bv 12 26,bv 7 20,bv 6 21,bv 1 23,bt 14 (.icell (tv 11) (.plus (tv 8) (tv 22)) 0),bv 11 25,bt 10 (.dlen (tv 26)),bt 9 (tl 0),bg 8 24,bv 5 20,bv 4 19,bt 3 (tl 0),bg 2 18,bg 0 0]
def qn8:Out:=(.need (.cmp .lss (tl 0) (tv 3)) (.need (.cmp .lss (tl 0) (.dlen (tv 5))) (.view (.vcell (tv 5) (tl 0) 0) [CK.int .u8] [13] 14 (.need (.cmp .leq (.tims (tl 1) (.dlen (tv 16))) (tl 281474976710656)) (.fresh 17 (.need (.cmp .leq (tl 0) (tv 9)) (.inv 0 18 (sg 1000 [bt 1003 (.drep (.dlen (tv 16)) (.rcons (.vint .u8 (tl 0)) .rnil)),bv 1005 1,bt 1004 (tl 0),bt 1002 (.dlen (tv 16)),bt 1001 (.dlen (tv 16)),bg 1000 17]) (fr 18 6 (.hyp 0 18 (.br (.cmp .lss (tv 22) (tv 9))
 (.need (.cmp .leq (tl 0) (tv 22)) (.need (.cmp .leq (tl 0) (tv 8)) (.need (.cmp .leq (tl 0) (.plus (tv 8) (tv 22))) (.need (.cmp .lss (.plus (tv 8) (tv 22)) (.dlen (tv 11))) (.need (.cmp .lss (tv 22) (tv 3)) (.need (.cmp .lss (tv 22) (.dlen (tv 5))) (.view (.vcell (tv 5) (tv 22) 0) [CK.int .u8] [13] 24 (.pre 0 qlg (.both (fr 27 2 (.post 0 0 qlg 27 (.back 0 18 (sg 1000 [bv 1003 28,bv 1005 27,bt 1004 (.arith .add .i64 (tv 22) (tl 1)),bv 1002 20,bv 1001 19,bg 1000 18])))) .top)))))))))
 (.ret 0 (sg 14 [bv 18 21,bv 17 23,bv 16 20,bv 15 19,bg 14 18]))))))))))))
theorem quw:qn Tryz.prog qfi [qdG] [qoY] qn8:=qh Tryz.func153 Tryz.call153 (by kernel_rfl)
@[simp] def qnk:Sg:=sg 0 [bg 6 9,bg 5 88,bv 1 73,bt 4 (.icell (tv 85) (.plus (tv 90) (tv 89)) 0),bt 3 (.vcell (tv 7) (tv 89) 1),bt 2 (.vcell (tv 87) (tv 72) 0),bg 0 0]
def qsH:Out:=(.fresh 10 (.pre 0 (sg 0 [bv 1 1,bv 3 3,bv 2 2,bg 0 0]) (.both (fr 11 6 (.post 0 0 (sg 0 [bv 1 1,bv 3 3,bv 2 2,bg 0 0]) 11 (.fresh 17 (.need (.cmp .leq (tl 0) (tv 2)) (.need (.cmp .leq (.tims (tl 8) (tv 2)) (tl 281474976710656)) (.fresh 18 (.inv 0 19 (sg 1000 [bt 1001 (.drep (tv 2) (.rcons (.vint .i64 (tl 0)) .rnil)),bv 1008 15,bv 1007 13,bv 1006 12,bg 1005 11,bv 1003 14,bt 1002 (tl 0),bg 1000 18,bg 1004 17,bg 1010 10]) (fr 19 11 (.hyp 0 19 (.br (.cmp .lss (tv 21) (tv 2))
 (.need (.cmp .leq (tl 0) (tv 21)) (.need (.cmp .lss (tv 21) (tv 5)) (.need (.cmp .lss (tv 21) (.dlen (tv 7))) (.need (.cmp .lss (tv 21) (.dlen (tv 20))) (.back 0 19 (sg 1000 [bt 1001 (.dput (tv 20) (tv 21) 0 (.rcons (.vint .i64 (.icell (tv 7) (tv 21) 0)) .rnil)),bv 1008 27,bv 1007 26,bv 1006 25,bg 1005 24,bv 1003 22,bt 1002 (.arith .add .i64 (tv 21) (tl 1)),bg 1000 19,bg 1004 23,bg 1010 29]))))))
 (.pre 1 (sg 0 [bv 11 2,bv 10 20,bv 6 26,bv 5 27,bv 9 2,bv 8 2,bg 7 19,bv 4 26,bv 3 25,bg 2 24,bv 1 2,bv 0 3]) (.both (fr 30 4 (.post 1 0 (sg 0 [bv 11 2,bv 10 20,bv 6 26,bv 5 27,bv 9 2,bv 8 2,bg 7 19,bv 4 26,bv 3 25,bg 2 24,bv 1 2,bv 0 3]) 30 (.fresh 34 (.pre 2 (sg 0 [bv 8 32,bv 7 33,bv 1 22,bv 6 32,bv 5 31,bg 4 30,bv 3 2,bv 2 2,bg 0 0]) (.both (fr 35 5 (.post 2 0 (sg 0 [bv 8 32,bv 7 33,bv 1 22,bv 6 32,bv 5 31,bg 4 30,bv 3 2,bv 2 2,bg 0 0]) 35 (.fresh 40 (.need (.cmp .leq (.tims (tl 24) (tv 2)) (tl 281474976710656)) (.fresh 41 (.pack [.cells 34 200 [(.vint .i64 (tv 2)),(.vint .i64 (tv 2)),(.vslice 30 (tl 0) (tv 31) (tv 32) 1)],.arr 30 5 [CK.int .u8] (tv 33) (tv 32),.arr 19 3 [CK.int .i64] (tv 20) (tv 2)] 42 (.inv 1 43 (sg 1000 [bg 1018 42,bt 1017 (.drep (tv 2) (.rcons .vnils .rnil)),bv 1015 39,bv 1014 37,bv 1013 36,bg 1012 35,bv 1008 27,bv 1007 26,bv 1006 25,bg 1005 24,bv 1003 38,bt 1002 (tl 0),bg 1016 41,bg 1011 40,bg 1004 23,bg 1010 29]) (fr 43 19 (.hyp 1 43 (.br (.cmp .lss (tv 45) (tv 2))
 (.need (.cmp .lss (tl 0) (tv 5)) (.need (.cmp .lss (tl 0) (.dlen (tv 7))) (.view (.vcell (tv 7) (tl 0) 1) [CK.int .u8] [61,9] 62 (.need (.cmp .leq (.tims (tl 1) (.dlen (tv 64))) (tl 281474976710656)) (.fresh 65 (.need (.cmp .leq (tl 0) (tv 45)) (.need (.cmp .lss (tv 45) (.dlen (tv 60))) (.pre 3 (sg 0 [bv 6 57,bv 5 58,bv 7 45,bv 4 57,bv 3 56,bg 2 55,bv 1 2,bv 0 2]) (.both (fr 66 3 (.post 3 0 (sg 0 [bv 6 57,bv 5 58,bv 7 45,bv 4 57,bv 3 56,bg 2 55,bv 1 2,bv 0 2]) 66 (.need (.cmp .leq (tl 0) (tv 67)) (.pack [.arr 65 5 [CK.int .u8] (.drep (.dlen (tv 64)) (.rcons (.vint .u8 (tl 0)) .rnil)) (.dlen (tv 64)),.abs 61 2] 69 (.inv 2 70 (sg 1000 [bg 1018 69,bt 1017 (.dput (tv 60) (tv 45) 0 (.rcons (.vslice 65 (tl 0) (.dlen (tv 64)) (.dlen (tv 64)) 1) .rnil)),bv 1015 58,bv 1014 57,bv 1013 56,bv 1008 51,bv 1007 50,bv 1006 49,bg 1005 48,bv 1003 46,bt 1019 (tl 0),bv 1022 68,bv 1021 67,bv 1020 66,bg 1012 55,bv 1002 45,bg 1016 59,bg 1011 54,bg 1004 47,bg 1010 53]) (fr 70 23 (.hyp 2 70 (.br (.cmp .lss (tv 89) (tv 91))
 (.need (.cmp .leq (tl 0) (tv 89)) (.need (.cmp .leq (tl 0) (tv 90)) (.need (.cmp .leq (tl 0) (.plus (tv 90) (tv 89))) (.need (.cmp .lss (.plus (tv 90) (tv 89)) (.dlen (tv 85))) (.need (.cmp .leq (tl 0) (tv 72)) (.need (.cmp .lss (tv 72) (tv 2)) (.need (.cmp .lss (tv 72) (.dlen (tv 87))) (.need (.cmp .lss (tv 89) (tv 5)) (.need (.cmp .lss (tv 89) (.dlen (tv 7))) (.both (.pre 4 qnk (.both (fr 93 2 (.post 4 0 qnk 93 (.back 2 70 (sg 1000 [bg 1018 94,bv 1017 87,bv 1015 85,bv 1014 84,bv 1013 83,bv 1008 78,bv 1007 77,bv 1006 76,bg 1005 75,bv 1003 93,bt 1019 (.arith .add .i64 (tv 89) (tl 1)),bv 1022 92,bv 1021 91,bv 1020 90,bg 1012 82,bv 1002 72,bg 1016 86,bg 1011 81,bg 1004 74,bg 1010 80])))) .top)) .top))))))))))
 (.back 1 43 (sg 1000 [bg 1018 88,bv 1017 87,bv 1015 85,bv 1014 84,bv 1013 83,bg 1012 82,bv 1008 78,bv 1007 77,bv 1006 76,bg 1005 75,bv 1003 73,bt 1002 (.arith .add .i64 (tv 72) (tl 1)),bg 1016 86,bg 1011 81,bg 1004 74,bg 1010 80])))))))))) .top)))))))))
 (.both (.pack [.cells 53 200 [(.vint .i64 (tv 3)),(.vint .i64 (tv 2)),(.vslice 48 (tl 0) (tv 49) (tv 50) 1)],.cells 47 200 [(.vint .i64 (tv 3)),(.vint .i64 (tv 2)),(.vslice 48 (tl 0) (tv 49) (tv 50) 1)],.cells 54 200 [(.vint .i64 (tv 2)),(.vint .i64 (tv 2)),(.vslice 55 (tl 0) (tv 56) (tv 57) 1)],.arr 55 5 [CK.int .u8] (tv 58) (tv 57),.abs 61 2] 62 (.ret 0 (sg 10 [bv 17 51,bg 16 62,bv 15 60,bv 14 46,bv 13 50,bv 12 49,bg 11 48,bg 10 59]))) .top))))))))))) .top))))) .top)))))))))))) .top)))
theorem q0F:qn Tryz.prog qeF [q1b,qz8,q0i,qcd,qlw] [qux,qut,qvR 45] qsH:=qh Tryz.func111 Tryz.call111 (by kernel_rfl)
variable {k total len e e':Int} {n i:Nat} {I I':Nat->Int} {L L':Nat->Nat}
theorem q7U:qij total len I L 0:=fun j hj=>by omega
theorem q8y (h:qij total len I L i) (h1:0 <= I i/\I i < total) (h2:∀ j,j < i->I j ≠ I i) (h3:¬ (len < 0/\8192 < L i)) (h4:(L i:Int) = qeD len L):qij total len I L (i + 1):=fun j hj=>by
 by_cases hji:j = i
 ·subst hji
  exact ⟨h1,h2,fun h=>by omega,h4⟩
 ·exact h j (by omega)
theorem qqf (hi:i < n) (h:qij total len I L n) (hb:qqq total len I L i e):False:=by
 obtain ⟨a,b,c,d⟩:=h i hi
 rcases hb with ⟨h1,_⟩ | ⟨_,⟨j,h1,h2⟩,_⟩ | ⟨_,_,⟨h1,h2⟩,_⟩ | ⟨_,_,_,h1,_⟩
 ·exact h1 a
 ·exact b j h1 h2
 ·have:=c h1; omega
 ·exact h1 d
theorem q9A (h:qqq total len I L i e) (h':qqq total len I L i e'):e = e':=by
 rcases h with ⟨a,b⟩ | ⟨a,⟨j,b1,b2⟩,c⟩ | ⟨a,b,c,d⟩ | ⟨a,b,c,d,f⟩ <;> rcases h' with ⟨a',b'⟩ | ⟨a',⟨j',b1',b2'⟩,c'⟩ | ⟨a',b',c',d'⟩ | ⟨a',b',c',d',f'⟩ <;>
  first | omega | exact (a a').elim | exact (a' a).elim | exact (b' _ b1 b2).elim | exact (b _ b1' b2').elim | exact (c' c).elim | exact (c c').elim
theorem q1U (h:qrt k total len n I L e) (h':qrt k total len n I L e'):e = e':=by
 rcases h with ⟨i,hi,ho,hb⟩ | ⟨ho,hk⟩ <;> rcases h' with ⟨j,hj,ho',hb'⟩ | ⟨ho',hk'⟩
 ·rcases jdt i j with h | h | h
  ·exact (qqf h ho' hb).elim
  ·subst h; exact q9A hb hb'
  ·exact (qqf h ho hb').elim
 ·exact (qqf hi ho' hb).elim
 ·exact (qqf hj ho hb').elim
 ·omega
theorem q3K (h:qrt k total len n I L 0):qij total len I L n/\k <= (n:Int):=by
 rcases h with ⟨i,hi,ho,hb⟩ | ⟨ho,⟨_,h⟩ | ⟨h,_⟩⟩
 ·rcases hb with ⟨_,h⟩ | ⟨_,_,h⟩ | ⟨_,_,_,h⟩ | ⟨_,_,_,_,h⟩ <;> omega
 ·omega
 ·exact ⟨ho,h⟩
theorem q7J {D:qd} {m j:Nat} (hj:j < m):(qaw D m).getD j 0 = pcI D j:=by
 unfold qaw
 rw [jab,jan,jbj hj]; rfl
theorem qyq {D:qd} {m:Nat}:(qaw D m).length = m:=by simp [qaw]
theorem q2X {f:Nat->Int}:∀ {m:Nat},(∀ j,j < m->∀ j',j' < j->f j' ≠ f j)->((List.range m).map f).Nodup:=fun {m} h=>by
 rw [jfq,jd9]
 refine List.Pairwise.imp_of_mem (R:=fun a b=>a < b) (fun {a b} ha hb hlt=>?_) List.pairwise_lt_range
 exact h b (jb8.1 hb) a hlt
theorem qlL {D:qd} {L:Nat->Nat} {m:Nat} (h:qij total len (pcI D) L n) (hm:m <= n):qbo m total.toNat (qaw D m):=by
 refine ⟨qyq,q2X fun j hj j' hj'=>(h j (by omega)).2.1 j' hj',fun x hx=>?_⟩
 obtain ⟨j,hj,rfl⟩:=jbl.1 hx
 have:=(h j (by rw [jb8] at hj; omega)).1
 exact ⟨this.1,by omega⟩
end Go.Proofs
namespace Go.Proofs
open Go Go.Eng
theorem qlI {h:Hp} {D:qd} {n j:Int} (hp:qfw h D n.toNat) (h0:0 <= j) (h1:j < n):j < (D.length:Int)/\qb D j 0 = pcI D j.toNat/\∃ d,Rd h kB (qF D j 1) d/\qp d/\pcD h D j.toNat = bI d/\pcN h D j.toNat = d.length:=by
 obtain ⟨a,b,d,c,e,f⟩:=q1I hp h0 h1
 exact ⟨a,b,d,c,e,f,by rw [pcN,f,bI_len]⟩
theorem q0B {I:Nat->Int}:qpd [List.replicate 255 (.bool false)] I 0:=by
 refine ⟨⟨_,rfl,ja5 ..⟩,fun x h0 h1=>⟨fun h=>?_,fun ⟨j,hj,_⟩=>by omega⟩⟩
 exfalso
 have h2:qaq [List.replicate 255 (Value.bool false)] x.toNat = false:=by
  unfold qaq
  rw [jbp,jbg,jah (by omega)]; rfl
 rw [h2] at h; cases h
theorem q0E {s:qd} {I:Nat->Int} {i:Nat} (h:qpd s I i) (h0:0 <= I i) (h1:I i < 255):qpd (qas s (I i).toNat (.bool true)) I (i + 1):=by
 obtain ⟨⟨row,rfl,hr⟩,h2⟩:=h
 refine ⟨⟨_,rfl,by rw [jdq]; exact hr⟩,fun x x0 x1=>?_⟩
 have hc:qaq (qas [row] (I i).toNat (.bool true)) x.toNat = if x = I i then true else qaq [row] x.toNat:=by
  unfold qaq qas
  rw [jbp,jbp,jb1]
  by_cases hxe:x = I i
  ·rw [jah (by rw [hxe]),jah (by omega),jah hxe]; rfl
  ·rw [jaf (fun e=>hxe (by omega)),jaf hxe]
 rw [hc]
 by_cases hxe:x = I i
 ·rw [jah hxe]
  exact ⟨fun _=>⟨i,by omega,hxe.symm⟩,fun _=>rfl⟩
 ·rw [jaf hxe,h2 x x0 x1]
  constructor
  ·rintro ⟨j,hj,he⟩; exact ⟨j,by omega,he⟩
  ·rintro ⟨j,hj,he⟩
   refine ⟨j,?_,he⟩
   by_cases hji:j = i
   ·exact (hxe (by rw [<- he,hji])).elim
   ·omega
theorem qpT:qeE.ok Tryz.prog:=q07 (by simp) fun Z hg hp=>by
 obtain ⟨p1,p2,p3,hpc⟩:=hp
 simp (config:={ maxSteps:=4000000 }) [qr7,qeE,qtj,qw9,okR]
 refine ⟨p2,⟨p2,q7U,q0B⟩,fun i _ s _ i0 i1 ho hs=>⟨fun hi=>?_,fun hi=>?_⟩⟩
 ·obtain ⟨hl,hI,d,hr,_,_,hL⟩:=qlI hpc i0 hi
  have bad:∀ e,qqq (Z 1).i (Z 2).i (pcI (Z 6).d) (pcN (Z 8).h (Z 6).d) i.i.toNat e->qrt (Z 0).i (Z 1).i (Z 2).i (Z 4).i.toNat (pcI (Z 6).d) (pcN (Z 8).h (Z 6).d) e:=fun e hb=>.inl ⟨i.i.toNat,by omega,ho,hb⟩
  rw [hI]
  refine ⟨i0,by omega,fun h=>bad _ (.inl ⟨by omega,rfl⟩),fun h0=>⟨fun h=>bad _ (.inl ⟨by omega,rfl⟩),fun h1=>?_⟩⟩
  have hsx:=hs.2 _ h0 (by omega)
  refine ⟨h0,by omega,by obtain ⟨⟨row,e,_⟩,_⟩:=hs; rw [e]; exact Nat.one_pos,fun hx=>bad _ (.inr (.inl ⟨⟨h0,h1⟩,hsx.1 hx,rfl⟩)),fun hx=>?_⟩
  have hno:∀ j,j < i.i.toNat->pcI (Z 6).d j ≠ pcI (Z 6).d i.i.toNat:=fun j hj he=>by
   rw [hsx.2 ⟨j,hj,he⟩] at hx; cases hx
  have next:¬ ((Z 2).i < 0/\8192 < pcN (Z 8).h (Z 6).d i.i.toNat)->(pcN (Z 8).h (Z 6).d i.i.toNat:Int) = qeD (Z 2).i (pcN (Z 8).h (Z 6).d) ->
    (0 <= qe .add .i64 i.i 1/\qe .add .i64 i.i 1 <= (Z 4).i/\qij (Z 1).i (Z 2).i (pcI (Z 6).d) (pcN (Z 8).h (Z 6).d) (qe .add .i64 i.i 1).toNat/\qpd (qas s.d (pcI (Z 6).d i.i.toNat).toNat (.bool true)) (pcI (Z 6).d) (qe .add .i64 i.i 1).toNat)/\max ((Z 4).i - qe .add .i64 i.i 1) 0 < (Z 4).i - i.i:=fun h3 h4=>by
   rw [add64 (by omega) (by omega),show (i.i + 1).toNat = i.i.toNat + 1 by omega]
   exact ⟨⟨by omega,by omega,q8y ho ⟨h0,h1⟩ hno h3 h4,q0E hs h0 (by omega)⟩,by omega⟩
  refine ⟨fun hneg=>⟨d,hr,fun h=>bad _ (.inr (.inr (.inl ⟨⟨h0,h1⟩,hno,⟨hneg,by omega⟩,rfl⟩))),fun h=>?_⟩,fun hpos=>⟨d,hr,fun h=>bad _ (.inr (.inr (.inr ⟨⟨h0,h1⟩,hno,fun h=>by omega,?_,rfl⟩))),fun h=>next (fun h=>by omega) ?_⟩⟩
  ·obtain ⟨hl0,_,d0,hr0,_,_,hL0⟩:=qlI hpc (j:=0) (by omega) (by omega)
   have hw:qeD (Z 2).i (pcN (Z 8).h (Z 6).d) = (d0.length:Int):=by
    unfold qeD
    rw [jah hneg]
    exact congrArg Nat.cast hL0
   refine ⟨by omega,by omega,d0,hr0,d,hr,fun hne=>bad _ (.inr (.inr (.inr ⟨⟨h0,h1⟩,hno,fun h=>by omega,?_,rfl⟩))),fun he=>next (fun h=>by omega) ?_⟩
   ·rw [hw,hL]; exact hne
   ·rw [hw,hL]; exact he
  ·unfold qeD
   rw [jaf (by omega),hL]; exact h
  ·unfold qeD
   rw [jaf (by omega),hL]; exact h
 ·rw [show i.i.toNat = (Z 4).i.toNat by omega] at ho
  exact ⟨fun h=>.inr ⟨ho,.inl ⟨by omega,rfl⟩⟩,fun h=>.inr ⟨ho,.inr ⟨by omega,rfl⟩⟩⟩
theorem q6F {h:Hp} {v:Value} (hb:rdB h v):∃ d,Rd h kB v d/\qp d/\rdL h v = bI d:=by
 obtain ⟨d,hr,hB⟩:=hb
 exact ⟨d,hr,hB,qf0 hr⟩
theorem qpC {h:Hp} {v:Value} {g:List Int->List Int} (hg:∀ l,qo l->g l = l):qkz h h v g:=fun vs n M i ht hi hv =>
 qiG ht (fun _ _=>rfl) fun j hj=>by
  by_cases hji:j = i
  ·rw [jah hji,hji,hg _ (q3C ht hi)]
  ·rw [jaf hji]
theorem q4S {h h':Hp} {v:Value} {g:List Int->List Int} {l:Nat} (ht:q3v h v l) (hT:qkz h h' v g) (hg:∀ x,(g x).length = x.length):∃ d,Rd h' kB v d/\qp d/\l <= d.length:=by
 obtain ⟨vs,n,M,i,ht,hi,hv,hl⟩:=ht
 obtain ⟨d,hr,hd,hB⟩:=qoE (hT vs n M i ht hi hv) hi
 rw [hv] at hr
 rw [jah rfl] at hd
 exact ⟨d,hr,hB,by rw [<- bI_len,hd,hg]; exact hl⟩
theorem q1j {h h1 h2:Hp} {v:Value} {s:List Int} {w:Int} {k:Nat} {r:Option Addr} {d:qd} {cap:Nat} {x:Int} (hT:qkz h h1 v fun l=>qE l 0 (seg s 0 k) w) (hP:Put h1 h2 r kB d k [.int .u8 x]) (hv:v = .slice (qm r 0) d.length cap) (hr:Rd h1 kB v d) (hk:k < d.length) (hks:k < s.length)
  (hx:x = qgR (qb d k 0) (qc4 w (s.getD k 0))):qkz h h2 v fun l=>qE l 0 (seg s 0 (k + 1)) w:=fun vs n M i ht hi hvi=>by
 have t:=hT vs n M i ht hi hvi
 have hri:Rd h1 kB (vs i) d:=by rw [hvi]; exact hr
 obtain ⟨d',r',e',_⟩:=qoE t hi
 obtain rfl:=qiv r' hri
 rw [jah rfl] at e'
 have hlen:d'.length = (M i).length:=by rw [<- bI_len,e',qb7]
 have hc:(M i)[0 + k]? = some (qb d' k 0):=by
  have h0:=qf5 (d:=d') (i:=(k:Int)) (by omega) (by omega)
  rw [jav,e',qgX (by right; rw [qdm (by omega)]; omega)] at h0
  rw [jbr]; exact h0
 have hy:s[0 + k]? = some (s.getD k 0):=by
  rw [jbr,jac hks,jab,jac hks]; rfl
 refine qiG (q8l t hi hP (by rw [hvi]; exact hv) hri hk (by rw [hx]; exact qfl)) (fun _ _=>rfl) fun j _=>?_
 by_cases hji:j = i
 ·subst hji
  rw [jah rfl,jah rfl,jah rfl,hx]
  show qE (M j) 0 (seg s 0 (k + 1)) w = (qE (M j) 0 (seg s 0 k) w).set k _
  have h:=qju (i:=k) (c:=w) hc hy
  simp only [jbr] at h
  exact h
 ·rw [jaf hji,jaf hji,jaf hji]
theorem q3r:qlw.ok Tryz.prog:=q1V (by simp [qpp]) fun Z hg hp=>by
 obtain ⟨hf,hb,hl,hh,hw⟩:=hp
 simp (config:={ maxSteps:=4000000 }) [qvc,qlw,qzc,qhH]
 obtain ⟨s,hrs,hsB,hs⟩:=q6F hb
 have hsl:(rdL (Z 6).h (Z 3).v).length = s.length:=by rw [hs,bI_len]
 refine ⟨fun h0=>⟨hf,qpC fun l hl=>by rw [h0]; exact qjp hl⟩,fun h0=>⟨s,hrs,fun u0 _ u1 _ e0 _=>⟨⟨hf,by rw [hsl],e0.symm,qpC fun l hl=>by rw [show seg (rdL (Z 6).h (Z 3).v) 0 0 = [] by simp [seg],qk6]⟩,?_⟩⟩⟩
 intro i _ f _ n _ H _ v _ hf i0 i1 hn hv hT
 have hlen:∀ (k:Nat) (x:List Int),(qE x 0 (seg (rdL (Z 6).h (Z 3).v) 0 k) (Z 4).i).length = x.length:=fun k x=>qb7
 refine ⟨fun hi=>⟨s,by rw [hv]; exact hrs,fun u2 _ u3 _ e1 _=>⟨i0,by omega,?_⟩⟩,fun hi=>⟨hf,?_⟩⟩
 ·obtain ⟨d,hrd,hdB,hld⟩:=q4S hh hT (hlen _)
  have hsb:=qbM hsB i0 (by omega:i.i < s.length)
  rw [add64 (x:=i.i) (by omega) (by omega)]
  have hsi:(rdL (Z 6).h (Z 3).v).getD i.i.toNat 0 = qb s i.i 0:=by rw [hs,qd9 i0 (by omega)]
  have core:∀ (a b m H':U),(Z 2).v = .slice (qm a.r 0) d.length b.i.toNat->m.i = qc4 (Z 4).i (qb s i.i 0)->Put H.h H'.h a.r kB d i.i.toNat [.int .u8 (qe .xor .u8 (qb d i.i 0) m.i)] ->
    qkz (Z 5).h H'.h (Z 2).v fun l=>qE l 0 (seg (rdL (Z 6).h (Z 3).v) 0 (i.i + 1).toNat) (Z 4).i:=fun a b m H' ea hm hP=>by
   rw [show (i.i + 1).toNat = i.i.toNat + 1 by omega]
   exact q1j hT hP ea hrd (by omega) (by omega) (by rw [hsi,hm,jay i0]; rfl)
  refine ⟨⟨d,hrd,fun a _ b _ ea _=>⟨by omega,⟨hf,hw.1,hw.2,hsb⟩,fun m _ f' _ hf' hm H' _ hP=>?_⟩⟩,⟨hf,hw.1,hw.2,hsb⟩,fun m _ f' _ hf' hm=>⟨d,hrd,fun a _ b _ ea _=>⟨by omega,fun H' _ hP=>?_⟩⟩⟩
  all_goals exact ⟨⟨hf',by omega,by omega,hn,by rw [<- e1]; exact hv,core a b m H' ea hm hP⟩,by omega⟩
 ·have:seg (rdL (Z 6).h (Z 3).v) 0 i.i.toNat = rdL (Z 6).h (Z 3).v:=by
   unfold seg
   rw [jdv,jar (by omega)]
  rw [this] at hT
  exact hT
def byF (r:F) (y:Nat->F):Nat->F:=fun l=>(if l = 0 then 0 else y (l - 1)) ^^^ qg r (y l)
theorem qki {y:Nat->F} {x:F}:qA 1 y x = y 0:=by
 show (0:F) ^^^ qg (y 0) (qaG x 0) = y 0
 rw [qat,show qaG x 0 = 1 from rfl,qbc]
theorem qwx {r x:F} {y:Nat->F}:∀ n,qA (n + 1) (byF r y) x = qg (x ^^^ r) (qA n y x) ^^^ qg (qg r (y n)) (qaG x n)
 | 0=>by rw [qki,byF,jah rfl,qat,show qA 0 y x = 0 from rfl,q9,qat,show qaG x 0 = 1 from rfl,qbc]
 | n + 1=>by
  have ih:=qwx (r:=r) (x:=x) (y:=y) n
  have h1:qA (n + 2) (byF r y) x = qA (n + 1) (byF r y) x ^^^ qg (byF r y (n + 1)) (qaG x (n + 1)):=rfl
  have h2:qA (n + 1) y x = qA n y x ^^^ qg (y n) (qaG x n):=rfl
  rw [h1,ih,h2,byF,jaf (by omega),jc8,qhB,qce (x:=y n)]
  have h3:qg (x ^^^ r) (qg (y n) (qaG x n)) = qg (y n) (qaG x (n + 1)) ^^^ qg (qg r (y n)) (qaG x n):=by
   rw [qce,qaG]
   congr 1
   ·rw [<- qQ,qaf (x:=x),qQ]
    try rw [qaf (x:=x)]
   ·rw [qQ]
  rw [h3]
  generalize qg (x ^^^ r) (qA n y x) = a
  generalize qg (qg r (y n)) (qaG x n) = b
  generalize qg (y n) (qaG x (n + 1)) = c
  generalize qg (qg r (y (n + 1))) (qaG x (n + 1)) = d
  rw [jbn,jbn,jbn]
  congr 1
  rw [<- jbn,<- jbn,jc0 b c]
theorem qqZ {r x:F} {y:Nat->F} {n:Nat} (h:y n = 0):qA (n + 1) (byF r y) x = qg (x ^^^ r) (qA n y x):=by
 rw [qwx,h,q9,qB,qae]
theorem qsB {y:Nat->F} {x:F} {n:Nat} (h:∀ l,n <= l->y l = 0):∀ m,qA (n + m) y x = qA n y x
 | 0=>rfl
 | m + 1=>by
  show qA (n + m) y x ^^^ qg (y (n + m)) (qaG x (n + m)) = _
  rw [qsB h m,h _ (by omega),qB,qae]
theorem qoj {y z:Nat->F} {x:F} {n:Nat}:qA n (fun l=>y l ^^^ z l) x = qA n y x ^^^ qA n z x:=by
 simp only [qA]
 rw [<- qgc]
 exact qj fun j _=>qce
theorem quS {y:Nat->F} {x c:F} {n:Nat}:qA n (fun l=>qg c (y l)) x = qg c (qA n y x):=by
 simp only [qA]
 rw [<- qcL]
 exact qj fun j _=>qQ
def ddF (xs ys:Nat->F):Nat->Nat->F
 | s,0=>ys s
 | s,j + 1=>qg (ddF xs ys (s + 1) j ^^^ ddF xs ys s j) (qet (xs (s + j + 1) ^^^ xs s))
theorem qhp {n:Nat} {xs ys:Nat->F} (hd:qbz n xs):∀ j s,s + j < n->∃ y:Nat->F,(∀ l,j < l->y l = 0)/\(∀ i,i <= j->qA (j + 1) y (xs (s + i)) = ys (s + i))/\y j = ddF xs ys s j
 | 0,s,hs=>⟨fun l=>if l = 0 then ys s else 0,fun l hl=>jaf (by omega),fun i hi=>by
   obtain rfl:i = 0:=by omega
   rw [qki,jah rfl,jci],rfl⟩
 | j + 1,s,hs=>by
  obtain ⟨y1,a1,b1,c1⟩:=qhp (ys:=ys) hd j (s + 1) (by omega)
  obtain ⟨y0,a0,b0,c0⟩:=qhp (ys:=ys) hd j s (by omega)
  have hne:xs (s + j + 1) ^^^ xs s ≠ 0:=fun h=>by have:=hd _ _ (by omega) (by omega) (qe3.1 h); omega
  let w:F:=qet (xs (s + j + 1) ^^^ xs s)
  have hv:∀ x,qA (j + 2) (fun l=>qg w (byF (xs s) y1 l ^^^ byF (xs (s + j + 1)) y0 l)) x = qg w (qg (x ^^^ xs s) (qA (j + 1) y1 x) ^^^ qg (x ^^^ xs (s + j + 1)) (qA (j + 1) y0 x)):=fun x=>by
   rw [quS,qoj,qqZ (a1 _ (by omega)),qqZ (a0 _ (by omega))]
  refine ⟨fun l=>qg w (byF (xs s) y1 l ^^^ byF (xs (s + j + 1)) y0 l),fun l hl=>?_,fun i hi=>?_,?_⟩
  ·simp only [byF]
   rw [jaf (by omega),jaf (by omega),a1 l (by omega),a0 l (by omega),a1 (l - 1) (by omega),a0 (l - 1) (by omega),q9,q9,qa7,q9]
  ·rw [hv]
   have hw:∀ z,qg w (qg (xs (s + j + 1) ^^^ xs s) z) = z:=fun z=>by
    rw [<- qQ,qaf (x:=w),qiK hne,qfY]
   by_cases h0:i = 0
   ·subst h0
    have hb0:=b0 0 (by omega)
    simp only [jci] at hb0
    rw [jci,qa7,qB,qat,hb0,jc0,hw]
   ·by_cases h1:i = j + 1
    ·subst h1
     have:=b1 j (ja4 _)
     rw [show s + 1 + j = s + (j + 1) by omega] at this
     rw [this,<- jco,qa7,qB,qae,hw]
    ·have h2:=b1 (i - 1) (by omega)
     rw [show s + 1 + (i - 1) = s + i by omega] at h2
     rw [h2,b0 i (by omega),<- qce,qon,qa7,qat,jc0,hw]
  ·simp only [byF]
   rw [jaf (by omega),jaf (by omega),a1 (j + 1) (by omega),a0 (j + 1) (by omega),q9,q9,qae,qae,jc8,c1,c0,qaf]
   rfl
def qmr (xs:Nat->F):Nat->Nat->F
 | 0=>fun l=>if l = 0 then 1 else 0
 | m + 1=>byF (xs m) (qmr xs m)
theorem qsI {xs:Nat->F}:∀ m,(∀ l,m < l->qmr xs m l = 0)/\qmr xs m m = 1/\∀ x,qA (m + 1) (qmr xs m) x = qbK (fun u=>x ^^^ xs u) m
 | 0=>⟨fun l hl=>jaf (by omega),rfl,fun x=>by rw [qki]; rfl⟩
 | m + 1=>by
  obtain ⟨h1,h2,h3⟩:=qsI (xs:=xs) m
  refine ⟨fun l hl=>?_,?_,fun x=>?_⟩
  ·simp only [qmr,byF]
   rw [jaf (by omega),h1 (l - 1) (by omega),h1 l (by omega),q9,qae]
  ·simp only [qmr,byF]
   rw [jaf (by omega),jc8,h2,h1 (m + 1) (by omega),q9,qae]
  ·rw [qmr,qqZ (h1 _ (by omega)),h3,qbK,qaf]
def qzv (xs ys:Nat->F) (x:F) (m:Nat):F:=q6 (fun t=>qg (ddF xs ys 0 t) (qbK (fun u=>x ^^^ xs u) t)) m
theorem qsa {n:Nat} {xs ys:Nat->F} (hd:qbz n xs):∀ m,m < n->∃ y:Nat->F,(∀ l,m < l->y l = 0)/\(∀ i,i <= m->qA (m + 1) y (xs i) = ys i)/\∀ x,qA (m + 1) y x = qzv xs ys x (m + 1)
 | 0,hm=>by
  obtain ⟨y,a,b,c⟩:=qhp (ys:=ys) hd 0 0 (by omega)
  refine ⟨y,a,fun i hi=>by have:=b i hi; simp only [jbr] at this ⊢; exact this,fun x=>?_⟩
  rw [qki,c]
  show ys 0 = (0:F) ^^^ qg (ys 0) 1
  rw [qat,qbc]
 | m + 1,hm=>by
  obtain ⟨y0,a0,b0,c0⟩:=qsa (ys:=ys) hd m (by omega)
  obtain ⟨y,a,b,c⟩:=qhp (ys:=ys) hd (m + 1) 0 (by omega)
  obtain ⟨p1,p2,p3⟩:=qsI (xs:=xs) (m + 1)
  refine ⟨y,a,fun i hi=>by have:=b i hi; rwa [jbr] at this,fun x=>?_⟩
  let R:Nat->F:=fun l=>(y l ^^^ y0 l) ^^^ qg (ddF xs ys 0 (m + 1)) (qmr xs (m + 1) l)
  have hRv:∀ x,qA (m + 2) R x = (qA (m + 2) y x ^^^ qA (m + 1) y0 x) ^^^ qg (ddF xs ys 0 (m + 1)) (qbK (fun u=>x ^^^ xs u) (m + 1)):=fun x=>by
   rw [<- p3,<- quS,<- qsB (y:=y0) (n:=m + 1) (fun l hl=>a0 l (by omega)) 1,<- qoj,<- qoj]
  have hRt:R (m + 1) = 0:=by
   simp only [R]
   rw [c,a0 (m + 1) (by omega),p2,qbc,qae,qa7]
  have hRe:∀ x,qA (m + 1) R x = qA (m + 2) R x:=fun x=>by
   show _ = qA (m + 1) R x ^^^ qg (R (m + 1)) (qaG x (m + 1))
   rw [hRt,qB,qae]
  have h0:=qkI (n:=m + 1) (y:=R) (xs:=xs) (fun i j hi hj=>hd i j (by omega) (by omega)) fun i hi=>by
   rw [hRe,hRv,b0 i (by omega)]
   have:=b i (by omega)
   rw [jbr] at this
   rw [this,qa7,qat,qqr (k:=i) hi qa7,q9]
  have hz:qA (m + 1) R x = 0:=qct fun l hl=>by rw [h0 l hl,qB]
  rw [hRe,hRv] at hz
  have h1:qzv xs ys x (m + 2) = qzv xs ys x (m + 1) ^^^ qg (ddF xs ys 0 (m + 1)) (qbK (fun u=>x ^^^ xs u) (m + 1)):=rfl
  rw [h1,<- c0 x]
  have h2:=qe3.1 hz
  rw [<- h2,<- jbn,jc0,<- jbn,qa7,qat]
theorem qcS {f:Nat->List Int} {w:List Int} {l:Nat} (hw:qo w):∀ k,(∀ j,j < k->(f j).length = l/\qo (f j))->(qaW f w l k).length = l/\qo (qaW f w l k)/\∀ c,c < l->toF ((qaW f w l k).getD c 0) = q6 (fun m=>qg (toF (w.getD m 0)) (toF ((f m).getD c 0))) k
 | 0,_=>⟨by simp [qaW],fun x hx=>by rw [qaW] at hx; rw [jc1 hx]; exact ⟨by omega,by omega⟩,fun c hc=>by
   rw [qaW,jab,jbg,jah hc]; rfl⟩
 | k + 1,h=>by
  obtain ⟨h1,h2,h3⟩:=qcS hw k fun j hj=>h j (by omega)
  obtain ⟨f1,f2⟩:=h k (by omega)
  have hsl:seg (f k) 0 l = f k:=by rw [<- f1]; simp [seg]
  rw [qaW,hsl]
  refine ⟨by rw [qb7,h1],qdC h2,fun c hc=>?_⟩
  rw [jab,qb9,jac (by omega),jaw,ja0,jah ⟨by omega,by omega⟩,jeb,qke,qhT (qam hw _) (qam f2 _),q6,<- h3 c hc,jab (l:=qaW f w l k),jac (by omega),ja0]
theorem q1X {f g:Nat->List Int} {w v:List Int} {l k:Nat} (hw:qo w) (hv:qo v) (hf:∀ j,j < k->(f j).length = l/\qo (f j)) (hg:∀ j,j < k->(g j).length = l/\qo (g j))
  (h:∀ c,c < l->q6 (fun m=>qg (toF (w.getD m 0)) (toF ((f m).getD c 0))) k = q6 (fun m=>qg (toF (v.getD m 0)) (toF ((g m).getD c 0))) k):qaW f w l k = qaW g v l k:=by
 obtain ⟨a1,a2,a3⟩:=qcS hw k hf
 obtain ⟨b1,b2,b3⟩:=qcS hv k hg
 refine qe6 (by omega) fun c hc=>qjE (qam a2 c) (qam b2 c) ?_
 rw [a3 c (by omega),b3 c (by omega),h c (by omega)]
theorem qtA {rs:List Int} {x:Int} {j:Nat} (hj:j < rs.length):toF ((qdw rs x).getD j 0) = qcN rs.length (fun m=>toF (rs.getD m 0)) (toF x) j:=by
 unfold qdw
 rw [jab,jan,jbj hj,jaw,ja0,qjA]
theorem qfS {xs:List Int} {x:Int}:qo (qdw xs x):=fun y hy=>by
 obtain ⟨m,_,rfl⟩:=jbl.1 hy
 exact qj7
variable {k total:Nat} {rs:List Int}
theorem qiR (hc:qbo k total rs) {j:Nat} (hj:j < k):toF (rs.getD j 0) = xsF (rs.getD j 0).toNat:=by
 have h1:=hc.1
 have h2:=hc.2.2 (rs.getD j 0) (qfF (by omega))
 unfold xsF
 rw [jay h2.1]
theorem qjq (hc:qbo k total rs) (ht:total <= 255):qbz k fun m=>toF (rs.getD m 0):=fun i j hi hj he=>by
 refine qi0 hc ht i j hi hj ?_
 simp only [qiR hc hi,qiR hc hj] at he
 exact he
theorem qlN {xs v:Nat->F} (h1:1 <= k) (hd:qbz k xs):∃ y:Nat->F,(∀ i,i < k->qA k y (xs i) = v i)/\∀ x,qA k y x = q6 (fun j=>qg (qcN k xs x j) (v j)) k:=by
 obtain ⟨y,_,hy,_⟩:=qsa (ys:=v) hd (k - 1) (by omega)
 rw [show k - 1 + 1 = k by omega] at hy
 refine ⟨y,fun i hi=>hy i (by omega),fun x=>?_⟩
 rw [qik hd]
 exact qj fun j hj=>by rw [hy j (by omega)]
theorem q3D (hc:qbo k total rs) (h1:1 <= k) (hk:k <= total) (ht:total <= 255) (v:Nat->F) {i:Nat} (hi:i < k) :
    q6 (fun j=>qg (q7 k (qji total k rs) i j) (v j)) k = q6 (fun j=>qg (qcN k (fun m=>toF (rs.getD m 0)) (xsF i) j) (v j)) k:=by
  obtain ⟨y,hy,hL⟩:=qlN (v:=v) h1 (qjq hc ht)
  obtain ⟨g1,g2,_,g4⟩:=qck h1 hk ht
  have hlen:=qog hc g1
  have hr:=qwm hc h1 hk ht
  obtain ⟨t2,he⟩:=qmO hlen (ql1 g2)
  rw [hr] at he
  obtain ⟨m1,_⟩:=qqA he
  have hS:∀ j,j < k->∀ m,m < k->q7 k (qcF (qbm k total) k rs) j m = qcN k xsF (toF (rs.getD j 0)) m:=fun j hj m hm=>by
    have hrj:=hc.2.2 (rs.getD j 0) (qfF (by rw [hc.1]; exact hj))
    unfold q7
    rw [qqW g1 hc.2.2 (by rw [hc.1]; exact hj) hm,qiR hc hj,<- g4 (rs.getD j 0).toNat m (by omega) hm]
    rfl
  have hx:qbz k xsF:=qc1 (by omega)
  rw [<- hL]
  calc q6 (fun j=>qg (q7 k (qji total k rs) i j) (v j)) k
      = q6 (fun j=>q6 (fun m=>qg (qg (q7 k (qji total k rs) i j) (q7 k (qcF (qbm k total) k rs) j m)) (qA k y (xsF m))) k) k:=by
        refine qj fun j hj=>?_
        rw [<- hy j hj,qik hx (x:=toF (rs.getD j 0)),<- qcL]
        exact qj fun m hm=>by rw [hS j hj m hm,qQ]
    _ = q6 (fun m=>qg (del m i) (qA k y (xsF m))) k:=by
        rw [qeS]
        refine qj fun m hm=>?_
        rw [qd7,qtJ]
        congr 1
        exact m1 i m hi hm
    _ = qA k y (xsF i):=qnL (f:=fun m=>qA k y (xsF m)) hi
theorem qy4 {m:List Int} {i j:Nat} (hj:j < k):toF ((seg m (i * k) k).getD j 0) = q7 k m i j:=by
 unfold q7 seg
 rw [jab,jbf,jah hj,jbe,jab]
theorem qs0 (hc:qbo k total rs) (h1:1 <= k) (hk:k <= total) (ht:total <= 255):(qji total k rs).length = k * k/\qo (qji total k rs):=by
 obtain ⟨g1,g2,_,_⟩:=qck h1 hk ht
 obtain ⟨t2,_⟩:=qmO (qog hc g1) (ql1 g2)
 exact ⟨t2.lb,t2.bb⟩
theorem qvI {l:List Int} {o n:Nat} (h:qo l):qo (seg l o n):=fun x hx=>h x (jb4 (jbv hx))
theorem qyI (hc:qbo k total rs) (h1:1 <= k) (hk:k <= total) (ht:total <= 255) {f:Nat->List Int} {l i:Nat} (hf:∀ j,j < k->(f j).length = l/\qo (f j)) (hi:i < k) :
  qaW f (seg (qji total k rs) (i * k) k) l k = qaW f (qdw rs (i:Int)) l k:=by
 refine q1X (qvI (qs0 hc h1 hk ht).2) qfS hf hf fun c hcl=>?_
 rw [qj fun m hm=>by rw [qy4 hm],q3D hc h1 hk ht _ hi]
 exact qj fun m hm=>by rw [qtA (by rw [hc.1]; exact hm),hc.1]; rfl
theorem q4t (hc:qbo k total rs) (h1:1 <= k) (hk:k <= total) (ht:total <= 255) {f:Nat->List Int} {l r:Nat} (hf:∀ j,j < k->(f j).length = l/\qo (f j)) (hr:r < total) {g:Nat->List Int} (hg:∀ i,i < k->g i = qaW f (qdw rs (i:Int)) l k) :
  qaW g (seg (qbm k total) (r * k) k) l k = qaW f (qdw rs (r:Int)) l k:=by
 obtain ⟨g1,g2,_,g4⟩:=qck h1 hk ht
 have hgf:∀ i,i < k->(g i).length = l/\qo (g i):=fun i hi=>by
  obtain ⟨a,b,_⟩:=qcS (qfS (xs:=rs) (x:=(i:Int))) k hf
  rw [hg i hi]; exact ⟨a,b⟩
 refine q1X (qvI g2) qfS hgf hf fun c hcl=>?_
 obtain ⟨y,hy,hL⟩:=qlN (v:=fun j=>toF ((f j).getD c 0)) h1 (qjq hc ht)
 have hx:qbz k xsF:=qc1 (by omega)
 have hv:∀ x:Int,q6 (fun m=>qg (toF ((qdw rs x).getD m 0)) (toF ((f m).getD c 0))) k = qA k y (toF x):=fun x=>by
  rw [hL]
  exact qj fun m hm=>by rw [qtA (by rw [hc.1]; exact hm),hc.1]
 rw [hv,show toF ((r:Nat):Int) = xsF r from rfl,qik hx]
 refine qj fun m hm=>?_
 rw [qy4 hm,g4 r m hr hm,hg m hm,(qcS qfS k hf).2.2 c hcl,hv]
 rfl
end Go.Proofs
namespace Go.Proofs
open Go Go.Eng
theorem qvp {h:Hp} {D:qd} {j:Int} (hb:rdB h (tvs D j.toNat)) (j0:0 <= j):∃ d,Rd h kB (qF D j 0) d/\qp d/\qa2 h D j.toNat = bI d:=by
 rw [qqp j0] at hb
 obtain ⟨d,hr,hB,he⟩:=q6F hb
 exact ⟨d,hr,hB,by rw [qa2,qqp j0,he]⟩
set_option maxHeartbeats 1000000 in
theorem qwl:qfi.ok Tryz.prog:=quw (by simp [qla]) fun Z hg hp=>by
 obtain ⟨hf,k1,k2,kd,hr1,h9,w0,w1,wB,hcol,l9⟩:=hp
 simp (config:={ maxSteps:=4000000 }) [qn8,qfi,qoY,qdG]
 obtain ⟨d0,hrd0,hdB0,hc0⟩:=qvp (hcol 0 (by omega)).1 (j:=0) (by omega)
 have hc0:qa2 (Z 13).h (Z 5).d 0 = bI d0:=hc0
 have hl0:(qa2 (Z 13).h (Z 5).d 0).length = d0.length:=by rw [hc0,bI_len]
 refine ⟨by omega,by omega,d0,hrd0,by omega,by omega,⟨hf,by omega,hl0.symm,qcU,by rw [qib,hl0]; rfl⟩,fun n _ d _ i _ f _ hf' i0 i1 hn hdl hB hd=>⟨fun hi=>?_,fun hi=>⟨hf',hn,hdl,hB,by rw [hd,show i.i.toNat = (Z 3).i.toNat by omega]⟩⟩⟩
 obtain ⟨e,hre,heB,hce⟩:=qvp (hcol i.i.toNat (by omega)).1 (j:=i.i) i0
 have hle:e.length = d0.length:=by
  have:=(hcol i.i.toNat (by omega)).2
  rw [hce,bI_len,hl0] at this
  exact this
 have hcb:=qbM wB (i:=(Z 8).i + i.i) (by omega) (by omega)
 rw [add64 (x:=i.i) (by omega) (by omega)]
 refine ⟨i0,w0,by omega,by omega,by omega,by omega,e,hre,⟨hf',⟨by omega,by omega,by omega,by unfold Go.Eng.big; omega⟩,⟨by omega,by omega,by omega,by unfold Go.Eng.big; omega⟩,by omega,hB,heB,hcb⟩,fun f2 _ d2 _ hf2 hl2 hB2 he2=>⟨⟨hf2,by omega,by omega,by omega,by omega,hB2,?_⟩,by omega⟩⟩
 have hsg:seg (bI e) 0 e.length = seg (qa2 (Z 13).h (Z 5).d i.i.toNat) 0 (qa2 (Z 13).h (Z 5).d 0).length:=by rw [hce,hl0,hle]
 have hwt:(seg (bI (Z 11).d) (Z 8).i.toNat (Z 3).i.toNat).getD i.i.toNat 0 = qb (Z 11).d ((Z 8).i + i.i) 0:=by
  rw [qvm (by omega),<- qd9 (by omega) (by omega),jdz w0 i0]
 rw [he2,hd,hsg,show (i.i + 1).toNat = i.i.toNat + 1 by omega,qaW,hwt]
end Go.Proofs
