/- Texts W2, W3, WD, CN, CO, YB, ZSq, YC, CP, W4, WC, YD, YE, YG, YK, W5, W6, YM, YR, CQ, CR, YS, W7, YU, YV, YW, CS, W9, V3, VT, VZ, VW, CT, CW, V4, VM. -/
import Derived.Test.YtelcnkclppkicaaGreatDoorG7
import Derived.Test.YtelcnkclppkicaaGreatDoorG5
import Derived.Test.YtelcnkclppkicaaGreatDoorG4
import Derived.Test.YtelcnkclppkicaaGreatDoorProg
import Derived.Test.YtelcnkclppkicaaGreatDoorG6
set_option linter.unusedSimpArgs false
set_option linter.unusedVariables false
namespace Go.Proofs
open Go Go.Eng

def hornF (x:F):List F→F
 | []=>0
 | c :: l=>fmul (hornF x l) x ^^^ c
theorem horn_nil {x:F}:hornF x [] = 0:=rfl
theorem horn_one {x c:F}:hornF x [c] = c:=by rw [hornF,horn_nil,zero_fmul,zero_xor']
def divL (r:F):List F→List F
 | []=>[]
 | [_]=>[]
 | _ :: c' :: l=>hornF r (c' :: l) :: divL r (c' :: l)
theorem divL_len {r:F}:∀ {l:List F},(divL r l).length = l.length - 1
 | []=>rfl
 | [_]=>rfl
 | _ :: c' :: l=>by simp only [divL,List.length_cons,divL_len (l:=c' :: l)]; omega
theorem horn_div {x r:F}:∀ {l:List F},hornF x l ^^^ hornF r l = fmul (x ^^^ r) (hornF x (divL r l))
 | []=>by rw [divL,horn_nil,horn_nil,xor_self',fmul_zero]
 | [c]=>by rw [divL,horn_one,horn_one,horn_nil,xor_self',fmul_zero]
 | c :: c' :: l=>by
  have ih:=horn_div (x:=x) (r:=r) (l:=c' :: l)
  rw [divL,show hornF x (c :: c' :: l) = fmul (hornF x (c' :: l)) x ^^^ c from rfl,show hornF r (c :: c' :: l) = fmul (hornF r (c' :: l)) r ^^^ c from rfl]
  conv=>rhs; rw [hornF]
  have h1:∀ a b d:F,a ^^^ b = fmul (x ^^^ r) d→fmul a x ^^^ c ^^^ (fmul b r ^^^ c) = fmul (x ^^^ r) (fmul d x ^^^ b):=fun a b d h=>by
   rw [xor_swap,xor_self',xor_zero',xor_fmul (z:=x ^^^ r),← fmul_assoc,← h,fmul_xor,fmul_comm (x:=x ^^^ r),xor_fmul,← BitVec.xor_assoc,xor_cancelF]
  exact h1 _ _ _ ih
theorem div_zero {r:F}:∀ {l:List F} {c:F},(∀ y ∈ divL r (c :: l),y = 0)→∀ y ∈ l,y = 0
 | [],_,_=>by simp
 | c' :: l,c,h=>by
  simp only [divL,List.mem_cons,forall_eq_or_imp] at h
  have ht:=div_zero (l:=l) (c:=c') h.2
  have hh:hornF r l = 0:=by
   clear h
   induction l with
   | nil=>rfl
   | cons a l ih=>rw [hornF,ih fun y hy=>ht y (List.mem_cons_of_mem _ hy),zero_fmul,ht a (List.mem_cons_self ..),xor_zero']
  have h1:=h.1
  rw [hornF,hh,zero_fmul,zero_xor'] at h1
  intro y hy
  rcases List.mem_cons.1 hy with rfl | hy
  ·exact h1
  ·exact ht y hy
theorem horn_zero {x:F}:∀ {l:List F},(∀ y ∈ l,y = 0)→hornF x l = 0
 | [],_=>rfl
 | a :: l,h=>by rw [hornF,horn_zero fun y hy=>h y (List.mem_cons_of_mem _ hy),zero_fmul,h a (List.mem_cons_self ..),xor_zero']
def distinct (n:Nat) (xs:Nat→F):Prop:=∀ i j,i < n→j < n→xs i = xs j→i = j
theorem roots_zero {xs:Nat→F}:∀ {n:Nat} {l:List F},l.length ≤ n→distinct n xs→(∀ i,i < n→hornF (xs i) l = 0)→∀ y ∈ l,y = 0
 | 0,l,hl,_,_=>by
  have:l = []:=List.eq_nil_of_length_eq_zero (by omega)
  rw [this]; simp
 | n + 1,[],_,_,_=>by simp
 | n + 1,c :: t,hl,hd,hr=>by
  simp only [List.length_cons] at hl
  have hq:=roots_zero (n:=n) (l:=divL (xs n) (c :: t)) (by rw [divL_len,List.length_cons]; omega) (fun i j hi hj=>hd i j (by omega) (by omega)) fun i hi=>by
   have h:=horn_div (x:=xs i) (r:=xs n) (l:=c :: t)
   rw [hr i (by omega),hr n (by omega),xor_self'] at h
   rcases fmul_eq_zero.1 h.symm with h1 | h1
   ·have:=hd i n (by omega) (by omega) (xor_eq_zero.1 h1); omega
   ·exact h1
  have ht:=div_zero hq
  have h1:=hr n (by omega)
  rw [hornF,horn_zero ht,zero_fmul,zero_xor'] at h1
  intro y hy
  rcases List.mem_cons.1 hy with rfl | hy
  ·exact h1
  ·exact ht y hy
def pval (n:Nat) (y:Nat→F) (x:F):F:=fsum (fun j=>fmul (y j) (fpow x j)) n
theorem horn_snoc {x c:F}:∀ {l:List F},hornF x (l ++ [c]) = hornF x l ^^^ fmul c (fpow x l.length)
 | []=>by rw [List.nil_append,horn_one,horn_nil,zero_xor',List.length_nil,fpow,fmul_one]
 | a :: l=>by
  rw [List.cons_append,hornF,horn_snoc (l:=l),hornF,fmul_xor,List.length_cons,fpow,BitVec.xor_assoc,BitVec.xor_assoc,fmul_assoc,BitVec.xor_comm a]
theorem horn_pval {y:Nat→F} {x:F}:∀ n,hornF x ((List.range n).map y) = pval n y x
 | 0=>rfl
 | n + 1=>by
  rw [List.range_succ,List.map_append,List.map_cons,List.map_nil,horn_snoc,horn_pval n]
  simp [pval,fsum]
theorem pval_roots {n:Nat} {y:Nat→F} {xs:Nat→F} (hd:distinct n xs) (h:∀ i,i < n→pval n y (xs i) = 0):∀ j,j < n→y j = 0:=fun j hj=>by
 have:=roots_zero (l:=(List.range n).map y) (by simp) hd (fun i hi=>by rw [horn_pval]; exact h i hi) (y j)
 exact this (List.mem_map.2 ⟨j,List.mem_range.2 hj,rfl⟩)
theorem horn_getD {x:F} {l:List F} {n:Nat} (hl:l.length ≤ n):hornF x l = pval n (fun j=>l.getD j 0) x:=by
 have h1:∀ m,pval (l.length + m) (fun j=>l.getD j 0) x = pval l.length (fun j=>l.getD j 0) x:=fun m=>by
  induction m with
  | zero=>rfl
  | succ m ih =>
   rw [← Nat.add_assoc,pval,fsum]
   rw [show fsum (fun j=>fmul (l.getD j 0) (fpow x j)) (l.length + m) = pval (l.length + m) (fun j=>l.getD j 0) x from rfl,ih]
   rw [show l.getD (l.length + m) 0 = 0 by rw [List.getD_eq_getElem?_getD,List.getElem?_eq_none (by omega)]; rfl,zero_fmul,xor_zero']
 rw [show n = l.length + (n - l.length) by omega,h1,← horn_pval]
 congr 1
 apply List.ext_getElem?
 intro j
 by_cases hj:j < l.length
 ·simp [List.getElem?_range hj,List.getD_eq_getElem?_getD,List.getElem?_eq_getElem hj]
 ·simp [hj]

def fprod (f:Nat→F):Nat→F
 | 0=>1
 | n + 1=>fmul (fprod f n) (f n)
theorem fprod_congr {f g:Nat→F} {n:Nat} (h:∀ i,i < n→f i = g i):fprod f n = fprod g n:=by
 induction n with
 | zero=>rfl
 | succ n ih=>rw [fprod,fprod,ih fun i hi=>h i (by omega),h n (by omega)]
theorem fprod_ne {f:Nat→F} {n:Nat} (h:∀ i,i < n→f i ≠ 0):fprod f n ≠ 0:=by
 induction n with
 | zero=>exact (by decide:(1:F) ≠ 0)
 | succ n ih=>exact fmul_ne_zero (ih fun i hi=>h i (by omega)) (h n (by omega))
theorem fprod_zero {f:Nat→F} {n k:Nat} (hk:k < n) (h:f k = 0):fprod f n = 0:=by
 induction n with
 | zero=>omega
 | succ n ih =>
  rw [fprod]
  by_cases hkn:k = n
  ·rw [← hkn,h,fmul_zero]
  ·rw [ih (by omega),zero_fmul]
theorem fprod_out {f:Nat→F} {n k:Nat} (hk:k < n):fprod f n = fmul (f k) (fprod (fun m=>if m = k then 1 else f m) n):=by
 induction n with
 | zero=>omega
 | succ n ih =>
  rw [fprod,fprod]
  by_cases hkn:k = n
  ·subst hkn
   rw [if_pos rfl,fmul_one,fmul_comm,fprod_congr (g:=fun m=>if m = k then 1 else f m) fun i hi=>by rw [if_neg (by omega)]]
  ·rw [ih (by omega),if_neg (by omega),fmul_assoc]
def byGo (r:F):F→List F→List F
 | p,[]=>[p]
 | p,c :: l=>(p ^^^ fmul r c) :: byGo r c l
theorem byGo_len {r:F}:∀ {p:F} {l:List F},(byGo r p l).length = l.length + 1
 | _,[]=>rfl
 | _,c :: l=>by simp [byGo,byGo_len]
theorem byGo_horn {r x:F}:∀ {p:F} {l:List F},hornF x (byGo r p l) = p ^^^ fmul (x ^^^ r) (hornF x l)
 | p,[]=>by rw [byGo,horn_one,horn_nil,fmul_zero,xor_zero']
 | p,c :: l=>by
  rw [byGo,hornF,byGo_horn,hornF,fmul_xor,xor_fmul,BitVec.xor_comm _ (p ^^^ fmul r c),BitVec.xor_assoc,fmul_xor (x:=x) (y:=r) (z:=c),← fmul_assoc]
  congr 1
  rw [fmul_comm (x:=c) (y:=x),← BitVec.xor_assoc,BitVec.xor_comm (fmul r c),BitVec.xor_comm]
theorem prod_poly (xs:Nat→F) (i:Nat):∀ n,∃ l:List F,l.length = (if i < n then n else n + 1)∧∀ x,hornF x l = fprod (fun m=>if m = i then 1 else x ^^^ xs m) n
 | 0=>⟨[1],by simp,fun x=>by rw [horn_one,fprod]⟩
 | n + 1=>by
  obtain ⟨l,h1,h2⟩:=prod_poly xs i n
  by_cases hn:n = i
  ·subst hn
   refine ⟨l,by rw [h1]; simp,fun x=>by rw [h2,fprod,if_pos rfl,fmul_one]⟩
  ·refine ⟨byGo (xs n) 0 l,?_,fun x=>?_⟩
   ·rw [byGo_len,h1]; split <;> split <;> omega
   ·rw [byGo_horn,h2,fprod,if_neg hn,zero_xor',fmul_comm]
def lagF (n:Nat) (xs:Nat→F) (x:F) (i:Nat):F:=fmul (fprod (fun m=>if m = i then 1 else x ^^^ xs m) n) (finv (fprod (fun m=>if m = i then 1 else xs i ^^^ xs m) n))
theorem lag_del {n:Nat} {xs:Nat→F} (hd:distinct n xs) {i k:Nat} (hi:i < n) (hk:k < n):lagF n xs (xs k) i = del i k:=by
 unfold lagF del
 by_cases hik:i = k
 ·subst hik
  rw [if_pos rfl,fmul_finv]
  refine fprod_ne fun m hm=>?_
  split
  ·decide
  ·rename_i hmi
   exact fun h=>hmi (hd i m hi hm (xor_eq_zero.1 h)).symm
 ·rw [if_neg hik,fprod_zero (k:=k) hk (by rw [if_neg (Ne.symm hik)]; exact xor_self'),zero_fmul]
theorem lagrange {n:Nat} {xs:Nat→F} (hd:distinct n xs) {y:Nat→F} {x:F}:pval n y x = fsum (fun i=>fmul (lagF n xs x i) (pval n y (xs i))) n:=by
 have hex:∀ i,∃ l:Nat→F,i < n→∀ x,pval n l x = lagF n xs x i:=fun i=>by
  obtain ⟨l,h1,h2⟩:=prod_poly xs i n
  refine ⟨fun j=>fmul (l.getD j 0) (finv (fprod (fun m=>if m = i then 1 else xs i ^^^ xs m) n)),fun hi x=>?_⟩
  rw [lagF,← h2 x,horn_getD (n:=n) (by rw [h1,if_pos hi]; exact Nat.le_refl _),pval,pval,← fsum_mul']
  refine fsum_congr fun j _=>?_
  rw [fmul_assoc,fmul_comm (x:=finv _),← fmul_assoc]
 let lc:Nat→Nat→F:=fun i=>(hex i).choose
 have hlc:∀ i,i < n→∀ x,pval n (lc i) x = lagF n xs x i:=fun i hi=>(hex i).choose_spec hi
 let S:Nat→F:=fun j=>y j ^^^ fsum (fun i=>fmul (pval n y (xs i)) (lc i j)) n
 have hS:∀ x,pval n S x = pval n y x ^^^ fsum (fun i=>fmul (lagF n xs x i) (pval n y (xs i))) n:=fun x=>by
  have h1:pval n S x = pval n y x ^^^ fsum (fun j=>fsum (fun i=>fmul (pval n y (xs i)) (fmul (lc i j) (fpow x j))) n) n:=by
   simp only [pval]
   rw [← fsum_xor]
   refine fsum_congr fun j _=>?_
   simp only [S]
   rw [fmul_xor]
   congr 1
   rw [← fsum_mul']
   exact fsum_congr fun i _=>fmul_assoc
  rw [h1,fsum_swap]
  congr 1
  refine fsum_congr fun i hi=>?_
  rw [fsum_mul,← hlc i hi x,fmul_comm]
  rfl
 have h0:=pval_roots (y:=S) hd fun k hk=>by
  rw [hS,fsum_congr fun i hi=>by rw [lag_del hd hi hk],fsum_del (f:=fun i=>pval n y (xs i)) hk,xor_self']
 have:=hS x
 rw [show pval n S x = 0 from fsum_zero fun j hj=>by rw [h0 j hj,zero_fmul]] at this
 exact xor_eq_zero.1 this.symm
theorem vander_inj {n:Nat} {xs:Nat→F} (hd:distinct n xs) {y:Nat→F} (h:∀ i,i < n→fsum (fun j=>fmul (fpow (xs i) j) (y j)) n = 0):∀ j,j < n→y j = 0 :=
 pval_roots hd fun i hi=>by
  rw [pval,← h i hi]
  exact fsum_congr fun j _=>fmul_comm
end Go.Proofs

set_option linter.unusedSimpArgs false
set_option linter.unusedVariables false
namespace Go.Proofs
open Go Go.Eng

def bytesL (l:List Int):Prop:=∀ x ∈ l,isB x
theorem bytesL_get {l:List Int} (h:bytesL l) (i:Nat):isB (l.getD i 0):=by
 rw [List.getD_eq_getElem?_getD]
 by_cases hi:i < l.length
 ·rw [List.getElem?_eq_getElem hi]; exact h _ (List.getElem_mem hi)
 ·rw [List.getElem?_eq_none (by omega)]; exact ⟨by simp,by simp⟩
def matL (ca:Nat) (l:List Int):Mat:=fun i j=>toF (l.getD (i * ca + j) 0)
def augL (ca cb:Nat) (a b:List Int):Mat:=fun i j=>if j < ca then matL ca a i j else matL cb b i (j - ca)
theorem row_in {i i' ca j:Nat} (hj:j < ca):(i * ca ≤ i' * ca + j∧i' * ca + j < i * ca + ca)↔i' = i:=by
 constructor
 ·intro ⟨h1,h2⟩
  rcases Nat.lt_trichotomy i' i with h | h | h
  ·have:=Nat.mul_le_mul_right ca (show i' + 1 ≤ i by omega)
   rw [Nat.add_mul,Nat.one_mul] at this; omega
  ·exact h
  ·have:=Nat.mul_le_mul_right ca (show i + 1 ≤ i' by omega)
   rw [Nat.add_mul,Nat.one_mul] at this; omega
 ·rintro rfl; omega
theorem cell_lt {i r ca j:Nat} (hi:i < r) (hj:j < ca):i * ca + j < r * ca:=by
 have:=Nat.mul_le_mul_right ca (show i + 1 ≤ r by omega)
 rw [Nat.add_mul,Nat.one_mul] at this; omega
theorem row_le {i r ca:Nat} (hi:i < r):i * ca + ca ≤ r * ca:=by
 have:=Nat.mul_le_mul_right ca (show i + 1 ≤ r by omega)
 rwa [Nat.add_mul,Nat.one_mul] at this
theorem addToL_bytes {l s:List Int} {off:Nat} {c:Int} (h:bytesL l):bytesL (addToL l off s c):=fun x hx=>by
 obtain ⟨i,hi⟩:=List.getElem?_of_mem hx
 rw [addToL_get] at hi
 obtain ⟨y,hy,rfl⟩:=Option.map_eq_some_iff.1 hi
 split
 ·exact xorB_isB
 ·exact h y (List.mem_of_getElem? hy)
theorem scaleL_bytes {l:List Int} {off n:Nat} {c:Int} (h:bytesL l) (hc:isB c):bytesL (scaleL l off n c):=fun x hx=>by
 obtain ⟨i,hi⟩:=List.getElem?_of_mem hx
 rw [scaleL_get] at hi
 obtain ⟨y,hy,rfl⟩:=Option.map_eq_some_iff.1 hi
 have:=h y (List.mem_of_getElem? hy)
 split
 ·exact mulF_isB this hc
 ·exact this
theorem matL_add {ca r i p:Nat} {a:List Int} {g:Int} (ha:a.length = r * ca) (hb:bytesL a) (hg:isB g) (hi:i < r) (hp:p < r) {i' j:Nat} (hi':i' < r) (hj:j < ca) :
  matL ca (addToL a (i * ca) (seg a (p * ca) ca) g) i' j = if i' = i then matL ca a i j ^^^ fmul (toF g) (matL ca a p j) else matL ca a i' j:=by
 have hlt:=cell_lt hi' hj
 have hsl:(seg a (p * ca) ca).length = ca:=seg_len (by rw [ha]; exact row_le hp)
 unfold matL
 rw [List.getD_eq_getElem?_getD,addToL_get,List.getElem?_eq_getElem (by omega),Option.map_some,Option.getD_some,hsl]
 by_cases he:i' = i
 ·subst he
  rw [if_pos ⟨by omega,by omega⟩,if_pos rfl,show i' * ca + j - i' * ca = j by omega]
  have hs:(seg a (p * ca) ca).getD j 0 = a.getD (p * ca + j) 0:=by
   rw [List.getD_eq_getElem?_getD,seg_get,if_pos hj,List.getD_eq_getElem?_getD]
  rw [hs,toF_xorB,toF_mulF hg (bytesL_get hb _),List.getD_eq_getElem?_getD (l:=a) (i:=i' * ca + j),List.getElem?_eq_getElem (by omega),Option.getD_some]
 ·rw [if_neg (fun h=>he ((row_in hj).1 h)),if_neg he,List.getD_eq_getElem?_getD,List.getElem?_eq_getElem (by omega),Option.getD_some]
theorem matL_scale {ca r i:Nat} {a:List Int} {g:Int} (ha:a.length = r * ca) (hb:bytesL a) (hg:isB g) (hi:i < r) {i' j:Nat} (hi':i' < r) (hj:j < ca) :
  matL ca (scaleL a (i * ca) ca g) i' j = if i' = i then fmul (matL ca a i j) (toF g) else matL ca a i' j:=by
 have hlt:=cell_lt hi' hj
 unfold matL
 rw [List.getD_eq_getElem?_getD,scaleL_get,List.getElem?_eq_getElem (by omega),Option.map_some,Option.getD_some]
 by_cases he:i' = i
 ·subst he
  rw [if_pos ⟨by omega,by omega⟩,if_pos rfl,List.getD_eq_getElem?_getD,List.getElem?_eq_getElem (by omega),Option.getD_some,toF_mulF (hb _ (List.getElem_mem _)) hg]
 ·rw [if_neg (fun h=>he ((row_in hj).1 h)),if_neg he,List.getD_eq_getElem?_getD,List.getElem?_eq_getElem (by omega),Option.getD_some]
structure Two (r ca cb:Nat) (a b:List Int):Prop where
 la:a.length = r * ca
 lb:b.length = r * cb
 ba:bytesL a
 bb:bytesL b
variable {r ca cb:Nat} {a b:List Int}
theorem Two.add (h:Two r ca cb a b) {i p:Nat} {g:Int}:Two r ca cb (addToL a (i * ca) (seg a (p * ca) ca) g) (addToL b (i * cb) (seg b (p * cb) cb) g) :=
 ⟨by rw [addToL_len,h.la],by rw [addToL_len,h.lb],addToL_bytes h.ba,addToL_bytes h.bb⟩
theorem Two.scale (h:Two r ca cb a b) {i:Nat} {g:Int} (hg:isB g):Two r ca cb (scaleL a (i * ca) ca g) (scaleL b (i * cb) cb g) :=
 ⟨by rw [scaleL_len,h.la],by rw [scaleL_len,h.lb],scaleL_bytes h.ba hg,scaleL_bytes h.bb hg⟩
theorem aug_add (h:Two r ca cb a b) {i p:Nat} {g:Int} (hg:isB g) (hi:i < r) (hp:p < r) {i' j:Nat} (hi':i' < r) (hj:j < ca + cb) :
  augL ca cb (addToL a (i * ca) (seg a (p * ca) ca) g) (addToL b (i * cb) (seg b (p * cb) cb) g) i' j = if i' = i then augL ca cb a b i j ^^^ fmul (toF g) (augL ca cb a b p j) else augL ca cb a b i' j:=by
 unfold augL
 by_cases hjc:j < ca
 ·simp only [if_pos hjc]; exact matL_add h.la h.ba hg hi hp hi' hjc
 ·simp only [if_neg hjc]; exact matL_add h.lb h.bb hg hi hp hi' (by omega)
theorem aug_scale (h:Two r ca cb a b) {i:Nat} {g:Int} (hg:isB g) (hi:i < r) {i' j:Nat} (hi':i' < r) (hj:j < ca + cb) :
  augL ca cb (scaleL a (i * ca) ca g) (scaleL b (i * cb) cb g) i' j = if i' = i then fmul (augL ca cb a b i j) (toF g) else augL ca cb a b i' j:=by
 unfold augL
 by_cases hjc:j < ca
 ·simp only [if_pos hjc]; exact matL_scale h.la h.ba hg hi hi' hjc
 ·simp only [if_neg hjc]; exact matL_scale h.lb h.bb hg hi hi' (by omega)
theorem aug_left {c i:Nat} (hc:c < ca):augL ca cb a b i c = toF (a.getD (i * ca + c) 0):=by rw [augL,if_pos hc,matL]
theorem piv_facts (a:List Int) (ca c:Nat):∀ n p,p ≤ pivF a ca c p n∧pivF a ca c p n ≤ p + n∧(pivF a ca c p n < p + n→a.getD (pivF a ca c p n * ca + c) 0 ≠ 0)∧∀ i,p ≤ i→i < pivF a ca c p n→a.getD (i * ca + c) 0 = 0
 | 0,p=>by simp only [pivF]; exact ⟨Nat.le_refl _,Nat.le_refl _,fun h=>by omega,fun i h1 h2=>by omega⟩
 | n + 1,p=>by
  obtain ⟨h1,h2,h3,h4⟩:=piv_facts a ca c n (p + 1)
  simp only [pivF]
  split
  ·rename_i hz
   refine ⟨by omega,by omega,fun h=>h3 (by omega),fun i hi1 hi2=>?_⟩
   by_cases hip:i = p
   ·rw [hip]; exact hz
   ·exact h4 i (by omega) hi2
  ·rename_i hz
   exact ⟨Nat.le_refl _,by omega,fun _=>hz,fun i h1 h2=>by omega⟩
theorem Two.rows (h:Two r ca cb a b) {rank c:Nat}:∀ i,Two r ca cb (elimRows ca cb rank c a b i).1 (elimRows ca cb rank c a b i).2
 | 0=>h
 | i + 1=>by
  have ih:=Two.rows h (rank:=rank) (c:=c) i
  simp only [elimRows]
  split
  ·exact ih
  ·exact ih.add
theorem aug_rows (h:Two r ca cb a b) {rank c:Nat} (hr:rank < r) (hc:c < ca):∀ i,i ≤ r →
  (∀ i' j,i' < r→j < ca + cb→augL ca cb (elimRows ca cb rank c a b i).1 (elimRows ca cb rank c a b i).2 i' j = if i' < i∧i' ≠ rank then augL ca cb a b i' j ^^^ fmul (augL ca cb a b i' c) (augL ca cb a b rank j) else augL ca cb a b i' j) ∧
  Same r (ca + cb) (augL ca cb a b) (augL ca cb (elimRows ca cb rank c a b i).1 (elimRows ca cb rank c a b i).2)
 | 0,_=>⟨fun i' j _ _=>by rw [if_neg (by omega)]; rfl,Same.refl⟩
 | i + 1,hi=>by
  obtain ⟨ih,ihs⟩:=aug_rows h hr hc i (by omega)
  have hT:=h.rows (rank:=rank) (c:=c) i
  simp only [elimRows]
  by_cases hir:i = rank
  ·rw [if_pos hir]
   refine ⟨fun i' j hi' hj=>?_,ihs⟩
   rw [ih i' j hi' hj]
   by_cases h1:i' < i∧i' ≠ rank
   ·rw [if_pos h1,if_pos ⟨by omega,h1.2⟩]
   ·rw [if_neg h1,if_neg (by omega)]
  ·rw [if_neg hir]
   simp only
   have hg:=bytesL_get hT.ba (i * ca + c)
   have hgv:toF ((elimRows ca cb rank c a b i).1.getD (i * ca + c) 0) = augL ca cb a b i c:=by
    rw [← aug_left (cb:=cb) (b:=(elimRows ca cb rank c a b i).2) hc,ih i c (by omega) (by omega),if_neg (by omega)]
   have hstep:=fun i' j (hi':i' < r) (hj:j < ca + cb)=>aug_add hT (g:=(elimRows ca cb rank c a b i).1.getD (i * ca + c) 0) hg (show i < r by omega) hr hi' hj
   refine ⟨fun i' j hi' hj=>?_,ihs.trans (same_add (i:=i) (p:=rank) (g:=toF ((elimRows ca cb rank c a b i).1.getD (i * ca + c) 0)) (by omega) hr hir (fun j hj=>by rw [hstep i j (by omega) hj,if_pos rfl]) fun a' ha' hne j hj=>by rw [hstep a' j ha' hj,if_neg hne])⟩
   rw [hstep i' j hi' hj]
   by_cases he:i' = i
   ·subst he
    rw [if_pos rfl,hgv,ih i' j hi' hj,if_neg (by omega),ih rank j hr hj,if_neg (by omega),if_pos ⟨by omega,hir⟩]
   ·rw [if_neg he,ih i' j hi' hj]
    by_cases h1:i' < i∧i' ≠ rank
    ·rw [if_pos h1,if_pos ⟨by omega,h1.2⟩]
    ·rw [if_neg h1,if_neg (by omega)]
theorem elim_step {T0:Mat} {c rank:Nat} (h2:Two r ca cb a b) (h:Ech r (ca + cb) T0 (augL ca cb a b) c rank) (hc:c < ca) :
  Two r ca cb (elimStep r ca cb c (a,b,rank)).1 (elimStep r ca cb c (a,b,rank)).2.1∧Ech r (ca + cb) T0 (augL ca cb (elimStep r ca cb c (a,b,rank)).1 (elimStep r ca cb c (a,b,rank)).2.1) (c + 1) (elimStep r ca cb c (a,b,rank)).2.2:=by
 unfold elimStep
 simp only
 by_cases hr:r ≤ rank
 ·rw [if_pos hr]
  exact ⟨h2,ech_skip h (by omega) fun i (h1:rank ≤ i) h3=>by omega⟩
 rw [if_neg hr]
 obtain ⟨p1,p2,p3,p4⟩:=piv_facts a ca c (r - rank) rank
 by_cases hp:pivF a ca c rank (r - rank) = r
 ·rw [if_pos hp]
  refine ⟨h2,ech_skip h (by omega) fun i (h1:rank ≤ i) h3=>?_⟩
  rw [aug_left hc,p4 i h1 (by omega)]; rfl
 rw [if_neg hp]
 simp only
 generalize hpv:pivF a ca c rank (r - rank) = p at p1 p2 p3 p4 hp
 have hpr:p < r:=by omega
 have hnz:=p3 (by omega)
 have hmid:elimMid r ca cb c (a,b,rank) = scaleR ca cb rank c (swapR ca cb rank p a b).1 (swapR ca cb rank p a b).2:=by
  unfold elimMid; simp only [hpv]
 -- the pivot's row is added
 have h1:Two r ca cb (swapR ca cb rank p a b).1 (swapR ca cb rank p a b).2∧Same r (ca + cb) (augL ca cb a b) (augL ca cb (swapR ca cb rank p a b).1 (swapR ca cb rank p a b).2) ∧
   augL ca cb (swapR ca cb rank p a b).1 (swapR ca cb rank p a b).2 rank c ≠ 0∧(∀ i j,i < r→j < ca + cb→i ≠ rank→augL ca cb (swapR ca cb rank p a b).1 (swapR ca cb rank p a b).2 i j = augL ca cb a b i j) ∧
   ∀ c',c' < c→augL ca cb (swapR ca cb rank p a b).1 (swapR ca cb rank p a b).2 rank c' = 0:=by
  have hpc:augL ca cb a b p c ≠ 0:=by
   rw [aug_left hc]
   intro h0
   exact hnz ((toF_eq_zero (bytesL_get h2.ba _)).1 h0)
  unfold swapR
  by_cases hpe:p = rank
  ·rw [if_pos hpe]
   exact ⟨h2,Same.refl,by rw [← hpe]; exact hpc,fun _ _ _ _ _=>rfl,fun c' hc'=>h.low rank (Nat.le_refl _) (by omega) c' hc'⟩
  ·rw [if_neg hpe]
   have hst:=fun i' j (hi':i' < r) (hj:j < ca + cb)=>aug_add h2 (g:=1) ⟨by omega,by omega⟩ (show rank < r by omega) hpr hi' hj
   have h1:toF 1 = 1:=rfl
   refine ⟨h2.add,same_add (i:=rank) (p:=p) (g:=toF 1) (by omega) hpr (Ne.symm hpe) (fun j hj=>by simp only; rw [hst rank j (by omega) hj,if_pos rfl]) (fun a' ha' hne j hj=>by simp only; rw [hst a' j ha' hj,if_neg hne]),?_,fun i j hi hj hne=>by simp only; rw [hst i j hi hj,if_neg hne],fun c' hc'=>?_⟩
   ·simp only
    rw [hst rank c (by omega) (by omega),if_pos rfl,h1,one_fmul]
    rw [aug_left hc (i:=rank),p4 rank (Nat.le_refl _) (by omega),toF_zero,zero_xor']
    exact hpc
   ·simp only
    rw [hst rank c' (by omega) (by omega),if_pos rfl,h1,one_fmul,h.low rank (Nat.le_refl _) (by omega) c' hc',h.low p (by omega) hpr c' hc',xor_zero']
 rw [hmid]
 generalize swapR ca cb rank p a b = s1 at h1
 obtain ⟨t1,same1,nz1,oth1,low1⟩:=h1
 -- it is scaled
 have hgB:=invF_isB (bytesL_get t1.ba (rank * ca + c))
 have hgv:toF (invF (s1.1.getD (rank * ca + c) 0)) = finv (augL ca cb s1.1 s1.2 rank c):=by rw [toF_invF (bytesL_get t1.ba _),aug_left hc]
 have t2:Two r ca cb (scaleR ca cb rank c s1.1 s1.2).1 (scaleR ca cb rank c s1.1 s1.2).2:=t1.scale hgB
 have hsc:∀ i j,i < r→j < ca + cb→augL ca cb (scaleR ca cb rank c s1.1 s1.2).1 (scaleR ca cb rank c s1.1 s1.2).2 i j = if i = rank then fmul (augL ca cb s1.1 s1.2 rank j) (finv (augL ca cb s1.1 s1.2 rank c)) else augL ca cb s1.1 s1.2 i j:=fun i j hi hj=>by
  rw [← hgv]
  exact aug_scale t1 hgB (by omega) hi hj
 generalize scaleR ca cb rank c s1.1 s1.2 = s2 at t2 hsc
 have same2:Same r (ca + cb) (augL ca cb s1.1 s1.2) (augL ca cb s2.1 s2.2):=same_mul (i:=rank) (g:=finv (augL ca cb s1.1 s1.2 rank c)) (by omega) (finv_ne nz1) (fun j hj=>by rw [hsc rank j (by omega) hj,if_pos rfl]) fun a' ha' hne j hj=>by rw [hsc a' j ha' hj,if_neg hne]
 have one2:augL ca cb s2.1 s2.2 rank c = 1:=by rw [hsc rank c (by omega) (by omega),if_pos rfl,fmul_finv nz1]
 have low2:∀ c',c' < c→augL ca cb s2.1 s2.2 rank c' = 0:=fun c' hc'=>by rw [hsc rank c' (by omega) (by omega),if_pos rfl,low1 c' hc',zero_fmul]
 have oth2:∀ i j,i < r→j < ca + cb→i ≠ rank→augL ca cb s2.1 s2.2 i j = augL ca cb a b i j:=fun i j hi hj hne=>by rw [hsc i j hi hj,if_neg hne,oth1 i j hi hj hne]
 -- the others are cleared
 obtain ⟨r3,same3⟩:=aug_rows t2 (rank:=rank) (c:=c) (by omega) hc r (Nat.le_refl _)
 refine ⟨t2.rows r,ech_step h (by omega) (by omega) ((same1.trans same2).trans same3) (fun i hi=>?_) fun c' hc' i hi=>?_⟩
 ·rw [r3 i c hi (by omega),one2,fmul_one]
  by_cases hir:i = rank
  ·rw [if_neg (by omega),hir,one2,del,if_pos rfl]
  ·rw [if_pos ⟨hi,hir⟩,xor_self',del,if_neg hir]
 ·rw [r3 i c' hi (by omega),low2 c' hc',fmul_zero,xor_zero']
  by_cases hir:i = rank
  ·rw [if_neg (by omega),hir,low2 c' hc',h.low rank (Nat.le_refl _) (by omega) c' hc']
  ·rw [if_pos ⟨hi,hir⟩,oth2 i c' hi (by omega) hir]
theorem elim_ech (h:Two r ca cb a b):∀ c,c ≤ ca→Two r ca cb (elimN r ca cb a b c).1 (elimN r ca cb a b c).2.1∧Ech r (ca + cb) (augL ca cb a b) (augL ca cb (elimN r ca cb a b c).1 (elimN r ca cb a b c).2.1) c (elimN r ca cb a b c).2.2
 | 0,_=>⟨h,ech_start⟩
 | c + 1,hc=>by
  obtain ⟨h1,h2⟩:=elim_ech h c (by omega)
  rw [elimN]
  exact elim_step h1 h2 (by omega)
end Go.Proofs

set_option linter.unusedSimpArgs false
set_option linter.unusedVariables false
namespace Go.Proofs
open Go Go.Eng
theorem allB_of {d:Rows'} (h:bytesL (bI d)):allB d:=fun row hr=>h (rowI row 0) (List.mem_map.2 ⟨row,hr,rfl⟩)
theorem bytesOf_eq {d:Rows'}:bytesOf d = (bI d).map fun x=>UInt8.ofNat x.toNat:=by
 simp only [bytesOf,bI,List.map_map]
 exact List.map_congr_left fun r hr=>rfl
end Go.Proofs

set_option linter.unusedSimpArgs false
set_option linter.unusedVariables false
namespace Go.Proofs
open Go Go.Eng
set_option maxRecDepth 20000
end Go.Proofs

set_option linter.unusedSimpArgs false
set_option linter.unusedVariables false
set_option maxRecDepth 100000
namespace Go.Proofs
open Go Go.Eng

@[simp] def o_ofPiece_1:Sg:=sg 0 [bv 6 7,bv 4 11,bt 3 (.dapp (.dapp (.rcons (.vint .u8 (.conv .u8 (.arith .shr .i64 (.var 0) (.lit 8)))) .rnil) (.rcons (.vint .u8 (.conv .u8 (.var 0))) .rnil)) (.dtake (.var 4) (.var 2))),bv 2 11,bt 1 (.plus (.lit 2) (.var 2)),bg 0 10,bg 5 6]
def o_ofPiece:Out:=(.fresh 8 (.fresh 9 (.need (.cmp .leq (.lit 0) (.var 2)) (.need (.cmp .leq (.var 2) (.dlen (.var 4))) (.need (.cmp .leq (.tims (.lit 1) (.plus (.lit 2) (.var 2))) (.lit 140737488355328)) (.fresh 10 (.fresh 11 (.pre 0 o_ofPiece_1 (.both (.fresh 12 (.post 0 0 o_ofPiece_1 12 (.ret 0 (sg 8 [bt 8 (r8 12)])))) .top)))))))))
theorem o_ofPiece_eq:treeOf ⟨Tryz.prog,ofPieceC,[sumRC],[]⟩ 100000 Tryz.f127 = o_ofPiece:=by kernel_rfl
theorem ofPiece_of (hd:∀ c ∈ ([sumRC]:List Ctr),c.ok Tryz.prog) (h:∀ ρ:Env,ρ.good→(ofPieceC).pre ρ→o_ofPiece.den ⟨Tryz.prog,ofPieceC,[sumRC],[]⟩ ρ):(ofPieceC).ok Tryz.prog :=
 ok_of_tree Tryz.func127 (fun a w=>Tryz.call127 a w) hd 100000 (fun ρ hg hp=>by rw [o_ofPiece_eq]; exact h ρ hg hp)
def o_checkP:Out:=(.fresh 18 (.fresh 19 (.pre 0 (sg 0 [bv 9 9,bv 8 8,bv 7 7,bv 6 6,bg 5 5,bv 3 3,bv 2 2,bv 1 1,bv 0 0,bt 4 (r8 4)]) (.both (.fresh 20 (.post 0 0 (sg 0 [bv 9 9,bv 8 8,bv 7 7,bv 6 6,bg 5 5,bv 3 3,bv 2 2,bv 1 1,bv 0 0,bt 4 (r8 4)]) 20 (.br (.cmp .neq (.var 20) (.lit 0))
 (.ret 0 (sg 18 [bv 18 20]))
 (.br (.cmp .lss (.var 10) (.lit 0))
 (.ret 0 (sg 18 [bt 18 (.lit 2)]))
 (.br (.cmp .geq (.var 10) (.var 2))
 (.ret 0 (sg 18 [bt 18 (.lit 2)]))
 (.pre 1 (sg 0 [bv 1 3,bv 0 0]) (.both (.fresh 21 (.fresh 22 (.post 1 0 (sg 0 [bv 1 3,bv 0 0]) 21 (.need (.cmp .leq (.lit 0) (.var 12)) (.br (.cmp .neq (.var 12) (.var 21))
 (.ret 0 (sg 18 [bt 18 (.lit 10)]))
 (.need (.cmp .leq (.lit 0) (.var 10)) (.need (.cmp .lss (.var 10) (.var 6)) (.need (.cmp .lss (.var 10) (.dlen (.var 8))) (.both (.pre 2 (sg 0 [bv 8 17,bv 6 15,bv 5 14,bv 4 13,bv 3 12,bt 2 (.lit 0),bg 1 11,bv 0 10,bg 7 16]) (.both (.fresh 23 (.post 2 0 (sg 0 [bv 8 17,bv 6 15,bv 5 14,bv 4 13,bv 3 12,bt 2 (.lit 0),bg 1 11,bv 0 10,bg 7 16]) 23 (.br (.not (.c2 .req (r8 23) (.rcons (i8 8 10 0) (.rcons (i8 8 10 1) (.rcons (i8 8 10 2) (.rcons (i8 8 10 3) (.rcons (i8 8 10 4) (.rcons (i8 8 10 5) (.rcons (i8 8 10 6) (.rcons (i8 8 10 7) (.rcons (i8 8 10 8) (.rcons (i8 8 10 9) (.rcons (i8 8 10 10) (.rcons (i8 8 10 11) (.rcons (i8 8 10 12) (.rcons (i8 8 10 13) (.rcons (i8 8 10 14) (.rcons (i8 8 10 15) (.rcons (i8 8 10 16) (.rcons (i8 8 10 17) (.rcons (i8 8 10 18) (.rcons (i8 8 10 19) (.rcons (i8 8 10 20) (.rcons (i8 8 10 21) (.rcons (i8 8 10 22) (.rcons (i8 8 10 23) (.rcons (i8 8 10 24) (.rcons (i8 8 10 25) (.rcons (i8 8 10 26) (.rcons (i8 8 10 27) (.rcons (i8 8 10 28) (.rcons (i8 8 10 29) (.rcons (i8 8 10 30) (.rcons (i8 8 10 31) .rnil))))))))))))))))))))))))))))))))))
 (.ret 0 (sg 18 [bt 18 (.lit 20)]))
 (.ret 0 (sg 18 [bt 18 (.lit 0)]))))) .top)) .top))))))))) .top))))))) .top))))
theorem o_checkP_eq:treeOf ⟨Tryz.prog,checkPC,[checkMC,piece26C,pieceDgC],[]⟩ 100000 Tryz.f60 = o_checkP:=by kernel_rfl
theorem checkP_of (hd:∀ c ∈ ([checkMC,piece26C,pieceDgC]:List Ctr),c.ok Tryz.prog) (h:∀ ρ:Env,ρ.good→(checkPC).pre ρ→o_checkP.den ⟨Tryz.prog,checkPC,[checkMC,piece26C,pieceDgC],[]⟩ ρ):(checkPC).ok Tryz.prog :=
 ok_of_tree Tryz.func60 (fun a w=>Tryz.call60 a w) hd 100000 (fun ρ hg hp=>by rw [o_checkP_eq]; exact h ρ hg hp)
def o_checkR:Out:=(.fresh 18 (.fresh 19 (.pre 0 (sg 0 [bv 9 9,bv 8 8,bv 7 7,bv 6 6,bg 5 5,bv 3 3,bv 2 2,bv 1 1,bv 0 0,bt 4 (r8 4)]) (.both (.fresh 20 (.post 0 0 (sg 0 [bv 9 9,bv 8 8,bv 7 7,bv 6 6,bg 5 5,bv 3 3,bv 2 2,bv 1 1,bv 0 0,bt 4 (r8 4)]) 20 (.br (.not (.var 20))
 (.ret 0 (sg 18 [bt 18 (.lit 2)]))
 (.br (.cmp .lss (.var 10) (.lit 0))
 (.ret 0 (sg 18 [bt 18 (.lit 2)]))
 (.br (.cmp .geq (.var 10) (.var 2))
 (.ret 0 (sg 18 [bt 18 (.lit 2)]))
 (.pre 1 (sg 0 [bv 1 3,bv 0 0]) (.both (.fresh 21 (.fresh 22 (.post 1 0 (sg 0 [bv 1 3,bv 0 0]) 21 (.need (.cmp .leq (.lit 0) (.var 12)) (.br (.cmp .neq (.var 12) (.var 21))
 (.ret 0 (sg 18 [bt 18 (.lit 10)]))
 (.need (.cmp .leq (.lit 0) (.var 10)) (.need (.cmp .lss (.var 10) (.var 6)) (.need (.cmp .lss (.var 10) (.dlen (.var 8))) (.both (.pre 2 (sg 0 [bv 7 17,bv 5 15,bv 4 14,bv 3 13,bv 2 12,bg 1 11,bv 0 10,bg 6 16]) (.both (.fresh 23 (.post 2 0 (sg 0 [bv 7 17,bv 5 15,bv 4 14,bv 3 13,bv 2 12,bg 1 11,bv 0 10,bg 6 16]) 23 (.br (.not (.c2 .req (r8 23) (.rcons (i8 8 10 0) (.rcons (i8 8 10 1) (.rcons (i8 8 10 2) (.rcons (i8 8 10 3) (.rcons (i8 8 10 4) (.rcons (i8 8 10 5) (.rcons (i8 8 10 6) (.rcons (i8 8 10 7) (.rcons (i8 8 10 8) (.rcons (i8 8 10 9) (.rcons (i8 8 10 10) (.rcons (i8 8 10 11) (.rcons (i8 8 10 12) (.rcons (i8 8 10 13) (.rcons (i8 8 10 14) (.rcons (i8 8 10 15) (.rcons (i8 8 10 16) (.rcons (i8 8 10 17) (.rcons (i8 8 10 18) (.rcons (i8 8 10 19) (.rcons (i8 8 10 20) (.rcons (i8 8 10 21) (.rcons (i8 8 10 22) (.rcons (i8 8 10 23) (.rcons (i8 8 10 24) (.rcons (i8 8 10 25) (.rcons (i8 8 10 26) (.rcons (i8 8 10 27) (.rcons (i8 8 10 28) (.rcons (i8 8 10 29) (.rcons (i8 8 10 30) (.rcons (i8 8 10 31) .rnil))))))))))))))))))))))))))))))))))
 (.ret 0 (sg 18 [bt 18 (.lit 20)]))
 (.ret 0 (sg 18 [bt 18 (.lit 0)]))))) .top)) .top))))))))) .top))))))) .top))))
theorem o_checkR_eq:treeOf ⟨Tryz.prog,checkRC,[validC,len27C,ofPieceC],[]⟩ 100000 Tryz.f94 = o_checkR:=by kernel_rfl
theorem checkR_of (hd:∀ c ∈ ([validC,len27C,ofPieceC]:List Ctr),c.ok Tryz.prog) (h:∀ ρ:Env,ρ.good→(checkRC).pre ρ→o_checkR.den ⟨Tryz.prog,checkRC,[validC,len27C,ofPieceC],[]⟩ ρ):(checkRC).ok Tryz.prog :=
 ok_of_tree Tryz.func94 (fun a w=>Tryz.call94 a w) hd 100000 (fun ρ hg hp=>by rw [o_checkR_eq]; exact h ρ hg hp)
end Go.Proofs

set_option linter.unusedSimpArgs false
set_option linter.unusedVariables false
set_option maxRecDepth 100000
namespace Go.Proofs
open Go Go.Eng

def o_len27:Out:=(.br (.cmp .lss (.var 0) (.lit 1))
 (.ret 0 (sg 2 [bt 3 (.lit 2),bt 2 (.lit 0)]))
 (.br (.cmp .gtr (.var 0) (.lit 255))
 (.ret 0 (sg 2 [bt 3 (.lit 2),bt 2 (.lit 0)]))
 (.br (.cmp .lss (.var 1) (.lit 0))
 (.ret 0 (sg 2 [bt 3 (.lit 2),bt 2 (.lit 0)]))
 (.br (.cmp .gtr (.var 1) (.lit 8192))
 (.ret 0 (sg 2 [bt 3 (.lit 2),bt 2 (.lit 0)]))
 (.inv 0 2 (sg 1000 [bt 1000 (.lit 0)]) (.fresh 2 (.hyp 0 2 (.br (.cmp .lss (.arith .mul .i64 (.var 0) (.var 2)) (.var 1))
 (.back 0 2 (sg 1000 [bt 1000 (.arith .add .i64 (.var 2) (.lit 1))]))
 (.ret 0 (sg 2 [bt 3 (.lit 0),bv 2 2]))))))))))
theorem o_len27_eq:treeOf ⟨Tryz.prog,len27C,[],[len27I]⟩ 100000 Tryz.f114 = o_len27:=by kernel_rfl
theorem len27_of (hd:∀ c ∈ ([]:List Ctr),c.ok Tryz.prog) (h:∀ ρ:Env,ρ.good→(len27C).pre ρ→o_len27.den ⟨Tryz.prog,len27C,[],[len27I]⟩ ρ):(len27C).ok Tryz.prog :=
 ok_of_tree Tryz.func114 (fun a w=>Tryz.call114 a w) hd 100000 (fun ρ hg hp=>by rw [o_len27_eq]; exact h ρ hg hp)
def o_times53:Out:=(.inv 0 2 (sg 1000 [bt 1002 (.lit 0),bt 1001 (.lit 0),bv 1000 0]) (.fresh 2 (.fresh 3 (.fresh 4 (.hyp 0 2 (.br (.cmp .lss (.var 4) (.lit 8))
 (.need (.cmp .geq (.conv .u64 (.var 4)) (.lit 0)) (.br (.cmp .neq (.arith .and .u8 (.var 1) (.arith .shl .u8 (.lit 1) (.conv .u64 (.var 4)))) (.lit 0))
 (.br (.cmp .neq (.arith .and .u8 (.var 2) (.lit 128)) (.lit 0))
 (.back 0 2 (sg 1000 [bt 1002 (.arith .add .i64 (.var 4) (.lit 1)),bt 1001 (.arith .xor .u8 (.var 3) (.var 2)),bt 1000 (.arith .xor .u8 (.arith .shl .u8 (.var 2) (.lit 1)) (.lit 29))]))
 (.back 0 2 (sg 1000 [bt 1002 (.arith .add .i64 (.var 4) (.lit 1)),bt 1001 (.arith .xor .u8 (.var 3) (.var 2)),bt 1000 (.arith .shl .u8 (.var 2) (.lit 1))])))
 (.br (.cmp .neq (.arith .and .u8 (.var 2) (.lit 128)) (.lit 0))
 (.back 0 2 (sg 1000 [bt 1002 (.arith .add .i64 (.var 4) (.lit 1)),bv 1001 3,bt 1000 (.arith .xor .u8 (.arith .shl .u8 (.var 2) (.lit 1)) (.lit 29))]))
 (.back 0 2 (sg 1000 [bt 1002 (.arith .add .i64 (.var 4) (.lit 1)),bv 1001 3,bt 1000 (.arith .shl .u8 (.var 2) (.lit 1))])))))
 (.ret 0 (sg 2 [bv 2 3]))))))))
theorem o_times53_eq:treeOf ⟨Tryz.prog,times53C,[],[times53I]⟩ 100000 Tryz.f169 = o_times53:=by kernel_rfl
theorem times53_of (hd:∀ c ∈ ([]:List Ctr),c.ok Tryz.prog) (h:∀ ρ:Env,ρ.good→(times53C).pre ρ→o_times53.den ⟨Tryz.prog,times53C,[],[times53I]⟩ ρ):(times53C).ok Tryz.prog :=
 ok_of_tree Tryz.func169 (fun a w=>Tryz.call169 a w) hd 100000 (fun ρ hg hp=>by rw [o_times53_eq]; exact h ρ hg hp)
def o_over54:Out:=(.inv 0 1 (sg 1000 [bt 1000 (.lit 1)]) (.fresh 1 (.hyp 0 1 (.br (.cmp .lss (.var 1) (.lit 256))
 (.pre 0 (sg 0 [bt 1 (.conv .u8 (.var 1)),bv 0 0]) (.both (.fresh 2 (.post 0 0 (sg 0 [bt 1 (.conv .u8 (.var 1)),bv 0 0]) 2 (.br (.cmp .eql (.var 2) (.lit 1))
 (.ret 0 (sg 1 [bt 1 (.conv .u8 (.var 1))]))
 (.back 0 1 (sg 1000 [bt 1000 (.arith .add .i64 (.var 1) (.lit 1))]))))) .top))
 (.ret 0 (sg 1 [bt 1 (.lit 0)]))))))
theorem o_over54_eq:treeOf ⟨Tryz.prog,over54C,[times53C],[over54I]⟩ 100000 Tryz.f170 = o_over54:=by kernel_rfl
theorem over54_of (hd:∀ c ∈ ([times53C]:List Ctr),c.ok Tryz.prog) (h:∀ ρ:Env,ρ.good→(over54C).pre ρ→o_over54.den ⟨Tryz.prog,over54C,[times53C],[over54I]⟩ ρ):(over54C).ok Tryz.prog :=
 ok_of_tree Tryz.func170 (fun a w=>Tryz.call170 a w) hd 100000 (fun ρ hg hp=>by rw [o_over54_eq]; exact h ρ hg hp)
end Go.Proofs

set_option linter.unusedSimpArgs false
set_option linter.unusedVariables false
namespace Go.Proofs
open Go Go.Eng
theorem fillTo_full {f:Nat→Int} {n:Nat}:fillTo f n n = (List.range n).map f:=by
 unfold fillTo
 refine List.map_congr_left fun i hi=>?_
 rw [if_pos (List.mem_range.1 hi)]
end Go.Proofs

set_option linter.unusedSimpArgs false
set_option linter.unusedVariables false
namespace Go.Proofs
open Go Go.Eng

theorem ceil_eq {k n c:Int} (hk:1 ≤ k) (h0:0 ≤ c) (h1:n ≤ k * c) (h2:c = 0∨k * (c - 1) < n) (hn:0 ≤ n):c = (n + k - 1).tdiv k:=by
 rw [Int.tdiv_eq_ediv_of_nonneg (by omega)]
 symm
 rw [Int.ediv_eq_iff_of_pos (by omega)]
 rw [Int.mul_sub,Int.mul_one] at h2
 rw [Int.mul_comm] at h1
 rcases h2 with rfl | h2
 ·omega
 ·rw [Int.mul_comm] at h2; omega
theorem len27_ok:len27C.ok Tryz.prog:=len27_of (by simp) fun ρ hg hp=>by
 simp [o_len27,len27C,len27I,piece26C]
 have hpb:pieceBad (ρ 0).i (ρ 1).i↔(ρ 0).i < 1∨255 < (ρ 0).i∨(ρ 1).i < 0∨8192 < (ρ 1).i:=Iff.rfl
 refine ⟨fun h=>hpb.2 (by omega),fun h1=>⟨fun h=>hpb.2 (by omega),fun h2=>⟨fun h=>hpb.2 (by omega),fun h3=>⟨fun h=>hpb.2 (by omega),fun h4=>⟨⟨?_,h3⟩,fun u _ hnb u0 u1 u2=>⟨fun h=>?_,fun h=>⟨fun hb=>(hnb hb).elim,fun _=>?_⟩⟩⟩⟩⟩⟩⟩
 ·rw [hpb]; omega
 ·have hb:=mul_bound (x:=(ρ 0).i) (y:=u.i) (by omega) h2 u0 (show u.i ≤ 8192 by omega)
  rw [mul64 (by omega) (by omega)] at h
  have hlt:u.i < (ρ 1).i:=by
   have:=Int.mul_le_mul_of_nonneg_right h1 u0
   omega
  rw [add64 (by omega) (by omega)]
  refine ⟨⟨hnb,by omega,by omega,.inr ?_⟩,by omega⟩
  rw [show u.i + 1 - 1 = u.i by omega]; exact h
 ·have hb:=mul_bound (x:=(ρ 0).i) (y:=u.i) (by omega) h2 u0 (show u.i ≤ 8192 by omega)
  rw [mul64 (by omega) (by omega)] at h
  exact ceil_eq h1 u0 h u2 h3
theorem twice_eq':∀ i:Fin 256,(if arithOf .and .u8 (i.val:Int) 128 = 0 then arithOf .shl .u8 (i.val:Int) 1 else arithOf .xor .u8 (arithOf .shl .u8 (i.val:Int) 1) 29) = ofF (xt (toF (i.val:Int))):=by decide +kernel
theorem bit_eq':∀ b:Fin 256,∀ i:Fin 8,toF ((b.val % 2 ^ (i.val + 1):Nat):Int) = if arithOf .and .u8 (b.val:Int) (arithOf .shl .u8 1 (i.val:Int)) = 0 then toF ((b.val % 2 ^ i.val:Nat):Int) else toF ((b.val % 2 ^ i.val:Nat):Int) ^^^ expF i.val:=by decide +kernel
theorem twice_eq {x:Int} (h:isB x):(if arithOf .and .u8 x 128 = 0 then arithOf .shl .u8 x 1 else arithOf .xor .u8 (arithOf .shl .u8 x 1) 29) = ofF (xt (toF x)):=by
 have:=twice_eq' ⟨x.toNat,by have:=h.2; have:=h.1; omega⟩
 simp only [Int.toNat_of_nonneg h.1] at this
 exact this
theorem expF_succ {n:Nat}:expF (n + 1) = fmul (expF n) 2:=by
 have:(2:F) = expF 1:=by decide
 rw [this,fmul_exp]
theorem timesN_eq {a b:Int} (ha:isB a) (hb:isB b):∀ i:Nat,i ≤ 8→timesN a b i = (ofF (fmul (toF a) (expF i)),ofF (fmul (toF a) (toF ((b.toNat % 2 ^ i:Nat):Int))))
 | 0,_=>by
  rw [timesN,expF_zero,fmul_one,ofF_toF ha,Nat.pow_zero,Nat.mod_one]
  rw [show toF ((0:Nat):Int) = 0 by rfl,fmul_zero]; rfl
 | i + 1,hi=>by
  rw [timesN,timesN_eq ha hb i (by omega),timesStep]
  simp only
  rw [twice_eq ofF_isB,toF_ofF,← fmul_two,fmul_assoc,← expF_succ]
  have h:=bit_eq' ⟨b.toNat,by have:=hb.2; have:=hb.1; omega⟩ ⟨i,by omega⟩
  simp only [Int.toNat_of_nonneg hb.1] at h
  rw [h]
  split
  ·rfl
  ·rw [xor_fmul]
   congr 1
   have:=xorB_F (x:=ofF (fmul (toF a) (toF ((b.toNat % 2 ^ i:Nat):Int)))) (y:=ofF (fmul (toF a) (expF i)))
   rw [toF_ofF,toF_ofF] at this
   exact this
theorem timesN_mulF {a b:Int} (ha:isB a) (hb:isB b):(timesN a b 8).2 = mulF a b:=by
 rw [timesN_eq ha hb 8 (Nat.le_refl _),mulF_F ha hb]
 simp only
 congr 2
 obtain ⟨h0,h1⟩:=hb
 congr 1
 omega
theorem times53_ok:times53C.ok Tryz.prog:=times53_of (by simp) fun ρ hg hp=>by
 obtain ⟨ha,hb⟩:=hp
 simp [o_times53,times53C,times53I]
 refine ⟨rfl,fun x _ y _ i _ i0 i1 he=>⟨fun hi=>?_,fun hi=>?_⟩⟩
 ·have hw:IntKind.u64.wrap i.i = i.i:=by simp [IntKind.wrap,IntKind.bits,IntKind.signed]; omega
  rw [hw,add64 (by omega) (by omega),show (i.i + 1).toNat = i.i.toNat + 1 by omega,timesN,← he,timesStep]
  simp only [Int.toNat_of_nonneg i0]
  refine ⟨i0,fun h1=>⟨fun h2=>⟨⟨by omega,by omega,?_⟩,by omega⟩,fun h2=>⟨⟨by omega,by omega,?_⟩,by omega⟩⟩,fun h1=>⟨fun h2=>⟨⟨by omega,by omega,?_⟩,by omega⟩,fun h2=>⟨⟨by omega,by omega,?_⟩,by omega⟩⟩⟩ <;> simp [h1,h2]
 ·rw [← timesN_mulF ha hb,show (8:Nat) = i.i.toNat by omega,← he]
theorem fmul_eq_one {x y:F} (h:fmul x y = 1):y = finv x:=by
 by_cases hx:x = 0
 ·rw [hx,zero_fmul] at h; exact absurd h (by decide)
 ·have h1:fmul (finv x) (fmul x y) = finv x:=by rw [h,fmul_one]
  rw [← fmul_assoc,fmul_comm (x:=finv x),fmul_finv hx,one_fmul] at h1
  exact h1
theorem over54_ok:over54C.ok Tryz.prog:=over54_of (by simp [times53_ok]) fun ρ hg hp=>by
 have ha:isB (ρ 0).i:=hp
 simp [o_over54,over54C,over54I,times53C]
 have hw:∀ x:Int,0 ≤ x→x < 256→IntKind.u8.wrap x = x:=fun x h0 h1=>by simp [IntKind.wrap,IntKind.bits,IntKind.signed]; omega
 refine ⟨fun j h0 h1=>by omega,fun i _ i0 i1 hn=>⟨fun hi=>?_,fun hi=>?_⟩⟩
 ·rw [hw _ (by omega) hi,add64 (by omega) (by omega)]
  have hb:isB i.i:=⟨by omega,hi⟩
  refine ⟨⟨ha,hb⟩,fun m _ hm=>⟨fun h1=>?_,fun h1=>⟨⟨by omega,by omega,fun j j0 j1=>?_⟩,by omega⟩⟩⟩
  ·refine toF_inj hb (invF_isB ha) ?_
   rw [toF_invF ha]
   refine fmul_eq_one ?_
   rw [← toF_mulF ha hb,← hm,h1]; rfl
  ·by_cases hj:j = i.i
   ·rw [hj,← hm]; exact h1
   ·exact hn j j0 (by omega)
 ·by_cases h0:(ρ 0).i = 0
  ·rw [h0]; rfl
  ·have hx:toF (ρ 0).i ≠ 0:=fun h=>h0 ((toF_eq_zero ha).1 h)
   have hi1:1 ≤ invF (ρ 0).i:=by
    have hz:=invF_isB ha
    have:invF (ρ 0).i ≠ 0:=fun h=>finv_ne hx (by rw [← toF_invF ha,h]; rfl)
    have:=hz.1
    omega
   refine (hn (invF (ρ 0).i) hi1 (by have:=(invF_isB ha).2; omega) ?_).elim
   rw [mulF_F ha (invF_isB ha),toF_invF ha,fmul_finv hx]; rfl
end Go.Proofs

set_option linter.unusedSimpArgs false
set_option linter.unusedVariables false
namespace Go.Proofs
open Go Go.Eng
set_option maxRecDepth 20000
theorem chkE_bad {k n t s l i:Int} {D:List (List Int)} {m:List Int} (h:manOk k n t s l = false):2 = chkE k n t s l D i m:=by rw [chkE,if_pos h]
theorem chkE_arg {k n t s l i:Int} {D:List (List Int)} {m:List Int} (h:manOk k n t s l = true) (hi:i < 0∨t ≤ i):2 = chkE k n t s l D i m:=by rw [chkE,if_neg (by rw [h]; decide),if_pos hi]
theorem chkE_len {k n t s l i:Int} {D:List (List Int)} {m:List Int} (h:manOk k n t s l = true) (h0:0 ≤ i) (h1:i < t) (hl:(m.length:Int) ≠ plenI k s):10 = chkE k n t s l D i m:=by rw [chkE,if_neg (by rw [h]; decide),if_neg (by omega),if_pos hl]
theorem chkE_sum {k n t s l i:Int} {D:List (List Int)} {m:List Int} (h:manOk k n t s l = true) (h0:0 ≤ i) (h1:i < t) (hl:(m.length:Int) = plenI k s) (hs:sha (pieceIn i ++ m) ≠ D.getD i.toNat []):20 = chkE k n t s l D i m:=by rw [chkE,if_neg (by rw [h]; decide),if_neg (by omega),if_neg (fun h=>h hl),if_pos hs]
theorem chkE_ok {k n t s l i:Int} {D:List (List Int)} {m:List Int} (h:manOk k n t s l = true) (h0:0 ≤ i) (h1:i < t) (hl:(m.length:Int) = plenI k s) (hs:sha (pieceIn i ++ m) = D.getD i.toNat []):0 = chkE k n t s l D i m:=by rw [chkE,if_neg (by rw [h]; decide),if_neg (by omega),if_neg (fun h=>h hl),if_neg (fun h=>h hs)]
theorem man_notBad {k n t s l:Int} (h:manOk k n t s l = true):¬ pieceBad k s:=by
 simp [manOk,sizes3] at h
 unfold pieceBad; omega
theorem ofPiece_ok:ofPieceC.ok Tryz.prog:=ofPiece_of (by simp [sumR_ok]) fun ρ hg hp=>by
 obtain ⟨hl,hl1,hB,hSr,hSd⟩:=hp
 simp (config:={ maxSteps:=4000000,contextual:=true }) [o_ofPiece,ofPieceC,sumRC,gOk,hSr,hSd,hB,hl]
 have hx:bI ([Value.int .u8 (IntKind.u8.wrap (arithOf .shr .i64 (ρ 0).i 8))] :: [Value.int .u8 (IntKind.u8.wrap (ρ 0).i)] :: (ρ 4).d) = pieceIn (ρ 0).i ++ bI (ρ 4).d:=by
  rw [shr8,wrap8,wrap8]; rfl
 refine ⟨by omega,⟨by omega,by omega,allB_of ?_⟩,fun u _ hu=>by rw [hx]⟩
 rw [hx]
 intro x hx
 rcases List.mem_append.1 hx with hx | hx
 ·simp [pieceIn] at hx
  rcases hx with rfl | rfl <;> exact ⟨Int.emod_nonneg _ (by decide),Int.emod_lt_of_pos _ (by decide)⟩
 ·exact allB_list hB x hx
set_option maxHeartbeats 1000000 in
theorem checkP_ok:checkPC.ok Tryz.prog:=checkP_of (by simp [checkM_ok,piece26_ok,pieceDg_ok]) fun ρ hg hp=>by
 obtain ⟨⟨i0,i3,hl,hD,hpl,hpc,hp1,hB⟩,hGr,hGd⟩:=hp
 simp only [Nat.reduceAdd] at hpl hpc hp1 hB
 simp (config:={ maxSteps:=4000000,contextual:=true }) [o_checkP,checkPC,chkAlts,checkMC,piece26C,pieceDgC,manV,manT,cellsT,gOk,hGr,hGd,hB,hD,hl,hpl]
 refine fun u _ hu=>⟨chkE_bad,fun hok=>⟨fun h0=>chkE_arg hok (.inl h0),fun h0=>⟨fun ht=>chkE_arg hok (.inr ht),fun ht l _ e _ _ hgood=>?_⟩⟩⟩
 have hlen:=(hgood (man_notBad hok)).1
 have hml:(bI (ρ 14).d).length = (ρ 14).d.length:=bI_len
 have htl:(ρ 2).i = (ρ 8).d.length:=by simp [manOk] at hok; omega
 have hrow:rowI8 (ρ 8).d (ρ 10).i = (dgs (ρ 8).d).getD (ρ 10).i.toNat []:=rowI8_dgs h0 (by omega)
 refine ⟨fun hne=>chkE_len hok h0 ht (by rw [hml,plenI,← hlen]; exact hne),fun heq=>⟨by omega,⟨by omega,by omega,by omega⟩,fun x _ hx=>?_⟩⟩
 rw [segB_all heq.symm,hrow]
 exact ⟨fun hn=>chkE_sum hok h0 ht (by rw [hml,plenI,← hlen]; exact heq) hn,fun he=>chkE_ok hok h0 ht (by rw [hml,plenI,← hlen]; exact heq) he⟩
set_option maxHeartbeats 1000000 in
theorem checkR_ok:checkRC.ok Tryz.prog:=checkR_of (by simp [valid_ok,len27_ok,ofPiece_ok]) fun ρ hg hp=>by
 obtain ⟨⟨i0,i3,hl,hD,hpl,hpc,hp1,hB⟩,hGr,hGd⟩:=hp
 simp only [Nat.reduceAdd] at hpl hpc hp1 hB
 simp (config:={ maxSteps:=4000000,contextual:=true }) [o_checkR,checkRC,chkAlts,validC,len27C,piece26C,ofPieceC,manV,manT,cellsT,manO,gOk,hGr,hGd,hB,hD,hl,hpl]
 refine fun u _ hu=>⟨chkE_bad,fun hok=>⟨fun h0=>chkE_arg hok (.inl h0),fun h0=>⟨fun ht=>chkE_arg hok (.inr ht),fun ht l _ e _ _ hgood=>?_⟩⟩⟩
 have hlen:=(hgood (man_notBad hok)).1
 have hml:(bI (ρ 14).d).length = (ρ 14).d.length:=bI_len
 have htl:(ρ 2).i = (ρ 8).d.length:=by simp [manOk] at hok; omega
 have hrow:rowI8 (ρ 8).d (ρ 10).i = (dgs (ρ 8).d).getD (ρ 10).i.toNat []:=rowI8_dgs h0 (by omega)
 refine ⟨fun hne=>chkE_len hok h0 ht (by rw [hml,plenI,← hlen]; exact hne),fun heq=>⟨by omega,by omega,fun x _ hx=>?_⟩⟩
 rw [hrow]
 exact ⟨fun hn=>chkE_sum hok h0 ht (by rw [hml,plenI,← hlen]; exact heq) hn,fun he=>chkE_ok hok h0 ht (by rw [hml,plenI,← hlen]; exact heq) he⟩
end Go.Proofs

set_option linter.unusedSimpArgs false
set_option linter.unusedVariables false
namespace Go.Proofs
open Go Go.Eng

theorem ident_len {n:Nat}:(identTo n n).length = n * n:=by simp [identTo]
theorem ident_get {n i:Nat} (hi:i < n * n):(identTo n n).getD i 0 = if i / n = i % n then 1 else 0:=by
 have hn:0 < n:=by
  cases n with
  | zero=>simp at hi
  | succ n=>omega
 rw [List.getD_eq_getElem?_getD,identTo,List.getElem?_map,List.getElem?_range hi]
 simp only [Option.map_some,Option.getD_some]
 have:i / n < n:=Nat.div_lt_of_lt_mul hi
 by_cases h:i / n = i % n
 ·rw [if_pos ⟨h,this⟩,if_pos h]
 ·rw [if_neg (fun hh=>h hh.1),if_neg h]
theorem divmod_cell {i n j:Nat} (hj:j < n):(i * n + j) / n = i∧(i * n + j) % n = j:=by
 have hn:0 < n:=by omega
 constructor
 ·rw [Nat.mul_comm,Nat.mul_add_div hn,Nat.div_eq_of_lt hj,Nat.add_zero]
 ·rw [Nat.mul_comm,Nat.mul_add_mod,Nat.mod_eq_of_lt hj]
theorem ident_bytes {n:Nat}:bytesL (identTo n n):=fun x hx=>by
 simp only [identTo,List.mem_map] at hx
 obtain ⟨i,_,rfl⟩:=hx
 split <;> exact ⟨by omega,by omega⟩
theorem ident_mat {n i j:Nat} (hi:i < n) (hj:j < n):matL n (identTo n n) i j = del i j:=by
 obtain ⟨h1,h2⟩:=divmod_cell (i:=i) hj
 rw [matL,ident_get (cell_lt hi hj),h1,h2,del]
 split <;> rfl
theorem vander_len {r c:Nat}:(vanderL r c).length = r * c:=by simp [vanderL,fillTo]
theorem vander_get {r c i j:Nat} (hi:i < r) (hj:j < c):(vanderL r c).getD (i * c + j) 0 = powF (i:Int) (j:Int):=by
 obtain ⟨h1,h2⟩:=divmod_cell (i:=i) hj
 have hlt:=cell_lt hi hj
 rw [List.getD_eq_getElem?_getD,vanderL,fillTo,List.getElem?_map,List.getElem?_range hlt]
 simp only [Option.map_some,Option.getD_some]
 rw [if_pos hlt,vanderF,h1,h2]
def xsF (m:Nat):F:=toF (m:Int)
theorem vander_mat {r c i j:Nat} (hr:r ≤ 256) (hi:i < r) (hj:j < c) (hc:c < 9223372036854775808):matL c (vanderL r c) i j = fpow (xsF i) j:=by
 rw [matL,vander_get hi hj,powF_F ⟨by omega,by omega⟩ (by omega),toF_ofF,Int.toNat_natCast]; rfl
theorem vander_bytes {r c:Nat} (hr:r ≤ 256) (hc:c < 9223372036854775808):bytesL (vanderL r c):=fun x hx=>by
 simp only [vanderL,fillTo,List.mem_map,List.mem_range] at hx
 obtain ⟨i,hi,rfl⟩:=hx
 rw [if_pos hi]
 have hc0:0 < c:=by
  cases c with
  | zero=>simp at hi
  | succ c=>omega
 have h1:i / c < r:=Nat.div_lt_of_lt_mul (by rwa [Nat.mul_comm] at hi)
 have h2:=Nat.mod_lt i hc0
 have h3:((i / c:Nat):Int) < 256:=by omega
 exact powF_isB ⟨Int.natCast_nonneg _,h3⟩ (by omega)
theorem xs_distinct {n:Nat} (hn:n ≤ 256):distinct n xsF:=fun i j hi hj h=>by
 have:=toF_inj (x:=(i:Int)) (y:=(j:Int)) ⟨by omega,by omega⟩ ⟨by omega,by omega⟩ h
 omega
theorem take_bytes {l:List Int} {n:Nat} (h:bytesL l):bytesL (l.take n):=fun x hx=>h x (List.mem_of_mem_take hx)
theorem take_mat {l:List Int} {n c i j:Nat} (hi:i < n) (hj:j < c):matL c (l.take (n * c)) i j = matL c l i j:=by
 have hlt:=cell_lt hi hj
 rw [matL,matL,List.getD_eq_getElem?_getD,List.getD_eq_getElem?_getD,List.getElem?_take,if_pos hlt]

theorem aug_right {ca cb:Nat} {a b:List Int} {i j:Nat}:augL ca cb a b i (ca + j) = matL cb b i j:=by
 rw [augL,if_neg (by omega),show ca + j - ca = j by omega]
theorem inv_mul {n:Nat} {a A B:List Int} (h:Ech n (n + n) (augL n n a (identTo n n)) (augL n n A B) n n) :
  (∀ i j,i < n→j < n→fsum (fun l=>fmul (matL n B i l) (matL n a l j)) n = del i j)∧∀ i j,i < n→j < n→fsum (fun l=>fmul (matL n a i l) (matL n B l j)) n = del i j:=by
 refine ⟨fun i j hi hj=>?_,fun i j hi hj=>?_⟩
 ·obtain ⟨x,hx⟩:=h.same.to i hi
  have hxB:∀ l,l < n→x l = matL n B i l:=fun l hl=>by
   have h1:=hx (n + l) (by omega)
   rw [aug_right,fsum_congr fun m hm=>by rw [aug_right,ident_mat hm hl],fsum_del' (f:=x) hl] at h1
   exact h1.symm
  have h2:=hx j (by omega)
  rw [ech_full h i hi j hj,fsum_congr fun m hm=>by rw [hxB m hm,aug_left hj]] at h2
  exact h2.symm
 ·obtain ⟨x,hx⟩:=h.same.back i hi
  have hxa:∀ l,l < n→x l = matL n a i l:=fun l hl=>by
   have h1:=hx l (by omega)
   rw [aug_left hl,fsum_congr fun m hm=>by rw [ech_full h m hm l hl],fsum_del' (f:=x) hl] at h1
   exact h1.symm
  have h2:=hx (n + j) (by omega)
  rw [aug_right,ident_mat hi hj,fsum_congr fun m hm=>by rw [hxa m hm,aug_right]] at h2
  exact h2.symm
theorem two_ident {n:Nat} {m:List Int} (hl:m.length = n * n) (hb:bytesL m):Two n n n m (identTo n n):=⟨hl,ident_len,hb,ident_bytes⟩
theorem inv_ech {n:Nat} {m:List Int} (hl:m.length = n * n) (hb:bytesL m):Two n n n (invE m n).1 (invE m n).2.1∧Ech n (n + n) (augL n n m (identTo n n)) (augL n n (invE m n).1 (invE m n).2.1) n (invE m n).2.2 :=
 elim_ech (two_ident hl hb) n (Nat.le_refl _)
theorem inv_rank {n:Nat} {m:List Int} (hl:m.length = n * n) (hb:bytesL m) (h:∀ y:Nat→F,(∀ i,i < n→fsum (fun j=>fmul (matL n m i j) (y j)) n = 0)→∀ j,j < n→y j = 0):(invE m n).2.2 = n:=by
 obtain ⟨_,he⟩:=inv_ech hl hb
 refine Classical.byContradiction fun hne=>?_
 have hlt:(invE m n).2.2 < n:=by have:=he.le; omega
 obtain ⟨y,⟨c,hc,hyc⟩,hy⟩:=ech_null he (by omega) hlt
 exact hyc (h y (fun i hi=>by rw [← hy i hi]; exact fsum_congr fun j hj=>by rw [aug_left hj]; rfl) c hc)

theorem top_len {k total:Nat} (h:k ≤ total):((vanderL total k).take (k * k)).length = k * k:=by
 rw [List.length_take,vander_len]
 exact Nat.min_eq_left (Nat.mul_le_mul_right k h)
theorem top_mat {k total i j:Nat} (hk:k ≤ total) (ht:total ≤ 255) (hi:i < k) (hj:j < k):matL k ((vanderL total k).take (k * k)) i j = fpow (xsF i) j:=by
 rw [take_mat hi hj,vander_mat (by omega) (by omega) hj (by omega)]
theorem top_bytes {k total:Nat} (hk:k ≤ total) (ht:total ≤ 255):bytesL ((vanderL total k).take (k * k)):=take_bytes (vander_bytes (by omega) (by omega))
theorem top_rank {k total:Nat} (hk:k ≤ total) (ht:total ≤ 255):(topE k total).2.2 = k :=
 inv_rank (top_len hk) (top_bytes hk ht) fun y hy=>vander_inj (xs_distinct (by omega)) fun i hi=>by
  rw [← hy i hi]
  exact fsum_congr fun j hj=>by rw [top_mat hk ht hi hj]
theorem top_ech {k total:Nat} (hk:k ≤ total) (ht:total ≤ 255):Two k k k (topE k total).1 (topE k total).2.1∧Ech k (k + k) (augL k k ((vanderL total k).take (k * k)) (identTo k k)) (augL k k (topE k total).1 (topE k total).2.1) k k:=by
 have h:=inv_ech (top_len hk) (top_bytes hk ht)
 have hr:=top_rank hk ht
 unfold topE at hr ⊢
 rw [hr] at h
 exact h

theorem prodN_facts {a b:List Int} {ra ca cb:Nat} (hb:b.length = ca * cb) (ha:bytesL a) (hbb:bytesL b) (hca:0 < ca):∀ t,t ≤ ra * ca→(prodN a b ra ca cb t).length = ra * cb∧bytesL (prodN a b ra ca cb t) ∧
  ∀ i j,i < ra→j < cb→matL cb (prodN a b ra ca cb t) i j = fsum (fun l=>if i * ca + l < t then fmul (matL ca a i l) (matL cb b l j) else 0) ca
 | 0,_=>⟨by simp [prodN],fun x hx=>by rw [prodN] at hx; rw [List.eq_of_mem_replicate hx]; exact ⟨by omega,by omega⟩,fun i j hi hj=>by
   rw [fsum_zero fun l _=>if_neg (by omega),matL,prodN,List.getD_eq_getElem?_getD,List.getElem?_replicate,if_pos (cell_lt hi hj)]; rfl⟩
 | t + 1,ht=>by
  obtain ⟨h1,h2,h3⟩:=prodN_facts (ra:=ra) hb ha hbb hca t (by omega)
  have hti:t / ca < ra:=Nat.div_lt_of_lt_mul (by rw [Nat.mul_comm]; omega)
  have htl:=Nat.mod_lt t hca
  have htd:=Nat.div_add_mod t ca
  rw [prodN]
  refine ⟨by rw [addToL_len,h1],addToL_bytes h2,fun i j hi hj=>?_⟩
  have hlt:=cell_lt hi hj
  have hsl:(seg b (t % ca * cb) cb).length = cb:=seg_len (by rw [hb]; exact row_le htl)
  have hL:matL cb (addToL (prodN a b ra ca cb t) (t / ca * cb) (seg b (t % ca * cb) cb) (a.getD t 0)) i j = if i = t / ca then matL cb (prodN a b ra ca cb t) i j ^^^ fmul (toF (a.getD t 0)) (matL cb b (t % ca) j) else matL cb (prodN a b ra ca cb t) i j:=by
   unfold matL
   rw [List.getD_eq_getElem?_getD,addToL_get,List.getElem?_eq_getElem (by omega),Option.map_some,Option.getD_some,hsl]
   by_cases he:i = t / ca
   ·subst he
    rw [if_pos ⟨by omega,by omega⟩,if_pos rfl,show t / ca * cb + j - t / ca * cb = j by omega]
    have hs:(seg b (t % ca * cb) cb).getD j 0 = b.getD (t % ca * cb + j) 0:=by
     rw [List.getD_eq_getElem?_getD,seg_get,if_pos hj,List.getD_eq_getElem?_getD]
    rw [hs,toF_xorB,toF_mulF (bytesL_get ha _) (bytesL_get hbb _),List.getD_eq_getElem?_getD (l:=prodN a b ra ca cb t),List.getElem?_eq_getElem (by omega),Option.getD_some]
   ·rw [if_neg (fun h=>he ((row_in hj).1 h)),if_neg he,List.getD_eq_getElem?_getD,List.getElem?_eq_getElem (by omega),Option.getD_some]
  rw [hL,h3 i j hi hj]
  by_cases he:i = t / ca
  ·have hit:i * ca + t % ca = t:=by rw [he,Nat.mul_comm]; exact htd
   rw [if_pos he]
   have hat:toF (a.getD t 0) = matL ca a i (t % ca):=by rw [matL,hit]
   have h4:fmul (toF (a.getD t 0)) (matL cb b (t % ca) j) = fsum (fun l=>if l = t % ca then fmul (matL ca a i l) (matL cb b l j) else 0) ca:=by
    rw [fsum_one htl fun l _ hl=>if_neg hl,if_pos rfl,hat]
   rw [h4,← fsum_xor]
   refine fsum_congr fun l hl=>?_
   by_cases hlt:l = t % ca
   ·subst hlt; rw [if_neg (by omega),if_pos rfl,if_pos (by omega),zero_xor']
   ·rw [if_neg hlt,xor_zero']
    by_cases h5:i * ca + l < t
    ·rw [if_pos h5,if_pos (by omega)]
    ·rw [if_neg h5,if_neg (by omega)]
  ·rw [if_neg he]
   refine fsum_congr fun l hl=>?_
   have hne:i * ca + l ≠ t:=fun h=>he (by rw [← h]; exact (divmod_cell hl).1.symm)
   by_cases h5:i * ca + l < t
   ·rw [if_pos h5,if_pos (by omega)]
   ·rw [if_neg h5,if_neg (by omega)]
theorem prod_facts {a b:List Int} {ra ca cb:Nat} (hb:b.length = ca * cb) (ha:bytesL a) (hbb:bytesL b) (hca:0 < ca):(prodL a b ra ca cb).length = ra * cb∧bytesL (prodL a b ra ca cb) ∧
  ∀ i j,i < ra→j < cb→matL cb (prodL a b ra ca cb) i j = fsum (fun l=>fmul (matL ca a i l) (matL cb b l j)) ca:=by
 obtain ⟨h1,h2,h3⟩:=prodN_facts (ra:=ra) hb ha hbb hca (ra * ca) (Nat.le_refl _)
 refine ⟨h1,h2,fun i j hi hj=>?_⟩
 rw [prodL,h3 i j hi hj]
 exact fsum_congr fun l hl=>if_pos (cell_lt hi hl)

theorem gen_facts {k total:Nat} (h1:1 ≤ k) (hk:k ≤ total) (ht:total ≤ 255):(genL k total).length = total * k∧bytesL (genL k total) ∧
  (∀ i j,i < total→j < k→matL k (genL k total) i j = fsum (fun l=>fmul (fpow (xsF i) l) (matL k (topE k total).2.1 l j)) k) ∧
  ∀ i j,i < total→j < k→matL k (genL k total) i j = lagF k xsF (xsF i) j:=by
 obtain ⟨t2,he⟩:=top_ech hk ht
 obtain ⟨p1,p2,p3⟩:=prod_facts (ra:=total) t2.lb (vander_bytes (r:=total) (c:=k) (by omega) (by omega)) t2.bb (by omega)
 have hg:∀ i j,i < total→j < k→matL k (genL k total) i j = fsum (fun l=>fmul (fpow (xsF i) l) (matL k (topE k total).2.1 l j)) k:=fun i j hi hj=>by
  rw [genL,p3 i j hi hj]
  exact fsum_congr fun l hl=>by rw [vander_mat (by omega) hi hl (by omega)]
 refine ⟨p1,p2,hg,fun i j hi hj=>?_⟩
 obtain ⟨_,m2⟩:=inv_mul he
 have hp:∀ x,pval k (fun l=>matL k (topE k total).2.1 l j) x = fsum (fun l=>fmul (fpow x l) (matL k (topE k total).2.1 l j)) k:=fun x=>fsum_congr fun l _=>fmul_comm
 rw [hg i j hi hj,← hp,lagrange (xs_distinct (n:=k) (by omega))]
 rw [fsum_congr (g:=fun m=>fmul (lagF k xsF (xsF i) m) (del m j)) fun m hm=>?_,fsum_del' hj]
 rw [hp,← m2 m j hm hj]
 congr 1
 exact fsum_congr fun l hl=>by rw [top_mat hk ht hm hl]
end Go.Proofs

set_option linter.unusedSimpArgs false
set_option linter.unusedVariables false
namespace Go.Eng
open Go
end Go.Eng
namespace Go.Proofs
open Go Go.Eng
theorem list_ext_getD {a b:List Int} (hl:a.length = b.length) (h:∀ i,i < a.length→a.getD i 0 = b.getD i 0):a = b:=by
 apply List.ext_getElem hl
 intro i h1 h2
 have:=h i h1
 rwa [List.getD_eq_getElem?_getD,List.getElem?_eq_getElem h1,List.getD_eq_getElem?_getD,List.getElem?_eq_getElem h2] at this
theorem upto_at {ρ ρ':Env} {nv m:Nat} (hag:∀ n,n < nv→ρ' n = ρ n) (h:nv ≤ m):∀ n,n < nv→(ρ'.upto m) n = ρ n:=fun n hn=>by
 rw [Env.upto,if_pos (by omega)]
 exact hag n hn
end Go.Proofs

set_option linter.unusedSimpArgs false
set_option linter.unusedVariables false
namespace Go.Eng
open Go Go.Proofs

def mArgA:SV:=mArg 0 1 2 3 4
def iI (d:Rows'):List Int:=d.map fun r=>rowI r 0
def selL (m:List Int) (cols:Nat) (rs:List Int):List Int:=rs.flatMap fun r=>seg m (r.toNat * cols) cols
def selBad (r c l:Int) (n rows:Int) (rs:List Int):Prop:=¬ validM r c l∨n = 0∨255 < n∨∃ x ∈ rs,x < 0∨rows ≤ x
def sel62C:Ctr:={ fn := 133,nv:=12,args:=[mArgA,.one (.vslice 7 (.lit 0) (.var 8) (.var 9) 1)],heap:=[],ro:=[bHp 2 5 6,iHp 7 10 11],pre:=fun ρ=>0 ≤ (ρ 3).i∧(ρ 3).i ≤ (ρ 4).i∧(ρ 3).i ≤ (ρ 5).d.length∧allB (ρ 5).d∧0 ≤ (ρ 8).i∧(ρ 8).i = (ρ 10).d.length,alts:=[
 { k:=0,ret:=.tup [nilM,eRet (.lit 2)],heap:=[],post:=fun ρ=>selBad (ρ 0).i (ρ 1).i (ρ 3).i (ρ 8).i (ρ 0).i (iI (ρ 10).d) },
 { k:=4,ret:=.tup [mRet (.var 8) (.var 1) 12 13 14,eRet (.lit 0)],heap:=[bHp 12 15 14],post:=fun ρ=>¬ selBad (ρ 0).i (ρ 1).i (ρ 3).i (ρ 8).i (ρ 0).i (iI (ρ 10).d)∧matOk (ρ 8).i (ρ 1).i (ρ 13).i (ρ 14).i (ρ 15).d∧(ρ 13).i = (ρ 15).d.length∧bI (ρ 15).d = selL (bI (ρ 5).d) (ρ 1).i.toNat (iI (ρ 10).d) }] }
def selOk (r c l n:Int):Prop:=validM r c l∧1 ≤ n∧n ≤ 255
def sel62I:Inv:={ key:=4,nv:=3,env:=[(1,.one (.vslice 7 (.lit 0) (.var 8) (.var 9) 1)),(2,.one (.vptr 1001 (.lit 0) 3 0)),(4,.one (.vptr 1002 (.lit 0) 3 0)),(25,.one (.vslice 7 (.lit 0) (.var 8) (.var 9) 1)),(26,iv .i64 (.var 8)),(27,iv .i64 (.var 1000))],heap:=[zBox 1002,boxM 1001 0 1 2 3 4],inv:=(fun ρ=>selOk (ρ 0).i (ρ 1).i (ρ 3).i (ρ 8).i∧0 ≤ (ρ 1000).i∧(ρ 1000).i ≤ (ρ 8).i∧∀ x ∈ (iI (ρ 10).d).take (ρ 1000).i.toNat,0 ≤ x∧x < (ρ 0).i),mu:=(fun ρ=>((ρ 8).i - (ρ 1000).i).toNat) }
def sel62J:Inv:={ key:=11,nv:=8,env:=[(2,.one (.vptr 1001 (.lit 0) 3 0)),(4,.one (.vptr 1002 (.lit 0) 3 0)),(8,.one (.vptr 1007 (.lit 0) 3 0)),(46,.one (.vslice 7 (.lit 0) (.var 8) (.var 9) 1)),(47,iv .i64 (.var 8)),(48,iv .i64 (.var 1000))],heap:=[zBox 1002,boxM 1001 0 1 2 3 4,boxM 1007 8 1 1003 1004 1005,bHp 1003 1006 1005],inv:=(fun ρ=>selOk (ρ 0).i (ρ 1).i (ρ 3).i (ρ 8).i∧0 ≤ (ρ 1000).i∧(ρ 1000).i ≤ (ρ 8).i∧(∀ x ∈ iI (ρ 10).d,0 ≤ x∧x < (ρ 0).i)∧matOk (ρ 8).i (ρ 1).i (ρ 1004).i (ρ 1005).i (ρ 1006).d∧(ρ 1004).i = (ρ 1006).d.length∧(bI (ρ 1006).d).take ((ρ 1000).i * (ρ 1).i).toNat = selL (bI (ρ 5).d) (ρ 1).i.toNat ((iI (ρ 10).d).take (ρ 1000).i.toNat)),mu:=(fun ρ=>((ρ 8).i - (ρ 1000).i).toNat) }
def wgtL (xs:List Int) (x:Int):List Int:=(List.range xs.length).map fun i=>ofF (lagF xs.length (fun m=>toF (xs.getD m 0)) (toF x) i)
def distL (xs:List Int):Prop:=Go.Proofs.distinct xs.length fun m=>toF (xs.getD m 0)
def wgt78C:Ctr:={ fn := 137,nv:=6,args:=[.one (.vslice 0 (.lit 0) (.var 1) (.var 2) 1),iv .u8 (.var 5)],heap:=[],ro:=[bHp 0 3 4],pre:=fun ρ=>0 ≤ (ρ 1).i∧(ρ 1).i ≤ 256∧(ρ 1).i = (ρ 3).d.length∧allB (ρ 3).d∧byteP (ρ 5).i∧distL (bI (ρ 3).d),alts:=[{ k:=3,ret:=.one (.vslice 6 (.lit 0) (.var 1) (.var 7) 1),heap:=[bHp 6 8 7],post:=fun ρ=>(ρ 1).i ≤ (ρ 7).i∧bI (ρ 8).d = wgtL (bI (ρ 3).d) (ρ 5).i }] }
def wgtEnv:List (Nat × SV):=[(0,.one (.vslice 0 (.lit 0) (.var 1) (.var 2) 1)),(1,iv .u8 (.var 5)),(5,.one (.vslice 1000 (.lit 0) (.var 1) (.var 1001) 1))]
def wgtX (d:Rows') (m:Nat):F:=toF ((bI d).getD m 0)
def wgt78I:Inv:={ key:=3,nv:=4,env:=wgtEnv ++ [(6,iv .i64 (.var 1003))],heap:=[bHp 1000 1002 1001],inv:=(fun ρ=>(ρ 1).i ≤ (ρ 1001).i∧(ρ 1002).d = List.replicate (ρ 1).i.toNat [.int .u8 0]∧0 ≤ (ρ 1003).i∧(ρ 1003).i ≤ (ρ 1).i∧∀ m:Nat,(m:Int) < (ρ 1003).i→toF (ρ 5).i ≠ wgtX (ρ 3).d m),mu:=(fun ρ=>((ρ 1).i - (ρ 1003).i).toNat) }
def notIn (n:Int) (x:Int) (d:Rows'):Prop:=∀ m:Nat,(m:Int) < n→toF x ≠ wgtX d m
def wgt78J:Inv:={ key:=10,nv:=5,env:=wgtEnv ++ [(7,iv .u8 (.var 1003)),(8,iv .i64 (.var 1004))],heap:=[bHp 1000 1002 1001],inv:=(fun ρ=>(ρ 1).i ≤ (ρ 1001).i∧(ρ 1002).d = List.replicate (ρ 1).i.toNat [.int .u8 0]∧notIn (ρ 1).i (ρ 5).i (ρ 3).d∧0 ≤ (ρ 1004).i∧(ρ 1004).i ≤ (ρ 1).i∧byteP (ρ 1003).i∧toF (ρ 1003).i = fprod (fun m=>toF (ρ 5).i ^^^ wgtX (ρ 3).d m) (ρ 1004).i.toNat),mu:=(fun ρ=>((ρ 1).i - (ρ 1004).i).toNat) }
def wgtP (n x abv i:Int) (dw d:Rows'):Prop:=notIn n x d∧byteP abv∧toF abv = fprod (fun m=>toF x ^^^ wgtX d m) n.toNat∧dw.length = n.toNat∧0 ≤ i∧i ≤ n∧bI dw = fillTo (fun j=>ofF (lagF n.toNat (wgtX d) (toF x) j)) n.toNat i.toNat
def wgt78K:Inv:={ key:=14,nv:=5,env:=wgtEnv ++ [(7,iv .u8 (.var 1003)),(9,iv .i64 (.var 1004))],heap:=[bHp 1000 1002 1001],inv:=(fun ρ=>(ρ 1).i ≤ (ρ 1001).i∧wgtP (ρ 1).i (ρ 5).i (ρ 1003).i (ρ 1004).i (ρ 1002).d (ρ 3).d),mu:=(fun ρ=>((ρ 1).i - (ρ 1004).i).toNat) }
def wgt78L:Inv:={ key:=18,nv:=7,env:=wgtEnv ++ [(7,iv .u8 (.var 1003)),(9,iv .i64 (.var 1004)),(10,iv .u8 (.var 1005)),(11,iv .i64 (.var 1006))],heap:=[bHp 1000 1002 1001],inv:=(fun ρ=>(ρ 1).i ≤ (ρ 1001).i∧wgtP (ρ 1).i (ρ 5).i (ρ 1003).i (ρ 1004).i (ρ 1002).d (ρ 3).d∧(ρ 1004).i < (ρ 1).i∧(ρ 1004).i = (ρ 20).i∧0 ≤ (ρ 1006).i∧(ρ 1006).i ≤ (ρ 1).i∧byteP (ρ 1005).i∧toF (ρ 1005).i = fmul (toF (ρ 5).i ^^^ wgtX (ρ 3).d (ρ 1004).i.toNat) (fprod (fun m=>if m = (ρ 1004).i.toNat then 1 else wgtX (ρ 3).d (ρ 1004).i.toNat ^^^ wgtX (ρ 3).d m) (ρ 1006).i.toNat)),mu:=(fun ρ=>((ρ 1).i - (ρ 1006).i).toNat) }
def sizes29C:Ctr:={ sizes74C with fn := 113 }
end Go.Eng

set_option linter.unusedSimpArgs false
set_option linter.unusedVariables false
set_option maxRecDepth 100000
namespace Go.Proofs
open Go Go.Eng

def o_sel62:Out:=(.fresh 12 (.fresh 13 (.pre 0 (sg 0 [bv 6 6,bv 5 5,bv 4 4,bv 3 3,bg 2 2,bv 1 1,bv 0 0]) (.both (.fresh 14 (.post 0 0 (sg 0 [bv 6 6,bv 5 5,bv 4 4,bv 3 3,bg 2 2,bv 1 1,bv 0 0]) 14 (.br (.not (.var 14))
 (.ret 0 (sg 12 []))
 (.need (.cmp .leq (.lit 0) (.var 8)) (.br (.cmp .eql (.var 8) (.lit 0))
 (.ret 0 (sg 12 []))
 (.br (.cmp .gtr (.var 8) (.lit 255))
 (.ret 0 (sg 12 []))
 (.inv 0 15 (sg 1000 [bt 1000 (.lit 0),bg 1002 13,bg 1001 12]) (.fresh 15 (.fresh 16 (.fresh 17 (.hyp 0 15 (.br (.cmp .lss (.var 15) (.var 8))
 (.need (.cmp .leq (.lit 0) (.var 15)) (.need (.cmp .lss (.var 15) (.dlen (.var 10))) (.br (.cmp .lss (.icell (.var 10) (.var 15) 0) (.lit 0))
 (.ret 0 (sg 12 []))
 (.br (.cmp .geq (.icell (.var 10) (.var 15) 0) (.var 0))
 (.ret 0 (sg 12 []))
 (.back 0 15 (sg 1000 [bt 1000 (.arith .add .i64 (.var 15) (.lit 1)),bg 1002 17,bg 1001 16]))))))
 (.pre 1 (sg 0 [bv 1 1,bv 0 8]) (.both (.fresh 18 (.fresh 19 (.fresh 20 (.fresh 21 (.post 1 0 (sg 0 [bv 1 1,bv 0 8]) 18 (.fresh 22 (.inv 1 23 (sg 1000 [bv 1006 21,bv 1005 20,bv 1004 19,bg 1003 18,bt 1000 (.lit 0),bg 1007 22,bg 1002 17,bg 1001 16]) (.fresh 23 (.fresh 24 (.fresh 25 (.fresh 26 (.fresh 27 (.fresh 28 (.fresh 29 (.fresh 30 (.hyp 1 23 (.br (.cmp .lss (.var 23) (.var 8))
 (.need (.cmp .leq (.lit 0) (.var 23)) (.need (.cmp .lss (.var 23) (.dlen (.var 10))) (.both (.pre 2 (sg 0 [bv 6 28,bv 5 29,bv 7 23,bv 4 28,bv 3 27,bg 2 26,bv 1 1,bv 0 8]) (.both (.fresh 31 (.fresh 32 (.fresh 33 (.post 2 0 (sg 0 [bv 6 28,bv 5 29,bv 7 23,bv 4 28,bv 3 27,bg 2 26,bv 1 1,bv 0 8]) 31 (.both (.pre 2 (sg 0 [bv 6 6,bv 5 5,bt 7 (.icell (.var 10) (.var 23) 0),bv 4 4,bv 3 3,bg 2 2,bv 1 1,bv 0 0]) (.both (.fresh 34 (.fresh 35 (.fresh 36 (.post 2 0 (sg 0 [bv 6 6,bv 5 5,bt 7 (.icell (.var 10) (.var 23) 0),bv 4 4,bv 3 3,bg 2 2,bv 1 1,bv 0 0]) 34 (.both (.need (.cmp .leq (.lit 0) (.var 31)) (.need (.cmp .leq (.lit 0) (.var 32)) (.need (.cmp .leq (.plus (.var 31) (.var 32)) (.dlen (.var 29))) (.need (.cmp .leq (.lit 0) (.var 34)) (.need (.cmp .leq (.lit 0) (.var 35)) (.need (.cmp .leq (.plus (.var 34) (.var 35)) (.dlen (.var 5))) (.fresh 37 (.back 1 23 (sg 1000 [bt 1006 (.c3 .dsplice (.var 29) (.var 31) (.dtake (.dtake (.ddrop (.var 5) (.var 34)) (.var 35)) (.imin (.var 32) (.var 35)))),bv 1005 28,bv 1004 27,bg 1003 26,bt 1000 (.arith .add .i64 (.var 23) (.lit 1)),bg 1007 30,bg 1002 25,bg 1001 24]))))))))) .top))))) .top)) .top))))) .top)) .top)))
 (.ret 1 (sg 12 [bv 15 29,bv 14 28,bv 13 27,bg 12 26]))))))))))))))))))) .top)))))))))))))) .top))))
theorem o_sel62_eq:treeOf ⟨Tryz.prog,sel62C,[valid36C,zero82C,row75C],[sel62I,sel62J]⟩ 100000 Tryz.f133 = o_sel62:=by kernel_rfl
theorem sel62_of (hd:∀ c ∈ ([valid36C,zero82C,row75C]:List Ctr),c.ok Tryz.prog) (h:∀ ρ:Env,ρ.good→(sel62C).pre ρ→o_sel62.den ⟨Tryz.prog,sel62C,[valid36C,zero82C,row75C],[sel62I,sel62J]⟩ ρ):(sel62C).ok Tryz.prog :=
 ok_of_tree Tryz.func133 (fun a w=>Tryz.call133 a w) hd 100000 (fun ρ hg hp=>by rw [o_sel62_eq]; exact h ρ hg hp)
def o_wgt78:Out:=(.need (.cmp .leq (.lit 0) (.var 1)) (.need (.cmp .leq (.tims (.lit 1) (.var 1)) (.lit 281474976710656)) (.fresh 6 (.inv 0 7 (sg 1000 [bt 1002 (.drep (.var 1) (.rcons (.vint .u8 (.lit 0)) .rnil)),bt 1003 (.lit 0),bv 1001 1,bg 1000 6]) (.fresh 7 (.fresh 8 (.fresh 9 (.fresh 10 (.hyp 0 7 (.br (.cmp .lss (.var 10) (.var 1))
 (.need (.cmp .leq (.lit 0) (.var 10)) (.need (.cmp .lss (.var 10) (.dlen (.var 3))) (.br (.cmp .eql (.icell (.var 3) (.var 10) 0) (.var 5))
 (.need (.cmp .lss (.var 10) (.dlen (.var 9))) (.ret 0 (sg 6 [bt 8 (.dput (.var 9) (.var 10) 0 (.rcons (.vint .u8 (.lit 1)) .rnil)),bv 7 8,bg 6 7])))
 (.back 0 7 (sg 1000 [bv 1002 9,bt 1003 (.arith .add .i64 (.var 10) (.lit 1)),bv 1001 8,bg 1000 7])))))
 (.inv 1 11 (sg 1000 [bv 1002 9,bt 1004 (.lit 0),bt 1003 (.lit 1),bv 1001 8,bg 1000 7]) (.fresh 11 (.fresh 12 (.fresh 13 (.fresh 14 (.fresh 15 (.hyp 1 11 (.br (.cmp .lss (.var 15) (.var 1))
 (.need (.cmp .leq (.lit 0) (.var 15)) (.need (.cmp .lss (.var 15) (.dlen (.var 3))) (.pre 0 (sg 0 [bt 1 (.arith .xor .u8 (.var 5) (.icell (.var 3) (.var 15) 0)),bv 0 14]) (.both (.fresh 16 (.post 0 0 (sg 0 [bt 1 (.arith .xor .u8 (.var 5) (.icell (.var 3) (.var 15) 0)),bv 0 14]) 16 (.back 1 11 (sg 1000 [bv 1002 13,bt 1004 (.arith .add .i64 (.var 15) (.lit 1)),bv 1003 16,bv 1001 12,bg 1000 11])))) .top))))
 (.inv 2 16 (sg 1000 [bv 1002 13,bt 1004 (.lit 0),bv 1003 14,bv 1001 12,bg 1000 11]) (.fresh 16 (.fresh 17 (.fresh 18 (.fresh 19 (.fresh 20 (.hyp 2 16 (.br (.cmp .lss (.var 20) (.var 1))
 (.need (.cmp .leq (.lit 0) (.var 20)) (.need (.cmp .lss (.var 20) (.dlen (.var 3))) (.inv 3 21 (sg 1000 [bv 1002 18,bt 1006 (.lit 0),bt 1005 (.arith .xor .u8 (.var 5) (.icell (.var 3) (.var 20) 0)),bv 1004 20,bv 1003 19,bv 1001 17,bg 1000 16]) (.fresh 21 (.fresh 22 (.fresh 23 (.fresh 24 (.fresh 25 (.fresh 26 (.fresh 27 (.hyp 3 21 (.br (.cmp .lss (.var 27) (.var 1))
 (.br (.cmp .neq (.var 27) (.var 25))
 (.need (.cmp .leq (.lit 0) (.var 25)) (.need (.cmp .lss (.var 25) (.var 1)) (.need (.cmp .lss (.var 25) (.dlen (.var 3))) (.need (.cmp .leq (.lit 0) (.var 27)) (.need (.cmp .lss (.var 27) (.dlen (.var 3))) (.both (.pre 0 (sg 0 [bt 1 (.arith .xor .u8 (.icell (.var 3) (.var 25) 0) (.icell (.var 3) (.var 27) 0)),bv 0 26]) (.both (.fresh 28 (.post 0 0 (sg 0 [bt 1 (.arith .xor .u8 (.icell (.var 3) (.var 25) 0) (.icell (.var 3) (.var 27) 0)),bv 0 26]) 28 (.back 3 21 (sg 1000 [bv 1002 23,bt 1006 (.arith .add .i64 (.var 27) (.lit 1)),bv 1005 28,bv 1004 25,bv 1003 24,bv 1001 22,bg 1000 21])))) .top)) .top))))))
 (.back 3 21 (sg 1000 [bv 1002 23,bt 1006 (.arith .add .i64 (.var 27) (.lit 1)),bv 1005 26,bv 1004 25,bv 1003 24,bv 1001 22,bg 1000 21])))
 (.pre 1 (sg 0 [bv 0 26]) (.both (.fresh 28 (.post 1 0 (sg 0 [bv 0 26]) 28 (.pre 0 (sg 0 [bv 1 28,bv 0 24]) (.both (.fresh 29 (.post 0 0 (sg 0 [bv 1 28,bv 0 24]) 29 (.need (.cmp .leq (.lit 0) (.var 25)) (.need (.cmp .lss (.var 25) (.var 1)) (.need (.cmp .lss (.var 25) (.dlen (.var 23))) (.back 2 16 (sg 1000 [bt 1002 (.dput (.var 23) (.var 25) 0 (.rcons (.vint .u8 (.var 29)) .rnil)),bt 1004 (.arith .add .i64 (.var 25) (.lit 1)),bv 1003 24,bv 1001 22,bg 1000 21]))))))) .top)))) .top))))))))))))))
 (.ret 0 (sg 6 [bv 8 18,bv 7 17,bg 6 16]))))))))))))))))))))))))))))
theorem o_wgt78_eq:treeOf ⟨Tryz.prog,wgt78C,[times53C,over54C],[wgt78I,wgt78J,wgt78K,wgt78L]⟩ 100000 Tryz.f137 = o_wgt78:=by kernel_rfl
theorem wgt78_of (hd:∀ c ∈ ([times53C,over54C]:List Ctr),c.ok Tryz.prog) (h:∀ ρ:Env,ρ.good→(wgt78C).pre ρ→o_wgt78.den ⟨Tryz.prog,wgt78C,[times53C,over54C],[wgt78I,wgt78J,wgt78K,wgt78L]⟩ ρ):(wgt78C).ok Tryz.prog :=
 ok_of_tree Tryz.func137 (fun a w=>Tryz.call137 a w) hd 100000 (fun ρ hg hp=>by rw [o_wgt78_eq]; exact h ρ hg hp)
def o_sizes29:Out:=(.br (.cmp .leq (.lit 1) (.var 0))
 (.br (.cmp .leq (.var 0) (.var 1))
 (.ret 0 (sg 2 [bt 2 (.cmp .leq (.var 1) (.lit 255))]))
 (.ret 0 (sg 2 [bt 2 (.bl false)])))
 (.ret 0 (sg 2 [bt 2 (.bl false)])))
theorem o_sizes29_eq:treeOf ⟨Tryz.prog,sizes29C,[],[]⟩ 100000 Tryz.f113 = o_sizes29:=by kernel_rfl
theorem sizes29_of (hd:∀ c ∈ ([]:List Ctr),c.ok Tryz.prog) (h:∀ ρ:Env,ρ.good→(sizes29C).pre ρ→o_sizes29.den ⟨Tryz.prog,sizes29C,[],[]⟩ ρ):(sizes29C).ok Tryz.prog :=
 ok_of_tree Tryz.func113 (fun a w=>Tryz.call113 a w) hd 100000 (fun ρ hg hp=>by rw [o_sizes29_eq]; exact h ρ hg hp)
end Go.Proofs

set_option linter.unusedSimpArgs false
set_option linter.unusedVariables false
namespace Go.Proofs
open Go Go.Eng

theorem take_snoc' {l:List Int} {n:Nat} (h:n < l.length):l.take (n + 1) = l.take n ++ [l.getD n 0]:=by
 rw [List.take_add_one,List.getD_eq_getElem?_getD,List.getElem?_eq_getElem h]; rfl
end Go.Proofs

set_option linter.unusedSimpArgs false
set_option linter.unusedVariables false
namespace Go.Proofs
open Go Go.Eng
theorem sizes29_ok:sizes29C.ok Tryz.prog:=sizes29_of (by simp) fun ρ hg hp=>by
 simp [o_sizes29,sizes29C,sizes74C]
 refine ⟨fun h1=>⟨fun h2=>?_,fun h2=>?_⟩,fun h1=>?_⟩
 ·simp [sizesB,h1,h2,cmpOf]
 ·simp [sizesB]; omega
 ·simp [sizesB]; omega
theorem iI_len {d:Rows'}:(iI d).length = d.length:=by simp [iI]
theorem iI_get {d:Rows'} {i:Int} (h0:0 ≤ i) (h1:i < d.length):(iI d).getD i.toNat 0 = cellI d i 0:=by
 have hl:i.toNat < d.length:=by omega
 simp [iI,cellI,cellV,rowI,List.getD_eq_getElem?_getD,List.getElem?_eq_getElem hl]
theorem selL_snoc {m:List Int} {c:Nat} {rs:List Int} {n:Nat} (h:n < rs.length):selL m c (rs.take (n + 1)) = selL m c (rs.take n) ++ seg m ((rs.getD n 0).toNat * c) c:=by
 rw [take_snoc' h,selL,List.flatMap_append]; simp [selL]
theorem selL_len {m:List Int} {c r:Nat} (hm:r * c ≤ m.length):∀ {rs:List Int},(∀ x ∈ rs,0 ≤ x∧x < (r:Int))→(selL m c rs).length = rs.length * c
 | [],_=>by simp [selL]
 | x :: rs,h=>by
  have ih:=selL_len hm (rs:=rs) fun y hy=>h y (List.mem_cons_of_mem _ hy)
  have hx:=h x (List.mem_cons_self ..)
  have:=row_le (ca:=c) (show x.toNat < r by omega)
  rw [selL,List.flatMap_cons,List.length_append,seg_len (by omega),show (rs.flatMap fun r=>seg m (r.toNat * c) c) = selL m c rs from rfl,ih,List.length_cons,Nat.add_mul]; omega
theorem selBad_not {r c l n rows:Int} {rs:List Int} (h:selOk r c l n) (hr:∀ x ∈ rs,0 ≤ x∧x < rows):¬ selBad r c l n rows rs:=by
 obtain ⟨h1,h2,h3⟩:=h
 intro hb
 rcases hb with hb | hb | hb | ⟨x,hx,hb⟩
 ·exact hb h1
 ·omega
 ·omega
 ·have:=hr x hx; omega
theorem mem_take_succ {l:List Int} {n:Nat} {P:Int→Prop} (hn:n < l.length) (h:∀ x ∈ l.take n,P x) (hx:P (l.getD n 0)):∀ x ∈ l.take (n + 1),P x:=fun x hm=>by
 rw [take_snoc' hn] at hm
 rcases List.mem_append.1 hm with hm | hm
 ·exact h x hm
 ·rw [List.mem_singleton] at hm; rw [hm]; exact hx
theorem getD_mem {l:List Int} {n:Nat} (h:n < l.length):l.getD n 0 ∈ l:=by
 rw [List.getD_eq_getElem?_getD,List.getElem?_eq_getElem h]; exact List.getElem_mem h
theorem splice_take {d x:Rows'} {k:Nat} (h:k + x.length ≤ d.length):(bI (spliceD d k x)).take (k + x.length) = (bI d).take k ++ bI x:=by
 rw [spliceD,bI,List.map_append,List.map_append,List.append_assoc,← List.append_assoc,List.take_append_of_le_length (by simp; omega),List.take_of_length_le (by simp; omega)]
 simp [bI,List.map_take]
theorem allB_spliceK {d x:Rows'} {k:Nat} (hd:allB d) (hx:allB x):allB (spliceD d k x):=fun r hr=>by
 unfold spliceD at hr
 rcases List.mem_append.1 hr with hr | hr
 ·rcases List.mem_append.1 hr with hr | hr
  ·exact hd r (List.mem_of_mem_take hr)
  ·exact hx r hr
 ·exact hd r (List.mem_of_mem_drop hr)
theorem bI_drop {d:Rows'} {n:Nat}:bI (d.drop n) = (bI d).drop n:=by simp [bI,List.map_drop]
theorem sel62_ok:sel62C.ok Tryz.prog:=sel62_of (by simp [valid36_ok,zero82_ok,row75_ok]) fun ρ hg hp=>by
 obtain ⟨a0,a1,a2,a3,n0,n1⟩:0 ≤ (ρ 3).i∧(ρ 3).i ≤ (ρ 4).i∧(ρ 3).i ≤ (ρ 5).d.length∧allB (ρ 5).d∧0 ≤ (ρ 8).i∧(ρ 8).i = (ρ 10).d.length:=hp
 simp (config:={ maxSteps:=4000000 }) [o_sel62,sel62C,sel62I,sel62J,valid36C,zero82C,row75C]
 refine ⟨a0,fun v _ hv=>⟨fun hb=>.inl fun h=>?_,fun hb=>⟨n0,fun h=>.inr (.inl h),fun hn=>⟨fun h=>.inr (.inr (.inl h)),fun hn2=>?_⟩⟩⟩⟩
 ·have:=hv.2 h; rw [hb] at this; cases this
 have vA:validM (ρ 0).i (ρ 1).i (ρ 3).i:=hv.1 hb
 have hok:selOk (ρ 0).i (ρ 1).i (ρ 3).i (ρ 8).i:=⟨vA,by omega,hn2⟩
 have vA':=vA
 obtain ⟨r1,r2,c1,c2,hl⟩:=vA'
 have hil:(iI (ρ 10).d).length = (ρ 8).i.toNat:=by rw [iI_len]; omega
 refine ⟨⟨hok,n0⟩,fun i _ _ i0 i1 hin=>⟨fun hi=>⟨i0,by omega,fun h=>?_,fun h0=>⟨fun h=>?_,fun h1=>?_⟩⟩,fun hi=>?_⟩⟩
 ·refine .inr (.inr (.inr ⟨cellI (ρ 10).d i.i 0,?_,.inl h⟩))
  rw [← iI_get i0 (by omega)]; exact getD_mem (by omega)
 ·refine .inr (.inr (.inr ⟨cellI (ρ 10).d i.i 0,?_,.inr h⟩))
  rw [← iI_get i0 (by omega)]; exact getD_mem (by omega)
 ·rw [add64 (by omega) (by omega)]
  refine ⟨⟨hok,by omega,by omega,?_⟩,by omega⟩
  rw [show (i.i + 1).toNat = i.i.toNat + 1 by omega]
  exact mem_take_succ (by omega) hin (by rw [iI_get i0 (by omega)]; exact ⟨h0,h1⟩)
 have hall:∀ x ∈ iI (ρ 10).d,0 ≤ x∧x < (ρ 0).i:=by
  rw [List.take_of_length_le (by omega)] at hin; exact hin
 have hbb:=mul_bound (x:=(ρ 8).i) (y:=(ρ 1).i) n0 hn2 (by omega) c2
 refine ⟨⟨n0,hn2,by omega,c2⟩,fun l _ cp _ d _ hl1 hc1 hd=>⟨⟨hok,n0,hall,?_,by rw [hd,List.length_replicate]; omega,rfl⟩,fun j _ l2 _ cp2 _ d2 _ _ j0 j1 _ hM hL hS=>⟨fun hj=>?_,fun hj=>?_⟩⟩⟩
 ·exact ⟨n0,hn2,by omega,c2,hl1,by omega,by rw [hd,List.length_replicate]; omega,by rw [hd]; exact allB_rep⟩
 ·have hx:=hall _ (getD_mem (l:=iI (ρ 10).d) (n:=j.i.toNat) (by omega))
  rw [iI_get j0 (by omega)] at hx
  have hM':=hM
  obtain ⟨m1,m2,m3,m4,m5,m6,m7,m8⟩:=hM'
  refine ⟨j0,by omega,⟨j0,hj,hM⟩,fun o _ n _ k _ ho hn' hk=>⟨⟨hx.1,hx.2,by omega,r2,by omega,c2,hl,a1,a2,a3⟩,fun o' _ n' _ k' _ ho' hn'' hk'=>?_⟩⟩
  have hbj:=mul_bound (x:=j.i) (y:=(ρ 1).i) j0 (show j.i ≤ 255 by omega) (by omega) c2
  have hbx:=mul_bound (x:=cellI (ρ 10).d j.i 0) (y:=(ρ 1).i) hx.1 (show _ ≤ 255 by omega) (by omega) c2
  have hle1:j.i * (ρ 1).i + (ρ 1).i ≤ (ρ 8).i * (ρ 1).i:=by
   have:=Int.mul_le_mul_of_nonneg_right (show j.i + 1 ≤ (ρ 8).i by omega) (show 0 ≤ (ρ 1).i by omega)
   rw [Int.add_mul,Int.one_mul] at this; omega
  have hle2:cellI (ρ 10).d j.i 0 * (ρ 1).i + (ρ 1).i ≤ (ρ 0).i * (ρ 1).i:=by
   have:=Int.mul_le_mul_of_nonneg_right (show cellI (ρ 10).d j.i 0 + 1 ≤ (ρ 0).i by omega) (show 0 ≤ (ρ 1).i by omega)
   rw [Int.add_mul,Int.one_mul] at this; omega
  rw [if_neg (by omega),add64 (by omega) (by omega)]
  have hseg:((((ρ 5).d.drop o'.i.toNat).take n'.i.toNat).take n.i.toNat) = ((ρ 5).d.drop o'.i.toNat).take (ρ 1).i.toNat:=by rw [List.take_take,hn',hn'',Nat.min_self]
  rw [hseg]
  have hsl:(((ρ 5).d.drop o'.i.toNat).take (ρ 1).i.toNat).length = (ρ 1).i.toNat:=by rw [List.length_take,List.length_drop]; omega
  refine ⟨by omega,by omega,by omega,by omega,by omega,by omega,⟨hok,by omega,by omega,hall,?_,?_,?_⟩,by omega⟩
  ·exact ⟨m1,m2,m3,m4,m5,m6,by rw [spliceD_len (by rw [hsl]; omega)]; exact m7,allB_spliceK m8 fun r hr=>a3 r (List.mem_of_mem_drop (List.mem_of_mem_take hr))⟩
  ·rw [spliceD_len (by rw [hsl]; omega)]; exact hL
  ·have hk1:((j.i + 1) * (ρ 1).i).toNat = o.i.toNat + (((ρ 5).d.drop o'.i.toNat).take (ρ 1).i.toNat).length:=by rw [hsl,Int.add_mul,Int.one_mul]; omega
   rw [hk1,splice_take (by rw [hsl]; omega),ho,hS,show (j.i + 1).toNat = j.i.toNat + 1 by omega,selL_snoc (by omega),iI_get j0 (by omega),bI_take,bI_drop,ho',seg]
   congr 3
   rw [Int.toNat_mul hx.1 (by omega)]
 ·have:j.i = (ρ 8).i:=by omega
  have hl8:=hM.2.2.2.2.1
  rw [this,List.take_of_length_le (by rw [bI_len]; omega),List.take_of_length_le (by omega)] at hS
  exact ⟨selBad_not hok hall,hM,hL,hS⟩
theorem wgtX_cell {d:Rows'} {i:Int} (h0:0 ≤ i) (h1:i < d.length):toF (cellI d i 0) = wgtX d i.toNat:=by
 rw [wgtX,List.getD_eq_getElem?_getD,bI_get h0 h1]; rfl
theorem fillTo_at {f:Nat→Int} {n:Nat}:fillTo f n n = (List.range n).map f:=fillTo_full
theorem finv_fmul {a b:F} (ha:a ≠ 0) (hb:b ≠ 0):finv (fmul a b) = fmul (finv a) (finv b):=by
 symm
 refine fmul_eq_one ?_
 rw [fmul_assoc,← fmul_assoc (x:=b),fmul_comm (x:=b),fmul_assoc (x:=finv a),fmul_finv hb,fmul_one,fmul_finv ha]
theorem lag_weight {n:Nat} {xs:Nat→F} {x:F} {i:Nat} (hd:distinct n xs) (hi:i < n) (hx:∀ m,m < n→x ≠ xs m) :
  fmul (fprod (fun m=>x ^^^ xs m) n) (finv (fmul (x ^^^ xs i) (fprod (fun m=>if m = i then 1 else xs i ^^^ xs m) n))) = lagF n xs x i:=by
 have h1:x ^^^ xs i ≠ 0:=fun h=>hx i hi (xor_eq_zero.1 h)
 have h2:fprod (fun m=>if m = i then 1 else xs i ^^^ xs m) n ≠ 0:=fprod_ne fun m hm=>by
  split
  ·decide
  ·rename_i hmi
   exact fun h=>hmi (hd i m hi hm (xor_eq_zero.1 h)).symm
 rw [finv_fmul h1 h2,fprod_out hi,lagF,fmul_comm (x:=x ^^^ xs i),fmul_assoc,← fmul_assoc (x:=x ^^^ xs i),fmul_finv h1,one_fmul]
theorem wgtL_in {d:Rows'} {x:Int} {i:Nat} (hd:distL (bI d)) (hi:i < d.length) (hx:toF x = wgtX d i):wgtL (bI d) x = (List.replicate d.length 0).set i 1:=by
 apply List.ext_getElem?
 intro j
 rw [wgtL,bI_len,List.getElem?_map,List.getElem?_set]
 by_cases hj:j < d.length
 ·rw [List.getElem?_range hj,Option.map_some,hx]
  have hdd:distinct d.length (wgtX d):=by
   have:=hd
   unfold distL at this
   rw [bI_len] at this
   exact this
  have hl:lagF d.length (fun m=>toF ((bI d).getD m 0)) (wgtX d i) j = del j i:=lag_del hdd hj hi
  rw [hl,del]
  by_cases hij:i = j
  ·subst hij; rw [if_pos rfl,if_pos rfl,if_pos (by simpa using hj)]; rfl
  ·rw [if_neg (Ne.symm hij),if_neg hij,List.getElem?_replicate,if_pos hj]; rfl
 ·rw [List.getElem?_eq_none (by simp; omega),Option.map_none,if_neg (by omega),List.getElem?_eq_none (by simp; omega)]
theorem wgt78_ok:wgt78C.ok Tryz.prog:=wgt78_of (by simp [times53_ok,over54_ok]) fun ρ hg hp=>by
 obtain ⟨l0,l1,l2,hB,hx,hd⟩:=hp
 have hdd:distinct (ρ 1).i.toNat (wgtX (ρ 3).d):=by
  have:=hd
  unfold distL at this
  rw [bI_len,show (ρ 3).d.length = (ρ 1).i.toNat by omega] at this
  exact this
 have hw1:∀ i:Int,0 ≤ i→i < (ρ 1).i→isB (cellI (ρ 3).d i 0):=fun i h0 h1=>allB_get hB h0 (by omega)
 simp (config:={ maxSteps:=4000000 }) [o_wgt78,wgt78C,wgt78I,wgt78J,wgt78K,wgt78L,times53C,over54C]
 refine ⟨l0,by omega,⟨l0,fun m h=>by omega⟩,fun cp _ w _ i _ hcp hw i0 i1 hni=>⟨fun hi=>⟨i0,by omega,fun he=>?_,fun hne=>?_⟩,fun hi=>?_⟩⟩
 ·rw [hw]
  refine ⟨by rw [List.length_replicate]; omega,hcp,?_⟩
  rw [bI_put,bI_rep,wgtL_in hd (i:=i.i.toNat) (by omega) (by rw [← he]; exact wgtX_cell i0 (by omega)),show (ρ 1).i.toNat = (ρ 3).d.length by omega]
 ·rw [add64 (by omega) (by omega)]
  refine ⟨⟨hcp,hw,by omega,by omega,fun m hm=>?_⟩,by omega⟩
  by_cases hmi:(m:Int) = i.i
  ·intro h
   have hc:=wgtX_cell (d:=(ρ 3).d) i0 (by omega)
   rw [← hmi,Int.toNat_natCast,hmi] at hc
   exact hne (toF_inj (hw1 _ i0 hi) hx (hc.trans h.symm))
  ·exact hni m (by omega)
 have hnot:notIn (ρ 1).i (ρ 5).i (ρ 3).d:=fun m hm=>hni m (by omega)
 have hneq:∀ m,m < (ρ 1).i.toNat→toF (ρ 5).i ≠ wgtX (ρ 3).d m:=fun m hm=>hnot m (by omega)
 refine ⟨⟨hcp,hw,hnot,l0,⟨by omega,by omega⟩,rfl⟩,fun cp2 _ w2 _ p _ j _ hcp2 hw2 _ j0 j1 hpB hp=>⟨fun hj=>?_,fun hj=>?_⟩⟩
 ·rw [add64 (by omega) (by omega)]
  refine ⟨j0,by omega,⟨hpB,xorB_isB⟩,fun q _ hq=>⟨⟨hcp2,hw2,hnot,by omega,by omega,by rw [hq]; exact mulF_isB hpB xorB_isB,?_⟩,by omega⟩⟩
  have hxx:toF (xorB (ρ 5).i (cellI (ρ 3).d j.i 0)) = toF (ρ 5).i ^^^ wgtX (ρ 3).d j.i.toNat:=by rw [toF_xorB,wgtX_cell j0 (by omega)]
  have hm:toF (mulF p.i (xorB (ρ 5).i (cellI (ρ 3).d j.i 0))) = fmul (toF p.i) (toF (ρ 5).i ^^^ wgtX (ρ 3).d j.i.toNat):=by rw [toF_mulF hpB xorB_isB,hxx]
  rw [hq,show (j.i + 1).toNat = j.i.toNat + 1 by omega,fprod,← hp]
  exact hm
 have hpn:toF p.i = fprod (fun m=>toF (ρ 5).i ^^^ wgtX (ρ 3).d m) (ρ 1).i.toNat:=by rw [hp]; congr 1; omega
 refine ⟨⟨hcp2,hnot,hpB,hpn,by rw [hw2,List.length_replicate],Int.le_refl _,l0,by rw [hw2,bI_rep]; exact fillTo_zero.symm⟩,fun cp3 _ w3 _ p3 _ i3 _ hcp3 hP=>⟨fun hi3=>?_,fun hi3=>?_⟩⟩
 ·have hP':=hP
  obtain ⟨_,hpB3,hp3,hwl,i30,i31,hf⟩:=hP'
  have hst:toF (xorB (ρ 5).i (cellI (ρ 3).d i3.i 0)) = toF (ρ 5).i ^^^ wgtX (ρ 3).d i3.i.toNat:=by rw [toF_xorB,wgtX_cell i30 (by omega)]
  refine ⟨i30,by omega,⟨hcp3,hP,hi3,l0,xorB_isB,?_⟩,fun cp4 _ w4 _ p4 _ i4 _ q4 _ j4 _ hcp4 hP4 hi4 hii j40 j41 hqB hq4=>⟨fun hj4=>⟨fun hne=>?_,fun he=>?_⟩,fun hj4=>?_⟩⟩
  ·show toF (xorB _ _) = _
   rw [hst,fprod]; exact fmul_one.symm
  ·obtain ⟨_,hpB4,hp4,hwl4,i40,i41,hf4⟩:=hP4
   rw [add64 (by omega) (by omega)]
   refine ⟨i40,hi4,by omega,j40,by omega,⟨hqB,xorB_isB⟩,fun z _ hz=>⟨⟨hcp4,⟨hnot,hpB4,hp4,hwl4,i40,i41,hf4⟩,hi4,hii,by omega,by omega,by rw [hz]; exact mulF_isB hqB xorB_isB,?_⟩,by omega⟩⟩
   have hm:toF (mulF q4.i (xorB (cellI (ρ 3).d i4.i 0) (cellI (ρ 3).d j4.i 0))) = fmul (toF q4.i) (wgtX (ρ 3).d i4.i.toNat ^^^ wgtX (ρ 3).d j4.i.toNat):=by rw [toF_mulF hqB xorB_isB,toF_xorB,wgtX_cell i40 (by omega),wgtX_cell j40 (by omega)]
   rw [hz,show (j4.i + 1).toNat = j4.i.toNat + 1 by omega,fprod,if_neg (by omega),← fmul_assoc,← hq4]
   exact hm
  ·rw [add64 (by omega) (by omega)]
   refine ⟨⟨hcp4,hP4,hi4,hii,by omega,by omega,hqB,?_⟩,by omega⟩
   rw [hq4,show (j4.i + 1).toNat = j4.i.toNat + 1 by omega,fprod,if_pos (by omega),show (1#8:F) = 1 from rfl,fmul_one]
  ·obtain ⟨_,hpB4,hp4,hwl4,i40,i41,hf4⟩:=hP4
   rw [add64 (by omega) (by omega)]
   refine ⟨hqB,fun iv _ hiv=>⟨⟨hpB4,by rw [hiv]; exact invF_isB hqB⟩,fun z _ hz=>⟨i40,hi4,by omega,⟨hcp4,hnot,hpB4,hp4,by rw [putD_len]; exact hwl4,by omega,by omega,?_⟩,by omega⟩⟩⟩
   rw [bI_put,hf4,show (i4.i + 1).toNat = i4.i.toNat + 1 by omega,fillTo_step (by omega)]
   congr 1
   refine toF_inj ?_ ofF_isB ?_
   ·rw [hz]; exact mulF_isB hpB4 (by rw [hiv]; exact invF_isB hqB)
   ·rw [hz,hiv,toF_mulF hpB4 (invF_isB hqB),toF_invF hqB,hp4,hq4,toF_ofF,show j4.i.toNat = (ρ 1).i.toNat by omega]
    exact lag_weight hdd (by omega) hneq
 ·obtain ⟨_,hpB3,hp3,hwl,i30,i31,hf⟩:=hP
  refine ⟨hcp3,?_⟩
  rw [hf,show i3.i.toNat = (ρ 1).i.toNat by omega,fillTo_at,wgtL,bI_len,show (ρ 3).d.length = (ρ 1).i.toNat by omega]
  rfl
theorem wgtL_len {xs:List Int} {x:Int}:(wgtL xs x).length = xs.length:=by simp [wgtL]
end Go.Proofs

set_option linter.unusedSimpArgs false
set_option linter.unusedVariables false
namespace Go.Eng
open Go Go.Proofs
def chooseOk (k total:Nat) (rs:List Int):Prop:=rs.length = k∧rs.Nodup∧∀ x ∈ rs,0 ≤ x∧x < (total:Int)
end Go.Eng
namespace Go.Proofs
open Go Go.Eng

theorem del_symm {i j:Nat}:del i j = del j i:=by
 unfold del
 by_cases hij:i = j
 ·rw [if_pos hij,if_pos hij.symm]
 ·rw [if_neg hij,if_neg (Ne.symm hij)]
theorem sel_get {m:List Int} {k R:Nat} (hm:m.length = R * k):∀ {rs:List Int},(∀ x ∈ rs,0 ≤ x∧x < (R:Int))→∀ {i j:Nat},i < rs.length→j < k→(selL m k rs).getD (i * k + j) 0 = m.getD ((rs.getD i 0).toNat * k + j) 0
 | [],_,i,j,hi,_=>by simp at hi
 | x :: rs,h,i,j,hi,hj=>by
  have hx:=h x (List.mem_cons_self ..)
  have hxk:x.toNat * k + k ≤ R * k:=by
   have h1:x.toNat + 1 ≤ R:=by omega
   have:=Nat.mul_le_mul_right k h1
   rw [Nat.add_mul] at this; omega
  have hsl:(seg m (x.toNat * k) k).length = k:=by rw [seg,List.length_take,List.length_drop]; omega
  rw [selL,List.flatMap_cons]
  cases i with
  | zero =>
   rw [Nat.zero_mul,Nat.zero_add,List.getD_eq_getElem?_getD,List.getElem?_append_left (by rw [hsl]; exact hj),seg,List.getElem?_take,if_pos hj,List.getElem?_drop,← List.getD_eq_getElem?_getD]
   rfl
  | succ i =>
   have ih:=sel_get hm (rs:=rs) (fun y hy=>h y (List.mem_cons_of_mem _ hy)) (i:=i) (j:=j) (by simpa using hi) hj
   rw [List.getD_eq_getElem?_getD,List.getElem?_append_right (by rw [hsl,Nat.add_mul]; omega),hsl,show (i + 1) * k + j - k = i * k + j by rw [Nat.add_mul]; omega,← List.getD_eq_getElem?_getD]
   exact ih
theorem sel_bytes {m:List Int} {k:Nat} {rs:List Int} (h:bytesL m):bytesL (selL m k rs):=fun x hx=>by
 rw [selL,List.mem_flatMap] at hx
 obtain ⟨r,_,hx⟩:=hx
 exact h x (List.mem_of_mem_drop (List.mem_of_mem_take hx))
theorem chosen_distinct {k total:Nat} {rs:List Int} (h:chooseOk k total rs) (ht:total ≤ 255):distinct k fun i=>xsF (rs.getD i 0).toNat:=by
 obtain ⟨h1,h2,h3⟩:=h
 intro i j hi hj he
 have gi:rs.getD i 0 = rs[i]'(by omega):=by rw [List.getD_eq_getElem?_getD,List.getElem?_eq_getElem (by omega)]; rfl
 have gj:rs.getD j 0 = rs[j]'(by omega):=by rw [List.getD_eq_getElem?_getD,List.getElem?_eq_getElem (by omega)]; rfl
 have mi:=h3 _ (List.getElem_mem (l:=rs) (n:=i) (by omega))
 have mj:=h3 _ (List.getElem_mem (l:=rs) (n:=j) (by omega))
 simp only [gi,gj] at he
 have:=xs_distinct (n:=256) (Nat.le_refl _) _ _ (by omega) (by omega) he
 exact (List.getElem_inj (h₀:=by omega) (h₁:=by omega) h2).1 (by omega)
theorem sel_len' {m:List Int} {k total:Nat} {rs:List Int} (h:chooseOk k total rs) (hm:m.length = total * k):(selL m k rs).length = k * k:=by
 rw [selL_len (r:=total) (by omega) h.2.2,h.1]
theorem gen_inj {k total:Nat} {rs:List Int} (h:chooseOk k total rs) (h1:1 ≤ k) (hk:k ≤ total) (ht:total ≤ 255) {y:Nat→F}
  (hy:∀ i,i < k→fsum (fun j=>fmul (matL k (genL k total) (rs.getD i 0).toNat j) (y j)) k = 0):∀ j,j < k→y j = 0:=by
 obtain ⟨g1,g2,g3,_⟩:=gen_facts h1 hk ht
 obtain ⟨t2,he⟩:=top_ech hk ht
 obtain ⟨_,m2⟩:=inv_mul he
 have hz:∀ l,l < k→fsum (fun j=>fmul (matL k (topE k total).2.1 l j) (y j)) k = 0:=vander_inj (chosen_distinct h ht) fun i hi=>by
  rw [← hy i hi]
  have hx:=h.2.2 (rs.getD i 0) (by rw [List.getD_eq_getElem?_getD,List.getElem?_eq_getElem (by rw [h.1]; exact hi)]; exact List.getElem_mem _)
  have e2:fsum (fun j=>fmul (matL k (genL k total) (rs.getD i 0).toNat j) (y j)) k = fsum (fun j=>fsum (fun l=>fmul (fmul (fpow (xsF (rs.getD i 0).toNat) l) (matL k (topE k total).2.1 l j)) (y j)) k) k:=fsum_congr fun j hj=>by rw [g3 _ j (by omega) hj,fsum_mul']
  rw [e2,fsum_swap]
  refine fsum_congr fun l hl=>?_
  rw [← fsum_mul]
  exact fsum_congr fun j hj=>by rw [fmul_assoc]
 intro j hj
 have e1:y j = fsum (fun i=>fmul (y i) (del i j)) k:=(fsum_del' (f:=y) hj).symm
 rw [e1,fsum_congr (g:=fun i=>fsum (fun l=>fmul (matL k ((vanderL total k).take (k * k)) j l) (fmul (matL k (topE k total).2.1 l i) (y i))) k) fun i hi=>?_,fsum_swap]
 ·refine fsum_zero fun l hl=>?_
  rw [fsum_mul,hz l hl,fmul_zero]
 ·have:=m2 j i hj hi
  rw [show del i j = del j i from del_symm,← this,fmul_comm,← fsum_mul']
  exact fsum_congr fun l hl=>by rw [fmul_assoc]
theorem rows_gen {k total:Nat} {rs:List Int} (h:chooseOk k total rs) (h1:1 ≤ k) (hk:k ≤ total) (ht:total ≤ 255):(invE (selL (genL k total) k rs) k).2.2 = k:=by
 obtain ⟨g1,g2,_,_⟩:=gen_facts h1 hk ht
 refine inv_rank (sel_len' h g1) (sel_bytes g2) fun y hy=>gen_inj h h1 hk ht fun i hi=>?_
 rw [← hy i hi]
 refine fsum_congr fun j hj=>?_
 rw [matL,matL,sel_get g1 h.2.2 (by rw [h.1]; exact hi) hj]

end Go.Proofs

set_option linter.unusedSimpArgs false
set_option linter.unusedVariables false
namespace Go.Eng
open Go Go.Proofs
end Go.Eng
namespace Go.Proofs
open Go Go.Eng
end Go.Proofs

set_option linter.unusedSimpArgs false
set_option linter.unusedVariables false
namespace Go.Eng
open Go Go.Proofs

def genKC:Ctr:={ gen35C with pre:=fun ρ=>fieldD (ρ 1).d∧sizesB (ρ 2).i (ρ 3).i = true,alts:=gen35C.alts.drop 1 }
def selGC:Ctr:={ sel62C with pre:=fun ρ=>sel62C.pre ρ∧¬ selBad (ρ 0).i (ρ 1).i (ρ 3).i (ρ 8).i (ρ 0).i (iI (ρ 10).d),alts:=sel62C.alts.drop 1 }
def invGC:Ctr:={ inverse55C with pre:=fun ρ=>inverse55C.pre ρ∧validM (ρ 2).i (ρ 3).i (ρ 5).i∧(ρ 2).i = (ρ 3).i∧(invE ((bI (ρ 7).d).take (ρ 5).i.toNat) (ρ 2).i.toNat).2.2 = (ρ 2).i.toNat,alts:=inverse55C.alts.drop 1 }
def rangeI (n:Nat):List Int:=(List.range n).map fun (m:Nat)=>(m:Int)
end Go.Eng

set_option linter.unusedSimpArgs false
set_option linter.unusedVariables false
namespace Go.Eng
open Go Go.Proofs

def samePc (h h':Hp) (D D':Rows') (n n':Nat):Prop:=n = n'∧∀ j,j < n→pcI D j = pcI D' j∧pcD h D j = pcD h' D' j
def mixN (f:Nat→List Int) (w:List Int) (l:Nat):Nat→List Int
 | 0=>List.replicate l 0
 | j + 1=>addToL (mixN f w l j) 0 (seg (f j) 0 l) (w.getD j 0)
def wS:SV:=.one (.vslice 5 (.lit 0) (.var 6) (.var 7) 1)
def mix77Of (t:Nat):Ctr:={ fn := 136,nv:=12,args:=[pcS 0 1 2,wS,iv .i64 (.var 10)],heap:=[],ro:=[pcHp 0 3 4,bHp 5 8 9,.abs 11 t],pre:=fun ρ=>0 ≤ (ρ 1).i∧(ρ 1).i ≤ 255∧0 ≤ (ρ 10).i∧(ρ 10).i ≤ 9000∧(ρ 6).i = (ρ 1).i∧(ρ 6).i ≤ (ρ 8).d.length∧allB (ρ 8).d∧pcOk (ρ 11).h (ρ 3).d (ρ 1).i.toNat∧∀ j,j < (ρ 1).i.toNat→(ρ 10).i ≤ (pcD (ρ 11).h (ρ 3).d j).length,alts:=[
 { k:=3,ret:=.one (.vslice 12 (.lit 0) (.var 10) (.var 13) 1),heap:=[bHp 12 14 13],post:=fun ρ=>(ρ 14).d.length = (ρ 10).i.toNat∧allB (ρ 14).d∧bI (ρ 14).d = mixN (pcD (ρ 11).h (ρ 3).d) (bI (ρ 8).d) (ρ 10).i.toNat (ρ 1).i.toNat }] }
def mix77C:Ctr:=mix77Of 2
def mix77R:Ctr:=mix77Of 6
def mix77Env:List (Nat × SV):=[(0,pcS 0 1 2),(1,wS),(2,iv .i64 (.var 10)),(7,.one (.vslice 1000 (.lit 0) (.var 10) (.var 1001) 1)),(8,iv .i64 (.var 1003))]
def mix77I:Inv:={ key:=3,nv:=4,env:=mix77Env,heap:=[bHp 1000 1002 1001],inv:=(fun ρ=>0 ≤ (ρ 1003).i∧(ρ 1003).i ≤ (ρ 1).i∧(ρ 1002).d.length = (ρ 10).i.toNat∧allB (ρ 1002).d∧bI (ρ 1002).d = mixN (pcD (ρ 11).h (ρ 3).d) (bI (ρ 8).d) (ρ 10).i.toNat (ρ 1003).i.toNat),mu:=(fun ρ=>((ρ 1).i - (ρ 1003).i).toNat) }
def mix77J:Inv:={ key:=7,nv:=5,env:=mix77Env ++ [(9,iv .i64 (.var 1004))],heap:=[bHp 1000 1002 1001],inv:=(fun ρ=>0 ≤ (ρ 1003).i∧(ρ 1003).i < (ρ 1).i∧(ρ 1003).i = (ρ 16).i∧(ρ 1002).d.length = (ρ 10).i.toNat∧allB (ρ 1002).d∧0 ≤ (ρ 1004).i∧(ρ 1004).i ≤ (ρ 10).i∧bI (ρ 1002).d = addToL (mixN (pcD (ρ 11).h (ρ 3).d) (bI (ρ 8).d) (ρ 10).i.toNat (ρ 1003).i.toNat) 0 (seg (pcD (ρ 11).h (ρ 3).d (ρ 1003).i.toNat) 0 (ρ 1004).i.toNat) ((bI (ρ 8).d).getD (ρ 1003).i.toNat 0)),mu:=(fun ρ=>((ρ 10).i - (ρ 1004).i).toNat) }
end Go.Eng

set_option linter.unusedSimpArgs false
set_option linter.unusedVariables false
namespace Go.Eng
open Go Go.Proofs
def smallV (P D O B:Rows') (h:Hp):Prop:=P.length ≤ 60∧D.length ≤ 400∧O.length ≤ 10000∧B.length ≤ 60∧∀ j,j < P.length→(pcD h P j).length ≤ 9000
def smallCase (ρ:Env):Prop:=smallV (ρ 25).d (ρ 23).d (ρ 21).d (ρ 27).d (ρ 29).h
def largeC:Ctr:={ fn := 16,nv:=30,args:=[caseArg],heap:=[],ro:=caseRo,pre:=caseIn,alts:=[
 { k:=1,ret:=.one (.vbool (.var 30)),heap:=[],post:=fun ρ=>(ρ 30).b = false→smallCase ρ }] }
def caseCells:List T:=[.vint .i64 (.var 0),.vint .i64 (.var 1),.vint .i64 (.var 2),.vint .i64 (.var 3),.vslice 4 (.lit 0) (.var 5) (.var 6) 1] ++ (manT 7 8 9 10 11 12 13 14 ++ [.vslice 15 (.lit 0) (.var 16) (.var 17) 2,.vslice 18 (.lit 0) (.var 19) (.var 20) 1])
def largeI:Inv:={ key:=4,nv:=2,env:=[(1,.one (.vptr 1000 (.lit 0) 44 0)),(3,iv .i64 (.var 1001))],heap:=[.cells 1000 31 caseCells],inv:=(fun ρ=>(ρ 16).i ≤ 60∧(ρ 13).i ≤ 400∧(ρ 5).i ≤ 10000∧(ρ 19).i ≤ 60∧0 ≤ (ρ 1001).i∧(ρ 1001).i ≤ (ρ 16).i∧∀ j,j < (ρ 1001).i.toNat→(pcD (ρ 29).h (ρ 25).d j).length ≤ 9000),mu:=(fun ρ=>((ρ 16).i - (ρ 1001).i).toNat) }
end Go.Eng

set_option linter.unusedSimpArgs false
set_option linter.unusedVariables false
set_option maxRecDepth 100000
namespace Go.Proofs
open Go Go.Eng

def o_large:Out:=(.fresh 30 (.need (.cmp .leq (.lit 0) (.var 16)) (.br (.cmp .gtr (.var 16) (.lit 60))
 (.ret 0 (sg 30 [bt 30 (.bl true)]))
 (.need (.cmp .leq (.lit 0) (.var 13)) (.br (.cmp .gtr (.var 13) (.lit 400))
 (.ret 0 (sg 30 [bt 30 (.bl true)]))
 (.need (.cmp .leq (.lit 0) (.var 5)) (.br (.cmp .gtr (.var 5) (.lit 10000))
 (.ret 0 (sg 30 [bt 30 (.bl true)]))
 (.need (.cmp .leq (.lit 0) (.var 19)) (.br (.cmp .gtr (.var 19) (.lit 60))
 (.ret 0 (sg 30 [bt 30 (.bl true)]))
 (.inv 0 31 (sg 1000 [bt 1001 (.lit 0),bg 1000 30]) (.fresh 31 (.fresh 32 (.hyp 0 31 (.br (.cmp .lss (.var 32) (.var 16))
 (.need (.cmp .leq (.lit 0) (.var 32)) (.need (.cmp .lss (.var 32) (.dlen (.var 25))) (.view (.vcell (.var 25) (.var 32) 1) [CK.int .u8] [29] 33 (.br (.cmp .gtr (.dlen (.var 35)) (.lit 9000))
 (.ret 0 (sg 30 [bt 30 (.bl true)]))
 (.back 0 31 (sg 1000 [bt 1001 (.arith .add .i64 (.var 32) (.lit 1)),bg 1000 31]))))))
 (.ret 0 (sg 30 [bt 30 (.bl false)]))))))))))))))))
theorem o_large_eq:treeOf ⟨Tryz.prog,largeC,[],[largeI]⟩ 100000 Tryz.f16 = o_large:=by kernel_rfl
theorem large_of (hd:∀ c ∈ ([]:List Ctr),c.ok Tryz.prog) (h:∀ ρ:Env,ρ.good→(largeC).pre ρ→o_large.den ⟨Tryz.prog,largeC,[],[largeI]⟩ ρ):(largeC).ok Tryz.prog :=
 ok_of_tree Tryz.func16 (fun a w=>Tryz.call16 a w) hd 100000 (fun ρ hg hp=>by rw [o_large_eq]; exact h ρ hg hp)
end Go.Proofs

set_option linter.unusedSimpArgs false
set_option linter.unusedVariables false
namespace Go.Eng
open Go Go.Proofs

end Go.Eng

set_option linter.unusedSimpArgs false
set_option linter.unusedVariables false
namespace Go.Proofs
open Go Go.Eng

theorem pc_atI {h:Hp} {D:Rows'} {n:Int} {j:Int} (hp:pcOk h D n.toNat) (h0:0 ≤ j) (h1:j < n):j < (D.length:Int)∧cellI D j 0 = pcI D j.toNat∧∃ d,Rd h kB (cellV D j 1) d∧allB d∧pcD h D j.toNat = bI d:=by
 obtain ⟨v,d,e,hv,hr,hb,hd⟩:=pc_at hp (j:=j.toNat) (by omega)
 rw [Int.toNat_of_nonneg h0] at hv
 have hl:=(List.getElem?_eq_some_iff.1 e).1
 exact ⟨by omega,by rw [pcI,Int.toNat_of_nonneg h0],d,by rw [hv]; exact hr,hb,hd⟩
theorem mixN_len {f:Nat→List Int} {w:List Int} {l:Nat}:∀ j,(mixN f w l j).length = l
 | 0=>by simp [mixN]
 | j + 1=>by rw [mixN,addToL_len,mixN_len j]
end Go.Proofs

set_option linter.unusedSimpArgs false
set_option linter.unusedVariables false
set_option maxRecDepth 100000
namespace Go.Proofs
open Go Go.Eng

@[simp] def o_mix77_3:Sg:=sg 0 [bt 1 (.icell (.var 24) (.var 21) 0),bt 0 (.icell (.var 8) (.var 20) 0)]
@[simp] def o_mix77_2:Out:=.both (.back 1 17 (sg 1000 [bt 1002 (.dput (.var 19) (.var 21) 0 (.rcons (.vint .u8 (.arith .xor .u8 (.icell (.var 19) (.var 21) 0) (.var 25))) .rnil)),bt 1004 (.arith .add .i64 (.var 21) (.lit 1)),bv 1003 20,bv 1001 18,bg 1000 17])) .top
@[simp] def o_mix77_1:Out:=.both (.pre 0 o_mix77_3 (.both (.fresh 25 (.post 0 0 o_mix77_3 25 o_mix77_2)) .top)) .top
def o_mix77:Out:=(.need (.cmp .leq (.lit 0) (.var 10)) (.need (.cmp .leq (.tims (.lit 1) (.var 10)) (.lit 281474976710656)) (.fresh 12 (.inv 0 13 (sg 1000 [bt 1002 (.drep (.var 10) (.rcons (.vint .u8 (.lit 0)) .rnil)),bt 1003 (.lit 0),bv 1001 10,bg 1000 12]) (.fresh 13 (.fresh 14 (.fresh 15 (.fresh 16 (.hyp 0 13 (.need (.cmp .leq (.lit 0) (.var 1)) (.br (.cmp .lss (.var 16) (.var 1))
 (.need (.cmp .leq (.lit 0) (.var 6)) (.br (.cmp .lss (.var 16) (.var 6))
 (.need (.cmp .leq (.lit 0) (.var 16)) (.need (.cmp .lss (.var 16) (.dlen (.var 8))) (.br (.cmp .eql (.icell (.var 8) (.var 16) 0) (.lit 0))
 (.back 0 13 (sg 1000 [bv 1002 15,bt 1003 (.arith .add .i64 (.var 16) (.lit 1)),bv 1001 14,bg 1000 13]))
 (.inv 1 17 (sg 1000 [bv 1002 15,bt 1004 (.lit 0),bv 1003 16,bv 1001 14,bg 1000 13]) (.fresh 17 (.fresh 18 (.fresh 19 (.fresh 20 (.fresh 21 (.hyp 1 17 (.br (.cmp .lss (.var 21) (.var 10))
 (.need (.cmp .leq (.lit 0) (.var 21)) (.need (.cmp .lss (.lit 0) (.dlen (.var 19))) (.need (.cmp .leq (.lit 0) (.var 20)) (.need (.cmp .lss (.var 20) (.var 6)) (.need (.cmp .lss (.var 20) (.dlen (.var 8))) (.need (.cmp .lss (.var 20) (.var 1)) (.need (.cmp .lss (.var 20) (.dlen (.var 3))) (.both (.need (.cmp .lss (.var 21) (.dlen (.var 19))) (.both (.view (.vcell (.var 3) (.var 20) 1) [CK.int .u8] [11] 22 (.need (.cmp .lss (.var 21) (.dlen (.var 24))) o_mix77_1)) .top)) (.both (.view (.vcell (.var 3) (.var 20) 1) [CK.int .u8] [11] 22 (.need (.cmp .lss (.var 21) (.dlen (.var 24))) (.both (.need (.cmp .lss (.var 21) (.dlen (.var 19))) o_mix77_1) (.both (.pre 0 o_mix77_3 (.both (.fresh 25 (.post 0 0 o_mix77_3 25 (.both (.need (.cmp .lss (.var 21) (.dlen (.var 19))) o_mix77_2) .top))) .top)) .top)))) .top)))))))))
 (.back 0 13 (sg 1000 [bv 1002 19,bt 1003 (.arith .add .i64 (.var 20) (.lit 1)),bv 1001 18,bg 1000 17])))))))))))))
 (.ret 0 (sg 12 [bv 14 15,bv 13 14,bg 12 13]))))
 (.ret 0 (sg 12 [bv 14 15,bv 13 14,bg 12 13])))))))))))))
theorem o_mix77_eq:treeOf ⟨Tryz.prog,mix77C,[times53C],[mix77I,mix77J]⟩ 100000 Tryz.f136 = o_mix77:=by kernel_rfl
theorem mix77_of (hd:∀ c ∈ ([times53C]:List Ctr),c.ok Tryz.prog) (h:∀ ρ:Env,ρ.good→(mix77C).pre ρ→o_mix77.den ⟨Tryz.prog,mix77C,[times53C],[mix77I,mix77J]⟩ ρ):(mix77C).ok Tryz.prog :=
 ok_of_tree Tryz.func136 (fun a w=>Tryz.call136 a w) hd 100000 (fun ρ hg hp=>by rw [o_mix77_eq]; exact h ρ hg hp)
end Go.Proofs

set_option linter.unusedSimpArgs false
set_option linter.unusedVariables false
namespace Go.Proofs
open Go Go.Eng
theorem range_nodup {n:Nat}:(rangeI n).Nodup:=List.pairwise_map.2 (List.nodup_range.imp fun h e=>h (by omega))
theorem range_mem {n:Nat} {x:Int} (h:x ∈ rangeI n):0 ≤ x∧x < n:=by
 obtain ⟨m,hm,rfl⟩:=List.mem_map.1 h
 have:=List.mem_range.1 hm
 omega
theorem chosen {o l:List Int} {n k:Nat} (h:(o ++ l).Perm (rangeI n)) (hk:o.length = k):o.length = k∧o.Nodup∧∀ x ∈ o,0 ≤ x∧x < (n:Int) :=
 ⟨hk,(List.nodup_append.1 (h.nodup_iff.2 range_nodup)).1,fun x hx=>range_mem (h.mem_iff.1 (List.mem_append_left _ hx))⟩
theorem genK_ok:genKC.ok Tryz.prog:=Ctr.ok_less gen35_ok rfl rfl rfl rfl rfl (fun _ h=>h.1) fun ρ ρ' ai al hp hag hal hpost=>by
 match ai,hal with
 | 0,hal =>
  exfalso
  obtain rfl:=Option.some.inj hal
  obtain ⟨_,h2⟩:_∧(sizesB ((ρ'.upto 5) 2).i ((ρ'.upto 5) 3).i = true→(topE ((ρ'.upto 5) 2).i.toNat ((ρ'.upto 5) 3).i.toNat).2.2 < ((ρ'.upto 5) 2).i.toNat):=hpost
  have e:=upto_at (m:=5) (nv:=4) hag (by omega)
  rw [e 2 (by omega),e 3 (by omega)] at h2
  obtain ⟨k1,k2,k3⟩:=sizesB_iff.1 hp.2
  have:=h2 hp.2
  rw [top_rank (by omega) (by omega)] at this
  omega
 | 1,hal=>exact ⟨0,hal⟩
 | n + 2,hal=>cases hal
theorem selG_ok:selGC.ok Tryz.prog:=Ctr.ok_less sel62_ok rfl rfl rfl rfl rfl (fun _ h=>h.1) fun ρ ρ' ai al hp hag hal hpost=>by
 match ai,hal with
 | 0,hal =>
  exfalso
  obtain rfl:=Option.some.inj hal
  have h2:selBad ((ρ'.upto 12) 0).i ((ρ'.upto 12) 1).i ((ρ'.upto 12) 3).i ((ρ'.upto 12) 8).i ((ρ'.upto 12) 0).i (iI ((ρ'.upto 12) 10).d):=hpost
  have e:=upto_at (m:=12) (nv:=12) hag (by omega)
  rw [e 0 (by omega),e 1 (by omega),e 3 (by omega),e 8 (by omega),e 10 (by omega)] at h2
  exact hp.2 h2
 | 1,hal=>exact ⟨0,hal⟩
 | n + 2,hal=>cases hal
theorem invG_ok:invGC.ok Tryz.prog:=Ctr.ok_less inverse55_ok rfl rfl rfl rfl rfl (fun _ h=>h.1) fun ρ ρ' ai al hp hag hal hpost=>by
 match ai,hal with
 | 0,hal =>
  exfalso
  obtain rfl:=Option.some.inj hal
  have e:=upto_at (m:=11) (nv:=9) hag (by omega)
  obtain ⟨_,h2⟩:=hpost
  simp only [show (9 + 2:Nat) = 11 from rfl,show inverse55C.nv = 9 from rfl] at h2
  rw [e 2 (by omega),e 3 (by omega),e 5 (by omega),e 7 (by omega)] at h2
  obtain ⟨_,p1,p2,p3⟩:=hp
  rcases h2 with ⟨h,_⟩ | ⟨_,h,_⟩ | ⟨_,_,h,_⟩
  ·exact h p1
  ·exact h p2
  ·rw [p3] at h; omega
 | 1,hal=>exact ⟨0,hal⟩
 | n + 2,hal=>cases hal
end Go.Proofs

set_option linter.unusedSimpArgs false
set_option linter.unusedVariables false
namespace Go.Proofs
open Go Go.Eng
theorem mix77_ok:mix77C.ok Tryz.prog:=mix77_of (by simp [times53_ok]) fun ρ hg hp=>by
 obtain ⟨n0,n9,l0,l1,hw,hwl,hwb,hpc,hlen⟩:=hp
 simp (config:={ maxSteps:=4000000 }) [o_mix77,mix77C,mix77Of,mix77I,mix77J,times53C]
 refine ⟨l0,by omega,⟨n0,allB_rep,by rw [bI_rep]; rfl⟩,fun u _ i _ i0 i1 hul hub hue=>⟨n0,fun hi=>⟨by omega,fun hi6=>⟨i0,by omega,fun hz=>?_,fun hnz=>?_⟩,fun h=>by omega⟩,fun hi=>?_⟩⟩
 ·have hwi:=bI_get (d:=(ρ 8).d) (i:=i.i) i0 (by omega)
  rw [add64 (by omega) (by omega)]
  refine ⟨⟨by omega,by omega,hul,hub,?_⟩,by omega⟩
  have hml:∀ x ∈ mixN (pcD (ρ 11).h (ρ 3).d) (bI (ρ 8).d) (ρ 10).i.toNat i.i.toNat,0 ≤ x∧x < 256:=by rw [← hue]; exact allB_list hub
  rw [show (i.i + 1).toNat = i.i.toNat + 1 by omega,mixN,List.getD_eq_getElem?_getD,hwi,Option.getD_some,hz,addToL_zero hml,hue]
 ·refine ⟨⟨i0,hi,hul,hub,l0,by rw [show seg (pcD (ρ 11).h (ρ 3).d i.i.toNat) 0 0 = [] by simp [seg],addToL_nil]; exact hue⟩,fun o _ j _ c _ j0 j1 hji hol hob c0 c1 hoe=>⟨fun hc=>?_,fun hc=>?_⟩⟩
  ·obtain ⟨p1,_,d,hr,hb,hd⟩:=pc_atI hpc j0 j1
   have hdl:=hlen j.i.toNat (by omega)
   rw [hd,bI_len] at hdl
   have hwi:=bI_get (d:=(ρ 8).d) (i:=j.i) j0 (by omega)
   have hwB:=allB_get hwb (i:=j.i) j0 (by omega)
   have hdB:=allB_get hb (i:=c.i) c0 (by omega)
   have hz:=bI_get (d:=o.d) (i:=c.i) c0 (by omega)
   rw [hoe,addToL_out (by right; rw [hd,seg_len (by rw [bI_len]; omega)]; omega)] at hz
   have hy:=bI_get (d:=d) (i:=c.i) c0 (by omega)
   rw [add64 (by omega) (by omega)]
   have hput:∀ m:U,m.i = mulF (cellI (ρ 8).d j.i 0) (cellI d c.i 0)→bI (putD o.d c.i 0 [.int .u8 (arithOf .xor .u8 (cellI o.d c.i 0) m.i)]) = addToL (mixN (pcD (ρ 11).h (ρ 3).d) (bI (ρ 8).d) (ρ 10).i.toNat j.i.toNat) 0 (seg (pcD (ρ 11).h (ρ 3).d j.i.toNat) 0 (c.i + 1).toNat) ((bI (ρ 8).d)[j.i.toNat]?.getD 0):=fun m hm=>by
    have hst:=addToL_step (l:=mixN (pcD (ρ 11).h (ρ 3).d) (bI (ρ 8).d) (ρ 10).i.toNat j.i.toNat) (s:=bI d) (off:=0) (o:=0) (i:=c.i.toNat) (c:=cellI (ρ 8).d j.i 0) (by rw [Nat.zero_add]; exact hz) (by rw [Nat.zero_add]; exact hy)
    rw [bI_put,hoe,hm,show (c.i + 1).toNat = c.i.toNat + 1 by omega,hd,hwi,Option.getD_some,hst,Nat.zero_add]
    rfl
   exact ⟨c0,by omega,j0,by omega,by omega,j1,p1,⟨by omega,d,hr,by omega,⟨hwB,hdB⟩,fun m _ hm=>⟨⟨j0,j1,hji,by rw [putD_len,hol],allB_put hob xorB_range.1 xorB_range.2,by omega,by omega,hput m hm⟩,by omega⟩⟩,
    ⟨d,hr,by omega,⟨by omega,⟨hwB,hdB⟩,fun m _ hm=>⟨⟨j0,j1,hji,by rw [putD_len,hol],allB_put hob xorB_range.1 xorB_range.2,by omega,by omega,hput m hm⟩,by omega⟩⟩,⟨hwB,hdB⟩,fun m _ hm=>⟨by omega,⟨j0,j1,hji,by rw [putD_len,hol],allB_put hob xorB_range.1 xorB_range.2,by omega,by omega,hput m hm⟩,by omega⟩⟩⟩
  ·have hcl:c.i = (ρ 10).i:=by omega
   rw [add64 (by omega) (by omega)]
   refine ⟨⟨by omega,by omega,hol,hob,?_⟩,by omega⟩
   rw [hoe,hcl,show (j.i + 1).toNat = j.i.toNat + 1 by omega,mixN,List.getD_eq_getElem?_getD]
 ·have:i.i = (ρ 1).i:=by omega
  rw [this] at hue
  exact ⟨hul,hub,hue⟩
end Go.Proofs

set_option linter.unusedSimpArgs false
set_option linter.unusedVariables false
namespace Go.Proofs
open Go Go.Eng
set_option maxRecDepth 20000
set_option maxHeartbeats 1000000 in
theorem large_ok:largeC.ok Tryz.prog:=large_of (by simp) fun ρ hg hp=>by
 obtain ⟨ik,i1,i2,i3,mk,m1,m2,m3,⟨dl,dl1,dB,dc⟩,hO,⟨ml,ml1,mD,mc⟩,⟨pl,pl1,pc,pok⟩,bl,bl1⟩:=hp
 simp (config:={ maxSteps:=4000000,contextual:=true }) [o_large,largeC,largeI,caseArg,caseCells,manT,cellsT,smallCase,smallV]
 refine ⟨by omega,fun h1=>⟨by omega,fun h2=>⟨by omega,fun h3=>⟨by omega,fun h4=>⟨⟨by omega,fun j hj=>by omega⟩,fun u _ u0 u1 hu=>⟨fun hlt=>⟨by omega,?_⟩,fun hge=>⟨by omega,by omega,by omega,by omega,fun j hj=>hu j (by omega)⟩⟩⟩⟩⟩⟩⟩
 obtain ⟨v,d,e1,e2,hr,hb,hpc⟩:=pc_at pok (j:=u.i.toNat) (by omega)
 have hu2:u.i = ((u.i.toNat:Nat):Int):=by omega
 have m1:arithOf .add .i64 u.i 1 = u.i + 1:=add64 (by omega) (by omega)
 refine ⟨d,by rw [hu2,e2]; exact hr,fun hd=>⟨⟨by rw [m1]; omega,by rw [m1]; omega,fun j hj=>?_⟩,by rw [m1]; omega⟩⟩
 rw [m1] at hj
 by_cases hj2:j = u.i.toNat
 ·rw [hj2,hpc,bI_len]; omega
 ·exact hu j (by omega)
end Go.Proofs

set_option linter.unusedSimpArgs false
set_option linter.unusedVariables false
namespace Go.Eng
open Go Go.Proofs
def blk:Value→Option Nat
 | .slice (some a) _ _=>some a.block
 | _=>none
def tabV (h:Hp) (vs:Nat→Value) (n:Nat) (M:Nat→List Int):Prop :=
 (∀ j,j < n→∃ d,Rd h kB (vs j) d∧bI d = M j∧allB d)∧∀ i j,i < n→j < n→i ≠ j→M i ≠ []→M j ≠ []→blk (vs i) ≠ blk (vs j)
end Go.Eng
namespace Go.Proofs
open Go Go.Eng
theorem bI_nil {d:Rows'}:bI d = []↔d = []:=by
 constructor
 ·intro h
  have:=congrArg List.length h
  rw [bI_len] at this
  exact List.length_eq_zero_iff.1 (by simpa using this)
 ·rintro rfl; rfl
theorem Rd_blk {h:Hp} {pat:List CK} {v:Value} {d:Rows'} (hr:Rd h pat v d) (hd:d ≠ []):∃ b o cap c ty fr,v = .slice (some ⟨b,o,none⟩) d.length cap∧d.length ≤ cap∧blk v = some b∧h b = some (.cells c ty fr)∧rowsAt c o pat d:=by
 rcases hr with ⟨a,_,h0⟩ | ⟨b,o,cap,c,ty,fr,h1,h2,h3,h4⟩
 ·exact (hd h0).elim
 ·exact ⟨b,o,cap,c,ty,fr,h1,h2,by rw [h1]; rfl,h3,h4⟩
theorem tab_at {h:Hp} {vs:Nat→Value} {n j:Nat} {M:Nat→List Int} (ht:tabV h vs n M) (hj:j < n):∃ d,Rd h kB (vs j) d∧bI d = M j∧allB d:=ht.1 j hj
theorem tab_mono {h h':Hp} {vs:Nat→Value} {n:Nat} {M:Nat→List Int} (ht:tabV h vs n M) (hl:Hp.le h h'):tabV h' vs n M :=
 ⟨fun j hj=>by obtain ⟨d,h1,h2⟩:=ht.1 j hj; exact ⟨d,Rd_mono h1 hl,h2⟩,ht.2⟩
theorem tab_congr {h:Hp} {vs vs':Nat→Value} {n:Nat} {M M':Nat→List Int} (ht:tabV h vs n M) (hv:∀ j,j < n→vs' j = vs j) (hM:∀ j,j < n→M' j = M j):tabV h vs' n M' :=
 ⟨fun j hj=>by rw [hv j hj,hM j hj]; exact ht.1 j hj,fun i j hi hj hne h1 h2=>by rw [hv i hi,hv j hj]; rw [hM i hi] at h1; rw [hM j hj] at h2; exact ht.2 i j hi hj hne h1 h2⟩
theorem tab_new {h hx H:Hp} {vs vs':Nat→Value} {n:Nat} {M M':Nat→List Int} {v:Value} {d:Rows'} (ht:tabV h vs n M) (hl:Hp.le h H) (hr:Rd hx kB v d) (hlx:Hp.le hx H) (hdis:Hp.disj hx h) (hB:allB d)
  (hv:∀ j,j < n→vs' j = vs j) (hvn:vs' n = v) (hM:∀ j,j < n→M' j = M j) (hMn:M' n = bI d):tabV H vs' (n + 1) M':=by
 have key:∀ j,j < n→M j ≠ []→d ≠ []→blk (vs j) ≠ blk v:=fun j hj hne hd he=>by
  obtain ⟨dj,h1,h2,_⟩:=ht.1 j hj
  obtain ⟨b,_,_,c,ty,fr,_,_,e1,hb,_⟩:=Rd_blk h1 (fun h0=>hne (by rw [← h2,h0]; rfl))
  obtain ⟨b',_,_,c',ty',fr',_,_,e2,hb',_⟩:=Rd_blk hr hd
  rw [e1,e2,Option.some.injEq] at he
  subst he
  rcases hdis b with h0 | h0
  ·rw [hb'] at h0; cases h0
  ·rw [hb] at h0; cases h0
 refine ⟨fun j hj=>?_,fun i j hi hj hne h1 h2=>?_⟩
 ·by_cases hjn:j = n
  ·subst hjn
   exact ⟨d,by rw [hvn]; exact Rd_mono hr hlx,hMn.symm,hB⟩
  ·obtain ⟨dj,e1,e2,e3⟩:=ht.1 j (by omega)
   exact ⟨dj,by rw [hv j (by omega)]; exact Rd_mono e1 hl,by rw [hM j (by omega)]; exact e2,e3⟩
 ·by_cases hin:i = n
  ·subst hin
   rw [hvn,hv j (by omega)]
   rw [hM j (by omega)] at h2
   rw [hMn] at h1
   exact fun he=>key j (by omega) h2 (fun h0=>h1 (bI_nil.2 h0)) he.symm
  ·by_cases hjn:j = n
   ·subst hjn
    rw [hvn,hv i (by omega)]
    rw [hM i (by omega)] at h1
    rw [hMn] at h2
    exact key i (by omega) h1 fun h0=>h2 (bI_nil.2 h0)
   ·rw [hv i (by omega),hv j (by omega)]
    rw [hM i (by omega)] at h1; rw [hM j (by omega)] at h2
    exact ht.2 i j (by omega) (by omega) hne h1 h2
theorem wrote_rows {c0 c1:Array Value} {o k:Nat} {d:Rows'} {x:Int} (hd:rowsAt c0 o kB d) (hw:Wrote c0 c1 (o + k) [.int .u8 x]) (hk:k < d.length):rowsAt c1 o kB (putD d k 0 [.int .u8 x]):=by
 obtain ⟨_,hw⟩:=hw
 intro i row hi
 unfold putD at hi
 rw [List.getElem?_set] at hi
 split at hi
 ·rename_i hik
  split at hi
  ·simp only [Option.some.injEq] at hi
   subst hi
   obtain ⟨⟨hl,hf⟩,hc⟩:=hd _ _ (List.getElem?_eq_getElem (l:=d) (i:=((k:Int).toNat)) (by simpa using hk))
   have hrow:splice ((d[(k:Int).toNat]?).getD []) 0 [.int .u8 x] = [.int .u8 x]:=by
    rw [List.getElem?_eq_getElem (by simpa using hk),Option.getD_some]
    unfold splice
    rw [List.take_zero,List.nil_append,List.drop_eq_nil_of_le (by rw [hl]; simp [kB]),List.append_nil]
   rw [hrow]
   refine ⟨⟨rfl,fun c kk v hkk hv=>?_⟩,fun c v hv=>?_⟩
   ·cases c with
    | zero =>
     simp only [kB,List.getElem?_cons_zero,Option.some.injEq] at hkk hv
     subst hkk hv; rfl
    | succ c=>simp [kB] at hkk
   ·cases c with
    | zero =>
     simp only [List.getElem?_cons_zero,Option.some.injEq] at hv
     subst hv
     rw [hw,if_pos (by simp [kB] at hik ⊢; omega)]
     have:o + i * kB.length + 0 - (o + k) = 0:=by simp [kB] at hik ⊢; omega
     rw [this]; rfl
    | succ c=>simp at hv
  ·cases hi
 ·rename_i hik
  obtain ⟨hf,hc⟩:=hd i row hi
  refine ⟨hf,fun c v hv=>?_⟩
  have hcl:c < 1:=by
   have:=(List.getElem?_eq_some_iff.1 hv).1
   rw [hf.1] at this
   simpa [kB] using this
  rw [hw,if_neg (by simp [kB] at hik ⊢; omega)]
  exact hc c v hv
theorem tab_put {h h':Hp} {vs:Nat→Value} {n i:Nat} {M:Nat→List Int} {r:Option Addr} {d:Rows'} {k:Nat} {x:Int} {cap:Nat} (ht:tabV h vs n M) (hi:i < n) (hP:Put h h' r kB d k [.int .u8 x]) (hv:vs i = .slice (addrOf r 0) d.length cap)
  (hr:Rd h kB (vs i) d) (hk:k < d.length) (hx:0 ≤ x∧x < 256):tabV h' vs n (fun j=>if j = i then (M i).set k x else M j):=by
 obtain ⟨b,o,c0,c1,ty,rfl,hb,hrows,hw,rfl⟩:=hP
 rw [addrOf_zero] at hv
 have hdn:d ≠ []:=fun h0=>by rw [h0] at hk; cases hk
 obtain ⟨di,r1,m1,b1⟩:=ht.1 i hi
 obtain rfl:=Rd_unique r1 hr
 have hcap:di.length ≤ cap:=by
  obtain ⟨_,_,cap',_,_,_,e1,e2,_⟩:=Rd_blk hr hdn
  rw [hv] at e1
  simp only [Value.slice.injEq] at e1
  omega
 have hbi:blk (vs i) = some b:=by rw [hv]; rfl
 have hMi:M i ≠ []:=fun h0=>hdn (bI_nil.1 (by rw [m1,h0]))
 have hlen:∀ j,((if j = i then (M i).set k x else M j) = [])↔M j = []:=fun j=>by
  by_cases hj:j = i
  ·subst hj
   rw [if_pos rfl]
   constructor
   ·intro h0
    have:=congrArg List.length h0
    rw [List.length_set] at this
    exact List.length_eq_zero_iff.1 (by simpa using this)
   ·intro h0; rw [h0]; rfl
  ·rw [if_neg hj]
 refine ⟨fun j hj=>?_,fun i' j hi' hj hne h1 h2=>ht.2 i' j hi' hj hne (fun h0=>h1 ((hlen i').2 h0)) (fun h0=>h2 ((hlen j).2 h0))⟩
 by_cases hji:j = i
 ·subst hji
  refine ⟨putD di k 0 [.int .u8 x],.inr ⟨b,o,cap,c1,ty,(0,0),by rw [hv,putD_len],by rw [putD_len]; exact hcap,by simp [Hp.upd],wrote_rows hrows hw hk⟩,?_,allB_put b1 hx.1 hx.2⟩
  simp only [if_true]
  rw [bI_put,m1]; rfl
 ·simp only [if_neg hji]
  obtain ⟨dj,r2,m2,b2⟩:=ht.1 j hj
  refine ⟨dj,?_,m2,b2⟩
  by_cases hdj:dj = []
  ·subst hdj
   rcases r2 with h0 | ⟨b',o',cap',c',ty',fr',e1,e2,e3,e4⟩
   ·exact .inl h0
   ·by_cases hbb:b' = b
    ·exact .inr ⟨b',o',cap',c1,ty,(0,0),e1,e2,by simp [Hp.upd,hbb],fun q row hq=>by simp at hq⟩
    ·exact .inr ⟨b',o',cap',c',ty',fr',e1,e2,by simp only [Hp.upd,if_neg hbb]; exact e3,e4⟩
  ·obtain ⟨b',o',cap',c',ty',fr',e1,e2,e3,e4,e5⟩:=Rd_blk r2 hdj
   have hbb:b' ≠ b:=fun h0=>by
    refine ht.2 j i hj hi hji (fun h0=>hdj (bI_nil.1 (by rw [m2,h0]))) hMi ?_
    rw [e3,hbi,h0]
   exact .inr ⟨b',o',cap',c',ty',fr',e1,e2,by simp only [Hp.upd,if_neg hbb]; exact e4,e5⟩
theorem star_two {ρ:Env} {x y:SH}:∀ {l1 l2:List SH} {H:Hp},star ρ (l1 ++ x :: l2) H→y ∈ l2→∃ hx hy,Hp.disj hx hy∧Hp.le hx H∧Hp.le hy H∧x.den ρ hx∧y.den ρ hy
 | [],l2,H,⟨h1,h2,hd,hu,hx,hs⟩,hy=>by
  subst hu
  obtain ⟨g,g1,g2⟩:=star_mem hs hy
  refine ⟨h1,g,fun b=>?_,Hp.le_left _ _,Hp.le_trans g1 (Hp.le_right hd),hx,g2⟩
  rcases hd b with h0 | h0
  ·exact .inl h0
  ·right
   cases hg:g b with
   | none=>rfl
   | some v=>rw [g1 _ _ hg] at h0; cases h0
 | z :: l1,l2,H,⟨h1,h2,hd,hu,hz,hs⟩,hy=>by
  subst hu
  obtain ⟨hx,hy',e1,e2,e3,e4⟩:=star_two (l1:=l1) hs hy
  exact ⟨hx,hy',e1,Hp.le_trans e2 (Hp.le_right hd),Hp.le_trans e3 (Hp.le_right hd),e4⟩
theorem disj_le {h h1 h2:Hp} (hd:Hp.disj h h1) (hl:Hp.le h2 h1):Hp.disj h h2:=fun b=>by
 rcases hd b with h0 | h0
 ·exact .inl h0
 ·right
  cases hg:h2 b with
  | none=>rfl
  | some v=>rw [hl _ _ hg] at h0; cases h0
end Go.Proofs

set_option linter.unusedSimpArgs false
set_option linter.unusedVariables false
namespace Go.Eng
open Go Go.Proofs
def tvs (D:Rows'):Nat→Value:=fun j=>cellV D j 0
end Go.Eng

set_option linter.unusedSimpArgs false
set_option linter.unusedVariables false
namespace Go.Eng
open Go Go.Proofs
def wantL (len:Int) (L:Nat→Nat):Int:=if len < 0 then (L 0:Int) else len
def okTo (total len:Int) (I:Nat→Int) (L:Nat→Nat) (i:Nat):Prop:=∀ j,j < i→(0 ≤ I j∧I j < total)∧(∀ j',j' < j→I j' ≠ I j)∧(len < 0→L j ≤ 8192)∧(L j:Int) = wantL len L
def badAt (total len:Int) (I:Nat→Int) (L:Nat→Nat) (i:Nat) (e:Int):Prop :=
 (¬ (0 ≤ I i∧I i < total)∧e = 2)∨((0 ≤ I i∧I i < total)∧(∃ j,j < i∧I j = I i)∧e = 7) ∨
 ((0 ≤ I i∧I i < total)∧(∀ j,j < i→I j ≠ I i)∧(len < 0∧8192 < L i)∧e = 3)∨((0 ≤ I i∧I i < total)∧(∀ j,j < i→I j ≠ I i)∧¬ (len < 0∧8192 < L i)∧(L i:Int) ≠ wantL len L∧e = 10)
def chkP (k total len:Int) (n:Nat) (I:Nat→Int) (L:Nat→Nat) (e:Int):Prop :=
 (∃ i,i < n∧okTo total len I L i∧badAt total len I L i e)∨(okTo total len I L n∧(((n:Int) < k∧e = 12)∨(k ≤ (n:Int)∧e = 0)))
noncomputable def pcN (h:Hp) (D:Rows') (j:Nat):Nat:=(pcD h D j).length
def chkOf (fn t:Nat):Ctr:={ fn:=fn,nv:=9,args:=[iv .i64 (.var 0),iv .i64 (.var 1),iv .i64 (.var 2),pcS 3 4 5],heap:=[],ro:=[pcHp 3 6 7,.abs 8 t],pre:=fun ρ=>(ρ 1).i ≤ 255∧0 ≤ (ρ 4).i∧(ρ 4).i ≤ 17592186043904∧pcOk (ρ 8).h (ρ 6).d (ρ 4).i.toNat,alts:=[{ k:=1,ret:=iv .i64 (.var 9),heap:=[],post:=fun ρ=>chkP (ρ 0).i (ρ 1).i (ρ 2).i (ρ 4).i.toNat (pcI (ρ 6).d) (pcN (ρ 8).h (ρ 6).d) (ρ 9).i }] }
def check88C:Ctr:={ chkOf 110 4 with ip:=[(1000,9),(1001,9)] }
def check93C:Ctr:={ chkOf 115 6 with ip:=[(1000,9),(1001,9)] }
def kSeen255:List CK:=List.replicate 255 .bool
def seenI (s:Rows') (I:Nat→Int) (i:Nat):Prop:=(∃ row,s = [row]∧row.length = 255)∧∀ x:Int,0 ≤ x→x < 255→(cellXB s x.toNat = true↔∃ j,j < i∧I j = x)
def chkEnv:List (Nat × SV):=[(0,iv .i64 (.var 0)),(1,iv .i64 (.var 1)),(2,iv .i64 (.var 2)),(3,pcS 3 4 5)]
def okR (ρ:Env) (i:Nat):Prop:=okTo (ρ 1).i (ρ 2).i (pcI (ρ 6).d) (pcN (ρ 8).h (ρ 6).d) i
def check88I:Inv:={ key:=3,nv:=3,env:=chkEnv ++ [(9,.one (.vptr 1001 (.lit 0) 255 0)),(13,pcS 3 4 5),(14,iv .i64 (.var 4)),(15,iv .i64 (.var 1000))],heap:=[.arr 1001 225 kSeen255 (.var 1002) (.lit 1)],inv:=(fun ρ=>0 ≤ (ρ 1000).i∧(ρ 1000).i ≤ (ρ 4).i∧okR ρ (ρ 1000).i.toNat∧seenI (ρ 1002).d (pcI (ρ 6).d) (ρ 1000).i.toNat),mu:=(fun ρ=>((ρ 4).i - (ρ 1000).i).toNat) }
def check93I:Inv:={ key:=2,nv:=1,env:=chkEnv ++ [(9,iv .i64 (.var 1000))],heap:=[],inv:=(fun ρ=>0 ≤ (ρ 1000).i∧(ρ 1000).i ≤ (ρ 4).i∧okR ρ (ρ 1000).i.toNat),mu:=(fun ρ=>((ρ 4).i - (ρ 1000).i).toNat) }
def check93J (w:Nat):Inv:={ key:=8,nv:=5,env:=chkEnv ++ [(9,iv .i64 (.var 1000)),(10,.one (.vptr 1001 (.lit 0) 2 0)),(11,iv .i64 (.var 1004))],heap:=[.cells 1001 86 [.vint .i64 (.var 1002),.var 1003]],inv:=(fun ρ=>0 ≤ (ρ 1000).i∧(ρ 1000).i < (ρ 4).i∧(ρ 1000).i = (ρ w).i∧okR ρ (ρ 1000).i.toNat∧(0 ≤ (ρ 1002).i∧(ρ 1002).i < (ρ 1).i)∧(ρ 1002).i = cellI (ρ 6).d (ρ 1000).i 0∧(ρ 1003).v = cellV (ρ 6).d (ρ 1000).i 1∧0 ≤ (ρ 1004).i∧(ρ 1004).i ≤ (ρ 1000).i∧∀ j,j < (ρ 1004).i.toNat→pcI (ρ 6).d j ≠ (ρ 1002).i),mu:=(fun ρ=>((ρ 1000).i - (ρ 1004).i).toNat) }
def rdB (h:Hp) (v:Value):Prop:=∃ d,Rd h kB v d∧allB d
def pSl' (r l c:Nat):SV:=.one (.vslice r (.lit 0) (.var l) (.var c) 1)
def tabTo (h h':Hp) (v:Value) (g:List Int→List Int):Prop:=∀ (vs:Nat→Value) (n:Nat) (M:Nat→List Int) (i:Nat),tabV h vs n M→i < n→vs i = v→tabV h' vs n fun j=>if j = i then g (M i) else M j
def tabHas (h:Hp) (v:Value) (l:Nat):Prop:=∃ (vs:Nat→Value) (n:Nat) (M:Nat→List Int) (i:Nat),tabV h vs n M∧i < n∧vs i = v∧l ≤ (M i).length
def addToT:Ctr:={ fn := 124,nv:=7,ow:=[1003,3012,19],args:=[fArg,.one (.var 2),.one (.var 3),iv .u8 (.var 4)],heap:=[fHp 1,.abs 5 2],ro:=[.abs 6 4],pre:=fun ρ=>fieldD (ρ 1).d∧rdB (ρ 6).h (ρ 3).v∧(rdL (ρ 6).h (ρ 3).v).length ≤ 10000∧tabHas (ρ 5).h (ρ 2).v (rdL (ρ 6).h (ρ 3).v).length∧byteP (ρ 4).i,alts:=[
 { k:=2,ret:=.tup [],heap:=[fHp 7,.abs 8 2],post:=fun ρ=>fieldD (ρ 7).d∧tabTo (ρ 5).h (ρ 8).h (ρ 2).v fun l=>addToL l 0 (rdL (ρ 6).h (ρ 3).v) (ρ 4).i }] }
def addToTI:Inv:={ key:=2,nv:=5,env:=[(0,fArg),(1,.one (.var 2)),(3,iv .u8 (.var 4)),(12,.one (.var 1004)),(13,iv .i64 (.var 1002)),(14,iv .i64 (.var 1000))],heap:=[fHp 1001,.abs 1003 2],inv:=(fun ρ=>fieldD (ρ 1001).d∧0 ≤ (ρ 1000).i∧(ρ 1000).i ≤ (ρ 1002).i∧(ρ 1002).i = ((rdL (ρ 6).h (ρ 3).v).length:Int)∧(ρ 1004).v = (ρ 3).v∧tabTo (ρ 5).h (ρ 1003).h (ρ 2).v fun l=>addToL l 0 (seg (rdL (ρ 6).h (ρ 3).v) 0 (ρ 1000).i.toNat) (ρ 4).i),mu:=(fun ρ=>((ρ 1002).i - (ρ 1000).i).toNat) }
noncomputable def idxL (D:Rows') (k:Nat):List Int:=(List.range k).map (pcI D)
def value94C:Ctr:={ fn := 116,nv:=8,ip:=[(1000,9),(1001,9)],args:=[iv .i64 (.var 0),pcS 1 2 3,iv .u8 (.var 6)],heap:=[],ro:=[pcHp 1 4 5,.abs 7 6],pre:=fun ρ=>1 ≤ (ρ 0).i∧(ρ 0).i ≤ 255∧(ρ 0).i ≤ (ρ 2).i∧(ρ 2).i ≤ (ρ 3).i∧(ρ 2).i ≤ 17592186043904∧pcOk (ρ 7).h (ρ 4).d (ρ 0).i.toNat∧(∀ j,j < (ρ 0).i.toNat→0 ≤ pcI (ρ 4).d j∧pcI (ρ 4).d j < 256)∧(idxL (ρ 4).d (ρ 0).i.toNat).Nodup∧pcN (ρ 7).h (ρ 4).d 0 ≤ 9000∧(∀ j,j < (ρ 0).i.toNat→pcN (ρ 7).h (ρ 4).d j = pcN (ρ 7).h (ρ 4).d 0)∧byteP (ρ 6).i,alts:=[
 { k:=4,ret:=.one (.vslice 8 (.lit 0) (.var 9) (.var 10) 1),heap:=[bHp 8 11 10],post:=fun ρ=>(ρ 9).i = (ρ 11).d.length∧(ρ 11).d.length = pcN (ρ 7).h (ρ 4).d 0∧allB (ρ 11).d∧bI (ρ 11).d = mixN (pcD (ρ 7).h (ρ 4).d) (wgtL (idxL (ρ 4).d (ρ 0).i.toNat) (ρ 6).i) (pcN (ρ 7).h (ρ 4).d 0) (ρ 0).i.toNat }] }
def value94I:Inv:={ key:=3,nv:=5,env:=[(0,iv .i64 (.var 0)),(1,pcS 1 2 3),(2,iv .u8 (.var 6)),(7,pSl' 1000 1001 1002),(8,iv .i64 (.var 1004))],heap:=[bHp 1000 1003 1002],inv:=(fun ρ=>0 ≤ (ρ 1004).i∧(ρ 1004).i ≤ (ρ 0).i∧(ρ 1001).i = (ρ 1003).d.length∧allB (ρ 1003).d∧bI (ρ 1003).d = idxL (ρ 4).d (ρ 1004).i.toNat),mu:=(fun ρ=>((ρ 0).i - (ρ 1004).i).toNat) }
noncomputable def colF (h:Hp) (D:Rows'):Nat→List Int:=fun j=>rdL h (tvs D j)
noncomputable def valLr (h:Hp) (D:Rows') (k:Nat) (x:Int):List Int:=mixN (pcD h D) (wgtL (idxL D k) x) (pcN h D 0) k
def invL (total k:Nat) (rs:List Int):List Int:=(invE (selL (genL k total) k rs) k).2.1
noncomputable def solM (h:Hp) (D:Rows') (total k:Nat) (i:Nat):List Int:=mixN (pcD h D) (seg (invL total k (idxL D k)) (i * k) k) (pcN h D 0) k
def solPre (h:Hp) (D:Rows') (k total n:Int):Prop:=sizesB k total = true∧k ≤ n∧n ≤ 17592186043904∧pcOk h D n.toNat∧chooseOk k.toNat total.toNat (idxL D k.toNat)∧pcN h D 0 ≤ 8192∧∀ j,j < k.toNat→pcN h D j = pcN h D 0
def genW (ρ:Env) (l c d:Nat):Prop:=fullM (ρ 3).i (ρ 2).i (ρ l).i (ρ c).i (ρ d).d∧bI (ρ d).d = genL (ρ 2).i.toNat (ρ 3).i.toNat
def solve89C:Ctr:={ fn := 111,nv:=10,ip:=[(1000,9),(1001,9)],args:=[fArg,iv .i64 (.var 2),iv .i64 (.var 3),pcS 4 5 6],heap:=[fHp 1],ro:=[pcHp 4 7 8,.abs 9 4],pre:=fun ρ=>fieldD (ρ 1).d∧solPre (ρ 9).h (ρ 7).d (ρ 2).i (ρ 3).i (ρ 5).i,alts:=[
 { k:=8,ret:=.tup [(false,[.vslice 10 (.lit 0) (.var 2) (.var 2) 1]),mRet (.var 3) (.var 2) 11 12 13],heap:=[fHp 14,.arr 10 22 [.any] (.var 15) (.var 2),.abs 16 2,bHp 11 17 13],post:=fun ρ=>fieldD (ρ 14).d∧(ρ 15).d.length = (ρ 2).i.toNat∧(∀ row ∈ (ρ 15).d,row.length = 1)∧tabV (ρ 16).h (tvs (ρ 15).d) (ρ 2).i.toNat (solM (ρ 9).h (ρ 7).d (ρ 3).i.toNat (ρ 2).i.toNat)∧genW ρ 12 13 17 }] }
def solEnv:List (Nat × SV):=[(0,fArg),(1,iv .i64 (.var 2)),(3,pcS 4 5 6),(9,.one (.vptr 1010 (.lit 0) 3 0)),(10,.one (.vptr 1004 (.lit 0) 3 0))]
def solHp:List SH:=[fHp 1003,zBox 1010,boxM 1004 3 2 1005 1006 1007,bHp 1005 1008 1007]
def solve89A:Inv:={ key:=4,nv:=11,env:=solEnv ++ [(12,.one (.vslice 1000 (.lit 0) (.var 2) (.var 2) 1)),(31,.one (.vslice 1000 (.lit 0) (.var 2) (.var 2) 1)),(32,iv .i64 (.var 2)),(33,iv .i64 (.var 1002))],heap:=solHp ++ [iHp 1000 1001 2],inv:=(fun ρ=>fieldD (ρ 1003).d∧genW ρ 1006 1007 1008∧0 ≤ (ρ 1002).i∧(ρ 1002).i ≤ (ρ 2).i∧(ρ 1001).d.length = (ρ 2).i.toNat∧∀ j:Int,0 ≤ j→j < (ρ 1002).i→cellI (ρ 1001).d j 0 = cellI (ρ 7).d j 0),mu:=(fun ρ=>((ρ 2).i - (ρ 1002).i).toNat) }
def solCols:List (Nat × SV):=solEnv ++ [(16,.one (.vptr 1011 (.lit 0) 3 0)),(18,.one (.vslice 1016 (.lit 0) (.var 2) (.var 2) 1)),(59,.one (.vslice 1016 (.lit 0) (.var 2) (.var 2) 1)),(60,iv .i64 (.var 2)),(61,iv .i64 (.var 1002))]
def solCHp:List SH:=solHp ++ [boxM 1011 2 2 1012 1013 1014,bHp 1012 1015 1014,.arr 1016 22 [.any] (.var 1017) (.var 2),.abs 1018 2]
noncomputable def solR (ρ:Env):Nat→List Int:=solM (ρ 9).h (ρ 7).d (ρ 3).i.toNat (ρ 2).i.toNat
def solW (ρ:Env):Prop:=fieldD (ρ 1003).d∧genW ρ 1006 1007 1008∧fullM (ρ 2).i (ρ 2).i (ρ 1013).i (ρ 1014).i (ρ 1015).d∧bI (ρ 1015).d = invL (ρ 3).i.toNat (ρ 2).i.toNat (idxL (ρ 7).d (ρ 2).i.toNat)∧(ρ 1017).d.length = (ρ 2).i.toNat∧(∀ row ∈ (ρ 1017).d,row.length = 1)∧0 ≤ (ρ 1002).i∧(ρ 1002).i ≤ (ρ 2).i
def solve89B:Inv:={ key:=12,nv:=19,env:=solCols,heap:=solCHp,inv:=(fun ρ=>solW ρ∧tabV (ρ 1018).h (tvs (ρ 1017).d) (ρ 1002).i.toNat (solR ρ)),mu:=(fun ρ=>((ρ 2).i - (ρ 1002).i).toNat) }
def solve89D (w:Nat):Inv:={ key:=16,nv:=23,env:=solCols ++ [(19,iv .i64 (.var 1002)),(75,bSl 1012 1020 1021 1022),(76,iv .i64 (.var 1021)),(77,iv .i64 (.var 1019))],heap:=solCHp,inv:=(fun ρ=>solW ρ∧(ρ 1002).i < (ρ 2).i∧(ρ 1002).i = (ρ w).i∧(ρ 1020).i = (ρ 1002).i * (ρ 2).i∧(ρ 1021).i = (ρ 2).i∧0 ≤ (ρ 1019).i∧(ρ 1019).i ≤ (ρ 2).i ∧
 tabV (ρ 1018).h (tvs (ρ 1017).d) ((ρ 1002).i.toNat + 1) (fun r=>if r = (ρ 1002).i.toNat then mixN (pcD (ρ 9).h (ρ 7).d) (seg (invL (ρ 3).i.toNat (ρ 2).i.toNat (idxL (ρ 7).d (ρ 2).i.toNat)) ((ρ 1002).i.toNat * (ρ 2).i.toNat) (ρ 2).i.toNat) (pcN (ρ 9).h (ρ 7).d 0) (ρ 1019).i.toNat else solR ρ r)),mu:=(fun ρ=>((ρ 2).i - (ρ 1019).i).toNat) }
end Go.Eng

set_option linter.unusedSimpArgs false
set_option linter.unusedVariables false
namespace Go.Eng
open Go Go.Proofs
noncomputable def chkH (h:Hp) (D:Rows') (k total len:Int) (n:Int) (e:Int):Prop:=chkP k total len n.toNat (pcI D) (pcN h D) e
def pcPre (h:Hp) (D:Rows') (n:Int):Prop:=0 ≤ n∧n ≤ 17592186043904∧pcOk h D n.toNat
end Go.Eng

set_option linter.unusedSimpArgs false
set_option linter.unusedVariables false
namespace Go.Eng
open Go Go.Proofs
def grow98C:Ctr:={ fn := 135,nv:=1,args:=[.one .vnils,iv .i64 (.var 0)],heap:=[],ro:=[],pre:=fun ρ=>0 ≤ (ρ 0).i∧(ρ 0).i ≤ 10000000,alts:=[{ k:=3,ret:=.one (.vslice 1 (.lit 0) (.lit 0) (.var 3) 1),heap:=[bHp 1 2 3],post:=fun ρ=>allB (ρ 2).d }] }
def catN (f:Nat→List Int):Nat→List Int
 | 0=>[]
 | k + 1=>catN f k ++ f k
def concat92C:Ctr:={ fn := 112,nv:=6,ip:=[(33,1)],args:=[.one (.vslice 0 (.lit 0) (.var 1) (.var 2) 1)],heap:=[],ro:=[.arr 0 22 [.any] (.var 3) (.var 4),.abs 5 2],pre:=fun ρ=>0 ≤ (ρ 1).i∧(ρ 1).i ≤ 255∧(ρ 1).i ≤ (ρ 3).d.length∧(∀ row ∈ (ρ 3).d,row.length = 1)∧∀ j,j < (ρ 1).i.toNat→rdB (ρ 5).h (tvs (ρ 3).d j)∧(colF (ρ 5).h (ρ 3).d j).length ≤ 9000,alts:=[
 { k:=4,ret:=.one (.vslice 6 (.lit 0) (.var 7) (.var 8) 1),heap:=[bHp 6 9 8],post:=fun ρ=>(ρ 7).i = ((catN (colF (ρ 5).h (ρ 3).d) (ρ 1).i.toNat).length:Int)∧(ρ 7).i ≤ (ρ 9).d.length∧allB ((ρ 9).d.take (ρ 7).i.toNat)∧bI ((ρ 9).d.take (ρ 7).i.toNat) = catN (colF (ρ 5).h (ρ 3).d) (ρ 1).i.toNat∧allB (ρ 9).d }] }
def concat92I:Inv:={ key:=3,nv:=2,env:=[(0,.one (.vslice 0 (.lit 0) (.var 1) (.var 2) 1)),(3,iv .i64 (.var 1001)),(9,.one (.vslice 0 (.lit 0) (.var 1) (.var 2) 1)),(10,iv .i64 (.var 1)),(11,iv .i64 (.var 1000))],heap:=[],inv:=(fun ρ=>0 ≤ (ρ 1000).i∧(ρ 1000).i ≤ (ρ 1).i∧(ρ 1001).i = ((catN (colF (ρ 5).h (ρ 3).d) (ρ 1000).i.toNat).length:Int)),mu:=(fun ρ=>((ρ 1).i - (ρ 1000).i).toNat) }
def concat92J:Inv:={ key:=11,nv:=5,env:=[(6,pSl' 1000 1001 1002),(25,.one (.vslice 0 (.lit 0) (.var 1) (.var 2) 1)),(26,iv .i64 (.var 1)),(27,iv .i64 (.var 1004))],heap:=[bHp 1000 1003 1002],inv:=(fun ρ=>0 ≤ (ρ 1004).i∧(ρ 1004).i ≤ (ρ 1).i∧(ρ 1001).i = ((catN (colF (ρ 5).h (ρ 3).d) (ρ 1004).i.toNat).length:Int)∧(ρ 1001).i ≤ (ρ 1003).d.length∧allB ((ρ 1003).d.take (ρ 1001).i.toNat)∧bI ((ρ 1003).d.take (ρ 1001).i.toNat) = catN (colF (ρ 5).h (ρ 3).d) (ρ 1004).i.toNat∧allB (ρ 1003).d),mu:=(fun ρ=>((ρ 1).i - (ρ 1004).i).toNat) }
noncomputable def plI (k size:Int):Int:=(pieceLen k.toNat size.toNat:Int)
def decEr (h:Hp) (D:Rows') (k total size n e:Int):Prop:=((sizesB k total = false∨size < 0∨8192 < size)∧e = 2)∨(sizesB k total = true∧0 ≤ size∧size ≤ 8192∧chkH h D k total (plI k size) n e∧e ≠ 0)
def decK (h:Hp) (D:Rows') (k total size n:Int):Prop:=sizesB k total = true∧0 ≤ size∧size ≤ 8192∧chkH h D k total (plI k size) n 0
noncomputable def decL (h:Hp) (D:Rows') (k:Nat):List Int:=catN (fun i=>valLr h D k (i:Int)) k
def decode69C:Ctr:={ fn := 76,nv:=11,ip:=[(1000,9),(1001,9)],args:=[fArg,iv .i64 (.var 2),iv .i64 (.var 3),iv .i64 (.var 4),pcS 5 6 7],heap:=[fHp 1],ro:=[pcHp 5 8 9,.abs 10 4],pre:=fun ρ=>fieldD (ρ 1).d∧pcPre (ρ 10).h (ρ 8).d (ρ 6).i,alts:=[
 { k:=2,ret:=.tup [(false,[.vnils]),eRet (.var 11)],heap:=[fHp 12],post:=fun ρ=>fieldD (ρ 12).d∧decEr (ρ 10).h (ρ 8).d (ρ 2).i (ρ 3).i (ρ 4).i (ρ 6).i (ρ 11).i },
 { k:=4,ret:=.tup [(false,[.vslice 11 (.lit 0) (.var 4) (.var 4) 1]),eRet (.lit 0)],heap:=[fHp 12,bHp 11 13 14],post:=fun ρ=>fieldD (ρ 12).d∧decK (ρ 10).h (ρ 8).d (ρ 2).i (ρ 3).i (ρ 4).i (ρ 6).i∧(ρ 4).i ≤ (ρ 13).d.length∧allB ((ρ 13).d.take (ρ 4).i.toNat)∧bI ((ρ 13).d.take (ρ 4).i.toNat) = (decL (ρ 10).h (ρ 8).d (ρ 2).i.toNat).take (ρ 4).i.toNat∧allB (ρ 13).d }] }
def join70C:Ctr:={ fn := 78,nv:=9,ip:=[(1000,9),(1001,9)],args:=[iv .i64 (.var 0),iv .i64 (.var 1),iv .i64 (.var 2),pcS 3 4 5],heap:=[],ro:=[pcHp 3 6 7,.abs 8 6],pre:=fun ρ=>pcPre (ρ 8).h (ρ 6).d (ρ 4).i∧(ρ 4).i ≤ (ρ 5).i,alts:=[
  { k:=1,ret:=.tup [(false,[.vnils]),eRet (.var 9)],heap:=[],post:=fun ρ=>decEr (ρ 8).h (ρ 6).d (ρ 0).i (ρ 1).i (ρ 2).i (ρ 4).i (ρ 9).i },
  { k:=3,ret:=.tup [(false,[.vslice 9 (.lit 0) (.var 2) (.var 10) 1]),eRet (.lit 0)],heap:=[bHp 9 11 10],post:=fun ρ=>decK (ρ 8).h (ρ 6).d (ρ 0).i (ρ 1).i (ρ 2).i (ρ 4).i∧(ρ 2).i ≤ (ρ 11).d.length∧allB ((ρ 11).d.take (ρ 2).i.toNat)∧bI ((ρ 11).d.take (ρ 2).i.toNat) = (decL (ρ 8).h (ρ 6).d (ρ 0).i.toNat).take (ρ 2).i.toNat∧allB (ρ 11).d }] }
/-- 1000 .. 1003 the object, 1004 the round. -/
def join70I:Inv:={ key:=9,nv:=5,env:=[(0,iv .i64 (.var 0)),(2,iv .i64 (.var 2)),(3,pcS 3 4 5),(13,pSl' 1000 1001 1002),(14,iv .i64 (.var 1004))],heap:=[bHp 1000 1003 1002],inv:=(fun ρ=>decK (ρ 8).h (ρ 6).d (ρ 0).i (ρ 1).i (ρ 2).i (ρ 4).i∧0 ≤ (ρ 1004).i∧(ρ 1004).i ≤ (ρ 0).i∧(ρ 1001).i = (ρ 1003).d.length∧allB (ρ 1003).d∧bI (ρ 1003).d = catN (fun i=>valLr (ρ 8).h (ρ 6).d (ρ 0).i.toNat (i:Int)) (ρ 1004).i.toNat),mu:=(fun ρ=>((ρ 0).i - (ρ 1004).i).toNat) }
end Go.Eng

set_option linter.unusedSimpArgs false
set_option linter.unusedVariables false
namespace Go.Eng
open Go Go.Proofs
def chksP (f I:Nat→Int) (n:Nat) (k e:Int):Prop :=
 (∃ i,i < n∧(∀ j,j < i→f j = 0∧∀ l,l < j→I l ≠ I j)∧((f i ≠ 0∧e = f i)∨(f i = 0∧(∃ l,l < i∧I l = I i)∧e = 7))) ∨
 ((∀ j,j < n→f j = 0∧∀ l,l < j→I l ≠ I j)∧(((n:Int) < k∧e = 12)∨(k ≤ n∧e = 0)))
noncomputable def chkF (k n t s l:Int) (D:List (List Int)) (h:Hp) (P:Rows') (j:Nat):Int:=chkE k n t s l D (pcI P j) (pcD h P j)
def manAt (r:Nat):SV:=.agg (manT r (r + 1) (r + 2) (r + 3) (r + 4) (r + 5) (r + 6) (r + 7))
def manP (ρ:Env) (r:Nat):Prop:=i64P (ρ r).i∧i64P (ρ (r + 1)).i∧i64P (ρ (r + 2)).i∧i64P (ρ (r + 3)).i∧(ρ (r + 6)).i = (ρ (r + 8)).d.length∧dgsOk (ρ (r + 8)).d
def psP (n:Int) (P:Rows') (h:Hp):Prop:=pcPre h P n∧n = P.length∧∀ j,j < P.length→(pcD h P j).length ≤ 9000
noncomputable def mF (ρ:Env) (r p h:Nat):Nat→Int:=chkF (ρ r).i (ρ (r + 1)).i (ρ (r + 2)).i (ρ (r + 3)).i (ρ (r + 6)).i (dgs (ρ (r + 8)).d) (ρ h).h (ρ p).d
def chksPre (ρ:Env):Prop:=manP ρ 0∧psP (ρ 11).i (ρ 13).d (ρ 15).h
def chksAlts:List Alt:=[{ k:=1,ret:=iv .i64 (.var 18),heap:=[],post:=fun ρ=>chksP (mF ρ 0 13 15) (pcI (ρ 13).d) (ρ 13).d.length (ρ 0).i (ρ 18).i }]
def chksC:Ctr:={ fn := 75,nv:=18,ip:=[gIp 16],ow:=[1003],args:=[manV,pcS 10 11 12],heap:=[],ro:=[dgsHp 5 8 9,pcHp 10 13 14,.abs 15 4,gHp 16 17],pre:=fun ρ=>chksPre ρ∧gOk ρ 16 17 gR,alts:=chksAlts }
def mtSeen:MT:=⟨false,[.i64],false,[.bool],[.vbool (.bl false)]⟩
def seenAt (h:Hp) (v:Value) (I:Nat→Int) (i:Nat):Prop:=∃ b l c,v = .map (some b)∧MapH h b mtSeen l c∧(∀ x ∈ l,x.v = [.bool true])∧∀ z:Int,hasM l [z] = true↔∃ j,j < i∧I j = z
def chksI:Inv:={ key:=3,nv:=4,env:=[(1,pcS 10 11 12),(2,.one (.vptr 1002 (.lit 0) 37 0)),(5,.one (.var 1001)),(10,pcS 10 11 12),(11,iv .i64 (.var 11)),(12,iv .i64 (.var 1003))],heap:=[.cells 1002 27 (manT 0 1 2 3 4 5 6 7),.abs 1000 1003],inv:=(fun ρ=>0 ≤ (ρ 1003).i∧(ρ 1003).i ≤ (ρ 11).i∧(∀ j,j < (ρ 1003).i.toNat→mF ρ 0 13 15 j = 0∧∀ l,l < j→pcI (ρ 13).d l ≠ pcI (ρ 13).d j)∧seenAt (ρ 1000).h (ρ 1001).v (pcI (ρ 13).d) (ρ 1003).i.toNat),mu:=(fun ρ=>((ρ 11).i - (ρ 1003).i).toNat) }
def chksRC:Ctr:={ fn := 77,nv:=18,ip:=[gIs 16,(1001,9),(1002,9)],ow:=[1003],args:=[manV,pcS 10 11 12],heap:=[],ro:=[dgsHp 5 8 9,pcHp 10 13 14,.abs 15 6,gHp 16 17],pre:=fun ρ=>chksPre ρ∧gOk ρ 16 17 gS,alts:=chksAlts }
def chksRI:Inv:={ key:=2,nv:=2,env:=[(1,pcS 10 11 12),(2,.one (.vptr 1000 (.lit 0) 37 0)),(5,iv .i64 (.var 1001))],heap:=[.cells 1000 27 (manT 0 1 2 3 4 5 6 7)],inv:=(fun ρ=>0 ≤ (ρ 1001).i∧(ρ 1001).i ≤ (ρ 11).i∧(∀ j,j < (ρ 1001).i.toNat→mF ρ 0 13 15 j = 0∧∀ l,l < j→pcI (ρ 13).d l ≠ pcI (ρ 13).d j)),mu:=(fun ρ=>((ρ 11).i - (ρ 1001).i).toNat) }
def chksRJ:Inv:={ key:=8,nv:=2,env:=[(1,pcS 10 11 12),(2,.one (.vptr 1000 (.lit 0) 37 0)),(5,iv .i64 (.var 20)),(7,iv .i64 (.var 1001))],heap:=[.cells 1000 27 (manT 0 1 2 3 4 5 6 7)],inv:=(fun ρ=>0 ≤ (ρ 1001).i∧(ρ 1001).i ≤ (ρ 20).i∧∀ l,l < (ρ 1001).i.toNat→pcI (ρ 13).d l ≠ pcI (ρ 13).d (ρ 20).i.toNat),mu:=(fun ρ=>((ρ 20).i - (ρ 1001).i).toNat) }
def outR (ok:Bool) (C:Int→Prop) (D O:List Int) (e:Int):Prop:=(ok = false∧e = 2)∨(ok = true∧C e∧e ≠ 0)∨(ok = true∧C 0∧((sha D ≠ O∧e = 20)∨(sha D = O∧e = 0)))
def mOk (ρ:Env) (r:Nat):Bool:=manOk (ρ r).i (ρ (r + 1)).i (ρ (r + 2)).i (ρ (r + 3)).i (ρ (r + 6)).i
def mChk (ρ:Env) (r p h:Nat):Int→Prop:=chksP (mF ρ r p h) (pcI (ρ p).d) (ρ p).d.length (ρ r).i
noncomputable def asmD (ρ:Env) (r p h:Nat):List Int:=(decL (ρ h).h (ρ p).d (ρ r).i.toNat).take (ρ (r + 3)).i.toNat
def asmS (ok:Bool) (C:Int→Prop) (sz e n:Int) (D O:List Int) (R:Rows'):Prop:=outR ok C D O e∧((e ≠ 0∧n = 0∧R = [])∨(e = 0∧n = sz∧0 ≤ n∧n ≤ R.length∧allB R∧bI (R.take n.toNat) = D))
def asmC:Ctr:={ fn := 19,nv:=20,ip:=[gIp 18,(1005,9)],args:=[fArg,manAt 2,pcS 12 13 14],heap:=[fHp 1],ro:=[dgsHp 7 10 11,pcHp 12 15 16,.abs 17 4,gHp 18 19],pre:=fun ρ=>fieldD (ρ 1).d∧manP ρ 2∧allM (rowL (ρ 6).d 32)∧psP (ρ 13).i (ρ 15).d (ρ 17).h∧gOk ρ 18 19 gR,alts:=[
 { k:=7,ret:=.tup [(false,[.vslice 20 (.lit 0) (.var 21) (.var 26) 1]),eRet (.var 24)],heap:=[fHp 25,bHp 20 23 22],post:=fun ρ=>fieldD (ρ 25).d∧asmS (mOk ρ 2) (mChk ρ 2 15 17) (ρ 5).i (ρ 24).i (ρ 21).i (asmD ρ 2 15 17) (rowL (ρ 6).d 32) (ρ 23).d }] }
def mineC:Ctr:={ fn := 22,nv:=6,args:=[pcS 0 1 2],heap:=[],ro:=[pcHp 0 3 4,.abs 5 6],pre:=fun ρ=>pcPre (ρ 5).h (ρ 3).d (ρ 1).i∧(ρ 1).i = (ρ 3).d.length∧(ρ 1).i ≤ 10000∧∀ j,j < (ρ 3).d.length→(pcD (ρ 5).h (ρ 3).d j).length ≤ 9000,alts:=[
 { k:=4,ret:=.one (.vslice 6 (.lit 0) (.var 1) (.var 7) 2),heap:=[pcHp 6 8 7,.abs 9 4],post:=fun ρ=>(ρ 8).d.length = (ρ 3).d.length∧pcOk (ρ 9).h (ρ 8).d (ρ 3).d.length∧samePc (ρ 9).h (ρ 5).h (ρ 8).d (ρ 3).d (ρ 3).d.length (ρ 3).d.length }] }
def mineI:Inv:={ key:=3,nv:=6,env:=[(0,pcS 0 1 2),(3,pcS 1000 1001 1002),(4,iv .i64 (.var 1001))],heap:=[pcHp 1000 1003 1002,.abs 1004 4],inv:=(fun ρ=>0 ≤ (ρ 1001).i∧(ρ 1001).i ≤ (ρ 1).i∧(ρ 1001).i = (ρ 1003).d.length∧pcOk (ρ 1004).h (ρ 1003).d (ρ 1001).i.toNat∧samePc (ρ 1004).h (ρ 5).h (ρ 1003).d (ρ 3).d (ρ 1001).i.toNat (ρ 1001).i.toNat),mu:=(fun ρ=>((ρ 1).i - (ρ 1001).i).toNat) }
end Go.Eng

set_option linter.unusedSimpArgs false
set_option linter.unusedVariables false
namespace Go.Proofs
open Go Go.Eng
theorem chks_congr {f g I J:Nat→Int} {n:Nat} {k e:Int} (h:∀ j,j < n→f j = g j∧I j = J j) (a:chksP f I n k e):chksP g J n k e:=by
 rcases a with ⟨i,hi,h1,h2⟩ | ⟨h1,h2⟩
 ·refine .inl ⟨i,hi,fun j hj=>⟨by rw [← (h j (by omega)).1]; exact (h1 j hj).1,fun l hl=>by rw [← (h l (by omega)).2,← (h j (by omega)).2]; exact (h1 j hj).2 l hl⟩,?_⟩
  rw [← (h i hi).1,← (h i hi).2]
  rcases h2 with h2 | ⟨a,⟨l,b,c⟩,d⟩
  ·exact .inl h2
  ·exact .inr ⟨a,⟨l,b,by rw [← (h l (by omega)).2]; exact c⟩,d⟩
 ·exact .inr ⟨fun j hj=>⟨by rw [← (h j hj).1]; exact (h1 j hj).1,fun l hl=>by rw [← (h l (by omega)).2,← (h j hj).2]; exact (h1 j hj).2 l hl⟩,h2⟩
theorem chks_zero {f I:Nat→Int} {n:Nat} {k:Int} (h:chksP f I n k 0):(∀ j,j < n→f j = 0∧∀ l,l < j→I l ≠ I j)∧k ≤ n:=by
 rcases h with ⟨i,hi,h1,⟨a,b⟩ | ⟨a,_,b⟩⟩ | ⟨h1,⟨a,b⟩ | ⟨a,b⟩⟩
 ·exact (a b.symm).elim
 ·omega
 ·omega
 ·exact ⟨h1,a⟩
theorem chks_first {f I:Nat→Int} {i j:Nat} {e:Int} (h2:(f i ≠ 0∧e = f i)∨(f i = 0∧(∃ l,l < i∧I l = I i)∧e = 7)) (h:f i = 0∧∀ l,l < i→I l ≠ I i):False:=by
 rcases h2 with ⟨h2,_⟩ | ⟨_,⟨l,hl,hI⟩,_⟩
 ·exact h2 h.1
 ·exact h.2 l hl hI
theorem chks_uniq {f I:Nat→Int} {n:Nat} {k e e':Int} (a:chksP f I n k e) (b:chksP f I n k e'):e = e':=by
 rcases a with ⟨i,hi,h1,h2⟩ | ⟨h1,h2⟩ <;> rcases b with ⟨i',hi',g1,g2⟩ | ⟨g1,g2⟩
 ·rcases Nat.lt_trichotomy i i' with h | h | h
  ·exact (chks_first (j:=0) h2 (g1 i h)).elim
  ·subst h
   rcases h2 with ⟨a,b⟩ | ⟨a,_,b⟩ <;> rcases g2 with ⟨c,d⟩ | ⟨c,_,d⟩
   ·rw [b,d]
   ·exact (a c).elim
   ·exact (c a).elim
   ·rw [b,d]
  ·exact (chks_first (j:=0) g2 (h1 i' h)).elim
 ·exact (chks_first (j:=0) h2 (g1 i hi)).elim
 ·exact (chks_first (j:=0) g2 (h1 i' hi')).elim
 ·omega
theorem outR_uniq {ok:Bool} {C C':Int→Prop} {D D' O:List Int} {e e':Int} (hC:∀ x y,C x→C' y→x = y) (hD:ok = true→C 0→D = D') (a:outR ok C D O e) (b:outR ok C' D' O e'):e = e':=by
 rcases a with ⟨a,a1⟩ | ⟨a,a1,a2⟩ | ⟨a,a1,a2⟩ <;> rcases b with ⟨b,b1⟩ | ⟨b,b1,b2⟩ | ⟨b,b1,b2⟩
 ·rw [a1,b1]
 ·rw [a] at b; cases b
 ·rw [a] at b; cases b
 ·rw [a] at b; cases b
 ·exact hC _ _ a1 b1
 ·exact (a2 (hC _ _ a1 b1)).elim
 ·rw [a] at b; cases b
 ·exact (b2 (hC _ _ a1 b1).symm).elim
 ·obtain rfl:=hD a a1
  rcases a2 with ⟨a2,a3⟩ | ⟨a2,a3⟩ <;> rcases b2 with ⟨b2,b3⟩ | ⟨b2,b3⟩
  ·rw [a3,b3]
  ·exact (a2 b2).elim
  ·exact (b2 a2).elim
  ·rw [a3,b3]
theorem outR_zero {ok:Bool} {C:Int→Prop} {D O:List Int} (a:outR ok C D O 0):ok = true∧C 0∧sha D = O:=by
 rcases a with ⟨a,a1⟩ | ⟨a,a1,a2⟩ | ⟨a,a1,⟨a2,a3⟩ | ⟨a2,a3⟩⟩
 ·omega
 ·exact (a2 rfl).elim
 ·omega
 ·exact ⟨a,a1,a2⟩
section
variable {M:Bool} {C:Int→Prop} {x t:Int} {D O:List Int}
theorem outR_man (h:M = false):outR M C D O 2:=.inl ⟨h,rfl⟩
theorem outR_chk {e:Int} (h:M = true) (hC:C e) (he:¬ e = 0):outR M C D O e:=.inr (.inl ⟨h,hC,he⟩)
theorem outR_sum (h:M = true) (hC:C 0) (hs:¬ sha D = O):outR M C D O 20:=.inr (.inr ⟨h,hC,.inl ⟨hs,rfl⟩⟩)
theorem outR_ok (h:M = true) (hC:C 0) (hs:sha D = O):outR M C D O 0:=.inr (.inr ⟨h,hC,.inr ⟨hs,rfl⟩⟩)
theorem asmS_e {e sz:Int} (a:outR M C D O e) (h:¬ e = 0):asmS M C sz e 0 D O []:=⟨a,.inl ⟨h,rfl,rfl⟩⟩
theorem asmS_ok {n:Int} {R:Rows'} (a:outR M C D O 0) (n0:0 ≤ n) (hn:n ≤ R.length) (hB:allB R) (hR:bI (R.take n.toNat) = D):asmS M C n 0 n D O R:=⟨a,.inr ⟨rfl,rfl,n0,hn,hB,hR⟩⟩
end
theorem mixN_congr {f g:Nat→List Int} {w:List Int} {l:Nat}:∀ {k:Nat},(∀ j,j < k→f j = g j)→mixN f w l k = mixN g w l k
 | 0,_=>rfl
 | k + 1,h=>by rw [mixN,mixN,mixN_congr fun j hj=>h j (by omega),h k (by omega)]
theorem mixN_congr' {f g:Nat→List Int} {w w':List Int} {n n' k:Nat} (hf:∀ j,j < k→f j = g j) (hw:w = w') (hn:n = n'):mixN f w n k = mixN g w' n' k:=by
 subst hw hn
 exact mixN_congr (fun j hj=>hf j hj)
theorem idxL_congr {D D':Rows'} {k:Nat} (h:∀ j,j < k→pcI D j = pcI D' j):idxL D k = idxL D' k:=by
 unfold idxL
 exact List.map_congr_left fun j hj=>h j (List.mem_range.1 hj)
theorem valLr_congr {h h':Hp} {D D':Rows'} {k:Nat} {x:Int} (hk:0 < k) (H:∀ j,j < k→pcI D j = pcI D' j∧pcD h D j = pcD h' D' j):valLr h D k x = valLr h' D' k x:=by
 unfold valLr
 rw [idxL_congr fun j hj=>(H j hj).1]
 exact mixN_congr' (fun j hj=>(H j hj).2) rfl (by unfold pcN; rw [(H 0 hk).2])
theorem chkF_congr {k n t s l:Int} {D:List (List Int)} {h h':Hp} {P P':Rows'} {j:Nat} (H:pcI P j = pcI P' j∧pcD h P j = pcD h' P' j):chkF k n t s l D h P j = chkF k n t s l D h' P' j:=by
 unfold chkF; rw [H.1,H.2]
theorem chks_bad {f I:Nat→Int} {n:Nat} {k e x:Int} (x0:0 ≤ x) (x1:x < n) (h:∀ j:Nat,(j:Int) < x→f j = 0∧∀ l,l < j→¬ I l = I j) (he:e = f x.toNat) (hne:¬ e = 0):chksP f I n k e :=
 .inl ⟨x.toNat,by omega,fun j hj=>h j (by omega),.inl ⟨by rw [← he]; exact hne,he⟩⟩
theorem chks_twice {f I:Nat→Int} {n:Nat} {k x:Int} (x0:0 ≤ x) (x1:x < n) (h:∀ j:Nat,(j:Int) < x→f j = 0∧∀ l,l < j→¬ I l = I j) (h0:f x.toNat = 0) (hl:∃ l,l < x.toNat∧I l = I x.toNat):chksP f I n k 7 :=
 .inl ⟨x.toNat,by omega,fun j hj=>h j (by omega),.inr ⟨h0,hl,rfl⟩⟩
theorem chks_end {f I:Nat→Int} {n:Nat} {k e x:Int} (x1:n ≤ x) (h:∀ j:Nat,(j:Int) < x→f j = 0∧∀ l,l < j→¬ I l = I j) (he:((n:Int) < k∧e = 12)∨(k ≤ n∧e = 0)):chksP f I n k e :=
 .inr ⟨fun j hj=>h j (by omega),he⟩
theorem chks_next {f I:Nat→Int} {x:Int} (x0:0 ≤ x) (h:∀ j:Nat,(j:Int) < x→f j = 0∧∀ l,l < j→¬ I l = I j) (h0:f x.toNat = 0) (hl:∀ l,l < x.toNat→¬ I l = I x.toNat):∀ j:Nat,(j:Int) < x + 1→f j = 0∧∀ l,l < j→¬ I l = I j:=fun j hj=>by
 by_cases hjx:(j:Int) = x
 ·obtain rfl:j = x.toNat:=by omega
  exact ⟨h0,hl⟩
 ·exact h j (by omega)
theorem seen_new {b:Nat} {v:Value} {h:Hp} {I:Nat→Int} (hv:v = .map (some b)) (hh:h = Hp.one b (.map #[] 0)):seenAt h v I 0:=by
 subst hh
 refine ⟨b,[],0,hv,⟨by simp [Hp.one,MT.obj],⟨fun x hx=>(by cases hx),.nil⟩⟩,fun x hx=>(by cases hx),fun z=>⟨fun h=>(by cases h),fun ⟨j,hj,_⟩=>(by omega)⟩⟩
theorem getM_true {l:List ME} {k:List Int} (h:∀ x ∈ l,x.v = [.bool true]):getM l k [.bool false] = [.bool (hasM l k)]:=by
 cases hh:hasM l k with
 | false=>exact getM_none hh
 | true =>
  obtain ⟨j,x,h1,_,_,h2⟩:=findM_some (mt:=mtSeen) (i:=0) hh
  rw [h2]
  exact h x (List.mem_of_getElem? h1)
theorem seen_put {h h':Hp} {v:Value} {I:Nat→Int} {i b clock:Nat} {l:List ME} {x:Int} (hv:v = .map (some b)) (hm:MapH h b mtSeen l clock) (ht:∀ x ∈ l,x.v = [.bool true]) (hs:∀ z:Int,hasM l [z] = true↔∃ j,j < i∧I j = z) (hx:x = I i)
  (hh:h' = Hp.upd h b (mtSeen.obj (putM l [x] [.bool true] clock))):seenAt h' v I (i + 1):=by
 have hw:=putM_wf (k:=[x]) (v:=[.bool true]) hm.2 rfl ⟨rfl,fun c k v hk hv=>by
  match c,hk,hv with
  | 0,hk,hv=>simp [mtSeen] at hk hv; subst hk hv; rfl
  | c + 1,hk,hv=>simp [mtSeen] at hk⟩
 refine ⟨b,(putM l [x] [.bool true] clock).1,(putM l [x] [.bool true] clock).2,hv,⟨by rw [hh]; simp [Hp.upd],hw⟩,?_,?_⟩
 ·intro y hy
  unfold putM at hy
  split at hy
  ·obtain ⟨z,hz,rfl⟩:=List.mem_map.1 hy
   split
   ·rfl
   ·exact ht z hz
  ·rcases List.mem_append.1 hy with hy | hy
   ·exact ht y hy
   ·rw [List.mem_singleton.1 hy]
 ·intro z
  have e:hasM (putM l [x] [.bool true] clock).1 [z] = (hasM l [z] || decide (x = z)):=by
   unfold putM
   split
   ·rename_i hh
    have e1:hasM (l.map fun y=>if y.k = [x] then { y with v:=[.bool true] } else y) [z] = hasM l [z]:=by
     unfold hasM
     rw [List.any_map]
     refine congrArg (fun f=>List.any l f) (funext fun y=>?_)
     simp only [Function.comp]
     split <;> rfl
    rw [e1]
    by_cases hxz:x = z
    ·subst hxz; simp [hh]
    ·simp [hxz]
   ·simp only [hasM,List.any_append,List.any_cons,List.any_nil,Bool.or_false]
    congr 1
    by_cases h:x = z <;> simp [h]
  rw [e,Bool.or_eq_true,hs,decide_eq_true_eq,hx]
  constructor
  ·rintro (⟨j,hj,h⟩ | h)
   ·exact ⟨j,by omega,h⟩
   ·exact ⟨i,by omega,h⟩
  ·rintro ⟨j,hj,h⟩
   by_cases hji:j = i
   ·subst hji; exact .inr h
   ·exact .inl ⟨j,by omega,h⟩
theorem pc_cell {h:Hp} {D:Rows'} {j:Nat} {i:Int} {v:Value} {d:Rows'} (e:D[j]? = some [.int .i64 i,v]) (hr:Rd h kB v d):pcI D j = i∧pcD h D j = bI d:=by
 have h1:cellV D (j:Int) 1 = v:=by simp [cellV,e]
 exact ⟨by simp [pcI,cellI,cellV,e,vInt],by rw [pcD,h1,rdL_eq hr]⟩
theorem pc_mono {h h':Hp} {D:Rows'} {n:Nat} (hp:pcOk h D n) (hl:Hp.le h h'):pcOk h' D n∧∀ j,j < n→pcD h' D j = pcD h D j:=by
 refine ⟨fun j hj=>?_,fun j hj=>?_⟩
 ·obtain ⟨i,v,d,e,hr,hb⟩:=hp j hj
  exact ⟨i,v,d,e,Rd_mono hr hl,hb⟩
 ·obtain ⟨i,v,d,e,hr,hb⟩:=hp j hj
  rw [(pc_cell e hr).2,(pc_cell e (Rd_mono hr hl)).2]
theorem pc_snoc {h h' h0:Hp} {D D0:Rows'} {n:Nat} {x:Int} {v:Value} {d:Rows'} (hp:pcOk h D n) (hs:samePc h h0 D D0 n n) (hn:D.length = n) (hl:Hp.le h h') (hr:Rd h' kB v d) (hB:allB d) (hx:x = pcI D0 n) (hd:bI d = pcD h0 D0 n) :
  pcOk h' (D ++ [[.int .i64 x,v]]) (n + 1)∧samePc h' h0 (D ++ [[.int .i64 x,v]]) D0 (n + 1) (n + 1):=by
 have hm:=pc_mono hp hl
 have e1:(D ++ [[.int .i64 x,v]])[n]? = some [.int .i64 x,v]:=by rw [List.getElem?_append_right (by omega),hn,Nat.sub_self]; rfl
 have e2:∀ j,j < n→(D ++ [[.int .i64 x,v]])[j]? = D[j]?:=fun j hj=>List.getElem?_append_left (by omega)
 refine ⟨fun j hj=>?_,rfl,fun j hj=>?_⟩
 ·by_cases hj':j = n
  ·subst hj'; exact ⟨x,v,d,e1,hr,hB⟩
  ·obtain ⟨i,v',d',f1,f2,f3⟩:=hm.1 j (by omega)
   exact ⟨i,v',d',by rw [e2 j (by omega)]; exact f1,f2,f3⟩
 ·by_cases hj':j = n
  ·subst hj'
   obtain ⟨a,b⟩:=pc_cell e1 hr
   exact ⟨by rw [a,hx],by rw [b,hd]⟩
  ·obtain ⟨i,v',d',f1,f2,f3⟩:=hm.1 j (by omega)
   obtain ⟨a,b⟩:=pc_cell f1 f2
   obtain ⟨a',b'⟩:=pc_cell (D:=D ++ [[.int .i64 x,v]]) (by rw [e2 j (by omega)]; exact f1) f2
   obtain ⟨g1,g2⟩:=hs.2 j (by omega)
   exact ⟨by rw [a',← a,g1],by rw [b',← b,hm.2 j (by omega),g2]⟩
theorem pc_len9 {h h0:Hp} {P P0:Rows'} {N N' j:Nat} (hs:samePc h h0 P P0 N N') (h9:∀ j,j < P0.length→(pcD h0 P0 j).length ≤ 9000) (hj:j < P.length) (hN:N = P0.length) (hl:P.length = P0.length):(pcD h P j).length ≤ 9000:=by
 rw [(hs.2 j (by omega)).2]; exact h9 j (by omega)
theorem len_eq {x:Int} {D D0:Rows'} (hm:x = D0.length) (h:D = D0):x = D.length:=by rw [h]; exact hm
theorem dgs_eq {D D0:Rows'} (hd:dgsOk D0) (h:D = D0):dgsOk D:=by rw [h]; exact hd
theorem asmS_n {M:Bool} {C:Int→Prop} {sz e n:Int} {D O:List Int} {R:Rows'} (a:asmS M C sz e n D O R):0 ≤ n∧n ≤ R.length∧allB R:=by
 obtain ⟨_,⟨a1,a2,a3⟩ | ⟨a1,a2,a3,a4,a5,a6⟩⟩:=a
 ·subst a3; exact ⟨by omega,by simp; omega,fun r hr=>(by cases hr)⟩
 ·exact ⟨a3,a4,a5⟩
end Go.Proofs

set_option linter.unusedSimpArgs false
set_option linter.unusedVariables false
namespace Go.Proofs
open Go Go.Eng
variable {rows wide c rank:Nat} {T0:Mat} {M:Nat→List Int}
theorem tab_bytes {h:Hp} {vs:Nat→Value} {n j:Nat} {M:Nat→List Int} (ht:tabV h vs n M) (hj:j < n):bytesL (M j):=by
 obtain ⟨d,_,e,hb⟩:=ht.1 j hj
 rw [← e]; exact allB_list hb
end Go.Proofs

set_option linter.unusedSimpArgs false
set_option linter.unusedVariables false
namespace Go.Proofs
open Go Go.Eng
theorem tvs_at {D:Rows'} {i:Int} (h:0 ≤ i):tvs D i.toNat = cellV D i 0:=by
 unfold tvs
 rw [Int.toNat_of_nonneg h]
theorem tvs_put {D:Rows'} {i:Int} {v:Value} (hr:∀ row ∈ D,row.length = 1) (i0:0 ≤ i) (i1:i < D.length) (j:Nat):tvs (putD D i 0 [v]) j = if j = i.toNat then v else tvs D j:=by
 unfold tvs cellV putD
 rw [Int.toNat_natCast,List.getElem?_set]
 by_cases h:j = i.toNat
 ·rw [if_pos h.symm,if_pos h,if_pos (by omega)]
  rfl
 ·rw [if_neg (fun e=>h e.symm),if_neg h]
theorem rows_put {D:Rows'} {i:Int} {v:Value} (hr:∀ row ∈ D,row.length = 1) (i0:0 ≤ i) (i1:i < D.length):∀ row ∈ putD D i 0 [v],row.length = 1:=fun row h=>by
 unfold putD at h
 rcases List.mem_or_eq_of_mem_set h with h | rfl
 ·exact hr row h
 ·rw [List.getElem?_eq_getElem (by omega),Option.getD_some]
  have:=hr _ (List.getElem_mem (l:=D) (n:=i.toNat) (by omega))
  unfold splice
  simp [this]
theorem seg_getD {l:List Int} {o n i:Nat} (hi:i < n):(seg l o n).getD i 0 = l.getD (o + i) 0:=by
 rw [seg,List.getD_eq_getElem?_getD,List.getElem?_take,if_pos hi,List.getElem?_drop,List.getD_eq_getElem?_getD]
end Go.Proofs
