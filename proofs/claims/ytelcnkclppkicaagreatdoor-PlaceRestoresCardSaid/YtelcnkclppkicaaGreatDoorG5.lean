/- Texts DC, DE, DH, DJ, DK, DL, BA, BB, ZG, DM, ZJ, ZU, DO, BC, BD, BE, DU, BF, BG, BH, DX, BI, DF, DG, DI, DQ, DN, DR, DV, DW, BJ, BL, BM, BN, BO, BQ, BR, BS, DP, ZC. -/
import Derived.Test.YtelcnkclppkicaaGreatDoorG4
import Derived.Test.YtelcnkclppkicaaGreatDoorG1
import Derived.Test.YtelcnkclppkicaaGreatDoorProg
set_option linter.unusedSimpArgs false
set_option linter.unusedVariables false
namespace Go.Eng
open Go
theorem qe0 {d:List (List Value)} {n i:Nat} {v:Value} (h:qap d n):qap (qas d i v) n:=by
 obtain ⟨row,rfl,hl⟩:=h
 exact ⟨row.set i v,rfl,by simp [hl]⟩
theorem qer {d:List (List Value)} {n i:Nat} {k:IntKind} {z:Int} (h:qap d n) (hi:i < n):qa (qas d i (.int k z)) i = z:=by
 obtain ⟨row,rfl,hl⟩:=h
 simp [qa,qas,hl,hi,qaj]
theorem qba {d:List (List Value)} {i j:Nat} {v:Value} (h:j ≠ i):qa (qas d i v) j = qa d j:=by
 cases d with
 | nil=>rfl
 | cons row rest=>simp [qa,qas,jb1,Ne.symm h]
theorem qac {d:List (List Value)} {n:Nat} (h:qap d n):d.length = 1:=by obtain ⟨row,rfl,_⟩:=h; rfl
theorem qeb {d:List (List Value)} {c:Nat}:qb d 0 c = qa d c:=by cases d <;> simp [qb,qF,qa]
theorem qde {d:List (List Value)} {n:Nat}:(qf d n).length = n:=by simp [qf]
theorem qo9 {d e:List (List Value)} {n:Nat} (h:∀ j,j < n->qa d j = qa e j):qf d n = qf e n:=jbz fun j hj=>h j (jb8.1 hj)
theorem qAN {x:Int}:qe .shl .u32 x 24 = ofW (toW x <<< 24):=qtl (n:=24) (by decide)
theorem qAB {x:Int}:qe .shl .u32 x 16 = ofW (toW x <<< 16):=qtl (n:=16) (by decide)
theorem qBm {x:Int}:qe .shl .u32 x 8 = ofW (toW x <<< 8):=qtl (n:=8) (by decide)
theorem q59 {a b c d:Int}:qe .or .u32 (qe .or .u32 (qe .or .u32 (qe .shl .u32 (IntKind.u32.wrap a) 24) (qe .shl .u32 (IntKind.u32.wrap b) 16)) (qe .shl .u32 (IntKind.u32.wrap c) 8)) (IntKind.u32.wrap d) = ofW (qwB a b c d):=by
 simp only [qoX,qAN,qAB,qBm,q6d,qeP,qwB]
theorem qBe {x:Int} (h:isW x):qe .shr .u32 x 3 = ofW (toW x >>> 3):=q0I (n:=3) h (by decide)
theorem qAH {x:Int} (h:isW x):qe .shr .u32 x 10 = ofW (toW x >>> 10):=q0I (n:=10) h (by decide)
theorem q6P:∀ n:Fin 31,qe .and .u64 (IntKind.u64.wrap (-((n.val:Int) + 1))) 31 = 31 - (n.val:Int):=by decide +kernel
theorem q6N:∀ n:Fin 31,qe .sub .u64 32 (31 - (n.val:Int)) = (n.val:Int) + 1:=by decide +kernel
theorem q8G {x:Int} {n:Nat} (h:isW x) (h1:1 <= n) (h2:n <= 31):qe .or .u32 (qe .shl .u32 x (qe .and .u64 (IntKind.u64.wrap (-(n:Int))) 31)) (qe .shr .u32 x (qe .sub .u64 32 (qe .and .u64 (IntKind.u64.wrap (-(n:Int))) 31))) = ofW (qfU (toW x) n):=by
 have e1:=q6P ⟨n - 1,by omega⟩
 have e2:=q6N ⟨n - 1,by omega⟩
 simp only [] at e1 e2
 have e3:(((n - 1:Nat):Int) + 1) = (n:Int):=by omega
 have e4:(31 - ((n - 1:Nat):Int)) = ((32 - n:Nat):Int):=by omega
 rw [e3,e4] at e1
 rw [e4,e3] at e2
 rw [e1,e2,qtl (by omega),q0I h (by omega),q6d,qeP,qeP,qfU,BitVec.or_comm]
theorem qhs {b:List W32}:∀ {k:Nat},(qay b k).length = b.length + k
 | 0=>rfl
 | k + 1=>by rw [qay,jal,qhs]; simp; omega
theorem qcM {b:List W32} {k:Nat}:∀ {n j:Nat},k <= n->j < b.length + k->(qay b n).getD j 0 = (qay b k).getD j 0
 | 0,j,h,_=>by rw [show k = 0 by omega]
 | n + 1,j,h,hj=>by
  rcases jbu n k with h1 | h1
  ·rw [show k = n + 1 by omega]
  ·rw [qay,jab,jau (by rw [qhs]; omega),<- jab]
   exact qcM h1 hj
theorem q0G {b:List W32} {n j:Nat} (hj:j < b.length):(qay b n).getD j 0 = b.getD j 0:=qcM (k:=0) (jfw _) (by omega)
theorem qxJ {b:List W32} (hb:b.length = 16) {n k:Nat} (hk:k < n):(qay b n).getD (16 + k) 0 = sg1 ((qay b n).getD (14 + k) 0) + (qay b n).getD (9 + k) 0 + sg0 ((qay b n).getD (1 + k) 0) + (qay b n).getD k 0:=by
 rw [qcM (k:=k + 1) (by omega) (by omega),qcM (k:=k) (j:=14 + k) (by omega) (by omega),qcM (k:=k) (j:=9 + k) (by omega) (by omega),qcM (k:=k) (j:=1 + k) (by omega) (by omega),qcM (k:=k) (j:=k) (by omega) (by omega)]
 rw [qay,jab,jao (by rw [qhs]; omega),qhs,hb]
 simp
theorem qtB {d:List (List Value)}:(qdv d).length = 16:=by simp [qdv]
theorem q5X {d:List (List Value)} {t:Nat} (h:t < 16):(qdv d).getD t 0 = qwB (qa d (8 + 4 * t)) (qa d (8 + (4 * t + 1))) (qa d (8 + (4 * t + 2))) (qa d (8 + (4 * t + 3))):=by
 simp [qdv,jab,h]
theorem qp4 {d:List (List Value)} {l:List W32} {t:Nat} {w:Int} (h:qhD d l t) (ht:t < 64) (hw:w = ofW (l.getD t 0)):qhD (qas d t (.int .u32 w)) l (t + 1):=by
 refine ⟨qe0 h.1,fun j hj=>?_⟩
 by_cases e:j = t
 ·rw [e,qer h.1 ht,hw]
 ·rw [qba e,h.2 j (by omega)]
theorem qea {d:List (List Value)} {l:List W32} {n j:Nat} (h:qhD d l n) (hj:j < n):isW (qa d j):=by rw [h.2 j hj]; exact qmU
theorem qhZ {d:List (List Value)} {l:List W32} {n j:Nat} (h:qhD d l n) (hj:j < n):toW (qa d j) = l.getD j 0:=by rw [h.2 j hj,qeP]
theorem qAZ {f:Nat->Int} {j:Nat} (hj:j < 8):qa [[.int .u32 (f 0),.int .u32 (f 1),.int .u32 (f 2),.int .u32 (f 3),.int .u32 (f 4),.int .u32 (f 5),.int .u32 (f 6),.int .u32 (f 7)]] j = f j:=by
 match j,hj with
 | 0,_=>rfl
 | 1,_=>rfl
 | 2,_=>rfl
 | 3,_=>rfl
 | 4,_=>rfl
 | 5,_=>rfl
 | 6,_=>rfl
 | 7,_=>rfl
theorem qxG {d:List (List Value)} {j:Nat} {w:Int} (h:qbI d) (hj:j < 8) (hw:isW w):qbI (qas d j (.int .u32 w)):=by
 refine ⟨qe0 h.1,fun i hi=>?_,fun i h1 h2=>?_⟩
 ·by_cases e:i = j
  ·rw [e,qer h.1 (by omega)]; exact hw
  ·rw [qba e]; exact h.2.1 i hi
 ·rw [qba (by omega)]; exact h.2.2 i h1 h2
theorem qkn:qaO.length = 64:=by decide
theorem q1Q {j:Nat} (hj:j < 64):qa [qaO.map (Value.int .u32)] j = qaO.getD j 0:=by
 have:=qkn
 simp [qa,jab,this,hj,qaj]
theorem q19 {j:Nat} (hj:j < 64):(qif qaO).getD j 0 = toW (qaO.getD j 0):=by
 have:=qkn
 simp [qif,jab,this,hj]
def q14:St8:=qv2 q0w
def wK:List W32:=qif qaO
def qU (m:List Int):Prop:=∀ x ∈ m,0 <= x/\x < 256
def qak (d:List (List Value)) (m:List Int):Prop:=qbI d/\qU m/\qa d 72 = m.length/\stW d = qkO wK q14 m (m.length / 64)/\∀ j,j < m.length % 64->qa d (8 + j) = m.getD (64 * (m.length / 64) + j) 0
def qwc (d:List (List Value)):Prop:=∃ m,qak d m/\m.length < 1152921504606846976
def qbT (d:List (List Value)) (o l:Int):List Int:=((bI d).drop o.toNat).take l.toNat
def qdx (d:List (List Value)) (o l:Int):List Int:=(((qf d 72)).drop o.toNat).take l.toNat
def gR:Nat := 1
def gIp (r:Nat):Nat × Nat:=(2000 + gR,r)
def qeG:Ctr:={ fn := 96,nv:=0,args:=[],heap:=[],ro:=[],pre:=fun _=>True,alts:=[
 { k:=2,ret:=qfj 0,heap:=[hHp 0 1],post:=fun Z=>qak (Z 1).d [] }] }
def qii:Ctr:={ fn := 97,nv:=10,ip:=[gIp 8],args:=[qfj 0,bSl 2 3 4 5],heap:=[hHp 0 1],ro:=[bHp 2 6 7,gHp 8 9],pre:=fun Z=>qwc (Z 1).d/\0 <= (Z 3).i/\0 <= (Z 4).i/\(Z 4).i <= (Z 5).i/\(Z 4).i < 1152921504606846976/\(Z 3).i + (Z 4).i <= (Z 6).d.length/\qp (Z 6).d/\gOk Z 8 9 gR,alts:=[
 { k:=1,ret:=.tup [],heap:=[hHp 0 10],post:=fun Z=>∀ m,qak (Z 1).d m->qak (Z 10).d (m ++ qbT (Z 6).d (Z 3).i (Z 4).i) }] }
def q2e:Inv:={ key:=1,nv:=4,env:=[(0,qfj 0),(1,bSl 2 1000 1001 1002)],heap:=[hHp 0 1003],inv:=(fun Z=>0 <= (Z 1001).i/\(Z 1001).i <= (Z 4).i/\(Z 1001).i <= (Z 1002).i/\(0 < (Z 1001).i->(Z 1000).i = (Z 3).i + ((Z 4).i - (Z 1001).i))/\∀ m,qak (Z 1).d m->qak (Z 1003).d (m ++ qbT (Z 6).d (Z 3).i ((Z 4).i - (Z 1001).i))),mu:=(fun Z=>(Z 1001).i.toNat) }
def k72:List CK:=List.replicate 72 (.int .u8)
def q7c (r d:Nat):SH:=.arr r 220 k72 (.var d) (.lit 1)
def qid:Ctr:={ fn := 97,nv:=8,ip:=[gIp 6],args:=[qfj 0,.one (.vslice 2 (.lit 0) (.var 3) (.var 4) 1)],heap:=[hHp 0 1],ro:=[q7c 2 5,gHp 6 7],pre:=fun Z=>qwc (Z 1).d/\0 <= (Z 3).i/\(Z 3).i <= 72/\(Z 3).i <= (Z 4).i/\qap (Z 5).d 72/\qU (qf (Z 5).d 72)/\gOk Z 6 7 gR,alts:=[
 { k:=1,ret:=.tup [],heap:=[hHp 0 8],post:=fun Z=>∀ m,qak (Z 1).d m->qak (Z 8).d (m ++ qdx (Z 5).d 0 (Z 3).i) }] }
def qwE:Inv:={ key:=1,nv:=4,env:=[(0,qfj 0),(1,bSl 2 1000 1001 1002)],heap:=[hHp 0 1003],inv:=(fun Z=>0 <= (Z 1001).i/\(Z 1001).i <= (Z 3).i/\(Z 1001).i <= (Z 1002).i/\(0 < (Z 1001).i->(Z 1000).i = (Z 3).i - (Z 1001).i)/\∀ m,qak (Z 1).d m->qak (Z 1003).d (m ++ qdx (Z 5).d 0 ((Z 3).i - (Z 1001).i))),mu:=(fun Z=>(Z 1001).i.toNat) }
def dgV (n:Nat):SV:=.agg (qaT .u8 n 32)
def k32:List CK:=List.replicate 32 (.int .u8)
def qAc (r d:Nat):SH:=.arr r 24 k32 (.var d) (.lit 1)
def dgP (r:Nat):SV:=.one (.vptr r (.lit 0) 32 0)
def dgZ (r:Nat):SH:=.cells r 24 (List.replicate 32 (.vint .u8 (.lit 0)))
def qnU:Ctr:={ fn := 98,nv:=4,ip:=[gIp 2],args:=[qfj 0],heap:=[],ro:=[hHp 0 1,gHp 2 3],pre:=fun Z=>qwc (Z 1).d/\gOk Z 2 3 gR,alts:=[
 { k:=1,ret:=dgV 4,heap:=[],post:=fun Z=>∀ m,qak (Z 1).d m->qf (Z 4).d 32 = sha m }] }
def q9y:Inv:={ key:=9,nv:=9,env:=[(0,qfj 0),(2,dgP 1000),(3,qfj 1002),(4,.one (.vptr 1004 (.lit 0) 72 0)),(5,iv .i64 (.var 1006)),(6,iv .u64 (.var 1007)),(30,iv .i64 (.var 1008))],heap:=[dgZ 1000,hHp 1002 1003,q7c 1004 1005],inv:=(fun Z=>0 <= (Z 1008).i/\(Z 1008).i <= 8/\qap (Z 1003).d 73/\(∀ j,j < 73->qa (Z 1003).d j = qa (Z 1).d j)/\(Z 1006).i = 64 - (qa (Z 1).d 72 + 8) % 64/\(Z 1007).i = qa (Z 1).d 72 * 8/\qap (Z 1005).d 72/\(∀ j,j < 72->qa (Z 1005).d j = if j = 0 then 128 else if (Z 1006).i.toNat <= j/\j < (Z 1006).i.toNat + (Z 1008).i.toNat then (beL (qa (Z 1).d 72 * 8) 8).getD (j - (Z 1006).i.toNat) 0 else 0)),mu:=(fun Z=>(8 - (Z 1008).i).toNat) }
def q9N:Inv:={ key:=16,nv:=7,env:=[(2,dgP 1000),(3,qfj 1002),(8,dgP 1004),(48,iv .i64 (.var 1006))],heap:=[dgZ 1000,hHp 1002 1003,qAc 1004 1005],inv:=(fun Z=>0 <= (Z 1006).i/\(Z 1006).i <= 32/\qbI (Z 1003).d/\(∀ m,qak (Z 1).d m->stW (Z 1003).d = qkO wK q14 (qre m) ((qre m).length / 64))/\qap (Z 1005).d 32/\∀ j,j < (Z 1006).i.toNat->qa (Z 1005).d j = (qin (stW (Z 1003).d)).getD j 0),mu:=(fun Z=>(32 - (Z 1006).i).toNat) }
def qjL (Z:Env):Prop:=0 <= (Z 1).i/\0 <= (Z 2).i/\(Z 2).i <= (Z 3).i/\(Z 2).i < 1152921504606846976/\(Z 1).i + (Z 2).i <= (Z 4).d.length/\qp (Z 4).d
def qcG:Ctr:={ fn := 59,nv:=8,ip:=[gIp 6],args:=[bSl 0 1 2 3],heap:=[],ro:=[bHp 0 4 5,gHp 6 7],pre:=fun Z=>qjL Z/\gOk Z 6 7 gR,alts:=[
 { k:=1,ret:=dgV 8,heap:=[],post:=fun Z=>qf (Z 8).d 32 = sha (qbT (Z 4).d (Z 1).i (Z 2).i) }] }
theorem qlt {d s:List (List Value)} {n o:Nat} (h:qap d n) (ho:o + s.length <= n):qap (qav d o s) n:=by
 obtain ⟨row,rfl,hl⟩:=h
 refine ⟨_,rfl,?_⟩
 simp [qao,hl]; omega
theorem qqY {d s:List (List Value)} {n o j:Nat} (h:qap d n) (ho:o + s.length <= n) (hj:j < s.length):qa (qav d o s) (o + j) = (bI s).getD j 0:=by
 obtain ⟨row,rfl,hl⟩:=h
 have h1:(row.take o).length = o:=by rw [jba]; omega
 simp only [qav,qa,jbp,qao]
 rw [jbs,jao (by omega),h1,show o + j - o = j by omega,jau (by simpa using hj)]
 simp [bI,jab,hj,qbr]
 cases s[j] <;> rfl
theorem qix {d s:List (List Value)} {n o j:Nat} (h:qap d n) (ho:o + s.length <= n) (hj:j < o∨o + s.length <= j):qa (qav d o s) j = qa d j:=by
 obtain ⟨row,rfl,hl⟩:=h
 have h1:(row.take o).length = o:=by rw [jba]; omega
 simp only [qav,qa,jbp,qao]
 rcases hj with hj | hj
 ·rw [jbs,jau (by omega),jer hj]
 ·rw [jao (by simp; omega)]
  simp only [jal,h1,ja7,jbe]
  rw [show o + s.length + (j - (o + s.length)) = j by omega]
theorem q9V {d:List (List Value)} {n c:Nat} {v:Value} (h:qap d n) (hc:c < n):qaV d 0 c [v] = qas d c v:=by
 obtain ⟨row,rfl,hl⟩:=h
 simp only [qaV,qas,jdh,jax,ja0,List.set_cons_zero,qao,jdp]
 congr 1
 rw [List.set_eq_take_append_cons_drop,jah (by omega)]
 simp
def q6I (d:List (List Value)) (m:List Int) (q k:Nat):Prop:=∀ j,j < k->qa d (8 + j) = m.getD (64 * q + j) 0
theorem q1w {d:List (List Value)} {m:List Int} {q:Nat} (h:q6I d m q 64):qdv d = qh4 m (64 * q):=by
 unfold qdv qh4
 refine jbz fun t ht=>?_
 have ht:=jb8.1 ht
 unfold quf
 rw [h _ (by omega),h _ (by omega),h _ (by omega),h _ (by omega)]
 simp only [jco]
theorem q0O {m s:List Int} {i:Nat} (h:i < m.length):(m ++ s).getD i 0 = m.getD i 0:=by
 rw [jab,jab,jau h]
theorem qzP {m s:List Int} {i:Nat} (h:m.length <= i):(m ++ s).getD i 0 = s.getD (i - m.length) 0:=by
 rw [jab,jab,jao h]
theorem qmj {d e:List (List Value)} (h:∀ j,j < 8->qa d j = qa e j):stW d = stW e:=by
 unfold stW; rw [qo9 h]
theorem qtP {m s:List Int} (h:qU m) (h':qU s):qU (m ++ s):=fun x hx=>(jat.1 hx).elim (h x) (h' x)
structure Came (d e:List (List Value)) (s:List Int) (r:Nat):Prop where
 row:qbI e
 st:∀ j,j < 8->qa e j = qa d j
 old:∀ j,j < r->qa e (8 + j) = qa d (8 + j)
 new:∀ j,j < s.length->qa e (8 + r + j) = s.getD j 0
 size:qa e 72 = qa d 72 + s.length
theorem qtM {d e:List (List Value)} {m s:List Int} (h:qak d m) (hc:Came d e s (m.length % 64)):q6I e (m ++ s) (m.length / 64) (m.length % 64 + s.length):=fun j hj=>by
 obtain ⟨h1,h2,h3,h4,h5⟩:=h
 rcases jbu j (m.length % 64) with hr | hr
 ·rw [hc.old j hr,h5 j hr,q0O (by omega)]
 ·have:=hc.new (j - m.length % 64) (by omega)
  rw [show 8 + m.length % 64 + (j - m.length % 64) = 8 + j by omega] at this
  rw [this,qzP (by omega)]
  congr 1; omega
theorem q1F {d e:List (List Value)} {m s:List Int} (h:qak d m) (hs:qU s) (hc:Came d e s (m.length % 64)) (hr:m.length % 64 + s.length < 64):qak e (m ++ s):=by
 have hb:=qtM h hc
 obtain ⟨h1,h2,h3,h4,h5⟩:=h
 have e1:(m ++ s).length / 64 = m.length / 64:=by rw [jal]; omega
 have e2:(m ++ s).length % 64 = m.length % 64 + s.length:=by rw [jal]; omega
 refine ⟨hc.row,qtP h2 hs,by rw [hc.size,h3,jal]; omega,?_,?_⟩
 ·rw [e1,qmj hc.st,h4,qot (by omega)]
 ·rw [e1,e2]; exact hb
theorem q38 {d e f:List (List Value)} {m s:List Int} (h:qak d m) (hs:qU s) (hc:Came d e s (m.length % 64)) (hr:m.length % 64 + s.length = 64) (hf:qbI f) (hst:stW f = qjR wK (stW e) (qdv e)) (hk:qa f 72 = qa e 72):qak f (m ++ s):=by
 have hb:=qtM h hc
 rw [hr] at hb
 obtain ⟨h1,h2,h3,h4,h5⟩:=h
 have e1:(m ++ s).length / 64 = m.length / 64 + 1:=by rw [jal]; omega
 have e2:(m ++ s).length % 64 = 0:=by rw [jal]; omega
 refine ⟨hf,qtP h2 hs,by rw [hk,hc.size,h3,jal]; omega,?_,fun j hj=>by omega⟩
 rw [e1,hst,q1w hb,qmj hc.st,h4]
 show _ = qjR wK (qkO wK q14 (m ++ s) (m.length / 64)) _
 rw [qot (by omega)]
theorem qiT {d:List (List Value)} {x:List (List Value)} {r:Nat} (h:qbI d) (hx:qp x) (hr:r + x.length <= 64):Came d (qas (qav d (8 + r) x) 72 (.int .i64 (qa d 72 + x.length))) (bI x) r:=by
 obtain ⟨h1,h2,h3⟩:=h
 have hlen:(bI x).length = x.length:=Go.Proofs.bI_len
 have hone:=qlt (s:=x) (o:=8 + r) h1 (by omega)
 have hin:∀ j,j < x.length->qa (qas (qav d (8 + r) x) 72 (.int .i64 (qa d 72 + x.length))) (8 + r + j) = (bI x).getD j 0:=fun j hj=>by
  rw [qba (by omega),qqY h1 (by omega) hj]
 have hout:∀ j,j < 72->(j < 8 + r∨8 + r + x.length <= j)->qa (qas (qav d (8 + r) x) 72 (.int .i64 (qa d 72 + x.length))) j = qa d j:=fun j hj hjo=>by
  rw [qba (by omega),qix h1 (by omega) hjo]
 have hB:∀ j,j < x.length->0 <= (bI x).getD j 0/\(bI x).getD j 0 < 256:=fun j hj=>Go.Proofs.allB_list hx _ (by
  rw [jab,jac (by omega)]
  exact jbx _)
 refine ⟨⟨qe0 hone,fun j hj=>by rw [hout j (by omega) (.inl (by omega))]; exact h2 j hj,fun j hj hj2=>?_⟩,fun j hj=>hout j (by omega) (.inl (by omega)),fun j hj=>hout (8 + j) (by omega) (.inl (by omega)),fun j hj=>hin j (by omega),by rw [qer hone (by omega),hlen]⟩
 by_cases hh:j < 8 + r∨8 + r + x.length <= j
 ·rw [hout j hj2 hh]; exact h3 j hj hj2
 ·have:=hin (j - (8 + r)) (by omega)
  rw [show 8 + r + (j - (8 + r)) = j by omega] at this
  rw [this]; exact hB _ (by omega)
theorem qsm {d x:List (List Value)} {r:Nat} {n:Int} (hd:qbI d) (hr:r + x.length <= 64) (hn:n = x.length) (h0:0 <= qa d 72) (h1:qa d 72 < 4611686018427387904):qaV (qav d (8 + r) x) 0 72 [.int .i64 (qe .add .i64 (qb (qav d (8 + r) x) 0 72) n)] = qas (qav d (8 + r) x) 72 (.int .i64 (qa d 72 + x.length)):=by
 have hone:=qlt (s:=x) (o:=8 + r) hd.1 (by omega)
 rw [q9V hone (by omega),qeb,qix hd.1 (by omega) (.inr (by omega)),hn,Go.Proofs.add64 (by omega) (by omega)]
theorem q0e {L:Nat}:qe .rem .i64 (L:Int) 64 = ((L % 64:Nat):Int):=by
 show (L:Int).tmod 64 = _
 rw [jdr (by omega)]; omega
theorem qsy {d x:List (List Value)} {M:List Int} {r:Nat} (h:qak d M) (hx:qp x) (hr0:M.length % 64 = r) (hr:r + x.length < 64):qak (qas (qav d (8 + r) x) 72 (.int .i64 (qa d 72 + x.length))) (M ++ bI x):=by
 subst hr0
 exact q1F h (Go.Proofs.allB_list hx) (qiT h.1 hx (by omega)) (by rw [Go.Proofs.bI_len]; omega)
theorem qrA {d x f:List (List Value)} {M:List Int} {r:Nat} (h:qak d M) (hx:qp x) (hr0:M.length % 64 = r) (hr:r + x.length = 64) (hf:qbI f) (hst:stW f = qjR wK (stW (qas (qav d (8 + r) x) 72 (.int .i64 (qa d 72 + x.length)))) (qdv (qas (qav d (8 + r) x) 72 (.int .i64 (qa d 72 + x.length))))) (hk:qa f 72 = qa (qas (qav d (8 + r) x) 72 (.int .i64 (qa d 72 + x.length))) 72):qak f (M ++ bI x):=by
 subst hr0
 exact q38 h (Go.Proofs.allB_list hx) (qiT h.1 hx (by omega)) (by rw [Go.Proofs.bI_len]; omega) hf hst hk
theorem qkM {d:List (List Value)} {m m':List Int} (h:qak d m) (h':qak d m'):m.length = m'.length:=by
 have h1:=h.2.2.1
 have h2:=h'.2.2.1
 omega
theorem q2w {d:List (List Value)} {o a n:Nat} (h:o + a + n <= d.length):qbT d o a ++ bI ((d.drop (o + a)).take n) = qbT d o ((a + n:Nat):Int):=by
 simp only [qbT,jav,bI,jcu,jds]
 rw [jfn,jfx]
theorem q55 {d:List (List Value)} {o a:Nat} (h:o + a <= d.length):(qbT d o a).length = a:=by
 simp only [qbT,jav,bI,jba,jch,ja7]; omega
theorem q5v {d:List (List Value)} {o n:Nat} (h:qp d):qp ((d.drop o).take n):=fun row hr=>h row (List.drop_subset _ _ (List.take_subset _ _ hr))
theorem qu9 {d:List (List Value)} {n:Nat} (h:qap d n):qf d n = (d.headD []).map qaj:=by
 obtain ⟨row,rfl,hl⟩:=h
 refine jdw (by simp [qf,hl]) fun i h1 h2=>?_
 simp only [qf,ja7,List.length_range] at h1
 simp [qf,qa,show i < row.length by omega]
theorem qzA {d:List (List Value)} {o n l:Nat} (h:n <= l):(qbh d o l).take n = qbh d o n:=by
 simp only [qbh,<- jcu,jfh,jcg h]
theorem qnY {d:List (List Value)} {o n k:Nat} (h:qap d k):bI (qbh d o n) = ((qf d k).drop o).take n:=by
 rw [qu9 h,<- jds,<- jcu,bI,qbh,jdx]
 rfl
theorem qlx {d:List (List Value)} {o n k:Nat} (h:qap d k) (ho:o + n <= k):(qbh d o n).length = n:=by
 obtain ⟨row,rfl,hl⟩:=h
 simp [qbh,hl]; omega
theorem qpL {d:List (List Value)} {o n k:Nat} (h:qap d k) (ha:qU (qf d k)):qp (qbh d o n):=fun row hr=>by
 obtain ⟨v,hv,rfl⟩:=jbl.1 hr
 have h1:v ∈ d.headD []:=List.drop_subset _ _ (List.take_subset _ _ hv)
 refine ha _ ?_
 rw [qu9 h]
 exact jbl.2 ⟨v,h1,rfl⟩
theorem q39 {d:List (List Value)} {a n:Nat}:qdx d 0 a ++ ((qf d 72).drop a).take n = qdx d 0 ((a + n:Nat):Int):=by
 simp only [qdx,jav,jdh,jdv]
 rw [jfn]
theorem qt8 {d:List (List Value)} {a:Nat} (h:a <= 72):(qdx d 0 a).length = a:=by
 simp [qdx,qde]; omega
def qgJ:List Value:=q0w.map (Value.int .u32) ++ (List.replicate 64 (Value.int .u8 0) ++ [Value.int .i64 0])
theorem q17:qak [qgJ] []:=by
 refine ⟨⟨⟨_,rfl,by decide⟩,fun j hj=>?_,fun j h1 h2=>?_⟩,fun x hx=>absurd hx (by simp),by decide,by decide,fun j hj=>absurd hj (by simp)⟩
 ·exact (by decide:∀ j:Fin 8,0 <= qa [qgJ] j.val/\qa [qgJ] j.val < 4294967296) ⟨j,hj⟩
 ·exact (by decide:∀ j:Fin 72,8 <= j.val->0 <= qa [qgJ] j.val/\qa [qgJ] j.val < 256) ⟨j,h2⟩ h1
theorem qjt {d e:List (List Value)} {m:List Int} (h:qak d m) (h1:qap e 73) (h2:∀ j,j < 73->qa e j = qa d j):qak e m:=by
 obtain ⟨⟨a1,a2,a3⟩,b,c,d',f⟩:=h
 refine ⟨⟨h1,fun j hj=>by rw [h2 j (by omega)]; exact a2 j hj,fun j hj hj2=>by rw [h2 j (by omega)]; exact a3 j hj hj2⟩,b,by rw [h2 72 (by omega)]; exact c,by rw [qmj (e:=d) (fun j hj=>h2 j (by omega))]; exact d',fun j hj=>by rw [h2 _ (by omega)]; exact f j hj⟩
def qiC (f:Nat->Int):List Value:=(List.range 73).map fun j=>.int (if j < 8 then .u32 else if j < 72 then .u8 else .i64) (f j)
theorem qsR {f:Nat->Int} {j:Nat} (h:j < 73):qa [qiC f] j = f j:=by
 simp [qa,qiC,h,qaj]
theorem qsQ {f:Nat->Int}:qap [qiC f] 73:=⟨_,rfl,by simp [qiC]⟩
theorem q8A {d:List (List Value)} {n:Nat} {v:Int} (h1:1 <= n) (h2:n <= 64) (hd:qap d 72) (hc:∀ j,j < 72->qa d j = if j = 0 then 128 else if n <= j/\j < n + 8 then (beL v 8)[j - n]?.getD 0 else 0):qdx d 0 ((n + 8:Nat):Int) = 128 :: (List.replicate (n - 1) 0 ++ beL v 8):=by
 have hl:(qdx d 0 ((n + 8:Nat):Int)).length = n + 8:=qt8 (by omega)
 refine jdw (by rw [hl]; simp [qaN]; omega) fun i i1 i2=>?_
 rw [hl] at i1
 have e1:(qdx d 0 ((n + 8:Nat):Int))[i] = qa d i:=by
  simp [qdx,qf]
 rw [e1,hc i (by omega)]
 by_cases e:i = 0
 ·subst e; simp
 ·rw [jaf e,List.getElem_cons,dif_neg e]
  by_cases hn:n <= i
  ·rw [jah ⟨hn,by omega⟩,List.getElem_append_right (by simp; omega)]
   have:i - 1 - (List.replicate (n - 1) (0:Int)).length = i - n:=by simp; omega
   simp only [this]
   rw [jac (by rw [qaN]; omega)]; rfl
  ·rw [jaf (by omega),List.getElem_append_left (by simp; omega),List.getElem_replicate]
theorem qzf {v:Int} {n j:Nat} (h:j < n):(beL v n)[j]?.getD 0 = (v.fdiv (2 ^ (8 * (n - 1 - j)))) % 256:=by
 simp [beL,h]
theorem qiU {x:Int}:IntKind.u8.wrap x = x % 256:=by
 simp [IntKind.wrap,IntKind.bits,IntKind.signed]
theorem q8f {d:List (List Value)} (h:qbI d) {k:Nat} (hk:k < 8):(stL (stW d)).getD k 0 = qa d k:=by
 have h8:stL (stW d) = [ofW (toW (qa d 0)),ofW (toW (qa d 1)),ofW (toW (qa d 2)),ofW (toW (qa d 3)),ofW (toW (qa d 4)),ofW (toW (qa d 5)),ofW (toW (qa d 6)),ofW (toW (qa d 7))]:=rfl
 rw [h8,qdY (h.2.1 0 (by omega)),qdY (h.2.1 1 (by omega)),qdY (h.2.1 2 (by omega)),qdY (h.2.1 3 (by omega)),qdY (h.2.1 4 (by omega)),qdY (h.2.1 5 (by omega)),qdY (h.2.1 6 (by omega)),qdY (h.2.1 7 (by omega))]
 match k,hk with
 | 0,_=>rfl
 | 1,_=>rfl
 | 2,_=>rfl
 | 3,_=>rfl
 | 4,_=>rfl
 | 5,_=>rfl
 | 6,_=>rfl
 | 7,_=>rfl
theorem qzz {d:List (List Value)} (h:qbI d) {t:Nat} (ht:t < 32):(qin (stW d))[t]?.getD 0 = ((qa d (t / 4)).fdiv (2 ^ (24 - 8 * (t % 4)))) % 256:=by
 rw [<- q8f h (by omega)]
 simp [qin,ht]
theorem qyZ {x:Int} {n:Nat} (hn:n <= 64):qe .shr .u64 x (n:Int) = x.fdiv (2 ^ n):=by
 show x.fdiv (2 ^ (min (n:Int).toNat 64)) = _
 rw [jav,jcg hn]
theorem q78 {x:Int} {n:Nat} (hn:n <= 32):qe .shr .u32 x (n:Int) = x.fdiv (2 ^ n):=by
 show x.fdiv (2 ^ (min (n:Int).toNat 32)) = _
 rw [jav,jcg hn]
theorem q8z {d:List (List Value)} {n:Nat} {l:List Int} (hl:l.length = n) (h:∀ j,j < n->qa d j = l[j]?.getD 0):qf d n = l:=by
 refine jdw (by rw [qde,hl]) fun i h1 h2=>?_
 rw [qde] at h1
 have:=h i h1
 rw [jac h2] at this
 simpa [qf] using this
def qeo (f:Nat->Int):List Value:=(List.range 32).map fun j=>.int .u8 (f j)
theorem qnC {f:Nat->Int} {j:Nat} (h:j < 32):qa [qeo f] j = f j:=by
 simp [qa,qeo,h,qaj]
theorem q4Q {d:List (List Value)} {n:Nat} {x:Int} (h:x ∈ qf d n):∃ j,j < n/\qa d j = x:=by
 obtain ⟨j,hj,e⟩:=jbl.1 h
 exact ⟨j,jb8.1 hj,e⟩
theorem qBk {t:Nat} (h:t < 32):qe .quo .i64 (t:Int) 4 = ((t / 4:Nat):Int):=by
 show IntKind.i64.wrap ((t:Int).tdiv 4) = _
 rw [jeg (by omega),Go.Proofs.wrap64 (by omega) (by omega)]; omega
theorem qAX {t:Nat}:qe .rem .i64 (t:Int) 4 = ((t % 4:Nat):Int):=by
 show (t:Int).tmod 4 = _
 rw [jdr (by omega)]; omega
end Go.Eng
set_option maxRecDepth 100000
namespace Go.Eng
open Go
def qcc (f:Nat->Int) (len n:Nat):List Int:=(List.range len).map fun i=>if i < n then f i else 0
def qa3 (n m:Nat):List Int:=(List.range (n * n)).map fun t=>if t / n = t % n/\t / n < m then 1 else 0
def qmG (cols:Nat) (i:Nat):Int:=qgS (i / cols:Nat) (i % cols:Nat)
def qbu (rows cols:Nat):List Int:=qcc (qmG cols) (rows * cols) (rows * cols)
def qcg (a b:List Int) (ra ca cb:Nat):Nat->List Int
 | 0=>List.replicate (ra * cb) 0
 | t + 1=>qE (qcg a b ra ca cb t) (t / ca * cb) (seg b (t % ca * cb) cb) (a.getD t 0)
def qmV (a b:List Int) (ra ca cb:Nat):List Int:=qcg a b ra ca cb (ra * ca)
def qcE (a:List Int) (ca c:Nat):Nat->Nat->Nat
 | p,0=>p
 | p,n + 1=>if a.getD (p * ca + c) 0 = 0 then qcE a ca c (p + 1) n else p
def qa8 (ca cb rank c:Nat) (a b:List Int):Nat->List Int × List Int
 | 0=>(a,b)
 | i + 1 =>
  let s:=qa8 ca cb rank c a b i
  if i = rank then s else
   (qE s.1 (i * ca) (seg s.1 (rank * ca) ca) (s.1.getD (i * ca + c) 0),qE s.2 (i * cb) (seg s.2 (rank * cb) cb) (s.1.getD (i * ca + c) 0))
def qb5 (ca cb rank p:Nat) (a b:List Int):List Int × List Int :=
 if p = rank then (a,b) else (qE a (rank * ca) (seg a (p * ca) ca) 1,qE b (rank * cb) (seg b (p * cb) cb) 1)
def qgB (ca cb rank c:Nat) (a b:List Int):List Int × List Int :=
 (qbj a (rank * ca) ca (qf6 (a.getD (rank * ca + c) 0)),qbj b (rank * cb) cb (qf6 (a.getD (rank * ca + c) 0)))
def qfG (rows ca cb c:Nat) (s:List Int × List Int × Nat):List Int × List Int :=
 let s1:=qb5 ca cb s.2.2 (qcE s.1 ca c s.2.2 (rows - s.2.2)) s.1 s.2.1
 qgB ca cb s.2.2 c s1.1 s1.2
def qcz (rows ca cb c:Nat) (s:List Int × List Int × Nat):List Int × List Int × Nat :=
 if rows <= s.2.2 then s else
  if qcE s.1 ca c s.2.2 (rows - s.2.2) = rows then s else
   let s3:=qa8 ca cb s.2.2 c (qfG rows ca cb c s).1 (qfG rows ca cb c s).2 rows
   (s3.1,s3.2,s.2.2 + 1)
def qbQ (rows ca cb:Nat) (a b:List Int):Nat->List Int × List Int × Nat
 | 0=>(a,b,0)
 | c + 1=>qcz rows ca cb c (qbQ rows ca cb a b c)
def qoo (a b:T) (r l c:Nat):Bool × List T:=(true,[.vint .i64 a,.vint .i64 b,.vslice r (.lit 0) (.var l) (.var c) 1])
def qoa:Bool × List T:=(true,[.vint .i64 (.lit 0),.vint .i64 (.lit 0),.vnils])
def qbb (t:T):Bool × List T:=(false,[.vint .i64 t])
def qgk:Ctr:={ fn := 166,nv:=1,args:=[iv .i64 (.var 0)],heap:=[],ro:=[],pre:=fun _=>True,alts:=[
 { k:=0,ret:=.tup [qoa,qbb (.lit 2)],heap:=[],post:=fun Z=>(Z 0).i < 1∨255 < (Z 0).i },
 { k:=4,ret:=.tup [qoo (.var 0) (.var 0) 1 2 3,qbb (.lit 0)],heap:=[bHp 1 4 3],post:=fun Z=>1 <= (Z 0).i/\(Z 0).i <= 255/\qd3 (Z 0).i (Z 0).i (Z 2).i (Z 3).i (Z 4).d/\(Z 2).i = (Z 4).d.length/\bI (Z 4).d = qa3 (Z 0).i.toNat (Z 0).i.toNat }] }
def qve:Inv:={ key:=5,nv:=7,env:=[(0,iv .i64 (.var 0)),(2,.one (.vptr 1006 (.lit 0) 3 0)),(4,.one (.vptr 1005 (.lit 0) 3 0)),(16,iv .i64 (.var 0)),(17,iv .i64 (.var 1000))],heap:=[.cells 1005 200 [.vint .i64 (.var 0),.vint .i64 (.var 0),.vslice 1001 (.lit 0) (.var 1002) (.var 1003) 1],.cells 1006 200 [.vint .i64 (.lit 0),.vint .i64 (.lit 0),.vnils],bHp 1001 1004 1003],inv:=(fun Z=>1 <= (Z 0).i/\(Z 0).i <= 255/\0 <= (Z 1000).i/\(Z 1000).i <= (Z 0).i/\qd3 (Z 0).i (Z 0).i (Z 1002).i (Z 1003).i (Z 1004).d/\(Z 1002).i = (Z 1004).d.length/\bI (Z 1004).d = qa3 (Z 0).i.toNat (Z 1000).i.toNat),mu:=(fun Z=>((Z 0).i - (Z 1000).i).toNat) }
def qcw (r c:Int):Prop:=r < 1∨255 < r∨c < 1∨255 < c
def qeY:Ctr:={ fn := 150,nv:=4,args:=[qa9,iv .i64 (.var 2),iv .i64 (.var 3)],heap:=[fHp 1],ro:=[],pre:=fun Z=>qk (Z 1).d,alts:=[
 { k:=1,ret:=.tup [qoa,qbb (.lit 2)],heap:=[fHp 4],post:=fun Z=>qk (Z 4).d/\qcw (Z 2).i (Z 3).i },
 { k:=5,ret:=.tup [qoo (.var 2) (.var 3) 4 5 6,qbb (.lit 0)],heap:=[fHp 7,bHp 4 8 6],post:=fun Z=>qk (Z 7).d/\¬ qcw (Z 2).i (Z 3).i/\qd3 (Z 2).i (Z 3).i (Z 5).i (Z 6).i (Z 8).d/\(Z 5).i = (Z 8).d.length/\bI (Z 8).d = qbu (Z 2).i.toNat (Z 3).i.toNat }] }
def q32:List SH:=[fHp 1006,.cells 1007 200 [.vint .i64 (.lit 0),.vint .i64 (.lit 0),.vnils],.cells 1005 200 [.vint .i64 (.var 2),.vint .i64 (.var 3),.vslice 1001 (.lit 0) (.var 1002) (.var 1003) 1],bHp 1001 1004 1003]
def qqD (Z:Env) (n:Int):Prop:=¬ qcw (Z 2).i (Z 3).i/\qk (Z 1006).d/\qd3 (Z 2).i (Z 3).i (Z 1002).i (Z 1003).i (Z 1004).d/\(Z 1002).i = (Z 1004).d.length/\bI (Z 1004).d = qcc (qmG (Z 3).i.toNat) ((Z 2).i.toNat * (Z 3).i.toNat) n.toNat
def qsC:Inv:={ key:=7,nv:=8,env:=[(0,qa9),(1,iv .i64 (.var 2)),(2,iv .i64 (.var 3)),(6,.one (.vptr 1007 (.lit 0) 3 0)),(8,.one (.vptr 1005 (.lit 0) 3 0)),(32,iv .i64 (.var 2)),(33,iv .i64 (.var 1000))],heap:=q32,inv:=(fun Z=>0 <= (Z 1000).i/\(Z 1000).i <= (Z 2).i/\qqD Z ((Z 1000).i * (Z 3).i)),mu:=(fun Z=>((Z 2).i - (Z 1000).i).toNat) }
def qsu:Inv:={ key:=10,nv:=9,env:=[(0,qa9),(1,iv .i64 (.var 2)),(2,iv .i64 (.var 3)),(6,.one (.vptr 1007 (.lit 0) 3 0)),(8,.one (.vptr 1005 (.lit 0) 3 0)),(32,iv .i64 (.var 2)),(33,iv .i64 (.var 1000)),(9,iv .i64 (.var 1000)),(36,iv .i64 (.var 3)),(37,iv .i64 (.var 1008))],heap:=q32,inv:=(fun Z=>0 <= (Z 1000).i/\(Z 1000).i < (Z 2).i/\0 <= (Z 1008).i/\(Z 1008).i <= (Z 3).i/\qqD Z ((Z 1000).i * (Z 3).i + (Z 1008).i)/\(Z 1000).i = (Z 10).i),mu:=(fun Z=>((Z 3).i - (Z 1008).i).toNat) }
def q54:SV:=qnS 2 3 4 5 6
def qAh:SV:=qnS 9 10 11 12 13
def qaB (r c l:Int):Prop:=1 <= r/\r <= 255/\1 <= c/\c <= 255/\l = r * c
def qjD:Ctr:={ fn := 151,nv:=16,args:=[qa9,q54,qAh],heap:=[fHp 1],ro:=[bHp 4 7 8,bHp 11 14 15],pre:=fun Z=>qk (Z 1).d/\0 <= (Z 5).i/\(Z 5).i <= (Z 6).i/\(Z 5).i <= (Z 7).d.length/\qp (Z 7).d/\0 <= (Z 12).i/\(Z 12).i <= (Z 13).i/\(Z 12).i <= (Z 14).d.length/\qp (Z 14).d,alts:=[
 { k:=1,ret:=.tup [qoa,qbb (.lit 2)],heap:=[fHp 16],post:=fun Z=>qk (Z 16).d/\¬ (qaB (Z 2).i (Z 3).i (Z 5).i/\qaB (Z 9).i (Z 10).i (Z 12).i) },
 { k:=1,ret:=.tup [qoa,qbb (.lit 10)],heap:=[fHp 16],post:=fun Z=>qk (Z 16).d/\qaB (Z 2).i (Z 3).i (Z 5).i/\qaB (Z 9).i (Z 10).i (Z 12).i/\(Z 3).i ≠ (Z 9).i },
 { k:=5,ret:=.tup [qoo (.var 2) (.var 10) 16 17 18,qbb (.lit 0)],heap:=[fHp 19,bHp 16 20 18],post:=fun Z=>qk (Z 19).d/\qaB (Z 2).i (Z 3).i (Z 5).i/\qaB (Z 9).i (Z 10).i (Z 12).i/\(Z 3).i = (Z 9).i/\qd3 (Z 2).i (Z 10).i (Z 17).i (Z 18).i (Z 20).d/\(Z 17).i = (Z 20).d.length/\bI (Z 20).d = qmV ((bI (Z 7).d).take (Z 5).i.toNat) ((bI (Z 14).d).take (Z 12).i.toNat) (Z 2).i.toNat (Z 3).i.toNat (Z 10).i.toNat }] }
def q0H (r:Nat):SH:=.cells r 200 [.vint .i64 (.lit 0),.vint .i64 (.lit 0),.vnils]
def qio (r a b s l c:Nat):SH:=.cells r 200 [.vint .i64 (.var a),.vint .i64 (.var b),.vslice s (.lit 0) (.var l) (.var c) 1]
def q2P:List SH:=[fHp 1006,q0H 1009,qio 1007 2 3 4 5 6,qio 1008 9 10 11 12 13,qio 1005 2 10 1001 1002 1003,bHp 1001 1004 1003]
def qyn:List (Nat × SV):=[(0,qa9),(6,.one (.vptr 1009 (.lit 0) 3 0)),(4,.one (.vptr 1007 (.lit 0) 3 0)),(5,.one (.vptr 1008 (.lit 0) 3 0)),(8,.one (.vptr 1005 (.lit 0) 3 0)),(36,iv .i64 (.var 2)),(37,iv .i64 (.var 1000))]
def qru (Z:Env) (t:Int):Prop:=qaB (Z 2).i (Z 3).i (Z 5).i/\qaB (Z 9).i (Z 10).i (Z 12).i/\(Z 3).i = (Z 9).i/\qk (Z 1006).d/\qd3 (Z 2).i (Z 10).i (Z 1002).i (Z 1003).i (Z 1004).d/\(Z 1002).i = (Z 1004).d.length/\bI (Z 1004).d = qcg ((bI (Z 7).d).take (Z 5).i.toNat) ((bI (Z 14).d).take (Z 12).i.toNat) (Z 2).i.toNat (Z 3).i.toNat (Z 10).i.toNat t.toNat
def qzm:Inv:={ key:=9,nv:=10,env:=qyn,heap:=q2P,inv:=(fun Z=>0 <= (Z 1000).i/\(Z 1000).i <= (Z 2).i/\qru Z ((Z 1000).i * (Z 3).i)),mu:=(fun Z=>((Z 2).i - (Z 1000).i).toNat) }
def qyS:Inv:={ key:=12,nv:=14,env:=qyn ++ [(9,iv .i64 (.var 1000)),(42,bSl 4 1011 1012 1013),(43,iv .i64 (.var 1012)),(44,iv .i64 (.var 1010))],heap:=q2P,inv:=(fun Z=>0 <= (Z 1000).i/\(Z 1000).i < (Z 2).i/\0 <= (Z 1010).i/\(Z 1010).i <= (Z 3).i/\(Z 1011).i = (Z 1000).i * (Z 3).i/\(Z 1012).i = (Z 3).i/\qru Z ((Z 1000).i * (Z 3).i + (Z 1010).i)/\(Z 1000).i = (Z 26).i),mu:=(fun Z=>((Z 3).i - (Z 1010).i).toNat) }
def qzQ:Nat := 223
def wrA:SV:=.one (.vptr 0 (.lit 0) 3 0)
def qe1 (l f r n c:Nat):SH:=.cells 0 qzQ [.vint .i64 (.var l),.vbool (.var f),.vslice r (.lit 0) (.var n) (.var c) 1]
def wOk (lim:Int) (n c:Int) (d:List (List Value)):Prop:=0 <= lim/\lim < 9223372036854775808/\n = d.length/\n <= lim/\qp d
def qgt (lim:Int) (f:Bool) (m:List Int) (k:Int):Bool:=f || decide (lim - m.length < k)
def qfm (lim:Int) (f:Bool) (m s:List Int):Bool × List Int:=if qgt lim f m s.length then (true,m) else (false,m ++ s)
def qbR (l f r n c d:Nat):List SH:=[qe1 l f r n c,bHp r d c]
def qgZ:Ctr:={ fn := 132,nv:=8,args:=[wrA,iv .i64 (.var 7)],heap:=qbR 1 2 3 4 5 6,ro:=[],pre:=fun Z=>wOk (Z 1).i (Z 4).i (Z 5).i (Z 6).d/\0 <= (Z 7).i/\(Z 7).i < 1152921504606846976,alts:=[
 { k:=2,ret:=.one (.vbool (.var 8)),heap:=qbR 1 9 3 4 5 6,post:=fun Z=>(Z 9).b = qgt (Z 1).i (Z 2).b (bI (Z 6).d) (Z 7).i/\(Z 8).b = !(Z 9).b }] }
def qgs (Z:Env) (n:Nat) (s:List Int):Prop:=wOk (Z 1).i (Z (n + 2)).i (Z (n + 3)).i (Z (n + 4)).d/\((Z n).b,bI (Z (n + 4)).d) = qfm (Z 1).i (Z 2).b (bI (Z 6).d) s
def qfX:Ctr:={ fn := 131,nv:=9,args:=[wrA,.one (.vint .u64 (.var 7)),iv .i64 (.var 8)],heap:=qbR 1 2 3 4 5 6,ro:=[],pre:=fun Z=>wOk (Z 1).i (Z 4).i (Z 5).i (Z 6).d/\(Z 4).i + 8 <= 140737488355328/\0 <= (Z 8).i/\(Z 8).i <= 8/\0 <= (Z 7).i/\(Z 7).i < 18446744073709551616,alts:=[
 { k:=5,ret:=.tup [],heap:=qbR 1 9 10 11 12 13,post:=fun Z=>qgs Z 9 (beL (Z 7).i (Z 8).i.toNat) }] }
def qza:Inv:={ key:=2,nv:=5,env:=[(0,wrA),(1,.one (.vint .u64 (.var 7))),(2,iv .i64 (.var 8)),(6,iv .i64 (.var 1004))],heap:=[.cells 0 qzQ [.vint .i64 (.var 1),.vbool (.bl false),.vslice 1000 (.lit 0) (.var 1001) (.var 1002) 1],bHp 1000 1003 1002],inv:=(fun Z=>-1 <= (Z 1004).i/\(Z 1004).i < (Z 8).i/\(Z 1001).i = (Z 1003).d.length/\(Z 2).b = false/\(Z 8).i <= (Z 1).i - (Z 4).i/\qp (Z 1003).d/\bI (Z 1003).d = bI (Z 6).d ++ (beL (Z 7).i (Z 8).i.toNat).take ((Z 8).i - 1 - (Z 1004).i).toNat),mu:=(fun Z=>((Z 1004).i + 1).toNat) }
def qov (fn:Nat) (k:IntKind) (n:Nat):Ctr:={ fn:=fn,nv:=8,args:=[wrA,.one (.vint k (.var 7))],heap:=qbR 1 2 3 4 5 6,ro:=[],pre:=fun Z=>wOk (Z 1).i (Z 4).i (Z 5).i (Z 6).d/\(Z 4).i + 8 <= 140737488355328/\0 <= (Z 7).i/\(Z 7).i < 256 ^ n,alts:=[
 { k:=5,ret:=.tup [],heap:=qbR 1 8 9 10 11 12,post:=fun Z=>qgs Z 8 (beL (Z 7).i n) }] }
def u8C:Ctr:=qov 106 .u8 1
def qui:Ctr:=qov 105 .u16 2
def qfe:Ctr:={ fn := 104,nv:=1,args:=[iv .i64 (.var 0)],heap:=[],ro:=[],pre:=fun _=>True,alts:=[
 { k:=4,ret:=.one (.vptr 1 (.lit 0) 3 0),heap:=[.cells 1 qzQ [.vint .i64 (.var 2),.vbool (.bl false),.vnils]],post:=fun Z=>(Z 2).i = max 0 (Z 0).i }] }
def qmc:Ctr:={ fn := 107,nv:=9,args:=[wrA,.one (.vslice 7 (.lit 0) (.lit 32) (.lit 32) 1)],heap:=qbR 1 2 3 4 5 6,ro:=[qAc 7 8],pre:=fun Z=>wOk (Z 1).i (Z 4).i (Z 5).i (Z 6).d/\(Z 4).i + 32 <= 140737488355328/\qap (Z 8).d 32/\qU (qf (Z 8).d 32),alts:=[
 { k:=5,ret:=.tup [],heap:=qbR 1 9 10 11 12 13,post:=fun Z=>qgs Z 9 (qf (Z 8).d 32) }] }
def quk:List CK:=List.replicate 4 (.int .i64) ++ (List.replicate 32 (.int .u8) ++ [.any])
def qA4 (r d:Nat):SH:=.arr r 27 quk (.var d) (.lit 1)
def qpY:Ctr:={ fn := 107,nv:=9,args:=[wrA,.one (.vslice 7 (.lit 4) (.lit 32) (.lit 32) 1)],heap:=qbR 1 2 3 4 5 6,ro:=[qA4 7 8],pre:=fun Z=>wOk (Z 1).i (Z 4).i (Z 5).i (Z 6).d/\(Z 4).i + 32 <= 140737488355328/\qap (Z 8).d 37/\qU ((qf (Z 8).d 36).drop 4),alts:=[
 { k:=5,ret:=.tup [],heap:=qbR 1 9 10 11 12 13,post:=fun Z=>qgs Z 9 ((qf (Z 8).d 36).drop 4) }] }
def ql5:Ctr:={ fn := 108,nv:=7,args:=[wrA],heap:=[],ro:=qbR 1 2 3 4 5 6,pre:=fun Z=>wOk (Z 1).i (Z 4).i (Z 5).i (Z 6).d/\(Z 4).i <= 140737488355328,alts:=[
 { k:=0,ret:=.tup [(false,[.vnils]),qbb (.lit 3)],heap:=[],post:=fun Z=>(Z 2).b = true },
 { k:=4,ret:=.tup [(false,[.vslice 7 (.lit 0) (.var 4) (.var 8) 1]),qbb (.lit 0)],heap:=[bHp 7 9 8],post:=fun Z=>(Z 2).b = false/\(Z 9).d = (Z 6).d }] }
def qfW:Ctr:={ fn := 91,nv:=5,args:=[.one (.vslice 0 (.lit 0) (.var 1) (.var 2) 1)],heap:=[],ro:=[bHp 0 3 4],pre:=fun Z=>0 <= (Z 1).i/\(Z 1).i = (Z 3).d.length/\(Z 1).i <= 140737488355328,alts:=[
 { k:=3,ret:=.one (.vslice 5 (.lit 0) (.var 1) (.var 6) 1),heap:=[bHp 5 7 6],post:=fun Z=>(Z 7).d = (Z 3).d }] }
def qqS:Ctr:={ qgk with pre:=fun Z=>1 <= (Z 0).i/\(Z 0).i <= 255,alts:=qgk.alts.drop 1 }
def qnX:Ctr:={ qeY with pre:=fun Z=>qk (Z 1).d/\¬ qcw (Z 2).i (Z 3).i,alts:=qeY.alts.drop 1 }
def qro:Ctr:={ qhQ with alts:=[{ k:=3,ret:=.agg [.vint .i64 (.var 0),.vint .i64 (.var 1),.vslice 7 (.lit 0) (.var 3) (.var 8) 1],heap:=[bHp 7 9 8],post:=fun Z=>(Z 9).d = (Z 5).d.take (Z 3).i.toNat/\((Z 9).d.length:Int) <= (Z 8).i }] }
def qK (r c l cap:Int) (d:qd):Prop:=qd3 r c l cap d/\l = d.length
def qjQ:Ctr:={ fn := 167,nv:=16,args:=[qa9,q54,qAh],heap:=[fHp 1,bHp 4 7 8,bHp 11 14 15],ro:=[],pre:=fun Z=>qk (Z 1).d/\qK (Z 2).i (Z 3).i (Z 5).i (Z 6).i (Z 7).d/\qK (Z 9).i (Z 10).i (Z 12).i (Z 13).i (Z 14).d/\(Z 9).i = (Z 2).i,alts:=[
 { k:=4,ret:=iv .i64 (.var 16),heap:=[fHp 17,bHp 4 18 8,bHp 11 19 15],post:=fun Z=>qk (Z 17).d/\qK (Z 2).i (Z 3).i (Z 5).i (Z 6).i (Z 18).d/\qK (Z 9).i (Z 10).i (Z 12).i (Z 13).i (Z 19).d/\0 <= (Z 16).i/\(Z 16).i <= (Z 2).i/\(bI (Z 18).d,bI (Z 19).d,(Z 16).i.toNat) = qbQ (Z 2).i.toNat (Z 3).i.toNat (Z 10).i.toNat (bI (Z 7).d) (bI (Z 14).d) (Z 3).i.toNat }] }
def quv:List SH:=[fHp 1002,qio 1003 2 3 4 5 6,qio 1004 9 10 11 12 13,bHp 4 1005 8,bHp 11 1006 15]
def qq0:List (Nat × SV):=[(0,qa9),(4,.one (.vptr 1003 (.lit 0) 3 0)),(5,.one (.vptr 1004 (.lit 0) 3 0)),(7,iv .i64 (.var 1000)),(8,iv .i64 (.var 1001))]
def q7e (r ca cb l1 c1 l2 c2 rank c:Int) (f da db:qd):Prop:=qk f/\qK r ca l1 c1 da/\qK r cb l2 c2 db/\0 <= rank/\rank <= r/\0 <= c/\c <= ca
def qcn (r ca cb l1 c1 l2 c2 rank c:Int) (f da db a0 b0:qd):Prop:=q7e r ca cb l1 c1 l2 c2 rank c f da db/\(bI da,bI db,rank.toNat) = qbQ r.toNat ca.toNat cb.toNat (bI a0) (bI b0) c.toNat
def qxY:Inv:={ key:=3,nv:=7,env:=qq0,heap:=quv,inv:=(fun Z=>qcn (Z 2).i (Z 3).i (Z 10).i (Z 5).i (Z 6).i (Z 12).i (Z 13).i (Z 1000).i (Z 1001).i (Z 1002).d (Z 1005).d (Z 1006).d (Z 7).d (Z 14).d),mu:=(fun Z=>((Z 3).i - (Z 1001).i).toNat) }
def qeh (r ca cb l1 c1 l2 c2 rank c p:Int) (f da db a0 b0:qd):Prop:=qcn r ca cb l1 c1 l2 c2 rank c f da db a0 b0/\rank < r/\c < ca/\rank <= p/\p <= r/\qcE (bI da) ca.toNat c.toNat p.toNat (r.toNat - p.toNat) = qcE (bI da) ca.toNat c.toNat rank.toNat (r.toNat - rank.toNat)
def qy8:Inv:={ key:=6,nv:=8,env:=qq0 ++ [(9,iv .i64 (.var 1007))],heap:=quv,inv:=(fun Z=>qeh (Z 2).i (Z 3).i (Z 10).i (Z 5).i (Z 6).i (Z 12).i (Z 13).i (Z 1000).i (Z 1001).i (Z 1007).i (Z 1002).d (Z 1005).d (Z 1006).d (Z 7).d (Z 14).d/\(Z 1001).i = (Z 19).i),mu:=(fun Z=>((Z 2).i - (Z 1007).i).toNat) }
def qc8 (r ca cb l1 c1 l2 c2 rank c i:Int) (f da db a0 b0:qd):Prop :=
 q7e r ca cb l1 c1 l2 c2 rank c f da db/\rank < r/\c < ca/\0 <= i/\i <= r/\∃ s,s = qbQ r.toNat ca.toNat cb.toNat (bI a0) (bI b0) c.toNat/\s.2.2 = rank.toNat /\
  qcE s.1 ca.toNat c.toNat rank.toNat (r.toNat - rank.toNat) ≠ r.toNat /\
  (bI da,bI db) = qa8 ca.toNat cb.toNat rank.toNat c.toNat (qfG r.toNat ca.toNat cb.toNat c.toNat s).1 (qfG r.toNat ca.toNat cb.toNat c.toNat s).2 i.toNat
def qxX:Inv:={ key:=16,nv:=8,env:=qq0 ++ [(97,iv .i64 (.var 2)),(98,iv .i64 (.var 1007))],heap:=quv,inv:=(fun Z=>qc8 (Z 2).i (Z 3).i (Z 10).i (Z 5).i (Z 6).i (Z 12).i (Z 13).i (Z 1000).i (Z 1001).i (Z 1007).i (Z 1002).d (Z 1005).d (Z 1006).d (Z 7).d (Z 14).d/\(Z 1001).i = (Z 19).i),mu:=(fun Z=>((Z 2).i - (Z 1007).i).toNat) }
def qdM (m:List Int) (n:Nat):List Int × List Int × Nat:=qbQ n n n m (qa3 n n) n
def qbA:Ctr:={ fn := 134,nv:=9,args:=[qa9,q54],heap:=[fHp 1],ro:=[bHp 4 7 8],pre:=fun Z=>qk (Z 1).d/\0 <= (Z 5).i/\(Z 5).i <= (Z 6).i/\(Z 5).i <= (Z 7).d.length/\qp (Z 7).d,alts:=[
 { k:=2,ret:=.tup [qoa,qbb (.var 9)],heap:=[fHp 10],post:=fun Z=>qk (Z 10).d/\((¬ qaB (Z 2).i (Z 3).i (Z 5).i/\(Z 9).i = 2)∨(qaB (Z 2).i (Z 3).i (Z 5).i/\(Z 2).i ≠ (Z 3).i/\(Z 9).i = 10)∨(qaB (Z 2).i (Z 3).i (Z 5).i/\(Z 2).i = (Z 3).i/\(qdM ((bI (Z 7).d).take (Z 5).i.toNat) (Z 2).i.toNat).2.2 < (Z 2).i.toNat/\(Z 9).i = 11)) },
 { k:=5,ret:=.tup [qoo (.var 2) (.var 2) 9 10 11,qbb (.lit 0)],heap:=[fHp 12,bHp 9 13 11],post:=fun Z=>qk (Z 12).d/\qaB (Z 2).i (Z 3).i (Z 5).i/\(Z 2).i = (Z 3).i/\qK (Z 2).i (Z 2).i (Z 10).i (Z 11).i (Z 13).d/\(qdM ((bI (Z 7).d).take (Z 5).i.toNat) (Z 2).i.toNat).2.2 = (Z 2).i.toNat/\bI (Z 13).d = (qdM ((bI (Z 7).d).take (Z 5).i.toNat) (Z 2).i.toNat).2.1 }] }
def qbN (k total:Nat):List Int × List Int × Nat:=qdM ((qbu total k).take (k * k)) k
def qbm (k total:Nat):List Int:=qmV (qbu total k) (qbN k total).2.1 total k k
def qfk:Ctr:={ fn := 122,nv:=4,args:=[qa9,iv .i64 (.var 2),iv .i64 (.var 3)],heap:=[fHp 1],ro:=[],pre:=fun Z=>qk (Z 1).d,alts:=[
 { k:=1,ret:=.tup [qoa,qbb (.lit 2)],heap:=[fHp 4],post:=fun Z=>qk (Z 4).d/\(qN (Z 2).i (Z 3).i = true->(qbN (Z 2).i.toNat (Z 3).i.toNat).2.2 < (Z 2).i.toNat) },
 { k:=6,ret:=.tup [qoo (.var 3) (.var 2) 4 5 6,qbb (.lit 0)],heap:=[fHp 7,bHp 4 8 6,.abs 9 2],post:=fun Z=>qk (Z 7).d/\qN (Z 2).i (Z 3).i = true/\qK (Z 3).i (Z 2).i (Z 5).i (Z 6).i (Z 8).d/\(qbN (Z 2).i.toNat (Z 3).i.toNat).2.2 = (Z 2).i.toNat/\bI (Z 8).d = qbm (Z 2).i.toNat (Z 3).i.toNat }] }
def q1p:Ctr:={ qfk with pre:=fun Z=>qk (Z 1).d/\qN (Z 2).i (Z 3).i = true/\(qbN (Z 2).i.toNat (Z 3).i.toNat).2.2 = (Z 2).i.toNat,alts:=qfk.alts.drop 1 }
def qd1 (data:List Int) (n:Nat):List Int:=data ++ List.replicate (n - data.length) 0
def ql (k len:Nat):Nat:=(len + k - 1) / k
def qbG (g full:List Int) (k l i:Nat):Nat->List Int
 | 0=>List.replicate l 0
 | j + 1=>qE (qbG g full k l i j) 0 (seg full (j * l) l) (g.getD (i * k + j) 0)
def qag (k total:Nat) (data:List Int) (i:Nat):List Int :=
 qbG (qbm k total) (qd1 data (k * ql k data.length)) k (ql k data.length) i k
def qj3:List CK:=[.int .i64,.any]
def qe9 (h:Hp) (D:qd) (n:Nat) (f:Nat->List Int):Prop:=∀ j,j < n->∃ v d,D[j]? = some [.int .i64 j,v]/\Rd h kB v d/\bI d = f j/\qp d
def qgL:Ctr:={ fn := 87,nv:=9,args:=[qa9,iv .i64 (.var 2),iv .i64 (.var 3),.one (.vslice 4 (.lit 0) (.var 5) (.var 6) 1)],heap:=[fHp 1],ro:=[bHp 4 7 8],pre:=fun Z=>qk (Z 1).d/\(Z 5).i = (Z 7).d.length/\qp (Z 7).d/\(qN (Z 2).i (Z 3).i = true->(qbN (Z 2).i.toNat (Z 3).i.toNat).2.2 = (Z 2).i.toNat),alts:=[
 { k:=2,ret:=.tup [(false,[.vnils]),qbb (.var 9)],heap:=[fHp 10],post:=fun Z=>qk (Z 10).d/\((qN (Z 2).i (Z 3).i = false/\(Z 9).i = 2)∨(qN (Z 2).i (Z 3).i = true/\8192 < (Z 5).i/\(Z 9).i = 3)) },
 { k:=5,ret:=.tup [(false,[.vslice 9 (.lit 0) (.var 3) (.var 10) 2]),qbb (.lit 0)],heap:=[fHp 11,.arr 9 86 qj3 (.var 12) (.var 10),.abs 13 2],post:=fun Z=>qk (Z 11).d/\qN (Z 2).i (Z 3).i = true/\(Z 5).i <= 8192/\(Z 12).d.length = (Z 3).i.toNat/\qe9 (Z 13).h (Z 12).d (Z 3).i.toNat (qag (Z 2).i.toNat (Z 3).i.toNat (bI (Z 7).d)) }] }
def q6G:List SH:=[fHp 1008,qio 1004 3 2 1009 1010 1011,bHp 1009 1012 1011,bHp 1001 1013 1003,.arr 1005 86 qj3 (.var 1014) (.var 1006)]
def q2q:List (Nat × SV):=[(0,qa9),(10,iv .i64 (.var 1000)),(12,.one (.vslice 1001 (.lit 0) (.var 1002) (.var 1003) 1)),(13,.one (.vptr 1004 (.lit 0) 3 0)),(15,.one (.vslice 1005 (.lit 0) (.var 3) (.var 1006) 2)),(53,iv .i64 (.var 3)),(54,iv .i64 (.var 1007))]
def qnW (k total len l lf cf lg cg i:Int) (f dg df D data:qd):Prop :=
 qk f/\qN k total = true/\len <= 8192/\len = data.length/\qp data/\l = (ql k.toNat data.length:Nat)/\l <= 8192/\lf = k * l/\lf = df.length/\qp df/\bI df = qd1 (bI data) (k.toNat * l.toNat) /\
  qK total k lg cg dg/\bI dg = qbm k.toNat total.toNat/\D.length = total.toNat/\(∀ row ∈ D,row.length = 2)/\0 <= i/\i <= total
def qrY:Inv:={ key:=13,nv:=16,env:=q2q,heap:=q6G ++ [.abs 1015 2],inv:=(fun Z=>qnW (Z 2).i (Z 3).i (Z 5).i (Z 1000).i (Z 1002).i (Z 1003).i (Z 1010).i (Z 1011).i (Z 1007).i (Z 1008).d (Z 1012).d (Z 1013).d (Z 1014).d (Z 7).d/\qe9 (Z 1015).h (Z 1014).d (Z 1007).i.toNat (qag (Z 2).i.toNat (Z 3).i.toNat (bI (Z 7).d))),mu:=(fun Z=>((Z 3).i - (Z 1007).i).toNat) }
def qsG:Inv:={ key:=17,nv:=23,env:=q2q ++ [(16,iv .i64 (.var 1007)),(17,.one (.vslice 1016 (.lit 0) (.var 1000) (.var 1017) 1)),(61,bSl 1009 1019 1020 1021),(62,iv .i64 (.var 1020)),(63,iv .i64 (.var 1022))],heap:=q6G ++ [bHp 1016 1018 1017,.abs 1015 2],inv:=(fun Z=>qnW (Z 2).i (Z 3).i (Z 5).i (Z 1000).i (Z 1002).i (Z 1003).i (Z 1010).i (Z 1011).i (Z 1007).i (Z 1008).d (Z 1012).d (Z 1013).d (Z 1014).d (Z 7).d/\qe9 (Z 1015).h (Z 1014).d (Z 1007).i.toNat (qag (Z 2).i.toNat (Z 3).i.toNat (bI (Z 7).d))/\(Z 1007).i = (Z 29).i/\(Z 1007).i < (Z 3).i/\(Z 1019).i = (Z 1007).i * (Z 2).i/\(Z 1020).i = (Z 2).i/\0 <= (Z 1022).i/\(Z 1022).i <= (Z 2).i/\(Z 1018).d.length = (Z 1000).i.toNat/\qp (Z 1018).d/\bI (Z 1018).d = qbG (bI (Z 1012).d) (bI (Z 1013).d) (Z 2).i.toNat (Z 1000).i.toNat (Z 1007).i.toNat (Z 1022).i.toNat),mu:=(fun Z=>((Z 2).i - (Z 1022).i).toNat) }
def qaP (k n t:Int):Bool:=decide (1 <= k/\k <= n/\n <= t/\t <= 255)
def qz (k n t s l:Int):Bool:=qaP k n t && decide (0 <= s/\s <= 8192/\l = t)
def qfK:Ctr:={ fn := 86,nv:=3,args:=[iv .i64 (.var 0),iv .i64 (.var 1),iv .i64 (.var 2)],heap:=[],ro:=[],pre:=fun _=>True,alts:=[
 { k:=1,ret:=.one (.vbool (.var 3)),heap:=[],post:=fun Z=>(Z 3).b = qaP (Z 0).i (Z 1).i (Z 2).i }] }
def qdN (k n t s o r l c:Nat):List T:=[.vint .i64 (.var k),.vint .i64 (.var n),.vint .i64 (.var t),.vint .i64 (.var s)] ++ (qaT .u8 o 32 ++ [.vslice r (.lit 0) (.var l) (.var c) 32])
def qbU (r d c:Nat):SH:=.arr r 24 k32 (.var d) (.var c)
def qia:SV:=.agg (qdN 0 1 2 3 4 5 6 7)
def qgQ (row:List Value):List Int:=(List.range 32).map fun j=>qbr row j
def dgs (d:List (List Value)):List (List Int):=d.map qgQ
def qd4 (d:List (List Value)):Prop:=∀ row ∈ d,row.length = 32/\qU (qgQ row)
def qcI:Ctr:={ fn := 74,nv:=10,args:=[qia],heap:=[],ro:=[qbU 5 8 9],pre:=fun Z=>0 <= (Z 6).i,alts:=[
 { k:=1,ret:=iv .i64 (.var 10),heap:=[],post:=fun Z=>(Z 10).i = if qz (Z 0).i (Z 1).i (Z 2).i (Z 3).i (Z 6).i then 0 else 2 }] }
def qaS (i:Int):List Int:=[(i.fdiv 256) % 256,i % 256]
def qdg:Ctr:={ fn := 88,nv:=9,ip:=[gIp 7],args:=[iv .i64 (.var 0),bSl 1 2 3 4],heap:=[],ro:=[bHp 1 5 6,gHp 7 8],pre:=fun Z=>0 <= (Z 2).i/\0 <= (Z 3).i/\(Z 3).i <= (Z 4).i/\(Z 3).i < 576460752303423488/\(Z 2).i + (Z 3).i <= (Z 5).d.length/\qp (Z 5).d/\gOk Z 7 8 gR,alts:=[
 { k:=1,ret:=dgV 9,heap:=[],post:=fun Z=>qf (Z 9).d 32 = sha (qaS (Z 0).i ++ qbT (Z 5).d (Z 2).i (Z 3).i) }] }
def qaI (k n t s:Int) (o:List Int):List Int:=beL 19713 2 ++ (beL (k % 256) 1 ++ (beL (n % 256) 1 ++ (beL (t % 256) 1 ++ (beL (s % 65536) 2 ++ o))))
def qj4:Ctr:={ fn := 73,nv:=10,args:=[qia],heap:=[],ro:=[qbU 5 8 9],pre:=fun Z=>0 <= (Z 6).i/\(Z 6).i = (Z 8).d.length/\qU (qf (Z 4).d 32)/\qd4 (Z 8).d,alts:=[
 { k:=0,ret:=.tup [(false,[.vnils]),qbb (.lit 2)],heap:=[],post:=fun Z=>qz (Z 0).i (Z 1).i (Z 2).i (Z 3).i (Z 6).i = false },
 { k:=4,ret:=.tup [(false,[.vslice 10 (.lit 0) (.var 11) (.var 12) 1]),qbb (.lit 0)],heap:=[bHp 10 13 12],post:=fun Z=>qz (Z 0).i (Z 1).i (Z 2).i (Z 3).i (Z 6).i = true/\(Z 11).i = (Z 13).d.length/\qp (Z 13).d/\bI (Z 13).d = qaI (Z 0).i (Z 1).i (Z 2).i (Z 3).i (qf (Z 4).d 32) ++ (dgs (Z 8).d).flatten }] }
def qyQ:Inv:={ key:=12,nv:=8,env:=[(5,.one (.vptr 1000 (.lit 0) 3 0)),(45,.one (.vslice 5 (.lit 0) (.var 6) (.var 7) 32)),(46,iv .i64 (.var 6)),(47,iv .i64 (.var 1007))],heap:=[.cells 1000 qzQ [.vint .i64 (.var 1001),.vbool (.var 1002),.vslice 1003 (.lit 0) (.var 1004) (.var 1005) 1],bHp 1003 1006 1005],inv:=(fun Z=>qz (Z 0).i (Z 1).i (Z 2).i (Z 3).i (Z 6).i = true/\0 <= (Z 1007).i/\(Z 1007).i <= (Z 6).i/\(Z 1001).i = 39 + 32 * (Z 2).i/\(Z 1002).b = false/\wOk (Z 1001).i (Z 1004).i (Z 1005).i (Z 1006).d/\bI (Z 1006).d = qaI (Z 0).i (Z 1).i (Z 2).i (Z 3).i (qf (Z 4).d 32) ++ ((dgs (Z 8).d).take (Z 1007).i.toNat).flatten),mu:=(fun Z=>((Z 6).i - (Z 1007).i).toNat) }
def qBc (r:Nat):SH:=.cells r 27 (List.replicate 4 (.vint .i64 (.lit 0)) ++ (List.replicate 32 (.vint .u8 (.lit 0)) ++ [.vnils]))
def qAF:Bool × List T:=(true,List.replicate 4 (.vint .i64 (.lit 0)) ++ (List.replicate 32 (.vint .u8 (.lit 0)) ++ [.vnils]))
def qbi (f:Nat->List Int) (n:Nat):List (List Int):=(List.range n).map fun (i:Nat)=>sha (qaS i ++ f i)
def qiA:Ctr:={ fn := 43,nv:=12,ip:=[gIp 10],ow:=[1003],args:=[qa9,iv .i64 (.var 2),iv .i64 (.var 3),iv .i64 (.var 4),.one (.vslice 5 (.lit 0) (.var 6) (.var 7) 1)],heap:=[fHp 1],ro:=[bHp 5 8 9,gHp 10 11],pre:=fun Z=>qk (Z 1).d/\(Z 6).i = (Z 8).d.length/\(Z 6).i <= (Z 7).i/\qp (Z 8).d/\gOk Z 10 11 gR/\(qN (Z 2).i (Z 4).i = true->(qbN (Z 2).i.toNat (Z 4).i.toNat).2.2 = (Z 2).i.toNat),alts:=[
 { k:=2,ret:=.tup [qAF,(false,[.vnils]),qbb (.var 12)],heap:=[fHp 13],post:=fun Z=>qk (Z 13).d/\((qaP (Z 2).i (Z 3).i (Z 4).i = false/\(Z 12).i = 2)∨(qaP (Z 2).i (Z 3).i (Z 4).i = true/\8192 < (Z 6).i/\(Z 12).i = 3)) },
 { k:=9,ret:=.tup [(true,qdN 2 3 4 6 12 13 4 14),(false,[.vslice 15 (.lit 0) (.var 4) (.var 16) 2]),qbb (.lit 0)],heap:=[fHp 17,qbU 13 18 14,.arr 15 86 qj3 (.var 19) (.var 16),.abs 20 2],post:=fun Z=>qk (Z 17).d/\qaP (Z 2).i (Z 3).i (Z 4).i = true/\(Z 6).i <= 8192/\(Z 19).d.length = (Z 4).i.toNat/\qe9 (Z 20).h (Z 19).d (Z 4).i.toNat (qag (Z 2).i.toNat (Z 4).i.toNat (bI (Z 8).d))/\qf (Z 12).d 32 = sha (bI (Z 8).d)/\qd4 (Z 18).d/\dgs (Z 18).d = qbi (qag (Z 2).i.toNat (Z 4).i.toNat (bI (Z 8).d)) (Z 4).i.toNat }] }
def q67:Inv:={ key:=10,nv:=12,env:=[(0,qa9),(10,.one (.vptr 1000 (.lit 0) 37 0)),(13,.one (.vslice 1001 (.lit 0) (.var 4) (.var 1009) 2)),(15,.one (.vptr 1002 (.lit 0) 37 0)),(47,.one (.vslice 1001 (.lit 0) (.var 4) (.var 1009) 2)),(48,iv .i64 (.var 4)),(49,iv .i64 (.var 1005))],heap:=[fHp 1010,qBc 1000,.cells 1002 27 (qdN 2 3 4 6 1003 1004 1005 1006),qbU 1004 1007 1006,.arr 1001 86 qj3 (.var 1008) (.var 1009),.abs 1011 2],inv:=(fun Z=>qk (Z 1010).d/\qaP (Z 2).i (Z 3).i (Z 4).i = true/\(Z 6).i <= 8192/\0 <= (Z 1005).i/\(Z 1005).i <= (Z 4).i/\(Z 1008).d.length = (Z 4).i.toNat/\qe9 (Z 1011).h (Z 1008).d (Z 4).i.toNat (qag (Z 2).i.toNat (Z 4).i.toNat (bI (Z 8).d))/\qf (Z 1003).d 32 = sha (bI (Z 8).d)/\(Z 1005).i = (Z 1007).d.length/\qd4 (Z 1007).d/\dgs (Z 1007).d = qbi (qag (Z 2).i.toNat (Z 4).i.toNat (bI (Z 8).d)) (Z 1005).i.toNat),mu:=(fun Z=>((Z 4).i - (Z 1005).i).toNat) }
end Go.Eng
namespace Go.Eng
open Go Go.Proofs
theorem qiv {h:Hp} {pat:List CK} {v:Value} {d d':qd} (h1:Rd h pat v d) (h2:Rd h pat v d'):d = d':=by
 rcases h1 with ⟨a,e1,rfl⟩ | ⟨b,o,cap,c,ty,fr,e1,l1,hb1,r1⟩ <;> rcases h2 with ⟨a',e2,rfl⟩ | ⟨b',o',cap',c',ty',fr',e2,l2,hb2,r2⟩
 ·rfl
 ·rw [e1] at e2
  simp only [Value.slice.injEq] at e2
  exact (jcs.1 e2.2.1.symm).symm
 ·rw [e1] at e2
  simp only [Value.slice.injEq] at e2
  exact jcs.1 e2.2.1
 ·rw [e1] at e2
  simp only [Value.slice.injEq,jaa,Addr.mk.injEq] at e2
  obtain ⟨⟨rfl,rfl,_⟩,hl,rfl⟩:=e2
  rw [hb1] at hb2
  simp only [jaa,Obj.cells.injEq] at hb2
  obtain ⟨rfl,rfl,rfl⟩:=hb2
  apply jdw hl
  intro i i1 i2
  obtain ⟨f1,g1⟩:=r1 i _ (jac i1)
  obtain ⟨f2,g2⟩:=r2 i _ (jac i2)
  apply jdw (by rw [f1.1,f2.1])
  intro k k1 k2
  have a1:=g1 k _ (jac k1)
  have a2:=g2 k _ (jac k2)
  rw [a1] at a2
  exact jaz a2
noncomputable def rdL (h:Hp) (v:Value):List Int:=open Classical in if hx:∃ d,Rd h kB v d then bI hx.choose else []
theorem qf0 {h:Hp} {v:Value} {d:qd} (hr:Rd h kB v d):rdL h v = bI d:=by
 have hx:∃ d,Rd h kB v d:=⟨d,hr⟩
 unfold rdL
 rw [dif_pos hx,qiv hx.choose_spec hr]
def qfw (h:Hp) (D:qd) (n:Nat):Prop:=∀ j,j < n->∃ i v d,D[j]? = some [.int .i64 i,v]/\Rd h kB v d/\qp d
noncomputable def pcI (D:qd) (j:Nat):Int:=qb D j 0
noncomputable def pcD (h:Hp) (D:qd) (j:Nat):List Int:=rdL h (qF D j 1)
end Go.Eng
namespace Go.Proofs
open Go Go.Eng
theorem qto {h:Hp} {D:qd} {n j:Nat} (hp:qfw h D n) (hj:j < n):∃ v d,D[j]? = some [.int .i64 (pcI D j),v]/\qF D j 1 = v/\Rd h kB v d/\qp d/\pcD h D j = bI d:=by
 obtain ⟨i,v,d,e,hr,hb⟩:=hp j hj
 have h1:qF D (j:Int) 1 = v:=by simp [qF,e]
 have h2:pcI D j = i:=by simp [pcI,qb,qF,e,qaj]
 exact ⟨v,d,by rw [h2]; exact e,h1,hr,hb,by rw [pcD,h1,qf0 hr]⟩
end Go.Proofs
namespace Go.Proofs
open Go Go.Eng
theorem q7Q {x:Int}:IntKind.u64.wrap x = x % 18446744073709551616:=by
 unfold IntKind.wrap
 rfl
end Go.Proofs
namespace Go.Eng
open Go
def bS (r:Nat):SV:=.one (.vslice r (.lit 0) (.var (r + 1)) (.var (r + 2)) 1)
def qBj (r:Nat):SH:=bHp r (r + 3) (r + 4)
def w3 (a b c:Int):Int:=qe .xor .u8 (qe .xor .u8 a b) c
def x3:List Int->List Int->List Int->List Int
 | a :: al,b :: bl,c :: cl=>w3 a b c :: x3 al bl cl
 | _,_,_=>[]
def qeq:Alt:={ k:=0,ret:=.one (.vbool (.bl true)),heap:=[],post:=fun _=>True }
end Go.Eng
namespace Go.Eng
open Go Go.Proofs
def kI:List CK:=[.int .i64]
def iHp (r d c:Nat):SH:=.arr r 3 kI (.var d) (.var c)
def qfI (r d c:Nat):SH:=.arr r 86 qj3 (.var d) (.var c)
def pcS (r l c:Nat):SV:=.one (.vslice r (.lit 0) (.var l) (.var c) 2)
def qbn (x:Int):Prop:=-9223372036854775808 <= x/\x < 9223372036854775808
def qAQ (k v:Int) (b:List Int):Option (List Int):=if 1 <= k/\k <= 4 then some (beL v (2 ^ (k.toNat - 1))) else if k = 5 then some b else if k = 6 then some (beL b.length 2 ++ b) else none
def qAf (k:Int) (b:List Int):Bool:=decide (k = 6/\65535 < b.length)
def wrote (lim:Int) (f:Bool) (m:List Int) (k v:Int) (b:List Int):Bool × List Int:=match qAQ k v b with
 | none=>(f,m)
 | some s=>qfm lim (f || qAf k b) m s
end Go.Eng
namespace Go.Eng
open Go
@[simp] def o8:T:=.vint .u8 (.lit 0)
@[simp] def x8 (k v:Nat):T:=.vint .u8 (.c2 (.xint k) (.var v) (.lit 0))
@[simp] def i8 (v e k:Nat):T:=.vint .u8 (.icell (.var v) (.var e) k)
@[simp] def r8 (v:Nat):T:=(.rcons (x8 0 v) (.rcons (x8 1 v) (.rcons (x8 2 v) (.rcons (x8 3 v) (.rcons (x8 4 v) (.rcons (x8 5 v) (.rcons (x8 6 v) (.rcons (x8 7 v) (.rcons (x8 8 v) (.rcons (x8 9 v) (.rcons (x8 10 v) (.rcons (x8 11 v) (.rcons (x8 12 v) (.rcons (x8 13 v) (.rcons (x8 14 v) (.rcons (x8 15 v) (.rcons (x8 16 v) (.rcons (x8 17 v) (.rcons (x8 18 v) (.rcons (x8 19 v) (.rcons (x8 20 v) (.rcons (x8 21 v) (.rcons (x8 22 v) (.rcons (x8 23 v) (.rcons (x8 24 v) (.rcons (x8 25 v) (.rcons (x8 26 v) (.rcons (x8 27 v) (.rcons (x8 28 v) (.rcons (x8 29 v) (.rcons (x8 30 v) (.rcons (x8 31 v) .rnil))))))))))))))))))))))))))))))))
@[simp] def q8 (k v:Nat):T:=.vint .u8 (.c2 (.xint k) (r8 v) (.lit 0))
@[simp] def s8 (v:Nat):T:=(.rcons (q8 0 v) (.rcons (q8 1 v) (.rcons (q8 2 v) (.rcons (q8 3 v) (.rcons (q8 4 v) (.rcons (q8 5 v) (.rcons (q8 6 v) (.rcons (q8 7 v) (.rcons (q8 8 v) (.rcons (q8 9 v) (.rcons (q8 10 v) (.rcons (q8 11 v) (.rcons (q8 12 v) (.rcons (q8 13 v) (.rcons (q8 14 v) (.rcons (q8 15 v) (.rcons (q8 16 v) (.rcons (q8 17 v) (.rcons (q8 18 v) (.rcons (q8 19 v) (.rcons (q8 20 v) (.rcons (q8 21 v) (.rcons (q8 22 v) (.rcons (q8 23 v) (.rcons (q8 24 v) (.rcons (q8 25 v) (.rcons (q8 26 v) (.rcons (q8 27 v) (.rcons (q8 28 v) (.rcons (q8 29 v) (.rcons (q8 30 v) (.rcons (q8 31 v) .rnil))))))))))))))))))))))))))))))))
@[simp] def z8:T:=(.rcons o8 (.rcons o8 (.rcons o8 (.rcons o8 (.rcons o8 (.rcons o8 (.rcons o8 (.rcons o8 (.rcons o8 (.rcons o8 (.rcons o8 (.rcons o8 (.rcons o8 (.rcons o8 (.rcons o8 (.rcons o8 (.rcons o8 (.rcons o8 (.rcons o8 (.rcons o8 (.rcons o8 (.rcons o8 (.rcons o8 (.rcons o8 (.rcons o8 (.rcons o8 (.rcons o8 (.rcons o8 (.rcons o8 (.rcons o8 (.rcons o8 (.rcons o8 .rnil))))))))))))))))))))))))))))))))
end Go.Eng
namespace Go.Proofs
open Go Go.Eng
def qyB:Out:=(.need (.cmp .geq (.arith .and .u64 (.conv .u64 (tv 1)) (tl 31)) (tl 0)) (.need (.cmp .geq (.arith .sub .u64 (tl 32) (.arith .and .u64 (.conv .u64 (tv 1)) (tl 31))) (tl 0)) (.ret 0 (sg 2 [bt 2 (.arith .or .u32 (.arith .shl .u32 (tv 0) (.arith .and .u64 (.conv .u64 (tv 1)) (tl 31))) (.arith .shr .u32 (tv 0) (.arith .sub .u64 (tl 32) (.arith .and .u64 (.conv .u64 (tv 1)) (tl 31)))))]))))
theorem q5w:qn Tryz.prog ql2 [] [] qyB:=qh Tryz.func154 Tryz.call154 (by kernel_rfl)
@[simp] def qw3:T:=.arith .add .u32 (.arith .add .u32 (.arith .add .u32 (.arith .add .u32 (tv 21) (.arith .xor .u32 (.arith .xor .u32 (tv 22) (tv 23)) (tv 24))) (.arith .xor .u32 (tv 20) (.arith .and .u32 (tv 18) (.arith .xor .u32 (tv 19) (tv 20))))) (.c2 (.xint 0) (tv 3) (tv 13))) (.c2 (.xint 0) (tv 12) (tv 13))
@[simp] def qvL:T:=.rcons (.vint .u32 (.c2 (.xint 0) (tv 22) (tl 0))) (.rcons (.vint .u32 (.c2 (.xint 1) (tv 22) (tl 0))) (.rcons (.vint .u32 (.c2 (.xint 2) (tv 22) (tl 0))) (.rcons (.vint .u32 (.c2 (.xint 3) (tv 22) (tl 0))) (.rcons (.vint .u32 (.c2 (.xint 4) (tv 22) (tl 0))) (.rcons (.vint .u32 (.c2 (.xint 5) (tv 22) (tl 0))) (.rcons (.vint .u32 (.c2 (.xint 6) (tv 22) (tl 0))) (.rcons (.vint .u32 (.c2 (.xint 7) (tv 22) (tl 0))) .rnil)))))))
def q2z:Out:=(.fresh 4 (.inv 0 5 (sg 1000 [bt 1001 (.rcons (.vint .u32 (tl 0)) (.rcons (.vint .u32 (tl 0)) (.rcons (.vint .u32 (tl 0)) (.rcons (.vint .u32 (tl 0)) (.rcons (.vint .u32 (tl 0)) (.rcons (.vint .u32 (tl 0)) (.rcons (.vint .u32 (tl 0)) (.rcons (.vint .u32 (tl 0)) (.rcons (.vint .u32 (tl 0)) (.rcons (.vint .u32 (tl 0)) (.rcons (.vint .u32 (tl 0)) (.rcons (.vint .u32 (tl 0)) (.rcons (.vint .u32 (tl 0)) (.rcons (.vint .u32 (tl 0)) (.rcons (.vint .u32 (tl 0)) (.rcons (.vint .u32 (tl 0)) (.rcons (.vint .u32 (tl 0)) (.rcons (.vint .u32 (tl 0)) (.rcons (.vint .u32 (tl 0)) (.rcons (.vint .u32 (tl 0)) (.rcons (.vint .u32 (tl 0)) (.rcons (.vint .u32 (tl 0)) (.rcons (.vint .u32 (tl 0)) (.rcons (.vint .u32 (tl 0)) (.rcons (.vint .u32 (tl 0)) (.rcons (.vint .u32 (tl 0)) (.rcons (.vint .u32 (tl 0)) (.rcons (.vint .u32 (tl 0)) (.rcons (.vint .u32 (tl 0)) (.rcons (.vint .u32 (tl 0)) (.rcons (.vint .u32 (tl 0)) (.rcons (.vint .u32 (tl 0)) (.rcons (.vint .u32 (tl 0)) (.rcons (.vint .u32 (tl 0)) (.rcons (.vint .u32 (tl 0)) (.rcons (.vint .u32 (tl 0)) (.rcons (.vint .u32 (tl 0)) (.rcons (.vint .u32 (tl 0)) (.rcons (.vint .u32 (tl 0)) (.rcons (.vint .u32 (tl 0)) (.rcons (.vint .u32 (tl 0)) (.rcons (.vint .u32 (tl 0)) (.rcons (.vint .u32 (tl 0)) (.rcons (.vint .u32 (tl 0)) (.rcons (.vint .u32 (tl 0)) (.rcons (.vint .u32 (tl 0)) (.rcons (.vint .u32 (tl 0)) (.rcons (.vint .u32 (tl 0)) (.rcons (.vint .u32 (tl 0)) (.rcons (.vint .u32 (tl 0)) (.rcons (.vint .u32 (tl 0)) (.rcons (.vint .u32 (tl 0)) (.rcons (.vint .u32 (tl 0)) (.rcons (.vint .u32 (tl 0)) (.rcons (.vint .u32 (tl 0)) (.rcons (.vint .u32 (tl 0)) (.rcons (.vint .u32 (tl 0)) (.rcons (.vint .u32 (tl 0)) (.rcons (.vint .u32 (tl 0)) (.rcons (.vint .u32 (tl 0)) (.rcons (.vint .u32 (tl 0)) (.rcons (.vint .u32 (tl 0)) (.rcons (.vint .u32 (tl 0)) (.rcons (.vint .u32 (tl 0)) .rnil)))))))))))))))))))))))))))))))))))))))))))))))))))))))))))))))),bt 1002 (tl 0),bg 1000 4]) (fr 5 3 (.hyp 0 5 (.br (.cmp .lss (tv 7) (tl 16))
 (.need (.cmp .lss (tl 0) (.dlen (tv 1))) (.need (.cmp .leq (tl 0) (.arith .mul .i64 (tl 4) (tv 7))) (.need (.cmp .lss (.arith .mul .i64 (tl 4) (tv 7)) (tl 64)) (.need (.cmp .leq (tl 0) (.arith .add .i64 (.arith .mul .i64 (tl 4) (tv 7)) (tl 1))) (.need (.cmp .lss (.arith .add .i64 (.arith .mul .i64 (tl 4) (tv 7)) (tl 1)) (tl 64)) (.need (.cmp .leq (tl 0) (.arith .add .i64 (.arith .mul .i64 (tl 4) (tv 7)) (tl 2))) (.need (.cmp .lss (.arith .add .i64 (.arith .mul .i64 (tl 4) (tv 7)) (tl 2)) (tl 64)) (.need (.cmp .leq (tl 0) (.arith .add .i64 (.arith .mul .i64 (tl 4) (tv 7)) (tl 3))) (.need (.cmp .lss (.arith .add .i64 (.arith .mul .i64 (tl 4) (tv 7)) (tl 3)) (tl 64)) (.need (.cmp .leq (tl 0) (tv 7)) (.need (.cmp .lss (tv 7) (tl 64)) (.need (.cmp .lss (tl 0) (.dlen (tv 6))) (.both (.back 0 5 (sg 1000 [bt 1001 (.c3 (.xput 0) (tv 6) (tv 7) (.vint .u32 (.arith .or .u32 (.arith .or .u32 (.arith .or .u32 (.arith .shl .u32 (.conv .u32 (.c2 (.xint 8) (tv 1) (.arith .mul .i64 (tl 4) (tv 7)))) (tl 24)) (.arith .shl .u32 (.conv .u32 (.c2 (.xint 8) (tv 1) (.arith .add .i64 (.arith .mul .i64 (tl 4) (tv 7)) (tl 1)))) (tl 16))) (.arith .shl .u32 (.conv .u32 (.c2 (.xint 8) (tv 1) (.arith .add .i64 (.arith .mul .i64 (tl 4) (tv 7)) (tl 2)))) (tl 8))) (.conv .u32 (.c2 (.xint 8) (tv 1) (.arith .add .i64 (.arith .mul .i64 (tl 4) (tv 7)) (tl 3))))))),bt 1002 (.arith .add .i64 (tv 7) (tl 1)),bg 1000 5])) .top)))))))))))))
 (.inv 1 8 (sg 1000 [bv 1001 6,bt 1002 (tl 16),bg 1000 5]) (fr 8 3 (.hyp 1 8 (.br (.cmp .lss (tv 10) (tl 64))
 (.need (.cmp .leq (tl 0) (.arith .sub .i64 (tv 10) (tl 15))) (.need (.cmp .lss (.arith .sub .i64 (tv 10) (tl 15)) (tl 64)) (.need (.cmp .lss (tl 0) (.dlen (tv 9))) (.need (.cmp .leq (tl 0) (.arith .sub .i64 (tv 10) (tl 2))) (.need (.cmp .lss (.arith .sub .i64 (tv 10) (tl 2)) (tl 64)) (.pre 0 (sg 0 [bt 1 (.lit (-7)),bt 0 (.c2 (.xint 0) (tv 9) (.arith .sub .i64 (tv 10) (tl 15)))]) (.both (.fresh 11 (.post 0 0 (sg 0 [bt 1 (.lit (-7)),bt 0 (.c2 (.xint 0) (tv 9) (.arith .sub .i64 (tv 10) (tl 15)))]) 11 (.pre 0 (sg 0 [bt 1 (.lit (-18)),bt 0 (.c2 (.xint 0) (tv 9) (.arith .sub .i64 (tv 10) (tl 15)))]) (.both (.fresh 12 (.post 0 0 (sg 0 [bt 1 (.lit (-18)),bt 0 (.c2 (.xint 0) (tv 9) (.arith .sub .i64 (tv 10) (tl 15)))]) 12 (.pre 0 (sg 0 [bt 1 (.lit (-17)),bt 0 (.c2 (.xint 0) (tv 9) (.arith .sub .i64 (tv 10) (tl 2)))]) (.both (.fresh 13 (.post 0 0 (sg 0 [bt 1 (.lit (-17)),bt 0 (.c2 (.xint 0) (tv 9) (.arith .sub .i64 (tv 10) (tl 2)))]) 13 (.pre 0 (sg 0 [bt 1 (.lit (-19)),bt 0 (.c2 (.xint 0) (tv 9) (.arith .sub .i64 (tv 10) (tl 2)))]) (.both (.fresh 14 (.post 0 0 (sg 0 [bt 1 (.lit (-19)),bt 0 (.c2 (.xint 0) (tv 9) (.arith .sub .i64 (tv 10) (tl 2)))]) 14 (.need (.cmp .leq (tl 0) (.arith .sub .i64 (tv 10) (tl 16))) (.need (.cmp .lss (.arith .sub .i64 (tv 10) (tl 16)) (tl 64)) (.need (.cmp .leq (tl 0) (.arith .sub .i64 (tv 10) (tl 7))) (.need (.cmp .lss (.arith .sub .i64 (tv 10) (tl 7)) (tl 64)) (.need (.cmp .leq (tl 0) (tv 10)) (.both (.back 1 8 (sg 1000 [bt 1001 (.c3 (.xput 0) (tv 9) (tv 10) (.vint .u32 (.arith .add .u32 (.arith .add .u32 (.arith .add .u32 (.c2 (.xint 0) (tv 9) (.arith .sub .i64 (tv 10) (tl 16))) (.arith .xor .u32 (.arith .xor .u32 (tv 11) (tv 12)) (.arith .shr .u32 (.c2 (.xint 0) (tv 9) (.arith .sub .i64 (tv 10) (tl 15))) (tl 3)))) (.c2 (.xint 0) (tv 9) (.arith .sub .i64 (tv 10) (tl 7)))) (.arith .xor .u32 (.arith .xor .u32 (tv 13) (tv 14)) (.arith .shr .u32 (.c2 (.xint 0) (tv 9) (.arith .sub .i64 (tv 10) (tl 2))) (tl 10)))))),bt 1002 (.arith .add .i64 (tv 10) (tl 1)),bg 1000 8])) .top)))))))) .top)))) .top)))) .top)))) .top)))))))
 (.need (.cmp .lss (tl 0) (.dlen (tv 1))) (.inv 2 11 (sg 1000 [bv 1001 9,bt 1002 (tl 0),bt 1010 (.icell (tv 1) (tl 0) 7),bt 1009 (.icell (tv 1) (tl 0) 6),bt 1008 (.icell (tv 1) (tl 0) 5),bt 1007 (.icell (tv 1) (tl 0) 4),bt 1006 (.icell (tv 1) (tl 0) 3),bt 1005 (.icell (tv 1) (tl 0) 2),bt 1004 (.icell (tv 1) (tl 0) 1),bt 1003 (.icell (tv 1) (tl 0) 0),bg 1000 8]) (fr 11 11 (.hyp 2 11 (.br (.cmp .lss (tv 13) (tl 64))
 (.pre 0 (sg 0 [bt 1 (.lit (-6)),bv 0 18]) (.both (.fresh 22 (.post 0 0 (sg 0 [bt 1 (.lit (-6)),bv 0 18]) 22 (.pre 0 (sg 0 [bt 1 (.lit (-11)),bv 0 18]) (.both (.fresh 23 (.post 0 0 (sg 0 [bt 1 (.lit (-11)),bv 0 18]) 23 (.pre 0 (sg 0 [bt 1 (.lit (-25)),bv 0 18]) (.both (.fresh 24 (.post 0 0 (sg 0 [bt 1 (.lit (-25)),bv 0 18]) 24 (.need (.c1 (.isg 1) (tv 2)) (.need (.cmp .leq (tl 0) (tv 13)) (.need (.cmp .lss (tl 0) (.dlen (tv 3))) (.need (.cmp .lss (tl 0) (.dlen (tv 12))) (.pre 0 (sg 0 [bt 1 (.lit (-2)),bv 0 14]) (.both (.fresh 25 (.post 0 0 (sg 0 [bt 1 (.lit (-2)),bv 0 14]) 25 (.pre 0 (sg 0 [bt 1 (.lit (-13)),bv 0 14]) (.both (.fresh 26 (.post 0 0 (sg 0 [bt 1 (.lit (-13)),bv 0 14]) 26 (.pre 0 (sg 0 [bt 1 (.lit (-22)),bv 0 14]) (.both (.fresh 27 (.post 0 0 (sg 0 [bt 1 (.lit (-22)),bv 0 14]) 27 (.back 2 11 (sg 1000 [bv 1001 12,bt 1002 (.arith .add .i64 (tv 13) (tl 1)),bv 1010 20,bv 1009 19,bv 1008 18,bt 1007 (.arith .add .u32 (tv 17) qw3),bv 1006 16,bv 1005 15,bv 1004 14,bt 1003 (.arith .add .u32 qw3 (.arith .add .u32 (.arith .xor .u32 (.arith .xor .u32 (tv 25) (tv 26)) (tv 27)) (.arith .or .u32 (.arith .and .u32 (tv 14) (tv 15)) (.arith .and .u32 (tv 16) (.arith .or .u32 (tv 14) (tv 15)))))),bg 1000 11])))) .top)))) .top)))) .top)))))))) .top)))) .top)))) .top))
 (.inv 3 22 (sg 1000 [bv 1002 1,bt 1001 (tl 0),bt 1000 (.rcons (.vint .u32 (tv 14)) (.rcons (.vint .u32 (tv 15)) (.rcons (.vint .u32 (tv 16)) (.rcons (.vint .u32 (tv 17)) (.rcons (.vint .u32 (tv 18)) (.rcons (.vint .u32 (tv 19)) (.rcons (.vint .u32 (tv 20)) (.rcons (.vint .u32 (tv 21)) .rnil))))))))]) (fr 22 3 (.hyp 3 22 (.br (.cmp .lss (tv 23) (tl 8))
 (.need (.cmp .leq (tl 0) (tv 23)) (.need (.cmp .lss (tl 0) (.dlen (tv 24))) (.both (.back 3 22 (sg 1000 [bt 1002 (.c3 (.xput 0) (tv 24) (tv 23) (.vint .u32 (.arith .add .u32 (.c2 (.xint 0) (tv 24) (tv 23)) (.c2 (.xint 0) qvL (tv 23))))),bt 1001 (.arith .add .i64 (tv 23) (tl 1)),bt 1000 qvL])) .top)))
 (.ret 0 (sg 4 [bv 4 24]))))))))))))))))))))
theorem q7A:qn Tryz.prog qkK [ql2] [q6X,q6L,q6A,q6U] q2z:=qh Tryz.func129 Tryz.call129 (by kernel_rfl)
def qrw:Out:=(.fresh 0 (.ret 0 (sg 0 [bt 1 (.rcons (.vint .u32 (tl 1779033703)) (.rcons (.vint .u32 (tl 3144134277)) (.rcons (.vint .u32 (tl 1013904242)) (.rcons (.vint .u32 (tl 2773480762)) (.rcons (.vint .u32 (tl 1359893119)) (.rcons (.vint .u32 (tl 2600822924)) (.rcons (.vint .u32 (tl 528734635)) (.rcons (.vint .u32 (tl 1541459225)) (.rcons o8 (.rcons o8 (.rcons o8 (.rcons o8 (.rcons o8 (.rcons o8 (.rcons o8 (.rcons o8 (.rcons o8 (.rcons o8 (.rcons o8 (.rcons o8 (.rcons o8 (.rcons o8 (.rcons o8 (.rcons o8 (.rcons o8 (.rcons o8 (.rcons o8 (.rcons o8 (.rcons o8 (.rcons o8 (.rcons o8 (.rcons o8 (.rcons o8 (.rcons o8 (.rcons o8 (.rcons o8 (.rcons o8 (.rcons o8 (.rcons o8 (.rcons o8 (.rcons o8 (.rcons o8 (.rcons o8 (.rcons o8 (.rcons o8 (.rcons o8 (.rcons o8 (.rcons o8 (.rcons o8 (.rcons o8 (.rcons o8 (.rcons o8 (.rcons o8 (.rcons o8 (.rcons o8 (.rcons o8 (.rcons o8 (.rcons o8 (.rcons o8 (.rcons o8 (.rcons o8 (.rcons o8 (.rcons o8 (.rcons o8 (.rcons o8 (.rcons o8 (.rcons o8 (.rcons o8 (.rcons o8 (.rcons o8 (.rcons o8 (.rcons o8 (.rcons (.vint .i64 (tl 0)) .rnil))))))))))))))))))))))))))))))))))))))))))))))))))))))))))))))))))))))))),bg 0 0])))
theorem qzM:qn Tryz.prog qeG [] [] qrw:=qh Tryz.func96 Tryz.call96 (by kernel_rfl)
@[simp] def qmu:T:=.dtake (.dtake (.ddrop (tv 6) (tv 10)) (tv 11)) (.imin (.minus (tl 64) (.arith .rem .i64 (.icell (tv 13) (tl 0) 72) (tl 64))) (tv 11))
@[simp] def qmw:T:=.ife (tl 64) (.arith .rem .i64 (.icell (tv 13) (tl 0) 72) (tl 64)) (tl 8) (.plus (tl 8) (.arith .rem .i64 (.icell (tv 13) (tl 0) 72) (tl 64)))
@[simp] def qsx:T:=.ife (tv 12) (.imin (.minus (tl 64) (.arith .rem .i64 (.icell (tv 13) (tl 0) 72) (tl 64))) (tv 11)) (tv 10) (.plus (tv 10) (.imin (.minus (tl 64) (.arith .rem .i64 (.icell (tv 13) (tl 0) 72) (tl 64))) (tv 11)))
@[simp] def qrQ:T:=.c3 .xcopy (tv 13) qmw qmu
@[simp] def qsd:Sg:=sg 0 [bv 3 9,bt 1 (.dput (.c3 .xcopy (tv 13) qmw qmu) (tl 0) 72 (.rcons (.vint .i64 (.arith .add .i64 (.icell (.c3 .xcopy (tv 13) qmw qmu) (tl 0) 72) (.imin (.minus (tl 64) (.arith .rem .i64 (.icell (tv 13) (tl 0) 72) (tl 64))) (tv 11)))) .rnil)),bg 0 0,bg 2 8]
def qyE:Out:=(.br (.and (.cmp .eql (.dlen (tv 1)) (tl 0)) (.isnil 0))
 (.ret 0 (sg 10 [bv 10 1]))
 (.inv 0 10 (sg 1000 [bv 1003 1,bv 1002 5,bv 1001 4,bv 1000 3]) (fr 10 4 (.hyp 0 10 (.need (.cmp .leq (tl 0) (tv 11)) (.br (.cmp .gtr (tv 11) (tl 0))
 (.need (.cmp .lss (tl 0) (.dlen (tv 13))) (.need (.cmp .leq (tl 0) (.arith .rem .i64 (.icell (tv 13) (tl 0) 72) (tl 64))) (.need (.cmp .leq (.arith .rem .i64 (.icell (tv 13) (tl 0) 72) (tl 64)) (tl 64)) (.need (.cmp .neq (tl 64) (.arith .rem .i64 (.icell (tv 13) (tl 0) 72) (tl 64))) (.need (.cmp .leq (tl 0) (.minus (tl 64) (.arith .rem .i64 (.icell (tv 13) (tl 0) 72) (tl 64)))) (.need (.cmp .leq (.plus (.arith .rem .i64 (.icell (tv 13) (tl 0) 72) (tl 64)) (.minus (tl 64) (.arith .rem .i64 (.icell (tv 13) (tl 0) 72) (tl 64)))) (tl 64)) (.need (.cmp .leq (tl 0) (tv 10)) (.need (.cmp .leq (.plus (tv 10) (tv 11)) (.dlen (tv 6))) (.fresh 14 (.need (.cmp .leq (tl 0) (tv 12)) (.need (.cmp .leq (tl 0) (.imin (.minus (tl 64) (.arith .rem .i64 (.icell (tv 13) (tl 0) 72) (tl 64))) (tv 11))) (.need (.cmp .leq (.imin (.minus (tl 64) (.arith .rem .i64 (.icell (tv 13) (tl 0) 72) (tl 64))) (tv 11)) (tv 11)) (.need (.cmp .leq (tv 11) (tv 12)) (.br (.cmp .eql (.arith .add .i64 (.arith .rem .i64 (.icell (tv 13) (tl 0) 72) (tl 64)) (.imin (.minus (tl 64) (.arith .rem .i64 (.icell (tv 13) (tl 0) 72) (tl 64))) (tv 11))) (tl 64))
 (.pre 0 qsd (.both (.fresh 15 (.post 0 0 qsd 15 (.back 0 10 (sg 1000 [bv 1003 15,bt 1002 (.minus (tv 12) (.imin (.minus (tl 64) (.arith .rem .i64 (.icell (tv 13) (tl 0) 72) (tl 64))) (tv 11))),bt 1001 (.minus (tv 11) (.imin (.minus (tl 64) (.arith .rem .i64 (.icell (tv 13) (tl 0) 72) (tl 64))) (tv 11))),bt 1000 qsx])))) .top))
 (.back 0 10 (sg 1000 [bt 1003 (.dput qrQ (tl 0) 72 (.rcons (.vint .i64 (.arith .add .i64 (.icell qrQ (tl 0) 72) (.imin (.minus (tl 64) (.arith .rem .i64 (.icell (tv 13) (tl 0) 72) (tl 64))) (tv 11)))) .rnil)),bt 1002 (.minus (tv 12) (.imin (.minus (tl 64) (.arith .rem .i64 (.icell (tv 13) (tl 0) 72) (tl 64))) (tv 11))),bt 1001 (.minus (tv 11) (.imin (.minus (tl 64) (.arith .rem .i64 (.icell (tv 13) (tl 0) 72) (tl 64))) (tv 11))),bt 1000 qsx]))))))))))))))))
 (.ret 0 (sg 10 [bv 10 13]))))))))
theorem q6g:qn Tryz.prog qii [qkK] [q2e] qyE:=qh Tryz.func97 Tryz.call97 (by kernel_rfl)
@[simp] def qjd:T:=.dtake (.c3 .xrows (tv 5) (tv 8) (tv 9)) (.imin (.minus (tl 64) (.arith .rem .i64 (.icell (tv 11) (tl 0) 72) (tl 64))) (tv 9))
@[simp] def qjf:T:=.ife (tl 64) (.arith .rem .i64 (.icell (tv 11) (tl 0) 72) (tl 64)) (tl 8) (.plus (tl 8) (.arith .rem .i64 (.icell (tv 11) (tl 0) 72) (tl 64)))
@[simp] def qn4:T:=.ife (tv 10) (.imin (.minus (tl 64) (.arith .rem .i64 (.icell (tv 11) (tl 0) 72) (tl 64))) (tv 9)) (tv 8) (.plus (tv 8) (.imin (.minus (tl 64) (.arith .rem .i64 (.icell (tv 11) (tl 0) 72) (tl 64))) (tv 9)))
@[simp] def qnx:T:=.c3 .xcopy (tv 11) qjf qjd
@[simp] def qni:Sg:=sg 0 [bv 3 7,bt 1 (.dput (.c3 .xcopy (tv 11) qjf qjd) (tl 0) 72 (.rcons (.vint .i64 (.arith .add .i64 (.icell (.c3 .xcopy (tv 11) qjf qjd) (tl 0) 72) (.imin (.minus (tl 64) (.arith .rem .i64 (.icell (tv 11) (tl 0) 72) (tl 64))) (tv 9)))) .rnil)),bg 0 0,bg 2 6]
def qsi:Out:=(.br (.and (.cmp .eql (.dlen (tv 1)) (tl 0)) (.isnil 0))
 (.ret 0 (sg 8 [bv 8 1]))
 (.inv 0 8 (sg 1000 [bv 1003 1,bv 1002 4,bv 1001 3,bt 1000 (tl 0)]) (fr 8 4 (.hyp 0 8 (.need (.cmp .leq (tl 0) (tv 9)) (.br (.cmp .gtr (tv 9) (tl 0))
 (.need (.cmp .lss (tl 0) (.dlen (tv 11))) (.need (.cmp .leq (tl 0) (.arith .rem .i64 (.icell (tv 11) (tl 0) 72) (tl 64))) (.need (.cmp .leq (.arith .rem .i64 (.icell (tv 11) (tl 0) 72) (tl 64)) (tl 64)) (.need (.cmp .neq (tl 64) (.arith .rem .i64 (.icell (tv 11) (tl 0) 72) (tl 64))) (.need (.cmp .leq (tl 0) (.minus (tl 64) (.arith .rem .i64 (.icell (tv 11) (tl 0) 72) (tl 64)))) (.need (.cmp .leq (.plus (.arith .rem .i64 (.icell (tv 11) (tl 0) 72) (tl 64)) (.minus (tl 64) (.arith .rem .i64 (.icell (tv 11) (tl 0) 72) (tl 64)))) (tl 64)) (.need (.cmp .leq (tl 0) (tv 8)) (.need (.cmp .leq (.plus (tv 8) (tv 9)) (tl 72)) (.need (.cmp .lss (tl 0) (.dlen (tv 5))) (.fresh 12 (.need (.cmp .leq (tl 0) (tv 10)) (.need (.cmp .leq (tl 0) (.imin (.minus (tl 64) (.arith .rem .i64 (.icell (tv 11) (tl 0) 72) (tl 64))) (tv 9))) (.need (.cmp .leq (.imin (.minus (tl 64) (.arith .rem .i64 (.icell (tv 11) (tl 0) 72) (tl 64))) (tv 9)) (tv 9)) (.need (.cmp .leq (tv 9) (tv 10)) (.br (.cmp .eql (.arith .add .i64 (.arith .rem .i64 (.icell (tv 11) (tl 0) 72) (tl 64)) (.imin (.minus (tl 64) (.arith .rem .i64 (.icell (tv 11) (tl 0) 72) (tl 64))) (tv 9))) (tl 64))
 (.pre 0 qni (.both (.fresh 13 (.post 0 0 qni 13 (.back 0 8 (sg 1000 [bv 1003 13,bt 1002 (.minus (tv 10) (.imin (.minus (tl 64) (.arith .rem .i64 (.icell (tv 11) (tl 0) 72) (tl 64))) (tv 9))),bt 1001 (.minus (tv 9) (.imin (.minus (tl 64) (.arith .rem .i64 (.icell (tv 11) (tl 0) 72) (tl 64))) (tv 9))),bt 1000 qn4])))) .top))
 (.back 0 8 (sg 1000 [bt 1003 (.dput qnx (tl 0) 72 (.rcons (.vint .i64 (.arith .add .i64 (.icell qnx (tl 0) 72) (.imin (.minus (tl 64) (.arith .rem .i64 (.icell (tv 11) (tl 0) 72) (tl 64))) (tv 9)))) .rnil)),bt 1002 (.minus (tv 10) (.imin (.minus (tl 64) (.arith .rem .i64 (.icell (tv 11) (tl 0) 72) (tl 64))) (tv 9))),bt 1001 (.minus (tv 9) (.imin (.minus (tl 64) (.arith .rem .i64 (.icell (tv 11) (tl 0) 72) (tl 64))) (tv 9))),bt 1000 qn4])))))))))))))))))
 (.ret 0 (sg 8 [bv 8 11]))))))))
theorem q0A:qn Tryz.prog qid [qkK] [qwE] qsi:=qh Tryz.func97 Tryz.call97 (by kernel_rfl)
@[simp] def qyU:Sg:=sg 0 [bv 7 3,bv 5 12,bv 1 10,bt 4 (tl 72),bt 3 (.arith .add .i64 (tv 13) (tl 8)),bg 2 11,bg 0 9,bg 6 2]
def q6W:Out:=(.fresh 4 (.br (.and (.cmp .eql (.dlen (tv 1)) (tl 0)) (.isnil 0))
 (.ret 0 (sg 4 [bt 4 z8]))
 (.need (.cmp .lss (tl 0) (.dlen (tv 1))) (fr 5 2 (.inv 0 7 (sg 1000 [bt 1005 (.rcons (.vint .u8 (tl 128)) (.rcons o8 (.rcons o8 (.rcons o8 (.rcons o8 (.rcons o8 (.rcons o8 (.rcons o8 (.rcons o8 (.rcons o8 (.rcons o8 (.rcons o8 (.rcons o8 (.rcons o8 (.rcons o8 (.rcons o8 (.rcons o8 (.rcons o8 (.rcons o8 (.rcons o8 (.rcons o8 (.rcons o8 (.rcons o8 (.rcons o8 (.rcons o8 (.rcons o8 (.rcons o8 (.rcons o8 (.rcons o8 (.rcons o8 (.rcons o8 (.rcons o8 (.rcons o8 (.rcons o8 (.rcons o8 (.rcons o8 (.rcons o8 (.rcons o8 (.rcons o8 (.rcons o8 z8)))))))))))))))))))))))))))))))))))))))),bt 1003 (.rcons (.vint .u32 (.icell (tv 1) (tl 0) 0)) (.rcons (.vint .u32 (.icell (tv 1) (tl 0) 1)) (.rcons (.vint .u32 (.icell (tv 1) (tl 0) 2)) (.rcons (.vint .u32 (.icell (tv 1) (tl 0) 3)) (.rcons (.vint .u32 (.icell (tv 1) (tl 0) 4)) (.rcons (.vint .u32 (.icell (tv 1) (tl 0) 5)) (.rcons (.vint .u32 (.icell (tv 1) (tl 0) 6)) (.rcons (.vint .u32 (.icell (tv 1) (tl 0) 7)) (.rcons (.vint .u8 (.icell (tv 1) (tl 0) 8)) (.rcons (.vint .u8 (.icell (tv 1) (tl 0) 9)) (.rcons (.vint .u8 (.icell (tv 1) (tl 0) 10)) (.rcons (.vint .u8 (.icell (tv 1) (tl 0) 11)) (.rcons (.vint .u8 (.icell (tv 1) (tl 0) 12)) (.rcons (.vint .u8 (.icell (tv 1) (tl 0) 13)) (.rcons (.vint .u8 (.icell (tv 1) (tl 0) 14)) (.rcons (.vint .u8 (.icell (tv 1) (tl 0) 15)) (.rcons (.vint .u8 (.icell (tv 1) (tl 0) 16)) (.rcons (.vint .u8 (.icell (tv 1) (tl 0) 17)) (.rcons (.vint .u8 (.icell (tv 1) (tl 0) 18)) (.rcons (.vint .u8 (.icell (tv 1) (tl 0) 19)) (.rcons (.vint .u8 (.icell (tv 1) (tl 0) 20)) (.rcons (.vint .u8 (.icell (tv 1) (tl 0) 21)) (.rcons (.vint .u8 (.icell (tv 1) (tl 0) 22)) (.rcons (.vint .u8 (.icell (tv 1) (tl 0) 23)) (.rcons (.vint .u8 (.icell (tv 1) (tl 0) 24)) (.rcons (.vint .u8 (.icell (tv 1) (tl 0) 25)) (.rcons (.vint .u8 (.icell (tv 1) (tl 0) 26)) (.rcons (.vint .u8 (.icell (tv 1) (tl 0) 27)) (.rcons (.vint .u8 (.icell (tv 1) (tl 0) 28)) (.rcons (.vint .u8 (.icell (tv 1) (tl 0) 29)) (.rcons (.vint .u8 (.icell (tv 1) (tl 0) 30)) (.rcons (.vint .u8 (.icell (tv 1) (tl 0) 31)) (.rcons (.vint .u8 (.icell (tv 1) (tl 0) 32)) (.rcons (.vint .u8 (.icell (tv 1) (tl 0) 33)) (.rcons (.vint .u8 (.icell (tv 1) (tl 0) 34)) (.rcons (.vint .u8 (.icell (tv 1) (tl 0) 35)) (.rcons (.vint .u8 (.icell (tv 1) (tl 0) 36)) (.rcons (.vint .u8 (.icell (tv 1) (tl 0) 37)) (.rcons (.vint .u8 (.icell (tv 1) (tl 0) 38)) (.rcons (.vint .u8 (.icell (tv 1) (tl 0) 39)) (.rcons (.vint .u8 (.icell (tv 1) (tl 0) 40)) (.rcons (.vint .u8 (.icell (tv 1) (tl 0) 41)) (.rcons (.vint .u8 (.icell (tv 1) (tl 0) 42)) (.rcons (.vint .u8 (.icell (tv 1) (tl 0) 43)) (.rcons (.vint .u8 (.icell (tv 1) (tl 0) 44)) (.rcons (.vint .u8 (.icell (tv 1) (tl 0) 45)) (.rcons (.vint .u8 (.icell (tv 1) (tl 0) 46)) (.rcons (.vint .u8 (.icell (tv 1) (tl 0) 47)) (.rcons (.vint .u8 (.icell (tv 1) (tl 0) 48)) (.rcons (.vint .u8 (.icell (tv 1) (tl 0) 49)) (.rcons (.vint .u8 (.icell (tv 1) (tl 0) 50)) (.rcons (.vint .u8 (.icell (tv 1) (tl 0) 51)) (.rcons (.vint .u8 (.icell (tv 1) (tl 0) 52)) (.rcons (.vint .u8 (.icell (tv 1) (tl 0) 53)) (.rcons (.vint .u8 (.icell (tv 1) (tl 0) 54)) (.rcons (.vint .u8 (.icell (tv 1) (tl 0) 55)) (.rcons (.vint .u8 (.icell (tv 1) (tl 0) 56)) (.rcons (.vint .u8 (.icell (tv 1) (tl 0) 57)) (.rcons (.vint .u8 (.icell (tv 1) (tl 0) 58)) (.rcons (.vint .u8 (.icell (tv 1) (tl 0) 59)) (.rcons (.vint .u8 (.icell (tv 1) (tl 0) 60)) (.rcons (.vint .u8 (.icell (tv 1) (tl 0) 61)) (.rcons (.vint .u8 (.icell (tv 1) (tl 0) 62)) (.rcons (.vint .u8 (.icell (tv 1) (tl 0) 63)) (.rcons (.vint .u8 (.icell (tv 1) (tl 0) 64)) (.rcons (.vint .u8 (.icell (tv 1) (tl 0) 65)) (.rcons (.vint .u8 (.icell (tv 1) (tl 0) 66)) (.rcons (.vint .u8 (.icell (tv 1) (tl 0) 67)) (.rcons (.vint .u8 (.icell (tv 1) (tl 0) 68)) (.rcons (.vint .u8 (.icell (tv 1) (tl 0) 69)) (.rcons (.vint .u8 (.icell (tv 1) (tl 0) 70)) (.rcons (.vint .u8 (.icell (tv 1) (tl 0) 71)) (.rcons (.vint .i64 (.icell (tv 1) (tl 0) 72)) .rnil))))))))))))))))))))))))))))))))))))))))))))))))))))))))))))))))))))))))),bt 1008 (tl 0),bt 1007 (.arith .mul .u64 (.conv .u64 (.icell (tv 1) (tl 0) 72)) (tl 8)),bt 1006 (.arith .sub .i64 (tl 64) (.arith .rem .i64 (.arith .add .i64 (.icell (tv 1) (tl 0) 72) (tl 8)) (tl 64))),bg 1004 6,bg 1002 5,bg 1000 4]) (fr 7 9 (.hyp 0 7 (.br (.cmp .lss (tv 15) (tl 8))
 (.need (.cmp .geq (.arith .sub .i64 (tl 56) (.arith .mul .i64 (tl 8) (tv 15))) (tl 0)) (.need (.cmp .leq (tl 0) (.arith .add .i64 (tv 13) (tv 15))) (.need (.cmp .lss (.arith .add .i64 (tv 13) (tv 15)) (tl 72)) (.need (.cmp .lss (tl 0) (.dlen (tv 12))) (.back 0 7 (sg 1000 [bt 1005 (.c3 (.xput 0) (tv 12) (.arith .add .i64 (tv 13) (tv 15)) (.vint .u8 (.conv .u8 (.arith .shr .u64 (tv 14) (.arith .sub .i64 (tl 56) (.arith .mul .i64 (tl 8) (tv 15))))))),bv 1003 10,bt 1008 (.arith .add .i64 (tv 15) (tl 1)),bv 1007 14,bv 1006 13,bg 1004 11,bg 1002 9,bg 1000 7]))))))
 (.need (.cmp .leq (tl 0) (.arith .add .i64 (tv 13) (tl 8))) (.need (.cmp .leq (.arith .add .i64 (tv 13) (tl 8)) (tl 72)) (.need (.cmp .lss (tl 0) (.dlen (tv 12))) (.pre 0 qyU (.both (.fresh 16 (.post 0 0 qyU 16 (.fresh 17 (.inv 1 18 (sg 1000 [bt 1005 z8,bv 1003 16,bt 1006 (tl 0),bg 1004 17,bg 1002 9,bg 1000 7]) (fr 18 7 (.hyp 1 18 (.br (.cmp .lss (tv 24) (tl 32))
 (.need (.cmp .lss (tl 0) (.dlen (tv 21))) (.need (.cmp .leq (tl 0) (.arith .quo .i64 (tv 24) (tl 4))) (.need (.cmp .lss (.arith .quo .i64 (tv 24) (tl 4)) (tl 8)) (.need (.cmp .geq (.arith .sub .i64 (tl 24) (.arith .mul .i64 (tl 8) (.arith .rem .i64 (tv 24) (tl 4)))) (tl 0)) (.need (.cmp .leq (tl 0) (tv 24)) (.need (.cmp .lss (tl 0) (.dlen (tv 23))) (.back 1 18 (sg 1000 [bt 1005 (.c3 (.xput 0) (tv 23) (tv 24) (.vint .u8 (.conv .u8 (.arith .shr .u32 (.c2 (.xint 0) (tv 21) (.arith .quo .i64 (tv 24) (tl 4))) (.arith .sub .i64 (tl 24) (.arith .mul .i64 (tl 8) (.arith .rem .i64 (tv 24) (tl 4)))))))),bv 1003 21,bt 1006 (.arith .add .i64 (tv 24) (tl 1)),bg 1004 22,bg 1002 20,bg 1000 18]))))))))
 (.need (.cmp .lss (tl 0) (.dlen (tv 23))) (.ret 0 (sg 4 [bt 4 (.rcons (.vint .u8 (.icell (tv 23) (tl 0) 0)) (.rcons (.vint .u8 (.icell (tv 23) (tl 0) 1)) (.rcons (.vint .u8 (.icell (tv 23) (tl 0) 2)) (.rcons (.vint .u8 (.icell (tv 23) (tl 0) 3)) (.rcons (.vint .u8 (.icell (tv 23) (tl 0) 4)) (.rcons (.vint .u8 (.icell (tv 23) (tl 0) 5)) (.rcons (.vint .u8 (.icell (tv 23) (tl 0) 6)) (.rcons (.vint .u8 (.icell (tv 23) (tl 0) 7)) (.rcons (.vint .u8 (.icell (tv 23) (tl 0) 8)) (.rcons (.vint .u8 (.icell (tv 23) (tl 0) 9)) (.rcons (.vint .u8 (.icell (tv 23) (tl 0) 10)) (.rcons (.vint .u8 (.icell (tv 23) (tl 0) 11)) (.rcons (.vint .u8 (.icell (tv 23) (tl 0) 12)) (.rcons (.vint .u8 (.icell (tv 23) (tl 0) 13)) (.rcons (.vint .u8 (.icell (tv 23) (tl 0) 14)) (.rcons (.vint .u8 (.icell (tv 23) (tl 0) 15)) (.rcons (.vint .u8 (.icell (tv 23) (tl 0) 16)) (.rcons (.vint .u8 (.icell (tv 23) (tl 0) 17)) (.rcons (.vint .u8 (.icell (tv 23) (tl 0) 18)) (.rcons (.vint .u8 (.icell (tv 23) (tl 0) 19)) (.rcons (.vint .u8 (.icell (tv 23) (tl 0) 20)) (.rcons (.vint .u8 (.icell (tv 23) (tl 0) 21)) (.rcons (.vint .u8 (.icell (tv 23) (tl 0) 22)) (.rcons (.vint .u8 (.icell (tv 23) (tl 0) 23)) (.rcons (.vint .u8 (.icell (tv 23) (tl 0) 24)) (.rcons (.vint .u8 (.icell (tv 23) (tl 0) 25)) (.rcons (.vint .u8 (.icell (tv 23) (tl 0) 26)) (.rcons (.vint .u8 (.icell (tv 23) (tl 0) 27)) (.rcons (.vint .u8 (.icell (tv 23) (tl 0) 28)) (.rcons (.vint .u8 (.icell (tv 23) (tl 0) 29)) (.rcons (.vint .u8 (.icell (tv 23) (tl 0) 30)) (.rcons (.vint .u8 (.icell (tv 23) (tl 0) 31)) .rnil))))))))))))))))))))))))))))))))])))))))))) .top)))))))))))))
theorem q9u:qn Tryz.prog qnU [qid] [q9y,q9N] q6W:=qh Tryz.func98 Tryz.call98 (by kernel_rfl)
def qtx:Out:=(.fresh 8 (.pre 0 (sg 0 []) (.both (fr 9 2 (.post 0 0 (sg 0 []) 9 (.pre 1 (sg 0 [bv 9 7,bv 7 5,bv 6 4,bv 1 10,bv 5 3,bv 4 2,bv 3 1,bg 2 0,bg 0 9,bg 8 6]) (.both (.fresh 11 (.post 1 0 (sg 0 [bv 9 7,bv 7 5,bv 6 4,bv 1 10,bv 5 3,bv 4 2,bv 3 1,bg 2 0,bg 0 9,bg 8 6]) 11 (.pre 2 (sg 0 [bv 3 7,bv 1 11,bg 0 9,bg 2 6]) (.both (.fresh 12 (.post 2 0 (sg 0 [bv 3 7,bv 1 11,bg 0 9,bg 2 6]) 12 (.ret 0 (sg 8 [bt 8 (r8 12)])))) .top)))) .top)))) .top)))
theorem q3q:qn Tryz.prog qcG [qeG,qii,qnU] [] qtx:=qh Tryz.func59 Tryz.call59 (by kernel_rfl)
theorem q4j:ql2.ok Tryz.prog:=q5w (by simp) fun Z hg hp=>by
 obtain ⟨hx,n,n1,n2,hn⟩:=hp
 simp [qyB,ql2,qrk]
 rw [hn]
 have e1:=q6P ⟨n - 1,by omega⟩
 have e2:=q6N ⟨n - 1,by omega⟩
 simp only [] at e1 e2
 have e3:(((n - 1:Nat):Int) + 1) = (n:Int):=by omega
 rw [e3] at e1 e2
 rw [e1]
 refine ⟨by omega,by rw [e2]; omega,fun k k1 k2 hk=>?_⟩
 obtain rfl:k = n:=by omega
 rw [<- e1]
 exact q8G hx n1 n2
set_option maxRecDepth 20000 in
set_option pp.deepTerms true in
set_option pp.maxSteps 1000000 in
theorem qyt:qkK.ok Tryz.prog:=q7A (by simp [q4j]) fun Z hg hp=>by
 obtain ⟨hh,hgr,hgd⟩:=hp
 simp (config:={ maxSteps:=2000000 }) [q2z,qkK,q6X,q6L,q6A,q6U,ql2,qrk,st8,q9L]
 refine ⟨⟨⟨_,rfl,rfl⟩,fun j hj=>absurd hj (by omega)⟩,fun w _ n _ a0 a1 hA=>⟨fun hlt=>?_,fun hge=>⟨?_,fun w _ n _ b0 b1 hB=>⟨fun hlt=>?_,fun hge=>⟨?_,⟨?_,?_,?_⟩,?_⟩⟩⟩⟩⟩
 ·obtain ⟨t,ht⟩:∃ t:Nat,n.i = t:=⟨n.i.toNat,by omega⟩
  have m0:qe .mul .i64 4 n.i = ((4 * t:Nat):Int):=by rw [qcx (by omega) (by omega)]; omega
  have m1:qe .add .i64 (qe .mul .i64 4 n.i) 1 = ((4 * t + 1:Nat):Int):=by rw [m0,add64 (by omega) (by omega)]; omega
  have m2:qe .add .i64 (qe .mul .i64 4 n.i) 2 = ((4 * t + 2:Nat):Int):=by rw [m0,add64 (by omega) (by omega)]; omega
  have m3:qe .add .i64 (qe .mul .i64 4 n.i) 3 = ((4 * t + 3:Nat):Int):=by rw [m0,add64 (by omega) (by omega)]; omega
  have m5:qe .add .i64 n.i 1 = ((t + 1:Nat):Int):=by rw [add64 (by omega) (by omega)]; omega
  rw [m1,m2,m3,m0,m5]
  rw [ht,jav] at hA
  rw [ht]
  simp only [jav]
  have e1:=qac hh.1
  have e2:=qac hA.1
  refine ⟨by omega,by omega,by omega,by omega,by omega,by omega,by omega,by omega,by omega,by omega,by omega,by omega,⟨by omega,by omega,qp4 hA (by omega) ?_⟩,by omega⟩
  rw [q59,q0G (by rw [qtB]; omega),q5X (by omega),jdn (4 * t) 8,jdn (4 * t + 1) 8,jdn (4 * t + 2) 8,jdn (4 * t + 3) 8]
 ·have:n.i = 16:=by omega
  rw [this] at hA; exact hA
 ·obtain ⟨t,ht⟩:∃ t:Nat,n.i = ((16 + t:Nat):Int):=⟨n.i.toNat - 16,by omega⟩
  have m15:qe .sub .i64 n.i 15 = ((1 + t:Nat):Int):=by rw [qep (by omega) (by omega)]; omega
  have m2:qe .sub .i64 n.i 2 = ((14 + t:Nat):Int):=by rw [qep (by omega) (by omega)]; omega
  have m16:qe .sub .i64 n.i 16 = (t:Int):=by rw [qep (by omega) (by omega)]; omega
  have m7:qe .sub .i64 n.i 7 = ((9 + t:Nat):Int):=by rw [qep (by omega) (by omega)]; omega
  have m5:qe .add .i64 n.i 1 = ((16 + t + 1:Nat):Int):=by rw [add64 (by omega) (by omega)]; omega
  rw [m15,m2,m16,m7,m5]
  rw [ht,jav] at hB
  rw [ht]
  simp only [jav]
  have e2:=qac hB.1
  refine ⟨by omega,by omega,by omega,by omega,by omega,⟨qea hB (by omega),7,by omega,by omega,rfl⟩,fun r1 _ g1=>⟨⟨qea hB (by omega),18,by omega,by omega,rfl⟩,fun r2 _ g2=>⟨⟨qea hB (by omega),17,by omega,by omega,rfl⟩,fun r3 _ g3=>⟨⟨qea hB (by omega),19,by omega,by omega,rfl⟩,fun r4 _ g4=>⟨by omega,by omega,by omega,by omega,by omega,⟨by omega,by omega,qp4 hB (by omega) ?_⟩,by omega⟩⟩⟩⟩⟩
  rw [g1 7 (by omega) (by omega) rfl,g2 18 (by omega) (by omega) rfl,g3 17 (by omega) (by omega) rfl,g4 19 (by omega) (by omega) rfl]
  rw [qBe (qea hB (by omega)),qAH (qea hB (by omega))]
  simp only [qmR,q66,qeP]
  rw [qhZ hB (by omega:1 + t < 16 + t),qhZ hB (by omega:14 + t < 16 + t),qhZ hB (by omega:t < 16 + t),qhZ hB (by omega:9 + t < 16 + t),qxJ qtB (by omega)]
  generalize (qay (qdv (Z 1).d) 48).getD (1 + t) 0 = p1
  generalize (qay (qdv (Z 1).d) 48).getD (14 + t) 0 = p14
  generalize (qay (qdv (Z 1).d) 48).getD (9 + t) 0 = p9
  generalize (qay (qdv (Z 1).d) 48).getD t 0 = p0
  refine congrArg ofW ?_
  simp only [sg0,sg1]
  ac_rfl
 ·rw [qac hh.1]; decide
 ·have:n.i = 64:=by omega
  rw [this] at hB; exact hB
 ·simp only [qeb]
  exact ⟨hh.2.1 0 (by omega),hh.2.1 1 (by omega),hh.2.1 2 (by omega),hh.2.1 3 (by omega),hh.2.1 4 (by omega),hh.2.1 5 (by omega),hh.2.1 6 (by omega),hh.2.1 7 (by omega)⟩
 ·simp only [qeb]; rfl
 ·intro w _ n _ A _ B _ C _ D _ E _ F _ G _ H _ d0 d1 hW iA iB iC iD iE iF iG iH hR
  refine ⟨fun hlt=>?_,fun hge=>⟨⟨?_,?_,hh,fun j hj=>absurd hj (by omega)⟩,?_⟩⟩
  ·obtain ⟨t,ht⟩:∃ t:Nat,n.i = t:=⟨n.i.toNat,by omega⟩
   have m5:qe .add .i64 n.i 1 = ((t + 1:Nat):Int):=by rw [add64 (by omega) (by omega)]; omega
   rw [m5]
   rw [ht,jav] at hR
   rw [ht]
   simp only [jav]
   have e1:=qac hW.1
   refine ⟨⟨iE,6,by omega,by omega,rfl⟩,fun r1 _ g1=>⟨⟨iE,11,by omega,by omega,rfl⟩,fun r2 _ g2=>⟨⟨iE,25,by omega,by omega,rfl⟩,fun r3 _ g3=>⟨hgr,by omega,by rw [hgd]; decide,by omega,⟨iA,2,by omega,by omega,rfl⟩,fun r4 _ g4=>⟨⟨iA,13,by omega,by omega,rfl⟩,fun r5 _ g5=>⟨⟨iA,22,by omega,by omega,rfl⟩,fun r6 _ g6=>⟨⟨by omega,by omega,hW,⟨?_,iA,iB,iC,?_,iE,iF,iG⟩,?_⟩,by omega⟩⟩⟩⟩⟩⟩⟩
   ·rw [qmR]; exact qmU
   ·rw [qmR]; exact qmU
   ·rw [g1 6 (by omega) (by omega) rfl,g2 11 (by omega) (by omega) rfl,g3 25 (by omega) (by omega) rfl,g4 2 (by omega) (by omega) rfl,g5 13 (by omega) (by omega) rfl,g6 22 (by omega) (by omega) rfl]
    simp only [qmR,q66,qAE,q6d,qeP,q9O,q82]
    rw [qhZ hW (by omega),hgd,q1Q (by omega),qwF,<- hR,q19 (by omega)]
    rfl
  ·intro j hj
   match j,hj with
   | 0,_=>exact iA
   | 1,_=>exact iB
   | 2,_=>exact iC
   | 3,_=>exact iD
   | 4,_=>exact iE
   | 5,_=>exact iF
   | 6,_=>exact iG
   | 7,_=>exact iH
  ·have:n.i = 64:=by omega
   rw [this] at hR; exact hR
  ·intro v _ n2 _ d _ f0 f1 hv hR2 hd hlo hhi
   have hrow:∀ j,j < 8->qa [[.int .u32 (qa v.d 0),.int .u32 (qa v.d 1),.int .u32 (qa v.d 2),.int .u32 (qa v.d 3),.int .u32 (qa v.d 4),.int .u32 (qa v.d 5),.int .u32 (qa v.d 6),.int .u32 (qa v.d 7)]] j = qa v.d j:=fun j hj=>qAZ (f:=qa v.d) hj
   generalize [[Value.int .u32 (qa v.d 0),.int .u32 (qa v.d 1),.int .u32 (qa v.d 2),.int .u32 (qa v.d 3),.int .u32 (qa v.d 4),.int .u32 (qa v.d 5),.int .u32 (qa v.d 6),.int .u32 (qa v.d 7)]] = e at hrow ⊢
   refine ⟨fun hlt=>?_,fun hge=>⟨hd,?_,fun j hj=>hhi j (by omega)⟩⟩
   ·obtain ⟨t,ht⟩:∃ t:Nat,n2.i = t:=⟨n2.i.toNat,by omega⟩
    have m5:qe .add .i64 n2.i 1 = ((t + 1:Nat):Int):=by rw [add64 (by omega) (by omega)]; omega
    rw [m5]
    rw [ht] at hlo hhi ⊢
    simp only [jav]
    have e1:=qac hd.1
    refine ⟨by omega,by omega,⟨by omega,by omega,fun j hj=>by rw [hrow j hj]; exact hv j hj,by rw [qo9 hrow]; exact hR2,qxG hd (by omega) (by rw [qmR]; exact qmU),fun j hj=>?_,fun j hj=>?_⟩,by omega⟩
    ·by_cases ej:j = t
     ·rw [ej,qer hd.1 (by omega),qmR,hhi t (by omega),hrow t (by omega)]
     ·rw [qba ej,hlo j (by omega),hrow j (by omega)]
    ·rw [qba (by omega),hhi j (by omega)]
   ·have hc:∀ j,j < 8->toW (qa d.d j) = toW (qa (Z 1).d j) + toW (qa v.d j):=fun j hj=>by rw [hlo j (by omega),qeP]
    have h8:∀ (x:List (List Value)),qv2 (qf x 8) = ⟨toW (qa x 0),toW (qa x 1),toW (qa x 2),toW (qa x 3),toW (qa x 4),toW (qa x 5),toW (qa x 6),toW (qa x 7)⟩:=fun x=>rfl
    unfold qjR
    rw [<- hR2]
    simp only [stW,h8,q9d]
    rw [hc 0 (by omega),hc 1 (by omega),hc 2 (by omega),hc 3 (by omega),hc 4 (by omega),hc 5 (by omega),hc 6 (by omega),hc 7 (by omega)]
set_option maxRecDepth 20000 in
theorem qpP:qeG.ok Tryz.prog:=qzM (by simp) fun Z hg hp=>by
 simp [qrw,qeG]
 exact q17
theorem qvv:qii.ok Tryz.prog:=q6g (by simp [qyt]) fun Z hg hp=>by
 obtain ⟨⟨m0,hm0,hl0⟩,o0,l0,lc,l1,hle,hB,hGr,hGd⟩:=hp
 simp (config:={ maxSteps:=2000000 }) [qyE,qii,q2e,qkK,gOk]
 have hnil:=qac hm0.1.1
 refine ⟨fun h=>by rw [h] at hnil; simp at hnil,fun _=>⟨⟨l0,lc,fun m h=>by simpa [qbT] using h⟩,fun o _ l _ c _ d _ a0 a1 a2 a3 hH=>⟨a0,fun hpos=>?_,fun hz m h=>?_⟩⟩⟩
 ·have hM:=hH m0 hm0
  obtain ⟨O,hO⟩:∃ O:Nat,(Z 3).i = O:=⟨(Z 3).i.toNat,by omega⟩
  obtain ⟨L,hL⟩:∃ L:Nat,l.i = L:=⟨l.i.toNat,by omega⟩
  obtain ⟨A,hA⟩:∃ A:Nat,(Z 4).i - l.i = A:=⟨((Z 4).i - l.i).toNat,by omega⟩
  have ho:=a3 hpos
  rw [hA] at ho
  rw [hO,hA] at hH hM
  have hOA:O + A + L <= (Z 6).d.length:=by omega
  have hsl:=q55 (d:=(Z 6).d) (o:=O) (a:=A) (by omega)
  have hML:qa d.d 72 = ((m0 ++ qbT (Z 6).d O A).length:Nat):=hM.2.2.1
  have hMl:(m0 ++ qbT (Z 6).d O A).length = m0.length + A:=by rw [jal,hsl]
  have hrem:qe .rem .i64 (qb d.d 0 72) 64 = (((m0.length + A) % 64:Nat):Int):=by rw [qeb,hML,hMl,q0e]
  rw [hrem]
  obtain ⟨r,hr⟩:∃ r,(m0.length + A) % 64 = r:=⟨_,rfl⟩
  have hrlt:r < 64:=by omega
  rw [hr]
  obtain ⟨n,hn⟩:∃ n:Nat,(if l.i < 64 - (r:Int) then l.i else 64 - (r:Int)) = (n:Int):=by
   split
   ·exact ⟨L,hL⟩
   ·exact ⟨64 - r,by omega⟩
  have hnL:n <= L/\r + n <= 64/\0 < n/\(r + n = 64∨n = L):=by split at hn <;> omega
  rw [hn]
  have hoff:(if (64:Int) = (r:Int) then (8:Int) else 8 + (r:Int)).toNat = 8 + r:=by
   rw [jaf (by omega)]; omega
  have hx:List.take ((n:Nat):Int).toNat (List.take l.i.toNat (List.drop o.i.toNat (Z 6).d)) = ((Z 6).d.drop (O + A)).take n:=by
   rw [jfh,jav,show min n l.i.toNat = n by omega,show o.i.toNat = O + A by omega]
  rw [hoff,hx]
  obtain ⟨x,hxe⟩:∃ x,((Z 6).d.drop (O + A)).take n = x:=⟨_,rfl⟩
  have hxl:x.length = n:=by rw [<- hxe,jba,jch]; omega
  have hxB:qp x:=by rw [<- hxe]; exact q5v hB
  have hmore:∀ m:List Int,(m ++ qbT (Z 6).d O A) ++ bI x = m ++ qbT (Z 6).d (Z 3).i ((Z 4).i - (l.i - (n:Int))):=fun m=>by
   rw [jbs,<- hxe,q2w (by omega),hO,show (Z 4).i - (l.i - (n:Int)) = ((A + n:Nat):Int) by omega]
  have hmod:∀ m,qak (Z 1).d m->(m ++ qbT (Z 6).d O A).length % 64 = r:=fun m h=>by
   rw [jal,hsl,qkM h hm0]; exact hr
  rw [hxe,qsm hM.1 (by omega) (by omega) (by omega) (by omega)]
  have hsum:qe .add .i64 (r:Int) (n:Int) = ((r + n:Nat):Int):=by rw [add64 (by omega) (by omega)]; omega
  rw [hsum]
  have hd1:=qac hM.1.1
  have hcame:=qiT hM.1 hxB (r:=r) (by omega)
  have hlast:((n:Int) < l.i->(if c.i = (n:Int) then o.i else o.i + (n:Int)) = (Z 3).i + ((Z 4).i - (l.i - (n:Int)))):=fun hlt=>by
   rw [jaf (by omega)]; omega
  refine ⟨by omega,by omega,by omega,by omega,by omega,by omega,by omega,by omega,by omega,by omega,by omega,by omega,fun hfull=>⟨⟨hcame.row,hGr,hGd⟩,fun f _ hf hst hk=>⟨⟨by omega,by omega,by omega,hlast,fun m h=>?_⟩,by omega⟩⟩,fun hnot=>⟨⟨by omega,by omega,by omega,hlast,fun m h=>?_⟩,by omega⟩⟩
  ·rw [<- hmore m]
   exact qrA (hH m h) hxB (hmod m h) (by omega) hf hst (hk 72 (by omega))
  ·rw [<- hmore m]
   exact qsy (hH m h) hxB (hmod m h) (by omega)
 ·have hl:l.i = 0:=by omega
  have:=hH m h
  rw [hl,Int.sub_zero] at this
  exact this
set_option maxRecDepth 20000 in
theorem q0n:qid.ok Tryz.prog:=q0A (by simp [qyt]) fun Z hg hp=>by
 obtain ⟨⟨m0,hm0,hl0⟩,l0,l1,lc,hrow,hB,hGr,hGd⟩:=hp
 simp (config:={ maxSteps:=2000000 }) [qsi,qid,qwE,qkK,gOk]
 have hnil:=qac hm0.1.1
 have hnil5:=qac hrow
 refine ⟨fun h=>by rw [h] at hnil; simp at hnil,fun _=>⟨⟨l0,lc,fun m h=>by simpa [qdx] using h⟩,fun o _ l _ c _ d _ a0 a1 a2 a3 hH=>⟨a0,fun hpos=>?_,fun hz m h=>?_⟩⟩⟩
 ·have hM:=hH m0 hm0
  obtain ⟨L,hL⟩:∃ L:Nat,l.i = L:=⟨l.i.toNat,by omega⟩
  obtain ⟨A,hA⟩:∃ A:Nat,(Z 3).i - l.i = A:=⟨((Z 3).i - l.i).toNat,by omega⟩
  have ho:=a3 hpos
  rw [hA] at ho
  rw [hA] at hH hM
  have hsl:=qt8 (d:=(Z 5).d) (a:=A) (by omega)
  have hML:qa d.d 72 = ((m0 ++ qdx (Z 5).d 0 A).length:Nat):=hM.2.2.1
  have hMl:(m0 ++ qdx (Z 5).d 0 A).length = m0.length + A:=by rw [jal,hsl]
  have hrem:qe .rem .i64 (qb d.d 0 72) 64 = (((m0.length + A) % 64:Nat):Int):=by rw [qeb,hML,hMl,q0e]
  rw [hrem]
  obtain ⟨r,hr⟩:∃ r,(m0.length + A) % 64 = r:=⟨_,rfl⟩
  have hrlt:r < 64:=by omega
  rw [hr]
  obtain ⟨n,hn⟩:∃ n:Nat,(if l.i < 64 - (r:Int) then l.i else 64 - (r:Int)) = (n:Int):=by
   split
   ·exact ⟨L,hL⟩
   ·exact ⟨64 - r,by omega⟩
  have hnL:n <= L/\r + n <= 64/\0 < n/\(r + n = 64∨n = L):=by split at hn <;> omega
  rw [hn]
  have hoff:(if (64:Int) = (r:Int) then (8:Int) else 8 + (r:Int)).toNat = 8 + r:=by
   rw [jaf (by omega)]; omega
  have hx:List.take ((n:Nat):Int).toNat (qbh (Z 5).d o.i.toNat l.i.toNat) = qbh (Z 5).d A n:=by
   rw [jav,qzA (by omega),show o.i.toNat = A by omega]
  rw [hoff,hx]
  obtain ⟨x,hxe⟩:∃ x,qbh (Z 5).d A n = x:=⟨_,rfl⟩
  have hxl:x.length = n:=by rw [<- hxe,qlx hrow (by omega)]
  have hxB:qp x:=by rw [<- hxe]; exact qpL hrow hB
  have hmore:∀ m:List Int,(m ++ qdx (Z 5).d 0 A) ++ bI x = m ++ qdx (Z 5).d 0 ((Z 3).i - (l.i - (n:Int))):=fun m=>by
   rw [jbs,<- hxe,qnY hrow,q39,show (Z 3).i - (l.i - (n:Int)) = ((A + n:Nat):Int) by omega]
  have hmod:∀ m,qak (Z 1).d m->(m ++ qdx (Z 5).d 0 A).length % 64 = r:=fun m h=>by
   rw [jal,hsl,qkM h hm0]; exact hr
  rw [hxe,qsm hM.1 (by omega) (by omega) (by omega) (by omega)]
  have hsum:qe .add .i64 (r:Int) (n:Int) = ((r + n:Nat):Int):=by rw [add64 (by omega) (by omega)]; omega
  rw [hsum]
  have hd1:=qac hM.1.1
  have hcame:=qiT hM.1 hxB (r:=r) (by omega)
  have hlast:((n:Int) < l.i->(if c.i = (n:Int) then o.i else o.i + (n:Int)) = (Z 3).i - (l.i - (n:Int))):=fun hlt=>by
   rw [jaf (by omega)]; omega
  refine ⟨by omega,by omega,by omega,by omega,by omega,by omega,by omega,by omega,by omega,by omega,by omega,by omega,by omega,fun hfull=>⟨⟨hcame.row,hGr,hGd⟩,fun f _ hf hst hk=>⟨⟨by omega,by omega,by omega,hlast,fun m h=>?_⟩,by omega⟩⟩,fun hnot=>⟨⟨by omega,by omega,by omega,hlast,fun m h=>?_⟩,by omega⟩⟩
  ·rw [<- hmore m]
   exact qrA (hH m h) hxB (hmod m h) (by omega) hf hst (hk 72 (by omega))
  ·rw [<- hmore m]
   exact qsy (hH m h) hxB (hmod m h) (by omega)
 ·have hl:l.i = 0:=by omega
  have:=hH m h
  rw [hl,Int.sub_zero] at this
  exact this
set_option maxRecDepth 20000 in
set_option maxHeartbeats 800000 in
theorem q2s:qnU.ok Tryz.prog:=q9u (by simp [q0n]) fun Z hg hp=>by
 obtain ⟨⟨m0,hm0,hl0⟩,hGr,hGd⟩:=hp
 simp (config:={ maxSteps:=2000000 }) [q6W,qnU,q9y,q9N,qid,gOk]
 have hnil:=qac hm0.1.1
 have hL:qa (Z 1).d 72 = (m0.length:Int):=hm0.2.2.1
 have hlen:∀ m,qak (Z 1).d m->m.length = m0.length:=fun m h=>qkM h hm0
 have hn8:qe .sub .i64 64 (qe .rem .i64 (qe .add .i64 (qb (Z 1).d 0 72) 8) 64) = 64 - (qa (Z 1).d 72 + 8) % 64:=by
  rw [qeb,add64 (by omega) (by omega),hL,show ((m0.length:Int) + 8) = ((m0.length + 8:Nat):Int) by omega,q0e,qep (by omega) (by omega)]
  omega
 refine ⟨fun h=>by rw [h] at hnil; simp at hnil,fun _=>⟨by omega,⟨?_,?_,hn8,?_,⟨_,rfl,rfl⟩,fun j hj=>?_⟩,fun d _ p _ n _ v _ t _ t0 t1 hd1 hd2 hn hv hp1 hp2=>⟨fun hlt=>?_,fun hge=>⟨?_,?_,?_,?_,fun f _ hf=>⟨?_,fun e _ g _ t _ u0 u1 he hst hg1 hg2=>⟨fun hlt=>?_,fun hge=>⟨?_,fun m h=>?_⟩⟩⟩⟩⟩⟩⟩
 ·exact qsQ (f:=qb (Z 1).d 0)
 ·intro j hj
  exact (qsR (f:=qb (Z 1).d 0) hj).trans qeb
 ·rw [qeb,hL]
  have h1:IntKind.u64.wrap (m0.length:Int) = m0.length:=by simp [IntKind.wrap,IntKind.bits,IntKind.signed]; omega
  rw [h1]
  show IntKind.u64.wrap ((m0.length:Int) * 8) = _
  simp [IntKind.wrap,IntKind.bits,IntKind.signed]; omega
 ·have hz:∀ j:Fin 72,qa [Value.int .u8 128 :: List.replicate 71 (Value.int .u8 0)] j.val = if j.val = 0 then 128 else 0:=by decide +kernel
  refine (hz ⟨j,hj⟩).trans ?_
  by_cases e:j = 0
  ·rw [jah e,jah e]
  ·rw [jaf e,jaf e,jaf (by omega)]
 ·obtain ⟨T,hT⟩:∃ T:Nat,t.i = T:=⟨t.i.toNat,by omega⟩
  obtain ⟨N,hN⟩:∃ N:Nat,n.i = N:=⟨n.i.toNat,by omega⟩
  have m1:qe .sub .i64 56 (qe .mul .i64 8 t.i) = ((8 * (7 - T):Nat):Int):=by rw [qcx (by omega) (by omega),qep (by omega) (by omega)]; omega
  have m2:qe .add .i64 n.i t.i = ((N + T:Nat):Int):=by rw [add64 (by omega) (by omega)]; omega
  have m3:qe .add .i64 t.i 1 = ((T + 1:Nat):Int):=by rw [add64 (by omega) (by omega)]; omega
  rw [m1,m2,m3,hT,hN,qyZ (by omega),qiU,hv]
  rw [hT,hN] at hp2
  have e1:=qac hp1
  simp only [jav] at hp2 ⊢
  refine ⟨by omega,by omega,by omega,by omega,⟨by omega,by omega,hd1,hd2,by omega,trivial,qe0 hp1,fun j hj=>?_⟩,by omega⟩
  by_cases ej:j = N + T
  ·rw [ej,qer hp1 (by omega),jaf (by omega),jah ⟨by omega,by omega⟩,qzf (by omega),show N + T - N = T by omega,show 8 - 1 - T = 7 - T by omega]
  ·rw [qba ej,hp2 j hj]
   by_cases e0:j = 0
   ·rw [jah e0,jah e0]
   ·rw [jaf e0,jaf e0]
    by_cases e2:(N:Int) <= j/\j < N + T
    ·rw [jah e2,jah ⟨e2.1,by omega⟩]
    ·rw [jaf e2,jaf (by omega)]
 ·rw [add64 (by omega) (by omega)]; omega
 ·rw [add64 (by omega) (by omega)]; omega
 ·rw [qac hp1]; decide
 ·refine ⟨⟨m0,qjt hm0 hd1 hd2,hl0⟩,by rw [add64 (by omega) (by omega)]; omega,by rw [add64 (by omega) (by omega)]; omega,hp1,fun x hx=>?_,hGr,hGd⟩
  obtain ⟨j,hj,rfl⟩:=q4Q hx
  rw [hp2 j hj]
  split
  ·omega
  ·split
   ·rw [qzf (by omega)]; omega
   ·omega
 ·have hpad:∀ m,qak (Z 1).d m->m ++ qdx p.d 0 (qe .add .i64 n.i 8) = qre m:=fun m h=>by
   have h1:=hlen m h
   have h8:t.i = 8:=by omega
   obtain ⟨N,hN⟩:∃ N:Nat,n.i = N:=⟨n.i.toNat,by omega⟩
   rw [hN,add64 (by omega) (by omega),show ((N:Int) + 8) = ((N + 8:Nat):Int) by omega]
   rw [q8A (n:=N) (v:=qa (Z 1).d 72 * 8) (by omega) (by omega) hp1 (fun j hj=>by
    rw [hp2 j hj,hN,h8]
    by_cases e0:j = 0
    ·rw [jah e0,jah e0]
    ·rw [jaf e0,jaf e0]
     by_cases e2:(N:Int) <= j/\j < (N:Int).toNat + (8:Int).toNat
     ·rw [jah e2,jah ⟨by omega,by have:=e2.2; simp at this; omega⟩,jav]
     ·rw [jaf e2,jaf (by simp at e2; omega)])]
   rw [qre,hL,h1,show N - 1 = 64 - (m0.length + 8) % 64 - 1 by omega]
  refine ⟨(hf m0 (qjt hm0 hd1 hd2)).1,fun m h=>?_,⟨_,rfl,rfl⟩,fun j hj=>absurd hj (by omega)⟩
  have:=hf m (qjt h hd1 hd2)
  rw [hpad m h] at this
  exact this.2.2.2.1
 ·obtain ⟨T,hT⟩:∃ T:Nat,t.i = T:=⟨t.i.toNat,by omega⟩
  have m3:qe .add .i64 t.i 1 = ((T + 1:Nat):Int):=by rw [add64 (by omega) (by omega)]; omega
  have m1:qe .sub .i64 24 (qe .mul .i64 8 (qe .rem .i64 t.i 4)) = ((24 - 8 * (T % 4):Nat):Int):=by
   rw [hT,qAX,qcx (by omega) (by omega),qep (by omega) (by omega)]; omega
  rw [m1,m3,hT,qBk (by omega),q78 (by omega),qiU]
  rw [hT] at hg2
  have e1:=qac hg1
  have e2:=qac he.1
  simp only [jav]
  refine ⟨by omega,by omega,by omega,by omega,by omega,by omega,⟨by omega,by omega,he,hst,qe0 hg1,fun j hj=>?_⟩,by omega⟩
  by_cases ej:j = T
  ·rw [ej,qer hg1 (by omega),qzz he (by omega)]
  ·rw [qba ej,hg2 j (by omega)]
 ·rw [qac hg1]; decide
 ·have h32:t.i = 32:=by omega
  have:sha m = qin (stW e.d):=by rw [hst m h]; rfl
  rw [this]
  refine q8z qp1 fun j hj=>?_
  exact (qnC (f:=qb g.d 0) hj).trans (qeb.trans (hg2 j (by omega)))
set_option maxRecDepth 20000 in
theorem qiO:qcG.ok Tryz.prog:=q3q (by simp [qpP,qvv,q2s]) fun Z hg hp=>by
 obtain ⟨⟨o0,l0,lc,l1,hle,hB⟩,hGr,hGd⟩:=hp
 simp (config:={ maxSteps:=2000000 }) [qtx,qcG,qeG,qii,qnU,gOk]
 refine fun h _ hh=>⟨⟨⟨[],hh,by decide⟩,o0,l0,lc,l1,hle,hB,hGr,hGd⟩,fun g _ hg2=>⟨⟨⟨_,hg2 [] hh,?_⟩,hGr,hGd⟩,fun d _ hd=>?_⟩⟩
 ·have:(qbT (Z 4).d (Z 1).i (Z 2).i).length <= (Z 2).i.toNat:=by simp [qbT]; omega
  simp only [jdb]; omega
 ·exact (show qf _ 32 = qf d.d 32 from rfl).trans (hd _ (by simpa using hg2 [] hh))
def q3y:Out:=(.br (tv 2)
 (.ret 0 (sg 8 [bv 9 2,bt 8 (.bl false)]))
 (.need (.cmp .leq (tl 0) (tv 4)) (.both (.ret 0 (sg 8 [bt 9 (.cmp .gtr (tv 7) (.arith .sub .i64 (tv 1) (tv 4))),bt 8 (.not (.cmp .gtr (tv 7) (.arith .sub .i64 (tv 1) (tv 4))))])) .top)))
theorem q7u:qn Tryz.prog qgZ [] [] q3y:=qh Tryz.func132 Tryz.call132 (by kernel_rfl)
def qwM:Out:=(.pre 0 (sg 0 [bv 6 6,bv 5 5,bv 4 4,bg 3 3,bv 2 2,bv 1 1,bv 7 8,bg 0 0]) (.both (fr 9 2 (.post 0 0 (sg 0 [bv 6 6,bv 5 5,bv 4 4,bg 3 3,bv 2 2,bv 1 1,bv 7 8,bg 0 0]) 9 (.br (tv 9)
 (.need (.beq (.bl false) (tv 10)) (.inv 0 11 (sg 1000 [bv 1003 6,bv 1002 5,bv 1001 4,bg 1000 3,bt 1004 (.arith .sub .i64 (tv 8) (tl 1))]) (fr 11 5 (.hyp 0 11 (.br (.cmp .geq (tv 15) (tl 0))
 (.need (.cmp .geq (.arith .mul .i64 (tl 8) (tv 15)) (tl 0)) (.both (.fresh 16 (.both (.need (.cmp .eql (tv 12) (.dlen (tv 14))) (.need (.cmp .leq (.tims (tl 1) (.plus (tv 12) (tl 1))) (tl 140737488355328)) (fr 17 2 (.both (.both (.both (.back 0 11 (sg 1000 [bt 1003 (.dapp (tv 14) (.rcons (.vint .u8 (.conv .u8 (.arith .shr .u64 (tv 7) (.arith .mul .i64 (tl 8) (tv 15))))) .rnil)),bv 1002 18,bt 1001 (.plus (tv 12) (tl 1)),bg 1000 17,bt 1004 (.arith .sub .i64 (tv 15) (tl 1))])) .top) .top) .top)))) .top)) .top))
 (.ret 0 (sg 9 [bv 13 14,bv 12 13,bv 11 12,bg 10 11,bt 9 (.bl false)])))))))
 (.ret 0 (sg 9 [bv 13 6,bv 12 5,bv 11 4,bg 10 3,bv 9 10]))))) .top))
theorem q1S:qn Tryz.prog qfX [qgZ] [qza] qwM:=qh Tryz.func131 Tryz.call131 (by kernel_rfl)
@[simp] def q3m:Sg:=sg 0 [bv 6 6,bv 5 5,bv 4 4,bg 3 3,bv 2 2,bv 1 1,bt 8 (tl 1),bt 7 (.conv .u64 (tv 7)),bg 0 0]
def q9w:Out:=(.pre 0 q3m (.both (fr 8 5 (.post 0 0 q3m 8 (.ret 0 (sg 8 [bv 12 12,bv 11 11,bv 10 10,bg 9 9,bv 8 8])))) .top))
theorem qA1:qn Tryz.prog u8C [qfX] [] q9w:=qh Tryz.func106 Tryz.call106 (by kernel_rfl)
@[simp] def qyi:Sg:=sg 0 [bv 6 6,bv 5 5,bv 4 4,bg 3 3,bv 2 2,bv 1 1,bt 8 (tl 2),bt 7 (.conv .u64 (tv 7)),bg 0 0]
def q68:Out:=(.pre 0 qyi (.both (fr 8 5 (.post 0 0 qyi 8 (.ret 0 (sg 8 [bv 12 12,bv 11 11,bv 10 10,bg 9 9,bv 8 8])))) .top))
theorem q9l:qn Tryz.prog qui [qfX] [] q68:=qh Tryz.func105 Tryz.call105 (by kernel_rfl)
def qnw:Out:=(.fresh 1 (.ret 0 (sg 1 [bt 2 (.imax (tl 0) (tv 0)),bg 1 1])))
theorem qt9:qn Tryz.prog qfe [] [] qnw:=qh Tryz.func104 Tryz.call104 (by kernel_rfl)
def qyb:Out:=(.pre 0 (sg 0 [bv 6 6,bv 5 5,bv 4 4,bg 3 3,bv 2 2,bv 1 1,bt 7 (tl 32),bg 0 0]) (.both (fr 9 2 (.post 0 0 (sg 0 [bv 6 6,bv 5 5,bv 4 4,bg 3 3,bv 2 2,bv 1 1,bt 7 (tl 32),bg 0 0]) 9 (.br (tv 9)
 (.need (.cmp .eql (tv 4) (.dlen (tv 6))) (.need (.cmp .lss (tl 0) (.dlen (tv 8))) (.need (.cmp .leq (.tims (tl 1) (.plus (tv 4) (tl 32))) (tl 140737488355328)) (fr 11 2 (.ret 0 (sg 9 [bt 13 (.dapp (tv 6) (.c3 .xrows (tv 8) (tl 0) (tl 32))),bv 12 12,bt 11 (.plus (tv 4) (tl 32)),bg 10 11,bv 9 10]))))))
 (.ret 0 (sg 9 [bv 13 6,bv 12 5,bv 11 4,bg 10 3,bv 9 10]))))) .top))
theorem q5U:qn Tryz.prog qmc [qgZ] [] qyb:=qh Tryz.func107 Tryz.call107 (by kernel_rfl)
def q1N:Out:=(.pre 0 (sg 0 [bv 6 6,bv 5 5,bv 4 4,bg 3 3,bv 2 2,bv 1 1,bt 7 (tl 32),bg 0 0]) (.both (fr 9 2 (.post 0 0 (sg 0 [bv 6 6,bv 5 5,bv 4 4,bg 3 3,bv 2 2,bv 1 1,bt 7 (tl 32),bg 0 0]) 9 (.br (tv 9)
 (.need (.cmp .eql (tv 4) (.dlen (tv 6))) (.need (.cmp .lss (tl 0) (.dlen (tv 8))) (.need (.cmp .leq (.tims (tl 1) (.plus (tv 4) (tl 32))) (tl 140737488355328)) (fr 11 2 (.ret 0 (sg 9 [bt 13 (.dapp (tv 6) (.c3 .xrows (tv 8) (tl 4) (tl 32))),bv 12 12,bt 11 (.plus (tv 4) (tl 32)),bg 10 11,bv 9 10]))))))
 (.ret 0 (sg 9 [bv 13 6,bv 12 5,bv 11 4,bg 10 3,bv 9 10]))))) .top))
theorem q72:qn Tryz.prog qpY [qgZ] [] q1N:=qh Tryz.func107 Tryz.call107 (by kernel_rfl)
def qwh:Out:=(.br (.and (.cmp .eql (.dlen (tv 3)) (tl 0)) (.isnil 0))
 (.need (.cmp .eql (tv 1) (tl 0)) (.ret 0 (sg 5 [bt 7 .dnil,bt 6 (tl 0),(5,.nil)])))
 (.fresh 5 (.need (.cmp .leq (tl 0) (tv 1)) (.need (.cmp .leq (tv 1) (.dlen (tv 3))) (.need (.cmp .leq (.tims (tl 1) (tv 1)) (tl 140737488355328)) (fr 6 2 (.ret 0 (sg 5 [bt 7 (.dtake (tv 3) (tv 1)),bv 6 7,bg 5 6]))))))))
theorem q3X:qn Tryz.prog qfW [] [] qwh:=qh Tryz.func91 Tryz.call91 (by kernel_rfl)
def qy6:Out:=(.br (tv 2)
 (.ret 0 (sg 7 []))
 (.pre 0 (sg 0 [bv 4 5,bv 3 6,bv 2 5,bv 1 4,bg 0 3]) (.both (fr 7 3 (.post 0 0 (sg 0 [bv 4 5,bv 3 6,bv 2 5,bv 1 4,bg 0 3]) 7 (.ret 1 (sg 7 [bv 9 9,bv 8 8,bg 7 7])))) .top)))
theorem q4l:qn Tryz.prog ql5 [qfW] [] qy6:=qh Tryz.func108 Tryz.call108 (by kernel_rfl)
theorem q0V {lim:Int} {f:Bool} {m s:List Int} (h:qgt lim f m s.length = true):qfm lim f m s = (true,m):=by rw [qfm,jah h]
theorem qk9 {lim:Int} {f:Bool} {m s:List Int} (h:¬ qgt lim f m s.length = true):qfm lim f m s = (false,m ++ s):=by rw [qfm,jaf h]
theorem qqT:qgZ.ok Tryz.prog:=q7u (by simp) fun Z hg hp=>by
 obtain ⟨⟨w0,w1,w2,w3,w5⟩,k0,k1⟩:=hp
 simp [q3y,qgZ,qbR,qe1,qgt]
 refine ⟨fun h=>⟨fun _=>h,h⟩,fun h=>⟨by omega,?_⟩⟩
 rw [qep (by omega) (by omega),h,bI_len,<- w2]
 simp [qH]
theorem qva:qfe.ok Tryz.prog:=qt9 (by simp) fun Z hg hp=>by
 simp [qnw,qfe]
 omega
theorem qrE:qfW.ok Tryz.prog:=q3X (by simp) fun Z hg hp=>by
 obtain ⟨h0,h1,h2⟩:=hp
 simp [qwh,qfW]
 refine ⟨fun h _=>⟨by rw [h] at h1; simpa using h1,h⟩,fun _=>⟨h0,by omega,h2,?_⟩⟩
 rw [jar (by omega)]
theorem q6k:ql5.ok Tryz.prog:=q4l (by simp [qrE]) fun Z hg hp=>by
 obtain ⟨⟨w0,w1,w2,w3,w5⟩,hq⟩:=hp
 simp [qy6,ql5,qfW,qbR,qe1]
 exact fun hf=>⟨⟨by omega,w2,hq⟩,fun d _ hd=>⟨hf,hd⟩⟩
theorem qpJ {a b:qd}:bI (a ++ b) = bI a ++ bI b:=by simp [bI]
theorem qka {a b:qd} (h:qp a) (h':qp b):qp (a ++ b):=fun r hr=>(jat.1 hr).elim (h r) (h' r)
theorem q2a {lim n c k:Int} {f:Bool} {d x:qd} {s:List Int} (hw:wOk lim n c d) (h:qgt lim f (bI d) k = false) (hx:bI x = s) (hB:qp x) (hk:(x.length:Int) = k) (c2:Int):wOk lim (n + k) c2 (d ++ x)/\(false,bI (d ++ x)) = qfm lim f (bI d) s:=by
 obtain ⟨w0,w1,w2,w3,w5⟩:=hw
 have hs:(s.length:Int) = k:=by rw [<- hx,bI_len,hk]
 have hd:(bI d).length = d.length:=bI_len
 refine ⟨⟨w0,w1,by rw [jal]; omega,?_,qka w5 hB⟩,?_⟩
 ·simp [qgt] at h; omega
 ·rw [qk9 (by rw [hs,h]; decide),qpJ,hx]
theorem qv8 {lim k:Int} {f:Bool} {d:qd} {s:List Int} (h:qgt lim f (bI d) k = true) (hk:(s.length:Int) = k):(true,bI d) = qfm lim f (bI d) s:=by rw [q0V (by rw [hk,h])]
theorem q6v:qmc.ok Tryz.prog:=q5U (by simp [qqT]) fun Z hg hp=>by
 obtain ⟨hw,q,hr,hB⟩:=hp
 simp [qyb,qmc,qgZ,qbR,qe1,qgs]
 have w2:=hw.2.2.1
 refine ⟨hw,fun u _ f _ hf hu=>⟨fun h=>?_,fun h=>⟨hw,?_⟩⟩⟩
 ·have hff:f.b = false:=by rw [h] at hu; simpa using hu.symm
  rw [hff] at hf ⊢
  have hx:bI (qbh (Z 8).d 0 32) = qf (Z 8).d 32:=by rw [qnY hr,jdv,jar (by rw [qde]; decide)]
  refine ⟨w2,by rw [qac hr]; decide,q,fun c _=>q2a hw hf.symm hx (qpL hr hB) (by rw [qlx hr (by omega)]; rfl) _⟩
 ·have hff:f.b = true:=by rw [h] at hu; simpa using hu.symm
  rw [hff] at hf ⊢
  exact qv8 hf.symm (by rw [qde]; rfl)
theorem q8m:qpY.ok Tryz.prog:=q72 (by simp [qqT]) fun Z hg hp=>by
 obtain ⟨hw,q,hr,hB⟩:=hp
 simp [q1N,qpY,qgZ,qbR,qe1,qgs]
 have w2:=hw.2.2.1
 have hlen:((qf (Z 8).d 36).drop 4).length = 32:=by rw [jch,qde]
 refine ⟨hw,fun u _ f _ hf hu=>⟨fun h=>?_,fun h=>⟨hw,?_⟩⟩⟩
 ·have hff:f.b = false:=by rw [h] at hu; simpa using hu.symm
  rw [hff] at hf ⊢
  have h36:(qf (Z 8).d 37).take 36 = qf (Z 8).d 36:=by
   rw [qf,qf,<- jcu]; rfl
  have hx:bI (qbh (Z 8).d 4 32) = (qf (Z 8).d 36).drop 4:=by
   rw [qnY hr,<- h36,List.drop_take]
  have hBx:qp (qbh (Z 8).d 4 32):=fun row hrow=>by
   have h2:qbr row 0 ∈ bI (qbh (Z 8).d 4 32):=jbl.2 ⟨row,hrow,rfl⟩
   rw [hx] at h2; exact hB _ h2
  refine ⟨w2,by rw [qac hr]; decide,q,fun c _=>q2a hw hf.symm hx hBx (by rw [qlx hr (by omega)]; rfl) _⟩
 ·have hff:f.b = true:=by rw [h] at hu; simpa using hu.symm
  rw [hff] at hf ⊢
  exact qv8 hf.symm (by rw [hlen]; rfl)
theorem q5I {v:Int} {n k:Nat} (h:k < n):(beL v n).take (k + 1) = (beL v n).take k ++ [(v.fdiv (2 ^ (8 * (n - 1 - k)))) % 256]:=by
 rw [jeu,jac (by rw [qaN]; exact h)]
 simp [beL]
theorem qso:qfX.ok Tryz.prog:=q1S (by simp [qqT]) fun Z hg hp=>by
 obtain ⟨hw,q,k0,k1,v0,v1⟩:=hp
 simp [qwM,qfX,qza,qgZ,qbR,qe1,qgs]
 have w2:=hw.2.2.1
 have hsub:qe .sub .i64 (Z 8).i 1 = (Z 8).i - 1:=qep (by omega) (by omega)
 obtain ⟨N,hN⟩:∃ N:Nat,(Z 8).i = N:=⟨(Z 8).i.toNat,by omega⟩
 have hbl:((beL (Z 7).i (Z 8).i.toNat).length:Int) = (Z 8).i:=by rw [qaN]; omega
 rw [hsub]
 refine ⟨⟨hw,k0,by omega⟩,fun u _ f _ hf hu=>⟨fun h=>?_,fun h=>⟨hw,?_⟩⟩⟩
 ·have hff:f.b = false:=by rw [h] at hu; simpa using hu.symm
  rw [hff] at hf
  have hfit:(Z 2).b = false/\(Z 8).i <= (Z 1).i - (Z 4).i:=by
   have:=hf.symm
   have hd:(bI (Z 6).d).length = (Z 6).d.length:=bI_len
   simp [qgt] at this
   exact ⟨this.1,by omega⟩
  refine ⟨hff,⟨by omega,by omega,w2,hfit.1,hfit.2,hw.2.2.2.2,.inl (by omega)⟩,fun l _ c _ d _ t _ t0 t1 hl _ _ hB hd=>⟨fun hge=>?_,fun hlt=>?_⟩⟩
  ·obtain ⟨T,hT⟩:∃ T:Nat,t.i = T:=⟨t.i.toNat,by omega⟩
   have m1:qe .mul .i64 8 t.i = ((8 * T:Nat):Int):=by rw [qcx (by omega) (by omega)]; omega
   have m2:qe .sub .i64 t.i 1 = t.i - 1:=qep (by omega) (by omega)
   have hdl:d.d.length = (Z 6).d.length + (N - 1 - T):=by
    have:=congrArg List.length hd
    rw [bI_len,jal,bI_len,jba,qaN] at this
    omega
   rw [m1,m2,qyZ (by omega),qiU]
   refine ⟨by omega,hl,by omega,⟨by omega,by omega,hl,hfit.1,hfit.2,qka hB ?_,?_⟩,by omega⟩
   ·intro row hrow
    obtain rfl:=jaj.1 hrow
    simp [qbr,qaj]; omega
   ·rw [qpJ,hd,jbs,show ((Z 8).i - 1 - (t.i - 1)).toNat = (N - 1 - T) + 1 by omega,show ((Z 8).i - 1 - t.i).toNat = N - 1 - T by omega,show (Z 8).i.toNat = N by omega,q5I (by omega),show N - 1 - (N - 1 - T) = T by omega]
    rfl
  ·have ht:t.i = -1:=by omega
   have hx:bI d.d = bI (Z 6).d ++ beL (Z 7).i (Z 8).i.toNat:=by
    rw [hd,ht,jar (by rw [qaN]; omega)]
   have hdl:(d.d.length:Int) = (Z 6).d.length + (Z 8).i:=by
    have:=congrArg List.length hx
    rw [bI_len,jal,bI_len,qaN] at this
    omega
   obtain ⟨w0,w1,_,w3,w5⟩:=hw
   refine ⟨⟨w0,w1,hl,by omega,hB⟩,?_⟩
   rw [qk9 (by rw [hbl,<- hf]; decide),hx]
 ·have hff:f.b = true:=by rw [h] at hu; simpa using hu.symm
  rw [hff] at hf ⊢
  exact qv8 hf.symm hbl
theorem qAK:u8C.ok Tryz.prog:=qA1 (by simp [qso]) fun Z hg hp=>by
 obtain ⟨hw,q,v0,v1⟩:=hp
 simp [q9w,u8C,qov,qfX,qbR,qe1,qgs]
 have hv:IntKind.u64.wrap (Z 7).i = (Z 7).i:=by simp [IntKind.wrap,IntKind.bits,IntKind.signed]; omega
 rw [hv]
 exact ⟨⟨hw,q,v0,by omega⟩,fun _ _ _ _ _ _ _ _ h1 h2=>⟨h1,h2⟩⟩
theorem qAg:qui.ok Tryz.prog:=q9l (by simp [qso]) fun Z hg hp=>by
 obtain ⟨hw,q,v0,v1⟩:=hp
 simp [q68,qui,qov,qfX,qbR,qe1,qgs]
 have hv:IntKind.u64.wrap (Z 7).i = (Z 7).i:=by simp [IntKind.wrap,IntKind.bits,IntKind.signed]; omega
 rw [hv]
 exact ⟨⟨hw,q,v0,by omega⟩,fun _ _ _ _ _ _ _ _ h1 h2=>⟨h1,h2⟩⟩
theorem qhY {d:qd} {l:Int} (h:l = d.length):qbT d 0 l = bI d:=by
 rw [qbT,h,jav,jdh,jdv,jar (by rw [bI_len]; omega)]
end Go.Proofs
namespace Go.Proofs
open Go Go.Eng
set_option maxRecDepth 20000
def qe1 (f:Nat->Int) (n:Nat):List Value:=(List.range n).map fun j=>.int .u32 (f j)
set_option maxRecDepth 100000
def qub:Out:=(.br (.cmp .leq (tl 1) (tv 0))
 (.br (.cmp .leq (tv 0) (tv 1))
 (.br (.cmp .leq (tv 1) (tv 2))
 (.ret 0 (sg 3 [bt 3 (.cmp .leq (tv 2) (tl 255))]))
 (.ret 0 (sg 3 [bt 3 (.bl false)])))
 (.ret 0 (sg 3 [bt 3 (.bl false)])))
 (.ret 0 (sg 3 [bt 3 (.bl false)])))
theorem q4a:qn Tryz.prog qfK [] [] qub:=qh Tryz.func86 Tryz.call86 (by kernel_rfl)
def quh:Out:=(.fresh 10 (.pre 0 (sg 0 [bv 2 2,bv 1 1,bv 0 0]) (.both (.fresh 11 (.post 0 0 (sg 0 [bv 2 2,bv 1 1,bv 0 0]) 11 (.br (.not (tv 11))
 (.ret 0 (sg 10 [bt 10 (tl 2)]))
 (.br (.cmp .lss (tv 3) (tl 0))
 (.ret 0 (sg 10 [bt 10 (tl 2)]))
 (.br (.cmp .gtr (tv 3) (tl 8192))
 (.ret 0 (sg 10 [bt 10 (tl 2)]))
 (.need (.cmp .leq (tl 0) (tv 6)) (.br (.cmp .neq (tv 6) (tv 2))
 (.ret 0 (sg 10 [bt 10 (tl 2)]))
 (.ret 0 (sg 10 [bt 10 (tl 0)]))))))))) .top)))
theorem q2k:qn Tryz.prog qcI [qfK] [] quh:=qh Tryz.func74 Tryz.call74 (by kernel_rfl)
@[simp] def qnD:Sg:=sg 0 [bv 9 8,bt 7 (tl 2),bt 6 (.dapp (.rcons (.vint .u8 (.conv .u8 (.arith .shr .i64 (tv 0) (tl 8)))) .rnil) (.rcons (.vint .u8 (.conv .u8 (tv 0))) .rnil)),bv 1 11,bt 5 (tl 2),bt 4 (tl 2),bt 3 (tl 0),bg 2 12,bg 0 10,bg 8 7]
def qsr:Out:=(.fresh 9 (.pre 0 (sg 0 []) (.both (fr 10 2 (.post 0 0 (sg 0 []) 10 (.fresh 12 (.pre 1 qnD (.both (.fresh 13 (.post 1 0 qnD 13 (.pre 1 (sg 0 [bv 9 8,bv 7 6,bv 6 5,bv 1 13,bv 5 4,bv 4 3,bv 3 2,bg 2 1,bg 0 10,bg 8 7]) (.both (.fresh 14 (.post 1 0 (sg 0 [bv 9 8,bv 7 6,bv 6 5,bv 1 13,bv 5 4,bv 4 3,bv 3 2,bg 2 1,bg 0 10,bg 8 7]) 14 (.pre 2 (sg 0 [bv 3 8,bv 1 14,bg 0 10,bg 2 7]) (.both (.fresh 15 (.post 2 0 (sg 0 [bv 3 8,bv 1 14,bg 0 10,bg 2 7]) 15 (.ret 0 (sg 9 [bt 9 (r8 15)])))) .top)))) .top)))) .top))))) .top)))
theorem q08:qn Tryz.prog qdg [qeG,qii,qnU] [] qsr:=qh Tryz.func88 Tryz.call88 (by kernel_rfl)
@[simp] def qkv:Sg:=sg 0 [bv 6 52,bv 5 51,bv 4 50,bg 3 49,bv 2 48,bv 1 47,bg 0 46]
@[simp] def qoT:Sg:=sg 0 [bt 6 .dnil,bt 5 (tl 0),bt 4 (tl 0),(3,.nil),bt 2 (.bl false),bv 1 13,bt 7 (tl 19713),bg 0 12]
@[simp] def qpq:Sg:=sg 0 [bt 8 (.rcons (i8 8 53 0) (.rcons (i8 8 53 1) (.rcons (i8 8 53 2) (.rcons (i8 8 53 3) (.rcons (i8 8 53 4) (.rcons (i8 8 53 5) (.rcons (i8 8 53 6) (.rcons (i8 8 53 7) (.rcons (i8 8 53 8) (.rcons (i8 8 53 9) (.rcons (i8 8 53 10) (.rcons (i8 8 53 11) (.rcons (i8 8 53 12) (.rcons (i8 8 53 13) (.rcons (i8 8 53 14) (.rcons (i8 8 53 15) (.rcons (i8 8 53 16) (.rcons (i8 8 53 17) (.rcons (i8 8 53 18) (.rcons (i8 8 53 19) (.rcons (i8 8 53 20) (.rcons (i8 8 53 21) (.rcons (i8 8 53 22) (.rcons (i8 8 53 23) (.rcons (i8 8 53 24) (.rcons (i8 8 53 25) (.rcons (i8 8 53 26) (.rcons (i8 8 53 27) (.rcons (i8 8 53 28) (.rcons (i8 8 53 29) (.rcons (i8 8 53 30) (.rcons (i8 8 53 31) .rnil)))))))))))))))))))))))))))))))),bv 6 52,bv 5 51,bv 4 50,bg 3 49,bv 2 48,bv 1 47,bg 7 54,bg 0 46]
@[simp] def qp6:Sg:=sg 0 [bt 8 (.rcons (.vint .i64 (tv 0)) (.rcons (.vint .i64 (tv 1)) (.rcons (.vint .i64 (tv 2)) (.rcons (.vint .i64 (tv 3)) (.rcons (x8 0 4) (.rcons (x8 1 4) (.rcons (x8 2 4) (.rcons (x8 3 4) (.rcons (x8 4 4) (.rcons (x8 5 4) (.rcons (x8 6 4) (.rcons (x8 7 4) (.rcons (x8 8 4) (.rcons (x8 9 4) (.rcons (x8 10 4) (.rcons (x8 11 4) (.rcons (x8 12 4) (.rcons (x8 13 4) (.rcons (x8 14 4) (.rcons (x8 15 4) (.rcons (x8 16 4) (.rcons (x8 17 4) (.rcons (x8 18 4) (.rcons (x8 19 4) (.rcons (x8 20 4) (.rcons (x8 21 4) (.rcons (x8 22 4) (.rcons (x8 23 4) (.rcons (x8 24 4) (.rcons (x8 25 4) (.rcons (x8 26 4) (.rcons (x8 27 4) (.rcons (x8 28 4) (.rcons (x8 29 4) (.rcons (x8 30 4) (.rcons (x8 31 4) (.rcons (.vslice 5 (tl 0) (tv 6) (tv 7) 32) .rnil))))))))))))))))))))))))))))))))))))),bv 6 40,bv 5 39,bv 4 38,bg 3 37,bv 2 36,bv 1 13,bg 7 10,bg 0 12]
def qu4:Out:=(.fresh 10 (.pre 0 (sg 0 [bv 9 9,bv 8 8,bv 7 7,bv 6 6,bg 5 5,bv 3 3,bv 2 2,bv 1 1,bv 0 0,bt 4 (r8 4)]) (.both (.fresh 11 (.post 0 0 (sg 0 [bv 9 9,bv 8 8,bv 7 7,bv 6 6,bg 5 5,bv 3 3,bv 2 2,bv 1 1,bv 0 0,bt 4 (r8 4)]) 11 (.br (.cmp .neq (tv 11) (tl 0))
 (.need (.cmp .eql (tl 2) (tv 11)) (.ret 0 (sg 10 [])))
 (.pre 1 (sg 0 [bt 0 (.arith .add .i64 (tl 39) (.arith .mul .i64 (tl 32) (tv 2)))]) (.both (fr 12 4 (.post 1 0 (sg 0 [bt 0 (.arith .add .i64 (tl 39) (.arith .mul .i64 (tl 32) (tv 2)))]) 12 (.pre 3 qoT (.both (fr 16 5 (.post 3 0 qoT 16 (.pre 2 (sg 0 [bv 6 20,bv 5 19,bv 4 18,bg 3 17,bv 2 16,bv 1 13,bt 7 (.conv .u8 (tv 0)),bg 0 12]) (.both (fr 21 5 (.post 2 0 (sg 0 [bv 6 20,bv 5 19,bv 4 18,bg 3 17,bv 2 16,bv 1 13,bt 7 (.conv .u8 (tv 0)),bg 0 12]) 21 (.pre 2 (sg 0 [bv 6 25,bv 5 24,bv 4 23,bg 3 22,bv 2 21,bv 1 13,bt 7 (.conv .u8 (tv 1)),bg 0 12]) (.both (fr 26 5 (.post 2 0 (sg 0 [bv 6 25,bv 5 24,bv 4 23,bg 3 22,bv 2 21,bv 1 13,bt 7 (.conv .u8 (tv 1)),bg 0 12]) 26 (.pre 2 (sg 0 [bv 6 30,bv 5 29,bv 4 28,bg 3 27,bv 2 26,bv 1 13,bt 7 (.conv .u8 (tv 2)),bg 0 12]) (.both (fr 31 5 (.post 2 0 (sg 0 [bv 6 30,bv 5 29,bv 4 28,bg 3 27,bv 2 26,bv 1 13,bt 7 (.conv .u8 (tv 2)),bg 0 12]) 31 (.pre 3 (sg 0 [bv 6 35,bv 5 34,bv 4 33,bg 3 32,bv 2 31,bv 1 13,bt 7 (.conv .u16 (tv 3)),bg 0 12]) (.both (fr 36 5 (.post 3 0 (sg 0 [bv 6 35,bv 5 34,bv 4 33,bg 3 32,bv 2 31,bv 1 13,bt 7 (.conv .u16 (tv 3)),bg 0 12]) 36 (.pre 4 qp6 (.both (fr 41 5 (.post 4 0 qp6 41 (.need (.cmp .leq (tl 0) (tv 6)) (.inv 0 46 (sg 1000 [bv 1006 45,bv 1005 44,bv 1004 43,bg 1003 42,bv 1002 41,bv 1001 13,bt 1007 (tl 0),bg 1000 12]) (fr 46 8 (.hyp 0 46 (.br (.cmp .lss (tv 53) (tv 6))
 (.need (.cmp .leq (tl 0) (tv 53)) (.need (.cmp .lss (tv 53) (.dlen (tv 8))) (.fresh 54 (.pre 5 qpq (.both (fr 55 5 (.post 5 0 qpq 55 (.back 0 46 (sg 1000 [bv 1006 59,bv 1005 58,bv 1004 57,bg 1003 56,bv 1002 55,bv 1001 47,bt 1007 (.arith .add .i64 (tv 53) (tl 1)),bg 1000 46])))) .top)))))
 (.pre 6 qkv (.both (.post 6 0 qkv 54 (.stuck 7 0 0)) (.both (fr 54 4 (.post 6 1 qkv 54 (.ret 1 (sg 10 [bv 13 56,bv 12 55,bv 11 50,bg 10 54])))) .top)))))))))) .top)))) .top)))) .top)))) .top)))) .top)))) .top)))) .top))))) .top)))
theorem q3p:qn Tryz.prog qj4 [qcI,qfe,u8C,qui,qpY,qmc,ql5] [qyQ] qu4:=qh Tryz.func73 Tryz.call73 (by kernel_rfl)
@[simp] def qnK:Sg:=sg 0 [bv 8 9,bv 7 8,bv 1 1,bv 6 7,bv 5 6,bg 4 5,bv 3 4,bv 2 2,bg 0 0]
@[simp] def qkd:Sg:=sg 0 [bv 7 11,bv 5 9,bv 4 8,bv 3 7,bv 2 6,bt 1 (tl 0),bg 0 5,bg 6 10]
@[simp] def quH:Sg:=sg 0 [bv 8 11,bv 6 35,bv 5 36,bv 4 35,bt 3 (.dlen (tv 36)),bt 2 (tl 0),bg 1 34,bt 0 (.icell (tv 29) (tv 26) 0),bg 7 10]
@[simp] def qw4:Sg:=sg 0 [bv 8 11,bv 6 33,bv 5 34,bv 4 33,bt 3 (.dlen (tv 34)),bt 2 (tl 0),bg 1 32,bt 0 (.icell (tv 27) (tv 24) 0),bg 7 10]
def q1H:Out:=(.fresh 12 (.br (.and (.cmp .eql (.dlen (tv 1)) (tl 0)) (.isnil 0))
 (.ret 0 (sg 12 [bv 13 1,bt 12 (tl 1)]))
 (.pre 0 (sg 0 [bv 2 4,bv 1 3,bv 0 2]) (.both (.fresh 13 (.post 0 0 (sg 0 [bv 2 4,bv 1 3,bv 0 2]) 13 (.br (.not (tv 13))
 (.ret 0 (sg 12 [bv 13 1,bt 12 (tl 2)]))
 (.pre 1 qnK (.both (fr 14 2 (.post 1 0 qnK 14 (.br (.cmp .neq (tv 14) (tl 0))
 (.ret 0 (sg 12 [bv 13 15,bv 12 14]))
 (.need (.cmp .leq (tl 0) (tv 6)) (.pre 2 qkd (.both (.fresh 16 (.post 2 0 qkd 16 (.fresh 17 (.pack [] 18 (.need (.cmp .eql (tv 4) (tl 0)) (.inv 0 19 (sg 1000 [bg 1011 18,bt 1008 .dnil,bt 1007 .dnil,bt 1006 (tl 0),(1004,.nil),bt 1003 (r8 16),bv 1010 15,bt 1005 (tl 0),bg 1002 17,bt 1009 (tl 0),(1001,.nil),bg 1000 12]) (fr 19 12 (.hyp 0 19 (.br (.cmp .lss (tv 24) (tv 4))
 (.need (.cmp .leq (tl 0) (tv 24)) (.need (.cmp .lss (tv 24) (.dlen (tv 27))) (.fresh 31 (.both (.viewL (.vcell (tv 27) (tv 24) 1) [CK.int .u8] [30] 32 (.pre 3 qw4 (.both (.fresh 35 (.post 3 0 qw4 35 (.both (.fresh 36 (.both (.need (.cmp .eql (tv 24) (.dlen (tv 26))) (.need (.cmp .leq (.tims (tl 32) (.plus (tv 24) (tl 1))) (tl 140737488355328)) (fr 37 2 (.both (.both (.pack [.cells 36 24 [(x8 0 35),(x8 1 35),(x8 2 35),(x8 3 35),(x8 4 35),(x8 5 35),(x8 6 35),(x8 7 35),(x8 8 35),(x8 9 35),(x8 10 35),(x8 11 35),(x8 12 35),(x8 13 35),(x8 14 35),(x8 15 35),(x8 16 35),(x8 17 35),(x8 18 35),(x8 19 35),(x8 20 35),(x8 21 35),(x8 22 35),(x8 23 35),(x8 24 35),(x8 25 35),(x8 26 35),(x8 27 35),(x8 28 35),(x8 29 35),(x8 30 35),(x8 31 35)],.cells 31 86 [(.vint .i64 (.icell (tv 27) (tv 24) 0)),(.vcell (tv 27) (tv 24) 1)],.abs 30 2] 39 (.need (.cmp .eql (.arith .add .i64 (tv 24) (tl 1)) (.plus (tv 24) (tl 1))) (.back 0 19 (sg 1000 [bg 1011 39,bv 1008 27,bt 1007 (.dapp (tv 26) (r8 35)),bv 1006 38,bg 1004 37,bt 1003 (r8 22),bv 1010 29,bt 1005 (.arith .add .i64 (tv 24) (tl 1)),bg 1002 21,bv 1009 28,bg 1001 20,bg 1000 19])))) .top) .top)))) .top)) .top))) .top))) .top))))
 (.pack [.cells 19 27 [(.vint .i64 (tv 2)),(.vint .i64 (tv 3)),(.vint .i64 (tv 4)),(.vint .i64 (tv 6)),(x8 0 22),(x8 1 22),(x8 2 22),(x8 3 22),(x8 4 22),(x8 5 22),(x8 6 22),(x8 7 22),(x8 8 22),(x8 9 22),(x8 10 22),(x8 11 22),(x8 12 22),(x8 13 22),(x8 14 22),(x8 15 22),(x8 16 22),(x8 17 22),(x8 18 22),(x8 19 22),(x8 20 22),(x8 21 22),(x8 22 22),(x8 23 22),(x8 24 22),(x8 25 22),(x8 26 22),(x8 27 22),(x8 28 22),(x8 29 22),(x8 30 22),(x8 31 22),(.vslice 23 (tl 0) (tv 24) (tv 25) 32)],.cells 21 27 [(.vint .i64 (tv 2)),(.vint .i64 (tv 3)),(.vint .i64 (tv 4)),(.vint .i64 (tv 6)),(x8 0 22),(x8 1 22),(x8 2 22),(x8 3 22),(x8 4 22),(x8 5 22),(x8 6 22),(x8 7 22),(x8 8 22),(x8 9 22),(x8 10 22),(x8 11 22),(x8 12 22),(x8 13 22),(x8 14 22),(x8 15 22),(x8 16 22),(x8 17 22),(x8 18 22),(x8 19 22),(x8 20 22),(x8 21 22),(x8 22 22),(x8 23 22),(x8 24 22),(x8 25 22),(x8 26 22),(x8 27 22),(x8 28 22),(x8 29 22),(x8 30 22),(x8 31 22),(.vslice 23 (tl 0) (tv 24) (tv 25) 32)],.abs 30 2] 31 (.need (.cmp .eql (tv 4) (tv 24)) (.ret 1 (sg 12 [bg 20 31,bv 19 27,bv 18 26,bv 17 29,bv 16 28,bg 15 20,bv 14 25,bg 13 23,bt 12 (r8 22)]))))))))))))) .top)))))) (.both (fr 14 5 (.post 1 1 qnK 14 (.need (.cmp .leq (tl 0) (tv 6)) (.pre 2 qkd (.both (.fresh 19 (.post 2 0 qkd 19 (.fresh 20 (.need (.cmp .leq (tl 0) (tv 4)) (.inv 0 21 (sg 1000 [bg 1011 18,bv 1008 17,bt 1007 .dnil,bt 1006 (tl 0),(1004,.nil),bt 1003 (r8 19),bv 1010 16,bt 1005 (tl 0),bg 1002 20,bv 1009 15,bg 1001 14,bg 1000 12]) (fr 21 12 (.hyp 0 21 (.br (.cmp .lss (tv 26) (tv 4))
 (.need (.cmp .leq (tl 0) (tv 26)) (.need (.cmp .lss (tv 26) (.dlen (tv 29))) (.fresh 33 (.both (.viewL (.vcell (tv 29) (tv 26) 1) [CK.int .u8] [32] 34 (.pre 3 quH (.both (.fresh 37 (.post 3 0 quH 37 (.both (.fresh 38 (.both (.need (.cmp .eql (tv 26) (.dlen (tv 28))) (.need (.cmp .leq (.tims (tl 32) (.plus (tv 26) (tl 1))) (tl 140737488355328)) (fr 39 2 (.both (.both (.pack [.cells 38 24 [(x8 0 37),(x8 1 37),(x8 2 37),(x8 3 37),(x8 4 37),(x8 5 37),(x8 6 37),(x8 7 37),(x8 8 37),(x8 9 37),(x8 10 37),(x8 11 37),(x8 12 37),(x8 13 37),(x8 14 37),(x8 15 37),(x8 16 37),(x8 17 37),(x8 18 37),(x8 19 37),(x8 20 37),(x8 21 37),(x8 22 37),(x8 23 37),(x8 24 37),(x8 25 37),(x8 26 37),(x8 27 37),(x8 28 37),(x8 29 37),(x8 30 37),(x8 31 37)],.cells 33 86 [(.vint .i64 (.icell (tv 29) (tv 26) 0)),(.vcell (tv 29) (tv 26) 1)],.abs 32 2] 41 (.need (.cmp .eql (.arith .add .i64 (tv 26) (tl 1)) (.plus (tv 26) (tl 1))) (.back 0 21 (sg 1000 [bg 1011 41,bv 1008 29,bt 1007 (.dapp (tv 28) (r8 37)),bv 1006 40,bg 1004 39,bt 1003 (r8 24),bv 1010 31,bt 1005 (.arith .add .i64 (tv 26) (tl 1)),bg 1002 23,bv 1009 30,bg 1001 22,bg 1000 21])))) .top) .top)))) .top)) .top))) .top))) .top))))
 (.pack [.cells 21 27 [(.vint .i64 (tv 2)),(.vint .i64 (tv 3)),(.vint .i64 (tv 4)),(.vint .i64 (tv 6)),(x8 0 24),(x8 1 24),(x8 2 24),(x8 3 24),(x8 4 24),(x8 5 24),(x8 6 24),(x8 7 24),(x8 8 24),(x8 9 24),(x8 10 24),(x8 11 24),(x8 12 24),(x8 13 24),(x8 14 24),(x8 15 24),(x8 16 24),(x8 17 24),(x8 18 24),(x8 19 24),(x8 20 24),(x8 21 24),(x8 22 24),(x8 23 24),(x8 24 24),(x8 25 24),(x8 26 24),(x8 27 24),(x8 28 24),(x8 29 24),(x8 30 24),(x8 31 24),(.vslice 25 (tl 0) (tv 26) (tv 27) 32)],.cells 23 27 [(.vint .i64 (tv 2)),(.vint .i64 (tv 3)),(.vint .i64 (tv 4)),(.vint .i64 (tv 6)),(x8 0 24),(x8 1 24),(x8 2 24),(x8 3 24),(x8 4 24),(x8 5 24),(x8 6 24),(x8 7 24),(x8 8 24),(x8 9 24),(x8 10 24),(x8 11 24),(x8 12 24),(x8 13 24),(x8 14 24),(x8 15 24),(x8 16 24),(x8 17 24),(x8 18 24),(x8 19 24),(x8 20 24),(x8 21 24),(x8 22 24),(x8 23 24),(x8 24 24),(x8 25 24),(x8 26 24),(x8 27 24),(x8 28 24),(x8 29 24),(x8 30 24),(x8 31 24),(.vslice 25 (tl 0) (tv 26) (tv 27) 32)],.abs 32 2] 33 (.need (.cmp .eql (tv 4) (tv 26)) (.ret 1 (sg 12 [bg 20 33,bv 19 29,bv 18 28,bv 17 31,bv 16 30,bg 15 22,bv 14 27,bg 13 25,bt 12 (r8 24)])))))))))))) .top))))) .top)))))) .top))))
theorem qqK:qn Tryz.prog qiA [qfK,qgL,qcG,qdg] [q67] q1H:=qh Tryz.func43 Tryz.call43 (by kernel_rfl)
def qr0:Out:=(.br (.cmp .leq (tl 1) (tv 0))
 (.br (.cmp .leq (tv 0) (tv 1))
 (.ret 0 (sg 2 [bt 2 (.cmp .leq (tv 1) (tl 255))]))
 (.ret 0 (sg 2 [bt 2 (.bl false)])))
 (.ret 0 (sg 2 [bt 2 (.bl false)])))
theorem q0b:qn Tryz.prog qcb [] [] qr0:=qh Tryz.func109 Tryz.call109 (by kernel_rfl)
def qsp:Out:=(.br (.cmp .lss (tv 0) (tl 1))
 (.ret 0 (sg 2 [bt 3 (tl 2),bt 2 (tl 0)]))
 (.br (.cmp .gtr (tv 0) (tl 255))
 (.ret 0 (sg 2 [bt 3 (tl 2),bt 2 (tl 0)]))
 (.br (.cmp .lss (tv 1) (tl 0))
 (.ret 0 (sg 2 [bt 3 (tl 2),bt 2 (tl 0)]))
 (.br (.cmp .gtr (tv 1) (tl 8192))
 (.ret 0 (sg 2 [bt 3 (tl 2),bt 2 (tl 0)]))
 (.need (.cmp .neq (tv 0) (tl 0)) (.ret 0 (sg 2 [bt 3 (tl 0),bt 2 (.arith .quo .i64 (.arith .sub .i64 (.arith .add .i64 (tv 1) (tv 0)) (tl 1)) (tv 0))])))))))
theorem q02:qn Tryz.prog qcY [] [] qsp:=qh Tryz.func99 Tryz.call99 (by kernel_rfl)
def quI:Out:=(.fresh 2 (.need (.cmp .leq (tl 0) (.arith .mul .i64 (tv 0) (tv 1))) (.need (.cmp .leq (.tims (tl 1) (.arith .mul .i64 (tv 0) (tv 1))) (tl 281474976710656)) (.fresh 3 (.ret 0 (sg 2 [bt 5 (.drep (.arith .mul .i64 (tv 0) (tv 1)) (.rcons (.vint .u8 (tl 0)) .rnil)),bt 4 (.arith .mul .i64 (tv 0) (tv 1)),bt 3 (.arith .mul .i64 (tv 0) (tv 1)),bg 2 3]))))))
theorem q33:qn Tryz.prog qcH [] [] quI:=qh Tryz.func165 Tryz.call165 (by kernel_rfl)
def qyv:Out:=(.fresh 8 (.need (.cmp .leq (tl 0) (tv 3)) (.need (.cmp .leq (tl 0) (tv 4)) (.need (.cmp .leq (tl 0) (.arith .mul .i64 (tv 7) (tv 1))) (.need (.cmp .leq (.arith .mul .i64 (tv 7) (tv 1)) (.arith .mul .i64 (.arith .add .i64 (tv 7) (tl 1)) (tv 1))) (.need (.cmp .leq (.arith .mul .i64 (.arith .add .i64 (tv 7) (tl 1)) (tv 1)) (tv 4)) (.ret 0 (sg 8 [bt 10 (.minus (.arith .mul .i64 (.arith .add .i64 (tv 7) (tl 1)) (tv 1)) (.arith .mul .i64 (tv 7) (tv 1))),bt 9 (.minus (.arith .mul .i64 (.arith .add .i64 (tv 7) (tl 1)) (tv 1)) (.arith .mul .i64 (tv 7) (tv 1))),bt 8 (.ife (.arith .mul .i64 (.arith .add .i64 (tv 7) (tl 1)) (tv 1)) (.arith .mul .i64 (tv 7) (tv 1)) (tl 0) (.arith .mul .i64 (tv 7) (tv 1)))]))))))))
theorem q6i:qn Tryz.prog qcd [] [] qyv:=qh Tryz.func123 Tryz.call123 (by kernel_rfl)
def qr5:Out:=(.fresh 7 (.br (.cmp .geq (tv 0) (tl 1))
 (.br (.cmp .leq (tv 0) (tl 255))
 (.br (.cmp .geq (tv 1) (tl 1))
 (.br (.cmp .leq (tv 1) (tl 255))
 (.need (.cmp .leq (tl 0) (tv 3)) (.ret 0 (sg 7 [bt 7 (.cmp .eql (tv 3) (.arith .mul .i64 (tv 0) (tv 1)))])))
 (.ret 0 (sg 7 [bt 7 (.bl false)])))
 (.ret 0 (sg 7 [bt 7 (.bl false)])))
 (.ret 0 (sg 7 [bt 7 (.bl false)])))
 (.ret 0 (sg 7 [bt 7 (.bl false)]))))
theorem q0y:qn Tryz.prog qdd [] [] qr5:=qh Tryz.func164 Tryz.call164 (by kernel_rfl)
def qrW:Out:=(fr 7 2 (.both (.fresh 9 (.both (.need (.cmp .leq (tl 0) (tv 3)) (.need (.cmp .leq (tv 3) (.dlen (tv 5))) (.need (.cmp .leq (.tims (tl 1) (tv 3)) (tl 140737488355328)) (fr 10 2 (.both (.both (.ret 0 (sg 7 [bt 9 (.dtake (tv 5) (tv 3)),bv 8 11,bg 7 10])) .top) .top))))) .top)) .top))
theorem q1y:qn Tryz.prog qhQ [] [] qrW:=qh Tryz.func168 Tryz.call168 (by kernel_rfl)
def qyf:Out:=(.br (.cmp .eql (tv 14) (tl 0))
 (.ret 0 (sg 15 [bv 16 6,bv 15 1]))
 (.need (.cmp .leq (tl 0) (tv 10)) (.inv 0 15 (sg 1000 [bv 1002 6,bv 1001 1,bt 1000 (tl 0)]) (fr 15 3 (.hyp 0 15 (.br (.cmp .lss (tv 15) (tv 10))
 (.need (.cmp .leq (tl 0) (tv 15)) (.need (.cmp .leq (tl 0) (tv 9)) (.need (.cmp .leq (tl 0) (.plus (tv 9) (tv 15))) (.need (.cmp .lss (.plus (tv 9) (tv 15)) (.dlen (tv 12))) (.need (.cmp .lss (tv 15) (tv 4)) (.need (.cmp .leq (tl 0) (tv 3)) (.need (.cmp .leq (tl 0) (.plus (tv 3) (tv 15))) (.need (.cmp .lss (.plus (tv 3) (tv 15)) (.dlen (tv 17))) (.both (.pre 0 (sg 0 [bv 1 16,bt 3 (.icell (tv 12) (.plus (tv 9) (tv 15)) 0),bv 2 14,bg 0 0]) (.both (fr 18 2 (.post 0 0 (sg 0 [bv 1 16,bt 3 (.icell (tv 12) (.plus (tv 9) (tv 15)) 0),bv 2 14,bg 0 0]) 18 (.both (.back 0 15 (sg 1000 [bt 1002 (.dput (tv 17) (.plus (tv 3) (tv 15)) 0 (.rcons (.vint .u8 (.arith .xor .u8 (.icell (tv 17) (.plus (tv 3) (tv 15)) 0) (tv 18))) .rnil)),bv 1001 19,bt 1000 (.arith .add .i64 (tv 15) (tl 1))])) .top))) .top)) .top)))))))))
 (.ret 0 (sg 15 [bv 16 17,bv 15 16]))))))))
theorem q5e:qn Tryz.prog qdG [qhH] [q3f] qyf:=qh Tryz.func124 Tryz.call124 (by kernel_rfl)
def qnu:Out:=(.br (.cmp .eql (tv 11) (tl 0))
 (.ret 0 (sg 12 [bv 13 6,bv 12 1]))
 (.need (.cmp .leq (tl 0) (tv 9)) (.inv 0 12 (sg 1000 [bv 1002 6,bv 1001 1,bt 1000 (tl 0)]) (fr 12 3 (.hyp 0 12 (.br (.cmp .lss (tv 12) (tv 9))
 (.need (.cmp .leq (tl 0) (tv 12)) (.need (.cmp .leq (tl 0) (tv 8)) (.need (.cmp .leq (tl 0) (.plus (tv 8) (tv 12))) (.need (.cmp .lss (.plus (tv 8) (tv 12)) (.dlen (tv 14))) (.need (.cmp .lss (tv 12) (tv 4)) (.need (.cmp .leq (tl 0) (tv 3)) (.need (.cmp .leq (tl 0) (.plus (tv 3) (tv 12))) (.need (.cmp .lss (.plus (tv 3) (tv 12)) (.dlen (tv 14))) (.both (.pre 0 (sg 0 [bv 1 13,bt 3 (.icell (tv 14) (.plus (tv 8) (tv 12)) 0),bv 2 11,bg 0 0]) (.both (fr 15 2 (.post 0 0 (sg 0 [bv 1 13,bt 3 (.icell (tv 14) (.plus (tv 8) (tv 12)) 0),bv 2 11,bg 0 0]) 15 (.both (.back 0 12 (sg 1000 [bt 1002 (.dput (tv 14) (.plus (tv 3) (tv 12)) 0 (.rcons (.vint .u8 (.arith .xor .u8 (.icell (tv 14) (.plus (tv 3) (tv 12)) 0) (tv 15))) .rnil)),bv 1001 16,bt 1000 (.arith .add .i64 (tv 12) (tl 1))])) .top))) .top)) .top)))))))))
 (.ret 0 (sg 12 [bv 13 14,bv 12 13]))))))))
theorem qww:qn Tryz.prog qmg [qhH] [qxS] qnu:=qh Tryz.func124 Tryz.call124 (by kernel_rfl)
def qyX:Out:=(.need (.cmp .leq (tl 0) (tv 4)) (.inv 0 9 (sg 1000 [bv 1002 6,bv 1001 1,bt 1000 (tl 0)]) (fr 9 3 (.hyp 0 9 (.br (.cmp .lss (tv 9) (tv 4))
 (.need (.cmp .leq (tl 0) (tv 9)) (.need (.cmp .leq (tl 0) (tv 3)) (.need (.cmp .leq (tl 0) (.plus (tv 3) (tv 9))) (.need (.cmp .lss (.plus (tv 3) (tv 9)) (.dlen (tv 11))) (.pre 0 (sg 0 [bv 1 10,bv 3 8,bt 2 (.icell (tv 11) (.plus (tv 3) (tv 9)) 0),bg 0 0]) (.both (fr 12 2 (.post 0 0 (sg 0 [bv 1 10,bv 3 8,bt 2 (.icell (tv 11) (.plus (tv 3) (tv 9)) 0),bg 0 0]) 12 (.back 0 9 (sg 1000 [bt 1002 (.dput (tv 11) (.plus (tv 3) (tv 9)) 0 (.rcons (.vint .u8 (tv 12)) .rnil)),bv 1001 13,bt 1000 (.arith .add .i64 (tv 9) (tl 1))])))) .top))))))
 (.ret 0 (sg 9 [bv 10 11,bv 9 10])))))))
theorem q5i:qn Tryz.prog qlS [qhH] [q27] qyX:=qh Tryz.func185 Tryz.call185 (by kernel_rfl)
def qzo:Out:=(.br (.and (.cmp .eql (.dlen (tv 1)) (tl 0)) (.isnil 0))
 (.ret 0 (sg 3 [bv 5 1,bt 4 (tl 1),bt 3 (tl 0)]))
 (.br (.cmp .eql (tv 2) (tl 0))
 (.ret 0 (sg 3 [bv 5 1,bt 4 (tl 2),bt 3 (tl 0)]))
 (.need (.cmp .lss (tl 0) (.dlen (tv 1))) (.pre 0 (sg 0 [bv 1 1,bg 0 0]) (.both (.fresh 3 (.post 0 0 (sg 0 [bv 1 1,bg 0 0]) 3 (.need (.cmp .lss (tl 0) (.dlen (tv 3))) (.need (.cmp .leq (tl 0) (tv 2)) (.need (.cmp .lss (tv 2) (tl 256)) (.need (.cmp .leq (tl 0) (.arith .sub .i64 (tl 255) (.c2 (.xint 513) (tv 3) (tv 2)))) (.need (.cmp .lss (.arith .sub .i64 (tl 255) (.c2 (.xint 513) (tv 3) (tv 2))) (tl 510)) (.ret 0 (sg 3 [bv 5 3,bt 4 (tl 0),bt 3 (.c2 (.xint 3) (tv 3) (.arith .sub .i64 (tl 255) (.c2 (.xint 513) (tv 3) (tv 2))))]))))))))) .top)))))
theorem q5l:qn Tryz.prog qlK [qek] [] qzo:=qh Tryz.func184 Tryz.call184 (by kernel_rfl)
@[simp] def qlz:T:=.arith .rem .i64 (.arith .mul .i64 (.c2 (.xint 513) (tv 4) (tv 2)) (.arith .rem .i64 (tv 3) (tl 255))) (tl 255)
def qy5:Out:=(.br (.and (.cmp .eql (.dlen (tv 1)) (tl 0)) (.isnil 0))
 (.ret 0 (sg 4 [bv 5 1,bt 4 (tl 0)]))
 (.br (.cmp .leq (tv 3) (tl 0))
 (.ret 0 (sg 4 [bv 5 1,bt 4 (tl 1)]))
 (.br (.cmp .eql (tv 2) (tl 0))
 (.ret 0 (sg 4 [bv 5 1,bt 4 (tl 0)]))
 (.need (.cmp .lss (tl 0) (.dlen (tv 1))) (.pre 0 (sg 0 [bv 1 1,bg 0 0]) (.both (.fresh 4 (.post 0 0 (sg 0 [bv 1 1,bg 0 0]) 4 (.need (.cmp .lss (tl 0) (.dlen (tv 4))) (.need (.cmp .leq (tl 0) (tv 2)) (.need (.cmp .lss (tv 2) (tl 256)) (.need (.cmp .leq (tl 0) qlz) (.need (.cmp .lss qlz (tl 510)) (.ret 0 (sg 4 [bv 5 4,bt 4 (.c2 (.xint 3) (tv 4) qlz)]))))))))) .top))))))
theorem q6n:qn Tryz.prog ql7 [qek] [] qy5:=qh Tryz.func177 Tryz.call177 (by kernel_rfl)
end Go.Proofs
