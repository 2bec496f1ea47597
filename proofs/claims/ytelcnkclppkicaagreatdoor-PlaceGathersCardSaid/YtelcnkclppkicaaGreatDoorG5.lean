/- Texts DC, DE, DH, DJ, DK, DL, BA, BB, ZG, DM, ZJ, ZU, DO, BC, BD, BE, DU, BF, BG, BH, DX, BI, DF, DG, DI, DQ, DN, DR, DV, DW, BJ, BL, BM, BN, BO. -/
import Derived.Test.YtelcnkclppkicaaGreatDoorG4
import Derived.Test.YtelcnkclppkicaaGreatDoorG1
import Derived.Test.YtelcnkclppkicaaGreatDoorProg
set_option linter.unusedSimpArgs false
set_option linter.unusedVariables false
namespace Go.Eng
open Go
theorem qcR {d:List (List Value)} {n i:Nat} {v:Value} (h:qG d n):qG (qa0 d i v) n:=by
 obtain ⟨row,rfl,hl⟩:=h;exact ⟨row.set i v,rfl,by simp [hl]⟩
theorem qcJ {d:List (List Value)} {n i:Nat} {k:IntKind} {z:Int} (h:qG d n) (hi:i < n):qa (qa0 d i (.int k z)) i = z:=by
 obtain ⟨row,rfl,hl⟩:=h;simp [qa,qa0,hl,hi,qX]
theorem qaD {d:List (List Value)} {i j:Nat} {v:Value} (h:j ≠ i):qa (qa0 d i v) j = qa d j:=by
 cases d with
 | nil=>rfl
 | cons row rest=>simp [qa,qa0,jby,Ne.symm h]
theorem qud {ts:List Value} {j:Nat}:qa [ts] j = qX (ts[j]?.getD .nilFunc):=rfl
theorem qx {d:List (List Value)} {n:Nat} (h:qG d n):d.length = 1:=by obtain ⟨row,rfl,_⟩:=h; rfl
theorem qbA {d:List (List Value)} {c:Nat}:qb d 0 c = qa d c:=by cases d <;> simp [qb,qC,qa]
theorem qcq {d:List (List Value)} {n:Nat}:(qf d n).length = n:=by simp [qf]
theorem qe6 {d:List (List Value)} {n j:Nat} (h:j < n):(qf d n).getD j 0 = qa d j:=by
 simp [qf,jab,h]
theorem qeC {d e:List (List Value)} {n:Nat} (h:∀ j,j < n->qa d j = qa e j):qf d n = qf e n:=jbw fun j hj=>h j (jb1.1 hj)
theorem qFf {x:Int}:qc .shl .u32 x 24 = ofW (toW x <<< 24):=qqL (n:=24) (by decide)
theorem qFg {x:Int}:qc .shl .u32 x 16 = ofW (toW x <<< 16):=qqL (n:=16) (by decide)
theorem qFu {x:Int}:qc .shl .u32 x 8 = ofW (toW x <<< 8):=qqL (n:=8) (by decide)
theorem qyQ {a b c d:Int}:qc .or .u32 (qc .or .u32 (qc .or .u32 (qc .shl .u32 (IntKind.u32.wrap a) 24) (qc .shl .u32 (IntKind.u32.wrap b) 16)) (qc .shl .u32 (IntKind.u32.wrap c) 8)) (IntKind.u32.wrap d) = ofW (qxf a b c d):=by
 simp only [qrk,qFf,qFg,qFu,q2S,qcb,qxf]
theorem qDS {x:Int} (h:isW x):qc .shr .u32 x 3 = ofW (toW x >>> 3):=qv6 (n:=3) h (by decide)
theorem qBh {x:Int} (h:isW x):qc .shr .u32 x 10 = ofW (toW x >>> 10):=qv6 (n:=10) h (by decide)
theorem qBc:∀ n:Fin 31,qc .and .u64 (IntKind.u64.wrap (-((n.val:Int) + 1))) 31 = 31 - (n.val:Int):=by decide +kernel
theorem q42:∀ n:Fin 31,qc .sub .u64 32 (31 - (n.val:Int)) = (n.val:Int) + 1:=by decide +kernel
theorem qBX {x:Int} {n:Nat} (h:isW x) (h1:1 <= n) (h2:n <= 31):qc .or .u32 (qc .shl .u32 x (qc .and .u64 (IntKind.u64.wrap (-(n:Int))) 31)) (qc .shr .u32 x (qc .sub .u64 32 (qc .and .u64 (IntKind.u64.wrap (-(n:Int))) 31))) = ofW (qfp (toW x) n):=by
 have e1:=qBc ⟨n - 1,by omega⟩;have e2:=q42 ⟨n - 1,by omega⟩;simp only [] at e1 e2;have e3:(((n - 1:Nat):Int) + 1) = (n:Int):=by omega
 have e4:(31 - ((n - 1:Nat):Int)) = ((32 - n:Nat):Int):=by omega
 rw [e3,e4] at e1;rw [e4,e3] at e2;rw [e1,e2,qqL (by omega),qv6 h (by omega),q2S,qcb,qcb,qfp,BitVec.or_comm]
theorem qie {b:List W32}:∀ {k:Nat},(qak b k).length = b.length + k
 | 0=>rfl
 | k + 1=>by rw [qak,jaj,qie]; simp; omega
theorem qdo {b:List W32} {k:Nat}:∀ {n j:Nat},k <= n->j < b.length + k->(qak b n).getD j 0 = (qak b k).getD j 0
 | 0,j,h,_=>by rw [show k = 0 by omega]
 | n + 1,j,h,hj=>by
  rcases jbu n k with h1 | h1
  ·rw [show k = n + 1 by omega]
  ·rw [qak,jab,jar (by rw [qie]; omega),<- jab]
   exact qdo h1 hj
theorem qqE {b:List W32} {n j:Nat} (hj:j < b.length):(qak b n).getD j 0 = b.getD j 0:=qdo (k:=0) (Nat.zero_le _) (by omega)
theorem qpn {b:List W32} (hb:b.length = 16) {n k:Nat} (hk:k < n):(qak b n).getD (16 + k) 0 = sg1 ((qak b n).getD (14 + k) 0) + (qak b n).getD (9 + k) 0 + sg0 ((qak b n).getD (1 + k) 0) + (qak b n).getD k 0:=by
 rw [qdo (k:=k + 1) (by omega) (by omega),qdo (k:=k) (j:=14 + k) (by omega) (by omega),qdo (k:=k) (j:=9 + k) (by omega) (by omega),qdo (k:=k) (j:=1 + k) (by omega) (by omega),qdo (k:=k) (j:=k) (by omega) (by omega)];rw [qak,jab,jao (by rw [qie]; omega),qie,hb];simp
theorem qyT {d:List (List Value)}:(qdP d).length = 16:=by simp [qdP]
theorem qAu {d:List (List Value)} {t:Nat} (h:t < 16):(qdP d).getD t 0 = qxf (qa d (8 + 4 * t)) (qa d (8 + (4 * t + 1))) (qa d (8 + (4 * t + 2))) (qa d (8 + (4 * t + 3))):=by
 simp [qdP,jab,h]
theorem qin {d:List (List Value)} {l:List W32} {t:Nat} {w:Int} (h:qgz d l t) (ht:t < 64) (hw:w = ofW (l.getD t 0)):qgz (qa0 d t (.int .u32 w)) l (t + 1):=by
 refine ⟨qcR h.1,fun j hj=>?_⟩;by_cases e:j = t
 ·rw [e,qcJ h.1 ht,hw]
 ·rw [qaD e,h.2 j (by omega)]
theorem qbo {d:List (List Value)} {l:List W32} {n j:Nat} (h:qgz d l n) (hj:j < n):isW (qa d j):=by rw [h.2 j hj]; exact qgF
theorem qcM {d:List (List Value)} {l:List W32} {n j:Nat} (h:qgz d l n) (hj:j < n):toW (qa d j) = l.getD j 0:=by rw [h.2 j hj,qcb]
theorem qF0 {f:Nat->Int} {j:Nat} (hj:j < 8):qa [[.int .u32 (f 0),.int .u32 (f 1),.int .u32 (f 2),.int .u32 (f 3),.int .u32 (f 4),.int .u32 (f 5),.int .u32 (f 6),.int .u32 (f 7)]] j = f j:=by
 match j,hj with
 | 0,_=>rfl
 | 1,_=>rfl
 | 2,_=>rfl
 | 3,_=>rfl
 | 4,_=>rfl
 | 5,_=>rfl
 | 6,_=>rfl
 | 7,_=>rfl
theorem q0i {d:List (List Value)} {j:Nat} {w:Int} (h:qca d) (hj:j < 8) (hw:isW w):qca (qa0 d j (.int .u32 w)):=by
 refine ⟨qcR h.1,fun i hi=>?_,fun i h1 h2=>?_⟩
 ·by_cases e:i = j
  ·rw [e,qcJ h.1 (by omega)]; exact hw
  ·rw [qaD e]; exact h.2.1 i hi
 ·rw [qaD (by omega)]; exact h.2.2 i h1 h2
theorem qgr:qQ.length = 64:=by decide
theorem qqI:∀ j:Fin 64,0 <= qQ.getD j 0/\qQ.getD j 0 < 4294967296:=by decide +kernel
theorem qur {j:Nat} (hj:j < 64):qa [qQ.map (Value.int .u32)] j = qQ.getD j 0:=by
 have:=qgr;simp [qa,jab,this,hj,qX]
theorem q4D {j:Nat} (hj:j < 64):(qel qQ).getD j 0 = toW (qQ.getD j 0):=by
 have:=qgr;simp [qel,jab,this,hj]
def q2X:St8:=qbi qom
def wK:List W32:=qel qQ
def qH (m:List Int):Prop:=∀ x ∈ m,0 <= x/\x < 256
def qap (d:List (List Value)) (m:List Int):Prop:=qca d/\qH m/\qa d 72 = m.length/\stW d = qgM wK q2X m (m.length / 64)/\∀ j,j < m.length % 64->qa d (8 + j) = m.getD (64 * (m.length / 64) + j) 0
def qxt (d:List (List Value)):Prop:=∃ m,qap d m/\m.length < 1152921504606846976
def qaB (d:List (List Value)) (o l:Int):List Int:=((bI d).drop o.toNat).take l.toNat
def qdT (d:List (List Value)) (o l:Int):List Int:=(((qf d 72)).drop o.toNat).take l.toNat
def gR:Nat := 1
def gIp (r:Nat):Nat × Nat:=(2000 + gR,r)
def qfx:Ctr:={ fn := 96,nv:=0,args:=[],heap:=[],ro:=[],pre:=fun _=>True,alts:=[
 { k:=2,ret:=qgu 0,heap:=[hHp 0 1],post:=fun Z=>qap (Z 1).d [] }] }
def qiZ:Ctr:={ fn := 97,nv:=10,ip:=[gIp 8],args:=[qgu 0,bSl 2 3 4 5],heap:=[hHp 0 1],ro:=[bHp 2 6 7,gHp 8 9],pre:=fun Z=>qxt (Z 1).d/\0 <= (Z 3).i/\0 <= (Z 4).i/\(Z 4).i <= (Z 5).i/\(Z 4).i < 1152921504606846976/\(Z 3).i + (Z 4).i <= (Z 6).d.length/\qk (Z 6).d/\gOk Z 8 9 gR,alts:=[
 { k:=1,ret:=.tup [],heap:=[hHp 0 10],post:=fun Z=>∀ m,qap (Z 1).d m->qap (Z 10).d (m ++ qaB (Z 6).d (Z 3).i (Z 4).i) }] }
def q8r:Inv:={ key:=1,nv:=4,env:=[(0,qgu 0),(1,bSl 2 1000 1001 1002)],heap:=[hHp 0 1003],inv:=(fun Z=>0 <= (Z 1001).i/\(Z 1001).i <= (Z 4).i/\(Z 1001).i <= (Z 1002).i/\(0 < (Z 1001).i->(Z 1000).i = (Z 3).i + ((Z 4).i - (Z 1001).i))/\∀ m,qap (Z 1).d m->qap (Z 1003).d (m ++ qaB (Z 6).d (Z 3).i ((Z 4).i - (Z 1001).i))),mu:=(fun Z=>(Z 1001).i.toNat) }
def k72:List CK:=List.replicate 72 (.int .u8)
def qBu (r d:Nat):SH:=.arr r 220 k72 (.var d) (.lit 1)
def qjo:Ctr:={ fn := 97,nv:=8,ip:=[gIp 6],args:=[qgu 0,.one (.vslice 2 (.lit 0) (.var 3) (.var 4) 1)],heap:=[hHp 0 1],ro:=[qBu 2 5,gHp 6 7],pre:=fun Z=>qxt (Z 1).d/\0 <= (Z 3).i/\(Z 3).i <= 72/\(Z 3).i <= (Z 4).i/\qG (Z 5).d 72/\qH (qf (Z 5).d 72)/\gOk Z 6 7 gR,alts:=[
 { k:=1,ret:=.tup [],heap:=[hHp 0 8],post:=fun Z=>∀ m,qap (Z 1).d m->qap (Z 8).d (m ++ qdT (Z 5).d 0 (Z 3).i) }] }
def qxi:Inv:={ key:=1,nv:=4,env:=[(0,qgu 0),(1,bSl 2 1000 1001 1002)],heap:=[hHp 0 1003],inv:=(fun Z=>0 <= (Z 1001).i/\(Z 1001).i <= (Z 3).i/\(Z 1001).i <= (Z 1002).i/\(0 < (Z 1001).i->(Z 1000).i = (Z 3).i - (Z 1001).i)/\∀ m,qap (Z 1).d m->qap (Z 1003).d (m ++ qdT (Z 5).d 0 ((Z 3).i - (Z 1001).i))),mu:=(fun Z=>(Z 1001).i.toNat) }
def dgV (n:Nat):SV:=.agg (qN .u8 n 32)
def k32:List CK:=List.replicate 32 (.int .u8)
def q9m (r d:Nat):SH:=.arr r 24 k32 (.var d) (.lit 1)
def dgP (r:Nat):SV:=.one (.vptr r (.lit 0) 32 0)
def dgZ (r:Nat):SH:=.cells r 24 (List.replicate 32 (.vint .u8 (.lit 0)))
def qpA:Ctr:={ fn := 98,nv:=4,ip:=[gIp 2],args:=[qgu 0],heap:=[],ro:=[hHp 0 1,gHp 2 3],pre:=fun Z=>qxt (Z 1).d/\gOk Z 2 3 gR,alts:=[
 { k:=1,ret:=dgV 4,heap:=[],post:=fun Z=>∀ m,qap (Z 1).d m->qf (Z 4).d 32 = sha m }] }
def qDm:Inv:={ key:=9,nv:=9,env:=[(0,qgu 0),(2,dgP 1000),(3,qgu 1002),(4,.one (.vptr 1004 (.lit 0) 72 0)),(5,iv .i64 (.var 1006)),(6,iv .u64 (.var 1007)),(30,iv .i64 (.var 1008))],heap:=[dgZ 1000,hHp 1002 1003,qBu 1004 1005],inv:=(fun Z=>0 <= (Z 1008).i/\(Z 1008).i <= 8/\qG (Z 1003).d 73/\(∀ j,j < 73->qa (Z 1003).d j = qa (Z 1).d j)/\(Z 1006).i = 64 - (qa (Z 1).d 72 + 8) % 64/\(Z 1007).i = qa (Z 1).d 72 * 8/\qG (Z 1005).d 72/\(∀ j,j < 72->qa (Z 1005).d j = if j = 0 then 128 else if (Z 1006).i.toNat <= j/\j < (Z 1006).i.toNat + (Z 1008).i.toNat then (beL (qa (Z 1).d 72 * 8) 8).getD (j - (Z 1006).i.toNat) 0 else 0)),mu:=(fun Z=>(8 - (Z 1008).i).toNat) }
def qDN:Inv:={ key:=16,nv:=7,env:=[(2,dgP 1000),(3,qgu 1002),(8,dgP 1004),(48,iv .i64 (.var 1006))],heap:=[dgZ 1000,hHp 1002 1003,q9m 1004 1005],inv:=(fun Z=>0 <= (Z 1006).i/\(Z 1006).i <= 32/\qca (Z 1003).d/\(∀ m,qap (Z 1).d m->stW (Z 1003).d = qgM wK q2X (qd4 m) ((qd4 m).length / 64))/\qG (Z 1005).d 32/\∀ j,j < (Z 1006).i.toNat->qa (Z 1005).d j = (qeo (stW (Z 1003).d)).getD j 0),mu:=(fun Z=>(32 - (Z 1006).i).toNat) }
def qkB (Z:Env):Prop:=0 <= (Z 1).i/\0 <= (Z 2).i/\(Z 2).i <= (Z 3).i/\(Z 2).i < 1152921504606846976/\(Z 1).i + (Z 2).i <= (Z 4).d.length/\qk (Z 4).d
def qdb:Ctr:={ fn := 59,nv:=8,ip:=[gIp 6],args:=[bSl 0 1 2 3],heap:=[],ro:=[bHp 0 4 5,gHp 6 7],pre:=fun Z=>qkB Z/\gOk Z 6 7 gR,alts:=[
 { k:=1,ret:=dgV 8,heap:=[],post:=fun Z=>qf (Z 8).d 32 = sha (qaB (Z 4).d (Z 1).i (Z 2).i) }] }
theorem qnz {d s:List (List Value)} {n o:Nat} (h:qG d n) (ho:o + s.length <= n):qG (qa6 d o s) n:=by
 obtain ⟨row,rfl,hl⟩:=h;refine ⟨_,rfl,?_⟩;simp [qas,hl]; omega
theorem qtv {d s:List (List Value)} {n o j:Nat} (h:qG d n) (ho:o + s.length <= n) (hj:j < s.length):qa (qa6 d o s) (o + j) = (bI s).getD j 0:=by
 obtain ⟨row,rfl,hl⟩:=h;have h1:(row.take o).length = o:=by rw [jbe]; omega
 simp only [qa6,qa,jbm,qas];rw [jbr,jao (by omega),h1,show o + j - o = j by omega,jar (by simpa using hj)];simp [bI,jab,hj,qbp];cases s[j] <;> rfl
theorem qjY {d s:List (List Value)} {n o j:Nat} (h:qG d n) (ho:o + s.length <= n) (hj:j < o∨o + s.length <= j):qa (qa6 d o s) j = qa d j:=by
 obtain ⟨row,rfl,hl⟩:=h;have h1:(row.take o).length = o:=by rw [jbe]; omega
 simp only [qa6,qa,jbm,qas];rcases hj with hj | hj
 ·rw [jbr,jar (by omega),jex hj]
 ·rw [jao (by simp; omega)]
  simp only [jaj,h1,ja7,jbc];rw [show o + s.length + (j - (o + s.length)) = j by omega]
theorem qEp {d:List (List Value)} {n c:Nat} {v:Value} (h:qG d n) (hc:c < n):qaQ d 0 c [v] = qa0 d c v:=by
 obtain ⟨row,rfl,hl⟩:=h;simp only [qaQ,qa0,jdk,jav,ja2,List.set_cons_zero,qas,jck]
 congr 1
 rw [List.set_eq_take_append_cons_drop,jah (by omega)];simp
def qAS (d:List (List Value)) (m:List Int) (q k:Nat):Prop:=∀ j,j < k->qa d (8 + j) = m.getD (64 * q + j) 0
theorem q3Q {d:List (List Value)} {m:List Int} {q:Nat} (h:qAS d m q 64):qdP d = qa5 m (64 * q):=by
 unfold qdP qa5;refine jbw fun t ht=>?_
 have ht:=jb1.1 ht;unfold qk6;rw [h _ (by omega),h _ (by omega),h _ (by omega),h _ (by omega)];simp only [jcq]
theorem q3s {m s:List Int} {i:Nat} (h:i < m.length):(m ++ s).getD i 0 = m.getD i 0:=by
 rw [jab,jab,jar h]
theorem q2N {m s:List Int} {i:Nat} (h:m.length <= i):(m ++ s).getD i 0 = s.getD (i - m.length) 0:=by
 rw [jab,jab,jao h]
theorem qmK {d e:List (List Value)} (h:∀ j,j < 8->qa d j = qa e j):stW d = stW e:=by
 unfold stW; rw [qeC h]
theorem qxw {m s:List Int} (h:qH m) (h':qH s):qH (m ++ s):=fun x hx=>(jaw.1 hx).elim (h x) (h' x)
structure Came (d e:List (List Value)) (s:List Int) (r:Nat):Prop where
 row:qca e
 st:∀ j,j < 8->qa e j = qa d j
 old:∀ j,j < r->qa e (8 + j) = qa d (8 + j)
 new:∀ j,j < s.length->qa e (8 + r + j) = s.getD j 0
 size:qa e 72 = qa d 72 + s.length
theorem qwn {d e:List (List Value)} {m s:List Int} (h:qap d m) (hc:Came d e s (m.length % 64)):qAS e (m ++ s) (m.length / 64) (m.length % 64 + s.length):=fun j hj=>by
 obtain ⟨h1,h2,h3,h4,h5⟩:=h;rcases jbu j (m.length % 64) with hr | hr
 ·rw [hc.old j hr,h5 j hr,q3s (by omega)]
 ·have:=hc.new (j - m.length % 64) (by omega)
  rw [show 8 + m.length % 64 + (j - m.length % 64) = 8 + j by omega] at this;rw [this,q2N (by omega)]
  congr 1; omega
theorem q7D {d e:List (List Value)} {m s:List Int} (h:qap d m) (hs:qH s) (hc:Came d e s (m.length % 64)) (hr:m.length % 64 + s.length < 64):qap e (m ++ s):=by
 have hb:=qwn h hc;obtain ⟨h1,h2,h3,h4,h5⟩:=h;have e1:(m ++ s).length / 64 = m.length / 64:=by rw [jaj]; omega
 have e2:(m ++ s).length % 64 = m.length % 64 + s.length:=by rw [jaj]; omega
 refine ⟨hc.row,qxw h2 hs,by rw [hc.size,h3,jaj]; omega,?_,?_⟩
 ·rw [e1,qmK hc.st,h4,qpV (by omega)]
 ·rw [e1,e2]; exact hb
theorem q70 {d e f:List (List Value)} {m s:List Int} (h:qap d m) (hs:qH s) (hc:Came d e s (m.length % 64)) (hr:m.length % 64 + s.length = 64) (hf:qca f) (hst:stW f = qfh wK (stW e) (qdP e)) (hk:qa f 72 = qa e 72):qap f (m ++ s):=by
 have hb:=qwn h hc;rw [hr] at hb;obtain ⟨h1,h2,h3,h4,h5⟩:=h;have e1:(m ++ s).length / 64 = m.length / 64 + 1:=by rw [jaj]; omega
 have e2:(m ++ s).length % 64 = 0:=by rw [jaj]; omega
 refine ⟨hf,qxw h2 hs,by rw [hk,hc.size,h3,jaj]; omega,?_,fun j hj=>by omega⟩;rw [e1,hst,q3Q hb,qmK hc.st,h4]
 show _ = qfh wK (qgM wK q2X (m ++ s) (m.length / 64)) _
 rw [qpV (by omega)]
theorem qjC {d:List (List Value)} {x:List (List Value)} {r:Nat} (h:qca d) (hx:qk x) (hr:r + x.length <= 64):Came d (qa0 (qa6 d (8 + r) x) 72 (.int .i64 (qa d 72 + x.length))) (bI x) r:=by
 obtain ⟨h1,h2,h3⟩:=h;have hlen:(bI x).length = x.length:=Go.Proofs.bI_len;have hone:=qnz (s:=x) (o:=8 + r) h1 (by omega);have hin:∀ j,j < x.length->qa (qa0 (qa6 d (8 + r) x) 72 (.int .i64 (qa d 72 + x.length))) (8 + r + j) = (bI x).getD j 0:=fun j hj=>by
  rw [qaD (by omega),qtv h1 (by omega) hj]
 have hout:∀ j,j < 72->(j < 8 + r∨8 + r + x.length <= j)->qa (qa0 (qa6 d (8 + r) x) 72 (.int .i64 (qa d 72 + x.length))) j = qa d j:=fun j hj hjo=>by
  rw [qaD (by omega),qjY h1 (by omega) hjo]
 have hB:∀ j,j < x.length->0 <= (bI x).getD j 0/\(bI x).getD j 0 < 256:=fun j hj=>Go.Proofs.allB_list hx _ (by
  rw [jab,jac (by omega)];exact jbv _)
 refine ⟨⟨qcR hone,fun j hj=>by rw [hout j (by omega) (.inl (by omega))]; exact h2 j hj,fun j hj hj2=>?_⟩,fun j hj=>hout j (by omega) (.inl (by omega)),fun j hj=>hout (8 + j) (by omega) (.inl (by omega)),fun j hj=>hin j (by omega),by rw [qcJ hone (by omega),hlen]⟩;by_cases hh:j < 8 + r∨8 + r + x.length <= j
 ·rw [hout j hj2 hh]; exact h3 j hj hj2
 ·have:=hin (j - (8 + r)) (by omega)
  rw [show 8 + r + (j - (8 + r)) = j by omega] at this;rw [this]; exact hB _ (by omega)
theorem qt3 {d x:List (List Value)} {r:Nat} {n:Int} (hd:qca d) (hr:r + x.length <= 64) (hn:n = x.length) (h0:0 <= qa d 72) (h1:qa d 72 < 4611686018427387904):qaQ (qa6 d (8 + r) x) 0 72 [.int .i64 (qc .add .i64 (qb (qa6 d (8 + r) x) 0 72) n)] = qa0 (qa6 d (8 + r) x) 72 (.int .i64 (qa d 72 + x.length)):=by
 have hone:=qnz (s:=x) (o:=8 + r) hd.1 (by omega);rw [qEp hone (by omega),qbA,qjY hd.1 (by omega) (.inr (by omega)),hn,Go.Proofs.add64 (by omega) (by omega)]
theorem qqF {L:Nat}:qc .rem .i64 (L:Int) 64 = ((L % 64:Nat):Int):=by
 show (L:Int).tmod 64 = _
 rw [jdx (by omega)]; omega
theorem qt2 {d x:List (List Value)} {M:List Int} {r:Nat} (h:qap d M) (hx:qk x) (hr0:M.length % 64 = r) (hr:r + x.length < 64):qap (qa0 (qa6 d (8 + r) x) 72 (.int .i64 (qa d 72 + x.length))) (M ++ bI x):=by
 subst hr0;exact q7D h (Go.Proofs.allB_list hx) (qjC h.1 hx (by omega)) (by rw [Go.Proofs.bI_len]; omega)
theorem qt8 {d x f:List (List Value)} {M:List Int} {r:Nat} (h:qap d M) (hx:qk x) (hr0:M.length % 64 = r) (hr:r + x.length = 64) (hf:qca f) (hst:stW f = qfh wK (stW (qa0 (qa6 d (8 + r) x) 72 (.int .i64 (qa d 72 + x.length)))) (qdP (qa0 (qa6 d (8 + r) x) 72 (.int .i64 (qa d 72 + x.length))))) (hk:qa f 72 = qa (qa0 (qa6 d (8 + r) x) 72 (.int .i64 (qa d 72 + x.length))) 72):qap f (M ++ bI x):=by
 subst hr0;exact q70 h (Go.Proofs.allB_list hx) (qjC h.1 hx (by omega)) (by rw [Go.Proofs.bI_len]; omega) hf hst hk
theorem qlr {d:List (List Value)} {m m':List Int} (h:qap d m) (h':qap d m'):m.length = m'.length:=by
 have h1:=h.2.2.1;have h2:=h'.2.2.1;omega
theorem q7F {d:List (List Value)} {o a n:Nat} (h:o + a + n <= d.length):qaB d o a ++ bI ((d.drop (o + a)).take n) = qaB d o ((a + n:Nat):Int):=by
 simp only [qaB,jal,bI,jc4,jd3];rw [List.take_add,je0]
theorem qAn {d:List (List Value)} {o a:Nat} (h:o + a <= d.length):(qaB d o a).length = a:=by
 simp only [qaB,jal,bI,jbe,jc2,ja7]; omega
theorem qAo {d:List (List Value)} {o n:Nat} (h:qk d):qk ((d.drop o).take n):=fun row hr=>h row (List.drop_subset _ _ (je7 _ _ hr))
theorem qzj {d:List (List Value)} {n:Nat} (h:qG d n):qf d n = (d.headD []).map qX:=by
 obtain ⟨row,rfl,hl⟩:=h;refine jdj (by simp [qf,hl]) fun i h1 h2=>?_
 simp only [qf,ja7,List.length_range] at h1;simp [qf,qa,show i < row.length by omega]
theorem q4f {d:List (List Value)} {o n l:Nat} (h:n <= l):(qb2 d o l).take n = qb2 d o n:=by
 simp only [qb2,<- jc4,jeg,jb8 h]
theorem qp9 {d:List (List Value)} {o n k:Nat} (h:qG d k):bI (qb2 d o n) = ((qf d k).drop o).take n:=by
 rw [qzj h,<- jd3,<- jc4,bI,qb2,jdr];rfl
theorem qnA {d:List (List Value)} {o n k:Nat} (h:qG d k) (ho:o + n <= k):(qb2 d o n).length = n:=by
 obtain ⟨row,rfl,hl⟩:=h;simp [qb2,hl]; omega
theorem qrZ {d:List (List Value)} {o n k:Nat} (h:qG d k) (ha:qH (qf d k)):qk (qb2 d o n):=fun row hr=>by
 obtain ⟨v,hv,rfl⟩:=jbk.1 hr;have h1:v ∈ d.headD []:=List.drop_subset _ _ (je7 _ _ hv);refine ha _ ?_;rw [qzj h];exact jbk.2 ⟨v,h1,rfl⟩
theorem q58 {d:List (List Value)} {a n:Nat}:qdT d 0 a ++ ((qf d 72).drop a).take n = qdT d 0 ((a + n:Nat):Int):=by
 simp only [qdT,jal,jdk,jdl];rw [List.take_add]
theorem qx9 {d:List (List Value)} {a:Nat} (h:a <= 72):(qdT d 0 a).length = a:=by
 simp [qdT,qcq]; omega
def qh4:List Value:=qom.map (Value.int .u32) ++ (List.replicate 64 (Value.int .u8 0) ++ [Value.int .i64 0])
theorem q23:qap [qh4] []:=by
 refine ⟨⟨⟨_,rfl,by decide⟩,fun j hj=>?_,fun j h1 h2=>?_⟩,fun x hx=>absurd hx (by simp),by decide,by decide,fun j hj=>absurd hj (by simp)⟩
 ·exact (by decide:∀ j:Fin 8,0 <= qa [qh4] j.val/\qa [qh4] j.val < 4294967296) ⟨j,hj⟩
 ·exact (by decide:∀ j:Fin 72,8 <= j.val->0 <= qa [qh4] j.val/\qa [qh4] j.val < 256) ⟨j,h2⟩ h1
theorem qkh {d e:List (List Value)} {m:List Int} (h:qap d m) (h1:qG e 73) (h2:∀ j,j < 73->qa e j = qa d j):qap e m:=by
 obtain ⟨⟨a1,a2,a3⟩,b,c,d',f⟩:=h;refine ⟨⟨h1,fun j hj=>by rw [h2 j (by omega)]; exact a2 j hj,fun j hj hj2=>by rw [h2 j (by omega)]; exact a3 j hj hj2⟩,b,by rw [h2 72 (by omega)]; exact c,by rw [qmK (e:=d) (fun j hj=>h2 j (by omega))]; exact d',fun j hj=>by rw [h2 _ (by omega)]; exact f j hj⟩
def qjU (f:Nat->Int):List Value:=(List.range 73).map fun j=>.int (if j < 8 then .u32 else if j < 72 then .u8 else .i64) (f j)
theorem qvr {f:Nat->Int} {j:Nat} (h:j < 73):qa [qjU f] j = f j:=by
 simp [qa,qjU,h,qX]
theorem qvd {f:Nat->Int}:qG [qjU f] 73:=⟨_,rfl,by simp [qjU]⟩
theorem qCT {d:List (List Value)} {n:Nat} {v:Int} (h1:1 <= n) (h2:n <= 64) (hd:qG d 72) (hc:∀ j,j < 72->qa d j = if j = 0 then 128 else if n <= j/\j < n + 8 then (beL v 8)[j - n]?.getD 0 else 0):qdT d 0 ((n + 8:Nat):Int) = 128 :: (List.replicate (n - 1) 0 ++ beL v 8):=by
 have hl:(qdT d 0 ((n + 8:Nat):Int)).length = n + 8:=qx9 (by omega);refine jdj (by rw [hl]; simp [qax]; omega) fun i i1 i2=>?_
 rw [hl] at i1;have e1:(qdT d 0 ((n + 8:Nat):Int))[i] = qa d i:=by
  simp [qdT,qf]
 rw [e1,hc i (by omega)];by_cases e:i = 0
 ·subst e; simp
 ·rw [jaf e,List.getElem_cons,dif_neg e]
  by_cases hn:n <= i
  ·rw [jah ⟨hn,by omega⟩,jfw (by simp; omega)]
   have:i - 1 - (List.replicate (n - 1) (0:Int)).length = i - n:=by simp; omega
   simp only [this];rw [jac (by rw [qax]; omega)]; rfl
  ·rw [jaf (by omega),List.getElem_append_left (by simp; omega),List.getElem_replicate]
theorem qsJ {v:Int} {n j:Nat} (h:j < n):(beL v n)[j]?.getD 0 = (v.fdiv (2 ^ (8 * (n - 1 - j)))) % 256:=by
 simp [beL,h]
theorem qc6 {x:Int}:IntKind.u8.wrap x = x % 256:=by
 simp [IntKind.wrap,IntKind.bits,IntKind.signed]
theorem qBS {d:List (List Value)} (h:qca d) {k:Nat} (hk:k < 8):(stL (stW d)).getD k 0 = qa d k:=by
 have h8:stL (stW d) = [ofW (toW (qa d 0)),ofW (toW (qa d 1)),ofW (toW (qa d 2)),ofW (toW (qa d 3)),ofW (toW (qa d 4)),ofW (toW (qa d 5)),ofW (toW (qa d 6)),ofW (toW (qa d 7))]:=rfl;rw [h8,qb0 (h.2.1 0 (by omega)),qb0 (h.2.1 1 (by omega)),qb0 (h.2.1 2 (by omega)),qb0 (h.2.1 3 (by omega)),qb0 (h.2.1 4 (by omega)),qb0 (h.2.1 5 (by omega)),qb0 (h.2.1 6 (by omega)),qb0 (h.2.1 7 (by omega))]
 match k,hk with
 | 0,_=>rfl
 | 1,_=>rfl
 | 2,_=>rfl
 | 3,_=>rfl
 | 4,_=>rfl
 | 5,_=>rfl
 | 6,_=>rfl
 | 7,_=>rfl
theorem q4V {d:List (List Value)} (h:qca d) {t:Nat} (ht:t < 32):(qeo (stW d))[t]?.getD 0 = ((qa d (t / 4)).fdiv (2 ^ (24 - 8 * (t % 4)))) % 256:=by
 rw [<- qBS h (by omega)];simp [qeo,ht]
theorem qsT {x:Int} {n:Nat} (hn:n <= 64):qc .shr .u64 x (n:Int) = x.fdiv (2 ^ n):=by
 show x.fdiv (2 ^ (min (n:Int).toNat 64)) = _
 rw [jal,jb8 hn]
theorem q0B {x:Int} {n:Nat} (hn:n <= 32):qc .shr .u32 x (n:Int) = x.fdiv (2 ^ n):=by
 show x.fdiv (2 ^ (min (n:Int).toNat 32)) = _
 rw [jal,jb8 hn]
theorem qsC {d:List (List Value)} {n:Nat} {l:List Int} (hl:l.length = n) (h:∀ j,j < n->qa d j = l[j]?.getD 0):qf d n = l:=by
 refine jdj (by rw [qcq,hl]) fun i h1 h2=>?_
 rw [qcq] at h1;have:=h i h1;rw [jac h2] at this;simpa [qf] using this
def qdL (f:Nat->Int):List Value:=(List.range 32).map fun j=>.int .u8 (f j)
theorem qfb {f:Nat->Int} {j:Nat} (h:j < 32):qa [qdL f] j = f j:=by
 simp [qa,qdL,h,qX]
theorem q9A {d:List (List Value)} {n:Nat} {x:Int} (h:x ∈ qf d n):∃ j,j < n/\qa d j = x:=by
 obtain ⟨j,hj,e⟩:=jbk.1 h;exact ⟨j,jb1.1 hj,e⟩
theorem qEv {t:Nat} (h:t < 32):qc .quo .i64 (t:Int) 4 = ((t / 4:Nat):Int):=by
 show IntKind.i64.wrap ((t:Int).tdiv 4) = _
 rw [jdy (by omega),Go.Proofs.wrap64 (by omega) (by omega)]; omega
theorem qEa {t:Nat}:qc .rem .i64 (t:Int) 4 = ((t % 4:Nat):Int):=by
 show (t:Int).tmod 4 = _
 rw [jdx (by omega)]; omega
end Go.Eng
set_option maxRecDepth 100000
namespace Go.Eng
open Go
def qb5 (f:Nat->Int) (len n:Nat):List Int:=(List.range len).map fun i=>if i < n then f i else 0
def qaG (n m:Nat):List Int:=(List.range (n * n)).map fun t=>if t / n = t % n/\t / n < m then 1 else 0
def qo6 (cols:Nat) (i:Nat):Int:=qhR (i / cols:Nat) (i % cols:Nat)
def qb9 (rows cols:Nat):List Int:=qb5 (qo6 cols) (rows * cols) (rows * cols)
def qcz (a b:List Int) (ra ca cb:Nat):Nat->List Int
 | 0=>List.replicate (ra * cb) 0
 | t + 1=>qE (qcz a b ra ca cb t) (t / ca * cb) (seg b (t % ca * cb) cb) (a.getD t 0)
def qof (a b:List Int) (ra ca cb:Nat):List Int:=qcz a b ra ca cb (ra * ca)
def qde (a:List Int) (ca c:Nat):Nat->Nat->Nat
 | p,0=>p
 | p,n + 1=>if a.getD (p * ca + c) 0 = 0 then qde a ca c (p + 1) n else p
def qaL (ca cb rank c:Nat) (a b:List Int):Nat->List Int × List Int
 | 0=>(a,b)
 | i + 1 =>
  let s:=qaL ca cb rank c a b i
  if i = rank then s else
   (qE s.1 (i * ca) (seg s.1 (rank * ca) ca) (s.1.getD (i * ca + c) 0),qE s.2 (i * cb) (seg s.2 (rank * cb) cb) (s.1.getD (i * ca + c) 0))
def qbM (ca cb rank p:Nat) (a b:List Int):List Int × List Int :=
 if p = rank then (a,b) else (qE a (rank * ca) (seg a (p * ca) ca) 1,qE b (rank * cb) (seg b (p * cb) cb) 1)
def qhF (ca cb rank c:Nat) (a b:List Int):List Int × List Int :=
 (qbw a (rank * ca) ca (qdU (a.getD (rank * ca + c) 0)),qbw b (rank * cb) cb (qdU (a.getD (rank * ca + c) 0)))
def qg5 (rows ca cb c:Nat) (s:List Int × List Int × Nat):List Int × List Int :=
 let s1:=qbM ca cb s.2.2 (qde s.1 ca c s.2.2 (rows - s.2.2)) s.1 s.2.1
 qhF ca cb s.2.2 c s1.1 s1.2
def qcV (rows ca cb c:Nat) (s:List Int × List Int × Nat):List Int × List Int × Nat :=
 if rows <= s.2.2 then s else
  if qde s.1 ca c s.2.2 (rows - s.2.2) = rows then s else
   let s3:=qaL ca cb s.2.2 c (qg5 rows ca cb c s).1 (qg5 rows ca cb c s).2 rows
   (s3.1,s3.2,s.2.2 + 1)
def qcj (rows ca cb:Nat) (a b:List Int):Nat->List Int × List Int × Nat
 | 0=>(a,b,0)
 | c + 1=>qcV rows ca cb c (qcj rows ca cb a b c)
def qpP (a b:T) (r l c:Nat):Bool × List T:=(true,[.vint .i64 a,.vint .i64 b,.vslice r (.lit 0) (.var l) (.var c) 1])
def qpX:Bool × List T:=(true,[.vint .i64 (.lit 0),.vint .i64 (.lit 0),.vnils])
def qa7 (t:T):Bool × List T:=(false,[.vint .i64 t])
def qgN:Ctr:={ fn := 166,nv:=1,args:=[iv .i64 (.var 0)],heap:=[],ro:=[],pre:=fun _=>True,alts:=[
 { k:=0,ret:=.tup [qpX,qa7 (.lit 2)],heap:=[],post:=fun Z=>(Z 0).i < 1∨255 < (Z 0).i },
 { k:=4,ret:=.tup [qpP (.var 0) (.var 0) 1 2 3,qa7 (.lit 0)],heap:=[bHp 1 4 3],post:=fun Z=>1 <= (Z 0).i/\(Z 0).i <= 255/\qdY (Z 0).i (Z 0).i (Z 2).i (Z 3).i (Z 4).d/\(Z 2).i = (Z 4).d.length/\bI (Z 4).d = qaG (Z 0).i.toNat (Z 0).i.toNat }] }
def qyA:Inv:={ key:=5,nv:=7,env:=[(0,iv .i64 (.var 0)),(2,.one (.vptr 1006 (.lit 0) 3 0)),(4,.one (.vptr 1005 (.lit 0) 3 0)),(16,iv .i64 (.var 0)),(17,iv .i64 (.var 1000))],heap:=[.cells 1005 200 [.vint .i64 (.var 0),.vint .i64 (.var 0),.vslice 1001 (.lit 0) (.var 1002) (.var 1003) 1],.cells 1006 200 [.vint .i64 (.lit 0),.vint .i64 (.lit 0),.vnils],bHp 1001 1004 1003],inv:=(fun Z=>1 <= (Z 0).i/\(Z 0).i <= 255/\0 <= (Z 1000).i/\(Z 1000).i <= (Z 0).i/\qdY (Z 0).i (Z 0).i (Z 1002).i (Z 1003).i (Z 1004).d/\(Z 1002).i = (Z 1004).d.length/\bI (Z 1004).d = qaG (Z 0).i.toNat (Z 1000).i.toNat),mu:=(fun Z=>((Z 0).i - (Z 1000).i).toNat) }
def qcG (r c:Int):Prop:=r < 1∨255 < r∨c < 1∨255 < c
def qfH:Ctr:={ fn := 150,nv:=4,args:=[qaK,iv .i64 (.var 2),iv .i64 (.var 3)],heap:=[fHp 1],ro:=[],pre:=fun Z=>ql (Z 1).d,alts:=[
 { k:=1,ret:=.tup [qpX,qa7 (.lit 2)],heap:=[fHp 4],post:=fun Z=>ql (Z 4).d/\qcG (Z 2).i (Z 3).i },
 { k:=5,ret:=.tup [qpP (.var 2) (.var 3) 4 5 6,qa7 (.lit 0)],heap:=[fHp 7,bHp 4 8 6],post:=fun Z=>ql (Z 7).d/\¬ qcG (Z 2).i (Z 3).i/\qdY (Z 2).i (Z 3).i (Z 5).i (Z 6).i (Z 8).d/\(Z 5).i = (Z 8).d.length/\bI (Z 8).d = qb9 (Z 2).i.toNat (Z 3).i.toNat }] }
def q7j:List SH:=[fHp 1006,.cells 1007 200 [.vint .i64 (.lit 0),.vint .i64 (.lit 0),.vnils],.cells 1005 200 [.vint .i64 (.var 2),.vint .i64 (.var 3),.vslice 1001 (.lit 0) (.var 1002) (.var 1003) 1],bHp 1001 1004 1003]
def qte (Z:Env) (n:Int):Prop:=¬ qcG (Z 2).i (Z 3).i/\ql (Z 1006).d/\qdY (Z 2).i (Z 3).i (Z 1002).i (Z 1003).i (Z 1004).d/\(Z 1002).i = (Z 1004).d.length/\bI (Z 1004).d = qb5 (qo6 (Z 3).i.toNat) ((Z 2).i.toNat * (Z 3).i.toNat) n.toNat
def qtJ:Inv:={ key:=7,nv:=8,env:=[(0,qaK),(1,iv .i64 (.var 2)),(2,iv .i64 (.var 3)),(6,.one (.vptr 1007 (.lit 0) 3 0)),(8,.one (.vptr 1005 (.lit 0) 3 0)),(32,iv .i64 (.var 2)),(33,iv .i64 (.var 1000))],heap:=q7j,inv:=(fun Z=>0 <= (Z 1000).i/\(Z 1000).i <= (Z 2).i/\qte Z ((Z 1000).i * (Z 3).i)),mu:=(fun Z=>((Z 2).i - (Z 1000).i).toNat) }
def quY:Inv:={ key:=10,nv:=9,env:=[(0,qaK),(1,iv .i64 (.var 2)),(2,iv .i64 (.var 3)),(6,.one (.vptr 1007 (.lit 0) 3 0)),(8,.one (.vptr 1005 (.lit 0) 3 0)),(32,iv .i64 (.var 2)),(33,iv .i64 (.var 1000)),(9,iv .i64 (.var 1000)),(36,iv .i64 (.var 3)),(37,iv .i64 (.var 1008))],heap:=q7j,inv:=(fun Z=>0 <= (Z 1000).i/\(Z 1000).i < (Z 2).i/\0 <= (Z 1008).i/\(Z 1008).i <= (Z 3).i/\qte Z ((Z 1000).i * (Z 3).i + (Z 1008).i)/\(Z 1000).i = (Z 10).i),mu:=(fun Z=>((Z 3).i - (Z 1008).i).toNat) }
def q9w:SV:=qqa 2 3 4 5 6
def qEd:SV:=qqa 9 10 11 12 13
def qaN (r c l:Int):Prop:=1 <= r/\r <= 255/\1 <= c/\c <= 255/\l = r * c
def qk2:Ctr:={ fn := 151,nv:=16,args:=[qaK,q9w,qEd],heap:=[fHp 1],ro:=[bHp 4 7 8,bHp 11 14 15],pre:=fun Z=>ql (Z 1).d/\0 <= (Z 5).i/\(Z 5).i <= (Z 6).i/\(Z 5).i <= (Z 7).d.length/\qk (Z 7).d/\0 <= (Z 12).i/\(Z 12).i <= (Z 13).i/\(Z 12).i <= (Z 14).d.length/\qk (Z 14).d,alts:=[
 { k:=1,ret:=.tup [qpX,qa7 (.lit 2)],heap:=[fHp 16],post:=fun Z=>ql (Z 16).d/\¬ (qaN (Z 2).i (Z 3).i (Z 5).i/\qaN (Z 9).i (Z 10).i (Z 12).i) },
 { k:=1,ret:=.tup [qpX,qa7 (.lit 10)],heap:=[fHp 16],post:=fun Z=>ql (Z 16).d/\qaN (Z 2).i (Z 3).i (Z 5).i/\qaN (Z 9).i (Z 10).i (Z 12).i/\(Z 3).i ≠ (Z 9).i },
 { k:=5,ret:=.tup [qpP (.var 2) (.var 10) 16 17 18,qa7 (.lit 0)],heap:=[fHp 19,bHp 16 20 18],post:=fun Z=>ql (Z 19).d/\qaN (Z 2).i (Z 3).i (Z 5).i/\qaN (Z 9).i (Z 10).i (Z 12).i/\(Z 3).i = (Z 9).i/\qdY (Z 2).i (Z 10).i (Z 17).i (Z 18).i (Z 20).d/\(Z 17).i = (Z 20).d.length/\bI (Z 20).d = qof ((bI (Z 7).d).take (Z 5).i.toNat) ((bI (Z 14).d).take (Z 12).i.toNat) (Z 2).i.toNat (Z 3).i.toNat (Z 10).i.toNat }] }
def q3o (r:Nat):SH:=.cells r 200 [.vint .i64 (.lit 0),.vint .i64 (.lit 0),.vnils]
def qiV (r a b s l c:Nat):SH:=.cells r 200 [.vint .i64 (.var a),.vint .i64 (.var b),.vslice s (.lit 0) (.var l) (.var c) 1]
def q6d:List SH:=[fHp 1006,q3o 1009,qiV 1007 2 3 4 5 6,qiV 1008 9 10 11 12 13,qiV 1005 2 10 1001 1002 1003,bHp 1001 1004 1003]
def q0I:List (Nat × SV):=[(0,qaK),(6,.one (.vptr 1009 (.lit 0) 3 0)),(4,.one (.vptr 1007 (.lit 0) 3 0)),(5,.one (.vptr 1008 (.lit 0) 3 0)),(8,.one (.vptr 1005 (.lit 0) 3 0)),(36,iv .i64 (.var 2)),(37,iv .i64 (.var 1000))]
def qtn (Z:Env) (t:Int):Prop:=qaN (Z 2).i (Z 3).i (Z 5).i/\qaN (Z 9).i (Z 10).i (Z 12).i/\(Z 3).i = (Z 9).i/\ql (Z 1006).d/\qdY (Z 2).i (Z 10).i (Z 1002).i (Z 1003).i (Z 1004).d/\(Z 1002).i = (Z 1004).d.length/\bI (Z 1004).d = qcz ((bI (Z 7).d).take (Z 5).i.toNat) ((bI (Z 14).d).take (Z 12).i.toNat) (Z 2).i.toNat (Z 3).i.toNat (Z 10).i.toNat t.toNat
def q2w:Inv:={ key:=9,nv:=10,env:=q0I,heap:=q6d,inv:=(fun Z=>0 <= (Z 1000).i/\(Z 1000).i <= (Z 2).i/\qtn Z ((Z 1000).i * (Z 3).i)),mu:=(fun Z=>((Z 2).i - (Z 1000).i).toNat) }
def q1m:Inv:={ key:=12,nv:=14,env:=q0I ++ [(9,iv .i64 (.var 1000)),(42,bSl 4 1011 1012 1013),(43,iv .i64 (.var 1012)),(44,iv .i64 (.var 1010))],heap:=q6d,inv:=(fun Z=>0 <= (Z 1000).i/\(Z 1000).i < (Z 2).i/\0 <= (Z 1010).i/\(Z 1010).i <= (Z 3).i/\(Z 1011).i = (Z 1000).i * (Z 3).i/\(Z 1012).i = (Z 3).i/\qtn Z ((Z 1000).i * (Z 3).i + (Z 1010).i)/\(Z 1000).i = (Z 26).i),mu:=(fun Z=>((Z 3).i - (Z 1010).i).toNat) }
def q3h:Nat := 223
def wrA:SV:=.one (.vptr 0 (.lit 0) 3 0)
def qag (l f r n c:Nat):SH:=.cells 0 q3h [.vint .i64 (.var l),.vbool (.var f),.vslice r (.lit 0) (.var n) (.var c) 1]
def wOk (lim:Int) (n c:Int) (d:List (List Value)):Prop:=0 <= lim/\lim < 9223372036854775808/\n = d.length/\n <= lim/\qk d
def qhh (lim:Int) (f:Bool) (m:List Int) (k:Int):Bool:=f || decide (lim - m.length < k)
def qgk (lim:Int) (f:Bool) (m s:List Int):Bool × List Int:=if qhh lim f m s.length then (true,m) else (false,m ++ s)
def qch (l f r n c d:Nat):List SH:=[qag l f r n c,bHp r d c]
def qii:Ctr:={ fn := 132,nv:=8,args:=[wrA,iv .i64 (.var 7)],heap:=qch 1 2 3 4 5 6,ro:=[],pre:=fun Z=>wOk (Z 1).i (Z 4).i (Z 5).i (Z 6).d/\0 <= (Z 7).i/\(Z 7).i < 1152921504606846976,alts:=[
 { k:=2,ret:=.one (.vbool (.var 8)),heap:=qch 1 9 3 4 5 6,post:=fun Z=>(Z 9).b = qhh (Z 1).i (Z 2).b (bI (Z 6).d) (Z 7).i/\(Z 8).b = !(Z 9).b }] }
def qhn (Z:Env) (n:Nat) (s:List Int):Prop:=wOk (Z 1).i (Z (n + 2)).i (Z (n + 3)).i (Z (n + 4)).d/\((Z n).b,bI (Z (n + 4)).d) = qgk (Z 1).i (Z 2).b (bI (Z 6).d) s
def qha:Ctr:={ fn := 131,nv:=9,args:=[wrA,.one (.vint .u64 (.var 7)),iv .i64 (.var 8)],heap:=qch 1 2 3 4 5 6,ro:=[],pre:=fun Z=>wOk (Z 1).i (Z 4).i (Z 5).i (Z 6).d/\(Z 4).i + 8 <= 140737488355328/\0 <= (Z 8).i/\(Z 8).i <= 8/\0 <= (Z 7).i/\(Z 7).i < 18446744073709551616,alts:=[
 { k:=5,ret:=.tup [],heap:=qch 1 9 10 11 12 13,post:=fun Z=>qhn Z 9 (beL (Z 7).i (Z 8).i.toNat) }] }
def q1T:Inv:={ key:=2,nv:=5,env:=[(0,wrA),(1,.one (.vint .u64 (.var 7))),(2,iv .i64 (.var 8)),(6,iv .i64 (.var 1004))],heap:=[.cells 0 q3h [.vint .i64 (.var 1),.vbool (.bl false),.vslice 1000 (.lit 0) (.var 1001) (.var 1002) 1],bHp 1000 1003 1002],inv:=(fun Z=>-1 <= (Z 1004).i/\(Z 1004).i < (Z 8).i/\(Z 1001).i = (Z 1003).d.length/\(Z 2).b = false/\(Z 8).i <= (Z 1).i - (Z 4).i/\qk (Z 1003).d/\bI (Z 1003).d = bI (Z 6).d ++ (beL (Z 7).i (Z 8).i.toNat).take ((Z 8).i - 1 - (Z 1004).i).toNat),mu:=(fun Z=>((Z 1004).i + 1).toNat) }
def qsl (fn:Nat) (k:IntKind) (n:Nat):Ctr:={ fn:=fn,nv:=8,args:=[wrA,.one (.vint k (.var 7))],heap:=qch 1 2 3 4 5 6,ro:=[],pre:=fun Z=>wOk (Z 1).i (Z 4).i (Z 5).i (Z 6).d/\(Z 4).i + 8 <= 140737488355328/\0 <= (Z 7).i/\(Z 7).i < 256 ^ n,alts:=[
 { k:=5,ret:=.tup [],heap:=qch 1 8 9 10 11 12,post:=fun Z=>qhn Z 8 (beL (Z 7).i n) }] }
def u8C:Ctr:=qsl 106 .u8 1
def qyt:Ctr:=qsl 105 .u16 2
def qgj:Ctr:={ fn := 104,nv:=1,args:=[iv .i64 (.var 0)],heap:=[],ro:=[],pre:=fun _=>True,alts:=[
 { k:=4,ret:=.one (.vptr 1 (.lit 0) 3 0),heap:=[.cells 1 q3h [.vint .i64 (.var 2),.vbool (.bl false),.vnils]],post:=fun Z=>(Z 2).i = max 0 (Z 0).i }] }
def qnr:Ctr:={ fn := 107,nv:=9,args:=[wrA,.one (.vslice 7 (.lit 0) (.lit 32) (.lit 32) 1)],heap:=qch 1 2 3 4 5 6,ro:=[q9m 7 8],pre:=fun Z=>wOk (Z 1).i (Z 4).i (Z 5).i (Z 6).d/\(Z 4).i + 32 <= 140737488355328/\qG (Z 8).d 32/\qH (qf (Z 8).d 32),alts:=[
 { k:=5,ret:=.tup [],heap:=qch 1 9 10 11 12 13,post:=fun Z=>qhn Z 9 (qf (Z 8).d 32) }] }
def qsG:List CK:=List.replicate 4 (.int .i64) ++ (List.replicate 32 (.int .u8) ++ [.any])
def qEE (r d:Nat):SH:=.arr r 27 qsG (.var d) (.lit 1)
def qrP:Ctr:={ fn := 107,nv:=9,args:=[wrA,.one (.vslice 7 (.lit 4) (.lit 32) (.lit 32) 1)],heap:=qch 1 2 3 4 5 6,ro:=[qEE 7 8],pre:=fun Z=>wOk (Z 1).i (Z 4).i (Z 5).i (Z 6).d/\(Z 4).i + 32 <= 140737488355328/\qG (Z 8).d 37/\qH ((qf (Z 8).d 36).drop 4),alts:=[
 { k:=5,ret:=.tup [],heap:=qch 1 9 10 11 12 13,post:=fun Z=>qhn Z 9 ((qf (Z 8).d 36).drop 4) }] }
def qmE:Ctr:={ fn := 108,nv:=7,args:=[wrA],heap:=[],ro:=qch 1 2 3 4 5 6,pre:=fun Z=>wOk (Z 1).i (Z 4).i (Z 5).i (Z 6).d/\(Z 4).i <= 140737488355328,alts:=[
 { k:=0,ret:=.tup [(false,[.vnils]),qa7 (.lit 3)],heap:=[],post:=fun Z=>(Z 2).b = true },
 { k:=4,ret:=.tup [(false,[.vslice 7 (.lit 0) (.var 4) (.var 8) 1]),qa7 (.lit 0)],heap:=[bHp 7 9 8],post:=fun Z=>(Z 2).b = false/\(Z 9).d = (Z 6).d }] }
def qg7:Ctr:={ fn := 91,nv:=5,args:=[.one (.vslice 0 (.lit 0) (.var 1) (.var 2) 1)],heap:=[],ro:=[bHp 0 3 4],pre:=fun Z=>0 <= (Z 1).i/\(Z 1).i = (Z 3).d.length/\(Z 1).i <= 140737488355328,alts:=[
 { k:=3,ret:=.one (.vslice 5 (.lit 0) (.var 1) (.var 6) 1),heap:=[bHp 5 7 6],post:=fun Z=>(Z 7).d = (Z 3).d }] }
def qsx:Ctr:={ qgN with pre:=fun Z=>1 <= (Z 0).i/\(Z 0).i <= 255,alts:=qgN.alts.drop 1 }
def qpH:Ctr:={ qfH with pre:=fun Z=>ql (Z 1).d/\¬ qcG (Z 2).i (Z 3).i,alts:=qfH.alts.drop 1 }
def qs9:Ctr:={ qiN with alts:=[{ k:=3,ret:=.agg [.vint .i64 (.var 0),.vint .i64 (.var 1),.vslice 7 (.lit 0) (.var 3) (.var 8) 1],heap:=[bHp 7 9 8],post:=fun Z=>(Z 9).d = (Z 5).d.take (Z 3).i.toNat/\((Z 9).d.length:Int) <= (Z 8).i }] }
def qS (r c l cap:Int) (d:qe):Prop:=qdY r c l cap d/\l = d.length
def qkG:Ctr:={ fn := 167,nv:=16,args:=[qaK,q9w,qEd],heap:=[fHp 1,bHp 4 7 8,bHp 11 14 15],ro:=[],pre:=fun Z=>ql (Z 1).d/\qS (Z 2).i (Z 3).i (Z 5).i (Z 6).i (Z 7).d/\qS (Z 9).i (Z 10).i (Z 12).i (Z 13).i (Z 14).d/\(Z 9).i = (Z 2).i,alts:=[
 { k:=4,ret:=iv .i64 (.var 16),heap:=[fHp 17,bHp 4 18 8,bHp 11 19 15],post:=fun Z=>ql (Z 17).d/\qS (Z 2).i (Z 3).i (Z 5).i (Z 6).i (Z 18).d/\qS (Z 9).i (Z 10).i (Z 12).i (Z 13).i (Z 19).d/\0 <= (Z 16).i/\(Z 16).i <= (Z 2).i/\(bI (Z 18).d,bI (Z 19).d,(Z 16).i.toNat) = qcj (Z 2).i.toNat (Z 3).i.toNat (Z 10).i.toNat (bI (Z 7).d) (bI (Z 14).d) (Z 3).i.toNat }] }
def qwU:List SH:=[fHp 1002,qiV 1003 2 3 4 5 6,qiV 1004 9 10 11 12 13,bHp 4 1005 8,bHp 11 1006 15]
def qtd:List (Nat × SV):=[(0,qaK),(4,.one (.vptr 1003 (.lit 0) 3 0)),(5,.one (.vptr 1004 (.lit 0) 3 0)),(7,iv .i64 (.var 1000)),(8,iv .i64 (.var 1001))]
def qB5 (r ca cb l1 c1 l2 c2 rank c:Int) (f da db:qe):Prop:=ql f/\qS r ca l1 c1 da/\qS r cb l2 c2 db/\0 <= rank/\rank <= r/\0 <= c/\c <= ca
def qcB (r ca cb l1 c1 l2 c2 rank c:Int) (f da db a0 b0:qe):Prop:=qB5 r ca cb l1 c1 l2 c2 rank c f da db/\(bI da,bI db,rank.toNat) = qcj r.toNat ca.toNat cb.toNat (bI a0) (bI b0) c.toNat
def q0E:Inv:={ key:=3,nv:=7,env:=qtd,heap:=qwU,inv:=(fun Z=>qcB (Z 2).i (Z 3).i (Z 10).i (Z 5).i (Z 6).i (Z 12).i (Z 13).i (Z 1000).i (Z 1001).i (Z 1002).d (Z 1005).d (Z 1006).d (Z 7).d (Z 14).d),mu:=(fun Z=>((Z 3).i - (Z 1001).i).toNat) }
def qeL (r ca cb l1 c1 l2 c2 rank c p:Int) (f da db a0 b0:qe):Prop:=qcB r ca cb l1 c1 l2 c2 rank c f da db a0 b0/\rank < r/\c < ca/\rank <= p/\p <= r/\qde (bI da) ca.toNat c.toNat p.toNat (r.toNat - p.toNat) = qde (bI da) ca.toNat c.toNat rank.toNat (r.toNat - rank.toNat)
def q2q:Inv:={ key:=6,nv:=8,env:=qtd ++ [(9,iv .i64 (.var 1007))],heap:=qwU,inv:=(fun Z=>qeL (Z 2).i (Z 3).i (Z 10).i (Z 5).i (Z 6).i (Z 12).i (Z 13).i (Z 1000).i (Z 1001).i (Z 1007).i (Z 1002).d (Z 1005).d (Z 1006).d (Z 7).d (Z 14).d/\(Z 1001).i = (Z 19).i),mu:=(fun Z=>((Z 2).i - (Z 1007).i).toNat) }
def qcW (r ca cb l1 c1 l2 c2 rank c i:Int) (f da db a0 b0:qe):Prop :=
 qB5 r ca cb l1 c1 l2 c2 rank c f da db/\rank < r/\c < ca/\0 <= i/\i <= r/\∃ s,s = qcj r.toNat ca.toNat cb.toNat (bI a0) (bI b0) c.toNat/\s.2.2 = rank.toNat /\
  qde s.1 ca.toNat c.toNat rank.toNat (r.toNat - rank.toNat) ≠ r.toNat /\
  (bI da,bI db) = qaL ca.toNat cb.toNat rank.toNat c.toNat (qg5 r.toNat ca.toNat cb.toNat c.toNat s).1 (qg5 r.toNat ca.toNat cb.toNat c.toNat s).2 i.toNat
def q08:Inv:={ key:=16,nv:=8,env:=qtd ++ [(97,iv .i64 (.var 2)),(98,iv .i64 (.var 1007))],heap:=qwU,inv:=(fun Z=>qcW (Z 2).i (Z 3).i (Z 10).i (Z 5).i (Z 6).i (Z 12).i (Z 13).i (Z 1000).i (Z 1001).i (Z 1007).i (Z 1002).d (Z 1005).d (Z 1006).d (Z 7).d (Z 14).d/\(Z 1001).i = (Z 19).i),mu:=(fun Z=>((Z 2).i - (Z 1007).i).toNat) }
def qez (m:List Int) (n:Nat):List Int × List Int × Nat:=qcj n n n m (qaG n n) n
def qbQ:Ctr:={ fn := 134,nv:=9,args:=[qaK,q9w],heap:=[fHp 1],ro:=[bHp 4 7 8],pre:=fun Z=>ql (Z 1).d/\0 <= (Z 5).i/\(Z 5).i <= (Z 6).i/\(Z 5).i <= (Z 7).d.length/\qk (Z 7).d,alts:=[
 { k:=2,ret:=.tup [qpX,qa7 (.var 9)],heap:=[fHp 10],post:=fun Z=>ql (Z 10).d/\((¬ qaN (Z 2).i (Z 3).i (Z 5).i/\(Z 9).i = 2)∨(qaN (Z 2).i (Z 3).i (Z 5).i/\(Z 2).i ≠ (Z 3).i/\(Z 9).i = 10)∨(qaN (Z 2).i (Z 3).i (Z 5).i/\(Z 2).i = (Z 3).i/\(qez ((bI (Z 7).d).take (Z 5).i.toNat) (Z 2).i.toNat).2.2 < (Z 2).i.toNat/\(Z 9).i = 11)) },
 { k:=5,ret:=.tup [qpP (.var 2) (.var 2) 9 10 11,qa7 (.lit 0)],heap:=[fHp 12,bHp 9 13 11],post:=fun Z=>ql (Z 12).d/\qaN (Z 2).i (Z 3).i (Z 5).i/\(Z 2).i = (Z 3).i/\qS (Z 2).i (Z 2).i (Z 10).i (Z 11).i (Z 13).d/\(qez ((bI (Z 7).d).take (Z 5).i.toNat) (Z 2).i.toNat).2.2 = (Z 2).i.toNat/\bI (Z 13).d = (qez ((bI (Z 7).d).take (Z 5).i.toNat) (Z 2).i.toNat).2.1 }] }
def qck (k total:Nat):List Int × List Int × Nat:=qez ((qb9 total k).take (k * k)) k
def qc1 (k total:Nat):List Int:=qof (qb9 total k) (qck k total).2.1 total k k
def qgs:Ctr:={ fn := 122,nv:=4,args:=[qaK,iv .i64 (.var 2),iv .i64 (.var 3)],heap:=[fHp 1],ro:=[],pre:=fun Z=>ql (Z 1).d,alts:=[
 { k:=1,ret:=.tup [qpX,qa7 (.lit 2)],heap:=[fHp 4],post:=fun Z=>ql (Z 4).d/\(qM (Z 2).i (Z 3).i = true->(qck (Z 2).i.toNat (Z 3).i.toNat).2.2 < (Z 2).i.toNat) },
 { k:=6,ret:=.tup [qpP (.var 3) (.var 2) 4 5 6,qa7 (.lit 0)],heap:=[fHp 7,bHp 4 8 6,.abs 9 2],post:=fun Z=>ql (Z 7).d/\qM (Z 2).i (Z 3).i = true/\qS (Z 3).i (Z 2).i (Z 5).i (Z 6).i (Z 8).d/\(qck (Z 2).i.toNat (Z 3).i.toNat).2.2 = (Z 2).i.toNat/\bI (Z 8).d = qc1 (Z 2).i.toNat (Z 3).i.toNat }] }
def q5c:Ctr:={ qgs with pre:=fun Z=>ql (Z 1).d/\qM (Z 2).i (Z 3).i = true/\(qck (Z 2).i.toNat (Z 3).i.toNat).2.2 = (Z 2).i.toNat,alts:=qgs.alts.drop 1 }
def qjM (data:List Int) (n:Nat):List Int:=data ++ List.replicate (n - data.length) 0
def qF (k len:Nat):Nat:=(len + k - 1) / k
def qcu (g full:List Int) (k l i:Nat):Nat->List Int
 | 0=>List.replicate l 0
 | j + 1=>qE (qcu g full k l i j) 0 (seg full (j * l) l) (g.getD (i * k + j) 0)
def qdR (k total:Nat) (data:List Int) (i:Nat):List Int :=
 qcu (qc1 k total) (qjM data (k * qF k data.length)) k (qF k data.length) i k
def qk7:List CK:=[.int .i64,.any]
def qgi (h:Hp) (D:qe) (n:Nat) (f:Nat->List Int):Prop:=∀ j,j < n->∃ v d,D[j]? = some [.int .i64 j,v]/\Rd h kB v d/\bI d = f j/\qk d
def qhM:Ctr:={ fn := 87,nv:=9,args:=[qaK,iv .i64 (.var 2),iv .i64 (.var 3),.one (.vslice 4 (.lit 0) (.var 5) (.var 6) 1)],heap:=[fHp 1],ro:=[bHp 4 7 8],pre:=fun Z=>ql (Z 1).d/\(Z 5).i = (Z 7).d.length/\qk (Z 7).d/\(qM (Z 2).i (Z 3).i = true->(qck (Z 2).i.toNat (Z 3).i.toNat).2.2 = (Z 2).i.toNat),alts:=[
 { k:=2,ret:=.tup [(false,[.vnils]),qa7 (.var 9)],heap:=[fHp 10],post:=fun Z=>ql (Z 10).d/\((qM (Z 2).i (Z 3).i = false/\(Z 9).i = 2)∨(qM (Z 2).i (Z 3).i = true/\8192 < (Z 5).i/\(Z 9).i = 3)) },
 { k:=5,ret:=.tup [(false,[.vslice 9 (.lit 0) (.var 3) (.var 10) 2]),qa7 (.lit 0)],heap:=[fHp 11,.arr 9 86 qk7 (.var 12) (.var 10),.abs 13 2],post:=fun Z=>ql (Z 11).d/\qM (Z 2).i (Z 3).i = true/\(Z 5).i <= 8192/\(Z 12).d.length = (Z 3).i.toNat/\qgi (Z 13).h (Z 12).d (Z 3).i.toNat (qdR (Z 2).i.toNat (Z 3).i.toNat (bI (Z 7).d)) }] }
def qBv:List SH:=[fHp 1008,qiV 1004 3 2 1009 1010 1011,bHp 1009 1012 1011,bHp 1001 1013 1003,.arr 1005 86 qk7 (.var 1014) (.var 1006)]
def q6s:List (Nat × SV):=[(0,qaK),(10,iv .i64 (.var 1000)),(12,.one (.vslice 1001 (.lit 0) (.var 1002) (.var 1003) 1)),(13,.one (.vptr 1004 (.lit 0) 3 0)),(15,.one (.vslice 1005 (.lit 0) (.var 3) (.var 1006) 2)),(53,iv .i64 (.var 3)),(54,iv .i64 (.var 1007))]
def qpy (k total len l lf cf lg cg i:Int) (f dg df D data:qe):Prop :=
 ql f/\qM k total = true/\len <= 8192/\len = data.length/\qk data/\l = (qF k.toNat data.length:Nat)/\l <= 8192/\lf = k * l/\lf = df.length/\qk df/\bI df = qjM (bI data) (k.toNat * l.toNat) /\
  qS total k lg cg dg/\bI dg = qc1 k.toNat total.toNat/\D.length = total.toNat/\(∀ row ∈ D,row.length = 2)/\0 <= i/\i <= total
def qtA:Inv:={ key:=13,nv:=16,env:=q6s,heap:=qBv ++ [.abs 1015 2],inv:=(fun Z=>qpy (Z 2).i (Z 3).i (Z 5).i (Z 1000).i (Z 1002).i (Z 1003).i (Z 1010).i (Z 1011).i (Z 1007).i (Z 1008).d (Z 1012).d (Z 1013).d (Z 1014).d (Z 7).d/\qgi (Z 1015).h (Z 1014).d (Z 1007).i.toNat (qdR (Z 2).i.toNat (Z 3).i.toNat (bI (Z 7).d))),mu:=(fun Z=>((Z 3).i - (Z 1007).i).toNat) }
def quX:Inv:={ key:=17,nv:=23,env:=q6s ++ [(16,iv .i64 (.var 1007)),(17,.one (.vslice 1016 (.lit 0) (.var 1000) (.var 1017) 1)),(61,bSl 1009 1019 1020 1021),(62,iv .i64 (.var 1020)),(63,iv .i64 (.var 1022))],heap:=qBv ++ [bHp 1016 1018 1017,.abs 1015 2],inv:=(fun Z=>qpy (Z 2).i (Z 3).i (Z 5).i (Z 1000).i (Z 1002).i (Z 1003).i (Z 1010).i (Z 1011).i (Z 1007).i (Z 1008).d (Z 1012).d (Z 1013).d (Z 1014).d (Z 7).d/\qgi (Z 1015).h (Z 1014).d (Z 1007).i.toNat (qdR (Z 2).i.toNat (Z 3).i.toNat (bI (Z 7).d))/\(Z 1007).i = (Z 29).i/\(Z 1007).i < (Z 3).i/\(Z 1019).i = (Z 1007).i * (Z 2).i/\(Z 1020).i = (Z 2).i/\0 <= (Z 1022).i/\(Z 1022).i <= (Z 2).i/\(Z 1018).d.length = (Z 1000).i.toNat/\qk (Z 1018).d/\bI (Z 1018).d = qcu (bI (Z 1012).d) (bI (Z 1013).d) (Z 2).i.toNat (Z 1000).i.toNat (Z 1007).i.toNat (Z 1022).i.toNat),mu:=(fun Z=>((Z 2).i - (Z 1022).i).toNat) }
def qam (k n t:Int):Bool:=decide (1 <= k/\k <= n/\n <= t/\t <= 255)
def qy (k n t s l:Int):Bool:=qam k n t && decide (0 <= s/\s <= 8192/\l = t)
def qgV:Ctr:={ fn := 86,nv:=3,args:=[iv .i64 (.var 0),iv .i64 (.var 1),iv .i64 (.var 2)],heap:=[],ro:=[],pre:=fun _=>True,alts:=[
 { k:=1,ret:=.one (.vbool (.var 3)),heap:=[],post:=fun Z=>(Z 3).b = qam (Z 0).i (Z 1).i (Z 2).i }] }
def qbe (k n t s o r l c:Nat):List T:=[.vint .i64 (.var k),.vint .i64 (.var n),.vint .i64 (.var t),.vint .i64 (.var s)] ++ (qN .u8 o 32 ++ [.vslice r (.lit 0) (.var l) (.var c) 32])
def qaC (r d c:Nat):SH:=.arr r 24 k32 (.var d) (.var c)
def qbS:SV:=.agg (qbe 0 1 2 3 4 5 6 7)
def qeV (row:List Value):List Int:=(List.range 32).map fun j=>qbp row j
def dgs (d:List (List Value)):List (List Int):=d.map qeV
def qbJ (d:List (List Value)):Prop:=∀ row ∈ d,row.length = 32/\qH (qeV row)
def qdd:Ctr:={ fn := 74,nv:=10,args:=[qbS],heap:=[],ro:=[qaC 5 8 9],pre:=fun Z=>0 <= (Z 6).i,alts:=[
 { k:=1,ret:=iv .i64 (.var 10),heap:=[],post:=fun Z=>(Z 10).i = if qy (Z 0).i (Z 1).i (Z 2).i (Z 3).i (Z 6).i then 0 else 2 }] }
def qbb (i:Int):List Int:=[(i.fdiv 256) % 256,i % 256]
def qd8:Ctr:={ fn := 88,nv:=9,ip:=[gIp 7],args:=[iv .i64 (.var 0),bSl 1 2 3 4],heap:=[],ro:=[bHp 1 5 6,gHp 7 8],pre:=fun Z=>0 <= (Z 2).i/\0 <= (Z 3).i/\(Z 3).i <= (Z 4).i/\(Z 3).i < 576460752303423488/\(Z 2).i + (Z 3).i <= (Z 5).d.length/\qk (Z 5).d/\gOk Z 7 8 gR,alts:=[
 { k:=1,ret:=dgV 9,heap:=[],post:=fun Z=>qf (Z 9).d 32 = sha (qbb (Z 0).i ++ qaB (Z 5).d (Z 2).i (Z 3).i) }] }
def qan (k n t s:Int) (o:List Int):List Int:=beL 19713 2 ++ (beL (k % 256) 1 ++ (beL (n % 256) 1 ++ (beL (t % 256) 1 ++ (beL (s % 65536) 2 ++ o))))
def qfI:Ctr:={ fn := 73,nv:=10,args:=[qbS],heap:=[],ro:=[qaC 5 8 9],pre:=fun Z=>0 <= (Z 6).i/\(Z 6).i = (Z 8).d.length/\qH (qf (Z 4).d 32)/\qbJ (Z 8).d,alts:=[
 { k:=0,ret:=.tup [(false,[.vnils]),qa7 (.lit 2)],heap:=[],post:=fun Z=>qy (Z 0).i (Z 1).i (Z 2).i (Z 3).i (Z 6).i = false },
 { k:=4,ret:=.tup [(false,[.vslice 10 (.lit 0) (.var 11) (.var 12) 1]),qa7 (.lit 0)],heap:=[bHp 10 13 12],post:=fun Z=>qy (Z 0).i (Z 1).i (Z 2).i (Z 3).i (Z 6).i = true/\(Z 11).i = (Z 13).d.length/\qk (Z 13).d/\bI (Z 13).d = qan (Z 0).i (Z 1).i (Z 2).i (Z 3).i (qf (Z 4).d 32) ++ (dgs (Z 8).d).flatten }] }
def q1F:Inv:={ key:=12,nv:=8,env:=[(5,.one (.vptr 1000 (.lit 0) 3 0)),(45,.one (.vslice 5 (.lit 0) (.var 6) (.var 7) 32)),(46,iv .i64 (.var 6)),(47,iv .i64 (.var 1007))],heap:=[.cells 1000 q3h [.vint .i64 (.var 1001),.vbool (.var 1002),.vslice 1003 (.lit 0) (.var 1004) (.var 1005) 1],bHp 1003 1006 1005],inv:=(fun Z=>qy (Z 0).i (Z 1).i (Z 2).i (Z 3).i (Z 6).i = true/\0 <= (Z 1007).i/\(Z 1007).i <= (Z 6).i/\(Z 1001).i = 39 + 32 * (Z 2).i/\(Z 1002).b = false/\wOk (Z 1001).i (Z 1004).i (Z 1005).i (Z 1006).d/\bI (Z 1006).d = qan (Z 0).i (Z 1).i (Z 2).i (Z 3).i (qf (Z 4).d 32) ++ ((dgs (Z 8).d).take (Z 1007).i.toNat).flatten),mu:=(fun Z=>((Z 6).i - (Z 1007).i).toNat) }
def qFo (r:Nat):SH:=.cells r 27 (List.replicate 4 (.vint .i64 (.lit 0)) ++ (List.replicate 32 (.vint .u8 (.lit 0)) ++ [.vnils]))
def qER:Bool × List T:=(true,List.replicate 4 (.vint .i64 (.lit 0)) ++ (List.replicate 32 (.vint .u8 (.lit 0)) ++ [.vnils]))
def qdC (f:Nat->List Int) (n:Nat):List (List Int):=(List.range n).map fun (i:Nat)=>sha (qbb i ++ f i)
def qlP:Ctr:={ fn := 43,nv:=12,ip:=[gIp 10],ow:=[1003],args:=[qaK,iv .i64 (.var 2),iv .i64 (.var 3),iv .i64 (.var 4),.one (.vslice 5 (.lit 0) (.var 6) (.var 7) 1)],heap:=[fHp 1],ro:=[bHp 5 8 9,gHp 10 11],pre:=fun Z=>ql (Z 1).d/\(Z 6).i = (Z 8).d.length/\(Z 6).i <= (Z 7).i/\qk (Z 8).d/\gOk Z 10 11 gR/\(qM (Z 2).i (Z 4).i = true->(qck (Z 2).i.toNat (Z 4).i.toNat).2.2 = (Z 2).i.toNat),alts:=[
 { k:=2,ret:=.tup [qER,(false,[.vnils]),qa7 (.var 12)],heap:=[fHp 13],post:=fun Z=>ql (Z 13).d/\((qam (Z 2).i (Z 3).i (Z 4).i = false/\(Z 12).i = 2)∨(qam (Z 2).i (Z 3).i (Z 4).i = true/\8192 < (Z 6).i/\(Z 12).i = 3)) },
 { k:=9,ret:=.tup [(true,qbe 2 3 4 6 12 13 4 14),(false,[.vslice 15 (.lit 0) (.var 4) (.var 16) 2]),qa7 (.lit 0)],heap:=[fHp 17,qaC 13 18 14,.arr 15 86 qk7 (.var 19) (.var 16),.abs 20 2],post:=fun Z=>ql (Z 17).d/\qam (Z 2).i (Z 3).i (Z 4).i = true/\(Z 6).i <= 8192/\(Z 19).d.length = (Z 4).i.toNat/\qgi (Z 20).h (Z 19).d (Z 4).i.toNat (qdR (Z 2).i.toNat (Z 4).i.toNat (bI (Z 8).d))/\qf (Z 12).d 32 = sha (bI (Z 8).d)/\qbJ (Z 18).d/\dgs (Z 18).d = qdC (qdR (Z 2).i.toNat (Z 4).i.toNat (bI (Z 8).d)) (Z 4).i.toNat }] }
def qBd:Inv:={ key:=10,nv:=12,env:=[(0,qaK),(10,.one (.vptr 1000 (.lit 0) 37 0)),(13,.one (.vslice 1001 (.lit 0) (.var 4) (.var 1009) 2)),(15,.one (.vptr 1002 (.lit 0) 37 0)),(47,.one (.vslice 1001 (.lit 0) (.var 4) (.var 1009) 2)),(48,iv .i64 (.var 4)),(49,iv .i64 (.var 1005))],heap:=[fHp 1010,qFo 1000,.cells 1002 27 (qbe 2 3 4 6 1003 1004 1005 1006),qaC 1004 1007 1006,.arr 1001 86 qk7 (.var 1008) (.var 1009),.abs 1011 2],inv:=(fun Z=>ql (Z 1010).d/\qam (Z 2).i (Z 3).i (Z 4).i = true/\(Z 6).i <= 8192/\0 <= (Z 1005).i/\(Z 1005).i <= (Z 4).i/\(Z 1008).d.length = (Z 4).i.toNat/\qgi (Z 1011).h (Z 1008).d (Z 4).i.toNat (qdR (Z 2).i.toNat (Z 4).i.toNat (bI (Z 8).d))/\qf (Z 1003).d 32 = sha (bI (Z 8).d)/\(Z 1005).i = (Z 1007).d.length/\qbJ (Z 1007).d/\dgs (Z 1007).d = qdC (qdR (Z 2).i.toNat (Z 4).i.toNat (bI (Z 8).d)) (Z 1005).i.toNat),mu:=(fun Z=>((Z 4).i - (Z 1005).i).toNat) }
end Go.Eng
namespace Go.Eng
open Go Go.Proofs
theorem qaR {h:Hp} {pat:List CK} {v:Value} {d d':qe} (h1:Rd h pat v d) (h2:Rd h pat v d'):d = d':=by
 rcases h1 with ⟨a,e1,rfl⟩ | ⟨b,o,cap,c,ty,fr,e1,l1,hb1,r1⟩ <;> rcases h2 with ⟨a',e2,rfl⟩ | ⟨b',o',cap',c',ty',fr',e2,l2,hb2,r2⟩
 ·rfl
 ·rw [e1] at e2
  simp only [Value.slice.injEq] at e2;exact (jcu.1 e2.2.1.symm).symm
 ·rw [e1] at e2
  simp only [Value.slice.injEq] at e2;exact jcu.1 e2.2.1
 ·rw [e1] at e2
  simp only [Value.slice.injEq,jaa,Addr.mk.injEq] at e2;obtain ⟨⟨rfl,rfl,_⟩,hl,rfl⟩:=e2;rw [hb1] at hb2;simp only [jaa,Obj.cells.injEq] at hb2;obtain ⟨rfl,rfl,rfl⟩:=hb2;apply jdj hl;intro i i1 i2;obtain ⟨f1,g1⟩:=r1 i _ (jac i1);obtain ⟨f2,g2⟩:=r2 i _ (jac i2);apply jdj (by rw [f1.1,f2.1]);intro k k1 k2;have a1:=g1 k _ (jac k1);have a2:=g2 k _ (jac k2);rw [a1] at a2;exact jax a2
noncomputable def rdL (h:Hp) (v:Value):List Int:=open Classical in if hx:∃ d,Rd h kB v d then bI hx.choose else []
theorem qeZ {h:Hp} {v:Value} {d:qe} (hr:Rd h kB v d):rdL h v = bI d:=by
 have hx:∃ d,Rd h kB v d:=⟨d,hr⟩;unfold rdL;rw [dif_pos hx,qaR hx.choose_spec hr]
def qgE (h:Hp) (D:qe) (n:Nat):Prop:=∀ j,j < n->∃ i v d,D[j]? = some [.int .i64 i,v]/\Rd h kB v d/\qk d
noncomputable def pcI (D:qe) (j:Nat):Int:=qb D j 0
noncomputable def pcD (h:Hp) (D:qe) (j:Nat):List Int:=rdL h (qC D j 1)
end Go.Eng
namespace Go.Proofs
open Go Go.Eng
theorem qv3 {h:Hp} {D:qe} {n j:Nat} (hp:qgE h D n) (hj:j < n):∃ v d,D[j]? = some [.int .i64 (pcI D j),v]/\qC D j 1 = v/\Rd h kB v d/\qk d/\pcD h D j = bI d:=by
 obtain ⟨i,v,d,e,hr,hb⟩:=hp j hj;have h1:qC D (j:Int) 1 = v:=by simp [qC,e]
 have h2:pcI D j = i:=by simp [pcI,qb,qC,e,qX]
 exact ⟨v,d,by rw [h2]; exact e,h1,hr,hb,by rw [pcD,h1,qeZ hr]⟩
end Go.Proofs
namespace Go.Proofs
open Go Go.Eng
theorem qog {x:Int}:IntKind.u64.wrap x = x % 18446744073709551616:=by
 unfold IntKind.wrap;rfl
theorem qAE {v:Int} {n:Nat} (h:0 <= v):beL v (n + 1) = beL (v / 256) n ++ [v % 256]:=by
 refine jdj (by simp [beL]) fun j h1 h2=>?_
 have hj:j < n + 1:=by simpa [beL] using h1
 simp only [beL,List.getElem_map,List.getElem_range];by_cases e:j < n
 ·rw [List.getElem_append_left (by simpa using e)]
  simp only [List.getElem_map,List.getElem_range];obtain ⟨k,hk⟩:∃ k,n + 1 - 1 - j = k + 1:=⟨n - 1 - j,by omega⟩;rw [hk,show n - 1 - j = k by omega,jdw _ (jf1 (by decide)),jdw _ (jf1 (by decide)),Int.ediv_ediv_of_nonneg (by decide)];rw [show (2:Int) ^ (8 * (k + 1)) = 256 * 2 ^ (8 * k) by rw [show 8 * (k + 1) = 8 * k + 8 by omega,Int.pow_add,jef]; rfl]
 ·have:j = n:=by omega
  subst this;rw [jfw (by simp)];simp
end Go.Proofs
namespace Go.Eng
open Go
def bS (r:Nat):SV:=.one (.vslice r (.lit 0) (.var (r + 1)) (.var (r + 2)) 1)
def qwz (r:Nat):SH:=bHp r (r + 3) (r + 4)
def w3 (a b c:Int):Int:=qc .xor .u8 (qc .xor .u8 a b) c
def x3:List Int->List Int->List Int->List Int
 | a :: al,b :: bl,c :: cl=>w3 a b c :: x3 al bl cl
 | _,_,_=>[]
def qdE:Alt:={ k:=0,ret:=.one (.vbool (.bl true)),heap:=[],post:=fun _=>True }
end Go.Eng
namespace Go.Eng
open Go Go.Proofs
def kI:List CK:=[.int .i64]
def iHp (r d c:Nat):SH:=.arr r 3 kI (.var d) (.var c)
def qc0 (r d c:Nat):SH:=.arr r 86 qk7 (.var d) (.var c)
def pcS (r l c:Nat):SV:=.one (.vslice r (.lit 0) (.var l) (.var c) 2)
def qa8 (x:Int):Prop:=-9223372036854775808 <= x/\x < 9223372036854775808
def qEF (k v:Int) (b:List Int):Option (List Int):=if 1 <= k/\k <= 4 then some (beL v (2 ^ (k.toNat - 1))) else if k = 5 then some b else if k = 6 then some (beL b.length 2 ++ b) else none
def qEk (k:Int) (b:List Int):Bool:=decide (k = 6/\65535 < b.length)
def wrote (lim:Int) (f:Bool) (m:List Int) (k v:Int) (b:List Int):Bool × List Int:=match qEF k v b with
 | none=>(f,m)
 | some s=>qgk lim (f || qEk k b) m s
end Go.Eng
namespace Go.Eng
open Go
@[simp] def o8:T:=.vint .u8 (.lit 0)
@[simp] def x8 (k v:Nat):T:=.vint .u8 (.c2 (.xint k) (.var v) (.lit 0))
@[simp] def i8 (v e k:Nat):T:=.vint .u8 (.icell (.var v) (.var e) k)
@[simp] def r8 (v:Nat):T:=(.rcons (x8 0 v) (.rcons (x8 1 v) (.rcons (x8 2 v) (.rcons (x8 3 v) (.rcons (x8 4 v) (.rcons (x8 5 v) (.rcons (x8 6 v) (.rcons (x8 7 v) (.rcons (x8 8 v) (.rcons (x8 9 v) (.rcons (x8 10 v) (.rcons (x8 11 v) (.rcons (x8 12 v) (.rcons (x8 13 v) (.rcons (x8 14 v) (.rcons (x8 15 v) (.rcons (x8 16 v) (.rcons (x8 17 v) (.rcons (x8 18 v) (.rcons (x8 19 v) (.rcons (x8 20 v) (.rcons (x8 21 v) (.rcons (x8 22 v) (.rcons (x8 23 v) (.rcons (x8 24 v) (.rcons (x8 25 v) (.rcons (x8 26 v) (.rcons (x8 27 v) (.rcons (x8 28 v) (.rcons (x8 29 v) (.rcons (x8 30 v) (.rcons (x8 31 v) .rnil))))))))))))))))))))))))))))))))
@[simp] def q8 (k v:Nat):T:=.vint .u8 (.c2 (.xint k) (r8 v) (.lit 0))
@[simp] def s8 (v:Nat):T:=(.rcons (q8 0 v) (.rcons (q8 1 v) (.rcons (q8 2 v) (.rcons (q8 3 v) (.rcons (q8 4 v) (.rcons (q8 5 v) (.rcons (q8 6 v) (.rcons (q8 7 v) (.rcons (q8 8 v) (.rcons (q8 9 v) (.rcons (q8 10 v) (.rcons (q8 11 v) (.rcons (q8 12 v) (.rcons (q8 13 v) (.rcons (q8 14 v) (.rcons (q8 15 v) (.rcons (q8 16 v) (.rcons (q8 17 v) (.rcons (q8 18 v) (.rcons (q8 19 v) (.rcons (q8 20 v) (.rcons (q8 21 v) (.rcons (q8 22 v) (.rcons (q8 23 v) (.rcons (q8 24 v) (.rcons (q8 25 v) (.rcons (q8 26 v) (.rcons (q8 27 v) (.rcons (q8 28 v) (.rcons (q8 29 v) (.rcons (q8 30 v) (.rcons (q8 31 v) .rnil))))))))))))))))))))))))))))))))
@[simp] def z8:T:=(.rcons o8 (.rcons o8 (.rcons o8 (.rcons o8 (.rcons o8 (.rcons o8 (.rcons o8 (.rcons o8 (.rcons o8 (.rcons o8 (.rcons o8 (.rcons o8 (.rcons o8 (.rcons o8 (.rcons o8 (.rcons o8 (.rcons o8 (.rcons o8 (.rcons o8 (.rcons o8 (.rcons o8 (.rcons o8 (.rcons o8 (.rcons o8 (.rcons o8 (.rcons o8 (.rcons o8 (.rcons o8 (.rcons o8 (.rcons o8 (.rcons o8 (.rcons o8 .rnil))))))))))))))))))))))))))))))))
end Go.Eng
namespace Go.Proofs
open Go Go.Eng
def q1X:Out:=(.need (.cmp .geq (.arith .and .u64 (.conv .u64 (tv 1)) (tl 31)) (tl 0)) (.need (.cmp .geq (.arith .sub .u64 (tl 32) (.arith .and .u64 (.conv .u64 (tv 1)) (tl 31))) (tl 0)) (.ret 0 (sg 2 [bt 2 (.arith .or .u32 (.arith .shl .u32 (tv 0) (.arith .and .u64 (.conv .u64 (tv 1)) (tl 31))) (.arith .shr .u32 (tv 0) (.arith .sub .u64 (tl 32) (.arith .and .u64 (.conv .u64 (tv 1)) (tl 31)))))]))))
theorem q9E:qj Tryz.prog qnG [] [] q1X:=qg Tryz.func154 Tryz.call154 (by kernel_rfl)
def q6I:Out:=(.need (.cmp .geq (tv 1) (tl 0)) (.need (.cmp .geq (.arith .sub .u64 (tl 32) (tv 1)) (tl 0)) (.ret 0 (sg 2 [bt 2 (.arith .or .u32 (.arith .shr .u32 (tv 0) (tv 1)) (.arith .shl .u32 (tv 0) (.arith .sub .u64 (tl 32) (tv 1))))]))))
theorem qDe:qj Tryz.prog qq2 [] [] q6I:=qg Tryz.func171 Tryz.call171 (by kernel_rfl)
@[simp] def qxc:T:=.arith .add .u32 (.arith .add .u32 (.arith .add .u32 (.arith .add .u32 (tv 21) (.arith .xor .u32 (.arith .xor .u32 (tv 22) (tv 23)) (tv 24))) (.arith .xor .u32 (tv 20) (.arith .and .u32 (tv 18) (.arith .xor .u32 (tv 19) (tv 20))))) (.c2 (.xint 0) (tv 3) (tv 13))) (.c2 (.xint 0) (tv 12) (tv 13))
@[simp] def qvP:T:=.rcons (tw (.c2 (.xint 0) (tv 22) (tl 0))) (.rcons (tw (.c2 (.xint 1) (tv 22) (tl 0))) (.rcons (tw (.c2 (.xint 2) (tv 22) (tl 0))) (.rcons (tw (.c2 (.xint 3) (tv 22) (tl 0))) (.rcons (tw (.c2 (.xint 4) (tv 22) (tl 0))) (.rcons (tw (.c2 (.xint 5) (tv 22) (tl 0))) (.rcons (tw (.c2 (.xint 6) (tv 22) (tl 0))) (.rcons (tw (.c2 (.xint 7) (tv 22) (tl 0))) .rnil)))))))
def q6b:Out:=(.fresh 4 (.inv 0 5 (sg 1000 [bt 1001 (rr 64 (tw (tl 0)) .rnil),bt 1002 (tl 0),bg 1000 4]) (fr 5 3 (.hyp 0 5 (.br (.cmp .lss (tv 7) (tl 16))
 (ts (tl 0) (.dlen (tv 1)) (tn (tl 0) (.arith .mul .i64 (tl 4) (tv 7)) (ts (.arith .mul .i64 (tl 4) (tv 7)) (tl 64) (tn (tl 0) (.arith .add .i64 (.arith .mul .i64 (tl 4) (tv 7)) (tl 1)) (ts (.arith .add .i64 (.arith .mul .i64 (tl 4) (tv 7)) (tl 1)) (tl 64) (tn (tl 0) (.arith .add .i64 (.arith .mul .i64 (tl 4) (tv 7)) (tl 2)) (ts (.arith .add .i64 (.arith .mul .i64 (tl 4) (tv 7)) (tl 2)) (tl 64) (tn (tl 0) (.arith .add .i64 (.arith .mul .i64 (tl 4) (tv 7)) (tl 3)) (ts (.arith .add .i64 (.arith .mul .i64 (tl 4) (tv 7)) (tl 3)) (tl 64) (tn (tl 0) (tv 7) (ts (tv 7) (tl 64) (ts (tl 0) (.dlen (tv 6)) (tb (.back 0 5 (sg 1000 [bt 1001 (.c3 (.xput 0) (tv 6) (tv 7) (tw (.arith .or .u32 (.arith .or .u32 (.arith .or .u32 (.arith .shl .u32 (.conv .u32 (.c2 (.xint 8) (tv 1) (.arith .mul .i64 (tl 4) (tv 7)))) (tl 24)) (.arith .shl .u32 (.conv .u32 (.c2 (.xint 8) (tv 1) (.arith .add .i64 (.arith .mul .i64 (tl 4) (tv 7)) (tl 1)))) (tl 16))) (.arith .shl .u32 (.conv .u32 (.c2 (.xint 8) (tv 1) (.arith .add .i64 (.arith .mul .i64 (tl 4) (tv 7)) (tl 2)))) (tl 8))) (.conv .u32 (.c2 (.xint 8) (tv 1) (.arith .add .i64 (.arith .mul .i64 (tl 4) (tv 7)) (tl 3))))))),bt 1002 (.arith .add .i64 (tv 7) (tl 1)),bg 1000 5])))))))))))))))
 (.inv 1 8 (sg 1000 [bv 1001 6,bt 1002 (tl 16),bg 1000 5]) (fr 8 3 (.hyp 1 8 (.br (.cmp .lss (tv 10) (tl 64))
 (tn (tl 0) (.arith .sub .i64 (tv 10) (tl 15)) (ts (.arith .sub .i64 (tv 10) (tl 15)) (tl 64) (ts (tl 0) (.dlen (tv 9)) (tn (tl 0) (.arith .sub .i64 (tv 10) (tl 2)) (ts (.arith .sub .i64 (tv 10) (tl 2)) (tl 64) (.pre 0 (sg 0 [bt 1 (.lit (-7)),bt 0 (.c2 (.xint 0) (tv 9) (.arith .sub .i64 (tv 10) (tl 15)))]) (tb (.fresh 11 (.post 0 0 (sg 0 [bt 1 (.lit (-7)),bt 0 (.c2 (.xint 0) (tv 9) (.arith .sub .i64 (tv 10) (tl 15)))]) 11 (.pre 0 (sg 0 [bt 1 (.lit (-18)),bt 0 (.c2 (.xint 0) (tv 9) (.arith .sub .i64 (tv 10) (tl 15)))]) (tb (.fresh 12 (.post 0 0 (sg 0 [bt 1 (.lit (-18)),bt 0 (.c2 (.xint 0) (tv 9) (.arith .sub .i64 (tv 10) (tl 15)))]) 12 (.pre 0 (sg 0 [bt 1 (.lit (-17)),bt 0 (.c2 (.xint 0) (tv 9) (.arith .sub .i64 (tv 10) (tl 2)))]) (tb (.fresh 13 (.post 0 0 (sg 0 [bt 1 (.lit (-17)),bt 0 (.c2 (.xint 0) (tv 9) (.arith .sub .i64 (tv 10) (tl 2)))]) 13 (.pre 0 (sg 0 [bt 1 (.lit (-19)),bt 0 (.c2 (.xint 0) (tv 9) (.arith .sub .i64 (tv 10) (tl 2)))]) (tb (.fresh 14 (.post 0 0 (sg 0 [bt 1 (.lit (-19)),bt 0 (.c2 (.xint 0) (tv 9) (.arith .sub .i64 (tv 10) (tl 2)))]) 14 (tn (tl 0) (.arith .sub .i64 (tv 10) (tl 16)) (ts (.arith .sub .i64 (tv 10) (tl 16)) (tl 64) (tn (tl 0) (.arith .sub .i64 (tv 10) (tl 7)) (ts (.arith .sub .i64 (tv 10) (tl 7)) (tl 64) (tn (tl 0) (tv 10) (tb (.back 1 8 (sg 1000 [bt 1001 (.c3 (.xput 0) (tv 9) (tv 10) (tw (.arith .add .u32 (.arith .add .u32 (.arith .add .u32 (.c2 (.xint 0) (tv 9) (.arith .sub .i64 (tv 10) (tl 16))) (.arith .xor .u32 (.arith .xor .u32 (tv 11) (tv 12)) (.arith .shr .u32 (.c2 (.xint 0) (tv 9) (.arith .sub .i64 (tv 10) (tl 15))) (tl 3)))) (.c2 (.xint 0) (tv 9) (.arith .sub .i64 (tv 10) (tl 7)))) (.arith .xor .u32 (.arith .xor .u32 (tv 13) (tv 14)) (.arith .shr .u32 (.c2 (.xint 0) (tv 9) (.arith .sub .i64 (tv 10) (tl 2))) (tl 10)))))),bt 1002 (.arith .add .i64 (tv 10) (tl 1)),bg 1000 8])))))))))))))))))))))))))))))
 (ts (tl 0) (.dlen (tv 1)) (.inv 2 11 (sg 1000 [bv 1001 9,bt 1002 (tl 0),bt 1010 (.icell (tv 1) (tl 0) 7),bt 1009 (.icell (tv 1) (tl 0) 6),bt 1008 (.icell (tv 1) (tl 0) 5),bt 1007 (.icell (tv 1) (tl 0) 4),bt 1006 (.icell (tv 1) (tl 0) 3),bt 1005 (.icell (tv 1) (tl 0) 2),bt 1004 (.icell (tv 1) (tl 0) 1),bt 1003 (.icell (tv 1) (tl 0) 0),bg 1000 8]) (fr 11 11 (.hyp 2 11 (.br (.cmp .lss (tv 13) (tl 64))
 (.pre 0 (sg 0 [bt 1 (.lit (-6)),bv 0 18]) (tb (.fresh 22 (.post 0 0 (sg 0 [bt 1 (.lit (-6)),bv 0 18]) 22 (.pre 0 (sg 0 [bt 1 (.lit (-11)),bv 0 18]) (tb (.fresh 23 (.post 0 0 (sg 0 [bt 1 (.lit (-11)),bv 0 18]) 23 (.pre 0 (sg 0 [bt 1 (.lit (-25)),bv 0 18]) (tb (.fresh 24 (.post 0 0 (sg 0 [bt 1 (.lit (-25)),bv 0 18]) 24 (.need (.c1 (.isg 1) (tv 2)) (tn (tl 0) (tv 13) (ts (tl 0) (.dlen (tv 3)) (ts (tl 0) (.dlen (tv 12)) (.pre 0 (sg 0 [bt 1 (.lit (-2)),bv 0 14]) (tb (.fresh 25 (.post 0 0 (sg 0 [bt 1 (.lit (-2)),bv 0 14]) 25 (.pre 0 (sg 0 [bt 1 (.lit (-13)),bv 0 14]) (tb (.fresh 26 (.post 0 0 (sg 0 [bt 1 (.lit (-13)),bv 0 14]) 26 (.pre 0 (sg 0 [bt 1 (.lit (-22)),bv 0 14]) (tb (.fresh 27 (.post 0 0 (sg 0 [bt 1 (.lit (-22)),bv 0 14]) 27 (.back 2 11 (sg 1000 [bv 1001 12,bt 1002 (.arith .add .i64 (tv 13) (tl 1)),bv 1010 20,bv 1009 19,bv 1008 18,bt 1007 (.arith .add .u32 (tv 17) qxc),bv 1006 16,bv 1005 15,bv 1004 14,bt 1003 (.arith .add .u32 qxc (.arith .add .u32 (.arith .xor .u32 (.arith .xor .u32 (tv 25) (tv 26)) (tv 27)) (.arith .or .u32 (.arith .and .u32 (tv 14) (tv 15)) (.arith .and .u32 (tv 16) (.arith .or .u32 (tv 14) (tv 15)))))),bg 1000 11]))))))))))))))))))))))))))))))
 (.inv 3 22 (sg 1000 [bv 1002 1,bt 1001 (tl 0),bt 1000 (.rcons (tw (tv 14)) (.rcons (tw (tv 15)) (.rcons (tw (tv 16)) (.rcons (tw (tv 17)) (.rcons (tw (tv 18)) (.rcons (tw (tv 19)) (.rcons (tw (tv 20)) (.rcons (tw (tv 21)) .rnil))))))))]) (fr 22 3 (.hyp 3 22 (.br (.cmp .lss (tv 23) (tl 8))
 (tn (tl 0) (tv 23) (ts (tl 0) (.dlen (tv 24)) (tb (.back 3 22 (sg 1000 [bt 1002 (.c3 (.xput 0) (tv 24) (tv 23) (tw (.arith .add .u32 (.c2 (.xint 0) (tv 24) (tv 23)) (.c2 (.xint 0) qvP (tv 23))))),bt 1001 (.arith .add .i64 (tv 23) (tl 1)),bt 1000 qvP])))))
 (.ret 0 (sg 4 [bv 4 24]))))))))))))))))))))
theorem qBQ:qj Tryz.prog qmi [qnG] [qBt,qB3,qBy,qBz] q6b:=qg Tryz.func129 Tryz.call129 (by kernel_rfl)
def qtR:Out:=(.fresh 0 (.ret 0 (sg 0 [bt 1 (.rcons (tw (tl 1779033703)) (.rcons (tw (tl 3144134277)) (.rcons (tw (tl 1013904242)) (.rcons (tw (tl 2773480762)) (.rcons (tw (tl 1359893119)) (.rcons (tw (tl 2600822924)) (.rcons (tw (tl 528734635)) (.rcons (tw (tl 1541459225)) (rr 64 o8 (.rcons (ti (tl 0)) .rnil)))))))))),bg 0 0])))
theorem q4Q:qj Tryz.prog qfx [] [] qtR:=qg Tryz.func96 Tryz.call96 (by kernel_rfl)
@[simp] def qm9:T:=.dtake (.dtake (.ddrop (tv 6) (tv 10)) (tv 11)) (.imin (.minus (tl 64) (.arith .rem .i64 (.icell (tv 13) (tl 0) 72) (tl 64))) (tv 11))
@[simp] def qn3:T:=.ife (tl 64) (.arith .rem .i64 (.icell (tv 13) (tl 0) 72) (tl 64)) (tl 8) (.plus (tl 8) (.arith .rem .i64 (.icell (tv 13) (tl 0) 72) (tl 64)))
@[simp] def qtF:T:=.ife (tv 12) (.imin (.minus (tl 64) (.arith .rem .i64 (.icell (tv 13) (tl 0) 72) (tl 64))) (tv 11)) (tv 10) (.plus (tv 10) (.imin (.minus (tl 64) (.arith .rem .i64 (.icell (tv 13) (tl 0) 72) (tl 64))) (tv 11)))
@[simp] def qu2:T:=.c3 .xcopy (tv 13) qn3 qm9
@[simp] def quN:Sg:=sg 0 [bv 3 9,bt 1 (.dput (.c3 .xcopy (tv 13) qn3 qm9) (tl 0) 72 (.rcons (ti (.arith .add .i64 (.icell (.c3 .xcopy (tv 13) qn3 qm9) (tl 0) 72) (.imin (.minus (tl 64) (.arith .rem .i64 (.icell (tv 13) (tl 0) 72) (tl 64))) (tv 11)))) .rnil)),bg 0 0,bg 2 8]
def q2n:Out:=(.br (.and (.cmp .eql (.dlen (tv 1)) (tl 0)) (.isnil 0))
 (.ret 0 (sg 10 [bv 10 1]))
 (.inv 0 10 (sg 1000 [bv 1003 1,bv 1002 5,bv 1001 4,bv 1000 3]) (fr 10 4 (.hyp 0 10 (tn (tl 0) (tv 11) (.br (.cmp .gtr (tv 11) (tl 0))
 (ts (tl 0) (.dlen (tv 13)) (tn (tl 0) (.arith .rem .i64 (.icell (tv 13) (tl 0) 72) (tl 64)) (tn (.arith .rem .i64 (.icell (tv 13) (tl 0) 72) (tl 64)) (tl 64) (.need (.cmp .neq (tl 64) (.arith .rem .i64 (.icell (tv 13) (tl 0) 72) (tl 64))) (tn (tl 0) (.minus (tl 64) (.arith .rem .i64 (.icell (tv 13) (tl 0) 72) (tl 64))) (tn (.plus (.arith .rem .i64 (.icell (tv 13) (tl 0) 72) (tl 64)) (.minus (tl 64) (.arith .rem .i64 (.icell (tv 13) (tl 0) 72) (tl 64)))) (tl 64) (tn (tl 0) (tv 10) (tn (.plus (tv 10) (tv 11)) (.dlen (tv 6)) (.fresh 14 (tn (tl 0) (tv 12) (tn (tl 0) (.imin (.minus (tl 64) (.arith .rem .i64 (.icell (tv 13) (tl 0) 72) (tl 64))) (tv 11)) (tn (.imin (.minus (tl 64) (.arith .rem .i64 (.icell (tv 13) (tl 0) 72) (tl 64))) (tv 11)) (tv 11) (tn (tv 11) (tv 12) (.br (.cmp .eql (.arith .add .i64 (.arith .rem .i64 (.icell (tv 13) (tl 0) 72) (tl 64)) (.imin (.minus (tl 64) (.arith .rem .i64 (.icell (tv 13) (tl 0) 72) (tl 64))) (tv 11))) (tl 64))
 (.pre 0 quN (tb (.fresh 15 (.post 0 0 quN 15 (.back 0 10 (sg 1000 [bv 1003 15,bt 1002 (.minus (tv 12) (.imin (.minus (tl 64) (.arith .rem .i64 (.icell (tv 13) (tl 0) 72) (tl 64))) (tv 11))),bt 1001 (.minus (tv 11) (.imin (.minus (tl 64) (.arith .rem .i64 (.icell (tv 13) (tl 0) 72) (tl 64))) (tv 11))),bt 1000 qtF]))))))
 (.back 0 10 (sg 1000 [bt 1003 (.dput qu2 (tl 0) 72 (.rcons (ti (.arith .add .i64 (.icell qu2 (tl 0) 72) (.imin (.minus (tl 64) (.arith .rem .i64 (.icell (tv 13) (tl 0) 72) (tl 64))) (tv 11)))) .rnil)),bt 1002 (.minus (tv 12) (.imin (.minus (tl 64) (.arith .rem .i64 (.icell (tv 13) (tl 0) 72) (tl 64))) (tv 11))),bt 1001 (.minus (tv 11) (.imin (.minus (tl 64) (.arith .rem .i64 (.icell (tv 13) (tl 0) 72) (tl 64))) (tv 11))),bt 1000 qtF]))))))))))))))))
 (.ret 0 (sg 10 [bv 10 13]))))))))
theorem q8B:qj Tryz.prog qiZ [qmi] [q8r] q2n:=qg Tryz.func97 Tryz.call97 (by kernel_rfl)
@[simp] def qku:T:=.dtake (.c3 .xrows (tv 5) (tv 8) (tv 9)) (.imin (.minus (tl 64) (.arith .rem .i64 (.icell (tv 11) (tl 0) 72) (tl 64))) (tv 9))
@[simp] def qkp:T:=.ife (tl 64) (.arith .rem .i64 (.icell (tv 11) (tl 0) 72) (tl 64)) (tl 8) (.plus (tl 8) (.arith .rem .i64 (.icell (tv 11) (tl 0) 72) (tl 64)))
@[simp] def qpt:T:=.ife (tv 10) (.imin (.minus (tl 64) (.arith .rem .i64 (.icell (tv 11) (tl 0) 72) (tl 64))) (tv 9)) (tv 8) (.plus (tv 8) (.imin (.minus (tl 64) (.arith .rem .i64 (.icell (tv 11) (tl 0) 72) (tl 64))) (tv 9)))
@[simp] def qoN:T:=.c3 .xcopy (tv 11) qkp qku
@[simp] def qpi:Sg:=sg 0 [bv 3 7,bt 1 (.dput (.c3 .xcopy (tv 11) qkp qku) (tl 0) 72 (.rcons (ti (.arith .add .i64 (.icell (.c3 .xcopy (tv 11) qkp qku) (tl 0) 72) (.imin (.minus (tl 64) (.arith .rem .i64 (.icell (tv 11) (tl 0) 72) (tl 64))) (tv 9)))) .rnil)),bg 0 0,bg 2 6]
def qtM:Out:=(.br (.and (.cmp .eql (.dlen (tv 1)) (tl 0)) (.isnil 0))
 (.ret 0 (sg 8 [bv 8 1]))
 (.inv 0 8 (sg 1000 [bv 1003 1,bv 1002 4,bv 1001 3,bt 1000 (tl 0)]) (fr 8 4 (.hyp 0 8 (tn (tl 0) (tv 9) (.br (.cmp .gtr (tv 9) (tl 0))
 (ts (tl 0) (.dlen (tv 11)) (tn (tl 0) (.arith .rem .i64 (.icell (tv 11) (tl 0) 72) (tl 64)) (tn (.arith .rem .i64 (.icell (tv 11) (tl 0) 72) (tl 64)) (tl 64) (.need (.cmp .neq (tl 64) (.arith .rem .i64 (.icell (tv 11) (tl 0) 72) (tl 64))) (tn (tl 0) (.minus (tl 64) (.arith .rem .i64 (.icell (tv 11) (tl 0) 72) (tl 64))) (tn (.plus (.arith .rem .i64 (.icell (tv 11) (tl 0) 72) (tl 64)) (.minus (tl 64) (.arith .rem .i64 (.icell (tv 11) (tl 0) 72) (tl 64)))) (tl 64) (tn (tl 0) (tv 8) (tn (.plus (tv 8) (tv 9)) (tl 72) (ts (tl 0) (.dlen (tv 5)) (.fresh 12 (tn (tl 0) (tv 10) (tn (tl 0) (.imin (.minus (tl 64) (.arith .rem .i64 (.icell (tv 11) (tl 0) 72) (tl 64))) (tv 9)) (tn (.imin (.minus (tl 64) (.arith .rem .i64 (.icell (tv 11) (tl 0) 72) (tl 64))) (tv 9)) (tv 9) (tn (tv 9) (tv 10) (.br (.cmp .eql (.arith .add .i64 (.arith .rem .i64 (.icell (tv 11) (tl 0) 72) (tl 64)) (.imin (.minus (tl 64) (.arith .rem .i64 (.icell (tv 11) (tl 0) 72) (tl 64))) (tv 9))) (tl 64))
 (.pre 0 qpi (tb (.fresh 13 (.post 0 0 qpi 13 (.back 0 8 (sg 1000 [bv 1003 13,bt 1002 (.minus (tv 10) (.imin (.minus (tl 64) (.arith .rem .i64 (.icell (tv 11) (tl 0) 72) (tl 64))) (tv 9))),bt 1001 (.minus (tv 9) (.imin (.minus (tl 64) (.arith .rem .i64 (.icell (tv 11) (tl 0) 72) (tl 64))) (tv 9))),bt 1000 qpt]))))))
 (.back 0 8 (sg 1000 [bt 1003 (.dput qoN (tl 0) 72 (.rcons (ti (.arith .add .i64 (.icell qoN (tl 0) 72) (.imin (.minus (tl 64) (.arith .rem .i64 (.icell (tv 11) (tl 0) 72) (tl 64))) (tv 9)))) .rnil)),bt 1002 (.minus (tv 10) (.imin (.minus (tl 64) (.arith .rem .i64 (.icell (tv 11) (tl 0) 72) (tl 64))) (tv 9))),bt 1001 (.minus (tv 9) (.imin (.minus (tl 64) (.arith .rem .i64 (.icell (tv 11) (tl 0) 72) (tl 64))) (tv 9))),bt 1000 qpt])))))))))))))))))
 (.ret 0 (sg 8 [bv 8 11]))))))))
theorem q3u:qj Tryz.prog qjo [qmi] [qxi] qtM:=qg Tryz.func97 Tryz.call97 (by kernel_rfl)
@[simp] def q2g:Sg:=sg 0 [bv 7 3,bv 5 12,bv 1 10,bt 4 (tl 72),bt 3 (.arith .add .i64 (tv 13) (tl 8)),bg 2 11,bg 0 9,bg 6 2]
def qAU:Out:=(.fresh 4 (.br (.and (.cmp .eql (.dlen (tv 1)) (tl 0)) (.isnil 0))
 (.ret 0 (sg 4 [bt 4 z8]))
 (ts (tl 0) (.dlen (tv 1)) (fr 5 2 (.inv 0 7 (sg 1000 [bt 1005 (.rcons (tu (tl 128)) (rr 39 o8 z8)),bt 1003 (.rcons (tw (.icell (tv 1) (tl 0) 0)) (.rcons (tw (.icell (tv 1) (tl 0) 1)) (.rcons (tw (.icell (tv 1) (tl 0) 2)) (.rcons (tw (.icell (tv 1) (tl 0) 3)) (.rcons (tw (.icell (tv 1) (tl 0) 4)) (.rcons (tw (.icell (tv 1) (tl 0) 5)) (.rcons (tw (.icell (tv 1) (tl 0) 6)) (.rcons (tw (.icell (tv 1) (tl 0) 7)) (.rcons (tu (.icell (tv 1) (tl 0) 8)) (.rcons (tu (.icell (tv 1) (tl 0) 9)) (.rcons (tu (.icell (tv 1) (tl 0) 10)) (.rcons (tu (.icell (tv 1) (tl 0) 11)) (.rcons (tu (.icell (tv 1) (tl 0) 12)) (.rcons (tu (.icell (tv 1) (tl 0) 13)) (.rcons (tu (.icell (tv 1) (tl 0) 14)) (.rcons (tu (.icell (tv 1) (tl 0) 15)) (.rcons (tu (.icell (tv 1) (tl 0) 16)) (.rcons (tu (.icell (tv 1) (tl 0) 17)) (.rcons (tu (.icell (tv 1) (tl 0) 18)) (.rcons (tu (.icell (tv 1) (tl 0) 19)) (.rcons (tu (.icell (tv 1) (tl 0) 20)) (.rcons (tu (.icell (tv 1) (tl 0) 21)) (.rcons (tu (.icell (tv 1) (tl 0) 22)) (.rcons (tu (.icell (tv 1) (tl 0) 23)) (.rcons (tu (.icell (tv 1) (tl 0) 24)) (.rcons (tu (.icell (tv 1) (tl 0) 25)) (.rcons (tu (.icell (tv 1) (tl 0) 26)) (.rcons (tu (.icell (tv 1) (tl 0) 27)) (.rcons (tu (.icell (tv 1) (tl 0) 28)) (.rcons (tu (.icell (tv 1) (tl 0) 29)) (.rcons (tu (.icell (tv 1) (tl 0) 30)) (.rcons (tu (.icell (tv 1) (tl 0) 31)) (.rcons (tu (.icell (tv 1) (tl 0) 32)) (.rcons (tu (.icell (tv 1) (tl 0) 33)) (.rcons (tu (.icell (tv 1) (tl 0) 34)) (.rcons (tu (.icell (tv 1) (tl 0) 35)) (.rcons (tu (.icell (tv 1) (tl 0) 36)) (.rcons (tu (.icell (tv 1) (tl 0) 37)) (.rcons (tu (.icell (tv 1) (tl 0) 38)) (.rcons (tu (.icell (tv 1) (tl 0) 39)) (.rcons (tu (.icell (tv 1) (tl 0) 40)) (.rcons (tu (.icell (tv 1) (tl 0) 41)) (.rcons (tu (.icell (tv 1) (tl 0) 42)) (.rcons (tu (.icell (tv 1) (tl 0) 43)) (.rcons (tu (.icell (tv 1) (tl 0) 44)) (.rcons (tu (.icell (tv 1) (tl 0) 45)) (.rcons (tu (.icell (tv 1) (tl 0) 46)) (.rcons (tu (.icell (tv 1) (tl 0) 47)) (.rcons (tu (.icell (tv 1) (tl 0) 48)) (.rcons (tu (.icell (tv 1) (tl 0) 49)) (.rcons (tu (.icell (tv 1) (tl 0) 50)) (.rcons (tu (.icell (tv 1) (tl 0) 51)) (.rcons (tu (.icell (tv 1) (tl 0) 52)) (.rcons (tu (.icell (tv 1) (tl 0) 53)) (.rcons (tu (.icell (tv 1) (tl 0) 54)) (.rcons (tu (.icell (tv 1) (tl 0) 55)) (.rcons (tu (.icell (tv 1) (tl 0) 56)) (.rcons (tu (.icell (tv 1) (tl 0) 57)) (.rcons (tu (.icell (tv 1) (tl 0) 58)) (.rcons (tu (.icell (tv 1) (tl 0) 59)) (.rcons (tu (.icell (tv 1) (tl 0) 60)) (.rcons (tu (.icell (tv 1) (tl 0) 61)) (.rcons (tu (.icell (tv 1) (tl 0) 62)) (.rcons (tu (.icell (tv 1) (tl 0) 63)) (.rcons (tu (.icell (tv 1) (tl 0) 64)) (.rcons (tu (.icell (tv 1) (tl 0) 65)) (.rcons (tu (.icell (tv 1) (tl 0) 66)) (.rcons (tu (.icell (tv 1) (tl 0) 67)) (.rcons (tu (.icell (tv 1) (tl 0) 68)) (.rcons (tu (.icell (tv 1) (tl 0) 69)) (.rcons (tu (.icell (tv 1) (tl 0) 70)) (.rcons (tu (.icell (tv 1) (tl 0) 71)) (.rcons (ti (.icell (tv 1) (tl 0) 72)) .rnil))))))))))))))))))))))))))))))))))))))))))))))))))))))))))))))))))))))))),bt 1008 (tl 0),bt 1007 (.arith .mul .u64 (.conv .u64 (.icell (tv 1) (tl 0) 72)) (tl 8)),bt 1006 (.arith .sub .i64 (tl 64) (.arith .rem .i64 (.arith .add .i64 (.icell (tv 1) (tl 0) 72) (tl 8)) (tl 64))),bg 1004 6,bg 1002 5,bg 1000 4]) (fr 7 9 (.hyp 0 7 (.br (.cmp .lss (tv 15) (tl 8))
 (.need (.cmp .geq (.arith .sub .i64 (tl 56) (.arith .mul .i64 (tl 8) (tv 15))) (tl 0)) (tn (tl 0) (.arith .add .i64 (tv 13) (tv 15)) (ts (.arith .add .i64 (tv 13) (tv 15)) (tl 72) (ts (tl 0) (.dlen (tv 12)) (.back 0 7 (sg 1000 [bt 1005 (.c3 (.xput 0) (tv 12) (.arith .add .i64 (tv 13) (tv 15)) (tu (.conv .u8 (.arith .shr .u64 (tv 14) (.arith .sub .i64 (tl 56) (.arith .mul .i64 (tl 8) (tv 15))))))),bv 1003 10,bt 1008 (.arith .add .i64 (tv 15) (tl 1)),bv 1007 14,bv 1006 13,bg 1004 11,bg 1002 9,bg 1000 7]))))))
 (tn (tl 0) (.arith .add .i64 (tv 13) (tl 8)) (tn (.arith .add .i64 (tv 13) (tl 8)) (tl 72) (ts (tl 0) (.dlen (tv 12)) (.pre 0 q2g (tb (.fresh 16 (.post 0 0 q2g 16 (.fresh 17 (.inv 1 18 (sg 1000 [bt 1005 z8,bv 1003 16,bt 1006 (tl 0),bg 1004 17,bg 1002 9,bg 1000 7]) (fr 18 7 (.hyp 1 18 (.br (.cmp .lss (tv 24) (tl 32))
 (ts (tl 0) (.dlen (tv 21)) (tn (tl 0) (.arith .quo .i64 (tv 24) (tl 4)) (ts (.arith .quo .i64 (tv 24) (tl 4)) (tl 8) (.need (.cmp .geq (.arith .sub .i64 (tl 24) (.arith .mul .i64 (tl 8) (.arith .rem .i64 (tv 24) (tl 4)))) (tl 0)) (tn (tl 0) (tv 24) (ts (tl 0) (.dlen (tv 23)) (.back 1 18 (sg 1000 [bt 1005 (.c3 (.xput 0) (tv 23) (tv 24) (tu (.conv .u8 (.arith .shr .u32 (.c2 (.xint 0) (tv 21) (.arith .quo .i64 (tv 24) (tl 4))) (.arith .sub .i64 (tl 24) (.arith .mul .i64 (tl 8) (.arith .rem .i64 (tv 24) (tl 4)))))))),bv 1003 21,bt 1006 (.arith .add .i64 (tv 24) (tl 1)),bg 1004 22,bg 1002 20,bg 1000 18]))))))))
 (ts (tl 0) (.dlen (tv 23)) (.ret 0 (sg 4 [bt 4 (.rcons (tu (.icell (tv 23) (tl 0) 0)) (.rcons (tu (.icell (tv 23) (tl 0) 1)) (.rcons (tu (.icell (tv 23) (tl 0) 2)) (.rcons (tu (.icell (tv 23) (tl 0) 3)) (.rcons (tu (.icell (tv 23) (tl 0) 4)) (.rcons (tu (.icell (tv 23) (tl 0) 5)) (.rcons (tu (.icell (tv 23) (tl 0) 6)) (.rcons (tu (.icell (tv 23) (tl 0) 7)) (.rcons (tu (.icell (tv 23) (tl 0) 8)) (.rcons (tu (.icell (tv 23) (tl 0) 9)) (.rcons (tu (.icell (tv 23) (tl 0) 10)) (.rcons (tu (.icell (tv 23) (tl 0) 11)) (.rcons (tu (.icell (tv 23) (tl 0) 12)) (.rcons (tu (.icell (tv 23) (tl 0) 13)) (.rcons (tu (.icell (tv 23) (tl 0) 14)) (.rcons (tu (.icell (tv 23) (tl 0) 15)) (.rcons (tu (.icell (tv 23) (tl 0) 16)) (.rcons (tu (.icell (tv 23) (tl 0) 17)) (.rcons (tu (.icell (tv 23) (tl 0) 18)) (.rcons (tu (.icell (tv 23) (tl 0) 19)) (.rcons (tu (.icell (tv 23) (tl 0) 20)) (.rcons (tu (.icell (tv 23) (tl 0) 21)) (.rcons (tu (.icell (tv 23) (tl 0) 22)) (.rcons (tu (.icell (tv 23) (tl 0) 23)) (.rcons (tu (.icell (tv 23) (tl 0) 24)) (.rcons (tu (.icell (tv 23) (tl 0) 25)) (.rcons (tu (.icell (tv 23) (tl 0) 26)) (.rcons (tu (.icell (tv 23) (tl 0) 27)) (.rcons (tu (.icell (tv 23) (tl 0) 28)) (.rcons (tu (.icell (tv 23) (tl 0) 29)) (.rcons (tu (.icell (tv 23) (tl 0) 30)) (.rcons (tu (.icell (tv 23) (tl 0) 31)) .rnil))))))))))))))))))))))))))))))))])))))))))))))))))))))))
theorem qDi:qj Tryz.prog qpA [qjo] [qDm,qDN] qAU:=qg Tryz.func98 Tryz.call98 (by kernel_rfl)
def qye:Out:=(.fresh 8 (.pre 0 (sg 0 []) (tb (fr 9 2 (.post 0 0 (sg 0 []) 9 (.pre 1 (sg 0 [bv 9 7,bv 7 5,bv 6 4,bv 1 10,bv 5 3,bv 4 2,bv 3 1,bg 2 0,bg 0 9,bg 8 6]) (tb (.fresh 11 (.post 1 0 (sg 0 [bv 9 7,bv 7 5,bv 6 4,bv 1 10,bv 5 3,bv 4 2,bv 3 1,bg 2 0,bg 0 9,bg 8 6]) 11 (.pre 2 (sg 0 [bv 3 7,bv 1 11,bg 0 9,bg 2 6]) (tb (.fresh 12 (.post 2 0 (sg 0 [bv 3 7,bv 1 11,bg 0 9,bg 2 6]) 12 (.ret 0 (sg 8 [bt 8 (r8 12)])))))))))))))))
theorem q7V:qj Tryz.prog qdb [qfx,qiZ,qpA] [] qye:=qg Tryz.func59 Tryz.call59 (by kernel_rfl)
theorem q97:qnG.ok Tryz.prog:=q9E (by simp) fun Z hg hp=>by
 obtain ⟨hx,n,n1,n2,hn⟩:=hp;simp [q1X,qnG,qt1];rw [hn];have e1:=qBc ⟨n - 1,by omega⟩;have e2:=q42 ⟨n - 1,by omega⟩;simp only [] at e1 e2;have e3:(((n - 1:Nat):Int) + 1) = (n:Int):=by omega
 rw [e3] at e1 e2;rw [e1];refine ⟨by omega,by rw [e2]; omega,fun k k1 k2 hk=>?_⟩;obtain rfl:k = n:=by omega
 rw [<- e1];exact qBX hx n1 n2
theorem qCo:qq2.ok Tryz.prog:=qDe (by simp) fun Z hg hp=>by
 obtain ⟨hx,n1,n2⟩:=hp;simp [q6I,qq2];obtain ⟨n,hn⟩:∃ n:Nat,(Z 1).i = n:=⟨(Z 1).i.toNat,by omega⟩;rw [hn] at n1 n2 ⊢;have e2:=q42 ⟨31 - n,by omega⟩;simp only [] at e2;rw [show (31 - ((31 - n:Nat):Int)) = (n:Int) by omega,show (((31 - n:Nat):Int) + 1) = ((32 - n:Nat):Int) by omega] at e2;refine ⟨by omega,by rw [e2]; omega,?_⟩;rw [e2,qqL (by omega),qv6 hx (by omega),q2S,qcb,qcb,qfp,jal]
set_option maxRecDepth 20000 in
set_option pp.deepTerms true in
set_option pp.maxSteps 1000000 in
theorem q0X:qmi.ok Tryz.prog:=qBQ (by simp [q97]) fun Z hg hp=>by
 obtain ⟨hh,hgr,hgd⟩:=hp;simp (config:={ maxSteps:=2000000 }) [q6b,qmi,qBt,qB3,qBy,qBz,qnG,qt1,st8,qEt];refine ⟨⟨⟨_,rfl,rfl⟩,fun j hj=>absurd hj (by omega)⟩,fun w _ n _ a0 a1 hA=>⟨fun hlt=>?_,fun hge=>⟨?_,fun w _ n _ b0 b1 hB=>⟨fun hlt=>?_,fun hge=>⟨?_,⟨?_,?_,?_⟩,?_⟩⟩⟩⟩⟩
 ·obtain ⟨t,ht⟩:∃ t:Nat,n.i = t:=⟨n.i.toNat,by omega⟩
  have m0:qc .mul .i64 4 n.i = ((4 * t:Nat):Int):=by rw [qbY (by omega) (by omega)]; omega
  have m1:qc .add .i64 (qc .mul .i64 4 n.i) 1 = ((4 * t + 1:Nat):Int):=by rw [m0,add64 (by omega) (by omega)]; omega
  have m2:qc .add .i64 (qc .mul .i64 4 n.i) 2 = ((4 * t + 2:Nat):Int):=by rw [m0,add64 (by omega) (by omega)]; omega
  have m3:qc .add .i64 (qc .mul .i64 4 n.i) 3 = ((4 * t + 3:Nat):Int):=by rw [m0,add64 (by omega) (by omega)]; omega
  have m5:qc .add .i64 n.i 1 = ((t + 1:Nat):Int):=by rw [add64 (by omega) (by omega)]; omega
  rw [m1,m2,m3,m0,m5];rw [ht,jal] at hA;rw [ht];simp only [jal];have e1:=qx hh.1;have e2:=qx hA.1;refine ⟨by omega,by omega,by omega,by omega,by omega,by omega,by omega,by omega,by omega,by omega,by omega,by omega,⟨by omega,by omega,qin hA (by omega) ?_⟩,by omega⟩;rw [qyQ,qqE (by rw [qyT]; omega),qAu (by omega),jdq (4 * t) 8,jdq (4 * t + 1) 8,jdq (4 * t + 2) 8,jdq (4 * t + 3) 8]
 ·have:n.i = 16:=by omega
  rw [this] at hA; exact hA
 ·obtain ⟨t,ht⟩:∃ t:Nat,n.i = ((16 + t:Nat):Int):=⟨n.i.toNat - 16,by omega⟩
  have m15:qc .sub .i64 n.i 15 = ((1 + t:Nat):Int):=by rw [sub64 (by omega) (by omega)]; omega
  have m2:qc .sub .i64 n.i 2 = ((14 + t:Nat):Int):=by rw [sub64 (by omega) (by omega)]; omega
  have m16:qc .sub .i64 n.i 16 = (t:Int):=by rw [sub64 (by omega) (by omega)]; omega
  have m7:qc .sub .i64 n.i 7 = ((9 + t:Nat):Int):=by rw [sub64 (by omega) (by omega)]; omega
  have m5:qc .add .i64 n.i 1 = ((16 + t + 1:Nat):Int):=by rw [add64 (by omega) (by omega)]; omega
  rw [m15,m2,m16,m7,m5];rw [ht,jal] at hB;rw [ht];simp only [jal];have e2:=qx hB.1;refine ⟨by omega,by omega,by omega,by omega,by omega,⟨qbo hB (by omega),7,by omega,by omega,rfl⟩,fun r1 _ g1=>⟨⟨qbo hB (by omega),18,by omega,by omega,rfl⟩,fun r2 _ g2=>⟨⟨qbo hB (by omega),17,by omega,by omega,rfl⟩,fun r3 _ g3=>⟨⟨qbo hB (by omega),19,by omega,by omega,rfl⟩,fun r4 _ g4=>⟨by omega,by omega,by omega,by omega,by omega,⟨by omega,by omega,qin hB (by omega) ?_⟩,by omega⟩⟩⟩⟩⟩;rw [g1 7 (by omega) (by omega) rfl,g2 18 (by omega) (by omega) rfl,g3 17 (by omega) (by omega) rfl,g4 19 (by omega) (by omega) rfl];rw [qDS (qbo hB (by omega)),qBh (qbo hB (by omega))];simp only [qfZ,qrR,qcb];rw [qcM hB (by omega:1 + t < 16 + t),qcM hB (by omega:14 + t < 16 + t),qcM hB (by omega:t < 16 + t),qcM hB (by omega:9 + t < 16 + t),qpn qyT (by omega)];generalize (qak (qdP (Z 1).d) 48).getD (1 + t) 0 = p1;generalize (qak (qdP (Z 1).d) 48).getD (14 + t) 0 = p14;generalize (qak (qdP (Z 1).d) 48).getD (9 + t) 0 = p9;generalize (qak (qdP (Z 1).d) 48).getD t 0 = p0;refine congrArg ofW ?_;simp only [sg0,sg1]
  ac_rfl
 ·rw [qx hh.1]; decide
 ·have:n.i = 64:=by omega
  rw [this] at hB; exact hB
 ·simp only [qbA]
  exact ⟨hh.2.1 0 (by omega),hh.2.1 1 (by omega),hh.2.1 2 (by omega),hh.2.1 3 (by omega),hh.2.1 4 (by omega),hh.2.1 5 (by omega),hh.2.1 6 (by omega),hh.2.1 7 (by omega)⟩
 ·simp only [qbA]; rfl
 ·intro w _ n _ A _ B _ C _ D _ E _ F _ G _ H _ d0 d1 hW iA iB iC iD iE iF iG iH hR
  refine ⟨fun hlt=>?_,fun hge=>⟨⟨?_,?_,hh,fun j hj=>absurd hj (by omega)⟩,?_⟩⟩
  ·obtain ⟨t,ht⟩:∃ t:Nat,n.i = t:=⟨n.i.toNat,by omega⟩
   have m5:qc .add .i64 n.i 1 = ((t + 1:Nat):Int):=by rw [add64 (by omega) (by omega)]; omega
   rw [m5];rw [ht,jal] at hR;rw [ht];simp only [jal];have e1:=qx hW.1;refine ⟨⟨iE,6,by omega,by omega,rfl⟩,fun r1 _ g1=>⟨⟨iE,11,by omega,by omega,rfl⟩,fun r2 _ g2=>⟨⟨iE,25,by omega,by omega,rfl⟩,fun r3 _ g3=>⟨hgr,by omega,by rw [hgd]; decide,by omega,⟨iA,2,by omega,by omega,rfl⟩,fun r4 _ g4=>⟨⟨iA,13,by omega,by omega,rfl⟩,fun r5 _ g5=>⟨⟨iA,22,by omega,by omega,rfl⟩,fun r6 _ g6=>⟨⟨by omega,by omega,hW,⟨?_,iA,iB,iC,?_,iE,iF,iG⟩,?_⟩,by omega⟩⟩⟩⟩⟩⟩⟩
   ·rw [qfZ]; exact qgF
   ·rw [qfZ]; exact qgF
   ·rw [g1 6 (by omega) (by omega) rfl,g2 11 (by omega) (by omega) rfl,g3 25 (by omega) (by omega) rfl,g4 2 (by omega) (by omega) rfl,g5 13 (by omega) (by omega) rfl,g6 22 (by omega) (by omega) rfl]
    simp only [qfZ,qrR,qBa,q2S,qcb,qD9,qCr];rw [qcM hW (by omega),hgd,qur (by omega),qoc,<- hR,q4D (by omega)];rfl
  ·intro j hj
   match j,hj with
   | 0,_=>exact iA
   | 1,_=>exact iB
   | 2,_=>exact iC
   | 3,_=>exact iD
   | 4,_=>exact iE
   | 5,_=>exact iF
   | 6,_=>exact iG
   | 7,_=>exact iH
  ·have:n.i = 64:=by omega
   rw [this] at hR; exact hR
  ·intro v _ n2 _ d _ f0 f1 hv hR2 hd hlo hhi
   have hrow:∀ j,j < 8->qa [[.int .u32 (qa v.d 0),.int .u32 (qa v.d 1),.int .u32 (qa v.d 2),.int .u32 (qa v.d 3),.int .u32 (qa v.d 4),.int .u32 (qa v.d 5),.int .u32 (qa v.d 6),.int .u32 (qa v.d 7)]] j = qa v.d j:=fun j hj=>qF0 (f:=qa v.d) hj
   generalize [[Value.int .u32 (qa v.d 0),.int .u32 (qa v.d 1),.int .u32 (qa v.d 2),.int .u32 (qa v.d 3),.int .u32 (qa v.d 4),.int .u32 (qa v.d 5),.int .u32 (qa v.d 6),.int .u32 (qa v.d 7)]] = e at hrow ⊢;refine ⟨fun hlt=>?_,fun hge=>⟨hd,?_,fun j hj=>hhi j (by omega)⟩⟩
   ·obtain ⟨t,ht⟩:∃ t:Nat,n2.i = t:=⟨n2.i.toNat,by omega⟩
    have m5:qc .add .i64 n2.i 1 = ((t + 1:Nat):Int):=by rw [add64 (by omega) (by omega)]; omega
    rw [m5];rw [ht] at hlo hhi ⊢;simp only [jal];have e1:=qx hd.1;refine ⟨by omega,by omega,⟨by omega,by omega,fun j hj=>by rw [hrow j hj]; exact hv j hj,by rw [qeC hrow]; exact hR2,q0i hd (by omega) (by rw [qfZ]; exact qgF),fun j hj=>?_,fun j hj=>?_⟩,by omega⟩
    ·by_cases ej:j = t
     ·rw [ej,qcJ hd.1 (by omega),qfZ,hhi t (by omega),hrow t (by omega)]
     ·rw [qaD ej,hlo j (by omega),hrow j (by omega)]
    ·rw [qaD (by omega),hhi j (by omega)]
   ·have hc:∀ j,j < 8->toW (qa d.d j) = toW (qa (Z 1).d j) + toW (qa v.d j):=fun j hj=>by rw [hlo j (by omega),qcb]
    have h8:∀ (x:List (List Value)),qbi (qf x 8) = ⟨toW (qa x 0),toW (qa x 1),toW (qa x 2),toW (qa x 3),toW (qa x 4),toW (qa x 5),toW (qa x 6),toW (qa x 7)⟩:=fun x=>rfl
    unfold qfh;rw [<- hR2];simp only [stW,h8,q8D];rw [hc 0 (by omega),hc 1 (by omega),hc 2 (by omega),hc 3 (by omega),hc 4 (by omega),hc 5 (by omega),hc 6 (by omega),hc 7 (by omega)]
set_option maxRecDepth 20000 in
theorem qqP:qfx.ok Tryz.prog:=q4Q (by simp) fun Z hg hp=>by
 simp [qtR,qfx];exact q23
theorem qxd:qiZ.ok Tryz.prog:=q8B (by simp [q0X]) fun Z hg hp=>by
 obtain ⟨⟨m0,hm0,hl0⟩,o0,l0,lc,l1,hle,hB,hGr,hGd⟩:=hp;simp (config:={ maxSteps:=2000000 }) [q2n,qiZ,q8r,qmi,gOk];have hnil:=qx hm0.1.1;refine ⟨fun h=>by rw [h] at hnil; simp at hnil,fun _=>⟨⟨l0,lc,fun m h=>by simpa [qaB] using h⟩,fun o _ l _ c _ d _ a0 a1 a2 a3 hH=>⟨a0,fun hpos=>?_,fun hz m h=>?_⟩⟩⟩
 ·have hM:=hH m0 hm0
  obtain ⟨O,hO⟩:∃ O:Nat,(Z 3).i = O:=⟨(Z 3).i.toNat,by omega⟩;obtain ⟨L,hL⟩:∃ L:Nat,l.i = L:=⟨l.i.toNat,by omega⟩;obtain ⟨A,hA⟩:∃ A:Nat,(Z 4).i - l.i = A:=⟨((Z 4).i - l.i).toNat,by omega⟩;have ho:=a3 hpos;rw [hA] at ho;rw [hO,hA] at hH hM;have hOA:O + A + L <= (Z 6).d.length:=by omega
  have hsl:=qAn (d:=(Z 6).d) (o:=O) (a:=A) (by omega);have hML:qa d.d 72 = ((m0 ++ qaB (Z 6).d O A).length:Nat):=hM.2.2.1;have hMl:(m0 ++ qaB (Z 6).d O A).length = m0.length + A:=by rw [jaj,hsl]
  have hrem:qc .rem .i64 (qb d.d 0 72) 64 = (((m0.length + A) % 64:Nat):Int):=by rw [qbA,hML,hMl,qqF]
  rw [hrem];obtain ⟨r,hr⟩:∃ r,(m0.length + A) % 64 = r:=⟨_,rfl⟩;have hrlt:r < 64:=by omega
  rw [hr];obtain ⟨n,hn⟩:∃ n:Nat,(if l.i < 64 - (r:Int) then l.i else 64 - (r:Int)) = (n:Int):=by
   split
   ·exact ⟨L,hL⟩
   ·exact ⟨64 - r,by omega⟩
  have hnL:n <= L/\r + n <= 64/\0 < n/\(r + n = 64∨n = L):=by split at hn <;> omega
  rw [hn];have hoff:(if (64:Int) = (r:Int) then (8:Int) else 8 + (r:Int)).toNat = 8 + r:=by
   rw [jaf (by omega)]; omega
  have hx:List.take ((n:Nat):Int).toNat (List.take l.i.toNat (List.drop o.i.toNat (Z 6).d)) = ((Z 6).d.drop (O + A)).take n:=by
   rw [jeg,jal,show min n l.i.toNat = n by omega,show o.i.toNat = O + A by omega]
  rw [hoff,hx];obtain ⟨x,hxe⟩:∃ x,((Z 6).d.drop (O + A)).take n = x:=⟨_,rfl⟩;have hxl:x.length = n:=by rw [<- hxe,jbe,jc2]; omega
  have hxB:qk x:=by rw [<- hxe]; exact qAo hB
  have hmore:∀ m:List Int,(m ++ qaB (Z 6).d O A) ++ bI x = m ++ qaB (Z 6).d (Z 3).i ((Z 4).i - (l.i - (n:Int))):=fun m=>by
   rw [jbr,<- hxe,q7F (by omega),hO,show (Z 4).i - (l.i - (n:Int)) = ((A + n:Nat):Int) by omega]
  have hmod:∀ m,qap (Z 1).d m->(m ++ qaB (Z 6).d O A).length % 64 = r:=fun m h=>by
   rw [jaj,hsl,qlr h hm0]; exact hr
  rw [hxe,qt3 hM.1 (by omega) (by omega) (by omega) (by omega)];have hsum:qc .add .i64 (r:Int) (n:Int) = ((r + n:Nat):Int):=by rw [add64 (by omega) (by omega)]; omega
  rw [hsum];have hd1:=qx hM.1.1;have hcame:=qjC hM.1 hxB (r:=r) (by omega);have hlast:((n:Int) < l.i->(if c.i = (n:Int) then o.i else o.i + (n:Int)) = (Z 3).i + ((Z 4).i - (l.i - (n:Int)))):=fun hlt=>by
   rw [jaf (by omega)]; omega
  refine ⟨by omega,by omega,by omega,by omega,by omega,by omega,by omega,by omega,by omega,by omega,by omega,by omega,fun hfull=>⟨⟨hcame.row,hGr,hGd⟩,fun f _ hf hst hk=>⟨⟨by omega,by omega,by omega,hlast,fun m h=>?_⟩,by omega⟩⟩,fun hnot=>⟨⟨by omega,by omega,by omega,hlast,fun m h=>?_⟩,by omega⟩⟩
  ·rw [<- hmore m]
   exact qt8 (hH m h) hxB (hmod m h) (by omega) hf hst (hk 72 (by omega))
  ·rw [<- hmore m]
   exact qt2 (hH m h) hxB (hmod m h) (by omega)
 ·have hl:l.i = 0:=by omega
  have:=hH m h;rw [hl,Int.sub_zero] at this;exact this
set_option maxRecDepth 20000 in
theorem q45:qjo.ok Tryz.prog:=q3u (by simp [q0X]) fun Z hg hp=>by
 obtain ⟨⟨m0,hm0,hl0⟩,l0,l1,lc,hrow,hB,hGr,hGd⟩:=hp;simp (config:={ maxSteps:=2000000 }) [qtM,qjo,qxi,qmi,gOk];have hnil:=qx hm0.1.1;have hnil5:=qx hrow;refine ⟨fun h=>by rw [h] at hnil; simp at hnil,fun _=>⟨⟨l0,lc,fun m h=>by simpa [qdT] using h⟩,fun o _ l _ c _ d _ a0 a1 a2 a3 hH=>⟨a0,fun hpos=>?_,fun hz m h=>?_⟩⟩⟩
 ·have hM:=hH m0 hm0
  obtain ⟨L,hL⟩:∃ L:Nat,l.i = L:=⟨l.i.toNat,by omega⟩;obtain ⟨A,hA⟩:∃ A:Nat,(Z 3).i - l.i = A:=⟨((Z 3).i - l.i).toNat,by omega⟩;have ho:=a3 hpos;rw [hA] at ho;rw [hA] at hH hM;have hsl:=qx9 (d:=(Z 5).d) (a:=A) (by omega);have hML:qa d.d 72 = ((m0 ++ qdT (Z 5).d 0 A).length:Nat):=hM.2.2.1;have hMl:(m0 ++ qdT (Z 5).d 0 A).length = m0.length + A:=by rw [jaj,hsl]
  have hrem:qc .rem .i64 (qb d.d 0 72) 64 = (((m0.length + A) % 64:Nat):Int):=by rw [qbA,hML,hMl,qqF]
  rw [hrem];obtain ⟨r,hr⟩:∃ r,(m0.length + A) % 64 = r:=⟨_,rfl⟩;have hrlt:r < 64:=by omega
  rw [hr];obtain ⟨n,hn⟩:∃ n:Nat,(if l.i < 64 - (r:Int) then l.i else 64 - (r:Int)) = (n:Int):=by
   split
   ·exact ⟨L,hL⟩
   ·exact ⟨64 - r,by omega⟩
  have hnL:n <= L/\r + n <= 64/\0 < n/\(r + n = 64∨n = L):=by split at hn <;> omega
  rw [hn];have hoff:(if (64:Int) = (r:Int) then (8:Int) else 8 + (r:Int)).toNat = 8 + r:=by
   rw [jaf (by omega)]; omega
  have hx:List.take ((n:Nat):Int).toNat (qb2 (Z 5).d o.i.toNat l.i.toNat) = qb2 (Z 5).d A n:=by
   rw [jal,q4f (by omega),show o.i.toNat = A by omega]
  rw [hoff,hx];obtain ⟨x,hxe⟩:∃ x,qb2 (Z 5).d A n = x:=⟨_,rfl⟩;have hxl:x.length = n:=by rw [<- hxe,qnA hrow (by omega)]
  have hxB:qk x:=by rw [<- hxe]; exact qrZ hrow hB
  have hmore:∀ m:List Int,(m ++ qdT (Z 5).d 0 A) ++ bI x = m ++ qdT (Z 5).d 0 ((Z 3).i - (l.i - (n:Int))):=fun m=>by
   rw [jbr,<- hxe,qp9 hrow,q58,show (Z 3).i - (l.i - (n:Int)) = ((A + n:Nat):Int) by omega]
  have hmod:∀ m,qap (Z 1).d m->(m ++ qdT (Z 5).d 0 A).length % 64 = r:=fun m h=>by
   rw [jaj,hsl,qlr h hm0]; exact hr
  rw [hxe,qt3 hM.1 (by omega) (by omega) (by omega) (by omega)];have hsum:qc .add .i64 (r:Int) (n:Int) = ((r + n:Nat):Int):=by rw [add64 (by omega) (by omega)]; omega
  rw [hsum];have hd1:=qx hM.1.1;have hcame:=qjC hM.1 hxB (r:=r) (by omega);have hlast:((n:Int) < l.i->(if c.i = (n:Int) then o.i else o.i + (n:Int)) = (Z 3).i - (l.i - (n:Int))):=fun hlt=>by
   rw [jaf (by omega)]; omega
  refine ⟨by omega,by omega,by omega,by omega,by omega,by omega,by omega,by omega,by omega,by omega,by omega,by omega,by omega,fun hfull=>⟨⟨hcame.row,hGr,hGd⟩,fun f _ hf hst hk=>⟨⟨by omega,by omega,by omega,hlast,fun m h=>?_⟩,by omega⟩⟩,fun hnot=>⟨⟨by omega,by omega,by omega,hlast,fun m h=>?_⟩,by omega⟩⟩
  ·rw [<- hmore m]
   exact qt8 (hH m h) hxB (hmod m h) (by omega) hf hst (hk 72 (by omega))
  ·rw [<- hmore m]
   exact qt2 (hH m h) hxB (hmod m h) (by omega)
 ·have hl:l.i = 0:=by omega
  have:=hH m h;rw [hl,Int.sub_zero] at this;exact this
set_option maxRecDepth 20000 in
set_option maxHeartbeats 800000 in
theorem q78:qpA.ok Tryz.prog:=qDi (by simp [q45]) fun Z hg hp=>by
 obtain ⟨⟨m0,hm0,hl0⟩,hGr,hGd⟩:=hp;simp (config:={ maxSteps:=2000000 }) [qAU,qpA,qDm,qDN,qjo,gOk];have hnil:=qx hm0.1.1;have hL:qa (Z 1).d 72 = (m0.length:Int):=hm0.2.2.1;have hlen:∀ m,qap (Z 1).d m->m.length = m0.length:=fun m h=>qlr h hm0
 have hn8:qc .sub .i64 64 (qc .rem .i64 (qc .add .i64 (qb (Z 1).d 0 72) 8) 64) = 64 - (qa (Z 1).d 72 + 8) % 64:=by
  rw [qbA,add64 (by omega) (by omega),hL,show ((m0.length:Int) + 8) = ((m0.length + 8:Nat):Int) by omega,qqF,sub64 (by omega) (by omega)];omega
 refine ⟨fun h=>by rw [h] at hnil; simp at hnil,fun _=>⟨by omega,⟨?_,?_,hn8,?_,⟨_,rfl,rfl⟩,fun j hj=>?_⟩,fun d _ p _ n _ v _ t _ t0 t1 hd1 hd2 hn hv hp1 hp2=>⟨fun hlt=>?_,fun hge=>⟨?_,?_,?_,?_,fun f _ hf=>⟨?_,fun e _ g _ t _ u0 u1 he hst hg1 hg2=>⟨fun hlt=>?_,fun hge=>⟨?_,fun m h=>?_⟩⟩⟩⟩⟩⟩⟩
 ·exact qvd (f:=qb (Z 1).d 0)
 ·intro j hj
  exact (qvr (f:=qb (Z 1).d 0) hj).trans qbA
 ·rw [qbA,hL]
  have h1:IntKind.u64.wrap (m0.length:Int) = m0.length:=by simp [IntKind.wrap,IntKind.bits,IntKind.signed]; omega
  rw [h1]
  show IntKind.u64.wrap ((m0.length:Int) * 8) = _
  simp [IntKind.wrap,IntKind.bits,IntKind.signed]; omega
 ·have hz:∀ j:Fin 72,qa [Value.int .u8 128 :: List.replicate 71 (Value.int .u8 0)] j.val = if j.val = 0 then 128 else 0:=by decide +kernel
  refine (hz ⟨j,hj⟩).trans ?_;by_cases e:j = 0
  ·rw [jah e,jah e]
  ·rw [jaf e,jaf e,jaf (by omega)]
 ·obtain ⟨T,hT⟩:∃ T:Nat,t.i = T:=⟨t.i.toNat,by omega⟩
  obtain ⟨N,hN⟩:∃ N:Nat,n.i = N:=⟨n.i.toNat,by omega⟩;have m1:qc .sub .i64 56 (qc .mul .i64 8 t.i) = ((8 * (7 - T):Nat):Int):=by rw [qbY (by omega) (by omega),sub64 (by omega) (by omega)]; omega
  have m2:qc .add .i64 n.i t.i = ((N + T:Nat):Int):=by rw [add64 (by omega) (by omega)]; omega
  have m3:qc .add .i64 t.i 1 = ((T + 1:Nat):Int):=by rw [add64 (by omega) (by omega)]; omega
  rw [m1,m2,m3,hT,hN,qsT (by omega),qc6,hv];rw [hT,hN] at hp2;have e1:=qx hp1;simp only [jal] at hp2 ⊢;refine ⟨by omega,by omega,by omega,by omega,⟨by omega,by omega,hd1,hd2,by omega,trivial,qcR hp1,fun j hj=>?_⟩,by omega⟩;by_cases ej:j = N + T
  ·rw [ej,qcJ hp1 (by omega),jaf (by omega),jah ⟨by omega,by omega⟩,qsJ (by omega),show N + T - N = T by omega,show 8 - 1 - T = 7 - T by omega]
  ·rw [qaD ej,hp2 j hj]
   by_cases e0:j = 0
   ·rw [jah e0,jah e0]
   ·rw [jaf e0,jaf e0]
    by_cases e2:(N:Int) <= j/\j < N + T
    ·rw [jah e2,jah ⟨e2.1,by omega⟩]
    ·rw [jaf e2,jaf (by omega)]
 ·rw [add64 (by omega) (by omega)]; omega
 ·rw [add64 (by omega) (by omega)]; omega
 ·rw [qx hp1]; decide
 ·refine ⟨⟨m0,qkh hm0 hd1 hd2,hl0⟩,by rw [add64 (by omega) (by omega)]; omega,by rw [add64 (by omega) (by omega)]; omega,hp1,fun x hx=>?_,hGr,hGd⟩
  obtain ⟨j,hj,rfl⟩:=q9A hx;rw [hp2 j hj];split
  ·omega
  ·split
   ·rw [qsJ (by omega)]; omega
   ·omega
 ·have hpad:∀ m,qap (Z 1).d m->m ++ qdT p.d 0 (qc .add .i64 n.i 8) = qd4 m:=fun m h=>by
   have h1:=hlen m h;have h8:t.i = 8:=by omega
   obtain ⟨N,hN⟩:∃ N:Nat,n.i = N:=⟨n.i.toNat,by omega⟩;rw [hN,add64 (by omega) (by omega),show ((N:Int) + 8) = ((N + 8:Nat):Int) by omega];rw [qCT (n:=N) (v:=qa (Z 1).d 72 * 8) (by omega) (by omega) hp1 (fun j hj=>by
    rw [hp2 j hj,hN,h8];by_cases e0:j = 0
    ·rw [jah e0,jah e0]
    ·rw [jaf e0,jaf e0]
     by_cases e2:(N:Int) <= j/\j < (N:Int).toNat + (8:Int).toNat
     ·rw [jah e2,jah ⟨by omega,by have:=e2.2; simp at this; omega⟩,jal]
     ·rw [jaf e2,jaf (by simp at e2; omega)])]
   rw [qd4,hL,h1,show N - 1 = 64 - (m0.length + 8) % 64 - 1 by omega]
  refine ⟨(hf m0 (qkh hm0 hd1 hd2)).1,fun m h=>?_,⟨_,rfl,rfl⟩,fun j hj=>absurd hj (by omega)⟩;have:=hf m (qkh h hd1 hd2);rw [hpad m h] at this;exact this.2.2.2.1
 ·obtain ⟨T,hT⟩:∃ T:Nat,t.i = T:=⟨t.i.toNat,by omega⟩
  have m3:qc .add .i64 t.i 1 = ((T + 1:Nat):Int):=by rw [add64 (by omega) (by omega)]; omega
  have m1:qc .sub .i64 24 (qc .mul .i64 8 (qc .rem .i64 t.i 4)) = ((24 - 8 * (T % 4):Nat):Int):=by
   rw [hT,qEa,qbY (by omega) (by omega),sub64 (by omega) (by omega)]; omega
  rw [m1,m3,hT,qEv (by omega),q0B (by omega),qc6];rw [hT] at hg2;have e1:=qx hg1;have e2:=qx he.1;simp only [jal];refine ⟨by omega,by omega,by omega,by omega,by omega,by omega,⟨by omega,by omega,he,hst,qcR hg1,fun j hj=>?_⟩,by omega⟩;by_cases ej:j = T
  ·rw [ej,qcJ hg1 (by omega),q4V he (by omega)]
  ·rw [qaD ej,hg2 j (by omega)]
 ·rw [qx hg1]; decide
 ·have h32:t.i = 32:=by omega
  have:sha m = qeo (stW e.d):=by rw [hst m h]; rfl
  rw [this];refine qsC qmr fun j hj=>?_
  exact (qfb (f:=qb g.d 0) hj).trans (qbA.trans (hg2 j (by omega)))
set_option maxRecDepth 20000 in
theorem qj8:qdb.ok Tryz.prog:=q7V (by simp [qqP,qxd,q78]) fun Z hg hp=>by
 obtain ⟨⟨o0,l0,lc,l1,hle,hB⟩,hGr,hGd⟩:=hp;simp (config:={ maxSteps:=2000000 }) [qye,qdb,qfx,qiZ,qpA,gOk];refine fun h _ hh=>⟨⟨⟨[],hh,by decide⟩,o0,l0,lc,l1,hle,hB,hGr,hGd⟩,fun g _ hg2=>⟨⟨⟨_,hg2 [] hh,?_⟩,hGr,hGd⟩,fun d _ hd=>?_⟩⟩
 ·have:(qaB (Z 4).d (Z 1).i (Z 2).i).length <= (Z 2).i.toNat:=by simp [qaB]; omega
  simp only [jdd]; omega
 ·exact (show qf _ 32 = qf d.d 32 from rfl).trans (hd _ (by simpa using hg2 [] hh))
def q5G:Out:=(.br (tv 2)
 (.ret 0 (sg 8 [bv 9 2,bt 8 (.bl false)]))
 (tn (tl 0) (tv 4) (tb (.ret 0 (sg 8 [bt 9 (.cmp .gtr (tv 7) (.arith .sub .i64 (tv 1) (tv 4))),bt 8 (.not (.cmp .gtr (tv 7) (.arith .sub .i64 (tv 1) (tv 4))))])))))
theorem qBC:qj Tryz.prog qii [] [] q5G:=qg Tryz.func132 Tryz.call132 (by kernel_rfl)
def qvT:Out:=(.pre 0 (sg 0 [bv 6 6,bv 5 5,bv 4 4,bg 3 3,bv 2 2,bv 1 1,bv 7 8,bg 0 0]) (tb (fr 9 2 (.post 0 0 (sg 0 [bv 6 6,bv 5 5,bv 4 4,bg 3 3,bv 2 2,bv 1 1,bv 7 8,bg 0 0]) 9 (.br (tv 9)
 (.need (.beq (.bl false) (tv 10)) (.inv 0 11 (sg 1000 [bv 1003 6,bv 1002 5,bv 1001 4,bg 1000 3,bt 1004 (.arith .sub .i64 (tv 8) (tl 1))]) (fr 11 5 (.hyp 0 11 (.br (.cmp .geq (tv 15) (tl 0))
 (.need (.cmp .geq (.arith .mul .i64 (tl 8) (tv 15)) (tl 0)) (tb (.fresh 16 (tb (.need (.cmp .eql (tv 12) (.dlen (tv 14))) (tn (.tims (tl 1) (.plus (tv 12) (tl 1))) (tl 140737488355328) (fr 17 2 (tb (tb (tb (.back 0 11 (sg 1000 [bt 1003 (.dapp (tv 14) (.rcons (tu (.conv .u8 (.arith .shr .u64 (tv 7) (.arith .mul .i64 (tl 8) (tv 15))))) .rnil)),bv 1002 18,bt 1001 (.plus (tv 12) (tl 1)),bg 1000 17,bt 1004 (.arith .sub .i64 (tv 15) (tl 1))]))))))))))))
 (.ret 0 (sg 9 [bv 13 14,bv 12 13,bv 11 12,bg 10 11,bt 9 (.bl false)])))))))
 (.ret 0 (sg 9 [bv 13 6,bv 12 5,bv 11 4,bg 10 3,bv 9 10])))))))
theorem q5W:qj Tryz.prog qha [qii] [q1T] qvT:=qg Tryz.func131 Tryz.call131 (by kernel_rfl)
@[simp] def q76:Sg:=sg 0 [bv 6 6,bv 5 5,bv 4 4,bg 3 3,bv 2 2,bv 1 1,bt 8 (tl 1),bt 7 (.conv .u64 (tv 7)),bg 0 0]
def qDq:Out:=(.pre 0 q76 (tb (fr 8 5 (.post 0 0 q76 8 (.ret 0 (sg 8 [bv 12 12,bv 11 11,bv 10 10,bg 9 9,bv 8 8]))))))
theorem qEU:qj Tryz.prog u8C [qha] [] qDq:=qg Tryz.func106 Tryz.call106 (by kernel_rfl)
@[simp] def q0N:Sg:=sg 0 [bv 6 6,bv 5 5,bv 4 4,bg 3 3,bv 2 2,bv 1 1,bt 8 (tl 2),bt 7 (.conv .u64 (tv 7)),bg 0 0]
def qAV:Out:=(.pre 0 q0N (tb (fr 8 5 (.post 0 0 q0N 8 (.ret 0 (sg 8 [bv 12 12,bv 11 11,bv 10 10,bg 9 9,bv 8 8]))))))
theorem qDT:qj Tryz.prog qyt [qha] [] qAV:=qg Tryz.func105 Tryz.call105 (by kernel_rfl)
def qpj:Out:=(.fresh 1 (.ret 0 (sg 1 [bt 2 (.imax (tl 0) (tv 0)),bg 1 1])))
theorem qzp:qj Tryz.prog qgj [] [] qpj:=qg Tryz.func104 Tryz.call104 (by kernel_rfl)
def q1M:Out:=(.pre 0 (sg 0 [bv 6 6,bv 5 5,bv 4 4,bg 3 3,bv 2 2,bv 1 1,bt 7 (tl 32),bg 0 0]) (tb (fr 9 2 (.post 0 0 (sg 0 [bv 6 6,bv 5 5,bv 4 4,bg 3 3,bv 2 2,bv 1 1,bt 7 (tl 32),bg 0 0]) 9 (.br (tv 9)
 (.need (.cmp .eql (tv 4) (.dlen (tv 6))) (ts (tl 0) (.dlen (tv 8)) (tn (.tims (tl 1) (.plus (tv 4) (tl 32))) (tl 140737488355328) (fr 11 2 (.ret 0 (sg 9 [bt 13 (.dapp (tv 6) (.c3 .xrows (tv 8) (tl 0) (tl 32))),bv 12 12,bt 11 (.plus (tv 4) (tl 32)),bg 10 11,bv 9 10]))))))
 (.ret 0 (sg 9 [bv 13 6,bv 12 5,bv 11 4,bg 10 3,bv 9 10])))))))
theorem q9l:qj Tryz.prog qnr [qii] [] q1M:=qg Tryz.func107 Tryz.call107 (by kernel_rfl)
def q50:Out:=(.pre 0 (sg 0 [bv 6 6,bv 5 5,bv 4 4,bg 3 3,bv 2 2,bv 1 1,bt 7 (tl 32),bg 0 0]) (tb (fr 9 2 (.post 0 0 (sg 0 [bv 6 6,bv 5 5,bv 4 4,bg 3 3,bv 2 2,bv 1 1,bt 7 (tl 32),bg 0 0]) 9 (.br (tv 9)
 (.need (.cmp .eql (tv 4) (.dlen (tv 6))) (ts (tl 0) (.dlen (tv 8)) (tn (.tims (tl 1) (.plus (tv 4) (tl 32))) (tl 140737488355328) (fr 11 2 (.ret 0 (sg 9 [bt 13 (.dapp (tv 6) (.c3 .xrows (tv 8) (tl 4) (tl 32))),bv 12 12,bt 11 (.plus (tv 4) (tl 32)),bg 10 11,bv 9 10]))))))
 (.ret 0 (sg 9 [bv 13 6,bv 12 5,bv 11 4,bg 10 3,bv 9 10])))))))
theorem qCA:qj Tryz.prog qrP [qii] [] q50:=qg Tryz.func107 Tryz.call107 (by kernel_rfl)
def qxU:Out:=(.br (.and (.cmp .eql (.dlen (tv 3)) (tl 0)) (.isnil 0))
 (.need (.cmp .eql (tv 1) (tl 0)) (.ret 0 (sg 5 [bt 7 .dnil,bt 6 (tl 0),(5,.nil)])))
 (.fresh 5 (tn (tl 0) (tv 1) (tn (tv 1) (.dlen (tv 3)) (tn (.tims (tl 1) (tv 1)) (tl 140737488355328) (fr 6 2 (.ret 0 (sg 5 [bt 7 (.dtake (tv 3) (tv 1)),bv 6 7,bg 5 6]))))))))
theorem q5w:qj Tryz.prog qg7 [] [] qxU:=qg Tryz.func91 Tryz.call91 (by kernel_rfl)
def q1K:Out:=(.br (tv 2)
 (.ret 0 (sg 7 []))
 (.pre 0 (sg 0 [bv 4 5,bv 3 6,bv 2 5,bv 1 4,bg 0 3]) (tb (fr 7 3 (.post 0 0 (sg 0 [bv 4 5,bv 3 6,bv 2 5,bv 1 4,bg 0 3]) 7 (.ret 1 (sg 7 [bv 9 9,bv 8 8,bg 7 7])))))))
theorem q87:qj Tryz.prog qmE [qg7] [] q1K:=qg Tryz.func108 Tryz.call108 (by kernel_rfl)
theorem q4j {lim:Int} {f:Bool} {m s:List Int} (h:qhh lim f m s.length = true):qgk lim f m s = (true,m):=by rw [qgk,jah h]
theorem qlG {lim:Int} {f:Bool} {m s:List Int} (h:¬ qhh lim f m s.length = true):qgk lim f m s = (false,m ++ s):=by rw [qgk,jaf h]
theorem qs4:qii.ok Tryz.prog:=qBC (by simp) fun Z hg hp=>by
 obtain ⟨⟨w0,w1,w2,w3,w5⟩,k0,k1⟩:=hp;simp [q5G,qii,qch,qag,qhh];refine ⟨fun h=>⟨fun _=>h,h⟩,fun h=>⟨by omega,?_⟩⟩;rw [sub64 (by omega) (by omega),h,bI_len,<- w2];simp [qJ]
theorem qxA:qgj.ok Tryz.prog:=qzp (by simp) fun Z hg hp=>by
 simp [qpj,qgj];omega
theorem quc:qg7.ok Tryz.prog:=q5w (by simp) fun Z hg hp=>by
 obtain ⟨h0,h1,h2⟩:=hp;simp [qxU,qg7];refine ⟨fun h _=>⟨by rw [h] at h1; simpa using h1,h⟩,fun _=>⟨h0,by omega,h2,?_⟩⟩;rw [jap (by omega)]
theorem q9Y:qmE.ok Tryz.prog:=q87 (by simp [quc]) fun Z hg hp=>by
 obtain ⟨⟨w0,w1,w2,w3,w5⟩,hq⟩:=hp;simp [q1K,qmE,qg7,qch,qag];exact fun hf=>⟨⟨by omega,w2,hq⟩,fun d _ hd=>⟨hf,hd⟩⟩
theorem qgf {a b:qe}:bI (a ++ b) = bI a ++ bI b:=by simp [bI]
theorem qee {a b:qe} (h:qk a) (h':qk b):qk (a ++ b):=fun r hr=>(jaw.1 hr).elim (h r) (h' r)
theorem q5y {lim n c k:Int} {f:Bool} {d x:qe} {s:List Int} (hw:wOk lim n c d) (h:qhh lim f (bI d) k = false) (hx:bI x = s) (hB:qk x) (hk:(x.length:Int) = k) (c2:Int):wOk lim (n + k) c2 (d ++ x)/\(false,bI (d ++ x)) = qgk lim f (bI d) s:=by
 obtain ⟨w0,w1,w2,w3,w5⟩:=hw;have hs:(s.length:Int) = k:=by rw [<- hx,bI_len,hk]
 have hd:(bI d).length = d.length:=bI_len;refine ⟨⟨w0,w1,by rw [jaj]; omega,?_,qee w5 hB⟩,?_⟩
 ·simp [qhh] at h; omega
 ·rw [qlG (by rw [hs,h]; decide),qgf,hx]
theorem qwV {lim k:Int} {f:Bool} {d:qe} {s:List Int} (h:qhh lim f (bI d) k = true) (hk:(s.length:Int) = k):(true,bI d) = qgk lim f (bI d) s:=by rw [q4j (by rw [hk,h])]
theorem q9c:qnr.ok Tryz.prog:=q9l (by simp [qs4]) fun Z hg hp=>by
 obtain ⟨hw,q,hr,hB⟩:=hp;simp [q1M,qnr,qii,qch,qag,qhn];have w2:=hw.2.2.1;refine ⟨hw,fun u _ f _ hf hu=>⟨fun h=>?_,fun h=>⟨hw,?_⟩⟩⟩
 ·have hff:f.b = false:=by rw [h] at hu; simpa using hu.symm
  rw [hff] at hf ⊢;have hx:bI (qb2 (Z 8).d 0 32) = qf (Z 8).d 32:=by rw [qp9 hr,jdl,jap (by rw [qcq]; decide)]
  refine ⟨w2,by rw [qx hr]; decide,q,fun c _=>q5y hw hf.symm hx (qrZ hr hB) (by rw [qnA hr (by omega)]; rfl) _⟩
 ·have hff:f.b = true:=by rw [h] at hu; simpa using hu.symm
  rw [hff] at hf ⊢;exact qwV hf.symm (by rw [qcq]; rfl)
theorem qCe:qrP.ok Tryz.prog:=qCA (by simp [qs4]) fun Z hg hp=>by
 obtain ⟨hw,q,hr,hB⟩:=hp;simp [q50,qrP,qii,qch,qag,qhn];have w2:=hw.2.2.1;have hlen:((qf (Z 8).d 36).drop 4).length = 32:=by rw [jc2,qcq]
 refine ⟨hw,fun u _ f _ hf hu=>⟨fun h=>?_,fun h=>⟨hw,?_⟩⟩⟩
 ·have hff:f.b = false:=by rw [h] at hu; simpa using hu.symm
  rw [hff] at hf ⊢;have h36:(qf (Z 8).d 37).take 36 = qf (Z 8).d 36:=by
   rw [qf,qf,<- jc4]; rfl
  have hx:bI (qb2 (Z 8).d 4 32) = (qf (Z 8).d 36).drop 4:=by
   rw [qp9 hr,<- h36,jf2]
  have hBx:qk (qb2 (Z 8).d 4 32):=fun row hrow=>by
   have h2:qbp row 0 ∈ bI (qb2 (Z 8).d 4 32):=jbk.2 ⟨row,hrow,rfl⟩;rw [hx] at h2; exact hB _ h2
  refine ⟨w2,by rw [qx hr]; decide,q,fun c _=>q5y hw hf.symm hx hBx (by rw [qnA hr (by omega)]; rfl) _⟩
 ·have hff:f.b = true:=by rw [h] at hu; simpa using hu.symm
  rw [hff] at hf ⊢;exact qwV hf.symm (by rw [hlen]; rfl)
theorem q8u {v:Int} {n k:Nat} (h:k < n):(beL v n).take (k + 1) = (beL v n).take k ++ [(v.fdiv (2 ^ (8 * (n - 1 - k)))) % 256]:=by
 rw [jee,jac (by rw [qax]; exact h)];simp [beL]
theorem qtE:qha.ok Tryz.prog:=q5W (by simp [qs4]) fun Z hg hp=>by
 obtain ⟨hw,q,k0,k1,v0,v1⟩:=hp;simp [qvT,qha,q1T,qii,qch,qag,qhn];have w2:=hw.2.2.1;have hsub:qc .sub .i64 (Z 8).i 1 = (Z 8).i - 1:=sub64 (by omega) (by omega);obtain ⟨N,hN⟩:∃ N:Nat,(Z 8).i = N:=⟨(Z 8).i.toNat,by omega⟩;have hbl:((beL (Z 7).i (Z 8).i.toNat).length:Int) = (Z 8).i:=by rw [qax]; omega
 rw [hsub];refine ⟨⟨hw,k0,by omega⟩,fun u _ f _ hf hu=>⟨fun h=>?_,fun h=>⟨hw,?_⟩⟩⟩
 ·have hff:f.b = false:=by rw [h] at hu; simpa using hu.symm
  rw [hff] at hf;have hfit:(Z 2).b = false/\(Z 8).i <= (Z 1).i - (Z 4).i:=by
   have:=hf.symm;have hd:(bI (Z 6).d).length = (Z 6).d.length:=bI_len;simp [qhh] at this;exact ⟨this.1,by omega⟩
  refine ⟨hff,⟨by omega,by omega,w2,hfit.1,hfit.2,hw.2.2.2.2,.inl (by omega)⟩,fun l _ c _ d _ t _ t0 t1 hl _ _ hB hd=>⟨fun hge=>?_,fun hlt=>?_⟩⟩
  ·obtain ⟨T,hT⟩:∃ T:Nat,t.i = T:=⟨t.i.toNat,by omega⟩
   have m1:qc .mul .i64 8 t.i = ((8 * T:Nat):Int):=by rw [qbY (by omega) (by omega)]; omega
   have m2:qc .sub .i64 t.i 1 = t.i - 1:=sub64 (by omega) (by omega);have hdl:d.d.length = (Z 6).d.length + (N - 1 - T):=by
    have:=congrArg List.length hd;rw [bI_len,jaj,bI_len,jbe,qax] at this;omega
   rw [m1,m2,qsT (by omega),qc6];refine ⟨by omega,hl,by omega,⟨by omega,by omega,hl,hfit.1,hfit.2,qee hB ?_,?_⟩,by omega⟩
   ·intro row hrow
    obtain rfl:=jak.1 hrow;simp [qbp,qX]; omega
   ·rw [qgf,hd,jbr,show ((Z 8).i - 1 - (t.i - 1)).toNat = (N - 1 - T) + 1 by omega,show ((Z 8).i - 1 - t.i).toNat = N - 1 - T by omega,show (Z 8).i.toNat = N by omega,q8u (by omega),show N - 1 - (N - 1 - T) = T by omega]
    rfl
  ·have ht:t.i = -1:=by omega
   have hx:bI d.d = bI (Z 6).d ++ beL (Z 7).i (Z 8).i.toNat:=by
    rw [hd,ht,jap (by rw [qax]; omega)]
   have hdl:(d.d.length:Int) = (Z 6).d.length + (Z 8).i:=by
    have:=congrArg List.length hx;rw [bI_len,jaj,bI_len,qax] at this;omega
   obtain ⟨w0,w1,_,w3,w5⟩:=hw;refine ⟨⟨w0,w1,hl,by omega,hB⟩,?_⟩;rw [qlG (by rw [hbl,<- hf]; decide),hx]
 ·have hff:f.b = true:=by rw [h] at hu; simpa using hu.symm
  rw [hff] at hf ⊢;exact qwV hf.symm hbl
theorem qEV:u8C.ok Tryz.prog:=qEU (by simp [qtE]) fun Z hg hp=>by
 obtain ⟨hw,q,v0,v1⟩:=hp;simp [qDq,u8C,qsl,qha,qch,qag,qhn];have hv:IntKind.u64.wrap (Z 7).i = (Z 7).i:=by simp [IntKind.wrap,IntKind.bits,IntKind.signed]; omega
 rw [hv];exact ⟨⟨hw,q,v0,by omega⟩,fun _ _ _ _ _ _ _ _ h1 h2=>⟨h1,h2⟩⟩
theorem qEx:qyt.ok Tryz.prog:=qDT (by simp [qtE]) fun Z hg hp=>by
 obtain ⟨hw,q,v0,v1⟩:=hp;simp [qAV,qyt,qsl,qha,qch,qag,qhn];have hv:IntKind.u64.wrap (Z 7).i = (Z 7).i:=by simp [IntKind.wrap,IntKind.bits,IntKind.signed]; omega
 rw [hv];exact ⟨⟨hw,q,v0,by omega⟩,fun _ _ _ _ _ _ _ _ h1 h2=>⟨h1,h2⟩⟩
theorem qjr {d:qe} {l:Int} (h:l = d.length):qaB d 0 l = bI d:=by
 rw [qaB,h,jal,jdk,jdl,jap (by rw [bI_len]; omega)]
theorem qCL {d:qe} {n:Nat} (h:qk d):qk (d.take n):=fun r hr=>h r (je7 _ _ hr)
set_option maxRecDepth 20000
theorem qu0 {d e:List (List Value)} (h:qf d 32 = qf e 32):∀ j,j < 32->qa d j = qa e j:=fun j hj=>by
 have:=qe6 (d:=d) hj;rw [h,qe6 hj] at this;exact this.symm
end Go.Proofs
namespace Go.Eng
open Go Go.Proofs
def k8:List CK:=List.replicate 8 (.int .u32)
def qp8 (r d:Nat):SH:=.arr r 207 k8 (.var d) (.lit 1)
def w8Z (r:Nat):SH:=.cells r 207 (List.replicate 8 (.vint .u32 (.lit 0)))
def w8A (r:Nat):SV:=.one (.vptr r (.lit 0) 8 0)
def qd9 (d:qe):Prop:=∀ j,j < 8->isW (qa d j)
def qsK (d:qe):Prop:=∀ j,j < 64->isW (qa d j)
def kW (d:qe):List W32:=qel (qf d 64)
def qnO:Ctr:={ fn := 138,nv:=8,args:=[.agg (qN .u32 0 8),.agg (qN .u32 1 64),bSl 2 3 4 5],heap:=[],ro:=[bHp 2 6 7],pre:=fun Z=>qd9 (Z 0).d/\qsK (Z 1).d/\0 <= (Z 3).i/\(Z 4).i = 64/\(Z 3).i + 64 <= (Z 6).d.length/\qk (Z 6).d,alts:=[
 { k:=1,ret:=.agg (qN .u32 8 8),heap:=[],post:=fun Z=>qd9 (Z 8).d/\qbi (qf (Z 8).d 8) = qfh (kW (Z 1).d) (qbi (qf (Z 0).d 8)) (qa5 (qaB (Z 6).d (Z 3).i 64) 0) }] }
def qxj (Z:Env):List W32:=qak (qa5 (qaB (Z 6).d (Z 3).i 64) 0) 48
def qx2:List (Nat × SV):=[(3,w8A 1000),(4,qsy 1002),(6,w8A 1004),(7,qsy 1005)]
def qtp (Z:Env):Prop:=qG (Z 1003).d 64/\qf (Z 1003).d 64 = qf (Z 1).d 64
def q5U:Inv:={ key:=3,nv:=8,env:=qx2 ++ [(2,bSl 2 3 4 5),(8,iv .i64 (.var 1007))],heap:=[qp8 1000 1001,wHp 1002 1003,w8Z 1004,wHp 1005 1006],inv:=(fun Z=>qtp Z/\qG (Z 1001).d 8/\qf (Z 1001).d 8 = qf (Z 0).d 8/\0 <= (Z 1007).i/\(Z 1007).i <= 64/\qgz (Z 1006).d (qxj Z) (Z 1007).i.toNat),mu:=(fun Z=>(64 - (Z 1007).i).toNat) }
def q5S:Inv:={ key:=12,nv:=10,env:=qx2 ++ [(11,w8A 1008),(12,iv .i64 (.var 1007))],heap:=[qp8 1000 1001,wHp 1002 1003,w8Z 1004,wHp 1005 1006,qp8 1008 1009],inv:=(fun Z=>qtp Z/\qG (Z 1001).d 8/\qf (Z 1001).d 8 = qf (Z 0).d 8/\0 <= (Z 1007).i/\(Z 1007).i <= 64/\qgz (Z 1006).d (qxj Z) 64/\qG (Z 1009).d 8/\qd9 (Z 1009).d/\qbi (qf (Z 1009).d 8) = qoc (qbi (qf (Z 0).d 8)) (kW (Z 1).d) (qxj Z) (Z 1007).i.toNat),mu:=(fun Z=>(64 - (Z 1007).i).toNat) }
def q69:Inv:={ key:=21,nv:=10,env:=[(3,w8A 1000),(6,w8A 1004),(11,w8A 1008),(19,iv .i64 (.var 1007))],heap:=[qp8 1000 1001,w8Z 1004,qp8 1008 1009],inv:=(fun Z=>qG (Z 1001).d 8/\0 <= (Z 1007).i/\(Z 1007).i <= 8/\qG (Z 1009).d 8/\qd9 (Z 1009).d/\qbi (qf (Z 1009).d 8) = qoc (qbi (qf (Z 0).d 8)) (kW (Z 1).d) (qxj Z) 64/\(∀ j,j < 8->qa (Z 1001).d j = if j < (Z 1007).i.toNat then ofW (toW (qa (Z 0).d j) + toW (qa (Z 1009).d j)) else qa (Z 0).d j)),mu:=(fun Z=>(8 - (Z 1007).i).toNat) }
def qjn (l:Nat):Nat:=64 - (l + 8) % 64 - 1
def qrQ:Ctr:={ fn := 117,nv:=7,ip:=[(54,2)],args:=[bS 0,.agg (qN .u32 5 64),.agg (qN .u32 6 8)],heap:=[],ro:=[qwz 0],pre:=fun Z=>(Z 1).i = (Z 3).d.length/\(Z 1).i <= 1000000000000/\qk (Z 3).d/\qsK (Z 5).d/\qd9 (Z 6).d,alts:=[
 { k:=1,ret:=dgV 7,heap:=[],post:=fun Z=>qf (Z 7).d 32 = q9q (kW (Z 5).d) (qbi (qf (Z 6).d 8)) (bI (Z 3).d) }] }
def qts:List (Nat × SV):=[(4,qsy 1000),(5,w8A 1002),(6,dgP 1004),(7,.one (.vslice 1005 (.lit 0) (.var 1006) (.var 1007) 1))]
def qyr:List SH:=[wHp 1000 1001,qp8 1002 1003,dgZ 1004,bHp 1005 1008 1007]
def qqQ (Z:Env):Prop:=(∀ j,j < 64->qa (Z 1001).d j = qa (Z 5).d j)/\qG (Z 1001).d 64/\qG (Z 1003).d 8/\(Z 1006).i = (Z 1008).d.length/\qk (Z 1008).d
def qAW:Inv:={ key:=2,nv:=9,env:=qts ++ [(0,bS 0)],heap:=qyr,inv:=(fun Z=>qqQ Z/\(∀ j,j < 8->qa (Z 1003).d j = qa (Z 6).d j)/\∃ z:Nat,z <= qjn (Z 3).d.length/\bI (Z 1008).d = bI (Z 3).d ++ 128 :: List.replicate z 0),mu:=(fun Z=>((Z 3).d.length + 1 + qjn (Z 3).d.length - (Z 1006).i).toNat) }
def qBl:Inv:={ key:=6,nv:=11,env:=qts ++ [(0,bS 0),(8,.one (.vint .u64 (.var 1010))),(9,iv .i64 (.var 1009))],heap:=qyr,inv:=(fun Z=>qqQ Z/\(∀ j,j < 8->qa (Z 1003).d j = qa (Z 6).d j)/\-1 <= (Z 1009).i/\(Z 1009).i <= 7/\(Z 1010).i = (Z 1).i * 8/\bI (Z 1008).d = bI (Z 3).d ++ 128 :: (List.replicate (qjn (Z 3).d.length) 0 ++ (beL ((Z 1).i * 8) 8).take (7 - (Z 1009).i).toNat)),mu:=(fun Z=>((Z 1009).i + 1).toNat) }
def qBk:Inv:={ key:=10,nv:=10,env:=qts ++ [(10,iv .i64 (.var 1009))],heap:=qyr,inv:=(fun Z=>qqQ Z/\qd9 (Z 1003).d/\bI (Z 1008).d = qd4 (bI (Z 3).d)/\∃ n:Nat,(Z 1009).i = 64 * n/\64 * n <= (Z 1008).d.length/\qbi (qf (Z 1003).d 8) = qgM (kW (Z 5).d) (qbi (qf (Z 6).d 8)) (qd4 (bI (Z 3).d)) n),mu:=(fun Z=>((Z 1008).d.length - (Z 1009).i).toNat) }
def qAQ:Inv:={ key:=15,nv:=8,env:=[(5,w8A 1002),(6,dgP 1004),(11,dgP 1005),(12,iv .i64 (.var 1007))],heap:=[qp8 1002 1003,dgZ 1004,q9m 1005 1006],inv:=(fun Z=>qG (Z 1003).d 8/\qd9 (Z 1003).d/\qbi (qf (Z 1003).d 8) = qgM (kW (Z 5).d) (qbi (qf (Z 6).d 8)) (qd4 (bI (Z 3).d)) ((qd4 (bI (Z 3).d)).length / 64)/\qG (Z 1006).d 32/\0 <= (Z 1007).i/\(Z 1007).i <= 32/\∀ j,j < (Z 1007).i.toNat->qa (Z 1006).d j = (qeo (qbi (qf (Z 1003).d 8))).getD j 0),mu:=(fun Z=>(32 - (Z 1007).i).toNat) }
def gS:Nat := 0
def gIs (r:Nat):Nat × Nat:=(2000 + gS,r)
def qdX:Ctr:={ fn := 79,nv:=7,ip:=[gIs 5],args:=[bS 0],heap:=[],ro:=[qwz 0,gHp 5 6],pre:=fun Z=>(Z 1).i = (Z 3).d.length/\(Z 1).i <= 1000000000000/\qk (Z 3).d/\gOk Z 5 6 gS,alts:=[
 { k:=1,ret:=dgV 7,heap:=[],post:=fun Z=>qf (Z 7).d 32 = sha (bI (Z 3).d) }] }
end Go.Eng
namespace Go.Proofs
open Go Go.Eng
@[simp] def qua:T:=.arith .add .u32 (.arith .add .u32 (.arith .add .u32 (.arith .add .u32 (.icell (tv 30) (tl 0) 7) (.arith .xor .u32 (.arith .xor .u32 (tv 31) (tv 32)) (tv 33))) (.arith .xor .u32 (.arith .and .u32 (.icell (tv 30) (tl 0) 4) (.icell (tv 30) (tl 0) 5)) (.arith .and .u32 (.arith .xor .u32 (tl 4294967295) (.icell (tv 30) (tl 0) 4)) (.icell (tv 30) (tl 0) 6)))) (.c2 (.xint 0) (tv 24) (tv 28))) (.c2 (.xint 0) (tv 27) (tv 28))
def q1A:Out:=(fr 8 4 (.inv 0 12 (sg 1000 [bt 1006 (rr 64 (tw (tl 0)) .rnil),bt 1003 (.rcons (tw (.c2 (.xint 0) (tv 1) (tl 0))) (.rcons (tw (.c2 (.xint 1) (tv 1) (tl 0))) (.rcons (tw (.c2 (.xint 2) (tv 1) (tl 0))) (.rcons (tw (.c2 (.xint 3) (tv 1) (tl 0))) (.rcons (tw (.c2 (.xint 4) (tv 1) (tl 0))) (.rcons (tw (.c2 (.xint 5) (tv 1) (tl 0))) (.rcons (tw (.c2 (.xint 6) (tv 1) (tl 0))) (.rcons (tw (.c2 (.xint 7) (tv 1) (tl 0))) (.rcons (tw (.c2 (.xint 8) (tv 1) (tl 0))) (.rcons (tw (.c2 (.xint 9) (tv 1) (tl 0))) (.rcons (tw (.c2 (.xint 10) (tv 1) (tl 0))) (.rcons (tw (.c2 (.xint 11) (tv 1) (tl 0))) (.rcons (tw (.c2 (.xint 12) (tv 1) (tl 0))) (.rcons (tw (.c2 (.xint 13) (tv 1) (tl 0))) (.rcons (tw (.c2 (.xint 14) (tv 1) (tl 0))) (.rcons (tw (.c2 (.xint 15) (tv 1) (tl 0))) (.rcons (tw (.c2 (.xint 16) (tv 1) (tl 0))) (.rcons (tw (.c2 (.xint 17) (tv 1) (tl 0))) (.rcons (tw (.c2 (.xint 18) (tv 1) (tl 0))) (.rcons (tw (.c2 (.xint 19) (tv 1) (tl 0))) (.rcons (tw (.c2 (.xint 20) (tv 1) (tl 0))) (.rcons (tw (.c2 (.xint 21) (tv 1) (tl 0))) (.rcons (tw (.c2 (.xint 22) (tv 1) (tl 0))) (.rcons (tw (.c2 (.xint 23) (tv 1) (tl 0))) (.rcons (tw (.c2 (.xint 24) (tv 1) (tl 0))) (.rcons (tw (.c2 (.xint 25) (tv 1) (tl 0))) (.rcons (tw (.c2 (.xint 26) (tv 1) (tl 0))) (.rcons (tw (.c2 (.xint 27) (tv 1) (tl 0))) (.rcons (tw (.c2 (.xint 28) (tv 1) (tl 0))) (.rcons (tw (.c2 (.xint 29) (tv 1) (tl 0))) (.rcons (tw (.c2 (.xint 30) (tv 1) (tl 0))) (.rcons (tw (.c2 (.xint 31) (tv 1) (tl 0))) (.rcons (tw (.c2 (.xint 32) (tv 1) (tl 0))) (.rcons (tw (.c2 (.xint 33) (tv 1) (tl 0))) (.rcons (tw (.c2 (.xint 34) (tv 1) (tl 0))) (.rcons (tw (.c2 (.xint 35) (tv 1) (tl 0))) (.rcons (tw (.c2 (.xint 36) (tv 1) (tl 0))) (.rcons (tw (.c2 (.xint 37) (tv 1) (tl 0))) (.rcons (tw (.c2 (.xint 38) (tv 1) (tl 0))) (.rcons (tw (.c2 (.xint 39) (tv 1) (tl 0))) (.rcons (tw (.c2 (.xint 40) (tv 1) (tl 0))) (.rcons (tw (.c2 (.xint 41) (tv 1) (tl 0))) (.rcons (tw (.c2 (.xint 42) (tv 1) (tl 0))) (.rcons (tw (.c2 (.xint 43) (tv 1) (tl 0))) (.rcons (tw (.c2 (.xint 44) (tv 1) (tl 0))) (.rcons (tw (.c2 (.xint 45) (tv 1) (tl 0))) (.rcons (tw (.c2 (.xint 46) (tv 1) (tl 0))) (.rcons (tw (.c2 (.xint 47) (tv 1) (tl 0))) (.rcons (tw (.c2 (.xint 48) (tv 1) (tl 0))) (.rcons (tw (.c2 (.xint 49) (tv 1) (tl 0))) (.rcons (tw (.c2 (.xint 50) (tv 1) (tl 0))) (.rcons (tw (.c2 (.xint 51) (tv 1) (tl 0))) (.rcons (tw (.c2 (.xint 52) (tv 1) (tl 0))) (.rcons (tw (.c2 (.xint 53) (tv 1) (tl 0))) (.rcons (tw (.c2 (.xint 54) (tv 1) (tl 0))) (.rcons (tw (.c2 (.xint 55) (tv 1) (tl 0))) (.rcons (tw (.c2 (.xint 56) (tv 1) (tl 0))) (.rcons (tw (.c2 (.xint 57) (tv 1) (tl 0))) (.rcons (tw (.c2 (.xint 58) (tv 1) (tl 0))) (.rcons (tw (.c2 (.xint 59) (tv 1) (tl 0))) (.rcons (tw (.c2 (.xint 60) (tv 1) (tl 0))) (.rcons (tw (.c2 (.xint 61) (tv 1) (tl 0))) (.rcons (tw (.c2 (.xint 62) (tv 1) (tl 0))) (.rcons (tw (.c2 (.xint 63) (tv 1) (tl 0))) .rnil)))))))))))))))))))))))))))))))))))))))))))))))))))))))))))))))),bt 1001 (.rcons (tw (.c2 (.xint 0) (tv 0) (tl 0))) (.rcons (tw (.c2 (.xint 1) (tv 0) (tl 0))) (.rcons (tw (.c2 (.xint 2) (tv 0) (tl 0))) (.rcons (tw (.c2 (.xint 3) (tv 0) (tl 0))) (.rcons (tw (.c2 (.xint 4) (tv 0) (tl 0))) (.rcons (tw (.c2 (.xint 5) (tv 0) (tl 0))) (.rcons (tw (.c2 (.xint 6) (tv 0) (tl 0))) (.rcons (tw (.c2 (.xint 7) (tv 0) (tl 0))) .rnil)))))))),bt 1007 (tl 0),bg 1005 11,bg 1004 10,bg 1002 9,bg 1000 8]) (fr 12 8 (.hyp 0 12 (.br (.cmp .lss (tv 19) (tl 64))
 (.br (.cmp .lss (tv 19) (tl 16))
 (tn (tl 0) (.arith .mul .i64 (tl 4) (tv 19)) (ts (.arith .mul .i64 (tl 4) (tv 19)) (tv 4) (tn (tl 0) (tv 3) (tn (tl 0) (.plus (tv 3) (.arith .mul .i64 (tl 4) (tv 19))) (ts (.plus (tv 3) (.arith .mul .i64 (tl 4) (tv 19))) (.dlen (tv 6)) (tn (tl 0) (.arith .add .i64 (.arith .mul .i64 (tl 4) (tv 19)) (tl 1)) (ts (.arith .add .i64 (.arith .mul .i64 (tl 4) (tv 19)) (tl 1)) (tv 4) (tn (tl 0) (.plus (tv 3) (.arith .add .i64 (.arith .mul .i64 (tl 4) (tv 19)) (tl 1))) (ts (.plus (tv 3) (.arith .add .i64 (.arith .mul .i64 (tl 4) (tv 19)) (tl 1))) (.dlen (tv 6)) (tn (tl 0) (.arith .add .i64 (.arith .mul .i64 (tl 4) (tv 19)) (tl 2)) (ts (.arith .add .i64 (.arith .mul .i64 (tl 4) (tv 19)) (tl 2)) (tv 4) (tn (tl 0) (.plus (tv 3) (.arith .add .i64 (.arith .mul .i64 (tl 4) (tv 19)) (tl 2))) (ts (.plus (tv 3) (.arith .add .i64 (.arith .mul .i64 (tl 4) (tv 19)) (tl 2))) (.dlen (tv 6)) (tn (tl 0) (.arith .add .i64 (.arith .mul .i64 (tl 4) (tv 19)) (tl 3)) (ts (.arith .add .i64 (.arith .mul .i64 (tl 4) (tv 19)) (tl 3)) (tv 4) (tn (tl 0) (.plus (tv 3) (.arith .add .i64 (.arith .mul .i64 (tl 4) (tv 19)) (tl 3))) (ts (.plus (tv 3) (.arith .add .i64 (.arith .mul .i64 (tl 4) (tv 19)) (tl 3))) (.dlen (tv 6)) (tn (tl 0) (tv 19) (ts (tl 0) (.dlen (tv 18)) (tb (.back 0 12 (sg 1000 [bt 1006 (.c3 (.xput 0) (tv 18) (tv 19) (tw (.arith .or .u32 (.arith .or .u32 (.arith .or .u32 (.arith .shl .u32 (.conv .u32 (.icell (tv 6) (.plus (tv 3) (.arith .mul .i64 (tl 4) (tv 19))) 0)) (tl 24)) (.arith .shl .u32 (.conv .u32 (.icell (tv 6) (.plus (tv 3) (.arith .add .i64 (.arith .mul .i64 (tl 4) (tv 19)) (tl 1))) 0)) (tl 16))) (.arith .shl .u32 (.conv .u32 (.icell (tv 6) (.plus (tv 3) (.arith .add .i64 (.arith .mul .i64 (tl 4) (tv 19)) (tl 2))) 0)) (tl 8))) (.conv .u32 (.icell (tv 6) (.plus (tv 3) (.arith .add .i64 (.arith .mul .i64 (tl 4) (tv 19)) (tl 3))) 0))))),bv 1003 15,bv 1001 13,bt 1007 (.arith .add .i64 (tv 19) (tl 1)),bg 1005 17,bg 1004 16,bg 1002 14,bg 1000 12]))))))))))))))))))))))
 (tn (tl 0) (.arith .sub .i64 (tv 19) (tl 15)) (ts (.arith .sub .i64 (tv 19) (tl 15)) (tl 64) (ts (tl 0) (.dlen (tv 18)) (tb (.pre 0 (sg 0 [bt 1 (tl 7),bt 0 (.c2 (.xint 0) (tv 18) (.arith .sub .i64 (tv 19) (tl 15)))]) (tb (.fresh 20 (.post 0 0 (sg 0 [bt 1 (tl 7),bt 0 (.c2 (.xint 0) (tv 18) (.arith .sub .i64 (tv 19) (tl 15)))]) 20 (tb (.pre 0 (sg 0 [bt 1 (tl 18),bt 0 (.c2 (.xint 0) (tv 18) (.arith .sub .i64 (tv 19) (tl 15)))]) (tb (.fresh 21 (.post 0 0 (sg 0 [bt 1 (tl 18),bt 0 (.c2 (.xint 0) (tv 18) (.arith .sub .i64 (tv 19) (tl 15)))]) 21 (tn (tl 0) (.arith .sub .i64 (tv 19) (tl 2)) (ts (.arith .sub .i64 (tv 19) (tl 2)) (tl 64) (tb (.pre 0 (sg 0 [bt 1 (tl 17),bt 0 (.c2 (.xint 0) (tv 18) (.arith .sub .i64 (tv 19) (tl 2)))]) (tb (.fresh 22 (.post 0 0 (sg 0 [bt 1 (tl 17),bt 0 (.c2 (.xint 0) (tv 18) (.arith .sub .i64 (tv 19) (tl 2)))]) 22 (tb (.pre 0 (sg 0 [bt 1 (tl 19),bt 0 (.c2 (.xint 0) (tv 18) (.arith .sub .i64 (tv 19) (tl 2)))]) (tb (.fresh 23 (.post 0 0 (sg 0 [bt 1 (tl 19),bt 0 (.c2 (.xint 0) (tv 18) (.arith .sub .i64 (tv 19) (tl 2)))]) 23 (tn (tl 0) (.arith .sub .i64 (tv 19) (tl 7)) (ts (.arith .sub .i64 (tv 19) (tl 7)) (tl 64) (tn (tl 0) (.arith .sub .i64 (tv 19) (tl 16)) (ts (.arith .sub .i64 (tv 19) (tl 16)) (tl 64) (tn (tl 0) (tv 19) (tb (.back 0 12 (sg 1000 [bt 1006 (.c3 (.xput 0) (tv 18) (tv 19) (tw (.arith .add .u32 (.arith .add .u32 (.arith .add .u32 (.arith .xor .u32 (.arith .xor .u32 (tv 22) (tv 23)) (.arith .shr .u32 (.c2 (.xint 0) (tv 18) (.arith .sub .i64 (tv 19) (tl 2))) (tl 10))) (.c2 (.xint 0) (tv 18) (.arith .sub .i64 (tv 19) (tl 7)))) (.arith .xor .u32 (.arith .xor .u32 (tv 20) (tv 21)) (.arith .shr .u32 (.c2 (.xint 0) (tv 18) (.arith .sub .i64 (tv 19) (tl 15))) (tl 3)))) (.c2 (.xint 0) (tv 18) (.arith .sub .i64 (tv 19) (tl 16)))))),bv 1003 15,bv 1001 13,bt 1007 (.arith .add .i64 (tv 19) (tl 1)),bg 1005 17,bg 1004 16,bg 1002 14,bg 1000 12]))))))))))))))))))))))))))))))))))
 (ts (tl 0) (.dlen (tv 13)) (.fresh 20 (.inv 1 21 (sg 1000 [bt 1009 (.rcons (tw (.icell (tv 13) (tl 0) 0)) (.rcons (tw (.icell (tv 13) (tl 0) 1)) (.rcons (tw (.icell (tv 13) (tl 0) 2)) (.rcons (tw (.icell (tv 13) (tl 0) 3)) (.rcons (tw (.icell (tv 13) (tl 0) 4)) (.rcons (tw (.icell (tv 13) (tl 0) 5)) (.rcons (tw (.icell (tv 13) (tl 0) 6)) (.rcons (tw (.icell (tv 13) (tl 0) 7)) .rnil)))))))),bv 1006 18,bv 1003 15,bv 1001 13,bt 1007 (tl 0),bg 1008 20,bg 1005 17,bg 1004 16,bg 1002 14,bg 1000 12]) (fr 21 10 (.hyp 1 21 (.br (.cmp .lss (tv 28) (tl 64))
 (ts (tl 0) (.dlen (tv 30)) (tn (tl 0) (tv 28) (ts (tl 0) (.dlen (tv 24)) (ts (tl 0) (.dlen (tv 27)) (tb (.pre 0 (sg 0 [bt 1 (tl 6),bt 0 (.icell (tv 30) (tl 0) 4)]) (tb (.fresh 31 (.post 0 0 (sg 0 [bt 1 (tl 6),bt 0 (.icell (tv 30) (tl 0) 4)]) 31 (tb (.pre 0 (sg 0 [bt 1 (tl 11),bt 0 (.icell (tv 30) (tl 0) 4)]) (tb (.fresh 32 (.post 0 0 (sg 0 [bt 1 (tl 11),bt 0 (.icell (tv 30) (tl 0) 4)]) 32 (tb (.pre 0 (sg 0 [bt 1 (tl 25),bt 0 (.icell (tv 30) (tl 0) 4)]) (tb (.fresh 33 (.post 0 0 (sg 0 [bt 1 (tl 25),bt 0 (.icell (tv 30) (tl 0) 4)]) 33 (.pre 0 (sg 0 [bt 1 (tl 2),bt 0 (.icell (tv 30) (tl 0) 0)]) (tb (.fresh 34 (.post 0 0 (sg 0 [bt 1 (tl 2),bt 0 (.icell (tv 30) (tl 0) 0)]) 34 (.pre 0 (sg 0 [bt 1 (tl 13),bt 0 (.icell (tv 30) (tl 0) 0)]) (tb (.fresh 35 (.post 0 0 (sg 0 [bt 1 (tl 13),bt 0 (.icell (tv 30) (tl 0) 0)]) 35 (.pre 0 (sg 0 [bt 1 (tl 22),bt 0 (.icell (tv 30) (tl 0) 0)]) (tb (.fresh 36 (.post 0 0 (sg 0 [bt 1 (tl 22),bt 0 (.icell (tv 30) (tl 0) 0)]) 36 (.back 1 21 (sg 1000 [bt 1009 (.dput (tv 30) (tl 0) 0 (.rcons (tw (.arith .add .u32 qua (.arith .add .u32 (.arith .xor .u32 (.arith .xor .u32 (tv 34) (tv 35)) (tv 36)) (.arith .xor .u32 (.arith .xor .u32 (.arith .and .u32 (.icell (tv 30) (tl 0) 0) (.icell (tv 30) (tl 0) 1)) (.arith .and .u32 (.icell (tv 30) (tl 0) 0) (.icell (tv 30) (tl 0) 2))) (.arith .and .u32 (.icell (tv 30) (tl 0) 1) (.icell (tv 30) (tl 0) 2)))))) (.rcons (tw (.icell (tv 30) (tl 0) 0)) (.rcons (tw (.icell (tv 30) (tl 0) 1)) (.rcons (tw (.icell (tv 30) (tl 0) 2)) (.rcons (tw (.arith .add .u32 (.icell (tv 30) (tl 0) 3) qua)) (.rcons (tw (.icell (tv 30) (tl 0) 4)) (.rcons (tw (.icell (tv 30) (tl 0) 5)) (.rcons (tw (.icell (tv 30) (tl 0) 6)) .rnil))))))))),bv 1006 27,bv 1003 24,bv 1001 22,bt 1007 (.arith .add .i64 (tv 28) (tl 1)),bg 1008 29,bg 1005 26,bg 1004 25,bg 1002 23,bg 1000 21])))))))))))))))))))))))))))))))))
 (.inv 2 31 (sg 1000 [bv 1009 30,bv 1001 22,bt 1007 (tl 0),bg 1008 29,bg 1004 25,bg 1000 21]) (fr 31 10 (.hyp 2 31 (.br (.cmp .lss (tv 38) (tl 8))
 (tn (tl 0) (tv 38) (ts (tl 0) (.dlen (tv 32)) (ts (tl 0) (.dlen (tv 40)) (tb (.back 2 31 (sg 1000 [bv 1009 40,bt 1001 (.c3 (.xput 0) (tv 32) (tv 38) (tw (.arith .add .u32 (.c2 (.xint 0) (tv 32) (tv 38)) (.c2 (.xint 0) (tv 40) (tv 38))))),bt 1007 (.arith .add .i64 (tv 38) (tl 1)),bg 1008 39,bg 1004 35,bg 1000 31]))))))
 (ts (tl 0) (.dlen (tv 32)) (.ret 0 (sg 8 [bt 8 (.rcons (tw (.icell (tv 32) (tl 0) 0)) (.rcons (tw (.icell (tv 32) (tl 0) 1)) (.rcons (tw (.icell (tv 32) (tl 0) 2)) (.rcons (tw (.icell (tv 32) (tl 0) 3)) (.rcons (tw (.icell (tv 32) (tl 0) 4)) (.rcons (tw (.icell (tv 32) (tl 0) 5)) (.rcons (tw (.icell (tv 32) (tl 0) 6)) (.rcons (tw (.icell (tv 32) (tl 0) 7)) .rnil))))))))]))))))))))))))))))
theorem qAa:qj Tryz.prog qnO [qq2] [q5U,q5S,q69] q1A:=qg Tryz.func138 Tryz.call138 (by kernel_rfl)
@[simp] def qwA:Sg:=sg 0 [bv 7 43,bv 6 44,bt 5 (.minus (tv 43) (tv 45)),bt 4 (.minus (.arith .add .i64 (tv 45) (tl 64)) (tv 45)),bt 3 (.ife (tv 43) (tv 45) (tl 0) (tv 45)),bg 2 41,bt 1 (.rcons (tw (.icell (tv 37) (tl 0) 0)) (.rcons (tw (.icell (tv 37) (tl 0) 1)) (.rcons (tw (.icell (tv 37) (tl 0) 2)) (.rcons (tw (.icell (tv 37) (tl 0) 3)) (.rcons (tw (.icell (tv 37) (tl 0) 4)) (.rcons (tw (.icell (tv 37) (tl 0) 5)) (.rcons (tw (.icell (tv 37) (tl 0) 6)) (.rcons (tw (.icell (tv 37) (tl 0) 7)) (.rcons (tw (.icell (tv 37) (tl 0) 8)) (.rcons (tw (.icell (tv 37) (tl 0) 9)) (.rcons (tw (.icell (tv 37) (tl 0) 10)) (.rcons (tw (.icell (tv 37) (tl 0) 11)) (.rcons (tw (.icell (tv 37) (tl 0) 12)) (.rcons (tw (.icell (tv 37) (tl 0) 13)) (.rcons (tw (.icell (tv 37) (tl 0) 14)) (.rcons (tw (.icell (tv 37) (tl 0) 15)) (.rcons (tw (.icell (tv 37) (tl 0) 16)) (.rcons (tw (.icell (tv 37) (tl 0) 17)) (.rcons (tw (.icell (tv 37) (tl 0) 18)) (.rcons (tw (.icell (tv 37) (tl 0) 19)) (.rcons (tw (.icell (tv 37) (tl 0) 20)) (.rcons (tw (.icell (tv 37) (tl 0) 21)) (.rcons (tw (.icell (tv 37) (tl 0) 22)) (.rcons (tw (.icell (tv 37) (tl 0) 23)) (.rcons (tw (.icell (tv 37) (tl 0) 24)) (.rcons (tw (.icell (tv 37) (tl 0) 25)) (.rcons (tw (.icell (tv 37) (tl 0) 26)) (.rcons (tw (.icell (tv 37) (tl 0) 27)) (.rcons (tw (.icell (tv 37) (tl 0) 28)) (.rcons (tw (.icell (tv 37) (tl 0) 29)) (.rcons (tw (.icell (tv 37) (tl 0) 30)) (.rcons (tw (.icell (tv 37) (tl 0) 31)) (.rcons (tw (.icell (tv 37) (tl 0) 32)) (.rcons (tw (.icell (tv 37) (tl 0) 33)) (.rcons (tw (.icell (tv 37) (tl 0) 34)) (.rcons (tw (.icell (tv 37) (tl 0) 35)) (.rcons (tw (.icell (tv 37) (tl 0) 36)) (.rcons (tw (.icell (tv 37) (tl 0) 37)) (.rcons (tw (.icell (tv 37) (tl 0) 38)) (.rcons (tw (.icell (tv 37) (tl 0) 39)) (.rcons (tw (.icell (tv 37) (tl 0) 40)) (.rcons (tw (.icell (tv 37) (tl 0) 41)) (.rcons (tw (.icell (tv 37) (tl 0) 42)) (.rcons (tw (.icell (tv 37) (tl 0) 43)) (.rcons (tw (.icell (tv 37) (tl 0) 44)) (.rcons (tw (.icell (tv 37) (tl 0) 45)) (.rcons (tw (.icell (tv 37) (tl 0) 46)) (.rcons (tw (.icell (tv 37) (tl 0) 47)) (.rcons (tw (.icell (tv 37) (tl 0) 48)) (.rcons (tw (.icell (tv 37) (tl 0) 49)) (.rcons (tw (.icell (tv 37) (tl 0) 50)) (.rcons (tw (.icell (tv 37) (tl 0) 51)) (.rcons (tw (.icell (tv 37) (tl 0) 52)) (.rcons (tw (.icell (tv 37) (tl 0) 53)) (.rcons (tw (.icell (tv 37) (tl 0) 54)) (.rcons (tw (.icell (tv 37) (tl 0) 55)) (.rcons (tw (.icell (tv 37) (tl 0) 56)) (.rcons (tw (.icell (tv 37) (tl 0) 57)) (.rcons (tw (.icell (tv 37) (tl 0) 58)) (.rcons (tw (.icell (tv 37) (tl 0) 59)) (.rcons (tw (.icell (tv 37) (tl 0) 60)) (.rcons (tw (.icell (tv 37) (tl 0) 61)) (.rcons (tw (.icell (tv 37) (tl 0) 62)) (.rcons (tw (.icell (tv 37) (tl 0) 63)) .rnil)))))))))))))))))))))))))))))))))))))))))))))))))))))))))))))))),bt 0 (.rcons (tw (.icell (tv 39) (tl 0) 0)) (.rcons (tw (.icell (tv 39) (tl 0) 1)) (.rcons (tw (.icell (tv 39) (tl 0) 2)) (.rcons (tw (.icell (tv 39) (tl 0) 3)) (.rcons (tw (.icell (tv 39) (tl 0) 4)) (.rcons (tw (.icell (tv 39) (tl 0) 5)) (.rcons (tw (.icell (tv 39) (tl 0) 6)) (.rcons (tw (.icell (tv 39) (tl 0) 7)) .rnil))))))))]
def q64:Out:=(fr 7 4 (tn (tl 0) (tv 1) (tn (tv 1) (.dlen (tv 3)) (tn (.tims (tl 1) (tv 1)) (tl 140737488355328) (fr 11 3 (.need (.cmp .eql (tv 1) (.dlen (.dtake (tv 3) (tv 1)))) (tn (.tims (tl 1) (.plus (tv 1) (tl 1))) (tl 140737488355328) (fr 14 2 (.inv 0 16 (sg 1000 [bt 1008 (.dapp (.dtake (tv 3) (tv 1)) (.rcons (tu (tl 128)) .rnil)),bt 1003 (.rcons (tw (.c2 (.xint 0) (tv 6) (tl 0))) (.rcons (tw (.c2 (.xint 1) (tv 6) (tl 0))) (.rcons (tw (.c2 (.xint 2) (tv 6) (tl 0))) (.rcons (tw (.c2 (.xint 3) (tv 6) (tl 0))) (.rcons (tw (.c2 (.xint 4) (tv 6) (tl 0))) (.rcons (tw (.c2 (.xint 5) (tv 6) (tl 0))) (.rcons (tw (.c2 (.xint 6) (tv 6) (tl 0))) (.rcons (tw (.c2 (.xint 7) (tv 6) (tl 0))) .rnil)))))))),bt 1001 (.rcons (tw (.c2 (.xint 0) (tv 5) (tl 0))) (.rcons (tw (.c2 (.xint 1) (tv 5) (tl 0))) (.rcons (tw (.c2 (.xint 2) (tv 5) (tl 0))) (.rcons (tw (.c2 (.xint 3) (tv 5) (tl 0))) (.rcons (tw (.c2 (.xint 4) (tv 5) (tl 0))) (.rcons (tw (.c2 (.xint 5) (tv 5) (tl 0))) (.rcons (tw (.c2 (.xint 6) (tv 5) (tl 0))) (.rcons (tw (.c2 (.xint 7) (tv 5) (tl 0))) (.rcons (tw (.c2 (.xint 8) (tv 5) (tl 0))) (.rcons (tw (.c2 (.xint 9) (tv 5) (tl 0))) (.rcons (tw (.c2 (.xint 10) (tv 5) (tl 0))) (.rcons (tw (.c2 (.xint 11) (tv 5) (tl 0))) (.rcons (tw (.c2 (.xint 12) (tv 5) (tl 0))) (.rcons (tw (.c2 (.xint 13) (tv 5) (tl 0))) (.rcons (tw (.c2 (.xint 14) (tv 5) (tl 0))) (.rcons (tw (.c2 (.xint 15) (tv 5) (tl 0))) (.rcons (tw (.c2 (.xint 16) (tv 5) (tl 0))) (.rcons (tw (.c2 (.xint 17) (tv 5) (tl 0))) (.rcons (tw (.c2 (.xint 18) (tv 5) (tl 0))) (.rcons (tw (.c2 (.xint 19) (tv 5) (tl 0))) (.rcons (tw (.c2 (.xint 20) (tv 5) (tl 0))) (.rcons (tw (.c2 (.xint 21) (tv 5) (tl 0))) (.rcons (tw (.c2 (.xint 22) (tv 5) (tl 0))) (.rcons (tw (.c2 (.xint 23) (tv 5) (tl 0))) (.rcons (tw (.c2 (.xint 24) (tv 5) (tl 0))) (.rcons (tw (.c2 (.xint 25) (tv 5) (tl 0))) (.rcons (tw (.c2 (.xint 26) (tv 5) (tl 0))) (.rcons (tw (.c2 (.xint 27) (tv 5) (tl 0))) (.rcons (tw (.c2 (.xint 28) (tv 5) (tl 0))) (.rcons (tw (.c2 (.xint 29) (tv 5) (tl 0))) (.rcons (tw (.c2 (.xint 30) (tv 5) (tl 0))) (.rcons (tw (.c2 (.xint 31) (tv 5) (tl 0))) (.rcons (tw (.c2 (.xint 32) (tv 5) (tl 0))) (.rcons (tw (.c2 (.xint 33) (tv 5) (tl 0))) (.rcons (tw (.c2 (.xint 34) (tv 5) (tl 0))) (.rcons (tw (.c2 (.xint 35) (tv 5) (tl 0))) (.rcons (tw (.c2 (.xint 36) (tv 5) (tl 0))) (.rcons (tw (.c2 (.xint 37) (tv 5) (tl 0))) (.rcons (tw (.c2 (.xint 38) (tv 5) (tl 0))) (.rcons (tw (.c2 (.xint 39) (tv 5) (tl 0))) (.rcons (tw (.c2 (.xint 40) (tv 5) (tl 0))) (.rcons (tw (.c2 (.xint 41) (tv 5) (tl 0))) (.rcons (tw (.c2 (.xint 42) (tv 5) (tl 0))) (.rcons (tw (.c2 (.xint 43) (tv 5) (tl 0))) (.rcons (tw (.c2 (.xint 44) (tv 5) (tl 0))) (.rcons (tw (.c2 (.xint 45) (tv 5) (tl 0))) (.rcons (tw (.c2 (.xint 46) (tv 5) (tl 0))) (.rcons (tw (.c2 (.xint 47) (tv 5) (tl 0))) (.rcons (tw (.c2 (.xint 48) (tv 5) (tl 0))) (.rcons (tw (.c2 (.xint 49) (tv 5) (tl 0))) (.rcons (tw (.c2 (.xint 50) (tv 5) (tl 0))) (.rcons (tw (.c2 (.xint 51) (tv 5) (tl 0))) (.rcons (tw (.c2 (.xint 52) (tv 5) (tl 0))) (.rcons (tw (.c2 (.xint 53) (tv 5) (tl 0))) (.rcons (tw (.c2 (.xint 54) (tv 5) (tl 0))) (.rcons (tw (.c2 (.xint 55) (tv 5) (tl 0))) (.rcons (tw (.c2 (.xint 56) (tv 5) (tl 0))) (.rcons (tw (.c2 (.xint 57) (tv 5) (tl 0))) (.rcons (tw (.c2 (.xint 58) (tv 5) (tl 0))) (.rcons (tw (.c2 (.xint 59) (tv 5) (tl 0))) (.rcons (tw (.c2 (.xint 60) (tv 5) (tl 0))) (.rcons (tw (.c2 (.xint 61) (tv 5) (tl 0))) (.rcons (tw (.c2 (.xint 62) (tv 5) (tl 0))) (.rcons (tw (.c2 (.xint 63) (tv 5) (tl 0))) .rnil)))))))))))))))))))))))))))))))))))))))))))))))))))))))))))))))),bv 1007 15,bt 1006 (.plus (tv 1) (tl 1)),bg 1005 14,bg 1004 9,bg 1002 8,bg 1000 7]) (fr 16 9 (.hyp 0 16 (tn (tl 0) (tv 22) (.br (.cmp .neq (.arith .rem .i64 (tv 22) (tl 64)) (tl 56))
 (.fresh 25 (.need (.cmp .eql (tv 22) (.dlen (tv 24))) (tn (.tims (tl 1) (.plus (tv 22) (tl 1))) (tl 140737488355328) (fr 26 2 (.back 0 16 (sg 1000 [bt 1008 (.dapp (tv 24) (.rcons o8 .rnil)),bv 1003 19,bv 1001 17,bv 1007 27,bt 1006 (.plus (tv 22) (tl 1)),bg 1005 26,bg 1004 20,bg 1002 18,bg 1000 16]))))))
 (.inv 1 25 (sg 1000 [bv 1008 24,bv 1003 19,bv 1001 17,bt 1009 (tl 7),bt 1010 (.arith .mul .u64 (.conv .u64 (tv 1)) (tl 8)),bv 1007 23,bv 1006 22,bg 1005 21,bg 1004 20,bg 1002 18,bg 1000 16]) (fr 25 11 (.hyp 1 25 (.br (.cmp .geq (tv 34) (tl 0))
 (.need (.cmp .geq (.arith .mul .u64 (tl 8) (.conv .u64 (tv 34))) (tl 0)) (.fresh 36 (.need (.cmp .eql (tv 31) (.dlen (tv 33))) (tn (.tims (tl 1) (.plus (tv 31) (tl 1))) (tl 140737488355328) (fr 37 2 (.back 1 25 (sg 1000 [bt 1008 (.dapp (tv 33) (.rcons (tu (.conv .u8 (.arith .shr .u64 (tv 35) (.arith .mul .u64 (tl 8) (.conv .u64 (tv 34)))))) .rnil)),bv 1003 28,bv 1001 26,bt 1009 (.arith .sub .i64 (tv 34) (tl 1)),bv 1010 35,bv 1007 38,bt 1006 (.plus (tv 31) (tl 1)),bg 1005 37,bg 1004 29,bg 1002 27,bg 1000 25])))))))
 (.inv 2 36 (sg 1000 [bv 1008 33,bv 1003 28,bv 1001 26,bt 1009 (tl 0),bv 1007 32,bv 1006 31,bg 1005 30,bg 1004 29,bg 1002 27,bg 1000 25]) (fr 36 10 (.hyp 2 36 (tn (tl 0) (tv 42) (.br (.cmp .lss (tv 45) (tv 42))
 (ts (tl 0) (.dlen (tv 39)) (ts (tl 0) (.dlen (tv 37)) (.know (.cmp .leq (.dlen (tv 44)) (tv 43)) (tn (tl 0) (tv 43) (tn (tl 0) (tv 45) (tn (tv 45) (.arith .add .i64 (tv 45) (tl 64)) (tn (.arith .add .i64 (tv 45) (tl 64)) (tv 43) (tb (.pre 0 qwA (tb (.fresh 46 (.post 0 0 qwA 46 (tb (.back 2 36 (sg 1000 [bv 1008 44,bt 1003 (.dput (tv 39) (tl 0) 0 (.rcons (tw (.c2 (.xint 0) (tv 46) (tl 0))) (.rcons (tw (.c2 (.xint 1) (tv 46) (tl 0))) (.rcons (tw (.c2 (.xint 2) (tv 46) (tl 0))) (.rcons (tw (.c2 (.xint 3) (tv 46) (tl 0))) (.rcons (tw (.c2 (.xint 4) (tv 46) (tl 0))) (.rcons (tw (.c2 (.xint 5) (tv 46) (tl 0))) (.rcons (tw (.c2 (.xint 6) (tv 46) (tl 0))) (.rcons (tw (.c2 (.xint 7) (tv 46) (tl 0))) .rnil))))))))),bv 1001 37,bt 1009 (.arith .add .i64 (tv 45) (tl 64)),bv 1007 43,bv 1006 42,bg 1005 41,bg 1004 40,bg 1002 38,bg 1000 36])))))))))))))))
 (.fresh 46 (.inv 3 47 (sg 1000 [bt 1006 z8,bv 1003 39,bt 1007 (tl 0),bg 1005 46,bg 1004 40,bg 1002 38]) (fr 47 8 (.hyp 3 47 (.br (.cmp .lss (tv 54) (tl 32))
 (tn (tl 0) (.arith .quo .i64 (tv 54) (tl 4)) (ts (.arith .quo .i64 (tv 54) (tl 4)) (tl 8) (ts (tl 0) (.dlen (tv 50)) (.need (.cmp .geq (.arith .sub .u64 (tl 24) (.arith .mul .u64 (tl 8) (.conv .u64 (.arith .rem .i64 (tv 54) (tl 4))))) (tl 0)) (tn (tl 0) (tv 54) (ts (tl 0) (.dlen (tv 53)) (.back 3 47 (sg 1000 [bt 1006 (.c3 (.xput 0) (tv 53) (tv 54) (tu (.conv .u8 (.arith .shr .u32 (.c2 (.xint 0) (tv 50) (.arith .quo .i64 (tv 54) (tl 4))) (.arith .sub .u64 (tl 24) (.arith .mul .u64 (tl 8) (.conv .u64 (.arith .rem .i64 (tv 54) (tl 4))))))))),bv 1003 50,bt 1007 (.arith .add .i64 (tv 54) (tl 1)),bg 1005 52,bg 1004 51,bg 1002 49]))))))))
 (ts (tl 0) (.dlen (tv 53)) (.ret 0 (sg 7 [bt 7 (.rcons (tu (.icell (tv 53) (tl 0) 0)) (.rcons (tu (.icell (tv 53) (tl 0) 1)) (.rcons (tu (.icell (tv 53) (tl 0) 2)) (.rcons (tu (.icell (tv 53) (tl 0) 3)) (.rcons (tu (.icell (tv 53) (tl 0) 4)) (.rcons (tu (.icell (tv 53) (tl 0) 5)) (.rcons (tu (.icell (tv 53) (tl 0) 6)) (.rcons (tu (.icell (tv 53) (tl 0) 7)) (.rcons (tu (.icell (tv 53) (tl 0) 8)) (.rcons (tu (.icell (tv 53) (tl 0) 9)) (.rcons (tu (.icell (tv 53) (tl 0) 10)) (.rcons (tu (.icell (tv 53) (tl 0) 11)) (.rcons (tu (.icell (tv 53) (tl 0) 12)) (.rcons (tu (.icell (tv 53) (tl 0) 13)) (.rcons (tu (.icell (tv 53) (tl 0) 14)) (.rcons (tu (.icell (tv 53) (tl 0) 15)) (.rcons (tu (.icell (tv 53) (tl 0) 16)) (.rcons (tu (.icell (tv 53) (tl 0) 17)) (.rcons (tu (.icell (tv 53) (tl 0) 18)) (.rcons (tu (.icell (tv 53) (tl 0) 19)) (.rcons (tu (.icell (tv 53) (tl 0) 20)) (.rcons (tu (.icell (tv 53) (tl 0) 21)) (.rcons (tu (.icell (tv 53) (tl 0) 22)) (.rcons (tu (.icell (tv 53) (tl 0) 23)) (.rcons (tu (.icell (tv 53) (tl 0) 24)) (.rcons (tu (.icell (tv 53) (tl 0) 25)) (.rcons (tu (.icell (tv 53) (tl 0) 26)) (.rcons (tu (.icell (tv 53) (tl 0) 27)) (.rcons (tu (.icell (tv 53) (tl 0) 28)) (.rcons (tu (.icell (tv 53) (tl 0) 29)) (.rcons (tu (.icell (tv 53) (tl 0) 30)) (.rcons (tu (.icell (tv 53) (tl 0) 31)) .rnil))))))))))))))))))))))))))))))))]))))))))))))))))))))))))))))))
theorem qCV:qj Tryz.prog qrQ [qnO] [qAW,qBl,qBk,qAQ] q64:=qg Tryz.func117 Tryz.call117 (by kernel_rfl)
@[simp] def qx4:Sg:=sg 0 [bv 4 4,bv 3 3,bt 6 (.rcons (tw (tl 1779033703)) (.rcons (tw (tl 3144134277)) (.rcons (tw (tl 1013904242)) (.rcons (tw (tl 2773480762)) (.rcons (tw (tl 1359893119)) (.rcons (tw (tl 2600822924)) (.rcons (tw (tl 528734635)) (.rcons (tw (tl 1541459225)) .rnil)))))))),bt 5 (.rcons (tw (.icell (tv 6) (tl 0) 0)) (.rcons (tw (.icell (tv 6) (tl 0) 1)) (.rcons (tw (.icell (tv 6) (tl 0) 2)) (.rcons (tw (.icell (tv 6) (tl 0) 3)) (.rcons (tw (.icell (tv 6) (tl 0) 4)) (.rcons (tw (.icell (tv 6) (tl 0) 5)) (.rcons (tw (.icell (tv 6) (tl 0) 6)) (.rcons (tw (.icell (tv 6) (tl 0) 7)) (.rcons (tw (.icell (tv 6) (tl 0) 8)) (.rcons (tw (.icell (tv 6) (tl 0) 9)) (.rcons (tw (.icell (tv 6) (tl 0) 10)) (.rcons (tw (.icell (tv 6) (tl 0) 11)) (.rcons (tw (.icell (tv 6) (tl 0) 12)) (.rcons (tw (.icell (tv 6) (tl 0) 13)) (.rcons (tw (.icell (tv 6) (tl 0) 14)) (.rcons (tw (.icell (tv 6) (tl 0) 15)) (.rcons (tw (.icell (tv 6) (tl 0) 16)) (.rcons (tw (.icell (tv 6) (tl 0) 17)) (.rcons (tw (.icell (tv 6) (tl 0) 18)) (.rcons (tw (.icell (tv 6) (tl 0) 19)) (.rcons (tw (.icell (tv 6) (tl 0) 20)) (.rcons (tw (.icell (tv 6) (tl 0) 21)) (.rcons (tw (.icell (tv 6) (tl 0) 22)) (.rcons (tw (.icell (tv 6) (tl 0) 23)) (.rcons (tw (.icell (tv 6) (tl 0) 24)) (.rcons (tw (.icell (tv 6) (tl 0) 25)) (.rcons (tw (.icell (tv 6) (tl 0) 26)) (.rcons (tw (.icell (tv 6) (tl 0) 27)) (.rcons (tw (.icell (tv 6) (tl 0) 28)) (.rcons (tw (.icell (tv 6) (tl 0) 29)) (.rcons (tw (.icell (tv 6) (tl 0) 30)) (.rcons (tw (.icell (tv 6) (tl 0) 31)) (.rcons (tw (.icell (tv 6) (tl 0) 32)) (.rcons (tw (.icell (tv 6) (tl 0) 33)) (.rcons (tw (.icell (tv 6) (tl 0) 34)) (.rcons (tw (.icell (tv 6) (tl 0) 35)) (.rcons (tw (.icell (tv 6) (tl 0) 36)) (.rcons (tw (.icell (tv 6) (tl 0) 37)) (.rcons (tw (.icell (tv 6) (tl 0) 38)) (.rcons (tw (.icell (tv 6) (tl 0) 39)) (.rcons (tw (.icell (tv 6) (tl 0) 40)) (.rcons (tw (.icell (tv 6) (tl 0) 41)) (.rcons (tw (.icell (tv 6) (tl 0) 42)) (.rcons (tw (.icell (tv 6) (tl 0) 43)) (.rcons (tw (.icell (tv 6) (tl 0) 44)) (.rcons (tw (.icell (tv 6) (tl 0) 45)) (.rcons (tw (.icell (tv 6) (tl 0) 46)) (.rcons (tw (.icell (tv 6) (tl 0) 47)) (.rcons (tw (.icell (tv 6) (tl 0) 48)) (.rcons (tw (.icell (tv 6) (tl 0) 49)) (.rcons (tw (.icell (tv 6) (tl 0) 50)) (.rcons (tw (.icell (tv 6) (tl 0) 51)) (.rcons (tw (.icell (tv 6) (tl 0) 52)) (.rcons (tw (.icell (tv 6) (tl 0) 53)) (.rcons (tw (.icell (tv 6) (tl 0) 54)) (.rcons (tw (.icell (tv 6) (tl 0) 55)) (.rcons (tw (.icell (tv 6) (tl 0) 56)) (.rcons (tw (.icell (tv 6) (tl 0) 57)) (.rcons (tw (.icell (tv 6) (tl 0) 58)) (.rcons (tw (.icell (tv 6) (tl 0) 59)) (.rcons (tw (.icell (tv 6) (tl 0) 60)) (.rcons (tw (.icell (tv 6) (tl 0) 61)) (.rcons (tw (.icell (tv 6) (tl 0) 62)) (.rcons (tw (.icell (tv 6) (tl 0) 63)) .rnil)))))))))))))))))))))))))))))))))))))))))))))))))))))))))))))))),bv 2 2,bv 1 1,bg 0 0]
def q6z:Out:=(.fresh 7 (.need (.c1 (.isg 0) (tv 5)) (ts (tl 0) (.dlen (tv 6)) (.pre 0 qx4 (tb (.fresh 8 (.post 0 0 qx4 8 (.ret 0 (sg 7 [bt 7 (r8 8)])))))))))
theorem qCi:qj Tryz.prog qdX [qrQ] [] q6z:=qg Tryz.func79 Tryz.call79 (by kernel_rfl)
set_option maxRecDepth 20000
theorem qDB {x y:Nat} (h:x * y < 18446744073709551616):qc .mul .u64 (x:Int) (y:Int) = ((x * y:Nat):Int):=by
 show IntKind.u64.wrap ((x:Int) * (y:Int)) = _
 rw [qog,<- jdt]; omega
def qag (f:Nat->Int) (n:Nat):List Value:=(List.range n).map fun j=>.int .u32 (f j)
theorem qcm {f:Nat->Int} {n j:Nat} (h:j < n):qa [qag f n] j = f j:=by
 rw [qud]; simp [qag,h,qX]
theorem qhV {d:qe} {o:Int} {j:Nat} (h0:0 <= o) (hl:o + 64 <= d.length) (hj:j < 64):(qaB d o 64).getD j 0 = qb d (o + j) 0:=by
 have hg:=qcw (d:=d) (i:=o + j) (by omega) (by omega);unfold qaB;rw [jab,jbb,jah (show j < (64:Int).toNat from hj),jbc,show o.toNat + j = (o + j).toNat by omega,hg];rfl
theorem qpo {m:List Int} {o:Nat}:(qa5 m o).length = 16:=by simp [qa5]
theorem qzy {m:List Int} {o t:Nat} (h:t < 16):(qa5 m o).getD t 0 = qk6 m (o + 4 * t):=by
 simp [qa5,jab,h]
theorem qDu {d:qe} {t:Nat} (h:t < 64):(kW d).getD t 0 = toW (qa d t):=by
 simp [kW,qel,qf,jab,h]
theorem qEL {x:Int}:qc .xor .u32 4294967295 x = ofW (~~~ toW x):=by
 rw [qrR];refine congrArg ofW ?_;apply je1;intro j hj;have h1:∀ i:Nat,i < 32->(toW 4294967295).getLsbD i = true:=by decide
 rw [jfo,BitVec.getLsbD_not,h1 j hj];simp [hj]
theorem qnf {d:qe}:qbi (qf d 8) = ⟨toW (qa d 0),toW (qa d 1),toW (qa d 2),toW (qa d 3),toW (qa d 4),toW (qa d 5),toW (qa d 6),toW (qa d 7)⟩:=rfl
theorem q0J {d:qe} {n:Nat} {vs:List Value} (h:qG d n) (hv:vs.length = n):qaQ d 0 0 vs = [vs]:=by
 obtain ⟨row,rfl,hl⟩:=h;simp [qaQ,qas];omega
theorem qwL {d e:List (List Value)} (h:qf d 8 = qf e 8):∀ j,j < 8->qa d j = qa e j:=fun j hj=>by
 have:=qe6 (d:=d) hj;rw [h,qe6 hj] at this;exact this.symm
theorem q7f {d e:List (List Value)} (h:qf d 64 = qf e 64):∀ j,j < 64->qa d j = qa e j:=fun j hj=>by
 have:=qe6 (d:=d) hj;rw [h,qe6 hj] at this;exact this.symm
theorem qqU {f:Nat->Int} {n:Nat}:qG [qag f n] n:=⟨_,rfl,by simp [qag]⟩
theorem qlA {d:qe} {n:Nat}:qf [qag (qa d) n] n = qf d n:=qeC fun j hj=>qcm hj
theorem qfd {d:qe} {n:Nat}:qf [qag (qb d 0) n] n = qf d n:=qeC fun j hj=>(qcm hj).trans qbA
theorem qA2:qnO.ok Tryz.prog:=qAa (by simp [qCo]) fun Z hg hp=>by
 obtain ⟨hw8,hw64,ho,h64,hol,hB⟩:=hp;simp (config:={ maxSteps:=2000000 }) [q1A,qnO,q5U,q5S,q69,qtp,qxj,qq2];have c64:qG [qag (qa (Z 1).d) 64] 64/\qf [qag (qa (Z 1).d) 64] 64 = qf (Z 1).d 64:=⟨qqU,qlA⟩;have c8:qG [qag (qa (Z 0).d) 8] 8/\qf [qag (qa (Z 0).d) 8] 8 = qf (Z 0).d 8:=⟨qqU,qlA⟩;refine ⟨⟨c64,c8.1,c8.2,⟨_,rfl,rfl⟩,fun j hj=>absurd hj (by omega)⟩,fun h _ k _ w _ t _ hk hk2 hh hh2 t0 t1 hA=>⟨fun hlt=>⟨fun h16=>?_,fun h16=>?_⟩,fun hge=>⟨by rw [qx hh]; decide,⟨⟨hk,hk2⟩,hh,hh2,?_,⟨_,rfl,rfl⟩,?_,?_⟩,fun h2 _ k2 _ w2 _ t2 _ v _ hk3 hk4 hh3 hh4 u0 u1 hW hv hvw hR=>⟨fun hlt=>?_,fun hge2=>⟨⟨hh3,hv,hvw,?_,fun j hj=>?_⟩,fun h5 _ t5 _ v5 _ hh5 s0 s1 hv5 hvw5 hR5 hc5=>⟨fun hlt=>?_,fun hge5=>⟨by rw [qx hh5]; decide,?_,?_⟩⟩⟩⟩⟩⟩⟩
 ·obtain ⟨T,hT⟩:∃ T:Nat,t.i = T:=⟨t.i.toNat,by omega⟩
  have m0:qc .mul .i64 4 t.i = ((4 * T:Nat):Int):=by rw [qbY (by omega) (by omega)]; omega
  have m1:qc .add .i64 (qc .mul .i64 4 t.i) 1 = ((4 * T + 1:Nat):Int):=by rw [m0,add64 (by omega) (by omega)]; omega
  have m2:qc .add .i64 (qc .mul .i64 4 t.i) 2 = ((4 * T + 2:Nat):Int):=by rw [m0,add64 (by omega) (by omega)]; omega
  have m3:qc .add .i64 (qc .mul .i64 4 t.i) 3 = ((4 * T + 3:Nat):Int):=by rw [m0,add64 (by omega) (by omega)]; omega
  have m5:qc .add .i64 t.i 1 = ((T + 1:Nat):Int):=by rw [add64 (by omega) (by omega)]; omega
  rw [m1,m2,m3,m0,m5];rw [hT,jal] at hA;rw [hT];simp only [jal];have e2:=qx hA.1;refine ⟨by omega,by omega,ho,by omega,by omega,by omega,by omega,by omega,by omega,by omega,by omega,by omega,by omega,by omega,by omega,by omega,by omega,by omega,by omega,⟨⟨hk,hk2⟩,hh,hh2,by omega,by omega,qin hA (by omega) ?_⟩,by omega⟩;rw [qyQ,qqE (by rw [qpo]; omega),qzy (by omega),qk6,jbj,qhV ho hol (by omega),qhV ho hol (by omega),qhV ho hol (by omega),qhV ho hol (by omega)]
 ·obtain ⟨T,hT⟩:∃ T:Nat,t.i = ((16 + T:Nat):Int):=⟨t.i.toNat - 16,by omega⟩
  have m15:qc .sub .i64 t.i 15 = ((1 + T:Nat):Int):=by rw [sub64 (by omega) (by omega)]; omega
  have m2:qc .sub .i64 t.i 2 = ((14 + T:Nat):Int):=by rw [sub64 (by omega) (by omega)]; omega
  have m16:qc .sub .i64 t.i 16 = (T:Int):=by rw [sub64 (by omega) (by omega)]; omega
  have m7:qc .sub .i64 t.i 7 = ((9 + T:Nat):Int):=by rw [sub64 (by omega) (by omega)]; omega
  have m5:qc .add .i64 t.i 1 = ((16 + T + 1:Nat):Int):=by rw [add64 (by omega) (by omega)]; omega
  rw [m15,m2,m16,m7,m5];rw [hT,jal] at hA;rw [hT];simp only [jal];have e2:=qx hA.1;refine ⟨by omega,by omega,by omega,qbo hA (by omega),fun r1 _ g1=>⟨qbo hA (by omega),fun r2 _ g2=>⟨by omega,by omega,qbo hA (by omega),fun r3 _ g3=>⟨qbo hA (by omega),fun r4 _ g4=>⟨by omega,by omega,by omega,by omega,by omega,⟨⟨hk,hk2⟩,hh,hh2,by omega,by omega,qin hA (by omega) ?_⟩,by omega⟩⟩⟩⟩⟩;rw [g1,g2,g3,g4];rw [qDS (qbo hA (by omega)),qBh (qbo hA (by omega))];simp only [qfZ,qrR,qcb];rw [qcM hA (by omega:1 + T < 16 + T),qcM hA (by omega:14 + T < 16 + T),qcM hA (by omega:T < 16 + T),qcM hA (by omega:9 + T < 16 + T),qpn qpo (by omega)];generalize (qak (qa5 (qaB (Z 6).d (Z 3).i 64) 0) 48).getD (1 + T) 0 = p1;generalize (qak (qa5 (qaB (Z 6).d (Z 3).i 64) 0) 48).getD (14 + T) 0 = p14;generalize (qak (qa5 (qaB (Z 6).d (Z 3).i 64) 0) 48).getD (9 + T) 0 = p9;generalize (qak (qa5 (qaB (Z 6).d (Z 3).i 64) 0) 48).getD T 0 = p0;refine congrArg ofW ?_;simp only [sg0,sg1]
 ·have:t.i = 64:=by omega
  rw [this] at hA; exact hA
 ·have e:qd9 [qag (qb h.d 0) 8]:=fun j hj=>by
   rw [qcm hj,qbA,qwL hh2 j hj]; exact hw8 j hj
  exact e
 ·have e:qbi (qf [qag (qb h.d 0) 8] 8) = qbi (qf (Z 0).d 8):=by rw [qfd,hh2]
  exact e
 ·obtain ⟨T,hT⟩:∃ T:Nat,t2.i = T:=⟨t2.i.toNat,by omega⟩
  have m5:qc .add .i64 t2.i 1 = ((T + 1:Nat):Int):=by rw [add64 (by omega) (by omega)]; omega
  rw [m5];rw [hT,jal] at hR;rw [hT];simp only [jal,qbA];refine ⟨by rw [qx hv]; decide,by omega,by rw [qx hk3]; decide,by rw [qx hW.1]; decide,hvw 4 (by omega),fun r1 _ g1=>⟨hvw 4 (by omega),fun r2 _ g2=>⟨hvw 4 (by omega),fun r3 _ g3=>⟨hvw 0 (by omega),fun r4 _ g4=>⟨hvw 0 (by omega),fun r5 _ g5=>⟨hvw 0 (by omega),fun r6 _ g6=>?_⟩⟩⟩⟩⟩⟩;rw [q0J hv rfl,g1,g2,g3,g4,g5,g6];refine ⟨⟨⟨hk3,hk4⟩,hh3,hh4,by omega,by omega,hW,⟨_,rfl,rfl⟩,fun j hj=>?_,?_⟩,by omega⟩
  ·match j,hj with
   | 0,_=>show isW (qc .add .u32 _ _); rw [qfZ]; exact qgF
   | 1,_=>exact hvw 0 (by omega)
   | 2,_=>exact hvw 1 (by omega)
   | 3,_=>exact hvw 2 (by omega)
   | 4,_=>show isW (qc .add .u32 _ _); rw [qfZ]; exact qgF
   | 5,_=>exact hvw 4 (by omega)
   | 6,_=>exact hvw 5 (by omega)
   | 7,_=>exact hvw 6 (by omega)
  ·rw [qoc,<- hR,qDu (by omega),<- q7f hk4 T (by omega),<- qcM hW (by omega:T < 64)]
   simp only [qfZ,qrR,qBa,qEL,qcb];rw [qnf,qnf];simp only [qud,jav,ja6,ja2,qX,qcb];rfl
 ·have:t2.i = 64:=by omega
  rw [this] at hR; exact hR
 ·rw [jaf (by omega)]; exact qwL hh4 j hj
 ·obtain ⟨T,hT⟩:∃ T:Nat,t5.i = T:=⟨t5.i.toNat,by omega⟩
  have m5:qc .add .i64 t5.i 1 = ((T + 1:Nat):Int):=by rw [add64 (by omega) (by omega)]; omega
  rw [m5];rw [hT] at hc5;rw [hT];simp only [jal];refine ⟨by omega,by rw [qx hh5]; decide,by rw [qx hv5]; decide,⟨qcR hh5,by omega,by omega,hv5,hvw5,hR5,fun j hj=>?_⟩,by omega⟩;by_cases e:j = T
  ·rw [e,qcJ hh5 (by omega),hc5 T (by omega),jaf (by omega),jah (by omega),qfZ]
  ·rw [qaD e,hc5 j hj]
   by_cases e2:j < T
   ·rw [jah (by omega),jah (by omega)]
   ·rw [jaf (by omega),jaf (by omega)]
 ·have e:qd9 [qag (qb h5.d 0) 8]:=fun j hj=>by
   rw [qcm hj,qbA,hc5 j hj,jah (by omega)]; exact qgF
  exact e
 ·have e:qbi (qf [qag (qb h5.d 0) 8] 8) = qfh (kW (Z 1).d) (qbi (qf (Z 0).d 8)) (qa5 (qaB (Z 6).d (Z 3).i 64) 0):=by
   rw [qfd,qfh,<- hR5,qnf,qnf,qnf];have hc:∀ j,j < 8->qa h5.d j = ofW (toW (qa (Z 0).d j) + toW (qa v5.d j)):=fun j hj=>by rw [hc5 j hj,jah (by omega)]
   rw [hc 0 (by omega),hc 1 (by omega),hc 2 (by omega),hc 3 (by omega),hc 4 (by omega),hc 5 (by omega),hc 6 (by omega),hc 7 (by omega)];simp only [qcb,q8D]
  exact e
end Go.Proofs
