/- Texts DC, DE, DH, DJ, DK, DL, BA, BB, ZG, DM, ZJ, ZU, DO, BC, BD, BE, DU, BF, BG, BH, DX, BI, DF, DG, DI, DQ, DN, DR, DV, DW, BJ, BL, BM, BN. -/
import Derived.Test.YtelcnkclppkicaaGreatDoorG4
import Derived.Test.YtelcnkclppkicaaGreatDoorG1
import Derived.Test.YtelcnkclppkicaaGreatDoorProg
set_option linter.unusedSimpArgs false
set_option linter.unusedVariables false
namespace Go.Eng
open Go
theorem qc2 {d:List (List Value)} {n i:Nat} {v:Value} (h:qC d n):qC (qa1 d i v) n:=by
 obtain ⟨row,rfl,hl⟩:=h
 exact ⟨row.set i v,rfl,by simp [hl]⟩
theorem qcy {d:List (List Value)} {n i:Nat} {k:IntKind} {z:Int} (h:qC d n) (hi:i < n):qa (qa1 d i (.int k z)) i = z:=by
 obtain ⟨row,rfl,hl⟩:=h
 simp [qa,qa1,hl,hi,qS]
theorem qa2 {d:List (List Value)} {i j:Nat} {v:Value} (h:j ≠ i):qa (qa1 d i v) j = qa d j:=by
 cases d with
 | nil=>rfl
 | cons row rest=>simp [qa,qa1,jce,Ne.symm h]
theorem qrO {ts:List Value} {j:Nat}:qa [ts] j = qS (ts[j]?.getD .nilFunc):=rfl
theorem qw {d:List (List Value)} {n:Nat} (h:qC d n):d.length = 1:=by obtain ⟨row,rfl,_⟩:=h; rfl
theorem qbs {d:List (List Value)} {c:Nat}:qb d 0 c = qa d c:=by cases d <;> simp [qb,qG,qa]
theorem qcZ {d:List (List Value)} {n:Nat}:(qd d n).length = n:=by simp [qd]
theorem qfQ {d:List (List Value)} {n j:Nat} (h:j < n):(qd d n).getD j 0 = qa d j:=by
 simp [qd,jad,h]
theorem qdW {d e:List (List Value)} {n:Nat} (h:∀ j,j < n->qa d j = qa e j):qd d n = qd e n:=jbt fun j hj=>h j (jb5.1 hj)
theorem q99 {x:Int}:qe .shl .u32 x 24 = ofW (toW x <<< 24):=qqy (n:=24) (by decide)
theorem q9O {x:Int}:qe .shl .u32 x 16 = ofW (toW x <<< 16):=qqy (n:=16) (by decide)
theorem q9X {x:Int}:qe .shl .u32 x 8 = ofW (toW x <<< 8):=qqy (n:=8) (by decide)
theorem qu2 {a b c d:Int}:qe .or .u32 (qe .or .u32 (qe .or .u32 (qe .shl .u32 (IntKind.u32.wrap a) 24) (qe .shl .u32 (IntKind.u32.wrap b) 16)) (qe .shl .u32 (IntKind.u32.wrap c) 8)) (IntKind.u32.wrap d) = ofW (qug a b c d):=by
 simp only [qpl,q99,q9O,q9X,q0w,qbI,qug]
theorem q9f {x:Int} (h:isW x):qe .shr .u32 x 3 = ofW (toW x >>> 3):=qtu (n:=3) h (by decide)
theorem q5Z {x:Int} (h:isW x):qe .shr .u32 x 10 = ofW (toW x >>> 10):=qtu (n:=10) h (by decide)
theorem q5V:∀ n:Fin 31,qe .and .u64 (IntKind.u64.wrap (-((n.val:Int) + 1))) 31 = 31 - (n.val:Int):=by decide +kernel
theorem qzs:∀ n:Fin 31,qe .sub .u64 32 (31 - (n.val:Int)) = (n.val:Int) + 1:=by decide +kernel
theorem q66 {x:Int} {n:Nat} (h:isW x) (h1:1 <= n) (h2:n <= 31):qe .or .u32 (qe .shl .u32 x (qe .and .u64 (IntKind.u64.wrap (-(n:Int))) 31)) (qe .shr .u32 x (qe .sub .u64 32 (qe .and .u64 (IntKind.u64.wrap (-(n:Int))) 31))) = ofW (qe5 (toW x) n):=by
 have e1:=q5V ⟨n - 1,by omega⟩
 have e2:=qzs ⟨n - 1,by omega⟩
 simp only [] at e1 e2
 have e3:(((n - 1:Nat):Int) + 1) = (n:Int):=by omega
 have e4:(31 - ((n - 1:Nat):Int)) = ((32 - n:Nat):Int):=by omega
 rw [e3,e4] at e1
 rw [e4,e3] at e2
 rw [e1,e2,qqy (by omega),qtu h (by omega),q0w,qbI,qbI,qe5,BitVec.or_comm]
theorem qgX {b:List W32}:∀ {k:Nat},(qaj b k).length = b.length + k
 | 0=>rfl
 | k + 1=>by rw [qaj,jal,qgX]; simp; omega
theorem qcV {b:List W32} {k:Nat}:∀ {n j:Nat},k <= n->j < b.length + k->(qaj b n).getD j 0 = (qaj b k).getD j 0
 | 0,j,h,_=>by rw [show k = 0 by omega]
 | n + 1,j,h,hj=>by
  rcases jbs n k with h1 | h1
  ·rw [show k = n + 1 by omega]
  ·rw [qaj,jad,jau (by rw [qgX]; omega),<- jad]
   exact qcV h1 hj
theorem qoF {b:List W32} {n j:Nat} (hj:j < b.length):(qaj b n).getD j 0 = b.getD j 0:=qcV (k:=0) (Nat.zero_le _) (by omega)
theorem qny {b:List W32} (hb:b.length = 16) {n k:Nat} (hk:k < n):(qaj b n).getD (16 + k) 0 = sg1 ((qaj b n).getD (14 + k) 0) + (qaj b n).getD (9 + k) 0 + sg0 ((qaj b n).getD (1 + k) 0) + (qaj b n).getD k 0:=by
 rw [qcV (k:=k + 1) (by omega) (by omega),qcV (k:=k) (j:=14 + k) (by omega) (by omega),qcV (k:=k) (j:=9 + k) (by omega) (by omega),qcV (k:=k) (j:=1 + k) (by omega) (by omega),qcV (k:=k) (j:=k) (by omega) (by omega)]
 rw [qaj,jad,jap (by rw [qgX]; omega),qgX,hb]
 simp
theorem qwe {d:List (List Value)}:(qds d).length = 16:=by simp [qds]
theorem q3A {d:List (List Value)} {t:Nat} (h:t < 16):(qds d).getD t 0 = qug (qa d (8 + 4 * t)) (qa d (8 + (4 * t + 1))) (qa d (8 + (4 * t + 2))) (qa d (8 + (4 * t + 3))):=by
 simp [qds,jad,h]
theorem qgU {d:List (List Value)} {l:List W32} {t:Nat} {w:Int} (h:qfk d l t) (ht:t < 64) (hw:w = ofW (l.getD t 0)):qfk (qa1 d t (.int .u32 w)) l (t + 1):=by
 refine ⟨qc2 h.1,fun j hj=>?_⟩
 by_cases e:j = t
 ·rw [e,qcy h.1 ht,hw]
 ·rw [qa2 e,h.2 j (by omega)]
theorem qaW {d:List (List Value)} {l:List W32} {n j:Nat} (h:qfk d l n) (hj:j < n):isW (qa d j):=by rw [h.2 j hj]; exact qge
theorem qc9 {d:List (List Value)} {l:List W32} {n j:Nat} (h:qfk d l n) (hj:j < n):toW (qa d j) = l.getD j 0:=by rw [h.2 j hj,qbI]
theorem q9U {f:Nat->Int} {j:Nat} (hj:j < 8):qa [[.int .u32 (f 0),.int .u32 (f 1),.int .u32 (f 2),.int .u32 (f 3),.int .u32 (f 4),.int .u32 (f 5),.int .u32 (f 6),.int .u32 (f 7)]] j = f j:=by
 match j,hj with
 | 0,_=>rfl
 | 1,_=>rfl
 | 2,_=>rfl
 | 3,_=>rfl
 | 4,_=>rfl
 | 5,_=>rfl
 | 6,_=>rfl
 | 7,_=>rfl
theorem qxn {d:List (List Value)} {j:Nat} {w:Int} (h:qbJ d) (hj:j < 8) (hw:isW w):qbJ (qa1 d j (.int .u32 w)):=by
 refine ⟨qc2 h.1,fun i hi=>?_,fun i h1 h2=>?_⟩
 ·by_cases e:i = j
  ·rw [e,qcy h.1 (by omega)]; exact hw
  ·rw [qa2 e]; exact h.2.1 i hi
 ·rw [qa2 (by omega)]; exact h.2.2 i h1 h2
theorem qfe:qM.length = 64:=by decide
theorem qo5:∀ j:Fin 64,0 <= qM.getD j 0/\qM.getD j 0 < 4294967296:=by decide +kernel
theorem qrT {j:Nat} (hj:j < 64):qa [qM.map (Value.int .u32)] j = qM.getD j 0:=by
 have:=qfe
 simp [qa,jad,this,hj,qS]
theorem qzM {j:Nat} (hj:j < 64):(qd2 qM).getD j 0 = toW (qM.getD j 0):=by
 have:=qfe
 simp [qd2,jad,this,hj]
def q0z:St8:=qaT qmL
def wK:List W32:=qd2 qM
def qH (m:List Int):Prop:=∀ x ∈ m,0 <= x/\x < 256
def qam (d:List (List Value)) (m:List Int):Prop:=qbJ d/\qH m/\qa d 72 = m.length/\stW d = qfV wK q0z m (m.length / 64)/\∀ j,j < m.length % 64->qa d (8 + j) = m.getD (64 * (m.length / 64) + j) 0
def quQ (d:List (List Value)):Prop:=∃ m,qam d m/\m.length < 1152921504606846976
def qaG (d:List (List Value)) (o l:Int):List Int:=((bI d).drop o.toNat).take l.toNat
def qdr (d:List (List Value)) (o l:Int):List Int:=(((qd d 72)).drop o.toNat).take l.toNat
def gR:Nat := 1
def gIp (r:Nat):Nat × Nat:=(2000 + gR,r)
def qe3:Ctr:={ fn := 96,nv:=0,args:=[],heap:=[],ro:=[],pre:=fun _=>True,alts:=[
 { k:=2,ret:=qf4 0,heap:=[hHp 0 1],post:=fun Z=>qam (Z 1).d [] }] }
def qh6:Ctr:={ fn := 97,nv:=10,ip:=[gIp 8],args:=[qf4 0,bSl 2 3 4 5],heap:=[hHp 0 1],ro:=[bHp 2 6 7,gHp 8 9],pre:=fun Z=>quQ (Z 1).d/\0 <= (Z 3).i/\0 <= (Z 4).i/\(Z 4).i <= (Z 5).i/\(Z 4).i < 1152921504606846976/\(Z 3).i + (Z 4).i <= (Z 6).d.length/\q6 (Z 6).d/\gOk Z 8 9 gR,alts:=[
 { k:=1,ret:=.tup [],heap:=[hHp 0 10],post:=fun Z=>∀ m,qam (Z 1).d m->qam (Z 10).d (m ++ qaG (Z 6).d (Z 3).i (Z 4).i) }] }
def q1l:Inv:={ key:=1,nv:=4,env:=[(0,qf4 0),(1,bSl 2 1000 1001 1002)],heap:=[hHp 0 1003],inv:=(fun Z=>0 <= (Z 1001).i/\(Z 1001).i <= (Z 4).i/\(Z 1001).i <= (Z 1002).i/\(0 < (Z 1001).i->(Z 1000).i = (Z 3).i + ((Z 4).i - (Z 1001).i))/\∀ m,qam (Z 1).d m->qam (Z 1003).d (m ++ qaG (Z 6).d (Z 3).i ((Z 4).i - (Z 1001).i))),mu:=(fun Z=>(Z 1001).i.toNat) }
def k72:List CK:=List.replicate 72 (.int .u8)
def q6n (r d:Nat):SH:=.arr r 220 k72 (.var d) (.lit 1)
def qh3:Ctr:={ fn := 97,nv:=8,ip:=[gIp 6],args:=[qf4 0,.one (.vslice 2 (.lit 0) (.var 3) (.var 4) 1)],heap:=[hHp 0 1],ro:=[q6n 2 5,gHp 6 7],pre:=fun Z=>quQ (Z 1).d/\0 <= (Z 3).i/\(Z 3).i <= 72/\(Z 3).i <= (Z 4).i/\qC (Z 5).d 72/\qH (qd (Z 5).d 72)/\gOk Z 6 7 gR,alts:=[
 { k:=1,ret:=.tup [],heap:=[hHp 0 8],post:=fun Z=>∀ m,qam (Z 1).d m->qam (Z 8).d (m ++ qdr (Z 5).d 0 (Z 3).i) }] }
def qvP:Inv:={ key:=1,nv:=4,env:=[(0,qf4 0),(1,bSl 2 1000 1001 1002)],heap:=[hHp 0 1003],inv:=(fun Z=>0 <= (Z 1001).i/\(Z 1001).i <= (Z 3).i/\(Z 1001).i <= (Z 1002).i/\(0 < (Z 1001).i->(Z 1000).i = (Z 3).i - (Z 1001).i)/\∀ m,qam (Z 1).d m->qam (Z 1003).d (m ++ qdr (Z 5).d 0 ((Z 3).i - (Z 1001).i))),mu:=(fun Z=>(Z 1001).i.toNat) }
def dgV (n:Nat):SV:=.agg (qaF .u8 n 32)
def k32:List CK:=List.replicate 32 (.int .u8)
def q4t (r d:Nat):SH:=.arr r 24 k32 (.var d) (.lit 1)
def dgP (r:Nat):SV:=.one (.vptr r (.lit 0) 32 0)
def dgZ (r:Nat):SH:=.cells r 24 (List.replicate 32 (.vint .u8 (.lit 0)))
def qnP:Ctr:={ fn := 98,nv:=4,ip:=[gIp 2],args:=[qf4 0],heap:=[],ro:=[hHp 0 1,gHp 2 3],pre:=fun Z=>quQ (Z 1).d/\gOk Z 2 3 gR,alts:=[
 { k:=1,ret:=dgV 4,heap:=[],post:=fun Z=>∀ m,qam (Z 1).d m->qd (Z 4).d 32 = sha m }] }
def q8R:Inv:={ key:=9,nv:=9,env:=[(0,qf4 0),(2,dgP 1000),(3,qf4 1002),(4,.one (.vptr 1004 (.lit 0) 72 0)),(5,iv .i64 (.var 1006)),(6,iv .u64 (.var 1007)),(30,iv .i64 (.var 1008))],heap:=[dgZ 1000,hHp 1002 1003,q6n 1004 1005],inv:=(fun Z=>0 <= (Z 1008).i/\(Z 1008).i <= 8/\qC (Z 1003).d 73/\(∀ j,j < 73->qa (Z 1003).d j = qa (Z 1).d j)/\(Z 1006).i = 64 - (qa (Z 1).d 72 + 8) % 64/\(Z 1007).i = qa (Z 1).d 72 * 8/\qC (Z 1005).d 72/\(∀ j,j < 72->qa (Z 1005).d j = if j = 0 then 128 else if (Z 1006).i.toNat <= j/\j < (Z 1006).i.toNat + (Z 1008).i.toNat then (beL (qa (Z 1).d 72 * 8) 8).getD (j - (Z 1006).i.toNat) 0 else 0)),mu:=(fun Z=>(8 - (Z 1008).i).toNat) }
def q8G:Inv:={ key:=16,nv:=7,env:=[(2,dgP 1000),(3,qf4 1002),(8,dgP 1004),(48,iv .i64 (.var 1006))],heap:=[dgZ 1000,hHp 1002 1003,q4t 1004 1005],inv:=(fun Z=>0 <= (Z 1006).i/\(Z 1006).i <= 32/\qbJ (Z 1003).d/\(∀ m,qam (Z 1).d m->stW (Z 1003).d = qfV wK q0z (qcN m) ((qcN m).length / 64))/\qC (Z 1005).d 32/\∀ j,j < (Z 1006).i.toNat->qa (Z 1005).d j = (qd3 (stW (Z 1003).d)).getD j 0),mu:=(fun Z=>(32 - (Z 1006).i).toNat) }
def qmD (Z:Env):Prop:=0 <= (Z 1).i/\0 <= (Z 2).i/\(Z 2).i <= (Z 3).i/\(Z 2).i < 1152921504606846976/\(Z 1).i + (Z 2).i <= (Z 4).d.length/\q6 (Z 4).d
def qdO:Ctr:={ fn := 59,nv:=8,ip:=[gIp 6],args:=[bSl 0 1 2 3],heap:=[],ro:=[bHp 0 4 5,gHp 6 7],pre:=fun Z=>qmD Z/\gOk Z 6 7 gR,alts:=[
 { k:=1,ret:=dgV 8,heap:=[],post:=fun Z=>qd (Z 8).d 32 = sha (qaG (Z 4).d (Z 1).i (Z 2).i) }] }
theorem qlg {d s:List (List Value)} {n o:Nat} (h:qC d n) (ho:o + s.length <= n):qC (qav d o s) n:=by
 obtain ⟨row,rfl,hl⟩:=h
 refine ⟨_,rfl,?_⟩
 simp [qa3,hl]; omega
theorem qqX {d s:List (List Value)} {n o j:Nat} (h:qC d n) (ho:o + s.length <= n) (hj:j < s.length):qa (qav d o s) (o + j) = (bI s).getD j 0:=by
 obtain ⟨row,rfl,hl⟩:=h
 have h1:(row.take o).length = o:=by rw [jbm]; omega
 simp only [qav,qa,jbq,qa3]
 rw [jbu,jap (by omega),h1,show o + j - o = j by omega,jau (by simpa using hj)]
 simp [bI,jad,hj,qaJ]
 cases s[j] <;> rfl
theorem qih {d s:List (List Value)} {n o j:Nat} (h:qC d n) (ho:o + s.length <= n) (hj:j < o∨o + s.length <= j):qa (qav d o s) j = qa d j:=by
 obtain ⟨row,rfl,hl⟩:=h
 have h1:(row.take o).length = o:=by rw [jbm]; omega
 simp only [qav,qa,jbq,qa3]
 rcases hj with hj | hj
 ·rw [jbu,jau (by omega),jer hj]
 ·rw [jap (by simp; omega)]
  simp only [jal,h1,ja0,jbd]
  rw [show o + s.length + (j - (o + s.length)) = j by omega]
theorem q8y {d:List (List Value)} {n c:Nat} {v:Value} (h:qC d n) (hc:c < n):qbK d 0 c [v] = qa1 d c v:=by
 obtain ⟨row,rfl,hl⟩:=h
 simp only [qbK,qa1,jdm,jat,ja2,List.set_cons_zero,qa3,jc7]
 congr 1
 rw [List.set_eq_take_append_cons_drop,jah (by omega)]
 simp
def q6w (d:List (List Value)) (m:List Int) (q k:Nat):Prop:=∀ j,j < k->qa d (8 + j) = m.getD (64 * q + j) 0
theorem qzH {d:List (List Value)} {m:List Int} {q:Nat} (h:q6w d m q 64):qds d = qau m (64 * q):=by
 unfold qds qau
 refine jbt fun t ht=>?_
 have ht:=jb5.1 ht
 unfold qja
 rw [h _ (by omega),h _ (by omega),h _ (by omega),h _ (by omega)]
 simp only [jco]
theorem qzi {m s:List Int} {i:Nat} (h:i < m.length):(m ++ s).getD i 0 = m.getD i 0:=by
 rw [jad,jad,jau h]
theorem qzB {m s:List Int} {i:Nat} (h:m.length <= i):(m ++ s).getD i 0 = s.getD (i - m.length) 0:=by
 rw [jad,jad,jap h]
theorem qlk {d e:List (List Value)} (h:∀ j,j < 8->qa d j = qa e j):stW d = stW e:=by
 unfold stW; rw [qdW h]
theorem qut {m s:List Int} (h:qH m) (h':qH s):qH (m ++ s):=fun x hx=>(jas.1 hx).elim (h x) (h' x)
structure Came (d e:List (List Value)) (s:List Int) (r:Nat):Prop where
 row:qbJ e
 st:∀ j,j < 8->qa e j = qa d j
 old:∀ j,j < r->qa e (8 + j) = qa d (8 + j)
 new:∀ j,j < s.length->qa e (8 + r + j) = s.getD j 0
 size:qa e 72 = qa d 72 + s.length
theorem qtU {d e:List (List Value)} {m s:List Int} (h:qam d m) (hc:Came d e s (m.length % 64)):q6w e (m ++ s) (m.length / 64) (m.length % 64 + s.length):=fun j hj=>by
 obtain ⟨h1,h2,h3,h4,h5⟩:=h
 rcases jbs j (m.length % 64) with hr | hr
 ·rw [hc.old j hr,h5 j hr,qzi (by omega)]
 ·have:=hc.new (j - m.length % 64) (by omega)
  rw [show 8 + m.length % 64 + (j - m.length % 64) = 8 + j by omega] at this
  rw [this,qzB (by omega)]
  congr 1; omega
theorem q0G {d e:List (List Value)} {m s:List Int} (h:qam d m) (hs:qH s) (hc:Came d e s (m.length % 64)) (hr:m.length % 64 + s.length < 64):qam e (m ++ s):=by
 have hb:=qtU h hc
 obtain ⟨h1,h2,h3,h4,h5⟩:=h
 have e1:(m ++ s).length / 64 = m.length / 64:=by rw [jal]; omega
 have e2:(m ++ s).length % 64 = m.length % 64 + s.length:=by rw [jal]; omega
 refine ⟨hc.row,qut h2 hs,by rw [hc.size,h3,jal]; omega,?_,?_⟩
 ·rw [e1,qlk hc.st,h4,qnG (by omega)]
 ·rw [e1,e2]; exact hb
theorem q2D {d e f:List (List Value)} {m s:List Int} (h:qam d m) (hs:qH s) (hc:Came d e s (m.length % 64)) (hr:m.length % 64 + s.length = 64) (hf:qbJ f) (hst:stW f = qen wK (stW e) (qds e)) (hk:qa f 72 = qa e 72):qam f (m ++ s):=by
 have hb:=qtU h hc
 rw [hr] at hb
 obtain ⟨h1,h2,h3,h4,h5⟩:=h
 have e1:(m ++ s).length / 64 = m.length / 64 + 1:=by rw [jal]; omega
 have e2:(m ++ s).length % 64 = 0:=by rw [jal]; omega
 refine ⟨hf,qut h2 hs,by rw [hk,hc.size,h3,jal]; omega,?_,fun j hj=>by omega⟩
 rw [e1,hst,qzH hb,qlk hc.st,h4]
 show _ = qen wK (qfV wK q0z (m ++ s) (m.length / 64)) _
 rw [qnG (by omega)]
theorem qic {d:List (List Value)} {x:List (List Value)} {r:Nat} (h:qbJ d) (hx:q6 x) (hr:r + x.length <= 64):Came d (qa1 (qav d (8 + r) x) 72 (.int .i64 (qa d 72 + x.length))) (bI x) r:=by
 obtain ⟨h1,h2,h3⟩:=h
 have hlen:(bI x).length = x.length:=Go.Proofs.bI_len
 have hone:=qlg (s:=x) (o:=8 + r) h1 (by omega)
 have hin:∀ j,j < x.length->qa (qa1 (qav d (8 + r) x) 72 (.int .i64 (qa d 72 + x.length))) (8 + r + j) = (bI x).getD j 0:=fun j hj=>by
  rw [qa2 (by omega),qqX h1 (by omega) hj]
 have hout:∀ j,j < 72->(j < 8 + r∨8 + r + x.length <= j)->qa (qa1 (qav d (8 + r) x) 72 (.int .i64 (qa d 72 + x.length))) j = qa d j:=fun j hj hjo=>by
  rw [qa2 (by omega),qih h1 (by omega) hjo]
 have hB:∀ j,j < x.length->0 <= (bI x).getD j 0/\(bI x).getD j 0 < 256:=fun j hj=>Go.Proofs.allB_list hx _ (by
  rw [jad,jac (by omega)]
  exact jbz _)
 refine ⟨⟨qc2 hone,fun j hj=>by rw [hout j (by omega) (.inl (by omega))]; exact h2 j hj,fun j hj hj2=>?_⟩,fun j hj=>hout j (by omega) (.inl (by omega)),fun j hj=>hout (8 + j) (by omega) (.inl (by omega)),fun j hj=>hin j (by omega),by rw [qcy hone (by omega),hlen]⟩
 by_cases hh:j < 8 + r∨8 + r + x.length <= j
 ·rw [hout j hj2 hh]; exact h3 j hj hj2
 ·have:=hin (j - (8 + r)) (by omega)
  rw [show 8 + r + (j - (8 + r)) = j by omega] at this
  rw [this]; exact hB _ (by omega)
theorem qrP {d x:List (List Value)} {r:Nat} {n:Int} (hd:qbJ d) (hr:r + x.length <= 64) (hn:n = x.length) (h0:0 <= qa d 72) (h1:qa d 72 < 4611686018427387904):qbK (qav d (8 + r) x) 0 72 [.int .i64 (qe .add .i64 (qb (qav d (8 + r) x) 0 72) n)] = qa1 (qav d (8 + r) x) 72 (.int .i64 (qa d 72 + x.length)):=by
 have hone:=qlg (s:=x) (o:=8 + r) hd.1 (by omega)
 rw [q8y hone (by omega),qbs,qih hd.1 (by omega) (.inr (by omega)),hn,Go.Proofs.add64 (by omega) (by omega)]
theorem qqw {L:Nat}:qe .rem .i64 (L:Int) 64 = ((L % 64:Nat):Int):=by
 show (L:Int).tmod 64 = _
 rw [jdx (by omega)]; omega
theorem qrW {d x:List (List Value)} {M:List Int} {r:Nat} (h:qam d M) (hx:q6 x) (hr0:M.length % 64 = r) (hr:r + x.length < 64):qam (qa1 (qav d (8 + r) x) 72 (.int .i64 (qa d 72 + x.length))) (M ++ bI x):=by
 subst hr0
 exact q0G h (Go.Proofs.allB_list hx) (qic h.1 hx (by omega)) (by rw [Go.Proofs.bI_len]; omega)
theorem qrY {d x f:List (List Value)} {M:List Int} {r:Nat} (h:qam d M) (hx:q6 x) (hr0:M.length % 64 = r) (hr:r + x.length = 64) (hf:qbJ f) (hst:stW f = qen wK (stW (qa1 (qav d (8 + r) x) 72 (.int .i64 (qa d 72 + x.length)))) (qds (qa1 (qav d (8 + r) x) 72 (.int .i64 (qa d 72 + x.length))))) (hk:qa f 72 = qa (qa1 (qav d (8 + r) x) 72 (.int .i64 (qa d 72 + x.length))) 72):qam f (M ++ bI x):=by
 subst hr0
 exact q2D h (Go.Proofs.allB_list hx) (qic h.1 hx (by omega)) (by rw [Go.Proofs.bI_len]; omega) hf hst hk
theorem qkv {d:List (List Value)} {m m':List Int} (h:qam d m) (h':qam d m'):m.length = m'.length:=by
 have h1:=h.2.2.1
 have h2:=h'.2.2.1
 omega
theorem q1L {d:List (List Value)} {o a n:Nat} (h:o + a + n <= d.length):qaG d o a ++ bI ((d.drop (o + a)).take n) = qaG d o ((a + n:Nat):Int):=by
 simp only [qaG,jar,bI,jc3,jeg]
 rw [List.take_add,jfw]
theorem q4V {d:List (List Value)} {o a:Nat} (h:o + a <= d.length):(qaG d o a).length = a:=by
 simp only [qaG,jar,bI,jbm,jc4,ja0]; omega
theorem q3W {d:List (List Value)} {o n:Nat} (h:q6 d):q6 ((d.drop o).take n):=fun row hr=>h row (List.drop_subset _ _ (jft _ _ hr))
theorem qvQ {d:List (List Value)} {n:Nat} (h:qC d n):qd d n = (d.headD []).map qS:=by
 obtain ⟨row,rfl,hl⟩:=h
 refine jdz (by simp [qd,hl]) fun i h1 h2=>?_
 simp only [qd,ja0,List.length_range] at h1
 simp [qd,qa,show i < row.length by omega]
theorem qz2 {d:List (List Value)} {o n l:Nat} (h:n <= l):(qbg d o l).take n = qbg d o n:=by
 simp only [qbg,<- jc3,List.take_take,jcv h]
theorem qok {d:List (List Value)} {o n k:Nat} (h:qC d k):bI (qbg d o n) = ((qd d k).drop o).take n:=by
 rw [qvQ h,<- jeg,<- jc3,bI,qbg,jdq]
 rfl
theorem qmc {d:List (List Value)} {o n k:Nat} (h:qC d k) (ho:o + n <= k):(qbg d o n).length = n:=by
 obtain ⟨row,rfl,hl⟩:=h
 simp [qbg,hl]; omega
theorem qp8 {d:List (List Value)} {o n k:Nat} (h:qC d k) (ha:qH (qd d k)):q6 (qbg d o n):=fun row hr=>by
 obtain ⟨v,hv,rfl⟩:=jbb.1 hr
 have h1:v ∈ d.headD []:=List.drop_subset _ _ (jft _ _ hv)
 refine ha _ ?_
 rw [qvQ h]
 exact jbb.2 ⟨v,h1,rfl⟩
theorem q3y {d:List (List Value)} {a n:Nat}:qdr d 0 a ++ ((qd d 72).drop a).take n = qdr d 0 ((a + n:Nat):Int):=by
 simp only [qdr,jar,jdm,jeb]
 rw [List.take_add]
theorem quE {d:List (List Value)} {a:Nat} (h:a <= 72):(qdr d 0 a).length = a:=by
 simp [qdr,qcZ]; omega
def qgA:List Value:=qmL.map (Value.int .u32) ++ (List.replicate 64 (Value.int .u8 0) ++ [Value.int .i64 0])
theorem qzX:qam [qgA] []:=by
 refine ⟨⟨⟨_,rfl,by decide⟩,fun j hj=>?_,fun j h1 h2=>?_⟩,fun x hx=>absurd hx (by simp),by decide,by decide,fun j hj=>absurd hj (by simp)⟩
 ·exact (by decide:∀ j:Fin 8,0 <= qa [qgA] j.val/\qa [qgA] j.val < 4294967296) ⟨j,hj⟩
 ·exact (by decide:∀ j:Fin 72,8 <= j.val->0 <= qa [qgA] j.val/\qa [qgA] j.val < 256) ⟨j,h2⟩ h1
theorem qi7 {d e:List (List Value)} {m:List Int} (h:qam d m) (h1:qC e 73) (h2:∀ j,j < 73->qa e j = qa d j):qam e m:=by
 obtain ⟨⟨a1,a2,a3⟩,b,c,d',f⟩:=h
 refine ⟨⟨h1,fun j hj=>by rw [h2 j (by omega)]; exact a2 j hj,fun j hj hj2=>by rw [h2 j (by omega)]; exact a3 j hj hj2⟩,b,by rw [h2 72 (by omega)]; exact c,by rw [qlk (e:=d) (fun j hj=>h2 j (by omega))]; exact d',fun j hj=>by rw [h2 _ (by omega)]; exact f j hj⟩
def qi2 (f:Nat->Int):List Value:=(List.range 73).map fun j=>.int (if j < 8 then .u32 else if j < 72 then .u8 else .i64) (f j)
theorem qsP {f:Nat->Int} {j:Nat} (h:j < 73):qa [qi2 f] j = f j:=by
 simp [qa,qi2,h,qS]
theorem qsU {f:Nat->Int}:qC [qi2 f] 73:=⟨_,rfl,by simp [qi2]⟩
theorem q6Z {d:List (List Value)} {n:Nat} {v:Int} (h1:1 <= n) (h2:n <= 64) (hd:qC d 72) (hc:∀ j,j < 72->qa d j = if j = 0 then 128 else if n <= j/\j < n + 8 then (beL v 8)[j - n]?.getD 0 else 0):qdr d 0 ((n + 8:Nat):Int) = 128 :: (List.replicate (n - 1) 0 ++ beL v 8):=by
 have hl:(qdr d 0 ((n + 8:Nat):Int)).length = n + 8:=quE (by omega)
 refine jdz (by rw [hl]; simp [qaq]; omega) fun i i1 i2=>?_
 rw [hl] at i1
 have e1:(qdr d 0 ((n + 8:Nat):Int))[i] = qa d i:=by
  simp [qdr,qd]
 rw [e1,hc i (by omega)]
 by_cases e:i = 0
 ·subst e; simp
 ·rw [jaf e,List.getElem_cons,dif_neg e]
  by_cases hn:n <= i
  ·rw [jah ⟨hn,by omega⟩,List.getElem_append_right (by simp; omega)]
   have:i - 1 - (List.replicate (n - 1) (0:Int)).length = i - n:=by simp; omega
   simp only [this]
   rw [jac (by rw [qaq]; omega)]; rfl
  ·rw [jaf (by omega),List.getElem_append_left (by simp; omega),List.getElem_replicate]
theorem qqA {v:Int} {n j:Nat} (h:j < n):(beL v n)[j]?.getD 0 = (v.fdiv (2 ^ (8 * (n - 1 - j)))) % 256:=by
 simp [beL,h]
theorem qgv {x:Int}:IntKind.u8.wrap x = x % 256:=by
 simp [IntKind.wrap,IntKind.bits,IntKind.signed]
theorem q6K {d:List (List Value)} (h:qbJ d) {k:Nat} (hk:k < 8):(stL (stW d)).getD k 0 = qa d k:=by
 have h8:stL (stW d) = [ofW (toW (qa d 0)),ofW (toW (qa d 1)),ofW (toW (qa d 2)),ofW (toW (qa d 3)),ofW (toW (qa d 4)),ofW (toW (qa d 5)),ofW (toW (qa d 6)),ofW (toW (qa d 7))]:=rfl
 rw [h8,qbf (h.2.1 0 (by omega)),qbf (h.2.1 1 (by omega)),qbf (h.2.1 2 (by omega)),qbf (h.2.1 3 (by omega)),qbf (h.2.1 4 (by omega)),qbf (h.2.1 5 (by omega)),qbf (h.2.1 6 (by omega)),qbf (h.2.1 7 (by omega))]
 match k,hk with
 | 0,_=>rfl
 | 1,_=>rfl
 | 2,_=>rfl
 | 3,_=>rfl
 | 4,_=>rfl
 | 5,_=>rfl
 | 6,_=>rfl
 | 7,_=>rfl
theorem qz5 {d:List (List Value)} (h:qbJ d) {t:Nat} (ht:t < 32):(qd3 (stW d))[t]?.getD 0 = ((qa d (t / 4)).fdiv (2 ^ (24 - 8 * (t % 4)))) % 256:=by
 rw [<- q6K h (by omega)]
 simp [qd3,ht]
theorem qrv {x:Int} {n:Nat} (hn:n <= 64):qe .shr .u64 x (n:Int) = x.fdiv (2 ^ n):=by
 show x.fdiv (2 ^ (min (n:Int).toNat 64)) = _
 rw [jar,jcv hn]
theorem qx9 {x:Int} {n:Nat} (hn:n <= 32):qe .shr .u32 x (n:Int) = x.fdiv (2 ^ n):=by
 show x.fdiv (2 ^ (min (n:Int).toNat 32)) = _
 rw [jar,jcv hn]
theorem qq4 {d:List (List Value)} {n:Nat} {l:List Int} (hl:l.length = n) (h:∀ j,j < n->qa d j = l[j]?.getD 0):qd d n = l:=by
 refine jdz (by rw [qcZ,hl]) fun i h1 h2=>?_
 rw [qcZ] at h1
 have:=h i h1
 rw [jac h2] at this
 simpa [qd] using this
def qdk (f:Nat->Int):List Value:=(List.range 32).map fun j=>.int .u8 (f j)
theorem qiD {f:Nat->Int} {j:Nat} (h:j < 32):qa [qdk f] j = f j:=by
 simp [qa,qdk,h,qS]
theorem q4k {d:List (List Value)} {n:Nat} {x:Int} (h:x ∈ qd d n):∃ j,j < n/\qa d j = x:=by
 obtain ⟨j,hj,e⟩:=jbb.1 h
 exact ⟨j,jb5.1 hj,e⟩
theorem q8X {t:Nat} (h:t < 32):qe .quo .i64 (t:Int) 4 = ((t / 4:Nat):Int):=by
 show IntKind.i64.wrap ((t:Int).tdiv 4) = _
 rw [jeh (by omega),Go.Proofs.wrap64 (by omega) (by omega)]; omega
theorem q8E {t:Nat}:qe .rem .i64 (t:Int) 4 = ((t % 4:Nat):Int):=by
 show (t:Int).tmod 4 = _
 rw [jdx (by omega)]; omega
end Go.Eng
set_option maxRecDepth 100000
namespace Go.Eng
open Go
def qca (f:Nat->Int) (len n:Nat):List Int:=(List.range len).map fun i=>if i < n then f i else 0
def qa7 (n m:Nat):List Int:=(List.range (n * n)).map fun t=>if t / n = t % n/\t / n < m then 1 else 0
def qmE (cols:Nat) (i:Nat):Int:=qgM (i / cols:Nat) (i % cols:Nat)
def qbq (rows cols:Nat):List Int:=qca (qmE cols) (rows * cols) (rows * cols)
def qcg (a b:List Int) (ra ca cb:Nat):Nat->List Int
 | 0=>List.replicate (ra * cb) 0
 | t + 1=>qag (qcg a b ra ca cb t) (t / ca * cb) (seg b (t % ca * cb) cb) (a.getD t 0)
def qmF (a b:List Int) (ra ca cb:Nat):List Int:=qcg a b ra ca cb (ra * ca)
def qcH (a:List Int) (ca c:Nat):Nat->Nat->Nat
 | p,0=>p
 | p,n + 1=>if a.getD (p * ca + c) 0 = 0 then qcH a ca c (p + 1) n else p
def qaA (ca cb rank c:Nat) (a b:List Int):Nat->List Int × List Int
 | 0=>(a,b)
 | i + 1 =>
  let s:=qaA ca cb rank c a b i
  if i = rank then s else
   (qag s.1 (i * ca) (seg s.1 (rank * ca) ca) (s.1.getD (i * ca + c) 0),qag s.2 (i * cb) (seg s.2 (rank * cb) cb) (s.1.getD (i * ca + c) 0))
def qbA (ca cb rank p:Nat) (a b:List Int):List Int × List Int :=
 if p = rank then (a,b) else (qag a (rank * ca) (seg a (p * ca) ca) 1,qag b (rank * cb) (seg b (p * cb) cb) 1)
def qgJ (ca cb rank c:Nat) (a b:List Int):List Int × List Int :=
 (qbc a (rank * ca) ca (qfy (a.getD (rank * ca + c) 0)),qbc b (rank * cb) cb (qfy (a.getD (rank * ca + c) 0)))
def qfS (rows ca cb c:Nat) (s:List Int × List Int × Nat):List Int × List Int :=
 let s1:=qbA ca cb s.2.2 (qcH s.1 ca c s.2.2 (rows - s.2.2)) s.1 s.2.1
 qgJ ca cb s.2.2 c s1.1 s1.2
def qc8 (rows ca cb c:Nat) (s:List Int × List Int × Nat):List Int × List Int × Nat :=
 if rows <= s.2.2 then s else
  if qcH s.1 ca c s.2.2 (rows - s.2.2) = rows then s else
   let s3:=qaA ca cb s.2.2 c (qfS rows ca cb c s).1 (qfS rows ca cb c s).2 rows
   (s3.1,s3.2,s.2.2 + 1)
def qbP (rows ca cb:Nat) (a b:List Int):Nat->List Int × List Int × Nat
 | 0=>(a,b,0)
 | c + 1=>qc8 rows ca cb c (qbP rows ca cb a b c)
def qu3 (a b:T) (r l c:Nat):Bool × List T:=(true,[.vint .i64 a,.vint .i64 b,.vslice r (.lit 0) (.var l) (.var c) 1])
def qq9:Bool × List T:=(true,[.vint .i64 (.lit 0),.vint .i64 (.lit 0),.vnils])
def qc3 (t:T):Bool × List T:=(false,[.vint .i64 t])
def qfE:Ctr:={ fn := 166,nv:=1,args:=[iv .i64 (.var 0)],heap:=[],ro:=[],pre:=fun _=>True,alts:=[
 { k:=0,ret:=.tup [qq9,qc3 (.lit 2)],heap:=[],post:=fun Z=>(Z 0).i < 1∨255 < (Z 0).i },
 { k:=4,ret:=.tup [qu3 (.var 0) (.var 0) 1 2 3,qc3 (.lit 0)],heap:=[bHp 1 4 3],post:=fun Z=>1 <= (Z 0).i/\(Z 0).i <= 255/\qe0 (Z 0).i (Z 0).i (Z 2).i (Z 3).i (Z 4).d/\(Z 2).i = (Z 4).d.length/\bI (Z 4).d = qa7 (Z 0).i.toNat (Z 0).i.toNat }] }
def qvl:Inv:={ key:=5,nv:=7,env:=[(0,iv .i64 (.var 0)),(2,.one (.vptr 1006 (.lit 0) 3 0)),(4,.one (.vptr 1005 (.lit 0) 3 0)),(16,iv .i64 (.var 0)),(17,iv .i64 (.var 1000))],heap:=[.cells 1005 200 [.vint .i64 (.var 0),.vint .i64 (.var 0),.vslice 1001 (.lit 0) (.var 1002) (.var 1003) 1],.cells 1006 200 [.vint .i64 (.lit 0),.vint .i64 (.lit 0),.vnils],bHp 1001 1004 1003],inv:=(fun Z=>1 <= (Z 0).i/\(Z 0).i <= 255/\0 <= (Z 1000).i/\(Z 1000).i <= (Z 0).i/\qe0 (Z 0).i (Z 0).i (Z 1002).i (Z 1003).i (Z 1004).d/\(Z 1002).i = (Z 1004).d.length/\bI (Z 1004).d = qa7 (Z 0).i.toNat (Z 1000).i.toNat),mu:=(fun Z=>((Z 0).i - (Z 1000).i).toNat) }
def qco (r c:Int):Prop:=r < 1∨255 < r∨c < 1∨255 < c
def qeI:Ctr:={ fn := 150,nv:=4,args:=[qbw,iv .i64 (.var 2),iv .i64 (.var 3)],heap:=[fHp 1],ro:=[],pre:=fun Z=>qx (Z 1).d,alts:=[
 { k:=1,ret:=.tup [qq9,qc3 (.lit 2)],heap:=[fHp 4],post:=fun Z=>qx (Z 4).d/\qco (Z 2).i (Z 3).i },
 { k:=5,ret:=.tup [qu3 (.var 2) (.var 3) 4 5 6,qc3 (.lit 0)],heap:=[fHp 7,bHp 4 8 6],post:=fun Z=>qx (Z 7).d/\¬ qco (Z 2).i (Z 3).i/\qe0 (Z 2).i (Z 3).i (Z 5).i (Z 6).i (Z 8).d/\(Z 5).i = (Z 8).d.length/\bI (Z 8).d = qbq (Z 2).i.toNat (Z 3).i.toNat }] }
def q2o:List SH:=[fHp 1006,.cells 1007 200 [.vint .i64 (.lit 0),.vint .i64 (.lit 0),.vnils],.cells 1005 200 [.vint .i64 (.var 2),.vint .i64 (.var 3),.vslice 1001 (.lit 0) (.var 1002) (.var 1003) 1],bHp 1001 1004 1003]
def qrc (Z:Env) (n:Int):Prop:=¬ qco (Z 2).i (Z 3).i/\qx (Z 1006).d/\qe0 (Z 2).i (Z 3).i (Z 1002).i (Z 1003).i (Z 1004).d/\(Z 1002).i = (Z 1004).d.length/\bI (Z 1004).d = qca (qmE (Z 3).i.toNat) ((Z 2).i.toNat * (Z 3).i.toNat) n.toNat
def qsc:Inv:={ key:=7,nv:=8,env:=[(0,qbw),(1,iv .i64 (.var 2)),(2,iv .i64 (.var 3)),(6,.one (.vptr 1007 (.lit 0) 3 0)),(8,.one (.vptr 1005 (.lit 0) 3 0)),(32,iv .i64 (.var 2)),(33,iv .i64 (.var 1000))],heap:=q2o,inv:=(fun Z=>0 <= (Z 1000).i/\(Z 1000).i <= (Z 2).i/\qrc Z ((Z 1000).i * (Z 3).i)),mu:=(fun Z=>((Z 2).i - (Z 1000).i).toNat) }
def qrS:Inv:={ key:=10,nv:=9,env:=[(0,qbw),(1,iv .i64 (.var 2)),(2,iv .i64 (.var 3)),(6,.one (.vptr 1007 (.lit 0) 3 0)),(8,.one (.vptr 1005 (.lit 0) 3 0)),(32,iv .i64 (.var 2)),(33,iv .i64 (.var 1000)),(9,iv .i64 (.var 1000)),(36,iv .i64 (.var 3)),(37,iv .i64 (.var 1008))],heap:=q2o,inv:=(fun Z=>0 <= (Z 1000).i/\(Z 1000).i < (Z 2).i/\0 <= (Z 1008).i/\(Z 1008).i <= (Z 3).i/\qrc Z ((Z 1000).i * (Z 3).i + (Z 1008).i)/\(Z 1000).i = (Z 10).i),mu:=(fun Z=>((Z 3).i - (Z 1008).i).toNat) }
def q3O:SV:=qqQ 2 3 4 5 6
def q8U:SV:=qqQ 9 10 11 12 13
def qbe (r c l:Int):Prop:=1 <= r/\r <= 255/\1 <= c/\c <= 255/\l = r * c
def qiZ:Ctr:={ fn := 151,nv:=16,args:=[qbw,q3O,q8U],heap:=[fHp 1],ro:=[bHp 4 7 8,bHp 11 14 15],pre:=fun Z=>qx (Z 1).d/\0 <= (Z 5).i/\(Z 5).i <= (Z 6).i/\(Z 5).i <= (Z 7).d.length/\q6 (Z 7).d/\0 <= (Z 12).i/\(Z 12).i <= (Z 13).i/\(Z 12).i <= (Z 14).d.length/\q6 (Z 14).d,alts:=[
 { k:=1,ret:=.tup [qq9,qc3 (.lit 2)],heap:=[fHp 16],post:=fun Z=>qx (Z 16).d/\¬ (qbe (Z 2).i (Z 3).i (Z 5).i/\qbe (Z 9).i (Z 10).i (Z 12).i) },
 { k:=1,ret:=.tup [qq9,qc3 (.lit 10)],heap:=[fHp 16],post:=fun Z=>qx (Z 16).d/\qbe (Z 2).i (Z 3).i (Z 5).i/\qbe (Z 9).i (Z 10).i (Z 12).i/\(Z 3).i ≠ (Z 9).i },
 { k:=5,ret:=.tup [qu3 (.var 2) (.var 10) 16 17 18,qc3 (.lit 0)],heap:=[fHp 19,bHp 16 20 18],post:=fun Z=>qx (Z 19).d/\qbe (Z 2).i (Z 3).i (Z 5).i/\qbe (Z 9).i (Z 10).i (Z 12).i/\(Z 3).i = (Z 9).i/\qe0 (Z 2).i (Z 10).i (Z 17).i (Z 18).i (Z 20).d/\(Z 17).i = (Z 20).d.length/\bI (Z 20).d = qmF ((bI (Z 7).d).take (Z 5).i.toNat) ((bI (Z 14).d).take (Z 12).i.toNat) (Z 2).i.toNat (Z 3).i.toNat (Z 10).i.toNat }] }
def q9Y (r:Nat):SH:=.cells r 200 [.vint .i64 (.lit 0),.vint .i64 (.lit 0),.vnils]
def qre (r a b s l c:Nat):SH:=.cells r 200 [.vint .i64 (.var a),.vint .i64 (.var b),.vslice s (.lit 0) (.var l) (.var c) 1]
def q2k:List SH:=[fHp 1006,q9Y 1009,qre 1007 2 3 4 5 6,qre 1008 9 10 11 12 13,qre 1005 2 10 1001 1002 1003,bHp 1001 1004 1003]
def qy4:List (Nat × SV):=[(0,qbw),(6,.one (.vptr 1009 (.lit 0) 3 0)),(4,.one (.vptr 1007 (.lit 0) 3 0)),(5,.one (.vptr 1008 (.lit 0) 3 0)),(8,.one (.vptr 1005 (.lit 0) 3 0)),(36,iv .i64 (.var 2)),(37,iv .i64 (.var 1000))]
def qqU (Z:Env) (t:Int):Prop:=qbe (Z 2).i (Z 3).i (Z 5).i/\qbe (Z 9).i (Z 10).i (Z 12).i/\(Z 3).i = (Z 9).i/\qx (Z 1006).d/\qe0 (Z 2).i (Z 10).i (Z 1002).i (Z 1003).i (Z 1004).d/\(Z 1002).i = (Z 1004).d.length/\bI (Z 1004).d = qcg ((bI (Z 7).d).take (Z 5).i.toNat) ((bI (Z 14).d).take (Z 12).i.toNat) (Z 2).i.toNat (Z 3).i.toNat (Z 10).i.toNat t.toNat
def qxP:Inv:={ key:=9,nv:=10,env:=qy4,heap:=q2k,inv:=(fun Z=>0 <= (Z 1000).i/\(Z 1000).i <= (Z 2).i/\qqU Z ((Z 1000).i * (Z 3).i)),mu:=(fun Z=>((Z 2).i - (Z 1000).i).toNat) }
def qxV:Inv:={ key:=12,nv:=14,env:=qy4 ++ [(9,iv .i64 (.var 1000)),(42,bSl 4 1011 1012 1013),(43,iv .i64 (.var 1012)),(44,iv .i64 (.var 1010))],heap:=q2k,inv:=(fun Z=>0 <= (Z 1000).i/\(Z 1000).i < (Z 2).i/\0 <= (Z 1010).i/\(Z 1010).i <= (Z 3).i/\(Z 1011).i = (Z 1000).i * (Z 3).i/\(Z 1012).i = (Z 3).i/\qqU Z ((Z 1000).i * (Z 3).i + (Z 1010).i)/\(Z 1000).i = (Z 26).i),mu:=(fun Z=>((Z 3).i - (Z 1010).i).toNat) }
def qyQ:Nat := 223
def wrA:SV:=.one (.vptr 0 (.lit 0) 3 0)
def qae (l f r n c:Nat):SH:=.cells 0 qyQ [.vint .i64 (.var l),.vbool (.var f),.vslice r (.lit 0) (.var n) (.var c) 1]
def wOk (lim:Int) (n c:Int) (d:List (List Value)):Prop:=0 <= lim/\lim < 9223372036854775808/\n = d.length/\n <= lim/\q6 d
def qgh (lim:Int) (f:Bool) (m:List Int) (k:Int):Bool:=f || decide (lim - m.length < k)
def qf0 (lim:Int) (f:Bool) (m s:List Int):Bool × List Int:=if qgh lim f m s.length then (true,m) else (false,m ++ s)
def qbO (l f r n c d:Nat):List SH:=[qae l f r n c,bHp r d c]
def qgY:Ctr:={ fn := 132,nv:=8,args:=[wrA,iv .i64 (.var 7)],heap:=qbO 1 2 3 4 5 6,ro:=[],pre:=fun Z=>wOk (Z 1).i (Z 4).i (Z 5).i (Z 6).d/\0 <= (Z 7).i/\(Z 7).i < 1152921504606846976,alts:=[
 { k:=2,ret:=.one (.vbool (.var 8)),heap:=qbO 1 9 3 4 5 6,post:=fun Z=>(Z 9).b = qgh (Z 1).i (Z 2).b (bI (Z 6).d) (Z 7).i/\(Z 8).b = !(Z 9).b }] }
def qgo (Z:Env) (n:Nat) (s:List Int):Prop:=wOk (Z 1).i (Z (n + 2)).i (Z (n + 3)).i (Z (n + 4)).d/\((Z n).b,bI (Z (n + 4)).d) = qf0 (Z 1).i (Z 2).b (bI (Z 6).d) s
def qga:Ctr:={ fn := 131,nv:=9,args:=[wrA,.one (.vint .u64 (.var 7)),iv .i64 (.var 8)],heap:=qbO 1 2 3 4 5 6,ro:=[],pre:=fun Z=>wOk (Z 1).i (Z 4).i (Z 5).i (Z 6).d/\(Z 4).i + 8 <= 140737488355328/\0 <= (Z 8).i/\(Z 8).i <= 8/\0 <= (Z 7).i/\(Z 7).i < 18446744073709551616,alts:=[
 { k:=5,ret:=.tup [],heap:=qbO 1 9 10 11 12 13,post:=fun Z=>qgo Z 9 (beL (Z 7).i (Z 8).i.toNat) }] }
def qy1:Inv:={ key:=2,nv:=5,env:=[(0,wrA),(1,.one (.vint .u64 (.var 7))),(2,iv .i64 (.var 8)),(6,iv .i64 (.var 1004))],heap:=[.cells 0 qyQ [.vint .i64 (.var 1),.vbool (.bl false),.vslice 1000 (.lit 0) (.var 1001) (.var 1002) 1],bHp 1000 1003 1002],inv:=(fun Z=>-1 <= (Z 1004).i/\(Z 1004).i < (Z 8).i/\(Z 1001).i = (Z 1003).d.length/\(Z 2).b = false/\(Z 8).i <= (Z 1).i - (Z 4).i/\q6 (Z 1003).d/\bI (Z 1003).d = bI (Z 6).d ++ (beL (Z 7).i (Z 8).i.toNat).take ((Z 8).i - 1 - (Z 1004).i).toNat),mu:=(fun Z=>((Z 1004).i + 1).toNat) }
def qqv (fn:Nat) (k:IntKind) (n:Nat):Ctr:={ fn:=fn,nv:=8,args:=[wrA,.one (.vint k (.var 7))],heap:=qbO 1 2 3 4 5 6,ro:=[],pre:=fun Z=>wOk (Z 1).i (Z 4).i (Z 5).i (Z 6).d/\(Z 4).i + 8 <= 140737488355328/\0 <= (Z 7).i/\(Z 7).i < 256 ^ n,alts:=[
 { k:=5,ret:=.tup [],heap:=qbO 1 8 9 10 11 12,post:=fun Z=>qgo Z 8 (beL (Z 7).i n) }] }
def u8C:Ctr:=qqv 106 .u8 1
def qv0:Ctr:=qqv 105 .u16 2
def qfj:Ctr:={ fn := 104,nv:=1,args:=[iv .i64 (.var 0)],heap:=[],ro:=[],pre:=fun _=>True,alts:=[
 { k:=4,ret:=.one (.vptr 1 (.lit 0) 3 0),heap:=[.cells 1 qyQ [.vint .i64 (.var 2),.vbool (.bl false),.vnils]],post:=fun Z=>(Z 2).i = max 0 (Z 0).i }] }
def qlT:Ctr:={ fn := 107,nv:=9,args:=[wrA,.one (.vslice 7 (.lit 0) (.lit 32) (.lit 32) 1)],heap:=qbO 1 2 3 4 5 6,ro:=[q4t 7 8],pre:=fun Z=>wOk (Z 1).i (Z 4).i (Z 5).i (Z 6).d/\(Z 4).i + 32 <= 140737488355328/\qC (Z 8).d 32/\qH (qd (Z 8).d 32),alts:=[
 { k:=5,ret:=.tup [],heap:=qbO 1 9 10 11 12 13,post:=fun Z=>qgo Z 9 (qd (Z 8).d 32) }] }
def qvL:List CK:=List.replicate 4 (.int .i64) ++ (List.replicate 32 (.int .u8) ++ [.any])
def q9I (r d:Nat):SH:=.arr r 27 qvL (.var d) (.lit 1)
def qoI:Ctr:={ fn := 107,nv:=9,args:=[wrA,.one (.vslice 7 (.lit 4) (.lit 32) (.lit 32) 1)],heap:=qbO 1 2 3 4 5 6,ro:=[q9I 7 8],pre:=fun Z=>wOk (Z 1).i (Z 4).i (Z 5).i (Z 6).d/\(Z 4).i + 32 <= 140737488355328/\qC (Z 8).d 37/\qH ((qd (Z 8).d 36).drop 4),alts:=[
 { k:=5,ret:=.tup [],heap:=qbO 1 9 10 11 12 13,post:=fun Z=>qgo Z 9 ((qd (Z 8).d 36).drop 4) }] }
def qlr:Ctr:={ fn := 108,nv:=7,args:=[wrA],heap:=[],ro:=qbO 1 2 3 4 5 6,pre:=fun Z=>wOk (Z 1).i (Z 4).i (Z 5).i (Z 6).d/\(Z 4).i <= 140737488355328,alts:=[
 { k:=0,ret:=.tup [(false,[.vnils]),qc3 (.lit 3)],heap:=[],post:=fun Z=>(Z 2).b = true },
 { k:=4,ret:=.tup [(false,[.vslice 7 (.lit 0) (.var 4) (.var 8) 1]),qc3 (.lit 0)],heap:=[bHp 7 9 8],post:=fun Z=>(Z 2).b = false/\(Z 9).d = (Z 6).d }] }
def qfP:Ctr:={ fn := 91,nv:=5,args:=[.one (.vslice 0 (.lit 0) (.var 1) (.var 2) 1)],heap:=[],ro:=[bHp 0 3 4],pre:=fun Z=>0 <= (Z 1).i/\(Z 1).i = (Z 3).d.length/\(Z 1).i <= 140737488355328,alts:=[
 { k:=3,ret:=.one (.vslice 5 (.lit 0) (.var 1) (.var 6) 1),heap:=[bHp 5 7 6],post:=fun Z=>(Z 7).d = (Z 3).d }] }
def qqW:Ctr:={ qfE with pre:=fun Z=>1 <= (Z 0).i/\(Z 0).i <= 255,alts:=qfE.alts.drop 1 }
def qnJ:Ctr:={ qeI with pre:=fun Z=>qx (Z 1).d/\¬ qco (Z 2).i (Z 3).i,alts:=qeI.alts.drop 1 }
def qq1:Ctr:={ qhN with alts:=[{ k:=3,ret:=.agg [.vint .i64 (.var 0),.vint .i64 (.var 1),.vslice 7 (.lit 0) (.var 3) (.var 8) 1],heap:=[bHp 7 9 8],post:=fun Z=>(Z 9).d = (Z 5).d.take (Z 3).i.toNat/\((Z 9).d.length:Int) <= (Z 8).i }] }
def qV (r c l cap:Int) (d:qf):Prop:=qe0 r c l cap d/\l = d.length
def qjx:Ctr:={ fn := 167,nv:=16,args:=[qbw,q3O,q8U],heap:=[fHp 1,bHp 4 7 8,bHp 11 14 15],ro:=[],pre:=fun Z=>qx (Z 1).d/\qV (Z 2).i (Z 3).i (Z 5).i (Z 6).i (Z 7).d/\qV (Z 9).i (Z 10).i (Z 12).i (Z 13).i (Z 14).d/\(Z 9).i = (Z 2).i,alts:=[
 { k:=4,ret:=iv .i64 (.var 16),heap:=[fHp 17,bHp 4 18 8,bHp 11 19 15],post:=fun Z=>qx (Z 17).d/\qV (Z 2).i (Z 3).i (Z 5).i (Z 6).i (Z 18).d/\qV (Z 9).i (Z 10).i (Z 12).i (Z 13).i (Z 19).d/\0 <= (Z 16).i/\(Z 16).i <= (Z 2).i/\(bI (Z 18).d,bI (Z 19).d,(Z 16).i.toNat) = qbP (Z 2).i.toNat (Z 3).i.toNat (Z 10).i.toNat (bI (Z 7).d) (bI (Z 14).d) (Z 3).i.toNat }] }
def qv9:List SH:=[fHp 1002,qre 1003 2 3 4 5 6,qre 1004 9 10 11 12 13,bHp 4 1005 8,bHp 11 1006 15]
def qrk:List (Nat × SV):=[(0,qbw),(4,.one (.vptr 1003 (.lit 0) 3 0)),(5,.one (.vptr 1004 (.lit 0) 3 0)),(7,iv .i64 (.var 1000)),(8,iv .i64 (.var 1001))]
def q6i (r ca cb l1 c1 l2 c2 rank c:Int) (f da db:qf):Prop:=qx f/\qV r ca l1 c1 da/\qV r cb l2 c2 db/\0 <= rank/\rank <= r/\0 <= c/\c <= ca
def qcz (r ca cb l1 c1 l2 c2 rank c:Int) (f da db a0 b0:qf):Prop:=q6i r ca cb l1 c1 l2 c2 rank c f da db/\(bI da,bI db,rank.toNat) = qbP r.toNat ca.toNat cb.toNat (bI a0) (bI b0) c.toNat
def qx3:Inv:={ key:=3,nv:=7,env:=qrk,heap:=qv9,inv:=(fun Z=>qcz (Z 2).i (Z 3).i (Z 10).i (Z 5).i (Z 6).i (Z 12).i (Z 13).i (Z 1000).i (Z 1001).i (Z 1002).d (Z 1005).d (Z 1006).d (Z 7).d (Z 14).d),mu:=(fun Z=>((Z 3).i - (Z 1001).i).toNat) }
def qdP (r ca cb l1 c1 l2 c2 rank c p:Int) (f da db a0 b0:qf):Prop:=qcz r ca cb l1 c1 l2 c2 rank c f da db a0 b0/\rank < r/\c < ca/\rank <= p/\p <= r/\qcH (bI da) ca.toNat c.toNat p.toNat (r.toNat - p.toNat) = qcH (bI da) ca.toNat c.toNat rank.toNat (r.toNat - rank.toNat)
def qxq:Inv:={ key:=6,nv:=8,env:=qrk ++ [(9,iv .i64 (.var 1007))],heap:=qv9,inv:=(fun Z=>qdP (Z 2).i (Z 3).i (Z 10).i (Z 5).i (Z 6).i (Z 12).i (Z 13).i (Z 1000).i (Z 1001).i (Z 1007).i (Z 1002).d (Z 1005).d (Z 1006).d (Z 7).d (Z 14).d/\(Z 1001).i = (Z 19).i),mu:=(fun Z=>((Z 2).i - (Z 1007).i).toNat) }
def qcE (r ca cb l1 c1 l2 c2 rank c i:Int) (f da db a0 b0:qf):Prop :=
 q6i r ca cb l1 c1 l2 c2 rank c f da db/\rank < r/\c < ca/\0 <= i/\i <= r/\∃ s,s = qbP r.toNat ca.toNat cb.toNat (bI a0) (bI b0) c.toNat/\s.2.2 = rank.toNat /\
  qcH s.1 ca.toNat c.toNat rank.toNat (r.toNat - rank.toNat) ≠ r.toNat /\
  (bI da,bI db) = qaA ca.toNat cb.toNat rank.toNat c.toNat (qfS r.toNat ca.toNat cb.toNat c.toNat s).1 (qfS r.toNat ca.toNat cb.toNat c.toNat s).2 i.toNat
def qyh:Inv:={ key:=16,nv:=8,env:=qrk ++ [(97,iv .i64 (.var 2)),(98,iv .i64 (.var 1007))],heap:=qv9,inv:=(fun Z=>qcE (Z 2).i (Z 3).i (Z 10).i (Z 5).i (Z 6).i (Z 12).i (Z 13).i (Z 1000).i (Z 1001).i (Z 1007).i (Z 1002).d (Z 1005).d (Z 1006).d (Z 7).d (Z 14).d/\(Z 1001).i = (Z 19).i),mu:=(fun Z=>((Z 2).i - (Z 1007).i).toNat) }
def qeg (m:List Int) (n:Nat):List Int × List Int × Nat:=qbP n n n m (qa7 n n) n
def qf5:Ctr:={ fn := 134,nv:=9,args:=[qbw,q3O],heap:=[fHp 1],ro:=[bHp 4 7 8],pre:=fun Z=>qx (Z 1).d/\0 <= (Z 5).i/\(Z 5).i <= (Z 6).i/\(Z 5).i <= (Z 7).d.length/\q6 (Z 7).d,alts:=[
 { k:=2,ret:=.tup [qq9,qc3 (.var 9)],heap:=[fHp 10],post:=fun Z=>qx (Z 10).d/\((¬ qbe (Z 2).i (Z 3).i (Z 5).i/\(Z 9).i = 2)∨(qbe (Z 2).i (Z 3).i (Z 5).i/\(Z 2).i ≠ (Z 3).i/\(Z 9).i = 10)∨(qbe (Z 2).i (Z 3).i (Z 5).i/\(Z 2).i = (Z 3).i/\(qeg ((bI (Z 7).d).take (Z 5).i.toNat) (Z 2).i.toNat).2.2 < (Z 2).i.toNat/\(Z 9).i = 11)) },
 { k:=5,ret:=.tup [qu3 (.var 2) (.var 2) 9 10 11,qc3 (.lit 0)],heap:=[fHp 12,bHp 9 13 11],post:=fun Z=>qx (Z 12).d/\qbe (Z 2).i (Z 3).i (Z 5).i/\(Z 2).i = (Z 3).i/\qV (Z 2).i (Z 2).i (Z 10).i (Z 11).i (Z 13).d/\(qeg ((bI (Z 7).d).take (Z 5).i.toNat) (Z 2).i.toNat).2.2 = (Z 2).i.toNat/\bI (Z 13).d = (qeg ((bI (Z 7).d).take (Z 5).i.toNat) (Z 2).i.toNat).2.1 }] }
def qbX (k total:Nat):List Int × List Int × Nat:=qeg ((qbq total k).take (k * k)) k
def qcG (k total:Nat):List Int:=qmF (qbq total k) (qbX k total).2.1 total k k
def qje:Ctr:={ fn := 122,nv:=4,args:=[qbw,iv .i64 (.var 2),iv .i64 (.var 3)],heap:=[fHp 1],ro:=[],pre:=fun Z=>qx (Z 1).d,alts:=[
 { k:=1,ret:=.tup [qq9,qc3 (.lit 2)],heap:=[fHp 4],post:=fun Z=>qx (Z 4).d/\(qaD (Z 2).i (Z 3).i = true->(qbX (Z 2).i.toNat (Z 3).i.toNat).2.2 < (Z 2).i.toNat) },
 { k:=6,ret:=.tup [qu3 (.var 3) (.var 2) 4 5 6,qc3 (.lit 0)],heap:=[fHp 7,bHp 4 8 6,.abs 9 2],post:=fun Z=>qx (Z 7).d/\qaD (Z 2).i (Z 3).i = true/\qV (Z 3).i (Z 2).i (Z 5).i (Z 6).i (Z 8).d/\(qbX (Z 2).i.toNat (Z 3).i.toNat).2.2 = (Z 2).i.toNat/\bI (Z 8).d = qcG (Z 2).i.toNat (Z 3).i.toNat }] }
def qzA:Ctr:={ qje with pre:=fun Z=>qx (Z 1).d/\qaD (Z 2).i (Z 3).i = true/\(qbX (Z 2).i.toNat (Z 3).i.toNat).2.2 = (Z 2).i.toNat,alts:=qje.alts.drop 1 }
def qio (data:List Int) (n:Nat):List Int:=data ++ List.replicate (n - data.length) 0
def qF (k len:Nat):Nat:=(len + k - 1) / k
def qcb (g full:List Int) (k l i:Nat):Nat->List Int
 | 0=>List.replicate l 0
 | j + 1=>qag (qcb g full k l i j) 0 (seg full (j * l) l) (g.getD (i * k + j) 0)
def qdt (k total:Nat) (data:List Int) (i:Nat):List Int :=
 qcb (qcG k total) (qio data (k * qF k data.length)) k (qF k data.length) i k
def qj1:List CK:=[.int .i64,.any]
def qff (h:Hp) (D:qf) (n:Nat) (f:Nat->List Int):Prop:=∀ j,j < n->∃ v d,D[j]? = some [.int .i64 j,v]/\Rd h kB v d/\bI d = f j/\q6 d
def qgB:Ctr:={ fn := 87,nv:=9,args:=[qbw,iv .i64 (.var 2),iv .i64 (.var 3),.one (.vslice 4 (.lit 0) (.var 5) (.var 6) 1)],heap:=[fHp 1],ro:=[bHp 4 7 8],pre:=fun Z=>qx (Z 1).d/\(Z 5).i = (Z 7).d.length/\q6 (Z 7).d/\(qaD (Z 2).i (Z 3).i = true->(qbX (Z 2).i.toNat (Z 3).i.toNat).2.2 = (Z 2).i.toNat),alts:=[
 { k:=2,ret:=.tup [(false,[.vnils]),qc3 (.var 9)],heap:=[fHp 10],post:=fun Z=>qx (Z 10).d/\((qaD (Z 2).i (Z 3).i = false/\(Z 9).i = 2)∨(qaD (Z 2).i (Z 3).i = true/\8192 < (Z 5).i/\(Z 9).i = 3)) },
 { k:=5,ret:=.tup [(false,[.vslice 9 (.lit 0) (.var 3) (.var 10) 2]),qc3 (.lit 0)],heap:=[fHp 11,.arr 9 86 qj1 (.var 12) (.var 10),.abs 13 2],post:=fun Z=>qx (Z 11).d/\qaD (Z 2).i (Z 3).i = true/\(Z 5).i <= 8192/\(Z 12).d.length = (Z 3).i.toNat/\qff (Z 13).h (Z 12).d (Z 3).i.toNat (qdt (Z 2).i.toNat (Z 3).i.toNat (bI (Z 7).d)) }] }
def q6k:List SH:=[fHp 1008,qre 1004 3 2 1009 1010 1011,bHp 1009 1012 1011,bHp 1001 1013 1003,.arr 1005 86 qj1 (.var 1014) (.var 1006)]
def q2z:List (Nat × SV):=[(0,qbw),(10,iv .i64 (.var 1000)),(12,.one (.vslice 1001 (.lit 0) (.var 1002) (.var 1003) 1)),(13,.one (.vptr 1004 (.lit 0) 3 0)),(15,.one (.vslice 1005 (.lit 0) (.var 3) (.var 1006) 2)),(53,iv .i64 (.var 3)),(54,iv .i64 (.var 1007))]
def qog (k total len l lf cf lg cg i:Int) (f dg df D data:qf):Prop :=
 qx f/\qaD k total = true/\len <= 8192/\len = data.length/\q6 data/\l = (qF k.toNat data.length:Nat)/\l <= 8192/\lf = k * l/\lf = df.length/\q6 df/\bI df = qio (bI data) (k.toNat * l.toNat) /\
  qV total k lg cg dg/\bI dg = qcG k.toNat total.toNat/\D.length = total.toNat/\(∀ row ∈ D,row.length = 2)/\0 <= i/\i <= total
def qsE:Inv:={ key:=13,nv:=16,env:=q2z,heap:=q6k ++ [.abs 1015 2],inv:=(fun Z=>qog (Z 2).i (Z 3).i (Z 5).i (Z 1000).i (Z 1002).i (Z 1003).i (Z 1010).i (Z 1011).i (Z 1007).i (Z 1008).d (Z 1012).d (Z 1013).d (Z 1014).d (Z 7).d/\qff (Z 1015).h (Z 1014).d (Z 1007).i.toNat (qdt (Z 2).i.toNat (Z 3).i.toNat (bI (Z 7).d))),mu:=(fun Z=>((Z 3).i - (Z 1007).i).toNat) }
def qrX:Inv:={ key:=17,nv:=23,env:=q2z ++ [(16,iv .i64 (.var 1007)),(17,.one (.vslice 1016 (.lit 0) (.var 1000) (.var 1017) 1)),(61,bSl 1009 1019 1020 1021),(62,iv .i64 (.var 1020)),(63,iv .i64 (.var 1022))],heap:=q6k ++ [bHp 1016 1018 1017,.abs 1015 2],inv:=(fun Z=>qog (Z 2).i (Z 3).i (Z 5).i (Z 1000).i (Z 1002).i (Z 1003).i (Z 1010).i (Z 1011).i (Z 1007).i (Z 1008).d (Z 1012).d (Z 1013).d (Z 1014).d (Z 7).d/\qff (Z 1015).h (Z 1014).d (Z 1007).i.toNat (qdt (Z 2).i.toNat (Z 3).i.toNat (bI (Z 7).d))/\(Z 1007).i = (Z 29).i/\(Z 1007).i < (Z 3).i/\(Z 1019).i = (Z 1007).i * (Z 2).i/\(Z 1020).i = (Z 2).i/\0 <= (Z 1022).i/\(Z 1022).i <= (Z 2).i/\(Z 1018).d.length = (Z 1000).i.toNat/\q6 (Z 1018).d/\bI (Z 1018).d = qcb (bI (Z 1012).d) (bI (Z 1013).d) (Z 2).i.toNat (Z 1000).i.toNat (Z 1007).i.toNat (Z 1022).i.toNat),mu:=(fun Z=>((Z 2).i - (Z 1022).i).toNat) }
def qbm (k n t:Int):Bool:=decide (1 <= k/\k <= n/\n <= t/\t <= 255)
def qJ (k n t s l:Int):Bool:=qbm k n t && decide (0 <= s/\s <= 8192/\l = t)
def qfM:Ctr:={ fn := 86,nv:=3,args:=[iv .i64 (.var 0),iv .i64 (.var 1),iv .i64 (.var 2)],heap:=[],ro:=[],pre:=fun _=>True,alts:=[
 { k:=1,ret:=.one (.vbool (.var 3)),heap:=[],post:=fun Z=>(Z 3).b = qbm (Z 0).i (Z 1).i (Z 2).i }] }
def qiH (k n t s o r l c:Nat):List T:=[.vint .i64 (.var k),.vint .i64 (.var n),.vint .i64 (.var t),.vint .i64 (.var s)] ++ (qaF .u8 o 32 ++ [.vslice r (.lit 0) (.var l) (.var c) 32])
def qfn (r d c:Nat):SH:=.arr r 24 k32 (.var d) (.var c)
def qod:SV:=.agg (qiH 0 1 2 3 4 5 6 7)
def qgN (row:List Value):List Int:=(List.range 32).map fun j=>qaJ row j
def dgs (d:List (List Value)):List (List Int):=d.map qgN
def qft (d:List (List Value)):Prop:=∀ row ∈ d,row.length = 32/\qH (qgN row)
def qfF:Ctr:={ fn := 74,nv:=10,args:=[qod],heap:=[],ro:=[qfn 5 8 9],pre:=fun Z=>0 <= (Z 6).i,alts:=[
 { k:=1,ret:=iv .i64 (.var 10),heap:=[],post:=fun Z=>(Z 10).i = if qJ (Z 0).i (Z 1).i (Z 2).i (Z 3).i (Z 6).i then 0 else 2 }] }
def qbV (i:Int):List Int:=[(i.fdiv 256) % 256,i % 256]
def qeC:Ctr:={ fn := 88,nv:=9,ip:=[gIp 7],args:=[iv .i64 (.var 0),bSl 1 2 3 4],heap:=[],ro:=[bHp 1 5 6,gHp 7 8],pre:=fun Z=>0 <= (Z 2).i/\0 <= (Z 3).i/\(Z 3).i <= (Z 4).i/\(Z 3).i < 576460752303423488/\(Z 2).i + (Z 3).i <= (Z 5).d.length/\q6 (Z 5).d/\gOk Z 7 8 gR,alts:=[
 { k:=1,ret:=dgV 9,heap:=[],post:=fun Z=>qd (Z 9).d 32 = sha (qbV (Z 0).i ++ qaG (Z 5).d (Z 2).i (Z 3).i) }] }
def qaM (k n t s:Int) (o:List Int):List Int:=beL 19713 2 ++ (beL (k % 256) 1 ++ (beL (n % 256) 1 ++ (beL (t % 256) 1 ++ (beL (s % 65536) 2 ++ o))))
def qj5:Ctr:={ fn := 73,nv:=10,args:=[qod],heap:=[],ro:=[qfn 5 8 9],pre:=fun Z=>0 <= (Z 6).i/\(Z 6).i = (Z 8).d.length/\qH (qd (Z 4).d 32)/\qft (Z 8).d,alts:=[
 { k:=0,ret:=.tup [(false,[.vnils]),qc3 (.lit 2)],heap:=[],post:=fun Z=>qJ (Z 0).i (Z 1).i (Z 2).i (Z 3).i (Z 6).i = false },
 { k:=4,ret:=.tup [(false,[.vslice 10 (.lit 0) (.var 11) (.var 12) 1]),qc3 (.lit 0)],heap:=[bHp 10 13 12],post:=fun Z=>qJ (Z 0).i (Z 1).i (Z 2).i (Z 3).i (Z 6).i = true/\(Z 11).i = (Z 13).d.length/\q6 (Z 13).d/\bI (Z 13).d = qaM (Z 0).i (Z 1).i (Z 2).i (Z 3).i (qd (Z 4).d 32) ++ (dgs (Z 8).d).flatten }] }
def qy0:Inv:={ key:=12,nv:=8,env:=[(5,.one (.vptr 1000 (.lit 0) 3 0)),(45,.one (.vslice 5 (.lit 0) (.var 6) (.var 7) 32)),(46,iv .i64 (.var 6)),(47,iv .i64 (.var 1007))],heap:=[.cells 1000 qyQ [.vint .i64 (.var 1001),.vbool (.var 1002),.vslice 1003 (.lit 0) (.var 1004) (.var 1005) 1],bHp 1003 1006 1005],inv:=(fun Z=>qJ (Z 0).i (Z 1).i (Z 2).i (Z 3).i (Z 6).i = true/\0 <= (Z 1007).i/\(Z 1007).i <= (Z 6).i/\(Z 1001).i = 39 + 32 * (Z 2).i/\(Z 1002).b = false/\wOk (Z 1001).i (Z 1004).i (Z 1005).i (Z 1006).d/\bI (Z 1006).d = qaM (Z 0).i (Z 1).i (Z 2).i (Z 3).i (qd (Z 4).d 32) ++ ((dgs (Z 8).d).take (Z 1007).i.toNat).flatten),mu:=(fun Z=>((Z 6).i - (Z 1007).i).toNat) }
def qAc (r:Nat):SH:=.cells r 27 (List.replicate 4 (.vint .i64 (.lit 0)) ++ (List.replicate 32 (.vint .u8 (.lit 0)) ++ [.vnils]))
def q9F:Bool × List T:=(true,List.replicate 4 (.vint .i64 (.lit 0)) ++ (List.replicate 32 (.vint .u8 (.lit 0)) ++ [.vnils]))
def qdj (f:Nat->List Int) (n:Nat):List (List Int):=(List.range n).map fun (i:Nat)=>sha (qbV i ++ f i)
def qjS:Ctr:={ fn := 43,nv:=12,ip:=[gIp 10],ow:=[1003],args:=[qbw,iv .i64 (.var 2),iv .i64 (.var 3),iv .i64 (.var 4),.one (.vslice 5 (.lit 0) (.var 6) (.var 7) 1)],heap:=[fHp 1],ro:=[bHp 5 8 9,gHp 10 11],pre:=fun Z=>qx (Z 1).d/\(Z 6).i = (Z 8).d.length/\(Z 6).i <= (Z 7).i/\q6 (Z 8).d/\gOk Z 10 11 gR/\(qaD (Z 2).i (Z 4).i = true->(qbX (Z 2).i.toNat (Z 4).i.toNat).2.2 = (Z 2).i.toNat),alts:=[
 { k:=2,ret:=.tup [q9F,(false,[.vnils]),qc3 (.var 12)],heap:=[fHp 13],post:=fun Z=>qx (Z 13).d/\((qbm (Z 2).i (Z 3).i (Z 4).i = false/\(Z 12).i = 2)∨(qbm (Z 2).i (Z 3).i (Z 4).i = true/\8192 < (Z 6).i/\(Z 12).i = 3)) },
 { k:=9,ret:=.tup [(true,qiH 2 3 4 6 12 13 4 14),(false,[.vslice 15 (.lit 0) (.var 4) (.var 16) 2]),qc3 (.lit 0)],heap:=[fHp 17,qfn 13 18 14,.arr 15 86 qj1 (.var 19) (.var 16),.abs 20 2],post:=fun Z=>qx (Z 17).d/\qbm (Z 2).i (Z 3).i (Z 4).i = true/\(Z 6).i <= 8192/\(Z 19).d.length = (Z 4).i.toNat/\qff (Z 20).h (Z 19).d (Z 4).i.toNat (qdt (Z 2).i.toNat (Z 4).i.toNat (bI (Z 8).d))/\qd (Z 12).d 32 = sha (bI (Z 8).d)/\qft (Z 18).d/\dgs (Z 18).d = qdj (qdt (Z 2).i.toNat (Z 4).i.toNat (bI (Z 8).d)) (Z 4).i.toNat }] }
def q6x:Inv:={ key:=10,nv:=12,env:=[(0,qbw),(10,.one (.vptr 1000 (.lit 0) 37 0)),(13,.one (.vslice 1001 (.lit 0) (.var 4) (.var 1009) 2)),(15,.one (.vptr 1002 (.lit 0) 37 0)),(47,.one (.vslice 1001 (.lit 0) (.var 4) (.var 1009) 2)),(48,iv .i64 (.var 4)),(49,iv .i64 (.var 1005))],heap:=[fHp 1010,qAc 1000,.cells 1002 27 (qiH 2 3 4 6 1003 1004 1005 1006),qfn 1004 1007 1006,.arr 1001 86 qj1 (.var 1008) (.var 1009),.abs 1011 2],inv:=(fun Z=>qx (Z 1010).d/\qbm (Z 2).i (Z 3).i (Z 4).i = true/\(Z 6).i <= 8192/\0 <= (Z 1005).i/\(Z 1005).i <= (Z 4).i/\(Z 1008).d.length = (Z 4).i.toNat/\qff (Z 1011).h (Z 1008).d (Z 4).i.toNat (qdt (Z 2).i.toNat (Z 4).i.toNat (bI (Z 8).d))/\qd (Z 1003).d 32 = sha (bI (Z 8).d)/\(Z 1005).i = (Z 1007).d.length/\qft (Z 1007).d/\dgs (Z 1007).d = qdj (qdt (Z 2).i.toNat (Z 4).i.toNat (bI (Z 8).d)) (Z 1005).i.toNat),mu:=(fun Z=>((Z 4).i - (Z 1005).i).toNat) }
end Go.Eng
namespace Go.Eng
open Go Go.Proofs
theorem qsn {h:Hp} {pat:List CK} {v:Value} {d d':qf} (h1:Rd h pat v d) (h2:Rd h pat v d'):d = d':=by
 rcases h1 with ⟨a,e1,rfl⟩ | ⟨b,o,cap,c,ty,fr,e1,l1,hb1,r1⟩ <;> rcases h2 with ⟨a',e2,rfl⟩ | ⟨b',o',cap',c',ty',fr',e2,l2,hb2,r2⟩
 ·rfl
 ·rw [e1] at e2
  simp only [Value.slice.injEq] at e2
  exact (jdk.1 e2.2.1.symm).symm
 ·rw [e1] at e2
  simp only [Value.slice.injEq] at e2
  exact jdk.1 e2.2.1
 ·rw [e1] at e2
  simp only [Value.slice.injEq,jaa,Addr.mk.injEq] at e2
  obtain ⟨⟨rfl,rfl,_⟩,hl,rfl⟩:=e2
  rw [hb1] at hb2
  simp only [jaa,Obj.cells.injEq] at hb2
  obtain ⟨rfl,rfl,rfl⟩:=hb2
  apply jdz hl
  intro i i1 i2
  obtain ⟨f1,g1⟩:=r1 i _ (jac i1)
  obtain ⟨f2,g2⟩:=r2 i _ (jac i2)
  apply jdz (by rw [f1.1,f2.1])
  intro k k1 k2
  have a1:=g1 k _ (jac k1)
  have a2:=g2 k _ (jac k2)
  rw [a1] at a2
  exact jaz a2
noncomputable def rdL (h:Hp) (v:Value):List Int:=open Classical in if hx:∃ d,Rd h kB v d then bI hx.choose else []
theorem qjp {h:Hp} {v:Value} {d:qf} (hr:Rd h kB v d):rdL h v = bI d:=by
 have hx:∃ d,Rd h kB v d:=⟨d,hr⟩
 unfold rdL
 rw [dif_pos hx,qsn hx.choose_spec hr]
def qqL (h:Hp) (D:qf) (n:Nat):Prop:=∀ j,j < n->∃ i v d,D[j]? = some [.int .i64 i,v]/\Rd h kB v d/\q6 d
noncomputable def pcI (D:qf) (j:Nat):Int:=qb D j 0
noncomputable def pcD (h:Hp) (D:qf) (j:Nat):List Int:=rdL h (qG D j 1)
end Go.Eng
namespace Go.Proofs
open Go Go.Eng
theorem q90 {h:Hp} {D:qf} {n j:Nat} (hp:qqL h D n) (hj:j < n):∃ v d,D[j]? = some [.int .i64 (pcI D j),v]/\qG D j 1 = v/\Rd h kB v d/\q6 d/\pcD h D j = bI d:=by
 obtain ⟨i,v,d,e,hr,hb⟩:=hp j hj
 have h1:qG D (j:Int) 1 = v:=by simp [qG,e]
 have h2:pcI D j = i:=by simp [pcI,qb,qG,e,qS]
 exact ⟨v,d,by rw [h2]; exact e,h1,hr,hb,by rw [pcD,h1,qjp hr]⟩
end Go.Proofs
namespace Go.Proofs
open Go Go.Eng
theorem qj4 {x:Int}:IntKind.u64.wrap x = x % 18446744073709551616:=by
 unfold IntKind.wrap
 rfl
end Go.Proofs
namespace Go.Eng
open Go
def bS (r:Nat):SV:=.one (.vslice r (.lit 0) (.var (r + 1)) (.var (r + 2)) 1)
def q4S (r:Nat):SH:=bHp r (r + 3) (r + 4)
def w3 (a b c:Int):Int:=qe .xor .u8 (qe .xor .u8 a b) c
def x3:List Int->List Int->List Int->List Int
 | a :: al,b :: bl,c :: cl=>w3 a b c :: x3 al bl cl
 | _,_,_=>[]
def qm7:Alt:={ k:=0,ret:=.one (.vbool (.bl true)),heap:=[],post:=fun _=>True }
end Go.Eng
namespace Go.Eng
open Go Go.Proofs
def kI:List CK:=[.int .i64]
def iHp (r d c:Nat):SH:=.arr r 3 kI (.var d) (.var c)
def q3L (r d c:Nat):SH:=.arr r 86 qj1 (.var d) (.var c)
def pcS (r l c:Nat):SV:=.one (.vslice r (.lit 0) (.var l) (.var c) 2)
def qmo (x:Int):Prop:=-9223372036854775808 <= x/\x < 9223372036854775808
def q94 (k v:Int) (b:List Int):Option (List Int):=if 1 <= k/\k <= 4 then some (beL v (2 ^ (k.toNat - 1))) else if k = 5 then some b else if k = 6 then some (beL b.length 2 ++ b) else none
def q8B (k:Int) (b:List Int):Bool:=decide (k = 6/\65535 < b.length)
def wrote (lim:Int) (f:Bool) (m:List Int) (k v:Int) (b:List Int):Bool × List Int:=match q94 k v b with
 | none=>(f,m)
 | some s=>qf0 lim (f || q8B k b) m s
end Go.Eng
namespace Go.Eng
open Go
@[simp] def o8:T:=.vint .u8 (.lit 0)
@[simp] def x8 (k v:Nat):T:=.vint .u8 (.c2 (.xint k) (.var v) (.lit 0))
@[simp] def i8 (v e k:Nat):T:=.vint .u8 (.icell (.var v) (.var e) k)
@[simp] def r8 (v:Nat):T:=(.rcons (x8 0 v) (.rcons (x8 1 v) (.rcons (x8 2 v) (.rcons (x8 3 v) (.rcons (x8 4 v) (.rcons (x8 5 v) (.rcons (x8 6 v) (.rcons (x8 7 v) (.rcons (x8 8 v) (.rcons (x8 9 v) (.rcons (x8 10 v) (.rcons (x8 11 v) (.rcons (x8 12 v) (.rcons (x8 13 v) (.rcons (x8 14 v) (.rcons (x8 15 v) (.rcons (x8 16 v) (.rcons (x8 17 v) (.rcons (x8 18 v) (.rcons (x8 19 v) (.rcons (x8 20 v) (.rcons (x8 21 v) (.rcons (x8 22 v) (.rcons (x8 23 v) (.rcons (x8 24 v) (.rcons (x8 25 v) (.rcons (x8 26 v) (.rcons (x8 27 v) (.rcons (x8 28 v) (.rcons (x8 29 v) (.rcons (x8 30 v) (.rcons (x8 31 v) .rnil))))))))))))))))))))))))))))))))
@[simp] def q8 (k v:Nat):T:=.vint .u8 (.c2 (.xint k) (r8 v) (.lit 0))
@[simp] def s8 (v:Nat):T:=(.rcons (q8 0 v) (.rcons (q8 1 v) (.rcons (q8 2 v) (.rcons (q8 3 v) (.rcons (q8 4 v) (.rcons (q8 5 v) (.rcons (q8 6 v) (.rcons (q8 7 v) (.rcons (q8 8 v) (.rcons (q8 9 v) (.rcons (q8 10 v) (.rcons (q8 11 v) (.rcons (q8 12 v) (.rcons (q8 13 v) (.rcons (q8 14 v) (.rcons (q8 15 v) (.rcons (q8 16 v) (.rcons (q8 17 v) (.rcons (q8 18 v) (.rcons (q8 19 v) (.rcons (q8 20 v) (.rcons (q8 21 v) (.rcons (q8 22 v) (.rcons (q8 23 v) (.rcons (q8 24 v) (.rcons (q8 25 v) (.rcons (q8 26 v) (.rcons (q8 27 v) (.rcons (q8 28 v) (.rcons (q8 29 v) (.rcons (q8 30 v) (.rcons (q8 31 v) .rnil))))))))))))))))))))))))))))))))
@[simp] def z8:T:=(.rcons o8 (.rcons o8 (.rcons o8 (.rcons o8 (.rcons o8 (.rcons o8 (.rcons o8 (.rcons o8 (.rcons o8 (.rcons o8 (.rcons o8 (.rcons o8 (.rcons o8 (.rcons o8 (.rcons o8 (.rcons o8 (.rcons o8 (.rcons o8 (.rcons o8 (.rcons o8 (.rcons o8 (.rcons o8 (.rcons o8 (.rcons o8 (.rcons o8 (.rcons o8 (.rcons o8 (.rcons o8 (.rcons o8 (.rcons o8 (.rcons o8 (.rcons o8 .rnil))))))))))))))))))))))))))))))))
end Go.Eng
namespace Go.Proofs
open Go Go.Eng
def qx6:Out:=(.need (.cmp .geq (.arith .and .u64 (.conv .u64 (tv 1)) (tl 31)) (tl 0)) (.need (.cmp .geq (.arith .sub .u64 (tl 32) (.arith .and .u64 (.conv .u64 (tv 1)) (tl 31))) (tl 0)) (.ret 0 (sg 2 [bt 2 (.arith .or .u32 (.arith .shl .u32 (tv 0) (.arith .and .u64 (.conv .u64 (tv 1)) (tl 31))) (.arith .shr .u32 (tv 0) (.arith .sub .u64 (tl 32) (.arith .and .u64 (.conv .u64 (tv 1)) (tl 31)))))]))))
theorem q3D:qn Tryz.prog qlj [] [] qx6:=qh Tryz.func154 Tryz.call154 (by kernel_rfl)
def q15:Out:=(.need (.cmp .geq (tv 1) (tl 0)) (.need (.cmp .geq (.arith .sub .u64 (tl 32) (tv 1)) (tl 0)) (.ret 0 (sg 2 [bt 2 (.arith .or .u32 (.arith .shr .u32 (tv 0) (tv 1)) (.arith .shl .u32 (tv 0) (.arith .sub .u64 (tl 32) (tv 1))))]))))
theorem q6F:qn Tryz.prog qpp [] [] q15:=qh Tryz.func171 Tryz.call171 (by kernel_rfl)
@[simp] def qv5:T:=.arith .add .u32 (.arith .add .u32 (.arith .add .u32 (.arith .add .u32 (tv 21) (.arith .xor .u32 (.arith .xor .u32 (tv 22) (tv 23)) (tv 24))) (.arith .xor .u32 (tv 20) (.arith .and .u32 (tv 18) (.arith .xor .u32 (tv 19) (tv 20))))) (.c2 (.xint 0) (tv 3) (tv 13))) (.c2 (.xint 0) (tv 12) (tv 13))
@[simp] def quS:T:=.rcons (.vint .u32 (.c2 (.xint 0) (tv 22) (tl 0))) (.rcons (.vint .u32 (.c2 (.xint 1) (tv 22) (tl 0))) (.rcons (.vint .u32 (.c2 (.xint 2) (tv 22) (tl 0))) (.rcons (.vint .u32 (.c2 (.xint 3) (tv 22) (tl 0))) (.rcons (.vint .u32 (.c2 (.xint 4) (tv 22) (tl 0))) (.rcons (.vint .u32 (.c2 (.xint 5) (tv 22) (tl 0))) (.rcons (.vint .u32 (.c2 (.xint 6) (tv 22) (tl 0))) (.rcons (.vint .u32 (.c2 (.xint 7) (tv 22) (tl 0))) .rnil)))))))
def q20:Out:=(.fresh 4 (.inv 0 5 (sg 1000 [bt 1001 (.rcons (.vint .u32 (tl 0)) (.rcons (.vint .u32 (tl 0)) (.rcons (.vint .u32 (tl 0)) (.rcons (.vint .u32 (tl 0)) (.rcons (.vint .u32 (tl 0)) (.rcons (.vint .u32 (tl 0)) (.rcons (.vint .u32 (tl 0)) (.rcons (.vint .u32 (tl 0)) (.rcons (.vint .u32 (tl 0)) (.rcons (.vint .u32 (tl 0)) (.rcons (.vint .u32 (tl 0)) (.rcons (.vint .u32 (tl 0)) (.rcons (.vint .u32 (tl 0)) (.rcons (.vint .u32 (tl 0)) (.rcons (.vint .u32 (tl 0)) (.rcons (.vint .u32 (tl 0)) (.rcons (.vint .u32 (tl 0)) (.rcons (.vint .u32 (tl 0)) (.rcons (.vint .u32 (tl 0)) (.rcons (.vint .u32 (tl 0)) (.rcons (.vint .u32 (tl 0)) (.rcons (.vint .u32 (tl 0)) (.rcons (.vint .u32 (tl 0)) (.rcons (.vint .u32 (tl 0)) (.rcons (.vint .u32 (tl 0)) (.rcons (.vint .u32 (tl 0)) (.rcons (.vint .u32 (tl 0)) (.rcons (.vint .u32 (tl 0)) (.rcons (.vint .u32 (tl 0)) (.rcons (.vint .u32 (tl 0)) (.rcons (.vint .u32 (tl 0)) (.rcons (.vint .u32 (tl 0)) (.rcons (.vint .u32 (tl 0)) (.rcons (.vint .u32 (tl 0)) (.rcons (.vint .u32 (tl 0)) (.rcons (.vint .u32 (tl 0)) (.rcons (.vint .u32 (tl 0)) (.rcons (.vint .u32 (tl 0)) (.rcons (.vint .u32 (tl 0)) (.rcons (.vint .u32 (tl 0)) (.rcons (.vint .u32 (tl 0)) (.rcons (.vint .u32 (tl 0)) (.rcons (.vint .u32 (tl 0)) (.rcons (.vint .u32 (tl 0)) (.rcons (.vint .u32 (tl 0)) (.rcons (.vint .u32 (tl 0)) (.rcons (.vint .u32 (tl 0)) (.rcons (.vint .u32 (tl 0)) (.rcons (.vint .u32 (tl 0)) (.rcons (.vint .u32 (tl 0)) (.rcons (.vint .u32 (tl 0)) (.rcons (.vint .u32 (tl 0)) (.rcons (.vint .u32 (tl 0)) (.rcons (.vint .u32 (tl 0)) (.rcons (.vint .u32 (tl 0)) (.rcons (.vint .u32 (tl 0)) (.rcons (.vint .u32 (tl 0)) (.rcons (.vint .u32 (tl 0)) (.rcons (.vint .u32 (tl 0)) (.rcons (.vint .u32 (tl 0)) (.rcons (.vint .u32 (tl 0)) (.rcons (.vint .u32 (tl 0)) (.rcons (.vint .u32 (tl 0)) (.rcons (.vint .u32 (tl 0)) .rnil)))))))))))))))))))))))))))))))))))))))))))))))))))))))))))))))),bt 1002 (tl 0),bg 1000 4]) (fr 5 3 (.hyp 0 5 (.br (.cmp .lss (tv 7) (tl 16))
 (.need (.cmp .lss (tl 0) (.dlen (tv 1))) (.need (.cmp .leq (tl 0) (.arith .mul .i64 (tl 4) (tv 7))) (.need (.cmp .lss (.arith .mul .i64 (tl 4) (tv 7)) (tl 64)) (.need (.cmp .leq (tl 0) (.arith .add .i64 (.arith .mul .i64 (tl 4) (tv 7)) (tl 1))) (.need (.cmp .lss (.arith .add .i64 (.arith .mul .i64 (tl 4) (tv 7)) (tl 1)) (tl 64)) (.need (.cmp .leq (tl 0) (.arith .add .i64 (.arith .mul .i64 (tl 4) (tv 7)) (tl 2))) (.need (.cmp .lss (.arith .add .i64 (.arith .mul .i64 (tl 4) (tv 7)) (tl 2)) (tl 64)) (.need (.cmp .leq (tl 0) (.arith .add .i64 (.arith .mul .i64 (tl 4) (tv 7)) (tl 3))) (.need (.cmp .lss (.arith .add .i64 (.arith .mul .i64 (tl 4) (tv 7)) (tl 3)) (tl 64)) (.need (.cmp .leq (tl 0) (tv 7)) (.need (.cmp .lss (tv 7) (tl 64)) (.need (.cmp .lss (tl 0) (.dlen (tv 6))) (.both (.back 0 5 (sg 1000 [bt 1001 (.c3 (.xput 0) (tv 6) (tv 7) (.vint .u32 (.arith .or .u32 (.arith .or .u32 (.arith .or .u32 (.arith .shl .u32 (.conv .u32 (.c2 (.xint 8) (tv 1) (.arith .mul .i64 (tl 4) (tv 7)))) (tl 24)) (.arith .shl .u32 (.conv .u32 (.c2 (.xint 8) (tv 1) (.arith .add .i64 (.arith .mul .i64 (tl 4) (tv 7)) (tl 1)))) (tl 16))) (.arith .shl .u32 (.conv .u32 (.c2 (.xint 8) (tv 1) (.arith .add .i64 (.arith .mul .i64 (tl 4) (tv 7)) (tl 2)))) (tl 8))) (.conv .u32 (.c2 (.xint 8) (tv 1) (.arith .add .i64 (.arith .mul .i64 (tl 4) (tv 7)) (tl 3))))))),bt 1002 (.arith .add .i64 (tv 7) (tl 1)),bg 1000 5])) .top)))))))))))))
 (.inv 1 8 (sg 1000 [bv 1001 6,bt 1002 (tl 16),bg 1000 5]) (fr 8 3 (.hyp 1 8 (.br (.cmp .lss (tv 10) (tl 64))
 (.need (.cmp .leq (tl 0) (.arith .sub .i64 (tv 10) (tl 15))) (.need (.cmp .lss (.arith .sub .i64 (tv 10) (tl 15)) (tl 64)) (.need (.cmp .lss (tl 0) (.dlen (tv 9))) (.need (.cmp .leq (tl 0) (.arith .sub .i64 (tv 10) (tl 2))) (.need (.cmp .lss (.arith .sub .i64 (tv 10) (tl 2)) (tl 64)) (.pre 0 (sg 0 [bt 1 (.lit (-7)),bt 0 (.c2 (.xint 0) (tv 9) (.arith .sub .i64 (tv 10) (tl 15)))]) (.both (.fresh 11 (.post 0 0 (sg 0 [bt 1 (.lit (-7)),bt 0 (.c2 (.xint 0) (tv 9) (.arith .sub .i64 (tv 10) (tl 15)))]) 11 (.pre 0 (sg 0 [bt 1 (.lit (-18)),bt 0 (.c2 (.xint 0) (tv 9) (.arith .sub .i64 (tv 10) (tl 15)))]) (.both (.fresh 12 (.post 0 0 (sg 0 [bt 1 (.lit (-18)),bt 0 (.c2 (.xint 0) (tv 9) (.arith .sub .i64 (tv 10) (tl 15)))]) 12 (.pre 0 (sg 0 [bt 1 (.lit (-17)),bt 0 (.c2 (.xint 0) (tv 9) (.arith .sub .i64 (tv 10) (tl 2)))]) (.both (.fresh 13 (.post 0 0 (sg 0 [bt 1 (.lit (-17)),bt 0 (.c2 (.xint 0) (tv 9) (.arith .sub .i64 (tv 10) (tl 2)))]) 13 (.pre 0 (sg 0 [bt 1 (.lit (-19)),bt 0 (.c2 (.xint 0) (tv 9) (.arith .sub .i64 (tv 10) (tl 2)))]) (.both (.fresh 14 (.post 0 0 (sg 0 [bt 1 (.lit (-19)),bt 0 (.c2 (.xint 0) (tv 9) (.arith .sub .i64 (tv 10) (tl 2)))]) 14 (.need (.cmp .leq (tl 0) (.arith .sub .i64 (tv 10) (tl 16))) (.need (.cmp .lss (.arith .sub .i64 (tv 10) (tl 16)) (tl 64)) (.need (.cmp .leq (tl 0) (.arith .sub .i64 (tv 10) (tl 7))) (.need (.cmp .lss (.arith .sub .i64 (tv 10) (tl 7)) (tl 64)) (.need (.cmp .leq (tl 0) (tv 10)) (.both (.back 1 8 (sg 1000 [bt 1001 (.c3 (.xput 0) (tv 9) (tv 10) (.vint .u32 (.arith .add .u32 (.arith .add .u32 (.arith .add .u32 (.c2 (.xint 0) (tv 9) (.arith .sub .i64 (tv 10) (tl 16))) (.arith .xor .u32 (.arith .xor .u32 (tv 11) (tv 12)) (.arith .shr .u32 (.c2 (.xint 0) (tv 9) (.arith .sub .i64 (tv 10) (tl 15))) (tl 3)))) (.c2 (.xint 0) (tv 9) (.arith .sub .i64 (tv 10) (tl 7)))) (.arith .xor .u32 (.arith .xor .u32 (tv 13) (tv 14)) (.arith .shr .u32 (.c2 (.xint 0) (tv 9) (.arith .sub .i64 (tv 10) (tl 2))) (tl 10)))))),bt 1002 (.arith .add .i64 (tv 10) (tl 1)),bg 1000 8])) .top)))))))) .top)))) .top)))) .top)))) .top)))))))
 (.need (.cmp .lss (tl 0) (.dlen (tv 1))) (.inv 2 11 (sg 1000 [bv 1001 9,bt 1002 (tl 0),bt 1010 (.icell (tv 1) (tl 0) 7),bt 1009 (.icell (tv 1) (tl 0) 6),bt 1008 (.icell (tv 1) (tl 0) 5),bt 1007 (.icell (tv 1) (tl 0) 4),bt 1006 (.icell (tv 1) (tl 0) 3),bt 1005 (.icell (tv 1) (tl 0) 2),bt 1004 (.icell (tv 1) (tl 0) 1),bt 1003 (.icell (tv 1) (tl 0) 0),bg 1000 8]) (fr 11 11 (.hyp 2 11 (.br (.cmp .lss (tv 13) (tl 64))
 (.pre 0 (sg 0 [bt 1 (.lit (-6)),bv 0 18]) (.both (.fresh 22 (.post 0 0 (sg 0 [bt 1 (.lit (-6)),bv 0 18]) 22 (.pre 0 (sg 0 [bt 1 (.lit (-11)),bv 0 18]) (.both (.fresh 23 (.post 0 0 (sg 0 [bt 1 (.lit (-11)),bv 0 18]) 23 (.pre 0 (sg 0 [bt 1 (.lit (-25)),bv 0 18]) (.both (.fresh 24 (.post 0 0 (sg 0 [bt 1 (.lit (-25)),bv 0 18]) 24 (.need (.c1 (.isg 1) (tv 2)) (.need (.cmp .leq (tl 0) (tv 13)) (.need (.cmp .lss (tl 0) (.dlen (tv 3))) (.need (.cmp .lss (tl 0) (.dlen (tv 12))) (.pre 0 (sg 0 [bt 1 (.lit (-2)),bv 0 14]) (.both (.fresh 25 (.post 0 0 (sg 0 [bt 1 (.lit (-2)),bv 0 14]) 25 (.pre 0 (sg 0 [bt 1 (.lit (-13)),bv 0 14]) (.both (.fresh 26 (.post 0 0 (sg 0 [bt 1 (.lit (-13)),bv 0 14]) 26 (.pre 0 (sg 0 [bt 1 (.lit (-22)),bv 0 14]) (.both (.fresh 27 (.post 0 0 (sg 0 [bt 1 (.lit (-22)),bv 0 14]) 27 (.back 2 11 (sg 1000 [bv 1001 12,bt 1002 (.arith .add .i64 (tv 13) (tl 1)),bv 1010 20,bv 1009 19,bv 1008 18,bt 1007 (.arith .add .u32 (tv 17) qv5),bv 1006 16,bv 1005 15,bv 1004 14,bt 1003 (.arith .add .u32 qv5 (.arith .add .u32 (.arith .xor .u32 (.arith .xor .u32 (tv 25) (tv 26)) (tv 27)) (.arith .or .u32 (.arith .and .u32 (tv 14) (tv 15)) (.arith .and .u32 (tv 16) (.arith .or .u32 (tv 14) (tv 15)))))),bg 1000 11])))) .top)))) .top)))) .top)))))))) .top)))) .top)))) .top))
 (.inv 3 22 (sg 1000 [bv 1002 1,bt 1001 (tl 0),bt 1000 (.rcons (.vint .u32 (tv 14)) (.rcons (.vint .u32 (tv 15)) (.rcons (.vint .u32 (tv 16)) (.rcons (.vint .u32 (tv 17)) (.rcons (.vint .u32 (tv 18)) (.rcons (.vint .u32 (tv 19)) (.rcons (.vint .u32 (tv 20)) (.rcons (.vint .u32 (tv 21)) .rnil))))))))]) (fr 22 3 (.hyp 3 22 (.br (.cmp .lss (tv 23) (tl 8))
 (.need (.cmp .leq (tl 0) (tv 23)) (.need (.cmp .lss (tl 0) (.dlen (tv 24))) (.both (.back 3 22 (sg 1000 [bt 1002 (.c3 (.xput 0) (tv 24) (tv 23) (.vint .u32 (.arith .add .u32 (.c2 (.xint 0) (tv 24) (tv 23)) (.c2 (.xint 0) quS (tv 23))))),bt 1001 (.arith .add .i64 (tv 23) (tl 1)),bt 1000 quS])) .top)))
 (.ret 0 (sg 4 [bv 4 24]))))))))))))))))))))
theorem q78:qn Tryz.prog qjV [qlj] [q6d,q6f,q6h,q5X] q20:=qh Tryz.func129 Tryz.call129 (by kernel_rfl)
def qr4:Out:=(.fresh 0 (.ret 0 (sg 0 [bt 1 (.rcons (.vint .u32 (tl 1779033703)) (.rcons (.vint .u32 (tl 3144134277)) (.rcons (.vint .u32 (tl 1013904242)) (.rcons (.vint .u32 (tl 2773480762)) (.rcons (.vint .u32 (tl 1359893119)) (.rcons (.vint .u32 (tl 2600822924)) (.rcons (.vint .u32 (tl 528734635)) (.rcons (.vint .u32 (tl 1541459225)) (.rcons o8 (.rcons o8 (.rcons o8 (.rcons o8 (.rcons o8 (.rcons o8 (.rcons o8 (.rcons o8 (.rcons o8 (.rcons o8 (.rcons o8 (.rcons o8 (.rcons o8 (.rcons o8 (.rcons o8 (.rcons o8 (.rcons o8 (.rcons o8 (.rcons o8 (.rcons o8 (.rcons o8 (.rcons o8 (.rcons o8 (.rcons o8 (.rcons o8 (.rcons o8 (.rcons o8 (.rcons o8 (.rcons o8 (.rcons o8 (.rcons o8 (.rcons o8 (.rcons o8 (.rcons o8 (.rcons o8 (.rcons o8 (.rcons o8 (.rcons o8 (.rcons o8 (.rcons o8 (.rcons o8 (.rcons o8 (.rcons o8 (.rcons o8 (.rcons o8 (.rcons o8 (.rcons o8 (.rcons o8 (.rcons o8 (.rcons o8 (.rcons o8 (.rcons o8 (.rcons o8 (.rcons o8 (.rcons o8 (.rcons o8 (.rcons o8 (.rcons o8 (.rcons o8 (.rcons o8 (.rcons o8 (.rcons o8 (.rcons o8 (.rcons o8 (.rcons (.vint .i64 (tl 0)) .rnil))))))))))))))))))))))))))))))))))))))))))))))))))))))))))))))))))))))))),bg 0 0])))
theorem qzj:qn Tryz.prog qe3 [] [] qr4:=qh Tryz.func96 Tryz.call96 (by kernel_rfl)
@[simp] def qmd:T:=.dtake (.dtake (.ddrop (tv 6) (tv 10)) (tv 11)) (.imin (.minus (tl 64) (.arith .rem .i64 (.icell (tv 13) (tl 0) 72) (tl 64))) (tv 11))
@[simp] def qlZ:T:=.ife (tl 64) (.arith .rem .i64 (.icell (tv 13) (tl 0) 72) (tl 64)) (tl 8) (.plus (tl 8) (.arith .rem .i64 (.icell (tv 13) (tl 0) 72) (tl 64)))
@[simp] def qsh:T:=.ife (tv 12) (.imin (.minus (tl 64) (.arith .rem .i64 (.icell (tv 13) (tl 0) 72) (tl 64))) (tv 11)) (tv 10) (.plus (tv 10) (.imin (.minus (tl 64) (.arith .rem .i64 (.icell (tv 13) (tl 0) 72) (tl 64))) (tv 11)))
@[simp] def qst:T:=.c3 .xcopy (tv 13) qlZ qmd
@[simp] def qso:Sg:=sg 0 [bv 3 9,bt 1 (.dput (.c3 .xcopy (tv 13) qlZ qmd) (tl 0) 72 (.rcons (.vint .i64 (.arith .add .i64 (.icell (.c3 .xcopy (tv 13) qlZ qmd) (tl 0) 72) (.imin (.minus (tl 64) (.arith .rem .i64 (.icell (tv 13) (tl 0) 72) (tl 64))) (tv 11)))) .rnil)),bg 0 0,bg 2 8]
def qyy:Out:=(.br (.and (.cmp .eql (.dlen (tv 1)) (tl 0)) (.isnil 0))
 (.ret 0 (sg 10 [bv 10 1]))
 (.inv 0 10 (sg 1000 [bv 1003 1,bv 1002 5,bv 1001 4,bv 1000 3]) (fr 10 4 (.hyp 0 10 (.need (.cmp .leq (tl 0) (tv 11)) (.br (.cmp .gtr (tv 11) (tl 0))
 (.need (.cmp .lss (tl 0) (.dlen (tv 13))) (.need (.cmp .leq (tl 0) (.arith .rem .i64 (.icell (tv 13) (tl 0) 72) (tl 64))) (.need (.cmp .leq (.arith .rem .i64 (.icell (tv 13) (tl 0) 72) (tl 64)) (tl 64)) (.need (.cmp .neq (tl 64) (.arith .rem .i64 (.icell (tv 13) (tl 0) 72) (tl 64))) (.need (.cmp .leq (tl 0) (.minus (tl 64) (.arith .rem .i64 (.icell (tv 13) (tl 0) 72) (tl 64)))) (.need (.cmp .leq (.plus (.arith .rem .i64 (.icell (tv 13) (tl 0) 72) (tl 64)) (.minus (tl 64) (.arith .rem .i64 (.icell (tv 13) (tl 0) 72) (tl 64)))) (tl 64)) (.need (.cmp .leq (tl 0) (tv 10)) (.need (.cmp .leq (.plus (tv 10) (tv 11)) (.dlen (tv 6))) (.fresh 14 (.need (.cmp .leq (tl 0) (tv 12)) (.need (.cmp .leq (tl 0) (.imin (.minus (tl 64) (.arith .rem .i64 (.icell (tv 13) (tl 0) 72) (tl 64))) (tv 11))) (.need (.cmp .leq (.imin (.minus (tl 64) (.arith .rem .i64 (.icell (tv 13) (tl 0) 72) (tl 64))) (tv 11)) (tv 11)) (.need (.cmp .leq (tv 11) (tv 12)) (.br (.cmp .eql (.arith .add .i64 (.arith .rem .i64 (.icell (tv 13) (tl 0) 72) (tl 64)) (.imin (.minus (tl 64) (.arith .rem .i64 (.icell (tv 13) (tl 0) 72) (tl 64))) (tv 11))) (tl 64))
 (.pre 0 qso (.both (.fresh 15 (.post 0 0 qso 15 (.back 0 10 (sg 1000 [bv 1003 15,bt 1002 (.minus (tv 12) (.imin (.minus (tl 64) (.arith .rem .i64 (.icell (tv 13) (tl 0) 72) (tl 64))) (tv 11))),bt 1001 (.minus (tv 11) (.imin (.minus (tl 64) (.arith .rem .i64 (.icell (tv 13) (tl 0) 72) (tl 64))) (tv 11))),bt 1000 qsh])))) .top))
 (.back 0 10 (sg 1000 [bt 1003 (.dput qst (tl 0) 72 (.rcons (.vint .i64 (.arith .add .i64 (.icell qst (tl 0) 72) (.imin (.minus (tl 64) (.arith .rem .i64 (.icell (tv 13) (tl 0) 72) (tl 64))) (tv 11)))) .rnil)),bt 1002 (.minus (tv 12) (.imin (.minus (tl 64) (.arith .rem .i64 (.icell (tv 13) (tl 0) 72) (tl 64))) (tv 11))),bt 1001 (.minus (tv 11) (.imin (.minus (tl 64) (.arith .rem .i64 (.icell (tv 13) (tl 0) 72) (tl 64))) (tv 11))),bt 1000 qsh]))))))))))))))))
 (.ret 0 (sg 10 [bv 10 13]))))))))
theorem q5d:qn Tryz.prog qh6 [qjV] [q1l] qyy:=qh Tryz.func97 Tryz.call97 (by kernel_rfl)
@[simp] def qi6:T:=.dtake (.c3 .xrows (tv 5) (tv 8) (tv 9)) (.imin (.minus (tl 64) (.arith .rem .i64 (.icell (tv 11) (tl 0) 72) (tl 64))) (tv 9))
@[simp] def qiE:T:=.ife (tl 64) (.arith .rem .i64 (.icell (tv 11) (tl 0) 72) (tl 64)) (tl 8) (.plus (tl 8) (.arith .rem .i64 (.icell (tv 11) (tl 0) 72) (tl 64)))
@[simp] def qni:T:=.ife (tv 10) (.imin (.minus (tl 64) (.arith .rem .i64 (.icell (tv 11) (tl 0) 72) (tl 64))) (tv 9)) (tv 8) (.plus (tv 8) (.imin (.minus (tl 64) (.arith .rem .i64 (.icell (tv 11) (tl 0) 72) (tl 64))) (tv 9)))
@[simp] def qn3:T:=.c3 .xcopy (tv 11) qiE qi6
@[simp] def qnj:Sg:=sg 0 [bv 3 7,bt 1 (.dput (.c3 .xcopy (tv 11) qiE qi6) (tl 0) 72 (.rcons (.vint .i64 (.arith .add .i64 (.icell (.c3 .xcopy (tv 11) qiE qi6) (tl 0) 72) (.imin (.minus (tl 64) (.arith .rem .i64 (.icell (tv 11) (tl 0) 72) (tl 64))) (tv 9)))) .rnil)),bg 0 0,bg 2 6]
def qrF:Out:=(.br (.and (.cmp .eql (.dlen (tv 1)) (tl 0)) (.isnil 0))
 (.ret 0 (sg 8 [bv 8 1]))
 (.inv 0 8 (sg 1000 [bv 1003 1,bv 1002 4,bv 1001 3,bt 1000 (tl 0)]) (fr 8 4 (.hyp 0 8 (.need (.cmp .leq (tl 0) (tv 9)) (.br (.cmp .gtr (tv 9) (tl 0))
 (.need (.cmp .lss (tl 0) (.dlen (tv 11))) (.need (.cmp .leq (tl 0) (.arith .rem .i64 (.icell (tv 11) (tl 0) 72) (tl 64))) (.need (.cmp .leq (.arith .rem .i64 (.icell (tv 11) (tl 0) 72) (tl 64)) (tl 64)) (.need (.cmp .neq (tl 64) (.arith .rem .i64 (.icell (tv 11) (tl 0) 72) (tl 64))) (.need (.cmp .leq (tl 0) (.minus (tl 64) (.arith .rem .i64 (.icell (tv 11) (tl 0) 72) (tl 64)))) (.need (.cmp .leq (.plus (.arith .rem .i64 (.icell (tv 11) (tl 0) 72) (tl 64)) (.minus (tl 64) (.arith .rem .i64 (.icell (tv 11) (tl 0) 72) (tl 64)))) (tl 64)) (.need (.cmp .leq (tl 0) (tv 8)) (.need (.cmp .leq (.plus (tv 8) (tv 9)) (tl 72)) (.need (.cmp .lss (tl 0) (.dlen (tv 5))) (.fresh 12 (.need (.cmp .leq (tl 0) (tv 10)) (.need (.cmp .leq (tl 0) (.imin (.minus (tl 64) (.arith .rem .i64 (.icell (tv 11) (tl 0) 72) (tl 64))) (tv 9))) (.need (.cmp .leq (.imin (.minus (tl 64) (.arith .rem .i64 (.icell (tv 11) (tl 0) 72) (tl 64))) (tv 9)) (tv 9)) (.need (.cmp .leq (tv 9) (tv 10)) (.br (.cmp .eql (.arith .add .i64 (.arith .rem .i64 (.icell (tv 11) (tl 0) 72) (tl 64)) (.imin (.minus (tl 64) (.arith .rem .i64 (.icell (tv 11) (tl 0) 72) (tl 64))) (tv 9))) (tl 64))
 (.pre 0 qnj (.both (.fresh 13 (.post 0 0 qnj 13 (.back 0 8 (sg 1000 [bv 1003 13,bt 1002 (.minus (tv 10) (.imin (.minus (tl 64) (.arith .rem .i64 (.icell (tv 11) (tl 0) 72) (tl 64))) (tv 9))),bt 1001 (.minus (tv 9) (.imin (.minus (tl 64) (.arith .rem .i64 (.icell (tv 11) (tl 0) 72) (tl 64))) (tv 9))),bt 1000 qni])))) .top))
 (.back 0 8 (sg 1000 [bt 1003 (.dput qn3 (tl 0) 72 (.rcons (.vint .i64 (.arith .add .i64 (.icell qn3 (tl 0) 72) (.imin (.minus (tl 64) (.arith .rem .i64 (.icell (tv 11) (tl 0) 72) (tl 64))) (tv 9)))) .rnil)),bt 1002 (.minus (tv 10) (.imin (.minus (tl 64) (.arith .rem .i64 (.icell (tv 11) (tl 0) 72) (tl 64))) (tv 9))),bt 1001 (.minus (tv 9) (.imin (.minus (tl 64) (.arith .rem .i64 (.icell (tv 11) (tl 0) 72) (tl 64))) (tv 9))),bt 1000 qni])))))))))))))))))
 (.ret 0 (sg 8 [bv 8 11]))))))))
theorem qz3:qn Tryz.prog qh3 [qjV] [qvP] qrF:=qh Tryz.func97 Tryz.call97 (by kernel_rfl)
@[simp] def qyg:Sg:=sg 0 [bv 7 3,bv 5 12,bv 1 10,bt 4 (tl 72),bt 3 (.arith .add .i64 (tv 13) (tl 8)),bg 2 11,bg 0 9,bg 6 2]
def q6s:Out:=(.fresh 4 (.br (.and (.cmp .eql (.dlen (tv 1)) (tl 0)) (.isnil 0))
 (.ret 0 (sg 4 [bt 4 z8]))
 (.need (.cmp .lss (tl 0) (.dlen (tv 1))) (fr 5 2 (.inv 0 7 (sg 1000 [bt 1005 (.rcons (.vint .u8 (tl 128)) (.rcons o8 (.rcons o8 (.rcons o8 (.rcons o8 (.rcons o8 (.rcons o8 (.rcons o8 (.rcons o8 (.rcons o8 (.rcons o8 (.rcons o8 (.rcons o8 (.rcons o8 (.rcons o8 (.rcons o8 (.rcons o8 (.rcons o8 (.rcons o8 (.rcons o8 (.rcons o8 (.rcons o8 (.rcons o8 (.rcons o8 (.rcons o8 (.rcons o8 (.rcons o8 (.rcons o8 (.rcons o8 (.rcons o8 (.rcons o8 (.rcons o8 (.rcons o8 (.rcons o8 (.rcons o8 (.rcons o8 (.rcons o8 (.rcons o8 (.rcons o8 (.rcons o8 z8)))))))))))))))))))))))))))))))))))))))),bt 1003 (.rcons (.vint .u32 (.icell (tv 1) (tl 0) 0)) (.rcons (.vint .u32 (.icell (tv 1) (tl 0) 1)) (.rcons (.vint .u32 (.icell (tv 1) (tl 0) 2)) (.rcons (.vint .u32 (.icell (tv 1) (tl 0) 3)) (.rcons (.vint .u32 (.icell (tv 1) (tl 0) 4)) (.rcons (.vint .u32 (.icell (tv 1) (tl 0) 5)) (.rcons (.vint .u32 (.icell (tv 1) (tl 0) 6)) (.rcons (.vint .u32 (.icell (tv 1) (tl 0) 7)) (.rcons (.vint .u8 (.icell (tv 1) (tl 0) 8)) (.rcons (.vint .u8 (.icell (tv 1) (tl 0) 9)) (.rcons (.vint .u8 (.icell (tv 1) (tl 0) 10)) (.rcons (.vint .u8 (.icell (tv 1) (tl 0) 11)) (.rcons (.vint .u8 (.icell (tv 1) (tl 0) 12)) (.rcons (.vint .u8 (.icell (tv 1) (tl 0) 13)) (.rcons (.vint .u8 (.icell (tv 1) (tl 0) 14)) (.rcons (.vint .u8 (.icell (tv 1) (tl 0) 15)) (.rcons (.vint .u8 (.icell (tv 1) (tl 0) 16)) (.rcons (.vint .u8 (.icell (tv 1) (tl 0) 17)) (.rcons (.vint .u8 (.icell (tv 1) (tl 0) 18)) (.rcons (.vint .u8 (.icell (tv 1) (tl 0) 19)) (.rcons (.vint .u8 (.icell (tv 1) (tl 0) 20)) (.rcons (.vint .u8 (.icell (tv 1) (tl 0) 21)) (.rcons (.vint .u8 (.icell (tv 1) (tl 0) 22)) (.rcons (.vint .u8 (.icell (tv 1) (tl 0) 23)) (.rcons (.vint .u8 (.icell (tv 1) (tl 0) 24)) (.rcons (.vint .u8 (.icell (tv 1) (tl 0) 25)) (.rcons (.vint .u8 (.icell (tv 1) (tl 0) 26)) (.rcons (.vint .u8 (.icell (tv 1) (tl 0) 27)) (.rcons (.vint .u8 (.icell (tv 1) (tl 0) 28)) (.rcons (.vint .u8 (.icell (tv 1) (tl 0) 29)) (.rcons (.vint .u8 (.icell (tv 1) (tl 0) 30)) (.rcons (.vint .u8 (.icell (tv 1) (tl 0) 31)) (.rcons (.vint .u8 (.icell (tv 1) (tl 0) 32)) (.rcons (.vint .u8 (.icell (tv 1) (tl 0) 33)) (.rcons (.vint .u8 (.icell (tv 1) (tl 0) 34)) (.rcons (.vint .u8 (.icell (tv 1) (tl 0) 35)) (.rcons (.vint .u8 (.icell (tv 1) (tl 0) 36)) (.rcons (.vint .u8 (.icell (tv 1) (tl 0) 37)) (.rcons (.vint .u8 (.icell (tv 1) (tl 0) 38)) (.rcons (.vint .u8 (.icell (tv 1) (tl 0) 39)) (.rcons (.vint .u8 (.icell (tv 1) (tl 0) 40)) (.rcons (.vint .u8 (.icell (tv 1) (tl 0) 41)) (.rcons (.vint .u8 (.icell (tv 1) (tl 0) 42)) (.rcons (.vint .u8 (.icell (tv 1) (tl 0) 43)) (.rcons (.vint .u8 (.icell (tv 1) (tl 0) 44)) (.rcons (.vint .u8 (.icell (tv 1) (tl 0) 45)) (.rcons (.vint .u8 (.icell (tv 1) (tl 0) 46)) (.rcons (.vint .u8 (.icell (tv 1) (tl 0) 47)) (.rcons (.vint .u8 (.icell (tv 1) (tl 0) 48)) (.rcons (.vint .u8 (.icell (tv 1) (tl 0) 49)) (.rcons (.vint .u8 (.icell (tv 1) (tl 0) 50)) (.rcons (.vint .u8 (.icell (tv 1) (tl 0) 51)) (.rcons (.vint .u8 (.icell (tv 1) (tl 0) 52)) (.rcons (.vint .u8 (.icell (tv 1) (tl 0) 53)) (.rcons (.vint .u8 (.icell (tv 1) (tl 0) 54)) (.rcons (.vint .u8 (.icell (tv 1) (tl 0) 55)) (.rcons (.vint .u8 (.icell (tv 1) (tl 0) 56)) (.rcons (.vint .u8 (.icell (tv 1) (tl 0) 57)) (.rcons (.vint .u8 (.icell (tv 1) (tl 0) 58)) (.rcons (.vint .u8 (.icell (tv 1) (tl 0) 59)) (.rcons (.vint .u8 (.icell (tv 1) (tl 0) 60)) (.rcons (.vint .u8 (.icell (tv 1) (tl 0) 61)) (.rcons (.vint .u8 (.icell (tv 1) (tl 0) 62)) (.rcons (.vint .u8 (.icell (tv 1) (tl 0) 63)) (.rcons (.vint .u8 (.icell (tv 1) (tl 0) 64)) (.rcons (.vint .u8 (.icell (tv 1) (tl 0) 65)) (.rcons (.vint .u8 (.icell (tv 1) (tl 0) 66)) (.rcons (.vint .u8 (.icell (tv 1) (tl 0) 67)) (.rcons (.vint .u8 (.icell (tv 1) (tl 0) 68)) (.rcons (.vint .u8 (.icell (tv 1) (tl 0) 69)) (.rcons (.vint .u8 (.icell (tv 1) (tl 0) 70)) (.rcons (.vint .u8 (.icell (tv 1) (tl 0) 71)) (.rcons (.vint .i64 (.icell (tv 1) (tl 0) 72)) .rnil))))))))))))))))))))))))))))))))))))))))))))))))))))))))))))))))))))))))),bt 1008 (tl 0),bt 1007 (.arith .mul .u64 (.conv .u64 (.icell (tv 1) (tl 0) 72)) (tl 8)),bt 1006 (.arith .sub .i64 (tl 64) (.arith .rem .i64 (.arith .add .i64 (.icell (tv 1) (tl 0) 72) (tl 8)) (tl 64))),bg 1004 6,bg 1002 5,bg 1000 4]) (fr 7 9 (.hyp 0 7 (.br (.cmp .lss (tv 15) (tl 8))
 (.need (.cmp .geq (.arith .sub .i64 (tl 56) (.arith .mul .i64 (tl 8) (tv 15))) (tl 0)) (.need (.cmp .leq (tl 0) (.arith .add .i64 (tv 13) (tv 15))) (.need (.cmp .lss (.arith .add .i64 (tv 13) (tv 15)) (tl 72)) (.need (.cmp .lss (tl 0) (.dlen (tv 12))) (.back 0 7 (sg 1000 [bt 1005 (.c3 (.xput 0) (tv 12) (.arith .add .i64 (tv 13) (tv 15)) (.vint .u8 (.conv .u8 (.arith .shr .u64 (tv 14) (.arith .sub .i64 (tl 56) (.arith .mul .i64 (tl 8) (tv 15))))))),bv 1003 10,bt 1008 (.arith .add .i64 (tv 15) (tl 1)),bv 1007 14,bv 1006 13,bg 1004 11,bg 1002 9,bg 1000 7]))))))
 (.need (.cmp .leq (tl 0) (.arith .add .i64 (tv 13) (tl 8))) (.need (.cmp .leq (.arith .add .i64 (tv 13) (tl 8)) (tl 72)) (.need (.cmp .lss (tl 0) (.dlen (tv 12))) (.pre 0 qyg (.both (.fresh 16 (.post 0 0 qyg 16 (.fresh 17 (.inv 1 18 (sg 1000 [bt 1005 z8,bv 1003 16,bt 1006 (tl 0),bg 1004 17,bg 1002 9,bg 1000 7]) (fr 18 7 (.hyp 1 18 (.br (.cmp .lss (tv 24) (tl 32))
 (.need (.cmp .lss (tl 0) (.dlen (tv 21))) (.need (.cmp .leq (tl 0) (.arith .quo .i64 (tv 24) (tl 4))) (.need (.cmp .lss (.arith .quo .i64 (tv 24) (tl 4)) (tl 8)) (.need (.cmp .geq (.arith .sub .i64 (tl 24) (.arith .mul .i64 (tl 8) (.arith .rem .i64 (tv 24) (tl 4)))) (tl 0)) (.need (.cmp .leq (tl 0) (tv 24)) (.need (.cmp .lss (tl 0) (.dlen (tv 23))) (.back 1 18 (sg 1000 [bt 1005 (.c3 (.xput 0) (tv 23) (tv 24) (.vint .u8 (.conv .u8 (.arith .shr .u32 (.c2 (.xint 0) (tv 21) (.arith .quo .i64 (tv 24) (tl 4))) (.arith .sub .i64 (tl 24) (.arith .mul .i64 (tl 8) (.arith .rem .i64 (tv 24) (tl 4)))))))),bv 1003 21,bt 1006 (.arith .add .i64 (tv 24) (tl 1)),bg 1004 22,bg 1002 20,bg 1000 18]))))))))
 (.need (.cmp .lss (tl 0) (.dlen (tv 23))) (.ret 0 (sg 4 [bt 4 (.rcons (.vint .u8 (.icell (tv 23) (tl 0) 0)) (.rcons (.vint .u8 (.icell (tv 23) (tl 0) 1)) (.rcons (.vint .u8 (.icell (tv 23) (tl 0) 2)) (.rcons (.vint .u8 (.icell (tv 23) (tl 0) 3)) (.rcons (.vint .u8 (.icell (tv 23) (tl 0) 4)) (.rcons (.vint .u8 (.icell (tv 23) (tl 0) 5)) (.rcons (.vint .u8 (.icell (tv 23) (tl 0) 6)) (.rcons (.vint .u8 (.icell (tv 23) (tl 0) 7)) (.rcons (.vint .u8 (.icell (tv 23) (tl 0) 8)) (.rcons (.vint .u8 (.icell (tv 23) (tl 0) 9)) (.rcons (.vint .u8 (.icell (tv 23) (tl 0) 10)) (.rcons (.vint .u8 (.icell (tv 23) (tl 0) 11)) (.rcons (.vint .u8 (.icell (tv 23) (tl 0) 12)) (.rcons (.vint .u8 (.icell (tv 23) (tl 0) 13)) (.rcons (.vint .u8 (.icell (tv 23) (tl 0) 14)) (.rcons (.vint .u8 (.icell (tv 23) (tl 0) 15)) (.rcons (.vint .u8 (.icell (tv 23) (tl 0) 16)) (.rcons (.vint .u8 (.icell (tv 23) (tl 0) 17)) (.rcons (.vint .u8 (.icell (tv 23) (tl 0) 18)) (.rcons (.vint .u8 (.icell (tv 23) (tl 0) 19)) (.rcons (.vint .u8 (.icell (tv 23) (tl 0) 20)) (.rcons (.vint .u8 (.icell (tv 23) (tl 0) 21)) (.rcons (.vint .u8 (.icell (tv 23) (tl 0) 22)) (.rcons (.vint .u8 (.icell (tv 23) (tl 0) 23)) (.rcons (.vint .u8 (.icell (tv 23) (tl 0) 24)) (.rcons (.vint .u8 (.icell (tv 23) (tl 0) 25)) (.rcons (.vint .u8 (.icell (tv 23) (tl 0) 26)) (.rcons (.vint .u8 (.icell (tv 23) (tl 0) 27)) (.rcons (.vint .u8 (.icell (tv 23) (tl 0) 28)) (.rcons (.vint .u8 (.icell (tv 23) (tl 0) 29)) (.rcons (.vint .u8 (.icell (tv 23) (tl 0) 30)) (.rcons (.vint .u8 (.icell (tv 23) (tl 0) 31)) .rnil))))))))))))))))))))))))))))))))])))))))))) .top)))))))))))))
theorem q8A:qn Tryz.prog qnP [qh3] [q8R,q8G] q6s:=qh Tryz.func98 Tryz.call98 (by kernel_rfl)
def qvJ:Out:=(.fresh 8 (.pre 0 (sg 0 []) (.both (fr 9 2 (.post 0 0 (sg 0 []) 9 (.pre 1 (sg 0 [bv 9 7,bv 7 5,bv 6 4,bv 1 10,bv 5 3,bv 4 2,bv 3 1,bg 2 0,bg 0 9,bg 8 6]) (.both (.fresh 11 (.post 1 0 (sg 0 [bv 9 7,bv 7 5,bv 6 4,bv 1 10,bv 5 3,bv 4 2,bv 3 1,bg 2 0,bg 0 9,bg 8 6]) 11 (.pre 2 (sg 0 [bv 3 7,bv 1 11,bg 0 9,bg 2 6]) (.both (.fresh 12 (.post 2 0 (sg 0 [bv 3 7,bv 1 11,bg 0 9,bg 2 6]) 12 (.ret 0 (sg 8 [bt 8 (r8 12)])))) .top)))) .top)))) .top)))
theorem q12:qn Tryz.prog qdO [qe3,qh6,qnP] [] qvJ:=qh Tryz.func59 Tryz.call59 (by kernel_rfl)
theorem q43:qlj.ok Tryz.prog:=q3D (by simp) fun Z hg hp=>by
 obtain ⟨hx,n,n1,n2,hn⟩:=hp
 simp [qx6,qlj,qqJ]
 rw [hn]
 have e1:=q5V ⟨n - 1,by omega⟩
 have e2:=qzs ⟨n - 1,by omega⟩
 simp only [] at e1 e2
 have e3:(((n - 1:Nat):Int) + 1) = (n:Int):=by omega
 rw [e3] at e1 e2
 rw [e1]
 refine ⟨by omega,by rw [e2]; omega,fun k k1 k2 hk=>?_⟩
 obtain rfl:k = n:=by omega
 rw [<- e1]
 exact q66 hx n1 n2
theorem q7a:qpp.ok Tryz.prog:=q6F (by simp) fun Z hg hp=>by
 obtain ⟨hx,n1,n2⟩:=hp
 simp [q15,qpp]
 obtain ⟨n,hn⟩:∃ n:Nat,(Z 1).i = n:=⟨(Z 1).i.toNat,by omega⟩
 rw [hn] at n1 n2 ⊢
 have e2:=qzs ⟨31 - n,by omega⟩
 simp only [] at e2
 rw [show (31 - ((31 - n:Nat):Int)) = (n:Int) by omega,show (((31 - n:Nat):Int) + 1) = ((32 - n:Nat):Int) by omega] at e2
 refine ⟨by omega,by rw [e2]; omega,?_⟩
 rw [e2,qqy (by omega),qtu hx (by omega),q0w,qbI,qbI,qe5,jar]
set_option maxRecDepth 20000 in
set_option pp.deepTerms true in
set_option pp.maxSteps 1000000 in
theorem qx7:qjV.ok Tryz.prog:=q78 (by simp [q43]) fun Z hg hp=>by
 obtain ⟨hh,hgr,hgd⟩:=hp
 simp (config:={ maxSteps:=2000000 }) [q20,qjV,q6d,q6f,q6h,q5X,qlj,qqJ,st8,q8q]
 refine ⟨⟨⟨_,rfl,rfl⟩,fun j hj=>absurd hj (by omega)⟩,fun w _ n _ a0 a1 hA=>⟨fun hlt=>?_,fun hge=>⟨?_,fun w _ n _ b0 b1 hB=>⟨fun hlt=>?_,fun hge=>⟨?_,⟨?_,?_,?_⟩,?_⟩⟩⟩⟩⟩
 ·obtain ⟨t,ht⟩:∃ t:Nat,n.i = t:=⟨n.i.toNat,by omega⟩
  have m0:qe .mul .i64 4 n.i = ((4 * t:Nat):Int):=by rw [qch (by omega) (by omega)]; omega
  have m1:qe .add .i64 (qe .mul .i64 4 n.i) 1 = ((4 * t + 1:Nat):Int):=by rw [m0,add64 (by omega) (by omega)]; omega
  have m2:qe .add .i64 (qe .mul .i64 4 n.i) 2 = ((4 * t + 2:Nat):Int):=by rw [m0,add64 (by omega) (by omega)]; omega
  have m3:qe .add .i64 (qe .mul .i64 4 n.i) 3 = ((4 * t + 3:Nat):Int):=by rw [m0,add64 (by omega) (by omega)]; omega
  have m5:qe .add .i64 n.i 1 = ((t + 1:Nat):Int):=by rw [add64 (by omega) (by omega)]; omega
  rw [m1,m2,m3,m0,m5]
  rw [ht,jar] at hA
  rw [ht]
  simp only [jar]
  have e1:=qw hh.1
  have e2:=qw hA.1
  refine ⟨by omega,by omega,by omega,by omega,by omega,by omega,by omega,by omega,by omega,by omega,by omega,by omega,⟨by omega,by omega,qgU hA (by omega) ?_⟩,by omega⟩
  rw [qu2,qoF (by rw [qwe]; omega),q3A (by omega),jdd (4 * t) 8,jdd (4 * t + 1) 8,jdd (4 * t + 2) 8,jdd (4 * t + 3) 8]
 ·have:n.i = 16:=by omega
  rw [this] at hA; exact hA
 ·obtain ⟨t,ht⟩:∃ t:Nat,n.i = ((16 + t:Nat):Int):=⟨n.i.toNat - 16,by omega⟩
  have m15:qe .sub .i64 n.i 15 = ((1 + t:Nat):Int):=by rw [sub64 (by omega) (by omega)]; omega
  have m2:qe .sub .i64 n.i 2 = ((14 + t:Nat):Int):=by rw [sub64 (by omega) (by omega)]; omega
  have m16:qe .sub .i64 n.i 16 = (t:Int):=by rw [sub64 (by omega) (by omega)]; omega
  have m7:qe .sub .i64 n.i 7 = ((9 + t:Nat):Int):=by rw [sub64 (by omega) (by omega)]; omega
  have m5:qe .add .i64 n.i 1 = ((16 + t + 1:Nat):Int):=by rw [add64 (by omega) (by omega)]; omega
  rw [m15,m2,m16,m7,m5]
  rw [ht,jar] at hB
  rw [ht]
  simp only [jar]
  have e2:=qw hB.1
  refine ⟨by omega,by omega,by omega,by omega,by omega,⟨qaW hB (by omega),7,by omega,by omega,rfl⟩,fun r1 _ g1=>⟨⟨qaW hB (by omega),18,by omega,by omega,rfl⟩,fun r2 _ g2=>⟨⟨qaW hB (by omega),17,by omega,by omega,rfl⟩,fun r3 _ g3=>⟨⟨qaW hB (by omega),19,by omega,by omega,rfl⟩,fun r4 _ g4=>⟨by omega,by omega,by omega,by omega,by omega,⟨by omega,by omega,qgU hB (by omega) ?_⟩,by omega⟩⟩⟩⟩⟩
  rw [g1 7 (by omega) (by omega) rfl,g2 18 (by omega) (by omega) rfl,g3 17 (by omega) (by omega) rfl,g4 19 (by omega) (by omega) rfl]
  rw [q9f (qaW hB (by omega)),q5Z (qaW hB (by omega))]
  simp only [qfl,qoB,qbI]
  rw [qc9 hB (by omega:1 + t < 16 + t),qc9 hB (by omega:14 + t < 16 + t),qc9 hB (by omega:t < 16 + t),qc9 hB (by omega:9 + t < 16 + t),qny qwe (by omega)]
  generalize (qaj (qds (Z 1).d) 48).getD (1 + t) 0 = p1
  generalize (qaj (qds (Z 1).d) 48).getD (14 + t) 0 = p14
  generalize (qaj (qds (Z 1).d) 48).getD (9 + t) 0 = p9
  generalize (qaj (qds (Z 1).d) 48).getD t 0 = p0
  refine congrArg ofW ?_
  simp only [sg0,sg1]
  ac_rfl
 ·rw [qw hh.1]; decide
 ·have:n.i = 64:=by omega
  rw [this] at hB; exact hB
 ·simp only [qbs]
  exact ⟨hh.2.1 0 (by omega),hh.2.1 1 (by omega),hh.2.1 2 (by omega),hh.2.1 3 (by omega),hh.2.1 4 (by omega),hh.2.1 5 (by omega),hh.2.1 6 (by omega),hh.2.1 7 (by omega)⟩
 ·simp only [qbs]; rfl
 ·intro w _ n _ A _ B _ C _ D _ E _ F _ G _ H _ d0 d1 hW iA iB iC iD iE iF iG iH hR
  refine ⟨fun hlt=>?_,fun hge=>⟨⟨?_,?_,hh,fun j hj=>absurd hj (by omega)⟩,?_⟩⟩
  ·obtain ⟨t,ht⟩:∃ t:Nat,n.i = t:=⟨n.i.toNat,by omega⟩
   have m5:qe .add .i64 n.i 1 = ((t + 1:Nat):Int):=by rw [add64 (by omega) (by omega)]; omega
   rw [m5]
   rw [ht,jar] at hR
   rw [ht]
   simp only [jar]
   have e1:=qw hW.1
   refine ⟨⟨iE,6,by omega,by omega,rfl⟩,fun r1 _ g1=>⟨⟨iE,11,by omega,by omega,rfl⟩,fun r2 _ g2=>⟨⟨iE,25,by omega,by omega,rfl⟩,fun r3 _ g3=>⟨hgr,by omega,by rw [hgd]; decide,by omega,⟨iA,2,by omega,by omega,rfl⟩,fun r4 _ g4=>⟨⟨iA,13,by omega,by omega,rfl⟩,fun r5 _ g5=>⟨⟨iA,22,by omega,by omega,rfl⟩,fun r6 _ g6=>⟨⟨by omega,by omega,hW,⟨?_,iA,iB,iC,?_,iE,iF,iG⟩,?_⟩,by omega⟩⟩⟩⟩⟩⟩⟩
   ·rw [qfl]; exact qge
   ·rw [qfl]; exact qge
   ·rw [g1 6 (by omega) (by omega) rfl,g2 11 (by omega) (by omega) rfl,g3 25 (by omega) (by omega) rfl,g4 2 (by omega) (by omega) rfl,g5 13 (by omega) (by omega) rfl,g6 22 (by omega) (by omega) rfl]
    simp only [qfl,qoB,q6u,q0w,qbI,q8s,q73]
    rw [qc9 hW (by omega),hgd,qrT (by omega),qmz,<- hR,qzM (by omega)]
    rfl
  ·intro j hj
   match j,hj with
   | 0,_=>exact iA
   | 1,_=>exact iB
   | 2,_=>exact iC
   | 3,_=>exact iD
   | 4,_=>exact iE
   | 5,_=>exact iF
   | 6,_=>exact iG
   | 7,_=>exact iH
  ·have:n.i = 64:=by omega
   rw [this] at hR; exact hR
  ·intro v _ n2 _ d _ f0 f1 hv hR2 hd hlo hhi
   have hrow:∀ j,j < 8->qa [[.int .u32 (qa v.d 0),.int .u32 (qa v.d 1),.int .u32 (qa v.d 2),.int .u32 (qa v.d 3),.int .u32 (qa v.d 4),.int .u32 (qa v.d 5),.int .u32 (qa v.d 6),.int .u32 (qa v.d 7)]] j = qa v.d j:=fun j hj=>q9U (f:=qa v.d) hj
   generalize [[Value.int .u32 (qa v.d 0),.int .u32 (qa v.d 1),.int .u32 (qa v.d 2),.int .u32 (qa v.d 3),.int .u32 (qa v.d 4),.int .u32 (qa v.d 5),.int .u32 (qa v.d 6),.int .u32 (qa v.d 7)]] = e at hrow ⊢
   refine ⟨fun hlt=>?_,fun hge=>⟨hd,?_,fun j hj=>hhi j (by omega)⟩⟩
   ·obtain ⟨t,ht⟩:∃ t:Nat,n2.i = t:=⟨n2.i.toNat,by omega⟩
    have m5:qe .add .i64 n2.i 1 = ((t + 1:Nat):Int):=by rw [add64 (by omega) (by omega)]; omega
    rw [m5]
    rw [ht] at hlo hhi ⊢
    simp only [jar]
    have e1:=qw hd.1
    refine ⟨by omega,by omega,⟨by omega,by omega,fun j hj=>by rw [hrow j hj]; exact hv j hj,by rw [qdW hrow]; exact hR2,qxn hd (by omega) (by rw [qfl]; exact qge),fun j hj=>?_,fun j hj=>?_⟩,by omega⟩
    ·by_cases ej:j = t
     ·rw [ej,qcy hd.1 (by omega),qfl,hhi t (by omega),hrow t (by omega)]
     ·rw [qa2 ej,hlo j (by omega),hrow j (by omega)]
    ·rw [qa2 (by omega),hhi j (by omega)]
   ·have hc:∀ j,j < 8->toW (qa d.d j) = toW (qa (Z 1).d j) + toW (qa v.d j):=fun j hj=>by rw [hlo j (by omega),qbI]
    have h8:∀ (x:List (List Value)),qaT (qd x 8) = ⟨toW (qa x 0),toW (qa x 1),toW (qa x 2),toW (qa x 3),toW (qa x 4),toW (qa x 5),toW (qa x 6),toW (qa x 7)⟩:=fun x=>rfl
    unfold qen
    rw [<- hR2]
    simp only [stW,h8,q39]
    rw [hc 0 (by omega),hc 1 (by omega),hc 2 (by omega),hc 3 (by omega),hc 4 (by omega),hc 5 (by omega),hc 6 (by omega),hc 7 (by omega)]
set_option maxRecDepth 20000 in
theorem qpa:qe3.ok Tryz.prog:=qzj (by simp) fun Z hg hp=>by
 simp [qr4,qe3]
 exact qzX
theorem qv7:qh6.ok Tryz.prog:=q5d (by simp [qx7]) fun Z hg hp=>by
 obtain ⟨⟨m0,hm0,hl0⟩,o0,l0,lc,l1,hle,hB,hGr,hGd⟩:=hp
 simp (config:={ maxSteps:=2000000 }) [qyy,qh6,q1l,qjV,gOk]
 have hnil:=qw hm0.1.1
 refine ⟨fun h=>by rw [h] at hnil; simp at hnil,fun _=>⟨⟨l0,lc,fun m h=>by simpa [qaG] using h⟩,fun o _ l _ c _ d _ a0 a1 a2 a3 hH=>⟨a0,fun hpos=>?_,fun hz m h=>?_⟩⟩⟩
 ·have hM:=hH m0 hm0
  obtain ⟨O,hO⟩:∃ O:Nat,(Z 3).i = O:=⟨(Z 3).i.toNat,by omega⟩
  obtain ⟨L,hL⟩:∃ L:Nat,l.i = L:=⟨l.i.toNat,by omega⟩
  obtain ⟨A,hA⟩:∃ A:Nat,(Z 4).i - l.i = A:=⟨((Z 4).i - l.i).toNat,by omega⟩
  have ho:=a3 hpos
  rw [hA] at ho
  rw [hO,hA] at hH hM
  have hOA:O + A + L <= (Z 6).d.length:=by omega
  have hsl:=q4V (d:=(Z 6).d) (o:=O) (a:=A) (by omega)
  have hML:qa d.d 72 = ((m0 ++ qaG (Z 6).d O A).length:Nat):=hM.2.2.1
  have hMl:(m0 ++ qaG (Z 6).d O A).length = m0.length + A:=by rw [jal,hsl]
  have hrem:qe .rem .i64 (qb d.d 0 72) 64 = (((m0.length + A) % 64:Nat):Int):=by rw [qbs,hML,hMl,qqw]
  rw [hrem]
  obtain ⟨r,hr⟩:∃ r,(m0.length + A) % 64 = r:=⟨_,rfl⟩
  have hrlt:r < 64:=by omega
  rw [hr]
  obtain ⟨n,hn⟩:∃ n:Nat,(if l.i < 64 - (r:Int) then l.i else 64 - (r:Int)) = (n:Int):=by
   split
   ·exact ⟨L,hL⟩
   ·exact ⟨64 - r,by omega⟩
  have hnL:n <= L/\r + n <= 64/\0 < n/\(r + n = 64∨n = L):=by split at hn <;> omega
  rw [hn]
  have hoff:(if (64:Int) = (r:Int) then (8:Int) else 8 + (r:Int)).toNat = 8 + r:=by
   rw [jaf (by omega)]; omega
  have hx:List.take ((n:Nat):Int).toNat (List.take l.i.toNat (List.drop o.i.toNat (Z 6).d)) = ((Z 6).d.drop (O + A)).take n:=by
   rw [List.take_take,jar,show min n l.i.toNat = n by omega,show o.i.toNat = O + A by omega]
  rw [hoff,hx]
  obtain ⟨x,hxe⟩:∃ x,((Z 6).d.drop (O + A)).take n = x:=⟨_,rfl⟩
  have hxl:x.length = n:=by rw [<- hxe,jbm,jc4]; omega
  have hxB:q6 x:=by rw [<- hxe]; exact q3W hB
  have hmore:∀ m:List Int,(m ++ qaG (Z 6).d O A) ++ bI x = m ++ qaG (Z 6).d (Z 3).i ((Z 4).i - (l.i - (n:Int))):=fun m=>by
   rw [jbu,<- hxe,q1L (by omega),hO,show (Z 4).i - (l.i - (n:Int)) = ((A + n:Nat):Int) by omega]
  have hmod:∀ m,qam (Z 1).d m->(m ++ qaG (Z 6).d O A).length % 64 = r:=fun m h=>by
   rw [jal,hsl,qkv h hm0]; exact hr
  rw [hxe,qrP hM.1 (by omega) (by omega) (by omega) (by omega)]
  have hsum:qe .add .i64 (r:Int) (n:Int) = ((r + n:Nat):Int):=by rw [add64 (by omega) (by omega)]; omega
  rw [hsum]
  have hd1:=qw hM.1.1
  have hcame:=qic hM.1 hxB (r:=r) (by omega)
  have hlast:((n:Int) < l.i->(if c.i = (n:Int) then o.i else o.i + (n:Int)) = (Z 3).i + ((Z 4).i - (l.i - (n:Int)))):=fun hlt=>by
   rw [jaf (by omega)]; omega
  refine ⟨by omega,by omega,by omega,by omega,by omega,by omega,by omega,by omega,by omega,by omega,by omega,by omega,fun hfull=>⟨⟨hcame.row,hGr,hGd⟩,fun f _ hf hst hk=>⟨⟨by omega,by omega,by omega,hlast,fun m h=>?_⟩,by omega⟩⟩,fun hnot=>⟨⟨by omega,by omega,by omega,hlast,fun m h=>?_⟩,by omega⟩⟩
  ·rw [<- hmore m]
   exact qrY (hH m h) hxB (hmod m h) (by omega) hf hst (hk 72 (by omega))
  ·rw [<- hmore m]
   exact qrW (hH m h) hxB (hmod m h) (by omega)
 ·have hl:l.i = 0:=by omega
  have:=hH m h
  rw [hl,Int.sub_zero] at this
  exact this
set_option maxRecDepth 20000 in
theorem q0a:qh3.ok Tryz.prog:=qz3 (by simp [qx7]) fun Z hg hp=>by
 obtain ⟨⟨m0,hm0,hl0⟩,l0,l1,lc,hrow,hB,hGr,hGd⟩:=hp
 simp (config:={ maxSteps:=2000000 }) [qrF,qh3,qvP,qjV,gOk]
 have hnil:=qw hm0.1.1
 have hnil5:=qw hrow
 refine ⟨fun h=>by rw [h] at hnil; simp at hnil,fun _=>⟨⟨l0,lc,fun m h=>by simpa [qdr] using h⟩,fun o _ l _ c _ d _ a0 a1 a2 a3 hH=>⟨a0,fun hpos=>?_,fun hz m h=>?_⟩⟩⟩
 ·have hM:=hH m0 hm0
  obtain ⟨L,hL⟩:∃ L:Nat,l.i = L:=⟨l.i.toNat,by omega⟩
  obtain ⟨A,hA⟩:∃ A:Nat,(Z 3).i - l.i = A:=⟨((Z 3).i - l.i).toNat,by omega⟩
  have ho:=a3 hpos
  rw [hA] at ho
  rw [hA] at hH hM
  have hsl:=quE (d:=(Z 5).d) (a:=A) (by omega)
  have hML:qa d.d 72 = ((m0 ++ qdr (Z 5).d 0 A).length:Nat):=hM.2.2.1
  have hMl:(m0 ++ qdr (Z 5).d 0 A).length = m0.length + A:=by rw [jal,hsl]
  have hrem:qe .rem .i64 (qb d.d 0 72) 64 = (((m0.length + A) % 64:Nat):Int):=by rw [qbs,hML,hMl,qqw]
  rw [hrem]
  obtain ⟨r,hr⟩:∃ r,(m0.length + A) % 64 = r:=⟨_,rfl⟩
  have hrlt:r < 64:=by omega
  rw [hr]
  obtain ⟨n,hn⟩:∃ n:Nat,(if l.i < 64 - (r:Int) then l.i else 64 - (r:Int)) = (n:Int):=by
   split
   ·exact ⟨L,hL⟩
   ·exact ⟨64 - r,by omega⟩
  have hnL:n <= L/\r + n <= 64/\0 < n/\(r + n = 64∨n = L):=by split at hn <;> omega
  rw [hn]
  have hoff:(if (64:Int) = (r:Int) then (8:Int) else 8 + (r:Int)).toNat = 8 + r:=by
   rw [jaf (by omega)]; omega
  have hx:List.take ((n:Nat):Int).toNat (qbg (Z 5).d o.i.toNat l.i.toNat) = qbg (Z 5).d A n:=by
   rw [jar,qz2 (by omega),show o.i.toNat = A by omega]
  rw [hoff,hx]
  obtain ⟨x,hxe⟩:∃ x,qbg (Z 5).d A n = x:=⟨_,rfl⟩
  have hxl:x.length = n:=by rw [<- hxe,qmc hrow (by omega)]
  have hxB:q6 x:=by rw [<- hxe]; exact qp8 hrow hB
  have hmore:∀ m:List Int,(m ++ qdr (Z 5).d 0 A) ++ bI x = m ++ qdr (Z 5).d 0 ((Z 3).i - (l.i - (n:Int))):=fun m=>by
   rw [jbu,<- hxe,qok hrow,q3y,show (Z 3).i - (l.i - (n:Int)) = ((A + n:Nat):Int) by omega]
  have hmod:∀ m,qam (Z 1).d m->(m ++ qdr (Z 5).d 0 A).length % 64 = r:=fun m h=>by
   rw [jal,hsl,qkv h hm0]; exact hr
  rw [hxe,qrP hM.1 (by omega) (by omega) (by omega) (by omega)]
  have hsum:qe .add .i64 (r:Int) (n:Int) = ((r + n:Nat):Int):=by rw [add64 (by omega) (by omega)]; omega
  rw [hsum]
  have hd1:=qw hM.1.1
  have hcame:=qic hM.1 hxB (r:=r) (by omega)
  have hlast:((n:Int) < l.i->(if c.i = (n:Int) then o.i else o.i + (n:Int)) = (Z 3).i - (l.i - (n:Int))):=fun hlt=>by
   rw [jaf (by omega)]; omega
  refine ⟨by omega,by omega,by omega,by omega,by omega,by omega,by omega,by omega,by omega,by omega,by omega,by omega,by omega,fun hfull=>⟨⟨hcame.row,hGr,hGd⟩,fun f _ hf hst hk=>⟨⟨by omega,by omega,by omega,hlast,fun m h=>?_⟩,by omega⟩⟩,fun hnot=>⟨⟨by omega,by omega,by omega,hlast,fun m h=>?_⟩,by omega⟩⟩
  ·rw [<- hmore m]
   exact qrY (hH m h) hxB (hmod m h) (by omega) hf hst (hk 72 (by omega))
  ·rw [<- hmore m]
   exact qrW (hH m h) hxB (hmod m h) (by omega)
 ·have hl:l.i = 0:=by omega
  have:=hH m h
  rw [hl,Int.sub_zero] at this
  exact this
set_option maxRecDepth 20000 in
set_option maxHeartbeats 800000 in
theorem q1K:qnP.ok Tryz.prog:=q8A (by simp [q0a]) fun Z hg hp=>by
 obtain ⟨⟨m0,hm0,hl0⟩,hGr,hGd⟩:=hp
 simp (config:={ maxSteps:=2000000 }) [q6s,qnP,q8R,q8G,qh3,gOk]
 have hnil:=qw hm0.1.1
 have hL:qa (Z 1).d 72 = (m0.length:Int):=hm0.2.2.1
 have hlen:∀ m,qam (Z 1).d m->m.length = m0.length:=fun m h=>qkv h hm0
 have hn8:qe .sub .i64 64 (qe .rem .i64 (qe .add .i64 (qb (Z 1).d 0 72) 8) 64) = 64 - (qa (Z 1).d 72 + 8) % 64:=by
  rw [qbs,add64 (by omega) (by omega),hL,show ((m0.length:Int) + 8) = ((m0.length + 8:Nat):Int) by omega,qqw,sub64 (by omega) (by omega)]
  omega
 refine ⟨fun h=>by rw [h] at hnil; simp at hnil,fun _=>⟨by omega,⟨?_,?_,hn8,?_,⟨_,rfl,rfl⟩,fun j hj=>?_⟩,fun d _ p _ n _ v _ t _ t0 t1 hd1 hd2 hn hv hp1 hp2=>⟨fun hlt=>?_,fun hge=>⟨?_,?_,?_,?_,fun f _ hf=>⟨?_,fun e _ g _ t _ u0 u1 he hst hg1 hg2=>⟨fun hlt=>?_,fun hge=>⟨?_,fun m h=>?_⟩⟩⟩⟩⟩⟩⟩
 ·exact qsU (f:=qb (Z 1).d 0)
 ·intro j hj
  exact (qsP (f:=qb (Z 1).d 0) hj).trans qbs
 ·rw [qbs,hL]
  have h1:IntKind.u64.wrap (m0.length:Int) = m0.length:=by simp [IntKind.wrap,IntKind.bits,IntKind.signed]; omega
  rw [h1]
  show IntKind.u64.wrap ((m0.length:Int) * 8) = _
  simp [IntKind.wrap,IntKind.bits,IntKind.signed]; omega
 ·have hz:∀ j:Fin 72,qa [Value.int .u8 128 :: List.replicate 71 (Value.int .u8 0)] j.val = if j.val = 0 then 128 else 0:=by decide +kernel
  refine (hz ⟨j,hj⟩).trans ?_
  by_cases e:j = 0
  ·rw [jah e,jah e]
  ·rw [jaf e,jaf e,jaf (by omega)]
 ·obtain ⟨T,hT⟩:∃ T:Nat,t.i = T:=⟨t.i.toNat,by omega⟩
  obtain ⟨N,hN⟩:∃ N:Nat,n.i = N:=⟨n.i.toNat,by omega⟩
  have m1:qe .sub .i64 56 (qe .mul .i64 8 t.i) = ((8 * (7 - T):Nat):Int):=by rw [qch (by omega) (by omega),sub64 (by omega) (by omega)]; omega
  have m2:qe .add .i64 n.i t.i = ((N + T:Nat):Int):=by rw [add64 (by omega) (by omega)]; omega
  have m3:qe .add .i64 t.i 1 = ((T + 1:Nat):Int):=by rw [add64 (by omega) (by omega)]; omega
  rw [m1,m2,m3,hT,hN,qrv (by omega),qgv,hv]
  rw [hT,hN] at hp2
  have e1:=qw hp1
  simp only [jar] at hp2 ⊢
  refine ⟨by omega,by omega,by omega,by omega,⟨by omega,by omega,hd1,hd2,by omega,trivial,qc2 hp1,fun j hj=>?_⟩,by omega⟩
  by_cases ej:j = N + T
  ·rw [ej,qcy hp1 (by omega),jaf (by omega),jah ⟨by omega,by omega⟩,qqA (by omega),show N + T - N = T by omega,show 8 - 1 - T = 7 - T by omega]
  ·rw [qa2 ej,hp2 j hj]
   by_cases e0:j = 0
   ·rw [jah e0,jah e0]
   ·rw [jaf e0,jaf e0]
    by_cases e2:(N:Int) <= j/\j < N + T
    ·rw [jah e2,jah ⟨e2.1,by omega⟩]
    ·rw [jaf e2,jaf (by omega)]
 ·rw [add64 (by omega) (by omega)]; omega
 ·rw [add64 (by omega) (by omega)]; omega
 ·rw [qw hp1]; decide
 ·refine ⟨⟨m0,qi7 hm0 hd1 hd2,hl0⟩,by rw [add64 (by omega) (by omega)]; omega,by rw [add64 (by omega) (by omega)]; omega,hp1,fun x hx=>?_,hGr,hGd⟩
  obtain ⟨j,hj,rfl⟩:=q4k hx
  rw [hp2 j hj]
  split
  ·omega
  ·split
   ·rw [qqA (by omega)]; omega
   ·omega
 ·have hpad:∀ m,qam (Z 1).d m->m ++ qdr p.d 0 (qe .add .i64 n.i 8) = qcN m:=fun m h=>by
   have h1:=hlen m h
   have h8:t.i = 8:=by omega
   obtain ⟨N,hN⟩:∃ N:Nat,n.i = N:=⟨n.i.toNat,by omega⟩
   rw [hN,add64 (by omega) (by omega),show ((N:Int) + 8) = ((N + 8:Nat):Int) by omega]
   rw [q6Z (n:=N) (v:=qa (Z 1).d 72 * 8) (by omega) (by omega) hp1 (fun j hj=>by
    rw [hp2 j hj,hN,h8]
    by_cases e0:j = 0
    ·rw [jah e0,jah e0]
    ·rw [jaf e0,jaf e0]
     by_cases e2:(N:Int) <= j/\j < (N:Int).toNat + (8:Int).toNat
     ·rw [jah e2,jah ⟨by omega,by have:=e2.2; simp at this; omega⟩,jar]
     ·rw [jaf e2,jaf (by simp at e2; omega)])]
   rw [qcN,hL,h1,show N - 1 = 64 - (m0.length + 8) % 64 - 1 by omega]
  refine ⟨(hf m0 (qi7 hm0 hd1 hd2)).1,fun m h=>?_,⟨_,rfl,rfl⟩,fun j hj=>absurd hj (by omega)⟩
  have:=hf m (qi7 h hd1 hd2)
  rw [hpad m h] at this
  exact this.2.2.2.1
 ·obtain ⟨T,hT⟩:∃ T:Nat,t.i = T:=⟨t.i.toNat,by omega⟩
  have m3:qe .add .i64 t.i 1 = ((T + 1:Nat):Int):=by rw [add64 (by omega) (by omega)]; omega
  have m1:qe .sub .i64 24 (qe .mul .i64 8 (qe .rem .i64 t.i 4)) = ((24 - 8 * (T % 4):Nat):Int):=by
   rw [hT,q8E,qch (by omega) (by omega),sub64 (by omega) (by omega)]; omega
  rw [m1,m3,hT,q8X (by omega),qx9 (by omega),qgv]
  rw [hT] at hg2
  have e1:=qw hg1
  have e2:=qw he.1
  simp only [jar]
  refine ⟨by omega,by omega,by omega,by omega,by omega,by omega,⟨by omega,by omega,he,hst,qc2 hg1,fun j hj=>?_⟩,by omega⟩
  by_cases ej:j = T
  ·rw [ej,qcy hg1 (by omega),qz5 he (by omega)]
  ·rw [qa2 ej,hg2 j (by omega)]
 ·rw [qw hg1]; decide
 ·have h32:t.i = 32:=by omega
  have:sha m = qd3 (stW e.d):=by rw [hst m h]; rfl
  rw [this]
  refine qq4 qjN fun j hj=>?_
  exact (qiD (f:=qb g.d 0) hj).trans (qbs.trans (hg2 j (by omega)))
set_option maxRecDepth 20000 in
theorem qkY:qdO.ok Tryz.prog:=q12 (by simp [qpa,qv7,q1K]) fun Z hg hp=>by
 obtain ⟨⟨o0,l0,lc,l1,hle,hB⟩,hGr,hGd⟩:=hp
 simp (config:={ maxSteps:=2000000 }) [qvJ,qdO,qe3,qh6,qnP,gOk]
 refine fun h _ hh=>⟨⟨⟨[],hh,by decide⟩,o0,l0,lc,l1,hle,hB,hGr,hGd⟩,fun g _ hg2=>⟨⟨⟨_,hg2 [] hh,?_⟩,hGr,hGd⟩,fun d _ hd=>?_⟩⟩
 ·have:(qaG (Z 4).d (Z 1).i (Z 2).i).length <= (Z 2).i.toNat:=by simp [qaG]; omega
  simp only [jdv]; omega
 ·exact (show qd _ 32 = qd d.d 32 from rfl).trans (hd _ (by simpa using hg2 [] hh))
def q0L:Out:=(.br (tv 2)
 (.ret 0 (sg 8 [bv 9 2,bt 8 (.bl false)]))
 (.need (.cmp .leq (tl 0) (tv 4)) (.both (.ret 0 (sg 8 [bt 9 (.cmp .gtr (tv 7) (.arith .sub .i64 (tv 1) (tv 4))),bt 8 (.not (.cmp .gtr (tv 7) (.arith .sub .i64 (tv 1) (tv 4))))])) .top)))
theorem q6I:qn Tryz.prog qgY [] [] q0L:=qh Tryz.func132 Tryz.call132 (by kernel_rfl)
def qv2:Out:=(.pre 0 (sg 0 [bv 6 6,bv 5 5,bv 4 4,bg 3 3,bv 2 2,bv 1 1,bv 7 8,bg 0 0]) (.both (fr 9 2 (.post 0 0 (sg 0 [bv 6 6,bv 5 5,bv 4 4,bg 3 3,bv 2 2,bv 1 1,bv 7 8,bg 0 0]) 9 (.br (tv 9)
 (.need (.beq (.bl false) (tv 10)) (.inv 0 11 (sg 1000 [bv 1003 6,bv 1002 5,bv 1001 4,bg 1000 3,bt 1004 (.arith .sub .i64 (tv 8) (tl 1))]) (fr 11 5 (.hyp 0 11 (.br (.cmp .geq (tv 15) (tl 0))
 (.need (.cmp .geq (.arith .mul .i64 (tl 8) (tv 15)) (tl 0)) (.both (.fresh 16 (.both (.need (.cmp .eql (tv 12) (.dlen (tv 14))) (.need (.cmp .leq (.tims (tl 1) (.plus (tv 12) (tl 1))) (tl 140737488355328)) (fr 17 2 (.both (.both (.both (.back 0 11 (sg 1000 [bt 1003 (.dapp (tv 14) (.rcons (.vint .u8 (.conv .u8 (.arith .shr .u64 (tv 7) (.arith .mul .i64 (tl 8) (tv 15))))) .rnil)),bv 1002 18,bt 1001 (.plus (tv 12) (tl 1)),bg 1000 17,bt 1004 (.arith .sub .i64 (tv 15) (tl 1))])) .top) .top) .top)))) .top)) .top))
 (.ret 0 (sg 9 [bv 13 14,bv 12 13,bv 11 12,bg 10 11,bt 9 (.bl false)])))))))
 (.ret 0 (sg 9 [bv 13 6,bv 12 5,bv 11 4,bg 10 3,bv 9 10]))))) .top))
theorem q2s:qn Tryz.prog qga [qgY] [qy1] qv2:=qh Tryz.func131 Tryz.call131 (by kernel_rfl)
@[simp] def q10:Sg:=sg 0 [bv 6 6,bv 5 5,bv 4 4,bg 3 3,bv 2 2,bv 1 1,bt 8 (tl 1),bt 7 (.conv .u64 (tv 7)),bg 0 0]
def q82:Out:=(.pre 0 q10 (.both (fr 8 5 (.post 0 0 q10 8 (.ret 0 (sg 8 [bv 12 12,bv 11 11,bv 10 10,bg 9 9,bv 8 8])))) .top))
theorem q9G:qn Tryz.prog u8C [qga] [] q82:=qh Tryz.func106 Tryz.call106 (by kernel_rfl)
@[simp] def qxA:Sg:=sg 0 [bv 6 6,bv 5 5,bv 4 4,bg 3 3,bv 2 2,bv 1 1,bt 8 (tl 2),bt 7 (.conv .u64 (tv 7)),bg 0 0]
def q5Y:Out:=(.pre 0 qxA (.both (fr 8 5 (.post 0 0 qxA 8 (.ret 0 (sg 8 [bv 12 12,bv 11 11,bv 10 10,bg 9 9,bv 8 8])))) .top))
theorem q9i:qn Tryz.prog qv0 [qga] [] q5Y:=qh Tryz.func105 Tryz.call105 (by kernel_rfl)
def qn2:Out:=(.fresh 1 (.ret 0 (sg 1 [bt 2 (.imax (tl 0) (tv 0)),bg 1 1])))
theorem quf:qn Tryz.prog qfj [] [] qn2:=qh Tryz.func104 Tryz.call104 (by kernel_rfl)
def qyi:Out:=(.pre 0 (sg 0 [bv 6 6,bv 5 5,bv 4 4,bg 3 3,bv 2 2,bv 1 1,bt 7 (tl 32),bg 0 0]) (.both (fr 9 2 (.post 0 0 (sg 0 [bv 6 6,bv 5 5,bv 4 4,bg 3 3,bv 2 2,bv 1 1,bt 7 (tl 32),bg 0 0]) 9 (.br (tv 9)
 (.need (.cmp .eql (tv 4) (.dlen (tv 6))) (.need (.cmp .lss (tl 0) (.dlen (tv 8))) (.need (.cmp .leq (.tims (tl 1) (.plus (tv 4) (tl 32))) (tl 140737488355328)) (fr 11 2 (.ret 0 (sg 9 [bt 13 (.dapp (tv 6) (.c3 .xrows (tv 8) (tl 0) (tl 32))),bv 12 12,bt 11 (.plus (tv 4) (tl 32)),bg 10 11,bv 9 10]))))))
 (.ret 0 (sg 9 [bv 13 6,bv 12 5,bv 11 4,bg 10 3,bv 9 10]))))) .top))
theorem q5S:qn Tryz.prog qlT [qgY] [] qyi:=qh Tryz.func107 Tryz.call107 (by kernel_rfl)
def q1C:Out:=(.pre 0 (sg 0 [bv 6 6,bv 5 5,bv 4 4,bg 3 3,bv 2 2,bv 1 1,bt 7 (tl 32),bg 0 0]) (.both (fr 9 2 (.post 0 0 (sg 0 [bv 6 6,bv 5 5,bv 4 4,bg 3 3,bv 2 2,bv 1 1,bt 7 (tl 32),bg 0 0]) 9 (.br (tv 9)
 (.need (.cmp .eql (tv 4) (.dlen (tv 6))) (.need (.cmp .lss (tl 0) (.dlen (tv 8))) (.need (.cmp .leq (.tims (tl 1) (.plus (tv 4) (tl 32))) (tl 140737488355328)) (fr 11 2 (.ret 0 (sg 9 [bt 13 (.dapp (tv 6) (.c3 .xrows (tv 8) (tl 4) (tl 32))),bv 12 12,bt 11 (.plus (tv 4) (tl 32)),bg 10 11,bv 9 10]))))))
 (.ret 0 (sg 9 [bv 13 6,bv 12 5,bv 11 4,bg 10 3,bv 9 10]))))) .top))
theorem q6R:qn Tryz.prog qoI [qgY] [] q1C:=qh Tryz.func107 Tryz.call107 (by kernel_rfl)
def qvS:Out:=(.br (.and (.cmp .eql (.dlen (tv 3)) (tl 0)) (.isnil 0))
 (.need (.cmp .eql (tv 1) (tl 0)) (.ret 0 (sg 5 [bt 7 .dnil,bt 6 (tl 0),(5,.nil)])))
 (.fresh 5 (.need (.cmp .leq (tl 0) (tv 1)) (.need (.cmp .leq (tv 1) (.dlen (tv 3))) (.need (.cmp .leq (.tims (tl 1) (tv 1)) (tl 140737488355328)) (fr 6 2 (.ret 0 (sg 5 [bt 7 (.dtake (tv 3) (tv 1)),bv 6 7,bg 5 6]))))))))
theorem q0X:qn Tryz.prog qfP [] [] qvS:=qh Tryz.func91 Tryz.call91 (by kernel_rfl)
def qyx:Out:=(.br (tv 2)
 (.ret 0 (sg 7 []))
 (.pre 0 (sg 0 [bv 4 5,bv 3 6,bv 2 5,bv 1 4,bg 0 3]) (.both (fr 7 3 (.post 0 0 (sg 0 [bv 4 5,bv 3 6,bv 2 5,bv 1 4,bg 0 3]) 7 (.ret 1 (sg 7 [bv 9 9,bv 8 8,bg 7 7])))) .top)))
theorem q4x:qn Tryz.prog qlr [qfP] [] qyx:=qh Tryz.func108 Tryz.call108 (by kernel_rfl)
theorem qyY {lim:Int} {f:Bool} {m s:List Int} (h:qgh lim f m s.length = true):qf0 lim f m s = (true,m):=by rw [qf0,jah h]
theorem qjW {lim:Int} {f:Bool} {m s:List Int} (h:¬ qgh lim f m s.length = true):qf0 lim f m s = (false,m ++ s):=by rw [qf0,jaf h]
theorem qqO:qgY.ok Tryz.prog:=q6I (by simp) fun Z hg hp=>by
 obtain ⟨⟨w0,w1,w2,w3,w5⟩,k0,k1⟩:=hp
 simp [q0L,qgY,qbO,qae,qgh]
 refine ⟨fun h=>⟨fun _=>h,h⟩,fun h=>⟨by omega,?_⟩⟩
 rw [sub64 (by omega) (by omega),h,bI_len,<- w2]
 simp [qL]
theorem quG:qfj.ok Tryz.prog:=quf (by simp) fun Z hg hp=>by
 simp [qn2,qfj]
 omega
theorem qrZ:qfP.ok Tryz.prog:=q0X (by simp) fun Z hg hp=>by
 obtain ⟨h0,h1,h2⟩:=hp
 simp [qvS,qfP]
 refine ⟨fun h _=>⟨by rw [h] at h1; simpa using h1,h⟩,fun _=>⟨h0,by omega,h2,?_⟩⟩
 rw [ja3 (by omega)]
theorem q5o:qlr.ok Tryz.prog:=q4x (by simp [qrZ]) fun Z hg hp=>by
 obtain ⟨⟨w0,w1,w2,w3,w5⟩,hq⟩:=hp
 simp [qyx,qlr,qfP,qbO,qae]
 exact fun hf=>⟨⟨by omega,w2,hq⟩,fun d _ hd=>⟨hf,hd⟩⟩
theorem qj2 {a b:qf}:bI (a ++ b) = bI a ++ bI b:=by simp [bI]
theorem qhK {a b:qf} (h:q6 a) (h':q6 b):q6 (a ++ b):=fun r hr=>(jas.1 hr).elim (h r) (h' r)
theorem q2K {lim n c k:Int} {f:Bool} {d x:qf} {s:List Int} (hw:wOk lim n c d) (h:qgh lim f (bI d) k = false) (hx:bI x = s) (hB:q6 x) (hk:(x.length:Int) = k) (c2:Int):wOk lim (n + k) c2 (d ++ x)/\(false,bI (d ++ x)) = qf0 lim f (bI d) s:=by
 obtain ⟨w0,w1,w2,w3,w5⟩:=hw
 have hs:(s.length:Int) = k:=by rw [<- hx,bI_len,hk]
 have hd:(bI d).length = d.length:=bI_len
 refine ⟨⟨w0,w1,by rw [jal]; omega,?_,qhK w5 hB⟩,?_⟩
 ·simp [qgh] at h; omega
 ·rw [qjW (by rw [hs,h]; decide),qj2,hx]
theorem qv8 {lim k:Int} {f:Bool} {d:qf} {s:List Int} (h:qgh lim f (bI d) k = true) (hk:(s.length:Int) = k):(true,bI d) = qf0 lim f (bI d) s:=by rw [qyY (by rw [hk,h])]
theorem q5t:qlT.ok Tryz.prog:=q5S (by simp [qqO]) fun Z hg hp=>by
 obtain ⟨hw,q,hr,hB⟩:=hp
 simp [qyi,qlT,qgY,qbO,qae,qgo]
 have w2:=hw.2.2.1
 refine ⟨hw,fun u _ f _ hf hu=>⟨fun h=>?_,fun h=>⟨hw,?_⟩⟩⟩
 ·have hff:f.b = false:=by rw [h] at hu; simpa using hu.symm
  rw [hff] at hf ⊢
  have hx:bI (qbg (Z 8).d 0 32) = qd (Z 8).d 32:=by rw [qok hr,jeb,ja3 (by rw [qcZ]; decide)]
  refine ⟨w2,by rw [qw hr]; decide,q,fun c _=>q2K hw hf.symm hx (qp8 hr hB) (by rw [qmc hr (by omega)]; rfl) _⟩
 ·have hff:f.b = true:=by rw [h] at hu; simpa using hu.symm
  rw [hff] at hf ⊢
  exact qv8 hf.symm (by rw [qcZ]; rfl)
theorem q7B:qoI.ok Tryz.prog:=q6R (by simp [qqO]) fun Z hg hp=>by
 obtain ⟨hw,q,hr,hB⟩:=hp
 simp [q1C,qoI,qgY,qbO,qae,qgo]
 have w2:=hw.2.2.1
 have hlen:((qd (Z 8).d 36).drop 4).length = 32:=by rw [jc4,qcZ]
 refine ⟨hw,fun u _ f _ hf hu=>⟨fun h=>?_,fun h=>⟨hw,?_⟩⟩⟩
 ·have hff:f.b = false:=by rw [h] at hu; simpa using hu.symm
  rw [hff] at hf ⊢
  have h36:(qd (Z 8).d 37).take 36 = qd (Z 8).d 36:=by
   rw [qd,qd,<- jc3]; rfl
  have hx:bI (qbg (Z 8).d 4 32) = (qd (Z 8).d 36).drop 4:=by
   rw [qok hr,<- h36,List.drop_take]
  have hBx:q6 (qbg (Z 8).d 4 32):=fun row hrow=>by
   have h2:qaJ row 0 ∈ bI (qbg (Z 8).d 4 32):=jbb.2 ⟨row,hrow,rfl⟩
   rw [hx] at h2; exact hB _ h2
  refine ⟨w2,by rw [qw hr]; decide,q,fun c _=>q2K hw hf.symm hx hBx (by rw [qmc hr (by omega)]; rfl) _⟩
 ·have hff:f.b = true:=by rw [h] at hu; simpa using hu.symm
  rw [hff] at hf ⊢
  exact qv8 hf.symm (by rw [hlen]; rfl)
theorem q51 {v:Int} {n k:Nat} (h:k < n):(beL v n).take (k + 1) = (beL v n).take k ++ [(v.fdiv (2 ^ (8 * (n - 1 - k)))) % 256]:=by
 rw [jd9,jac (by rw [qaq]; exact h)]
 simp [beL]
theorem qrK:qga.ok Tryz.prog:=q2s (by simp [qqO]) fun Z hg hp=>by
 obtain ⟨hw,q,k0,k1,v0,v1⟩:=hp
 simp [qv2,qga,qy1,qgY,qbO,qae,qgo]
 have w2:=hw.2.2.1
 have hsub:qe .sub .i64 (Z 8).i 1 = (Z 8).i - 1:=sub64 (by omega) (by omega)
 obtain ⟨N,hN⟩:∃ N:Nat,(Z 8).i = N:=⟨(Z 8).i.toNat,by omega⟩
 have hbl:((beL (Z 7).i (Z 8).i.toNat).length:Int) = (Z 8).i:=by rw [qaq]; omega
 rw [hsub]
 refine ⟨⟨hw,k0,by omega⟩,fun u _ f _ hf hu=>⟨fun h=>?_,fun h=>⟨hw,?_⟩⟩⟩
 ·have hff:f.b = false:=by rw [h] at hu; simpa using hu.symm
  rw [hff] at hf
  have hfit:(Z 2).b = false/\(Z 8).i <= (Z 1).i - (Z 4).i:=by
   have:=hf.symm
   have hd:(bI (Z 6).d).length = (Z 6).d.length:=bI_len
   simp [qgh] at this
   exact ⟨this.1,by omega⟩
  refine ⟨hff,⟨by omega,by omega,w2,hfit.1,hfit.2,hw.2.2.2.2,.inl (by omega)⟩,fun l _ c _ d _ t _ t0 t1 hl _ _ hB hd=>⟨fun hge=>?_,fun hlt=>?_⟩⟩
  ·obtain ⟨T,hT⟩:∃ T:Nat,t.i = T:=⟨t.i.toNat,by omega⟩
   have m1:qe .mul .i64 8 t.i = ((8 * T:Nat):Int):=by rw [qch (by omega) (by omega)]; omega
   have m2:qe .sub .i64 t.i 1 = t.i - 1:=sub64 (by omega) (by omega)
   have hdl:d.d.length = (Z 6).d.length + (N - 1 - T):=by
    have:=congrArg List.length hd
    rw [bI_len,jal,bI_len,jbm,qaq] at this
    omega
   rw [m1,m2,qrv (by omega),qgv]
   refine ⟨by omega,hl,by omega,⟨by omega,by omega,hl,hfit.1,hfit.2,qhK hB ?_,?_⟩,by omega⟩
   ·intro row hrow
    obtain rfl:=jaj.1 hrow
    simp [qaJ,qS]; omega
   ·rw [qj2,hd,jbu,show ((Z 8).i - 1 - (t.i - 1)).toNat = (N - 1 - T) + 1 by omega,show ((Z 8).i - 1 - t.i).toNat = N - 1 - T by omega,show (Z 8).i.toNat = N by omega,q51 (by omega),show N - 1 - (N - 1 - T) = T by omega]
    rfl
  ·have ht:t.i = -1:=by omega
   have hx:bI d.d = bI (Z 6).d ++ beL (Z 7).i (Z 8).i.toNat:=by
    rw [hd,ht,ja3 (by rw [qaq]; omega)]
   have hdl:(d.d.length:Int) = (Z 6).d.length + (Z 8).i:=by
    have:=congrArg List.length hx
    rw [bI_len,jal,bI_len,qaq] at this
    omega
   obtain ⟨w0,w1,_,w3,w5⟩:=hw
   refine ⟨⟨w0,w1,hl,by omega,hB⟩,?_⟩
   rw [qjW (by rw [hbl,<- hf]; decide),hx]
 ·have hff:f.b = true:=by rw [h] at hu; simpa using hu.symm
  rw [hff] at hf ⊢
  exact qv8 hf.symm hbl
theorem q9E:u8C.ok Tryz.prog:=q9G (by simp [qrK]) fun Z hg hp=>by
 obtain ⟨hw,q,v0,v1⟩:=hp
 simp [q82,u8C,qqv,qga,qbO,qae,qgo]
 have hv:IntKind.u64.wrap (Z 7).i = (Z 7).i:=by simp [IntKind.wrap,IntKind.bits,IntKind.signed]; omega
 rw [hv]
 exact ⟨⟨hw,q,v0,by omega⟩,fun _ _ _ _ _ _ _ _ h1 h2=>⟨h1,h2⟩⟩
theorem q7Y:qv0.ok Tryz.prog:=q9i (by simp [qrK]) fun Z hg hp=>by
 obtain ⟨hw,q,v0,v1⟩:=hp
 simp [q5Y,qv0,qqv,qga,qbO,qae,qgo]
 have hv:IntKind.u64.wrap (Z 7).i = (Z 7).i:=by simp [IntKind.wrap,IntKind.bits,IntKind.signed]; omega
 rw [hv]
 exact ⟨⟨hw,q,v0,by omega⟩,fun _ _ _ _ _ _ _ _ h1 h2=>⟨h1,h2⟩⟩
theorem qkB {d:qf} {l:Int} (h:l = d.length):qaG d 0 l = bI d:=by
 rw [qaG,h,jar,jdm,jeb,ja3 (by rw [bI_len]; omega)]
theorem q7e {d:qf} {n:Nat} (h:q6 d):q6 (d.take n):=fun r hr=>h r (jft _ _ hr)
end Go.Proofs
namespace Go.Eng
open Go Go.Proofs
def k8:List CK:=List.replicate 8 (.int .u32)
def qoe (r d:Nat):SH:=.arr r 207 k8 (.var d) (.lit 1)
def w8Z (r:Nat):SH:=.cells r 207 (List.replicate 8 (.vint .u32 (.lit 0)))
def w8A (r:Nat):SV:=.one (.vptr r (.lit 0) 8 0)
def qde (d:qf):Prop:=∀ j,j < 8->isW (qa d j)
def qrl (d:qf):Prop:=∀ j,j < 64->isW (qa d j)
def kW (d:qf):List W32:=qd2 (qd d 64)
def qme:Ctr:={ fn := 138,nv:=8,args:=[.agg (qaF .u32 0 8),.agg (qaF .u32 1 64),bSl 2 3 4 5],heap:=[],ro:=[bHp 2 6 7],pre:=fun Z=>qde (Z 0).d/\qrl (Z 1).d/\0 <= (Z 3).i/\(Z 4).i = 64/\(Z 3).i + 64 <= (Z 6).d.length/\q6 (Z 6).d,alts:=[
 { k:=1,ret:=.agg (qaF .u32 8 8),heap:=[],post:=fun Z=>qde (Z 8).d/\qaT (qd (Z 8).d 8) = qen (kW (Z 1).d) (qaT (qd (Z 0).d 8)) (qau (qaG (Z 6).d (Z 3).i 64) 0) }] }
def quP (Z:Env):List W32:=qaj (qau (qaG (Z 6).d (Z 3).i 64) 0) 48
def qt2:List (Nat × SV):=[(3,w8A 1000),(4,qqP 1002),(6,w8A 1004),(7,qqP 1005)]
def qq8 (Z:Env):Prop:=qC (Z 1003).d 64/\qd (Z 1003).d 64 = qd (Z 1).d 64
def q0I:Inv:={ key:=3,nv:=8,env:=qt2 ++ [(2,bSl 2 3 4 5),(8,iv .i64 (.var 1007))],heap:=[qoe 1000 1001,wHp 1002 1003,w8Z 1004,wHp 1005 1006],inv:=(fun Z=>qq8 Z/\qC (Z 1001).d 8/\qd (Z 1001).d 8 = qd (Z 0).d 8/\0 <= (Z 1007).i/\(Z 1007).i <= 64/\qfk (Z 1006).d (quP Z) (Z 1007).i.toNat),mu:=(fun Z=>(64 - (Z 1007).i).toNat) }
def q3j:Inv:={ key:=12,nv:=10,env:=qt2 ++ [(11,w8A 1008),(12,iv .i64 (.var 1007))],heap:=[qoe 1000 1001,wHp 1002 1003,w8Z 1004,wHp 1005 1006,qoe 1008 1009],inv:=(fun Z=>qq8 Z/\qC (Z 1001).d 8/\qd (Z 1001).d 8 = qd (Z 0).d 8/\0 <= (Z 1007).i/\(Z 1007).i <= 64/\qfk (Z 1006).d (quP Z) 64/\qC (Z 1009).d 8/\qde (Z 1009).d/\qaT (qd (Z 1009).d 8) = qmz (qaT (qd (Z 0).d 8)) (kW (Z 1).d) (quP Z) (Z 1007).i.toNat),mu:=(fun Z=>(64 - (Z 1007).i).toNat) }
def q21:Inv:={ key:=21,nv:=10,env:=[(3,w8A 1000),(6,w8A 1004),(11,w8A 1008),(19,iv .i64 (.var 1007))],heap:=[qoe 1000 1001,w8Z 1004,qoe 1008 1009],inv:=(fun Z=>qC (Z 1001).d 8/\0 <= (Z 1007).i/\(Z 1007).i <= 8/\qC (Z 1009).d 8/\qde (Z 1009).d/\qaT (qd (Z 1009).d 8) = qmz (qaT (qd (Z 0).d 8)) (kW (Z 1).d) (quP Z) 64/\(∀ j,j < 8->qa (Z 1001).d j = if j < (Z 1007).i.toNat then ofW (toW (qa (Z 0).d j) + toW (qa (Z 1009).d j)) else qa (Z 0).d j)),mu:=(fun Z=>(8 - (Z 1007).i).toNat) }
def qhJ (l:Nat):Nat:=64 - (l + 8) % 64 - 1
def qpS:Ctr:={ fn := 117,nv:=7,ip:=[(54,2)],args:=[bS 0,.agg (qaF .u32 5 64),.agg (qaF .u32 6 8)],heap:=[],ro:=[q4S 0],pre:=fun Z=>(Z 1).i = (Z 3).d.length/\(Z 1).i <= 1000000000000/\q6 (Z 3).d/\qrl (Z 5).d/\qde (Z 6).d,alts:=[
 { k:=1,ret:=dgV 7,heap:=[],post:=fun Z=>qd (Z 7).d 32 = q4q (kW (Z 5).d) (qaT (qd (Z 6).d 8)) (bI (Z 3).d) }] }
def qqY:List (Nat × SV):=[(4,qqP 1000),(5,w8A 1002),(6,dgP 1004),(7,.one (.vslice 1005 (.lit 0) (.var 1006) (.var 1007) 1))]
def qvk:List SH:=[wHp 1000 1001,qoe 1002 1003,dgZ 1004,bHp 1005 1008 1007]
def qpD (Z:Env):Prop:=(∀ j,j < 64->qa (Z 1001).d j = qa (Z 5).d j)/\qC (Z 1001).d 64/\qC (Z 1003).d 8/\(Z 1006).i = (Z 1008).d.length/\q6 (Z 1008).d
def q6v:Inv:={ key:=2,nv:=9,env:=qqY ++ [(0,bS 0)],heap:=qvk,inv:=(fun Z=>qpD Z/\(∀ j,j < 8->qa (Z 1003).d j = qa (Z 6).d j)/\∃ z:Nat,z <= qhJ (Z 3).d.length/\bI (Z 1008).d = bI (Z 3).d ++ 128 :: List.replicate z 0),mu:=(fun Z=>((Z 3).d.length + 1 + qhJ (Z 3).d.length - (Z 1006).i).toNat) }
def q6c:Inv:={ key:=6,nv:=11,env:=qqY ++ [(0,bS 0),(8,.one (.vint .u64 (.var 1010))),(9,iv .i64 (.var 1009))],heap:=qvk,inv:=(fun Z=>qpD Z/\(∀ j,j < 8->qa (Z 1003).d j = qa (Z 6).d j)/\-1 <= (Z 1009).i/\(Z 1009).i <= 7/\(Z 1010).i = (Z 1).i * 8/\bI (Z 1008).d = bI (Z 3).d ++ 128 :: (List.replicate (qhJ (Z 3).d.length) 0 ++ (beL ((Z 1).i * 8) 8).take (7 - (Z 1009).i).toNat)),mu:=(fun Z=>((Z 1009).i + 1).toNat) }
def q6q:Inv:={ key:=10,nv:=10,env:=qqY ++ [(10,iv .i64 (.var 1009))],heap:=qvk,inv:=(fun Z=>qpD Z/\qde (Z 1003).d/\bI (Z 1008).d = qcN (bI (Z 3).d)/\∃ n:Nat,(Z 1009).i = 64 * n/\64 * n <= (Z 1008).d.length/\qaT (qd (Z 1003).d 8) = qfV (kW (Z 5).d) (qaT (qd (Z 6).d 8)) (qcN (bI (Z 3).d)) n),mu:=(fun Z=>((Z 1008).d.length - (Z 1009).i).toNat) }
def q6j:Inv:={ key:=15,nv:=8,env:=[(5,w8A 1002),(6,dgP 1004),(11,dgP 1005),(12,iv .i64 (.var 1007))],heap:=[qoe 1002 1003,dgZ 1004,q4t 1005 1006],inv:=(fun Z=>qC (Z 1003).d 8/\qde (Z 1003).d/\qaT (qd (Z 1003).d 8) = qfV (kW (Z 5).d) (qaT (qd (Z 6).d 8)) (qcN (bI (Z 3).d)) ((qcN (bI (Z 3).d)).length / 64)/\qC (Z 1006).d 32/\0 <= (Z 1007).i/\(Z 1007).i <= 32/\∀ j,j < (Z 1007).i.toNat->qa (Z 1006).d j = (qd3 (qaT (qd (Z 1003).d 8))).getD j 0),mu:=(fun Z=>(32 - (Z 1007).i).toNat) }
def gS:Nat := 0
def gIs (r:Nat):Nat × Nat:=(2000 + gS,r)
def qpU:Ctr:={ fn := 79,nv:=7,ip:=[gIs 5],args:=[bS 0],heap:=[],ro:=[q4S 0,gHp 5 6],pre:=fun Z=>(Z 1).i = (Z 3).d.length/\(Z 1).i <= 1000000000000/\q6 (Z 3).d/\gOk Z 5 6 gS,alts:=[
 { k:=1,ret:=dgV 7,heap:=[],post:=fun Z=>qd (Z 7).d 32 = sha (bI (Z 3).d) }] }
end Go.Eng
namespace Go.Proofs
open Go Go.Eng
@[simp] def qs2:T:=.arith .add .u32 (.arith .add .u32 (.arith .add .u32 (.arith .add .u32 (.icell (tv 30) (tl 0) 7) (.arith .xor .u32 (.arith .xor .u32 (tv 31) (tv 32)) (tv 33))) (.arith .xor .u32 (.arith .and .u32 (.icell (tv 30) (tl 0) 4) (.icell (tv 30) (tl 0) 5)) (.arith .and .u32 (.arith .xor .u32 (tl 4294967295) (.icell (tv 30) (tl 0) 4)) (.icell (tv 30) (tl 0) 6)))) (.c2 (.xint 0) (tv 24) (tv 28))) (.c2 (.xint 0) (tv 27) (tv 28))
def qxz:Out:=(fr 8 4 (.inv 0 12 (sg 1000 [bt 1006 (.rcons (.vint .u32 (tl 0)) (.rcons (.vint .u32 (tl 0)) (.rcons (.vint .u32 (tl 0)) (.rcons (.vint .u32 (tl 0)) (.rcons (.vint .u32 (tl 0)) (.rcons (.vint .u32 (tl 0)) (.rcons (.vint .u32 (tl 0)) (.rcons (.vint .u32 (tl 0)) (.rcons (.vint .u32 (tl 0)) (.rcons (.vint .u32 (tl 0)) (.rcons (.vint .u32 (tl 0)) (.rcons (.vint .u32 (tl 0)) (.rcons (.vint .u32 (tl 0)) (.rcons (.vint .u32 (tl 0)) (.rcons (.vint .u32 (tl 0)) (.rcons (.vint .u32 (tl 0)) (.rcons (.vint .u32 (tl 0)) (.rcons (.vint .u32 (tl 0)) (.rcons (.vint .u32 (tl 0)) (.rcons (.vint .u32 (tl 0)) (.rcons (.vint .u32 (tl 0)) (.rcons (.vint .u32 (tl 0)) (.rcons (.vint .u32 (tl 0)) (.rcons (.vint .u32 (tl 0)) (.rcons (.vint .u32 (tl 0)) (.rcons (.vint .u32 (tl 0)) (.rcons (.vint .u32 (tl 0)) (.rcons (.vint .u32 (tl 0)) (.rcons (.vint .u32 (tl 0)) (.rcons (.vint .u32 (tl 0)) (.rcons (.vint .u32 (tl 0)) (.rcons (.vint .u32 (tl 0)) (.rcons (.vint .u32 (tl 0)) (.rcons (.vint .u32 (tl 0)) (.rcons (.vint .u32 (tl 0)) (.rcons (.vint .u32 (tl 0)) (.rcons (.vint .u32 (tl 0)) (.rcons (.vint .u32 (tl 0)) (.rcons (.vint .u32 (tl 0)) (.rcons (.vint .u32 (tl 0)) (.rcons (.vint .u32 (tl 0)) (.rcons (.vint .u32 (tl 0)) (.rcons (.vint .u32 (tl 0)) (.rcons (.vint .u32 (tl 0)) (.rcons (.vint .u32 (tl 0)) (.rcons (.vint .u32 (tl 0)) (.rcons (.vint .u32 (tl 0)) (.rcons (.vint .u32 (tl 0)) (.rcons (.vint .u32 (tl 0)) (.rcons (.vint .u32 (tl 0)) (.rcons (.vint .u32 (tl 0)) (.rcons (.vint .u32 (tl 0)) (.rcons (.vint .u32 (tl 0)) (.rcons (.vint .u32 (tl 0)) (.rcons (.vint .u32 (tl 0)) (.rcons (.vint .u32 (tl 0)) (.rcons (.vint .u32 (tl 0)) (.rcons (.vint .u32 (tl 0)) (.rcons (.vint .u32 (tl 0)) (.rcons (.vint .u32 (tl 0)) (.rcons (.vint .u32 (tl 0)) (.rcons (.vint .u32 (tl 0)) (.rcons (.vint .u32 (tl 0)) (.rcons (.vint .u32 (tl 0)) .rnil)))))))))))))))))))))))))))))))))))))))))))))))))))))))))))))))),bt 1003 (.rcons (.vint .u32 (.c2 (.xint 0) (tv 1) (tl 0))) (.rcons (.vint .u32 (.c2 (.xint 1) (tv 1) (tl 0))) (.rcons (.vint .u32 (.c2 (.xint 2) (tv 1) (tl 0))) (.rcons (.vint .u32 (.c2 (.xint 3) (tv 1) (tl 0))) (.rcons (.vint .u32 (.c2 (.xint 4) (tv 1) (tl 0))) (.rcons (.vint .u32 (.c2 (.xint 5) (tv 1) (tl 0))) (.rcons (.vint .u32 (.c2 (.xint 6) (tv 1) (tl 0))) (.rcons (.vint .u32 (.c2 (.xint 7) (tv 1) (tl 0))) (.rcons (.vint .u32 (.c2 (.xint 8) (tv 1) (tl 0))) (.rcons (.vint .u32 (.c2 (.xint 9) (tv 1) (tl 0))) (.rcons (.vint .u32 (.c2 (.xint 10) (tv 1) (tl 0))) (.rcons (.vint .u32 (.c2 (.xint 11) (tv 1) (tl 0))) (.rcons (.vint .u32 (.c2 (.xint 12) (tv 1) (tl 0))) (.rcons (.vint .u32 (.c2 (.xint 13) (tv 1) (tl 0))) (.rcons (.vint .u32 (.c2 (.xint 14) (tv 1) (tl 0))) (.rcons (.vint .u32 (.c2 (.xint 15) (tv 1) (tl 0))) (.rcons (.vint .u32 (.c2 (.xint 16) (tv 1) (tl 0))) (.rcons (.vint .u32 (.c2 (.xint 17) (tv 1) (tl 0))) (.rcons (.vint .u32 (.c2 (.xint 18) (tv 1) (tl 0))) (.rcons (.vint .u32 (.c2 (.xint 19) (tv 1) (tl 0))) (.rcons (.vint .u32 (.c2 (.xint 20) (tv 1) (tl 0))) (.rcons (.vint .u32 (.c2 (.xint 21) (tv 1) (tl 0))) (.rcons (.vint .u32 (.c2 (.xint 22) (tv 1) (tl 0))) (.rcons (.vint .u32 (.c2 (.xint 23) (tv 1) (tl 0))) (.rcons (.vint .u32 (.c2 (.xint 24) (tv 1) (tl 0))) (.rcons (.vint .u32 (.c2 (.xint 25) (tv 1) (tl 0))) (.rcons (.vint .u32 (.c2 (.xint 26) (tv 1) (tl 0))) (.rcons (.vint .u32 (.c2 (.xint 27) (tv 1) (tl 0))) (.rcons (.vint .u32 (.c2 (.xint 28) (tv 1) (tl 0))) (.rcons (.vint .u32 (.c2 (.xint 29) (tv 1) (tl 0))) (.rcons (.vint .u32 (.c2 (.xint 30) (tv 1) (tl 0))) (.rcons (.vint .u32 (.c2 (.xint 31) (tv 1) (tl 0))) (.rcons (.vint .u32 (.c2 (.xint 32) (tv 1) (tl 0))) (.rcons (.vint .u32 (.c2 (.xint 33) (tv 1) (tl 0))) (.rcons (.vint .u32 (.c2 (.xint 34) (tv 1) (tl 0))) (.rcons (.vint .u32 (.c2 (.xint 35) (tv 1) (tl 0))) (.rcons (.vint .u32 (.c2 (.xint 36) (tv 1) (tl 0))) (.rcons (.vint .u32 (.c2 (.xint 37) (tv 1) (tl 0))) (.rcons (.vint .u32 (.c2 (.xint 38) (tv 1) (tl 0))) (.rcons (.vint .u32 (.c2 (.xint 39) (tv 1) (tl 0))) (.rcons (.vint .u32 (.c2 (.xint 40) (tv 1) (tl 0))) (.rcons (.vint .u32 (.c2 (.xint 41) (tv 1) (tl 0))) (.rcons (.vint .u32 (.c2 (.xint 42) (tv 1) (tl 0))) (.rcons (.vint .u32 (.c2 (.xint 43) (tv 1) (tl 0))) (.rcons (.vint .u32 (.c2 (.xint 44) (tv 1) (tl 0))) (.rcons (.vint .u32 (.c2 (.xint 45) (tv 1) (tl 0))) (.rcons (.vint .u32 (.c2 (.xint 46) (tv 1) (tl 0))) (.rcons (.vint .u32 (.c2 (.xint 47) (tv 1) (tl 0))) (.rcons (.vint .u32 (.c2 (.xint 48) (tv 1) (tl 0))) (.rcons (.vint .u32 (.c2 (.xint 49) (tv 1) (tl 0))) (.rcons (.vint .u32 (.c2 (.xint 50) (tv 1) (tl 0))) (.rcons (.vint .u32 (.c2 (.xint 51) (tv 1) (tl 0))) (.rcons (.vint .u32 (.c2 (.xint 52) (tv 1) (tl 0))) (.rcons (.vint .u32 (.c2 (.xint 53) (tv 1) (tl 0))) (.rcons (.vint .u32 (.c2 (.xint 54) (tv 1) (tl 0))) (.rcons (.vint .u32 (.c2 (.xint 55) (tv 1) (tl 0))) (.rcons (.vint .u32 (.c2 (.xint 56) (tv 1) (tl 0))) (.rcons (.vint .u32 (.c2 (.xint 57) (tv 1) (tl 0))) (.rcons (.vint .u32 (.c2 (.xint 58) (tv 1) (tl 0))) (.rcons (.vint .u32 (.c2 (.xint 59) (tv 1) (tl 0))) (.rcons (.vint .u32 (.c2 (.xint 60) (tv 1) (tl 0))) (.rcons (.vint .u32 (.c2 (.xint 61) (tv 1) (tl 0))) (.rcons (.vint .u32 (.c2 (.xint 62) (tv 1) (tl 0))) (.rcons (.vint .u32 (.c2 (.xint 63) (tv 1) (tl 0))) .rnil)))))))))))))))))))))))))))))))))))))))))))))))))))))))))))))))),bt 1001 (.rcons (.vint .u32 (.c2 (.xint 0) (tv 0) (tl 0))) (.rcons (.vint .u32 (.c2 (.xint 1) (tv 0) (tl 0))) (.rcons (.vint .u32 (.c2 (.xint 2) (tv 0) (tl 0))) (.rcons (.vint .u32 (.c2 (.xint 3) (tv 0) (tl 0))) (.rcons (.vint .u32 (.c2 (.xint 4) (tv 0) (tl 0))) (.rcons (.vint .u32 (.c2 (.xint 5) (tv 0) (tl 0))) (.rcons (.vint .u32 (.c2 (.xint 6) (tv 0) (tl 0))) (.rcons (.vint .u32 (.c2 (.xint 7) (tv 0) (tl 0))) .rnil)))))))),bt 1007 (tl 0),bg 1005 11,bg 1004 10,bg 1002 9,bg 1000 8]) (fr 12 8 (.hyp 0 12 (.br (.cmp .lss (tv 19) (tl 64))
 (.br (.cmp .lss (tv 19) (tl 16))
 (.need (.cmp .leq (tl 0) (.arith .mul .i64 (tl 4) (tv 19))) (.need (.cmp .lss (.arith .mul .i64 (tl 4) (tv 19)) (tv 4)) (.need (.cmp .leq (tl 0) (tv 3)) (.need (.cmp .leq (tl 0) (.plus (tv 3) (.arith .mul .i64 (tl 4) (tv 19)))) (.need (.cmp .lss (.plus (tv 3) (.arith .mul .i64 (tl 4) (tv 19))) (.dlen (tv 6))) (.need (.cmp .leq (tl 0) (.arith .add .i64 (.arith .mul .i64 (tl 4) (tv 19)) (tl 1))) (.need (.cmp .lss (.arith .add .i64 (.arith .mul .i64 (tl 4) (tv 19)) (tl 1)) (tv 4)) (.need (.cmp .leq (tl 0) (.plus (tv 3) (.arith .add .i64 (.arith .mul .i64 (tl 4) (tv 19)) (tl 1)))) (.need (.cmp .lss (.plus (tv 3) (.arith .add .i64 (.arith .mul .i64 (tl 4) (tv 19)) (tl 1))) (.dlen (tv 6))) (.need (.cmp .leq (tl 0) (.arith .add .i64 (.arith .mul .i64 (tl 4) (tv 19)) (tl 2))) (.need (.cmp .lss (.arith .add .i64 (.arith .mul .i64 (tl 4) (tv 19)) (tl 2)) (tv 4)) (.need (.cmp .leq (tl 0) (.plus (tv 3) (.arith .add .i64 (.arith .mul .i64 (tl 4) (tv 19)) (tl 2)))) (.need (.cmp .lss (.plus (tv 3) (.arith .add .i64 (.arith .mul .i64 (tl 4) (tv 19)) (tl 2))) (.dlen (tv 6))) (.need (.cmp .leq (tl 0) (.arith .add .i64 (.arith .mul .i64 (tl 4) (tv 19)) (tl 3))) (.need (.cmp .lss (.arith .add .i64 (.arith .mul .i64 (tl 4) (tv 19)) (tl 3)) (tv 4)) (.need (.cmp .leq (tl 0) (.plus (tv 3) (.arith .add .i64 (.arith .mul .i64 (tl 4) (tv 19)) (tl 3)))) (.need (.cmp .lss (.plus (tv 3) (.arith .add .i64 (.arith .mul .i64 (tl 4) (tv 19)) (tl 3))) (.dlen (tv 6))) (.need (.cmp .leq (tl 0) (tv 19)) (.need (.cmp .lss (tl 0) (.dlen (tv 18))) (.both (.back 0 12 (sg 1000 [bt 1006 (.c3 (.xput 0) (tv 18) (tv 19) (.vint .u32 (.arith .or .u32 (.arith .or .u32 (.arith .or .u32 (.arith .shl .u32 (.conv .u32 (.icell (tv 6) (.plus (tv 3) (.arith .mul .i64 (tl 4) (tv 19))) 0)) (tl 24)) (.arith .shl .u32 (.conv .u32 (.icell (tv 6) (.plus (tv 3) (.arith .add .i64 (.arith .mul .i64 (tl 4) (tv 19)) (tl 1))) 0)) (tl 16))) (.arith .shl .u32 (.conv .u32 (.icell (tv 6) (.plus (tv 3) (.arith .add .i64 (.arith .mul .i64 (tl 4) (tv 19)) (tl 2))) 0)) (tl 8))) (.conv .u32 (.icell (tv 6) (.plus (tv 3) (.arith .add .i64 (.arith .mul .i64 (tl 4) (tv 19)) (tl 3))) 0))))),bv 1003 15,bv 1001 13,bt 1007 (.arith .add .i64 (tv 19) (tl 1)),bg 1005 17,bg 1004 16,bg 1002 14,bg 1000 12])) .top))))))))))))))))))))
 (.need (.cmp .leq (tl 0) (.arith .sub .i64 (tv 19) (tl 15))) (.need (.cmp .lss (.arith .sub .i64 (tv 19) (tl 15)) (tl 64)) (.need (.cmp .lss (tl 0) (.dlen (tv 18))) (.both (.pre 0 (sg 0 [bt 1 (tl 7),bt 0 (.c2 (.xint 0) (tv 18) (.arith .sub .i64 (tv 19) (tl 15)))]) (.both (.fresh 20 (.post 0 0 (sg 0 [bt 1 (tl 7),bt 0 (.c2 (.xint 0) (tv 18) (.arith .sub .i64 (tv 19) (tl 15)))]) 20 (.both (.pre 0 (sg 0 [bt 1 (tl 18),bt 0 (.c2 (.xint 0) (tv 18) (.arith .sub .i64 (tv 19) (tl 15)))]) (.both (.fresh 21 (.post 0 0 (sg 0 [bt 1 (tl 18),bt 0 (.c2 (.xint 0) (tv 18) (.arith .sub .i64 (tv 19) (tl 15)))]) 21 (.need (.cmp .leq (tl 0) (.arith .sub .i64 (tv 19) (tl 2))) (.need (.cmp .lss (.arith .sub .i64 (tv 19) (tl 2)) (tl 64)) (.both (.pre 0 (sg 0 [bt 1 (tl 17),bt 0 (.c2 (.xint 0) (tv 18) (.arith .sub .i64 (tv 19) (tl 2)))]) (.both (.fresh 22 (.post 0 0 (sg 0 [bt 1 (tl 17),bt 0 (.c2 (.xint 0) (tv 18) (.arith .sub .i64 (tv 19) (tl 2)))]) 22 (.both (.pre 0 (sg 0 [bt 1 (tl 19),bt 0 (.c2 (.xint 0) (tv 18) (.arith .sub .i64 (tv 19) (tl 2)))]) (.both (.fresh 23 (.post 0 0 (sg 0 [bt 1 (tl 19),bt 0 (.c2 (.xint 0) (tv 18) (.arith .sub .i64 (tv 19) (tl 2)))]) 23 (.need (.cmp .leq (tl 0) (.arith .sub .i64 (tv 19) (tl 7))) (.need (.cmp .lss (.arith .sub .i64 (tv 19) (tl 7)) (tl 64)) (.need (.cmp .leq (tl 0) (.arith .sub .i64 (tv 19) (tl 16))) (.need (.cmp .lss (.arith .sub .i64 (tv 19) (tl 16)) (tl 64)) (.need (.cmp .leq (tl 0) (tv 19)) (.both (.back 0 12 (sg 1000 [bt 1006 (.c3 (.xput 0) (tv 18) (tv 19) (.vint .u32 (.arith .add .u32 (.arith .add .u32 (.arith .add .u32 (.arith .xor .u32 (.arith .xor .u32 (tv 22) (tv 23)) (.arith .shr .u32 (.c2 (.xint 0) (tv 18) (.arith .sub .i64 (tv 19) (tl 2))) (tl 10))) (.c2 (.xint 0) (tv 18) (.arith .sub .i64 (tv 19) (tl 7)))) (.arith .xor .u32 (.arith .xor .u32 (tv 20) (tv 21)) (.arith .shr .u32 (.c2 (.xint 0) (tv 18) (.arith .sub .i64 (tv 19) (tl 15))) (tl 3)))) (.c2 (.xint 0) (tv 18) (.arith .sub .i64 (tv 19) (tl 16)))))),bv 1003 15,bv 1001 13,bt 1007 (.arith .add .i64 (tv 19) (tl 1)),bg 1005 17,bg 1004 16,bg 1002 14,bg 1000 12])) .top)))))))) .top)) .top))) .top)) .top))))) .top)) .top))) .top)) .top)))))
 (.need (.cmp .lss (tl 0) (.dlen (tv 13))) (.fresh 20 (.inv 1 21 (sg 1000 [bt 1009 (.rcons (.vint .u32 (.icell (tv 13) (tl 0) 0)) (.rcons (.vint .u32 (.icell (tv 13) (tl 0) 1)) (.rcons (.vint .u32 (.icell (tv 13) (tl 0) 2)) (.rcons (.vint .u32 (.icell (tv 13) (tl 0) 3)) (.rcons (.vint .u32 (.icell (tv 13) (tl 0) 4)) (.rcons (.vint .u32 (.icell (tv 13) (tl 0) 5)) (.rcons (.vint .u32 (.icell (tv 13) (tl 0) 6)) (.rcons (.vint .u32 (.icell (tv 13) (tl 0) 7)) .rnil)))))))),bv 1006 18,bv 1003 15,bv 1001 13,bt 1007 (tl 0),bg 1008 20,bg 1005 17,bg 1004 16,bg 1002 14,bg 1000 12]) (fr 21 10 (.hyp 1 21 (.br (.cmp .lss (tv 28) (tl 64))
 (.need (.cmp .lss (tl 0) (.dlen (tv 30))) (.need (.cmp .leq (tl 0) (tv 28)) (.need (.cmp .lss (tl 0) (.dlen (tv 24))) (.need (.cmp .lss (tl 0) (.dlen (tv 27))) (.both (.pre 0 (sg 0 [bt 1 (tl 6),bt 0 (.icell (tv 30) (tl 0) 4)]) (.both (.fresh 31 (.post 0 0 (sg 0 [bt 1 (tl 6),bt 0 (.icell (tv 30) (tl 0) 4)]) 31 (.both (.pre 0 (sg 0 [bt 1 (tl 11),bt 0 (.icell (tv 30) (tl 0) 4)]) (.both (.fresh 32 (.post 0 0 (sg 0 [bt 1 (tl 11),bt 0 (.icell (tv 30) (tl 0) 4)]) 32 (.both (.pre 0 (sg 0 [bt 1 (tl 25),bt 0 (.icell (tv 30) (tl 0) 4)]) (.both (.fresh 33 (.post 0 0 (sg 0 [bt 1 (tl 25),bt 0 (.icell (tv 30) (tl 0) 4)]) 33 (.pre 0 (sg 0 [bt 1 (tl 2),bt 0 (.icell (tv 30) (tl 0) 0)]) (.both (.fresh 34 (.post 0 0 (sg 0 [bt 1 (tl 2),bt 0 (.icell (tv 30) (tl 0) 0)]) 34 (.pre 0 (sg 0 [bt 1 (tl 13),bt 0 (.icell (tv 30) (tl 0) 0)]) (.both (.fresh 35 (.post 0 0 (sg 0 [bt 1 (tl 13),bt 0 (.icell (tv 30) (tl 0) 0)]) 35 (.pre 0 (sg 0 [bt 1 (tl 22),bt 0 (.icell (tv 30) (tl 0) 0)]) (.both (.fresh 36 (.post 0 0 (sg 0 [bt 1 (tl 22),bt 0 (.icell (tv 30) (tl 0) 0)]) 36 (.back 1 21 (sg 1000 [bt 1009 (.dput (tv 30) (tl 0) 0 (.rcons (.vint .u32 (.arith .add .u32 qs2 (.arith .add .u32 (.arith .xor .u32 (.arith .xor .u32 (tv 34) (tv 35)) (tv 36)) (.arith .xor .u32 (.arith .xor .u32 (.arith .and .u32 (.icell (tv 30) (tl 0) 0) (.icell (tv 30) (tl 0) 1)) (.arith .and .u32 (.icell (tv 30) (tl 0) 0) (.icell (tv 30) (tl 0) 2))) (.arith .and .u32 (.icell (tv 30) (tl 0) 1) (.icell (tv 30) (tl 0) 2)))))) (.rcons (.vint .u32 (.icell (tv 30) (tl 0) 0)) (.rcons (.vint .u32 (.icell (tv 30) (tl 0) 1)) (.rcons (.vint .u32 (.icell (tv 30) (tl 0) 2)) (.rcons (.vint .u32 (.arith .add .u32 (.icell (tv 30) (tl 0) 3) qs2)) (.rcons (.vint .u32 (.icell (tv 30) (tl 0) 4)) (.rcons (.vint .u32 (.icell (tv 30) (tl 0) 5)) (.rcons (.vint .u32 (.icell (tv 30) (tl 0) 6)) .rnil))))))))),bv 1006 27,bv 1003 24,bv 1001 22,bt 1007 (.arith .add .i64 (tv 28) (tl 1)),bg 1008 29,bg 1005 26,bg 1004 25,bg 1002 23,bg 1000 21])))) .top)))) .top)))) .top)))) .top)) .top))) .top)) .top))) .top)) .top)))))
 (.inv 2 31 (sg 1000 [bv 1009 30,bv 1001 22,bt 1007 (tl 0),bg 1008 29,bg 1004 25,bg 1000 21]) (fr 31 10 (.hyp 2 31 (.br (.cmp .lss (tv 38) (tl 8))
 (.need (.cmp .leq (tl 0) (tv 38)) (.need (.cmp .lss (tl 0) (.dlen (tv 32))) (.need (.cmp .lss (tl 0) (.dlen (tv 40))) (.both (.back 2 31 (sg 1000 [bv 1009 40,bt 1001 (.c3 (.xput 0) (tv 32) (tv 38) (.vint .u32 (.arith .add .u32 (.c2 (.xint 0) (tv 32) (tv 38)) (.c2 (.xint 0) (tv 40) (tv 38))))),bt 1007 (.arith .add .i64 (tv 38) (tl 1)),bg 1008 39,bg 1004 35,bg 1000 31])) .top))))
 (.need (.cmp .lss (tl 0) (.dlen (tv 32))) (.ret 0 (sg 8 [bt 8 (.rcons (.vint .u32 (.icell (tv 32) (tl 0) 0)) (.rcons (.vint .u32 (.icell (tv 32) (tl 0) 1)) (.rcons (.vint .u32 (.icell (tv 32) (tl 0) 2)) (.rcons (.vint .u32 (.icell (tv 32) (tl 0) 3)) (.rcons (.vint .u32 (.icell (tv 32) (tl 0) 4)) (.rcons (.vint .u32 (.icell (tv 32) (tl 0) 5)) (.rcons (.vint .u32 (.icell (tv 32) (tl 0) 6)) (.rcons (.vint .u32 (.icell (tv 32) (tl 0) 7)) .rnil))))))))]))))))))))))))))))
theorem q4P:qn Tryz.prog qme [qpp] [q0I,q3j,q21] qxz:=qh Tryz.func138 Tryz.call138 (by kernel_rfl)
@[simp] def qvc:Sg:=sg 0 [bv 7 43,bv 6 44,bt 5 (.minus (tv 43) (tv 45)),bt 4 (.minus (.arith .add .i64 (tv 45) (tl 64)) (tv 45)),bt 3 (.ife (tv 43) (tv 45) (tl 0) (tv 45)),bg 2 41,bt 1 (.rcons (.vint .u32 (.icell (tv 37) (tl 0) 0)) (.rcons (.vint .u32 (.icell (tv 37) (tl 0) 1)) (.rcons (.vint .u32 (.icell (tv 37) (tl 0) 2)) (.rcons (.vint .u32 (.icell (tv 37) (tl 0) 3)) (.rcons (.vint .u32 (.icell (tv 37) (tl 0) 4)) (.rcons (.vint .u32 (.icell (tv 37) (tl 0) 5)) (.rcons (.vint .u32 (.icell (tv 37) (tl 0) 6)) (.rcons (.vint .u32 (.icell (tv 37) (tl 0) 7)) (.rcons (.vint .u32 (.icell (tv 37) (tl 0) 8)) (.rcons (.vint .u32 (.icell (tv 37) (tl 0) 9)) (.rcons (.vint .u32 (.icell (tv 37) (tl 0) 10)) (.rcons (.vint .u32 (.icell (tv 37) (tl 0) 11)) (.rcons (.vint .u32 (.icell (tv 37) (tl 0) 12)) (.rcons (.vint .u32 (.icell (tv 37) (tl 0) 13)) (.rcons (.vint .u32 (.icell (tv 37) (tl 0) 14)) (.rcons (.vint .u32 (.icell (tv 37) (tl 0) 15)) (.rcons (.vint .u32 (.icell (tv 37) (tl 0) 16)) (.rcons (.vint .u32 (.icell (tv 37) (tl 0) 17)) (.rcons (.vint .u32 (.icell (tv 37) (tl 0) 18)) (.rcons (.vint .u32 (.icell (tv 37) (tl 0) 19)) (.rcons (.vint .u32 (.icell (tv 37) (tl 0) 20)) (.rcons (.vint .u32 (.icell (tv 37) (tl 0) 21)) (.rcons (.vint .u32 (.icell (tv 37) (tl 0) 22)) (.rcons (.vint .u32 (.icell (tv 37) (tl 0) 23)) (.rcons (.vint .u32 (.icell (tv 37) (tl 0) 24)) (.rcons (.vint .u32 (.icell (tv 37) (tl 0) 25)) (.rcons (.vint .u32 (.icell (tv 37) (tl 0) 26)) (.rcons (.vint .u32 (.icell (tv 37) (tl 0) 27)) (.rcons (.vint .u32 (.icell (tv 37) (tl 0) 28)) (.rcons (.vint .u32 (.icell (tv 37) (tl 0) 29)) (.rcons (.vint .u32 (.icell (tv 37) (tl 0) 30)) (.rcons (.vint .u32 (.icell (tv 37) (tl 0) 31)) (.rcons (.vint .u32 (.icell (tv 37) (tl 0) 32)) (.rcons (.vint .u32 (.icell (tv 37) (tl 0) 33)) (.rcons (.vint .u32 (.icell (tv 37) (tl 0) 34)) (.rcons (.vint .u32 (.icell (tv 37) (tl 0) 35)) (.rcons (.vint .u32 (.icell (tv 37) (tl 0) 36)) (.rcons (.vint .u32 (.icell (tv 37) (tl 0) 37)) (.rcons (.vint .u32 (.icell (tv 37) (tl 0) 38)) (.rcons (.vint .u32 (.icell (tv 37) (tl 0) 39)) (.rcons (.vint .u32 (.icell (tv 37) (tl 0) 40)) (.rcons (.vint .u32 (.icell (tv 37) (tl 0) 41)) (.rcons (.vint .u32 (.icell (tv 37) (tl 0) 42)) (.rcons (.vint .u32 (.icell (tv 37) (tl 0) 43)) (.rcons (.vint .u32 (.icell (tv 37) (tl 0) 44)) (.rcons (.vint .u32 (.icell (tv 37) (tl 0) 45)) (.rcons (.vint .u32 (.icell (tv 37) (tl 0) 46)) (.rcons (.vint .u32 (.icell (tv 37) (tl 0) 47)) (.rcons (.vint .u32 (.icell (tv 37) (tl 0) 48)) (.rcons (.vint .u32 (.icell (tv 37) (tl 0) 49)) (.rcons (.vint .u32 (.icell (tv 37) (tl 0) 50)) (.rcons (.vint .u32 (.icell (tv 37) (tl 0) 51)) (.rcons (.vint .u32 (.icell (tv 37) (tl 0) 52)) (.rcons (.vint .u32 (.icell (tv 37) (tl 0) 53)) (.rcons (.vint .u32 (.icell (tv 37) (tl 0) 54)) (.rcons (.vint .u32 (.icell (tv 37) (tl 0) 55)) (.rcons (.vint .u32 (.icell (tv 37) (tl 0) 56)) (.rcons (.vint .u32 (.icell (tv 37) (tl 0) 57)) (.rcons (.vint .u32 (.icell (tv 37) (tl 0) 58)) (.rcons (.vint .u32 (.icell (tv 37) (tl 0) 59)) (.rcons (.vint .u32 (.icell (tv 37) (tl 0) 60)) (.rcons (.vint .u32 (.icell (tv 37) (tl 0) 61)) (.rcons (.vint .u32 (.icell (tv 37) (tl 0) 62)) (.rcons (.vint .u32 (.icell (tv 37) (tl 0) 63)) .rnil)))))))))))))))))))))))))))))))))))))))))))))))))))))))))))))))),bt 0 (.rcons (.vint .u32 (.icell (tv 39) (tl 0) 0)) (.rcons (.vint .u32 (.icell (tv 39) (tl 0) 1)) (.rcons (.vint .u32 (.icell (tv 39) (tl 0) 2)) (.rcons (.vint .u32 (.icell (tv 39) (tl 0) 3)) (.rcons (.vint .u32 (.icell (tv 39) (tl 0) 4)) (.rcons (.vint .u32 (.icell (tv 39) (tl 0) 5)) (.rcons (.vint .u32 (.icell (tv 39) (tl 0) 6)) (.rcons (.vint .u32 (.icell (tv 39) (tl 0) 7)) .rnil))))))))]
def q1z:Out:=(fr 7 4 (.need (.cmp .leq (tl 0) (tv 1)) (.need (.cmp .leq (tv 1) (.dlen (tv 3))) (.need (.cmp .leq (.tims (tl 1) (tv 1)) (tl 140737488355328)) (fr 11 3 (.need (.cmp .eql (tv 1) (.dlen (.dtake (tv 3) (tv 1)))) (.need (.cmp .leq (.tims (tl 1) (.plus (tv 1) (tl 1))) (tl 140737488355328)) (fr 14 2 (.inv 0 16 (sg 1000 [bt 1008 (.dapp (.dtake (tv 3) (tv 1)) (.rcons (.vint .u8 (tl 128)) .rnil)),bt 1003 (.rcons (.vint .u32 (.c2 (.xint 0) (tv 6) (tl 0))) (.rcons (.vint .u32 (.c2 (.xint 1) (tv 6) (tl 0))) (.rcons (.vint .u32 (.c2 (.xint 2) (tv 6) (tl 0))) (.rcons (.vint .u32 (.c2 (.xint 3) (tv 6) (tl 0))) (.rcons (.vint .u32 (.c2 (.xint 4) (tv 6) (tl 0))) (.rcons (.vint .u32 (.c2 (.xint 5) (tv 6) (tl 0))) (.rcons (.vint .u32 (.c2 (.xint 6) (tv 6) (tl 0))) (.rcons (.vint .u32 (.c2 (.xint 7) (tv 6) (tl 0))) .rnil)))))))),bt 1001 (.rcons (.vint .u32 (.c2 (.xint 0) (tv 5) (tl 0))) (.rcons (.vint .u32 (.c2 (.xint 1) (tv 5) (tl 0))) (.rcons (.vint .u32 (.c2 (.xint 2) (tv 5) (tl 0))) (.rcons (.vint .u32 (.c2 (.xint 3) (tv 5) (tl 0))) (.rcons (.vint .u32 (.c2 (.xint 4) (tv 5) (tl 0))) (.rcons (.vint .u32 (.c2 (.xint 5) (tv 5) (tl 0))) (.rcons (.vint .u32 (.c2 (.xint 6) (tv 5) (tl 0))) (.rcons (.vint .u32 (.c2 (.xint 7) (tv 5) (tl 0))) (.rcons (.vint .u32 (.c2 (.xint 8) (tv 5) (tl 0))) (.rcons (.vint .u32 (.c2 (.xint 9) (tv 5) (tl 0))) (.rcons (.vint .u32 (.c2 (.xint 10) (tv 5) (tl 0))) (.rcons (.vint .u32 (.c2 (.xint 11) (tv 5) (tl 0))) (.rcons (.vint .u32 (.c2 (.xint 12) (tv 5) (tl 0))) (.rcons (.vint .u32 (.c2 (.xint 13) (tv 5) (tl 0))) (.rcons (.vint .u32 (.c2 (.xint 14) (tv 5) (tl 0))) (.rcons (.vint .u32 (.c2 (.xint 15) (tv 5) (tl 0))) (.rcons (.vint .u32 (.c2 (.xint 16) (tv 5) (tl 0))) (.rcons (.vint .u32 (.c2 (.xint 17) (tv 5) (tl 0))) (.rcons (.vint .u32 (.c2 (.xint 18) (tv 5) (tl 0))) (.rcons (.vint .u32 (.c2 (.xint 19) (tv 5) (tl 0))) (.rcons (.vint .u32 (.c2 (.xint 20) (tv 5) (tl 0))) (.rcons (.vint .u32 (.c2 (.xint 21) (tv 5) (tl 0))) (.rcons (.vint .u32 (.c2 (.xint 22) (tv 5) (tl 0))) (.rcons (.vint .u32 (.c2 (.xint 23) (tv 5) (tl 0))) (.rcons (.vint .u32 (.c2 (.xint 24) (tv 5) (tl 0))) (.rcons (.vint .u32 (.c2 (.xint 25) (tv 5) (tl 0))) (.rcons (.vint .u32 (.c2 (.xint 26) (tv 5) (tl 0))) (.rcons (.vint .u32 (.c2 (.xint 27) (tv 5) (tl 0))) (.rcons (.vint .u32 (.c2 (.xint 28) (tv 5) (tl 0))) (.rcons (.vint .u32 (.c2 (.xint 29) (tv 5) (tl 0))) (.rcons (.vint .u32 (.c2 (.xint 30) (tv 5) (tl 0))) (.rcons (.vint .u32 (.c2 (.xint 31) (tv 5) (tl 0))) (.rcons (.vint .u32 (.c2 (.xint 32) (tv 5) (tl 0))) (.rcons (.vint .u32 (.c2 (.xint 33) (tv 5) (tl 0))) (.rcons (.vint .u32 (.c2 (.xint 34) (tv 5) (tl 0))) (.rcons (.vint .u32 (.c2 (.xint 35) (tv 5) (tl 0))) (.rcons (.vint .u32 (.c2 (.xint 36) (tv 5) (tl 0))) (.rcons (.vint .u32 (.c2 (.xint 37) (tv 5) (tl 0))) (.rcons (.vint .u32 (.c2 (.xint 38) (tv 5) (tl 0))) (.rcons (.vint .u32 (.c2 (.xint 39) (tv 5) (tl 0))) (.rcons (.vint .u32 (.c2 (.xint 40) (tv 5) (tl 0))) (.rcons (.vint .u32 (.c2 (.xint 41) (tv 5) (tl 0))) (.rcons (.vint .u32 (.c2 (.xint 42) (tv 5) (tl 0))) (.rcons (.vint .u32 (.c2 (.xint 43) (tv 5) (tl 0))) (.rcons (.vint .u32 (.c2 (.xint 44) (tv 5) (tl 0))) (.rcons (.vint .u32 (.c2 (.xint 45) (tv 5) (tl 0))) (.rcons (.vint .u32 (.c2 (.xint 46) (tv 5) (tl 0))) (.rcons (.vint .u32 (.c2 (.xint 47) (tv 5) (tl 0))) (.rcons (.vint .u32 (.c2 (.xint 48) (tv 5) (tl 0))) (.rcons (.vint .u32 (.c2 (.xint 49) (tv 5) (tl 0))) (.rcons (.vint .u32 (.c2 (.xint 50) (tv 5) (tl 0))) (.rcons (.vint .u32 (.c2 (.xint 51) (tv 5) (tl 0))) (.rcons (.vint .u32 (.c2 (.xint 52) (tv 5) (tl 0))) (.rcons (.vint .u32 (.c2 (.xint 53) (tv 5) (tl 0))) (.rcons (.vint .u32 (.c2 (.xint 54) (tv 5) (tl 0))) (.rcons (.vint .u32 (.c2 (.xint 55) (tv 5) (tl 0))) (.rcons (.vint .u32 (.c2 (.xint 56) (tv 5) (tl 0))) (.rcons (.vint .u32 (.c2 (.xint 57) (tv 5) (tl 0))) (.rcons (.vint .u32 (.c2 (.xint 58) (tv 5) (tl 0))) (.rcons (.vint .u32 (.c2 (.xint 59) (tv 5) (tl 0))) (.rcons (.vint .u32 (.c2 (.xint 60) (tv 5) (tl 0))) (.rcons (.vint .u32 (.c2 (.xint 61) (tv 5) (tl 0))) (.rcons (.vint .u32 (.c2 (.xint 62) (tv 5) (tl 0))) (.rcons (.vint .u32 (.c2 (.xint 63) (tv 5) (tl 0))) .rnil)))))))))))))))))))))))))))))))))))))))))))))))))))))))))))))))),bv 1007 15,bt 1006 (.plus (tv 1) (tl 1)),bg 1005 14,bg 1004 9,bg 1002 8,bg 1000 7]) (fr 16 9 (.hyp 0 16 (.need (.cmp .leq (tl 0) (tv 22)) (.br (.cmp .neq (.arith .rem .i64 (tv 22) (tl 64)) (tl 56))
 (.fresh 25 (.need (.cmp .eql (tv 22) (.dlen (tv 24))) (.need (.cmp .leq (.tims (tl 1) (.plus (tv 22) (tl 1))) (tl 140737488355328)) (fr 26 2 (.back 0 16 (sg 1000 [bt 1008 (.dapp (tv 24) (.rcons o8 .rnil)),bv 1003 19,bv 1001 17,bv 1007 27,bt 1006 (.plus (tv 22) (tl 1)),bg 1005 26,bg 1004 20,bg 1002 18,bg 1000 16]))))))
 (.inv 1 25 (sg 1000 [bv 1008 24,bv 1003 19,bv 1001 17,bt 1009 (tl 7),bt 1010 (.arith .mul .u64 (.conv .u64 (tv 1)) (tl 8)),bv 1007 23,bv 1006 22,bg 1005 21,bg 1004 20,bg 1002 18,bg 1000 16]) (fr 25 11 (.hyp 1 25 (.br (.cmp .geq (tv 34) (tl 0))
 (.need (.cmp .geq (.arith .mul .u64 (tl 8) (.conv .u64 (tv 34))) (tl 0)) (.fresh 36 (.need (.cmp .eql (tv 31) (.dlen (tv 33))) (.need (.cmp .leq (.tims (tl 1) (.plus (tv 31) (tl 1))) (tl 140737488355328)) (fr 37 2 (.back 1 25 (sg 1000 [bt 1008 (.dapp (tv 33) (.rcons (.vint .u8 (.conv .u8 (.arith .shr .u64 (tv 35) (.arith .mul .u64 (tl 8) (.conv .u64 (tv 34)))))) .rnil)),bv 1003 28,bv 1001 26,bt 1009 (.arith .sub .i64 (tv 34) (tl 1)),bv 1010 35,bv 1007 38,bt 1006 (.plus (tv 31) (tl 1)),bg 1005 37,bg 1004 29,bg 1002 27,bg 1000 25])))))))
 (.inv 2 36 (sg 1000 [bv 1008 33,bv 1003 28,bv 1001 26,bt 1009 (tl 0),bv 1007 32,bv 1006 31,bg 1005 30,bg 1004 29,bg 1002 27,bg 1000 25]) (fr 36 10 (.hyp 2 36 (.need (.cmp .leq (tl 0) (tv 42)) (.br (.cmp .lss (tv 45) (tv 42))
 (.need (.cmp .lss (tl 0) (.dlen (tv 39))) (.need (.cmp .lss (tl 0) (.dlen (tv 37))) (.know (.cmp .leq (.dlen (tv 44)) (tv 43)) (.need (.cmp .leq (tl 0) (tv 43)) (.need (.cmp .leq (tl 0) (tv 45)) (.need (.cmp .leq (tv 45) (.arith .add .i64 (tv 45) (tl 64))) (.need (.cmp .leq (.arith .add .i64 (tv 45) (tl 64)) (tv 43)) (.both (.pre 0 qvc (.both (.fresh 46 (.post 0 0 qvc 46 (.both (.back 2 36 (sg 1000 [bv 1008 44,bt 1003 (.dput (tv 39) (tl 0) 0 (.rcons (.vint .u32 (.c2 (.xint 0) (tv 46) (tl 0))) (.rcons (.vint .u32 (.c2 (.xint 1) (tv 46) (tl 0))) (.rcons (.vint .u32 (.c2 (.xint 2) (tv 46) (tl 0))) (.rcons (.vint .u32 (.c2 (.xint 3) (tv 46) (tl 0))) (.rcons (.vint .u32 (.c2 (.xint 4) (tv 46) (tl 0))) (.rcons (.vint .u32 (.c2 (.xint 5) (tv 46) (tl 0))) (.rcons (.vint .u32 (.c2 (.xint 6) (tv 46) (tl 0))) (.rcons (.vint .u32 (.c2 (.xint 7) (tv 46) (tl 0))) .rnil))))))))),bv 1001 37,bt 1009 (.arith .add .i64 (tv 45) (tl 64)),bv 1007 43,bv 1006 42,bg 1005 41,bg 1004 40,bg 1002 38,bg 1000 36])) .top))) .top)) .top))))))))
 (.fresh 46 (.inv 3 47 (sg 1000 [bt 1006 z8,bv 1003 39,bt 1007 (tl 0),bg 1005 46,bg 1004 40,bg 1002 38]) (fr 47 8 (.hyp 3 47 (.br (.cmp .lss (tv 54) (tl 32))
 (.need (.cmp .leq (tl 0) (.arith .quo .i64 (tv 54) (tl 4))) (.need (.cmp .lss (.arith .quo .i64 (tv 54) (tl 4)) (tl 8)) (.need (.cmp .lss (tl 0) (.dlen (tv 50))) (.need (.cmp .geq (.arith .sub .u64 (tl 24) (.arith .mul .u64 (tl 8) (.conv .u64 (.arith .rem .i64 (tv 54) (tl 4))))) (tl 0)) (.need (.cmp .leq (tl 0) (tv 54)) (.need (.cmp .lss (tl 0) (.dlen (tv 53))) (.back 3 47 (sg 1000 [bt 1006 (.c3 (.xput 0) (tv 53) (tv 54) (.vint .u8 (.conv .u8 (.arith .shr .u32 (.c2 (.xint 0) (tv 50) (.arith .quo .i64 (tv 54) (tl 4))) (.arith .sub .u64 (tl 24) (.arith .mul .u64 (tl 8) (.conv .u64 (.arith .rem .i64 (tv 54) (tl 4))))))))),bv 1003 50,bt 1007 (.arith .add .i64 (tv 54) (tl 1)),bg 1005 52,bg 1004 51,bg 1002 49]))))))))
 (.need (.cmp .lss (tl 0) (.dlen (tv 53))) (.ret 0 (sg 7 [bt 7 (.rcons (.vint .u8 (.icell (tv 53) (tl 0) 0)) (.rcons (.vint .u8 (.icell (tv 53) (tl 0) 1)) (.rcons (.vint .u8 (.icell (tv 53) (tl 0) 2)) (.rcons (.vint .u8 (.icell (tv 53) (tl 0) 3)) (.rcons (.vint .u8 (.icell (tv 53) (tl 0) 4)) (.rcons (.vint .u8 (.icell (tv 53) (tl 0) 5)) (.rcons (.vint .u8 (.icell (tv 53) (tl 0) 6)) (.rcons (.vint .u8 (.icell (tv 53) (tl 0) 7)) (.rcons (.vint .u8 (.icell (tv 53) (tl 0) 8)) (.rcons (.vint .u8 (.icell (tv 53) (tl 0) 9)) (.rcons (.vint .u8 (.icell (tv 53) (tl 0) 10)) (.rcons (.vint .u8 (.icell (tv 53) (tl 0) 11)) (.rcons (.vint .u8 (.icell (tv 53) (tl 0) 12)) (.rcons (.vint .u8 (.icell (tv 53) (tl 0) 13)) (.rcons (.vint .u8 (.icell (tv 53) (tl 0) 14)) (.rcons (.vint .u8 (.icell (tv 53) (tl 0) 15)) (.rcons (.vint .u8 (.icell (tv 53) (tl 0) 16)) (.rcons (.vint .u8 (.icell (tv 53) (tl 0) 17)) (.rcons (.vint .u8 (.icell (tv 53) (tl 0) 18)) (.rcons (.vint .u8 (.icell (tv 53) (tl 0) 19)) (.rcons (.vint .u8 (.icell (tv 53) (tl 0) 20)) (.rcons (.vint .u8 (.icell (tv 53) (tl 0) 21)) (.rcons (.vint .u8 (.icell (tv 53) (tl 0) 22)) (.rcons (.vint .u8 (.icell (tv 53) (tl 0) 23)) (.rcons (.vint .u8 (.icell (tv 53) (tl 0) 24)) (.rcons (.vint .u8 (.icell (tv 53) (tl 0) 25)) (.rcons (.vint .u8 (.icell (tv 53) (tl 0) 26)) (.rcons (.vint .u8 (.icell (tv 53) (tl 0) 27)) (.rcons (.vint .u8 (.icell (tv 53) (tl 0) 28)) (.rcons (.vint .u8 (.icell (tv 53) (tl 0) 29)) (.rcons (.vint .u8 (.icell (tv 53) (tl 0) 30)) (.rcons (.vint .u8 (.icell (tv 53) (tl 0) 31)) .rnil))))))))))))))))))))))))))))))))]))))))))))))))))))))))))))))))
theorem q7z:qn Tryz.prog qpS [qme] [q6v,q6c,q6q,q6j] q1z:=qh Tryz.func117 Tryz.call117 (by kernel_rfl)
@[simp] def qwh:Sg:=sg 0 [bv 4 4,bv 3 3,bt 6 (.rcons (.vint .u32 (tl 1779033703)) (.rcons (.vint .u32 (tl 3144134277)) (.rcons (.vint .u32 (tl 1013904242)) (.rcons (.vint .u32 (tl 2773480762)) (.rcons (.vint .u32 (tl 1359893119)) (.rcons (.vint .u32 (tl 2600822924)) (.rcons (.vint .u32 (tl 528734635)) (.rcons (.vint .u32 (tl 1541459225)) .rnil)))))))),bt 5 (.rcons (.vint .u32 (.icell (tv 6) (tl 0) 0)) (.rcons (.vint .u32 (.icell (tv 6) (tl 0) 1)) (.rcons (.vint .u32 (.icell (tv 6) (tl 0) 2)) (.rcons (.vint .u32 (.icell (tv 6) (tl 0) 3)) (.rcons (.vint .u32 (.icell (tv 6) (tl 0) 4)) (.rcons (.vint .u32 (.icell (tv 6) (tl 0) 5)) (.rcons (.vint .u32 (.icell (tv 6) (tl 0) 6)) (.rcons (.vint .u32 (.icell (tv 6) (tl 0) 7)) (.rcons (.vint .u32 (.icell (tv 6) (tl 0) 8)) (.rcons (.vint .u32 (.icell (tv 6) (tl 0) 9)) (.rcons (.vint .u32 (.icell (tv 6) (tl 0) 10)) (.rcons (.vint .u32 (.icell (tv 6) (tl 0) 11)) (.rcons (.vint .u32 (.icell (tv 6) (tl 0) 12)) (.rcons (.vint .u32 (.icell (tv 6) (tl 0) 13)) (.rcons (.vint .u32 (.icell (tv 6) (tl 0) 14)) (.rcons (.vint .u32 (.icell (tv 6) (tl 0) 15)) (.rcons (.vint .u32 (.icell (tv 6) (tl 0) 16)) (.rcons (.vint .u32 (.icell (tv 6) (tl 0) 17)) (.rcons (.vint .u32 (.icell (tv 6) (tl 0) 18)) (.rcons (.vint .u32 (.icell (tv 6) (tl 0) 19)) (.rcons (.vint .u32 (.icell (tv 6) (tl 0) 20)) (.rcons (.vint .u32 (.icell (tv 6) (tl 0) 21)) (.rcons (.vint .u32 (.icell (tv 6) (tl 0) 22)) (.rcons (.vint .u32 (.icell (tv 6) (tl 0) 23)) (.rcons (.vint .u32 (.icell (tv 6) (tl 0) 24)) (.rcons (.vint .u32 (.icell (tv 6) (tl 0) 25)) (.rcons (.vint .u32 (.icell (tv 6) (tl 0) 26)) (.rcons (.vint .u32 (.icell (tv 6) (tl 0) 27)) (.rcons (.vint .u32 (.icell (tv 6) (tl 0) 28)) (.rcons (.vint .u32 (.icell (tv 6) (tl 0) 29)) (.rcons (.vint .u32 (.icell (tv 6) (tl 0) 30)) (.rcons (.vint .u32 (.icell (tv 6) (tl 0) 31)) (.rcons (.vint .u32 (.icell (tv 6) (tl 0) 32)) (.rcons (.vint .u32 (.icell (tv 6) (tl 0) 33)) (.rcons (.vint .u32 (.icell (tv 6) (tl 0) 34)) (.rcons (.vint .u32 (.icell (tv 6) (tl 0) 35)) (.rcons (.vint .u32 (.icell (tv 6) (tl 0) 36)) (.rcons (.vint .u32 (.icell (tv 6) (tl 0) 37)) (.rcons (.vint .u32 (.icell (tv 6) (tl 0) 38)) (.rcons (.vint .u32 (.icell (tv 6) (tl 0) 39)) (.rcons (.vint .u32 (.icell (tv 6) (tl 0) 40)) (.rcons (.vint .u32 (.icell (tv 6) (tl 0) 41)) (.rcons (.vint .u32 (.icell (tv 6) (tl 0) 42)) (.rcons (.vint .u32 (.icell (tv 6) (tl 0) 43)) (.rcons (.vint .u32 (.icell (tv 6) (tl 0) 44)) (.rcons (.vint .u32 (.icell (tv 6) (tl 0) 45)) (.rcons (.vint .u32 (.icell (tv 6) (tl 0) 46)) (.rcons (.vint .u32 (.icell (tv 6) (tl 0) 47)) (.rcons (.vint .u32 (.icell (tv 6) (tl 0) 48)) (.rcons (.vint .u32 (.icell (tv 6) (tl 0) 49)) (.rcons (.vint .u32 (.icell (tv 6) (tl 0) 50)) (.rcons (.vint .u32 (.icell (tv 6) (tl 0) 51)) (.rcons (.vint .u32 (.icell (tv 6) (tl 0) 52)) (.rcons (.vint .u32 (.icell (tv 6) (tl 0) 53)) (.rcons (.vint .u32 (.icell (tv 6) (tl 0) 54)) (.rcons (.vint .u32 (.icell (tv 6) (tl 0) 55)) (.rcons (.vint .u32 (.icell (tv 6) (tl 0) 56)) (.rcons (.vint .u32 (.icell (tv 6) (tl 0) 57)) (.rcons (.vint .u32 (.icell (tv 6) (tl 0) 58)) (.rcons (.vint .u32 (.icell (tv 6) (tl 0) 59)) (.rcons (.vint .u32 (.icell (tv 6) (tl 0) 60)) (.rcons (.vint .u32 (.icell (tv 6) (tl 0) 61)) (.rcons (.vint .u32 (.icell (tv 6) (tl 0) 62)) (.rcons (.vint .u32 (.icell (tv 6) (tl 0) 63)) .rnil)))))))))))))))))))))))))))))))))))))))))))))))))))))))))))))))),bv 2 2,bv 1 1,bg 0 0]
def q1k:Out:=(.fresh 7 (.need (.c1 (.isg 0) (tv 5)) (.need (.cmp .lss (tl 0) (.dlen (tv 6))) (.pre 0 qwh (.both (.fresh 8 (.post 0 0 qwh 8 (.ret 0 (sg 7 [bt 7 (r8 8)])))) .top)))))
theorem q7g:qn Tryz.prog qpU [qpS] [] q1k:=qh Tryz.func79 Tryz.call79 (by kernel_rfl)
set_option maxRecDepth 20000
theorem q8a {x y:Nat} (h:x * y < 18446744073709551616):qe .mul .u64 (x:Int) (y:Int) = ((x * y:Nat):Int):=by
 show IntKind.u64.wrap ((x:Int) * (y:Int)) = _
 rw [qj4,<- jdt]; omega
def qae (f:Nat->Int) (n:Nat):List Value:=(List.range n).map fun j=>.int .u32 (f j)
theorem qbQ {f:Nat->Int} {n j:Nat} (h:j < n):qa [qae f n] j = f j:=by
 rw [qrO]; simp [qae,h,qS]
end Go.Proofs
