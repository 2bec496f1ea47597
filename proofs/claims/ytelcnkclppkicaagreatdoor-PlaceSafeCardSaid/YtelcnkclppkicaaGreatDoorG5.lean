/- Texts DD, ZA, ZB, ZL, ZF, DC, DE, DH, DJ, DK, DL, BA, BB, ZG, DM, ZJ, ZU, DO, BC, BD, BE, DU, BF, BG, BH, DX, BI, DF, DG, DI, DQ, DN, DR, DV, DW, BJ, BL, BM, BN, BO, BQ, BR, BS. -/
import Derived.Test.YtelcnkclppkicaaGreatDoorG4
import Derived.Test.YtelcnkclppkicaaGreatDoorProg
set_option linter.unusedSimpArgs false
set_option linter.unusedVariables false
namespace Go.Eng
open Go
def qal (d:List (List Value)) (n:Nat):Prop:=∃ row,d = [row]/\row.length = n
def qf (d:List (List Value)) (n:Nat):List Int:=(List.range n).map (qa d)
def qaY (k:IntKind) (v n:Nat):List T:=(List.range n).map fun j=>.vint k (.c2 (.xint j) (.var v) (.lit 0))
def k64:List CK:=List.replicate 64 (.int .u32)
def gHp (r d:Nat):SH:=.arr r 206 k64 (.var d) (.lit 1)
def gOk (ρ:Env) (r d g:Nat):Prop:=(ρ r).r = some ⟨g,0,none⟩/\(ρ d).d = [qaE.map (Value.int .u32)]
def q8f:List CK:=List.replicate 8 (.int .u32) ++ (List.replicate 64 (.int .u8) ++ [.int .i64])
def hHp (r d:Nat):SH:=.arr r 219 q8f (.var d) (.lit 1)
def qfC (r:Nat):SV:=.one (.vptr r (.lit 0) 73 0)
def qbK (d:List (List Value)):Prop:=qal d 73/\(∀ j,j < 8->isW (qa d j))/\∀ j,8 <= j->j < 72->0 <= qa d j/\qa d j < 256
def stW (d:List (List Value)):St8:=quB (qf d 8)
def qd5 (d:List (List Value)):List W32:=(List.range 16).map fun t=>qtE (qa d (8 + 4 * t)) (qa d (8 + (4 * t + 1))) (qa d (8 + (4 * t + 2))) (qa d (8 + (4 * t + 3)))
def qq3 (fn:Nat):Ctr:={ fn:=fn,nv:=2,args:=[.one (.vint .u32 (.var 0)),.one (.vint .i64 (.var 1))],heap:=[],ro:=[],pre:=fun ρ=>isW (ρ 0).i/\∃ n:Nat,1 <= n/\n <= 31/\(ρ 1).i = -(n:Int),alts:=[{ k:=1,ret:=.one (.vint .u32 (.var 2)),heap:=[],post:=fun ρ=>∀ n:Nat,1 <= n->n <= 31->(ρ 1).i = -(n:Int)->(ρ 2).i = ofW (qfQ (toW (ρ 0).i) n) }] }
def qeG:Ctr:=qq3 154
def qdA:Ctr:={ fn := 129,nv:=4,ip:=[(2000 + 1,2)],args:=[qfC 0],heap:=[hHp 0 1],ro:=[gHp 2 3],pre:=fun ρ=>qbK (ρ 1).d/\gOk ρ 2 3 1,alts:=[
 { k:=1,ret:=.tup [],heap:=[hHp 0 4],post:=fun ρ=>qbK (ρ 4).d/\stW (ρ 4).d = qjo (qhN qaE) (stW (ρ 1).d) (qd5 (ρ 1).d)/\∀ j,8 <= j->qa (ρ 4).d j = qa (ρ 1).d j }] }
def wHp (r d:Nat):SH:=.arr r 206 k64 (.var d) (.lit 1)
def q2y (r:Nat):SV:=.one (.vptr r (.lit 0) 64 0)
def qzb (t:T):SV:=.one (.vint .i64 t)
def qhF (d:List (List Value)) (l:List W32) (n:Nat):Prop:=qal d 64/\∀ j,j < n->qa d j = ofW (l.getD j 0)
def qz6:Inv:={ key:=2,nv:=3,env:=[(0,qfC 0),(2,q2y 1000),(24,qzb (.var 1002))],heap:=[hHp 0 1,wHp 1000 1001],inv:=(fun ρ=>0 <= (ρ 1002).i/\(ρ 1002).i <= 16/\qhF (ρ 1001).d (qap (qd5 (ρ 1).d) 48) (ρ 1002).i.toNat),mu:=(fun ρ=>(16 - (ρ 1002).i).toNat) }
def qxT:Inv:={ key:=7,nv:=3,env:=[(0,qfC 0),(2,q2y 1000),(4,qzb (.var 1002))],heap:=[hHp 0 1,wHp 1000 1001],inv:=(fun ρ=>16 <= (ρ 1002).i/\(ρ 1002).i <= 64/\qhF (ρ 1001).d (qap (qd5 (ρ 1).d) 48) (ρ 1002).i.toNat),mu:=(fun ρ=>(64 - (ρ 1002).i).toNat) }
def ql8 (n:Nat):SV:=.one (.vint .u32 (.var n))
def st8 (ρ:Env) (n:Nat):St8:=⟨toW (ρ n).i,toW (ρ (n + 1)).i,toW (ρ (n + 2)).i,toW (ρ (n + 3)).i,toW (ρ (n + 4)).i,toW (ρ (n + 5)).i,toW (ρ (n + 6)).i,toW (ρ (n + 7)).i⟩
def q6R (ρ:Env) (n:Nat):Prop:=isW (ρ n).i/\isW (ρ (n + 1)).i/\isW (ρ (n + 2)).i/\isW (ρ (n + 3)).i/\isW (ρ (n + 4)).i/\isW (ρ (n + 5)).i/\isW (ρ (n + 6)).i/\isW (ρ (n + 7)).i
def qxM:Inv:={ key:=16,nv:=11,env:=[(0,qfC 0),(2,q2y 1000),(9,ql8 1003),(10,ql8 1004),(11,ql8 1005),(12,ql8 1006),(13,ql8 1007),(14,ql8 1008),(15,ql8 1009),(16,ql8 1010),(154,qzb (.var 1002))],heap:=[hHp 0 1,wHp 1000 1001],inv:=(fun ρ=>0 <= (ρ 1002).i/\(ρ 1002).i <= 64/\qhF (ρ 1001).d (qap (qd5 (ρ 1).d) 48) 64/\q6R ρ 1003/\st8 ρ 1003 = qsL (stW (ρ 1).d) (qhN qaE) (qap (qd5 (ρ 1).d) 48) (ρ 1002).i.toNat),mu:=(fun ρ=>(64 - (ρ 1002).i).toNat) }
def qzw:Inv:={ key:=26,nv:=3,env:=[(0,qfC 0),(224,.agg (qaY .u32 1000 8)),(225,qzb (.var 1001))],heap:=[hHp 0 1002],inv:=(fun ρ=>0 <= (ρ 1001).i/\(ρ 1001).i <= 8/\(∀ j,j < 8->isW (qa (ρ 1000).d j))/\quB (qf (ρ 1000).d 8) = qsL (stW (ρ 1).d) (qhN qaE) (qap (qd5 (ρ 1).d) 48) 64/\qbK (ρ 1002).d/\(∀ j,j < (ρ 1001).i.toNat->qa (ρ 1002).d j = ofW (toW (qa (ρ 1).d j) + toW (qa (ρ 1000).d j)))/\∀ j,(ρ 1001).i.toNat <= j->qa (ρ 1002).d j = qa (ρ 1).d j),mu:=(fun ρ=>(8 - (ρ 1001).i).toNat) }
end Go.Eng

set_option linter.unusedSimpArgs false
set_option linter.unusedVariables false
namespace Go.Eng
open Go

def qgI:List CK:=[.int .u32,.int .i32,.int .u32] ++ List.replicate 510 (.int .u8) ++ List.replicate 256 (.int .i64)
def qbs:List Value:=[.int .u32 0,.int .i32 0,.int .u32 0] ++ List.replicate 510 (.int .u8 0) ++ List.replicate 256 (.int .i64 0)
abbrev qd:=List (List Value)
def qio (x:Int):Int:=if 256 <= 2 * x then qc .xor .i64 (2 * x) 285 else 2 * x
def ql7 (i:Nat) (s:qd × Int):qd × Int :=
 (qau (qau (qau s.1 (i + 3) (.int .u8 s.2)) (i + 255 + 3) (.int .u8 s.2)) (s.2.toNat + 513) (.int .i64 i),qio s.2)
def qb9 (d:qd):Nat->qd × Int
 | 0=>(d,1)
 | n + 1=>ql7 n (qb9 d n)
def q7l:qd:=(qb9 [qbs] 255).1
def qaD:qd:=qau q7l 0 (.int .u32 1)
def qv (d:qd):Prop:=d = [qbs]∨d = qaD
def qby:SV:=.one (.vptr 0 (.lit 0) 769 0)
def fHp (n:Nat):SH:=.arr 0 151 qgI (.var n) (.lit 1)
def iv (k:IntKind) (t:T):SV:=.one (.vint k t)

def qbA:Ctr:={ fn := 20,nv:=0,args:=[],heap:=[],ro:=[],pre:=fun _=>True,alts:=[{ k:=2,ret:=qby,heap:=[fHp 1],post:=fun ρ=>(ρ 1).d = [qbs] }] }
def qju:Ctr:={ fn := 179,nv:=2,args:=[qby],heap:=[fHp 1],ro:=[],pre:=fun ρ=>(ρ 1).d.length = 1,alts:=[{ k:=1,ret:=.tup [],heap:=[fHp 2],post:=fun ρ=>(ρ 2).d = (qb9 (ρ 1).d 255).1 }] }
def qtR:Inv:={ key:=2,nv:=3,env:=[(0,qby),(2,iv .i64 (.var 1000)),(3,iv .i64 (.var 1001))],heap:=[fHp 1002],inv:=(fun ρ=>0 <= (ρ 1001).i/\(ρ 1001).i <= 255/\((ρ 1002).d,(ρ 1000).i) = qb9 (ρ 1).d (ρ 1001).i.toNat),mu:=(fun ρ=>(255 - (ρ 1001).i).toNat) }
def ql3 (i:Nat):Int:=qa qaD (i + 3)
def qbl (a:Nat):Int:=qa qaD (a + 513)
def qcZ (a b:Int):Int:=if a = 0∨b = 0 then 0 else ql3 (qbl a.toNat + qbl b.toNat).toNat
def qbQ:Ctr:={ fn := 178,nv:=2,args:=[qby,.fn (.func 179) [.vptr 0 (.lit 0) 769 0] []],heap:=[fHp 1],ro:=[],pre:=fun ρ=>qv (ρ 1).d,alts:=[{ k:=1,ret:=.tup [],heap:=[fHp 2],post:=fun ρ=>(ρ 2).d = qaD }] }
def qd6:Ctr:={ fn := 152,nv:=4,args:=[qby,iv .u8 (.var 2),iv .u8 (.var 3)],heap:=[fHp 1],ro:=[],pre:=fun ρ=>qv (ρ 1).d/\0 <= (ρ 2).i/\(ρ 2).i < 256/\0 <= (ρ 3).i/\(ρ 3).i < 256,alts:=[{ k:=2,ret:=iv .u8 (.var 4),heap:=[fHp 5],post:=fun ρ=>qv (ρ 5).d/\(ρ 4).i = qcZ (ρ 2).i (ρ 3).i }] }
end Go.Eng

set_option linter.unusedSimpArgs false
set_option linter.unusedVariables false
namespace Go.Eng
open Go

def kB:List CK:=[.int .u8]
def qbD (r:List Value) (c:Nat):Int:=qaf (r[c]?.getD .nilFunc)
def bI (d:qd):List Int:=d.map fun r=>qbD r 0
def q9 (d:qd):Prop:=∀ row ∈ d,0 <= qbD row 0/\qbD row 0 < 256
def big:Int:=8796093021952
def qmv (d:qd) (off len:Int):Prop:=0 <= off/\0 <= len/\off + len <= d.length/\len <= big
def seg (l:List Int) (off n:Nat):List Int:=(l.drop off).take n
def qhs (x y:Int):Int:=qc .xor .u8 x y
def qab (l:List Int) (off:Nat) (s:List Int) (c:Int):List Int:=l.mapIdx fun i x=>if off <= i/\i < off + s.length then qhs x (qcZ c (s.getD (i - off) 0)) else x
def qaV (l:List Int) (off n:Nat) (c:Int):List Int:=l.mapIdx fun i x=>if off <= i/\i < off + n then qcZ x c else x
def bSl (r o l c:Nat):SV:=.one (.vslice r (.var o) (.var l) (.var c) 1)
def bHp (r d c:Nat):SH:=.arr r 5 kB (.var d) (.var c)
def qqH (a b r l c:Nat):SV:=.agg [.vint .i64 (.var a),.vint .i64 (.var b),.vslice r (.lit 0) (.var l) (.var c) 1]

def qa4 (k total:Int):Bool:=decide (1 <= k) && decide (k <= total) && decide (total <= 255)
def qbj:Ctr:={ fn := 109,nv:=2,args:=[iv .i64 (.var 0),iv .i64 (.var 1)],heap:=[],ro:=[],pre:=fun _=>True,alts:=[{ k:=1,ret:=.one (.vbool (.var 2)),heap:=[],post:=fun ρ=>(ρ 2).b = qa4 (ρ 0).i (ρ 1).i }] }
def qeU (k size:Int):Prop:=k < 1∨255 < k∨size < 0∨8192 < size
def qbh:Ctr:={ fn := 99,nv:=2,args:=[iv .i64 (.var 0),iv .i64 (.var 1)],heap:=[],ro:=[],pre:=fun _=>True,alts:=[{ k:=2,ret:=.tup [(false,[.vint .i64 (.var 2)]),(false,[.vint .i64 (.var 3)])],heap:=[],post:=fun ρ=>(qeU (ρ 0).i (ρ 1).i->(ρ 2).i = 0/\(ρ 3).i = 2)/\(¬ qeU (ρ 0).i (ρ 1).i->(ρ 2).i = ((ρ 1).i + (ρ 0).i - 1).tdiv (ρ 0).i/\(ρ 3).i = 0) }] }

def qaJ:Ctr:={ fn := 165,nv:=2,args:=[iv .i64 (.var 0),iv .i64 (.var 1)],heap:=[],ro:=[],pre:=fun ρ=>0 <= (ρ 0).i/\(ρ 0).i <= 255/\0 <= (ρ 1).i/\(ρ 1).i <= 255,alts:=[{ k:=4,ret:=qqH 0 1 2 3 4,heap:=[bHp 2 5 4],post:=fun ρ=>(ρ 3).i = (ρ 0).i * (ρ 1).i/\(ρ 4).i = (ρ 3).i/\(ρ 5).d = List.replicate (ρ 3).i.toNat [.int .u8 0] }] }
def qeN (r c l cap:Int) (d:qd):Prop:=0 <= r/\r <= 255/\0 <= c/\c <= 255/\l = r * c/\l <= cap/\l <= d.length/\q9 d
def qbq:Ctr:={ fn := 123,nv:=8,args:=[qqH 0 1 2 3 4,iv .i64 (.var 7)],heap:=[],ro:=[bHp 2 5 6],pre:=fun ρ=>0 <= (ρ 7).i/\(ρ 7).i < (ρ 0).i/\qeN (ρ 0).i (ρ 1).i (ρ 3).i (ρ 4).i (ρ 5).d,alts:=[{ k:=3,ret:=bSl 2 8 9 10,heap:=[],post:=fun ρ=>(ρ 8).i = (ρ 7).i * (ρ 1).i/\(ρ 9).i = (ρ 1).i/\(ρ 10).i = (ρ 1).i }] }
def qbg:Ctr:={ fn := 164,nv:=7,args:=[qqH 0 1 2 3 4],heap:=[],ro:=[bHp 2 5 6],pre:=fun ρ=>0 <= (ρ 3).i,alts:=[{ k:=1,ret:=.one (.vbool (.var 7)),heap:=[],post:=fun ρ=>(ρ 7).b = true↔(1 <= (ρ 0).i/\(ρ 0).i <= 255/\1 <= (ρ 1).i/\(ρ 1).i <= 255/\(ρ 3).i = (ρ 0).i * (ρ 1).i) }] }
def qdO:Ctr:={ fn := 168,nv:=7,args:=[qqH 0 1 2 3 4],heap:=[],ro:=[bHp 2 5 6],pre:=fun ρ=>0 <= (ρ 3).i/\(ρ 3).i <= (ρ 5).d.length/\(ρ 3).i <= big,alts:=[{ k:=3,ret:=.agg [.vint .i64 (.var 0),.vint .i64 (.var 1),.vslice 7 (.lit 0) (.var 3) (.var 8) 1],heap:=[bHp 7 9 8],post:=fun ρ=>(ρ 9).d = (ρ 5).d.take (ρ 3).i.toNat }] }

def qbp:Ctr:={ fn := 124,nv:=15,args:=[qby,bSl 2 3 4 5,bSl 8 9 10 11,iv .u8 (.var 14)],heap:=[fHp 1,bHp 2 6 7],ro:=[bHp 8 12 13],pre:=fun ρ=>qv (ρ 1).d/\qmv (ρ 6).d (ρ 3).i (ρ 4).i/\qmv (ρ 12).d (ρ 9).i (ρ 10).i/\(ρ 10).i <= (ρ 4).i/\q9 (ρ 6).d/\q9 (ρ 12).d/\0 <= (ρ 14).i/\(ρ 14).i < 256,alts:=[{ k:=2,ret:=.tup [],heap:=[fHp 15,bHp 2 16 7],post:=fun ρ=>qv (ρ 15).d/\(ρ 16).d.length = (ρ 6).d.length/\q9 (ρ 16).d/\bI (ρ 16).d = qab (bI (ρ 6).d) (ρ 3).i.toNat (seg (bI (ρ 12).d) (ρ 9).i.toNat (ρ 10).i.toNat) (ρ 14).i }] }
def qu7:Inv:={ key:=2,nv:=3,env:=[(0,qby),(1,bSl 2 3 4 5),(3,iv .u8 (.var 14)),(12,bSl 8 9 10 11),(13,iv .i64 (.var 10)),(14,iv .i64 (.var 1000))],heap:=[fHp 1001,bHp 2 1002 7],inv:=(fun ρ=>0 <= (ρ 1000).i/\(ρ 1000).i <= (ρ 10).i/\qv (ρ 1001).d/\(ρ 1002).d.length = (ρ 6).d.length/\q9 (ρ 1002).d/\bI (ρ 1002).d = qab (bI (ρ 6).d) (ρ 3).i.toNat (seg (bI (ρ 12).d) (ρ 9).i.toNat (ρ 1000).i.toNat) (ρ 14).i),mu:=(fun ρ=>((ρ 10).i - (ρ 1000).i).toNat) }
def qeC:Ctr:={ fn := 124,nv:=12,args:=[qby,bSl 2 3 4 5,bSl 2 8 9 10,iv .u8 (.var 11)],heap:=[fHp 1,bHp 2 6 7],ro:=[],pre:=fun ρ=>qv (ρ 1).d/\qmv (ρ 6).d (ρ 3).i (ρ 4).i/\qmv (ρ 6).d (ρ 8).i (ρ 9).i/\(ρ 9).i <= (ρ 4).i/\((ρ 8).i + (ρ 9).i <= (ρ 3).i∨(ρ 3).i + (ρ 4).i <= (ρ 8).i)/\q9 (ρ 6).d/\0 <= (ρ 11).i/\(ρ 11).i < 256,alts:=[{ k:=2,ret:=.tup [],heap:=[fHp 12,bHp 2 13 7],post:=fun ρ=>qv (ρ 12).d/\(ρ 13).d.length = (ρ 6).d.length/\q9 (ρ 13).d/\bI (ρ 13).d = qab (bI (ρ 6).d) (ρ 3).i.toNat (seg (bI (ρ 6).d) (ρ 8).i.toNat (ρ 9).i.toNat) (ρ 11).i }] }
def qq6:Inv:={ key:=2,nv:=3,env:=[(0,qby),(1,bSl 2 3 4 5),(3,iv .u8 (.var 11)),(12,bSl 2 8 9 10),(13,iv .i64 (.var 9)),(14,iv .i64 (.var 1000))],heap:=[fHp 1001,bHp 2 1002 7],inv:=(fun ρ=>0 <= (ρ 1000).i/\(ρ 1000).i <= (ρ 9).i/\qv (ρ 1001).d/\(ρ 1002).d.length = (ρ 6).d.length/\q9 (ρ 1002).d/\bI (ρ 1002).d = qab (bI (ρ 6).d) (ρ 3).i.toNat (seg (bI (ρ 6).d) (ρ 8).i.toNat (ρ 1000).i.toNat) (ρ 11).i),mu:=(fun ρ=>((ρ 9).i - (ρ 1000).i).toNat) }
def qe8:Ctr:={ fn := 185,nv:=9,args:=[qby,bSl 2 3 4 5,iv .u8 (.var 8)],heap:=[fHp 1,bHp 2 6 7],ro:=[],pre:=fun ρ=>qv (ρ 1).d/\qmv (ρ 6).d (ρ 3).i (ρ 4).i/\q9 (ρ 6).d/\0 <= (ρ 8).i/\(ρ 8).i < 256,alts:=[{ k:=2,ret:=.tup [],heap:=[fHp 9,bHp 2 10 7],post:=fun ρ=>qv (ρ 9).d/\(ρ 10).d.length = (ρ 6).d.length/\q9 (ρ 10).d/\bI (ρ 10).d = qaV (bI (ρ 6).d) (ρ 3).i.toNat (ρ 4).i.toNat (ρ 8).i }] }
def qsC:Inv:={ key:=1,nv:=3,env:=[(0,qby),(1,bSl 2 3 4 5),(2,iv .u8 (.var 8)),(8,bSl 2 3 4 5),(9,iv .i64 (.var 4)),(10,iv .i64 (.var 1000))],heap:=[fHp 1001,bHp 2 1002 7],inv:=(fun ρ=>0 <= (ρ 1000).i/\(ρ 1000).i <= (ρ 4).i/\qv (ρ 1001).d/\(ρ 1002).d.length = (ρ 6).d.length/\q9 (ρ 1002).d/\bI (ρ 1002).d = qaV (bI (ρ 6).d) (ρ 3).i.toNat (ρ 1000).i.toNat (ρ 8).i),mu:=(fun ρ=>((ρ 4).i - (ρ 1000).i).toNat) }

def qfE (a:Int):Int:=if a = 0 then 0 else ql3 (255 - qbl a.toNat).toNat
def qe3:Ctr:={ fn := 184,nv:=3,args:=[qby,iv .u8 (.var 2)],heap:=[fHp 1],ro:=[],pre:=fun ρ=>qv (ρ 1).d/\0 <= (ρ 2).i/\(ρ 2).i < 256,alts:=[{ k:=3,ret:=.tup [(false,[.vint .u8 (.var 3)]),(false,[.vint .i64 (.var 4)])],heap:=[fHp 5],post:=fun ρ=>qv (ρ 5).d/\(ρ 3).i = qfE (ρ 2).i/\(ρ 4).i = if (ρ 2).i = 0 then 2 else 0 }] }
def qgP (a e:Int):Int:=if e <= 0 then 1 else if a = 0 then 0 else ql3 ((qbl a.toNat * e.tmod 255).tmod 255).toNat
def qe4:Ctr:={ fn := 177,nv:=4,args:=[qby,iv .u8 (.var 2),iv .i64 (.var 3)],heap:=[fHp 1],ro:=[],pre:=fun ρ=>qv (ρ 1).d/\0 <= (ρ 2).i/\(ρ 2).i < 256/\(ρ 3).i < 9223372036854775808,alts:=[{ k:=2,ret:=iv .u8 (.var 4),heap:=[fHp 5],post:=fun ρ=>qv (ρ 5).d/\(ρ 4).i = qgP (ρ 2).i (ρ 3).i }] }
end Go.Eng

set_option linter.unusedSimpArgs false
set_option linter.unusedVariables false
set_option maxRecDepth 100000
namespace Go.Proofs
open Go Go.Eng
def qh1:List Int :=
 [1,2,4,8,16,32,64,128,29,58,116,232,205,135,19,38,76,152,45,90,180,117,234,201,143,3,6,12,24,48,96,192,157,39,
  78,156,37,74,148,53,106,212,181,119,238,193,159,35,70,140,5,10,20,40,80,160,93,186,105,210,185,111,222,161,95,190,97,194,
  153,47,94,188,101,202,137,15,30,60,120,240,253,231,211,187,107,214,177,127,254,225,223,163,91,182,113,226,217,175,67,134,17,34,
  68,136,13,26,52,104,208,189,103,206,129,31,62,124,248,237,199,147,59,118,236,197,151,51,102,204,133,23,46,92,184,109,218,169,
  79,158,33,66,132,21,42,84,168,77,154,41,82,164,85,170,73,146,57,114,228,213,183,115,230,209,191,99,198,145,63,126,252,229,
  215,179,123,246,241,255,227,219,171,75,150,49,98,196,149,55,110,220,165,87,174,65,130,25,50,100,200,141,7,14,28,56,112,224,
  221,167,83,166,81,162,89,178,121,242,249,239,195,155,43,86,172,69,138,9,18,36,72,144,61,122,244,245,247,243,251,235,203,139,
  11,22,44,88,176,125,250,233,207,131,27,54,108,216,173,71,142,1,2,4,8,16,32,64,128,29,58,116,232,205,135,19,38,76,
  152,45,90,180,117,234,201,143,3,6,12,24,48,96,192,157,39,78,156,37,74,148,53,106,212,181,119,238,193,159,35,70,140,5,
  10,20,40,80,160,93,186,105,210,185,111,222,161,95,190,97,194,153,47,94,188,101,202,137,15,30,60,120,240,253,231,211,187,107,
  214,177,127,254,225,223,163,91,182,113,226,217,175,67,134,17,34,68,136,13,26,52,104,208,189,103,206,129,31,62,124,248,237,199,
  147,59,118,236,197,151,51,102,204,133,23,46,92,184,109,218,169,79,158,33,66,132,21,42,84,168,77,154,41,82,164,85,170,73,
  146,57,114,228,213,183,115,230,209,191,99,198,145,63,126,252,229,215,179,123,246,241,255,227,219,171,75,150,49,98,196,149,55,110,
  220,165,87,174,65,130,25,50,100,200,141,7,14,28,56,112,224,221,167,83,166,81,162,89,178,121,242,249,239,195,155,43,86,172,
  69,138,9,18,36,72,144,61,122,244,245,247,243,251,235,203,139,11,22,44,88,176,125,250,233,207,131,27,54,108,216,173,71,142]
def ql2:List Int :=
 [0,0,1,25,2,50,26,198,3,223,51,238,27,104,199,75,4,100,224,14,52,141,239,129,28,193,105,248,200,8,76,113,5,138,
  101,47,225,36,15,33,53,147,142,218,240,18,130,69,29,181,194,125,106,39,249,185,201,154,9,120,77,228,114,166,6,191,139,98,
  102,221,48,253,226,152,37,179,16,145,34,136,54,208,148,206,143,150,219,189,241,210,19,92,131,56,70,64,30,66,182,163,195,72,
  126,110,107,58,40,84,250,133,186,61,202,94,155,159,10,21,121,43,78,212,229,172,115,243,167,87,7,112,192,247,140,128,99,13,
  103,74,222,237,49,197,254,24,227,165,153,119,38,184,180,124,17,68,146,217,35,32,137,46,55,63,209,91,149,188,207,205,144,135,
  151,178,220,252,190,97,242,86,211,171,20,42,93,158,132,60,57,83,71,109,65,162,31,45,67,216,183,123,164,118,196,23,73,236,
  127,12,111,246,108,161,59,82,41,157,85,170,251,96,134,177,187,204,62,90,203,89,95,176,156,169,160,81,11,245,22,235,122,117,
  44,215,79,174,213,233,230,231,173,232,116,214,244,234,168,80,88,175]

theorem qnL:qaD = [[.int .u32 1,.int .i32 0,.int .u32 0] ++ qh1.map (Value.int .u8) ++ ql2.map (Value.int .i64)]:=by kernel_rfl
theorem qvg:qh1.length = 510:=by kernel_rfl
theorem q20:ql2.length = 256:=by kernel_rfl
theorem qwZ {i:Nat} (h:i < 510):ql3 i = qh1.getD i 0:=by
 have hl:=qvg
 rw [ql3,qnL,qa,List.headD_cons,List.append_assoc,List.getElem?_append_right (by simp)]
 simp only [List.length_cons,List.length_nil,Nat.zero_add,Nat.reduceAdd,Nat.add_sub_cancel]
 rw [List.getElem?_append_left (by simpa [hl] using h),List.getElem?_map,List.getD_eq_getElem?_getD,List.getElem?_eq_getElem (by omega)]
 rfl
theorem qwW {a:Nat} (h:a < 256):qbl a = ql2.getD a 0:=by
 have hl:=qvg
 have hl2:=q20
 rw [qbl,qnL,qa,List.headD_cons,List.getElem?_append_right (by simp [hl])]
 simp only [List.length_append,List.length_map,List.length_cons,List.length_nil,hl]
 rw [show a + 513 - (0 + 1 + 1 + 1 + 510) = a by omega,List.getElem?_map,List.getD_eq_getElem?_getD,List.getElem?_eq_getElem (by omega)]
 rfl
theorem qks:∀ a:Fin 256,0 <= ql2.getD a.val 0/\ql2.getD a.val 0 < 255:=by decide +kernel
theorem qfv:∀ i:Fin 510,1 <= qh1.getD i.val 0/\qh1.getD i.val 0 < 256:=by decide +kernel
theorem qc1 {a:Int} (h0:0 <= a) (h1:a < 256):0 <= qbl a.toNat/\qbl a.toNat < 255:=by
 rw [qwW (by omega)]; exact qks ⟨a.toNat,by omega⟩
theorem qj8 {i:Nat} (h:i < 510):1 <= ql3 i/\ql3 i < 256:=by
 rw [qwZ h]; exact qfv ⟨i,h⟩
end Go.Proofs

set_option linter.unusedSimpArgs false
set_option linter.unusedVariables false
namespace Go.Proofs
open Go Go.Eng

theorem wrap64 {x:Int} (h1:-9223372036854775808 <= x) (h2:x < 9223372036854775808):IntKind.i64.wrap x = x:=by
 simp [IntKind.wrap,IntKind.bits,IntKind.signed]; omega
theorem add64 {x y:Int} (h1:-9223372036854775808 <= x + y) (h2:x + y < 9223372036854775808):qc .add .i64 x y = x + y:=wrap64 h1 h2
theorem qeO {x y:Int} (h1:-9223372036854775808 <= x - y) (h2:x - y < 9223372036854775808):qc .sub .i64 x y = x - y:=wrap64 h1 h2
theorem qc0 {x y:Int} (h1:-9223372036854775808 <= x * y) (h2:x * y < 9223372036854775808):qc .mul .i64 x y = x * y:=wrap64 h1 h2
theorem qaj {x y a b:Int} (h0:0 <= x) (h1:x <= a) (h2:0 <= y) (h3:y <= b):0 <= x * y/\x * y <= a * b :=
 ⟨Int.mul_nonneg h0 h2,Int.mul_le_mul h1 h3 h2 (by omega)⟩
theorem q7S {x:Int}:0 <= IntKind.u8.wrap x/\IntKind.u8.wrap x < 256:=by simp [IntKind.wrap,IntKind.bits,IntKind.signed]; omega
theorem qgW {x y:Int}:0 <= qhs x y/\qhs x y < 256:=q7S
theorem qxC:∀ x:Fin 256,qhs (x.val:Int) 0 = x.val:=by decide +kernel
theorem q2k {x:Int} (h0:0 <= x) (h1:x < 256):qhs x 0 = x:=by
 have:=qxC ⟨x.toNat,by omega⟩
 simp only [Int.toNat_of_nonneg h0] at this
 exact this
theorem q0J {x:Int}:qcZ 0 x = 0:=by simp [qcZ]
theorem qzi {a b:Int} (a0:0 <= a) (a1:a < 256) (b0:0 <= b) (b1:b < 256):0 <= qcZ a b/\qcZ a b < 256:=by
 unfold qcZ
 split
 ·omega
 ·obtain ⟨l0,l1⟩:=qc1 a0 a1
  obtain ⟨m0,m1⟩:=qc1 b0 b1
  have:=qj8 (i:=(qbl a.toNat + qbl b.toNat).toNat) (by omega)
  omega
theorem qcy {a:Int} (a0:0 <= a) (a1:a < 256):0 <= qfE a/\qfE a < 256:=by
 unfold qfE
 split
 ·omega
 ·obtain ⟨l0,l1⟩:=qc1 a0 a1
  have:=qj8 (i:=(255 - qbl a.toNat).toNat) (by omega)
  omega
theorem bI_len {d:qd}:(bI d).length = d.length:=by simp [bI]
theorem qgC {d:qd} {i:Int} (h0:0 <= i) (h1:i < d.length):(bI d)[i.toNat]? = some (qg d i 0):=by
 have hl:i.toNat < d.length:=by omega
 simp [bI,qg,qJ,qbD,List.getElem?_eq_getElem hl]
theorem qdk {d:qd} (h:q9 d) {i:Int} (h0:0 <= i) (h1:i < d.length):0 <= qg d i 0/\qg d i 0 < 256:=by
 have hl:i.toNat < d.length:=by omega
 have:=h _ (List.getElem_mem hl)
 simpa [qg,qJ,qbD,List.getElem?_eq_getElem hl] using this
theorem allB_list {d:qd} (h:q9 d):∀ x ∈ bI d,0 <= x/\x < 256:=fun x hx=>by
 obtain ⟨r,hr,rfl⟩:=List.mem_map.1 hx
 exact h r hr
theorem qeR {d:qd} {e:Int} {c:Nat} {vs:List Value}:(qaF d e c vs).length = d.length:=by simp [qaF]
theorem qvh {row:List Value} {k:IntKind} {z:Int}:qbD (qa2 row 0 [.int k z]) 0 = z:=by simp [qbD,qa2,qaf]
theorem qk6 {d:qd} {e:Int} {k:IntKind} {z:Int}:bI (qaF d e 0 [.int k z]) = (bI d).set e.toNat z:=by
 simp only [bI,qaF,List.map_set,qvh]
theorem qj7 {d:qd} {e:Int} {k:IntKind} {z:Int} (h:q9 d) (h0:0 <= z) (h1:z < 256):q9 (qaF d e 0 [.int k z]):=fun row hr=>by
 unfold qaF at hr
 rcases List.mem_or_eq_of_mem_set hr with hr | rfl
 ·exact h row hr
 ·rw [qvh]; exact ⟨h0,h1⟩
theorem qhA {n:Nat}:q9 (List.replicate n [.int .u8 0]):=fun row hr=>by
 rw [List.eq_of_mem_replicate hr]; simp [qbD,qaf]
theorem qkR {n:Nat}:bI (List.replicate n [.int .u8 0]) = List.replicate n 0:=by simp [bI,qbD,qaf]
theorem qfh {l:List Int} {o n j:Nat}:(seg l o n)[j]? = if j < n then l[o + j]? else none:=by
 simp only [seg,List.getElem?_take,List.getElem?_drop]
theorem qfk {l:List Int} {o n:Nat} (h:o + n <= l.length):(seg l o n).length = n:=by simp [seg]; omega
theorem qcu {l s:List Int} {off:Nat} {c:Int}:(qab l off s c).length = l.length:=by simp [qab]
theorem qb6 {l s:List Int} {off:Nat} {c:Int} {j:Nat}:(qab l off s c)[j]? = (l[j]?).map fun x=>if off <= j/\j < off + s.length then qhs x (qcZ c (s.getD (j - off) 0)) else x:=by
 simp [qab]
theorem qoY {l:List Int} {off:Nat} {c:Int}:qab l off [] c = l:=by
 apply List.ext_getElem?
 intro j
 rw [qb6]
 cases l[j]? with
 | none=>rfl
 | some x=>simp only [Option.map_some,List.length_nil]; rw [if_neg (by omega)]
theorem qmA {l s:List Int} {off:Nat} (h:∀ x ∈ l,0 <= x/\x < 256):qab l off s 0 = l:=by
 apply List.ext_getElem?
 intro j
 rw [qb6]
 cases hj:l[j]? with
 | none=>rfl
 | some x =>
  have:=h x (List.mem_of_getElem? hj)
  simp only [Option.map_some,q0J,q2k this.1 this.2,ite_self]
theorem qmE {l s:List Int} {off o i:Nat} {c x y:Int} (hx:l[off + i]? = some x) (hy:s[o + i]? = some y) :
  qab l off (seg s o (i + 1)) c = (qab l off (seg s o i) c).set (off + i) (qhs x (qcZ c y)):=by
 have hs:o + i < s.length:=(List.getElem?_eq_some_iff.1 hy).1
 have hl:off + i < l.length:=(List.getElem?_eq_some_iff.1 hx).1
 apply List.ext_getElem?
 intro j
 rw [List.getElem?_set,qb6,qb6,qfk (by omega),qfk (by omega),qcu]
 by_cases hj:off + i = j
 ·subst hj
  rw [if_pos rfl,if_pos hl,hx,Option.map_some,if_pos (by omega)]
  rw [show off + i - off = i by omega,List.getD_eq_getElem?_getD,qfh,if_pos (by omega),hy]; rfl
 ·rw [if_neg hj]
  cases hlj:l[j]? with
  | none=>rfl
  | some z =>
   simp only [Option.map_some,Option.some.injEq]
   by_cases hin:off <= j/\j < off + i
   ·rw [if_pos (by omega),if_pos hin,List.getD_eq_getElem?_getD,List.getD_eq_getElem?_getD,qfh,qfh,if_pos (by omega),if_pos (by omega)]
   ·rw [if_neg (by omega),if_neg hin]
theorem qkk {l s:List Int} {off:Nat} {c:Int} {j:Nat} (h:j < off∨off + s.length <= j):(qab l off s c)[j]? = l[j]?:=by
 rw [qb6]
 cases l[j]? with
 | none=>rfl
 | some x=>rw [Option.map_some,if_neg (by omega)]
theorem qjY {l:List Int} {off n:Nat} {c:Int}:(qaV l off n c).length = l.length:=by simp [qaV]
theorem qed {l:List Int} {off n:Nat} {c:Int} {j:Nat}:(qaV l off n c)[j]? = (l[j]?).map fun x=>if off <= j/\j < off + n then qcZ x c else x:=by
 simp [qaV]
theorem qwo {l:List Int} {off:Nat} {c:Int}:qaV l off 0 c = l:=by
 apply List.ext_getElem?
 intro j
 rw [qed]
 cases l[j]? with
 | none=>rfl
 | some x=>rw [Option.map_some,if_neg (by omega)]
theorem qwi {l:List Int} {off i:Nat} {c x:Int} (hx:l[off + i]? = some x):qaV l off (i + 1) c = (qaV l off i c).set (off + i) (qcZ x c):=by
 have hl:off + i < l.length:=(List.getElem?_eq_some_iff.1 hx).1
 apply List.ext_getElem?
 intro j
 rw [List.getElem?_set,qed,qed,qjY]
 by_cases hj:off + i = j
 ·subst hj
  rw [if_pos rfl,if_pos hl,hx,Option.map_some,if_pos (by omega)]
 ·rw [if_neg hj]
  cases hlj:l[j]? with
  | none=>rfl
  | some z =>
   simp only [Option.map_some,Option.some.injEq]
   by_cases hin:off <= j/\j < off + i
   ·rw [if_pos (by omega),if_pos hin]
   ·rw [if_neg (by omega),if_neg hin]
theorem qzN {l:List Int} {off n:Nat} {c:Int} {j:Nat} (h:j < off∨off + n <= j):(qaV l off n c)[j]? = l[j]?:=by
 rw [qed]
 cases l[j]? with
 | none=>rfl
 | some x=>rw [Option.map_some,if_neg (by omega)]
theorem qbR {d:qd} (h:qv d):¬ d = []/\0 < d.length:=by
 have:d.length = 1:=by
  rcases h with h | h
  ·rw [h]; rfl
  ·rw [h,qnL]; rfl
 exact ⟨fun h=>(by rw [h] at this; cases this),by omega⟩
end Go.Proofs

set_option linter.unusedSimpArgs false
set_option linter.unusedVariables false
namespace Go.Eng
open Go
theorem qe5 {d:List (List Value)} {n i:Nat} {v:Value} (h:qal d n):qal (qau d i v) n:=by
 obtain ⟨row,rfl,hl⟩:=h
 exact ⟨row.set i v,rfl,by simp [hl]⟩
theorem qeo {d:List (List Value)} {n i:Nat} {k:IntKind} {z:Int} (h:qal d n) (hi:i < n):qa (qau d i (.int k z)) i = z:=by
 obtain ⟨row,rfl,hl⟩:=h
 simp [qa,qau,hl,hi,qaf]
theorem qaQ {d:List (List Value)} {i j:Nat} {v:Value} (h:j ≠ i):qa (qau d i v) j = qa d j:=by
 cases d with
 | nil=>rfl
 | cons row rest=>simp [qa,qau,List.getElem?_set,Ne.symm h]
theorem qZ {d:List (List Value)} {n:Nat} (h:qal d n):d.length = 1:=by obtain ⟨row,rfl,_⟩:=h; rfl
theorem qef {d:List (List Value)} {c:Nat}:qg d 0 c = qa d c:=by cases d <;> simp [qg,qJ,qa]
theorem qdb {d:List (List Value)} {n:Nat}:(qf d n).length = n:=by simp [qf]
theorem qpd {d e:List (List Value)} {n:Nat} (h:∀ j,j < n->qa d j = qa e j):qf d n = qf e n:=List.map_congr_left fun j hj=>h j (List.mem_range.1 hj)
theorem q8k {x:Int}:qc .shl .u32 x 24 = ofW (toW x <<< 24):=qsx (n:=24) (by decide)
theorem q7V {x:Int}:qc .shl .u32 x 16 = ofW (toW x <<< 16):=qsx (n:=16) (by decide)
theorem q8r {x:Int}:qc .shl .u32 x 8 = ofW (toW x <<< 8):=qsx (n:=8) (by decide)
theorem q2z {a b c d:Int}:qc .or .u32 (qc .or .u32 (qc .or .u32 (qc .shl .u32 (IntKind.u32.wrap a) 24) (qc .shl .u32 (IntKind.u32.wrap b) 16)) (qc .shl .u32 (IntKind.u32.wrap c) 8)) (IntKind.u32.wrap d) = ofW (qtE a b c d):=by
 simp only [qot,q8k,q7V,q8r,q21,qfc,qtE]
theorem q8t {x:Int} (h:isW x):qc .shr .u32 x 3 = ofW (toW x >>> 3):=qxw (n:=3) h (by decide)
theorem q7Y {x:Int} (h:isW x):qc .shr .u32 x 10 = ofW (toW x >>> 10):=qxw (n:=10) h (by decide)
theorem q4H:∀ n:Fin 31,qc .and .u64 (IntKind.u64.wrap (-((n.val:Int) + 1))) 31 = 31 - (n.val:Int):=by decide +kernel
theorem q4Y:∀ n:Fin 31,qc .sub .u64 32 (31 - (n.val:Int)) = (n.val:Int) + 1:=by decide +kernel
theorem q50 {x:Int} {n:Nat} (h:isW x) (h1:1 <= n) (h2:n <= 31):qc .or .u32 (qc .shl .u32 x (qc .and .u64 (IntKind.u64.wrap (-(n:Int))) 31)) (qc .shr .u32 x (qc .sub .u64 32 (qc .and .u64 (IntKind.u64.wrap (-(n:Int))) 31))) = ofW (qfQ (toW x) n):=by
 have e1:=q4H ⟨n - 1,by omega⟩
 have e2:=q4Y ⟨n - 1,by omega⟩
 simp only [] at e1 e2
 have e3:(((n - 1:Nat):Int) + 1) = (n:Int):=by omega
 have e4:(31 - ((n - 1:Nat):Int)) = ((32 - n:Nat):Int):=by omega
 rw [e3,e4] at e1
 rw [e4,e3] at e2
 rw [e1,e2,qsx (by omega),qxw h (by omega),q21,qfc,qfc,qfQ,BitVec.or_comm]
theorem qgV {b:List W32}:∀ {k:Nat},(qap b k).length = b.length + k
 | 0=>rfl
 | k + 1=>by rw [qap,List.length_append,qgV]; simp; omega
theorem qdc {b:List W32} {k:Nat}:∀ {n j:Nat},k <= n->j < b.length + k->(qap b n).getD j 0 = (qap b k).getD j 0
 | 0,j,h,_=>by rw [show k = 0 by omega]
 | n + 1,j,h,hj=>by
  rcases Nat.lt_or_ge n k with h1 | h1
  ·rw [show k = n + 1 by omega]
  ·rw [qap,List.getD_eq_getElem?_getD,List.getElem?_append_left (by rw [qgV]; omega),<- List.getD_eq_getElem?_getD]
   exact qdc h1 hj
theorem qyT {b:List W32} {n j:Nat} (hj:j < b.length):(qap b n).getD j 0 = b.getD j 0:=qdc (k:=0) (Nat.zero_le _) (by omega)
theorem qw5 {b:List W32} (hb:b.length = 16) {n k:Nat} (hk:k < n):(qap b n).getD (16 + k) 0 = sg1 ((qap b n).getD (14 + k) 0) + (qap b n).getD (9 + k) 0 + sg0 ((qap b n).getD (1 + k) 0) + (qap b n).getD k 0:=by
 rw [qdc (k:=k + 1) (by omega) (by omega),qdc (k:=k) (j:=14 + k) (by omega) (by omega),qdc (k:=k) (j:=9 + k) (by omega) (by omega),qdc (k:=k) (j:=1 + k) (by omega) (by omega),qdc (k:=k) (j:=k) (by omega) (by omega)]
 rw [qap,List.getD_eq_getElem?_getD,List.getElem?_append_right (by rw [qgV]; omega),qgV,hb]
 simp
theorem qt1 {d:List (List Value)}:(qd5 d).length = 16:=by simp [qd5]
theorem q4v {d:List (List Value)} {t:Nat} (h:t < 16):(qd5 d).getD t 0 = qtE (qa d (8 + 4 * t)) (qa d (8 + (4 * t + 1))) (qa d (8 + (4 * t + 2))) (qa d (8 + (4 * t + 3))):=by
 simp [qd5,List.getD_eq_getElem?_getD,h]
theorem qpz {d:List (List Value)} {l:List W32} {t:Nat} {w:Int} (h:qhF d l t) (ht:t < 64) (hw:w = ofW (l.getD t 0)):qhF (qau d t (.int .u32 w)) l (t + 1):=by
 refine ⟨qe5 h.1,fun j hj=>?_⟩
 by_cases e:j = t
 ·rw [e,qeo h.1 ht,hw]
 ·rw [qaQ e,h.2 j (by omega)]
theorem qeg {d:List (List Value)} {l:List W32} {n j:Nat} (h:qhF d l n) (hj:j < n):isW (qa d j):=by rw [h.2 j hj]; exact qmj
theorem qhD {d:List (List Value)} {l:List W32} {n j:Nat} (h:qhF d l n) (hj:j < n):toW (qa d j) = l.getD j 0:=by rw [h.2 j hj,qfc]
theorem q8m {f:Nat->Int} {j:Nat} (hj:j < 8):qa [[.int .u32 (f 0),.int .u32 (f 1),.int .u32 (f 2),.int .u32 (f 3),.int .u32 (f 4),.int .u32 (f 5),.int .u32 (f 6),.int .u32 (f 7)]] j = f j:=by
 match j,hj with
 | 0,_=>rfl
 | 1,_=>rfl
 | 2,_=>rfl
 | 3,_=>rfl
 | 4,_=>rfl
 | 5,_=>rfl
 | 6,_=>rfl
 | 7,_=>rfl
theorem qwt {d:List (List Value)} {j:Nat} {w:Int} (h:qbK d) (hj:j < 8) (hw:isW w):qbK (qau d j (.int .u32 w)):=by
 refine ⟨qe5 h.1,fun i hi=>?_,fun i h1 h2=>?_⟩
 ·by_cases e:i = j
  ·rw [e,qeo h.1 (by omega)]; exact hw
  ·rw [qaQ e]; exact h.2.1 i hi
 ·rw [qaQ (by omega)]; exact h.2.2 i h1 h2
theorem qku:qaE.length = 64:=by decide
theorem q0r {j:Nat} (hj:j < 64):qa [qaE.map (Value.int .u32)] j = qaE.getD j 0:=by
 have:=qku
 simp [qa,List.getD_eq_getElem?_getD,this,hj,qaf]
theorem qyG {j:Nat} (hj:j < 64):(qhN qaE).getD j 0 = toW (qaE.getD j 0):=by
 have:=qku
 simp [qhN,List.getD_eq_getElem?_getD,this,hj]
end Go.Eng

set_option linter.unusedSimpArgs false
set_option linter.unusedVariables false
namespace Go.Eng
open Go
def qyz:St8:=quB qyW
def wK:List W32:=qhN qaE
def qS (m:List Int):Prop:=∀ x ∈ m,0 <= x/\x < 256
def qah (d:List (List Value)) (m:List Int):Prop:=qbK d/\qS m/\qa d 72 = m.length/\stW d = qko wK qyz m (m.length / 64)/\∀ j,j < m.length % 64->qa d (8 + j) = m.getD (64 * (m.length / 64) + j) 0
def qvx (d:List (List Value)):Prop:=∃ m,qah d m/\m.length < 1152921504606846976
def qbX (d:List (List Value)) (o l:Int):List Int:=((bI d).drop o.toNat).take l.toNat
def qd7 (d:List (List Value)) (o l:Int):List Int:=(((qf d 72)).drop o.toNat).take l.toNat
def gR:Nat := 1
def gIp (r:Nat):Nat × Nat:=(2000 + gR,r)
def qbi:Ctr:={ fn := 96,nv:=0,args:=[],heap:=[],ro:=[],pre:=fun _=>True,alts:=[
 { k:=2,ret:=qfC 0,heap:=[hHp 0 1],post:=fun ρ=>qah (ρ 1).d [] }] }
def qcv:Ctr:={ fn := 97,nv:=10,ip:=[gIp 8],args:=[qfC 0,bSl 2 3 4 5],heap:=[hHp 0 1],ro:=[bHp 2 6 7,gHp 8 9],pre:=fun ρ=>qvx (ρ 1).d/\0 <= (ρ 3).i/\0 <= (ρ 4).i/\(ρ 4).i <= (ρ 5).i/\(ρ 4).i < 1152921504606846976/\(ρ 3).i + (ρ 4).i <= (ρ 6).d.length/\q9 (ρ 6).d/\gOk ρ 8 9 gR,alts:=[
 { k:=1,ret:=.tup [],heap:=[hHp 0 10],post:=fun ρ=>∀ m,qah (ρ 1).d m->qah (ρ 10).d (m ++ qbX (ρ 6).d (ρ 3).i (ρ 4).i) }] }
def qtj:Inv:={ key:=1,nv:=4,env:=[(0,qfC 0),(1,bSl 2 1000 1001 1002)],heap:=[hHp 0 1003],inv:=(fun ρ=>0 <= (ρ 1001).i/\(ρ 1001).i <= (ρ 4).i/\(ρ 1001).i <= (ρ 1002).i/\(0 < (ρ 1001).i->(ρ 1000).i = (ρ 3).i + ((ρ 4).i - (ρ 1001).i))/\∀ m,qah (ρ 1).d m->qah (ρ 1003).d (m ++ qbX (ρ 6).d (ρ 3).i ((ρ 4).i - (ρ 1001).i))),mu:=(fun ρ=>(ρ 1001).i.toNat) }
def k72:List CK:=List.replicate 72 (.int .u8)
def q4B (r d:Nat):SH:=.arr r 220 k72 (.var d) (.lit 1)
def qc5:Ctr:={ fn := 97,nv:=8,ip:=[gIp 6],args:=[qfC 0,.one (.vslice 2 (.lit 0) (.var 3) (.var 4) 1)],heap:=[hHp 0 1],ro:=[q4B 2 5,gHp 6 7],pre:=fun ρ=>qvx (ρ 1).d/\0 <= (ρ 3).i/\(ρ 3).i <= 72/\(ρ 3).i <= (ρ 4).i/\qal (ρ 5).d 72/\qS (qf (ρ 5).d 72)/\gOk ρ 6 7 gR,alts:=[
 { k:=1,ret:=.tup [],heap:=[hHp 0 8],post:=fun ρ=>∀ m,qah (ρ 1).d m->qah (ρ 8).d (m ++ qd7 (ρ 5).d 0 (ρ 3).i) }] }
def qni:Inv:={ key:=1,nv:=4,env:=[(0,qfC 0),(1,bSl 2 1000 1001 1002)],heap:=[hHp 0 1003],inv:=(fun ρ=>0 <= (ρ 1001).i/\(ρ 1001).i <= (ρ 3).i/\(ρ 1001).i <= (ρ 1002).i/\(0 < (ρ 1001).i->(ρ 1000).i = (ρ 3).i - (ρ 1001).i)/\∀ m,qah (ρ 1).d m->qah (ρ 1003).d (m ++ qd7 (ρ 5).d 0 ((ρ 3).i - (ρ 1001).i))),mu:=(fun ρ=>(ρ 1001).i.toNat) }
def dgV (n:Nat):SV:=.agg (qaY .u8 n 32)
def k32:List CK:=List.replicate 32 (.int .u8)
def q66 (r d:Nat):SH:=.arr r 24 k32 (.var d) (.lit 1)
def dgP (r:Nat):SV:=.one (.vptr r (.lit 0) 32 0)
def dgZ (r:Nat):SH:=.cells r 24 (List.replicate 32 (.vint .u8 (.lit 0)))
def qfx:Ctr:={ fn := 98,nv:=4,ip:=[gIp 2],args:=[qfC 0],heap:=[],ro:=[hHp 0 1,gHp 2 3],pre:=fun ρ=>qvx (ρ 1).d/\gOk ρ 2 3 gR,alts:=[
 { k:=1,ret:=dgV 4,heap:=[],post:=fun ρ=>∀ m,qah (ρ 1).d m->qf (ρ 4).d 32 = sha m }] }
def q2v:Inv:={ key:=9,nv:=9,env:=[(0,qfC 0),(2,dgP 1000),(3,qfC 1002),(4,.one (.vptr 1004 (.lit 0) 72 0)),(5,iv .i64 (.var 1006)),(6,iv .u64 (.var 1007)),(30,iv .i64 (.var 1008))],heap:=[dgZ 1000,hHp 1002 1003,q4B 1004 1005],inv:=(fun ρ=>0 <= (ρ 1008).i/\(ρ 1008).i <= 8/\qal (ρ 1003).d 73/\(∀ j,j < 73->qa (ρ 1003).d j = qa (ρ 1).d j)/\(ρ 1006).i = 64 - (qa (ρ 1).d 72 + 8) % 64/\(ρ 1007).i = qa (ρ 1).d 72 * 8/\qal (ρ 1005).d 72/\(∀ j,j < 72->qa (ρ 1005).d j = if j = 0 then 128 else if (ρ 1006).i.toNat <= j/\j < (ρ 1006).i.toNat + (ρ 1008).i.toNat then (beL (qa (ρ 1).d 72 * 8) 8).getD (j - (ρ 1006).i.toNat) 0 else 0)),mu:=(fun ρ=>(8 - (ρ 1008).i).toNat) }
def q4e:Inv:={ key:=16,nv:=7,env:=[(2,dgP 1000),(3,qfC 1002),(8,dgP 1004),(48,iv .i64 (.var 1006))],heap:=[dgZ 1000,hHp 1002 1003,q66 1004 1005],inv:=(fun ρ=>0 <= (ρ 1006).i/\(ρ 1006).i <= 32/\qbK (ρ 1003).d/\(∀ m,qah (ρ 1).d m->stW (ρ 1003).d = qko wK qyz (qqd m) ((qqd m).length / 64))/\qal (ρ 1005).d 32/\∀ j,j < (ρ 1006).i.toNat->qa (ρ 1005).d j = (qhE (stW (ρ 1003).d)).getD j 0),mu:=(fun ρ=>(32 - (ρ 1006).i).toNat) }
def qmf (ρ:Env):Prop:=0 <= (ρ 1).i/\0 <= (ρ 2).i/\(ρ 2).i <= (ρ 3).i/\(ρ 2).i < 1152921504606846976/\(ρ 1).i + (ρ 2).i <= (ρ 4).d.length/\q9 (ρ 4).d
def qaI:Ctr:={ fn := 59,nv:=8,ip:=[gIp 6],args:=[bSl 0 1 2 3],heap:=[],ro:=[bHp 0 4 5,gHp 6 7],pre:=fun ρ=>qmf ρ/\gOk ρ 6 7 gR,alts:=[
 { k:=1,ret:=dgV 8,heap:=[],post:=fun ρ=>qf (ρ 8).d 32 = sha (qbX (ρ 4).d (ρ 1).i (ρ 2).i) }] }
end Go.Eng

set_option linter.unusedSimpArgs false
set_option linter.unusedVariables false
namespace Go.Eng
open Go
theorem qkH {d s:List (List Value)} {n o:Nat} (h:qal d n) (ho:o + s.length <= n):qal (qar d o s) n:=by
 obtain ⟨row,rfl,hl⟩:=h
 refine ⟨_,rfl,?_⟩
 simp [qa2,hl]; omega
theorem qqo {d s:List (List Value)} {n o j:Nat} (h:qal d n) (ho:o + s.length <= n) (hj:j < s.length):qa (qar d o s) (o + j) = (bI s).getD j 0:=by
 obtain ⟨row,rfl,hl⟩:=h
 have h1:(row.take o).length = o:=by rw [List.length_take]; omega
 simp only [qar,qa,List.headD_cons,qa2]
 rw [List.append_assoc,List.getElem?_append_right (by omega),h1,show o + j - o = j by omega,List.getElem?_append_left (by simpa using hj)]
 simp [bI,List.getD_eq_getElem?_getD,hj,qbD]
 cases s[j] <;> rfl
theorem qit {d s:List (List Value)} {n o j:Nat} (h:qal d n) (ho:o + s.length <= n) (hj:j < o∨o + s.length <= j):qa (qar d o s) j = qa d j:=by
 obtain ⟨row,rfl,hl⟩:=h
 have h1:(row.take o).length = o:=by rw [List.length_take]; omega
 simp only [qar,qa,List.headD_cons,qa2]
 rcases hj with hj | hj
 ·rw [List.append_assoc,List.getElem?_append_left (by omega),List.getElem?_take_of_lt hj]
 ·rw [List.getElem?_append_right (by simp; omega)]
  simp only [List.length_append,h1,List.length_map,List.getElem?_drop]
  rw [show o + s.length + (j - (o + s.length)) = j by omega]
theorem q6U {d:List (List Value)} {n c:Nat} {v:Value} (h:qal d n) (hc:c < n):qaF d 0 c [v] = qau d c v:=by
 obtain ⟨row,rfl,hl⟩:=h
 simp only [qaF,qau,Int.toNat_zero,List.getElem?_cons_zero,Option.getD_some,List.set_cons_zero,qa2,List.length_singleton]
 congr 1
 rw [List.set_eq_take_append_cons_drop,if_pos (by omega)]
 simp
def q4S (d:List (List Value)) (m:List Int) (q k:Nat):Prop:=∀ j,j < k->qa d (8 + j) = m.getD (64 * q + j) 0
theorem qz0 {d:List (List Value)} {m:List Int} {q:Nat} (h:q4S d m q 64):qd5 d = qhl m (64 * q):=by
 unfold qd5 qhl
 refine List.map_congr_left fun t ht=>?_
 have ht:=List.mem_range.1 ht
 unfold quj
 rw [h _ (by omega),h _ (by omega),h _ (by omega),h _ (by omega)]
 simp only [Nat.add_assoc]
theorem qy8 {m s:List Int} {i:Nat} (h:i < m.length):(m ++ s).getD i 0 = m.getD i 0:=by
 rw [List.getD_eq_getElem?_getD,List.getD_eq_getElem?_getD,List.getElem?_append_left h]
theorem qzH {m s:List Int} {i:Nat} (h:m.length <= i):(m ++ s).getD i 0 = s.getD (i - m.length) 0:=by
 rw [List.getD_eq_getElem?_getD,List.getD_eq_getElem?_getD,List.getElem?_append_right h]
theorem qkU {d e:List (List Value)} (h:∀ j,j < 8->qa d j = qa e j):stW d = stW e:=by
 unfold stW; rw [qpd h]
theorem qsU {m s:List Int} (h:qS m) (h':qS s):qS (m ++ s):=fun x hx=>(List.mem_append.1 hx).elim (h x) (h' x)
structure Came (d e:List (List Value)) (s:List Int) (r:Nat):Prop where
 row:qbK e
 st:∀ j,j < 8->qa e j = qa d j
 old:∀ j,j < r->qa e (8 + j) = qa d (8 + j)
 new:∀ j,j < s.length->qa e (8 + r + j) = s.getD j 0
 size:qa e 72 = qa d 72 + s.length
theorem qtb {d e:List (List Value)} {m s:List Int} (h:qah d m) (hc:Came d e s (m.length % 64)):q4S e (m ++ s) (m.length / 64) (m.length % 64 + s.length):=fun j hj=>by
 obtain ⟨h1,h2,h3,h4,h5⟩:=h
 rcases Nat.lt_or_ge j (m.length % 64) with hr | hr
 ·rw [hc.old j hr,h5 j hr,qy8 (by omega)]
 ·have:=hc.new (j - m.length % 64) (by omega)
  rw [show 8 + m.length % 64 + (j - m.length % 64) = 8 + j by omega] at this
  rw [this,qzH (by omega)]
  congr 1; omega
theorem q1W {d e:List (List Value)} {m s:List Int} (h:qah d m) (hs:qS s) (hc:Came d e s (m.length % 64)) (hr:m.length % 64 + s.length < 64):qah e (m ++ s):=by
 have hb:=qtb h hc
 obtain ⟨h1,h2,h3,h4,h5⟩:=h
 have e1:(m ++ s).length / 64 = m.length / 64:=by rw [List.length_append]; omega
 have e2:(m ++ s).length % 64 = m.length % 64 + s.length:=by rw [List.length_append]; omega
 refine ⟨hc.row,qsU h2 hs,by rw [hc.size,h3,List.length_append]; omega,?_,?_⟩
 ·rw [e1,qkU hc.st,h4,qnx (by omega)]
 ·rw [e1,e2]; exact hb
theorem q2f {d e f:List (List Value)} {m s:List Int} (h:qah d m) (hs:qS s) (hc:Came d e s (m.length % 64)) (hr:m.length % 64 + s.length = 64) (hf:qbK f) (hst:stW f = qjo wK (stW e) (qd5 e)) (hk:qa f 72 = qa e 72):qah f (m ++ s):=by
 have hb:=qtb h hc
 rw [hr] at hb
 obtain ⟨h1,h2,h3,h4,h5⟩:=h
 have e1:(m ++ s).length / 64 = m.length / 64 + 1:=by rw [List.length_append]; omega
 have e2:(m ++ s).length % 64 = 0:=by rw [List.length_append]; omega
 refine ⟨hf,qsU h2 hs,by rw [hk,hc.size,h3,List.length_append]; omega,?_,fun j hj=>by omega⟩
 rw [e1,hst,qz0 hb,qkU hc.st,h4]
 show _ = qjo wK (qko wK qyz (m ++ s) (m.length / 64)) _
 rw [qnx (by omega)]
theorem qil {d:List (List Value)} {x:List (List Value)} {r:Nat} (h:qbK d) (hx:q9 x) (hr:r + x.length <= 64):Came d (qau (qar d (8 + r) x) 72 (.int .i64 (qa d 72 + x.length))) (bI x) r:=by
 obtain ⟨h1,h2,h3⟩:=h
 have hlen:(bI x).length = x.length:=Go.Proofs.bI_len
 have hone:=qkH (s:=x) (o:=8 + r) h1 (by omega)
 have hin:∀ j,j < x.length->qa (qau (qar d (8 + r) x) 72 (.int .i64 (qa d 72 + x.length))) (8 + r + j) = (bI x).getD j 0:=fun j hj=>by
  rw [qaQ (by omega),qqo h1 (by omega) hj]
 have hout:∀ j,j < 72->(j < 8 + r∨8 + r + x.length <= j)->qa (qau (qar d (8 + r) x) 72 (.int .i64 (qa d 72 + x.length))) j = qa d j:=fun j hj hjo=>by
  rw [qaQ (by omega),qit h1 (by omega) hjo]
 have hB:∀ j,j < x.length->0 <= (bI x).getD j 0/\(bI x).getD j 0 < 256:=fun j hj=>Go.Proofs.allB_list hx _ (by
  rw [List.getD_eq_getElem?_getD,List.getElem?_eq_getElem (by omega)]
  exact List.getElem_mem _)
 refine ⟨⟨qe5 hone,fun j hj=>by rw [hout j (by omega) (.inl (by omega))]; exact h2 j hj,fun j hj hj2=>?_⟩,fun j hj=>hout j (by omega) (.inl (by omega)),fun j hj=>hout (8 + j) (by omega) (.inl (by omega)),fun j hj=>hin j (by omega),by rw [qeo hone (by omega),hlen]⟩
 by_cases hh:j < 8 + r∨8 + r + x.length <= j
 ·rw [hout j hj2 hh]; exact h3 j hj hj2
 ·have:=hin (j - (8 + r)) (by omega)
  rw [show 8 + r + (j - (8 + r)) = j by omega] at this
  rw [this]; exact hB _ (by omega)
theorem qrE {d x:List (List Value)} {r:Nat} {n:Int} (hd:qbK d) (hr:r + x.length <= 64) (hn:n = x.length) (h0:0 <= qa d 72) (h1:qa d 72 < 4611686018427387904):qaF (qar d (8 + r) x) 0 72 [.int .i64 (qc .add .i64 (qg (qar d (8 + r) x) 0 72) n)] = qau (qar d (8 + r) x) 72 (.int .i64 (qa d 72 + x.length)):=by
 have hone:=qkH (s:=x) (o:=8 + r) hd.1 (by omega)
 rw [q6U hone (by omega),qef,qit hd.1 (by omega) (.inr (by omega)),hn,Go.Proofs.add64 (by omega) (by omega)]
theorem qz2 {L:Nat}:qc .rem .i64 (L:Int) 64 = ((L % 64:Nat):Int):=by
 show (L:Int).tmod 64 = _
 rw [Int.tmod_eq_emod_of_nonneg (by omega)]; omega
theorem qrB {d x:List (List Value)} {M:List Int} {r:Nat} (h:qah d M) (hx:q9 x) (hr0:M.length % 64 = r) (hr:r + x.length < 64):qah (qau (qar d (8 + r) x) 72 (.int .i64 (qa d 72 + x.length))) (M ++ bI x):=by
 subst hr0
 exact q1W h (Go.Proofs.allB_list hx) (qil h.1 hx (by omega)) (by rw [Go.Proofs.bI_len]; omega)
theorem qr8 {d x f:List (List Value)} {M:List Int} {r:Nat} (h:qah d M) (hx:q9 x) (hr0:M.length % 64 = r) (hr:r + x.length = 64) (hf:qbK f) (hst:stW f = qjo wK (stW (qau (qar d (8 + r) x) 72 (.int .i64 (qa d 72 + x.length)))) (qd5 (qau (qar d (8 + r) x) 72 (.int .i64 (qa d 72 + x.length))))) (hk:qa f 72 = qa (qau (qar d (8 + r) x) 72 (.int .i64 (qa d 72 + x.length))) 72):qah f (M ++ bI x):=by
 subst hr0
 exact q2f h (Go.Proofs.allB_list hx) (qil h.1 hx (by omega)) (by rw [Go.Proofs.bI_len]; omega) hf hst hk
theorem qke {d:List (List Value)} {m m':List Int} (h:qah d m) (h':qah d m'):m.length = m'.length:=by
 have h1:=h.2.2.1
 have h2:=h'.2.2.1
 omega
theorem q0D {d:List (List Value)} {o a n:Nat} (h:o + a + n <= d.length):qbX d o a ++ bI ((d.drop (o + a)).take n) = qbX d o ((a + n:Nat):Int):=by
 simp only [qbX,Int.toNat_natCast,bI,List.map_take,List.map_drop]
 rw [List.take_add,List.drop_drop]
theorem q3A {d:List (List Value)} {o a:Nat} (h:o + a <= d.length):(qbX d o a).length = a:=by
 simp only [qbX,Int.toNat_natCast,bI,List.length_take,List.length_drop,List.length_map]; omega
theorem q3b {d:List (List Value)} {o n:Nat} (h:q9 d):q9 ((d.drop o).take n):=fun row hr=>h row (List.drop_subset _ _ (List.take_subset _ _ hr))
theorem quf {d:List (List Value)} {n:Nat} (h:qal d n):qf d n = (d.headD []).map qaf:=by
 obtain ⟨row,rfl,hl⟩:=h
 refine List.ext_getElem (by simp [qf,hl]) fun i h1 h2=>?_
 simp only [qf,List.length_map,List.length_range] at h1
 simp [qf,qa,show i < row.length by omega]
theorem qyh {d:List (List Value)} {o n l:Nat} (h:n <= l):(qaW d o l).take n = qaW d o n:=by
 simp only [qaW,<- List.map_take,List.take_take,Nat.min_eq_left h]
theorem qnA {d:List (List Value)} {o n k:Nat} (h:qal d k):bI (qaW d o n) = ((qf d k).drop o).take n:=by
 rw [quf h,<- List.map_drop,<- List.map_take,bI,qaW,List.map_map]
 rfl
theorem qkJ {d:List (List Value)} {o n k:Nat} (h:qal d k) (ho:o + n <= k):(qaW d o n).length = n:=by
 obtain ⟨row,rfl,hl⟩:=h
 simp [qaW,hl]; omega
theorem qoF {d:List (List Value)} {o n k:Nat} (h:qal d k) (ha:qS (qf d k)):q9 (qaW d o n):=fun row hr=>by
 obtain ⟨v,hv,rfl⟩:=List.mem_map.1 hr
 have h1:v ∈ d.headD []:=List.drop_subset _ _ (List.take_subset _ _ hv)
 refine ha _ ?_
 rw [quf h]
 exact List.mem_map.2 ⟨v,h1,rfl⟩
theorem q1j {d:List (List Value)} {a n:Nat}:qd7 d 0 a ++ ((qf d 72).drop a).take n = qd7 d 0 ((a + n:Nat):Int):=by
 simp only [qd7,Int.toNat_natCast,Int.toNat_zero,List.drop_zero]
 rw [List.take_add]
theorem qu9 {d:List (List Value)} {a:Nat} (h:a <= 72):(qd7 d 0 a).length = a:=by
 simp [qd7,qdb]; omega
def qgF:List Value:=qyW.map (Value.int .u32) ++ (List.replicate 64 (Value.int .u8 0) ++ [Value.int .i64 0])
theorem qzv:qah [qgF] []:=by
 refine ⟨⟨⟨_,rfl,by decide⟩,fun j hj=>?_,fun j h1 h2=>?_⟩,fun x hx=>absurd hx (by simp),by decide,by decide,fun j hj=>absurd hj (by simp)⟩
 ·exact (by decide:∀ j:Fin 8,0 <= qa [qgF] j.val/\qa [qgF] j.val < 4294967296) ⟨j,hj⟩
 ·exact (by decide:∀ j:Fin 72,8 <= j.val->0 <= qa [qgF] j.val/\qa [qgF] j.val < 256) ⟨j,h2⟩ h1
theorem qiM {d e:List (List Value)} {m:List Int} (h:qah d m) (h1:qal e 73) (h2:∀ j,j < 73->qa e j = qa d j):qah e m:=by
 obtain ⟨⟨a1,a2,a3⟩,b,c,d',f⟩:=h
 refine ⟨⟨h1,fun j hj=>by rw [h2 j (by omega)]; exact a2 j hj,fun j hj hj2=>by rw [h2 j (by omega)]; exact a3 j hj hj2⟩,b,by rw [h2 72 (by omega)]; exact c,by rw [qkU (e:=d) (fun j hj=>h2 j (by omega))]; exact d',fun j hj=>by rw [h2 _ (by omega)]; exact f j hj⟩
def qia (f:Nat->Int):List Value:=(List.range 73).map fun j=>.int (if j < 8 then .u32 else if j < 72 then .u8 else .i64) (f j)
theorem qsh {f:Nat->Int} {j:Nat} (h:j < 73):qa [qia f] j = f j:=by
 simp [qa,qia,h,qaf]
theorem qsr {f:Nat->Int}:qal [qia f] 73:=⟨_,rfl,by simp [qia]⟩
theorem q6t {d:List (List Value)} {n:Nat} {v:Int} (h1:1 <= n) (h2:n <= 64) (hd:qal d 72) (hc:∀ j,j < 72->qa d j = if j = 0 then 128 else if n <= j/\j < n + 8 then (beL v 8)[j - n]?.getD 0 else 0):qd7 d 0 ((n + 8:Nat):Int) = 128 :: (List.replicate (n - 1) 0 ++ beL v 8):=by
 have hl:(qd7 d 0 ((n + 8:Nat):Int)).length = n + 8:=qu9 (by omega)
 refine List.ext_getElem (by rw [hl]; simp [qa9]; omega) fun i i1 i2=>?_
 rw [hl] at i1
 have e1:(qd7 d 0 ((n + 8:Nat):Int))[i] = qa d i:=by
  simp [qd7,qf]
 rw [e1,hc i (by omega)]
 by_cases e:i = 0
 ·subst e; simp
 ·rw [if_neg e,List.getElem_cons,dif_neg e]
  by_cases hn:n <= i
  ·rw [if_pos ⟨hn,by omega⟩,List.getElem_append_right (by simp; omega)]
   have:i - 1 - (List.replicate (n - 1) (0:Int)).length = i - n:=by simp; omega
   simp only [this]
   rw [List.getElem?_eq_getElem (by rw [qa9]; omega)]; rfl
  ·rw [if_neg (by omega),List.getElem_append_left (by simp; omega),List.getElem_replicate]
theorem qxo {v:Int} {n j:Nat} (h:j < n):(beL v n)[j]?.getD 0 = (v.fdiv (2 ^ (8 * (n - 1 - j)))) % 256:=by
 simp [beL,h]
theorem qiw {x:Int}:IntKind.u8.wrap x = x % 256:=by
 simp [IntKind.wrap,IntKind.bits,IntKind.signed]
theorem q6v {d:List (List Value)} (h:qbK d) {k:Nat} (hk:k < 8):(stL (stW d)).getD k 0 = qa d k:=by
 have h8:stL (stW d) = [ofW (toW (qa d 0)),ofW (toW (qa d 1)),ofW (toW (qa d 2)),ofW (toW (qa d 3)),ofW (toW (qa d 4)),ofW (toW (qa d 5)),ofW (toW (qa d 6)),ofW (toW (qa d 7))]:=rfl
 rw [h8,qer (h.2.1 0 (by omega)),qer (h.2.1 1 (by omega)),qer (h.2.1 2 (by omega)),qer (h.2.1 3 (by omega)),qer (h.2.1 4 (by omega)),qer (h.2.1 5 (by omega)),qer (h.2.1 6 (by omega)),qer (h.2.1 7 (by omega))]
 match k,hk with
 | 0,_=>rfl
 | 1,_=>rfl
 | 2,_=>rfl
 | 3,_=>rfl
 | 4,_=>rfl
 | 5,_=>rfl
 | 6,_=>rfl
 | 7,_=>rfl
theorem qyo {d:List (List Value)} (h:qbK d) {t:Nat} (ht:t < 32):(qhE (stW d))[t]?.getD 0 = ((qa d (t / 4)).fdiv (2 ^ (24 - 8 * (t % 4)))) % 256:=by
 rw [<- q6v h (by omega)]
 simp [qhE,ht]
theorem qwG {x:Int} {n:Nat} (hn:n <= 64):qc .shr .u64 x (n:Int) = x.fdiv (2 ^ n):=by
 show x.fdiv (2 ^ (min (n:Int).toNat 64)) = _
 rw [Int.toNat_natCast,Nat.min_eq_left hn]
theorem q5I {x:Int} {n:Nat} (hn:n <= 32):qc .shr .u32 x (n:Int) = x.fdiv (2 ^ n):=by
 show x.fdiv (2 ^ (min (n:Int).toNat 32)) = _
 rw [Int.toNat_natCast,Nat.min_eq_left hn]
theorem q5b {d:List (List Value)} {n:Nat} {l:List Int} (hl:l.length = n) (h:∀ j,j < n->qa d j = l[j]?.getD 0):qf d n = l:=by
 refine List.ext_getElem (by rw [qdb,hl]) fun i h1 h2=>?_
 rw [qdb] at h1
 have:=h i h1
 rw [List.getElem?_eq_getElem h2] at this
 simpa [qf] using this
def qei (f:Nat->Int):List Value:=(List.range 32).map fun j=>.int .u8 (f j)
theorem qmw {f:Nat->Int} {j:Nat} (h:j < 32):qa [qei f] j = f j:=by
 simp [qa,qei,h,qaf]
theorem q3r {d:List (List Value)} {n:Nat} {x:Int} (h:x ∈ qf d n):∃ j,j < n/\qa d j = x:=by
 obtain ⟨j,hj,e⟩:=List.mem_map.1 h
 exact ⟨j,List.mem_range.1 hj,e⟩
theorem q81 {t:Nat} (h:t < 32):qc .quo .i64 (t:Int) 4 = ((t / 4:Nat):Int):=by
 show IntKind.i64.wrap ((t:Int).tdiv 4) = _
 rw [Int.tdiv_eq_ediv_of_nonneg (by omega),Go.Proofs.wrap64 (by omega) (by omega)]; omega
theorem q8w {t:Nat}:qc .rem .i64 (t:Int) 4 = ((t % 4:Nat):Int):=by
 show (t:Int).tmod 4 = _
 rw [Int.tmod_eq_emod_of_nonneg (by omega)]; omega
end Go.Eng

set_option linter.unusedSimpArgs false
set_option linter.unusedVariables false
namespace Go.Eng
open Go
end Go.Eng

set_option linter.unusedSimpArgs false
set_option linter.unusedVariables false
set_option maxRecDepth 100000
namespace Go.Proofs
open Go Go.Eng

end Go.Proofs

set_option linter.unusedSimpArgs false
set_option linter.unusedVariables false
namespace Go.Proofs
open Go Go.Eng
end Go.Proofs

set_option linter.unusedSimpArgs false
set_option linter.unusedVariables false
namespace Go.Proofs
open Go Go.Eng
end Go.Proofs

set_option linter.unusedSimpArgs false
set_option linter.unusedVariables false
namespace Go.Eng
open Go
end Go.Eng
namespace Go.Proofs
open Go Go.Eng
end Go.Proofs

set_option linter.unusedSimpArgs false
set_option linter.unusedVariables false
namespace Go.Eng
open Go

def qci (f:Nat->Int) (len n:Nat):List Int:=(List.range len).map fun i=>if i < n then f i else 0
def qax (n m:Nat):List Int:=(List.range (n * n)).map fun t=>if t / n = t % n/\t / n < m then 1 else 0
def qmg (cols:Nat) (i:Nat):Int:=qgP (i / cols:Nat) (i % cols:Nat)
def qbm (rows cols:Nat):List Int:=qci (qmg cols) (rows * cols) (rows * cols)
def qcn (a b:List Int) (ra ca cb:Nat):Nat->List Int
 | 0=>List.replicate (ra * cb) 0
 | t + 1=>qab (qcn a b ra ca cb t) (t / ca * cb) (seg b (t % ca * cb) cb) (a.getD t 0)
def qmp (a b:List Int) (ra ca cb:Nat):List Int:=qcn a b ra ca cb (ra * ca)
def qcR (a:List Int) (ca c:Nat):Nat->Nat->Nat
 | p,0=>p
 | p,n + 1=>if a.getD (p * ca + c) 0 = 0 then qcR a ca c (p + 1) n else p
def qa0 (ca cb rank c:Nat) (a b:List Int):Nat->List Int × List Int
 | 0=>(a,b)
 | i + 1 =>
  let s:=qa0 ca cb rank c a b i
  if i = rank then s else
   (qab s.1 (i * ca) (seg s.1 (rank * ca) ca) (s.1.getD (i * ca + c) 0),qab s.2 (i * cb) (seg s.2 (rank * cb) cb) (s.1.getD (i * ca + c) 0))
def qb4 (ca cb rank p:Nat) (a b:List Int):List Int × List Int :=
 if p = rank then (a,b) else (qab a (rank * ca) (seg a (p * ca) ca) 1,qab b (rank * cb) (seg b (p * cb) cb) 1)
def qgJ (ca cb rank c:Nat) (a b:List Int):List Int × List Int :=
 (qaV a (rank * ca) ca (qfE (a.getD (rank * ca + c) 0)),qaV b (rank * cb) cb (qfE (a.getD (rank * ca + c) 0)))
def qfN (rows ca cb c:Nat) (s:List Int × List Int × Nat):List Int × List Int :=
 let s1:=qb4 ca cb s.2.2 (qcR s.1 ca c s.2.2 (rows - s.2.2)) s.1 s.2.1
 qgJ ca cb s.2.2 c s1.1 s1.2
def qcC (rows ca cb c:Nat) (s:List Int × List Int × Nat):List Int × List Int × Nat :=
 if rows <= s.2.2 then s else
  if qcR s.1 ca c s.2.2 (rows - s.2.2) = rows then s else
   let s3:=qa0 ca cb s.2.2 c (qfN rows ca cb c s).1 (qfN rows ca cb c s).2 rows
   (s3.1,s3.2,s.2.2 + 1)
def qbP (rows ca cb:Nat) (a b:List Int):Nat->List Int × List Int × Nat
 | 0=>(a,b,0)
 | c + 1=>qcC rows ca cb c (qbP rows ca cb a b c)

def qtD (a b:T) (r l c:Nat):Bool × List T:=(true,[.vint .i64 a,.vint .i64 b,.vslice r (.lit 0) (.var l) (.var c) 1])
def qqu:Bool × List T:=(true,[.vint .i64 (.lit 0),.vint .i64 (.lit 0),.vnils])
def qcD (t:T):Bool × List T:=(false,[.vint .i64 t])
def qcW:Ctr:={ fn := 166,nv:=1,args:=[iv .i64 (.var 0)],heap:=[],ro:=[],pre:=fun _=>True,alts:=[
 { k:=0,ret:=.tup [qqu,qcD (.lit 2)],heap:=[],post:=fun ρ=>(ρ 0).i < 1∨255 < (ρ 0).i },
 { k:=4,ret:=.tup [qtD (.var 0) (.var 0) 1 2 3,qcD (.lit 0)],heap:=[bHp 1 4 3],post:=fun ρ=>1 <= (ρ 0).i/\(ρ 0).i <= 255/\qeN (ρ 0).i (ρ 0).i (ρ 2).i (ρ 3).i (ρ 4).d/\(ρ 2).i = (ρ 4).d.length/\bI (ρ 4).d = qax (ρ 0).i.toNat (ρ 0).i.toNat }] }
def qnv:Inv:={ key:=5,nv:=7,env:=[(0,iv .i64 (.var 0)),(2,.one (.vptr 1006 (.lit 0) 3 0)),(4,.one (.vptr 1005 (.lit 0) 3 0)),(16,iv .i64 (.var 0)),(17,iv .i64 (.var 1000))],heap:=[.cells 1005 200 [.vint .i64 (.var 0),.vint .i64 (.var 0),.vslice 1001 (.lit 0) (.var 1002) (.var 1003) 1],.cells 1006 200 [.vint .i64 (.lit 0),.vint .i64 (.lit 0),.vnils],bHp 1001 1004 1003],inv:=(fun ρ=>1 <= (ρ 0).i/\(ρ 0).i <= 255/\0 <= (ρ 1000).i/\(ρ 1000).i <= (ρ 0).i/\qeN (ρ 0).i (ρ 0).i (ρ 1002).i (ρ 1003).i (ρ 1004).d/\(ρ 1002).i = (ρ 1004).d.length/\bI (ρ 1004).d = qax (ρ 0).i.toNat (ρ 1000).i.toNat),mu:=(fun ρ=>((ρ 0).i - (ρ 1000).i).toNat) }
def qct (r c:Int):Prop:=r < 1∨255 < r∨c < 1∨255 < c
def qcw:Ctr:={ fn := 150,nv:=4,args:=[qby,iv .i64 (.var 2),iv .i64 (.var 3)],heap:=[fHp 1],ro:=[],pre:=fun ρ=>qv (ρ 1).d,alts:=[
 { k:=1,ret:=.tup [qqu,qcD (.lit 2)],heap:=[fHp 4],post:=fun ρ=>qv (ρ 4).d/\qct (ρ 2).i (ρ 3).i },
 { k:=5,ret:=.tup [qtD (.var 2) (.var 3) 4 5 6,qcD (.lit 0)],heap:=[fHp 7,bHp 4 8 6],post:=fun ρ=>qv (ρ 7).d/\¬ qct (ρ 2).i (ρ 3).i/\qeN (ρ 2).i (ρ 3).i (ρ 5).i (ρ 6).i (ρ 8).d/\(ρ 5).i = (ρ 8).d.length/\bI (ρ 8).d = qbm (ρ 2).i.toNat (ρ 3).i.toNat }] }
def q1B:List SH:=[fHp 1006,.cells 1007 200 [.vint .i64 (.lit 0),.vint .i64 (.lit 0),.vnils],.cells 1005 200 [.vint .i64 (.var 2),.vint .i64 (.var 3),.vslice 1001 (.lit 0) (.var 1002) (.var 1003) 1],bHp 1001 1004 1003]
def qqT (ρ:Env) (n:Int):Prop:=¬ qct (ρ 2).i (ρ 3).i/\qv (ρ 1006).d/\qeN (ρ 2).i (ρ 3).i (ρ 1002).i (ρ 1003).i (ρ 1004).d/\(ρ 1002).i = (ρ 1004).d.length/\bI (ρ 1004).d = qci (qmg (ρ 3).i.toNat) ((ρ 2).i.toNat * (ρ 3).i.toNat) n.toNat
def qkW:Inv:={ key:=7,nv:=8,env:=[(0,qby),(1,iv .i64 (.var 2)),(2,iv .i64 (.var 3)),(6,.one (.vptr 1007 (.lit 0) 3 0)),(8,.one (.vptr 1005 (.lit 0) 3 0)),(32,iv .i64 (.var 2)),(33,iv .i64 (.var 1000))],heap:=q1B,inv:=(fun ρ=>0 <= (ρ 1000).i/\(ρ 1000).i <= (ρ 2).i/\qqT ρ ((ρ 1000).i * (ρ 3).i)),mu:=(fun ρ=>((ρ 2).i - (ρ 1000).i).toNat) }
def qle:Inv:={ key:=10,nv:=9,env:=[(0,qby),(1,iv .i64 (.var 2)),(2,iv .i64 (.var 3)),(6,.one (.vptr 1007 (.lit 0) 3 0)),(8,.one (.vptr 1005 (.lit 0) 3 0)),(32,iv .i64 (.var 2)),(33,iv .i64 (.var 1000)),(9,iv .i64 (.var 1000)),(36,iv .i64 (.var 3)),(37,iv .i64 (.var 1008))],heap:=q1B,inv:=(fun ρ=>0 <= (ρ 1000).i/\(ρ 1000).i < (ρ 2).i/\0 <= (ρ 1008).i/\(ρ 1008).i <= (ρ 3).i/\qqT ρ ((ρ 1000).i * (ρ 3).i + (ρ 1008).i)/\(ρ 1000).i = (ρ 10).i),mu:=(fun ρ=>((ρ 3).i - (ρ 1008).i).toNat) }
def q43:SV:=qqH 2 3 4 5 6
def q7y:SV:=qqH 9 10 11 12 13
def qbc (r c l:Int):Prop:=1 <= r/\r <= 255/\1 <= c/\c <= 255/\l = r * c
def qdv:Ctr:={ fn := 151,nv:=16,args:=[qby,q43,q7y],heap:=[fHp 1],ro:=[bHp 4 7 8,bHp 11 14 15],pre:=fun ρ=>qv (ρ 1).d/\0 <= (ρ 5).i/\(ρ 5).i <= (ρ 6).i/\(ρ 5).i <= (ρ 7).d.length/\q9 (ρ 7).d/\0 <= (ρ 12).i/\(ρ 12).i <= (ρ 13).i/\(ρ 12).i <= (ρ 14).d.length/\q9 (ρ 14).d,alts:=[
 { k:=1,ret:=.tup [qqu,qcD (.lit 2)],heap:=[fHp 16],post:=fun ρ=>qv (ρ 16).d/\¬ (qbc (ρ 2).i (ρ 3).i (ρ 5).i/\qbc (ρ 9).i (ρ 10).i (ρ 12).i) },
 { k:=1,ret:=.tup [qqu,qcD (.lit 10)],heap:=[fHp 16],post:=fun ρ=>qv (ρ 16).d/\qbc (ρ 2).i (ρ 3).i (ρ 5).i/\qbc (ρ 9).i (ρ 10).i (ρ 12).i/\(ρ 3).i ≠ (ρ 9).i },
 { k:=5,ret:=.tup [qtD (.var 2) (.var 10) 16 17 18,qcD (.lit 0)],heap:=[fHp 19,bHp 16 20 18],post:=fun ρ=>qv (ρ 19).d/\qbc (ρ 2).i (ρ 3).i (ρ 5).i/\qbc (ρ 9).i (ρ 10).i (ρ 12).i/\(ρ 3).i = (ρ 9).i/\qeN (ρ 2).i (ρ 10).i (ρ 17).i (ρ 18).i (ρ 20).d/\(ρ 17).i = (ρ 20).d.length/\bI (ρ 20).d = qmp ((bI (ρ 7).d).take (ρ 5).i.toNat) ((bI (ρ 14).d).take (ρ 12).i.toNat) (ρ 2).i.toNat (ρ 3).i.toNat (ρ 10).i.toNat }] }
def q8x (r:Nat):SH:=.cells r 200 [.vint .i64 (.lit 0),.vint .i64 (.lit 0),.vnils]
def qqb (r a b s l c:Nat):SH:=.cells r 200 [.vint .i64 (.var a),.vint .i64 (.var b),.vslice s (.lit 0) (.var l) (.var c) 1]
def q0B:List SH:=[fHp 1006,q8x 1009,qqb 1007 2 3 4 5 6,qqb 1008 9 10 11 12 13,qqb 1005 2 10 1001 1002 1003,bHp 1001 1004 1003]
def qxl:List (Nat × SV):=[(0,qby),(6,.one (.vptr 1009 (.lit 0) 3 0)),(4,.one (.vptr 1007 (.lit 0) 3 0)),(5,.one (.vptr 1008 (.lit 0) 3 0)),(8,.one (.vptr 1005 (.lit 0) 3 0)),(36,iv .i64 (.var 2)),(37,iv .i64 (.var 1000))]
def qqA (ρ:Env) (t:Int):Prop:=qbc (ρ 2).i (ρ 3).i (ρ 5).i/\qbc (ρ 9).i (ρ 10).i (ρ 12).i/\(ρ 3).i = (ρ 9).i/\qv (ρ 1006).d/\qeN (ρ 2).i (ρ 10).i (ρ 1002).i (ρ 1003).i (ρ 1004).d/\(ρ 1002).i = (ρ 1004).d.length/\bI (ρ 1004).d = qcn ((bI (ρ 7).d).take (ρ 5).i.toNat) ((bI (ρ 14).d).take (ρ 12).i.toNat) (ρ 2).i.toNat (ρ 3).i.toNat (ρ 10).i.toNat t.toNat
def qqF:Inv:={ key:=9,nv:=10,env:=qxl,heap:=q0B,inv:=(fun ρ=>0 <= (ρ 1000).i/\(ρ 1000).i <= (ρ 2).i/\qqA ρ ((ρ 1000).i * (ρ 3).i)),mu:=(fun ρ=>((ρ 2).i - (ρ 1000).i).toNat) }
def qp7:Inv:={ key:=12,nv:=14,env:=qxl ++ [(9,iv .i64 (.var 1000)),(42,bSl 4 1011 1012 1013),(43,iv .i64 (.var 1012)),(44,iv .i64 (.var 1010))],heap:=q0B,inv:=(fun ρ=>0 <= (ρ 1000).i/\(ρ 1000).i < (ρ 2).i/\0 <= (ρ 1010).i/\(ρ 1010).i <= (ρ 3).i/\(ρ 1011).i = (ρ 1000).i * (ρ 3).i/\(ρ 1012).i = (ρ 3).i/\qqA ρ ((ρ 1000).i * (ρ 3).i + (ρ 1010).i)/\(ρ 1000).i = (ρ 26).i),mu:=(fun ρ=>((ρ 3).i - (ρ 1010).i).toNat) }
end Go.Eng

set_option linter.unusedSimpArgs false
set_option linter.unusedVariables false
namespace Go.Eng
open Go
def qze:Nat := 223
def wrA:SV:=.one (.vptr 0 (.lit 0) 3 0)
def qeB (l f r n c:Nat):SH:=.cells 0 qze [.vint .i64 (.var l),.vbool (.var f),.vslice r (.lit 0) (.var n) (.var c) 1]
def wOk (lim:Int) (n c:Int) (d:List (List Value)):Prop:=0 <= lim/\lim < 9223372036854775808/\n = d.length/\n <= lim/\q9 d
def qgg (lim:Int) (f:Bool) (m:List Int) (k:Int):Bool:=f || decide (lim - m.length < k)
def qf5 (lim:Int) (f:Bool) (m s:List Int):Bool × List Int:=if qgg lim f m s.length then (true,m) else (false,m ++ s)
def qbO (l f r n c d:Nat):List SH:=[qeB l f r n c,bHp r d c]
def qck:Ctr:={ fn := 132,nv:=8,args:=[wrA,iv .i64 (.var 7)],heap:=qbO 1 2 3 4 5 6,ro:=[],pre:=fun ρ=>wOk (ρ 1).i (ρ 4).i (ρ 5).i (ρ 6).d/\0 <= (ρ 7).i/\(ρ 7).i < 1152921504606846976,alts:=[
 { k:=2,ret:=.one (.vbool (.var 8)),heap:=qbO 1 9 3 4 5 6,post:=fun ρ=>(ρ 9).b = qgg (ρ 1).i (ρ 2).b (bI (ρ 6).d) (ρ 7).i/\(ρ 8).b = !(ρ 9).b }] }
def qgj (ρ:Env) (n:Nat) (s:List Int):Prop:=wOk (ρ 1).i (ρ (n + 2)).i (ρ (n + 3)).i (ρ (n + 4)).d/\((ρ n).b,bI (ρ (n + 4)).d) = qf5 (ρ 1).i (ρ 2).b (bI (ρ 6).d) s
def qbG:Ctr:={ fn := 131,nv:=9,args:=[wrA,.one (.vint .u64 (.var 7)),iv .i64 (.var 8)],heap:=qbO 1 2 3 4 5 6,ro:=[],pre:=fun ρ=>wOk (ρ 1).i (ρ 4).i (ρ 5).i (ρ 6).d/\(ρ 4).i + 8 <= 140737488355328/\0 <= (ρ 8).i/\(ρ 8).i <= 8/\0 <= (ρ 7).i/\(ρ 7).i < 18446744073709551616,alts:=[
 { k:=5,ret:=.tup [],heap:=qbO 1 9 10 11 12 13,post:=fun ρ=>qgj ρ 9 (beL (ρ 7).i (ρ 8).i.toNat) }] }
def qqQ:Inv:={ key:=2,nv:=5,env:=[(0,wrA),(1,.one (.vint .u64 (.var 7))),(2,iv .i64 (.var 8)),(6,iv .i64 (.var 1004))],heap:=[.cells 0 qze [.vint .i64 (.var 1),.vbool (.bl false),.vslice 1000 (.lit 0) (.var 1001) (.var 1002) 1],bHp 1000 1003 1002],inv:=(fun ρ=>-1 <= (ρ 1004).i/\(ρ 1004).i < (ρ 8).i/\(ρ 1001).i = (ρ 1003).d.length/\(ρ 2).b = false/\(ρ 8).i <= (ρ 1).i - (ρ 4).i/\q9 (ρ 1003).d/\bI (ρ 1003).d = bI (ρ 6).d ++ (beL (ρ 7).i (ρ 8).i.toNat).take ((ρ 8).i - 1 - (ρ 1004).i).toNat),mu:=(fun ρ=>((ρ 1004).i + 1).toNat) }
def qoc (fn:Nat) (k:IntKind) (n:Nat):Ctr:={ fn:=fn,nv:=8,args:=[wrA,.one (.vint k (.var 7))],heap:=qbO 1 2 3 4 5 6,ro:=[],pre:=fun ρ=>wOk (ρ 1).i (ρ 4).i (ρ 5).i (ρ 6).d/\(ρ 4).i + 8 <= 140737488355328/\0 <= (ρ 7).i/\(ρ 7).i < 256 ^ n,alts:=[
 { k:=5,ret:=.tup [],heap:=qbO 1 8 9 10 11 12,post:=fun ρ=>qgj ρ 8 (beL (ρ 7).i n) }] }
def u8C:Ctr:=qoc 106 .u8 1
def qi8:Ctr:=qoc 105 .u16 2
def qb3:Ctr:={ fn := 104,nv:=1,args:=[iv .i64 (.var 0)],heap:=[],ro:=[],pre:=fun _=>True,alts:=[
 { k:=4,ret:=.one (.vptr 1 (.lit 0) 3 0),heap:=[.cells 1 qze [.vint .i64 (.var 2),.vbool (.bl false),.vnils]],post:=fun ρ=>(ρ 2).i = max 0 (ρ 0).i }] }
def qeH:Ctr:={ fn := 107,nv:=9,args:=[wrA,.one (.vslice 7 (.lit 0) (.lit 32) (.lit 32) 1)],heap:=qbO 1 2 3 4 5 6,ro:=[q66 7 8],pre:=fun ρ=>wOk (ρ 1).i (ρ 4).i (ρ 5).i (ρ 6).d/\(ρ 4).i + 32 <= 140737488355328/\qal (ρ 8).d 32/\qS (qf (ρ 8).d 32),alts:=[
 { k:=5,ret:=.tup [],heap:=qbO 1 9 10 11 12 13,post:=fun ρ=>qgj ρ 9 (qf (ρ 8).d 32) }] }
def quQ:List CK:=List.replicate 4 (.int .i64) ++ (List.replicate 32 (.int .u8) ++ [.any])
def q7W (r d:Nat):SH:=.arr r 27 quQ (.var d) (.lit 1)
def qgz:Ctr:={ fn := 107,nv:=9,args:=[wrA,.one (.vslice 7 (.lit 4) (.lit 32) (.lit 32) 1)],heap:=qbO 1 2 3 4 5 6,ro:=[q7W 7 8],pre:=fun ρ=>wOk (ρ 1).i (ρ 4).i (ρ 5).i (ρ 6).d/\(ρ 4).i + 32 <= 140737488355328/\qal (ρ 8).d 37/\qS ((qf (ρ 8).d 36).drop 4),alts:=[
 { k:=5,ret:=.tup [],heap:=qbO 1 9 10 11 12 13,post:=fun ρ=>qgj ρ 9 ((qf (ρ 8).d 36).drop 4) }] }
def qeI:Ctr:={ fn := 108,nv:=7,args:=[wrA],heap:=[],ro:=qbO 1 2 3 4 5 6,pre:=fun ρ=>wOk (ρ 1).i (ρ 4).i (ρ 5).i (ρ 6).d/\(ρ 4).i <= 140737488355328,alts:=[
 { k:=0,ret:=.tup [(false,[.vnils]),qcD (.lit 3)],heap:=[],post:=fun ρ=>(ρ 2).b = true },
 { k:=4,ret:=.tup [(false,[.vslice 7 (.lit 0) (.var 4) (.var 8) 1]),qcD (.lit 0)],heap:=[bHp 7 9 8],post:=fun ρ=>(ρ 2).b = false/\(ρ 9).d = (ρ 6).d }] }
def qbI:Ctr:={ fn := 91,nv:=5,args:=[.one (.vslice 0 (.lit 0) (.var 1) (.var 2) 1)],heap:=[],ro:=[bHp 0 3 4],pre:=fun ρ=>0 <= (ρ 1).i/\(ρ 1).i = (ρ 3).d.length/\(ρ 1).i <= 140737488355328,alts:=[
 { k:=3,ret:=.one (.vslice 5 (.lit 0) (.var 1) (.var 6) 1),heap:=[bHp 5 7 6],post:=fun ρ=>(ρ 7).d = (ρ 3).d }] }
end Go.Eng

set_option linter.unusedSimpArgs false
set_option linter.unusedVariables false
namespace Go.Eng
open Go

def qjp:Ctr:={ qcW with pre:=fun ρ=>1 <= (ρ 0).i/\(ρ 0).i <= 255,alts:=qcW.alts.drop 1 }
def qhK:Ctr:={ qcw with pre:=fun ρ=>qv (ρ 1).d/\¬ qct (ρ 2).i (ρ 3).i,alts:=qcw.alts.drop 1 }
def qjv:Ctr:={ qdO with alts:=[{ k:=3,ret:=.agg [.vint .i64 (.var 0),.vint .i64 (.var 1),.vslice 7 (.lit 0) (.var 3) (.var 8) 1],heap:=[bHp 7 9 8],post:=fun ρ=>(ρ 9).d = (ρ 5).d.take (ρ 3).i.toNat/\((ρ 9).d.length:Int) <= (ρ 8).i }] }
def qP (r c l cap:Int) (d:qd):Prop:=qeN r c l cap d/\l = d.length
def qds:Ctr:={ fn := 167,nv:=16,args:=[qby,q43,q7y],heap:=[fHp 1,bHp 4 7 8,bHp 11 14 15],ro:=[],pre:=fun ρ=>qv (ρ 1).d/\qP (ρ 2).i (ρ 3).i (ρ 5).i (ρ 6).i (ρ 7).d/\qP (ρ 9).i (ρ 10).i (ρ 12).i (ρ 13).i (ρ 14).d/\(ρ 9).i = (ρ 2).i,alts:=[
 { k:=4,ret:=iv .i64 (.var 16),heap:=[fHp 17,bHp 4 18 8,bHp 11 19 15],post:=fun ρ=>qv (ρ 17).d/\qP (ρ 2).i (ρ 3).i (ρ 5).i (ρ 6).i (ρ 18).d/\qP (ρ 9).i (ρ 10).i (ρ 12).i (ρ 13).i (ρ 19).d/\0 <= (ρ 16).i/\(ρ 16).i <= (ρ 2).i/\(bI (ρ 18).d,bI (ρ 19).d,(ρ 16).i.toNat) = qbP (ρ 2).i.toNat (ρ 3).i.toNat (ρ 10).i.toNat (bI (ρ 7).d) (bI (ρ 14).d) (ρ 3).i.toNat }] }
def qt3:List SH:=[fHp 1002,qqb 1003 2 3 4 5 6,qqb 1004 9 10 11 12 13,bHp 4 1005 8,bHp 11 1006 15]
def qqf:List (Nat × SV):=[(0,qby),(4,.one (.vptr 1003 (.lit 0) 3 0)),(5,.one (.vptr 1004 (.lit 0) 3 0)),(7,iv .i64 (.var 1000)),(8,iv .i64 (.var 1001))]
def q4X (r ca cb l1 c1 l2 c2 rank c:Int) (f da db:qd):Prop:=qv f/\qP r ca l1 c1 da/\qP r cb l2 c2 db/\0 <= rank/\rank <= r/\0 <= c/\c <= ca
def qc4 (r ca cb l1 c1 l2 c2 rank c:Int) (f da db a0 b0:qd):Prop:=q4X r ca cb l1 c1 l2 c2 rank c f da db/\(bI da,bI db,rank.toNat) = qbP r.toNat ca.toNat cb.toNat (bI a0) (bI b0) c.toNat
def qpX:Inv:={ key:=3,nv:=7,env:=qqf,heap:=qt3,inv:=(fun ρ=>qc4 (ρ 2).i (ρ 3).i (ρ 10).i (ρ 5).i (ρ 6).i (ρ 12).i (ρ 13).i (ρ 1000).i (ρ 1001).i (ρ 1002).d (ρ 1005).d (ρ 1006).d (ρ 7).d (ρ 14).d),mu:=(fun ρ=>((ρ 3).i - (ρ 1001).i).toNat) }
def qem (r ca cb l1 c1 l2 c2 rank c p:Int) (f da db a0 b0:qd):Prop:=qc4 r ca cb l1 c1 l2 c2 rank c f da db a0 b0/\rank < r/\c < ca/\rank <= p/\p <= r/\qcR (bI da) ca.toNat c.toNat p.toNat (r.toNat - p.toNat) = qcR (bI da) ca.toNat c.toNat rank.toNat (r.toNat - rank.toNat)
def qqy:Inv:={ key:=6,nv:=8,env:=qqf ++ [(9,iv .i64 (.var 1007))],heap:=qt3,inv:=(fun ρ=>qem (ρ 2).i (ρ 3).i (ρ 10).i (ρ 5).i (ρ 6).i (ρ 12).i (ρ 13).i (ρ 1000).i (ρ 1001).i (ρ 1007).i (ρ 1002).d (ρ 1005).d (ρ 1006).d (ρ 7).d (ρ 14).d/\(ρ 1001).i = (ρ 19).i),mu:=(fun ρ=>((ρ 2).i - (ρ 1007).i).toNat) }
def qcK (r ca cb l1 c1 l2 c2 rank c i:Int) (f da db a0 b0:qd):Prop :=
 q4X r ca cb l1 c1 l2 c2 rank c f da db/\rank < r/\c < ca/\0 <= i/\i <= r/\∃ s,s = qbP r.toNat ca.toNat cb.toNat (bI a0) (bI b0) c.toNat/\s.2.2 = rank.toNat /\
  qcR s.1 ca.toNat c.toNat rank.toNat (r.toNat - rank.toNat) ≠ r.toNat /\
  (bI da,bI db) = qa0 ca.toNat cb.toNat rank.toNat c.toNat (qfN r.toNat ca.toNat cb.toNat c.toNat s).1 (qfN r.toNat ca.toNat cb.toNat c.toNat s).2 i.toNat
def qpU:Inv:={ key:=16,nv:=8,env:=qqf ++ [(97,iv .i64 (.var 2)),(98,iv .i64 (.var 1007))],heap:=qt3,inv:=(fun ρ=>qcK (ρ 2).i (ρ 3).i (ρ 10).i (ρ 5).i (ρ 6).i (ρ 12).i (ρ 13).i (ρ 1000).i (ρ 1001).i (ρ 1007).i (ρ 1002).d (ρ 1005).d (ρ 1006).d (ρ 7).d (ρ 14).d/\(ρ 1001).i = (ρ 19).i),mu:=(fun ρ=>((ρ 2).i - (ρ 1007).i).toNat) }
def qex (m:List Int) (n:Nat):List Int × List Int × Nat:=qbP n n n m (qax n n) n
def qb0:Ctr:={ fn := 134,nv:=9,args:=[qby,q43],heap:=[fHp 1],ro:=[bHp 4 7 8],pre:=fun ρ=>qv (ρ 1).d/\0 <= (ρ 5).i/\(ρ 5).i <= (ρ 6).i/\(ρ 5).i <= (ρ 7).d.length/\q9 (ρ 7).d,alts:=[
 { k:=2,ret:=.tup [qqu,qcD (.var 9)],heap:=[fHp 10],post:=fun ρ=>qv (ρ 10).d/\((¬ qbc (ρ 2).i (ρ 3).i (ρ 5).i/\(ρ 9).i = 2)∨(qbc (ρ 2).i (ρ 3).i (ρ 5).i/\(ρ 2).i ≠ (ρ 3).i/\(ρ 9).i = 10)∨(qbc (ρ 2).i (ρ 3).i (ρ 5).i/\(ρ 2).i = (ρ 3).i/\(qex ((bI (ρ 7).d).take (ρ 5).i.toNat) (ρ 2).i.toNat).2.2 < (ρ 2).i.toNat/\(ρ 9).i = 11)) },
 { k:=5,ret:=.tup [qtD (.var 2) (.var 2) 9 10 11,qcD (.lit 0)],heap:=[fHp 12,bHp 9 13 11],post:=fun ρ=>qv (ρ 12).d/\qbc (ρ 2).i (ρ 3).i (ρ 5).i/\(ρ 2).i = (ρ 3).i/\qP (ρ 2).i (ρ 2).i (ρ 10).i (ρ 11).i (ρ 13).d/\(qex ((bI (ρ 7).d).take (ρ 5).i.toNat) (ρ 2).i.toNat).2.2 = (ρ 2).i.toNat/\bI (ρ 13).d = (qex ((bI (ρ 7).d).take (ρ 5).i.toNat) (ρ 2).i.toNat).2.1 }] }
def qch (k total:Nat):List Int × List Int × Nat:=qex ((qbm total k).take (k * k)) k
def qcO (k total:Nat):List Int:=qmp (qbm total k) (qch k total).2.1 total k k
def qfs:Ctr:={ fn := 122,nv:=4,args:=[qby,iv .i64 (.var 2),iv .i64 (.var 3)],heap:=[fHp 1],ro:=[],pre:=fun ρ=>qv (ρ 1).d,alts:=[
 { k:=1,ret:=.tup [qqu,qcD (.lit 2)],heap:=[fHp 4],post:=fun ρ=>qv (ρ 4).d/\(qa4 (ρ 2).i (ρ 3).i = true->(qch (ρ 2).i.toNat (ρ 3).i.toNat).2.2 < (ρ 2).i.toNat) },
 { k:=6,ret:=.tup [qtD (.var 3) (.var 2) 4 5 6,qcD (.lit 0)],heap:=[fHp 7,bHp 4 8 6,.abs 9 2],post:=fun ρ=>qv (ρ 7).d/\qa4 (ρ 2).i (ρ 3).i = true/\qP (ρ 3).i (ρ 2).i (ρ 5).i (ρ 6).i (ρ 8).d/\(qch (ρ 2).i.toNat (ρ 3).i.toNat).2.2 = (ρ 2).i.toNat/\bI (ρ 8).d = qcO (ρ 2).i.toNat (ρ 3).i.toNat }] }
end Go.Eng

set_option linter.unusedSimpArgs false
set_option linter.unusedVariables false
namespace Go.Eng
open Go

def qpc:Ctr:={ qfs with pre:=fun ρ=>qv (ρ 1).d/\qa4 (ρ 2).i (ρ 3).i = true/\(qch (ρ 2).i.toNat (ρ 3).i.toNat).2.2 = (ρ 2).i.toNat,alts:=qfs.alts.drop 1 }
def qhY (data:List Int) (n:Nat):List Int:=data ++ List.replicate (n - data.length) 0
def qD (k len:Nat):Nat:=(len + k - 1) / k
def qcg (g full:List Int) (k l i:Nat):Nat->List Int
 | 0=>List.replicate l 0
 | j + 1=>qab (qcg g full k l i j) 0 (seg full (j * l) l) (g.getD (i * k + j) 0)
def qd4 (k total:Nat) (data:List Int) (i:Nat):List Int :=
 qcg (qcO k total) (qhY data (k * qD k data.length)) k (qD k data.length) i k
def qjh:List CK:=[.int .i64,.any]
def qf4 (h:Hp) (D:qd) (n:Nat) (f:Nat->List Int):Prop:=∀ j,j < n->∃ v d,D[j]? = some [.int .i64 j,v]/\Rd h kB v d/\bI d = f j/\q9 d
def qbT:Ctr:={ fn := 87,nv:=9,args:=[qby,iv .i64 (.var 2),iv .i64 (.var 3),.one (.vslice 4 (.lit 0) (.var 5) (.var 6) 1)],heap:=[fHp 1],ro:=[bHp 4 7 8],pre:=fun ρ=>qv (ρ 1).d/\(ρ 5).i = (ρ 7).d.length/\q9 (ρ 7).d/\(qa4 (ρ 2).i (ρ 3).i = true->(qch (ρ 2).i.toNat (ρ 3).i.toNat).2.2 = (ρ 2).i.toNat),alts:=[
 { k:=2,ret:=.tup [(false,[.vnils]),qcD (.var 9)],heap:=[fHp 10],post:=fun ρ=>qv (ρ 10).d/\((qa4 (ρ 2).i (ρ 3).i = false/\(ρ 9).i = 2)∨(qa4 (ρ 2).i (ρ 3).i = true/\8192 < (ρ 5).i/\(ρ 9).i = 3)) },
 { k:=5,ret:=.tup [(false,[.vslice 9 (.lit 0) (.var 3) (.var 10) 2]),qcD (.lit 0)],heap:=[fHp 11,.arr 9 86 qjh (.var 12) (.var 10),.abs 13 2],post:=fun ρ=>qv (ρ 11).d/\qa4 (ρ 2).i (ρ 3).i = true/\(ρ 5).i <= 8192/\(ρ 12).d.length = (ρ 3).i.toNat/\qf4 (ρ 13).h (ρ 12).d (ρ 3).i.toNat (qd4 (ρ 2).i.toNat (ρ 3).i.toNat (bI (ρ 7).d)) }] }
def q4P:List SH:=[fHp 1008,qqb 1004 3 2 1009 1010 1011,bHp 1009 1012 1011,bHp 1001 1013 1003,.arr 1005 86 qjh (.var 1014) (.var 1006)]
def q01:List (Nat × SV):=[(0,qby),(10,iv .i64 (.var 1000)),(12,.one (.vslice 1001 (.lit 0) (.var 1002) (.var 1003) 1)),(13,.one (.vptr 1004 (.lit 0) 3 0)),(15,.one (.vslice 1005 (.lit 0) (.var 3) (.var 1006) 2)),(53,iv .i64 (.var 3)),(54,iv .i64 (.var 1007))]
def qn4 (k total len l lf cf lg cg i:Int) (f dg df D data:qd):Prop :=
 qv f/\qa4 k total = true/\len <= 8192/\len = data.length/\q9 data/\l = (qD k.toNat data.length:Nat)/\l <= 8192/\lf = k * l/\lf = df.length/\q9 df/\bI df = qhY (bI data) (k.toNat * l.toNat) /\
  qP total k lg cg dg/\bI dg = qcO k.toNat total.toNat/\D.length = total.toNat/\(∀ row ∈ D,row.length = 2)/\0 <= i/\i <= total
def qlu:Inv:={ key:=13,nv:=16,env:=q01,heap:=q4P ++ [.abs 1015 2],inv:=(fun ρ=>qn4 (ρ 2).i (ρ 3).i (ρ 5).i (ρ 1000).i (ρ 1002).i (ρ 1003).i (ρ 1010).i (ρ 1011).i (ρ 1007).i (ρ 1008).d (ρ 1012).d (ρ 1013).d (ρ 1014).d (ρ 7).d/\qf4 (ρ 1015).h (ρ 1014).d (ρ 1007).i.toNat (qd4 (ρ 2).i.toNat (ρ 3).i.toNat (bI (ρ 7).d))),mu:=(fun ρ=>((ρ 3).i - (ρ 1007).i).toNat) }
def qln:Inv:={ key:=17,nv:=23,env:=q01 ++ [(16,iv .i64 (.var 1007)),(17,.one (.vslice 1016 (.lit 0) (.var 1000) (.var 1017) 1)),(61,bSl 1009 1019 1020 1021),(62,iv .i64 (.var 1020)),(63,iv .i64 (.var 1022))],heap:=q4P ++ [bHp 1016 1018 1017,.abs 1015 2],inv:=(fun ρ=>qn4 (ρ 2).i (ρ 3).i (ρ 5).i (ρ 1000).i (ρ 1002).i (ρ 1003).i (ρ 1010).i (ρ 1011).i (ρ 1007).i (ρ 1008).d (ρ 1012).d (ρ 1013).d (ρ 1014).d (ρ 7).d/\qf4 (ρ 1015).h (ρ 1014).d (ρ 1007).i.toNat (qd4 (ρ 2).i.toNat (ρ 3).i.toNat (bI (ρ 7).d))/\(ρ 1007).i = (ρ 29).i/\(ρ 1007).i < (ρ 3).i/\(ρ 1019).i = (ρ 1007).i * (ρ 2).i/\(ρ 1020).i = (ρ 2).i/\0 <= (ρ 1022).i/\(ρ 1022).i <= (ρ 2).i/\(ρ 1018).d.length = (ρ 1000).i.toNat/\q9 (ρ 1018).d/\bI (ρ 1018).d = qcg (bI (ρ 1012).d) (bI (ρ 1013).d) (ρ 2).i.toNat (ρ 1000).i.toNat (ρ 1007).i.toNat (ρ 1022).i.toNat),mu:=(fun ρ=>((ρ 2).i - (ρ 1022).i).toNat) }
end Go.Eng

set_option linter.unusedSimpArgs false
set_option linter.unusedVariables false
namespace Go.Eng
open Go
def qbd (k n t:Int):Bool:=decide (1 <= k/\k <= n/\n <= t/\t <= 255)
def qF (k n t s l:Int):Bool:=qbd k n t && decide (0 <= s/\s <= 8192/\l = t)
def qbH:Ctr:={ fn := 86,nv:=3,args:=[iv .i64 (.var 0),iv .i64 (.var 1),iv .i64 (.var 2)],heap:=[],ro:=[],pre:=fun _=>True,alts:=[
 { k:=1,ret:=.one (.vbool (.var 3)),heap:=[],post:=fun ρ=>(ρ 3).b = qbd (ρ 0).i (ρ 1).i (ρ 2).i }] }
def qiJ (k n t s o r l c:Nat):List T:=[.vint .i64 (.var k),.vint .i64 (.var n),.vint .i64 (.var t),.vint .i64 (.var s)] ++ (qaY .u8 o 32 ++ [.vslice r (.lit 0) (.var l) (.var c) 32])
def qf2 (r d c:Nat):SH:=.arr r 24 k32 (.var d) (.var c)
def qnB:SV:=.agg (qiJ 0 1 2 3 4 5 6 7)
def qgM (row:List Value):List Int:=(List.range 32).map fun j=>qbD row j
def dgs (d:List (List Value)):List (List Int):=d.map qgM
def qf3 (d:List (List Value)):Prop:=∀ row ∈ d,row.length = 32/\qS (qgM row)
def qbJ:Ctr:={ fn := 74,nv:=10,args:=[qnB],heap:=[],ro:=[qf2 5 8 9],pre:=fun ρ=>0 <= (ρ 6).i,alts:=[
 { k:=1,ret:=iv .i64 (.var 10),heap:=[],post:=fun ρ=>(ρ 10).i = if qF (ρ 0).i (ρ 1).i (ρ 2).i (ρ 3).i (ρ 6).i then 0 else 2 }] }
def qbV (i:Int):List Int:=[(i.fdiv 256) % 256,i % 256]
def qbk:Ctr:={ fn := 88,nv:=9,ip:=[gIp 7],args:=[iv .i64 (.var 0),bSl 1 2 3 4],heap:=[],ro:=[bHp 1 5 6,gHp 7 8],pre:=fun ρ=>0 <= (ρ 2).i/\0 <= (ρ 3).i/\(ρ 3).i <= (ρ 4).i/\(ρ 3).i < 576460752303423488/\(ρ 2).i + (ρ 3).i <= (ρ 5).d.length/\q9 (ρ 5).d/\gOk ρ 7 8 gR,alts:=[
 { k:=1,ret:=dgV 9,heap:=[],post:=fun ρ=>qf (ρ 9).d 32 = sha (qbV (ρ 0).i ++ qbX (ρ 5).d (ρ 2).i (ρ 3).i) }] }
def qa6 (k n t s:Int) (o:List Int):List Int:=beL 19713 2 ++ (beL (k % 256) 1 ++ (beL (n % 256) 1 ++ (beL (t % 256) 1 ++ (beL (s % 65536) 2 ++ o))))
def qdz:Ctr:={ fn := 73,nv:=10,args:=[qnB],heap:=[],ro:=[qf2 5 8 9],pre:=fun ρ=>0 <= (ρ 6).i/\(ρ 6).i = (ρ 8).d.length/\qS (qf (ρ 4).d 32)/\qf3 (ρ 8).d,alts:=[
 { k:=0,ret:=.tup [(false,[.vnils]),qcD (.lit 2)],heap:=[],post:=fun ρ=>qF (ρ 0).i (ρ 1).i (ρ 2).i (ρ 3).i (ρ 6).i = false },
 { k:=4,ret:=.tup [(false,[.vslice 10 (.lit 0) (.var 11) (.var 12) 1]),qcD (.lit 0)],heap:=[bHp 10 13 12],post:=fun ρ=>qF (ρ 0).i (ρ 1).i (ρ 2).i (ρ 3).i (ρ 6).i = true/\(ρ 11).i = (ρ 13).d.length/\q9 (ρ 13).d/\bI (ρ 13).d = qa6 (ρ 0).i (ρ 1).i (ρ 2).i (ρ 3).i (qf (ρ 4).d 32) ++ (dgs (ρ 8).d).flatten }] }
def qqp:Inv:={ key:=12,nv:=8,env:=[(5,.one (.vptr 1000 (.lit 0) 3 0)),(45,.one (.vslice 5 (.lit 0) (.var 6) (.var 7) 32)),(46,iv .i64 (.var 6)),(47,iv .i64 (.var 1007))],heap:=[.cells 1000 qze [.vint .i64 (.var 1001),.vbool (.var 1002),.vslice 1003 (.lit 0) (.var 1004) (.var 1005) 1],bHp 1003 1006 1005],inv:=(fun ρ=>qF (ρ 0).i (ρ 1).i (ρ 2).i (ρ 3).i (ρ 6).i = true/\0 <= (ρ 1007).i/\(ρ 1007).i <= (ρ 6).i/\(ρ 1001).i = 39 + 32 * (ρ 2).i/\(ρ 1002).b = false/\wOk (ρ 1001).i (ρ 1004).i (ρ 1005).i (ρ 1006).d/\bI (ρ 1006).d = qa6 (ρ 0).i (ρ 1).i (ρ 2).i (ρ 3).i (qf (ρ 4).d 32) ++ ((dgs (ρ 8).d).take (ρ 1007).i.toNat).flatten),mu:=(fun ρ=>((ρ 6).i - (ρ 1007).i).toNat) }
def q8z (r:Nat):SH:=.cells r 27 (List.replicate 4 (.vint .i64 (.lit 0)) ++ (List.replicate 32 (.vint .u8 (.lit 0)) ++ [.vnils]))
def q7T:Bool × List T:=(true,List.replicate 4 (.vint .i64 (.lit 0)) ++ (List.replicate 32 (.vint .u8 (.lit 0)) ++ [.vnils]))
def qdo (f:Nat->List Int) (n:Nat):List (List Int):=(List.range n).map fun (i:Nat)=>sha (qbV i ++ f i)
def qgp:Ctr:={ fn := 43,nv:=12,ip:=[gIp 10],ow:=[1003],args:=[qby,iv .i64 (.var 2),iv .i64 (.var 3),iv .i64 (.var 4),.one (.vslice 5 (.lit 0) (.var 6) (.var 7) 1)],heap:=[fHp 1],ro:=[bHp 5 8 9,gHp 10 11],pre:=fun ρ=>qv (ρ 1).d/\(ρ 6).i = (ρ 8).d.length/\(ρ 6).i <= (ρ 7).i/\q9 (ρ 8).d/\gOk ρ 10 11 gR/\(qa4 (ρ 2).i (ρ 4).i = true->(qch (ρ 2).i.toNat (ρ 4).i.toNat).2.2 = (ρ 2).i.toNat),alts:=[
 { k:=2,ret:=.tup [q7T,(false,[.vnils]),qcD (.var 12)],heap:=[fHp 13],post:=fun ρ=>qv (ρ 13).d/\((qbd (ρ 2).i (ρ 3).i (ρ 4).i = false/\(ρ 12).i = 2)∨(qbd (ρ 2).i (ρ 3).i (ρ 4).i = true/\8192 < (ρ 6).i/\(ρ 12).i = 3)) },
 { k:=9,ret:=.tup [(true,qiJ 2 3 4 6 12 13 4 14),(false,[.vslice 15 (.lit 0) (.var 4) (.var 16) 2]),qcD (.lit 0)],heap:=[fHp 17,qf2 13 18 14,.arr 15 86 qjh (.var 19) (.var 16),.abs 20 2],post:=fun ρ=>qv (ρ 17).d/\qbd (ρ 2).i (ρ 3).i (ρ 4).i = true/\(ρ 6).i <= 8192/\(ρ 19).d.length = (ρ 4).i.toNat/\qf4 (ρ 20).h (ρ 19).d (ρ 4).i.toNat (qd4 (ρ 2).i.toNat (ρ 4).i.toNat (bI (ρ 8).d))/\qf (ρ 12).d 32 = sha (bI (ρ 8).d)/\qf3 (ρ 18).d/\dgs (ρ 18).d = qdo (qd4 (ρ 2).i.toNat (ρ 4).i.toNat (bI (ρ 8).d)) (ρ 4).i.toNat }] }
def qxL:Inv:={ key:=10,nv:=12,env:=[(0,qby),(10,.one (.vptr 1000 (.lit 0) 37 0)),(13,.one (.vslice 1001 (.lit 0) (.var 4) (.var 1009) 2)),(15,.one (.vptr 1002 (.lit 0) 37 0)),(47,.one (.vslice 1001 (.lit 0) (.var 4) (.var 1009) 2)),(48,iv .i64 (.var 4)),(49,iv .i64 (.var 1005))],heap:=[fHp 1010,q8z 1000,.cells 1002 27 (qiJ 2 3 4 6 1003 1004 1005 1006),qf2 1004 1007 1006,.arr 1001 86 qjh (.var 1008) (.var 1009),.abs 1011 2],inv:=(fun ρ=>qv (ρ 1010).d/\qbd (ρ 2).i (ρ 3).i (ρ 4).i = true/\(ρ 6).i <= 8192/\0 <= (ρ 1005).i/\(ρ 1005).i <= (ρ 4).i/\(ρ 1008).d.length = (ρ 4).i.toNat/\qf4 (ρ 1011).h (ρ 1008).d (ρ 4).i.toNat (qd4 (ρ 2).i.toNat (ρ 4).i.toNat (bI (ρ 8).d))/\qf (ρ 1003).d 32 = sha (bI (ρ 8).d)/\(ρ 1005).i = (ρ 1007).d.length/\qf3 (ρ 1007).d/\dgs (ρ 1007).d = qdo (qd4 (ρ 2).i.toNat (ρ 4).i.toNat (bI (ρ 8).d)) (ρ 1005).i.toNat),mu:=(fun ρ=>((ρ 4).i - (ρ 1005).i).toNat) }
end Go.Eng

set_option linter.unusedSimpArgs false
set_option linter.unusedVariables false
namespace Go.Eng
open Go Go.Proofs
theorem qr5 {h:Hp} {pat:List CK} {v:Value} {d d':qd} (h1:Rd h pat v d) (h2:Rd h pat v d'):d = d':=by
 rcases h1 with ⟨a,e1,rfl⟩ | ⟨b,o,cap,c,ty,fr,e1,l1,hb1,r1⟩ <;> rcases h2 with ⟨a',e2,rfl⟩ | ⟨b',o',cap',c',ty',fr',e2,l2,hb2,r2⟩
 ·rfl
 ·rw [e1] at e2
  simp only [Value.slice.injEq] at e2
  exact (List.length_eq_zero_iff.1 e2.2.1.symm).symm
 ·rw [e1] at e2
  simp only [Value.slice.injEq] at e2
  exact List.length_eq_zero_iff.1 e2.2.1
 ·rw [e1] at e2
  simp only [Value.slice.injEq,Option.some.injEq,Addr.mk.injEq] at e2
  obtain ⟨⟨rfl,rfl,_⟩,hl,rfl⟩:=e2
  rw [hb1] at hb2
  simp only [Option.some.injEq,Obj.cells.injEq] at hb2
  obtain ⟨rfl,rfl,rfl⟩:=hb2
  apply List.ext_getElem hl
  intro i i1 i2
  obtain ⟨f1,g1⟩:=r1 i _ (List.getElem?_eq_getElem i1)
  obtain ⟨f2,g2⟩:=r2 i _ (List.getElem?_eq_getElem i2)
  apply List.ext_getElem (by rw [f1.1,f2.1])
  intro k k1 k2
  have a1:=g1 k _ (List.getElem?_eq_getElem k1)
  have a2:=g2 k _ (List.getElem?_eq_getElem k2)
  rw [a1] at a2
  exact Option.some.inj a2
noncomputable def rdL (h:Hp) (v:Value):List Int:=open Classical in if hx:∃ d,Rd h kB v d then bI hx.choose else []
theorem qjs {h:Hp} {v:Value} {d:qd} (hr:Rd h kB v d):rdL h v = bI d:=by
 have hx:∃ d,Rd h kB v d:=⟨d,hr⟩
 unfold rdL
 rw [dif_pos hx,qr5 hx.choose_spec hr]
def qqU (h:Hp) (D:qd) (n:Nat):Prop:=∀ j,j < n->∃ i v d,D[j]? = some [.int .i64 i,v]/\Rd h kB v d/\q9 d
noncomputable def pcI (D:qd) (j:Nat):Int:=qg D j 0
noncomputable def pcD (h:Hp) (D:qd) (j:Nat):List Int:=rdL h (qJ D j 1)
end Go.Eng
namespace Go.Proofs
open Go Go.Eng
theorem q7Q {h:Hp} {D:qd} {n j:Nat} (hp:qqU h D n) (hj:j < n):∃ v d,D[j]? = some [.int .i64 (pcI D j),v]/\qJ D j 1 = v/\Rd h kB v d/\q9 d/\pcD h D j = bI d:=by
 obtain ⟨i,v,d,e,hr,hb⟩:=hp j hj
 have h1:qJ D (j:Int) 1 = v:=by simp [qJ,e]
 have h2:pcI D j = i:=by simp [pcI,qg,qJ,e,qaf]
 exact ⟨v,d,by rw [h2]; exact e,h1,hr,hb,by rw [pcD,h1,qjs hr]⟩
end Go.Proofs
namespace Go.Eng
open Go Go.Proofs
end Go.Eng
namespace Go.Proofs
open Go Go.Eng
end Go.Proofs

set_option linter.unusedSimpArgs false
set_option linter.unusedVariables false
namespace Go.Eng
open Go
end Go.Eng

set_option linter.unusedSimpArgs false
set_option linter.unusedVariables false
namespace Go.Eng
open Go
end Go.Eng
namespace Go.Proofs
open Go Go.Eng
theorem q5Z {x:Int}:IntKind.u64.wrap x = x % 18446744073709551616:=by
 unfold IntKind.wrap
 rfl
end Go.Proofs

set_option linter.unusedSimpArgs false
set_option linter.unusedVariables false
namespace Go.Eng
open Go
def bS (r:Nat):SV:=.one (.vslice r (.lit 0) (.var (r + 1)) (.var (r + 2)) 1)
def q8q (r:Nat):SH:=bHp r (r + 3) (r + 4)
def w3 (a b c:Int):Int:=qc .xor .u8 (qc .xor .u8 a b) c
def x3:List Int->List Int->List Int->List Int
 | a :: al,b :: bl,c :: cl=>w3 a b c :: x3 al bl cl
 | _,_,_=>[]
def qmu:Alt:={ k:=0,ret:=.one (.vbool (.bl true)),heap:=[],post:=fun _=>True }
end Go.Eng

set_option linter.unusedSimpArgs false
set_option linter.unusedVariables false
namespace Go.Eng
open Go Go.Proofs
def kI:List CK:=[.int .i64]
def iHp (r d c:Nat):SH:=.arr r 3 kI (.var d) (.var c)
def q3P (r d c:Nat):SH:=.arr r 86 qjh (.var d) (.var c)
def pcS (r l c:Nat):SV:=.one (.vslice r (.lit 0) (.var l) (.var c) 2)
def qiP (x:Int):Prop:=-9223372036854775808 <= x/\x < 9223372036854775808
end Go.Eng

set_option linter.unusedSimpArgs false
set_option linter.unusedVariables false
namespace Go.Eng
open Go Go.Proofs
end Go.Eng

set_option linter.unusedSimpArgs false
set_option linter.unusedVariables false
namespace Go.Eng
open Go Go.Proofs
def q7X (k v:Int) (b:List Int):Option (List Int):=if 1 <= k/\k <= 4 then some (beL v (2 ^ (k.toNat - 1))) else if k = 5 then some b else if k = 6 then some (beL b.length 2 ++ b) else none
def q7m (k:Int) (b:List Int):Bool:=decide (k = 6/\65535 < b.length)
def wrote (lim:Int) (f:Bool) (m:List Int) (k v:Int) (b:List Int):Bool × List Int:=match q7X k v b with
 | none=>(f,m)
 | some s=>qf5 lim (f || q7m k b) m s
end Go.Eng

set_option linter.unusedVariables false
namespace Go.Eng
open Go
@[simp] def o8:T:=.vint .u8 (.lit 0)
@[simp] def x8 (k v:Nat):T:=.vint .u8 (.c2 (.xint k) (.var v) (.lit 0))
@[simp] def i8 (v e k:Nat):T:=.vint .u8 (.icell (.var v) (.var e) k)
@[simp] def r8 (v:Nat):T:=(.rcons (x8 0 v) (.rcons (x8 1 v) (.rcons (x8 2 v) (.rcons (x8 3 v) (.rcons (x8 4 v) (.rcons (x8 5 v) (.rcons (x8 6 v) (.rcons (x8 7 v) (.rcons (x8 8 v) (.rcons (x8 9 v) (.rcons (x8 10 v) (.rcons (x8 11 v) (.rcons (x8 12 v) (.rcons (x8 13 v) (.rcons (x8 14 v) (.rcons (x8 15 v) (.rcons (x8 16 v) (.rcons (x8 17 v) (.rcons (x8 18 v) (.rcons (x8 19 v) (.rcons (x8 20 v) (.rcons (x8 21 v) (.rcons (x8 22 v) (.rcons (x8 23 v) (.rcons (x8 24 v) (.rcons (x8 25 v) (.rcons (x8 26 v) (.rcons (x8 27 v) (.rcons (x8 28 v) (.rcons (x8 29 v) (.rcons (x8 30 v) (.rcons (x8 31 v) .rnil))))))))))))))))))))))))))))))))
@[simp] def q8 (k v:Nat):T:=.vint .u8 (.c2 (.xint k) (r8 v) (.lit 0))
@[simp] def s8 (v:Nat):T:=(.rcons (q8 0 v) (.rcons (q8 1 v) (.rcons (q8 2 v) (.rcons (q8 3 v) (.rcons (q8 4 v) (.rcons (q8 5 v) (.rcons (q8 6 v) (.rcons (q8 7 v) (.rcons (q8 8 v) (.rcons (q8 9 v) (.rcons (q8 10 v) (.rcons (q8 11 v) (.rcons (q8 12 v) (.rcons (q8 13 v) (.rcons (q8 14 v) (.rcons (q8 15 v) (.rcons (q8 16 v) (.rcons (q8 17 v) (.rcons (q8 18 v) (.rcons (q8 19 v) (.rcons (q8 20 v) (.rcons (q8 21 v) (.rcons (q8 22 v) (.rcons (q8 23 v) (.rcons (q8 24 v) (.rcons (q8 25 v) (.rcons (q8 26 v) (.rcons (q8 27 v) (.rcons (q8 28 v) (.rcons (q8 29 v) (.rcons (q8 30 v) (.rcons (q8 31 v) .rnil))))))))))))))))))))))))))))))))
@[simp] def z8:T:=(.rcons o8 (.rcons o8 (.rcons o8 (.rcons o8 (.rcons o8 (.rcons o8 (.rcons o8 (.rcons o8 (.rcons o8 (.rcons o8 (.rcons o8 (.rcons o8 (.rcons o8 (.rcons o8 (.rcons o8 (.rcons o8 (.rcons o8 (.rcons o8 (.rcons o8 (.rcons o8 (.rcons o8 (.rcons o8 (.rcons o8 (.rcons o8 (.rcons o8 (.rcons o8 (.rcons o8 (.rcons o8 (.rcons o8 (.rcons o8 (.rcons o8 (.rcons o8 .rnil))))))))))))))))))))))))))))))))
end Go.Eng

set_option linter.unusedSimpArgs false
set_option linter.unusedVariables false
set_option maxRecDepth 100000
namespace Go.Proofs
open Go Go.Eng

end Go.Proofs

set_option linter.unusedSimpArgs false
set_option linter.unusedVariables false
set_option maxRecDepth 100000
namespace Go.Proofs
open Go Go.Eng

def qpL:Out:=(.need (.cmp .geq (.arith .and .u64 (.conv .u64 (.var 1)) (.lit 31)) (.lit 0)) (.need (.cmp .geq (.arith .sub .u64 (.lit 32) (.arith .and .u64 (.conv .u64 (.var 1)) (.lit 31))) (.lit 0)) (.ret 0 (sg 2 [bt 2 (.arith .or .u32 (.arith .shl .u32 (.var 0) (.arith .and .u64 (.conv .u64 (.var 1)) (.lit 31))) (.arith .shr .u32 (.var 0) (.arith .sub .u64 (.lit 32) (.arith .and .u64 (.conv .u64 (.var 1)) (.lit 31)))))]))))
theorem qyq:qk ⟨Tryz.prog,qeG,[],[]⟩ 100000 Tryz.f154 = qpL:=by kernel_rfl
theorem q3B (hd:∀ c ∈ ([]:List Ctr),c.ok Tryz.prog) (h:∀ ρ:Env,ρ.good->(qeG).pre ρ->qpL.den ⟨Tryz.prog,qeG,[],[]⟩ ρ):(qeG).ok Tryz.prog :=
 qe Tryz.func154 (fun a w=>Tryz.call154 a w) hd 100000 (fun ρ hg hp=>by rw [qyq]; exact h ρ hg hp)
@[simp] def quV:T:=.arith .add .u32 (.arith .add .u32 (.arith .add .u32 (.arith .add .u32 (.var 21) (.arith .xor .u32 (.arith .xor .u32 (.var 22) (.var 23)) (.var 24))) (.arith .xor .u32 (.var 20) (.arith .and .u32 (.var 18) (.arith .xor .u32 (.var 19) (.var 20))))) (.c2 (.xint 0) (.var 3) (.var 13))) (.c2 (.xint 0) (.var 12) (.var 13))
@[simp] def qsP:T:=.rcons (.vint .u32 (.c2 (.xint 0) (.var 22) (.lit 0))) (.rcons (.vint .u32 (.c2 (.xint 1) (.var 22) (.lit 0))) (.rcons (.vint .u32 (.c2 (.xint 2) (.var 22) (.lit 0))) (.rcons (.vint .u32 (.c2 (.xint 3) (.var 22) (.lit 0))) (.rcons (.vint .u32 (.c2 (.xint 4) (.var 22) (.lit 0))) (.rcons (.vint .u32 (.c2 (.xint 5) (.var 22) (.lit 0))) (.rcons (.vint .u32 (.c2 (.xint 6) (.var 22) (.lit 0))) (.rcons (.vint .u32 (.c2 (.xint 7) (.var 22) (.lit 0))) .rnil)))))))
def quC:Out:=(.fresh 4 (.inv 0 5 (sg 1000 [bt 1001 (.rcons (.vint .u32 (.lit 0)) (.rcons (.vint .u32 (.lit 0)) (.rcons (.vint .u32 (.lit 0)) (.rcons (.vint .u32 (.lit 0)) (.rcons (.vint .u32 (.lit 0)) (.rcons (.vint .u32 (.lit 0)) (.rcons (.vint .u32 (.lit 0)) (.rcons (.vint .u32 (.lit 0)) (.rcons (.vint .u32 (.lit 0)) (.rcons (.vint .u32 (.lit 0)) (.rcons (.vint .u32 (.lit 0)) (.rcons (.vint .u32 (.lit 0)) (.rcons (.vint .u32 (.lit 0)) (.rcons (.vint .u32 (.lit 0)) (.rcons (.vint .u32 (.lit 0)) (.rcons (.vint .u32 (.lit 0)) (.rcons (.vint .u32 (.lit 0)) (.rcons (.vint .u32 (.lit 0)) (.rcons (.vint .u32 (.lit 0)) (.rcons (.vint .u32 (.lit 0)) (.rcons (.vint .u32 (.lit 0)) (.rcons (.vint .u32 (.lit 0)) (.rcons (.vint .u32 (.lit 0)) (.rcons (.vint .u32 (.lit 0)) (.rcons (.vint .u32 (.lit 0)) (.rcons (.vint .u32 (.lit 0)) (.rcons (.vint .u32 (.lit 0)) (.rcons (.vint .u32 (.lit 0)) (.rcons (.vint .u32 (.lit 0)) (.rcons (.vint .u32 (.lit 0)) (.rcons (.vint .u32 (.lit 0)) (.rcons (.vint .u32 (.lit 0)) (.rcons (.vint .u32 (.lit 0)) (.rcons (.vint .u32 (.lit 0)) (.rcons (.vint .u32 (.lit 0)) (.rcons (.vint .u32 (.lit 0)) (.rcons (.vint .u32 (.lit 0)) (.rcons (.vint .u32 (.lit 0)) (.rcons (.vint .u32 (.lit 0)) (.rcons (.vint .u32 (.lit 0)) (.rcons (.vint .u32 (.lit 0)) (.rcons (.vint .u32 (.lit 0)) (.rcons (.vint .u32 (.lit 0)) (.rcons (.vint .u32 (.lit 0)) (.rcons (.vint .u32 (.lit 0)) (.rcons (.vint .u32 (.lit 0)) (.rcons (.vint .u32 (.lit 0)) (.rcons (.vint .u32 (.lit 0)) (.rcons (.vint .u32 (.lit 0)) (.rcons (.vint .u32 (.lit 0)) (.rcons (.vint .u32 (.lit 0)) (.rcons (.vint .u32 (.lit 0)) (.rcons (.vint .u32 (.lit 0)) (.rcons (.vint .u32 (.lit 0)) (.rcons (.vint .u32 (.lit 0)) (.rcons (.vint .u32 (.lit 0)) (.rcons (.vint .u32 (.lit 0)) (.rcons (.vint .u32 (.lit 0)) (.rcons (.vint .u32 (.lit 0)) (.rcons (.vint .u32 (.lit 0)) (.rcons (.vint .u32 (.lit 0)) (.rcons (.vint .u32 (.lit 0)) (.rcons (.vint .u32 (.lit 0)) (.rcons (.vint .u32 (.lit 0)) .rnil)))))))))))))))))))))))))))))))))))))))))))))))))))))))))))))))),bt 1002 (.lit 0),bg 1000 4]) (.fresh 5 (.fresh 6 (.fresh 7 (.hyp 0 5 (.br (.cmp .lss (.var 7) (.lit 16))
 (.need (.cmp .lss (.lit 0) (.dlen (.var 1))) (.need (.cmp .leq (.lit 0) (.arith .mul .i64 (.lit 4) (.var 7))) (.need (.cmp .lss (.arith .mul .i64 (.lit 4) (.var 7)) (.lit 64)) (.need (.cmp .leq (.lit 0) (.arith .add .i64 (.arith .mul .i64 (.lit 4) (.var 7)) (.lit 1))) (.need (.cmp .lss (.arith .add .i64 (.arith .mul .i64 (.lit 4) (.var 7)) (.lit 1)) (.lit 64)) (.need (.cmp .leq (.lit 0) (.arith .add .i64 (.arith .mul .i64 (.lit 4) (.var 7)) (.lit 2))) (.need (.cmp .lss (.arith .add .i64 (.arith .mul .i64 (.lit 4) (.var 7)) (.lit 2)) (.lit 64)) (.need (.cmp .leq (.lit 0) (.arith .add .i64 (.arith .mul .i64 (.lit 4) (.var 7)) (.lit 3))) (.need (.cmp .lss (.arith .add .i64 (.arith .mul .i64 (.lit 4) (.var 7)) (.lit 3)) (.lit 64)) (.need (.cmp .leq (.lit 0) (.var 7)) (.need (.cmp .lss (.var 7) (.lit 64)) (.need (.cmp .lss (.lit 0) (.dlen (.var 6))) (.both (.back 0 5 (sg 1000 [bt 1001 (.c3 (.xput 0) (.var 6) (.var 7) (.vint .u32 (.arith .or .u32 (.arith .or .u32 (.arith .or .u32 (.arith .shl .u32 (.conv .u32 (.c2 (.xint 8) (.var 1) (.arith .mul .i64 (.lit 4) (.var 7)))) (.lit 24)) (.arith .shl .u32 (.conv .u32 (.c2 (.xint 8) (.var 1) (.arith .add .i64 (.arith .mul .i64 (.lit 4) (.var 7)) (.lit 1)))) (.lit 16))) (.arith .shl .u32 (.conv .u32 (.c2 (.xint 8) (.var 1) (.arith .add .i64 (.arith .mul .i64 (.lit 4) (.var 7)) (.lit 2)))) (.lit 8))) (.conv .u32 (.c2 (.xint 8) (.var 1) (.arith .add .i64 (.arith .mul .i64 (.lit 4) (.var 7)) (.lit 3))))))),bt 1002 (.arith .add .i64 (.var 7) (.lit 1)),bg 1000 5])) .top)))))))))))))
 (.inv 1 8 (sg 1000 [bv 1001 6,bt 1002 (.lit 16),bg 1000 5]) (.fresh 8 (.fresh 9 (.fresh 10 (.hyp 1 8 (.br (.cmp .lss (.var 10) (.lit 64))
 (.need (.cmp .leq (.lit 0) (.arith .sub .i64 (.var 10) (.lit 15))) (.need (.cmp .lss (.arith .sub .i64 (.var 10) (.lit 15)) (.lit 64)) (.need (.cmp .lss (.lit 0) (.dlen (.var 9))) (.need (.cmp .leq (.lit 0) (.arith .sub .i64 (.var 10) (.lit 2))) (.need (.cmp .lss (.arith .sub .i64 (.var 10) (.lit 2)) (.lit 64)) (.pre 0 (sg 0 [bt 1 (.lit (-7)),bt 0 (.c2 (.xint 0) (.var 9) (.arith .sub .i64 (.var 10) (.lit 15)))]) (.both (.fresh 11 (.post 0 0 (sg 0 [bt 1 (.lit (-7)),bt 0 (.c2 (.xint 0) (.var 9) (.arith .sub .i64 (.var 10) (.lit 15)))]) 11 (.pre 0 (sg 0 [bt 1 (.lit (-18)),bt 0 (.c2 (.xint 0) (.var 9) (.arith .sub .i64 (.var 10) (.lit 15)))]) (.both (.fresh 12 (.post 0 0 (sg 0 [bt 1 (.lit (-18)),bt 0 (.c2 (.xint 0) (.var 9) (.arith .sub .i64 (.var 10) (.lit 15)))]) 12 (.pre 0 (sg 0 [bt 1 (.lit (-17)),bt 0 (.c2 (.xint 0) (.var 9) (.arith .sub .i64 (.var 10) (.lit 2)))]) (.both (.fresh 13 (.post 0 0 (sg 0 [bt 1 (.lit (-17)),bt 0 (.c2 (.xint 0) (.var 9) (.arith .sub .i64 (.var 10) (.lit 2)))]) 13 (.pre 0 (sg 0 [bt 1 (.lit (-19)),bt 0 (.c2 (.xint 0) (.var 9) (.arith .sub .i64 (.var 10) (.lit 2)))]) (.both (.fresh 14 (.post 0 0 (sg 0 [bt 1 (.lit (-19)),bt 0 (.c2 (.xint 0) (.var 9) (.arith .sub .i64 (.var 10) (.lit 2)))]) 14 (.need (.cmp .leq (.lit 0) (.arith .sub .i64 (.var 10) (.lit 16))) (.need (.cmp .lss (.arith .sub .i64 (.var 10) (.lit 16)) (.lit 64)) (.need (.cmp .leq (.lit 0) (.arith .sub .i64 (.var 10) (.lit 7))) (.need (.cmp .lss (.arith .sub .i64 (.var 10) (.lit 7)) (.lit 64)) (.need (.cmp .leq (.lit 0) (.var 10)) (.both (.back 1 8 (sg 1000 [bt 1001 (.c3 (.xput 0) (.var 9) (.var 10) (.vint .u32 (.arith .add .u32 (.arith .add .u32 (.arith .add .u32 (.c2 (.xint 0) (.var 9) (.arith .sub .i64 (.var 10) (.lit 16))) (.arith .xor .u32 (.arith .xor .u32 (.var 11) (.var 12)) (.arith .shr .u32 (.c2 (.xint 0) (.var 9) (.arith .sub .i64 (.var 10) (.lit 15))) (.lit 3)))) (.c2 (.xint 0) (.var 9) (.arith .sub .i64 (.var 10) (.lit 7)))) (.arith .xor .u32 (.arith .xor .u32 (.var 13) (.var 14)) (.arith .shr .u32 (.c2 (.xint 0) (.var 9) (.arith .sub .i64 (.var 10) (.lit 2))) (.lit 10)))))),bt 1002 (.arith .add .i64 (.var 10) (.lit 1)),bg 1000 8])) .top)))))))) .top)))) .top)))) .top)))) .top)))))))
 (.need (.cmp .lss (.lit 0) (.dlen (.var 1))) (.inv 2 11 (sg 1000 [bv 1001 9,bt 1002 (.lit 0),bt 1010 (.icell (.var 1) (.lit 0) 7),bt 1009 (.icell (.var 1) (.lit 0) 6),bt 1008 (.icell (.var 1) (.lit 0) 5),bt 1007 (.icell (.var 1) (.lit 0) 4),bt 1006 (.icell (.var 1) (.lit 0) 3),bt 1005 (.icell (.var 1) (.lit 0) 2),bt 1004 (.icell (.var 1) (.lit 0) 1),bt 1003 (.icell (.var 1) (.lit 0) 0),bg 1000 8]) (.fresh 11 (.fresh 12 (.fresh 13 (.fresh 14 (.fresh 15 (.fresh 16 (.fresh 17 (.fresh 18 (.fresh 19 (.fresh 20 (.fresh 21 (.hyp 2 11 (.br (.cmp .lss (.var 13) (.lit 64))
 (.pre 0 (sg 0 [bt 1 (.lit (-6)),bv 0 18]) (.both (.fresh 22 (.post 0 0 (sg 0 [bt 1 (.lit (-6)),bv 0 18]) 22 (.pre 0 (sg 0 [bt 1 (.lit (-11)),bv 0 18]) (.both (.fresh 23 (.post 0 0 (sg 0 [bt 1 (.lit (-11)),bv 0 18]) 23 (.pre 0 (sg 0 [bt 1 (.lit (-25)),bv 0 18]) (.both (.fresh 24 (.post 0 0 (sg 0 [bt 1 (.lit (-25)),bv 0 18]) 24 (.need (.c1 (.isg 1) (.var 2)) (.need (.cmp .leq (.lit 0) (.var 13)) (.need (.cmp .lss (.lit 0) (.dlen (.var 3))) (.need (.cmp .lss (.lit 0) (.dlen (.var 12))) (.pre 0 (sg 0 [bt 1 (.lit (-2)),bv 0 14]) (.both (.fresh 25 (.post 0 0 (sg 0 [bt 1 (.lit (-2)),bv 0 14]) 25 (.pre 0 (sg 0 [bt 1 (.lit (-13)),bv 0 14]) (.both (.fresh 26 (.post 0 0 (sg 0 [bt 1 (.lit (-13)),bv 0 14]) 26 (.pre 0 (sg 0 [bt 1 (.lit (-22)),bv 0 14]) (.both (.fresh 27 (.post 0 0 (sg 0 [bt 1 (.lit (-22)),bv 0 14]) 27 (.back 2 11 (sg 1000 [bv 1001 12,bt 1002 (.arith .add .i64 (.var 13) (.lit 1)),bv 1010 20,bv 1009 19,bv 1008 18,bt 1007 (.arith .add .u32 (.var 17) quV),bv 1006 16,bv 1005 15,bv 1004 14,bt 1003 (.arith .add .u32 quV (.arith .add .u32 (.arith .xor .u32 (.arith .xor .u32 (.var 25) (.var 26)) (.var 27)) (.arith .or .u32 (.arith .and .u32 (.var 14) (.var 15)) (.arith .and .u32 (.var 16) (.arith .or .u32 (.var 14) (.var 15)))))),bg 1000 11])))) .top)))) .top)))) .top)))))))) .top)))) .top)))) .top))
 (.inv 3 22 (sg 1000 [bv 1002 1,bt 1001 (.lit 0),bt 1000 (.rcons (.vint .u32 (.var 14)) (.rcons (.vint .u32 (.var 15)) (.rcons (.vint .u32 (.var 16)) (.rcons (.vint .u32 (.var 17)) (.rcons (.vint .u32 (.var 18)) (.rcons (.vint .u32 (.var 19)) (.rcons (.vint .u32 (.var 20)) (.rcons (.vint .u32 (.var 21)) .rnil))))))))]) (.fresh 22 (.fresh 23 (.fresh 24 (.hyp 3 22 (.br (.cmp .lss (.var 23) (.lit 8))
 (.need (.cmp .leq (.lit 0) (.var 23)) (.need (.cmp .lss (.lit 0) (.dlen (.var 24))) (.both (.back 3 22 (sg 1000 [bt 1002 (.c3 (.xput 0) (.var 24) (.var 23) (.vint .u32 (.arith .add .u32 (.c2 (.xint 0) (.var 24) (.var 23)) (.c2 (.xint 0) qsP (.var 23))))),bt 1001 (.arith .add .i64 (.var 23) (.lit 1)),bt 1000 qsP])) .top)))
 (.ret 0 (sg 4 [bv 4 24]))))))))))))))))))))))))))))))))))))
theorem q1F:qk ⟨Tryz.prog,qdA,[qeG],[qz6,qxT,qxM,qzw]⟩ 100000 Tryz.f129 = quC:=by kernel_rfl
theorem q6p (hd:∀ c ∈ ([qeG]:List Ctr),c.ok Tryz.prog) (h:∀ ρ:Env,ρ.good->(qdA).pre ρ->quC.den ⟨Tryz.prog,qdA,[qeG],[qz6,qxT,qxM,qzw]⟩ ρ):(qdA).ok Tryz.prog :=
 qe Tryz.func129 (fun a w=>Tryz.call129 a w) hd 100000 (fun ρ hg hp=>by rw [q1F]; exact h ρ hg hp)
def ql0:Out:=(.fresh 0 (.ret 0 (sg 0 [bt 1 (.rcons (.vint .u32 (.lit 1779033703)) (.rcons (.vint .u32 (.lit 3144134277)) (.rcons (.vint .u32 (.lit 1013904242)) (.rcons (.vint .u32 (.lit 2773480762)) (.rcons (.vint .u32 (.lit 1359893119)) (.rcons (.vint .u32 (.lit 2600822924)) (.rcons (.vint .u32 (.lit 528734635)) (.rcons (.vint .u32 (.lit 1541459225)) (.rcons o8 (.rcons o8 (.rcons o8 (.rcons o8 (.rcons o8 (.rcons o8 (.rcons o8 (.rcons o8 (.rcons o8 (.rcons o8 (.rcons o8 (.rcons o8 (.rcons o8 (.rcons o8 (.rcons o8 (.rcons o8 (.rcons o8 (.rcons o8 (.rcons o8 (.rcons o8 (.rcons o8 (.rcons o8 (.rcons o8 (.rcons o8 (.rcons o8 (.rcons o8 (.rcons o8 (.rcons o8 (.rcons o8 (.rcons o8 (.rcons o8 (.rcons o8 (.rcons o8 (.rcons o8 (.rcons o8 (.rcons o8 (.rcons o8 (.rcons o8 (.rcons o8 (.rcons o8 (.rcons o8 (.rcons o8 (.rcons o8 (.rcons o8 (.rcons o8 (.rcons o8 (.rcons o8 (.rcons o8 (.rcons o8 (.rcons o8 (.rcons o8 (.rcons o8 (.rcons o8 (.rcons o8 (.rcons o8 (.rcons o8 (.rcons o8 (.rcons o8 (.rcons o8 (.rcons o8 (.rcons o8 (.rcons o8 (.rcons o8 (.rcons o8 (.rcons (.vint .i64 (.lit 0)) .rnil))))))))))))))))))))))))))))))))))))))))))))))))))))))))))))))))))))))))),bg 0 0])))
theorem qtH:qk ⟨Tryz.prog,qbi,[],[]⟩ 100000 Tryz.f96 = ql0:=by kernel_rfl
theorem qzg (hd:∀ c ∈ ([]:List Ctr),c.ok Tryz.prog) (h:∀ ρ:Env,ρ.good->(qbi).pre ρ->ql0.den ⟨Tryz.prog,qbi,[],[]⟩ ρ):(qbi).ok Tryz.prog :=
 qe Tryz.func96 (fun a w=>Tryz.call96 a w) hd 100000 (fun ρ hg hp=>by rw [qtH]; exact h ρ hg hp)
@[simp] def qlK:T:=.dtake (.dtake (.ddrop (.var 6) (.var 10)) (.var 11)) (.imin (.minus (.lit 64) (.arith .rem .i64 (.icell (.var 13) (.lit 0) 72) (.lit 64))) (.var 11))
@[simp] def qll:T:=.ife (.lit 64) (.arith .rem .i64 (.icell (.var 13) (.lit 0) 72) (.lit 64)) (.lit 8) (.plus (.lit 8) (.arith .rem .i64 (.icell (.var 13) (.lit 0) 72) (.lit 64)))
@[simp] def qrm:T:=.ife (.var 12) (.imin (.minus (.lit 64) (.arith .rem .i64 (.icell (.var 13) (.lit 0) 72) (.lit 64))) (.var 11)) (.var 10) (.plus (.var 10) (.imin (.minus (.lit 64) (.arith .rem .i64 (.icell (.var 13) (.lit 0) 72) (.lit 64))) (.var 11)))
@[simp] def qrl:T:=.c3 .xcopy (.var 13) qll qlK
@[simp] def qr3:Sg:=sg 0 [bv 3 9,bt 1 (.dput (.c3 .xcopy (.var 13) qll qlK) (.lit 0) 72 (.rcons (.vint .i64 (.arith .add .i64 (.icell (.c3 .xcopy (.var 13) qll qlK) (.lit 0) 72) (.imin (.minus (.lit 64) (.arith .rem .i64 (.icell (.var 13) (.lit 0) 72) (.lit 64))) (.var 11)))) .rnil)),bg 0 0,bg 2 8]
def qq7:Out:=(.br (.and (.cmp .eql (.dlen (.var 1)) (.lit 0)) (.isnil 0))
 (.ret 0 (sg 10 [bv 10 1]))
 (.inv 0 10 (sg 1000 [bv 1003 1,bv 1002 5,bv 1001 4,bv 1000 3]) (.fresh 10 (.fresh 11 (.fresh 12 (.fresh 13 (.hyp 0 10 (.need (.cmp .leq (.lit 0) (.var 11)) (.br (.cmp .gtr (.var 11) (.lit 0))
 (.need (.cmp .lss (.lit 0) (.dlen (.var 13))) (.need (.cmp .leq (.lit 0) (.arith .rem .i64 (.icell (.var 13) (.lit 0) 72) (.lit 64))) (.need (.cmp .leq (.arith .rem .i64 (.icell (.var 13) (.lit 0) 72) (.lit 64)) (.lit 64)) (.need (.cmp .neq (.lit 64) (.arith .rem .i64 (.icell (.var 13) (.lit 0) 72) (.lit 64))) (.need (.cmp .leq (.lit 0) (.minus (.lit 64) (.arith .rem .i64 (.icell (.var 13) (.lit 0) 72) (.lit 64)))) (.need (.cmp .leq (.plus (.arith .rem .i64 (.icell (.var 13) (.lit 0) 72) (.lit 64)) (.minus (.lit 64) (.arith .rem .i64 (.icell (.var 13) (.lit 0) 72) (.lit 64)))) (.lit 64)) (.need (.cmp .leq (.lit 0) (.var 10)) (.need (.cmp .leq (.plus (.var 10) (.var 11)) (.dlen (.var 6))) (.fresh 14 (.need (.cmp .leq (.lit 0) (.var 12)) (.need (.cmp .leq (.lit 0) (.imin (.minus (.lit 64) (.arith .rem .i64 (.icell (.var 13) (.lit 0) 72) (.lit 64))) (.var 11))) (.need (.cmp .leq (.imin (.minus (.lit 64) (.arith .rem .i64 (.icell (.var 13) (.lit 0) 72) (.lit 64))) (.var 11)) (.var 11)) (.need (.cmp .leq (.var 11) (.var 12)) (.br (.cmp .eql (.arith .add .i64 (.arith .rem .i64 (.icell (.var 13) (.lit 0) 72) (.lit 64)) (.imin (.minus (.lit 64) (.arith .rem .i64 (.icell (.var 13) (.lit 0) 72) (.lit 64))) (.var 11))) (.lit 64))
 (.pre 0 qr3 (.both (.fresh 15 (.post 0 0 qr3 15 (.back 0 10 (sg 1000 [bv 1003 15,bt 1002 (.minus (.var 12) (.imin (.minus (.lit 64) (.arith .rem .i64 (.icell (.var 13) (.lit 0) 72) (.lit 64))) (.var 11))),bt 1001 (.minus (.var 11) (.imin (.minus (.lit 64) (.arith .rem .i64 (.icell (.var 13) (.lit 0) 72) (.lit 64))) (.var 11))),bt 1000 qrm])))) .top))
 (.back 0 10 (sg 1000 [bt 1003 (.dput qrl (.lit 0) 72 (.rcons (.vint .i64 (.arith .add .i64 (.icell qrl (.lit 0) 72) (.imin (.minus (.lit 64) (.arith .rem .i64 (.icell (.var 13) (.lit 0) 72) (.lit 64))) (.var 11)))) .rnil)),bt 1002 (.minus (.var 12) (.imin (.minus (.lit 64) (.arith .rem .i64 (.icell (.var 13) (.lit 0) 72) (.lit 64))) (.var 11))),bt 1001 (.minus (.var 11) (.imin (.minus (.lit 64) (.arith .rem .i64 (.icell (.var 13) (.lit 0) 72) (.lit 64))) (.var 11))),bt 1000 qrm]))))))))))))))))
 (.ret 0 (sg 10 [bv 10 13])))))))))))
theorem qxY:qk ⟨Tryz.prog,qcv,[qdA],[qtj]⟩ 100000 Tryz.f97 = qq7:=by kernel_rfl
theorem q2u (hd:∀ c ∈ ([qdA]:List Ctr),c.ok Tryz.prog) (h:∀ ρ:Env,ρ.good->(qcv).pre ρ->qq7.den ⟨Tryz.prog,qcv,[qdA],[qtj]⟩ ρ):(qcv).ok Tryz.prog :=
 qe Tryz.func97 (fun a w=>Tryz.call97 a w) hd 100000 (fun ρ hg hp=>by rw [qxY]; exact h ρ hg hp)
@[simp] def qiK:T:=.dtake (.c3 .xrows (.var 5) (.var 8) (.var 9)) (.imin (.minus (.lit 64) (.arith .rem .i64 (.icell (.var 11) (.lit 0) 72) (.lit 64))) (.var 9))
@[simp] def qi1:T:=.ife (.lit 64) (.arith .rem .i64 (.icell (.var 11) (.lit 0) 72) (.lit 64)) (.lit 8) (.plus (.lit 8) (.arith .rem .i64 (.icell (.var 11) (.lit 0) 72) (.lit 64)))
@[simp] def qmQ:T:=.ife (.var 10) (.imin (.minus (.lit 64) (.arith .rem .i64 (.icell (.var 11) (.lit 0) 72) (.lit 64))) (.var 9)) (.var 8) (.plus (.var 8) (.imin (.minus (.lit 64) (.arith .rem .i64 (.icell (.var 11) (.lit 0) 72) (.lit 64))) (.var 9)))
@[simp] def qm3:T:=.c3 .xcopy (.var 11) qi1 qiK
@[simp] def qmL:Sg:=sg 0 [bv 3 7,bt 1 (.dput (.c3 .xcopy (.var 11) qi1 qiK) (.lit 0) 72 (.rcons (.vint .i64 (.arith .add .i64 (.icell (.c3 .xcopy (.var 11) qi1 qiK) (.lit 0) 72) (.imin (.minus (.lit 64) (.arith .rem .i64 (.icell (.var 11) (.lit 0) 72) (.lit 64))) (.var 9)))) .rnil)),bg 0 0,bg 2 6]
def qkP:Out:=(.br (.and (.cmp .eql (.dlen (.var 1)) (.lit 0)) (.isnil 0))
 (.ret 0 (sg 8 [bv 8 1]))
 (.inv 0 8 (sg 1000 [bv 1003 1,bv 1002 4,bv 1001 3,bt 1000 (.lit 0)]) (.fresh 8 (.fresh 9 (.fresh 10 (.fresh 11 (.hyp 0 8 (.need (.cmp .leq (.lit 0) (.var 9)) (.br (.cmp .gtr (.var 9) (.lit 0))
 (.need (.cmp .lss (.lit 0) (.dlen (.var 11))) (.need (.cmp .leq (.lit 0) (.arith .rem .i64 (.icell (.var 11) (.lit 0) 72) (.lit 64))) (.need (.cmp .leq (.arith .rem .i64 (.icell (.var 11) (.lit 0) 72) (.lit 64)) (.lit 64)) (.need (.cmp .neq (.lit 64) (.arith .rem .i64 (.icell (.var 11) (.lit 0) 72) (.lit 64))) (.need (.cmp .leq (.lit 0) (.minus (.lit 64) (.arith .rem .i64 (.icell (.var 11) (.lit 0) 72) (.lit 64)))) (.need (.cmp .leq (.plus (.arith .rem .i64 (.icell (.var 11) (.lit 0) 72) (.lit 64)) (.minus (.lit 64) (.arith .rem .i64 (.icell (.var 11) (.lit 0) 72) (.lit 64)))) (.lit 64)) (.need (.cmp .leq (.lit 0) (.var 8)) (.need (.cmp .leq (.plus (.var 8) (.var 9)) (.lit 72)) (.need (.cmp .lss (.lit 0) (.dlen (.var 5))) (.fresh 12 (.need (.cmp .leq (.lit 0) (.var 10)) (.need (.cmp .leq (.lit 0) (.imin (.minus (.lit 64) (.arith .rem .i64 (.icell (.var 11) (.lit 0) 72) (.lit 64))) (.var 9))) (.need (.cmp .leq (.imin (.minus (.lit 64) (.arith .rem .i64 (.icell (.var 11) (.lit 0) 72) (.lit 64))) (.var 9)) (.var 9)) (.need (.cmp .leq (.var 9) (.var 10)) (.br (.cmp .eql (.arith .add .i64 (.arith .rem .i64 (.icell (.var 11) (.lit 0) 72) (.lit 64)) (.imin (.minus (.lit 64) (.arith .rem .i64 (.icell (.var 11) (.lit 0) 72) (.lit 64))) (.var 9))) (.lit 64))
 (.pre 0 qmL (.both (.fresh 13 (.post 0 0 qmL 13 (.back 0 8 (sg 1000 [bv 1003 13,bt 1002 (.minus (.var 10) (.imin (.minus (.lit 64) (.arith .rem .i64 (.icell (.var 11) (.lit 0) 72) (.lit 64))) (.var 9))),bt 1001 (.minus (.var 9) (.imin (.minus (.lit 64) (.arith .rem .i64 (.icell (.var 11) (.lit 0) 72) (.lit 64))) (.var 9))),bt 1000 qmQ])))) .top))
 (.back 0 8 (sg 1000 [bt 1003 (.dput qm3 (.lit 0) 72 (.rcons (.vint .i64 (.arith .add .i64 (.icell qm3 (.lit 0) 72) (.imin (.minus (.lit 64) (.arith .rem .i64 (.icell (.var 11) (.lit 0) 72) (.lit 64))) (.var 9)))) .rnil)),bt 1002 (.minus (.var 10) (.imin (.minus (.lit 64) (.arith .rem .i64 (.icell (.var 11) (.lit 0) 72) (.lit 64))) (.var 9))),bt 1001 (.minus (.var 9) (.imin (.minus (.lit 64) (.arith .rem .i64 (.icell (.var 11) (.lit 0) 72) (.lit 64))) (.var 9))),bt 1000 qmQ])))))))))))))))))
 (.ret 0 (sg 8 [bv 8 11])))))))))))
theorem qvv:qk ⟨Tryz.prog,qc5,[qdA],[qni]⟩ 100000 Tryz.f97 = qkP:=by kernel_rfl
theorem qyb (hd:∀ c ∈ ([qdA]:List Ctr),c.ok Tryz.prog) (h:∀ ρ:Env,ρ.good->(qc5).pre ρ->qkP.den ⟨Tryz.prog,qc5,[qdA],[qni]⟩ ρ):(qc5).ok Tryz.prog :=
 qe Tryz.func97 (fun a w=>Tryz.call97 a w) hd 100000 (fun ρ hg hp=>by rw [qvv]; exact h ρ hg hp)
@[simp] def qwR:Sg:=sg 0 [bv 7 3,bv 5 12,bv 1 10,bt 4 (.lit 72),bt 3 (.arith .add .i64 (.var 13) (.lit 8)),bg 2 11,bg 0 9,bg 6 2]
def qye:Out:=(.fresh 4 (.br (.and (.cmp .eql (.dlen (.var 1)) (.lit 0)) (.isnil 0))
 (.ret 0 (sg 4 [bt 4 z8]))
 (.need (.cmp .lss (.lit 0) (.dlen (.var 1))) (.fresh 5 (.fresh 6 (.inv 0 7 (sg 1000 [bt 1005 (.rcons (.vint .u8 (.lit 128)) (.rcons o8 (.rcons o8 (.rcons o8 (.rcons o8 (.rcons o8 (.rcons o8 (.rcons o8 (.rcons o8 (.rcons o8 (.rcons o8 (.rcons o8 (.rcons o8 (.rcons o8 (.rcons o8 (.rcons o8 (.rcons o8 (.rcons o8 (.rcons o8 (.rcons o8 (.rcons o8 (.rcons o8 (.rcons o8 (.rcons o8 (.rcons o8 (.rcons o8 (.rcons o8 (.rcons o8 (.rcons o8 (.rcons o8 (.rcons o8 (.rcons o8 (.rcons o8 (.rcons o8 (.rcons o8 (.rcons o8 (.rcons o8 (.rcons o8 (.rcons o8 (.rcons o8 z8)))))))))))))))))))))))))))))))))))))))),bt 1003 (.rcons (.vint .u32 (.icell (.var 1) (.lit 0) 0)) (.rcons (.vint .u32 (.icell (.var 1) (.lit 0) 1)) (.rcons (.vint .u32 (.icell (.var 1) (.lit 0) 2)) (.rcons (.vint .u32 (.icell (.var 1) (.lit 0) 3)) (.rcons (.vint .u32 (.icell (.var 1) (.lit 0) 4)) (.rcons (.vint .u32 (.icell (.var 1) (.lit 0) 5)) (.rcons (.vint .u32 (.icell (.var 1) (.lit 0) 6)) (.rcons (.vint .u32 (.icell (.var 1) (.lit 0) 7)) (.rcons (.vint .u8 (.icell (.var 1) (.lit 0) 8)) (.rcons (.vint .u8 (.icell (.var 1) (.lit 0) 9)) (.rcons (.vint .u8 (.icell (.var 1) (.lit 0) 10)) (.rcons (.vint .u8 (.icell (.var 1) (.lit 0) 11)) (.rcons (.vint .u8 (.icell (.var 1) (.lit 0) 12)) (.rcons (.vint .u8 (.icell (.var 1) (.lit 0) 13)) (.rcons (.vint .u8 (.icell (.var 1) (.lit 0) 14)) (.rcons (.vint .u8 (.icell (.var 1) (.lit 0) 15)) (.rcons (.vint .u8 (.icell (.var 1) (.lit 0) 16)) (.rcons (.vint .u8 (.icell (.var 1) (.lit 0) 17)) (.rcons (.vint .u8 (.icell (.var 1) (.lit 0) 18)) (.rcons (.vint .u8 (.icell (.var 1) (.lit 0) 19)) (.rcons (.vint .u8 (.icell (.var 1) (.lit 0) 20)) (.rcons (.vint .u8 (.icell (.var 1) (.lit 0) 21)) (.rcons (.vint .u8 (.icell (.var 1) (.lit 0) 22)) (.rcons (.vint .u8 (.icell (.var 1) (.lit 0) 23)) (.rcons (.vint .u8 (.icell (.var 1) (.lit 0) 24)) (.rcons (.vint .u8 (.icell (.var 1) (.lit 0) 25)) (.rcons (.vint .u8 (.icell (.var 1) (.lit 0) 26)) (.rcons (.vint .u8 (.icell (.var 1) (.lit 0) 27)) (.rcons (.vint .u8 (.icell (.var 1) (.lit 0) 28)) (.rcons (.vint .u8 (.icell (.var 1) (.lit 0) 29)) (.rcons (.vint .u8 (.icell (.var 1) (.lit 0) 30)) (.rcons (.vint .u8 (.icell (.var 1) (.lit 0) 31)) (.rcons (.vint .u8 (.icell (.var 1) (.lit 0) 32)) (.rcons (.vint .u8 (.icell (.var 1) (.lit 0) 33)) (.rcons (.vint .u8 (.icell (.var 1) (.lit 0) 34)) (.rcons (.vint .u8 (.icell (.var 1) (.lit 0) 35)) (.rcons (.vint .u8 (.icell (.var 1) (.lit 0) 36)) (.rcons (.vint .u8 (.icell (.var 1) (.lit 0) 37)) (.rcons (.vint .u8 (.icell (.var 1) (.lit 0) 38)) (.rcons (.vint .u8 (.icell (.var 1) (.lit 0) 39)) (.rcons (.vint .u8 (.icell (.var 1) (.lit 0) 40)) (.rcons (.vint .u8 (.icell (.var 1) (.lit 0) 41)) (.rcons (.vint .u8 (.icell (.var 1) (.lit 0) 42)) (.rcons (.vint .u8 (.icell (.var 1) (.lit 0) 43)) (.rcons (.vint .u8 (.icell (.var 1) (.lit 0) 44)) (.rcons (.vint .u8 (.icell (.var 1) (.lit 0) 45)) (.rcons (.vint .u8 (.icell (.var 1) (.lit 0) 46)) (.rcons (.vint .u8 (.icell (.var 1) (.lit 0) 47)) (.rcons (.vint .u8 (.icell (.var 1) (.lit 0) 48)) (.rcons (.vint .u8 (.icell (.var 1) (.lit 0) 49)) (.rcons (.vint .u8 (.icell (.var 1) (.lit 0) 50)) (.rcons (.vint .u8 (.icell (.var 1) (.lit 0) 51)) (.rcons (.vint .u8 (.icell (.var 1) (.lit 0) 52)) (.rcons (.vint .u8 (.icell (.var 1) (.lit 0) 53)) (.rcons (.vint .u8 (.icell (.var 1) (.lit 0) 54)) (.rcons (.vint .u8 (.icell (.var 1) (.lit 0) 55)) (.rcons (.vint .u8 (.icell (.var 1) (.lit 0) 56)) (.rcons (.vint .u8 (.icell (.var 1) (.lit 0) 57)) (.rcons (.vint .u8 (.icell (.var 1) (.lit 0) 58)) (.rcons (.vint .u8 (.icell (.var 1) (.lit 0) 59)) (.rcons (.vint .u8 (.icell (.var 1) (.lit 0) 60)) (.rcons (.vint .u8 (.icell (.var 1) (.lit 0) 61)) (.rcons (.vint .u8 (.icell (.var 1) (.lit 0) 62)) (.rcons (.vint .u8 (.icell (.var 1) (.lit 0) 63)) (.rcons (.vint .u8 (.icell (.var 1) (.lit 0) 64)) (.rcons (.vint .u8 (.icell (.var 1) (.lit 0) 65)) (.rcons (.vint .u8 (.icell (.var 1) (.lit 0) 66)) (.rcons (.vint .u8 (.icell (.var 1) (.lit 0) 67)) (.rcons (.vint .u8 (.icell (.var 1) (.lit 0) 68)) (.rcons (.vint .u8 (.icell (.var 1) (.lit 0) 69)) (.rcons (.vint .u8 (.icell (.var 1) (.lit 0) 70)) (.rcons (.vint .u8 (.icell (.var 1) (.lit 0) 71)) (.rcons (.vint .i64 (.icell (.var 1) (.lit 0) 72)) .rnil))))))))))))))))))))))))))))))))))))))))))))))))))))))))))))))))))))))))),bt 1008 (.lit 0),bt 1007 (.arith .mul .u64 (.conv .u64 (.icell (.var 1) (.lit 0) 72)) (.lit 8)),bt 1006 (.arith .sub .i64 (.lit 64) (.arith .rem .i64 (.arith .add .i64 (.icell (.var 1) (.lit 0) 72) (.lit 8)) (.lit 64))),bg 1004 6,bg 1002 5,bg 1000 4]) (.fresh 7 (.fresh 8 (.fresh 9 (.fresh 10 (.fresh 11 (.fresh 12 (.fresh 13 (.fresh 14 (.fresh 15 (.hyp 0 7 (.br (.cmp .lss (.var 15) (.lit 8))
 (.need (.cmp .geq (.arith .sub .i64 (.lit 56) (.arith .mul .i64 (.lit 8) (.var 15))) (.lit 0)) (.need (.cmp .leq (.lit 0) (.arith .add .i64 (.var 13) (.var 15))) (.need (.cmp .lss (.arith .add .i64 (.var 13) (.var 15)) (.lit 72)) (.need (.cmp .lss (.lit 0) (.dlen (.var 12))) (.back 0 7 (sg 1000 [bt 1005 (.c3 (.xput 0) (.var 12) (.arith .add .i64 (.var 13) (.var 15)) (.vint .u8 (.conv .u8 (.arith .shr .u64 (.var 14) (.arith .sub .i64 (.lit 56) (.arith .mul .i64 (.lit 8) (.var 15))))))),bv 1003 10,bt 1008 (.arith .add .i64 (.var 15) (.lit 1)),bv 1007 14,bv 1006 13,bg 1004 11,bg 1002 9,bg 1000 7]))))))
 (.need (.cmp .leq (.lit 0) (.arith .add .i64 (.var 13) (.lit 8))) (.need (.cmp .leq (.arith .add .i64 (.var 13) (.lit 8)) (.lit 72)) (.need (.cmp .lss (.lit 0) (.dlen (.var 12))) (.pre 0 qwR (.both (.fresh 16 (.post 0 0 qwR 16 (.fresh 17 (.inv 1 18 (sg 1000 [bt 1005 z8,bv 1003 16,bt 1006 (.lit 0),bg 1004 17,bg 1002 9,bg 1000 7]) (.fresh 18 (.fresh 19 (.fresh 20 (.fresh 21 (.fresh 22 (.fresh 23 (.fresh 24 (.hyp 1 18 (.br (.cmp .lss (.var 24) (.lit 32))
 (.need (.cmp .lss (.lit 0) (.dlen (.var 21))) (.need (.cmp .leq (.lit 0) (.arith .quo .i64 (.var 24) (.lit 4))) (.need (.cmp .lss (.arith .quo .i64 (.var 24) (.lit 4)) (.lit 8)) (.need (.cmp .geq (.arith .sub .i64 (.lit 24) (.arith .mul .i64 (.lit 8) (.arith .rem .i64 (.var 24) (.lit 4)))) (.lit 0)) (.need (.cmp .leq (.lit 0) (.var 24)) (.need (.cmp .lss (.lit 0) (.dlen (.var 23))) (.back 1 18 (sg 1000 [bt 1005 (.c3 (.xput 0) (.var 23) (.var 24) (.vint .u8 (.conv .u8 (.arith .shr .u32 (.c2 (.xint 0) (.var 21) (.arith .quo .i64 (.var 24) (.lit 4))) (.arith .sub .i64 (.lit 24) (.arith .mul .i64 (.lit 8) (.arith .rem .i64 (.var 24) (.lit 4)))))))),bv 1003 21,bt 1006 (.arith .add .i64 (.var 24) (.lit 1)),bg 1004 22,bg 1002 20,bg 1000 18]))))))))
 (.need (.cmp .lss (.lit 0) (.dlen (.var 23))) (.ret 0 (sg 4 [bt 4 (.rcons (.vint .u8 (.icell (.var 23) (.lit 0) 0)) (.rcons (.vint .u8 (.icell (.var 23) (.lit 0) 1)) (.rcons (.vint .u8 (.icell (.var 23) (.lit 0) 2)) (.rcons (.vint .u8 (.icell (.var 23) (.lit 0) 3)) (.rcons (.vint .u8 (.icell (.var 23) (.lit 0) 4)) (.rcons (.vint .u8 (.icell (.var 23) (.lit 0) 5)) (.rcons (.vint .u8 (.icell (.var 23) (.lit 0) 6)) (.rcons (.vint .u8 (.icell (.var 23) (.lit 0) 7)) (.rcons (.vint .u8 (.icell (.var 23) (.lit 0) 8)) (.rcons (.vint .u8 (.icell (.var 23) (.lit 0) 9)) (.rcons (.vint .u8 (.icell (.var 23) (.lit 0) 10)) (.rcons (.vint .u8 (.icell (.var 23) (.lit 0) 11)) (.rcons (.vint .u8 (.icell (.var 23) (.lit 0) 12)) (.rcons (.vint .u8 (.icell (.var 23) (.lit 0) 13)) (.rcons (.vint .u8 (.icell (.var 23) (.lit 0) 14)) (.rcons (.vint .u8 (.icell (.var 23) (.lit 0) 15)) (.rcons (.vint .u8 (.icell (.var 23) (.lit 0) 16)) (.rcons (.vint .u8 (.icell (.var 23) (.lit 0) 17)) (.rcons (.vint .u8 (.icell (.var 23) (.lit 0) 18)) (.rcons (.vint .u8 (.icell (.var 23) (.lit 0) 19)) (.rcons (.vint .u8 (.icell (.var 23) (.lit 0) 20)) (.rcons (.vint .u8 (.icell (.var 23) (.lit 0) 21)) (.rcons (.vint .u8 (.icell (.var 23) (.lit 0) 22)) (.rcons (.vint .u8 (.icell (.var 23) (.lit 0) 23)) (.rcons (.vint .u8 (.icell (.var 23) (.lit 0) 24)) (.rcons (.vint .u8 (.icell (.var 23) (.lit 0) 25)) (.rcons (.vint .u8 (.icell (.var 23) (.lit 0) 26)) (.rcons (.vint .u8 (.icell (.var 23) (.lit 0) 27)) (.rcons (.vint .u8 (.icell (.var 23) (.lit 0) 28)) (.rcons (.vint .u8 (.icell (.var 23) (.lit 0) 29)) (.rcons (.vint .u8 (.icell (.var 23) (.lit 0) 30)) (.rcons (.vint .u8 (.icell (.var 23) (.lit 0) 31)) .rnil))))))))))))))))))))))))))))))))])))))))))))))))) .top))))))))))))))))))))))
theorem q4i:qk ⟨Tryz.prog,qfx,[qc5],[q2v,q4e]⟩ 100000 Tryz.f98 = qye:=by kernel_rfl
theorem q6H (hd:∀ c ∈ ([qc5]:List Ctr),c.ok Tryz.prog) (h:∀ ρ:Env,ρ.good->(qfx).pre ρ->qye.den ⟨Tryz.prog,qfx,[qc5],[q2v,q4e]⟩ ρ):(qfx).ok Tryz.prog :=
 qe Tryz.func98 (fun a w=>Tryz.call98 a w) hd 100000 (fun ρ hg hp=>by rw [q4i]; exact h ρ hg hp)
def qnH:Out:=(.fresh 8 (.pre 0 (sg 0 []) (.both (.fresh 9 (.fresh 10 (.post 0 0 (sg 0 []) 9 (.pre 1 (sg 0 [bv 9 7,bv 7 5,bv 6 4,bv 1 10,bv 5 3,bv 4 2,bv 3 1,bg 2 0,bg 0 9,bg 8 6]) (.both (.fresh 11 (.post 1 0 (sg 0 [bv 9 7,bv 7 5,bv 6 4,bv 1 10,bv 5 3,bv 4 2,bv 3 1,bg 2 0,bg 0 9,bg 8 6]) 11 (.pre 2 (sg 0 [bv 3 7,bv 1 11,bg 0 9,bg 2 6]) (.both (.fresh 12 (.post 2 0 (sg 0 [bv 3 7,bv 1 11,bg 0 9,bg 2 6]) 12 (.ret 0 (sg 8 [bt 8 (r8 12)])))) .top)))) .top))))) .top)))
theorem qvL:qk ⟨Tryz.prog,qaI,[qbi,qcv,qfx],[]⟩ 100000 Tryz.f59 = qnH:=by kernel_rfl
theorem q1m (hd:∀ c ∈ ([qbi,qcv,qfx]:List Ctr),c.ok Tryz.prog) (h:∀ ρ:Env,ρ.good->(qaI).pre ρ->qnH.den ⟨Tryz.prog,qaI,[qbi,qcv,qfx],[]⟩ ρ):(qaI).ok Tryz.prog :=
 qe Tryz.func59 (fun a w=>Tryz.call59 a w) hd 100000 (fun ρ hg hp=>by rw [qvL]; exact h ρ hg hp)
end Go.Proofs

set_option linter.unusedSimpArgs false
set_option linter.unusedVariables false
namespace Go.Proofs
open Go Go.Eng
theorem q2R:qeG.ok Tryz.prog:=q3B (by simp) fun ρ hg hp=>by
 obtain ⟨hx,n,n1,n2,hn⟩:=hp
 simp [qpL,qeG,qq3]
 rw [hn]
 have e1:=q4H ⟨n - 1,by omega⟩
 have e2:=q4Y ⟨n - 1,by omega⟩
 simp only [] at e1 e2
 have e3:(((n - 1:Nat):Int) + 1) = (n:Int):=by omega
 rw [e3] at e1 e2
 rw [e1]
 refine ⟨by omega,by rw [e2]; omega,fun k k1 k2 hk=>?_⟩
 obtain rfl:k = n:=by omega
 rw [<- e1]
 exact q50 hx n1 n2
set_option maxRecDepth 20000 in
set_option pp.deepTerms true in
set_option pp.maxSteps 1000000 in
theorem qxn:qdA.ok Tryz.prog:=q6p (by simp [q2R]) fun ρ hg hp=>by
 obtain ⟨hh,hgr,hgd⟩:=hp
 simp (config:={ maxSteps:=2000000 }) [quC,qdA,qz6,qxT,qxM,qzw,qeG,qq3,st8,q6R]
 refine ⟨⟨⟨_,rfl,rfl⟩,fun j hj=>absurd hj (by omega)⟩,fun w _ n _ a0 a1 hA=>⟨fun hlt=>?_,fun hge=>⟨?_,fun w _ n _ b0 b1 hB=>⟨fun hlt=>?_,fun hge=>⟨?_,⟨?_,?_,?_⟩,?_⟩⟩⟩⟩⟩
 ·obtain ⟨t,ht⟩:∃ t:Nat,n.i = t:=⟨n.i.toNat,by omega⟩
  have m0:qc .mul .i64 4 n.i = ((4 * t:Nat):Int):=by rw [qc0 (by omega) (by omega)]; omega
  have m1:qc .add .i64 (qc .mul .i64 4 n.i) 1 = ((4 * t + 1:Nat):Int):=by rw [m0,add64 (by omega) (by omega)]; omega
  have m2:qc .add .i64 (qc .mul .i64 4 n.i) 2 = ((4 * t + 2:Nat):Int):=by rw [m0,add64 (by omega) (by omega)]; omega
  have m3:qc .add .i64 (qc .mul .i64 4 n.i) 3 = ((4 * t + 3:Nat):Int):=by rw [m0,add64 (by omega) (by omega)]; omega
  have m5:qc .add .i64 n.i 1 = ((t + 1:Nat):Int):=by rw [add64 (by omega) (by omega)]; omega
  rw [m1,m2,m3,m0,m5]
  rw [ht,Int.toNat_natCast] at hA
  rw [ht]
  simp only [Int.toNat_natCast]
  have e1:=qZ hh.1
  have e2:=qZ hA.1
  refine ⟨by omega,by omega,by omega,by omega,by omega,by omega,by omega,by omega,by omega,by omega,by omega,by omega,⟨by omega,by omega,qpz hA (by omega) ?_⟩,by omega⟩
  rw [q2z,qyT (by rw [qt1]; omega),q4v (by omega),Nat.add_comm (4 * t) 8,Nat.add_comm (4 * t + 1) 8,Nat.add_comm (4 * t + 2) 8,Nat.add_comm (4 * t + 3) 8]
 ·have:n.i = 16:=by omega
  rw [this] at hA; exact hA
 ·obtain ⟨t,ht⟩:∃ t:Nat,n.i = ((16 + t:Nat):Int):=⟨n.i.toNat - 16,by omega⟩
  have m15:qc .sub .i64 n.i 15 = ((1 + t:Nat):Int):=by rw [qeO (by omega) (by omega)]; omega
  have m2:qc .sub .i64 n.i 2 = ((14 + t:Nat):Int):=by rw [qeO (by omega) (by omega)]; omega
  have m16:qc .sub .i64 n.i 16 = (t:Int):=by rw [qeO (by omega) (by omega)]; omega
  have m7:qc .sub .i64 n.i 7 = ((9 + t:Nat):Int):=by rw [qeO (by omega) (by omega)]; omega
  have m5:qc .add .i64 n.i 1 = ((16 + t + 1:Nat):Int):=by rw [add64 (by omega) (by omega)]; omega
  rw [m15,m2,m16,m7,m5]
  rw [ht,Int.toNat_natCast] at hB
  rw [ht]
  simp only [Int.toNat_natCast]
  have e2:=qZ hB.1
  refine ⟨by omega,by omega,by omega,by omega,by omega,⟨qeg hB (by omega),7,by omega,by omega,rfl⟩,fun r1 _ g1=>⟨⟨qeg hB (by omega),18,by omega,by omega,rfl⟩,fun r2 _ g2=>⟨⟨qeg hB (by omega),17,by omega,by omega,rfl⟩,fun r3 _ g3=>⟨⟨qeg hB (by omega),19,by omega,by omega,rfl⟩,fun r4 _ g4=>⟨by omega,by omega,by omega,by omega,by omega,⟨by omega,by omega,qpz hB (by omega) ?_⟩,by omega⟩⟩⟩⟩⟩
  rw [g1 7 (by omega) (by omega) rfl,g2 18 (by omega) (by omega) rfl,g3 17 (by omega) (by omega) rfl,g4 19 (by omega) (by omega) rfl]
  rw [q8t (qeg hB (by omega)),q7Y (qeg hB (by omega))]
  simp only [qmi,q4G,qfc]
  rw [qhD hB (by omega:1 + t < 16 + t),qhD hB (by omega:14 + t < 16 + t),qhD hB (by omega:t < 16 + t),qhD hB (by omega:9 + t < 16 + t),qw5 qt1 (by omega)]
  generalize (qap (qd5 (ρ 1).d) 48).getD (1 + t) 0 = p1
  generalize (qap (qd5 (ρ 1).d) 48).getD (14 + t) 0 = p14
  generalize (qap (qd5 (ρ 1).d) 48).getD (9 + t) 0 = p9
  generalize (qap (qd5 (ρ 1).d) 48).getD t 0 = p0
  refine congrArg ofW ?_
  simp only [sg0,sg1]
  ac_rfl
 ·rw [qZ hh.1]; decide
 ·have:n.i = 64:=by omega
  rw [this] at hB; exact hB
 ·simp only [qef]
  exact ⟨hh.2.1 0 (by omega),hh.2.1 1 (by omega),hh.2.1 2 (by omega),hh.2.1 3 (by omega),hh.2.1 4 (by omega),hh.2.1 5 (by omega),hh.2.1 6 (by omega),hh.2.1 7 (by omega)⟩
 ·simp only [qef]; rfl
 ·intro w _ n _ A _ B _ C _ D _ E _ F _ G _ H _ d0 d1 hW iA iB iC iD iE iF iG iH hR
  refine ⟨fun hlt=>?_,fun hge=>⟨⟨?_,?_,hh,fun j hj=>absurd hj (by omega)⟩,?_⟩⟩
  ·obtain ⟨t,ht⟩:∃ t:Nat,n.i = t:=⟨n.i.toNat,by omega⟩
   have m5:qc .add .i64 n.i 1 = ((t + 1:Nat):Int):=by rw [add64 (by omega) (by omega)]; omega
   rw [m5]
   rw [ht,Int.toNat_natCast] at hR
   rw [ht]
   simp only [Int.toNat_natCast]
   have e1:=qZ hW.1
   refine ⟨⟨iE,6,by omega,by omega,rfl⟩,fun r1 _ g1=>⟨⟨iE,11,by omega,by omega,rfl⟩,fun r2 _ g2=>⟨⟨iE,25,by omega,by omega,rfl⟩,fun r3 _ g3=>⟨hgr,by omega,by rw [hgd]; decide,by omega,⟨iA,2,by omega,by omega,rfl⟩,fun r4 _ g4=>⟨⟨iA,13,by omega,by omega,rfl⟩,fun r5 _ g5=>⟨⟨iA,22,by omega,by omega,rfl⟩,fun r6 _ g6=>⟨⟨by omega,by omega,hW,⟨?_,iA,iB,iC,?_,iE,iF,iG⟩,?_⟩,by omega⟩⟩⟩⟩⟩⟩⟩
   ·rw [qmi]; exact qmj
   ·rw [qmi]; exact qmj
   ·rw [g1 6 (by omega) (by omega) rfl,g2 11 (by omega) (by omega) rfl,g3 25 (by omega) (by omega) rfl,g4 2 (by omega) (by omega) rfl,g5 13 (by omega) (by omega) rfl,g6 22 (by omega) (by omega) rfl]
    simp only [qmi,q4G,q7M,q21,qfc,q6B,q5J]
    rw [qhD hW (by omega),hgd,q0r (by omega),qsL,<- hR,qyG (by omega)]
    rfl
  ·intro j hj
   match j,hj with
   | 0,_=>exact iA
   | 1,_=>exact iB
   | 2,_=>exact iC
   | 3,_=>exact iD
   | 4,_=>exact iE
   | 5,_=>exact iF
   | 6,_=>exact iG
   | 7,_=>exact iH
  ·have:n.i = 64:=by omega
   rw [this] at hR; exact hR
  ·intro v _ n2 _ d _ f0 f1 hv hR2 hd hlo hhi
   have hrow:∀ j,j < 8->qa [[.int .u32 (qa v.d 0),.int .u32 (qa v.d 1),.int .u32 (qa v.d 2),.int .u32 (qa v.d 3),.int .u32 (qa v.d 4),.int .u32 (qa v.d 5),.int .u32 (qa v.d 6),.int .u32 (qa v.d 7)]] j = qa v.d j:=fun j hj=>q8m (f:=qa v.d) hj
   generalize [[Value.int .u32 (qa v.d 0),.int .u32 (qa v.d 1),.int .u32 (qa v.d 2),.int .u32 (qa v.d 3),.int .u32 (qa v.d 4),.int .u32 (qa v.d 5),.int .u32 (qa v.d 6),.int .u32 (qa v.d 7)]] = e at hrow ⊢
   refine ⟨fun hlt=>?_,fun hge=>⟨hd,?_,fun j hj=>hhi j (by omega)⟩⟩
   ·obtain ⟨t,ht⟩:∃ t:Nat,n2.i = t:=⟨n2.i.toNat,by omega⟩
    have m5:qc .add .i64 n2.i 1 = ((t + 1:Nat):Int):=by rw [add64 (by omega) (by omega)]; omega
    rw [m5]
    rw [ht] at hlo hhi ⊢
    simp only [Int.toNat_natCast]
    have e1:=qZ hd.1
    refine ⟨by omega,by omega,⟨by omega,by omega,fun j hj=>by rw [hrow j hj]; exact hv j hj,by rw [qpd hrow]; exact hR2,qwt hd (by omega) (by rw [qmi]; exact qmj),fun j hj=>?_,fun j hj=>?_⟩,by omega⟩
    ·by_cases ej:j = t
     ·rw [ej,qeo hd.1 (by omega),qmi,hhi t (by omega),hrow t (by omega)]
     ·rw [qaQ ej,hlo j (by omega),hrow j (by omega)]
    ·rw [qaQ (by omega),hhi j (by omega)]
   ·have hc:∀ j,j < 8->toW (qa d.d j) = toW (qa (ρ 1).d j) + toW (qa v.d j):=fun j hj=>by rw [hlo j (by omega),qfc]
    have h8:∀ (x:List (List Value)),quB (qf x 8) = ⟨toW (qa x 0),toW (qa x 1),toW (qa x 2),toW (qa x 3),toW (qa x 4),toW (qa x 5),toW (qa x 6),toW (qa x 7)⟩:=fun x=>rfl
    unfold qjo
    rw [<- hR2]
    simp only [stW,h8,q6K]
    rw [hc 0 (by omega),hc 1 (by omega),hc 2 (by omega),hc 3 (by omega),hc 4 (by omega),hc 5 (by omega),hc 6 (by omega),hc 7 (by omega)]
end Go.Proofs

set_option linter.unusedSimpArgs false
set_option linter.unusedVariables false
namespace Go.Proofs
open Go Go.Eng
set_option maxRecDepth 20000 in
theorem qoI:qbi.ok Tryz.prog:=qzg (by simp) fun ρ hg hp=>by
 simp [ql0,qbi]
 exact qzv
theorem qus:qcv.ok Tryz.prog:=q2u (by simp [qxn]) fun ρ hg hp=>by
 obtain ⟨⟨m0,hm0,hl0⟩,o0,l0,lc,l1,hle,hB,hGr,hGd⟩:=hp
 simp (config:={ maxSteps:=2000000 }) [qq7,qcv,qtj,qdA,gOk]
 have hnil:=qZ hm0.1.1
 refine ⟨fun h=>by rw [h] at hnil; simp at hnil,fun _=>⟨⟨l0,lc,fun m h=>by simpa [qbX] using h⟩,fun o _ l _ c _ d _ a0 a1 a2 a3 hH=>⟨a0,fun hpos=>?_,fun hz m h=>?_⟩⟩⟩
 ·have hM:=hH m0 hm0
  obtain ⟨O,hO⟩:∃ O:Nat,(ρ 3).i = O:=⟨(ρ 3).i.toNat,by omega⟩
  obtain ⟨L,hL⟩:∃ L:Nat,l.i = L:=⟨l.i.toNat,by omega⟩
  obtain ⟨A,hA⟩:∃ A:Nat,(ρ 4).i - l.i = A:=⟨((ρ 4).i - l.i).toNat,by omega⟩
  have ho:=a3 hpos
  rw [hA] at ho
  rw [hO,hA] at hH hM
  have hOA:O + A + L <= (ρ 6).d.length:=by omega
  have hsl:=q3A (d:=(ρ 6).d) (o:=O) (a:=A) (by omega)
  have hML:qa d.d 72 = ((m0 ++ qbX (ρ 6).d O A).length:Nat):=hM.2.2.1
  have hMl:(m0 ++ qbX (ρ 6).d O A).length = m0.length + A:=by rw [List.length_append,hsl]
  have hrem:qc .rem .i64 (qg d.d 0 72) 64 = (((m0.length + A) % 64:Nat):Int):=by rw [qef,hML,hMl,qz2]
  rw [hrem]
  obtain ⟨r,hr⟩:∃ r,(m0.length + A) % 64 = r:=⟨_,rfl⟩
  have hrlt:r < 64:=by omega
  rw [hr]
  obtain ⟨n,hn⟩:∃ n:Nat,(if l.i < 64 - (r:Int) then l.i else 64 - (r:Int)) = (n:Int):=by
   split
   ·exact ⟨L,hL⟩
   ·exact ⟨64 - r,by omega⟩
  have hnL:n <= L/\r + n <= 64/\0 < n/\(r + n = 64∨n = L):=by split at hn <;> omega
  rw [hn]
  have hoff:(if (64:Int) = (r:Int) then (8:Int) else 8 + (r:Int)).toNat = 8 + r:=by
   rw [if_neg (by omega)]; omega
  have hx:List.take ((n:Nat):Int).toNat (List.take l.i.toNat (List.drop o.i.toNat (ρ 6).d)) = ((ρ 6).d.drop (O + A)).take n:=by
   rw [List.take_take,Int.toNat_natCast,show min n l.i.toNat = n by omega,show o.i.toNat = O + A by omega]
  rw [hoff,hx]
  obtain ⟨x,hxe⟩:∃ x,((ρ 6).d.drop (O + A)).take n = x:=⟨_,rfl⟩
  have hxl:x.length = n:=by rw [<- hxe,List.length_take,List.length_drop]; omega
  have hxB:q9 x:=by rw [<- hxe]; exact q3b hB
  have hmore:∀ m:List Int,(m ++ qbX (ρ 6).d O A) ++ bI x = m ++ qbX (ρ 6).d (ρ 3).i ((ρ 4).i - (l.i - (n:Int))):=fun m=>by
   rw [List.append_assoc,<- hxe,q0D (by omega),hO,show (ρ 4).i - (l.i - (n:Int)) = ((A + n:Nat):Int) by omega]
  have hmod:∀ m,qah (ρ 1).d m->(m ++ qbX (ρ 6).d O A).length % 64 = r:=fun m h=>by
   rw [List.length_append,hsl,qke h hm0]; exact hr
  rw [hxe,qrE hM.1 (by omega) (by omega) (by omega) (by omega)]
  have hsum:qc .add .i64 (r:Int) (n:Int) = ((r + n:Nat):Int):=by rw [add64 (by omega) (by omega)]; omega
  rw [hsum]
  have hd1:=qZ hM.1.1
  have hcame:=qil hM.1 hxB (r:=r) (by omega)
  have hlast:((n:Int) < l.i->(if c.i = (n:Int) then o.i else o.i + (n:Int)) = (ρ 3).i + ((ρ 4).i - (l.i - (n:Int)))):=fun hlt=>by
   rw [if_neg (by omega)]; omega
  refine ⟨by omega,by omega,by omega,by omega,by omega,by omega,by omega,by omega,by omega,by omega,by omega,by omega,fun hfull=>⟨⟨hcame.row,hGr,hGd⟩,fun f _ hf hst hk=>⟨⟨by omega,by omega,by omega,hlast,fun m h=>?_⟩,by omega⟩⟩,fun hnot=>⟨⟨by omega,by omega,by omega,hlast,fun m h=>?_⟩,by omega⟩⟩
  ·rw [<- hmore m]
   exact qr8 (hH m h) hxB (hmod m h) (by omega) hf hst (hk 72 (by omega))
  ·rw [<- hmore m]
   exact qrB (hH m h) hxB (hmod m h) (by omega)
 ·have hl:l.i = 0:=by omega
  have:=hH m h
  rw [hl,Int.sub_zero] at this
  exact this
set_option maxRecDepth 20000 in
theorem qxR:qc5.ok Tryz.prog:=qyb (by simp [qxn]) fun ρ hg hp=>by
 obtain ⟨⟨m0,hm0,hl0⟩,l0,l1,lc,hrow,hB,hGr,hGd⟩:=hp
 simp (config:={ maxSteps:=2000000 }) [qkP,qc5,qni,qdA,gOk]
 have hnil:=qZ hm0.1.1
 have hnil5:=qZ hrow
 refine ⟨fun h=>by rw [h] at hnil; simp at hnil,fun _=>⟨⟨l0,lc,fun m h=>by simpa [qd7] using h⟩,fun o _ l _ c _ d _ a0 a1 a2 a3 hH=>⟨a0,fun hpos=>?_,fun hz m h=>?_⟩⟩⟩
 ·have hM:=hH m0 hm0
  obtain ⟨L,hL⟩:∃ L:Nat,l.i = L:=⟨l.i.toNat,by omega⟩
  obtain ⟨A,hA⟩:∃ A:Nat,(ρ 3).i - l.i = A:=⟨((ρ 3).i - l.i).toNat,by omega⟩
  have ho:=a3 hpos
  rw [hA] at ho
  rw [hA] at hH hM
  have hsl:=qu9 (d:=(ρ 5).d) (a:=A) (by omega)
  have hML:qa d.d 72 = ((m0 ++ qd7 (ρ 5).d 0 A).length:Nat):=hM.2.2.1
  have hMl:(m0 ++ qd7 (ρ 5).d 0 A).length = m0.length + A:=by rw [List.length_append,hsl]
  have hrem:qc .rem .i64 (qg d.d 0 72) 64 = (((m0.length + A) % 64:Nat):Int):=by rw [qef,hML,hMl,qz2]
  rw [hrem]
  obtain ⟨r,hr⟩:∃ r,(m0.length + A) % 64 = r:=⟨_,rfl⟩
  have hrlt:r < 64:=by omega
  rw [hr]
  obtain ⟨n,hn⟩:∃ n:Nat,(if l.i < 64 - (r:Int) then l.i else 64 - (r:Int)) = (n:Int):=by
   split
   ·exact ⟨L,hL⟩
   ·exact ⟨64 - r,by omega⟩
  have hnL:n <= L/\r + n <= 64/\0 < n/\(r + n = 64∨n = L):=by split at hn <;> omega
  rw [hn]
  have hoff:(if (64:Int) = (r:Int) then (8:Int) else 8 + (r:Int)).toNat = 8 + r:=by
   rw [if_neg (by omega)]; omega
  have hx:List.take ((n:Nat):Int).toNat (qaW (ρ 5).d o.i.toNat l.i.toNat) = qaW (ρ 5).d A n:=by
   rw [Int.toNat_natCast,qyh (by omega),show o.i.toNat = A by omega]
  rw [hoff,hx]
  obtain ⟨x,hxe⟩:∃ x,qaW (ρ 5).d A n = x:=⟨_,rfl⟩
  have hxl:x.length = n:=by rw [<- hxe,qkJ hrow (by omega)]
  have hxB:q9 x:=by rw [<- hxe]; exact qoF hrow hB
  have hmore:∀ m:List Int,(m ++ qd7 (ρ 5).d 0 A) ++ bI x = m ++ qd7 (ρ 5).d 0 ((ρ 3).i - (l.i - (n:Int))):=fun m=>by
   rw [List.append_assoc,<- hxe,qnA hrow,q1j,show (ρ 3).i - (l.i - (n:Int)) = ((A + n:Nat):Int) by omega]
  have hmod:∀ m,qah (ρ 1).d m->(m ++ qd7 (ρ 5).d 0 A).length % 64 = r:=fun m h=>by
   rw [List.length_append,hsl,qke h hm0]; exact hr
  rw [hxe,qrE hM.1 (by omega) (by omega) (by omega) (by omega)]
  have hsum:qc .add .i64 (r:Int) (n:Int) = ((r + n:Nat):Int):=by rw [add64 (by omega) (by omega)]; omega
  rw [hsum]
  have hd1:=qZ hM.1.1
  have hcame:=qil hM.1 hxB (r:=r) (by omega)
  have hlast:((n:Int) < l.i->(if c.i = (n:Int) then o.i else o.i + (n:Int)) = (ρ 3).i - (l.i - (n:Int))):=fun hlt=>by
   rw [if_neg (by omega)]; omega
  refine ⟨by omega,by omega,by omega,by omega,by omega,by omega,by omega,by omega,by omega,by omega,by omega,by omega,by omega,fun hfull=>⟨⟨hcame.row,hGr,hGd⟩,fun f _ hf hst hk=>⟨⟨by omega,by omega,by omega,hlast,fun m h=>?_⟩,by omega⟩⟩,fun hnot=>⟨⟨by omega,by omega,by omega,hlast,fun m h=>?_⟩,by omega⟩⟩
  ·rw [<- hmore m]
   exact qr8 (hH m h) hxB (hmod m h) (by omega) hf hst (hk 72 (by omega))
  ·rw [<- hmore m]
   exact qrB (hH m h) hxB (hmod m h) (by omega)
 ·have hl:l.i = 0:=by omega
  have:=hH m h
  rw [hl,Int.sub_zero] at this
  exact this
set_option maxRecDepth 20000 in
set_option maxHeartbeats 800000 in
theorem q0M:qfx.ok Tryz.prog:=q6H (by simp [qxR]) fun ρ hg hp=>by
 obtain ⟨⟨m0,hm0,hl0⟩,hGr,hGd⟩:=hp
 simp (config:={ maxSteps:=2000000 }) [qye,qfx,q2v,q4e,qc5,gOk]
 have hnil:=qZ hm0.1.1
 have hL:qa (ρ 1).d 72 = (m0.length:Int):=hm0.2.2.1
 have hlen:∀ m,qah (ρ 1).d m->m.length = m0.length:=fun m h=>qke h hm0
 have hn8:qc .sub .i64 64 (qc .rem .i64 (qc .add .i64 (qg (ρ 1).d 0 72) 8) 64) = 64 - (qa (ρ 1).d 72 + 8) % 64:=by
  rw [qef,add64 (by omega) (by omega),hL,show ((m0.length:Int) + 8) = ((m0.length + 8:Nat):Int) by omega,qz2,qeO (by omega) (by omega)]
  omega
 refine ⟨fun h=>by rw [h] at hnil; simp at hnil,fun _=>⟨by omega,⟨?_,?_,hn8,?_,⟨_,rfl,rfl⟩,fun j hj=>?_⟩,fun d _ p _ n _ v _ t _ t0 t1 hd1 hd2 hn hv hp1 hp2=>⟨fun hlt=>?_,fun hge=>⟨?_,?_,?_,?_,fun f _ hf=>⟨?_,fun e _ g _ t _ u0 u1 he hst hg1 hg2=>⟨fun hlt=>?_,fun hge=>⟨?_,fun m h=>?_⟩⟩⟩⟩⟩⟩⟩
 ·exact qsr (f:=qg (ρ 1).d 0)
 ·intro j hj
  exact (qsh (f:=qg (ρ 1).d 0) hj).trans qef
 ·rw [qef,hL]
  have h1:IntKind.u64.wrap (m0.length:Int) = m0.length:=by simp [IntKind.wrap,IntKind.bits,IntKind.signed]; omega
  rw [h1]
  show IntKind.u64.wrap ((m0.length:Int) * 8) = _
  simp [IntKind.wrap,IntKind.bits,IntKind.signed]; omega
 ·have hz:∀ j:Fin 72,qa [Value.int .u8 128 :: List.replicate 71 (Value.int .u8 0)] j.val = if j.val = 0 then 128 else 0:=by decide +kernel
  refine (hz ⟨j,hj⟩).trans ?_
  by_cases e:j = 0
  ·rw [if_pos e,if_pos e]
  ·rw [if_neg e,if_neg e,if_neg (by omega)]
 ·obtain ⟨T,hT⟩:∃ T:Nat,t.i = T:=⟨t.i.toNat,by omega⟩
  obtain ⟨N,hN⟩:∃ N:Nat,n.i = N:=⟨n.i.toNat,by omega⟩
  have m1:qc .sub .i64 56 (qc .mul .i64 8 t.i) = ((8 * (7 - T):Nat):Int):=by rw [qc0 (by omega) (by omega),qeO (by omega) (by omega)]; omega
  have m2:qc .add .i64 n.i t.i = ((N + T:Nat):Int):=by rw [add64 (by omega) (by omega)]; omega
  have m3:qc .add .i64 t.i 1 = ((T + 1:Nat):Int):=by rw [add64 (by omega) (by omega)]; omega
  rw [m1,m2,m3,hT,hN,qwG (by omega),qiw,hv]
  rw [hT,hN] at hp2
  have e1:=qZ hp1
  simp only [Int.toNat_natCast] at hp2 ⊢
  refine ⟨by omega,by omega,by omega,by omega,⟨by omega,by omega,hd1,hd2,by omega,trivial,qe5 hp1,fun j hj=>?_⟩,by omega⟩
  by_cases ej:j = N + T
  ·rw [ej,qeo hp1 (by omega),if_neg (by omega),if_pos ⟨by omega,by omega⟩,qxo (by omega),show N + T - N = T by omega,show 8 - 1 - T = 7 - T by omega]
  ·rw [qaQ ej,hp2 j hj]
   by_cases e0:j = 0
   ·rw [if_pos e0,if_pos e0]
   ·rw [if_neg e0,if_neg e0]
    by_cases e2:(N:Int) <= j/\j < N + T
    ·rw [if_pos e2,if_pos ⟨e2.1,by omega⟩]
    ·rw [if_neg e2,if_neg (by omega)]
 ·rw [add64 (by omega) (by omega)]; omega
 ·rw [add64 (by omega) (by omega)]; omega
 ·rw [qZ hp1]; decide
 ·refine ⟨⟨m0,qiM hm0 hd1 hd2,hl0⟩,by rw [add64 (by omega) (by omega)]; omega,by rw [add64 (by omega) (by omega)]; omega,hp1,fun x hx=>?_,hGr,hGd⟩
  obtain ⟨j,hj,rfl⟩:=q3r hx
  rw [hp2 j hj]
  split
  ·omega
  ·split
   ·rw [qxo (by omega)]; omega
   ·omega
 ·have hpad:∀ m,qah (ρ 1).d m->m ++ qd7 p.d 0 (qc .add .i64 n.i 8) = qqd m:=fun m h=>by
   have h1:=hlen m h
   have h8:t.i = 8:=by omega
   obtain ⟨N,hN⟩:∃ N:Nat,n.i = N:=⟨n.i.toNat,by omega⟩
   rw [hN,add64 (by omega) (by omega),show ((N:Int) + 8) = ((N + 8:Nat):Int) by omega]
   rw [q6t (n:=N) (v:=qa (ρ 1).d 72 * 8) (by omega) (by omega) hp1 (fun j hj=>by
    rw [hp2 j hj,hN,h8]
    by_cases e0:j = 0
    ·rw [if_pos e0,if_pos e0]
    ·rw [if_neg e0,if_neg e0]
     by_cases e2:(N:Int) <= j/\j < (N:Int).toNat + (8:Int).toNat
     ·rw [if_pos e2,if_pos ⟨by omega,by have:=e2.2; simp at this; omega⟩,Int.toNat_natCast]
     ·rw [if_neg e2,if_neg (by simp at e2; omega)])]
   rw [qqd,hL,h1,show N - 1 = 64 - (m0.length + 8) % 64 - 1 by omega]
  refine ⟨(hf m0 (qiM hm0 hd1 hd2)).1,fun m h=>?_,⟨_,rfl,rfl⟩,fun j hj=>absurd hj (by omega)⟩
  have:=hf m (qiM h hd1 hd2)
  rw [hpad m h] at this
  exact this.2.2.2.1
 ·obtain ⟨T,hT⟩:∃ T:Nat,t.i = T:=⟨t.i.toNat,by omega⟩
  have m3:qc .add .i64 t.i 1 = ((T + 1:Nat):Int):=by rw [add64 (by omega) (by omega)]; omega
  have m1:qc .sub .i64 24 (qc .mul .i64 8 (qc .rem .i64 t.i 4)) = ((24 - 8 * (T % 4):Nat):Int):=by
   rw [hT,q8w,qc0 (by omega) (by omega),qeO (by omega) (by omega)]; omega
  rw [m1,m3,hT,q81 (by omega),q5I (by omega),qiw]
  rw [hT] at hg2
  have e1:=qZ hg1
  have e2:=qZ he.1
  simp only [Int.toNat_natCast]
  refine ⟨by omega,by omega,by omega,by omega,by omega,by omega,⟨by omega,by omega,he,hst,qe5 hg1,fun j hj=>?_⟩,by omega⟩
  by_cases ej:j = T
  ·rw [ej,qeo hg1 (by omega),qyo he (by omega)]
  ·rw [qaQ ej,hg2 j (by omega)]
 ·rw [qZ hg1]; decide
 ·have h32:t.i = 32:=by omega
  have:sha m = qhE (stW e.d):=by rw [hst m h]; rfl
  rw [this]
  refine q5b qpa fun j hj=>?_
  exact (qmw (f:=qg g.d 0) hj).trans (qef.trans (hg2 j (by omega)))
set_option maxRecDepth 20000 in
theorem qlC:qaI.ok Tryz.prog:=q1m (by simp [qoI,qus,q0M]) fun ρ hg hp=>by
 obtain ⟨⟨o0,l0,lc,l1,hle,hB⟩,hGr,hGd⟩:=hp
 simp (config:={ maxSteps:=2000000 }) [qnH,qaI,qbi,qcv,qfx,gOk]
 refine fun h _ hh=>⟨⟨⟨[],hh,by decide⟩,o0,l0,lc,l1,hle,hB,hGr,hGd⟩,fun g _ hg2=>⟨⟨⟨_,hg2 [] hh,?_⟩,hGr,hGd⟩,fun d _ hd=>?_⟩⟩
 ·have:(qbX (ρ 4).d (ρ 1).i (ρ 2).i).length <= (ρ 2).i.toNat:=by simp [qbX]; omega
  simp only [List.nil_append]; omega
 ·exact (show qf _ 32 = qf d.d 32 from rfl).trans (hd _ (by simpa using hg2 [] hh))
end Go.Proofs

set_option linter.unusedSimpArgs false
set_option linter.unusedVariables false
namespace Go.Proofs
open Go Go.Eng
end Go.Proofs

set_option linter.unusedSimpArgs false
set_option linter.unusedVariables false
set_option maxRecDepth 100000
namespace Go.Proofs
open Go Go.Eng

def qtu:Out:=(.br (.var 2)
 (.ret 0 (sg 8 [bv 9 2,bt 8 (.bl false)]))
 (.need (.cmp .leq (.lit 0) (.var 4)) (.both (.ret 0 (sg 8 [bt 9 (.cmp .gtr (.var 7) (.arith .sub .i64 (.var 1) (.var 4))),bt 8 (.not (.cmp .gtr (.var 7) (.arith .sub .i64 (.var 1) (.var 4))))])) .top)))
theorem q1c:qk ⟨Tryz.prog,qck,[],[]⟩ 100000 Tryz.f132 = qtu:=by kernel_rfl
theorem q5n (hd:∀ c ∈ ([]:List Ctr),c.ok Tryz.prog) (h:∀ ρ:Env,ρ.good->(qck).pre ρ->qtu.den ⟨Tryz.prog,qck,[],[]⟩ ρ):(qck).ok Tryz.prog :=
 qe Tryz.func132 (fun a w=>Tryz.call132 a w) hd 100000 (fun ρ hg hp=>by rw [q1c]; exact h ρ hg hp)
def qnn:Out:=(.pre 0 (sg 0 [bv 6 6,bv 5 5,bv 4 4,bg 3 3,bv 2 2,bv 1 1,bv 7 8,bg 0 0]) (.both (.fresh 9 (.fresh 10 (.post 0 0 (sg 0 [bv 6 6,bv 5 5,bv 4 4,bg 3 3,bv 2 2,bv 1 1,bv 7 8,bg 0 0]) 9 (.br (.var 9)
 (.need (.beq (.bl false) (.var 10)) (.inv 0 11 (sg 1000 [bv 1003 6,bv 1002 5,bv 1001 4,bg 1000 3,bt 1004 (.arith .sub .i64 (.var 8) (.lit 1))]) (.fresh 11 (.fresh 12 (.fresh 13 (.fresh 14 (.fresh 15 (.hyp 0 11 (.br (.cmp .geq (.var 15) (.lit 0))
 (.need (.cmp .geq (.arith .mul .i64 (.lit 8) (.var 15)) (.lit 0)) (.both (.fresh 16 (.both (.need (.cmp .eql (.var 12) (.dlen (.var 14))) (.need (.cmp .leq (.tims (.lit 1) (.plus (.var 12) (.lit 1))) (.lit 140737488355328)) (.fresh 17 (.fresh 18 (.both (.both (.both (.back 0 11 (sg 1000 [bt 1003 (.dapp (.var 14) (.rcons (.vint .u8 (.conv .u8 (.arith .shr .u64 (.var 7) (.arith .mul .i64 (.lit 8) (.var 15))))) .rnil)),bv 1002 18,bt 1001 (.plus (.var 12) (.lit 1)),bg 1000 17,bt 1004 (.arith .sub .i64 (.var 15) (.lit 1))])) .top) .top) .top))))) .top)) .top))
 (.ret 0 (sg 9 [bv 13 14,bv 12 13,bv 11 12,bg 10 11,bt 9 (.bl false)])))))))))))
 (.ret 0 (sg 9 [bv 13 6,bv 12 5,bv 11 4,bg 10 3,bv 9 10])))))) .top))
theorem qwm:qk ⟨Tryz.prog,qbG,[qck],[qqQ]⟩ 100000 Tryz.f131 = qnn:=by kernel_rfl
theorem q0Q (hd:∀ c ∈ ([qck]:List Ctr),c.ok Tryz.prog) (h:∀ ρ:Env,ρ.good->(qbG).pre ρ->qnn.den ⟨Tryz.prog,qbG,[qck],[qqQ]⟩ ρ):(qbG).ok Tryz.prog :=
 qe Tryz.func131 (fun a w=>Tryz.call131 a w) hd 100000 (fun ρ hg hp=>by rw [qwm]; exact h ρ hg hp)
@[simp] def q1d:Sg:=sg 0 [bv 6 6,bv 5 5,bv 4 4,bg 3 3,bv 2 2,bv 1 1,bt 8 (.lit 1),bt 7 (.conv .u64 (.var 7)),bg 0 0]
def q2U:Out:=(.pre 0 q1d (.both (.fresh 8 (.fresh 9 (.fresh 10 (.fresh 11 (.fresh 12 (.post 0 0 q1d 8 (.ret 0 (sg 8 [bv 12 12,bv 11 11,bv 10 10,bg 9 9,bv 8 8])))))))) .top))
theorem q6k:qk ⟨Tryz.prog,u8C,[qbG],[]⟩ 100000 Tryz.f106 = q2U:=by kernel_rfl
theorem q7Z (hd:∀ c ∈ ([qbG]:List Ctr),c.ok Tryz.prog) (h:∀ ρ:Env,ρ.good->(u8C).pre ρ->q2U.den ⟨Tryz.prog,u8C,[qbG],[]⟩ ρ):(u8C).ok Tryz.prog :=
 qe Tryz.func106 (fun a w=>Tryz.call106 a w) hd 100000 (fun ρ hg hp=>by rw [q6k]; exact h ρ hg hp)
@[simp] def qxe:Sg:=sg 0 [bv 6 6,bv 5 5,bv 4 4,bg 3 3,bv 2 2,bv 1 1,bt 8 (.lit 2),bt 7 (.conv .u64 (.var 7)),bg 0 0]
def qyI:Out:=(.pre 0 qxe (.both (.fresh 8 (.fresh 9 (.fresh 10 (.fresh 11 (.fresh 12 (.post 0 0 qxe 8 (.ret 0 (sg 8 [bv 12 12,bv 11 11,bv 10 10,bg 9 9,bv 8 8])))))))) .top))
theorem q3U:qk ⟨Tryz.prog,qi8,[qbG],[]⟩ 100000 Tryz.f105 = qyI:=by kernel_rfl
theorem q7v (hd:∀ c ∈ ([qbG]:List Ctr),c.ok Tryz.prog) (h:∀ ρ:Env,ρ.good->(qi8).pre ρ->qyI.den ⟨Tryz.prog,qi8,[qbG],[]⟩ ρ):(qi8).ok Tryz.prog :=
 qe Tryz.func105 (fun a w=>Tryz.call105 a w) hd 100000 (fun ρ hg hp=>by rw [q3U]; exact h ρ hg hp)
def qi2:Out:=(.fresh 1 (.ret 0 (sg 1 [bt 2 (.imax (.lit 0) (.var 0)),bg 1 1])))
theorem qp6:qk ⟨Tryz.prog,qb3,[],[]⟩ 100000 Tryz.f104 = qi2:=by kernel_rfl
theorem qvo (hd:∀ c ∈ ([]:List Ctr),c.ok Tryz.prog) (h:∀ ρ:Env,ρ.good->(qb3).pre ρ->qi2.den ⟨Tryz.prog,qb3,[],[]⟩ ρ):(qb3).ok Tryz.prog :=
 qe Tryz.func104 (fun a w=>Tryz.call104 a w) hd 100000 (fun ρ hg hp=>by rw [qp6]; exact h ρ hg hp)
def qqG:Out:=(.pre 0 (sg 0 [bv 6 6,bv 5 5,bv 4 4,bg 3 3,bv 2 2,bv 1 1,bt 7 (.lit 32),bg 0 0]) (.both (.fresh 9 (.fresh 10 (.post 0 0 (sg 0 [bv 6 6,bv 5 5,bv 4 4,bg 3 3,bv 2 2,bv 1 1,bt 7 (.lit 32),bg 0 0]) 9 (.br (.var 9)
 (.need (.cmp .eql (.var 4) (.dlen (.var 6))) (.need (.cmp .lss (.lit 0) (.dlen (.var 8))) (.need (.cmp .leq (.tims (.lit 1) (.plus (.var 4) (.lit 32))) (.lit 140737488355328)) (.fresh 11 (.fresh 12 (.ret 0 (sg 9 [bt 13 (.dapp (.var 6) (.c3 .xrows (.var 8) (.lit 0) (.lit 32))),bv 12 12,bt 11 (.plus (.var 4) (.lit 32)),bg 10 11,bv 9 10])))))))
 (.ret 0 (sg 9 [bv 13 6,bv 12 5,bv 11 4,bg 10 3,bv 9 10])))))) .top))
theorem qzO:qk ⟨Tryz.prog,qeH,[qck],[]⟩ 100000 Tryz.f107 = qqG:=by kernel_rfl
theorem q32 (hd:∀ c ∈ ([qck]:List Ctr),c.ok Tryz.prog) (h:∀ ρ:Env,ρ.good->(qeH).pre ρ->qqG.den ⟨Tryz.prog,qeH,[qck],[]⟩ ρ):(qeH).ok Tryz.prog :=
 qe Tryz.func107 (fun a w=>Tryz.call107 a w) hd 100000 (fun ρ hg hp=>by rw [qzO]; exact h ρ hg hp)
def qtG:Out:=(.pre 0 (sg 0 [bv 6 6,bv 5 5,bv 4 4,bg 3 3,bv 2 2,bv 1 1,bt 7 (.lit 32),bg 0 0]) (.both (.fresh 9 (.fresh 10 (.post 0 0 (sg 0 [bv 6 6,bv 5 5,bv 4 4,bg 3 3,bv 2 2,bv 1 1,bt 7 (.lit 32),bg 0 0]) 9 (.br (.var 9)
 (.need (.cmp .eql (.var 4) (.dlen (.var 6))) (.need (.cmp .lss (.lit 0) (.dlen (.var 8))) (.need (.cmp .leq (.tims (.lit 1) (.plus (.var 4) (.lit 32))) (.lit 140737488355328)) (.fresh 11 (.fresh 12 (.ret 0 (sg 9 [bt 13 (.dapp (.var 6) (.c3 .xrows (.var 8) (.lit 4) (.lit 32))),bv 12 12,bt 11 (.plus (.var 4) (.lit 32)),bg 10 11,bv 9 10])))))))
 (.ret 0 (sg 9 [bv 13 6,bv 12 5,bv 11 4,bg 10 3,bv 9 10])))))) .top))
theorem q1S:qk ⟨Tryz.prog,qgz,[qck],[]⟩ 100000 Tryz.f107 = qtG:=by kernel_rfl
theorem q5p (hd:∀ c ∈ ([qck]:List Ctr),c.ok Tryz.prog) (h:∀ ρ:Env,ρ.good->(qgz).pre ρ->qtG.den ⟨Tryz.prog,qgz,[qck],[]⟩ ρ):(qgz).ok Tryz.prog :=
 qe Tryz.func107 (fun a w=>Tryz.call107 a w) hd 100000 (fun ρ hg hp=>by rw [q1S]; exact h ρ hg hp)
def qny:Out:=(.br (.and (.cmp .eql (.dlen (.var 3)) (.lit 0)) (.isnil 0))
 (.need (.cmp .eql (.var 1) (.lit 0)) (.ret 0 (sg 5 [bt 7 .dnil,bt 6 (.lit 0),(5,.nil)])))
 (.fresh 5 (.need (.cmp .leq (.lit 0) (.var 1)) (.need (.cmp .leq (.var 1) (.dlen (.var 3))) (.need (.cmp .leq (.tims (.lit 1) (.var 1)) (.lit 140737488355328)) (.fresh 6 (.fresh 7 (.ret 0 (sg 5 [bt 7 (.dtake (.var 3) (.var 1)),bv 6 7,bg 5 6])))))))))
theorem qv4:qk ⟨Tryz.prog,qbI,[],[]⟩ 100000 Tryz.f91 = qny:=by kernel_rfl
theorem q2j (hd:∀ c ∈ ([]:List Ctr),c.ok Tryz.prog) (h:∀ ρ:Env,ρ.good->(qbI).pre ρ->qny.den ⟨Tryz.prog,qbI,[],[]⟩ ρ):(qbI).ok Tryz.prog :=
 qe Tryz.func91 (fun a w=>Tryz.call91 a w) hd 100000 (fun ρ hg hp=>by rw [qv4]; exact h ρ hg hp)
def qqL:Out:=(.br (.var 2)
 (.ret 0 (sg 7 []))
 (.pre 0 (sg 0 [bv 4 5,bv 3 6,bv 2 5,bv 1 4,bg 0 3]) (.both (.fresh 7 (.fresh 8 (.fresh 9 (.post 0 0 (sg 0 [bv 4 5,bv 3 6,bv 2 5,bv 1 4,bg 0 3]) 7 (.ret 1 (sg 7 [bv 9 9,bv 8 8,bg 7 7])))))) .top)))
theorem qzR:qk ⟨Tryz.prog,qeI,[qbI],[]⟩ 100000 Tryz.f108 = qqL:=by kernel_rfl
theorem q3I (hd:∀ c ∈ ([qbI]:List Ctr),c.ok Tryz.prog) (h:∀ ρ:Env,ρ.good->(qeI).pre ρ->qqL.den ⟨Tryz.prog,qeI,[qbI],[]⟩ ρ):(qeI).ok Tryz.prog :=
 qe Tryz.func108 (fun a w=>Tryz.call108 a w) hd 100000 (fun ρ hg hp=>by rw [qzR]; exact h ρ hg hp)
end Go.Proofs

set_option linter.unusedSimpArgs false
set_option linter.unusedVariables false
namespace Go.Proofs
open Go Go.Eng
theorem qxX {lim:Int} {f:Bool} {m s:List Int} (h:qgg lim f m s.length = true):qf5 lim f m s = (true,m):=by rw [qf5,if_pos h]
theorem qkb {lim:Int} {f:Bool} {m s:List Int} (h:¬ qgg lim f m s.length = true):qf5 lim f m s = (false,m ++ s):=by rw [qf5,if_neg h]
theorem qq8:qck.ok Tryz.prog:=q5n (by simp) fun ρ hg hp=>by
 obtain ⟨⟨w0,w1,w2,w3,w5⟩,k0,k1⟩:=hp
 simp [qtu,qck,qbO,qeB,qgg]
 refine ⟨fun h=>⟨fun _=>h,h⟩,fun h=>⟨by omega,?_⟩⟩
 rw [qeO (by omega) (by omega),h,bI_len,<- w2]
 simp [qH]
theorem qsW:qb3.ok Tryz.prog:=qvo (by simp) fun ρ hg hp=>by
 simp [qi2,qb3]
 omega
theorem qr7:qbI.ok Tryz.prog:=q2j (by simp) fun ρ hg hp=>by
 obtain ⟨h0,h1,h2⟩:=hp
 simp [qny,qbI]
 refine ⟨fun h _=>⟨by rw [h] at h1; simpa using h1,h⟩,fun _=>⟨h0,by omega,h2,?_⟩⟩
 rw [List.take_of_length_le (by omega)]
theorem q37:qeI.ok Tryz.prog:=q3I (by simp [qr7]) fun ρ hg hp=>by
 obtain ⟨⟨w0,w1,w2,w3,w5⟩,hq⟩:=hp
 simp [qqL,qeI,qbI,qbO,qeB]
 exact fun hf=>⟨⟨by omega,w2,hq⟩,fun d _ hd=>⟨hf,hd⟩⟩
theorem qtL {a b:qd}:bI (a ++ b) = bI a ++ bI b:=by simp [bI]
theorem quU {a b:qd} (h:q9 a) (h':q9 b):q9 (a ++ b):=fun r hr=>(List.mem_append.1 hr).elim (h r) (h' r)
theorem q1o {lim n c k:Int} {f:Bool} {d x:qd} {s:List Int} (hw:wOk lim n c d) (h:qgg lim f (bI d) k = false) (hx:bI x = s) (hB:q9 x) (hk:(x.length:Int) = k) (c2:Int):wOk lim (n + k) c2 (d ++ x)/\(false,bI (d ++ x)) = qf5 lim f (bI d) s:=by
 obtain ⟨w0,w1,w2,w3,w5⟩:=hw
 have hs:(s.length:Int) = k:=by rw [<- hx,bI_len,hk]
 have hd:(bI d).length = d.length:=bI_len
 refine ⟨⟨w0,w1,by rw [List.length_append]; omega,?_,quU w5 hB⟩,?_⟩
 ·simp [qgg] at h; omega
 ·rw [qkb (by rw [hs,h]; decide),qtL,hx]
theorem qsT {lim k:Int} {f:Bool} {d:qd} {s:List Int} (h:qgg lim f (bI d) k = true) (hk:(s.length:Int) = k):(true,bI d) = qf5 lim f (bI d) s:=by rw [qxX (by rw [hk,h])]
theorem q3c:qeH.ok Tryz.prog:=q32 (by simp [qq8]) fun ρ hg hp=>by
 obtain ⟨hw,q,hr,hB⟩:=hp
 simp [qqG,qeH,qck,qbO,qeB,qgj]
 have w2:=hw.2.2.1
 refine ⟨hw,fun u _ f _ hf hu=>⟨fun h=>?_,fun h=>⟨hw,?_⟩⟩⟩
 ·have hff:f.b = false:=by rw [h] at hu; simpa using hu.symm
  rw [hff] at hf ⊢
  have hx:bI (qaW (ρ 8).d 0 32) = qf (ρ 8).d 32:=by rw [qnA hr,List.drop_zero,List.take_of_length_le (by rw [qdb]; decide)]
  refine ⟨w2,by rw [qZ hr]; decide,q,fun c _=>q1o hw hf.symm hx (qoF hr hB) (by rw [qkJ hr (by omega)]; rfl) _⟩
 ·have hff:f.b = true:=by rw [h] at hu; simpa using hu.symm
  rw [hff] at hf ⊢
  exact qsT hf.symm (by rw [qdb]; rfl)
theorem q5Y:qgz.ok Tryz.prog:=q5p (by simp [qq8]) fun ρ hg hp=>by
 obtain ⟨hw,q,hr,hB⟩:=hp
 simp [qtG,qgz,qck,qbO,qeB,qgj]
 have w2:=hw.2.2.1
 have hlen:((qf (ρ 8).d 36).drop 4).length = 32:=by rw [List.length_drop,qdb]
 refine ⟨hw,fun u _ f _ hf hu=>⟨fun h=>?_,fun h=>⟨hw,?_⟩⟩⟩
 ·have hff:f.b = false:=by rw [h] at hu; simpa using hu.symm
  rw [hff] at hf ⊢
  have h36:(qf (ρ 8).d 37).take 36 = qf (ρ 8).d 36:=by
   rw [qf,qf,<- List.map_take]; rfl
  have hx:bI (qaW (ρ 8).d 4 32) = (qf (ρ 8).d 36).drop 4:=by
   rw [qnA hr,<- h36,List.drop_take]
  have hBx:q9 (qaW (ρ 8).d 4 32):=fun row hrow=>by
   have h2:qbD row 0 ∈ bI (qaW (ρ 8).d 4 32):=List.mem_map.2 ⟨row,hrow,rfl⟩
   rw [hx] at h2; exact hB _ h2
  refine ⟨w2,by rw [qZ hr]; decide,q,fun c _=>q1o hw hf.symm hx hBx (by rw [qkJ hr (by omega)]; rfl) _⟩
 ·have hff:f.b = true:=by rw [h] at hu; simpa using hu.symm
  rw [hff] at hf ⊢
  exact qsT hf.symm (by rw [hlen]; rfl)
theorem q44 {v:Int} {n k:Nat} (h:k < n):(beL v n).take (k + 1) = (beL v n).take k ++ [(v.fdiv (2 ^ (8 * (n - 1 - k)))) % 256]:=by
 rw [List.take_add_one,List.getElem?_eq_getElem (by rw [qa9]; exact h)]
 simp [beL]
theorem qrK:qbG.ok Tryz.prog:=q0Q (by simp [qq8]) fun ρ hg hp=>by
 obtain ⟨hw,q,k0,k1,v0,v1⟩:=hp
 simp [qnn,qbG,qqQ,qck,qbO,qeB,qgj]
 have w2:=hw.2.2.1
 have hsub:qc .sub .i64 (ρ 8).i 1 = (ρ 8).i - 1:=qeO (by omega) (by omega)
 obtain ⟨N,hN⟩:∃ N:Nat,(ρ 8).i = N:=⟨(ρ 8).i.toNat,by omega⟩
 have hbl:((beL (ρ 7).i (ρ 8).i.toNat).length:Int) = (ρ 8).i:=by rw [qa9]; omega
 rw [hsub]
 refine ⟨⟨hw,k0,by omega⟩,fun u _ f _ hf hu=>⟨fun h=>?_,fun h=>⟨hw,?_⟩⟩⟩
 ·have hff:f.b = false:=by rw [h] at hu; simpa using hu.symm
  rw [hff] at hf
  have hfit:(ρ 2).b = false/\(ρ 8).i <= (ρ 1).i - (ρ 4).i:=by
   have:=hf.symm
   have hd:(bI (ρ 6).d).length = (ρ 6).d.length:=bI_len
   simp [qgg] at this
   exact ⟨this.1,by omega⟩
  refine ⟨hff,⟨by omega,by omega,w2,hfit.1,hfit.2,hw.2.2.2.2,.inl (by omega)⟩,fun l _ c _ d _ t _ t0 t1 hl _ _ hB hd=>⟨fun hge=>?_,fun hlt=>?_⟩⟩
  ·obtain ⟨T,hT⟩:∃ T:Nat,t.i = T:=⟨t.i.toNat,by omega⟩
   have m1:qc .mul .i64 8 t.i = ((8 * T:Nat):Int):=by rw [qc0 (by omega) (by omega)]; omega
   have m2:qc .sub .i64 t.i 1 = t.i - 1:=qeO (by omega) (by omega)
   have hdl:d.d.length = (ρ 6).d.length + (N - 1 - T):=by
    have:=congrArg List.length hd
    rw [bI_len,List.length_append,bI_len,List.length_take,qa9] at this
    omega
   rw [m1,m2,qwG (by omega),qiw]
   refine ⟨by omega,hl,by omega,⟨by omega,by omega,hl,hfit.1,hfit.2,quU hB ?_,?_⟩,by omega⟩
   ·intro row hrow
    obtain rfl:=List.mem_singleton.1 hrow
    simp [qbD,qaf]; omega
   ·rw [qtL,hd,List.append_assoc,show ((ρ 8).i - 1 - (t.i - 1)).toNat = (N - 1 - T) + 1 by omega,show ((ρ 8).i - 1 - t.i).toNat = N - 1 - T by omega,show (ρ 8).i.toNat = N by omega,q44 (by omega),show N - 1 - (N - 1 - T) = T by omega]
    rfl
  ·have ht:t.i = -1:=by omega
   have hx:bI d.d = bI (ρ 6).d ++ beL (ρ 7).i (ρ 8).i.toNat:=by
    rw [hd,ht,List.take_of_length_le (by rw [qa9]; omega)]
   have hdl:(d.d.length:Int) = (ρ 6).d.length + (ρ 8).i:=by
    have:=congrArg List.length hx
    rw [bI_len,List.length_append,bI_len,qa9] at this
    omega
   obtain ⟨w0,w1,_,w3,w5⟩:=hw
   refine ⟨⟨w0,w1,hl,by omega,hB⟩,?_⟩
   rw [qkb (by rw [hbl,<- hf]; decide),hx]
 ·have hff:f.b = true:=by rw [h] at hu; simpa using hu.symm
  rw [hff] at hf ⊢
  exact qsT hf.symm hbl
theorem q8c:u8C.ok Tryz.prog:=q7Z (by simp [qrK]) fun ρ hg hp=>by
 obtain ⟨hw,q,v0,v1⟩:=hp
 simp [q2U,u8C,qoc,qbG,qbO,qeB,qgj]
 have hv:IntKind.u64.wrap (ρ 7).i = (ρ 7).i:=by simp [IntKind.wrap,IntKind.bits,IntKind.signed]; omega
 rw [hv]
 exact ⟨⟨hw,q,v0,by omega⟩,fun _ _ _ _ _ _ _ _ h1 h2=>⟨h1,h2⟩⟩
theorem q7b:qi8.ok Tryz.prog:=q7v (by simp [qrK]) fun ρ hg hp=>by
 obtain ⟨hw,q,v0,v1⟩:=hp
 simp [qyI,qi8,qoc,qbG,qbO,qeB,qgj]
 have hv:IntKind.u64.wrap (ρ 7).i = (ρ 7).i:=by simp [IntKind.wrap,IntKind.bits,IntKind.signed]; omega
 rw [hv]
 exact ⟨⟨hw,q,v0,by omega⟩,fun _ _ _ _ _ _ _ _ h1 h2=>⟨h1,h2⟩⟩
end Go.Proofs

set_option linter.unusedSimpArgs false
set_option linter.unusedVariables false
set_option maxRecDepth 100000
namespace Go.Proofs
open Go Go.Eng

end Go.Proofs

set_option linter.unusedSimpArgs false
set_option linter.unusedVariables false
namespace Go.Proofs
open Go Go.Eng
theorem qjH {d:qd} {l:Int} (h:l = d.length):qbX d 0 l = bI d:=by
 rw [qbX,h,Int.toNat_natCast,Int.toNat_zero,List.drop_zero,List.take_of_length_le (by rw [bI_len]; omega)]
end Go.Proofs

set_option linter.unusedSimpArgs false
set_option linter.unusedVariables false
namespace Go.Proofs
open Go Go.Eng
set_option maxRecDepth 20000
end Go.Proofs

set_option linter.unusedSimpArgs false
set_option linter.unusedVariables false
namespace Go.Eng
open Go Go.Proofs
end Go.Eng

set_option linter.unusedSimpArgs false
set_option linter.unusedVariables false
set_option maxRecDepth 100000
namespace Go.Proofs
open Go Go.Eng

end Go.Proofs

set_option linter.unusedSimpArgs false
set_option linter.unusedVariables false
namespace Go.Proofs
open Go Go.Eng
set_option maxRecDepth 20000
def qeB (f:Nat->Int) (n:Nat):List Value:=(List.range n).map fun j=>.int .u32 (f j)
end Go.Proofs

set_option linter.unusedSimpArgs false
set_option linter.unusedVariables false
namespace Go.Proofs
open Go Go.Eng
set_option maxRecDepth 20000
end Go.Proofs

set_option linter.unusedSimpArgs false
set_option linter.unusedVariables false
namespace Go.Proofs
open Go Go.Eng
set_option maxRecDepth 20000
end Go.Proofs

set_option linter.unusedSimpArgs false
set_option linter.unusedVariables false
set_option maxRecDepth 100000
namespace Go.Proofs
open Go Go.Eng

end Go.Proofs

set_option linter.unusedSimpArgs false
set_option linter.unusedVariables false
namespace Go.Proofs
open Go Go.Eng
set_option maxRecDepth 20000
end Go.Proofs
