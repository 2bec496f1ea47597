/- Texts DD, ZA, ZB, ZL, ZF, DC, DE, DH, DJ, DK, DL, BA, BB, ZG, DM, ZJ, ZU, DO, BC, BD, BE, DU, BF, BG, BH, DX, BI, DF, DG, DI, DQ, DN, DR, DV, DW, BJ, BL, BM, BN, BO, BQ, BR, BS. -/
import Derived.Test.YtelcnkclppkicaaGreatDoorG4
import Derived.Test.YtelcnkclppkicaaGreatDoorProg
set_option linter.unusedSimpArgs false
set_option linter.unusedVariables false
namespace Go.Eng
open Go
def qao (d:List (List Value)) (n:Nat):Prop:=∃ row,d = [row]/\row.length = n
def qg (d:List (List Value)) (n:Nat):List Int:=(List.range n).map (qa d)
def qaG (k:IntKind) (v n:Nat):List T:=(List.range n).map fun j=>.vint k (.c2 (.xint j) (.var v) (.lit 0))
def k64:List CK:=List.replicate 64 (.int .u32)
def gHp (r d:Nat):SH:=.arr r 206 k64 (.var d) (.lit 1)
def gOk (ρ:Env) (r d g:Nat):Prop:=(ρ r).r = some ⟨g,0,none⟩/\(ρ d).d = [qaW.map (Value.int .u32)]
def qB0:List CK:=List.replicate 8 (.int .u32) ++ (List.replicate 64 (.int .u8) ++ [.int .i64])
def hHp (r d:Nat):SH:=.arr r 219 qB0 (.var d) (.lit 1)
def qgc (r:Nat):SV:=.one (.vptr r (.lit 0) 73 0)
def qcd (d:List (List Value)):Prop:=qao d 73/\(∀ j,j < 8->isW (qa d j))/\∀ j,8 <= j->j < 72->0 <= qa d j/\qa d j < 256
def stW (d:List (List Value)):St8:=qv5 (qg d 8)
def qdV (d:List (List Value)):List W32:=(List.range 16).map fun t=>qwl (qa d (8 + 4 * t)) (qa d (8 + (4 * t + 1))) (qa d (8 + (4 * t + 2))) (qa d (8 + (4 * t + 3)))
def qr6 (fn:Nat):Ctr:={ fn:=fn,nv:=2,args:=[.one (.vint .u32 (.var 0)),.one (.vint .i64 (.var 1))],heap:=[],ro:=[],pre:=fun ρ=>isW (ρ 0).i/\∃ n:Nat,1 <= n/\n <= 31/\(ρ 1).i = -(n:Int),alts:=[{ k:=1,ret:=.one (.vint .u32 (.var 2)),heap:=[],post:=fun ρ=>∀ n:Nat,1 <= n->n <= 31->(ρ 1).i = -(n:Int)->(ρ 2).i = ofW (qgw (toW (ρ 0).i) n) }] }
def qfc:Ctr:=qr6 154
def qed:Ctr:={ fn := 129,nv:=4,ip:=[(2000 + 1,2)],args:=[qgc 0],heap:=[hHp 0 1],ro:=[gHp 2 3],pre:=fun ρ=>qcd (ρ 1).d/\gOk ρ 2 3 1,alts:=[
 { k:=1,ret:=.tup [],heap:=[hHp 0 4],post:=fun ρ=>qcd (ρ 4).d/\stW (ρ 4).d = qka (qit qaW) (stW (ρ 1).d) (qdV (ρ 1).d)/\∀ j,8 <= j->qa (ρ 4).d j = qa (ρ 1).d j }] }
def wHp (r d:Nat):SH:=.arr r 206 k64 (.var d) (.lit 1)
def q5R (r:Nat):SV:=.one (.vptr r (.lit 0) 64 0)
def q0c (t:T):SV:=.one (.vint .i64 t)
def qhW (d:List (List Value)) (l:List W32) (n:Nat):Prop:=qao d 64/\∀ j,j < n->qa d j = ofW (l.getD j 0)
def q19:Inv:={ key:=2,nv:=3,env:=[(0,qgc 0),(2,q5R 1000),(24,q0c (.var 1002))],heap:=[hHp 0 1,wHp 1000 1001],inv:=(fun ρ=>0 <= (ρ 1002).i/\(ρ 1002).i <= 16/\qhW (ρ 1001).d (qav (qdV (ρ 1).d) 48) (ρ 1002).i.toNat),mu:=(fun ρ=>(16 - (ρ 1002).i).toNat) }
def q1J:Inv:={ key:=7,nv:=3,env:=[(0,qgc 0),(2,q5R 1000),(4,q0c (.var 1002))],heap:=[hHp 0 1,wHp 1000 1001],inv:=(fun ρ=>16 <= (ρ 1002).i/\(ρ 1002).i <= 64/\qhW (ρ 1001).d (qav (qdV (ρ 1).d) 48) (ρ 1002).i.toNat),mu:=(fun ρ=>(64 - (ρ 1002).i).toNat) }
def qmE (n:Nat):SV:=.one (.vint .u32 (.var n))
def st8 (ρ:Env) (n:Nat):St8:=⟨toW (ρ n).i,toW (ρ (n + 1)).i,toW (ρ (n + 2)).i,toW (ρ (n + 3)).i,toW (ρ (n + 4)).i,toW (ρ (n + 5)).i,toW (ρ (n + 6)).i,toW (ρ (n + 7)).i⟩
def qA9 (ρ:Env) (n:Nat):Prop:=isW (ρ n).i/\isW (ρ (n + 1)).i/\isW (ρ (n + 2)).i/\isW (ρ (n + 3)).i/\isW (ρ (n + 4)).i/\isW (ρ (n + 5)).i/\isW (ρ (n + 6)).i/\isW (ρ (n + 7)).i
def q0i:Inv:={ key:=16,nv:=11,env:=[(0,qgc 0),(2,q5R 1000),(9,qmE 1003),(10,qmE 1004),(11,qmE 1005),(12,qmE 1006),(13,qmE 1007),(14,qmE 1008),(15,qmE 1009),(16,qmE 1010),(154,q0c (.var 1002))],heap:=[hHp 0 1,wHp 1000 1001],inv:=(fun ρ=>0 <= (ρ 1002).i/\(ρ 1002).i <= 64/\qhW (ρ 1001).d (qav (qdV (ρ 1).d) 48) 64/\qA9 ρ 1003/\st8 ρ 1003 = qwu (stW (ρ 1).d) (qit qaW) (qav (qdV (ρ 1).d) 48) (ρ 1002).i.toNat),mu:=(fun ρ=>(64 - (ρ 1002).i).toNat) }
def q0q:Inv:={ key:=26,nv:=3,env:=[(0,qgc 0),(224,.agg (qaG .u32 1000 8)),(225,q0c (.var 1001))],heap:=[hHp 0 1002],inv:=(fun ρ=>0 <= (ρ 1001).i/\(ρ 1001).i <= 8/\(∀ j,j < 8->isW (qa (ρ 1000).d j))/\qv5 (qg (ρ 1000).d 8) = qwu (stW (ρ 1).d) (qit qaW) (qav (qdV (ρ 1).d) 48) 64/\qcd (ρ 1002).d/\(∀ j,j < (ρ 1001).i.toNat->qa (ρ 1002).d j = ofW (toW (qa (ρ 1).d j) + toW (qa (ρ 1000).d j)))/\∀ j,(ρ 1001).i.toNat <= j->qa (ρ 1002).d j = qa (ρ 1).d j),mu:=(fun ρ=>(8 - (ρ 1001).i).toNat) }
end Go.Eng

set_option linter.unusedSimpArgs false
set_option linter.unusedVariables false
namespace Go.Eng
open Go

def qgi:List CK:=[.int .u32,.int .i32,.int .u32] ++ List.replicate 510 (.int .u8) ++ List.replicate 256 (.int .i64)
def qb9:List Value:=[.int .u32 0,.int .i32 0,.int .u32 0] ++ List.replicate 510 (.int .u8 0) ++ List.replicate 256 (.int .i64 0)
abbrev qd:=List (List Value)
def qiH (x:Int):Int:=if 256 <= 2 * x then qe .xor .i64 (2 * x) 285 else 2 * x
def qlG (i:Nat) (s:qd × Int):qd × Int :=
 (qas (qas (qas s.1 (i + 3) (.int .u8 s.2)) (i + 255 + 3) (.int .u8 s.2)) (s.2.toNat + 513) (.int .i64 i),qiH s.2)
def qbV (d:qd):Nat->qd × Int
 | 0=>(d,1)
 | n + 1=>qlG n (qbV d n)
def q97:qd:=(qbV [qb9] 255).1
def qaR:qd:=qas q97 0 (.int .u32 1)
def qk (d:qd):Prop:=d = [qb9]∨d = qaR
def qaD:SV:=.one (.vptr 0 (.lit 0) 769 0)
def fHp (n:Nat):SH:=.arr 0 151 qgi (.var n) (.lit 1)
def iv (k:IntKind) (t:T):SV:=.one (.vint k t)

def qaJ:Ctr:={ fn := 20,nv:=0,args:=[],heap:=[],ro:=[],pre:=fun _=>True,alts:=[{ k:=2,ret:=qaD,heap:=[fHp 1],post:=fun ρ=>(ρ 1).d = [qb9] }] }
def qkh:Ctr:={ fn := 179,nv:=2,args:=[qaD],heap:=[fHp 1],ro:=[],pre:=fun ρ=>(ρ 1).d.length = 1,alts:=[{ k:=1,ret:=.tup [],heap:=[fHp 2],post:=fun ρ=>(ρ 2).d = (qbV (ρ 1).d 255).1 }] }
def qwe:Inv:={ key:=2,nv:=3,env:=[(0,qaD),(2,iv .i64 (.var 1000)),(3,iv .i64 (.var 1001))],heap:=[fHp 1002],inv:=(fun ρ=>0 <= (ρ 1001).i/\(ρ 1001).i <= 255/\((ρ 1002).d,(ρ 1000).i) = qbV (ρ 1).d (ρ 1001).i.toNat),mu:=(fun ρ=>(255 - (ρ 1001).i).toNat) }
def qmz (i:Nat):Int:=qa qaR (i + 3)
def qby (a:Nat):Int:=qa qaR (a + 513)
def qcW (a b:Int):Int:=if a = 0∨b = 0 then 0 else qmz (qby a.toNat + qby b.toNat).toNat
def qcn:Ctr:={ fn := 178,nv:=2,args:=[qaD,.fn (.func 179) [.vptr 0 (.lit 0) 769 0] []],heap:=[fHp 1],ro:=[],pre:=fun ρ=>qk (ρ 1).d,alts:=[{ k:=1,ret:=.tup [],heap:=[fHp 2],post:=fun ρ=>(ρ 2).d = qaR }] }
def qcA:Ctr:={ fn := 152,nv:=4,args:=[qaD,iv .u8 (.var 2),iv .u8 (.var 3)],heap:=[fHp 1],ro:=[],pre:=fun ρ=>qk (ρ 1).d/\0 <= (ρ 2).i/\(ρ 2).i < 256/\0 <= (ρ 3).i/\(ρ 3).i < 256,alts:=[{ k:=2,ret:=iv .u8 (.var 4),heap:=[fHp 5],post:=fun ρ=>qk (ρ 5).d/\(ρ 4).i = qcW (ρ 2).i (ρ 3).i }] }
end Go.Eng

set_option linter.unusedSimpArgs false
set_option linter.unusedVariables false
namespace Go.Eng
open Go

def kB:List CK:=[.int .u8]
def qb6 (r:List Value) (c:Nat):Int:=qag (r[c]?.getD .nilFunc)
def bI (d:qd):List Int:=d.map fun r=>qb6 r 0
def qn (d:qd):Prop:=∀ row ∈ d,0 <= qb6 row 0/\qb6 row 0 < 256
def big:Int:=8796093021952
def qn6 (d:qd) (off len:Int):Prop:=0 <= off/\0 <= len/\off + len <= d.length/\len <= big
def seg (l:List Int) (off n:Nat):List Int:=(l.drop off).take n
def qhu (x y:Int):Int:=qe .xor .u8 x y
def qD (l:List Int) (off:Nat) (s:List Int) (c:Int):List Int:=l.mapIdx fun i x=>if off <= i/\i < off + s.length then qhu x (qcW c (s.getD (i - off) 0)) else x
def qbt (l:List Int) (off n:Nat) (c:Int):List Int:=l.mapIdx fun i x=>if off <= i/\i < off + n then qcW x c else x
def bSl (r o l c:Nat):SV:=.one (.vslice r (.var o) (.var l) (.var c) 1)
def bHp (r d c:Nat):SH:=.arr r 5 kB (.var d) (.var c)
def qpb (a b r l c:Nat):SV:=.agg [.vint .i64 (.var a),.vint .i64 (.var b),.vslice r (.lit 0) (.var l) (.var c) 1]

def qT (k total:Int):Bool:=decide (1 <= k) && decide (k <= total) && decide (total <= 255)
def qam:Ctr:={ fn := 109,nv:=2,args:=[iv .i64 (.var 0),iv .i64 (.var 1)],heap:=[],ro:=[],pre:=fun _=>True,alts:=[{ k:=1,ret:=.one (.vbool (.var 2)),heap:=[],post:=fun ρ=>(ρ 2).b = qT (ρ 0).i (ρ 1).i }] }
def qdv (k size:Int):Prop:=k < 1∨255 < k∨size < 0∨8192 < size
def qaC:Ctr:={ fn := 99,nv:=2,args:=[iv .i64 (.var 0),iv .i64 (.var 1)],heap:=[],ro:=[],pre:=fun _=>True,alts:=[{ k:=2,ret:=.tup [(false,[.vint .i64 (.var 2)]),(false,[.vint .i64 (.var 3)])],heap:=[],post:=fun ρ=>(qdv (ρ 0).i (ρ 1).i->(ρ 2).i = 0/\(ρ 3).i = 2)/\(¬ qdv (ρ 0).i (ρ 1).i->(ρ 2).i = ((ρ 1).i + (ρ 0).i - 1).tdiv (ρ 0).i/\(ρ 3).i = 0) }] }

def qay:Ctr:={ fn := 165,nv:=2,args:=[iv .i64 (.var 0),iv .i64 (.var 1)],heap:=[],ro:=[],pre:=fun ρ=>0 <= (ρ 0).i/\(ρ 0).i <= 255/\0 <= (ρ 1).i/\(ρ 1).i <= 255,alts:=[{ k:=4,ret:=qpb 0 1 2 3 4,heap:=[bHp 2 5 4],post:=fun ρ=>(ρ 3).i = (ρ 0).i * (ρ 1).i/\(ρ 4).i = (ρ 3).i/\(ρ 5).d = List.replicate (ρ 3).i.toNat [.int .u8 0] }] }
def qea (r c l cap:Int) (d:qd):Prop:=0 <= r/\r <= 255/\0 <= c/\c <= 255/\l = r * c/\l <= cap/\l <= d.length/\qn d
def qak:Ctr:={ fn := 123,nv:=8,args:=[qpb 0 1 2 3 4,iv .i64 (.var 7)],heap:=[],ro:=[bHp 2 5 6],pre:=fun ρ=>0 <= (ρ 7).i/\(ρ 7).i < (ρ 0).i/\qea (ρ 0).i (ρ 1).i (ρ 3).i (ρ 4).i (ρ 5).d,alts:=[{ k:=3,ret:=bSl 2 8 9 10,heap:=[],post:=fun ρ=>(ρ 8).i = (ρ 7).i * (ρ 1).i/\(ρ 9).i = (ρ 1).i/\(ρ 10).i = (ρ 1).i }] }
def qa9:Ctr:={ fn := 164,nv:=7,args:=[qpb 0 1 2 3 4],heap:=[],ro:=[bHp 2 5 6],pre:=fun ρ=>0 <= (ρ 3).i,alts:=[{ k:=1,ret:=.one (.vbool (.var 7)),heap:=[],post:=fun ρ=>(ρ 7).b = true↔(1 <= (ρ 0).i/\(ρ 0).i <= 255/\1 <= (ρ 1).i/\(ρ 1).i <= 255/\(ρ 3).i = (ρ 0).i * (ρ 1).i) }] }
def qe1:Ctr:={ fn := 168,nv:=7,args:=[qpb 0 1 2 3 4],heap:=[],ro:=[bHp 2 5 6],pre:=fun ρ=>0 <= (ρ 3).i/\(ρ 3).i <= (ρ 5).d.length/\(ρ 3).i <= big,alts:=[{ k:=3,ret:=.agg [.vint .i64 (.var 0),.vint .i64 (.var 1),.vslice 7 (.lit 0) (.var 3) (.var 8) 1],heap:=[bHp 7 9 8],post:=fun ρ=>(ρ 9).d = (ρ 5).d.take (ρ 3).i.toNat }] }

def qaX:Ctr:={ fn := 124,nv:=15,args:=[qaD,bSl 2 3 4 5,bSl 8 9 10 11,iv .u8 (.var 14)],heap:=[fHp 1,bHp 2 6 7],ro:=[bHp 8 12 13],pre:=fun ρ=>qk (ρ 1).d/\qn6 (ρ 6).d (ρ 3).i (ρ 4).i/\qn6 (ρ 12).d (ρ 9).i (ρ 10).i/\(ρ 10).i <= (ρ 4).i/\qn (ρ 6).d/\qn (ρ 12).d/\0 <= (ρ 14).i/\(ρ 14).i < 256,alts:=[{ k:=2,ret:=.tup [],heap:=[fHp 15,bHp 2 16 7],post:=fun ρ=>qk (ρ 15).d/\(ρ 16).d.length = (ρ 6).d.length/\qn (ρ 16).d/\bI (ρ 16).d = qD (bI (ρ 6).d) (ρ 3).i.toNat (seg (bI (ρ 12).d) (ρ 9).i.toNat (ρ 10).i.toNat) (ρ 14).i }] }
def qx0:Inv:={ key:=2,nv:=3,env:=[(0,qaD),(1,bSl 2 3 4 5),(3,iv .u8 (.var 14)),(12,bSl 8 9 10 11),(13,iv .i64 (.var 10)),(14,iv .i64 (.var 1000))],heap:=[fHp 1001,bHp 2 1002 7],inv:=(fun ρ=>0 <= (ρ 1000).i/\(ρ 1000).i <= (ρ 10).i/\qk (ρ 1001).d/\(ρ 1002).d.length = (ρ 6).d.length/\qn (ρ 1002).d/\bI (ρ 1002).d = qD (bI (ρ 6).d) (ρ 3).i.toNat (seg (bI (ρ 12).d) (ρ 9).i.toNat (ρ 1000).i.toNat) (ρ 14).i),mu:=(fun ρ=>((ρ 10).i - (ρ 1000).i).toNat) }
def qeZ:Ctr:={ fn := 124,nv:=12,args:=[qaD,bSl 2 3 4 5,bSl 2 8 9 10,iv .u8 (.var 11)],heap:=[fHp 1,bHp 2 6 7],ro:=[],pre:=fun ρ=>qk (ρ 1).d/\qn6 (ρ 6).d (ρ 3).i (ρ 4).i/\qn6 (ρ 6).d (ρ 8).i (ρ 9).i/\(ρ 9).i <= (ρ 4).i/\((ρ 8).i + (ρ 9).i <= (ρ 3).i∨(ρ 3).i + (ρ 4).i <= (ρ 8).i)/\qn (ρ 6).d/\0 <= (ρ 11).i/\(ρ 11).i < 256,alts:=[{ k:=2,ret:=.tup [],heap:=[fHp 12,bHp 2 13 7],post:=fun ρ=>qk (ρ 12).d/\(ρ 13).d.length = (ρ 6).d.length/\qn (ρ 13).d/\bI (ρ 13).d = qD (bI (ρ 6).d) (ρ 3).i.toNat (seg (bI (ρ 6).d) (ρ 8).i.toNat (ρ 9).i.toNat) (ρ 11).i }] }
def qrZ:Inv:={ key:=2,nv:=3,env:=[(0,qaD),(1,bSl 2 3 4 5),(3,iv .u8 (.var 11)),(12,bSl 2 8 9 10),(13,iv .i64 (.var 9)),(14,iv .i64 (.var 1000))],heap:=[fHp 1001,bHp 2 1002 7],inv:=(fun ρ=>0 <= (ρ 1000).i/\(ρ 1000).i <= (ρ 9).i/\qk (ρ 1001).d/\(ρ 1002).d.length = (ρ 6).d.length/\qn (ρ 1002).d/\bI (ρ 1002).d = qD (bI (ρ 6).d) (ρ 3).i.toNat (seg (bI (ρ 6).d) (ρ 8).i.toNat (ρ 1000).i.toNat) (ρ 11).i),mu:=(fun ρ=>((ρ 9).i - (ρ 1000).i).toNat) }
def qfd:Ctr:={ fn := 185,nv:=9,args:=[qaD,bSl 2 3 4 5,iv .u8 (.var 8)],heap:=[fHp 1,bHp 2 6 7],ro:=[],pre:=fun ρ=>qk (ρ 1).d/\qn6 (ρ 6).d (ρ 3).i (ρ 4).i/\qn (ρ 6).d/\0 <= (ρ 8).i/\(ρ 8).i < 256,alts:=[{ k:=2,ret:=.tup [],heap:=[fHp 9,bHp 2 10 7],post:=fun ρ=>qk (ρ 9).d/\(ρ 10).d.length = (ρ 6).d.length/\qn (ρ 10).d/\bI (ρ 10).d = qbt (bI (ρ 6).d) (ρ 3).i.toNat (ρ 4).i.toNat (ρ 8).i }] }
def qwc:Inv:={ key:=1,nv:=3,env:=[(0,qaD),(1,bSl 2 3 4 5),(2,iv .u8 (.var 8)),(8,bSl 2 3 4 5),(9,iv .i64 (.var 4)),(10,iv .i64 (.var 1000))],heap:=[fHp 1001,bHp 2 1002 7],inv:=(fun ρ=>0 <= (ρ 1000).i/\(ρ 1000).i <= (ρ 4).i/\qk (ρ 1001).d/\(ρ 1002).d.length = (ρ 6).d.length/\qn (ρ 1002).d/\bI (ρ 1002).d = qbt (bI (ρ 6).d) (ρ 3).i.toNat (ρ 1000).i.toNat (ρ 8).i),mu:=(fun ρ=>((ρ 4).i - (ρ 1000).i).toNat) }

def qgh (a:Int):Int:=if a = 0 then 0 else qmz (255 - qby a.toNat).toNat
def qfh:Ctr:={ fn := 184,nv:=3,args:=[qaD,iv .u8 (.var 2)],heap:=[fHp 1],ro:=[],pre:=fun ρ=>qk (ρ 1).d/\0 <= (ρ 2).i/\(ρ 2).i < 256,alts:=[{ k:=3,ret:=.tup [(false,[.vint .u8 (.var 3)]),(false,[.vint .i64 (.var 4)])],heap:=[fHp 5],post:=fun ρ=>qk (ρ 5).d/\(ρ 3).i = qgh (ρ 2).i/\(ρ 4).i = if (ρ 2).i = 0 then 2 else 0 }] }
def qho (a e:Int):Int:=if e <= 0 then 1 else if a = 0 then 0 else qmz ((qby a.toNat * e.tmod 255).tmod 255).toNat
def qfi:Ctr:={ fn := 177,nv:=4,args:=[qaD,iv .u8 (.var 2),iv .i64 (.var 3)],heap:=[fHp 1],ro:=[],pre:=fun ρ=>qk (ρ 1).d/\0 <= (ρ 2).i/\(ρ 2).i < 256/\(ρ 3).i < 9223372036854775808,alts:=[{ k:=2,ret:=iv .u8 (.var 4),heap:=[fHp 5],post:=fun ρ=>qk (ρ 5).d/\(ρ 4).i = qho (ρ 2).i (ρ 3).i }] }
end Go.Eng

set_option linter.unusedSimpArgs false
set_option linter.unusedVariables false
set_option maxRecDepth 100000
namespace Go.Proofs
open Go Go.Eng
def qir:List Int :=
 [1,2,4,8,16,32,64,128,29,58,116,232,205,135,19,38,76,152,45,90,180,117,234,201,143,3,6,12,24,48,96,192,157,39,
  78,156,37,74,148,53,106,212,181,119,238,193,159,35,70,140,5,10,20,40,80,160,93,186,105,210,185,111,222,161,95,190,97,194,
  153,47,94,188,101,202,137,15,30,60,120,240,253,231,211,187,107,214,177,127,254,225,223,163,91,182,113,226,217,175,67,134,17,34,
  68,136,13,26,52,104,208,189,103,206,129,31,62,124,248,237,199,147,59,118,236,197,151,51,102,204,133,23,46,92,184,109,218,169,
  79,158,33,66,132,21,42,84,168,77,154,41,82,164,85,170,73,146,57,114,228,213,183,115,230,209,191,99,198,145,63,126,252,229,
  215,179,123,246,241,255,227,219,171,75,150,49,98,196,149,55,110,220,165,87,174,65,130,25,50,100,200,141,7,14,28,56,112,224,
  221,167,83,166,81,162,89,178,121,242,249,239,195,155,43,86,172,69,138,9,18,36,72,144,61,122,244,245,247,243,251,235,203,139,
  11,22,44,88,176,125,250,233,207,131,27,54,108,216,173,71,142,1,2,4,8,16,32,64,128,29,58,116,232,205,135,19,38,76,
  152,45,90,180,117,234,201,143,3,6,12,24,48,96,192,157,39,78,156,37,74,148,53,106,212,181,119,238,193,159,35,70,140,5,
  10,20,40,80,160,93,186,105,210,185,111,222,161,95,190,97,194,153,47,94,188,101,202,137,15,30,60,120,240,253,231,211,187,107,
  214,177,127,254,225,223,163,91,182,113,226,217,175,67,134,17,34,68,136,13,26,52,104,208,189,103,206,129,31,62,124,248,237,199,
  147,59,118,236,197,151,51,102,204,133,23,46,92,184,109,218,169,79,158,33,66,132,21,42,84,168,77,154,41,82,164,85,170,73,
  146,57,114,228,213,183,115,230,209,191,99,198,145,63,126,252,229,215,179,123,246,241,255,227,219,171,75,150,49,98,196,149,55,110,
  220,165,87,174,65,130,25,50,100,200,141,7,14,28,56,112,224,221,167,83,166,81,162,89,178,121,242,249,239,195,155,43,86,172,
  69,138,9,18,36,72,144,61,122,244,245,247,243,251,235,203,139,11,22,44,88,176,125,250,233,207,131,27,54,108,216,173,71,142]
def qnl:List Int :=
 [0,0,1,25,2,50,26,198,3,223,51,238,27,104,199,75,4,100,224,14,52,141,239,129,28,193,105,248,200,8,76,113,5,138,
  101,47,225,36,15,33,53,147,142,218,240,18,130,69,29,181,194,125,106,39,249,185,201,154,9,120,77,228,114,166,6,191,139,98,
  102,221,48,253,226,152,37,179,16,145,34,136,54,208,148,206,143,150,219,189,241,210,19,92,131,56,70,64,30,66,182,163,195,72,
  126,110,107,58,40,84,250,133,186,61,202,94,155,159,10,21,121,43,78,212,229,172,115,243,167,87,7,112,192,247,140,128,99,13,
  103,74,222,237,49,197,254,24,227,165,153,119,38,184,180,124,17,68,146,217,35,32,137,46,55,63,209,91,149,188,207,205,144,135,
  151,178,220,252,190,97,242,86,211,171,20,42,93,158,132,60,57,83,71,109,65,162,31,45,67,216,183,123,164,118,196,23,73,236,
  127,12,111,246,108,161,59,82,41,157,85,170,251,96,134,177,187,204,62,90,203,89,95,176,156,169,160,81,11,245,22,235,122,117,
  44,215,79,174,213,233,230,231,173,232,116,214,244,234,168,80,88,175]

theorem qoJ:qaR = [[.int .u32 1,.int .i32 0,.int .u32 0] ++ qir.map (Value.int .u8) ++ qnl.map (Value.int .i64)]:=by kernel_rfl
theorem qx1:qir.length = 510:=by kernel_rfl
theorem q6b:qnl.length = 256:=by kernel_rfl
theorem qzo {i:Nat} (h:i < 510):qmz i = qir.getD i 0:=by
 have hl:=qx1
 rw [qmz,qoJ,qa,List.headD_cons,List.append_assoc,List.getElem?_append_right (by simp)]
 simp only [List.length_cons,List.length_nil,Nat.zero_add,Nat.reduceAdd,Nat.add_sub_cancel]
 rw [List.getElem?_append_left (by simpa [hl] using h),List.getElem?_map,List.getD_eq_getElem?_getD,List.getElem?_eq_getElem (by omega)]
 rfl
theorem qz7 {a:Nat} (h:a < 256):qby a = qnl.getD a 0:=by
 have hl:=qx1
 have hl2:=q6b
 rw [qby,qoJ,qa,List.headD_cons,List.getElem?_append_right (by simp [hl])]
 simp only [List.length_append,List.length_map,List.length_cons,List.length_nil,hl]
 rw [show a + 513 - (0 + 1 + 1 + 1 + 510) = a by omega,List.getElem?_map,List.getD_eq_getElem?_getD,List.getElem?_eq_getElem (by omega)]
 rfl
theorem qkP:∀ a:Fin 256,0 <= qnl.getD a.val 0/\qnl.getD a.val 0 < 255:=by decide +kernel
theorem qgg:∀ i:Fin 510,1 <= qir.getD i.val 0/\qir.getD i.val 0 < 256:=by decide +kernel
theorem qcF {a:Int} (h0:0 <= a) (h1:a < 256):0 <= qby a.toNat/\qby a.toNat < 255:=by
 rw [qz7 (by omega)]; exact qkP ⟨a.toNat,by omega⟩
theorem qlr {i:Nat} (h:i < 510):1 <= qmz i/\qmz i < 256:=by
 rw [qzo h]; exact qgg ⟨i,h⟩
end Go.Proofs

set_option linter.unusedSimpArgs false
set_option linter.unusedVariables false
namespace Go.Proofs
open Go Go.Eng

theorem wrap64 {x:Int} (h1:-9223372036854775808 <= x) (h2:x < 9223372036854775808):IntKind.i64.wrap x = x:=by
 simp [IntKind.wrap,IntKind.bits,IntKind.signed]; omega
theorem add64 {x y:Int} (h1:-9223372036854775808 <= x + y) (h2:x + y < 9223372036854775808):qe .add .i64 x y = x + y:=wrap64 h1 h2
theorem qe9 {x y:Int} (h1:-9223372036854775808 <= x - y) (h2:x - y < 9223372036854775808):qe .sub .i64 x y = x - y:=wrap64 h1 h2
theorem qcP {x y:Int} (h1:-9223372036854775808 <= x * y) (h2:x * y < 9223372036854775808):qe .mul .i64 x y = x * y:=wrap64 h1 h2
theorem qI {x y a b:Int} (h0:0 <= x) (h1:x <= a) (h2:0 <= y) (h3:y <= b):0 <= x * y/\x * y <= a * b :=
 ⟨Int.mul_nonneg h0 h2,Int.mul_le_mul h1 h3 h2 (by omega)⟩
theorem qAU {x:Int}:0 <= IntKind.u8.wrap x/\IntKind.u8.wrap x < 256:=by simp [IntKind.wrap,IntKind.bits,IntKind.signed]; omega
theorem qgb {x y:Int}:0 <= qhu x y/\qhu x y < 256:=qAU
theorem q05:∀ x:Fin 256,qhu (x.val:Int) 0 = x.val:=by decide +kernel
theorem q3a {x:Int} (h0:0 <= x) (h1:x < 256):qhu x 0 = x:=by
 have:=q05 ⟨x.toNat,by omega⟩
 simp only [Int.toNat_of_nonneg h0] at this
 exact this
theorem q2D {x:Int}:qcW 0 x = 0:=by simp [qcW]
theorem q0x {a b:Int} (a0:0 <= a) (a1:a < 256) (b0:0 <= b) (b1:b < 256):0 <= qcW a b/\qcW a b < 256:=by
 unfold qcW
 split
 ·omega
 ·obtain ⟨l0,l1⟩:=qcF a0 a1
  obtain ⟨m0,m1⟩:=qcF b0 b1
  have:=qlr (i:=(qby a.toNat + qby b.toNat).toNat) (by omega)
  omega
theorem qcO {a:Int} (a0:0 <= a) (a1:a < 256):0 <= qgh a/\qgh a < 256:=by
 unfold qgh
 split
 ·omega
 ·obtain ⟨l0,l1⟩:=qcF a0 a1
  have:=qlr (i:=(255 - qby a.toNat).toNat) (by omega)
  omega
theorem bI_len {d:qd}:(bI d).length = d.length:=by simp [bI]
theorem qfY {d:qd} {i:Int} (h0:0 <= i) (h1:i < d.length):(bI d)[i.toNat]? = some (qb d i 0):=by
 have hl:i.toNat < d.length:=by omega
 simp [bI,qb,qF,qb6,List.getElem?_eq_getElem hl]
theorem qch {d:qd} (h:qn d) {i:Int} (h0:0 <= i) (h1:i < d.length):0 <= qb d i 0/\qb d i 0 < 256:=by
 have hl:i.toNat < d.length:=by omega
 have:=h _ (List.getElem_mem hl)
 simpa [qb,qF,qb6,List.getElem?_eq_getElem hl] using this
theorem allB_list {d:qd} (h:qn d):∀ x ∈ bI d,0 <= x/\x < 256:=fun x hx=>by
 obtain ⟨r,hr,rfl⟩:=List.mem_map.1 hx
 exact h r hr
theorem qcv {d:qd} {e:Int} {c:Nat} {vs:List Value}:(qbi d e c vs).length = d.length:=by simp [qbi]
theorem qwZ {row:List Value} {k:IntKind} {z:Int}:qb6 (qaq row 0 [.int k z]) 0 = z:=by simp [qb6,qaq,qag]
theorem qjR {d:qd} {e:Int} {k:IntKind} {z:Int}:bI (qbi d e 0 [.int k z]) = (bI d).set e.toNat z:=by
 simp only [bI,qbi,List.map_set,qwZ]
theorem qip {d:qd} {e:Int} {k:IntKind} {z:Int} (h:qn d) (h0:0 <= z) (h1:z < 256):qn (qbi d e 0 [.int k z]):=fun row hr=>by
 unfold qbi at hr
 rcases List.mem_or_eq_of_mem_set hr with hr | rfl
 ·exact h row hr
 ·rw [qwZ]; exact ⟨h0,h1⟩
theorem qds {n:Nat}:qn (List.replicate n [.int .u8 0]):=fun row hr=>by
 rw [List.eq_of_mem_replicate hr]; simp [qb6,qag]
theorem qiy {n:Nat}:bI (List.replicate n [.int .u8 0]) = List.replicate n 0:=by simp [bI,qb6,qag]
theorem qf6 {l:List Int} {o n j:Nat}:(seg l o n)[j]? = if j < n then l[o + j]? else none:=by
 simp only [seg,List.getElem?_take,List.getElem?_drop]
theorem qe3 {l:List Int} {o n:Nat} (h:o + n <= l.length):(seg l o n).length = n:=by simp [seg]; omega
theorem qbP {l s:List Int} {off:Nat} {c:Int}:(qD l off s c).length = l.length:=by simp [qD]
theorem qbL {l s:List Int} {off:Nat} {c:Int} {j:Nat}:(qD l off s c)[j]? = (l[j]?).map fun x=>if off <= j/\j < off + s.length then qhu x (qcW c (s.getD (j - off) 0)) else x:=by
 simp [qD]
theorem qk7 {l:List Int} {off:Nat} {c:Int}:qD l off [] c = l:=by
 apply List.ext_getElem?
 intro j
 rw [qbL]
 cases l[j]? with
 | none=>rfl
 | some x=>simp only [Option.map_some,List.length_nil]; rw [if_neg (by omega)]
theorem qj6 {l s:List Int} {off:Nat} (h:∀ x ∈ l,0 <= x/\x < 256):qD l off s 0 = l:=by
 apply List.ext_getElem?
 intro j
 rw [qbL]
 cases hj:l[j]? with
 | none=>rfl
 | some x =>
  have:=h x (List.mem_of_getElem? hj)
  simp only [Option.map_some,q2D,q3a this.1 this.2,ite_self]
theorem qjl {l s:List Int} {off o i:Nat} {c x y:Int} (hx:l[off + i]? = some x) (hy:s[o + i]? = some y) :
  qD l off (seg s o (i + 1)) c = (qD l off (seg s o i) c).set (off + i) (qhu x (qcW c y)):=by
 have hs:o + i < s.length:=(List.getElem?_eq_some_iff.1 hy).1
 have hl:off + i < l.length:=(List.getElem?_eq_some_iff.1 hx).1
 apply List.ext_getElem?
 intro j
 rw [List.getElem?_set,qbL,qbL,qe3 (by omega),qe3 (by omega),qbP]
 by_cases hj:off + i = j
 ·subst hj
  rw [if_pos rfl,if_pos hl,hx,Option.map_some,if_pos (by omega)]
  rw [show off + i - off = i by omega,List.getD_eq_getElem?_getD,qf6,if_pos (by omega),hy]; rfl
 ·rw [if_neg hj]
  cases hlj:l[j]? with
  | none=>rfl
  | some z =>
   simp only [Option.map_some,Option.some.injEq]
   by_cases hin:off <= j/\j < off + i
   ·rw [if_pos (by omega),if_pos hin,List.getD_eq_getElem?_getD,List.getD_eq_getElem?_getD,qf6,qf6,if_pos (by omega),if_pos (by omega)]
   ·rw [if_neg (by omega),if_neg hin]
theorem qh7 {l s:List Int} {off:Nat} {c:Int} {j:Nat} (h:j < off∨off + s.length <= j):(qD l off s c)[j]? = l[j]?:=by
 rw [qbL]
 cases l[j]? with
 | none=>rfl
 | some x=>rw [Option.map_some,if_neg (by omega)]
theorem qkB {l:List Int} {off n:Nat} {c:Int}:(qbt l off n c).length = l.length:=by simp [qbt]
theorem qeH {l:List Int} {off n:Nat} {c:Int} {j:Nat}:(qbt l off n c)[j]? = (l[j]?).map fun x=>if off <= j/\j < off + n then qcW x c else x:=by
 simp [qbt]
theorem qyd {l:List Int} {off:Nat} {c:Int}:qbt l off 0 c = l:=by
 apply List.ext_getElem?
 intro j
 rw [qeH]
 cases l[j]? with
 | none=>rfl
 | some x=>rw [Option.map_some,if_neg (by omega)]
theorem qyc {l:List Int} {off i:Nat} {c x:Int} (hx:l[off + i]? = some x):qbt l off (i + 1) c = (qbt l off i c).set (off + i) (qcW x c):=by
 have hl:off + i < l.length:=(List.getElem?_eq_some_iff.1 hx).1
 apply List.ext_getElem?
 intro j
 rw [List.getElem?_set,qeH,qeH,qkB]
 by_cases hj:off + i = j
 ·subst hj
  rw [if_pos rfl,if_pos hl,hx,Option.map_some,if_pos (by omega)]
 ·rw [if_neg hj]
  cases hlj:l[j]? with
  | none=>rfl
  | some z =>
   simp only [Option.map_some,Option.some.injEq]
   by_cases hin:off <= j/\j < off + i
   ·rw [if_pos (by omega),if_pos hin]
   ·rw [if_neg (by omega),if_neg hin]
theorem q0M {l:List Int} {off n:Nat} {c:Int} {j:Nat} (h:j < off∨off + n <= j):(qbt l off n c)[j]? = l[j]?:=by
 rw [qeH]
 cases l[j]? with
 | none=>rfl
 | some x=>rw [Option.map_some,if_neg (by omega)]
theorem qbT {d:qd} (h:qk d):¬ d = []/\0 < d.length:=by
 have:d.length = 1:=by
  rcases h with h | h
  ·rw [h]; rfl
  ·rw [h,qoJ]; rfl
 exact ⟨fun h=>(by rw [h] at this; cases this),by omega⟩
end Go.Proofs

set_option linter.unusedSimpArgs false
set_option linter.unusedVariables false
namespace Go.Eng
open Go
theorem qfk {d:List (List Value)} {n i:Nat} {v:Value} (h:qao d n):qao (qas d i v) n:=by
 obtain ⟨row,rfl,hl⟩:=h
 exact ⟨row.set i v,rfl,by simp [hl]⟩
theorem qeN {d:List (List Value)} {n i:Nat} {k:IntKind} {z:Int} (h:qao d n) (hi:i < n):qa (qas d i (.int k z)) i = z:=by
 obtain ⟨row,rfl,hl⟩:=h
 simp [qa,qas,hl,hi,qag]
theorem qbj {d:List (List Value)} {i j:Nat} {v:Value} (h:j ≠ i):qa (qas d i v) j = qa d j:=by
 cases d with
 | nil=>rfl
 | cons row rest=>simp [qa,qas,List.getElem?_set,Ne.symm h]
theorem qac {d:List (List Value)} {n:Nat} (h:qao d n):d.length = 1:=by obtain ⟨row,rfl,_⟩:=h; rfl
theorem qeF {d:List (List Value)} {c:Nat}:qb d 0 c = qa d c:=by cases d <;> simp [qb,qF,qa]
theorem qdx {d:List (List Value)} {n:Nat}:(qg d n).length = n:=by simp [qg]
theorem qpt {d e:List (List Value)} {n:Nat} (h:∀ j,j < n->qa d j = qa e j):qg d n = qg e n:=List.map_congr_left fun j hj=>h j (List.mem_range.1 hj)
theorem qBx {x:Int}:qe .shl .u32 x 24 = ofW (toW x <<< 24):=qui (n:=24) (by decide)
theorem qBh {x:Int}:qe .shl .u32 x 16 = ofW (toW x <<< 16):=qui (n:=16) (by decide)
theorem qBE {x:Int}:qe .shl .u32 x 8 = ofW (toW x <<< 8):=qui (n:=8) (by decide)
theorem q5i {a b c d:Int}:qe .or .u32 (qe .or .u32 (qe .or .u32 (qe .shl .u32 (IntKind.u32.wrap a) 24) (qe .shl .u32 (IntKind.u32.wrap b) 16)) (qe .shl .u32 (IntKind.u32.wrap c) 8)) (IntKind.u32.wrap d) = ofW (qwl a b c d):=by
 simp only [qqN,qBx,qBh,qBE,q6t,qf4,qwl]
theorem qB7 {x:Int} (h:isW x):qe .shr .u32 x 3 = ofW (toW x >>> 3):=q1o (n:=3) h (by decide)
theorem qBd {x:Int} (h:isW x):qe .shr .u32 x 10 = ofW (toW x >>> 10):=q1o (n:=10) h (by decide)
theorem q7J:∀ n:Fin 31,qe .and .u64 (IntKind.u64.wrap (-((n.val:Int) + 1))) 31 = 31 - (n.val:Int):=by decide +kernel
theorem q78:∀ n:Fin 31,qe .sub .u64 32 (31 - (n.val:Int)) = (n.val:Int) + 1:=by decide +kernel
theorem q9d {x:Int} {n:Nat} (h:isW x) (h1:1 <= n) (h2:n <= 31):qe .or .u32 (qe .shl .u32 x (qe .and .u64 (IntKind.u64.wrap (-(n:Int))) 31)) (qe .shr .u32 x (qe .sub .u64 32 (qe .and .u64 (IntKind.u64.wrap (-(n:Int))) 31))) = ofW (qgw (toW x) n):=by
 have e1:=q7J ⟨n - 1,by omega⟩
 have e2:=q78 ⟨n - 1,by omega⟩
 simp only [] at e1 e2
 have e3:(((n - 1:Nat):Int) + 1) = (n:Int):=by omega
 have e4:(31 - ((n - 1:Nat):Int)) = ((32 - n:Nat):Int):=by omega
 rw [e3,e4] at e1
 rw [e4,e3] at e2
 rw [e1,e2,qui (by omega),q1o h (by omega),q6t,qf4,qf4,qgw,BitVec.or_comm]
theorem qhB {b:List W32}:∀ {k:Nat},(qav b k).length = b.length + k
 | 0=>rfl
 | k + 1=>by rw [qav,List.length_append,qhB]; simp; omega
theorem qd1 {b:List W32} {k:Nat}:∀ {n j:Nat},k <= n->j < b.length + k->(qav b n).getD j 0 = (qav b k).getD j 0
 | 0,j,h,_=>by rw [show k = 0 by omega]
 | n + 1,j,h,hj=>by
  rcases Nat.lt_or_ge n k with h1 | h1
  ·rw [show k = n + 1 by omega]
  ·rw [qav,List.getD_eq_getElem?_getD,List.getElem?_append_left (by rw [qhB]; omega),<- List.getD_eq_getElem?_getD]
   exact qd1 h1 hj
theorem q0Q {b:List W32} {n j:Nat} (hj:j < b.length):(qav b n).getD j 0 = b.getD j 0:=qd1 (k:=0) (Nat.zero_le _) (by omega)
theorem qx3 {b:List W32} (hb:b.length = 16) {n k:Nat} (hk:k < n):(qav b n).getD (16 + k) 0 = sg1 ((qav b n).getD (14 + k) 0) + (qav b n).getD (9 + k) 0 + sg0 ((qav b n).getD (1 + k) 0) + (qav b n).getD k 0:=by
 rw [qd1 (k:=k + 1) (by omega) (by omega),qd1 (k:=k) (j:=14 + k) (by omega) (by omega),qd1 (k:=k) (j:=9 + k) (by omega) (by omega),qd1 (k:=k) (j:=1 + k) (by omega) (by omega),qd1 (k:=k) (j:=k) (by omega) (by omega)]
 rw [qav,List.getD_eq_getElem?_getD,List.getElem?_append_right (by rw [qhB]; omega),qhB,hb]
 simp
theorem quH {d:List (List Value)}:(qdV d).length = 16:=by simp [qdV]
theorem q5z {d:List (List Value)} {t:Nat} (h:t < 16):(qdV d).getD t 0 = qwl (qa d (8 + 4 * t)) (qa d (8 + (4 * t + 1))) (qa d (8 + (4 * t + 2))) (qa d (8 + (4 * t + 3))):=by
 simp [qdV,List.getD_eq_getElem?_getD,h]
theorem qqi {d:List (List Value)} {l:List W32} {t:Nat} {w:Int} (h:qhW d l t) (ht:t < 64) (hw:w = ofW (l.getD t 0)):qhW (qas d t (.int .u32 w)) l (t + 1):=by
 refine ⟨qfk h.1,fun j hj=>?_⟩
 by_cases e:j = t
 ·rw [e,qeN h.1 ht,hw]
 ·rw [qbj e,h.2 j (by omega)]
theorem qeD {d:List (List Value)} {l:List W32} {n j:Nat} (h:qhW d l n) (hj:j < n):isW (qa d j):=by rw [h.2 j hj]; exact qn0
theorem qim {d:List (List Value)} {l:List W32} {n j:Nat} (h:qhW d l n) (hj:j < n):toW (qa d j) = l.getD j 0:=by rw [h.2 j hj,qf4]
theorem qB4 {f:Nat->Int} {j:Nat} (hj:j < 8):qa [[.int .u32 (f 0),.int .u32 (f 1),.int .u32 (f 2),.int .u32 (f 3),.int .u32 (f 4),.int .u32 (f 5),.int .u32 (f 6),.int .u32 (f 7)]] j = f j:=by
 match j,hj with
 | 0,_=>rfl
 | 1,_=>rfl
 | 2,_=>rfl
 | 3,_=>rfl
 | 4,_=>rfl
 | 5,_=>rfl
 | 6,_=>rfl
 | 7,_=>rfl
theorem qxU {d:List (List Value)} {j:Nat} {w:Int} (h:qcd d) (hj:j < 8) (hw:isW w):qcd (qas d j (.int .u32 w)):=by
 refine ⟨qfk h.1,fun i hi=>?_,fun i h1 h2=>?_⟩
 ·by_cases e:i = j
  ·rw [e,qeN h.1 (by omega)]; exact hw
  ·rw [qbj e]; exact h.2.1 i hi
 ·rw [qbj (by omega)]; exact h.2.2 i h1 h2
theorem qk6:qaW.length = 64:=by decide
theorem q29 {j:Nat} (hj:j < 64):qa [qaW.map (Value.int .u32)] j = qaW.getD j 0:=by
 have:=qk6
 simp [qa,List.getD_eq_getElem?_getD,this,hj,qag]
theorem q14 {j:Nat} (hj:j < 64):(qit qaW).getD j 0 = toW (qaW.getD j 0):=by
 have:=qk6
 simp [qit,List.getD_eq_getElem?_getD,this,hj]
end Go.Eng

set_option linter.unusedSimpArgs false
set_option linter.unusedVariables false
namespace Go.Eng
open Go
def q0T:St8:=qv5 q0d
def wK:List W32:=qit qaW
def qL (m:List Int):Prop:=∀ x ∈ m,0 <= x/\x < 256
def qaj (d:List (List Value)) (m:List Int):Prop:=qcd d/\qL m/\qa d 72 = m.length/\stW d = qkF wK q0T m (m.length / 64)/\∀ j,j < m.length % 64->qa d (8 + j) = m.getD (64 * (m.length / 64) + j) 0
def qvV (d:List (List Value)):Prop:=∃ m,qaj d m/\m.length < 1152921504606846976
def qbF (d:List (List Value)) (o l:Int):List Int:=((bI d).drop o.toNat).take l.toNat
def qdW (d:List (List Value)) (o l:Int):List Int:=(((qg d 72)).drop o.toNat).take l.toNat
def gR:Nat := 1
def gIp (r:Nat):Nat × Nat:=(2000 + gR,r)
def qbx:Ctr:={ fn := 96,nv:=0,args:=[],heap:=[],ro:=[],pre:=fun _=>True,alts:=[
 { k:=2,ret:=qgc 0,heap:=[hHp 0 1],post:=fun ρ=>qaj (ρ 1).d [] }] }
def qcR:Ctr:={ fn := 97,nv:=10,ip:=[gIp 8],args:=[qgc 0,bSl 2 3 4 5],heap:=[hHp 0 1],ro:=[bHp 2 6 7,gHp 8 9],pre:=fun ρ=>qvV (ρ 1).d/\0 <= (ρ 3).i/\0 <= (ρ 4).i/\(ρ 4).i <= (ρ 5).i/\(ρ 4).i < 1152921504606846976/\(ρ 3).i + (ρ 4).i <= (ρ 6).d.length/\qn (ρ 6).d/\gOk ρ 8 9 gR,alts:=[
 { k:=1,ret:=.tup [],heap:=[hHp 0 10],post:=fun ρ=>∀ m,qaj (ρ 1).d m->qaj (ρ 10).d (m ++ qbF (ρ 6).d (ρ 3).i (ρ 4).i) }] }
def qwM:Inv:={ key:=1,nv:=4,env:=[(0,qgc 0),(1,bSl 2 1000 1001 1002)],heap:=[hHp 0 1003],inv:=(fun ρ=>0 <= (ρ 1001).i/\(ρ 1001).i <= (ρ 4).i/\(ρ 1001).i <= (ρ 1002).i/\(0 < (ρ 1001).i->(ρ 1000).i = (ρ 3).i + ((ρ 4).i - (ρ 1001).i))/\∀ m,qaj (ρ 1).d m->qaj (ρ 1003).d (m ++ qbF (ρ 6).d (ρ 3).i ((ρ 4).i - (ρ 1001).i))),mu:=(fun ρ=>(ρ 1001).i.toNat) }
def k72:List CK:=List.replicate 72 (.int .u8)
def q7I (r d:Nat):SH:=.arr r 220 k72 (.var d) (.lit 1)
def qdc:Ctr:={ fn := 97,nv:=8,ip:=[gIp 6],args:=[qgc 0,.one (.vslice 2 (.lit 0) (.var 3) (.var 4) 1)],heap:=[hHp 0 1],ro:=[q7I 2 5,gHp 6 7],pre:=fun ρ=>qvV (ρ 1).d/\0 <= (ρ 3).i/\(ρ 3).i <= 72/\(ρ 3).i <= (ρ 4).i/\qao (ρ 5).d 72/\qL (qg (ρ 5).d 72)/\gOk ρ 6 7 gR,alts:=[
 { k:=1,ret:=.tup [],heap:=[hHp 0 8],post:=fun ρ=>∀ m,qaj (ρ 1).d m->qaj (ρ 8).d (m ++ qdW (ρ 5).d 0 (ρ 3).i) }] }
def qo7:Inv:={ key:=1,nv:=4,env:=[(0,qgc 0),(1,bSl 2 1000 1001 1002)],heap:=[hHp 0 1003],inv:=(fun ρ=>0 <= (ρ 1001).i/\(ρ 1001).i <= (ρ 3).i/\(ρ 1001).i <= (ρ 1002).i/\(0 < (ρ 1001).i->(ρ 1000).i = (ρ 3).i - (ρ 1001).i)/\∀ m,qaj (ρ 1).d m->qaj (ρ 1003).d (m ++ qdW (ρ 5).d 0 ((ρ 3).i - (ρ 1001).i))),mu:=(fun ρ=>(ρ 1001).i.toNat) }
def dgV (n:Nat):SV:=.agg (qaG .u8 n 32)
def k32:List CK:=List.replicate 32 (.int .u8)
def qAB (r d:Nat):SH:=.arr r 24 k32 (.var d) (.lit 1)
def dgP (r:Nat):SV:=.one (.vptr r (.lit 0) 32 0)
def dgZ (r:Nat):SH:=.cells r 24 (List.replicate 32 (.vint .u8 (.lit 0)))
def qfK:Ctr:={ fn := 98,nv:=4,ip:=[gIp 2],args:=[qgc 0],heap:=[],ro:=[hHp 0 1,gHp 2 3],pre:=fun ρ=>qvV (ρ 1).d/\gOk ρ 2 3 gR,alts:=[
 { k:=1,ret:=dgV 4,heap:=[],post:=fun ρ=>∀ m,qaj (ρ 1).d m->qg (ρ 4).d 32 = sha m }] }
def q6W:Inv:={ key:=9,nv:=9,env:=[(0,qgc 0),(2,dgP 1000),(3,qgc 1002),(4,.one (.vptr 1004 (.lit 0) 72 0)),(5,iv .i64 (.var 1006)),(6,iv .u64 (.var 1007)),(30,iv .i64 (.var 1008))],heap:=[dgZ 1000,hHp 1002 1003,q7I 1004 1005],inv:=(fun ρ=>0 <= (ρ 1008).i/\(ρ 1008).i <= 8/\qao (ρ 1003).d 73/\(∀ j,j < 73->qa (ρ 1003).d j = qa (ρ 1).d j)/\(ρ 1006).i = 64 - (qa (ρ 1).d 72 + 8) % 64/\(ρ 1007).i = qa (ρ 1).d 72 * 8/\qao (ρ 1005).d 72/\(∀ j,j < 72->qa (ρ 1005).d j = if j = 0 then 128 else if (ρ 1006).i.toNat <= j/\j < (ρ 1006).i.toNat + (ρ 1008).i.toNat then (beL (qa (ρ 1).d 72 * 8) 8).getD (j - (ρ 1006).i.toNat) 0 else 0)),mu:=(fun ρ=>(8 - (ρ 1008).i).toNat) }
def q7f:Inv:={ key:=16,nv:=7,env:=[(2,dgP 1000),(3,qgc 1002),(8,dgP 1004),(48,iv .i64 (.var 1006))],heap:=[dgZ 1000,hHp 1002 1003,qAB 1004 1005],inv:=(fun ρ=>0 <= (ρ 1006).i/\(ρ 1006).i <= 32/\qcd (ρ 1003).d/\(∀ m,qaj (ρ 1).d m->stW (ρ 1003).d = qkF wK q0T (qs7 m) ((qs7 m).length / 64))/\qao (ρ 1005).d 32/\∀ j,j < (ρ 1006).i.toNat->qa (ρ 1005).d j = (qif (stW (ρ 1003).d)).getD j 0),mu:=(fun ρ=>(32 - (ρ 1006).i).toNat) }
def qhJ (ρ:Env):Prop:=0 <= (ρ 1).i/\0 <= (ρ 2).i/\(ρ 2).i <= (ρ 3).i/\(ρ 2).i < 1152921504606846976/\(ρ 1).i + (ρ 2).i <= (ρ 4).d.length/\qn (ρ 4).d
def qah:Ctr:={ fn := 59,nv:=8,ip:=[gIp 6],args:=[bSl 0 1 2 3],heap:=[],ro:=[bHp 0 4 5,gHp 6 7],pre:=fun ρ=>qhJ ρ/\gOk ρ 6 7 gR,alts:=[
 { k:=1,ret:=dgV 8,heap:=[],post:=fun ρ=>qg (ρ 8).d 32 = sha (qbF (ρ 4).d (ρ 1).i (ρ 2).i) }] }
end Go.Eng

set_option linter.unusedSimpArgs false
set_option linter.unusedVariables false
namespace Go.Eng
open Go
theorem qmG {d s:List (List Value)} {n o:Nat} (h:qao d n) (ho:o + s.length <= n):qao (qax d o s) n:=by
 obtain ⟨row,rfl,hl⟩:=h
 refine ⟨_,rfl,?_⟩
 simp [qaq,hl]; omega
theorem qss {d s:List (List Value)} {n o j:Nat} (h:qao d n) (ho:o + s.length <= n) (hj:j < s.length):qa (qax d o s) (o + j) = (bI s).getD j 0:=by
 obtain ⟨row,rfl,hl⟩:=h
 have h1:(row.take o).length = o:=by rw [List.length_take]; omega
 simp only [qax,qa,List.headD_cons,qaq]
 rw [List.append_assoc,List.getElem?_append_right (by omega),h1,show o + j - o = j by omega,List.getElem?_append_left (by simpa using hj)]
 simp [bI,List.getD_eq_getElem?_getD,hj,qb6]
 cases s[j] <;> rfl
theorem qiK {d s:List (List Value)} {n o j:Nat} (h:qao d n) (ho:o + s.length <= n) (hj:j < o∨o + s.length <= j):qa (qax d o s) j = qa d j:=by
 obtain ⟨row,rfl,hl⟩:=h
 have h1:(row.take o).length = o:=by rw [List.length_take]; omega
 simp only [qax,qa,List.headD_cons,qaq]
 rcases hj with hj | hj
 ·rw [List.append_assoc,List.getElem?_append_left (by omega),List.getElem?_take_of_lt hj]
 ·rw [List.getElem?_append_right (by simp; omega)]
  simp only [List.length_append,h1,List.length_map,List.getElem?_drop]
  rw [show o + s.length + (j - (o + s.length)) = j by omega]
theorem qA6 {d:List (List Value)} {n c:Nat} {v:Value} (h:qao d n) (hc:c < n):qbi d 0 c [v] = qas d c v:=by
 obtain ⟨row,rfl,hl⟩:=h
 simp only [qbi,qas,Int.toNat_zero,List.getElem?_cons_zero,Option.getD_some,List.set_cons_zero,qaq,List.length_singleton]
 congr 1
 rw [List.set_eq_take_append_cons_drop,if_pos (by omega)]
 simp
def q7O (d:List (List Value)) (m:List Int) (q k:Nat):Prop:=∀ j,j < k->qa d (8 + j) = m.getD (64 * q + j) 0
theorem q2h {d:List (List Value)} {m:List Int} {q:Nat} (h:q7O d m q 64):qdV d = qhG m (64 * q):=by
 unfold qdV qhG
 refine List.map_congr_left fun t ht=>?_
 have ht:=List.mem_range.1 ht
 unfold qwF
 rw [h _ (by omega),h _ (by omega),h _ (by omega),h _ (by omega)]
 simp only [Nat.add_assoc]
theorem q0E {m s:List Int} {i:Nat} (h:i < m.length):(m ++ s).getD i 0 = m.getD i 0:=by
 rw [List.getD_eq_getElem?_getD,List.getD_eq_getElem?_getD,List.getElem?_append_left h]
theorem qzQ {m s:List Int} {i:Nat} (h:m.length <= i):(m ++ s).getD i 0 = s.getD (i - m.length) 0:=by
 rw [List.getD_eq_getElem?_getD,List.getD_eq_getElem?_getD,List.getElem?_append_right h]
theorem qmM {d e:List (List Value)} (h:∀ j,j < 8->qa d j = qa e j):stW d = stW e:=by
 unfold stW; rw [qpt h]
theorem qvA {m s:List Int} (h:qL m) (h':qL s):qL (m ++ s):=fun x hx=>(List.mem_append.1 hx).elim (h x) (h' x)
structure Came (d e:List (List Value)) (s:List Int) (r:Nat):Prop where
 row:qcd e
 st:∀ j,j < 8->qa e j = qa d j
 old:∀ j,j < r->qa e (8 + j) = qa d (8 + j)
 new:∀ j,j < s.length->qa e (8 + r + j) = s.getD j 0
 size:qa e 72 = qa d 72 + s.length
theorem qu8 {d e:List (List Value)} {m s:List Int} (h:qaj d m) (hc:Came d e s (m.length % 64)):q7O e (m ++ s) (m.length / 64) (m.length % 64 + s.length):=fun j hj=>by
 obtain ⟨h1,h2,h3,h4,h5⟩:=h
 rcases Nat.lt_or_ge j (m.length % 64) with hr | hr
 ·rw [hc.old j hr,h5 j hr,q0E (by omega)]
 ·have:=hc.new (j - m.length % 64) (by omega)
  rw [show 8 + m.length % 64 + (j - m.length % 64) = 8 + j by omega] at this
  rw [this,qzQ (by omega)]
  congr 1; omega
theorem q4k {d e:List (List Value)} {m s:List Int} (h:qaj d m) (hs:qL s) (hc:Came d e s (m.length % 64)) (hr:m.length % 64 + s.length < 64):qaj e (m ++ s):=by
 have hb:=qu8 h hc
 obtain ⟨h1,h2,h3,h4,h5⟩:=h
 have e1:(m ++ s).length / 64 = m.length / 64:=by rw [List.length_append]; omega
 have e2:(m ++ s).length % 64 = m.length % 64 + s.length:=by rw [List.length_append]; omega
 refine ⟨hc.row,qvA h2 hs,by rw [hc.size,h3,List.length_append]; omega,?_,?_⟩
 ·rw [e1,qmM hc.st,h4,qor (by omega)]
 ·rw [e1,e2]; exact hb
theorem q27 {d e f:List (List Value)} {m s:List Int} (h:qaj d m) (hs:qL s) (hc:Came d e s (m.length % 64)) (hr:m.length % 64 + s.length = 64) (hf:qcd f) (hst:stW f = qka wK (stW e) (qdV e)) (hk:qa f 72 = qa e 72):qaj f (m ++ s):=by
 have hb:=qu8 h hc
 rw [hr] at hb
 obtain ⟨h1,h2,h3,h4,h5⟩:=h
 have e1:(m ++ s).length / 64 = m.length / 64 + 1:=by rw [List.length_append]; omega
 have e2:(m ++ s).length % 64 = 0:=by rw [List.length_append]; omega
 refine ⟨hf,qvA h2 hs,by rw [hk,hc.size,h3,List.length_append]; omega,?_,fun j hj=>by omega⟩
 rw [e1,hst,q2h hb,qmM hc.st,h4]
 show _ = qka wK (qkF wK q0T (m ++ s) (m.length / 64)) _
 rw [qor (by omega)]
theorem qjc {d:List (List Value)} {x:List (List Value)} {r:Nat} (h:qcd d) (hx:qn x) (hr:r + x.length <= 64):Came d (qas (qax d (8 + r) x) 72 (.int .i64 (qa d 72 + x.length))) (bI x) r:=by
 obtain ⟨h1,h2,h3⟩:=h
 have hlen:(bI x).length = x.length:=Go.Proofs.bI_len
 have hone:=qmG (s:=x) (o:=8 + r) h1 (by omega)
 have hin:∀ j,j < x.length->qa (qas (qax d (8 + r) x) 72 (.int .i64 (qa d 72 + x.length))) (8 + r + j) = (bI x).getD j 0:=fun j hj=>by
  rw [qbj (by omega),qss h1 (by omega) hj]
 have hout:∀ j,j < 72->(j < 8 + r∨8 + r + x.length <= j)->qa (qas (qax d (8 + r) x) 72 (.int .i64 (qa d 72 + x.length))) j = qa d j:=fun j hj hjo=>by
  rw [qbj (by omega),qiK h1 (by omega) hjo]
 have hB:∀ j,j < x.length->0 <= (bI x).getD j 0/\(bI x).getD j 0 < 256:=fun j hj=>Go.Proofs.allB_list hx _ (by
  rw [List.getD_eq_getElem?_getD,List.getElem?_eq_getElem (by omega)]
  exact List.getElem_mem _)
 refine ⟨⟨qfk hone,fun j hj=>by rw [hout j (by omega) (.inl (by omega))]; exact h2 j hj,fun j hj hj2=>?_⟩,fun j hj=>hout j (by omega) (.inl (by omega)),fun j hj=>hout (8 + j) (by omega) (.inl (by omega)),fun j hj=>hin j (by omega),by rw [qeN hone (by omega),hlen]⟩
 by_cases hh:j < 8 + r∨8 + r + x.length <= j
 ·rw [hout j hj2 hh]; exact h3 j hj hj2
 ·have:=hin (j - (8 + r)) (by omega)
  rw [show 8 + r + (j - (8 + r)) = j by omega] at this
  rw [this]; exact hB _ (by omega)
theorem qtk {d x:List (List Value)} {r:Nat} {n:Int} (hd:qcd d) (hr:r + x.length <= 64) (hn:n = x.length) (h0:0 <= qa d 72) (h1:qa d 72 < 4611686018427387904):qbi (qax d (8 + r) x) 0 72 [.int .i64 (qe .add .i64 (qb (qax d (8 + r) x) 0 72) n)] = qas (qax d (8 + r) x) 72 (.int .i64 (qa d 72 + x.length)):=by
 have hone:=qmG (s:=x) (o:=8 + r) hd.1 (by omega)
 rw [qA6 hone (by omega),qeF,qiK hd.1 (by omega) (.inr (by omega)),hn,Go.Proofs.add64 (by omega) (by omega)]
theorem q1t {L:Nat}:qe .rem .i64 (L:Int) 64 = ((L % 64:Nat):Int):=by
 show (L:Int).tmod 64 = _
 rw [Int.tmod_eq_emod_of_nonneg (by omega)]; omega
theorem qsO {d x:List (List Value)} {M:List Int} {r:Nat} (h:qaj d M) (hx:qn x) (hr0:M.length % 64 = r) (hr:r + x.length < 64):qaj (qas (qax d (8 + r) x) 72 (.int .i64 (qa d 72 + x.length))) (M ++ bI x):=by
 subst hr0
 exact q4k h (Go.Proofs.allB_list hx) (qjc h.1 hx (by omega)) (by rw [Go.Proofs.bI_len]; omega)
theorem qtq {d x f:List (List Value)} {M:List Int} {r:Nat} (h:qaj d M) (hx:qn x) (hr0:M.length % 64 = r) (hr:r + x.length = 64) (hf:qcd f) (hst:stW f = qka wK (stW (qas (qax d (8 + r) x) 72 (.int .i64 (qa d 72 + x.length)))) (qdV (qas (qax d (8 + r) x) 72 (.int .i64 (qa d 72 + x.length))))) (hk:qa f 72 = qa (qas (qax d (8 + r) x) 72 (.int .i64 (qa d 72 + x.length))) 72):qaj f (M ++ bI x):=by
 subst hr0
 exact q27 h (Go.Proofs.allB_list hx) (qjc h.1 hx (by omega)) (by rw [Go.Proofs.bI_len]; omega) hf hst hk
theorem qkN {d:List (List Value)} {m m':List Int} (h:qaj d m) (h':qaj d m'):m.length = m'.length:=by
 have h1:=h.2.2.1
 have h2:=h'.2.2.1
 omega
theorem q3A {d:List (List Value)} {o a n:Nat} (h:o + a + n <= d.length):qbF d o a ++ bI ((d.drop (o + a)).take n) = qbF d o ((a + n:Nat):Int):=by
 simp only [qbF,Int.toNat_natCast,bI,List.map_take,List.map_drop]
 rw [List.take_add,List.drop_drop]
theorem q57 {d:List (List Value)} {o a:Nat} (h:o + a <= d.length):(qbF d o a).length = a:=by
 simp only [qbF,Int.toNat_natCast,bI,List.length_take,List.length_drop,List.length_map]; omega
theorem q5q {d:List (List Value)} {o n:Nat} (h:qn d):qn ((d.drop o).take n):=fun row hr=>h row (List.drop_subset _ _ (List.take_subset _ _ hr))
theorem quu {d:List (List Value)} {n:Nat} (h:qao d n):qg d n = (d.headD []).map qag:=by
 obtain ⟨row,rfl,hl⟩:=h
 refine List.ext_getElem (by simp [qg,hl]) fun i h1 h2=>?_
 simp only [qg,List.length_map,List.length_range] at h1
 simp [qg,qa,show i < row.length by omega]
theorem q0C {d:List (List Value)} {o n l:Nat} (h:n <= l):(qbp d o l).take n = qbp d o n:=by
 simp only [qbp,<- List.map_take,List.take_take,Nat.min_eq_left h]
theorem qoQ {d:List (List Value)} {o n k:Nat} (h:qao d k):bI (qbp d o n) = ((qg d k).drop o).take n:=by
 rw [quu h,<- List.map_drop,<- List.map_take,bI,qbp,List.map_map]
 rfl
theorem qmC {d:List (List Value)} {o n k:Nat} (h:qao d k) (ho:o + n <= k):(qbp d o n).length = n:=by
 obtain ⟨row,rfl,hl⟩:=h
 simp [qbp,hl]; omega
theorem qpS {d:List (List Value)} {o n k:Nat} (h:qao d k) (ha:qL (qg d k)):qn (qbp d o n):=fun row hr=>by
 obtain ⟨v,hv,rfl⟩:=List.mem_map.1 hr
 have h1:v ∈ d.headD []:=List.drop_subset _ _ (List.take_subset _ _ hv)
 refine ha _ ?_
 rw [quu h]
 exact List.mem_map.2 ⟨v,h1,rfl⟩
theorem q3f {d:List (List Value)} {a n:Nat}:qdW d 0 a ++ ((qg d 72).drop a).take n = qdW d 0 ((a + n:Nat):Int):=by
 simp only [qdW,Int.toNat_natCast,Int.toNat_zero,List.drop_zero]
 rw [List.take_add]
theorem qvg {d:List (List Value)} {a:Nat} (h:a <= 72):(qdW d 0 a).length = a:=by
 simp [qdW,qdx]; omega
def qhk:List Value:=q0d.map (Value.int .u32) ++ (List.replicate 64 (Value.int .u8 0) ++ [Value.int .i64 0])
theorem q0z:qaj [qhk] []:=by
 refine ⟨⟨⟨_,rfl,by decide⟩,fun j hj=>?_,fun j h1 h2=>?_⟩,fun x hx=>absurd hx (by simp),by decide,by decide,fun j hj=>absurd hj (by simp)⟩
 ·exact (by decide:∀ j:Fin 8,0 <= qa [qhk] j.val/\qa [qhk] j.val < 4294967296) ⟨j,hj⟩
 ·exact (by decide:∀ j:Fin 72,8 <= j.val->0 <= qa [qhk] j.val/\qa [qhk] j.val < 256) ⟨j,h2⟩ h1
theorem qjn {d e:List (List Value)} {m:List Int} (h:qaj d m) (h1:qao e 73) (h2:∀ j,j < 73->qa e j = qa d j):qaj e m:=by
 obtain ⟨⟨a1,a2,a3⟩,b,c,d',f⟩:=h
 refine ⟨⟨h1,fun j hj=>by rw [h2 j (by omega)]; exact a2 j hj,fun j hj hj2=>by rw [h2 j (by omega)]; exact a3 j hj hj2⟩,b,by rw [h2 72 (by omega)]; exact c,by rw [qmM (e:=d) (fun j hj=>h2 j (by omega))]; exact d',fun j hj=>by rw [h2 _ (by omega)]; exact f j hj⟩
def qjb (f:Nat->Int):List Value:=(List.range 73).map fun j=>.int (if j < 8 then .u32 else if j < 72 then .u8 else .i64) (f j)
theorem qtS {f:Nat->Int} {j:Nat} (h:j < 73):qa [qjb f] j = f j:=by
 simp [qa,qjb,h,qag]
theorem qtV {f:Nat->Int}:qao [qjb f] 73:=⟨_,rfl,by simp [qjb]⟩
theorem q9u {d:List (List Value)} {n:Nat} {v:Int} (h1:1 <= n) (h2:n <= 64) (hd:qao d 72) (hc:∀ j,j < 72->qa d j = if j = 0 then 128 else if n <= j/\j < n + 8 then (beL v 8)[j - n]?.getD 0 else 0):qdW d 0 ((n + 8:Nat):Int) = 128 :: (List.replicate (n - 1) 0 ++ beL v 8):=by
 have hl:(qdW d 0 ((n + 8:Nat):Int)).length = n + 8:=qvg (by omega)
 refine List.ext_getElem (by rw [hl]; simp [qaO]; omega) fun i i1 i2=>?_
 rw [hl] at i1
 have e1:(qdW d 0 ((n + 8:Nat):Int))[i] = qa d i:=by
  simp [qdW,qg]
 rw [e1,hc i (by omega)]
 by_cases e:i = 0
 ·subst e; simp
 ·rw [if_neg e,List.getElem_cons,dif_neg e]
  by_cases hn:n <= i
  ·rw [if_pos ⟨hn,by omega⟩,List.getElem_append_right (by simp; omega)]
   have:i - 1 - (List.replicate (n - 1) (0:Int)).length = i - n:=by simp; omega
   simp only [this]
   rw [List.getElem?_eq_getElem (by rw [qaO]; omega)]; rfl
  ·rw [if_neg (by omega),List.getElem_append_left (by simp; omega),List.getElem_replicate]
theorem qz2 {v:Int} {n j:Nat} (h:j < n):(beL v n)[j]?.getD 0 = (v.fdiv (2 ^ (8 * (n - 1 - j)))) % 256:=by
 simp [beL,h]
theorem qiR {x:Int}:IntKind.u8.wrap x = x % 256:=by
 simp [IntKind.wrap,IntKind.bits,IntKind.signed]
theorem q8f {d:List (List Value)} (h:qcd d) {k:Nat} (hk:k < 8):(stL (stW d)).getD k 0 = qa d k:=by
 have h8:stL (stW d) = [ofW (toW (qa d 0)),ofW (toW (qa d 1)),ofW (toW (qa d 2)),ofW (toW (qa d 3)),ofW (toW (qa d 4)),ofW (toW (qa d 5)),ofW (toW (qa d 6)),ofW (toW (qa d 7))]:=rfl
 rw [h8,qeP (h.2.1 0 (by omega)),qeP (h.2.1 1 (by omega)),qeP (h.2.1 2 (by omega)),qeP (h.2.1 3 (by omega)),qeP (h.2.1 4 (by omega)),qeP (h.2.1 5 (by omega)),qeP (h.2.1 6 (by omega)),qeP (h.2.1 7 (by omega))]
 match k,hk with
 | 0,_=>rfl
 | 1,_=>rfl
 | 2,_=>rfl
 | 3,_=>rfl
 | 4,_=>rfl
 | 5,_=>rfl
 | 6,_=>rfl
 | 7,_=>rfl
theorem q07 {d:List (List Value)} (h:qcd d) {t:Nat} (ht:t < 32):(qif (stW d))[t]?.getD 0 = ((qa d (t / 4)).fdiv (2 ^ (24 - 8 * (t % 4)))) % 256:=by
 rw [<- q8f h (by omega)]
 simp [qif,ht]
theorem qz5 {x:Int} {n:Nat} (hn:n <= 64):qe .shr .u64 x (n:Int) = x.fdiv (2 ^ n):=by
 show x.fdiv (2 ^ (min (n:Int).toNat 64)) = _
 rw [Int.toNat_natCast,Nat.min_eq_left hn]
theorem q8t {x:Int} {n:Nat} (hn:n <= 32):qe .shr .u32 x (n:Int) = x.fdiv (2 ^ n):=by
 show x.fdiv (2 ^ (min (n:Int).toNat 32)) = _
 rw [Int.toNat_natCast,Nat.min_eq_left hn]
theorem q9x {d:List (List Value)} {n:Nat} {l:List Int} (hl:l.length = n) (h:∀ j,j < n->qa d j = l[j]?.getD 0):qg d n = l:=by
 refine List.ext_getElem (by rw [qdx,hl]) fun i h1 h2=>?_
 rw [qdx] at h1
 have:=h i h1
 rw [List.getElem?_eq_getElem h2] at this
 simpa [qg] using this
def qeG (f:Nat->Int):List Value:=(List.range 32).map fun j=>.int .u8 (f j)
theorem qoc {f:Nat->Int} {j:Nat} (h:j < 32):qa [qeG f] j = f j:=by
 simp [qa,qeG,h,qag]
theorem q6l {d:List (List Value)} {n:Nat} {x:Int} (h:x ∈ qg d n):∃ j,j < n/\qa d j = x:=by
 obtain ⟨j,hj,e⟩:=List.mem_map.1 h
 exact ⟨j,List.mem_range.1 hj,e⟩
theorem qB3 {t:Nat} (h:t < 32):qe .quo .i64 (t:Int) 4 = ((t / 4:Nat):Int):=by
 show IntKind.i64.wrap ((t:Int).tdiv 4) = _
 rw [Int.tdiv_eq_ediv_of_nonneg (by omega),Go.Proofs.wrap64 (by omega) (by omega)]; omega
theorem qB8 {t:Nat}:qe .rem .i64 (t:Int) 4 = ((t % 4:Nat):Int):=by
 show (t:Int).tmod 4 = _
 rw [Int.tmod_eq_emod_of_nonneg (by omega)]; omega
end Go.Eng

set_option linter.unusedSimpArgs false
set_option linter.unusedVariables false
namespace Go.Eng
open Go
def k16:List CK:=List.replicate 16 (.int .u32)
end Go.Eng

set_option linter.unusedSimpArgs false
set_option linter.unusedVariables false
set_option maxRecDepth 100000
namespace Go.Proofs
open Go Go.Eng

end Go.Proofs

set_option linter.unusedSimpArgs false
set_option linter.unusedVariables false
namespace Go.Proofs
open Go Go.Eng
end Go.Proofs

set_option linter.unusedSimpArgs false
set_option linter.unusedVariables false
namespace Go.Proofs
open Go Go.Eng
end Go.Proofs

set_option linter.unusedSimpArgs false
set_option linter.unusedVariables false
namespace Go.Eng
open Go
end Go.Eng
namespace Go.Proofs
open Go Go.Eng
end Go.Proofs

set_option linter.unusedSimpArgs false
set_option linter.unusedVariables false
namespace Go.Eng
open Go

def qc1 (f:Nat->Int) (len n:Nat):List Int:=(List.range len).map fun i=>if i < n then f i else 0
def qa4 (n m:Nat):List Int:=(List.range (n * n)).map fun t=>if t / n = t % n/\t / n < m then 1 else 0
def qn4 (cols:Nat) (i:Nat):Int:=qho (i / cols:Nat) (i % cols:Nat)
def qb4 (rows cols:Nat):List Int:=qc1 (qn4 cols) (rows * cols) (rows * cols)
def qc6 (a b:List Int) (ra ca cb:Nat):Nat->List Int
 | 0=>List.replicate (ra * cb) 0
 | t + 1=>qD (qc6 a b ra ca cb t) (t / ca * cb) (seg b (t % ca * cb) cb) (a.getD t 0)
def qny (a b:List Int) (ra ca cb:Nat):List Int:=qc6 a b ra ca cb (ra * ca)
def qdl (a:List Int) (ca c:Nat):Nat->Nat->Nat
 | p,0=>p
 | p,n + 1=>if a.getD (p * ca + c) 0 = 0 then qdl a ca c (p + 1) n else p
def qaA (ca cb rank c:Nat) (a b:List Int):Nat->List Int × List Int
 | 0=>(a,b)
 | i + 1 =>
  let s:=qaA ca cb rank c a b i
  if i = rank then s else
   (qD s.1 (i * ca) (seg s.1 (rank * ca) ca) (s.1.getD (i * ca + c) 0),qD s.2 (i * cb) (seg s.2 (rank * cb) cb) (s.1.getD (i * ca + c) 0))
def qbO (ca cb rank p:Nat) (a b:List Int):List Int × List Int :=
 if p = rank then (a,b) else (qD a (rank * ca) (seg a (p * ca) ca) 1,qD b (rank * cb) (seg b (p * cb) cb) 1)
def qhc (ca cb rank c:Nat) (a b:List Int):List Int × List Int :=
 (qbt a (rank * ca) ca (qgh (a.getD (rank * ca + c) 0)),qbt b (rank * cb) cb (qgh (a.getD (rank * ca + c) 0)))
def qgq (rows ca cb c:Nat) (s:List Int × List Int × Nat):List Int × List Int :=
 let s1:=qbO ca cb s.2.2 (qdl s.1 ca c s.2.2 (rows - s.2.2)) s.1 s.2.1
 qhc ca cb s.2.2 c s1.1 s1.2
def qcS (rows ca cb c:Nat) (s:List Int × List Int × Nat):List Int × List Int × Nat :=
 if rows <= s.2.2 then s else
  if qdl s.1 ca c s.2.2 (rows - s.2.2) = rows then s else
   let s3:=qaA ca cb s.2.2 c (qgq rows ca cb c s).1 (qgq rows ca cb c s).2 rows
   (s3.1,s3.2,s.2.2 + 1)
def qcl (rows ca cb:Nat) (a b:List Int):Nat->List Int × List Int × Nat
 | 0=>(a,b,0)
 | c + 1=>qcS rows ca cb c (qcl rows ca cb a b c)

def qop (a b:T) (r l c:Nat):Bool × List T:=(true,[.vint .i64 a,.vint .i64 b,.vslice r (.lit 0) (.var l) (.var c) 1])
def qoq:Bool × List T:=(true,[.vint .i64 (.lit 0),.vint .i64 (.lit 0),.vnils])
def qbk (t:T):Bool × List T:=(false,[.vint .i64 t])
def qd0:Ctr:={ fn := 166,nv:=1,args:=[iv .i64 (.var 0)],heap:=[],ro:=[],pre:=fun _=>True,alts:=[
 { k:=0,ret:=.tup [qoq,qbk (.lit 2)],heap:=[],post:=fun ρ=>(ρ 0).i < 1∨255 < (ρ 0).i },
 { k:=4,ret:=.tup [qop (.var 0) (.var 0) 1 2 3,qbk (.lit 0)],heap:=[bHp 1 4 3],post:=fun ρ=>1 <= (ρ 0).i/\(ρ 0).i <= 255/\qea (ρ 0).i (ρ 0).i (ρ 2).i (ρ 3).i (ρ 4).d/\(ρ 2).i = (ρ 4).d.length/\bI (ρ 4).d = qa4 (ρ 0).i.toNat (ρ 0).i.toNat }] }
def qoV:Inv:={ key:=5,nv:=7,env:=[(0,iv .i64 (.var 0)),(2,.one (.vptr 1006 (.lit 0) 3 0)),(4,.one (.vptr 1005 (.lit 0) 3 0)),(16,iv .i64 (.var 0)),(17,iv .i64 (.var 1000))],heap:=[.cells 1005 200 [.vint .i64 (.var 0),.vint .i64 (.var 0),.vslice 1001 (.lit 0) (.var 1002) (.var 1003) 1],.cells 1006 200 [.vint .i64 (.lit 0),.vint .i64 (.lit 0),.vnils],bHp 1001 1004 1003],inv:=(fun ρ=>1 <= (ρ 0).i/\(ρ 0).i <= 255/\0 <= (ρ 1000).i/\(ρ 1000).i <= (ρ 0).i/\qea (ρ 0).i (ρ 0).i (ρ 1002).i (ρ 1003).i (ρ 1004).d/\(ρ 1002).i = (ρ 1004).d.length/\bI (ρ 1004).d = qa4 (ρ 0).i.toNat (ρ 1000).i.toNat),mu:=(fun ρ=>((ρ 0).i - (ρ 1000).i).toNat) }
def qcQ (r c:Int):Prop:=r < 1∨255 < r∨c < 1∨255 < c
def qcH:Ctr:={ fn := 150,nv:=4,args:=[qaD,iv .i64 (.var 2),iv .i64 (.var 3)],heap:=[fHp 1],ro:=[],pre:=fun ρ=>qk (ρ 1).d,alts:=[
 { k:=1,ret:=.tup [qoq,qbk (.lit 2)],heap:=[fHp 4],post:=fun ρ=>qk (ρ 4).d/\qcQ (ρ 2).i (ρ 3).i },
 { k:=5,ret:=.tup [qop (.var 2) (.var 3) 4 5 6,qbk (.lit 0)],heap:=[fHp 7,bHp 4 8 6],post:=fun ρ=>qk (ρ 7).d/\¬ qcQ (ρ 2).i (ρ 3).i/\qea (ρ 2).i (ρ 3).i (ρ 5).i (ρ 6).i (ρ 8).d/\(ρ 5).i = (ρ 8).d.length/\bI (ρ 8).d = qb4 (ρ 2).i.toNat (ρ 3).i.toNat }] }
def q25:List SH:=[fHp 1006,.cells 1007 200 [.vint .i64 (.lit 0),.vint .i64 (.lit 0),.vnils],.cells 1005 200 [.vint .i64 (.var 2),.vint .i64 (.var 3),.vslice 1001 (.lit 0) (.var 1002) (.var 1003) 1],bHp 1001 1004 1003]
def qsC (ρ:Env) (n:Int):Prop:=¬ qcQ (ρ 2).i (ρ 3).i/\qk (ρ 1006).d/\qea (ρ 2).i (ρ 3).i (ρ 1002).i (ρ 1003).i (ρ 1004).d/\(ρ 1002).i = (ρ 1004).d.length/\bI (ρ 1004).d = qc1 (qn4 (ρ 3).i.toNat) ((ρ 2).i.toNat * (ρ 3).i.toNat) n.toNat
def qml:Inv:={ key:=7,nv:=8,env:=[(0,qaD),(1,iv .i64 (.var 2)),(2,iv .i64 (.var 3)),(6,.one (.vptr 1007 (.lit 0) 3 0)),(8,.one (.vptr 1005 (.lit 0) 3 0)),(32,iv .i64 (.var 2)),(33,iv .i64 (.var 1000))],heap:=q25,inv:=(fun ρ=>0 <= (ρ 1000).i/\(ρ 1000).i <= (ρ 2).i/\qsC ρ ((ρ 1000).i * (ρ 3).i)),mu:=(fun ρ=>((ρ 2).i - (ρ 1000).i).toNat) }
def qmH:Inv:={ key:=10,nv:=9,env:=[(0,qaD),(1,iv .i64 (.var 2)),(2,iv .i64 (.var 3)),(6,.one (.vptr 1007 (.lit 0) 3 0)),(8,.one (.vptr 1005 (.lit 0) 3 0)),(32,iv .i64 (.var 2)),(33,iv .i64 (.var 1000)),(9,iv .i64 (.var 1000)),(36,iv .i64 (.var 3)),(37,iv .i64 (.var 1008))],heap:=q25,inv:=(fun ρ=>0 <= (ρ 1000).i/\(ρ 1000).i < (ρ 2).i/\0 <= (ρ 1008).i/\(ρ 1008).i <= (ρ 3).i/\qsC ρ ((ρ 1000).i * (ρ 3).i + (ρ 1008).i)/\(ρ 1000).i = (ρ 10).i),mu:=(fun ρ=>((ρ 3).i - (ρ 1008).i).toNat) }
def q5p:SV:=qpb 2 3 4 5 6
def qA4:SV:=qpb 9 10 11 12 13
def qaH (r c l:Int):Prop:=1 <= r/\r <= 255/\1 <= c/\c <= 255/\l = r * c
def qdH:Ctr:={ fn := 151,nv:=16,args:=[qaD,q5p,qA4],heap:=[fHp 1],ro:=[bHp 4 7 8,bHp 11 14 15],pre:=fun ρ=>qk (ρ 1).d/\0 <= (ρ 5).i/\(ρ 5).i <= (ρ 6).i/\(ρ 5).i <= (ρ 7).d.length/\qn (ρ 7).d/\0 <= (ρ 12).i/\(ρ 12).i <= (ρ 13).i/\(ρ 12).i <= (ρ 14).d.length/\qn (ρ 14).d,alts:=[
 { k:=1,ret:=.tup [qoq,qbk (.lit 2)],heap:=[fHp 16],post:=fun ρ=>qk (ρ 16).d/\¬ (qaH (ρ 2).i (ρ 3).i (ρ 5).i/\qaH (ρ 9).i (ρ 10).i (ρ 12).i) },
 { k:=1,ret:=.tup [qoq,qbk (.lit 10)],heap:=[fHp 16],post:=fun ρ=>qk (ρ 16).d/\qaH (ρ 2).i (ρ 3).i (ρ 5).i/\qaH (ρ 9).i (ρ 10).i (ρ 12).i/\(ρ 3).i ≠ (ρ 9).i },
 { k:=5,ret:=.tup [qop (.var 2) (.var 10) 16 17 18,qbk (.lit 0)],heap:=[fHp 19,bHp 16 20 18],post:=fun ρ=>qk (ρ 19).d/\qaH (ρ 2).i (ρ 3).i (ρ 5).i/\qaH (ρ 9).i (ρ 10).i (ρ 12).i/\(ρ 3).i = (ρ 9).i/\qea (ρ 2).i (ρ 10).i (ρ 17).i (ρ 18).i (ρ 20).d/\(ρ 17).i = (ρ 20).d.length/\bI (ρ 20).d = qny ((bI (ρ 7).d).take (ρ 5).i.toNat) ((bI (ρ 14).d).take (ρ 12).i.toNat) (ρ 2).i.toNat (ρ 3).i.toNat (ρ 10).i.toNat }] }
def q0l (r:Nat):SH:=.cells r 200 [.vint .i64 (.lit 0),.vint .i64 (.lit 0),.vnils]
def qin (r a b s l c:Nat):SH:=.cells r 200 [.vint .i64 (.var a),.vint .i64 (.var b),.vslice s (.lit 0) (.var l) (.var c) 1]
def q20:List SH:=[fHp 1006,q0l 1009,qin 1007 2 3 4 5 6,qin 1008 9 10 11 12 13,qin 1005 2 10 1001 1002 1003,bHp 1001 1004 1003]
def qyS:List (Nat × SV):=[(0,qaD),(6,.one (.vptr 1009 (.lit 0) 3 0)),(4,.one (.vptr 1007 (.lit 0) 3 0)),(5,.one (.vptr 1008 (.lit 0) 3 0)),(8,.one (.vptr 1005 (.lit 0) 3 0)),(36,iv .i64 (.var 2)),(37,iv .i64 (.var 1000))]
def qrh (ρ:Env) (t:Int):Prop:=qaH (ρ 2).i (ρ 3).i (ρ 5).i/\qaH (ρ 9).i (ρ 10).i (ρ 12).i/\(ρ 3).i = (ρ 9).i/\qk (ρ 1006).d/\qea (ρ 2).i (ρ 10).i (ρ 1002).i (ρ 1003).i (ρ 1004).d/\(ρ 1002).i = (ρ 1004).d.length/\bI (ρ 1004).d = qc6 ((bI (ρ 7).d).take (ρ 5).i.toNat) ((bI (ρ 14).d).take (ρ 12).i.toNat) (ρ 2).i.toNat (ρ 3).i.toNat (ρ 10).i.toNat t.toNat
def qs0:Inv:={ key:=9,nv:=10,env:=qyS,heap:=q20,inv:=(fun ρ=>0 <= (ρ 1000).i/\(ρ 1000).i <= (ρ 2).i/\qrh ρ ((ρ 1000).i * (ρ 3).i)),mu:=(fun ρ=>((ρ 2).i - (ρ 1000).i).toNat) }
def qsh:Inv:={ key:=12,nv:=14,env:=qyS ++ [(9,iv .i64 (.var 1000)),(42,bSl 4 1011 1012 1013),(43,iv .i64 (.var 1012)),(44,iv .i64 (.var 1010))],heap:=q20,inv:=(fun ρ=>0 <= (ρ 1000).i/\(ρ 1000).i < (ρ 2).i/\0 <= (ρ 1010).i/\(ρ 1010).i <= (ρ 3).i/\(ρ 1011).i = (ρ 1000).i * (ρ 3).i/\(ρ 1012).i = (ρ 3).i/\qrh ρ ((ρ 1000).i * (ρ 3).i + (ρ 1010).i)/\(ρ 1000).i = (ρ 26).i),mu:=(fun ρ=>((ρ 3).i - (ρ 1010).i).toNat) }
end Go.Eng

set_option linter.unusedSimpArgs false
set_option linter.unusedVariables false
namespace Go.Eng
open Go
def qzV:Nat := 223
def wrA:SV:=.one (.vptr 0 (.lit 0) 3 0)
def qeW (l f r n c:Nat):SH:=.cells 0 qzV [.vint .i64 (.var l),.vbool (.var f),.vslice r (.lit 0) (.var n) (.var c) 1]
def wOk (lim:Int) (n c:Int) (d:List (List Value)):Prop:=0 <= lim/\lim < 9223372036854775808/\n = d.length/\n <= lim/\qn d
def qgA (lim:Int) (f:Bool) (m:List Int) (k:Int):Bool:=f || decide (lim - m.length < k)
def qfL (lim:Int) (f:Bool) (m s:List Int):Bool × List Int:=if qgA lim f m s.length then (true,m) else (false,m ++ s)
def qcj (l f r n c d:Nat):List SH:=[qeW l f r n c,bHp r d c]
def qc4:Ctr:={ fn := 132,nv:=8,args:=[wrA,iv .i64 (.var 7)],heap:=qcj 1 2 3 4 5 6,ro:=[],pre:=fun ρ=>wOk (ρ 1).i (ρ 4).i (ρ 5).i (ρ 6).d/\0 <= (ρ 7).i/\(ρ 7).i < 1152921504606846976,alts:=[
 { k:=2,ret:=.one (.vbool (.var 8)),heap:=qcj 1 9 3 4 5 6,post:=fun ρ=>(ρ 9).b = qgA (ρ 1).i (ρ 2).b (bI (ρ 6).d) (ρ 7).i/\(ρ 8).b = !(ρ 9).b }] }
def qgQ (ρ:Env) (n:Nat) (s:List Int):Prop:=wOk (ρ 1).i (ρ (n + 2)).i (ρ (n + 3)).i (ρ (n + 4)).d/\((ρ n).b,bI (ρ (n + 4)).d) = qfL (ρ 1).i (ρ 2).b (bI (ρ 6).d) s
def qbY:Ctr:={ fn := 131,nv:=9,args:=[wrA,.one (.vint .u64 (.var 7)),iv .i64 (.var 8)],heap:=qcj 1 2 3 4 5 6,ro:=[],pre:=fun ρ=>wOk (ρ 1).i (ρ 4).i (ρ 5).i (ρ 6).d/\(ρ 4).i + 8 <= 140737488355328/\0 <= (ρ 8).i/\(ρ 8).i <= 8/\0 <= (ρ 7).i/\(ρ 7).i < 18446744073709551616,alts:=[
 { k:=5,ret:=.tup [],heap:=qcj 1 9 10 11 12 13,post:=fun ρ=>qgQ ρ 9 (beL (ρ 7).i (ρ 8).i.toNat) }] }
def qrU:Inv:={ key:=2,nv:=5,env:=[(0,wrA),(1,.one (.vint .u64 (.var 7))),(2,iv .i64 (.var 8)),(6,iv .i64 (.var 1004))],heap:=[.cells 0 qzV [.vint .i64 (.var 1),.vbool (.bl false),.vslice 1000 (.lit 0) (.var 1001) (.var 1002) 1],bHp 1000 1003 1002],inv:=(fun ρ=>-1 <= (ρ 1004).i/\(ρ 1004).i < (ρ 8).i/\(ρ 1001).i = (ρ 1003).d.length/\(ρ 2).b = false/\(ρ 8).i <= (ρ 1).i - (ρ 4).i/\qn (ρ 1003).d/\bI (ρ 1003).d = bI (ρ 6).d ++ (beL (ρ 7).i (ρ 8).i.toNat).take ((ρ 8).i - 1 - (ρ 1004).i).toNat),mu:=(fun ρ=>((ρ 1004).i + 1).toNat) }
def qqK (fn:Nat) (k:IntKind) (n:Nat):Ctr:={ fn:=fn,nv:=8,args:=[wrA,.one (.vint k (.var 7))],heap:=qcj 1 2 3 4 5 6,ro:=[],pre:=fun ρ=>wOk (ρ 1).i (ρ 4).i (ρ 5).i (ρ 6).d/\(ρ 4).i + 8 <= 140737488355328/\0 <= (ρ 7).i/\(ρ 7).i < 256 ^ n,alts:=[
 { k:=5,ret:=.tup [],heap:=qcj 1 8 9 10 11 12,post:=fun ρ=>qgQ ρ 8 (beL (ρ 7).i n) }] }
def u8C:Ctr:=qqK 106 .u8 1
def qji:Ctr:=qqK 105 .u16 2
def qbG:Ctr:={ fn := 104,nv:=1,args:=[iv .i64 (.var 0)],heap:=[],ro:=[],pre:=fun _=>True,alts:=[
 { k:=4,ret:=.one (.vptr 1 (.lit 0) 3 0),heap:=[.cells 1 qzV [.vint .i64 (.var 2),.vbool (.bl false),.vnils]],post:=fun ρ=>(ρ 2).i = max 0 (ρ 0).i }] }
def qfn:Ctr:={ fn := 107,nv:=9,args:=[wrA,.one (.vslice 7 (.lit 0) (.lit 32) (.lit 32) 1)],heap:=qcj 1 2 3 4 5 6,ro:=[qAB 7 8],pre:=fun ρ=>wOk (ρ 1).i (ρ 4).i (ρ 5).i (ρ 6).d/\(ρ 4).i + 32 <= 140737488355328/\qao (ρ 8).d 32/\qL (qg (ρ 8).d 32),alts:=[
 { k:=5,ret:=.tup [],heap:=qcj 1 9 10 11 12 13,post:=fun ρ=>qgQ ρ 9 (qg (ρ 8).d 32) }] }
def qrQ:List CK:=List.replicate 4 (.int .i64) ++ (List.replicate 32 (.int .u8) ++ [.any])
def qBe (r d:Nat):SH:=.arr r 27 qrQ (.var d) (.lit 1)
def qgT:Ctr:={ fn := 107,nv:=9,args:=[wrA,.one (.vslice 7 (.lit 4) (.lit 32) (.lit 32) 1)],heap:=qcj 1 2 3 4 5 6,ro:=[qBe 7 8],pre:=fun ρ=>wOk (ρ 1).i (ρ 4).i (ρ 5).i (ρ 6).d/\(ρ 4).i + 32 <= 140737488355328/\qao (ρ 8).d 37/\qL ((qg (ρ 8).d 36).drop 4),alts:=[
 { k:=5,ret:=.tup [],heap:=qcj 1 9 10 11 12 13,post:=fun ρ=>qgQ ρ 9 ((qg (ρ 8).d 36).drop 4) }] }
def qfp:Ctr:={ fn := 108,nv:=7,args:=[wrA],heap:=[],ro:=qcj 1 2 3 4 5 6,pre:=fun ρ=>wOk (ρ 1).i (ρ 4).i (ρ 5).i (ρ 6).d/\(ρ 4).i <= 140737488355328,alts:=[
 { k:=0,ret:=.tup [(false,[.vnils]),qbk (.lit 3)],heap:=[],post:=fun ρ=>(ρ 2).b = true },
 { k:=4,ret:=.tup [(false,[.vslice 7 (.lit 0) (.var 4) (.var 8) 1]),qbk (.lit 0)],heap:=[bHp 7 9 8],post:=fun ρ=>(ρ 2).b = false/\(ρ 9).d = (ρ 6).d }] }
def qcc:Ctr:={ fn := 91,nv:=5,args:=[.one (.vslice 0 (.lit 0) (.var 1) (.var 2) 1)],heap:=[],ro:=[bHp 0 3 4],pre:=fun ρ=>0 <= (ρ 1).i/\(ρ 1).i = (ρ 3).d.length/\(ρ 1).i <= 140737488355328,alts:=[
 { k:=3,ret:=.one (.vslice 5 (.lit 0) (.var 1) (.var 6) 1),heap:=[bHp 5 7 6],post:=fun ρ=>(ρ 7).d = (ρ 3).d }] }
end Go.Eng

set_option linter.unusedSimpArgs false
set_option linter.unusedVariables false
namespace Go.Eng
open Go

def qjS:Ctr:={ qd0 with pre:=fun ρ=>1 <= (ρ 0).i/\(ρ 0).i <= 255,alts:=qd0.alts.drop 1 }
def qhQ:Ctr:={ qcH with pre:=fun ρ=>qk (ρ 1).d/\¬ qcQ (ρ 2).i (ρ 3).i,alts:=qcH.alts.drop 1 }
def qjB:Ctr:={ qe1 with alts:=[{ k:=3,ret:=.agg [.vint .i64 (.var 0),.vint .i64 (.var 1),.vslice 7 (.lit 0) (.var 3) (.var 8) 1],heap:=[bHp 7 9 8],post:=fun ρ=>(ρ 9).d = (ρ 5).d.take (ρ 3).i.toNat/\((ρ 9).d.length:Int) <= (ρ 8).i }] }
def qK (r c l cap:Int) (d:qd):Prop:=qea r c l cap d/\l = d.length
def qdO:Ctr:={ fn := 167,nv:=16,args:=[qaD,q5p,qA4],heap:=[fHp 1,bHp 4 7 8,bHp 11 14 15],ro:=[],pre:=fun ρ=>qk (ρ 1).d/\qK (ρ 2).i (ρ 3).i (ρ 5).i (ρ 6).i (ρ 7).d/\qK (ρ 9).i (ρ 10).i (ρ 12).i (ρ 13).i (ρ 14).d/\(ρ 9).i = (ρ 2).i,alts:=[
 { k:=4,ret:=iv .i64 (.var 16),heap:=[fHp 17,bHp 4 18 8,bHp 11 19 15],post:=fun ρ=>qk (ρ 17).d/\qK (ρ 2).i (ρ 3).i (ρ 5).i (ρ 6).i (ρ 18).d/\qK (ρ 9).i (ρ 10).i (ρ 12).i (ρ 13).i (ρ 19).d/\0 <= (ρ 16).i/\(ρ 16).i <= (ρ 2).i/\(bI (ρ 18).d,bI (ρ 19).d,(ρ 16).i.toNat) = qcl (ρ 2).i.toNat (ρ 3).i.toNat (ρ 10).i.toNat (bI (ρ 7).d) (bI (ρ 14).d) (ρ 3).i.toNat }] }
def quS:List SH:=[fHp 1002,qin 1003 2 3 4 5 6,qin 1004 9 10 11 12 13,bHp 4 1005 8,bHp 11 1006 15]
def qsb:List (Nat × SV):=[(0,qaD),(4,.one (.vptr 1003 (.lit 0) 3 0)),(5,.one (.vptr 1004 (.lit 0) 3 0)),(7,iv .i64 (.var 1000)),(8,iv .i64 (.var 1001))]
def q7B (r ca cb l1 c1 l2 c2 rank c:Int) (f da db:qd):Prop:=qk f/\qK r ca l1 c1 da/\qK r cb l2 c2 db/\0 <= rank/\rank <= r/\0 <= c/\c <= ca
def qcK (r ca cb l1 c1 l2 c2 rank c:Int) (f da db a0 b0:qd):Prop:=q7B r ca cb l1 c1 l2 c2 rank c f da db/\(bI da,bI db,rank.toNat) = qcl r.toNat ca.toNat cb.toNat (bI a0) (bI b0) c.toNat
def qrI:Inv:={ key:=3,nv:=7,env:=qsb,heap:=quS,inv:=(fun ρ=>qcK (ρ 2).i (ρ 3).i (ρ 10).i (ρ 5).i (ρ 6).i (ρ 12).i (ρ 13).i (ρ 1000).i (ρ 1001).i (ρ 1002).d (ρ 1005).d (ρ 1006).d (ρ 7).d (ρ 14).d),mu:=(fun ρ=>((ρ 3).i - (ρ 1001).i).toNat) }
def qe6 (r ca cb l1 c1 l2 c2 rank c p:Int) (f da db a0 b0:qd):Prop:=qcK r ca cb l1 c1 l2 c2 rank c f da db a0 b0/\rank < r/\c < ca/\rank <= p/\p <= r/\qdl (bI da) ca.toNat c.toNat p.toNat (r.toNat - p.toNat) = qdl (bI da) ca.toNat c.toNat rank.toNat (r.toNat - rank.toNat)
def qsx:Inv:={ key:=6,nv:=8,env:=qsb ++ [(9,iv .i64 (.var 1007))],heap:=quS,inv:=(fun ρ=>qe6 (ρ 2).i (ρ 3).i (ρ 10).i (ρ 5).i (ρ 6).i (ρ 12).i (ρ 13).i (ρ 1000).i (ρ 1001).i (ρ 1007).i (ρ 1002).d (ρ 1005).d (ρ 1006).d (ρ 7).d (ρ 14).d/\(ρ 1001).i = (ρ 19).i),mu:=(fun ρ=>((ρ 2).i - (ρ 1007).i).toNat) }
def qde (r ca cb l1 c1 l2 c2 rank c i:Int) (f da db a0 b0:qd):Prop :=
 q7B r ca cb l1 c1 l2 c2 rank c f da db/\rank < r/\c < ca/\0 <= i/\i <= r/\∃ s,s = qcl r.toNat ca.toNat cb.toNat (bI a0) (bI b0) c.toNat/\s.2.2 = rank.toNat /\
  qdl s.1 ca.toNat c.toNat rank.toNat (r.toNat - rank.toNat) ≠ r.toNat /\
  (bI da,bI db) = qaA ca.toNat cb.toNat rank.toNat c.toNat (qgq r.toNat ca.toNat cb.toNat c.toNat s).1 (qgq r.toNat ca.toNat cb.toNat c.toNat s).2 i.toNat
def qsp:Inv:={ key:=16,nv:=8,env:=qsb ++ [(97,iv .i64 (.var 2)),(98,iv .i64 (.var 1007))],heap:=quS,inv:=(fun ρ=>qde (ρ 2).i (ρ 3).i (ρ 10).i (ρ 5).i (ρ 6).i (ρ 12).i (ρ 13).i (ρ 1000).i (ρ 1001).i (ρ 1007).i (ρ 1002).d (ρ 1005).d (ρ 1006).d (ρ 7).d (ρ 14).d/\(ρ 1001).i = (ρ 19).i),mu:=(fun ρ=>((ρ 2).i - (ρ 1007).i).toNat) }
def qe0 (m:List Int) (n:Nat):List Int × List Int × Nat:=qcl n n n m (qa4 n n) n
def qa2:Ctr:={ fn := 134,nv:=9,args:=[qaD,q5p],heap:=[fHp 1],ro:=[bHp 4 7 8],pre:=fun ρ=>qk (ρ 1).d/\0 <= (ρ 5).i/\(ρ 5).i <= (ρ 6).i/\(ρ 5).i <= (ρ 7).d.length/\qn (ρ 7).d,alts:=[
 { k:=2,ret:=.tup [qoq,qbk (.var 9)],heap:=[fHp 10],post:=fun ρ=>qk (ρ 10).d/\((¬ qaH (ρ 2).i (ρ 3).i (ρ 5).i/\(ρ 9).i = 2)∨(qaH (ρ 2).i (ρ 3).i (ρ 5).i/\(ρ 2).i ≠ (ρ 3).i/\(ρ 9).i = 10)∨(qaH (ρ 2).i (ρ 3).i (ρ 5).i/\(ρ 2).i = (ρ 3).i/\(qe0 ((bI (ρ 7).d).take (ρ 5).i.toNat) (ρ 2).i.toNat).2.2 < (ρ 2).i.toNat/\(ρ 9).i = 11)) },
 { k:=5,ret:=.tup [qop (.var 2) (.var 2) 9 10 11,qbk (.lit 0)],heap:=[fHp 12,bHp 9 13 11],post:=fun ρ=>qk (ρ 12).d/\qaH (ρ 2).i (ρ 3).i (ρ 5).i/\(ρ 2).i = (ρ 3).i/\qK (ρ 2).i (ρ 2).i (ρ 10).i (ρ 11).i (ρ 13).d/\(qe0 ((bI (ρ 7).d).take (ρ 5).i.toNat) (ρ 2).i.toNat).2.2 = (ρ 2).i.toNat/\bI (ρ 13).d = (qe0 ((bI (ρ 7).d).take (ρ 5).i.toNat) (ρ 2).i.toNat).2.1 }] }
def qcm (k total:Nat):List Int × List Int × Nat:=qe0 ((qb4 total k).take (k * k)) k
def qc8 (k total:Nat):List Int:=qny (qb4 total k) (qcm k total).2.1 total k k
def qdA:Ctr:={ fn := 122,nv:=4,args:=[qaD,iv .i64 (.var 2),iv .i64 (.var 3)],heap:=[fHp 1],ro:=[],pre:=fun ρ=>qk (ρ 1).d,alts:=[
 { k:=1,ret:=.tup [qoq,qbk (.lit 2)],heap:=[fHp 4],post:=fun ρ=>qk (ρ 4).d/\(qT (ρ 2).i (ρ 3).i = true->(qcm (ρ 2).i.toNat (ρ 3).i.toNat).2.2 < (ρ 2).i.toNat) },
 { k:=6,ret:=.tup [qop (.var 3) (.var 2) 4 5 6,qbk (.lit 0)],heap:=[fHp 7,bHp 4 8 6,.abs 9 2],post:=fun ρ=>qk (ρ 7).d/\qT (ρ 2).i (ρ 3).i = true/\qK (ρ 3).i (ρ 2).i (ρ 5).i (ρ 6).i (ρ 8).d/\(qcm (ρ 2).i.toNat (ρ 3).i.toNat).2.2 = (ρ 2).i.toNat/\bI (ρ 8).d = qc8 (ρ 2).i.toNat (ρ 3).i.toNat }] }
end Go.Eng

set_option linter.unusedSimpArgs false
set_option linter.unusedVariables false
namespace Go.Eng
open Go

def qpx:Ctr:={ qdA with pre:=fun ρ=>qk (ρ 1).d/\qT (ρ 2).i (ρ 3).i = true/\(qcm (ρ 2).i.toNat (ρ 3).i.toNat).2.2 = (ρ 2).i.toNat,alts:=qdA.alts.drop 1 }
def qiW (data:List Int) (n:Nat):List Int:=data ++ List.replicate (n - data.length) 0
def qA (k len:Nat):Nat:=(len + k - 1) / k
def qcy (g full:List Int) (k l i:Nat):Nat->List Int
 | 0=>List.replicate l 0
 | j + 1=>qD (qcy g full k l i j) 0 (seg full (j * l) l) (g.getD (i * k + j) 0)
def qdS (k total:Nat) (data:List Int) (i:Nat):List Int :=
 qcy (qc8 k total) (qiW data (k * qA k data.length)) k (qA k data.length) i k
def qjT:List CK:=[.int .i64,.any]
def qfZ (h:Hp) (D:qd) (n:Nat) (f:Nat->List Int):Prop:=∀ j,j < n->∃ v d,D[j]? = some [.int .i64 j,v]/\Rd h kB v d/\bI d = f j/\qn d
def qcq:Ctr:={ fn := 87,nv:=9,args:=[qaD,iv .i64 (.var 2),iv .i64 (.var 3),.one (.vslice 4 (.lit 0) (.var 5) (.var 6) 1)],heap:=[fHp 1],ro:=[bHp 4 7 8],pre:=fun ρ=>qk (ρ 1).d/\(ρ 5).i = (ρ 7).d.length/\qn (ρ 7).d/\(qT (ρ 2).i (ρ 3).i = true->(qcm (ρ 2).i.toNat (ρ 3).i.toNat).2.2 = (ρ 2).i.toNat),alts:=[
 { k:=2,ret:=.tup [(false,[.vnils]),qbk (.var 9)],heap:=[fHp 10],post:=fun ρ=>qk (ρ 10).d/\((qT (ρ 2).i (ρ 3).i = false/\(ρ 9).i = 2)∨(qT (ρ 2).i (ρ 3).i = true/\8192 < (ρ 5).i/\(ρ 9).i = 3)) },
 { k:=5,ret:=.tup [(false,[.vslice 9 (.lit 0) (.var 3) (.var 10) 2]),qbk (.lit 0)],heap:=[fHp 11,.arr 9 86 qjT (.var 12) (.var 10),.abs 13 2],post:=fun ρ=>qk (ρ 11).d/\qT (ρ 2).i (ρ 3).i = true/\(ρ 5).i <= 8192/\(ρ 12).d.length = (ρ 3).i.toNat/\qfZ (ρ 13).h (ρ 12).d (ρ 3).i.toNat (qdS (ρ 2).i.toNat (ρ 3).i.toNat (bI (ρ 7).d)) }] }
def q7E:List SH:=[fHp 1008,qin 1004 3 2 1009 1010 1011,bHp 1009 1012 1011,bHp 1001 1013 1003,.arr 1005 86 qjT (.var 1014) (.var 1006)]
def q30:List (Nat × SV):=[(0,qaD),(10,iv .i64 (.var 1000)),(12,.one (.vslice 1001 (.lit 0) (.var 1002) (.var 1003) 1)),(13,.one (.vptr 1004 (.lit 0) 3 0)),(15,.one (.vslice 1005 (.lit 0) (.var 3) (.var 1006) 2)),(53,iv .i64 (.var 3)),(54,iv .i64 (.var 1007))]
def qoU (k total len l lf cf lg cg i:Int) (f dg df D data:qd):Prop :=
 qk f/\qT k total = true/\len <= 8192/\len = data.length/\qn data/\l = (qA k.toNat data.length:Nat)/\l <= 8192/\lf = k * l/\lf = df.length/\qn df/\bI df = qiW (bI data) (k.toNat * l.toNat) /\
  qK total k lg cg dg/\bI dg = qc8 k.toNat total.toNat/\D.length = total.toNat/\(∀ row ∈ D,row.length = 2)/\0 <= i/\i <= total
def qlQ:Inv:={ key:=13,nv:=16,env:=q30,heap:=q7E ++ [.abs 1015 2],inv:=(fun ρ=>qoU (ρ 2).i (ρ 3).i (ρ 5).i (ρ 1000).i (ρ 1002).i (ρ 1003).i (ρ 1010).i (ρ 1011).i (ρ 1007).i (ρ 1008).d (ρ 1012).d (ρ 1013).d (ρ 1014).d (ρ 7).d/\qfZ (ρ 1015).h (ρ 1014).d (ρ 1007).i.toNat (qdS (ρ 2).i.toNat (ρ 3).i.toNat (bI (ρ 7).d))),mu:=(fun ρ=>((ρ 3).i - (ρ 1007).i).toNat) }
def qmY:Inv:={ key:=17,nv:=23,env:=q30 ++ [(16,iv .i64 (.var 1007)),(17,.one (.vslice 1016 (.lit 0) (.var 1000) (.var 1017) 1)),(61,bSl 1009 1019 1020 1021),(62,iv .i64 (.var 1020)),(63,iv .i64 (.var 1022))],heap:=q7E ++ [bHp 1016 1018 1017,.abs 1015 2],inv:=(fun ρ=>qoU (ρ 2).i (ρ 3).i (ρ 5).i (ρ 1000).i (ρ 1002).i (ρ 1003).i (ρ 1010).i (ρ 1011).i (ρ 1007).i (ρ 1008).d (ρ 1012).d (ρ 1013).d (ρ 1014).d (ρ 7).d/\qfZ (ρ 1015).h (ρ 1014).d (ρ 1007).i.toNat (qdS (ρ 2).i.toNat (ρ 3).i.toNat (bI (ρ 7).d))/\(ρ 1007).i = (ρ 29).i/\(ρ 1007).i < (ρ 3).i/\(ρ 1019).i = (ρ 1007).i * (ρ 2).i/\(ρ 1020).i = (ρ 2).i/\0 <= (ρ 1022).i/\(ρ 1022).i <= (ρ 2).i/\(ρ 1018).d.length = (ρ 1000).i.toNat/\qn (ρ 1018).d/\bI (ρ 1018).d = qcy (bI (ρ 1012).d) (bI (ρ 1013).d) (ρ 2).i.toNat (ρ 1000).i.toNat (ρ 1007).i.toNat (ρ 1022).i.toNat),mu:=(fun ρ=>((ρ 2).i - (ρ 1022).i).toNat) }
end Go.Eng

set_option linter.unusedSimpArgs false
set_option linter.unusedVariables false
namespace Go.Eng
open Go
def qbe (k n t:Int):Bool:=decide (1 <= k/\k <= n/\n <= t/\t <= 255)
def qz (k n t s l:Int):Bool:=qbe k n t && decide (0 <= s/\s <= 8192/\l = t)
def qce:Ctr:={ fn := 86,nv:=3,args:=[iv .i64 (.var 0),iv .i64 (.var 1),iv .i64 (.var 2)],heap:=[],ro:=[],pre:=fun _=>True,alts:=[
 { k:=1,ret:=.one (.vbool (.var 3)),heap:=[],post:=fun ρ=>(ρ 3).b = qbe (ρ 0).i (ρ 1).i (ρ 2).i }] }
def qdT (k n t s o r l c:Nat):List T:=[.vint .i64 (.var k),.vint .i64 (.var n),.vint .i64 (.var t),.vint .i64 (.var s)] ++ (qaG .u8 o 32 ++ [.vslice r (.lit 0) (.var l) (.var c) 32])
def qbX (r d c:Nat):SH:=.arr r 24 k32 (.var d) (.var c)
def qi2:SV:=.agg (qdT 0 1 2 3 4 5 6 7)
def qhs (row:List Value):List Int:=(List.range 32).map fun j=>qb6 row j
def dgs (d:List (List Value)):List (List Int):=d.map qhs
def qcC (d:List (List Value)):Prop:=∀ row ∈ d,row.length = 32/\qL (qhs row)
def qaz:Ctr:={ fn := 74,nv:=10,args:=[qi2],heap:=[],ro:=[qbX 5 8 9],pre:=fun ρ=>0 <= (ρ 6).i,alts:=[
 { k:=1,ret:=iv .i64 (.var 10),heap:=[],post:=fun ρ=>(ρ 10).i = if qz (ρ 0).i (ρ 1).i (ρ 2).i (ρ 3).i (ρ 6).i then 0 else 2 }] }
def qba (i:Int):List Int:=[(i.fdiv 256) % 256,i % 256]
def qaB:Ctr:={ fn := 88,nv:=9,ip:=[gIp 7],args:=[iv .i64 (.var 0),bSl 1 2 3 4],heap:=[],ro:=[bHp 1 5 6,gHp 7 8],pre:=fun ρ=>0 <= (ρ 2).i/\0 <= (ρ 3).i/\(ρ 3).i <= (ρ 4).i/\(ρ 3).i < 576460752303423488/\(ρ 2).i + (ρ 3).i <= (ρ 5).d.length/\qn (ρ 5).d/\gOk ρ 7 8 gR,alts:=[
 { k:=1,ret:=dgV 9,heap:=[],post:=fun ρ=>qg (ρ 9).d 32 = sha (qba (ρ 0).i ++ qbF (ρ 5).d (ρ 2).i (ρ 3).i) }] }
def qaP (k n t s:Int) (o:List Int):List Int:=beL 19713 2 ++ (beL (k % 256) 1 ++ (beL (n % 256) 1 ++ (beL (t % 256) 1 ++ (beL (s % 65536) 2 ++ o))))
def qdI:Ctr:={ fn := 73,nv:=10,args:=[qi2],heap:=[],ro:=[qbX 5 8 9],pre:=fun ρ=>0 <= (ρ 6).i/\(ρ 6).i = (ρ 8).d.length/\qL (qg (ρ 4).d 32)/\qcC (ρ 8).d,alts:=[
 { k:=0,ret:=.tup [(false,[.vnils]),qbk (.lit 2)],heap:=[],post:=fun ρ=>qz (ρ 0).i (ρ 1).i (ρ 2).i (ρ 3).i (ρ 6).i = false },
 { k:=4,ret:=.tup [(false,[.vslice 10 (.lit 0) (.var 11) (.var 12) 1]),qbk (.lit 0)],heap:=[bHp 10 13 12],post:=fun ρ=>qz (ρ 0).i (ρ 1).i (ρ 2).i (ρ 3).i (ρ 6).i = true/\(ρ 11).i = (ρ 13).d.length/\qn (ρ 13).d/\bI (ρ 13).d = qaP (ρ 0).i (ρ 1).i (ρ 2).i (ρ 3).i (qg (ρ 4).d 32) ++ (dgs (ρ 8).d).flatten }] }
def qrl:Inv:={ key:=12,nv:=8,env:=[(5,.one (.vptr 1000 (.lit 0) 3 0)),(45,.one (.vslice 5 (.lit 0) (.var 6) (.var 7) 32)),(46,iv .i64 (.var 6)),(47,iv .i64 (.var 1007))],heap:=[.cells 1000 qzV [.vint .i64 (.var 1001),.vbool (.var 1002),.vslice 1003 (.lit 0) (.var 1004) (.var 1005) 1],bHp 1003 1006 1005],inv:=(fun ρ=>qz (ρ 0).i (ρ 1).i (ρ 2).i (ρ 3).i (ρ 6).i = true/\0 <= (ρ 1007).i/\(ρ 1007).i <= (ρ 6).i/\(ρ 1001).i = 39 + 32 * (ρ 2).i/\(ρ 1002).b = false/\wOk (ρ 1001).i (ρ 1004).i (ρ 1005).i (ρ 1006).d/\bI (ρ 1006).d = qaP (ρ 0).i (ρ 1).i (ρ 2).i (ρ 3).i (qg (ρ 4).d 32) ++ ((dgs (ρ 8).d).take (ρ 1007).i.toNat).flatten),mu:=(fun ρ=>((ρ 6).i - (ρ 1007).i).toNat) }
def qBA (r:Nat):SH:=.cells r 27 (List.replicate 4 (.vint .i64 (.lit 0)) ++ (List.replicate 32 (.vint .u8 (.lit 0)) ++ [.vnils]))
def qBg:Bool × List T:=(true,List.replicate 4 (.vint .i64 (.lit 0)) ++ (List.replicate 32 (.vint .u8 (.lit 0)) ++ [.vnils]))
def qdE (f:Nat->List Int) (n:Nat):List (List Int):=(List.range n).map fun (i:Nat)=>sha (qba i ++ f i)
def qgI:Ctr:={ fn := 43,nv:=12,ip:=[gIp 10],ow:=[1003],args:=[qaD,iv .i64 (.var 2),iv .i64 (.var 3),iv .i64 (.var 4),.one (.vslice 5 (.lit 0) (.var 6) (.var 7) 1)],heap:=[fHp 1],ro:=[bHp 5 8 9,gHp 10 11],pre:=fun ρ=>qk (ρ 1).d/\(ρ 6).i = (ρ 8).d.length/\(ρ 6).i <= (ρ 7).i/\qn (ρ 8).d/\gOk ρ 10 11 gR/\(qT (ρ 2).i (ρ 4).i = true->(qcm (ρ 2).i.toNat (ρ 4).i.toNat).2.2 = (ρ 2).i.toNat),alts:=[
 { k:=2,ret:=.tup [qBg,(false,[.vnils]),qbk (.var 12)],heap:=[fHp 13],post:=fun ρ=>qk (ρ 13).d/\((qbe (ρ 2).i (ρ 3).i (ρ 4).i = false/\(ρ 12).i = 2)∨(qbe (ρ 2).i (ρ 3).i (ρ 4).i = true/\8192 < (ρ 6).i/\(ρ 12).i = 3)) },
 { k:=9,ret:=.tup [(true,qdT 2 3 4 6 12 13 4 14),(false,[.vslice 15 (.lit 0) (.var 4) (.var 16) 2]),qbk (.lit 0)],heap:=[fHp 17,qbX 13 18 14,.arr 15 86 qjT (.var 19) (.var 16),.abs 20 2],post:=fun ρ=>qk (ρ 17).d/\qbe (ρ 2).i (ρ 3).i (ρ 4).i = true/\(ρ 6).i <= 8192/\(ρ 19).d.length = (ρ 4).i.toNat/\qfZ (ρ 20).h (ρ 19).d (ρ 4).i.toNat (qdS (ρ 2).i.toNat (ρ 4).i.toNat (bI (ρ 8).d))/\qg (ρ 12).d 32 = sha (bI (ρ 8).d)/\qcC (ρ 18).d/\dgs (ρ 18).d = qdE (qdS (ρ 2).i.toNat (ρ 4).i.toNat (bI (ρ 8).d)) (ρ 4).i.toNat }] }
def q2a:Inv:={ key:=10,nv:=12,env:=[(0,qaD),(10,.one (.vptr 1000 (.lit 0) 37 0)),(13,.one (.vslice 1001 (.lit 0) (.var 4) (.var 1009) 2)),(15,.one (.vptr 1002 (.lit 0) 37 0)),(47,.one (.vslice 1001 (.lit 0) (.var 4) (.var 1009) 2)),(48,iv .i64 (.var 4)),(49,iv .i64 (.var 1005))],heap:=[fHp 1010,qBA 1000,.cells 1002 27 (qdT 2 3 4 6 1003 1004 1005 1006),qbX 1004 1007 1006,.arr 1001 86 qjT (.var 1008) (.var 1009),.abs 1011 2],inv:=(fun ρ=>qk (ρ 1010).d/\qbe (ρ 2).i (ρ 3).i (ρ 4).i = true/\(ρ 6).i <= 8192/\0 <= (ρ 1005).i/\(ρ 1005).i <= (ρ 4).i/\(ρ 1008).d.length = (ρ 4).i.toNat/\qfZ (ρ 1011).h (ρ 1008).d (ρ 4).i.toNat (qdS (ρ 2).i.toNat (ρ 4).i.toNat (bI (ρ 8).d))/\qg (ρ 1003).d 32 = sha (bI (ρ 8).d)/\(ρ 1005).i = (ρ 1007).d.length/\qcC (ρ 1007).d/\dgs (ρ 1007).d = qdE (qdS (ρ 2).i.toNat (ρ 4).i.toNat (bI (ρ 8).d)) (ρ 1005).i.toNat),mu:=(fun ρ=>((ρ 4).i - (ρ 1005).i).toNat) }
end Go.Eng

set_option linter.unusedSimpArgs false
set_option linter.unusedVariables false
namespace Go.Eng
open Go Go.Proofs
theorem qiY {h:Hp} {pat:List CK} {v:Value} {d d':qd} (h1:Rd h pat v d) (h2:Rd h pat v d'):d = d':=by
 rcases h1 with ⟨a,e1,rfl⟩ | ⟨b,o,cap,c,ty,fr,e1,l1,hb1,r1⟩ <;> rcases h2 with ⟨a',e2,rfl⟩ | ⟨b',o',cap',c',ty',fr',e2,l2,hb2,r2⟩
 ·rfl
 ·rw [e1] at e2
  simp only [Value.slice.injEq] at e2
  exact (List.length_eq_zero_iff.1 e2.2.1.symm).symm
 ·rw [e1] at e2
  simp only [Value.slice.injEq] at e2
  exact List.length_eq_zero_iff.1 e2.2.1
 ·rw [e1] at e2
  simp only [Value.slice.injEq,Option.some.injEq,Addr.mk.injEq] at e2
  obtain ⟨⟨rfl,rfl,_⟩,hl,rfl⟩:=e2
  rw [hb1] at hb2
  simp only [Option.some.injEq,Obj.cells.injEq] at hb2
  obtain ⟨rfl,rfl,rfl⟩:=hb2
  apply List.ext_getElem hl
  intro i i1 i2
  obtain ⟨f1,g1⟩:=r1 i _ (List.getElem?_eq_getElem i1)
  obtain ⟨f2,g2⟩:=r2 i _ (List.getElem?_eq_getElem i2)
  apply List.ext_getElem (by rw [f1.1,f2.1])
  intro k k1 k2
  have a1:=g1 k _ (List.getElem?_eq_getElem k1)
  have a2:=g2 k _ (List.getElem?_eq_getElem k2)
  rw [a1] at a2
  exact Option.some.inj a2
noncomputable def rdL (h:Hp) (v:Value):List Int:=open Classical in if hx:∃ d,Rd h kB v d then bI hx.choose else []
theorem qfM {h:Hp} {v:Value} {d:qd} (hr:Rd h kB v d):rdL h v = bI d:=by
 have hx:∃ d,Rd h kB v d:=⟨d,hr⟩
 unfold rdL
 rw [dif_pos hx,qiY hx.choose_spec hr]
def qjw (h:Hp) (D:qd) (n:Nat):Prop:=∀ j,j < n->∃ i v d,D[j]? = some [.int .i64 i,v]/\Rd h kB v d/\qn d
noncomputable def pcI (D:qd) (j:Nat):Int:=qb D j 0
noncomputable def pcD (h:Hp) (D:qd) (j:Nat):List Int:=rdL h (qF D j 1)
end Go.Eng
namespace Go.Proofs
open Go Go.Eng
theorem quf {h:Hp} {D:qd} {n j:Nat} (hp:qjw h D n) (hj:j < n):∃ v d,D[j]? = some [.int .i64 (pcI D j),v]/\qF D j 1 = v/\Rd h kB v d/\qn d/\pcD h D j = bI d:=by
 obtain ⟨i,v,d,e,hr,hb⟩:=hp j hj
 have h1:qF D (j:Int) 1 = v:=by simp [qF,e]
 have h2:pcI D j = i:=by simp [pcI,qb,qF,e,qag]
 exact ⟨v,d,by rw [h2]; exact e,h1,hr,hb,by rw [pcD,h1,qfM hr]⟩
end Go.Proofs
namespace Go.Eng
open Go Go.Proofs
end Go.Eng
namespace Go.Proofs
open Go Go.Eng
end Go.Proofs

set_option linter.unusedSimpArgs false
set_option linter.unusedVariables false
namespace Go.Eng
open Go
end Go.Eng

set_option linter.unusedSimpArgs false
set_option linter.unusedVariables false
namespace Go.Eng
open Go
end Go.Eng
namespace Go.Proofs
open Go Go.Eng
theorem q8N {x:Int}:IntKind.u64.wrap x = x % 18446744073709551616:=by
 unfold IntKind.wrap
 rfl
end Go.Proofs

set_option linter.unusedSimpArgs false
set_option linter.unusedVariables false
namespace Go.Eng
open Go
def bS (r:Nat):SV:=.one (.vslice r (.lit 0) (.var (r + 1)) (.var (r + 2)) 1)
def qBI (r:Nat):SH:=bHp r (r + 3) (r + 4)
def w3 (a b c:Int):Int:=qe .xor .u8 (qe .xor .u8 a b) c
def x3:List Int->List Int->List Int->List Int
 | a :: al,b :: bl,c :: cl=>w3 a b c :: x3 al bl cl
 | _,_,_=>[]
def qn2:Alt:={ k:=0,ret:=.one (.vbool (.bl true)),heap:=[],post:=fun _=>True }
end Go.Eng

set_option linter.unusedSimpArgs false
set_option linter.unusedVariables false
namespace Go.Eng
open Go Go.Proofs
def kI:List CK:=[.int .i64]
def iHp (r d c:Nat):SH:=.arr r 3 kI (.var d) (.var c)
def qht (r d c:Nat):SH:=.arr r 86 qjT (.var d) (.var c)
def pcS (r l c:Nat):SV:=.one (.vslice r (.lit 0) (.var l) (.var c) 2)
def qbD (x:Int):Prop:=-9223372036854775808 <= x/\x < 9223372036854775808
end Go.Eng

set_option linter.unusedSimpArgs false
set_option linter.unusedVariables false
namespace Go.Eng
open Go Go.Proofs
end Go.Eng

set_option linter.unusedSimpArgs false
set_option linter.unusedVariables false
namespace Go.Eng
open Go Go.Proofs
def qBf (k v:Int) (b:List Int):Option (List Int):=if 1 <= k/\k <= 4 then some (beL v (2 ^ (k.toNat - 1))) else if k = 5 then some b else if k = 6 then some (beL b.length 2 ++ b) else none
def q9K (k:Int) (b:List Int):Bool:=decide (k = 6/\65535 < b.length)
def wrote (lim:Int) (f:Bool) (m:List Int) (k v:Int) (b:List Int):Bool × List Int:=match qBf k v b with
 | none=>(f,m)
 | some s=>qfL lim (f || q9K k b) m s
end Go.Eng

set_option linter.unusedVariables false
namespace Go.Eng
open Go
@[simp] def o8:T:=.vint .u8 (.lit 0)
@[simp] def x8 (k v:Nat):T:=.vint .u8 (.c2 (.xint k) (.var v) (.lit 0))
@[simp] def i8 (v e k:Nat):T:=.vint .u8 (.icell (.var v) (.var e) k)
@[simp] def r8 (v:Nat):T:=(.rcons (x8 0 v) (.rcons (x8 1 v) (.rcons (x8 2 v) (.rcons (x8 3 v) (.rcons (x8 4 v) (.rcons (x8 5 v) (.rcons (x8 6 v) (.rcons (x8 7 v) (.rcons (x8 8 v) (.rcons (x8 9 v) (.rcons (x8 10 v) (.rcons (x8 11 v) (.rcons (x8 12 v) (.rcons (x8 13 v) (.rcons (x8 14 v) (.rcons (x8 15 v) (.rcons (x8 16 v) (.rcons (x8 17 v) (.rcons (x8 18 v) (.rcons (x8 19 v) (.rcons (x8 20 v) (.rcons (x8 21 v) (.rcons (x8 22 v) (.rcons (x8 23 v) (.rcons (x8 24 v) (.rcons (x8 25 v) (.rcons (x8 26 v) (.rcons (x8 27 v) (.rcons (x8 28 v) (.rcons (x8 29 v) (.rcons (x8 30 v) (.rcons (x8 31 v) .rnil))))))))))))))))))))))))))))))))
@[simp] def q8 (k v:Nat):T:=.vint .u8 (.c2 (.xint k) (r8 v) (.lit 0))
@[simp] def s8 (v:Nat):T:=(.rcons (q8 0 v) (.rcons (q8 1 v) (.rcons (q8 2 v) (.rcons (q8 3 v) (.rcons (q8 4 v) (.rcons (q8 5 v) (.rcons (q8 6 v) (.rcons (q8 7 v) (.rcons (q8 8 v) (.rcons (q8 9 v) (.rcons (q8 10 v) (.rcons (q8 11 v) (.rcons (q8 12 v) (.rcons (q8 13 v) (.rcons (q8 14 v) (.rcons (q8 15 v) (.rcons (q8 16 v) (.rcons (q8 17 v) (.rcons (q8 18 v) (.rcons (q8 19 v) (.rcons (q8 20 v) (.rcons (q8 21 v) (.rcons (q8 22 v) (.rcons (q8 23 v) (.rcons (q8 24 v) (.rcons (q8 25 v) (.rcons (q8 26 v) (.rcons (q8 27 v) (.rcons (q8 28 v) (.rcons (q8 29 v) (.rcons (q8 30 v) (.rcons (q8 31 v) .rnil))))))))))))))))))))))))))))))))
@[simp] def z8:T:=(.rcons o8 (.rcons o8 (.rcons o8 (.rcons o8 (.rcons o8 (.rcons o8 (.rcons o8 (.rcons o8 (.rcons o8 (.rcons o8 (.rcons o8 (.rcons o8 (.rcons o8 (.rcons o8 (.rcons o8 (.rcons o8 (.rcons o8 (.rcons o8 (.rcons o8 (.rcons o8 (.rcons o8 (.rcons o8 (.rcons o8 (.rcons o8 (.rcons o8 (.rcons o8 (.rcons o8 (.rcons o8 (.rcons o8 (.rcons o8 (.rcons o8 (.rcons o8 .rnil))))))))))))))))))))))))))))))))
end Go.Eng

set_option linter.unusedSimpArgs false
set_option linter.unusedVariables false
set_option maxRecDepth 100000
namespace Go.Proofs
open Go Go.Eng

end Go.Proofs

set_option linter.unusedSimpArgs false
set_option linter.unusedVariables false
set_option maxRecDepth 100000
namespace Go.Proofs
open Go Go.Eng

def qrG:Out:=(.need (.cmp .geq (.arith .and .u64 (.conv .u64 (.var 1)) (.lit 31)) (.lit 0)) (.need (.cmp .geq (.arith .sub .u64 (.lit 32) (.arith .and .u64 (.conv .u64 (.var 1)) (.lit 31))) (.lit 0)) (.ret 0 (sg 2 [bt 2 (.arith .or .u32 (.arith .shl .u32 (.var 0) (.arith .and .u64 (.conv .u64 (.var 1)) (.lit 31))) (.arith .shr .u32 (.var 0) (.arith .sub .u64 (.lit 32) (.arith .and .u64 (.conv .u64 (.var 1)) (.lit 31)))))]))))
theorem q1D:qj ⟨Tryz.prog,qfc,[],[]⟩ 100000 Tryz.f154 = qrG:=by kernel_rfl
theorem q5I (hd:∀ c ∈ ([]:List Ctr),c.ok Tryz.prog) (h:∀ ρ:Env,ρ.good->(qfc).pre ρ->qrG.den ⟨Tryz.prog,qfc,[],[]⟩ ρ):(qfc).ok Tryz.prog :=
 qf Tryz.func154 (fun a w=>Tryz.call154 a w) hd 100000 (fun ρ hg hp=>by rw [q1D]; exact h ρ hg hp)
@[simp] def qwE:T:=.arith .add .u32 (.arith .add .u32 (.arith .add .u32 (.arith .add .u32 (.var 21) (.arith .xor .u32 (.arith .xor .u32 (.var 22) (.var 23)) (.var 24))) (.arith .xor .u32 (.var 20) (.arith .and .u32 (.var 18) (.arith .xor .u32 (.var 19) (.var 20))))) (.c2 (.xint 0) (.var 3) (.var 13))) (.c2 (.xint 0) (.var 12) (.var 13))
@[simp] def qxw:T:=.rcons (.vint .u32 (.c2 (.xint 0) (.var 22) (.lit 0))) (.rcons (.vint .u32 (.c2 (.xint 1) (.var 22) (.lit 0))) (.rcons (.vint .u32 (.c2 (.xint 2) (.var 22) (.lit 0))) (.rcons (.vint .u32 (.c2 (.xint 3) (.var 22) (.lit 0))) (.rcons (.vint .u32 (.c2 (.xint 4) (.var 22) (.lit 0))) (.rcons (.vint .u32 (.c2 (.xint 5) (.var 22) (.lit 0))) (.rcons (.vint .u32 (.c2 (.xint 6) (.var 22) (.lit 0))) (.rcons (.vint .u32 (.c2 (.xint 7) (.var 22) (.lit 0))) .rnil)))))))
def qwG:Out:=(.fresh 4 (.inv 0 5 (sg 1000 [bt 1001 (.rcons (.vint .u32 (.lit 0)) (.rcons (.vint .u32 (.lit 0)) (.rcons (.vint .u32 (.lit 0)) (.rcons (.vint .u32 (.lit 0)) (.rcons (.vint .u32 (.lit 0)) (.rcons (.vint .u32 (.lit 0)) (.rcons (.vint .u32 (.lit 0)) (.rcons (.vint .u32 (.lit 0)) (.rcons (.vint .u32 (.lit 0)) (.rcons (.vint .u32 (.lit 0)) (.rcons (.vint .u32 (.lit 0)) (.rcons (.vint .u32 (.lit 0)) (.rcons (.vint .u32 (.lit 0)) (.rcons (.vint .u32 (.lit 0)) (.rcons (.vint .u32 (.lit 0)) (.rcons (.vint .u32 (.lit 0)) (.rcons (.vint .u32 (.lit 0)) (.rcons (.vint .u32 (.lit 0)) (.rcons (.vint .u32 (.lit 0)) (.rcons (.vint .u32 (.lit 0)) (.rcons (.vint .u32 (.lit 0)) (.rcons (.vint .u32 (.lit 0)) (.rcons (.vint .u32 (.lit 0)) (.rcons (.vint .u32 (.lit 0)) (.rcons (.vint .u32 (.lit 0)) (.rcons (.vint .u32 (.lit 0)) (.rcons (.vint .u32 (.lit 0)) (.rcons (.vint .u32 (.lit 0)) (.rcons (.vint .u32 (.lit 0)) (.rcons (.vint .u32 (.lit 0)) (.rcons (.vint .u32 (.lit 0)) (.rcons (.vint .u32 (.lit 0)) (.rcons (.vint .u32 (.lit 0)) (.rcons (.vint .u32 (.lit 0)) (.rcons (.vint .u32 (.lit 0)) (.rcons (.vint .u32 (.lit 0)) (.rcons (.vint .u32 (.lit 0)) (.rcons (.vint .u32 (.lit 0)) (.rcons (.vint .u32 (.lit 0)) (.rcons (.vint .u32 (.lit 0)) (.rcons (.vint .u32 (.lit 0)) (.rcons (.vint .u32 (.lit 0)) (.rcons (.vint .u32 (.lit 0)) (.rcons (.vint .u32 (.lit 0)) (.rcons (.vint .u32 (.lit 0)) (.rcons (.vint .u32 (.lit 0)) (.rcons (.vint .u32 (.lit 0)) (.rcons (.vint .u32 (.lit 0)) (.rcons (.vint .u32 (.lit 0)) (.rcons (.vint .u32 (.lit 0)) (.rcons (.vint .u32 (.lit 0)) (.rcons (.vint .u32 (.lit 0)) (.rcons (.vint .u32 (.lit 0)) (.rcons (.vint .u32 (.lit 0)) (.rcons (.vint .u32 (.lit 0)) (.rcons (.vint .u32 (.lit 0)) (.rcons (.vint .u32 (.lit 0)) (.rcons (.vint .u32 (.lit 0)) (.rcons (.vint .u32 (.lit 0)) (.rcons (.vint .u32 (.lit 0)) (.rcons (.vint .u32 (.lit 0)) (.rcons (.vint .u32 (.lit 0)) (.rcons (.vint .u32 (.lit 0)) (.rcons (.vint .u32 (.lit 0)) .rnil)))))))))))))))))))))))))))))))))))))))))))))))))))))))))))))))),bt 1002 (.lit 0),bg 1000 4]) (.fresh 5 (.fresh 6 (.fresh 7 (.hyp 0 5 (.br (.cmp .lss (.var 7) (.lit 16))
 (.need (.cmp .lss (.lit 0) (.dlen (.var 1))) (.need (.cmp .leq (.lit 0) (.arith .mul .i64 (.lit 4) (.var 7))) (.need (.cmp .lss (.arith .mul .i64 (.lit 4) (.var 7)) (.lit 64)) (.need (.cmp .leq (.lit 0) (.arith .add .i64 (.arith .mul .i64 (.lit 4) (.var 7)) (.lit 1))) (.need (.cmp .lss (.arith .add .i64 (.arith .mul .i64 (.lit 4) (.var 7)) (.lit 1)) (.lit 64)) (.need (.cmp .leq (.lit 0) (.arith .add .i64 (.arith .mul .i64 (.lit 4) (.var 7)) (.lit 2))) (.need (.cmp .lss (.arith .add .i64 (.arith .mul .i64 (.lit 4) (.var 7)) (.lit 2)) (.lit 64)) (.need (.cmp .leq (.lit 0) (.arith .add .i64 (.arith .mul .i64 (.lit 4) (.var 7)) (.lit 3))) (.need (.cmp .lss (.arith .add .i64 (.arith .mul .i64 (.lit 4) (.var 7)) (.lit 3)) (.lit 64)) (.need (.cmp .leq (.lit 0) (.var 7)) (.need (.cmp .lss (.var 7) (.lit 64)) (.need (.cmp .lss (.lit 0) (.dlen (.var 6))) (.both (.back 0 5 (sg 1000 [bt 1001 (.c3 (.xput 0) (.var 6) (.var 7) (.vint .u32 (.arith .or .u32 (.arith .or .u32 (.arith .or .u32 (.arith .shl .u32 (.conv .u32 (.c2 (.xint 8) (.var 1) (.arith .mul .i64 (.lit 4) (.var 7)))) (.lit 24)) (.arith .shl .u32 (.conv .u32 (.c2 (.xint 8) (.var 1) (.arith .add .i64 (.arith .mul .i64 (.lit 4) (.var 7)) (.lit 1)))) (.lit 16))) (.arith .shl .u32 (.conv .u32 (.c2 (.xint 8) (.var 1) (.arith .add .i64 (.arith .mul .i64 (.lit 4) (.var 7)) (.lit 2)))) (.lit 8))) (.conv .u32 (.c2 (.xint 8) (.var 1) (.arith .add .i64 (.arith .mul .i64 (.lit 4) (.var 7)) (.lit 3))))))),bt 1002 (.arith .add .i64 (.var 7) (.lit 1)),bg 1000 5])) .top)))))))))))))
 (.inv 1 8 (sg 1000 [bv 1001 6,bt 1002 (.lit 16),bg 1000 5]) (.fresh 8 (.fresh 9 (.fresh 10 (.hyp 1 8 (.br (.cmp .lss (.var 10) (.lit 64))
 (.need (.cmp .leq (.lit 0) (.arith .sub .i64 (.var 10) (.lit 15))) (.need (.cmp .lss (.arith .sub .i64 (.var 10) (.lit 15)) (.lit 64)) (.need (.cmp .lss (.lit 0) (.dlen (.var 9))) (.need (.cmp .leq (.lit 0) (.arith .sub .i64 (.var 10) (.lit 2))) (.need (.cmp .lss (.arith .sub .i64 (.var 10) (.lit 2)) (.lit 64)) (.pre 0 (sg 0 [bt 1 (.lit (-7)),bt 0 (.c2 (.xint 0) (.var 9) (.arith .sub .i64 (.var 10) (.lit 15)))]) (.both (.fresh 11 (.post 0 0 (sg 0 [bt 1 (.lit (-7)),bt 0 (.c2 (.xint 0) (.var 9) (.arith .sub .i64 (.var 10) (.lit 15)))]) 11 (.pre 0 (sg 0 [bt 1 (.lit (-18)),bt 0 (.c2 (.xint 0) (.var 9) (.arith .sub .i64 (.var 10) (.lit 15)))]) (.both (.fresh 12 (.post 0 0 (sg 0 [bt 1 (.lit (-18)),bt 0 (.c2 (.xint 0) (.var 9) (.arith .sub .i64 (.var 10) (.lit 15)))]) 12 (.pre 0 (sg 0 [bt 1 (.lit (-17)),bt 0 (.c2 (.xint 0) (.var 9) (.arith .sub .i64 (.var 10) (.lit 2)))]) (.both (.fresh 13 (.post 0 0 (sg 0 [bt 1 (.lit (-17)),bt 0 (.c2 (.xint 0) (.var 9) (.arith .sub .i64 (.var 10) (.lit 2)))]) 13 (.pre 0 (sg 0 [bt 1 (.lit (-19)),bt 0 (.c2 (.xint 0) (.var 9) (.arith .sub .i64 (.var 10) (.lit 2)))]) (.both (.fresh 14 (.post 0 0 (sg 0 [bt 1 (.lit (-19)),bt 0 (.c2 (.xint 0) (.var 9) (.arith .sub .i64 (.var 10) (.lit 2)))]) 14 (.need (.cmp .leq (.lit 0) (.arith .sub .i64 (.var 10) (.lit 16))) (.need (.cmp .lss (.arith .sub .i64 (.var 10) (.lit 16)) (.lit 64)) (.need (.cmp .leq (.lit 0) (.arith .sub .i64 (.var 10) (.lit 7))) (.need (.cmp .lss (.arith .sub .i64 (.var 10) (.lit 7)) (.lit 64)) (.need (.cmp .leq (.lit 0) (.var 10)) (.both (.back 1 8 (sg 1000 [bt 1001 (.c3 (.xput 0) (.var 9) (.var 10) (.vint .u32 (.arith .add .u32 (.arith .add .u32 (.arith .add .u32 (.c2 (.xint 0) (.var 9) (.arith .sub .i64 (.var 10) (.lit 16))) (.arith .xor .u32 (.arith .xor .u32 (.var 11) (.var 12)) (.arith .shr .u32 (.c2 (.xint 0) (.var 9) (.arith .sub .i64 (.var 10) (.lit 15))) (.lit 3)))) (.c2 (.xint 0) (.var 9) (.arith .sub .i64 (.var 10) (.lit 7)))) (.arith .xor .u32 (.arith .xor .u32 (.var 13) (.var 14)) (.arith .shr .u32 (.c2 (.xint 0) (.var 9) (.arith .sub .i64 (.var 10) (.lit 2))) (.lit 10)))))),bt 1002 (.arith .add .i64 (.var 10) (.lit 1)),bg 1000 8])) .top)))))))) .top)))) .top)))) .top)))) .top)))))))
 (.need (.cmp .lss (.lit 0) (.dlen (.var 1))) (.inv 2 11 (sg 1000 [bv 1001 9,bt 1002 (.lit 0),bt 1010 (.icell (.var 1) (.lit 0) 7),bt 1009 (.icell (.var 1) (.lit 0) 6),bt 1008 (.icell (.var 1) (.lit 0) 5),bt 1007 (.icell (.var 1) (.lit 0) 4),bt 1006 (.icell (.var 1) (.lit 0) 3),bt 1005 (.icell (.var 1) (.lit 0) 2),bt 1004 (.icell (.var 1) (.lit 0) 1),bt 1003 (.icell (.var 1) (.lit 0) 0),bg 1000 8]) (.fresh 11 (.fresh 12 (.fresh 13 (.fresh 14 (.fresh 15 (.fresh 16 (.fresh 17 (.fresh 18 (.fresh 19 (.fresh 20 (.fresh 21 (.hyp 2 11 (.br (.cmp .lss (.var 13) (.lit 64))
 (.pre 0 (sg 0 [bt 1 (.lit (-6)),bv 0 18]) (.both (.fresh 22 (.post 0 0 (sg 0 [bt 1 (.lit (-6)),bv 0 18]) 22 (.pre 0 (sg 0 [bt 1 (.lit (-11)),bv 0 18]) (.both (.fresh 23 (.post 0 0 (sg 0 [bt 1 (.lit (-11)),bv 0 18]) 23 (.pre 0 (sg 0 [bt 1 (.lit (-25)),bv 0 18]) (.both (.fresh 24 (.post 0 0 (sg 0 [bt 1 (.lit (-25)),bv 0 18]) 24 (.need (.c1 (.isg 1) (.var 2)) (.need (.cmp .leq (.lit 0) (.var 13)) (.need (.cmp .lss (.lit 0) (.dlen (.var 3))) (.need (.cmp .lss (.lit 0) (.dlen (.var 12))) (.pre 0 (sg 0 [bt 1 (.lit (-2)),bv 0 14]) (.both (.fresh 25 (.post 0 0 (sg 0 [bt 1 (.lit (-2)),bv 0 14]) 25 (.pre 0 (sg 0 [bt 1 (.lit (-13)),bv 0 14]) (.both (.fresh 26 (.post 0 0 (sg 0 [bt 1 (.lit (-13)),bv 0 14]) 26 (.pre 0 (sg 0 [bt 1 (.lit (-22)),bv 0 14]) (.both (.fresh 27 (.post 0 0 (sg 0 [bt 1 (.lit (-22)),bv 0 14]) 27 (.back 2 11 (sg 1000 [bv 1001 12,bt 1002 (.arith .add .i64 (.var 13) (.lit 1)),bv 1010 20,bv 1009 19,bv 1008 18,bt 1007 (.arith .add .u32 (.var 17) qwE),bv 1006 16,bv 1005 15,bv 1004 14,bt 1003 (.arith .add .u32 qwE (.arith .add .u32 (.arith .xor .u32 (.arith .xor .u32 (.var 25) (.var 26)) (.var 27)) (.arith .or .u32 (.arith .and .u32 (.var 14) (.var 15)) (.arith .and .u32 (.var 16) (.arith .or .u32 (.var 14) (.var 15)))))),bg 1000 11])))) .top)))) .top)))) .top)))))))) .top)))) .top)))) .top))
 (.inv 3 22 (sg 1000 [bv 1002 1,bt 1001 (.lit 0),bt 1000 (.rcons (.vint .u32 (.var 14)) (.rcons (.vint .u32 (.var 15)) (.rcons (.vint .u32 (.var 16)) (.rcons (.vint .u32 (.var 17)) (.rcons (.vint .u32 (.var 18)) (.rcons (.vint .u32 (.var 19)) (.rcons (.vint .u32 (.var 20)) (.rcons (.vint .u32 (.var 21)) .rnil))))))))]) (.fresh 22 (.fresh 23 (.fresh 24 (.hyp 3 22 (.br (.cmp .lss (.var 23) (.lit 8))
 (.need (.cmp .leq (.lit 0) (.var 23)) (.need (.cmp .lss (.lit 0) (.dlen (.var 24))) (.both (.back 3 22 (sg 1000 [bt 1002 (.c3 (.xput 0) (.var 24) (.var 23) (.vint .u32 (.arith .add .u32 (.c2 (.xint 0) (.var 24) (.var 23)) (.c2 (.xint 0) qxw (.var 23))))),bt 1001 (.arith .add .i64 (.var 23) (.lit 1)),bt 1000 qxw])) .top)))
 (.ret 0 (sg 4 [bv 4 24]))))))))))))))))))))))))))))))))))))
theorem q4P:qj ⟨Tryz.prog,qed,[qfc],[q19,q1J,q0i,q0q]⟩ 100000 Tryz.f129 = qwG:=by kernel_rfl
theorem q7T (hd:∀ c ∈ ([qfc]:List Ctr),c.ok Tryz.prog) (h:∀ ρ:Env,ρ.good->(qed).pre ρ->qwG.den ⟨Tryz.prog,qed,[qfc],[q19,q1J,q0i,q0q]⟩ ρ):(qed).ok Tryz.prog :=
 qf Tryz.func129 (fun a w=>Tryz.call129 a w) hd 100000 (fun ρ hg hp=>by rw [q4P]; exact h ρ hg hp)
def qmR:Out:=(.fresh 0 (.ret 0 (sg 0 [bt 1 (.rcons (.vint .u32 (.lit 1779033703)) (.rcons (.vint .u32 (.lit 3144134277)) (.rcons (.vint .u32 (.lit 1013904242)) (.rcons (.vint .u32 (.lit 2773480762)) (.rcons (.vint .u32 (.lit 1359893119)) (.rcons (.vint .u32 (.lit 2600822924)) (.rcons (.vint .u32 (.lit 528734635)) (.rcons (.vint .u32 (.lit 1541459225)) (.rcons o8 (.rcons o8 (.rcons o8 (.rcons o8 (.rcons o8 (.rcons o8 (.rcons o8 (.rcons o8 (.rcons o8 (.rcons o8 (.rcons o8 (.rcons o8 (.rcons o8 (.rcons o8 (.rcons o8 (.rcons o8 (.rcons o8 (.rcons o8 (.rcons o8 (.rcons o8 (.rcons o8 (.rcons o8 (.rcons o8 (.rcons o8 (.rcons o8 (.rcons o8 (.rcons o8 (.rcons o8 (.rcons o8 (.rcons o8 (.rcons o8 (.rcons o8 (.rcons o8 (.rcons o8 (.rcons o8 (.rcons o8 (.rcons o8 (.rcons o8 (.rcons o8 (.rcons o8 (.rcons o8 (.rcons o8 (.rcons o8 (.rcons o8 (.rcons o8 (.rcons o8 (.rcons o8 (.rcons o8 (.rcons o8 (.rcons o8 (.rcons o8 (.rcons o8 (.rcons o8 (.rcons o8 (.rcons o8 (.rcons o8 (.rcons o8 (.rcons o8 (.rcons o8 (.rcons o8 (.rcons o8 (.rcons o8 (.rcons o8 (.rcons o8 (.rcons (.vint .i64 (.lit 0)) .rnil))))))))))))))))))))))))))))))))))))))))))))))))))))))))))))))))))))))))),bg 0 0])))
theorem qu4:qj ⟨Tryz.prog,qbx,[],[]⟩ 100000 Tryz.f96 = qmR:=by kernel_rfl
theorem q1A (hd:∀ c ∈ ([]:List Ctr),c.ok Tryz.prog) (h:∀ ρ:Env,ρ.good->(qbx).pre ρ->qmR.den ⟨Tryz.prog,qbx,[],[]⟩ ρ):(qbx).ok Tryz.prog :=
 qf Tryz.func96 (fun a w=>Tryz.call96 a w) hd 100000 (fun ρ hg hp=>by rw [qu4]; exact h ρ hg hp)
@[simp] def qmu:T:=.dtake (.dtake (.ddrop (.var 6) (.var 10)) (.var 11)) (.imin (.minus (.lit 64) (.arith .rem .i64 (.icell (.var 13) (.lit 0) 72) (.lit 64))) (.var 11))
@[simp] def qlU:T:=.ife (.lit 64) (.arith .rem .i64 (.icell (.var 13) (.lit 0) 72) (.lit 64)) (.lit 8) (.plus (.lit 8) (.arith .rem .i64 (.icell (.var 13) (.lit 0) 72) (.lit 64)))
@[simp] def qsV:T:=.ife (.var 12) (.imin (.minus (.lit 64) (.arith .rem .i64 (.icell (.var 13) (.lit 0) 72) (.lit 64))) (.var 11)) (.var 10) (.plus (.var 10) (.imin (.minus (.lit 64) (.arith .rem .i64 (.icell (.var 13) (.lit 0) 72) (.lit 64))) (.var 11)))
@[simp] def qsK:T:=.c3 .xcopy (.var 13) qlU qmu
@[simp] def qsU:Sg:=sg 0 [bv 3 9,bt 1 (.dput (.c3 .xcopy (.var 13) qlU qmu) (.lit 0) 72 (.rcons (.vint .i64 (.arith .add .i64 (.icell (.c3 .xcopy (.var 13) qlU qmu) (.lit 0) 72) (.imin (.minus (.lit 64) (.arith .rem .i64 (.icell (.var 13) (.lit 0) 72) (.lit 64))) (.var 11)))) .rnil)),bg 0 0,bg 2 8]
def qrV:Out:=(.br (.and (.cmp .eql (.dlen (.var 1)) (.lit 0)) (.isnil 0))
 (.ret 0 (sg 10 [bv 10 1]))
 (.inv 0 10 (sg 1000 [bv 1003 1,bv 1002 5,bv 1001 4,bv 1000 3]) (.fresh 10 (.fresh 11 (.fresh 12 (.fresh 13 (.hyp 0 10 (.need (.cmp .leq (.lit 0) (.var 11)) (.br (.cmp .gtr (.var 11) (.lit 0))
 (.need (.cmp .lss (.lit 0) (.dlen (.var 13))) (.need (.cmp .leq (.lit 0) (.arith .rem .i64 (.icell (.var 13) (.lit 0) 72) (.lit 64))) (.need (.cmp .leq (.arith .rem .i64 (.icell (.var 13) (.lit 0) 72) (.lit 64)) (.lit 64)) (.need (.cmp .neq (.lit 64) (.arith .rem .i64 (.icell (.var 13) (.lit 0) 72) (.lit 64))) (.need (.cmp .leq (.lit 0) (.minus (.lit 64) (.arith .rem .i64 (.icell (.var 13) (.lit 0) 72) (.lit 64)))) (.need (.cmp .leq (.plus (.arith .rem .i64 (.icell (.var 13) (.lit 0) 72) (.lit 64)) (.minus (.lit 64) (.arith .rem .i64 (.icell (.var 13) (.lit 0) 72) (.lit 64)))) (.lit 64)) (.need (.cmp .leq (.lit 0) (.var 10)) (.need (.cmp .leq (.plus (.var 10) (.var 11)) (.dlen (.var 6))) (.fresh 14 (.need (.cmp .leq (.lit 0) (.var 12)) (.need (.cmp .leq (.lit 0) (.imin (.minus (.lit 64) (.arith .rem .i64 (.icell (.var 13) (.lit 0) 72) (.lit 64))) (.var 11))) (.need (.cmp .leq (.imin (.minus (.lit 64) (.arith .rem .i64 (.icell (.var 13) (.lit 0) 72) (.lit 64))) (.var 11)) (.var 11)) (.need (.cmp .leq (.var 11) (.var 12)) (.br (.cmp .eql (.arith .add .i64 (.arith .rem .i64 (.icell (.var 13) (.lit 0) 72) (.lit 64)) (.imin (.minus (.lit 64) (.arith .rem .i64 (.icell (.var 13) (.lit 0) 72) (.lit 64))) (.var 11))) (.lit 64))
 (.pre 0 qsU (.both (.fresh 15 (.post 0 0 qsU 15 (.back 0 10 (sg 1000 [bv 1003 15,bt 1002 (.minus (.var 12) (.imin (.minus (.lit 64) (.arith .rem .i64 (.icell (.var 13) (.lit 0) 72) (.lit 64))) (.var 11))),bt 1001 (.minus (.var 11) (.imin (.minus (.lit 64) (.arith .rem .i64 (.icell (.var 13) (.lit 0) 72) (.lit 64))) (.var 11))),bt 1000 qsV])))) .top))
 (.back 0 10 (sg 1000 [bt 1003 (.dput qsK (.lit 0) 72 (.rcons (.vint .i64 (.arith .add .i64 (.icell qsK (.lit 0) 72) (.imin (.minus (.lit 64) (.arith .rem .i64 (.icell (.var 13) (.lit 0) 72) (.lit 64))) (.var 11)))) .rnil)),bt 1002 (.minus (.var 12) (.imin (.minus (.lit 64) (.arith .rem .i64 (.icell (.var 13) (.lit 0) 72) (.lit 64))) (.var 11))),bt 1001 (.minus (.var 11) (.imin (.minus (.lit 64) (.arith .rem .i64 (.icell (.var 13) (.lit 0) 72) (.lit 64))) (.var 11))),bt 1000 qsV]))))))))))))))))
 (.ret 0 (sg 10 [bv 10 13])))))))))))
theorem q1j:qj ⟨Tryz.prog,qcR,[qed],[qwM]⟩ 100000 Tryz.f97 = qrV:=by kernel_rfl
theorem q51 (hd:∀ c ∈ ([qed]:List Ctr),c.ok Tryz.prog) (h:∀ ρ:Env,ρ.good->(qcR).pre ρ->qrV.den ⟨Tryz.prog,qcR,[qed],[qwM]⟩ ρ):(qcR).ok Tryz.prog :=
 qf Tryz.func97 (fun a w=>Tryz.call97 a w) hd 100000 (fun ρ hg hp=>by rw [q1j]; exact h ρ hg hp)
@[simp] def qjv:T:=.dtake (.c3 .xrows (.var 5) (.var 8) (.var 9)) (.imin (.minus (.lit 64) (.arith .rem .i64 (.icell (.var 11) (.lit 0) 72) (.lit 64))) (.var 9))
@[simp] def qjs:T:=.ife (.lit 64) (.arith .rem .i64 (.icell (.var 11) (.lit 0) 72) (.lit 64)) (.lit 8) (.plus (.lit 8) (.arith .rem .i64 (.icell (.var 11) (.lit 0) 72) (.lit 64)))
@[simp] def qoe:T:=.ife (.var 10) (.imin (.minus (.lit 64) (.arith .rem .i64 (.icell (.var 11) (.lit 0) 72) (.lit 64))) (.var 9)) (.var 8) (.plus (.var 8) (.imin (.minus (.lit 64) (.arith .rem .i64 (.icell (.var 11) (.lit 0) 72) (.lit 64))) (.var 9)))
@[simp] def qnF:T:=.c3 .xcopy (.var 11) qjs qjv
@[simp] def qnW:Sg:=sg 0 [bv 3 7,bt 1 (.dput (.c3 .xcopy (.var 11) qjs qjv) (.lit 0) 72 (.rcons (.vint .i64 (.arith .add .i64 (.icell (.c3 .xcopy (.var 11) qjs qjv) (.lit 0) 72) (.imin (.minus (.lit 64) (.arith .rem .i64 (.icell (.var 11) (.lit 0) 72) (.lit 64))) (.var 9)))) .rnil)),bg 0 0,bg 2 6]
def qm2:Out:=(.br (.and (.cmp .eql (.dlen (.var 1)) (.lit 0)) (.isnil 0))
 (.ret 0 (sg 8 [bv 8 1]))
 (.inv 0 8 (sg 1000 [bv 1003 1,bv 1002 4,bv 1001 3,bt 1000 (.lit 0)]) (.fresh 8 (.fresh 9 (.fresh 10 (.fresh 11 (.hyp 0 8 (.need (.cmp .leq (.lit 0) (.var 9)) (.br (.cmp .gtr (.var 9) (.lit 0))
 (.need (.cmp .lss (.lit 0) (.dlen (.var 11))) (.need (.cmp .leq (.lit 0) (.arith .rem .i64 (.icell (.var 11) (.lit 0) 72) (.lit 64))) (.need (.cmp .leq (.arith .rem .i64 (.icell (.var 11) (.lit 0) 72) (.lit 64)) (.lit 64)) (.need (.cmp .neq (.lit 64) (.arith .rem .i64 (.icell (.var 11) (.lit 0) 72) (.lit 64))) (.need (.cmp .leq (.lit 0) (.minus (.lit 64) (.arith .rem .i64 (.icell (.var 11) (.lit 0) 72) (.lit 64)))) (.need (.cmp .leq (.plus (.arith .rem .i64 (.icell (.var 11) (.lit 0) 72) (.lit 64)) (.minus (.lit 64) (.arith .rem .i64 (.icell (.var 11) (.lit 0) 72) (.lit 64)))) (.lit 64)) (.need (.cmp .leq (.lit 0) (.var 8)) (.need (.cmp .leq (.plus (.var 8) (.var 9)) (.lit 72)) (.need (.cmp .lss (.lit 0) (.dlen (.var 5))) (.fresh 12 (.need (.cmp .leq (.lit 0) (.var 10)) (.need (.cmp .leq (.lit 0) (.imin (.minus (.lit 64) (.arith .rem .i64 (.icell (.var 11) (.lit 0) 72) (.lit 64))) (.var 9))) (.need (.cmp .leq (.imin (.minus (.lit 64) (.arith .rem .i64 (.icell (.var 11) (.lit 0) 72) (.lit 64))) (.var 9)) (.var 9)) (.need (.cmp .leq (.var 9) (.var 10)) (.br (.cmp .eql (.arith .add .i64 (.arith .rem .i64 (.icell (.var 11) (.lit 0) 72) (.lit 64)) (.imin (.minus (.lit 64) (.arith .rem .i64 (.icell (.var 11) (.lit 0) 72) (.lit 64))) (.var 9))) (.lit 64))
 (.pre 0 qnW (.both (.fresh 13 (.post 0 0 qnW 13 (.back 0 8 (sg 1000 [bv 1003 13,bt 1002 (.minus (.var 10) (.imin (.minus (.lit 64) (.arith .rem .i64 (.icell (.var 11) (.lit 0) 72) (.lit 64))) (.var 9))),bt 1001 (.minus (.var 9) (.imin (.minus (.lit 64) (.arith .rem .i64 (.icell (.var 11) (.lit 0) 72) (.lit 64))) (.var 9))),bt 1000 qoe])))) .top))
 (.back 0 8 (sg 1000 [bt 1003 (.dput qnF (.lit 0) 72 (.rcons (.vint .i64 (.arith .add .i64 (.icell qnF (.lit 0) 72) (.imin (.minus (.lit 64) (.arith .rem .i64 (.icell (.var 11) (.lit 0) 72) (.lit 64))) (.var 9)))) .rnil)),bt 1002 (.minus (.var 10) (.imin (.minus (.lit 64) (.arith .rem .i64 (.icell (.var 11) (.lit 0) 72) (.lit 64))) (.var 9))),bt 1001 (.minus (.var 9) (.imin (.minus (.lit 64) (.arith .rem .i64 (.icell (.var 11) (.lit 0) 72) (.lit 64))) (.var 9))),bt 1000 qoe])))))))))))))))))
 (.ret 0 (sg 8 [bv 8 11])))))))))))
theorem qu7:qj ⟨Tryz.prog,qdc,[qed],[qo7]⟩ 100000 Tryz.f97 = qm2:=by kernel_rfl
theorem q16 (hd:∀ c ∈ ([qed]:List Ctr),c.ok Tryz.prog) (h:∀ ρ:Env,ρ.good->(qdc).pre ρ->qm2.den ⟨Tryz.prog,qdc,[qed],[qo7]⟩ ρ):(qdc).ok Tryz.prog :=
 qf Tryz.func97 (fun a w=>Tryz.call97 a w) hd 100000 (fun ρ hg hp=>by rw [qu7]; exact h ρ hg hp)
@[simp] def qzq:Sg:=sg 0 [bv 7 3,bv 5 12,bv 1 10,bt 4 (.lit 72),bt 3 (.arith .add .i64 (.var 13) (.lit 8)),bg 2 11,bg 0 9,bg 6 2]
def q0D:Out:=(.fresh 4 (.br (.and (.cmp .eql (.dlen (.var 1)) (.lit 0)) (.isnil 0))
 (.ret 0 (sg 4 [bt 4 z8]))
 (.need (.cmp .lss (.lit 0) (.dlen (.var 1))) (.fresh 5 (.fresh 6 (.inv 0 7 (sg 1000 [bt 1005 (.rcons (.vint .u8 (.lit 128)) (.rcons o8 (.rcons o8 (.rcons o8 (.rcons o8 (.rcons o8 (.rcons o8 (.rcons o8 (.rcons o8 (.rcons o8 (.rcons o8 (.rcons o8 (.rcons o8 (.rcons o8 (.rcons o8 (.rcons o8 (.rcons o8 (.rcons o8 (.rcons o8 (.rcons o8 (.rcons o8 (.rcons o8 (.rcons o8 (.rcons o8 (.rcons o8 (.rcons o8 (.rcons o8 (.rcons o8 (.rcons o8 (.rcons o8 (.rcons o8 (.rcons o8 (.rcons o8 (.rcons o8 (.rcons o8 (.rcons o8 (.rcons o8 (.rcons o8 (.rcons o8 (.rcons o8 z8)))))))))))))))))))))))))))))))))))))))),bt 1003 (.rcons (.vint .u32 (.icell (.var 1) (.lit 0) 0)) (.rcons (.vint .u32 (.icell (.var 1) (.lit 0) 1)) (.rcons (.vint .u32 (.icell (.var 1) (.lit 0) 2)) (.rcons (.vint .u32 (.icell (.var 1) (.lit 0) 3)) (.rcons (.vint .u32 (.icell (.var 1) (.lit 0) 4)) (.rcons (.vint .u32 (.icell (.var 1) (.lit 0) 5)) (.rcons (.vint .u32 (.icell (.var 1) (.lit 0) 6)) (.rcons (.vint .u32 (.icell (.var 1) (.lit 0) 7)) (.rcons (.vint .u8 (.icell (.var 1) (.lit 0) 8)) (.rcons (.vint .u8 (.icell (.var 1) (.lit 0) 9)) (.rcons (.vint .u8 (.icell (.var 1) (.lit 0) 10)) (.rcons (.vint .u8 (.icell (.var 1) (.lit 0) 11)) (.rcons (.vint .u8 (.icell (.var 1) (.lit 0) 12)) (.rcons (.vint .u8 (.icell (.var 1) (.lit 0) 13)) (.rcons (.vint .u8 (.icell (.var 1) (.lit 0) 14)) (.rcons (.vint .u8 (.icell (.var 1) (.lit 0) 15)) (.rcons (.vint .u8 (.icell (.var 1) (.lit 0) 16)) (.rcons (.vint .u8 (.icell (.var 1) (.lit 0) 17)) (.rcons (.vint .u8 (.icell (.var 1) (.lit 0) 18)) (.rcons (.vint .u8 (.icell (.var 1) (.lit 0) 19)) (.rcons (.vint .u8 (.icell (.var 1) (.lit 0) 20)) (.rcons (.vint .u8 (.icell (.var 1) (.lit 0) 21)) (.rcons (.vint .u8 (.icell (.var 1) (.lit 0) 22)) (.rcons (.vint .u8 (.icell (.var 1) (.lit 0) 23)) (.rcons (.vint .u8 (.icell (.var 1) (.lit 0) 24)) (.rcons (.vint .u8 (.icell (.var 1) (.lit 0) 25)) (.rcons (.vint .u8 (.icell (.var 1) (.lit 0) 26)) (.rcons (.vint .u8 (.icell (.var 1) (.lit 0) 27)) (.rcons (.vint .u8 (.icell (.var 1) (.lit 0) 28)) (.rcons (.vint .u8 (.icell (.var 1) (.lit 0) 29)) (.rcons (.vint .u8 (.icell (.var 1) (.lit 0) 30)) (.rcons (.vint .u8 (.icell (.var 1) (.lit 0) 31)) (.rcons (.vint .u8 (.icell (.var 1) (.lit 0) 32)) (.rcons (.vint .u8 (.icell (.var 1) (.lit 0) 33)) (.rcons (.vint .u8 (.icell (.var 1) (.lit 0) 34)) (.rcons (.vint .u8 (.icell (.var 1) (.lit 0) 35)) (.rcons (.vint .u8 (.icell (.var 1) (.lit 0) 36)) (.rcons (.vint .u8 (.icell (.var 1) (.lit 0) 37)) (.rcons (.vint .u8 (.icell (.var 1) (.lit 0) 38)) (.rcons (.vint .u8 (.icell (.var 1) (.lit 0) 39)) (.rcons (.vint .u8 (.icell (.var 1) (.lit 0) 40)) (.rcons (.vint .u8 (.icell (.var 1) (.lit 0) 41)) (.rcons (.vint .u8 (.icell (.var 1) (.lit 0) 42)) (.rcons (.vint .u8 (.icell (.var 1) (.lit 0) 43)) (.rcons (.vint .u8 (.icell (.var 1) (.lit 0) 44)) (.rcons (.vint .u8 (.icell (.var 1) (.lit 0) 45)) (.rcons (.vint .u8 (.icell (.var 1) (.lit 0) 46)) (.rcons (.vint .u8 (.icell (.var 1) (.lit 0) 47)) (.rcons (.vint .u8 (.icell (.var 1) (.lit 0) 48)) (.rcons (.vint .u8 (.icell (.var 1) (.lit 0) 49)) (.rcons (.vint .u8 (.icell (.var 1) (.lit 0) 50)) (.rcons (.vint .u8 (.icell (.var 1) (.lit 0) 51)) (.rcons (.vint .u8 (.icell (.var 1) (.lit 0) 52)) (.rcons (.vint .u8 (.icell (.var 1) (.lit 0) 53)) (.rcons (.vint .u8 (.icell (.var 1) (.lit 0) 54)) (.rcons (.vint .u8 (.icell (.var 1) (.lit 0) 55)) (.rcons (.vint .u8 (.icell (.var 1) (.lit 0) 56)) (.rcons (.vint .u8 (.icell (.var 1) (.lit 0) 57)) (.rcons (.vint .u8 (.icell (.var 1) (.lit 0) 58)) (.rcons (.vint .u8 (.icell (.var 1) (.lit 0) 59)) (.rcons (.vint .u8 (.icell (.var 1) (.lit 0) 60)) (.rcons (.vint .u8 (.icell (.var 1) (.lit 0) 61)) (.rcons (.vint .u8 (.icell (.var 1) (.lit 0) 62)) (.rcons (.vint .u8 (.icell (.var 1) (.lit 0) 63)) (.rcons (.vint .u8 (.icell (.var 1) (.lit 0) 64)) (.rcons (.vint .u8 (.icell (.var 1) (.lit 0) 65)) (.rcons (.vint .u8 (.icell (.var 1) (.lit 0) 66)) (.rcons (.vint .u8 (.icell (.var 1) (.lit 0) 67)) (.rcons (.vint .u8 (.icell (.var 1) (.lit 0) 68)) (.rcons (.vint .u8 (.icell (.var 1) (.lit 0) 69)) (.rcons (.vint .u8 (.icell (.var 1) (.lit 0) 70)) (.rcons (.vint .u8 (.icell (.var 1) (.lit 0) 71)) (.rcons (.vint .i64 (.icell (.var 1) (.lit 0) 72)) .rnil))))))))))))))))))))))))))))))))))))))))))))))))))))))))))))))))))))))))),bt 1008 (.lit 0),bt 1007 (.arith .mul .u64 (.conv .u64 (.icell (.var 1) (.lit 0) 72)) (.lit 8)),bt 1006 (.arith .sub .i64 (.lit 64) (.arith .rem .i64 (.arith .add .i64 (.icell (.var 1) (.lit 0) 72) (.lit 8)) (.lit 64))),bg 1004 6,bg 1002 5,bg 1000 4]) (.fresh 7 (.fresh 8 (.fresh 9 (.fresh 10 (.fresh 11 (.fresh 12 (.fresh 13 (.fresh 14 (.fresh 15 (.hyp 0 7 (.br (.cmp .lss (.var 15) (.lit 8))
 (.need (.cmp .geq (.arith .sub .i64 (.lit 56) (.arith .mul .i64 (.lit 8) (.var 15))) (.lit 0)) (.need (.cmp .leq (.lit 0) (.arith .add .i64 (.var 13) (.var 15))) (.need (.cmp .lss (.arith .add .i64 (.var 13) (.var 15)) (.lit 72)) (.need (.cmp .lss (.lit 0) (.dlen (.var 12))) (.back 0 7 (sg 1000 [bt 1005 (.c3 (.xput 0) (.var 12) (.arith .add .i64 (.var 13) (.var 15)) (.vint .u8 (.conv .u8 (.arith .shr .u64 (.var 14) (.arith .sub .i64 (.lit 56) (.arith .mul .i64 (.lit 8) (.var 15))))))),bv 1003 10,bt 1008 (.arith .add .i64 (.var 15) (.lit 1)),bv 1007 14,bv 1006 13,bg 1004 11,bg 1002 9,bg 1000 7]))))))
 (.need (.cmp .leq (.lit 0) (.arith .add .i64 (.var 13) (.lit 8))) (.need (.cmp .leq (.arith .add .i64 (.var 13) (.lit 8)) (.lit 72)) (.need (.cmp .lss (.lit 0) (.dlen (.var 12))) (.pre 0 qzq (.both (.fresh 16 (.post 0 0 qzq 16 (.fresh 17 (.inv 1 18 (sg 1000 [bt 1005 z8,bv 1003 16,bt 1006 (.lit 0),bg 1004 17,bg 1002 9,bg 1000 7]) (.fresh 18 (.fresh 19 (.fresh 20 (.fresh 21 (.fresh 22 (.fresh 23 (.fresh 24 (.hyp 1 18 (.br (.cmp .lss (.var 24) (.lit 32))
 (.need (.cmp .lss (.lit 0) (.dlen (.var 21))) (.need (.cmp .leq (.lit 0) (.arith .quo .i64 (.var 24) (.lit 4))) (.need (.cmp .lss (.arith .quo .i64 (.var 24) (.lit 4)) (.lit 8)) (.need (.cmp .geq (.arith .sub .i64 (.lit 24) (.arith .mul .i64 (.lit 8) (.arith .rem .i64 (.var 24) (.lit 4)))) (.lit 0)) (.need (.cmp .leq (.lit 0) (.var 24)) (.need (.cmp .lss (.lit 0) (.dlen (.var 23))) (.back 1 18 (sg 1000 [bt 1005 (.c3 (.xput 0) (.var 23) (.var 24) (.vint .u8 (.conv .u8 (.arith .shr .u32 (.c2 (.xint 0) (.var 21) (.arith .quo .i64 (.var 24) (.lit 4))) (.arith .sub .i64 (.lit 24) (.arith .mul .i64 (.lit 8) (.arith .rem .i64 (.var 24) (.lit 4)))))))),bv 1003 21,bt 1006 (.arith .add .i64 (.var 24) (.lit 1)),bg 1004 22,bg 1002 20,bg 1000 18]))))))))
 (.need (.cmp .lss (.lit 0) (.dlen (.var 23))) (.ret 0 (sg 4 [bt 4 (.rcons (.vint .u8 (.icell (.var 23) (.lit 0) 0)) (.rcons (.vint .u8 (.icell (.var 23) (.lit 0) 1)) (.rcons (.vint .u8 (.icell (.var 23) (.lit 0) 2)) (.rcons (.vint .u8 (.icell (.var 23) (.lit 0) 3)) (.rcons (.vint .u8 (.icell (.var 23) (.lit 0) 4)) (.rcons (.vint .u8 (.icell (.var 23) (.lit 0) 5)) (.rcons (.vint .u8 (.icell (.var 23) (.lit 0) 6)) (.rcons (.vint .u8 (.icell (.var 23) (.lit 0) 7)) (.rcons (.vint .u8 (.icell (.var 23) (.lit 0) 8)) (.rcons (.vint .u8 (.icell (.var 23) (.lit 0) 9)) (.rcons (.vint .u8 (.icell (.var 23) (.lit 0) 10)) (.rcons (.vint .u8 (.icell (.var 23) (.lit 0) 11)) (.rcons (.vint .u8 (.icell (.var 23) (.lit 0) 12)) (.rcons (.vint .u8 (.icell (.var 23) (.lit 0) 13)) (.rcons (.vint .u8 (.icell (.var 23) (.lit 0) 14)) (.rcons (.vint .u8 (.icell (.var 23) (.lit 0) 15)) (.rcons (.vint .u8 (.icell (.var 23) (.lit 0) 16)) (.rcons (.vint .u8 (.icell (.var 23) (.lit 0) 17)) (.rcons (.vint .u8 (.icell (.var 23) (.lit 0) 18)) (.rcons (.vint .u8 (.icell (.var 23) (.lit 0) 19)) (.rcons (.vint .u8 (.icell (.var 23) (.lit 0) 20)) (.rcons (.vint .u8 (.icell (.var 23) (.lit 0) 21)) (.rcons (.vint .u8 (.icell (.var 23) (.lit 0) 22)) (.rcons (.vint .u8 (.icell (.var 23) (.lit 0) 23)) (.rcons (.vint .u8 (.icell (.var 23) (.lit 0) 24)) (.rcons (.vint .u8 (.icell (.var 23) (.lit 0) 25)) (.rcons (.vint .u8 (.icell (.var 23) (.lit 0) 26)) (.rcons (.vint .u8 (.icell (.var 23) (.lit 0) 27)) (.rcons (.vint .u8 (.icell (.var 23) (.lit 0) 28)) (.rcons (.vint .u8 (.icell (.var 23) (.lit 0) 29)) (.rcons (.vint .u8 (.icell (.var 23) (.lit 0) 30)) (.rcons (.vint .u8 (.icell (.var 23) (.lit 0) 31)) .rnil))))))))))))))))))))))))))))))))])))))))))))))))) .top))))))))))))))))))))))
theorem q7e:qj ⟨Tryz.prog,qfK,[qdc],[q6W,q7f]⟩ 100000 Tryz.f98 = q0D:=by kernel_rfl
theorem qAn (hd:∀ c ∈ ([qdc]:List Ctr),c.ok Tryz.prog) (h:∀ ρ:Env,ρ.good->(qfK).pre ρ->q0D.den ⟨Tryz.prog,qfK,[qdc],[q6W,q7f]⟩ ρ):(qfK).ok Tryz.prog :=
 qf Tryz.func98 (fun a w=>Tryz.call98 a w) hd 100000 (fun ρ hg hp=>by rw [q7e]; exact h ρ hg hp)
def qoI:Out:=(.fresh 8 (.pre 0 (sg 0 []) (.both (.fresh 9 (.fresh 10 (.post 0 0 (sg 0 []) 9 (.pre 1 (sg 0 [bv 9 7,bv 7 5,bv 6 4,bv 1 10,bv 5 3,bv 4 2,bv 3 1,bg 2 0,bg 0 9,bg 8 6]) (.both (.fresh 11 (.post 1 0 (sg 0 [bv 9 7,bv 7 5,bv 6 4,bv 1 10,bv 5 3,bv 4 2,bv 3 1,bg 2 0,bg 0 9,bg 8 6]) 11 (.pre 2 (sg 0 [bv 3 7,bv 1 11,bg 0 9,bg 2 6]) (.both (.fresh 12 (.post 2 0 (sg 0 [bv 3 7,bv 1 11,bg 0 9,bg 2 6]) 12 (.ret 0 (sg 8 [bt 8 (r8 12)])))) .top)))) .top))))) .top)))
theorem qxJ:qj ⟨Tryz.prog,qah,[qbx,qcR,qfK],[]⟩ 100000 Tryz.f59 = qoI:=by kernel_rfl
theorem q3g (hd:∀ c ∈ ([qbx,qcR,qfK]:List Ctr),c.ok Tryz.prog) (h:∀ ρ:Env,ρ.good->(qah).pre ρ->qoI.den ⟨Tryz.prog,qah,[qbx,qcR,qfK],[]⟩ ρ):(qah).ok Tryz.prog :=
 qf Tryz.func59 (fun a w=>Tryz.call59 a w) hd 100000 (fun ρ hg hp=>by rw [qxJ]; exact h ρ hg hp)
end Go.Proofs

set_option linter.unusedSimpArgs false
set_option linter.unusedVariables false
namespace Go.Proofs
open Go Go.Eng
theorem q6L:qfc.ok Tryz.prog:=q5I (by simp) fun ρ hg hp=>by
 obtain ⟨hx,n,n1,n2,hn⟩:=hp
 simp [qrG,qfc,qr6]
 rw [hn]
 have e1:=q7J ⟨n - 1,by omega⟩
 have e2:=q78 ⟨n - 1,by omega⟩
 simp only [] at e1 e2
 have e3:(((n - 1:Nat):Int) + 1) = (n:Int):=by omega
 rw [e3] at e1 e2
 rw [e1]
 refine ⟨by omega,by rw [e2]; omega,fun k k1 k2 hk=>?_⟩
 obtain rfl:k = n:=by omega
 rw [<- e1]
 exact q9d hx n1 n2
set_option maxRecDepth 20000 in
set_option pp.deepTerms true in
set_option pp.maxSteps 1000000 in
theorem qzc:qed.ok Tryz.prog:=q7T (by simp [q6L]) fun ρ hg hp=>by
 obtain ⟨hh,hgr,hgd⟩:=hp
 simp (config:={ maxSteps:=2000000 }) [qwG,qed,q19,q1J,q0i,q0q,qfc,qr6,st8,qA9]
 refine ⟨⟨⟨_,rfl,rfl⟩,fun j hj=>absurd hj (by omega)⟩,fun w _ n _ a0 a1 hA=>⟨fun hlt=>?_,fun hge=>⟨?_,fun w _ n _ b0 b1 hB=>⟨fun hlt=>?_,fun hge=>⟨?_,⟨?_,?_,?_⟩,?_⟩⟩⟩⟩⟩
 ·obtain ⟨t,ht⟩:∃ t:Nat,n.i = t:=⟨n.i.toNat,by omega⟩
  have m0:qe .mul .i64 4 n.i = ((4 * t:Nat):Int):=by rw [qcP (by omega) (by omega)]; omega
  have m1:qe .add .i64 (qe .mul .i64 4 n.i) 1 = ((4 * t + 1:Nat):Int):=by rw [m0,add64 (by omega) (by omega)]; omega
  have m2:qe .add .i64 (qe .mul .i64 4 n.i) 2 = ((4 * t + 2:Nat):Int):=by rw [m0,add64 (by omega) (by omega)]; omega
  have m3:qe .add .i64 (qe .mul .i64 4 n.i) 3 = ((4 * t + 3:Nat):Int):=by rw [m0,add64 (by omega) (by omega)]; omega
  have m5:qe .add .i64 n.i 1 = ((t + 1:Nat):Int):=by rw [add64 (by omega) (by omega)]; omega
  rw [m1,m2,m3,m0,m5]
  rw [ht,Int.toNat_natCast] at hA
  rw [ht]
  simp only [Int.toNat_natCast]
  have e1:=qac hh.1
  have e2:=qac hA.1
  refine ⟨by omega,by omega,by omega,by omega,by omega,by omega,by omega,by omega,by omega,by omega,by omega,by omega,⟨by omega,by omega,qqi hA (by omega) ?_⟩,by omega⟩
  rw [q5i,q0Q (by rw [quH]; omega),q5z (by omega),Nat.add_comm (4 * t) 8,Nat.add_comm (4 * t + 1) 8,Nat.add_comm (4 * t + 2) 8,Nat.add_comm (4 * t + 3) 8]
 ·have:n.i = 16:=by omega
  rw [this] at hA; exact hA
 ·obtain ⟨t,ht⟩:∃ t:Nat,n.i = ((16 + t:Nat):Int):=⟨n.i.toNat - 16,by omega⟩
  have m15:qe .sub .i64 n.i 15 = ((1 + t:Nat):Int):=by rw [qe9 (by omega) (by omega)]; omega
  have m2:qe .sub .i64 n.i 2 = ((14 + t:Nat):Int):=by rw [qe9 (by omega) (by omega)]; omega
  have m16:qe .sub .i64 n.i 16 = (t:Int):=by rw [qe9 (by omega) (by omega)]; omega
  have m7:qe .sub .i64 n.i 7 = ((9 + t:Nat):Int):=by rw [qe9 (by omega) (by omega)]; omega
  have m5:qe .add .i64 n.i 1 = ((16 + t + 1:Nat):Int):=by rw [add64 (by omega) (by omega)]; omega
  rw [m15,m2,m16,m7,m5]
  rw [ht,Int.toNat_natCast] at hB
  rw [ht]
  simp only [Int.toNat_natCast]
  have e2:=qac hB.1
  refine ⟨by omega,by omega,by omega,by omega,by omega,⟨qeD hB (by omega),7,by omega,by omega,rfl⟩,fun r1 _ g1=>⟨⟨qeD hB (by omega),18,by omega,by omega,rfl⟩,fun r2 _ g2=>⟨⟨qeD hB (by omega),17,by omega,by omega,rfl⟩,fun r3 _ g3=>⟨⟨qeD hB (by omega),19,by omega,by omega,rfl⟩,fun r4 _ g4=>⟨by omega,by omega,by omega,by omega,by omega,⟨by omega,by omega,qqi hB (by omega) ?_⟩,by omega⟩⟩⟩⟩⟩
  rw [g1 7 (by omega) (by omega) rfl,g2 18 (by omega) (by omega) rfl,g3 17 (by omega) (by omega) rfl,g4 19 (by omega) (by omega) rfl]
  rw [qB7 (qeD hB (by omega)),qBd (qeD hB (by omega))]
  simp only [qns,q74,qf4]
  rw [qim hB (by omega:1 + t < 16 + t),qim hB (by omega:14 + t < 16 + t),qim hB (by omega:t < 16 + t),qim hB (by omega:9 + t < 16 + t),qx3 quH (by omega)]
  generalize (qav (qdV (ρ 1).d) 48).getD (1 + t) 0 = p1
  generalize (qav (qdV (ρ 1).d) 48).getD (14 + t) 0 = p14
  generalize (qav (qdV (ρ 1).d) 48).getD (9 + t) 0 = p9
  generalize (qav (qdV (ρ 1).d) 48).getD t 0 = p0
  refine congrArg ofW ?_
  simp only [sg0,sg1]
  ac_rfl
 ·rw [qac hh.1]; decide
 ·have:n.i = 64:=by omega
  rw [this] at hB; exact hB
 ·simp only [qeF]
  exact ⟨hh.2.1 0 (by omega),hh.2.1 1 (by omega),hh.2.1 2 (by omega),hh.2.1 3 (by omega),hh.2.1 4 (by omega),hh.2.1 5 (by omega),hh.2.1 6 (by omega),hh.2.1 7 (by omega)⟩
 ·simp only [qeF]; rfl
 ·intro w _ n _ A _ B _ C _ D _ E _ F _ G _ H _ d0 d1 hW iA iB iC iD iE iF iG iH hR
  refine ⟨fun hlt=>?_,fun hge=>⟨⟨?_,?_,hh,fun j hj=>absurd hj (by omega)⟩,?_⟩⟩
  ·obtain ⟨t,ht⟩:∃ t:Nat,n.i = t:=⟨n.i.toNat,by omega⟩
   have m5:qe .add .i64 n.i 1 = ((t + 1:Nat):Int):=by rw [add64 (by omega) (by omega)]; omega
   rw [m5]
   rw [ht,Int.toNat_natCast] at hR
   rw [ht]
   simp only [Int.toNat_natCast]
   have e1:=qac hW.1
   refine ⟨⟨iE,6,by omega,by omega,rfl⟩,fun r1 _ g1=>⟨⟨iE,11,by omega,by omega,rfl⟩,fun r2 _ g2=>⟨⟨iE,25,by omega,by omega,rfl⟩,fun r3 _ g3=>⟨hgr,by omega,by rw [hgd]; decide,by omega,⟨iA,2,by omega,by omega,rfl⟩,fun r4 _ g4=>⟨⟨iA,13,by omega,by omega,rfl⟩,fun r5 _ g5=>⟨⟨iA,22,by omega,by omega,rfl⟩,fun r6 _ g6=>⟨⟨by omega,by omega,hW,⟨?_,iA,iB,iC,?_,iE,iF,iG⟩,?_⟩,by omega⟩⟩⟩⟩⟩⟩⟩
   ·rw [qns]; exact qn0
   ·rw [qns]; exact qn0
   ·rw [g1 6 (by omega) (by omega) rfl,g2 11 (by omega) (by omega) rfl,g3 25 (by omega) (by omega) rfl,g4 2 (by omega) (by omega) rfl,g5 13 (by omega) (by omega) rfl,g6 22 (by omega) (by omega) rfl]
    simp only [qns,q74,qBk,q6t,qf4,qAj,q8h]
    rw [qim hW (by omega),hgd,q29 (by omega),qwu,<- hR,q14 (by omega)]
    rfl
  ·intro j hj
   match j,hj with
   | 0,_=>exact iA
   | 1,_=>exact iB
   | 2,_=>exact iC
   | 3,_=>exact iD
   | 4,_=>exact iE
   | 5,_=>exact iF
   | 6,_=>exact iG
   | 7,_=>exact iH
  ·have:n.i = 64:=by omega
   rw [this] at hR; exact hR
  ·intro v _ n2 _ d _ f0 f1 hv hR2 hd hlo hhi
   have hrow:∀ j,j < 8->qa [[.int .u32 (qa v.d 0),.int .u32 (qa v.d 1),.int .u32 (qa v.d 2),.int .u32 (qa v.d 3),.int .u32 (qa v.d 4),.int .u32 (qa v.d 5),.int .u32 (qa v.d 6),.int .u32 (qa v.d 7)]] j = qa v.d j:=fun j hj=>qB4 (f:=qa v.d) hj
   generalize [[Value.int .u32 (qa v.d 0),.int .u32 (qa v.d 1),.int .u32 (qa v.d 2),.int .u32 (qa v.d 3),.int .u32 (qa v.d 4),.int .u32 (qa v.d 5),.int .u32 (qa v.d 6),.int .u32 (qa v.d 7)]] = e at hrow ⊢
   refine ⟨fun hlt=>?_,fun hge=>⟨hd,?_,fun j hj=>hhi j (by omega)⟩⟩
   ·obtain ⟨t,ht⟩:∃ t:Nat,n2.i = t:=⟨n2.i.toNat,by omega⟩
    have m5:qe .add .i64 n2.i 1 = ((t + 1:Nat):Int):=by rw [add64 (by omega) (by omega)]; omega
    rw [m5]
    rw [ht] at hlo hhi ⊢
    simp only [Int.toNat_natCast]
    have e1:=qac hd.1
    refine ⟨by omega,by omega,⟨by omega,by omega,fun j hj=>by rw [hrow j hj]; exact hv j hj,by rw [qpt hrow]; exact hR2,qxU hd (by omega) (by rw [qns]; exact qn0),fun j hj=>?_,fun j hj=>?_⟩,by omega⟩
    ·by_cases ej:j = t
     ·rw [ej,qeN hd.1 (by omega),qns,hhi t (by omega),hrow t (by omega)]
     ·rw [qbj ej,hlo j (by omega),hrow j (by omega)]
    ·rw [qbj (by omega),hhi j (by omega)]
   ·have hc:∀ j,j < 8->toW (qa d.d j) = toW (qa (ρ 1).d j) + toW (qa v.d j):=fun j hj=>by rw [hlo j (by omega),qf4]
    have h8:∀ (x:List (List Value)),qv5 (qg x 8) = ⟨toW (qa x 0),toW (qa x 1),toW (qa x 2),toW (qa x 3),toW (qa x 4),toW (qa x 5),toW (qa x 6),toW (qa x 7)⟩:=fun x=>rfl
    unfold qka
    rw [<- hR2]
    simp only [stW,h8,q9M]
    rw [hc 0 (by omega),hc 1 (by omega),hc 2 (by omega),hc 3 (by omega),hc 4 (by omega),hc 5 (by omega),hc 6 (by omega),hc 7 (by omega)]
end Go.Proofs

set_option linter.unusedSimpArgs false
set_option linter.unusedVariables false
namespace Go.Proofs
open Go Go.Eng
set_option maxRecDepth 20000 in
theorem qqd:qbx.ok Tryz.prog:=q1A (by simp) fun ρ hg hp=>by
 simp [qmR,qbx]
 exact q0z
theorem qwH:qcR.ok Tryz.prog:=q51 (by simp [qzc]) fun ρ hg hp=>by
 obtain ⟨⟨m0,hm0,hl0⟩,o0,l0,lc,l1,hle,hB,hGr,hGd⟩:=hp
 simp (config:={ maxSteps:=2000000 }) [qrV,qcR,qwM,qed,gOk]
 have hnil:=qac hm0.1.1
 refine ⟨fun h=>by rw [h] at hnil; simp at hnil,fun _=>⟨⟨l0,lc,fun m h=>by simpa [qbF] using h⟩,fun o _ l _ c _ d _ a0 a1 a2 a3 hH=>⟨a0,fun hpos=>?_,fun hz m h=>?_⟩⟩⟩
 ·have hM:=hH m0 hm0
  obtain ⟨O,hO⟩:∃ O:Nat,(ρ 3).i = O:=⟨(ρ 3).i.toNat,by omega⟩
  obtain ⟨L,hL⟩:∃ L:Nat,l.i = L:=⟨l.i.toNat,by omega⟩
  obtain ⟨A,hA⟩:∃ A:Nat,(ρ 4).i - l.i = A:=⟨((ρ 4).i - l.i).toNat,by omega⟩
  have ho:=a3 hpos
  rw [hA] at ho
  rw [hO,hA] at hH hM
  have hOA:O + A + L <= (ρ 6).d.length:=by omega
  have hsl:=q57 (d:=(ρ 6).d) (o:=O) (a:=A) (by omega)
  have hML:qa d.d 72 = ((m0 ++ qbF (ρ 6).d O A).length:Nat):=hM.2.2.1
  have hMl:(m0 ++ qbF (ρ 6).d O A).length = m0.length + A:=by rw [List.length_append,hsl]
  have hrem:qe .rem .i64 (qb d.d 0 72) 64 = (((m0.length + A) % 64:Nat):Int):=by rw [qeF,hML,hMl,q1t]
  rw [hrem]
  obtain ⟨r,hr⟩:∃ r,(m0.length + A) % 64 = r:=⟨_,rfl⟩
  have hrlt:r < 64:=by omega
  rw [hr]
  obtain ⟨n,hn⟩:∃ n:Nat,(if l.i < 64 - (r:Int) then l.i else 64 - (r:Int)) = (n:Int):=by
   split
   ·exact ⟨L,hL⟩
   ·exact ⟨64 - r,by omega⟩
  have hnL:n <= L/\r + n <= 64/\0 < n/\(r + n = 64∨n = L):=by split at hn <;> omega
  rw [hn]
  have hoff:(if (64:Int) = (r:Int) then (8:Int) else 8 + (r:Int)).toNat = 8 + r:=by
   rw [if_neg (by omega)]; omega
  have hx:List.take ((n:Nat):Int).toNat (List.take l.i.toNat (List.drop o.i.toNat (ρ 6).d)) = ((ρ 6).d.drop (O + A)).take n:=by
   rw [List.take_take,Int.toNat_natCast,show min n l.i.toNat = n by omega,show o.i.toNat = O + A by omega]
  rw [hoff,hx]
  obtain ⟨x,hxe⟩:∃ x,((ρ 6).d.drop (O + A)).take n = x:=⟨_,rfl⟩
  have hxl:x.length = n:=by rw [<- hxe,List.length_take,List.length_drop]; omega
  have hxB:qn x:=by rw [<- hxe]; exact q5q hB
  have hmore:∀ m:List Int,(m ++ qbF (ρ 6).d O A) ++ bI x = m ++ qbF (ρ 6).d (ρ 3).i ((ρ 4).i - (l.i - (n:Int))):=fun m=>by
   rw [List.append_assoc,<- hxe,q3A (by omega),hO,show (ρ 4).i - (l.i - (n:Int)) = ((A + n:Nat):Int) by omega]
  have hmod:∀ m,qaj (ρ 1).d m->(m ++ qbF (ρ 6).d O A).length % 64 = r:=fun m h=>by
   rw [List.length_append,hsl,qkN h hm0]; exact hr
  rw [hxe,qtk hM.1 (by omega) (by omega) (by omega) (by omega)]
  have hsum:qe .add .i64 (r:Int) (n:Int) = ((r + n:Nat):Int):=by rw [add64 (by omega) (by omega)]; omega
  rw [hsum]
  have hd1:=qac hM.1.1
  have hcame:=qjc hM.1 hxB (r:=r) (by omega)
  have hlast:((n:Int) < l.i->(if c.i = (n:Int) then o.i else o.i + (n:Int)) = (ρ 3).i + ((ρ 4).i - (l.i - (n:Int)))):=fun hlt=>by
   rw [if_neg (by omega)]; omega
  refine ⟨by omega,by omega,by omega,by omega,by omega,by omega,by omega,by omega,by omega,by omega,by omega,by omega,fun hfull=>⟨⟨hcame.row,hGr,hGd⟩,fun f _ hf hst hk=>⟨⟨by omega,by omega,by omega,hlast,fun m h=>?_⟩,by omega⟩⟩,fun hnot=>⟨⟨by omega,by omega,by omega,hlast,fun m h=>?_⟩,by omega⟩⟩
  ·rw [<- hmore m]
   exact qtq (hH m h) hxB (hmod m h) (by omega) hf hst (hk 72 (by omega))
  ·rw [<- hmore m]
   exact qsO (hH m h) hxB (hmod m h) (by omega)
 ·have hl:l.i = 0:=by omega
  have:=hH m h
  rw [hl,Int.sub_zero] at this
  exact this
set_option maxRecDepth 20000 in
theorem q0A:qdc.ok Tryz.prog:=q16 (by simp [qzc]) fun ρ hg hp=>by
 obtain ⟨⟨m0,hm0,hl0⟩,l0,l1,lc,hrow,hB,hGr,hGd⟩:=hp
 simp (config:={ maxSteps:=2000000 }) [qm2,qdc,qo7,qed,gOk]
 have hnil:=qac hm0.1.1
 have hnil5:=qac hrow
 refine ⟨fun h=>by rw [h] at hnil; simp at hnil,fun _=>⟨⟨l0,lc,fun m h=>by simpa [qdW] using h⟩,fun o _ l _ c _ d _ a0 a1 a2 a3 hH=>⟨a0,fun hpos=>?_,fun hz m h=>?_⟩⟩⟩
 ·have hM:=hH m0 hm0
  obtain ⟨L,hL⟩:∃ L:Nat,l.i = L:=⟨l.i.toNat,by omega⟩
  obtain ⟨A,hA⟩:∃ A:Nat,(ρ 3).i - l.i = A:=⟨((ρ 3).i - l.i).toNat,by omega⟩
  have ho:=a3 hpos
  rw [hA] at ho
  rw [hA] at hH hM
  have hsl:=qvg (d:=(ρ 5).d) (a:=A) (by omega)
  have hML:qa d.d 72 = ((m0 ++ qdW (ρ 5).d 0 A).length:Nat):=hM.2.2.1
  have hMl:(m0 ++ qdW (ρ 5).d 0 A).length = m0.length + A:=by rw [List.length_append,hsl]
  have hrem:qe .rem .i64 (qb d.d 0 72) 64 = (((m0.length + A) % 64:Nat):Int):=by rw [qeF,hML,hMl,q1t]
  rw [hrem]
  obtain ⟨r,hr⟩:∃ r,(m0.length + A) % 64 = r:=⟨_,rfl⟩
  have hrlt:r < 64:=by omega
  rw [hr]
  obtain ⟨n,hn⟩:∃ n:Nat,(if l.i < 64 - (r:Int) then l.i else 64 - (r:Int)) = (n:Int):=by
   split
   ·exact ⟨L,hL⟩
   ·exact ⟨64 - r,by omega⟩
  have hnL:n <= L/\r + n <= 64/\0 < n/\(r + n = 64∨n = L):=by split at hn <;> omega
  rw [hn]
  have hoff:(if (64:Int) = (r:Int) then (8:Int) else 8 + (r:Int)).toNat = 8 + r:=by
   rw [if_neg (by omega)]; omega
  have hx:List.take ((n:Nat):Int).toNat (qbp (ρ 5).d o.i.toNat l.i.toNat) = qbp (ρ 5).d A n:=by
   rw [Int.toNat_natCast,q0C (by omega),show o.i.toNat = A by omega]
  rw [hoff,hx]
  obtain ⟨x,hxe⟩:∃ x,qbp (ρ 5).d A n = x:=⟨_,rfl⟩
  have hxl:x.length = n:=by rw [<- hxe,qmC hrow (by omega)]
  have hxB:qn x:=by rw [<- hxe]; exact qpS hrow hB
  have hmore:∀ m:List Int,(m ++ qdW (ρ 5).d 0 A) ++ bI x = m ++ qdW (ρ 5).d 0 ((ρ 3).i - (l.i - (n:Int))):=fun m=>by
   rw [List.append_assoc,<- hxe,qoQ hrow,q3f,show (ρ 3).i - (l.i - (n:Int)) = ((A + n:Nat):Int) by omega]
  have hmod:∀ m,qaj (ρ 1).d m->(m ++ qdW (ρ 5).d 0 A).length % 64 = r:=fun m h=>by
   rw [List.length_append,hsl,qkN h hm0]; exact hr
  rw [hxe,qtk hM.1 (by omega) (by omega) (by omega) (by omega)]
  have hsum:qe .add .i64 (r:Int) (n:Int) = ((r + n:Nat):Int):=by rw [add64 (by omega) (by omega)]; omega
  rw [hsum]
  have hd1:=qac hM.1.1
  have hcame:=qjc hM.1 hxB (r:=r) (by omega)
  have hlast:((n:Int) < l.i->(if c.i = (n:Int) then o.i else o.i + (n:Int)) = (ρ 3).i - (l.i - (n:Int))):=fun hlt=>by
   rw [if_neg (by omega)]; omega
  refine ⟨by omega,by omega,by omega,by omega,by omega,by omega,by omega,by omega,by omega,by omega,by omega,by omega,by omega,fun hfull=>⟨⟨hcame.row,hGr,hGd⟩,fun f _ hf hst hk=>⟨⟨by omega,by omega,by omega,hlast,fun m h=>?_⟩,by omega⟩⟩,fun hnot=>⟨⟨by omega,by omega,by omega,hlast,fun m h=>?_⟩,by omega⟩⟩
  ·rw [<- hmore m]
   exact qtq (hH m h) hxB (hmod m h) (by omega) hf hst (hk 72 (by omega))
  ·rw [<- hmore m]
   exact qsO (hH m h) hxB (hmod m h) (by omega)
 ·have hl:l.i = 0:=by omega
  have:=hH m h
  rw [hl,Int.sub_zero] at this
  exact this
set_option maxRecDepth 20000 in
set_option maxHeartbeats 800000 in
theorem q2X:qfK.ok Tryz.prog:=qAn (by simp [q0A]) fun ρ hg hp=>by
 obtain ⟨⟨m0,hm0,hl0⟩,hGr,hGd⟩:=hp
 simp (config:={ maxSteps:=2000000 }) [q0D,qfK,q6W,q7f,qdc,gOk]
 have hnil:=qac hm0.1.1
 have hL:qa (ρ 1).d 72 = (m0.length:Int):=hm0.2.2.1
 have hlen:∀ m,qaj (ρ 1).d m->m.length = m0.length:=fun m h=>qkN h hm0
 have hn8:qe .sub .i64 64 (qe .rem .i64 (qe .add .i64 (qb (ρ 1).d 0 72) 8) 64) = 64 - (qa (ρ 1).d 72 + 8) % 64:=by
  rw [qeF,add64 (by omega) (by omega),hL,show ((m0.length:Int) + 8) = ((m0.length + 8:Nat):Int) by omega,q1t,qe9 (by omega) (by omega)]
  omega
 refine ⟨fun h=>by rw [h] at hnil; simp at hnil,fun _=>⟨by omega,⟨?_,?_,hn8,?_,⟨_,rfl,rfl⟩,fun j hj=>?_⟩,fun d _ p _ n _ v _ t _ t0 t1 hd1 hd2 hn hv hp1 hp2=>⟨fun hlt=>?_,fun hge=>⟨?_,?_,?_,?_,fun f _ hf=>⟨?_,fun e _ g _ t _ u0 u1 he hst hg1 hg2=>⟨fun hlt=>?_,fun hge=>⟨?_,fun m h=>?_⟩⟩⟩⟩⟩⟩⟩
 ·exact qtV (f:=qb (ρ 1).d 0)
 ·intro j hj
  exact (qtS (f:=qb (ρ 1).d 0) hj).trans qeF
 ·rw [qeF,hL]
  have h1:IntKind.u64.wrap (m0.length:Int) = m0.length:=by simp [IntKind.wrap,IntKind.bits,IntKind.signed]; omega
  rw [h1]
  show IntKind.u64.wrap ((m0.length:Int) * 8) = _
  simp [IntKind.wrap,IntKind.bits,IntKind.signed]; omega
 ·have hz:∀ j:Fin 72,qa [Value.int .u8 128 :: List.replicate 71 (Value.int .u8 0)] j.val = if j.val = 0 then 128 else 0:=by decide +kernel
  refine (hz ⟨j,hj⟩).trans ?_
  by_cases e:j = 0
  ·rw [if_pos e,if_pos e]
  ·rw [if_neg e,if_neg e,if_neg (by omega)]
 ·obtain ⟨T,hT⟩:∃ T:Nat,t.i = T:=⟨t.i.toNat,by omega⟩
  obtain ⟨N,hN⟩:∃ N:Nat,n.i = N:=⟨n.i.toNat,by omega⟩
  have m1:qe .sub .i64 56 (qe .mul .i64 8 t.i) = ((8 * (7 - T):Nat):Int):=by rw [qcP (by omega) (by omega),qe9 (by omega) (by omega)]; omega
  have m2:qe .add .i64 n.i t.i = ((N + T:Nat):Int):=by rw [add64 (by omega) (by omega)]; omega
  have m3:qe .add .i64 t.i 1 = ((T + 1:Nat):Int):=by rw [add64 (by omega) (by omega)]; omega
  rw [m1,m2,m3,hT,hN,qz5 (by omega),qiR,hv]
  rw [hT,hN] at hp2
  have e1:=qac hp1
  simp only [Int.toNat_natCast] at hp2 ⊢
  refine ⟨by omega,by omega,by omega,by omega,⟨by omega,by omega,hd1,hd2,by omega,trivial,qfk hp1,fun j hj=>?_⟩,by omega⟩
  by_cases ej:j = N + T
  ·rw [ej,qeN hp1 (by omega),if_neg (by omega),if_pos ⟨by omega,by omega⟩,qz2 (by omega),show N + T - N = T by omega,show 8 - 1 - T = 7 - T by omega]
  ·rw [qbj ej,hp2 j hj]
   by_cases e0:j = 0
   ·rw [if_pos e0,if_pos e0]
   ·rw [if_neg e0,if_neg e0]
    by_cases e2:(N:Int) <= j/\j < N + T
    ·rw [if_pos e2,if_pos ⟨e2.1,by omega⟩]
    ·rw [if_neg e2,if_neg (by omega)]
 ·rw [add64 (by omega) (by omega)]; omega
 ·rw [add64 (by omega) (by omega)]; omega
 ·rw [qac hp1]; decide
 ·refine ⟨⟨m0,qjn hm0 hd1 hd2,hl0⟩,by rw [add64 (by omega) (by omega)]; omega,by rw [add64 (by omega) (by omega)]; omega,hp1,fun x hx=>?_,hGr,hGd⟩
  obtain ⟨j,hj,rfl⟩:=q6l hx
  rw [hp2 j hj]
  split
  ·omega
  ·split
   ·rw [qz2 (by omega)]; omega
   ·omega
 ·have hpad:∀ m,qaj (ρ 1).d m->m ++ qdW p.d 0 (qe .add .i64 n.i 8) = qs7 m:=fun m h=>by
   have h1:=hlen m h
   have h8:t.i = 8:=by omega
   obtain ⟨N,hN⟩:∃ N:Nat,n.i = N:=⟨n.i.toNat,by omega⟩
   rw [hN,add64 (by omega) (by omega),show ((N:Int) + 8) = ((N + 8:Nat):Int) by omega]
   rw [q9u (n:=N) (v:=qa (ρ 1).d 72 * 8) (by omega) (by omega) hp1 (fun j hj=>by
    rw [hp2 j hj,hN,h8]
    by_cases e0:j = 0
    ·rw [if_pos e0,if_pos e0]
    ·rw [if_neg e0,if_neg e0]
     by_cases e2:(N:Int) <= j/\j < (N:Int).toNat + (8:Int).toNat
     ·rw [if_pos e2,if_pos ⟨by omega,by have:=e2.2; simp at this; omega⟩,Int.toNat_natCast]
     ·rw [if_neg e2,if_neg (by simp at e2; omega)])]
   rw [qs7,hL,h1,show N - 1 = 64 - (m0.length + 8) % 64 - 1 by omega]
  refine ⟨(hf m0 (qjn hm0 hd1 hd2)).1,fun m h=>?_,⟨_,rfl,rfl⟩,fun j hj=>absurd hj (by omega)⟩
  have:=hf m (qjn h hd1 hd2)
  rw [hpad m h] at this
  exact this.2.2.2.1
 ·obtain ⟨T,hT⟩:∃ T:Nat,t.i = T:=⟨t.i.toNat,by omega⟩
  have m3:qe .add .i64 t.i 1 = ((T + 1:Nat):Int):=by rw [add64 (by omega) (by omega)]; omega
  have m1:qe .sub .i64 24 (qe .mul .i64 8 (qe .rem .i64 t.i 4)) = ((24 - 8 * (T % 4):Nat):Int):=by
   rw [hT,qB8,qcP (by omega) (by omega),qe9 (by omega) (by omega)]; omega
  rw [m1,m3,hT,qB3 (by omega),q8t (by omega),qiR]
  rw [hT] at hg2
  have e1:=qac hg1
  have e2:=qac he.1
  simp only [Int.toNat_natCast]
  refine ⟨by omega,by omega,by omega,by omega,by omega,by omega,⟨by omega,by omega,he,hst,qfk hg1,fun j hj=>?_⟩,by omega⟩
  by_cases ej:j = T
  ·rw [ej,qeN hg1 (by omega),q07 he (by omega)]
  ·rw [qbj ej,hg2 j (by omega)]
 ·rw [qac hg1]; decide
 ·have h32:t.i = 32:=by omega
  have:sha m = qif (stW e.d):=by rw [hst m h]; rfl
  rw [this]
  refine q9x qpT fun j hj=>?_
  exact (qoc (f:=qb g.d 0) hj).trans (qeF.trans (hg2 j (by omega)))
set_option maxRecDepth 20000 in
theorem qhj:qah.ok Tryz.prog:=q3g (by simp [qqd,qwH,q2X]) fun ρ hg hp=>by
 obtain ⟨⟨o0,l0,lc,l1,hle,hB⟩,hGr,hGd⟩:=hp
 simp (config:={ maxSteps:=2000000 }) [qoI,qah,qbx,qcR,qfK,gOk]
 refine fun h _ hh=>⟨⟨⟨[],hh,by decide⟩,o0,l0,lc,l1,hle,hB,hGr,hGd⟩,fun g _ hg2=>⟨⟨⟨_,hg2 [] hh,?_⟩,hGr,hGd⟩,fun d _ hd=>?_⟩⟩
 ·have:(qbF (ρ 4).d (ρ 1).i (ρ 2).i).length <= (ρ 2).i.toNat:=by simp [qbF]; omega
  simp only [List.nil_append]; omega
 ·exact (show qg _ 32 = qg d.d 32 from rfl).trans (hd _ (by simpa using hg2 [] hh))
end Go.Proofs

set_option linter.unusedSimpArgs false
set_option linter.unusedVariables false
namespace Go.Proofs
open Go Go.Eng
end Go.Proofs

set_option linter.unusedSimpArgs false
set_option linter.unusedVariables false
set_option maxRecDepth 100000
namespace Go.Proofs
open Go Go.Eng

def qxr:Out:=(.br (.var 2)
 (.ret 0 (sg 8 [bv 9 2,bt 8 (.bl false)]))
 (.need (.cmp .leq (.lit 0) (.var 4)) (.both (.ret 0 (sg 8 [bt 9 (.cmp .gtr (.var 7) (.arith .sub .i64 (.var 1) (.var 4))),bt 8 (.not (.cmp .gtr (.var 7) (.arith .sub .i64 (.var 1) (.var 4))))])) .top)))
theorem q3u:qj ⟨Tryz.prog,qc4,[],[]⟩ 100000 Tryz.f132 = qxr:=by kernel_rfl
theorem q9y (hd:∀ c ∈ ([]:List Ctr),c.ok Tryz.prog) (h:∀ ρ:Env,ρ.good->(qc4).pre ρ->qxr.den ⟨Tryz.prog,qc4,[],[]⟩ ρ):(qc4).ok Tryz.prog :=
 qf Tryz.func132 (fun a w=>Tryz.call132 a w) hd 100000 (fun ρ hg hp=>by rw [q3u]; exact h ρ hg hp)
def qoz:Out:=(.pre 0 (sg 0 [bv 6 6,bv 5 5,bv 4 4,bg 3 3,bv 2 2,bv 1 1,bv 7 8,bg 0 0]) (.both (.fresh 9 (.fresh 10 (.post 0 0 (sg 0 [bv 6 6,bv 5 5,bv 4 4,bg 3 3,bv 2 2,bv 1 1,bv 7 8,bg 0 0]) 9 (.br (.var 9)
 (.need (.beq (.bl false) (.var 10)) (.inv 0 11 (sg 1000 [bv 1003 6,bv 1002 5,bv 1001 4,bg 1000 3,bt 1004 (.arith .sub .i64 (.var 8) (.lit 1))]) (.fresh 11 (.fresh 12 (.fresh 13 (.fresh 14 (.fresh 15 (.hyp 0 11 (.br (.cmp .geq (.var 15) (.lit 0))
 (.need (.cmp .geq (.arith .mul .i64 (.lit 8) (.var 15)) (.lit 0)) (.both (.fresh 16 (.both (.need (.cmp .eql (.var 12) (.dlen (.var 14))) (.need (.cmp .leq (.tims (.lit 1) (.plus (.var 12) (.lit 1))) (.lit 140737488355328)) (.fresh 17 (.fresh 18 (.both (.both (.both (.back 0 11 (sg 1000 [bt 1003 (.dapp (.var 14) (.rcons (.vint .u8 (.conv .u8 (.arith .shr .u64 (.var 7) (.arith .mul .i64 (.lit 8) (.var 15))))) .rnil)),bv 1002 18,bt 1001 (.plus (.var 12) (.lit 1)),bg 1000 17,bt 1004 (.arith .sub .i64 (.var 15) (.lit 1))])) .top) .top) .top))))) .top)) .top))
 (.ret 0 (sg 9 [bv 13 14,bv 12 13,bv 11 12,bg 10 11,bt 9 (.bl false)])))))))))))
 (.ret 0 (sg 9 [bv 13 6,bv 12 5,bv 11 4,bg 10 3,bv 9 10])))))) .top))
theorem qxH:qj ⟨Tryz.prog,qbY,[qc4],[qrU]⟩ 100000 Tryz.f131 = qoz:=by kernel_rfl
theorem q3L (hd:∀ c ∈ ([qc4]:List Ctr),c.ok Tryz.prog) (h:∀ ρ:Env,ρ.good->(qbY).pre ρ->qoz.den ⟨Tryz.prog,qbY,[qc4],[qrU]⟩ ρ):(qbY).ok Tryz.prog :=
 qf Tryz.func131 (fun a w=>Tryz.call131 a w) hd 100000 (fun ρ hg hp=>by rw [qxH]; exact h ρ hg hp)
@[simp] def q2F:Sg:=sg 0 [bv 6 6,bv 5 5,bv 4 4,bg 3 3,bv 2 2,bv 1 1,bt 8 (.lit 1),bt 7 (.conv .u64 (.var 7)),bg 0 0]
def q69:Out:=(.pre 0 q2F (.both (.fresh 8 (.fresh 9 (.fresh 10 (.fresh 11 (.fresh 12 (.post 0 0 q2F 8 (.ret 0 (sg 8 [bv 12 12,bv 11 11,bv 10 10,bg 9 9,bv 8 8])))))))) .top))
theorem q88:qj ⟨Tryz.prog,u8C,[qbY],[]⟩ 100000 Tryz.f106 = q69:=by kernel_rfl
theorem qBo (hd:∀ c ∈ ([qbY]:List Ctr),c.ok Tryz.prog) (h:∀ ρ:Env,ρ.good->(u8C).pre ρ->q69.den ⟨Tryz.prog,u8C,[qbY],[]⟩ ρ):(u8C).ok Tryz.prog :=
 qf Tryz.func106 (fun a w=>Tryz.call106 a w) hd 100000 (fun ρ hg hp=>by rw [q88]; exact h ρ hg hp)
@[simp] def qyN:Sg:=sg 0 [bv 6 6,bv 5 5,bv 4 4,bg 3 3,bv 2 2,bv 1 1,bt 8 (.lit 2),bt 7 (.conv .u64 (.var 7)),bg 0 0]
def q2b:Out:=(.pre 0 qyN (.both (.fresh 8 (.fresh 9 (.fresh 10 (.fresh 11 (.fresh 12 (.post 0 0 qyN 8 (.ret 0 (sg 8 [bv 12 12,bv 11 11,bv 10 10,bg 9 9,bv 8 8])))))))) .top))
theorem q5Q:qj ⟨Tryz.prog,qji,[qbY],[]⟩ 100000 Tryz.f105 = q2b:=by kernel_rfl
theorem qAr (hd:∀ c ∈ ([qbY]:List Ctr),c.ok Tryz.prog) (h:∀ ρ:Env,ρ.good->(qji).pre ρ->q2b.den ⟨Tryz.prog,qji,[qbY],[]⟩ ρ):(qji).ok Tryz.prog :=
 qf Tryz.func105 (fun a w=>Tryz.call105 a w) hd 100000 (fun ρ hg hp=>by rw [q5Q]; exact h ρ hg hp)
def qjx:Out:=(.fresh 1 (.ret 0 (sg 1 [bt 2 (.imax (.lit 0) (.var 0)),bg 1 1])))
theorem qrK:qj ⟨Tryz.prog,qbG,[],[]⟩ 100000 Tryz.f104 = qjx:=by kernel_rfl
theorem qvY (hd:∀ c ∈ ([]:List Ctr),c.ok Tryz.prog) (h:∀ ρ:Env,ρ.good->(qbG).pre ρ->qjx.den ⟨Tryz.prog,qbG,[],[]⟩ ρ):(qbG).ok Tryz.prog :=
 qf Tryz.func104 (fun a w=>Tryz.call104 a w) hd 100000 (fun ρ hg hp=>by rw [qrK]; exact h ρ hg hp)
def qrt:Out:=(.pre 0 (sg 0 [bv 6 6,bv 5 5,bv 4 4,bg 3 3,bv 2 2,bv 1 1,bt 7 (.lit 32),bg 0 0]) (.both (.fresh 9 (.fresh 10 (.post 0 0 (sg 0 [bv 6 6,bv 5 5,bv 4 4,bg 3 3,bv 2 2,bv 1 1,bt 7 (.lit 32),bg 0 0]) 9 (.br (.var 9)
 (.need (.cmp .eql (.var 4) (.dlen (.var 6))) (.need (.cmp .lss (.lit 0) (.dlen (.var 8))) (.need (.cmp .leq (.tims (.lit 1) (.plus (.var 4) (.lit 32))) (.lit 140737488355328)) (.fresh 11 (.fresh 12 (.ret 0 (sg 9 [bt 13 (.dapp (.var 6) (.c3 .xrows (.var 8) (.lit 0) (.lit 32))),bv 12 12,bt 11 (.plus (.var 4) (.lit 32)),bg 10 11,bv 9 10])))))))
 (.ret 0 (sg 9 [bv 13 6,bv 12 5,bv 11 4,bg 10 3,bv 9 10])))))) .top))
theorem q18:qj ⟨Tryz.prog,qfn,[qc4],[]⟩ 100000 Tryz.f107 = qrt:=by kernel_rfl
theorem q6B (hd:∀ c ∈ ([qc4]:List Ctr),c.ok Tryz.prog) (h:∀ ρ:Env,ρ.good->(qfn).pre ρ->qrt.den ⟨Tryz.prog,qfn,[qc4],[]⟩ ρ):(qfn).ok Tryz.prog :=
 qf Tryz.func107 (fun a w=>Tryz.call107 a w) hd 100000 (fun ρ hg hp=>by rw [q18]; exact h ρ hg hp)
def qvC:Out:=(.pre 0 (sg 0 [bv 6 6,bv 5 5,bv 4 4,bg 3 3,bv 2 2,bv 1 1,bt 7 (.lit 32),bg 0 0]) (.both (.fresh 9 (.fresh 10 (.post 0 0 (sg 0 [bv 6 6,bv 5 5,bv 4 4,bg 3 3,bv 2 2,bv 1 1,bt 7 (.lit 32),bg 0 0]) 9 (.br (.var 9)
 (.need (.cmp .eql (.var 4) (.dlen (.var 6))) (.need (.cmp .lss (.lit 0) (.dlen (.var 8))) (.need (.cmp .leq (.tims (.lit 1) (.plus (.var 4) (.lit 32))) (.lit 140737488355328)) (.fresh 11 (.fresh 12 (.ret 0 (sg 9 [bt 13 (.dapp (.var 6) (.c3 .xrows (.var 8) (.lit 4) (.lit 32))),bv 12 12,bt 11 (.plus (.var 4) (.lit 32)),bg 10 11,bv 9 10])))))))
 (.ret 0 (sg 9 [bv 13 6,bv 12 5,bv 11 4,bg 10 3,bv 9 10])))))) .top))
theorem q3w:qj ⟨Tryz.prog,qgT,[qc4],[]⟩ 100000 Tryz.f107 = qvC:=by kernel_rfl
theorem q8T (hd:∀ c ∈ ([qc4]:List Ctr),c.ok Tryz.prog) (h:∀ ρ:Env,ρ.good->(qgT).pre ρ->qvC.den ⟨Tryz.prog,qgT,[qc4],[]⟩ ρ):(qgT).ok Tryz.prog :=
 qf Tryz.func107 (fun a w=>Tryz.call107 a w) hd 100000 (fun ρ hg hp=>by rw [q3w]; exact h ρ hg hp)
def qot:Out:=(.br (.and (.cmp .eql (.dlen (.var 3)) (.lit 0)) (.isnil 0))
 (.need (.cmp .eql (.var 1) (.lit 0)) (.ret 0 (sg 5 [bt 7 .dnil,bt 6 (.lit 0),(5,.nil)])))
 (.fresh 5 (.need (.cmp .leq (.lit 0) (.var 1)) (.need (.cmp .leq (.var 1) (.dlen (.var 3))) (.need (.cmp .leq (.tims (.lit 1) (.var 1)) (.lit 140737488355328)) (.fresh 6 (.fresh 7 (.ret 0 (sg 5 [bt 7 (.dtake (.var 3) (.var 1)),bv 6 7,bg 5 6])))))))))
theorem qxC:qj ⟨Tryz.prog,qcc,[],[]⟩ 100000 Tryz.f91 = qot:=by kernel_rfl
theorem q37 (hd:∀ c ∈ ([]:List Ctr),c.ok Tryz.prog) (h:∀ ρ:Env,ρ.good->(qcc).pre ρ->qot.den ⟨Tryz.prog,qcc,[],[]⟩ ρ):(qcc).ok Tryz.prog :=
 qf Tryz.func91 (fun a w=>Tryz.call91 a w) hd 100000 (fun ρ hg hp=>by rw [qxC]; exact h ρ hg hp)
def qrP:Out:=(.br (.var 2)
 (.ret 0 (sg 7 []))
 (.pre 0 (sg 0 [bv 4 5,bv 3 6,bv 2 5,bv 1 4,bg 0 3]) (.both (.fresh 7 (.fresh 8 (.fresh 9 (.post 0 0 (sg 0 [bv 4 5,bv 3 6,bv 2 5,bv 1 4,bg 0 3]) 7 (.ret 1 (sg 7 [bv 9 9,bv 8 8,bg 7 7])))))) .top)))
theorem qzJ:qj ⟨Tryz.prog,qfp,[qcc],[]⟩ 100000 Tryz.f108 = qrP:=by kernel_rfl
theorem q5k (hd:∀ c ∈ ([qcc]:List Ctr),c.ok Tryz.prog) (h:∀ ρ:Env,ρ.good->(qfp).pre ρ->qrP.den ⟨Tryz.prog,qfp,[qcc],[]⟩ ρ):(qfp).ok Tryz.prog :=
 qf Tryz.func108 (fun a w=>Tryz.call108 a w) hd 100000 (fun ρ hg hp=>by rw [qzJ]; exact h ρ hg hp)
end Go.Proofs

set_option linter.unusedSimpArgs false
set_option linter.unusedVariables false
namespace Go.Proofs
open Go Go.Eng
theorem q1u {lim:Int} {f:Bool} {m s:List Int} (h:qgA lim f m s.length = true):qfL lim f m s = (true,m):=by rw [qfL,if_pos h]
theorem qks {lim:Int} {f:Bool} {m s:List Int} (h:¬ qgA lim f m s.length = true):qfL lim f m s = (false,m ++ s):=by rw [qfL,if_neg h]
theorem qr1:qc4.ok Tryz.prog:=q9y (by simp) fun ρ hg hp=>by
 obtain ⟨⟨w0,w1,w2,w3,w5⟩,k0,k1⟩:=hp
 simp [qxr,qc4,qcj,qeW,qgA]
 refine ⟨fun h=>⟨fun _=>h,h⟩,fun h=>⟨by omega,?_⟩⟩
 rw [qe9 (by omega) (by omega),h,bI_len,<- w2]
 simp [qH]
theorem qxb:qbG.ok Tryz.prog:=qvY (by simp) fun ρ hg hp=>by
 simp [qjx,qbG]
 omega
theorem qtp:qcc.ok Tryz.prog:=q37 (by simp) fun ρ hg hp=>by
 obtain ⟨h0,h1,h2⟩:=hp
 simp [qot,qcc]
 refine ⟨fun h _=>⟨by rw [h] at h1; simpa using h1,h⟩,fun _=>⟨h0,by omega,h2,?_⟩⟩
 rw [List.take_of_length_le (by omega)]
theorem q6q:qfp.ok Tryz.prog:=q5k (by simp [qtp]) fun ρ hg hp=>by
 obtain ⟨⟨w0,w1,w2,w3,w5⟩,hq⟩:=hp
 simp [qrP,qfp,qcc,qcj,qeW]
 exact fun hf=>⟨⟨by omega,w2,hq⟩,fun d _ hd=>⟨hf,hd⟩⟩
theorem qqa {a b:qd}:bI (a ++ b) = bI a ++ bI b:=by simp [bI]
theorem qld {a b:qd} (h:qn a) (h':qn b):qn (a ++ b):=fun r hr=>(List.mem_append.1 hr).elim (h r) (h' r)
theorem q44 {lim n c k:Int} {f:Bool} {d x:qd} {s:List Int} (hw:wOk lim n c d) (h:qgA lim f (bI d) k = false) (hx:bI x = s) (hB:qn x) (hk:(x.length:Int) = k) (c2:Int):wOk lim (n + k) c2 (d ++ x)/\(false,bI (d ++ x)) = qfL lim f (bI d) s:=by
 obtain ⟨w0,w1,w2,w3,w5⟩:=hw
 have hs:(s.length:Int) = k:=by rw [<- hx,bI_len,hk]
 have hd:(bI d).length = d.length:=bI_len
 refine ⟨⟨w0,w1,by rw [List.length_append]; omega,?_,qld w5 hB⟩,?_⟩
 ·simp [qgA] at h; omega
 ·rw [qks (by rw [hs,h]; decide),qqa,hx]
theorem quQ {lim k:Int} {f:Bool} {d:qd} {s:List Int} (h:qgA lim f (bI d) k = true) (hk:(s.length:Int) = k):(true,bI d) = qfL lim f (bI d) s:=by rw [q1u (by rw [hk,h])]
theorem q5V:qfn.ok Tryz.prog:=q6B (by simp [qr1]) fun ρ hg hp=>by
 obtain ⟨hw,q,hr,hB⟩:=hp
 simp [qrt,qfn,qc4,qcj,qeW,qgQ]
 have w2:=hw.2.2.1
 refine ⟨hw,fun u _ f _ hf hu=>⟨fun h=>?_,fun h=>⟨hw,?_⟩⟩⟩
 ·have hff:f.b = false:=by rw [h] at hu; simpa using hu.symm
  rw [hff] at hf ⊢
  have hx:bI (qbp (ρ 8).d 0 32) = qg (ρ 8).d 32:=by rw [qoQ hr,List.drop_zero,List.take_of_length_le (by rw [qdx]; decide)]
  refine ⟨w2,by rw [qac hr]; decide,q,fun c _=>q44 hw hf.symm hx (qpS hr hB) (by rw [qmC hr (by omega)]; rfl) _⟩
 ·have hff:f.b = true:=by rw [h] at hu; simpa using hu.symm
  rw [hff] at hf ⊢
  exact quQ hf.symm (by rw [qdx]; rfl)
theorem q8H:qgT.ok Tryz.prog:=q8T (by simp [qr1]) fun ρ hg hp=>by
 obtain ⟨hw,q,hr,hB⟩:=hp
 simp [qvC,qgT,qc4,qcj,qeW,qgQ]
 have w2:=hw.2.2.1
 have hlen:((qg (ρ 8).d 36).drop 4).length = 32:=by rw [List.length_drop,qdx]
 refine ⟨hw,fun u _ f _ hf hu=>⟨fun h=>?_,fun h=>⟨hw,?_⟩⟩⟩
 ·have hff:f.b = false:=by rw [h] at hu; simpa using hu.symm
  rw [hff] at hf ⊢
  have h36:(qg (ρ 8).d 37).take 36 = qg (ρ 8).d 36:=by
   rw [qg,qg,<- List.map_take]; rfl
  have hx:bI (qbp (ρ 8).d 4 32) = (qg (ρ 8).d 36).drop 4:=by
   rw [qoQ hr,<- h36,List.drop_take]
  have hBx:qn (qbp (ρ 8).d 4 32):=fun row hrow=>by
   have h2:qb6 row 0 ∈ bI (qbp (ρ 8).d 4 32):=List.mem_map.2 ⟨row,hrow,rfl⟩
   rw [hx] at h2; exact hB _ h2
  refine ⟨w2,by rw [qac hr]; decide,q,fun c _=>q44 hw hf.symm hx hBx (by rw [qmC hr (by omega)]; rfl) _⟩
 ·have hff:f.b = true:=by rw [h] at hu; simpa using hu.symm
  rw [hff] at hf ⊢
  exact quQ hf.symm (by rw [hlen]; rfl)
theorem q4X {v:Int} {n k:Nat} (h:k < n):(beL v n).take (k + 1) = (beL v n).take k ++ [(v.fdiv (2 ^ (8 * (n - 1 - k)))) % 256]:=by
 rw [List.take_add_one,List.getElem?_eq_getElem (by rw [qaO]; exact h)]
 simp [beL]
theorem qta:qbY.ok Tryz.prog:=q3L (by simp [qr1]) fun ρ hg hp=>by
 obtain ⟨hw,q,k0,k1,v0,v1⟩:=hp
 simp [qoz,qbY,qrU,qc4,qcj,qeW,qgQ]
 have w2:=hw.2.2.1
 have hsub:qe .sub .i64 (ρ 8).i 1 = (ρ 8).i - 1:=qe9 (by omega) (by omega)
 obtain ⟨N,hN⟩:∃ N:Nat,(ρ 8).i = N:=⟨(ρ 8).i.toNat,by omega⟩
 have hbl:((beL (ρ 7).i (ρ 8).i.toNat).length:Int) = (ρ 8).i:=by rw [qaO]; omega
 rw [hsub]
 refine ⟨⟨hw,k0,by omega⟩,fun u _ f _ hf hu=>⟨fun h=>?_,fun h=>⟨hw,?_⟩⟩⟩
 ·have hff:f.b = false:=by rw [h] at hu; simpa using hu.symm
  rw [hff] at hf
  have hfit:(ρ 2).b = false/\(ρ 8).i <= (ρ 1).i - (ρ 4).i:=by
   have:=hf.symm
   have hd:(bI (ρ 6).d).length = (ρ 6).d.length:=bI_len
   simp [qgA] at this
   exact ⟨this.1,by omega⟩
  refine ⟨hff,⟨by omega,by omega,w2,hfit.1,hfit.2,hw.2.2.2.2,.inl (by omega)⟩,fun l _ c _ d _ t _ t0 t1 hl _ _ hB hd=>⟨fun hge=>?_,fun hlt=>?_⟩⟩
  ·obtain ⟨T,hT⟩:∃ T:Nat,t.i = T:=⟨t.i.toNat,by omega⟩
   have m1:qe .mul .i64 8 t.i = ((8 * T:Nat):Int):=by rw [qcP (by omega) (by omega)]; omega
   have m2:qe .sub .i64 t.i 1 = t.i - 1:=qe9 (by omega) (by omega)
   have hdl:d.d.length = (ρ 6).d.length + (N - 1 - T):=by
    have:=congrArg List.length hd
    rw [bI_len,List.length_append,bI_len,List.length_take,qaO] at this
    omega
   rw [m1,m2,qz5 (by omega),qiR]
   refine ⟨by omega,hl,by omega,⟨by omega,by omega,hl,hfit.1,hfit.2,qld hB ?_,?_⟩,by omega⟩
   ·intro row hrow
    obtain rfl:=List.mem_singleton.1 hrow
    simp [qb6,qag]; omega
   ·rw [qqa,hd,List.append_assoc,show ((ρ 8).i - 1 - (t.i - 1)).toNat = (N - 1 - T) + 1 by omega,show ((ρ 8).i - 1 - t.i).toNat = N - 1 - T by omega,show (ρ 8).i.toNat = N by omega,q4X (by omega),show N - 1 - (N - 1 - T) = T by omega]
    rfl
  ·have ht:t.i = -1:=by omega
   have hx:bI d.d = bI (ρ 6).d ++ beL (ρ 7).i (ρ 8).i.toNat:=by
    rw [hd,ht,List.take_of_length_le (by rw [qaO]; omega)]
   have hdl:(d.d.length:Int) = (ρ 6).d.length + (ρ 8).i:=by
    have:=congrArg List.length hx
    rw [bI_len,List.length_append,bI_len,qaO] at this
    omega
   obtain ⟨w0,w1,_,w3,w5⟩:=hw
   refine ⟨⟨w0,w1,hl,by omega,hB⟩,?_⟩
   rw [qks (by rw [hbl,<- hf]; decide),hx]
 ·have hff:f.b = true:=by rw [h] at hu; simpa using hu.symm
  rw [hff] at hf ⊢
  exact quQ hf.symm hbl
theorem qBn:u8C.ok Tryz.prog:=qBo (by simp [qta]) fun ρ hg hp=>by
 obtain ⟨hw,q,v0,v1⟩:=hp
 simp [q69,u8C,qqK,qbY,qcj,qeW,qgQ]
 have hv:IntKind.u64.wrap (ρ 7).i = (ρ 7).i:=by simp [IntKind.wrap,IntKind.bits,IntKind.signed]; omega
 rw [hv]
 exact ⟨⟨hw,q,v0,by omega⟩,fun _ _ _ _ _ _ _ _ h1 h2=>⟨h1,h2⟩⟩
theorem qAE:qji.ok Tryz.prog:=qAr (by simp [qta]) fun ρ hg hp=>by
 obtain ⟨hw,q,v0,v1⟩:=hp
 simp [q2b,qji,qqK,qbY,qcj,qeW,qgQ]
 have hv:IntKind.u64.wrap (ρ 7).i = (ρ 7).i:=by simp [IntKind.wrap,IntKind.bits,IntKind.signed]; omega
 rw [hv]
 exact ⟨⟨hw,q,v0,by omega⟩,fun _ _ _ _ _ _ _ _ h1 h2=>⟨h1,h2⟩⟩
end Go.Proofs

set_option linter.unusedSimpArgs false
set_option linter.unusedVariables false
set_option maxRecDepth 100000
namespace Go.Proofs
open Go Go.Eng

end Go.Proofs

set_option linter.unusedSimpArgs false
set_option linter.unusedVariables false
namespace Go.Proofs
open Go Go.Eng
theorem qhV {d:qd} {l:Int} (h:l = d.length):qbF d 0 l = bI d:=by
 rw [qbF,h,Int.toNat_natCast,Int.toNat_zero,List.drop_zero,List.take_of_length_le (by rw [bI_len]; omega)]
end Go.Proofs

set_option linter.unusedSimpArgs false
set_option linter.unusedVariables false
namespace Go.Proofs
open Go Go.Eng
set_option maxRecDepth 20000
end Go.Proofs

set_option linter.unusedSimpArgs false
set_option linter.unusedVariables false
namespace Go.Eng
open Go Go.Proofs
end Go.Eng

set_option linter.unusedSimpArgs false
set_option linter.unusedVariables false
set_option maxRecDepth 100000
namespace Go.Proofs
open Go Go.Eng

end Go.Proofs

set_option linter.unusedSimpArgs false
set_option linter.unusedVariables false
namespace Go.Proofs
open Go Go.Eng
set_option maxRecDepth 20000
def qeW (f:Nat->Int) (n:Nat):List Value:=(List.range n).map fun j=>.int .u32 (f j)
end Go.Proofs

set_option linter.unusedSimpArgs false
set_option linter.unusedVariables false
namespace Go.Proofs
open Go Go.Eng
set_option maxRecDepth 20000
end Go.Proofs

set_option linter.unusedSimpArgs false
set_option linter.unusedVariables false
namespace Go.Proofs
open Go Go.Eng
set_option maxRecDepth 20000
end Go.Proofs

set_option linter.unusedSimpArgs false
set_option linter.unusedVariables false
set_option maxRecDepth 100000
namespace Go.Proofs
open Go Go.Eng

end Go.Proofs

set_option linter.unusedSimpArgs false
set_option linter.unusedVariables false
namespace Go.Proofs
open Go Go.Eng
set_option maxRecDepth 20000
end Go.Proofs
