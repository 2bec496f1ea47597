/- Texts DD, ZA, ZB, ZL, ZF, DC, DE, DH, DJ, DK, DL, BA, BB, ZG, DM, ZJ, ZU, DO, BC, BD, BE, DU, BF, BG, BH, DX, BI, DF, DG, DI, DQ, DN. -/
import Derived.Test.YtelcnkclppkicaaGreatDoorG4
import Derived.Test.YtelcnkclppkicaaGreatDoorProg
set_option linter.unusedSimpArgs false
set_option linter.unusedVariables false
namespace Go.Eng
open Go
def oneRow (d:List (List Value)) (n:Nat):Prop:=∃ row,d = [row]∧row.length = n
def rowL (d:List (List Value)) (n:Nat):List Int:=(List.range n).map (cellX d)
def cellsT (k:IntKind) (v n:Nat):List T:=(List.range n).map fun j=>.vint k (.c2 (.xint j) (.var v) (.lit 0))
def k64:List CK:=List.replicate 64 (.int .u32)
def gHp (r d:Nat):SH:=.arr r 206 k64 (.var d) (.lit 1)
def gOk (ρ:Env) (r d g:Nat):Prop:=(ρ r).r = some ⟨g,0,none⟩∧(ρ d).d = [roundK.map (Value.int .u32)]
def kHash:List CK:=List.replicate 8 (.int .u32) ++ (List.replicate 64 (.int .u8) ++ [.int .i64])
def hHp (r d:Nat):SH:=.arr r 219 kHash (.var d) (.lit 1)
def hArg (r:Nat):SV:=.one (.vptr r (.lit 0) 73 0)
def hashRow (d:List (List Value)):Prop:=oneRow d 73∧(∀ j,j < 8→isW (cellX d j))∧∀ j,8 ≤ j→j < 72→0 ≤ cellX d j∧cellX d j < 256
def stW (d:List (List Value)):St8:=stOf (rowL d 8)
def blkW (d:List (List Value)):List W32:=(List.range 16).map fun t=>be32 (cellX d (8 + 4 * t)) (cellX d (8 + (4 * t + 1))) (cellX d (8 + (4 * t + 2))) (cellX d (8 + (4 * t + 3)))
def rotPost (fn:Nat):Ctr:={ fn:=fn,nv:=2,args:=[.one (.vint .u32 (.var 0)),.one (.vint .i64 (.var 1))],heap:=[],ro:=[],pre:=fun ρ=>isW (ρ 0).i∧∃ n:Nat,1 ≤ n∧n ≤ 31∧(ρ 1).i = -(n:Int),alts:=[{ k:=1,ret:=.one (.vint .u32 (.var 2)),heap:=[],post:=fun ρ=>∀ n:Nat,1 ≤ n→n ≤ 31→(ρ 1).i = -(n:Int)→(ρ 2).i = ofW (rotr (toW (ρ 0).i) n) }] }
def rot32C:Ctr:=rotPost 154
def compC:Ctr:={ fn := 129,nv:=4,ip:=[(2000 + 1,2)],args:=[hArg 0],heap:=[hHp 0 1],ro:=[gHp 2 3],pre:=fun ρ=>hashRow (ρ 1).d∧gOk ρ 2 3 1,alts:=[
 { k:=1,ret:=.tup [],heap:=[hHp 0 4],post:=fun ρ=>hashRow (ρ 4).d∧stW (ρ 4).d = blockS (wordsK roundK) (stW (ρ 1).d) (blkW (ρ 1).d)∧∀ j,8 ≤ j→cellX (ρ 4).d j = cellX (ρ 1).d j }] }
def wHp (r d:Nat):SH:=.arr r 206 k64 (.var d) (.lit 1)
def wArg (r:Nat):SV:=.one (.vptr r (.lit 0) 64 0)
def iv64 (t:T):SV:=.one (.vint .i64 t)
def wordIs (d:List (List Value)) (l:List W32) (n:Nat):Prop:=oneRow d 64∧∀ j,j < n→cellX d j = ofW (l.getD j 0)
def compA:Inv:={ key:=2,nv:=3,env:=[(0,hArg 0),(2,wArg 1000),(24,iv64 (.var 1002))],heap:=[hHp 0 1,wHp 1000 1001],inv:=(fun ρ=>0 ≤ (ρ 1002).i∧(ρ 1002).i ≤ 16∧wordIs (ρ 1001).d (schedL (blkW (ρ 1).d) 48) (ρ 1002).i.toNat),mu:=(fun ρ=>(16 - (ρ 1002).i).toNat) }
def compB:Inv:={ key:=7,nv:=3,env:=[(0,hArg 0),(2,wArg 1000),(4,iv64 (.var 1002))],heap:=[hHp 0 1,wHp 1000 1001],inv:=(fun ρ=>16 ≤ (ρ 1002).i∧(ρ 1002).i ≤ 64∧wordIs (ρ 1001).d (schedL (blkW (ρ 1).d) 48) (ρ 1002).i.toNat),mu:=(fun ρ=>(64 - (ρ 1002).i).toNat) }
def u32v (n:Nat):SV:=.one (.vint .u32 (.var n))
def st8 (ρ:Env) (n:Nat):St8:=⟨toW (ρ n).i,toW (ρ (n + 1)).i,toW (ρ (n + 2)).i,toW (ρ (n + 3)).i,toW (ρ (n + 4)).i,toW (ρ (n + 5)).i,toW (ρ (n + 6)).i,toW (ρ (n + 7)).i⟩
def st8W (ρ:Env) (n:Nat):Prop:=isW (ρ n).i∧isW (ρ (n + 1)).i∧isW (ρ (n + 2)).i∧isW (ρ (n + 3)).i∧isW (ρ (n + 4)).i∧isW (ρ (n + 5)).i∧isW (ρ (n + 6)).i∧isW (ρ (n + 7)).i
def compD:Inv:={ key:=16,nv:=11,env:=[(0,hArg 0),(2,wArg 1000),(9,u32v 1003),(10,u32v 1004),(11,u32v 1005),(12,u32v 1006),(13,u32v 1007),(14,u32v 1008),(15,u32v 1009),(16,u32v 1010),(154,iv64 (.var 1002))],heap:=[hHp 0 1,wHp 1000 1001],inv:=(fun ρ=>0 ≤ (ρ 1002).i∧(ρ 1002).i ≤ 64∧wordIs (ρ 1001).d (schedL (blkW (ρ 1).d) 48) 64∧st8W ρ 1003∧st8 ρ 1003 = rnds (stW (ρ 1).d) (wordsK roundK) (schedL (blkW (ρ 1).d) 48) (ρ 1002).i.toNat),mu:=(fun ρ=>(64 - (ρ 1002).i).toNat) }
def compE:Inv:={ key:=26,nv:=3,env:=[(0,hArg 0),(224,.agg (cellsT .u32 1000 8)),(225,iv64 (.var 1001))],heap:=[hHp 0 1002],inv:=(fun ρ=>0 ≤ (ρ 1001).i∧(ρ 1001).i ≤ 8∧(∀ j,j < 8→isW (cellX (ρ 1000).d j))∧stOf (rowL (ρ 1000).d 8) = rnds (stW (ρ 1).d) (wordsK roundK) (schedL (blkW (ρ 1).d) 48) 64∧hashRow (ρ 1002).d∧(∀ j,j < (ρ 1001).i.toNat→cellX (ρ 1002).d j = ofW (toW (cellX (ρ 1).d j) + toW (cellX (ρ 1000).d j)))∧∀ j,(ρ 1001).i.toNat ≤ j→cellX (ρ 1002).d j = cellX (ρ 1).d j),mu:=(fun ρ=>(8 - (ρ 1001).i).toNat) }
end Go.Eng

set_option linter.unusedSimpArgs false
set_option linter.unusedVariables false
namespace Go.Eng
open Go

def kField:List CK:=[.int .u32,.int .i32,.int .u32] ++ List.replicate 510 (.int .u8) ++ List.replicate 256 (.int .i64)
def freshRow:List Value:=[.int .u32 0,.int .i32 0,.int .u32 0] ++ List.replicate 510 (.int .u8 0) ++ List.replicate 256 (.int .i64 0)
abbrev Rows':=List (List Value)
def nextX (x:Int):Int:=if 256 ≤ 2 * x then arithOf .xor .i64 (2 * x) 285 else 2 * x
def buildStep (i:Nat) (s:Rows' × Int):Rows' × Int :=
 (putX (putX (putX s.1 (i + 3) (.int .u8 s.2)) (i + 255 + 3) (.int .u8 s.2)) (s.2.toNat + 513) (.int .i64 i),nextX s.2)
def buildN (d:Rows'):Nat→Rows' × Int
 | 0=>(d,1)
 | n + 1=>buildStep n (buildN d n)
def builtD:Rows':=(buildN [freshRow] 255).1
def doneD:Rows':=putX builtD 0 (.int .u32 1)
def fieldD (d:Rows'):Prop:=d = [freshRow]∨d = doneD
def fArg:SV:=.one (.vptr 0 (.lit 0) 769 0)
def fHp (n:Nat):SH:=.arr 0 151 kField (.var n) (.lit 1)
def iv (k:IntKind) (t:T):SV:=.one (.vint k t)

def newFieldC:Ctr:={ fn := 20,nv:=0,args:=[],heap:=[],ro:=[],pre:=fun _=>True,alts:=[{ k:=2,ret:=fArg,heap:=[fHp 1],post:=fun ρ=>(ρ 1).d = [freshRow] }] }
def buildC:Ctr:={ fn := 179,nv:=2,args:=[fArg],heap:=[fHp 1],ro:=[],pre:=fun ρ=>(ρ 1).d.length = 1,alts:=[{ k:=1,ret:=.tup [],heap:=[fHp 2],post:=fun ρ=>(ρ 2).d = (buildN (ρ 1).d 255).1 }] }
def buildI:Inv:={ key:=2,nv:=3,env:=[(0,fArg),(2,iv .i64 (.var 1000)),(3,iv .i64 (.var 1001))],heap:=[fHp 1002],inv:=(fun ρ=>0 ≤ (ρ 1001).i∧(ρ 1001).i ≤ 255∧((ρ 1002).d,(ρ 1000).i) = buildN (ρ 1).d (ρ 1001).i.toNat),mu:=(fun ρ=>(255 - (ρ 1001).i).toNat) }
def expT (i:Nat):Int:=cellX doneD (i + 3)
def logT (a:Nat):Int:=cellX doneD (a + 513)
def mulF (a b:Int):Int:=if a = 0∨b = 0 then 0 else expT (logT a.toNat + logT b.toNat).toNat
def onceC:Ctr:={ fn := 178,nv:=2,args:=[fArg,.fn (.func 179) [.vptr 0 (.lit 0) 769 0] []],heap:=[fHp 1],ro:=[],pre:=fun ρ=>fieldD (ρ 1).d,alts:=[{ k:=1,ret:=.tup [],heap:=[fHp 2],post:=fun ρ=>(ρ 2).d = doneD }] }
def mulC:Ctr:={ fn := 152,nv:=4,args:=[fArg,iv .u8 (.var 2),iv .u8 (.var 3)],heap:=[fHp 1],ro:=[],pre:=fun ρ=>fieldD (ρ 1).d∧0 ≤ (ρ 2).i∧(ρ 2).i < 256∧0 ≤ (ρ 3).i∧(ρ 3).i < 256,alts:=[{ k:=2,ret:=iv .u8 (.var 4),heap:=[fHp 5],post:=fun ρ=>fieldD (ρ 5).d∧(ρ 4).i = mulF (ρ 2).i (ρ 3).i }] }
end Go.Eng

set_option linter.unusedSimpArgs false
set_option linter.unusedVariables false
namespace Go.Eng
open Go

def kB:List CK:=[.int .u8]
def rowI (r:List Value) (c:Nat):Int:=vInt (r[c]?.getD .nilFunc)
def bI (d:Rows'):List Int:=d.map fun r=>rowI r 0
def allB (d:Rows'):Prop:=∀ row ∈ d,0 ≤ rowI row 0∧rowI row 0 < 256
def big:Int:=8796093021952
def segOk (d:Rows') (off len:Int):Prop:=0 ≤ off∧0 ≤ len∧off + len ≤ d.length∧len ≤ big
def seg (l:List Int) (off n:Nat):List Int:=(l.drop off).take n
def xorB (x y:Int):Int:=arithOf .xor .u8 x y
def addToL (l:List Int) (off:Nat) (s:List Int) (c:Int):List Int:=l.mapIdx fun i x=>if off ≤ i∧i < off + s.length then xorB x (mulF c (s.getD (i - off) 0)) else x
def scaleL (l:List Int) (off n:Nat) (c:Int):List Int:=l.mapIdx fun i x=>if off ≤ i∧i < off + n then mulF x c else x
def bSl (r o l c:Nat):SV:=.one (.vslice r (.var o) (.var l) (.var c) 1)
def bHp (r d c:Nat):SH:=.arr r 5 kB (.var d) (.var c)
def mArg (a b r l c:Nat):SV:=.agg [.vint .i64 (.var a),.vint .i64 (.var b),.vslice r (.lit 0) (.var l) (.var c) 1]

def sizesB (k total:Int):Bool:=decide (1 ≤ k) && decide (k ≤ total) && decide (total ≤ 255)
def sizes74C:Ctr:={ fn := 109,nv:=2,args:=[iv .i64 (.var 0),iv .i64 (.var 1)],heap:=[],ro:=[],pre:=fun _=>True,alts:=[{ k:=1,ret:=.one (.vbool (.var 2)),heap:=[],post:=fun ρ=>(ρ 2).b = sizesB (ρ 0).i (ρ 1).i }] }
def pieceBad (k size:Int):Prop:=k < 1∨255 < k∨size < 0∨8192 < size
def piece26C:Ctr:={ fn := 99,nv:=2,args:=[iv .i64 (.var 0),iv .i64 (.var 1)],heap:=[],ro:=[],pre:=fun _=>True,alts:=[{ k:=2,ret:=.tup [(false,[.vint .i64 (.var 2)]),(false,[.vint .i64 (.var 3)])],heap:=[],post:=fun ρ=>(pieceBad (ρ 0).i (ρ 1).i→(ρ 2).i = 0∧(ρ 3).i = 2)∧(¬ pieceBad (ρ 0).i (ρ 1).i→(ρ 2).i = ((ρ 1).i + (ρ 0).i - 1).tdiv (ρ 0).i∧(ρ 3).i = 0) }] }

def zero82C:Ctr:={ fn := 165,nv:=2,args:=[iv .i64 (.var 0),iv .i64 (.var 1)],heap:=[],ro:=[],pre:=fun ρ=>0 ≤ (ρ 0).i∧(ρ 0).i ≤ 255∧0 ≤ (ρ 1).i∧(ρ 1).i ≤ 255,alts:=[{ k:=4,ret:=mArg 0 1 2 3 4,heap:=[bHp 2 5 4],post:=fun ρ=>(ρ 3).i = (ρ 0).i * (ρ 1).i∧(ρ 4).i = (ρ 3).i∧(ρ 5).d = List.replicate (ρ 3).i.toNat [.int .u8 0] }] }
def matOk (r c l cap:Int) (d:Rows'):Prop:=0 ≤ r∧r ≤ 255∧0 ≤ c∧c ≤ 255∧l = r * c∧l ≤ cap∧l ≤ d.length∧allB d
def row75C:Ctr:={ fn := 123,nv:=8,args:=[mArg 0 1 2 3 4,iv .i64 (.var 7)],heap:=[],ro:=[bHp 2 5 6],pre:=fun ρ=>0 ≤ (ρ 7).i∧(ρ 7).i < (ρ 0).i∧matOk (ρ 0).i (ρ 1).i (ρ 3).i (ρ 4).i (ρ 5).d,alts:=[{ k:=3,ret:=bSl 2 8 9 10,heap:=[],post:=fun ρ=>(ρ 8).i = (ρ 7).i * (ρ 1).i∧(ρ 9).i = (ρ 1).i∧(ρ 10).i = (ρ 1).i }] }
def valid36C:Ctr:={ fn := 164,nv:=7,args:=[mArg 0 1 2 3 4],heap:=[],ro:=[bHp 2 5 6],pre:=fun ρ=>0 ≤ (ρ 3).i,alts:=[{ k:=1,ret:=.one (.vbool (.var 7)),heap:=[],post:=fun ρ=>(ρ 7).b = true↔(1 ≤ (ρ 0).i∧(ρ 0).i ≤ 255∧1 ≤ (ρ 1).i∧(ρ 1).i ≤ 255∧(ρ 3).i = (ρ 0).i * (ρ 1).i) }] }
def clone84C:Ctr:={ fn := 168,nv:=7,args:=[mArg 0 1 2 3 4],heap:=[],ro:=[bHp 2 5 6],pre:=fun ρ=>0 ≤ (ρ 3).i∧(ρ 3).i ≤ (ρ 5).d.length∧(ρ 3).i ≤ big,alts:=[{ k:=3,ret:=.agg [.vint .i64 (.var 0),.vint .i64 (.var 1),.vslice 7 (.lit 0) (.var 3) (.var 8) 1],heap:=[bHp 7 9 8],post:=fun ρ=>(ρ 9).d = (ρ 5).d.take (ρ 3).i.toNat }] }

def addToC:Ctr:={ fn := 124,nv:=15,args:=[fArg,bSl 2 3 4 5,bSl 8 9 10 11,iv .u8 (.var 14)],heap:=[fHp 1,bHp 2 6 7],ro:=[bHp 8 12 13],pre:=fun ρ=>fieldD (ρ 1).d∧segOk (ρ 6).d (ρ 3).i (ρ 4).i∧segOk (ρ 12).d (ρ 9).i (ρ 10).i∧(ρ 10).i ≤ (ρ 4).i∧allB (ρ 6).d∧allB (ρ 12).d∧0 ≤ (ρ 14).i∧(ρ 14).i < 256,alts:=[{ k:=2,ret:=.tup [],heap:=[fHp 15,bHp 2 16 7],post:=fun ρ=>fieldD (ρ 15).d∧(ρ 16).d.length = (ρ 6).d.length∧allB (ρ 16).d∧bI (ρ 16).d = addToL (bI (ρ 6).d) (ρ 3).i.toNat (seg (bI (ρ 12).d) (ρ 9).i.toNat (ρ 10).i.toNat) (ρ 14).i }] }
def addToI:Inv:={ key:=2,nv:=3,env:=[(0,fArg),(1,bSl 2 3 4 5),(3,iv .u8 (.var 14)),(12,bSl 8 9 10 11),(13,iv .i64 (.var 10)),(14,iv .i64 (.var 1000))],heap:=[fHp 1001,bHp 2 1002 7],inv:=(fun ρ=>0 ≤ (ρ 1000).i∧(ρ 1000).i ≤ (ρ 10).i∧fieldD (ρ 1001).d∧(ρ 1002).d.length = (ρ 6).d.length∧allB (ρ 1002).d∧bI (ρ 1002).d = addToL (bI (ρ 6).d) (ρ 3).i.toNat (seg (bI (ρ 12).d) (ρ 9).i.toNat (ρ 1000).i.toNat) (ρ 14).i),mu:=(fun ρ=>((ρ 10).i - (ρ 1000).i).toNat) }
def addToS:Ctr:={ fn := 124,nv:=12,args:=[fArg,bSl 2 3 4 5,bSl 2 8 9 10,iv .u8 (.var 11)],heap:=[fHp 1,bHp 2 6 7],ro:=[],pre:=fun ρ=>fieldD (ρ 1).d∧segOk (ρ 6).d (ρ 3).i (ρ 4).i∧segOk (ρ 6).d (ρ 8).i (ρ 9).i∧(ρ 9).i ≤ (ρ 4).i∧((ρ 8).i + (ρ 9).i ≤ (ρ 3).i∨(ρ 3).i + (ρ 4).i ≤ (ρ 8).i)∧allB (ρ 6).d∧0 ≤ (ρ 11).i∧(ρ 11).i < 256,alts:=[{ k:=2,ret:=.tup [],heap:=[fHp 12,bHp 2 13 7],post:=fun ρ=>fieldD (ρ 12).d∧(ρ 13).d.length = (ρ 6).d.length∧allB (ρ 13).d∧bI (ρ 13).d = addToL (bI (ρ 6).d) (ρ 3).i.toNat (seg (bI (ρ 6).d) (ρ 8).i.toNat (ρ 9).i.toNat) (ρ 11).i }] }
def addToSI:Inv:={ key:=2,nv:=3,env:=[(0,fArg),(1,bSl 2 3 4 5),(3,iv .u8 (.var 11)),(12,bSl 2 8 9 10),(13,iv .i64 (.var 9)),(14,iv .i64 (.var 1000))],heap:=[fHp 1001,bHp 2 1002 7],inv:=(fun ρ=>0 ≤ (ρ 1000).i∧(ρ 1000).i ≤ (ρ 9).i∧fieldD (ρ 1001).d∧(ρ 1002).d.length = (ρ 6).d.length∧allB (ρ 1002).d∧bI (ρ 1002).d = addToL (bI (ρ 6).d) (ρ 3).i.toNat (seg (bI (ρ 6).d) (ρ 8).i.toNat (ρ 1000).i.toNat) (ρ 11).i),mu:=(fun ρ=>((ρ 9).i - (ρ 1000).i).toNat) }
def scaleC:Ctr:={ fn := 185,nv:=9,args:=[fArg,bSl 2 3 4 5,iv .u8 (.var 8)],heap:=[fHp 1,bHp 2 6 7],ro:=[],pre:=fun ρ=>fieldD (ρ 1).d∧segOk (ρ 6).d (ρ 3).i (ρ 4).i∧allB (ρ 6).d∧0 ≤ (ρ 8).i∧(ρ 8).i < 256,alts:=[{ k:=2,ret:=.tup [],heap:=[fHp 9,bHp 2 10 7],post:=fun ρ=>fieldD (ρ 9).d∧(ρ 10).d.length = (ρ 6).d.length∧allB (ρ 10).d∧bI (ρ 10).d = scaleL (bI (ρ 6).d) (ρ 3).i.toNat (ρ 4).i.toNat (ρ 8).i }] }
def scaleI:Inv:={ key:=1,nv:=3,env:=[(0,fArg),(1,bSl 2 3 4 5),(2,iv .u8 (.var 8)),(8,bSl 2 3 4 5),(9,iv .i64 (.var 4)),(10,iv .i64 (.var 1000))],heap:=[fHp 1001,bHp 2 1002 7],inv:=(fun ρ=>0 ≤ (ρ 1000).i∧(ρ 1000).i ≤ (ρ 4).i∧fieldD (ρ 1001).d∧(ρ 1002).d.length = (ρ 6).d.length∧allB (ρ 1002).d∧bI (ρ 1002).d = scaleL (bI (ρ 6).d) (ρ 3).i.toNat (ρ 1000).i.toNat (ρ 8).i),mu:=(fun ρ=>((ρ 4).i - (ρ 1000).i).toNat) }

def invF (a:Int):Int:=if a = 0 then 0 else expT (255 - logT a.toNat).toNat
def inv51C:Ctr:={ fn := 184,nv:=3,args:=[fArg,iv .u8 (.var 2)],heap:=[fHp 1],ro:=[],pre:=fun ρ=>fieldD (ρ 1).d∧0 ≤ (ρ 2).i∧(ρ 2).i < 256,alts:=[{ k:=3,ret:=.tup [(false,[.vint .u8 (.var 3)]),(false,[.vint .i64 (.var 4)])],heap:=[fHp 5],post:=fun ρ=>fieldD (ρ 5).d∧(ρ 3).i = invF (ρ 2).i∧(ρ 4).i = if (ρ 2).i = 0 then 2 else 0 }] }
def powF (a e:Int):Int:=if e ≤ 0 then 1 else if a = 0 then 0 else expT ((logT a.toNat * e.tmod 255).tmod 255).toNat
def pow37C:Ctr:={ fn := 177,nv:=4,args:=[fArg,iv .u8 (.var 2),iv .i64 (.var 3)],heap:=[fHp 1],ro:=[],pre:=fun ρ=>fieldD (ρ 1).d∧0 ≤ (ρ 2).i∧(ρ 2).i < 256∧(ρ 3).i < 9223372036854775808,alts:=[{ k:=2,ret:=iv .u8 (.var 4),heap:=[fHp 5],post:=fun ρ=>fieldD (ρ 5).d∧(ρ 4).i = powF (ρ 2).i (ρ 3).i }] }
end Go.Eng

set_option linter.unusedSimpArgs false
set_option linter.unusedVariables false
set_option maxRecDepth 100000
namespace Go.Proofs
open Go Go.Eng
def expL:List Int :=
 [1,2,4,8,16,32,64,128,29,58,116,232,205,135,19,38,76,152,45,90,180,117,234,201,143,3,6,12,24,48,96,192,157,39,
  78,156,37,74,148,53,106,212,181,119,238,193,159,35,70,140,5,10,20,40,80,160,93,186,105,210,185,111,222,161,95,190,97,194,
  153,47,94,188,101,202,137,15,30,60,120,240,253,231,211,187,107,214,177,127,254,225,223,163,91,182,113,226,217,175,67,134,17,34,
  68,136,13,26,52,104,208,189,103,206,129,31,62,124,248,237,199,147,59,118,236,197,151,51,102,204,133,23,46,92,184,109,218,169,
  79,158,33,66,132,21,42,84,168,77,154,41,82,164,85,170,73,146,57,114,228,213,183,115,230,209,191,99,198,145,63,126,252,229,
  215,179,123,246,241,255,227,219,171,75,150,49,98,196,149,55,110,220,165,87,174,65,130,25,50,100,200,141,7,14,28,56,112,224,
  221,167,83,166,81,162,89,178,121,242,249,239,195,155,43,86,172,69,138,9,18,36,72,144,61,122,244,245,247,243,251,235,203,139,
  11,22,44,88,176,125,250,233,207,131,27,54,108,216,173,71,142,1,2,4,8,16,32,64,128,29,58,116,232,205,135,19,38,76,
  152,45,90,180,117,234,201,143,3,6,12,24,48,96,192,157,39,78,156,37,74,148,53,106,212,181,119,238,193,159,35,70,140,5,
  10,20,40,80,160,93,186,105,210,185,111,222,161,95,190,97,194,153,47,94,188,101,202,137,15,30,60,120,240,253,231,211,187,107,
  214,177,127,254,225,223,163,91,182,113,226,217,175,67,134,17,34,68,136,13,26,52,104,208,189,103,206,129,31,62,124,248,237,199,
  147,59,118,236,197,151,51,102,204,133,23,46,92,184,109,218,169,79,158,33,66,132,21,42,84,168,77,154,41,82,164,85,170,73,
  146,57,114,228,213,183,115,230,209,191,99,198,145,63,126,252,229,215,179,123,246,241,255,227,219,171,75,150,49,98,196,149,55,110,
  220,165,87,174,65,130,25,50,100,200,141,7,14,28,56,112,224,221,167,83,166,81,162,89,178,121,242,249,239,195,155,43,86,172,
  69,138,9,18,36,72,144,61,122,244,245,247,243,251,235,203,139,11,22,44,88,176,125,250,233,207,131,27,54,108,216,173,71,142]
def logL:List Int :=
 [0,0,1,25,2,50,26,198,3,223,51,238,27,104,199,75,4,100,224,14,52,141,239,129,28,193,105,248,200,8,76,113,5,138,
  101,47,225,36,15,33,53,147,142,218,240,18,130,69,29,181,194,125,106,39,249,185,201,154,9,120,77,228,114,166,6,191,139,98,
  102,221,48,253,226,152,37,179,16,145,34,136,54,208,148,206,143,150,219,189,241,210,19,92,131,56,70,64,30,66,182,163,195,72,
  126,110,107,58,40,84,250,133,186,61,202,94,155,159,10,21,121,43,78,212,229,172,115,243,167,87,7,112,192,247,140,128,99,13,
  103,74,222,237,49,197,254,24,227,165,153,119,38,184,180,124,17,68,146,217,35,32,137,46,55,63,209,91,149,188,207,205,144,135,
  151,178,220,252,190,97,242,86,211,171,20,42,93,158,132,60,57,83,71,109,65,162,31,45,67,216,183,123,164,118,196,23,73,236,
  127,12,111,246,108,161,59,82,41,157,85,170,251,96,134,177,187,204,62,90,203,89,95,176,156,169,160,81,11,245,22,235,122,117,
  44,215,79,174,213,233,230,231,173,232,116,214,244,234,168,80,88,175]

theorem doneD_eq:doneD = [[.int .u32 1,.int .i32 0,.int .u32 0] ++ expL.map (Value.int .u8) ++ logL.map (Value.int .i64)]:=by kernel_rfl
theorem expL_len:expL.length = 510:=by kernel_rfl
theorem logL_len:logL.length = 256:=by kernel_rfl
theorem expT_eq {i:Nat} (h:i < 510):expT i = expL.getD i 0:=by
 have hl:=expL_len
 rw [expT,doneD_eq,cellX,List.headD_cons,List.append_assoc,List.getElem?_append_right (by simp)]
 simp only [List.length_cons,List.length_nil,Nat.zero_add,Nat.reduceAdd,Nat.add_sub_cancel]
 rw [List.getElem?_append_left (by simpa [hl] using h),List.getElem?_map,List.getD_eq_getElem?_getD,List.getElem?_eq_getElem (by omega)]
 rfl
theorem logT_eq {a:Nat} (h:a < 256):logT a = logL.getD a 0:=by
 have hl:=expL_len
 have hl2:=logL_len
 rw [logT,doneD_eq,cellX,List.headD_cons,List.getElem?_append_right (by simp [hl])]
 simp only [List.length_append,List.length_map,List.length_cons,List.length_nil,hl]
 rw [show a + 513 - (0 + 1 + 1 + 1 + 510) = a by omega,List.getElem?_map,List.getD_eq_getElem?_getD,List.getElem?_eq_getElem (by omega)]
 rfl
theorem logL_range:∀ a:Fin 256,0 ≤ logL.getD a.val 0∧logL.getD a.val 0 < 255:=by decide +kernel
theorem expL_range:∀ i:Fin 510,1 ≤ expL.getD i.val 0∧expL.getD i.val 0 < 256:=by decide +kernel
theorem logT_range {a:Int} (h0:0 ≤ a) (h1:a < 256):0 ≤ logT a.toNat∧logT a.toNat < 255:=by
 rw [logT_eq (by omega)]; exact logL_range ⟨a.toNat,by omega⟩
theorem expT_range {i:Nat} (h:i < 510):1 ≤ expT i∧expT i < 256:=by
 rw [expT_eq h]; exact expL_range ⟨i,h⟩
end Go.Proofs

set_option linter.unusedSimpArgs false
set_option linter.unusedVariables false
namespace Go.Proofs
open Go Go.Eng

theorem wrap64 {x:Int} (h1:-9223372036854775808 ≤ x) (h2:x < 9223372036854775808):IntKind.i64.wrap x = x:=by
 simp [IntKind.wrap,IntKind.bits,IntKind.signed]; omega
theorem add64 {x y:Int} (h1:-9223372036854775808 ≤ x + y) (h2:x + y < 9223372036854775808):arithOf .add .i64 x y = x + y:=wrap64 h1 h2
theorem sub64 {x y:Int} (h1:-9223372036854775808 ≤ x - y) (h2:x - y < 9223372036854775808):arithOf .sub .i64 x y = x - y:=wrap64 h1 h2
theorem mul64 {x y:Int} (h1:-9223372036854775808 ≤ x * y) (h2:x * y < 9223372036854775808):arithOf .mul .i64 x y = x * y:=wrap64 h1 h2
theorem mul_bound {x y a b:Int} (h0:0 ≤ x) (h1:x ≤ a) (h2:0 ≤ y) (h3:y ≤ b):0 ≤ x * y∧x * y ≤ a * b :=
 ⟨Int.mul_nonneg h0 h2,Int.mul_le_mul h1 h3 h2 (by omega)⟩
theorem wrapB {x:Int}:0 ≤ IntKind.u8.wrap x∧IntKind.u8.wrap x < 256:=by simp [IntKind.wrap,IntKind.bits,IntKind.signed]; omega
theorem xorB_range {x y:Int}:0 ≤ xorB x y∧xorB x y < 256:=wrapB
theorem xorB_zero':∀ x:Fin 256,xorB (x.val:Int) 0 = x.val:=by decide +kernel
theorem xorB_zero {x:Int} (h0:0 ≤ x) (h1:x < 256):xorB x 0 = x:=by
 have:=xorB_zero' ⟨x.toNat,by omega⟩
 simp only [Int.toNat_of_nonneg h0] at this
 exact this
theorem mulF_zero {x:Int}:mulF 0 x = 0:=by simp [mulF]
theorem mulF_range {a b:Int} (a0:0 ≤ a) (a1:a < 256) (b0:0 ≤ b) (b1:b < 256):0 ≤ mulF a b∧mulF a b < 256:=by
 unfold mulF
 split
 ·omega
 ·obtain ⟨l0,l1⟩:=logT_range a0 a1
  obtain ⟨m0,m1⟩:=logT_range b0 b1
  have:=expT_range (i:=(logT a.toNat + logT b.toNat).toNat) (by omega)
  omega
theorem invF_range {a:Int} (a0:0 ≤ a) (a1:a < 256):0 ≤ invF a∧invF a < 256:=by
 unfold invF
 split
 ·omega
 ·obtain ⟨l0,l1⟩:=logT_range a0 a1
  have:=expT_range (i:=(255 - logT a.toNat).toNat) (by omega)
  omega
theorem bI_len {d:Rows'}:(bI d).length = d.length:=by simp [bI]
theorem bI_get {d:Rows'} {i:Int} (h0:0 ≤ i) (h1:i < d.length):(bI d)[i.toNat]? = some (cellI d i 0):=by
 have hl:i.toNat < d.length:=by omega
 simp [bI,cellI,cellV,rowI,List.getElem?_eq_getElem hl]
theorem allB_get {d:Rows'} (h:allB d) {i:Int} (h0:0 ≤ i) (h1:i < d.length):0 ≤ cellI d i 0∧cellI d i 0 < 256:=by
 have hl:i.toNat < d.length:=by omega
 have:=h _ (List.getElem_mem hl)
 simpa [cellI,cellV,rowI,List.getElem?_eq_getElem hl] using this
theorem allB_list {d:Rows'} (h:allB d):∀ x ∈ bI d,0 ≤ x∧x < 256:=fun x hx=>by
 obtain ⟨r,hr,rfl⟩:=List.mem_map.1 hx
 exact h r hr
theorem putD_len {d:Rows'} {e:Int} {c:Nat} {vs:List Value}:(putD d e c vs).length = d.length:=by simp [putD]
theorem rowI_put {row:List Value} {k:IntKind} {z:Int}:rowI (splice row 0 [.int k z]) 0 = z:=by simp [rowI,splice,vInt]
theorem bI_put {d:Rows'} {e:Int} {k:IntKind} {z:Int}:bI (putD d e 0 [.int k z]) = (bI d).set e.toNat z:=by
 simp only [bI,putD,List.map_set,rowI_put]
theorem allB_put {d:Rows'} {e:Int} {k:IntKind} {z:Int} (h:allB d) (h0:0 ≤ z) (h1:z < 256):allB (putD d e 0 [.int k z]):=fun row hr=>by
 unfold putD at hr
 rcases List.mem_or_eq_of_mem_set hr with hr | rfl
 ·exact h row hr
 ·rw [rowI_put]; exact ⟨h0,h1⟩
theorem allB_rep {n:Nat}:allB (List.replicate n [.int .u8 0]):=fun row hr=>by
 rw [List.eq_of_mem_replicate hr]; simp [rowI,vInt]
theorem bI_rep {n:Nat}:bI (List.replicate n [.int .u8 0]) = List.replicate n 0:=by simp [bI,rowI,vInt]
theorem seg_get {l:List Int} {o n j:Nat}:(seg l o n)[j]? = if j < n then l[o + j]? else none:=by
 simp only [seg,List.getElem?_take,List.getElem?_drop]
theorem seg_len {l:List Int} {o n:Nat} (h:o + n ≤ l.length):(seg l o n).length = n:=by simp [seg]; omega
theorem addToL_len {l s:List Int} {off:Nat} {c:Int}:(addToL l off s c).length = l.length:=by simp [addToL]
theorem addToL_get {l s:List Int} {off:Nat} {c:Int} {j:Nat}:(addToL l off s c)[j]? = (l[j]?).map fun x=>if off ≤ j∧j < off + s.length then xorB x (mulF c (s.getD (j - off) 0)) else x:=by
 simp [addToL]
theorem addToL_nil {l:List Int} {off:Nat} {c:Int}:addToL l off [] c = l:=by
 apply List.ext_getElem?
 intro j
 rw [addToL_get]
 cases l[j]? with
 | none=>rfl
 | some x=>simp only [Option.map_some,List.length_nil]; rw [if_neg (by omega)]
theorem addToL_zero {l s:List Int} {off:Nat} (h:∀ x ∈ l,0 ≤ x∧x < 256):addToL l off s 0 = l:=by
 apply List.ext_getElem?
 intro j
 rw [addToL_get]
 cases hj:l[j]? with
 | none=>rfl
 | some x =>
  have:=h x (List.mem_of_getElem? hj)
  simp only [Option.map_some,mulF_zero,xorB_zero this.1 this.2,ite_self]
theorem addToL_step {l s:List Int} {off o i:Nat} {c x y:Int} (hx:l[off + i]? = some x) (hy:s[o + i]? = some y) :
  addToL l off (seg s o (i + 1)) c = (addToL l off (seg s o i) c).set (off + i) (xorB x (mulF c y)):=by
 have hs:o + i < s.length:=(List.getElem?_eq_some_iff.1 hy).1
 have hl:off + i < l.length:=(List.getElem?_eq_some_iff.1 hx).1
 apply List.ext_getElem?
 intro j
 rw [List.getElem?_set,addToL_get,addToL_get,seg_len (by omega),seg_len (by omega),addToL_len]
 by_cases hj:off + i = j
 ·subst hj
  rw [if_pos rfl,if_pos hl,hx,Option.map_some,if_pos (by omega)]
  rw [show off + i - off = i by omega,List.getD_eq_getElem?_getD,seg_get,if_pos (by omega),hy]; rfl
 ·rw [if_neg hj]
  cases hlj:l[j]? with
  | none=>rfl
  | some z =>
   simp only [Option.map_some,Option.some.injEq]
   by_cases hin:off ≤ j∧j < off + i
   ·rw [if_pos (by omega),if_pos hin,List.getD_eq_getElem?_getD,List.getD_eq_getElem?_getD,seg_get,seg_get,if_pos (by omega),if_pos (by omega)]
   ·rw [if_neg (by omega),if_neg hin]
theorem addToL_out {l s:List Int} {off:Nat} {c:Int} {j:Nat} (h:j < off∨off + s.length ≤ j):(addToL l off s c)[j]? = l[j]?:=by
 rw [addToL_get]
 cases l[j]? with
 | none=>rfl
 | some x=>rw [Option.map_some,if_neg (by omega)]
theorem scaleL_len {l:List Int} {off n:Nat} {c:Int}:(scaleL l off n c).length = l.length:=by simp [scaleL]
theorem scaleL_get {l:List Int} {off n:Nat} {c:Int} {j:Nat}:(scaleL l off n c)[j]? = (l[j]?).map fun x=>if off ≤ j∧j < off + n then mulF x c else x:=by
 simp [scaleL]
theorem scaleL_zero {l:List Int} {off:Nat} {c:Int}:scaleL l off 0 c = l:=by
 apply List.ext_getElem?
 intro j
 rw [scaleL_get]
 cases l[j]? with
 | none=>rfl
 | some x=>rw [Option.map_some,if_neg (by omega)]
theorem scaleL_step {l:List Int} {off i:Nat} {c x:Int} (hx:l[off + i]? = some x):scaleL l off (i + 1) c = (scaleL l off i c).set (off + i) (mulF x c):=by
 have hl:off + i < l.length:=(List.getElem?_eq_some_iff.1 hx).1
 apply List.ext_getElem?
 intro j
 rw [List.getElem?_set,scaleL_get,scaleL_get,scaleL_len]
 by_cases hj:off + i = j
 ·subst hj
  rw [if_pos rfl,if_pos hl,hx,Option.map_some,if_pos (by omega)]
 ·rw [if_neg hj]
  cases hlj:l[j]? with
  | none=>rfl
  | some z =>
   simp only [Option.map_some,Option.some.injEq]
   by_cases hin:off ≤ j∧j < off + i
   ·rw [if_pos (by omega),if_pos hin]
   ·rw [if_neg (by omega),if_neg hin]
theorem scaleL_out {l:List Int} {off n:Nat} {c:Int} {j:Nat} (h:j < off∨off + n ≤ j):(scaleL l off n c)[j]? = l[j]?:=by
 rw [scaleL_get]
 cases l[j]? with
 | none=>rfl
 | some x=>rw [Option.map_some,if_neg (by omega)]
theorem fieldD_ne {d:Rows'} (h:fieldD d):¬ d = []∧0 < d.length:=by
 have:d.length = 1:=by
  rcases h with h | h
  ·rw [h]; rfl
  ·rw [h,doneD_eq]; rfl
 exact ⟨fun h=>(by rw [h] at this; cases this),by omega⟩
end Go.Proofs

set_option linter.unusedSimpArgs false
set_option linter.unusedVariables false
namespace Go.Eng
open Go
theorem oneRow_putX {d:List (List Value)} {n i:Nat} {v:Value} (h:oneRow d n):oneRow (putX d i v) n:=by
 obtain ⟨row,rfl,hl⟩:=h
 exact ⟨row.set i v,rfl,by simp [hl]⟩
theorem cellX_putX {d:List (List Value)} {n i:Nat} {k:IntKind} {z:Int} (h:oneRow d n) (hi:i < n):cellX (putX d i (.int k z)) i = z:=by
 obtain ⟨row,rfl,hl⟩:=h
 simp [cellX,putX,hl,hi,vInt]
theorem cellX_putX_ne {d:List (List Value)} {i j:Nat} {v:Value} (h:j ≠ i):cellX (putX d i v) j = cellX d j:=by
 cases d with
 | nil=>rfl
 | cons row rest=>simp [cellX,putX,List.getElem?_set,Ne.symm h]
theorem oneRow_len {d:List (List Value)} {n:Nat} (h:oneRow d n):d.length = 1:=by obtain ⟨row,rfl,_⟩:=h; rfl
theorem cellI_0 {d:List (List Value)} {c:Nat}:cellI d 0 c = cellX d c:=by cases d <;> simp [cellI,cellV,cellX]
theorem rowL_len {d:List (List Value)} {n:Nat}:(rowL d n).length = n:=by simp [rowL]
theorem rowL_congr {d e:List (List Value)} {n:Nat} (h:∀ j,j < n→cellX d j = cellX e j):rowL d n = rowL e n:=List.map_congr_left fun j hj=>h j (List.mem_range.1 hj)
theorem shl24 {x:Int}:arithOf .shl .u32 x 24 = ofW (toW x <<< 24):=shl32 (n:=24) (by decide)
theorem shl16 {x:Int}:arithOf .shl .u32 x 16 = ofW (toW x <<< 16):=shl32 (n:=16) (by decide)
theorem shl8 {x:Int}:arithOf .shl .u32 x 8 = ofW (toW x <<< 8):=shl32 (n:=8) (by decide)
theorem be32_int {a b c d:Int}:arithOf .or .u32 (arithOf .or .u32 (arithOf .or .u32 (arithOf .shl .u32 (IntKind.u32.wrap a) 24) (arithOf .shl .u32 (IntKind.u32.wrap b) 16)) (arithOf .shl .u32 (IntKind.u32.wrap c) 8)) (IntKind.u32.wrap d) = ofW (be32 a b c d):=by
 simp only [wrap32,shl24,shl16,shl8,or32,toW_ofW,be32]
theorem shr3 {x:Int} (h:isW x):arithOf .shr .u32 x 3 = ofW (toW x >>> 3):=shr32 (n:=3) h (by decide)
theorem shr10 {x:Int} (h:isW x):arithOf .shr .u32 x 10 = ofW (toW x >>> 10):=shr32 (n:=10) h (by decide)
theorem neg31:∀ n:Fin 31,arithOf .and .u64 (IntKind.u64.wrap (-((n.val:Int) + 1))) 31 = 31 - (n.val:Int):=by decide +kernel
theorem sub31:∀ n:Fin 31,arithOf .sub .u64 32 (31 - (n.val:Int)) = (n.val:Int) + 1:=by decide +kernel
theorem rot_int {x:Int} {n:Nat} (h:isW x) (h1:1 ≤ n) (h2:n ≤ 31):arithOf .or .u32 (arithOf .shl .u32 x (arithOf .and .u64 (IntKind.u64.wrap (-(n:Int))) 31)) (arithOf .shr .u32 x (arithOf .sub .u64 32 (arithOf .and .u64 (IntKind.u64.wrap (-(n:Int))) 31))) = ofW (rotr (toW x) n):=by
 have e1:=neg31 ⟨n - 1,by omega⟩
 have e2:=sub31 ⟨n - 1,by omega⟩
 simp only [] at e1 e2
 have e3:(((n - 1:Nat):Int) + 1) = (n:Int):=by omega
 have e4:(31 - ((n - 1:Nat):Int)) = ((32 - n:Nat):Int):=by omega
 rw [e3,e4] at e1
 rw [e4,e3] at e2
 rw [e1,e2,shl32 (by omega),shr32 h (by omega),or32,toW_ofW,toW_ofW,rotr,BitVec.or_comm]
theorem schedL_len {b:List W32}:∀ {k:Nat},(schedL b k).length = b.length + k
 | 0=>rfl
 | k + 1=>by rw [schedL,List.length_append,schedL_len]; simp; omega
theorem schedL_get {b:List W32} {k:Nat}:∀ {n j:Nat},k ≤ n→j < b.length + k→(schedL b n).getD j 0 = (schedL b k).getD j 0
 | 0,j,h,_=>by rw [show k = 0 by omega]
 | n + 1,j,h,hj=>by
  rcases Nat.lt_or_ge n k with h1 | h1
  ·rw [show k = n + 1 by omega]
  ·rw [schedL,List.getD_eq_getElem?_getD,List.getElem?_append_left (by rw [schedL_len]; omega),← List.getD_eq_getElem?_getD]
   exact schedL_get h1 hj
theorem schedL_low {b:List W32} {n j:Nat} (hj:j < b.length):(schedL b n).getD j 0 = b.getD j 0:=schedL_get (k:=0) (Nat.zero_le _) (by omega)
theorem schedL_step {b:List W32} (hb:b.length = 16) {n k:Nat} (hk:k < n):(schedL b n).getD (16 + k) 0 = sg1 ((schedL b n).getD (14 + k) 0) + (schedL b n).getD (9 + k) 0 + sg0 ((schedL b n).getD (1 + k) 0) + (schedL b n).getD k 0:=by
 rw [schedL_get (k:=k + 1) (by omega) (by omega),schedL_get (k:=k) (j:=14 + k) (by omega) (by omega),schedL_get (k:=k) (j:=9 + k) (by omega) (by omega),schedL_get (k:=k) (j:=1 + k) (by omega) (by omega),schedL_get (k:=k) (j:=k) (by omega) (by omega)]
 rw [schedL,List.getD_eq_getElem?_getD,List.getElem?_append_right (by rw [schedL_len]; omega),schedL_len,hb]
 simp
theorem blkW_len {d:List (List Value)}:(blkW d).length = 16:=by simp [blkW]
theorem blkW_get {d:List (List Value)} {t:Nat} (h:t < 16):(blkW d).getD t 0 = be32 (cellX d (8 + 4 * t)) (cellX d (8 + (4 * t + 1))) (cellX d (8 + (4 * t + 2))) (cellX d (8 + (4 * t + 3))):=by
 simp [blkW,List.getD_eq_getElem?_getD,h]
theorem wordIs_put {d:List (List Value)} {l:List W32} {t:Nat} {w:Int} (h:wordIs d l t) (ht:t < 64) (hw:w = ofW (l.getD t 0)):wordIs (putX d t (.int .u32 w)) l (t + 1):=by
 refine ⟨oneRow_putX h.1,fun j hj=>?_⟩
 by_cases e:j = t
 ·rw [e,cellX_putX h.1 ht,hw]
 ·rw [cellX_putX_ne e,h.2 j (by omega)]
theorem wordIs_isW {d:List (List Value)} {l:List W32} {n j:Nat} (h:wordIs d l n) (hj:j < n):isW (cellX d j):=by rw [h.2 j hj]; exact isW_ofW
theorem toW_word {d:List (List Value)} {l:List W32} {n j:Nat} (h:wordIs d l n) (hj:j < n):toW (cellX d j) = l.getD j 0:=by rw [h.2 j hj,toW_ofW]
theorem row8 {f:Nat→Int} {j:Nat} (hj:j < 8):cellX [[.int .u32 (f 0),.int .u32 (f 1),.int .u32 (f 2),.int .u32 (f 3),.int .u32 (f 4),.int .u32 (f 5),.int .u32 (f 6),.int .u32 (f 7)]] j = f j:=by
 match j,hj with
 | 0,_=>rfl
 | 1,_=>rfl
 | 2,_=>rfl
 | 3,_=>rfl
 | 4,_=>rfl
 | 5,_=>rfl
 | 6,_=>rfl
 | 7,_=>rfl
theorem hashRow_put {d:List (List Value)} {j:Nat} {w:Int} (h:hashRow d) (hj:j < 8) (hw:isW w):hashRow (putX d j (.int .u32 w)):=by
 refine ⟨oneRow_putX h.1,fun i hi=>?_,fun i h1 h2=>?_⟩
 ·by_cases e:i = j
  ·rw [e,cellX_putX h.1 (by omega)]; exact hw
  ·rw [cellX_putX_ne e]; exact h.2.1 i hi
 ·rw [cellX_putX_ne (by omega)]; exact h.2.2 i h1 h2
theorem roundK_len:roundK.length = 64:=by decide
theorem glob_cell {j:Nat} (hj:j < 64):cellX [roundK.map (Value.int .u32)] j = roundK.getD j 0:=by
 have:=roundK_len
 simp [cellX,List.getD_eq_getElem?_getD,this,hj,vInt]
theorem wordsK_get {j:Nat} (hj:j < 64):(wordsK roundK).getD j 0 = toW (roundK.getD j 0):=by
 have:=roundK_len
 simp [wordsK,List.getD_eq_getElem?_getD,this,hj]
end Go.Eng

set_option linter.unusedSimpArgs false
set_option linter.unusedVariables false
namespace Go.Eng
open Go
def initS:St8:=stOf initH
def wK:List W32:=wordsK roundK
def allM (m:List Int):Prop:=∀ x ∈ m,0 ≤ x∧x < 256
def hashOf (d:List (List Value)) (m:List Int):Prop:=hashRow d∧allM m∧cellX d 72 = m.length∧stW d = stAt wK initS m (m.length / 64)∧∀ j,j < m.length % 64→cellX d (8 + j) = m.getD (64 * (m.length / 64) + j) 0
def smallM (d:List (List Value)):Prop:=∃ m,hashOf d m∧m.length < 1152921504606846976
def segB (d:List (List Value)) (o l:Int):List Int:=((bI d).drop o.toNat).take l.toNat
def segX (d:List (List Value)) (o l:Int):List Int:=(((rowL d 72)).drop o.toNat).take l.toNat
def gR:Nat := 1
def gIp (r:Nat):Nat × Nat:=(2000 + gR,r)
def newHashC:Ctr:={ fn := 96,nv:=0,args:=[],heap:=[],ro:=[],pre:=fun _=>True,alts:=[
 { k:=2,ret:=hArg 0,heap:=[hHp 0 1],post:=fun ρ=>hashOf (ρ 1).d [] }] }
def writeC:Ctr:={ fn := 97,nv:=10,ip:=[gIp 8],args:=[hArg 0,bSl 2 3 4 5],heap:=[hHp 0 1],ro:=[bHp 2 6 7,gHp 8 9],pre:=fun ρ=>smallM (ρ 1).d∧0 ≤ (ρ 3).i∧0 ≤ (ρ 4).i∧(ρ 4).i ≤ (ρ 5).i∧(ρ 4).i < 1152921504606846976∧(ρ 3).i + (ρ 4).i ≤ (ρ 6).d.length∧allB (ρ 6).d∧gOk ρ 8 9 gR,alts:=[
 { k:=1,ret:=.tup [],heap:=[hHp 0 10],post:=fun ρ=>∀ m,hashOf (ρ 1).d m→hashOf (ρ 10).d (m ++ segB (ρ 6).d (ρ 3).i (ρ 4).i) }] }
def writeI:Inv:={ key:=1,nv:=4,env:=[(0,hArg 0),(1,bSl 2 1000 1001 1002)],heap:=[hHp 0 1003],inv:=(fun ρ=>0 ≤ (ρ 1001).i∧(ρ 1001).i ≤ (ρ 4).i∧(ρ 1001).i ≤ (ρ 1002).i∧(0 < (ρ 1001).i→(ρ 1000).i = (ρ 3).i + ((ρ 4).i - (ρ 1001).i))∧∀ m,hashOf (ρ 1).d m→hashOf (ρ 1003).d (m ++ segB (ρ 6).d (ρ 3).i ((ρ 4).i - (ρ 1001).i))),mu:=(fun ρ=>(ρ 1001).i.toNat) }
def k72:List CK:=List.replicate 72 (.int .u8)
def padHp (r d:Nat):SH:=.arr r 220 k72 (.var d) (.lit 1)
def write72C:Ctr:={ fn := 97,nv:=8,ip:=[gIp 6],args:=[hArg 0,.one (.vslice 2 (.lit 0) (.var 3) (.var 4) 1)],heap:=[hHp 0 1],ro:=[padHp 2 5,gHp 6 7],pre:=fun ρ=>smallM (ρ 1).d∧0 ≤ (ρ 3).i∧(ρ 3).i ≤ 72∧(ρ 3).i ≤ (ρ 4).i∧oneRow (ρ 5).d 72∧allM (rowL (ρ 5).d 72)∧gOk ρ 6 7 gR,alts:=[
 { k:=1,ret:=.tup [],heap:=[hHp 0 8],post:=fun ρ=>∀ m,hashOf (ρ 1).d m→hashOf (ρ 8).d (m ++ segX (ρ 5).d 0 (ρ 3).i) }] }
def write72I:Inv:={ key:=1,nv:=4,env:=[(0,hArg 0),(1,bSl 2 1000 1001 1002)],heap:=[hHp 0 1003],inv:=(fun ρ=>0 ≤ (ρ 1001).i∧(ρ 1001).i ≤ (ρ 3).i∧(ρ 1001).i ≤ (ρ 1002).i∧(0 < (ρ 1001).i→(ρ 1000).i = (ρ 3).i - (ρ 1001).i)∧∀ m,hashOf (ρ 1).d m→hashOf (ρ 1003).d (m ++ segX (ρ 5).d 0 ((ρ 3).i - (ρ 1001).i))),mu:=(fun ρ=>(ρ 1001).i.toNat) }
def dgV (n:Nat):SV:=.agg (cellsT .u8 n 32)
def k32:List CK:=List.replicate 32 (.int .u8)
def dgHp (r d:Nat):SH:=.arr r 24 k32 (.var d) (.lit 1)
def dgP (r:Nat):SV:=.one (.vptr r (.lit 0) 32 0)
def dgZ (r:Nat):SH:=.cells r 24 (List.replicate 32 (.vint .u8 (.lit 0)))
def sumC:Ctr:={ fn := 98,nv:=4,ip:=[gIp 2],args:=[hArg 0],heap:=[],ro:=[hHp 0 1,gHp 2 3],pre:=fun ρ=>smallM (ρ 1).d∧gOk ρ 2 3 gR,alts:=[
 { k:=1,ret:=dgV 4,heap:=[],post:=fun ρ=>∀ m,hashOf (ρ 1).d m→rowL (ρ 4).d 32 = sha m }] }
def sumI:Inv:={ key:=9,nv:=9,env:=[(0,hArg 0),(2,dgP 1000),(3,hArg 1002),(4,.one (.vptr 1004 (.lit 0) 72 0)),(5,iv .i64 (.var 1006)),(6,iv .u64 (.var 1007)),(30,iv .i64 (.var 1008))],heap:=[dgZ 1000,hHp 1002 1003,padHp 1004 1005],inv:=(fun ρ=>0 ≤ (ρ 1008).i∧(ρ 1008).i ≤ 8∧oneRow (ρ 1003).d 73∧(∀ j,j < 73→cellX (ρ 1003).d j = cellX (ρ 1).d j)∧(ρ 1006).i = 64 - (cellX (ρ 1).d 72 + 8) % 64∧(ρ 1007).i = cellX (ρ 1).d 72 * 8∧oneRow (ρ 1005).d 72∧(∀ j,j < 72→cellX (ρ 1005).d j = if j = 0 then 128 else if (ρ 1006).i.toNat ≤ j∧j < (ρ 1006).i.toNat + (ρ 1008).i.toNat then (beL (cellX (ρ 1).d 72 * 8) 8).getD (j - (ρ 1006).i.toNat) 0 else 0)),mu:=(fun ρ=>(8 - (ρ 1008).i).toNat) }
def sumJ:Inv:={ key:=16,nv:=7,env:=[(2,dgP 1000),(3,hArg 1002),(8,dgP 1004),(48,iv .i64 (.var 1006))],heap:=[dgZ 1000,hHp 1002 1003,dgHp 1004 1005],inv:=(fun ρ=>0 ≤ (ρ 1006).i∧(ρ 1006).i ≤ 32∧hashRow (ρ 1003).d∧(∀ m,hashOf (ρ 1).d m→stW (ρ 1003).d = stAt wK initS (padL m) ((padL m).length / 64))∧oneRow (ρ 1005).d 32∧∀ j,j < (ρ 1006).i.toNat→cellX (ρ 1005).d j = (bytesS (stW (ρ 1003).d)).getD j 0),mu:=(fun ρ=>(32 - (ρ 1006).i).toNat) }
def bytesIn (ρ:Env):Prop:=0 ≤ (ρ 1).i∧0 ≤ (ρ 2).i∧(ρ 2).i ≤ (ρ 3).i∧(ρ 2).i < 1152921504606846976∧(ρ 1).i + (ρ 2).i ≤ (ρ 4).d.length∧allB (ρ 4).d
def sha256C:Ctr:={ fn := 59,nv:=8,ip:=[gIp 6],args:=[bSl 0 1 2 3],heap:=[],ro:=[bHp 0 4 5,gHp 6 7],pre:=fun ρ=>bytesIn ρ∧gOk ρ 6 7 gR,alts:=[
 { k:=1,ret:=dgV 8,heap:=[],post:=fun ρ=>rowL (ρ 8).d 32 = sha (segB (ρ 4).d (ρ 1).i (ρ 2).i) }] }
end Go.Eng

set_option linter.unusedSimpArgs false
set_option linter.unusedVariables false
namespace Go.Eng
open Go
theorem oneRow_xcopy {d s:List (List Value)} {n o:Nat} (h:oneRow d n) (ho:o + s.length ≤ n):oneRow (xcopyD d o s) n:=by
 obtain ⟨row,rfl,hl⟩:=h
 refine ⟨_,rfl,?_⟩
 simp [splice,hl]; omega
theorem cellX_xcopy_in {d s:List (List Value)} {n o j:Nat} (h:oneRow d n) (ho:o + s.length ≤ n) (hj:j < s.length):cellX (xcopyD d o s) (o + j) = (bI s).getD j 0:=by
 obtain ⟨row,rfl,hl⟩:=h
 have h1:(row.take o).length = o:=by rw [List.length_take]; omega
 simp only [xcopyD,cellX,List.headD_cons,splice]
 rw [List.append_assoc,List.getElem?_append_right (by omega),h1,show o + j - o = j by omega,List.getElem?_append_left (by simpa using hj)]
 simp [bI,List.getD_eq_getElem?_getD,hj,rowI]
 cases s[j] <;> rfl
theorem cellX_xcopy_out {d s:List (List Value)} {n o j:Nat} (h:oneRow d n) (ho:o + s.length ≤ n) (hj:j < o∨o + s.length ≤ j):cellX (xcopyD d o s) j = cellX d j:=by
 obtain ⟨row,rfl,hl⟩:=h
 have h1:(row.take o).length = o:=by rw [List.length_take]; omega
 simp only [xcopyD,cellX,List.headD_cons,splice]
 rcases hj with hj | hj
 ·rw [List.append_assoc,List.getElem?_append_left (by omega),List.getElem?_take_of_lt hj]
 ·rw [List.getElem?_append_right (by simp; omega)]
  simp only [List.length_append,h1,List.length_map,List.getElem?_drop]
  rw [show o + s.length + (j - (o + s.length)) = j by omega]
theorem putD_0 {d:List (List Value)} {n c:Nat} {v:Value} (h:oneRow d n) (hc:c < n):putD d 0 c [v] = putX d c v:=by
 obtain ⟨row,rfl,hl⟩:=h
 simp only [putD,putX,Int.toNat_zero,List.getElem?_cons_zero,Option.getD_some,List.set_cons_zero,splice,List.length_singleton]
 congr 1
 rw [List.set_eq_take_append_cons_drop,if_pos (by omega)]
 simp
def bufIs (d:List (List Value)) (m:List Int) (q k:Nat):Prop:=∀ j,j < k→cellX d (8 + j) = m.getD (64 * q + j) 0
theorem blkW_words {d:List (List Value)} {m:List Int} {q:Nat} (h:bufIs d m q 64):blkW d = wordsAt m (64 * q):=by
 unfold blkW wordsAt
 refine List.map_congr_left fun t ht=>?_
 have ht:=List.mem_range.1 ht
 unfold wordAt
 rw [h _ (by omega),h _ (by omega),h _ (by omega),h _ (by omega)]
 simp only [Nat.add_assoc]
theorem getD_app_l {m s:List Int} {i:Nat} (h:i < m.length):(m ++ s).getD i 0 = m.getD i 0:=by
 rw [List.getD_eq_getElem?_getD,List.getD_eq_getElem?_getD,List.getElem?_append_left h]
theorem getD_app_r {m s:List Int} {i:Nat} (h:m.length ≤ i):(m ++ s).getD i 0 = s.getD (i - m.length) 0:=by
 rw [List.getD_eq_getElem?_getD,List.getD_eq_getElem?_getD,List.getElem?_append_right h]
theorem stW_congr {d e:List (List Value)} (h:∀ j,j < 8→cellX d j = cellX e j):stW d = stW e:=by
 unfold stW; rw [rowL_congr h]
theorem allM_app {m s:List Int} (h:allM m) (h':allM s):allM (m ++ s):=fun x hx=>(List.mem_append.1 hx).elim (h x) (h' x)
structure Came (d e:List (List Value)) (s:List Int) (r:Nat):Prop where
 row:hashRow e
 st:∀ j,j < 8→cellX e j = cellX d j
 old:∀ j,j < r→cellX e (8 + j) = cellX d (8 + j)
 new:∀ j,j < s.length→cellX e (8 + r + j) = s.getD j 0
 size:cellX e 72 = cellX d 72 + s.length
theorem came_buf {d e:List (List Value)} {m s:List Int} (h:hashOf d m) (hc:Came d e s (m.length % 64)):bufIs e (m ++ s) (m.length / 64) (m.length % 64 + s.length):=fun j hj=>by
 obtain ⟨h1,h2,h3,h4,h5⟩:=h
 rcases Nat.lt_or_ge j (m.length % 64) with hr | hr
 ·rw [hc.old j hr,h5 j hr,getD_app_l (by omega)]
 ·have:=hc.new (j - m.length % 64) (by omega)
  rw [show 8 + m.length % 64 + (j - m.length % 64) = 8 + j by omega] at this
  rw [this,getD_app_r (by omega)]
  congr 1; omega
theorem hash_part {d e:List (List Value)} {m s:List Int} (h:hashOf d m) (hs:allM s) (hc:Came d e s (m.length % 64)) (hr:m.length % 64 + s.length < 64):hashOf e (m ++ s):=by
 have hb:=came_buf h hc
 obtain ⟨h1,h2,h3,h4,h5⟩:=h
 have e1:(m ++ s).length / 64 = m.length / 64:=by rw [List.length_append]; omega
 have e2:(m ++ s).length % 64 = m.length % 64 + s.length:=by rw [List.length_append]; omega
 refine ⟨hc.row,allM_app h2 hs,by rw [hc.size,h3,List.length_append]; omega,?_,?_⟩
 ·rw [e1,stW_congr hc.st,h4,stAt_app (by omega)]
 ·rw [e1,e2]; exact hb
theorem hash_full {d e f:List (List Value)} {m s:List Int} (h:hashOf d m) (hs:allM s) (hc:Came d e s (m.length % 64)) (hr:m.length % 64 + s.length = 64) (hf:hashRow f) (hst:stW f = blockS wK (stW e) (blkW e)) (hk:cellX f 72 = cellX e 72):hashOf f (m ++ s):=by
 have hb:=came_buf h hc
 rw [hr] at hb
 obtain ⟨h1,h2,h3,h4,h5⟩:=h
 have e1:(m ++ s).length / 64 = m.length / 64 + 1:=by rw [List.length_append]; omega
 have e2:(m ++ s).length % 64 = 0:=by rw [List.length_append]; omega
 refine ⟨hf,allM_app h2 hs,by rw [hk,hc.size,h3,List.length_append]; omega,?_,fun j hj=>by omega⟩
 rw [e1,hst,blkW_words hb,stW_congr hc.st,h4]
 show _ = blockS wK (stAt wK initS (m ++ s) (m.length / 64)) _
 rw [stAt_app (by omega)]
theorem came_copy {d:List (List Value)} {x:List (List Value)} {r:Nat} (h:hashRow d) (hx:allB x) (hr:r + x.length ≤ 64):Came d (putX (xcopyD d (8 + r) x) 72 (.int .i64 (cellX d 72 + x.length))) (bI x) r:=by
 obtain ⟨h1,h2,h3⟩:=h
 have hlen:(bI x).length = x.length:=Go.Proofs.bI_len
 have hone:=oneRow_xcopy (s:=x) (o:=8 + r) h1 (by omega)
 have hin:∀ j,j < x.length→cellX (putX (xcopyD d (8 + r) x) 72 (.int .i64 (cellX d 72 + x.length))) (8 + r + j) = (bI x).getD j 0:=fun j hj=>by
  rw [cellX_putX_ne (by omega),cellX_xcopy_in h1 (by omega) hj]
 have hout:∀ j,j < 72→(j < 8 + r∨8 + r + x.length ≤ j)→cellX (putX (xcopyD d (8 + r) x) 72 (.int .i64 (cellX d 72 + x.length))) j = cellX d j:=fun j hj hjo=>by
  rw [cellX_putX_ne (by omega),cellX_xcopy_out h1 (by omega) hjo]
 have hB:∀ j,j < x.length→0 ≤ (bI x).getD j 0∧(bI x).getD j 0 < 256:=fun j hj=>Go.Proofs.allB_list hx _ (by
  rw [List.getD_eq_getElem?_getD,List.getElem?_eq_getElem (by omega)]
  exact List.getElem_mem _)
 refine ⟨⟨oneRow_putX hone,fun j hj=>by rw [hout j (by omega) (.inl (by omega))]; exact h2 j hj,fun j hj hj2=>?_⟩,fun j hj=>hout j (by omega) (.inl (by omega)),fun j hj=>hout (8 + j) (by omega) (.inl (by omega)),fun j hj=>hin j (by omega),by rw [cellX_putX hone (by omega),hlen]⟩
 by_cases hh:j < 8 + r∨8 + r + x.length ≤ j
 ·rw [hout j hj2 hh]; exact h3 j hj hj2
 ·have:=hin (j - (8 + r)) (by omega)
  rw [show 8 + r + (j - (8 + r)) = j by omega] at this
  rw [this]; exact hB _ (by omega)
theorem copied_eq {d x:List (List Value)} {r:Nat} {n:Int} (hd:hashRow d) (hr:r + x.length ≤ 64) (hn:n = x.length) (h0:0 ≤ cellX d 72) (h1:cellX d 72 < 4611686018427387904):putD (xcopyD d (8 + r) x) 0 72 [.int .i64 (arithOf .add .i64 (cellI (xcopyD d (8 + r) x) 0 72) n)] = putX (xcopyD d (8 + r) x) 72 (.int .i64 (cellX d 72 + x.length)):=by
 have hone:=oneRow_xcopy (s:=x) (o:=8 + r) hd.1 (by omega)
 rw [putD_0 hone (by omega),cellI_0,cellX_xcopy_out hd.1 (by omega) (.inr (by omega)),hn,Go.Proofs.add64 (by omega) (by omega)]
theorem rem64 {L:Nat}:arithOf .rem .i64 (L:Int) 64 = ((L % 64:Nat):Int):=by
 show (L:Int).tmod 64 = _
 rw [Int.tmod_eq_emod_of_nonneg (by omega)]; omega
theorem step_part {d x:List (List Value)} {M:List Int} {r:Nat} (h:hashOf d M) (hx:allB x) (hr0:M.length % 64 = r) (hr:r + x.length < 64):hashOf (putX (xcopyD d (8 + r) x) 72 (.int .i64 (cellX d 72 + x.length))) (M ++ bI x):=by
 subst hr0
 exact hash_part h (Go.Proofs.allB_list hx) (came_copy h.1 hx (by omega)) (by rw [Go.Proofs.bI_len]; omega)
theorem step_full {d x f:List (List Value)} {M:List Int} {r:Nat} (h:hashOf d M) (hx:allB x) (hr0:M.length % 64 = r) (hr:r + x.length = 64) (hf:hashRow f) (hst:stW f = blockS wK (stW (putX (xcopyD d (8 + r) x) 72 (.int .i64 (cellX d 72 + x.length)))) (blkW (putX (xcopyD d (8 + r) x) 72 (.int .i64 (cellX d 72 + x.length))))) (hk:cellX f 72 = cellX (putX (xcopyD d (8 + r) x) 72 (.int .i64 (cellX d 72 + x.length))) 72):hashOf f (M ++ bI x):=by
 subst hr0
 exact hash_full h (Go.Proofs.allB_list hx) (came_copy h.1 hx (by omega)) (by rw [Go.Proofs.bI_len]; omega) hf hst hk
theorem hashOf_len {d:List (List Value)} {m m':List Int} (h:hashOf d m) (h':hashOf d m'):m.length = m'.length:=by
 have h1:=h.2.2.1
 have h2:=h'.2.2.1
 omega
theorem segB_more {d:List (List Value)} {o a n:Nat} (h:o + a + n ≤ d.length):segB d o a ++ bI ((d.drop (o + a)).take n) = segB d o ((a + n:Nat):Int):=by
 simp only [segB,Int.toNat_natCast,bI,List.map_take,List.map_drop]
 rw [List.take_add,List.drop_drop]
theorem segB_len {d:List (List Value)} {o a:Nat} (h:o + a ≤ d.length):(segB d o a).length = a:=by
 simp only [segB,Int.toNat_natCast,bI,List.length_take,List.length_drop,List.length_map]; omega
theorem allB_sub {d:List (List Value)} {o n:Nat} (h:allB d):allB ((d.drop o).take n):=fun row hr=>h row (List.drop_subset _ _ (List.take_subset _ _ hr))
theorem rowL_row {d:List (List Value)} {n:Nat} (h:oneRow d n):rowL d n = (d.headD []).map vInt:=by
 obtain ⟨row,rfl,hl⟩:=h
 refine List.ext_getElem (by simp [rowL,hl]) fun i h1 h2=>?_
 simp only [rowL,List.length_map,List.length_range] at h1
 simp [rowL,cellX,show i < row.length by omega]
theorem xrows_take {d:List (List Value)} {o n l:Nat} (h:n ≤ l):(xrowsD d o l).take n = xrowsD d o n:=by
 simp only [xrowsD,← List.map_take,List.take_take,Nat.min_eq_left h]
theorem xrows_bI {d:List (List Value)} {o n k:Nat} (h:oneRow d k):bI (xrowsD d o n) = ((rowL d k).drop o).take n:=by
 rw [rowL_row h,← List.map_drop,← List.map_take,bI,xrowsD,List.map_map]
 rfl
theorem xrows_len {d:List (List Value)} {o n k:Nat} (h:oneRow d k) (ho:o + n ≤ k):(xrowsD d o n).length = n:=by
 obtain ⟨row,rfl,hl⟩:=h
 simp [xrowsD,hl]; omega
theorem xrows_allB {d:List (List Value)} {o n k:Nat} (h:oneRow d k) (ha:allM (rowL d k)):allB (xrowsD d o n):=fun row hr=>by
 obtain ⟨v,hv,rfl⟩:=List.mem_map.1 hr
 have h1:v ∈ d.headD []:=List.drop_subset _ _ (List.take_subset _ _ hv)
 refine ha _ ?_
 rw [rowL_row h]
 exact List.mem_map.2 ⟨v,h1,rfl⟩
theorem segX_more {d:List (List Value)} {a n:Nat}:segX d 0 a ++ ((rowL d 72).drop a).take n = segX d 0 ((a + n:Nat):Int):=by
 simp only [segX,Int.toNat_natCast,Int.toNat_zero,List.drop_zero]
 rw [List.take_add]
theorem segX_len {d:List (List Value)} {a:Nat} (h:a ≤ 72):(segX d 0 a).length = a:=by
 simp [segX,rowL_len]; omega
def freshHash:List Value:=initH.map (Value.int .u32) ++ (List.replicate 64 (Value.int .u8 0) ++ [Value.int .i64 0])
theorem fresh_hash:hashOf [freshHash] []:=by
 refine ⟨⟨⟨_,rfl,by decide⟩,fun j hj=>?_,fun j h1 h2=>?_⟩,fun x hx=>absurd hx (by simp),by decide,by decide,fun j hj=>absurd hj (by simp)⟩
 ·exact (by decide:∀ j:Fin 8,0 ≤ cellX [freshHash] j.val∧cellX [freshHash] j.val < 4294967296) ⟨j,hj⟩
 ·exact (by decide:∀ j:Fin 72,8 ≤ j.val→0 ≤ cellX [freshHash] j.val∧cellX [freshHash] j.val < 256) ⟨j,h2⟩ h1
theorem hashOf_copy {d e:List (List Value)} {m:List Int} (h:hashOf d m) (h1:oneRow e 73) (h2:∀ j,j < 73→cellX e j = cellX d j):hashOf e m:=by
 obtain ⟨⟨a1,a2,a3⟩,b,c,d',f⟩:=h
 refine ⟨⟨h1,fun j hj=>by rw [h2 j (by omega)]; exact a2 j hj,fun j hj hj2=>by rw [h2 j (by omega)]; exact a3 j hj hj2⟩,b,by rw [h2 72 (by omega)]; exact c,by rw [stW_congr (e:=d) (fun j hj=>h2 j (by omega))]; exact d',fun j hj=>by rw [h2 _ (by omega)]; exact f j hj⟩
def hashCells (f:Nat→Int):List Value:=(List.range 73).map fun j=>.int (if j < 8 then .u32 else if j < 72 then .u8 else .i64) (f j)
theorem hashCells_get {f:Nat→Int} {j:Nat} (h:j < 73):cellX [hashCells f] j = f j:=by
 simp [cellX,hashCells,h,vInt]
theorem hashCells_row {f:Nat→Int}:oneRow [hashCells f] 73:=⟨_,rfl,by simp [hashCells]⟩
theorem pad_seg {d:List (List Value)} {n:Nat} {v:Int} (h1:1 ≤ n) (h2:n ≤ 64) (hd:oneRow d 72) (hc:∀ j,j < 72→cellX d j = if j = 0 then 128 else if n ≤ j∧j < n + 8 then (beL v 8)[j - n]?.getD 0 else 0):segX d 0 ((n + 8:Nat):Int) = 128 :: (List.replicate (n - 1) 0 ++ beL v 8):=by
 have hl:(segX d 0 ((n + 8:Nat):Int)).length = n + 8:=segX_len (by omega)
 refine List.ext_getElem (by rw [hl]; simp [beL_len]; omega) fun i i1 i2=>?_
 rw [hl] at i1
 have e1:(segX d 0 ((n + 8:Nat):Int))[i] = cellX d i:=by
  simp [segX,rowL]
 rw [e1,hc i (by omega)]
 by_cases e:i = 0
 ·subst e; simp
 ·rw [if_neg e,List.getElem_cons,dif_neg e]
  by_cases hn:n ≤ i
  ·rw [if_pos ⟨hn,by omega⟩,List.getElem_append_right (by simp; omega)]
   have:i - 1 - (List.replicate (n - 1) (0:Int)).length = i - n:=by simp; omega
   simp only [this]
   rw [List.getElem?_eq_getElem (by rw [beL_len]; omega)]; rfl
  ·rw [if_neg (by omega),List.getElem_append_left (by simp; omega),List.getElem_replicate]
theorem beL_get {v:Int} {n j:Nat} (h:j < n):(beL v n)[j]?.getD 0 = (v.fdiv (2 ^ (8 * (n - 1 - j)))) % 256:=by
 simp [beL,h]
theorem wrap8 {x:Int}:IntKind.u8.wrap x = x % 256:=by
 simp [IntKind.wrap,IntKind.bits,IntKind.signed]
theorem stL_get {d:List (List Value)} (h:hashRow d) {k:Nat} (hk:k < 8):(stL (stW d)).getD k 0 = cellX d k:=by
 have h8:stL (stW d) = [ofW (toW (cellX d 0)),ofW (toW (cellX d 1)),ofW (toW (cellX d 2)),ofW (toW (cellX d 3)),ofW (toW (cellX d 4)),ofW (toW (cellX d 5)),ofW (toW (cellX d 6)),ofW (toW (cellX d 7))]:=rfl
 rw [h8,ofW_toW (h.2.1 0 (by omega)),ofW_toW (h.2.1 1 (by omega)),ofW_toW (h.2.1 2 (by omega)),ofW_toW (h.2.1 3 (by omega)),ofW_toW (h.2.1 4 (by omega)),ofW_toW (h.2.1 5 (by omega)),ofW_toW (h.2.1 6 (by omega)),ofW_toW (h.2.1 7 (by omega))]
 match k,hk with
 | 0,_=>rfl
 | 1,_=>rfl
 | 2,_=>rfl
 | 3,_=>rfl
 | 4,_=>rfl
 | 5,_=>rfl
 | 6,_=>rfl
 | 7,_=>rfl
theorem bytesS_get {d:List (List Value)} (h:hashRow d) {t:Nat} (ht:t < 32):(bytesS (stW d))[t]?.getD 0 = ((cellX d (t / 4)).fdiv (2 ^ (24 - 8 * (t % 4)))) % 256:=by
 rw [← stL_get h (by omega)]
 simp [bytesS,ht]
theorem shr_u64 {x:Int} {n:Nat} (hn:n ≤ 64):arithOf .shr .u64 x (n:Int) = x.fdiv (2 ^ n):=by
 show x.fdiv (2 ^ (min (n:Int).toNat 64)) = _
 rw [Int.toNat_natCast,Nat.min_eq_left hn]
theorem shr_u32 {x:Int} {n:Nat} (hn:n ≤ 32):arithOf .shr .u32 x (n:Int) = x.fdiv (2 ^ n):=by
 show x.fdiv (2 ^ (min (n:Int).toNat 32)) = _
 rw [Int.toNat_natCast,Nat.min_eq_left hn]
theorem rowL_eq {d:List (List Value)} {n:Nat} {l:List Int} (hl:l.length = n) (h:∀ j,j < n→cellX d j = l[j]?.getD 0):rowL d n = l:=by
 refine List.ext_getElem (by rw [rowL_len,hl]) fun i h1 h2=>?_
 rw [rowL_len] at h1
 have:=h i h1
 rw [List.getElem?_eq_getElem h2] at this
 simpa [rowL] using this
def dgCells (f:Nat→Int):List Value:=(List.range 32).map fun j=>.int .u8 (f j)
theorem dgCells_get {f:Nat→Int} {j:Nat} (h:j < 32):cellX [dgCells f] j = f j:=by
 simp [cellX,dgCells,h,vInt]
theorem mem_rowL {d:List (List Value)} {n:Nat} {x:Int} (h:x ∈ rowL d n):∃ j,j < n∧cellX d j = x:=by
 obtain ⟨j,hj,e⟩:=List.mem_map.1 h
 exact ⟨j,List.mem_range.1 hj,e⟩
theorem quo4 {t:Nat} (h:t < 32):arithOf .quo .i64 (t:Int) 4 = ((t / 4:Nat):Int):=by
 show IntKind.i64.wrap ((t:Int).tdiv 4) = _
 rw [Int.tdiv_eq_ediv_of_nonneg (by omega),Go.Proofs.wrap64 (by omega) (by omega)]; omega
theorem rem4 {t:Nat}:arithOf .rem .i64 (t:Int) 4 = ((t % 4:Nat):Int):=by
 show (t:Int).tmod 4 = _
 rw [Int.tmod_eq_emod_of_nonneg (by omega)]; omega
end Go.Eng

set_option linter.unusedSimpArgs false
set_option linter.unusedVariables false
namespace Go.Eng
open Go
end Go.Eng

set_option linter.unusedSimpArgs false
set_option linter.unusedVariables false
set_option maxRecDepth 100000
namespace Go.Proofs
open Go Go.Eng

end Go.Proofs

set_option linter.unusedSimpArgs false
set_option linter.unusedVariables false
namespace Go.Proofs
open Go Go.Eng
end Go.Proofs

set_option linter.unusedSimpArgs false
set_option linter.unusedVariables false
namespace Go.Proofs
open Go Go.Eng
end Go.Proofs

set_option linter.unusedSimpArgs false
set_option linter.unusedVariables false
namespace Go.Eng
open Go
end Go.Eng
namespace Go.Proofs
open Go Go.Eng
end Go.Proofs

set_option linter.unusedSimpArgs false
set_option linter.unusedVariables false
namespace Go.Eng
open Go

def fillTo (f:Nat→Int) (len n:Nat):List Int:=(List.range len).map fun i=>if i < n then f i else 0
def identTo (n m:Nat):List Int:=(List.range (n * n)).map fun t=>if t / n = t % n∧t / n < m then 1 else 0
def vanderF (cols:Nat) (i:Nat):Int:=powF (i / cols:Nat) (i % cols:Nat)
def vanderL (rows cols:Nat):List Int:=fillTo (vanderF cols) (rows * cols) (rows * cols)
def prodN (a b:List Int) (ra ca cb:Nat):Nat→List Int
 | 0=>List.replicate (ra * cb) 0
 | t + 1=>addToL (prodN a b ra ca cb t) (t / ca * cb) (seg b (t % ca * cb) cb) (a.getD t 0)
def prodL (a b:List Int) (ra ca cb:Nat):List Int:=prodN a b ra ca cb (ra * ca)
def pivF (a:List Int) (ca c:Nat):Nat→Nat→Nat
 | p,0=>p
 | p,n + 1=>if a.getD (p * ca + c) 0 = 0 then pivF a ca c (p + 1) n else p
def elimRows (ca cb rank c:Nat) (a b:List Int):Nat→List Int × List Int
 | 0=>(a,b)
 | i + 1 =>
  let s:=elimRows ca cb rank c a b i
  if i = rank then s else
   (addToL s.1 (i * ca) (seg s.1 (rank * ca) ca) (s.1.getD (i * ca + c) 0),addToL s.2 (i * cb) (seg s.2 (rank * cb) cb) (s.1.getD (i * ca + c) 0))
def swapR (ca cb rank p:Nat) (a b:List Int):List Int × List Int :=
 if p = rank then (a,b) else (addToL a (rank * ca) (seg a (p * ca) ca) 1,addToL b (rank * cb) (seg b (p * cb) cb) 1)
def scaleR (ca cb rank c:Nat) (a b:List Int):List Int × List Int :=
 (scaleL a (rank * ca) ca (invF (a.getD (rank * ca + c) 0)),scaleL b (rank * cb) cb (invF (a.getD (rank * ca + c) 0)))
def elimMid (rows ca cb c:Nat) (s:List Int × List Int × Nat):List Int × List Int :=
 let s1:=swapR ca cb s.2.2 (pivF s.1 ca c s.2.2 (rows - s.2.2)) s.1 s.2.1
 scaleR ca cb s.2.2 c s1.1 s1.2
def elimStep (rows ca cb c:Nat) (s:List Int × List Int × Nat):List Int × List Int × Nat :=
 if rows ≤ s.2.2 then s else
  if pivF s.1 ca c s.2.2 (rows - s.2.2) = rows then s else
   let s3:=elimRows ca cb s.2.2 c (elimMid rows ca cb c s).1 (elimMid rows ca cb c s).2 rows
   (s3.1,s3.2,s.2.2 + 1)
def elimN (rows ca cb:Nat) (a b:List Int):Nat→List Int × List Int × Nat
 | 0=>(a,b,0)
 | c + 1=>elimStep rows ca cb c (elimN rows ca cb a b c)

def mRet (a b:T) (r l c:Nat):Bool × List T:=(true,[.vint .i64 a,.vint .i64 b,.vslice r (.lit 0) (.var l) (.var c) 1])
def nilM:Bool × List T:=(true,[.vint .i64 (.lit 0),.vint .i64 (.lit 0),.vnils])
def eRet (t:T):Bool × List T:=(false,[.vint .i64 t])
def ident40C:Ctr:={ fn := 166,nv:=1,args:=[iv .i64 (.var 0)],heap:=[],ro:=[],pre:=fun _=>True,alts:=[
 { k:=0,ret:=.tup [nilM,eRet (.lit 2)],heap:=[],post:=fun ρ=>(ρ 0).i < 1∨255 < (ρ 0).i },
 { k:=4,ret:=.tup [mRet (.var 0) (.var 0) 1 2 3,eRet (.lit 0)],heap:=[bHp 1 4 3],post:=fun ρ=>1 ≤ (ρ 0).i∧(ρ 0).i ≤ 255∧matOk (ρ 0).i (ρ 0).i (ρ 2).i (ρ 3).i (ρ 4).d∧(ρ 2).i = (ρ 4).d.length∧bI (ρ 4).d = identTo (ρ 0).i.toNat (ρ 0).i.toNat }] }
def ident40I:Inv:={ key:=5,nv:=7,env:=[(0,iv .i64 (.var 0)),(2,.one (.vptr 1006 (.lit 0) 3 0)),(4,.one (.vptr 1005 (.lit 0) 3 0)),(16,iv .i64 (.var 0)),(17,iv .i64 (.var 1000))],heap:=[.cells 1005 200 [.vint .i64 (.var 0),.vint .i64 (.var 0),.vslice 1001 (.lit 0) (.var 1002) (.var 1003) 1],.cells 1006 200 [.vint .i64 (.lit 0),.vint .i64 (.lit 0),.vnils],bHp 1001 1004 1003],inv:=(fun ρ=>1 ≤ (ρ 0).i∧(ρ 0).i ≤ 255∧0 ≤ (ρ 1000).i∧(ρ 1000).i ≤ (ρ 0).i∧matOk (ρ 0).i (ρ 0).i (ρ 1002).i (ρ 1003).i (ρ 1004).d∧(ρ 1002).i = (ρ 1004).d.length∧bI (ρ 1004).d = identTo (ρ 0).i.toNat (ρ 1000).i.toNat),mu:=(fun ρ=>((ρ 0).i - (ρ 1000).i).toNat) }
def vanderBad (r c:Int):Prop:=r < 1∨255 < r∨c < 1∨255 < c
def vander45C:Ctr:={ fn := 150,nv:=4,args:=[fArg,iv .i64 (.var 2),iv .i64 (.var 3)],heap:=[fHp 1],ro:=[],pre:=fun ρ=>fieldD (ρ 1).d,alts:=[
 { k:=1,ret:=.tup [nilM,eRet (.lit 2)],heap:=[fHp 4],post:=fun ρ=>fieldD (ρ 4).d∧vanderBad (ρ 2).i (ρ 3).i },
 { k:=5,ret:=.tup [mRet (.var 2) (.var 3) 4 5 6,eRet (.lit 0)],heap:=[fHp 7,bHp 4 8 6],post:=fun ρ=>fieldD (ρ 7).d∧¬ vanderBad (ρ 2).i (ρ 3).i∧matOk (ρ 2).i (ρ 3).i (ρ 5).i (ρ 6).i (ρ 8).d∧(ρ 5).i = (ρ 8).d.length∧bI (ρ 8).d = vanderL (ρ 2).i.toNat (ρ 3).i.toNat }] }
def vandHp:List SH:=[fHp 1006,.cells 1007 200 [.vint .i64 (.lit 0),.vint .i64 (.lit 0),.vnils],.cells 1005 200 [.vint .i64 (.var 2),.vint .i64 (.var 3),.vslice 1001 (.lit 0) (.var 1002) (.var 1003) 1],bHp 1001 1004 1003]
def vandInv (ρ:Env) (n:Int):Prop:=¬ vanderBad (ρ 2).i (ρ 3).i∧fieldD (ρ 1006).d∧matOk (ρ 2).i (ρ 3).i (ρ 1002).i (ρ 1003).i (ρ 1004).d∧(ρ 1002).i = (ρ 1004).d.length∧bI (ρ 1004).d = fillTo (vanderF (ρ 3).i.toNat) ((ρ 2).i.toNat * (ρ 3).i.toNat) n.toNat
def vander45I:Inv:={ key:=7,nv:=8,env:=[(0,fArg),(1,iv .i64 (.var 2)),(2,iv .i64 (.var 3)),(6,.one (.vptr 1007 (.lit 0) 3 0)),(8,.one (.vptr 1005 (.lit 0) 3 0)),(32,iv .i64 (.var 2)),(33,iv .i64 (.var 1000))],heap:=vandHp,inv:=(fun ρ=>0 ≤ (ρ 1000).i∧(ρ 1000).i ≤ (ρ 2).i∧vandInv ρ ((ρ 1000).i * (ρ 3).i)),mu:=(fun ρ=>((ρ 2).i - (ρ 1000).i).toNat) }
def vander45J:Inv:={ key:=10,nv:=9,env:=[(0,fArg),(1,iv .i64 (.var 2)),(2,iv .i64 (.var 3)),(6,.one (.vptr 1007 (.lit 0) 3 0)),(8,.one (.vptr 1005 (.lit 0) 3 0)),(32,iv .i64 (.var 2)),(33,iv .i64 (.var 1000)),(9,iv .i64 (.var 1000)),(36,iv .i64 (.var 3)),(37,iv .i64 (.var 1008))],heap:=vandHp,inv:=(fun ρ=>0 ≤ (ρ 1000).i∧(ρ 1000).i < (ρ 2).i∧0 ≤ (ρ 1008).i∧(ρ 1008).i ≤ (ρ 3).i∧vandInv ρ ((ρ 1000).i * (ρ 3).i + (ρ 1008).i)∧(ρ 1000).i = (ρ 10).i),mu:=(fun ρ=>((ρ 3).i - (ρ 1008).i).toNat) }
def argA:SV:=mArg 2 3 4 5 6
def argB:SV:=mArg 9 10 11 12 13
def validM (r c l:Int):Prop:=1 ≤ r∧r ≤ 255∧1 ≤ c∧c ≤ 255∧l = r * c
def prod49C:Ctr:={ fn := 151,nv:=16,args:=[fArg,argA,argB],heap:=[fHp 1],ro:=[bHp 4 7 8,bHp 11 14 15],pre:=fun ρ=>fieldD (ρ 1).d∧0 ≤ (ρ 5).i∧(ρ 5).i ≤ (ρ 6).i∧(ρ 5).i ≤ (ρ 7).d.length∧allB (ρ 7).d∧0 ≤ (ρ 12).i∧(ρ 12).i ≤ (ρ 13).i∧(ρ 12).i ≤ (ρ 14).d.length∧allB (ρ 14).d,alts:=[
 { k:=1,ret:=.tup [nilM,eRet (.lit 2)],heap:=[fHp 16],post:=fun ρ=>fieldD (ρ 16).d∧¬ (validM (ρ 2).i (ρ 3).i (ρ 5).i∧validM (ρ 9).i (ρ 10).i (ρ 12).i) },
 { k:=1,ret:=.tup [nilM,eRet (.lit 10)],heap:=[fHp 16],post:=fun ρ=>fieldD (ρ 16).d∧validM (ρ 2).i (ρ 3).i (ρ 5).i∧validM (ρ 9).i (ρ 10).i (ρ 12).i∧(ρ 3).i ≠ (ρ 9).i },
 { k:=5,ret:=.tup [mRet (.var 2) (.var 10) 16 17 18,eRet (.lit 0)],heap:=[fHp 19,bHp 16 20 18],post:=fun ρ=>fieldD (ρ 19).d∧validM (ρ 2).i (ρ 3).i (ρ 5).i∧validM (ρ 9).i (ρ 10).i (ρ 12).i∧(ρ 3).i = (ρ 9).i∧matOk (ρ 2).i (ρ 10).i (ρ 17).i (ρ 18).i (ρ 20).d∧(ρ 17).i = (ρ 20).d.length∧bI (ρ 20).d = prodL ((bI (ρ 7).d).take (ρ 5).i.toNat) ((bI (ρ 14).d).take (ρ 12).i.toNat) (ρ 2).i.toNat (ρ 3).i.toNat (ρ 10).i.toNat }] }
def zBox (r:Nat):SH:=.cells r 200 [.vint .i64 (.lit 0),.vint .i64 (.lit 0),.vnils]
def boxM (r a b s l c:Nat):SH:=.cells r 200 [.vint .i64 (.var a),.vint .i64 (.var b),.vslice s (.lit 0) (.var l) (.var c) 1]
def prodHp:List SH:=[fHp 1006,zBox 1009,boxM 1007 2 3 4 5 6,boxM 1008 9 10 11 12 13,boxM 1005 2 10 1001 1002 1003,bHp 1001 1004 1003]
def prodEnv:List (Nat × SV):=[(0,fArg),(6,.one (.vptr 1009 (.lit 0) 3 0)),(4,.one (.vptr 1007 (.lit 0) 3 0)),(5,.one (.vptr 1008 (.lit 0) 3 0)),(8,.one (.vptr 1005 (.lit 0) 3 0)),(36,iv .i64 (.var 2)),(37,iv .i64 (.var 1000))]
def prodInv (ρ:Env) (t:Int):Prop:=validM (ρ 2).i (ρ 3).i (ρ 5).i∧validM (ρ 9).i (ρ 10).i (ρ 12).i∧(ρ 3).i = (ρ 9).i∧fieldD (ρ 1006).d∧matOk (ρ 2).i (ρ 10).i (ρ 1002).i (ρ 1003).i (ρ 1004).d∧(ρ 1002).i = (ρ 1004).d.length∧bI (ρ 1004).d = prodN ((bI (ρ 7).d).take (ρ 5).i.toNat) ((bI (ρ 14).d).take (ρ 12).i.toNat) (ρ 2).i.toNat (ρ 3).i.toNat (ρ 10).i.toNat t.toNat
def prod49I:Inv:={ key:=9,nv:=10,env:=prodEnv,heap:=prodHp,inv:=(fun ρ=>0 ≤ (ρ 1000).i∧(ρ 1000).i ≤ (ρ 2).i∧prodInv ρ ((ρ 1000).i * (ρ 3).i)),mu:=(fun ρ=>((ρ 2).i - (ρ 1000).i).toNat) }
def prod49J:Inv:={ key:=12,nv:=14,env:=prodEnv ++ [(9,iv .i64 (.var 1000)),(42,bSl 4 1011 1012 1013),(43,iv .i64 (.var 1012)),(44,iv .i64 (.var 1010))],heap:=prodHp,inv:=(fun ρ=>0 ≤ (ρ 1000).i∧(ρ 1000).i < (ρ 2).i∧0 ≤ (ρ 1010).i∧(ρ 1010).i ≤ (ρ 3).i∧(ρ 1011).i = (ρ 1000).i * (ρ 3).i∧(ρ 1012).i = (ρ 3).i∧prodInv ρ ((ρ 1000).i * (ρ 3).i + (ρ 1010).i)∧(ρ 1000).i = (ρ 26).i),mu:=(fun ρ=>((ρ 3).i - (ρ 1010).i).toNat) }
end Go.Eng

set_option linter.unusedSimpArgs false
set_option linter.unusedVariables false
namespace Go.Eng
open Go
def wStr:Nat := 223
def wrA:SV:=.one (.vptr 0 (.lit 0) 3 0)
def wCells (l f r n c:Nat):SH:=.cells 0 wStr [.vint .i64 (.var l),.vbool (.var f),.vslice r (.lit 0) (.var n) (.var c) 1]
def wOk (lim:Int) (n c:Int) (d:List (List Value)):Prop:=0 ≤ lim∧lim < 9223372036854775808∧n = d.length∧n ≤ lim∧allB d
def wFull (lim:Int) (f:Bool) (m:List Int) (k:Int):Bool:=f || decide (lim - m.length < k)
def wThen (lim:Int) (f:Bool) (m s:List Int):Bool × List Int:=if wFull lim f m s.length then (true,m) else (false,m ++ s)
def wHeap (l f r n c d:Nat):List SH:=[wCells l f r n c,bHp r d c]
def roomC:Ctr:={ fn := 132,nv:=8,args:=[wrA,iv .i64 (.var 7)],heap:=wHeap 1 2 3 4 5 6,ro:=[],pre:=fun ρ=>wOk (ρ 1).i (ρ 4).i (ρ 5).i (ρ 6).d∧0 ≤ (ρ 7).i∧(ρ 7).i < 1152921504606846976,alts:=[
 { k:=2,ret:=.one (.vbool (.var 8)),heap:=wHeap 1 9 3 4 5 6,post:=fun ρ=>(ρ 9).b = wFull (ρ 1).i (ρ 2).b (bI (ρ 6).d) (ρ 7).i∧(ρ 8).b = !(ρ 9).b }] }
def wPost (ρ:Env) (n:Nat) (s:List Int):Prop:=wOk (ρ 1).i (ρ (n + 2)).i (ρ (n + 3)).i (ρ (n + 4)).d∧((ρ n).b,bI (ρ (n + 4)).d) = wThen (ρ 1).i (ρ 2).b (bI (ρ 6).d) s
def numberC:Ctr:={ fn := 131,nv:=9,args:=[wrA,.one (.vint .u64 (.var 7)),iv .i64 (.var 8)],heap:=wHeap 1 2 3 4 5 6,ro:=[],pre:=fun ρ=>wOk (ρ 1).i (ρ 4).i (ρ 5).i (ρ 6).d∧(ρ 4).i + 8 ≤ 140737488355328∧0 ≤ (ρ 8).i∧(ρ 8).i ≤ 8∧0 ≤ (ρ 7).i∧(ρ 7).i < 18446744073709551616,alts:=[
 { k:=5,ret:=.tup [],heap:=wHeap 1 9 10 11 12 13,post:=fun ρ=>wPost ρ 9 (beL (ρ 7).i (ρ 8).i.toNat) }] }
def numberI:Inv:={ key:=2,nv:=5,env:=[(0,wrA),(1,.one (.vint .u64 (.var 7))),(2,iv .i64 (.var 8)),(6,iv .i64 (.var 1004))],heap:=[.cells 0 wStr [.vint .i64 (.var 1),.vbool (.bl false),.vslice 1000 (.lit 0) (.var 1001) (.var 1002) 1],bHp 1000 1003 1002],inv:=(fun ρ=>-1 ≤ (ρ 1004).i∧(ρ 1004).i < (ρ 8).i∧(ρ 1001).i = (ρ 1003).d.length∧(ρ 2).b = false∧(ρ 8).i ≤ (ρ 1).i - (ρ 4).i∧allB (ρ 1003).d∧bI (ρ 1003).d = bI (ρ 6).d ++ (beL (ρ 7).i (ρ 8).i.toNat).take ((ρ 8).i - 1 - (ρ 1004).i).toNat),mu:=(fun ρ=>((ρ 1004).i + 1).toNat) }
def numFn (fn:Nat) (k:IntKind) (n:Nat):Ctr:={ fn:=fn,nv:=8,args:=[wrA,.one (.vint k (.var 7))],heap:=wHeap 1 2 3 4 5 6,ro:=[],pre:=fun ρ=>wOk (ρ 1).i (ρ 4).i (ρ 5).i (ρ 6).d∧(ρ 4).i + 8 ≤ 140737488355328∧0 ≤ (ρ 7).i∧(ρ 7).i < 256 ^ n,alts:=[
 { k:=5,ret:=.tup [],heap:=wHeap 1 8 9 10 11 12,post:=fun ρ=>wPost ρ 8 (beL (ρ 7).i n) }] }
def u8C:Ctr:=numFn 106 .u8 1
def u16C:Ctr:=numFn 105 .u16 2
def newWriterC:Ctr:={ fn := 104,nv:=1,args:=[iv .i64 (.var 0)],heap:=[],ro:=[],pre:=fun _=>True,alts:=[
 { k:=4,ret:=.one (.vptr 1 (.lit 0) 3 0),heap:=[.cells 1 wStr [.vint .i64 (.var 2),.vbool (.bl false),.vnils]],post:=fun ρ=>(ρ 2).i = max 0 (ρ 0).i }] }
def raw32C:Ctr:={ fn := 107,nv:=9,args:=[wrA,.one (.vslice 7 (.lit 0) (.lit 32) (.lit 32) 1)],heap:=wHeap 1 2 3 4 5 6,ro:=[dgHp 7 8],pre:=fun ρ=>wOk (ρ 1).i (ρ 4).i (ρ 5).i (ρ 6).d∧(ρ 4).i + 32 ≤ 140737488355328∧oneRow (ρ 8).d 32∧allM (rowL (ρ 8).d 32),alts:=[
 { k:=5,ret:=.tup [],heap:=wHeap 1 9 10 11 12 13,post:=fun ρ=>wPost ρ 9 (rowL (ρ 8).d 32) }] }
def kMan:List CK:=List.replicate 4 (.int .i64) ++ (List.replicate 32 (.int .u8) ++ [.any])
def manHp (r d:Nat):SH:=.arr r 27 kMan (.var d) (.lit 1)
def rawMC:Ctr:={ fn := 107,nv:=9,args:=[wrA,.one (.vslice 7 (.lit 4) (.lit 32) (.lit 32) 1)],heap:=wHeap 1 2 3 4 5 6,ro:=[manHp 7 8],pre:=fun ρ=>wOk (ρ 1).i (ρ 4).i (ρ 5).i (ρ 6).d∧(ρ 4).i + 32 ≤ 140737488355328∧oneRow (ρ 8).d 37∧allM ((rowL (ρ 8).d 36).drop 4),alts:=[
 { k:=5,ret:=.tup [],heap:=wHeap 1 9 10 11 12 13,post:=fun ρ=>wPost ρ 9 ((rowL (ρ 8).d 36).drop 4) }] }
def bytesC:Ctr:={ fn := 108,nv:=7,args:=[wrA],heap:=[],ro:=wHeap 1 2 3 4 5 6,pre:=fun ρ=>wOk (ρ 1).i (ρ 4).i (ρ 5).i (ρ 6).d∧(ρ 4).i ≤ 140737488355328,alts:=[
 { k:=0,ret:=.tup [(false,[.vnils]),eRet (.lit 3)],heap:=[],post:=fun ρ=>(ρ 2).b = true },
 { k:=4,ret:=.tup [(false,[.vslice 7 (.lit 0) (.var 4) (.var 8) 1]),eRet (.lit 0)],heap:=[bHp 7 9 8],post:=fun ρ=>(ρ 2).b = false∧(ρ 9).d = (ρ 6).d }] }
def cloneBC:Ctr:={ fn := 91,nv:=5,args:=[.one (.vslice 0 (.lit 0) (.var 1) (.var 2) 1)],heap:=[],ro:=[bHp 0 3 4],pre:=fun ρ=>0 ≤ (ρ 1).i∧(ρ 1).i = (ρ 3).d.length∧(ρ 1).i ≤ 140737488355328,alts:=[
 { k:=3,ret:=.one (.vslice 5 (.lit 0) (.var 1) (.var 6) 1),heap:=[bHp 5 7 6],post:=fun ρ=>(ρ 7).d = (ρ 3).d }] }
end Go.Eng

set_option linter.unusedSimpArgs false
set_option linter.unusedVariables false
namespace Go.Eng
open Go

def identGC:Ctr:={ ident40C with pre:=fun ρ=>1 ≤ (ρ 0).i∧(ρ 0).i ≤ 255,alts:=ident40C.alts.drop 1 }
def vanderGC:Ctr:={ vander45C with pre:=fun ρ=>fieldD (ρ 1).d∧¬ vanderBad (ρ 2).i (ρ 3).i,alts:=vander45C.alts.drop 1 }
def cloneKC:Ctr:={ clone84C with alts:=[{ k:=3,ret:=.agg [.vint .i64 (.var 0),.vint .i64 (.var 1),.vslice 7 (.lit 0) (.var 3) (.var 8) 1],heap:=[bHp 7 9 8],post:=fun ρ=>(ρ 9).d = (ρ 5).d.take (ρ 3).i.toNat∧((ρ 9).d.length:Int) ≤ (ρ 8).i }] }
def fullM (r c l cap:Int) (d:Rows'):Prop:=matOk r c l cap d∧l = d.length
def elim83C:Ctr:={ fn := 167,nv:=16,args:=[fArg,argA,argB],heap:=[fHp 1,bHp 4 7 8,bHp 11 14 15],ro:=[],pre:=fun ρ=>fieldD (ρ 1).d∧fullM (ρ 2).i (ρ 3).i (ρ 5).i (ρ 6).i (ρ 7).d∧fullM (ρ 9).i (ρ 10).i (ρ 12).i (ρ 13).i (ρ 14).d∧(ρ 9).i = (ρ 2).i,alts:=[
 { k:=4,ret:=iv .i64 (.var 16),heap:=[fHp 17,bHp 4 18 8,bHp 11 19 15],post:=fun ρ=>fieldD (ρ 17).d∧fullM (ρ 2).i (ρ 3).i (ρ 5).i (ρ 6).i (ρ 18).d∧fullM (ρ 9).i (ρ 10).i (ρ 12).i (ρ 13).i (ρ 19).d∧0 ≤ (ρ 16).i∧(ρ 16).i ≤ (ρ 2).i∧(bI (ρ 18).d,bI (ρ 19).d,(ρ 16).i.toNat) = elimN (ρ 2).i.toNat (ρ 3).i.toNat (ρ 10).i.toNat (bI (ρ 7).d) (bI (ρ 14).d) (ρ 3).i.toNat }] }
def elimHp:List SH:=[fHp 1002,boxM 1003 2 3 4 5 6,boxM 1004 9 10 11 12 13,bHp 4 1005 8,bHp 11 1006 15]
def elimEnv:List (Nat × SV):=[(0,fArg),(4,.one (.vptr 1003 (.lit 0) 3 0)),(5,.one (.vptr 1004 (.lit 0) 3 0)),(7,iv .i64 (.var 1000)),(8,iv .i64 (.var 1001))]
def elimW (r ca cb l1 c1 l2 c2 rank c:Int) (f da db:Rows'):Prop:=fieldD f∧fullM r ca l1 c1 da∧fullM r cb l2 c2 db∧0 ≤ rank∧rank ≤ r∧0 ≤ c∧c ≤ ca
def elimO (r ca cb l1 c1 l2 c2 rank c:Int) (f da db a0 b0:Rows'):Prop:=elimW r ca cb l1 c1 l2 c2 rank c f da db∧(bI da,bI db,rank.toNat) = elimN r.toNat ca.toNat cb.toNat (bI a0) (bI b0) c.toNat
def elim83I:Inv:={ key:=3,nv:=7,env:=elimEnv,heap:=elimHp,inv:=(fun ρ=>elimO (ρ 2).i (ρ 3).i (ρ 10).i (ρ 5).i (ρ 6).i (ρ 12).i (ρ 13).i (ρ 1000).i (ρ 1001).i (ρ 1002).d (ρ 1005).d (ρ 1006).d (ρ 7).d (ρ 14).d),mu:=(fun ρ=>((ρ 3).i - (ρ 1001).i).toNat) }
def elimP (r ca cb l1 c1 l2 c2 rank c p:Int) (f da db a0 b0:Rows'):Prop:=elimO r ca cb l1 c1 l2 c2 rank c f da db a0 b0∧rank < r∧c < ca∧rank ≤ p∧p ≤ r∧pivF (bI da) ca.toNat c.toNat p.toNat (r.toNat - p.toNat) = pivF (bI da) ca.toNat c.toNat rank.toNat (r.toNat - rank.toNat)
def elim83J:Inv:={ key:=6,nv:=8,env:=elimEnv ++ [(9,iv .i64 (.var 1007))],heap:=elimHp,inv:=(fun ρ=>elimP (ρ 2).i (ρ 3).i (ρ 10).i (ρ 5).i (ρ 6).i (ρ 12).i (ρ 13).i (ρ 1000).i (ρ 1001).i (ρ 1007).i (ρ 1002).d (ρ 1005).d (ρ 1006).d (ρ 7).d (ρ 14).d∧(ρ 1001).i = (ρ 19).i),mu:=(fun ρ=>((ρ 2).i - (ρ 1007).i).toNat) }
def elimQ (r ca cb l1 c1 l2 c2 rank c i:Int) (f da db a0 b0:Rows'):Prop :=
 elimW r ca cb l1 c1 l2 c2 rank c f da db∧rank < r∧c < ca∧0 ≤ i∧i ≤ r∧∃ s,s = elimN r.toNat ca.toNat cb.toNat (bI a0) (bI b0) c.toNat∧s.2.2 = rank.toNat ∧
  pivF s.1 ca.toNat c.toNat rank.toNat (r.toNat - rank.toNat) ≠ r.toNat ∧
  (bI da,bI db) = elimRows ca.toNat cb.toNat rank.toNat c.toNat (elimMid r.toNat ca.toNat cb.toNat c.toNat s).1 (elimMid r.toNat ca.toNat cb.toNat c.toNat s).2 i.toNat
def elim83K:Inv:={ key:=16,nv:=8,env:=elimEnv ++ [(97,iv .i64 (.var 2)),(98,iv .i64 (.var 1007))],heap:=elimHp,inv:=(fun ρ=>elimQ (ρ 2).i (ρ 3).i (ρ 10).i (ρ 5).i (ρ 6).i (ρ 12).i (ρ 13).i (ρ 1000).i (ρ 1001).i (ρ 1007).i (ρ 1002).d (ρ 1005).d (ρ 1006).d (ρ 7).d (ρ 14).d∧(ρ 1001).i = (ρ 19).i),mu:=(fun ρ=>((ρ 2).i - (ρ 1007).i).toNat) }
def invE (m:List Int) (n:Nat):List Int × List Int × Nat:=elimN n n n m (identTo n n) n
def inverse55C:Ctr:={ fn := 134,nv:=9,args:=[fArg,argA],heap:=[fHp 1],ro:=[bHp 4 7 8],pre:=fun ρ=>fieldD (ρ 1).d∧0 ≤ (ρ 5).i∧(ρ 5).i ≤ (ρ 6).i∧(ρ 5).i ≤ (ρ 7).d.length∧allB (ρ 7).d,alts:=[
 { k:=2,ret:=.tup [nilM,eRet (.var 9)],heap:=[fHp 10],post:=fun ρ=>fieldD (ρ 10).d∧((¬ validM (ρ 2).i (ρ 3).i (ρ 5).i∧(ρ 9).i = 2)∨(validM (ρ 2).i (ρ 3).i (ρ 5).i∧(ρ 2).i ≠ (ρ 3).i∧(ρ 9).i = 10)∨(validM (ρ 2).i (ρ 3).i (ρ 5).i∧(ρ 2).i = (ρ 3).i∧(invE ((bI (ρ 7).d).take (ρ 5).i.toNat) (ρ 2).i.toNat).2.2 < (ρ 2).i.toNat∧(ρ 9).i = 11)) },
 { k:=5,ret:=.tup [mRet (.var 2) (.var 2) 9 10 11,eRet (.lit 0)],heap:=[fHp 12,bHp 9 13 11],post:=fun ρ=>fieldD (ρ 12).d∧validM (ρ 2).i (ρ 3).i (ρ 5).i∧(ρ 2).i = (ρ 3).i∧fullM (ρ 2).i (ρ 2).i (ρ 10).i (ρ 11).i (ρ 13).d∧(invE ((bI (ρ 7).d).take (ρ 5).i.toNat) (ρ 2).i.toNat).2.2 = (ρ 2).i.toNat∧bI (ρ 13).d = (invE ((bI (ρ 7).d).take (ρ 5).i.toNat) (ρ 2).i.toNat).2.1 }] }
def topE (k total:Nat):List Int × List Int × Nat:=invE ((vanderL total k).take (k * k)) k
def genL (k total:Nat):List Int:=prodL (vanderL total k) (topE k total).2.1 total k k
def gen35C:Ctr:={ fn := 122,nv:=4,args:=[fArg,iv .i64 (.var 2),iv .i64 (.var 3)],heap:=[fHp 1],ro:=[],pre:=fun ρ=>fieldD (ρ 1).d,alts:=[
 { k:=1,ret:=.tup [nilM,eRet (.lit 2)],heap:=[fHp 4],post:=fun ρ=>fieldD (ρ 4).d∧(sizesB (ρ 2).i (ρ 3).i = true→(topE (ρ 2).i.toNat (ρ 3).i.toNat).2.2 < (ρ 2).i.toNat) },
 { k:=6,ret:=.tup [mRet (.var 3) (.var 2) 4 5 6,eRet (.lit 0)],heap:=[fHp 7,bHp 4 8 6,.abs 9 2],post:=fun ρ=>fieldD (ρ 7).d∧sizesB (ρ 2).i (ρ 3).i = true∧fullM (ρ 3).i (ρ 2).i (ρ 5).i (ρ 6).i (ρ 8).d∧(topE (ρ 2).i.toNat (ρ 3).i.toNat).2.2 = (ρ 2).i.toNat∧bI (ρ 8).d = genL (ρ 2).i.toNat (ρ 3).i.toNat }] }
end Go.Eng

set_option linter.unusedSimpArgs false
set_option linter.unusedVariables false
namespace Go.Eng
open Go

def genGC:Ctr:={ gen35C with pre:=fun ρ=>fieldD (ρ 1).d∧sizesB (ρ 2).i (ρ 3).i = true∧(topE (ρ 2).i.toNat (ρ 3).i.toNat).2.2 = (ρ 2).i.toNat,alts:=gen35C.alts.drop 1 }
def fullL (data:List Int) (n:Nat):List Int:=data ++ List.replicate (n - data.length) 0
def pieceLen (k len:Nat):Nat:=(len + k - 1) / k
def pieceN (g full:List Int) (k l i:Nat):Nat→List Int
 | 0=>List.replicate l 0
 | j + 1=>addToL (pieceN g full k l i j) 0 (seg full (j * l) l) (g.getD (i * k + j) 0)
def encP (k total:Nat) (data:List Int) (i:Nat):List Int :=
 pieceN (genL k total) (fullL data (k * pieceLen k data.length)) k (pieceLen k data.length) i k
def kPiece:List CK:=[.int .i64,.any]
def encAt (h:Hp) (D:Rows') (n:Nat) (f:Nat→List Int):Prop:=∀ j,j < n→∃ v d,D[j]? = some [.int .i64 j,v]∧Rd h kB v d∧bI d = f j∧allB d
def encode31C:Ctr:={ fn := 87,nv:=9,args:=[fArg,iv .i64 (.var 2),iv .i64 (.var 3),.one (.vslice 4 (.lit 0) (.var 5) (.var 6) 1)],heap:=[fHp 1],ro:=[bHp 4 7 8],pre:=fun ρ=>fieldD (ρ 1).d∧(ρ 5).i = (ρ 7).d.length∧allB (ρ 7).d∧(sizesB (ρ 2).i (ρ 3).i = true→(topE (ρ 2).i.toNat (ρ 3).i.toNat).2.2 = (ρ 2).i.toNat),alts:=[
 { k:=2,ret:=.tup [(false,[.vnils]),eRet (.var 9)],heap:=[fHp 10],post:=fun ρ=>fieldD (ρ 10).d∧((sizesB (ρ 2).i (ρ 3).i = false∧(ρ 9).i = 2)∨(sizesB (ρ 2).i (ρ 3).i = true∧8192 < (ρ 5).i∧(ρ 9).i = 3)) },
 { k:=5,ret:=.tup [(false,[.vslice 9 (.lit 0) (.var 3) (.var 10) 2]),eRet (.lit 0)],heap:=[fHp 11,.arr 9 86 kPiece (.var 12) (.var 10),.abs 13 2],post:=fun ρ=>fieldD (ρ 11).d∧sizesB (ρ 2).i (ρ 3).i = true∧(ρ 5).i ≤ 8192∧(ρ 12).d.length = (ρ 3).i.toNat∧encAt (ρ 13).h (ρ 12).d (ρ 3).i.toNat (encP (ρ 2).i.toNat (ρ 3).i.toNat (bI (ρ 7).d)) }] }
def encHp:List SH:=[fHp 1008,boxM 1004 3 2 1009 1010 1011,bHp 1009 1012 1011,bHp 1001 1013 1003,.arr 1005 86 kPiece (.var 1014) (.var 1006)]
def encEnv:List (Nat × SV):=[(0,fArg),(10,iv .i64 (.var 1000)),(12,.one (.vslice 1001 (.lit 0) (.var 1002) (.var 1003) 1)),(13,.one (.vptr 1004 (.lit 0) 3 0)),(15,.one (.vslice 1005 (.lit 0) (.var 3) (.var 1006) 2)),(53,iv .i64 (.var 3)),(54,iv .i64 (.var 1007))]
def encW (k total len l lf cf lg cg i:Int) (f dg df D data:Rows'):Prop :=
 fieldD f∧sizesB k total = true∧len ≤ 8192∧len = data.length∧allB data∧l = (pieceLen k.toNat data.length:Nat)∧l ≤ 8192∧lf = k * l∧lf = df.length∧allB df∧bI df = fullL (bI data) (k.toNat * l.toNat) ∧
  fullM total k lg cg dg∧bI dg = genL k.toNat total.toNat∧D.length = total.toNat∧(∀ row ∈ D,row.length = 2)∧0 ≤ i∧i ≤ total
def encode31I:Inv:={ key:=13,nv:=16,env:=encEnv,heap:=encHp ++ [.abs 1015 2],inv:=(fun ρ=>encW (ρ 2).i (ρ 3).i (ρ 5).i (ρ 1000).i (ρ 1002).i (ρ 1003).i (ρ 1010).i (ρ 1011).i (ρ 1007).i (ρ 1008).d (ρ 1012).d (ρ 1013).d (ρ 1014).d (ρ 7).d∧encAt (ρ 1015).h (ρ 1014).d (ρ 1007).i.toNat (encP (ρ 2).i.toNat (ρ 3).i.toNat (bI (ρ 7).d))),mu:=(fun ρ=>((ρ 3).i - (ρ 1007).i).toNat) }
def encode31J:Inv:={ key:=17,nv:=23,env:=encEnv ++ [(16,iv .i64 (.var 1007)),(17,.one (.vslice 1016 (.lit 0) (.var 1000) (.var 1017) 1)),(61,bSl 1009 1019 1020 1021),(62,iv .i64 (.var 1020)),(63,iv .i64 (.var 1022))],heap:=encHp ++ [bHp 1016 1018 1017,.abs 1015 2],inv:=(fun ρ=>encW (ρ 2).i (ρ 3).i (ρ 5).i (ρ 1000).i (ρ 1002).i (ρ 1003).i (ρ 1010).i (ρ 1011).i (ρ 1007).i (ρ 1008).d (ρ 1012).d (ρ 1013).d (ρ 1014).d (ρ 7).d∧encAt (ρ 1015).h (ρ 1014).d (ρ 1007).i.toNat (encP (ρ 2).i.toNat (ρ 3).i.toNat (bI (ρ 7).d))∧(ρ 1007).i = (ρ 29).i∧(ρ 1007).i < (ρ 3).i∧(ρ 1019).i = (ρ 1007).i * (ρ 2).i∧(ρ 1020).i = (ρ 2).i∧0 ≤ (ρ 1022).i∧(ρ 1022).i ≤ (ρ 2).i∧(ρ 1018).d.length = (ρ 1000).i.toNat∧allB (ρ 1018).d∧bI (ρ 1018).d = pieceN (bI (ρ 1012).d) (bI (ρ 1013).d) (ρ 2).i.toNat (ρ 1000).i.toNat (ρ 1007).i.toNat (ρ 1022).i.toNat),mu:=(fun ρ=>((ρ 2).i - (ρ 1022).i).toNat) }
end Go.Eng

set_option linter.unusedSimpArgs false
set_option linter.unusedVariables false
namespace Go.Eng
open Go
def sizes3 (k n t:Int):Bool:=decide (1 ≤ k∧k ≤ n∧n ≤ t∧t ≤ 255)
def manOk (k n t s l:Int):Bool:=sizes3 k n t && decide (0 ≤ s∧s ≤ 8192∧l = t)
def sizes3C:Ctr:={ fn := 86,nv:=3,args:=[iv .i64 (.var 0),iv .i64 (.var 1),iv .i64 (.var 2)],heap:=[],ro:=[],pre:=fun _=>True,alts:=[
 { k:=1,ret:=.one (.vbool (.var 3)),heap:=[],post:=fun ρ=>(ρ 3).b = sizes3 (ρ 0).i (ρ 1).i (ρ 2).i }] }
def manT (k n t s o r l c:Nat):List T:=[.vint .i64 (.var k),.vint .i64 (.var n),.vint .i64 (.var t),.vint .i64 (.var s)] ++ (cellsT .u8 o 32 ++ [.vslice r (.lit 0) (.var l) (.var c) 32])
def dgsHp (r d c:Nat):SH:=.arr r 24 k32 (.var d) (.var c)
def manV:SV:=.agg (manT 0 1 2 3 4 5 6 7)
def rowB (row:List Value):List Int:=(List.range 32).map fun j=>rowI row j
def dgs (d:List (List Value)):List (List Int):=d.map rowB
def dgsOk (d:List (List Value)):Prop:=∀ row ∈ d,row.length = 32∧allM (rowB row)
def checkMC:Ctr:={ fn := 74,nv:=10,args:=[manV],heap:=[],ro:=[dgsHp 5 8 9],pre:=fun ρ=>0 ≤ (ρ 6).i,alts:=[
 { k:=1,ret:=iv .i64 (.var 10),heap:=[],post:=fun ρ=>(ρ 10).i = if manOk (ρ 0).i (ρ 1).i (ρ 2).i (ρ 3).i (ρ 6).i then 0 else 2 }] }
def pieceIn (i:Int):List Int:=[(i.fdiv 256) % 256,i % 256]
def pieceDgC:Ctr:={ fn := 88,nv:=9,ip:=[gIp 7],args:=[iv .i64 (.var 0),bSl 1 2 3 4],heap:=[],ro:=[bHp 1 5 6,gHp 7 8],pre:=fun ρ=>0 ≤ (ρ 2).i∧0 ≤ (ρ 3).i∧(ρ 3).i ≤ (ρ 4).i∧(ρ 3).i < 576460752303423488∧(ρ 2).i + (ρ 3).i ≤ (ρ 5).d.length∧allB (ρ 5).d∧gOk ρ 7 8 gR,alts:=[
 { k:=1,ret:=dgV 9,heap:=[],post:=fun ρ=>rowL (ρ 9).d 32 = sha (pieceIn (ρ 0).i ++ segB (ρ 5).d (ρ 2).i (ρ 3).i) }] }
def manHead (k n t s:Int) (o:List Int):List Int:=beL 19713 2 ++ (beL (k % 256) 1 ++ (beL (n % 256) 1 ++ (beL (t % 256) 1 ++ (beL (s % 65536) 2 ++ o))))
def encManC:Ctr:={ fn := 73,nv:=10,args:=[manV],heap:=[],ro:=[dgsHp 5 8 9],pre:=fun ρ=>0 ≤ (ρ 6).i∧(ρ 6).i = (ρ 8).d.length∧allM (rowL (ρ 4).d 32)∧dgsOk (ρ 8).d,alts:=[
 { k:=0,ret:=.tup [(false,[.vnils]),eRet (.lit 2)],heap:=[],post:=fun ρ=>manOk (ρ 0).i (ρ 1).i (ρ 2).i (ρ 3).i (ρ 6).i = false },
 { k:=4,ret:=.tup [(false,[.vslice 10 (.lit 0) (.var 11) (.var 12) 1]),eRet (.lit 0)],heap:=[bHp 10 13 12],post:=fun ρ=>manOk (ρ 0).i (ρ 1).i (ρ 2).i (ρ 3).i (ρ 6).i = true∧(ρ 11).i = (ρ 13).d.length∧allB (ρ 13).d∧bI (ρ 13).d = manHead (ρ 0).i (ρ 1).i (ρ 2).i (ρ 3).i (rowL (ρ 4).d 32) ++ (dgs (ρ 8).d).flatten }] }
def encManI:Inv:={ key:=12,nv:=8,env:=[(5,.one (.vptr 1000 (.lit 0) 3 0)),(45,.one (.vslice 5 (.lit 0) (.var 6) (.var 7) 32)),(46,iv .i64 (.var 6)),(47,iv .i64 (.var 1007))],heap:=[.cells 1000 wStr [.vint .i64 (.var 1001),.vbool (.var 1002),.vslice 1003 (.lit 0) (.var 1004) (.var 1005) 1],bHp 1003 1006 1005],inv:=(fun ρ=>manOk (ρ 0).i (ρ 1).i (ρ 2).i (ρ 3).i (ρ 6).i = true∧0 ≤ (ρ 1007).i∧(ρ 1007).i ≤ (ρ 6).i∧(ρ 1001).i = 39 + 32 * (ρ 2).i∧(ρ 1002).b = false∧wOk (ρ 1001).i (ρ 1004).i (ρ 1005).i (ρ 1006).d∧bI (ρ 1006).d = manHead (ρ 0).i (ρ 1).i (ρ 2).i (ρ 3).i (rowL (ρ 4).d 32) ++ ((dgs (ρ 8).d).take (ρ 1007).i.toNat).flatten),mu:=(fun ρ=>((ρ 6).i - (ρ 1007).i).toNat) }
def manZ (r:Nat):SH:=.cells r 27 (List.replicate 4 (.vint .i64 (.lit 0)) ++ (List.replicate 32 (.vint .u8 (.lit 0)) ++ [.vnils]))
def manZV:Bool × List T:=(true,List.replicate 4 (.vint .i64 (.lit 0)) ++ (List.replicate 32 (.vint .u8 (.lit 0)) ++ [.vnils]))
def madeAt (f:Nat→List Int) (n:Nat):List (List Int):=(List.range n).map fun (i:Nat)=>sha (pieceIn i ++ f i)
def makeC:Ctr:={ fn := 43,nv:=12,ip:=[gIp 10],ow:=[1003],args:=[fArg,iv .i64 (.var 2),iv .i64 (.var 3),iv .i64 (.var 4),.one (.vslice 5 (.lit 0) (.var 6) (.var 7) 1)],heap:=[fHp 1],ro:=[bHp 5 8 9,gHp 10 11],pre:=fun ρ=>fieldD (ρ 1).d∧(ρ 6).i = (ρ 8).d.length∧(ρ 6).i ≤ (ρ 7).i∧allB (ρ 8).d∧gOk ρ 10 11 gR∧(sizesB (ρ 2).i (ρ 4).i = true→(topE (ρ 2).i.toNat (ρ 4).i.toNat).2.2 = (ρ 2).i.toNat),alts:=[
 { k:=2,ret:=.tup [manZV,(false,[.vnils]),eRet (.var 12)],heap:=[fHp 13],post:=fun ρ=>fieldD (ρ 13).d∧((sizes3 (ρ 2).i (ρ 3).i (ρ 4).i = false∧(ρ 12).i = 2)∨(sizes3 (ρ 2).i (ρ 3).i (ρ 4).i = true∧8192 < (ρ 6).i∧(ρ 12).i = 3)) },
 { k:=9,ret:=.tup [(true,manT 2 3 4 6 12 13 4 14),(false,[.vslice 15 (.lit 0) (.var 4) (.var 16) 2]),eRet (.lit 0)],heap:=[fHp 17,dgsHp 13 18 14,.arr 15 86 kPiece (.var 19) (.var 16),.abs 20 2],post:=fun ρ=>fieldD (ρ 17).d∧sizes3 (ρ 2).i (ρ 3).i (ρ 4).i = true∧(ρ 6).i ≤ 8192∧(ρ 19).d.length = (ρ 4).i.toNat∧encAt (ρ 20).h (ρ 19).d (ρ 4).i.toNat (encP (ρ 2).i.toNat (ρ 4).i.toNat (bI (ρ 8).d))∧rowL (ρ 12).d 32 = sha (bI (ρ 8).d)∧dgsOk (ρ 18).d∧dgs (ρ 18).d = madeAt (encP (ρ 2).i.toNat (ρ 4).i.toNat (bI (ρ 8).d)) (ρ 4).i.toNat }] }
def makeI:Inv:={ key:=10,nv:=12,env:=[(0,fArg),(10,.one (.vptr 1000 (.lit 0) 37 0)),(13,.one (.vslice 1001 (.lit 0) (.var 4) (.var 1009) 2)),(15,.one (.vptr 1002 (.lit 0) 37 0)),(47,.one (.vslice 1001 (.lit 0) (.var 4) (.var 1009) 2)),(48,iv .i64 (.var 4)),(49,iv .i64 (.var 1005))],heap:=[fHp 1010,manZ 1000,.cells 1002 27 (manT 2 3 4 6 1003 1004 1005 1006),dgsHp 1004 1007 1006,.arr 1001 86 kPiece (.var 1008) (.var 1009),.abs 1011 2],inv:=(fun ρ=>fieldD (ρ 1010).d∧sizes3 (ρ 2).i (ρ 3).i (ρ 4).i = true∧(ρ 6).i ≤ 8192∧0 ≤ (ρ 1005).i∧(ρ 1005).i ≤ (ρ 4).i∧(ρ 1008).d.length = (ρ 4).i.toNat∧encAt (ρ 1011).h (ρ 1008).d (ρ 4).i.toNat (encP (ρ 2).i.toNat (ρ 4).i.toNat (bI (ρ 8).d))∧rowL (ρ 1003).d 32 = sha (bI (ρ 8).d)∧(ρ 1005).i = (ρ 1007).d.length∧dgsOk (ρ 1007).d∧dgs (ρ 1007).d = madeAt (encP (ρ 2).i.toNat (ρ 4).i.toNat (bI (ρ 8).d)) (ρ 1005).i.toNat),mu:=(fun ρ=>((ρ 4).i - (ρ 1005).i).toNat) }
end Go.Eng

set_option linter.unusedSimpArgs false
set_option linter.unusedVariables false
namespace Go.Eng
open Go Go.Proofs
theorem Rd_unique {h:Hp} {pat:List CK} {v:Value} {d d':Rows'} (h1:Rd h pat v d) (h2:Rd h pat v d'):d = d':=by
 rcases h1 with ⟨a,e1,rfl⟩ | ⟨b,o,cap,c,ty,fr,e1,l1,hb1,r1⟩ <;> rcases h2 with ⟨a',e2,rfl⟩ | ⟨b',o',cap',c',ty',fr',e2,l2,hb2,r2⟩
 ·rfl
 ·rw [e1] at e2
  simp only [Value.slice.injEq] at e2
  exact (List.length_eq_zero_iff.1 e2.2.1.symm).symm
 ·rw [e1] at e2
  simp only [Value.slice.injEq] at e2
  exact List.length_eq_zero_iff.1 e2.2.1
 ·rw [e1] at e2
  simp only [Value.slice.injEq,Option.some.injEq,Addr.mk.injEq] at e2
  obtain ⟨⟨rfl,rfl,_⟩,hl,rfl⟩:=e2
  rw [hb1] at hb2
  simp only [Option.some.injEq,Obj.cells.injEq] at hb2
  obtain ⟨rfl,rfl,rfl⟩:=hb2
  apply List.ext_getElem hl
  intro i i1 i2
  obtain ⟨f1,g1⟩:=r1 i _ (List.getElem?_eq_getElem i1)
  obtain ⟨f2,g2⟩:=r2 i _ (List.getElem?_eq_getElem i2)
  apply List.ext_getElem (by rw [f1.1,f2.1])
  intro k k1 k2
  have a1:=g1 k _ (List.getElem?_eq_getElem k1)
  have a2:=g2 k _ (List.getElem?_eq_getElem k2)
  rw [a1] at a2
  exact Option.some.inj a2
noncomputable def rdL (h:Hp) (v:Value):List Int:=open Classical in if hx:∃ d,Rd h kB v d then bI hx.choose else []
theorem rdL_eq {h:Hp} {v:Value} {d:Rows'} (hr:Rd h kB v d):rdL h v = bI d:=by
 have hx:∃ d,Rd h kB v d:=⟨d,hr⟩
 unfold rdL
 rw [dif_pos hx,Rd_unique hx.choose_spec hr]
def pcOk (h:Hp) (D:Rows') (n:Nat):Prop:=∀ j,j < n→∃ i v d,D[j]? = some [.int .i64 i,v]∧Rd h kB v d∧allB d
noncomputable def pcI (D:Rows') (j:Nat):Int:=cellI D j 0
noncomputable def pcD (h:Hp) (D:Rows') (j:Nat):List Int:=rdL h (cellV D j 1)
end Go.Eng
namespace Go.Proofs
open Go Go.Eng
theorem pc_at {h:Hp} {D:Rows'} {n j:Nat} (hp:pcOk h D n) (hj:j < n):∃ v d,D[j]? = some [.int .i64 (pcI D j),v]∧cellV D j 1 = v∧Rd h kB v d∧allB d∧pcD h D j = bI d:=by
 obtain ⟨i,v,d,e,hr,hb⟩:=hp j hj
 have h1:cellV D (j:Int) 1 = v:=by simp [cellV,e]
 have h2:pcI D j = i:=by simp [pcI,cellI,cellV,e,vInt]
 exact ⟨v,d,by rw [h2]; exact e,h1,hr,hb,by rw [pcD,h1,rdL_eq hr]⟩
end Go.Proofs
namespace Go.Eng
open Go Go.Proofs
end Go.Eng
namespace Go.Proofs
open Go Go.Eng
end Go.Proofs

set_option linter.unusedSimpArgs false
set_option linter.unusedVariables false
namespace Go.Eng
open Go
end Go.Eng

set_option linter.unusedSimpArgs false
set_option linter.unusedVariables false
namespace Go.Eng
open Go
end Go.Eng
namespace Go.Proofs
open Go Go.Eng
theorem wrap64u {x:Int}:IntKind.u64.wrap x = x % 18446744073709551616:=by
 unfold IntKind.wrap
 rfl
end Go.Proofs

set_option linter.unusedSimpArgs false
set_option linter.unusedVariables false
namespace Go.Eng
open Go
def bS (r:Nat):SV:=.one (.vslice r (.lit 0) (.var (r + 1)) (.var (r + 2)) 1)
def bSHp (r:Nat):SH:=bHp r (r + 3) (r + 4)
def w3 (a b c:Int):Int:=arithOf .xor .u8 (arithOf .xor .u8 a b) c
def x3:List Int→List Int→List Int→List Int
 | a :: al,b :: bl,c :: cl=>w3 a b c :: x3 al bl cl
 | _,_,_=>[]
def lawTrue:Alt:={ k:=0,ret:=.one (.vbool (.bl true)),heap:=[],post:=fun _=>True }
end Go.Eng

set_option linter.unusedSimpArgs false
set_option linter.unusedVariables false
namespace Go.Eng
open Go Go.Proofs
def kI:List CK:=[.int .i64]
def iHp (r d c:Nat):SH:=.arr r 3 kI (.var d) (.var c)
def pcHp (r d c:Nat):SH:=.arr r 86 kPiece (.var d) (.var c)
def pcS (r l c:Nat):SV:=.one (.vslice r (.lit 0) (.var l) (.var c) 2)
def i64P (x:Int):Prop:=-9223372036854775808 ≤ x∧x < 9223372036854775808
end Go.Eng

set_option linter.unusedSimpArgs false
set_option linter.unusedVariables false
namespace Go.Eng
open Go Go.Proofs
end Go.Eng

set_option linter.unusedSimpArgs false
set_option linter.unusedVariables false
namespace Go.Eng
open Go Go.Proofs
def opAdd (k v:Int) (b:List Int):Option (List Int):=if 1 ≤ k∧k ≤ 4 then some (beL v (2 ^ (k.toNat - 1))) else if k = 5 then some b else if k = 6 then some (beL b.length 2 ++ b) else none
def opLong (k:Int) (b:List Int):Bool:=decide (k = 6∧65535 < b.length)
def wrote (lim:Int) (f:Bool) (m:List Int) (k v:Int) (b:List Int):Bool × List Int:=match opAdd k v b with
 | none=>(f,m)
 | some s=>wThen lim (f || opLong k b) m s
end Go.Eng

set_option linter.unusedVariables false
namespace Go.Eng
open Go
@[simp] def o8:T:=.vint .u8 (.lit 0)
@[simp] def x8 (k v:Nat):T:=.vint .u8 (.c2 (.xint k) (.var v) (.lit 0))
@[simp] def i8 (v e k:Nat):T:=.vint .u8 (.icell (.var v) (.var e) k)
@[simp] def r8 (v:Nat):T:=(.rcons (x8 0 v) (.rcons (x8 1 v) (.rcons (x8 2 v) (.rcons (x8 3 v) (.rcons (x8 4 v) (.rcons (x8 5 v) (.rcons (x8 6 v) (.rcons (x8 7 v) (.rcons (x8 8 v) (.rcons (x8 9 v) (.rcons (x8 10 v) (.rcons (x8 11 v) (.rcons (x8 12 v) (.rcons (x8 13 v) (.rcons (x8 14 v) (.rcons (x8 15 v) (.rcons (x8 16 v) (.rcons (x8 17 v) (.rcons (x8 18 v) (.rcons (x8 19 v) (.rcons (x8 20 v) (.rcons (x8 21 v) (.rcons (x8 22 v) (.rcons (x8 23 v) (.rcons (x8 24 v) (.rcons (x8 25 v) (.rcons (x8 26 v) (.rcons (x8 27 v) (.rcons (x8 28 v) (.rcons (x8 29 v) (.rcons (x8 30 v) (.rcons (x8 31 v) .rnil))))))))))))))))))))))))))))))))
@[simp] def q8 (k v:Nat):T:=.vint .u8 (.c2 (.xint k) (r8 v) (.lit 0))
@[simp] def s8 (v:Nat):T:=(.rcons (q8 0 v) (.rcons (q8 1 v) (.rcons (q8 2 v) (.rcons (q8 3 v) (.rcons (q8 4 v) (.rcons (q8 5 v) (.rcons (q8 6 v) (.rcons (q8 7 v) (.rcons (q8 8 v) (.rcons (q8 9 v) (.rcons (q8 10 v) (.rcons (q8 11 v) (.rcons (q8 12 v) (.rcons (q8 13 v) (.rcons (q8 14 v) (.rcons (q8 15 v) (.rcons (q8 16 v) (.rcons (q8 17 v) (.rcons (q8 18 v) (.rcons (q8 19 v) (.rcons (q8 20 v) (.rcons (q8 21 v) (.rcons (q8 22 v) (.rcons (q8 23 v) (.rcons (q8 24 v) (.rcons (q8 25 v) (.rcons (q8 26 v) (.rcons (q8 27 v) (.rcons (q8 28 v) (.rcons (q8 29 v) (.rcons (q8 30 v) (.rcons (q8 31 v) .rnil))))))))))))))))))))))))))))))))
@[simp] def z8:T:=(.rcons o8 (.rcons o8 (.rcons o8 (.rcons o8 (.rcons o8 (.rcons o8 (.rcons o8 (.rcons o8 (.rcons o8 (.rcons o8 (.rcons o8 (.rcons o8 (.rcons o8 (.rcons o8 (.rcons o8 (.rcons o8 (.rcons o8 (.rcons o8 (.rcons o8 (.rcons o8 (.rcons o8 (.rcons o8 (.rcons o8 (.rcons o8 (.rcons o8 (.rcons o8 (.rcons o8 (.rcons o8 (.rcons o8 (.rcons o8 (.rcons o8 (.rcons o8 .rnil))))))))))))))))))))))))))))))))
end Go.Eng

set_option linter.unusedSimpArgs false
set_option linter.unusedVariables false
set_option maxRecDepth 100000
namespace Go.Proofs
open Go Go.Eng

end Go.Proofs

set_option linter.unusedSimpArgs false
set_option linter.unusedVariables false
set_option maxRecDepth 100000
namespace Go.Proofs
open Go Go.Eng

def o_rot32:Out:=(.need (.cmp .geq (.arith .and .u64 (.conv .u64 (.var 1)) (.lit 31)) (.lit 0)) (.need (.cmp .geq (.arith .sub .u64 (.lit 32) (.arith .and .u64 (.conv .u64 (.var 1)) (.lit 31))) (.lit 0)) (.ret 0 (sg 2 [bt 2 (.arith .or .u32 (.arith .shl .u32 (.var 0) (.arith .and .u64 (.conv .u64 (.var 1)) (.lit 31))) (.arith .shr .u32 (.var 0) (.arith .sub .u64 (.lit 32) (.arith .and .u64 (.conv .u64 (.var 1)) (.lit 31)))))]))))
theorem o_rot32_eq:treeOf ⟨Tryz.prog,rot32C,[],[]⟩ 100000 Tryz.f154 = o_rot32:=by kernel_rfl
theorem rot32_of (hd:∀ c ∈ ([]:List Ctr),c.ok Tryz.prog) (h:∀ ρ:Env,ρ.good→(rot32C).pre ρ→o_rot32.den ⟨Tryz.prog,rot32C,[],[]⟩ ρ):(rot32C).ok Tryz.prog :=
 ok_of_tree Tryz.func154 (fun a w=>Tryz.call154 a w) hd 100000 (fun ρ hg hp=>by rw [o_rot32_eq]; exact h ρ hg hp)
@[simp] def o_comp_2:T:=.arith .add .u32 (.arith .add .u32 (.arith .add .u32 (.arith .add .u32 (.var 21) (.arith .xor .u32 (.arith .xor .u32 (.var 22) (.var 23)) (.var 24))) (.arith .xor .u32 (.var 20) (.arith .and .u32 (.var 18) (.arith .xor .u32 (.var 19) (.var 20))))) (.c2 (.xint 0) (.var 3) (.var 13))) (.c2 (.xint 0) (.var 12) (.var 13))
@[simp] def o_comp_1:T:=.rcons (.vint .u32 (.c2 (.xint 0) (.var 22) (.lit 0))) (.rcons (.vint .u32 (.c2 (.xint 1) (.var 22) (.lit 0))) (.rcons (.vint .u32 (.c2 (.xint 2) (.var 22) (.lit 0))) (.rcons (.vint .u32 (.c2 (.xint 3) (.var 22) (.lit 0))) (.rcons (.vint .u32 (.c2 (.xint 4) (.var 22) (.lit 0))) (.rcons (.vint .u32 (.c2 (.xint 5) (.var 22) (.lit 0))) (.rcons (.vint .u32 (.c2 (.xint 6) (.var 22) (.lit 0))) (.rcons (.vint .u32 (.c2 (.xint 7) (.var 22) (.lit 0))) .rnil)))))))
def o_comp:Out:=(.fresh 4 (.inv 0 5 (sg 1000 [bt 1001 (.rcons (.vint .u32 (.lit 0)) (.rcons (.vint .u32 (.lit 0)) (.rcons (.vint .u32 (.lit 0)) (.rcons (.vint .u32 (.lit 0)) (.rcons (.vint .u32 (.lit 0)) (.rcons (.vint .u32 (.lit 0)) (.rcons (.vint .u32 (.lit 0)) (.rcons (.vint .u32 (.lit 0)) (.rcons (.vint .u32 (.lit 0)) (.rcons (.vint .u32 (.lit 0)) (.rcons (.vint .u32 (.lit 0)) (.rcons (.vint .u32 (.lit 0)) (.rcons (.vint .u32 (.lit 0)) (.rcons (.vint .u32 (.lit 0)) (.rcons (.vint .u32 (.lit 0)) (.rcons (.vint .u32 (.lit 0)) (.rcons (.vint .u32 (.lit 0)) (.rcons (.vint .u32 (.lit 0)) (.rcons (.vint .u32 (.lit 0)) (.rcons (.vint .u32 (.lit 0)) (.rcons (.vint .u32 (.lit 0)) (.rcons (.vint .u32 (.lit 0)) (.rcons (.vint .u32 (.lit 0)) (.rcons (.vint .u32 (.lit 0)) (.rcons (.vint .u32 (.lit 0)) (.rcons (.vint .u32 (.lit 0)) (.rcons (.vint .u32 (.lit 0)) (.rcons (.vint .u32 (.lit 0)) (.rcons (.vint .u32 (.lit 0)) (.rcons (.vint .u32 (.lit 0)) (.rcons (.vint .u32 (.lit 0)) (.rcons (.vint .u32 (.lit 0)) (.rcons (.vint .u32 (.lit 0)) (.rcons (.vint .u32 (.lit 0)) (.rcons (.vint .u32 (.lit 0)) (.rcons (.vint .u32 (.lit 0)) (.rcons (.vint .u32 (.lit 0)) (.rcons (.vint .u32 (.lit 0)) (.rcons (.vint .u32 (.lit 0)) (.rcons (.vint .u32 (.lit 0)) (.rcons (.vint .u32 (.lit 0)) (.rcons (.vint .u32 (.lit 0)) (.rcons (.vint .u32 (.lit 0)) (.rcons (.vint .u32 (.lit 0)) (.rcons (.vint .u32 (.lit 0)) (.rcons (.vint .u32 (.lit 0)) (.rcons (.vint .u32 (.lit 0)) (.rcons (.vint .u32 (.lit 0)) (.rcons (.vint .u32 (.lit 0)) (.rcons (.vint .u32 (.lit 0)) (.rcons (.vint .u32 (.lit 0)) (.rcons (.vint .u32 (.lit 0)) (.rcons (.vint .u32 (.lit 0)) (.rcons (.vint .u32 (.lit 0)) (.rcons (.vint .u32 (.lit 0)) (.rcons (.vint .u32 (.lit 0)) (.rcons (.vint .u32 (.lit 0)) (.rcons (.vint .u32 (.lit 0)) (.rcons (.vint .u32 (.lit 0)) (.rcons (.vint .u32 (.lit 0)) (.rcons (.vint .u32 (.lit 0)) (.rcons (.vint .u32 (.lit 0)) (.rcons (.vint .u32 (.lit 0)) (.rcons (.vint .u32 (.lit 0)) .rnil)))))))))))))))))))))))))))))))))))))))))))))))))))))))))))))))),bt 1002 (.lit 0),bg 1000 4]) (.fresh 5 (.fresh 6 (.fresh 7 (.hyp 0 5 (.br (.cmp .lss (.var 7) (.lit 16))
 (.need (.cmp .lss (.lit 0) (.dlen (.var 1))) (.need (.cmp .leq (.lit 0) (.arith .mul .i64 (.lit 4) (.var 7))) (.need (.cmp .lss (.arith .mul .i64 (.lit 4) (.var 7)) (.lit 64)) (.need (.cmp .leq (.lit 0) (.arith .add .i64 (.arith .mul .i64 (.lit 4) (.var 7)) (.lit 1))) (.need (.cmp .lss (.arith .add .i64 (.arith .mul .i64 (.lit 4) (.var 7)) (.lit 1)) (.lit 64)) (.need (.cmp .leq (.lit 0) (.arith .add .i64 (.arith .mul .i64 (.lit 4) (.var 7)) (.lit 2))) (.need (.cmp .lss (.arith .add .i64 (.arith .mul .i64 (.lit 4) (.var 7)) (.lit 2)) (.lit 64)) (.need (.cmp .leq (.lit 0) (.arith .add .i64 (.arith .mul .i64 (.lit 4) (.var 7)) (.lit 3))) (.need (.cmp .lss (.arith .add .i64 (.arith .mul .i64 (.lit 4) (.var 7)) (.lit 3)) (.lit 64)) (.need (.cmp .leq (.lit 0) (.var 7)) (.need (.cmp .lss (.var 7) (.lit 64)) (.need (.cmp .lss (.lit 0) (.dlen (.var 6))) (.both (.back 0 5 (sg 1000 [bt 1001 (.c3 (.xput 0) (.var 6) (.var 7) (.vint .u32 (.arith .or .u32 (.arith .or .u32 (.arith .or .u32 (.arith .shl .u32 (.conv .u32 (.c2 (.xint 8) (.var 1) (.arith .mul .i64 (.lit 4) (.var 7)))) (.lit 24)) (.arith .shl .u32 (.conv .u32 (.c2 (.xint 8) (.var 1) (.arith .add .i64 (.arith .mul .i64 (.lit 4) (.var 7)) (.lit 1)))) (.lit 16))) (.arith .shl .u32 (.conv .u32 (.c2 (.xint 8) (.var 1) (.arith .add .i64 (.arith .mul .i64 (.lit 4) (.var 7)) (.lit 2)))) (.lit 8))) (.conv .u32 (.c2 (.xint 8) (.var 1) (.arith .add .i64 (.arith .mul .i64 (.lit 4) (.var 7)) (.lit 3))))))),bt 1002 (.arith .add .i64 (.var 7) (.lit 1)),bg 1000 5])) .top)))))))))))))
 (.inv 1 8 (sg 1000 [bv 1001 6,bt 1002 (.lit 16),bg 1000 5]) (.fresh 8 (.fresh 9 (.fresh 10 (.hyp 1 8 (.br (.cmp .lss (.var 10) (.lit 64))
 (.need (.cmp .leq (.lit 0) (.arith .sub .i64 (.var 10) (.lit 15))) (.need (.cmp .lss (.arith .sub .i64 (.var 10) (.lit 15)) (.lit 64)) (.need (.cmp .lss (.lit 0) (.dlen (.var 9))) (.need (.cmp .leq (.lit 0) (.arith .sub .i64 (.var 10) (.lit 2))) (.need (.cmp .lss (.arith .sub .i64 (.var 10) (.lit 2)) (.lit 64)) (.pre 0 (sg 0 [bt 1 (.lit (-7)),bt 0 (.c2 (.xint 0) (.var 9) (.arith .sub .i64 (.var 10) (.lit 15)))]) (.both (.fresh 11 (.post 0 0 (sg 0 [bt 1 (.lit (-7)),bt 0 (.c2 (.xint 0) (.var 9) (.arith .sub .i64 (.var 10) (.lit 15)))]) 11 (.pre 0 (sg 0 [bt 1 (.lit (-18)),bt 0 (.c2 (.xint 0) (.var 9) (.arith .sub .i64 (.var 10) (.lit 15)))]) (.both (.fresh 12 (.post 0 0 (sg 0 [bt 1 (.lit (-18)),bt 0 (.c2 (.xint 0) (.var 9) (.arith .sub .i64 (.var 10) (.lit 15)))]) 12 (.pre 0 (sg 0 [bt 1 (.lit (-17)),bt 0 (.c2 (.xint 0) (.var 9) (.arith .sub .i64 (.var 10) (.lit 2)))]) (.both (.fresh 13 (.post 0 0 (sg 0 [bt 1 (.lit (-17)),bt 0 (.c2 (.xint 0) (.var 9) (.arith .sub .i64 (.var 10) (.lit 2)))]) 13 (.pre 0 (sg 0 [bt 1 (.lit (-19)),bt 0 (.c2 (.xint 0) (.var 9) (.arith .sub .i64 (.var 10) (.lit 2)))]) (.both (.fresh 14 (.post 0 0 (sg 0 [bt 1 (.lit (-19)),bt 0 (.c2 (.xint 0) (.var 9) (.arith .sub .i64 (.var 10) (.lit 2)))]) 14 (.need (.cmp .leq (.lit 0) (.arith .sub .i64 (.var 10) (.lit 16))) (.need (.cmp .lss (.arith .sub .i64 (.var 10) (.lit 16)) (.lit 64)) (.need (.cmp .leq (.lit 0) (.arith .sub .i64 (.var 10) (.lit 7))) (.need (.cmp .lss (.arith .sub .i64 (.var 10) (.lit 7)) (.lit 64)) (.need (.cmp .leq (.lit 0) (.var 10)) (.both (.back 1 8 (sg 1000 [bt 1001 (.c3 (.xput 0) (.var 9) (.var 10) (.vint .u32 (.arith .add .u32 (.arith .add .u32 (.arith .add .u32 (.c2 (.xint 0) (.var 9) (.arith .sub .i64 (.var 10) (.lit 16))) (.arith .xor .u32 (.arith .xor .u32 (.var 11) (.var 12)) (.arith .shr .u32 (.c2 (.xint 0) (.var 9) (.arith .sub .i64 (.var 10) (.lit 15))) (.lit 3)))) (.c2 (.xint 0) (.var 9) (.arith .sub .i64 (.var 10) (.lit 7)))) (.arith .xor .u32 (.arith .xor .u32 (.var 13) (.var 14)) (.arith .shr .u32 (.c2 (.xint 0) (.var 9) (.arith .sub .i64 (.var 10) (.lit 2))) (.lit 10)))))),bt 1002 (.arith .add .i64 (.var 10) (.lit 1)),bg 1000 8])) .top)))))))) .top)))) .top)))) .top)))) .top)))))))
 (.need (.cmp .lss (.lit 0) (.dlen (.var 1))) (.inv 2 11 (sg 1000 [bv 1001 9,bt 1002 (.lit 0),bt 1010 (.icell (.var 1) (.lit 0) 7),bt 1009 (.icell (.var 1) (.lit 0) 6),bt 1008 (.icell (.var 1) (.lit 0) 5),bt 1007 (.icell (.var 1) (.lit 0) 4),bt 1006 (.icell (.var 1) (.lit 0) 3),bt 1005 (.icell (.var 1) (.lit 0) 2),bt 1004 (.icell (.var 1) (.lit 0) 1),bt 1003 (.icell (.var 1) (.lit 0) 0),bg 1000 8]) (.fresh 11 (.fresh 12 (.fresh 13 (.fresh 14 (.fresh 15 (.fresh 16 (.fresh 17 (.fresh 18 (.fresh 19 (.fresh 20 (.fresh 21 (.hyp 2 11 (.br (.cmp .lss (.var 13) (.lit 64))
 (.pre 0 (sg 0 [bt 1 (.lit (-6)),bv 0 18]) (.both (.fresh 22 (.post 0 0 (sg 0 [bt 1 (.lit (-6)),bv 0 18]) 22 (.pre 0 (sg 0 [bt 1 (.lit (-11)),bv 0 18]) (.both (.fresh 23 (.post 0 0 (sg 0 [bt 1 (.lit (-11)),bv 0 18]) 23 (.pre 0 (sg 0 [bt 1 (.lit (-25)),bv 0 18]) (.both (.fresh 24 (.post 0 0 (sg 0 [bt 1 (.lit (-25)),bv 0 18]) 24 (.need (.c1 (.isg 1) (.var 2)) (.need (.cmp .leq (.lit 0) (.var 13)) (.need (.cmp .lss (.lit 0) (.dlen (.var 3))) (.need (.cmp .lss (.lit 0) (.dlen (.var 12))) (.pre 0 (sg 0 [bt 1 (.lit (-2)),bv 0 14]) (.both (.fresh 25 (.post 0 0 (sg 0 [bt 1 (.lit (-2)),bv 0 14]) 25 (.pre 0 (sg 0 [bt 1 (.lit (-13)),bv 0 14]) (.both (.fresh 26 (.post 0 0 (sg 0 [bt 1 (.lit (-13)),bv 0 14]) 26 (.pre 0 (sg 0 [bt 1 (.lit (-22)),bv 0 14]) (.both (.fresh 27 (.post 0 0 (sg 0 [bt 1 (.lit (-22)),bv 0 14]) 27 (.back 2 11 (sg 1000 [bv 1001 12,bt 1002 (.arith .add .i64 (.var 13) (.lit 1)),bv 1010 20,bv 1009 19,bv 1008 18,bt 1007 (.arith .add .u32 (.var 17) o_comp_2),bv 1006 16,bv 1005 15,bv 1004 14,bt 1003 (.arith .add .u32 o_comp_2 (.arith .add .u32 (.arith .xor .u32 (.arith .xor .u32 (.var 25) (.var 26)) (.var 27)) (.arith .or .u32 (.arith .and .u32 (.var 14) (.var 15)) (.arith .and .u32 (.var 16) (.arith .or .u32 (.var 14) (.var 15)))))),bg 1000 11])))) .top)))) .top)))) .top)))))))) .top)))) .top)))) .top))
 (.inv 3 22 (sg 1000 [bv 1002 1,bt 1001 (.lit 0),bt 1000 (.rcons (.vint .u32 (.var 14)) (.rcons (.vint .u32 (.var 15)) (.rcons (.vint .u32 (.var 16)) (.rcons (.vint .u32 (.var 17)) (.rcons (.vint .u32 (.var 18)) (.rcons (.vint .u32 (.var 19)) (.rcons (.vint .u32 (.var 20)) (.rcons (.vint .u32 (.var 21)) .rnil))))))))]) (.fresh 22 (.fresh 23 (.fresh 24 (.hyp 3 22 (.br (.cmp .lss (.var 23) (.lit 8))
 (.need (.cmp .leq (.lit 0) (.var 23)) (.need (.cmp .lss (.lit 0) (.dlen (.var 24))) (.both (.back 3 22 (sg 1000 [bt 1002 (.c3 (.xput 0) (.var 24) (.var 23) (.vint .u32 (.arith .add .u32 (.c2 (.xint 0) (.var 24) (.var 23)) (.c2 (.xint 0) o_comp_1 (.var 23))))),bt 1001 (.arith .add .i64 (.var 23) (.lit 1)),bt 1000 o_comp_1])) .top)))
 (.ret 0 (sg 4 [bv 4 24]))))))))))))))))))))))))))))))))))))
theorem o_comp_eq:treeOf ⟨Tryz.prog,compC,[rot32C],[compA,compB,compD,compE]⟩ 100000 Tryz.f129 = o_comp:=by kernel_rfl
theorem comp_of (hd:∀ c ∈ ([rot32C]:List Ctr),c.ok Tryz.prog) (h:∀ ρ:Env,ρ.good→(compC).pre ρ→o_comp.den ⟨Tryz.prog,compC,[rot32C],[compA,compB,compD,compE]⟩ ρ):(compC).ok Tryz.prog :=
 ok_of_tree Tryz.func129 (fun a w=>Tryz.call129 a w) hd 100000 (fun ρ hg hp=>by rw [o_comp_eq]; exact h ρ hg hp)
def o_newHash:Out:=(.fresh 0 (.ret 0 (sg 0 [bt 1 (.rcons (.vint .u32 (.lit 1779033703)) (.rcons (.vint .u32 (.lit 3144134277)) (.rcons (.vint .u32 (.lit 1013904242)) (.rcons (.vint .u32 (.lit 2773480762)) (.rcons (.vint .u32 (.lit 1359893119)) (.rcons (.vint .u32 (.lit 2600822924)) (.rcons (.vint .u32 (.lit 528734635)) (.rcons (.vint .u32 (.lit 1541459225)) (.rcons o8 (.rcons o8 (.rcons o8 (.rcons o8 (.rcons o8 (.rcons o8 (.rcons o8 (.rcons o8 (.rcons o8 (.rcons o8 (.rcons o8 (.rcons o8 (.rcons o8 (.rcons o8 (.rcons o8 (.rcons o8 (.rcons o8 (.rcons o8 (.rcons o8 (.rcons o8 (.rcons o8 (.rcons o8 (.rcons o8 (.rcons o8 (.rcons o8 (.rcons o8 (.rcons o8 (.rcons o8 (.rcons o8 (.rcons o8 (.rcons o8 (.rcons o8 (.rcons o8 (.rcons o8 (.rcons o8 (.rcons o8 (.rcons o8 (.rcons o8 (.rcons o8 (.rcons o8 (.rcons o8 (.rcons o8 (.rcons o8 (.rcons o8 (.rcons o8 (.rcons o8 (.rcons o8 (.rcons o8 (.rcons o8 (.rcons o8 (.rcons o8 (.rcons o8 (.rcons o8 (.rcons o8 (.rcons o8 (.rcons o8 (.rcons o8 (.rcons o8 (.rcons o8 (.rcons o8 (.rcons o8 (.rcons o8 (.rcons o8 (.rcons o8 (.rcons (.vint .i64 (.lit 0)) .rnil))))))))))))))))))))))))))))))))))))))))))))))))))))))))))))))))))))))))),bg 0 0])))
theorem o_newHash_eq:treeOf ⟨Tryz.prog,newHashC,[],[]⟩ 100000 Tryz.f96 = o_newHash:=by kernel_rfl
theorem newHash_of (hd:∀ c ∈ ([]:List Ctr),c.ok Tryz.prog) (h:∀ ρ:Env,ρ.good→(newHashC).pre ρ→o_newHash.den ⟨Tryz.prog,newHashC,[],[]⟩ ρ):(newHashC).ok Tryz.prog :=
 ok_of_tree Tryz.func96 (fun a w=>Tryz.call96 a w) hd 100000 (fun ρ hg hp=>by rw [o_newHash_eq]; exact h ρ hg hp)
@[simp] def o_write_5:T:=.dtake (.dtake (.ddrop (.var 6) (.var 10)) (.var 11)) (.imin (.minus (.lit 64) (.arith .rem .i64 (.icell (.var 13) (.lit 0) 72) (.lit 64))) (.var 11))
@[simp] def o_write_4:T:=.ife (.lit 64) (.arith .rem .i64 (.icell (.var 13) (.lit 0) 72) (.lit 64)) (.lit 8) (.plus (.lit 8) (.arith .rem .i64 (.icell (.var 13) (.lit 0) 72) (.lit 64)))
@[simp] def o_write_3:T:=.ife (.var 12) (.imin (.minus (.lit 64) (.arith .rem .i64 (.icell (.var 13) (.lit 0) 72) (.lit 64))) (.var 11)) (.var 10) (.plus (.var 10) (.imin (.minus (.lit 64) (.arith .rem .i64 (.icell (.var 13) (.lit 0) 72) (.lit 64))) (.var 11)))
@[simp] def o_write_2:T:=.c3 .xcopy (.var 13) o_write_4 o_write_5
@[simp] def o_write_1:Sg:=sg 0 [bv 3 9,bt 1 (.dput (.c3 .xcopy (.var 13) o_write_4 o_write_5) (.lit 0) 72 (.rcons (.vint .i64 (.arith .add .i64 (.icell (.c3 .xcopy (.var 13) o_write_4 o_write_5) (.lit 0) 72) (.imin (.minus (.lit 64) (.arith .rem .i64 (.icell (.var 13) (.lit 0) 72) (.lit 64))) (.var 11)))) .rnil)),bg 0 0,bg 2 8]
def o_write:Out:=(.br (.and (.cmp .eql (.dlen (.var 1)) (.lit 0)) (.isnil 0))
 (.ret 0 (sg 10 [bv 10 1]))
 (.inv 0 10 (sg 1000 [bv 1003 1,bv 1002 5,bv 1001 4,bv 1000 3]) (.fresh 10 (.fresh 11 (.fresh 12 (.fresh 13 (.hyp 0 10 (.need (.cmp .leq (.lit 0) (.var 11)) (.br (.cmp .gtr (.var 11) (.lit 0))
 (.need (.cmp .lss (.lit 0) (.dlen (.var 13))) (.need (.cmp .leq (.lit 0) (.arith .rem .i64 (.icell (.var 13) (.lit 0) 72) (.lit 64))) (.need (.cmp .leq (.arith .rem .i64 (.icell (.var 13) (.lit 0) 72) (.lit 64)) (.lit 64)) (.need (.cmp .neq (.lit 64) (.arith .rem .i64 (.icell (.var 13) (.lit 0) 72) (.lit 64))) (.need (.cmp .leq (.lit 0) (.minus (.lit 64) (.arith .rem .i64 (.icell (.var 13) (.lit 0) 72) (.lit 64)))) (.need (.cmp .leq (.plus (.arith .rem .i64 (.icell (.var 13) (.lit 0) 72) (.lit 64)) (.minus (.lit 64) (.arith .rem .i64 (.icell (.var 13) (.lit 0) 72) (.lit 64)))) (.lit 64)) (.need (.cmp .leq (.lit 0) (.var 10)) (.need (.cmp .leq (.plus (.var 10) (.var 11)) (.dlen (.var 6))) (.fresh 14 (.need (.cmp .leq (.lit 0) (.var 12)) (.need (.cmp .leq (.lit 0) (.imin (.minus (.lit 64) (.arith .rem .i64 (.icell (.var 13) (.lit 0) 72) (.lit 64))) (.var 11))) (.need (.cmp .leq (.imin (.minus (.lit 64) (.arith .rem .i64 (.icell (.var 13) (.lit 0) 72) (.lit 64))) (.var 11)) (.var 11)) (.need (.cmp .leq (.var 11) (.var 12)) (.br (.cmp .eql (.arith .add .i64 (.arith .rem .i64 (.icell (.var 13) (.lit 0) 72) (.lit 64)) (.imin (.minus (.lit 64) (.arith .rem .i64 (.icell (.var 13) (.lit 0) 72) (.lit 64))) (.var 11))) (.lit 64))
 (.pre 0 o_write_1 (.both (.fresh 15 (.post 0 0 o_write_1 15 (.back 0 10 (sg 1000 [bv 1003 15,bt 1002 (.minus (.var 12) (.imin (.minus (.lit 64) (.arith .rem .i64 (.icell (.var 13) (.lit 0) 72) (.lit 64))) (.var 11))),bt 1001 (.minus (.var 11) (.imin (.minus (.lit 64) (.arith .rem .i64 (.icell (.var 13) (.lit 0) 72) (.lit 64))) (.var 11))),bt 1000 o_write_3])))) .top))
 (.back 0 10 (sg 1000 [bt 1003 (.dput o_write_2 (.lit 0) 72 (.rcons (.vint .i64 (.arith .add .i64 (.icell o_write_2 (.lit 0) 72) (.imin (.minus (.lit 64) (.arith .rem .i64 (.icell (.var 13) (.lit 0) 72) (.lit 64))) (.var 11)))) .rnil)),bt 1002 (.minus (.var 12) (.imin (.minus (.lit 64) (.arith .rem .i64 (.icell (.var 13) (.lit 0) 72) (.lit 64))) (.var 11))),bt 1001 (.minus (.var 11) (.imin (.minus (.lit 64) (.arith .rem .i64 (.icell (.var 13) (.lit 0) 72) (.lit 64))) (.var 11))),bt 1000 o_write_3]))))))))))))))))
 (.ret 0 (sg 10 [bv 10 13])))))))))))
theorem o_write_eq:treeOf ⟨Tryz.prog,writeC,[compC],[writeI]⟩ 100000 Tryz.f97 = o_write:=by kernel_rfl
theorem write_of (hd:∀ c ∈ ([compC]:List Ctr),c.ok Tryz.prog) (h:∀ ρ:Env,ρ.good→(writeC).pre ρ→o_write.den ⟨Tryz.prog,writeC,[compC],[writeI]⟩ ρ):(writeC).ok Tryz.prog :=
 ok_of_tree Tryz.func97 (fun a w=>Tryz.call97 a w) hd 100000 (fun ρ hg hp=>by rw [o_write_eq]; exact h ρ hg hp)
@[simp] def o_write72_5:T:=.dtake (.c3 .xrows (.var 5) (.var 8) (.var 9)) (.imin (.minus (.lit 64) (.arith .rem .i64 (.icell (.var 11) (.lit 0) 72) (.lit 64))) (.var 9))
@[simp] def o_write72_4:T:=.ife (.lit 64) (.arith .rem .i64 (.icell (.var 11) (.lit 0) 72) (.lit 64)) (.lit 8) (.plus (.lit 8) (.arith .rem .i64 (.icell (.var 11) (.lit 0) 72) (.lit 64)))
@[simp] def o_write72_3:T:=.ife (.var 10) (.imin (.minus (.lit 64) (.arith .rem .i64 (.icell (.var 11) (.lit 0) 72) (.lit 64))) (.var 9)) (.var 8) (.plus (.var 8) (.imin (.minus (.lit 64) (.arith .rem .i64 (.icell (.var 11) (.lit 0) 72) (.lit 64))) (.var 9)))
@[simp] def o_write72_2:T:=.c3 .xcopy (.var 11) o_write72_4 o_write72_5
@[simp] def o_write72_1:Sg:=sg 0 [bv 3 7,bt 1 (.dput (.c3 .xcopy (.var 11) o_write72_4 o_write72_5) (.lit 0) 72 (.rcons (.vint .i64 (.arith .add .i64 (.icell (.c3 .xcopy (.var 11) o_write72_4 o_write72_5) (.lit 0) 72) (.imin (.minus (.lit 64) (.arith .rem .i64 (.icell (.var 11) (.lit 0) 72) (.lit 64))) (.var 9)))) .rnil)),bg 0 0,bg 2 6]
def o_write72:Out:=(.br (.and (.cmp .eql (.dlen (.var 1)) (.lit 0)) (.isnil 0))
 (.ret 0 (sg 8 [bv 8 1]))
 (.inv 0 8 (sg 1000 [bv 1003 1,bv 1002 4,bv 1001 3,bt 1000 (.lit 0)]) (.fresh 8 (.fresh 9 (.fresh 10 (.fresh 11 (.hyp 0 8 (.need (.cmp .leq (.lit 0) (.var 9)) (.br (.cmp .gtr (.var 9) (.lit 0))
 (.need (.cmp .lss (.lit 0) (.dlen (.var 11))) (.need (.cmp .leq (.lit 0) (.arith .rem .i64 (.icell (.var 11) (.lit 0) 72) (.lit 64))) (.need (.cmp .leq (.arith .rem .i64 (.icell (.var 11) (.lit 0) 72) (.lit 64)) (.lit 64)) (.need (.cmp .neq (.lit 64) (.arith .rem .i64 (.icell (.var 11) (.lit 0) 72) (.lit 64))) (.need (.cmp .leq (.lit 0) (.minus (.lit 64) (.arith .rem .i64 (.icell (.var 11) (.lit 0) 72) (.lit 64)))) (.need (.cmp .leq (.plus (.arith .rem .i64 (.icell (.var 11) (.lit 0) 72) (.lit 64)) (.minus (.lit 64) (.arith .rem .i64 (.icell (.var 11) (.lit 0) 72) (.lit 64)))) (.lit 64)) (.need (.cmp .leq (.lit 0) (.var 8)) (.need (.cmp .leq (.plus (.var 8) (.var 9)) (.lit 72)) (.need (.cmp .lss (.lit 0) (.dlen (.var 5))) (.fresh 12 (.need (.cmp .leq (.lit 0) (.var 10)) (.need (.cmp .leq (.lit 0) (.imin (.minus (.lit 64) (.arith .rem .i64 (.icell (.var 11) (.lit 0) 72) (.lit 64))) (.var 9))) (.need (.cmp .leq (.imin (.minus (.lit 64) (.arith .rem .i64 (.icell (.var 11) (.lit 0) 72) (.lit 64))) (.var 9)) (.var 9)) (.need (.cmp .leq (.var 9) (.var 10)) (.br (.cmp .eql (.arith .add .i64 (.arith .rem .i64 (.icell (.var 11) (.lit 0) 72) (.lit 64)) (.imin (.minus (.lit 64) (.arith .rem .i64 (.icell (.var 11) (.lit 0) 72) (.lit 64))) (.var 9))) (.lit 64))
 (.pre 0 o_write72_1 (.both (.fresh 13 (.post 0 0 o_write72_1 13 (.back 0 8 (sg 1000 [bv 1003 13,bt 1002 (.minus (.var 10) (.imin (.minus (.lit 64) (.arith .rem .i64 (.icell (.var 11) (.lit 0) 72) (.lit 64))) (.var 9))),bt 1001 (.minus (.var 9) (.imin (.minus (.lit 64) (.arith .rem .i64 (.icell (.var 11) (.lit 0) 72) (.lit 64))) (.var 9))),bt 1000 o_write72_3])))) .top))
 (.back 0 8 (sg 1000 [bt 1003 (.dput o_write72_2 (.lit 0) 72 (.rcons (.vint .i64 (.arith .add .i64 (.icell o_write72_2 (.lit 0) 72) (.imin (.minus (.lit 64) (.arith .rem .i64 (.icell (.var 11) (.lit 0) 72) (.lit 64))) (.var 9)))) .rnil)),bt 1002 (.minus (.var 10) (.imin (.minus (.lit 64) (.arith .rem .i64 (.icell (.var 11) (.lit 0) 72) (.lit 64))) (.var 9))),bt 1001 (.minus (.var 9) (.imin (.minus (.lit 64) (.arith .rem .i64 (.icell (.var 11) (.lit 0) 72) (.lit 64))) (.var 9))),bt 1000 o_write72_3])))))))))))))))))
 (.ret 0 (sg 8 [bv 8 11])))))))))))
theorem o_write72_eq:treeOf ⟨Tryz.prog,write72C,[compC],[write72I]⟩ 100000 Tryz.f97 = o_write72:=by kernel_rfl
theorem write72_of (hd:∀ c ∈ ([compC]:List Ctr),c.ok Tryz.prog) (h:∀ ρ:Env,ρ.good→(write72C).pre ρ→o_write72.den ⟨Tryz.prog,write72C,[compC],[write72I]⟩ ρ):(write72C).ok Tryz.prog :=
 ok_of_tree Tryz.func97 (fun a w=>Tryz.call97 a w) hd 100000 (fun ρ hg hp=>by rw [o_write72_eq]; exact h ρ hg hp)
@[simp] def o_sum_1:Sg:=sg 0 [bv 7 3,bv 5 12,bv 1 10,bt 4 (.lit 72),bt 3 (.arith .add .i64 (.var 13) (.lit 8)),bg 2 11,bg 0 9,bg 6 2]
def o_sum:Out:=(.fresh 4 (.br (.and (.cmp .eql (.dlen (.var 1)) (.lit 0)) (.isnil 0))
 (.ret 0 (sg 4 [bt 4 z8]))
 (.need (.cmp .lss (.lit 0) (.dlen (.var 1))) (.fresh 5 (.fresh 6 (.inv 0 7 (sg 1000 [bt 1005 (.rcons (.vint .u8 (.lit 128)) (.rcons o8 (.rcons o8 (.rcons o8 (.rcons o8 (.rcons o8 (.rcons o8 (.rcons o8 (.rcons o8 (.rcons o8 (.rcons o8 (.rcons o8 (.rcons o8 (.rcons o8 (.rcons o8 (.rcons o8 (.rcons o8 (.rcons o8 (.rcons o8 (.rcons o8 (.rcons o8 (.rcons o8 (.rcons o8 (.rcons o8 (.rcons o8 (.rcons o8 (.rcons o8 (.rcons o8 (.rcons o8 (.rcons o8 (.rcons o8 (.rcons o8 (.rcons o8 (.rcons o8 (.rcons o8 (.rcons o8 (.rcons o8 (.rcons o8 (.rcons o8 (.rcons o8 z8)))))))))))))))))))))))))))))))))))))))),bt 1003 (.rcons (.vint .u32 (.icell (.var 1) (.lit 0) 0)) (.rcons (.vint .u32 (.icell (.var 1) (.lit 0) 1)) (.rcons (.vint .u32 (.icell (.var 1) (.lit 0) 2)) (.rcons (.vint .u32 (.icell (.var 1) (.lit 0) 3)) (.rcons (.vint .u32 (.icell (.var 1) (.lit 0) 4)) (.rcons (.vint .u32 (.icell (.var 1) (.lit 0) 5)) (.rcons (.vint .u32 (.icell (.var 1) (.lit 0) 6)) (.rcons (.vint .u32 (.icell (.var 1) (.lit 0) 7)) (.rcons (.vint .u8 (.icell (.var 1) (.lit 0) 8)) (.rcons (.vint .u8 (.icell (.var 1) (.lit 0) 9)) (.rcons (.vint .u8 (.icell (.var 1) (.lit 0) 10)) (.rcons (.vint .u8 (.icell (.var 1) (.lit 0) 11)) (.rcons (.vint .u8 (.icell (.var 1) (.lit 0) 12)) (.rcons (.vint .u8 (.icell (.var 1) (.lit 0) 13)) (.rcons (.vint .u8 (.icell (.var 1) (.lit 0) 14)) (.rcons (.vint .u8 (.icell (.var 1) (.lit 0) 15)) (.rcons (.vint .u8 (.icell (.var 1) (.lit 0) 16)) (.rcons (.vint .u8 (.icell (.var 1) (.lit 0) 17)) (.rcons (.vint .u8 (.icell (.var 1) (.lit 0) 18)) (.rcons (.vint .u8 (.icell (.var 1) (.lit 0) 19)) (.rcons (.vint .u8 (.icell (.var 1) (.lit 0) 20)) (.rcons (.vint .u8 (.icell (.var 1) (.lit 0) 21)) (.rcons (.vint .u8 (.icell (.var 1) (.lit 0) 22)) (.rcons (.vint .u8 (.icell (.var 1) (.lit 0) 23)) (.rcons (.vint .u8 (.icell (.var 1) (.lit 0) 24)) (.rcons (.vint .u8 (.icell (.var 1) (.lit 0) 25)) (.rcons (.vint .u8 (.icell (.var 1) (.lit 0) 26)) (.rcons (.vint .u8 (.icell (.var 1) (.lit 0) 27)) (.rcons (.vint .u8 (.icell (.var 1) (.lit 0) 28)) (.rcons (.vint .u8 (.icell (.var 1) (.lit 0) 29)) (.rcons (.vint .u8 (.icell (.var 1) (.lit 0) 30)) (.rcons (.vint .u8 (.icell (.var 1) (.lit 0) 31)) (.rcons (.vint .u8 (.icell (.var 1) (.lit 0) 32)) (.rcons (.vint .u8 (.icell (.var 1) (.lit 0) 33)) (.rcons (.vint .u8 (.icell (.var 1) (.lit 0) 34)) (.rcons (.vint .u8 (.icell (.var 1) (.lit 0) 35)) (.rcons (.vint .u8 (.icell (.var 1) (.lit 0) 36)) (.rcons (.vint .u8 (.icell (.var 1) (.lit 0) 37)) (.rcons (.vint .u8 (.icell (.var 1) (.lit 0) 38)) (.rcons (.vint .u8 (.icell (.var 1) (.lit 0) 39)) (.rcons (.vint .u8 (.icell (.var 1) (.lit 0) 40)) (.rcons (.vint .u8 (.icell (.var 1) (.lit 0) 41)) (.rcons (.vint .u8 (.icell (.var 1) (.lit 0) 42)) (.rcons (.vint .u8 (.icell (.var 1) (.lit 0) 43)) (.rcons (.vint .u8 (.icell (.var 1) (.lit 0) 44)) (.rcons (.vint .u8 (.icell (.var 1) (.lit 0) 45)) (.rcons (.vint .u8 (.icell (.var 1) (.lit 0) 46)) (.rcons (.vint .u8 (.icell (.var 1) (.lit 0) 47)) (.rcons (.vint .u8 (.icell (.var 1) (.lit 0) 48)) (.rcons (.vint .u8 (.icell (.var 1) (.lit 0) 49)) (.rcons (.vint .u8 (.icell (.var 1) (.lit 0) 50)) (.rcons (.vint .u8 (.icell (.var 1) (.lit 0) 51)) (.rcons (.vint .u8 (.icell (.var 1) (.lit 0) 52)) (.rcons (.vint .u8 (.icell (.var 1) (.lit 0) 53)) (.rcons (.vint .u8 (.icell (.var 1) (.lit 0) 54)) (.rcons (.vint .u8 (.icell (.var 1) (.lit 0) 55)) (.rcons (.vint .u8 (.icell (.var 1) (.lit 0) 56)) (.rcons (.vint .u8 (.icell (.var 1) (.lit 0) 57)) (.rcons (.vint .u8 (.icell (.var 1) (.lit 0) 58)) (.rcons (.vint .u8 (.icell (.var 1) (.lit 0) 59)) (.rcons (.vint .u8 (.icell (.var 1) (.lit 0) 60)) (.rcons (.vint .u8 (.icell (.var 1) (.lit 0) 61)) (.rcons (.vint .u8 (.icell (.var 1) (.lit 0) 62)) (.rcons (.vint .u8 (.icell (.var 1) (.lit 0) 63)) (.rcons (.vint .u8 (.icell (.var 1) (.lit 0) 64)) (.rcons (.vint .u8 (.icell (.var 1) (.lit 0) 65)) (.rcons (.vint .u8 (.icell (.var 1) (.lit 0) 66)) (.rcons (.vint .u8 (.icell (.var 1) (.lit 0) 67)) (.rcons (.vint .u8 (.icell (.var 1) (.lit 0) 68)) (.rcons (.vint .u8 (.icell (.var 1) (.lit 0) 69)) (.rcons (.vint .u8 (.icell (.var 1) (.lit 0) 70)) (.rcons (.vint .u8 (.icell (.var 1) (.lit 0) 71)) (.rcons (.vint .i64 (.icell (.var 1) (.lit 0) 72)) .rnil))))))))))))))))))))))))))))))))))))))))))))))))))))))))))))))))))))))))),bt 1008 (.lit 0),bt 1007 (.arith .mul .u64 (.conv .u64 (.icell (.var 1) (.lit 0) 72)) (.lit 8)),bt 1006 (.arith .sub .i64 (.lit 64) (.arith .rem .i64 (.arith .add .i64 (.icell (.var 1) (.lit 0) 72) (.lit 8)) (.lit 64))),bg 1004 6,bg 1002 5,bg 1000 4]) (.fresh 7 (.fresh 8 (.fresh 9 (.fresh 10 (.fresh 11 (.fresh 12 (.fresh 13 (.fresh 14 (.fresh 15 (.hyp 0 7 (.br (.cmp .lss (.var 15) (.lit 8))
 (.need (.cmp .geq (.arith .sub .i64 (.lit 56) (.arith .mul .i64 (.lit 8) (.var 15))) (.lit 0)) (.need (.cmp .leq (.lit 0) (.arith .add .i64 (.var 13) (.var 15))) (.need (.cmp .lss (.arith .add .i64 (.var 13) (.var 15)) (.lit 72)) (.need (.cmp .lss (.lit 0) (.dlen (.var 12))) (.back 0 7 (sg 1000 [bt 1005 (.c3 (.xput 0) (.var 12) (.arith .add .i64 (.var 13) (.var 15)) (.vint .u8 (.conv .u8 (.arith .shr .u64 (.var 14) (.arith .sub .i64 (.lit 56) (.arith .mul .i64 (.lit 8) (.var 15))))))),bv 1003 10,bt 1008 (.arith .add .i64 (.var 15) (.lit 1)),bv 1007 14,bv 1006 13,bg 1004 11,bg 1002 9,bg 1000 7]))))))
 (.need (.cmp .leq (.lit 0) (.arith .add .i64 (.var 13) (.lit 8))) (.need (.cmp .leq (.arith .add .i64 (.var 13) (.lit 8)) (.lit 72)) (.need (.cmp .lss (.lit 0) (.dlen (.var 12))) (.pre 0 o_sum_1 (.both (.fresh 16 (.post 0 0 o_sum_1 16 (.fresh 17 (.inv 1 18 (sg 1000 [bt 1005 z8,bv 1003 16,bt 1006 (.lit 0),bg 1004 17,bg 1002 9,bg 1000 7]) (.fresh 18 (.fresh 19 (.fresh 20 (.fresh 21 (.fresh 22 (.fresh 23 (.fresh 24 (.hyp 1 18 (.br (.cmp .lss (.var 24) (.lit 32))
 (.need (.cmp .lss (.lit 0) (.dlen (.var 21))) (.need (.cmp .leq (.lit 0) (.arith .quo .i64 (.var 24) (.lit 4))) (.need (.cmp .lss (.arith .quo .i64 (.var 24) (.lit 4)) (.lit 8)) (.need (.cmp .geq (.arith .sub .i64 (.lit 24) (.arith .mul .i64 (.lit 8) (.arith .rem .i64 (.var 24) (.lit 4)))) (.lit 0)) (.need (.cmp .leq (.lit 0) (.var 24)) (.need (.cmp .lss (.lit 0) (.dlen (.var 23))) (.back 1 18 (sg 1000 [bt 1005 (.c3 (.xput 0) (.var 23) (.var 24) (.vint .u8 (.conv .u8 (.arith .shr .u32 (.c2 (.xint 0) (.var 21) (.arith .quo .i64 (.var 24) (.lit 4))) (.arith .sub .i64 (.lit 24) (.arith .mul .i64 (.lit 8) (.arith .rem .i64 (.var 24) (.lit 4)))))))),bv 1003 21,bt 1006 (.arith .add .i64 (.var 24) (.lit 1)),bg 1004 22,bg 1002 20,bg 1000 18]))))))))
 (.need (.cmp .lss (.lit 0) (.dlen (.var 23))) (.ret 0 (sg 4 [bt 4 (.rcons (.vint .u8 (.icell (.var 23) (.lit 0) 0)) (.rcons (.vint .u8 (.icell (.var 23) (.lit 0) 1)) (.rcons (.vint .u8 (.icell (.var 23) (.lit 0) 2)) (.rcons (.vint .u8 (.icell (.var 23) (.lit 0) 3)) (.rcons (.vint .u8 (.icell (.var 23) (.lit 0) 4)) (.rcons (.vint .u8 (.icell (.var 23) (.lit 0) 5)) (.rcons (.vint .u8 (.icell (.var 23) (.lit 0) 6)) (.rcons (.vint .u8 (.icell (.var 23) (.lit 0) 7)) (.rcons (.vint .u8 (.icell (.var 23) (.lit 0) 8)) (.rcons (.vint .u8 (.icell (.var 23) (.lit 0) 9)) (.rcons (.vint .u8 (.icell (.var 23) (.lit 0) 10)) (.rcons (.vint .u8 (.icell (.var 23) (.lit 0) 11)) (.rcons (.vint .u8 (.icell (.var 23) (.lit 0) 12)) (.rcons (.vint .u8 (.icell (.var 23) (.lit 0) 13)) (.rcons (.vint .u8 (.icell (.var 23) (.lit 0) 14)) (.rcons (.vint .u8 (.icell (.var 23) (.lit 0) 15)) (.rcons (.vint .u8 (.icell (.var 23) (.lit 0) 16)) (.rcons (.vint .u8 (.icell (.var 23) (.lit 0) 17)) (.rcons (.vint .u8 (.icell (.var 23) (.lit 0) 18)) (.rcons (.vint .u8 (.icell (.var 23) (.lit 0) 19)) (.rcons (.vint .u8 (.icell (.var 23) (.lit 0) 20)) (.rcons (.vint .u8 (.icell (.var 23) (.lit 0) 21)) (.rcons (.vint .u8 (.icell (.var 23) (.lit 0) 22)) (.rcons (.vint .u8 (.icell (.var 23) (.lit 0) 23)) (.rcons (.vint .u8 (.icell (.var 23) (.lit 0) 24)) (.rcons (.vint .u8 (.icell (.var 23) (.lit 0) 25)) (.rcons (.vint .u8 (.icell (.var 23) (.lit 0) 26)) (.rcons (.vint .u8 (.icell (.var 23) (.lit 0) 27)) (.rcons (.vint .u8 (.icell (.var 23) (.lit 0) 28)) (.rcons (.vint .u8 (.icell (.var 23) (.lit 0) 29)) (.rcons (.vint .u8 (.icell (.var 23) (.lit 0) 30)) (.rcons (.vint .u8 (.icell (.var 23) (.lit 0) 31)) .rnil))))))))))))))))))))))))))))))))])))))))))))))))) .top))))))))))))))))))))))
theorem o_sum_eq:treeOf ⟨Tryz.prog,sumC,[write72C],[sumI,sumJ]⟩ 100000 Tryz.f98 = o_sum:=by kernel_rfl
theorem sum_of (hd:∀ c ∈ ([write72C]:List Ctr),c.ok Tryz.prog) (h:∀ ρ:Env,ρ.good→(sumC).pre ρ→o_sum.den ⟨Tryz.prog,sumC,[write72C],[sumI,sumJ]⟩ ρ):(sumC).ok Tryz.prog :=
 ok_of_tree Tryz.func98 (fun a w=>Tryz.call98 a w) hd 100000 (fun ρ hg hp=>by rw [o_sum_eq]; exact h ρ hg hp)
def o_sha256:Out:=(.fresh 8 (.pre 0 (sg 0 []) (.both (.fresh 9 (.fresh 10 (.post 0 0 (sg 0 []) 9 (.pre 1 (sg 0 [bv 9 7,bv 7 5,bv 6 4,bv 1 10,bv 5 3,bv 4 2,bv 3 1,bg 2 0,bg 0 9,bg 8 6]) (.both (.fresh 11 (.post 1 0 (sg 0 [bv 9 7,bv 7 5,bv 6 4,bv 1 10,bv 5 3,bv 4 2,bv 3 1,bg 2 0,bg 0 9,bg 8 6]) 11 (.pre 2 (sg 0 [bv 3 7,bv 1 11,bg 0 9,bg 2 6]) (.both (.fresh 12 (.post 2 0 (sg 0 [bv 3 7,bv 1 11,bg 0 9,bg 2 6]) 12 (.ret 0 (sg 8 [bt 8 (r8 12)])))) .top)))) .top))))) .top)))
theorem o_sha256_eq:treeOf ⟨Tryz.prog,sha256C,[newHashC,writeC,sumC],[]⟩ 100000 Tryz.f59 = o_sha256:=by kernel_rfl
theorem sha256_of (hd:∀ c ∈ ([newHashC,writeC,sumC]:List Ctr),c.ok Tryz.prog) (h:∀ ρ:Env,ρ.good→(sha256C).pre ρ→o_sha256.den ⟨Tryz.prog,sha256C,[newHashC,writeC,sumC],[]⟩ ρ):(sha256C).ok Tryz.prog :=
 ok_of_tree Tryz.func59 (fun a w=>Tryz.call59 a w) hd 100000 (fun ρ hg hp=>by rw [o_sha256_eq]; exact h ρ hg hp)
end Go.Proofs

set_option linter.unusedSimpArgs false
set_option linter.unusedVariables false
namespace Go.Proofs
open Go Go.Eng
theorem rot32_ok:rot32C.ok Tryz.prog:=rot32_of (by simp) fun ρ hg hp=>by
 obtain ⟨hx,n,n1,n2,hn⟩:=hp
 simp [o_rot32,rot32C,rotPost]
 rw [hn]
 have e1:=neg31 ⟨n - 1,by omega⟩
 have e2:=sub31 ⟨n - 1,by omega⟩
 simp only [] at e1 e2
 have e3:(((n - 1:Nat):Int) + 1) = (n:Int):=by omega
 rw [e3] at e1 e2
 rw [e1]
 refine ⟨by omega,by rw [e2]; omega,fun k k1 k2 hk=>?_⟩
 obtain rfl:k = n:=by omega
 rw [← e1]
 exact rot_int hx n1 n2
set_option maxRecDepth 20000 in
set_option pp.deepTerms true in
set_option pp.maxSteps 1000000 in
theorem comp_ok:compC.ok Tryz.prog:=comp_of (by simp [rot32_ok]) fun ρ hg hp=>by
 obtain ⟨hh,hgr,hgd⟩:=hp
 simp (config:={ maxSteps:=2000000 }) [o_comp,compC,compA,compB,compD,compE,rot32C,rotPost,st8,st8W]
 refine ⟨⟨⟨_,rfl,rfl⟩,fun j hj=>absurd hj (by omega)⟩,fun w _ n _ a0 a1 hA=>⟨fun hlt=>?_,fun hge=>⟨?_,fun w _ n _ b0 b1 hB=>⟨fun hlt=>?_,fun hge=>⟨?_,⟨?_,?_,?_⟩,?_⟩⟩⟩⟩⟩
 ·obtain ⟨t,ht⟩:∃ t:Nat,n.i = t:=⟨n.i.toNat,by omega⟩
  have m0:arithOf .mul .i64 4 n.i = ((4 * t:Nat):Int):=by rw [mul64 (by omega) (by omega)]; omega
  have m1:arithOf .add .i64 (arithOf .mul .i64 4 n.i) 1 = ((4 * t + 1:Nat):Int):=by rw [m0,add64 (by omega) (by omega)]; omega
  have m2:arithOf .add .i64 (arithOf .mul .i64 4 n.i) 2 = ((4 * t + 2:Nat):Int):=by rw [m0,add64 (by omega) (by omega)]; omega
  have m3:arithOf .add .i64 (arithOf .mul .i64 4 n.i) 3 = ((4 * t + 3:Nat):Int):=by rw [m0,add64 (by omega) (by omega)]; omega
  have m5:arithOf .add .i64 n.i 1 = ((t + 1:Nat):Int):=by rw [add64 (by omega) (by omega)]; omega
  rw [m1,m2,m3,m0,m5]
  rw [ht,Int.toNat_natCast] at hA
  rw [ht]
  simp only [Int.toNat_natCast]
  have e1:=oneRow_len hh.1
  have e2:=oneRow_len hA.1
  refine ⟨by omega,by omega,by omega,by omega,by omega,by omega,by omega,by omega,by omega,by omega,by omega,by omega,⟨by omega,by omega,wordIs_put hA (by omega) ?_⟩,by omega⟩
  rw [be32_int,schedL_low (by rw [blkW_len]; omega),blkW_get (by omega),Nat.add_comm (4 * t) 8,Nat.add_comm (4 * t + 1) 8,Nat.add_comm (4 * t + 2) 8,Nat.add_comm (4 * t + 3) 8]
 ·have:n.i = 16:=by omega
  rw [this] at hA; exact hA
 ·obtain ⟨t,ht⟩:∃ t:Nat,n.i = ((16 + t:Nat):Int):=⟨n.i.toNat - 16,by omega⟩
  have m15:arithOf .sub .i64 n.i 15 = ((1 + t:Nat):Int):=by rw [sub64 (by omega) (by omega)]; omega
  have m2:arithOf .sub .i64 n.i 2 = ((14 + t:Nat):Int):=by rw [sub64 (by omega) (by omega)]; omega
  have m16:arithOf .sub .i64 n.i 16 = (t:Int):=by rw [sub64 (by omega) (by omega)]; omega
  have m7:arithOf .sub .i64 n.i 7 = ((9 + t:Nat):Int):=by rw [sub64 (by omega) (by omega)]; omega
  have m5:arithOf .add .i64 n.i 1 = ((16 + t + 1:Nat):Int):=by rw [add64 (by omega) (by omega)]; omega
  rw [m15,m2,m16,m7,m5]
  rw [ht,Int.toNat_natCast] at hB
  rw [ht]
  simp only [Int.toNat_natCast]
  have e2:=oneRow_len hB.1
  refine ⟨by omega,by omega,by omega,by omega,by omega,⟨wordIs_isW hB (by omega),7,by omega,by omega,rfl⟩,fun r1 _ g1=>⟨⟨wordIs_isW hB (by omega),18,by omega,by omega,rfl⟩,fun r2 _ g2=>⟨⟨wordIs_isW hB (by omega),17,by omega,by omega,rfl⟩,fun r3 _ g3=>⟨⟨wordIs_isW hB (by omega),19,by omega,by omega,rfl⟩,fun r4 _ g4=>⟨by omega,by omega,by omega,by omega,by omega,⟨by omega,by omega,wordIs_put hB (by omega) ?_⟩,by omega⟩⟩⟩⟩⟩
  rw [g1 7 (by omega) (by omega) rfl,g2 18 (by omega) (by omega) rfl,g3 17 (by omega) (by omega) rfl,g4 19 (by omega) (by omega) rfl]
  rw [shr3 (wordIs_isW hB (by omega)),shr10 (wordIs_isW hB (by omega))]
  simp only [add32,xor32,toW_ofW]
  rw [toW_word hB (by omega:1 + t < 16 + t),toW_word hB (by omega:14 + t < 16 + t),toW_word hB (by omega:t < 16 + t),toW_word hB (by omega:9 + t < 16 + t),schedL_step blkW_len (by omega)]
  generalize (schedL (blkW (ρ 1).d) 48).getD (1 + t) 0 = p1
  generalize (schedL (blkW (ρ 1).d) 48).getD (14 + t) 0 = p14
  generalize (schedL (blkW (ρ 1).d) 48).getD (9 + t) 0 = p9
  generalize (schedL (blkW (ρ 1).d) 48).getD t 0 = p0
  refine congrArg ofW ?_
  simp only [sg0,sg1]
  ac_rfl
 ·rw [oneRow_len hh.1]; decide
 ·have:n.i = 64:=by omega
  rw [this] at hB; exact hB
 ·simp only [cellI_0]
  exact ⟨hh.2.1 0 (by omega),hh.2.1 1 (by omega),hh.2.1 2 (by omega),hh.2.1 3 (by omega),hh.2.1 4 (by omega),hh.2.1 5 (by omega),hh.2.1 6 (by omega),hh.2.1 7 (by omega)⟩
 ·simp only [cellI_0]; rfl
 ·intro w _ n _ A _ B _ C _ D _ E _ F _ G _ H _ d0 d1 hW iA iB iC iD iE iF iG iH hR
  refine ⟨fun hlt=>?_,fun hge=>⟨⟨?_,?_,hh,fun j hj=>absurd hj (by omega)⟩,?_⟩⟩
  ·obtain ⟨t,ht⟩:∃ t:Nat,n.i = t:=⟨n.i.toNat,by omega⟩
   have m5:arithOf .add .i64 n.i 1 = ((t + 1:Nat):Int):=by rw [add64 (by omega) (by omega)]; omega
   rw [m5]
   rw [ht,Int.toNat_natCast] at hR
   rw [ht]
   simp only [Int.toNat_natCast]
   have e1:=oneRow_len hW.1
   refine ⟨⟨iE,6,by omega,by omega,rfl⟩,fun r1 _ g1=>⟨⟨iE,11,by omega,by omega,rfl⟩,fun r2 _ g2=>⟨⟨iE,25,by omega,by omega,rfl⟩,fun r3 _ g3=>⟨hgr,by omega,by rw [hgd]; decide,by omega,⟨iA,2,by omega,by omega,rfl⟩,fun r4 _ g4=>⟨⟨iA,13,by omega,by omega,rfl⟩,fun r5 _ g5=>⟨⟨iA,22,by omega,by omega,rfl⟩,fun r6 _ g6=>⟨⟨by omega,by omega,hW,⟨?_,iA,iB,iC,?_,iE,iF,iG⟩,?_⟩,by omega⟩⟩⟩⟩⟩⟩⟩
   ·rw [add32]; exact isW_ofW
   ·rw [add32]; exact isW_ofW
   ·rw [g1 6 (by omega) (by omega) rfl,g2 11 (by omega) (by omega) rfl,g3 25 (by omega) (by omega) rfl,g4 2 (by omega) (by omega) rfl,g5 13 (by omega) (by omega) rfl,g6 22 (by omega) (by omega) rfl]
    simp only [add32,xor32,and32,or32,toW_ofW,ch_alt,maj_alt]
    rw [toW_word hW (by omega),hgd,glob_cell (by omega),rnds,← hR,wordsK_get (by omega)]
    rfl
  ·intro j hj
   match j,hj with
   | 0,_=>exact iA
   | 1,_=>exact iB
   | 2,_=>exact iC
   | 3,_=>exact iD
   | 4,_=>exact iE
   | 5,_=>exact iF
   | 6,_=>exact iG
   | 7,_=>exact iH
  ·have:n.i = 64:=by omega
   rw [this] at hR; exact hR
  ·intro v _ n2 _ d _ f0 f1 hv hR2 hd hlo hhi
   have hrow:∀ j,j < 8→cellX [[.int .u32 (cellX v.d 0),.int .u32 (cellX v.d 1),.int .u32 (cellX v.d 2),.int .u32 (cellX v.d 3),.int .u32 (cellX v.d 4),.int .u32 (cellX v.d 5),.int .u32 (cellX v.d 6),.int .u32 (cellX v.d 7)]] j = cellX v.d j:=fun j hj=>row8 (f:=cellX v.d) hj
   generalize [[Value.int .u32 (cellX v.d 0),.int .u32 (cellX v.d 1),.int .u32 (cellX v.d 2),.int .u32 (cellX v.d 3),.int .u32 (cellX v.d 4),.int .u32 (cellX v.d 5),.int .u32 (cellX v.d 6),.int .u32 (cellX v.d 7)]] = e at hrow ⊢
   refine ⟨fun hlt=>?_,fun hge=>⟨hd,?_,fun j hj=>hhi j (by omega)⟩⟩
   ·obtain ⟨t,ht⟩:∃ t:Nat,n2.i = t:=⟨n2.i.toNat,by omega⟩
    have m5:arithOf .add .i64 n2.i 1 = ((t + 1:Nat):Int):=by rw [add64 (by omega) (by omega)]; omega
    rw [m5]
    rw [ht] at hlo hhi ⊢
    simp only [Int.toNat_natCast]
    have e1:=oneRow_len hd.1
    refine ⟨by omega,by omega,⟨by omega,by omega,fun j hj=>by rw [hrow j hj]; exact hv j hj,by rw [rowL_congr hrow]; exact hR2,hashRow_put hd (by omega) (by rw [add32]; exact isW_ofW),fun j hj=>?_,fun j hj=>?_⟩,by omega⟩
    ·by_cases ej:j = t
     ·rw [ej,cellX_putX hd.1 (by omega),add32,hhi t (by omega),hrow t (by omega)]
     ·rw [cellX_putX_ne ej,hlo j (by omega),hrow j (by omega)]
    ·rw [cellX_putX_ne (by omega),hhi j (by omega)]
   ·have hc:∀ j,j < 8→toW (cellX d.d j) = toW (cellX (ρ 1).d j) + toW (cellX v.d j):=fun j hj=>by rw [hlo j (by omega),toW_ofW]
    have h8:∀ (x:List (List Value)),stOf (rowL x 8) = ⟨toW (cellX x 0),toW (cellX x 1),toW (cellX x 2),toW (cellX x 3),toW (cellX x 4),toW (cellX x 5),toW (cellX x 6),toW (cellX x 7)⟩:=fun x=>rfl
    unfold blockS
    rw [← hR2]
    simp only [stW,h8,addS]
    rw [hc 0 (by omega),hc 1 (by omega),hc 2 (by omega),hc 3 (by omega),hc 4 (by omega),hc 5 (by omega),hc 6 (by omega),hc 7 (by omega)]
end Go.Proofs

set_option linter.unusedSimpArgs false
set_option linter.unusedVariables false
namespace Go.Proofs
open Go Go.Eng
set_option maxRecDepth 20000 in
theorem newHash_ok:newHashC.ok Tryz.prog:=newHash_of (by simp) fun ρ hg hp=>by
 simp [o_newHash,newHashC]
 exact fresh_hash
theorem write_ok:writeC.ok Tryz.prog:=write_of (by simp [comp_ok]) fun ρ hg hp=>by
 obtain ⟨⟨m0,hm0,hl0⟩,o0,l0,lc,l1,hle,hB,hGr,hGd⟩:=hp
 simp (config:={ maxSteps:=2000000 }) [o_write,writeC,writeI,compC,gOk]
 have hnil:=oneRow_len hm0.1.1
 refine ⟨fun h=>by rw [h] at hnil; simp at hnil,fun _=>⟨⟨l0,lc,fun m h=>by simpa [segB] using h⟩,fun o _ l _ c _ d _ a0 a1 a2 a3 hH=>⟨a0,fun hpos=>?_,fun hz m h=>?_⟩⟩⟩
 ·have hM:=hH m0 hm0
  obtain ⟨O,hO⟩:∃ O:Nat,(ρ 3).i = O:=⟨(ρ 3).i.toNat,by omega⟩
  obtain ⟨L,hL⟩:∃ L:Nat,l.i = L:=⟨l.i.toNat,by omega⟩
  obtain ⟨A,hA⟩:∃ A:Nat,(ρ 4).i - l.i = A:=⟨((ρ 4).i - l.i).toNat,by omega⟩
  have ho:=a3 hpos
  rw [hA] at ho
  rw [hO,hA] at hH hM
  have hOA:O + A + L ≤ (ρ 6).d.length:=by omega
  have hsl:=segB_len (d:=(ρ 6).d) (o:=O) (a:=A) (by omega)
  have hML:cellX d.d 72 = ((m0 ++ segB (ρ 6).d O A).length:Nat):=hM.2.2.1
  have hMl:(m0 ++ segB (ρ 6).d O A).length = m0.length + A:=by rw [List.length_append,hsl]
  have hrem:arithOf .rem .i64 (cellI d.d 0 72) 64 = (((m0.length + A) % 64:Nat):Int):=by rw [cellI_0,hML,hMl,rem64]
  rw [hrem]
  obtain ⟨r,hr⟩:∃ r,(m0.length + A) % 64 = r:=⟨_,rfl⟩
  have hrlt:r < 64:=by omega
  rw [hr]
  obtain ⟨n,hn⟩:∃ n:Nat,(if l.i < 64 - (r:Int) then l.i else 64 - (r:Int)) = (n:Int):=by
   split
   ·exact ⟨L,hL⟩
   ·exact ⟨64 - r,by omega⟩
  have hnL:n ≤ L∧r + n ≤ 64∧0 < n∧(r + n = 64∨n = L):=by split at hn <;> omega
  rw [hn]
  have hoff:(if (64:Int) = (r:Int) then (8:Int) else 8 + (r:Int)).toNat = 8 + r:=by
   rw [if_neg (by omega)]; omega
  have hx:List.take ((n:Nat):Int).toNat (List.take l.i.toNat (List.drop o.i.toNat (ρ 6).d)) = ((ρ 6).d.drop (O + A)).take n:=by
   rw [List.take_take,Int.toNat_natCast,show min n l.i.toNat = n by omega,show o.i.toNat = O + A by omega]
  rw [hoff,hx]
  obtain ⟨x,hxe⟩:∃ x,((ρ 6).d.drop (O + A)).take n = x:=⟨_,rfl⟩
  have hxl:x.length = n:=by rw [← hxe,List.length_take,List.length_drop]; omega
  have hxB:allB x:=by rw [← hxe]; exact allB_sub hB
  have hmore:∀ m:List Int,(m ++ segB (ρ 6).d O A) ++ bI x = m ++ segB (ρ 6).d (ρ 3).i ((ρ 4).i - (l.i - (n:Int))):=fun m=>by
   rw [List.append_assoc,← hxe,segB_more (by omega),hO,show (ρ 4).i - (l.i - (n:Int)) = ((A + n:Nat):Int) by omega]
  have hmod:∀ m,hashOf (ρ 1).d m→(m ++ segB (ρ 6).d O A).length % 64 = r:=fun m h=>by
   rw [List.length_append,hsl,hashOf_len h hm0]; exact hr
  rw [hxe,copied_eq hM.1 (by omega) (by omega) (by omega) (by omega)]
  have hsum:arithOf .add .i64 (r:Int) (n:Int) = ((r + n:Nat):Int):=by rw [add64 (by omega) (by omega)]; omega
  rw [hsum]
  have hd1:=oneRow_len hM.1.1
  have hcame:=came_copy hM.1 hxB (r:=r) (by omega)
  have hlast:((n:Int) < l.i→(if c.i = (n:Int) then o.i else o.i + (n:Int)) = (ρ 3).i + ((ρ 4).i - (l.i - (n:Int)))):=fun hlt=>by
   rw [if_neg (by omega)]; omega
  refine ⟨by omega,by omega,by omega,by omega,by omega,by omega,by omega,by omega,by omega,by omega,by omega,by omega,fun hfull=>⟨⟨hcame.row,hGr,hGd⟩,fun f _ hf hst hk=>⟨⟨by omega,by omega,by omega,hlast,fun m h=>?_⟩,by omega⟩⟩,fun hnot=>⟨⟨by omega,by omega,by omega,hlast,fun m h=>?_⟩,by omega⟩⟩
  ·rw [← hmore m]
   exact step_full (hH m h) hxB (hmod m h) (by omega) hf hst (hk 72 (by omega))
  ·rw [← hmore m]
   exact step_part (hH m h) hxB (hmod m h) (by omega)
 ·have hl:l.i = 0:=by omega
  have:=hH m h
  rw [hl,Int.sub_zero] at this
  exact this
set_option maxRecDepth 20000 in
theorem write72_ok:write72C.ok Tryz.prog:=write72_of (by simp [comp_ok]) fun ρ hg hp=>by
 obtain ⟨⟨m0,hm0,hl0⟩,l0,l1,lc,hrow,hB,hGr,hGd⟩:=hp
 simp (config:={ maxSteps:=2000000 }) [o_write72,write72C,write72I,compC,gOk]
 have hnil:=oneRow_len hm0.1.1
 have hnil5:=oneRow_len hrow
 refine ⟨fun h=>by rw [h] at hnil; simp at hnil,fun _=>⟨⟨l0,lc,fun m h=>by simpa [segX] using h⟩,fun o _ l _ c _ d _ a0 a1 a2 a3 hH=>⟨a0,fun hpos=>?_,fun hz m h=>?_⟩⟩⟩
 ·have hM:=hH m0 hm0
  obtain ⟨L,hL⟩:∃ L:Nat,l.i = L:=⟨l.i.toNat,by omega⟩
  obtain ⟨A,hA⟩:∃ A:Nat,(ρ 3).i - l.i = A:=⟨((ρ 3).i - l.i).toNat,by omega⟩
  have ho:=a3 hpos
  rw [hA] at ho
  rw [hA] at hH hM
  have hsl:=segX_len (d:=(ρ 5).d) (a:=A) (by omega)
  have hML:cellX d.d 72 = ((m0 ++ segX (ρ 5).d 0 A).length:Nat):=hM.2.2.1
  have hMl:(m0 ++ segX (ρ 5).d 0 A).length = m0.length + A:=by rw [List.length_append,hsl]
  have hrem:arithOf .rem .i64 (cellI d.d 0 72) 64 = (((m0.length + A) % 64:Nat):Int):=by rw [cellI_0,hML,hMl,rem64]
  rw [hrem]
  obtain ⟨r,hr⟩:∃ r,(m0.length + A) % 64 = r:=⟨_,rfl⟩
  have hrlt:r < 64:=by omega
  rw [hr]
  obtain ⟨n,hn⟩:∃ n:Nat,(if l.i < 64 - (r:Int) then l.i else 64 - (r:Int)) = (n:Int):=by
   split
   ·exact ⟨L,hL⟩
   ·exact ⟨64 - r,by omega⟩
  have hnL:n ≤ L∧r + n ≤ 64∧0 < n∧(r + n = 64∨n = L):=by split at hn <;> omega
  rw [hn]
  have hoff:(if (64:Int) = (r:Int) then (8:Int) else 8 + (r:Int)).toNat = 8 + r:=by
   rw [if_neg (by omega)]; omega
  have hx:List.take ((n:Nat):Int).toNat (xrowsD (ρ 5).d o.i.toNat l.i.toNat) = xrowsD (ρ 5).d A n:=by
   rw [Int.toNat_natCast,xrows_take (by omega),show o.i.toNat = A by omega]
  rw [hoff,hx]
  obtain ⟨x,hxe⟩:∃ x,xrowsD (ρ 5).d A n = x:=⟨_,rfl⟩
  have hxl:x.length = n:=by rw [← hxe,xrows_len hrow (by omega)]
  have hxB:allB x:=by rw [← hxe]; exact xrows_allB hrow hB
  have hmore:∀ m:List Int,(m ++ segX (ρ 5).d 0 A) ++ bI x = m ++ segX (ρ 5).d 0 ((ρ 3).i - (l.i - (n:Int))):=fun m=>by
   rw [List.append_assoc,← hxe,xrows_bI hrow,segX_more,show (ρ 3).i - (l.i - (n:Int)) = ((A + n:Nat):Int) by omega]
  have hmod:∀ m,hashOf (ρ 1).d m→(m ++ segX (ρ 5).d 0 A).length % 64 = r:=fun m h=>by
   rw [List.length_append,hsl,hashOf_len h hm0]; exact hr
  rw [hxe,copied_eq hM.1 (by omega) (by omega) (by omega) (by omega)]
  have hsum:arithOf .add .i64 (r:Int) (n:Int) = ((r + n:Nat):Int):=by rw [add64 (by omega) (by omega)]; omega
  rw [hsum]
  have hd1:=oneRow_len hM.1.1
  have hcame:=came_copy hM.1 hxB (r:=r) (by omega)
  have hlast:((n:Int) < l.i→(if c.i = (n:Int) then o.i else o.i + (n:Int)) = (ρ 3).i - (l.i - (n:Int))):=fun hlt=>by
   rw [if_neg (by omega)]; omega
  refine ⟨by omega,by omega,by omega,by omega,by omega,by omega,by omega,by omega,by omega,by omega,by omega,by omega,by omega,fun hfull=>⟨⟨hcame.row,hGr,hGd⟩,fun f _ hf hst hk=>⟨⟨by omega,by omega,by omega,hlast,fun m h=>?_⟩,by omega⟩⟩,fun hnot=>⟨⟨by omega,by omega,by omega,hlast,fun m h=>?_⟩,by omega⟩⟩
  ·rw [← hmore m]
   exact step_full (hH m h) hxB (hmod m h) (by omega) hf hst (hk 72 (by omega))
  ·rw [← hmore m]
   exact step_part (hH m h) hxB (hmod m h) (by omega)
 ·have hl:l.i = 0:=by omega
  have:=hH m h
  rw [hl,Int.sub_zero] at this
  exact this
set_option maxRecDepth 20000 in
set_option maxHeartbeats 800000 in
theorem sum_ok:sumC.ok Tryz.prog:=sum_of (by simp [write72_ok]) fun ρ hg hp=>by
 obtain ⟨⟨m0,hm0,hl0⟩,hGr,hGd⟩:=hp
 simp (config:={ maxSteps:=2000000 }) [o_sum,sumC,sumI,sumJ,write72C,gOk]
 have hnil:=oneRow_len hm0.1.1
 have hL:cellX (ρ 1).d 72 = (m0.length:Int):=hm0.2.2.1
 have hlen:∀ m,hashOf (ρ 1).d m→m.length = m0.length:=fun m h=>hashOf_len h hm0
 have hn8:arithOf .sub .i64 64 (arithOf .rem .i64 (arithOf .add .i64 (cellI (ρ 1).d 0 72) 8) 64) = 64 - (cellX (ρ 1).d 72 + 8) % 64:=by
  rw [cellI_0,add64 (by omega) (by omega),hL,show ((m0.length:Int) + 8) = ((m0.length + 8:Nat):Int) by omega,rem64,sub64 (by omega) (by omega)]
  omega
 refine ⟨fun h=>by rw [h] at hnil; simp at hnil,fun _=>⟨by omega,⟨?_,?_,hn8,?_,⟨_,rfl,rfl⟩,fun j hj=>?_⟩,fun d _ p _ n _ v _ t _ t0 t1 hd1 hd2 hn hv hp1 hp2=>⟨fun hlt=>?_,fun hge=>⟨?_,?_,?_,?_,fun f _ hf=>⟨?_,fun e _ g _ t _ u0 u1 he hst hg1 hg2=>⟨fun hlt=>?_,fun hge=>⟨?_,fun m h=>?_⟩⟩⟩⟩⟩⟩⟩
 ·exact hashCells_row (f:=cellI (ρ 1).d 0)
 ·intro j hj
  exact (hashCells_get (f:=cellI (ρ 1).d 0) hj).trans cellI_0
 ·rw [cellI_0,hL]
  have h1:IntKind.u64.wrap (m0.length:Int) = m0.length:=by simp [IntKind.wrap,IntKind.bits,IntKind.signed]; omega
  rw [h1]
  show IntKind.u64.wrap ((m0.length:Int) * 8) = _
  simp [IntKind.wrap,IntKind.bits,IntKind.signed]; omega
 ·have hz:∀ j:Fin 72,cellX [Value.int .u8 128 :: List.replicate 71 (Value.int .u8 0)] j.val = if j.val = 0 then 128 else 0:=by decide +kernel
  refine (hz ⟨j,hj⟩).trans ?_
  by_cases e:j = 0
  ·rw [if_pos e,if_pos e]
  ·rw [if_neg e,if_neg e,if_neg (by omega)]
 ·obtain ⟨T,hT⟩:∃ T:Nat,t.i = T:=⟨t.i.toNat,by omega⟩
  obtain ⟨N,hN⟩:∃ N:Nat,n.i = N:=⟨n.i.toNat,by omega⟩
  have m1:arithOf .sub .i64 56 (arithOf .mul .i64 8 t.i) = ((8 * (7 - T):Nat):Int):=by rw [mul64 (by omega) (by omega),sub64 (by omega) (by omega)]; omega
  have m2:arithOf .add .i64 n.i t.i = ((N + T:Nat):Int):=by rw [add64 (by omega) (by omega)]; omega
  have m3:arithOf .add .i64 t.i 1 = ((T + 1:Nat):Int):=by rw [add64 (by omega) (by omega)]; omega
  rw [m1,m2,m3,hT,hN,shr_u64 (by omega),wrap8,hv]
  rw [hT,hN] at hp2
  have e1:=oneRow_len hp1
  simp only [Int.toNat_natCast] at hp2 ⊢
  refine ⟨by omega,by omega,by omega,by omega,⟨by omega,by omega,hd1,hd2,by omega,trivial,oneRow_putX hp1,fun j hj=>?_⟩,by omega⟩
  by_cases ej:j = N + T
  ·rw [ej,cellX_putX hp1 (by omega),if_neg (by omega),if_pos ⟨by omega,by omega⟩,beL_get (by omega),show N + T - N = T by omega,show 8 - 1 - T = 7 - T by omega]
  ·rw [cellX_putX_ne ej,hp2 j hj]
   by_cases e0:j = 0
   ·rw [if_pos e0,if_pos e0]
   ·rw [if_neg e0,if_neg e0]
    by_cases e2:(N:Int) ≤ j∧j < N + T
    ·rw [if_pos e2,if_pos ⟨e2.1,by omega⟩]
    ·rw [if_neg e2,if_neg (by omega)]
 ·rw [add64 (by omega) (by omega)]; omega
 ·rw [add64 (by omega) (by omega)]; omega
 ·rw [oneRow_len hp1]; decide
 ·refine ⟨⟨m0,hashOf_copy hm0 hd1 hd2,hl0⟩,by rw [add64 (by omega) (by omega)]; omega,by rw [add64 (by omega) (by omega)]; omega,hp1,fun x hx=>?_,hGr,hGd⟩
  obtain ⟨j,hj,rfl⟩:=mem_rowL hx
  rw [hp2 j hj]
  split
  ·omega
  ·split
   ·rw [beL_get (by omega)]; omega
   ·omega
 ·have hpad:∀ m,hashOf (ρ 1).d m→m ++ segX p.d 0 (arithOf .add .i64 n.i 8) = padL m:=fun m h=>by
   have h1:=hlen m h
   have h8:t.i = 8:=by omega
   obtain ⟨N,hN⟩:∃ N:Nat,n.i = N:=⟨n.i.toNat,by omega⟩
   rw [hN,add64 (by omega) (by omega),show ((N:Int) + 8) = ((N + 8:Nat):Int) by omega]
   rw [pad_seg (n:=N) (v:=cellX (ρ 1).d 72 * 8) (by omega) (by omega) hp1 (fun j hj=>by
    rw [hp2 j hj,hN,h8]
    by_cases e0:j = 0
    ·rw [if_pos e0,if_pos e0]
    ·rw [if_neg e0,if_neg e0]
     by_cases e2:(N:Int) ≤ j∧j < (N:Int).toNat + (8:Int).toNat
     ·rw [if_pos e2,if_pos ⟨by omega,by have:=e2.2; simp at this; omega⟩,Int.toNat_natCast]
     ·rw [if_neg e2,if_neg (by simp at e2; omega)])]
   rw [padL,hL,h1,show N - 1 = 64 - (m0.length + 8) % 64 - 1 by omega]
  refine ⟨(hf m0 (hashOf_copy hm0 hd1 hd2)).1,fun m h=>?_,⟨_,rfl,rfl⟩,fun j hj=>absurd hj (by omega)⟩
  have:=hf m (hashOf_copy h hd1 hd2)
  rw [hpad m h] at this
  exact this.2.2.2.1
 ·obtain ⟨T,hT⟩:∃ T:Nat,t.i = T:=⟨t.i.toNat,by omega⟩
  have m3:arithOf .add .i64 t.i 1 = ((T + 1:Nat):Int):=by rw [add64 (by omega) (by omega)]; omega
  have m1:arithOf .sub .i64 24 (arithOf .mul .i64 8 (arithOf .rem .i64 t.i 4)) = ((24 - 8 * (T % 4):Nat):Int):=by
   rw [hT,rem4,mul64 (by omega) (by omega),sub64 (by omega) (by omega)]; omega
  rw [m1,m3,hT,quo4 (by omega),shr_u32 (by omega),wrap8]
  rw [hT] at hg2
  have e1:=oneRow_len hg1
  have e2:=oneRow_len he.1
  simp only [Int.toNat_natCast]
  refine ⟨by omega,by omega,by omega,by omega,by omega,by omega,⟨by omega,by omega,he,hst,oneRow_putX hg1,fun j hj=>?_⟩,by omega⟩
  by_cases ej:j = T
  ·rw [ej,cellX_putX hg1 (by omega),bytesS_get he (by omega)]
  ·rw [cellX_putX_ne ej,hg2 j (by omega)]
 ·rw [oneRow_len hg1]; decide
 ·have h32:t.i = 32:=by omega
  have:sha m = bytesS (stW e.d):=by rw [hst m h]; rfl
  rw [this]
  refine rowL_eq bytesS_len fun j hj=>?_
  exact (dgCells_get (f:=cellI g.d 0) hj).trans (cellI_0.trans (hg2 j (by omega)))
set_option maxRecDepth 20000 in
theorem sha256_ok:sha256C.ok Tryz.prog:=sha256_of (by simp [newHash_ok,write_ok,sum_ok]) fun ρ hg hp=>by
 obtain ⟨⟨o0,l0,lc,l1,hle,hB⟩,hGr,hGd⟩:=hp
 simp (config:={ maxSteps:=2000000 }) [o_sha256,sha256C,newHashC,writeC,sumC,gOk]
 refine fun h _ hh=>⟨⟨⟨[],hh,by decide⟩,o0,l0,lc,l1,hle,hB,hGr,hGd⟩,fun g _ hg2=>⟨⟨⟨_,hg2 [] hh,?_⟩,hGr,hGd⟩,fun d _ hd=>?_⟩⟩
 ·have:(segB (ρ 4).d (ρ 1).i (ρ 2).i).length ≤ (ρ 2).i.toNat:=by simp [segB]; omega
  simp only [List.nil_append]; omega
 ·exact (show rowL _ 32 = rowL d.d 32 from rfl).trans (hd _ (by simpa using hg2 [] hh))
end Go.Proofs

set_option linter.unusedSimpArgs false
set_option linter.unusedVariables false
namespace Go.Proofs
open Go Go.Eng
end Go.Proofs

set_option linter.unusedSimpArgs false
set_option linter.unusedVariables false
set_option maxRecDepth 100000
namespace Go.Proofs
open Go Go.Eng

def o_room:Out:=(.br (.var 2)
 (.ret 0 (sg 8 [bv 9 2,bt 8 (.bl false)]))
 (.need (.cmp .leq (.lit 0) (.var 4)) (.both (.ret 0 (sg 8 [bt 9 (.cmp .gtr (.var 7) (.arith .sub .i64 (.var 1) (.var 4))),bt 8 (.not (.cmp .gtr (.var 7) (.arith .sub .i64 (.var 1) (.var 4))))])) .top)))
theorem o_room_eq:treeOf ⟨Tryz.prog,roomC,[],[]⟩ 100000 Tryz.f132 = o_room:=by kernel_rfl
theorem room_of (hd:∀ c ∈ ([]:List Ctr),c.ok Tryz.prog) (h:∀ ρ:Env,ρ.good→(roomC).pre ρ→o_room.den ⟨Tryz.prog,roomC,[],[]⟩ ρ):(roomC).ok Tryz.prog :=
 ok_of_tree Tryz.func132 (fun a w=>Tryz.call132 a w) hd 100000 (fun ρ hg hp=>by rw [o_room_eq]; exact h ρ hg hp)
def o_number:Out:=(.pre 0 (sg 0 [bv 6 6,bv 5 5,bv 4 4,bg 3 3,bv 2 2,bv 1 1,bv 7 8,bg 0 0]) (.both (.fresh 9 (.fresh 10 (.post 0 0 (sg 0 [bv 6 6,bv 5 5,bv 4 4,bg 3 3,bv 2 2,bv 1 1,bv 7 8,bg 0 0]) 9 (.br (.var 9)
 (.need (.beq (.bl false) (.var 10)) (.inv 0 11 (sg 1000 [bv 1003 6,bv 1002 5,bv 1001 4,bg 1000 3,bt 1004 (.arith .sub .i64 (.var 8) (.lit 1))]) (.fresh 11 (.fresh 12 (.fresh 13 (.fresh 14 (.fresh 15 (.hyp 0 11 (.br (.cmp .geq (.var 15) (.lit 0))
 (.need (.cmp .geq (.arith .mul .i64 (.lit 8) (.var 15)) (.lit 0)) (.both (.fresh 16 (.both (.need (.cmp .eql (.var 12) (.dlen (.var 14))) (.need (.cmp .leq (.tims (.lit 1) (.plus (.var 12) (.lit 1))) (.lit 140737488355328)) (.fresh 17 (.fresh 18 (.both (.both (.both (.back 0 11 (sg 1000 [bt 1003 (.dapp (.var 14) (.rcons (.vint .u8 (.conv .u8 (.arith .shr .u64 (.var 7) (.arith .mul .i64 (.lit 8) (.var 15))))) .rnil)),bv 1002 18,bt 1001 (.plus (.var 12) (.lit 1)),bg 1000 17,bt 1004 (.arith .sub .i64 (.var 15) (.lit 1))])) .top) .top) .top))))) .top)) .top))
 (.ret 0 (sg 9 [bv 13 14,bv 12 13,bv 11 12,bg 10 11,bt 9 (.bl false)])))))))))))
 (.ret 0 (sg 9 [bv 13 6,bv 12 5,bv 11 4,bg 10 3,bv 9 10])))))) .top))
theorem o_number_eq:treeOf ⟨Tryz.prog,numberC,[roomC],[numberI]⟩ 100000 Tryz.f131 = o_number:=by kernel_rfl
theorem number_of (hd:∀ c ∈ ([roomC]:List Ctr),c.ok Tryz.prog) (h:∀ ρ:Env,ρ.good→(numberC).pre ρ→o_number.den ⟨Tryz.prog,numberC,[roomC],[numberI]⟩ ρ):(numberC).ok Tryz.prog :=
 ok_of_tree Tryz.func131 (fun a w=>Tryz.call131 a w) hd 100000 (fun ρ hg hp=>by rw [o_number_eq]; exact h ρ hg hp)
@[simp] def o_u8_1:Sg:=sg 0 [bv 6 6,bv 5 5,bv 4 4,bg 3 3,bv 2 2,bv 1 1,bt 8 (.lit 1),bt 7 (.conv .u64 (.var 7)),bg 0 0]
def o_u8:Out:=(.pre 0 o_u8_1 (.both (.fresh 8 (.fresh 9 (.fresh 10 (.fresh 11 (.fresh 12 (.post 0 0 o_u8_1 8 (.ret 0 (sg 8 [bv 12 12,bv 11 11,bv 10 10,bg 9 9,bv 8 8])))))))) .top))
theorem o_u8_eq:treeOf ⟨Tryz.prog,u8C,[numberC],[]⟩ 100000 Tryz.f106 = o_u8:=by kernel_rfl
theorem u8_of (hd:∀ c ∈ ([numberC]:List Ctr),c.ok Tryz.prog) (h:∀ ρ:Env,ρ.good→(u8C).pre ρ→o_u8.den ⟨Tryz.prog,u8C,[numberC],[]⟩ ρ):(u8C).ok Tryz.prog :=
 ok_of_tree Tryz.func106 (fun a w=>Tryz.call106 a w) hd 100000 (fun ρ hg hp=>by rw [o_u8_eq]; exact h ρ hg hp)
@[simp] def o_u16_1:Sg:=sg 0 [bv 6 6,bv 5 5,bv 4 4,bg 3 3,bv 2 2,bv 1 1,bt 8 (.lit 2),bt 7 (.conv .u64 (.var 7)),bg 0 0]
def o_u16:Out:=(.pre 0 o_u16_1 (.both (.fresh 8 (.fresh 9 (.fresh 10 (.fresh 11 (.fresh 12 (.post 0 0 o_u16_1 8 (.ret 0 (sg 8 [bv 12 12,bv 11 11,bv 10 10,bg 9 9,bv 8 8])))))))) .top))
theorem o_u16_eq:treeOf ⟨Tryz.prog,u16C,[numberC],[]⟩ 100000 Tryz.f105 = o_u16:=by kernel_rfl
theorem u16_of (hd:∀ c ∈ ([numberC]:List Ctr),c.ok Tryz.prog) (h:∀ ρ:Env,ρ.good→(u16C).pre ρ→o_u16.den ⟨Tryz.prog,u16C,[numberC],[]⟩ ρ):(u16C).ok Tryz.prog :=
 ok_of_tree Tryz.func105 (fun a w=>Tryz.call105 a w) hd 100000 (fun ρ hg hp=>by rw [o_u16_eq]; exact h ρ hg hp)
def o_newWriter:Out:=(.fresh 1 (.ret 0 (sg 1 [bt 2 (.imax (.lit 0) (.var 0)),bg 1 1])))
theorem o_newWriter_eq:treeOf ⟨Tryz.prog,newWriterC,[],[]⟩ 100000 Tryz.f104 = o_newWriter:=by kernel_rfl
theorem newWriter_of (hd:∀ c ∈ ([]:List Ctr),c.ok Tryz.prog) (h:∀ ρ:Env,ρ.good→(newWriterC).pre ρ→o_newWriter.den ⟨Tryz.prog,newWriterC,[],[]⟩ ρ):(newWriterC).ok Tryz.prog :=
 ok_of_tree Tryz.func104 (fun a w=>Tryz.call104 a w) hd 100000 (fun ρ hg hp=>by rw [o_newWriter_eq]; exact h ρ hg hp)
def o_raw32:Out:=(.pre 0 (sg 0 [bv 6 6,bv 5 5,bv 4 4,bg 3 3,bv 2 2,bv 1 1,bt 7 (.lit 32),bg 0 0]) (.both (.fresh 9 (.fresh 10 (.post 0 0 (sg 0 [bv 6 6,bv 5 5,bv 4 4,bg 3 3,bv 2 2,bv 1 1,bt 7 (.lit 32),bg 0 0]) 9 (.br (.var 9)
 (.need (.cmp .eql (.var 4) (.dlen (.var 6))) (.need (.cmp .lss (.lit 0) (.dlen (.var 8))) (.need (.cmp .leq (.tims (.lit 1) (.plus (.var 4) (.lit 32))) (.lit 140737488355328)) (.fresh 11 (.fresh 12 (.ret 0 (sg 9 [bt 13 (.dapp (.var 6) (.c3 .xrows (.var 8) (.lit 0) (.lit 32))),bv 12 12,bt 11 (.plus (.var 4) (.lit 32)),bg 10 11,bv 9 10])))))))
 (.ret 0 (sg 9 [bv 13 6,bv 12 5,bv 11 4,bg 10 3,bv 9 10])))))) .top))
theorem o_raw32_eq:treeOf ⟨Tryz.prog,raw32C,[roomC],[]⟩ 100000 Tryz.f107 = o_raw32:=by kernel_rfl
theorem raw32_of (hd:∀ c ∈ ([roomC]:List Ctr),c.ok Tryz.prog) (h:∀ ρ:Env,ρ.good→(raw32C).pre ρ→o_raw32.den ⟨Tryz.prog,raw32C,[roomC],[]⟩ ρ):(raw32C).ok Tryz.prog :=
 ok_of_tree Tryz.func107 (fun a w=>Tryz.call107 a w) hd 100000 (fun ρ hg hp=>by rw [o_raw32_eq]; exact h ρ hg hp)
def o_rawM:Out:=(.pre 0 (sg 0 [bv 6 6,bv 5 5,bv 4 4,bg 3 3,bv 2 2,bv 1 1,bt 7 (.lit 32),bg 0 0]) (.both (.fresh 9 (.fresh 10 (.post 0 0 (sg 0 [bv 6 6,bv 5 5,bv 4 4,bg 3 3,bv 2 2,bv 1 1,bt 7 (.lit 32),bg 0 0]) 9 (.br (.var 9)
 (.need (.cmp .eql (.var 4) (.dlen (.var 6))) (.need (.cmp .lss (.lit 0) (.dlen (.var 8))) (.need (.cmp .leq (.tims (.lit 1) (.plus (.var 4) (.lit 32))) (.lit 140737488355328)) (.fresh 11 (.fresh 12 (.ret 0 (sg 9 [bt 13 (.dapp (.var 6) (.c3 .xrows (.var 8) (.lit 4) (.lit 32))),bv 12 12,bt 11 (.plus (.var 4) (.lit 32)),bg 10 11,bv 9 10])))))))
 (.ret 0 (sg 9 [bv 13 6,bv 12 5,bv 11 4,bg 10 3,bv 9 10])))))) .top))
theorem o_rawM_eq:treeOf ⟨Tryz.prog,rawMC,[roomC],[]⟩ 100000 Tryz.f107 = o_rawM:=by kernel_rfl
theorem rawM_of (hd:∀ c ∈ ([roomC]:List Ctr),c.ok Tryz.prog) (h:∀ ρ:Env,ρ.good→(rawMC).pre ρ→o_rawM.den ⟨Tryz.prog,rawMC,[roomC],[]⟩ ρ):(rawMC).ok Tryz.prog :=
 ok_of_tree Tryz.func107 (fun a w=>Tryz.call107 a w) hd 100000 (fun ρ hg hp=>by rw [o_rawM_eq]; exact h ρ hg hp)
def o_cloneB:Out:=(.br (.and (.cmp .eql (.dlen (.var 3)) (.lit 0)) (.isnil 0))
 (.need (.cmp .eql (.var 1) (.lit 0)) (.ret 0 (sg 5 [bt 7 .dnil,bt 6 (.lit 0),(5,.nil)])))
 (.fresh 5 (.need (.cmp .leq (.lit 0) (.var 1)) (.need (.cmp .leq (.var 1) (.dlen (.var 3))) (.need (.cmp .leq (.tims (.lit 1) (.var 1)) (.lit 140737488355328)) (.fresh 6 (.fresh 7 (.ret 0 (sg 5 [bt 7 (.dtake (.var 3) (.var 1)),bv 6 7,bg 5 6])))))))))
theorem o_cloneB_eq:treeOf ⟨Tryz.prog,cloneBC,[],[]⟩ 100000 Tryz.f91 = o_cloneB:=by kernel_rfl
theorem cloneB_of (hd:∀ c ∈ ([]:List Ctr),c.ok Tryz.prog) (h:∀ ρ:Env,ρ.good→(cloneBC).pre ρ→o_cloneB.den ⟨Tryz.prog,cloneBC,[],[]⟩ ρ):(cloneBC).ok Tryz.prog :=
 ok_of_tree Tryz.func91 (fun a w=>Tryz.call91 a w) hd 100000 (fun ρ hg hp=>by rw [o_cloneB_eq]; exact h ρ hg hp)
def o_bytes:Out:=(.br (.var 2)
 (.ret 0 (sg 7 []))
 (.pre 0 (sg 0 [bv 4 5,bv 3 6,bv 2 5,bv 1 4,bg 0 3]) (.both (.fresh 7 (.fresh 8 (.fresh 9 (.post 0 0 (sg 0 [bv 4 5,bv 3 6,bv 2 5,bv 1 4,bg 0 3]) 7 (.ret 1 (sg 7 [bv 9 9,bv 8 8,bg 7 7])))))) .top)))
theorem o_bytes_eq:treeOf ⟨Tryz.prog,bytesC,[cloneBC],[]⟩ 100000 Tryz.f108 = o_bytes:=by kernel_rfl
theorem bytes_of (hd:∀ c ∈ ([cloneBC]:List Ctr),c.ok Tryz.prog) (h:∀ ρ:Env,ρ.good→(bytesC).pre ρ→o_bytes.den ⟨Tryz.prog,bytesC,[cloneBC],[]⟩ ρ):(bytesC).ok Tryz.prog :=
 ok_of_tree Tryz.func108 (fun a w=>Tryz.call108 a w) hd 100000 (fun ρ hg hp=>by rw [o_bytes_eq]; exact h ρ hg hp)
end Go.Proofs
