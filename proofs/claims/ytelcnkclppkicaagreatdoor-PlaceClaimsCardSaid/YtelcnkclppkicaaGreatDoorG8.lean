/- Texts PO, PR, PS, QA, QF, PG, PI, PJ, PK, PM, PN, PP, PQ, PT, PU, PV, PY, PZ, QM, QI, QN, QR, RE, TA, TE, PA, PB, PC, PD, PE, P0, P1, PX, PW, QB, QC, QE, QD. -/
import Derived.Test.YtelcnkclppkicaaGreatDoorG7
import Derived.Test.YtelcnkclppkicaaGreatDoorG1
import Derived.Test.YtelcnkclppkicaaGreatDoorG5
import Derived.Test.YtelcnkclppkicaaGreatDoorProg
import Derived.WalkCall
import Derived.Laws.Externs
import Derived.Lib.Bytealg
import Derived.Lib.BytesEntry
import Derived.Test.YtelcnkclppkicaaGreatDoorG4
import Derived.Shelf.SlSortCmp.NoneTotal
import Derived.Deep.QuietTactic
import Derived.BigQuiet
import Derived.Ground.SlsfProg
import Derived.Test.YtelcnkclppkicaaGreatDoorG3
set_option linter.unusedSimpArgs false
set_option linter.unusedVariables false
namespace Go.Eng
open Go Go.Proofs
def qK (L:List Int) (n:Nat):List Int:=((List.range n).map fun (i:Nat)=>(i:Int)).filter fun x=>decide (x ∈ L)
def qlP:Ctr:={ fn := 85,nv:=5,args:=[bS 0],heap:=[],ro:=[qbL 0],pre:=fun Z=>qay Z 0,alts:=[{ k:=4,ret:=.one (.vslice 5 (.lit 0) (.var 6) (.var 7) 1),heap:=[iHp 5 8 7],post:=fun Z=>(Z 6).i = (Z 8).d.length/\qk (Z 8).d = qbb (qk (Z 3).d)/\∀ row ∈ (Z 8).d,row.length = 1 }] }
def q35:Inv:={ key:=3,nv:=5,env:=[(0,bS 0),(3,.one (.vslice 1000 (.lit 0) (.var 1001) (.var 1002) 1)),(4,iv .i64 (.var 1004))],heap:=[iHp 1000 1003 1002],inv:=(fun Z=>0 <= (Z 1004).i/\(Z 1004).i <= 16/\(Z 1001).i = (Z 1003).d.length/\(Z 1001).i <= (Z 1004).i/\qk (Z 1003).d = qK (qk (Z 3).d) (Z 1004).i.toNat/\∀ row ∈ (Z 1003).d,row.length = 1),mu:=(fun Z=>(16 - (Z 1004).i).toNat) }
def qmn:Ctr:={ fn := 121,nv:=6,args:=[bS 0,iv .i64 (.var 5)],heap:=[],ro:=[qbL 0],pre:=fun Z=>qay Z 0,alts:=[{ k:=1,ret:=iv .i64 (.var 6),heap:=[],post:=fun Z=>0 <= (Z 6).i↔(Z 5).i ∈ qk (Z 3).d }] }
def q30:Inv:={ key:=2,nv:=1,env:=[(0,bS 0),(1,iv .i64 (.var 5)),(6,bS 0),(7,iv .i64 (.var 1)),(8,iv .i64 (.var 1000))],heap:=[],inv:=(fun Z=>0 <= (Z 1000).i/\(Z 1000).i <= (Z 1).i/\(Z 5).i ∉ (qk (Z 3).d).take (Z 1000).i.toNat),mu:=(fun Z=>((Z 1).i - (Z 1000).i).toNat) }
def qd0:Ctr:={ fn := 84,nv:=6,args:=[bS 0,iv .i64 (.var 5)],heap:=[],ro:=[qbL 0],pre:=fun Z=>qay Z 0,alts:=[{ k:=1,ret:=.one (.vbool (.var 6)),heap:=[],post:=fun Z=>(Z 6).b = decide ((Z 5).i ∈ qk (Z 3).d) }] }
def qlO (o:List Int) (self n:Int) (L:List Int):Bool:=decide (1 <= n) && decide (n <= (((qbb L).filter fun i=>qO o i self).length:Int))
def q9g (Z:Env) (g:Nat):Prop:=qH (qd (Z 0).d 32)/\qay Z 3/\gOk Z 8 9 g
def q5u:Ctr:={ fn := 37,nv:=10,ip:=[gIp 8],args:=[dgV 0,iv .i64 (.var 1),iv .i64 (.var 2),bS 3],heap:=[],ro:=[qbL 3,gHp 8 9],pre:=fun Z=>q9g Z gR,alts:=[{ k:=1,ret:=.one (.vbool (.var 10)),heap:=[],post:=fun Z=>(Z 10).b = qlO (qd (Z 0).d 32) (Z 1).i (Z 2).i (qk (Z 6).d) }] }
def q8f:Inv:={ key:=3,nv:=3,env:=[(1,iv .i64 (.var 1)),(2,iv .i64 (.var 2)),(4,.one (.vptr 1000 (.lit 0) 32 0)),(9,iv .i64 (.var 1002)),(13,b16 11),(14,iv .i64 (.var 1001))],heap:=[.cells 1000 24 (qaF .u8 0 32)],inv:=(fun Z=>0 <= (Z 1001).i/\(Z 1001).i <= 16/\(Z 1002).i = (((qK (qk (Z 6).d) (Z 1001).i.toNat).filter fun i=>qO (qd (Z 0).d 32) i (Z 1).i).length:Int)),mu:=(fun Z=>(16 - (Z 1001).i).toNat) }
def qD (o:List Int) (p:Int):List Value:=.int .i64 p :: (qP o p).map (Value.int .u8)
def qat (o l:List Int):List Int:=l.mergeSort fun a b=>!qO o b a
def qbi (o live:List Int) (n:Int):List Int:=(qat o (qbb live)).take n.toNat
def qaw (d:qf) (n:Int) (l:List Int):Prop:=n = d.length/\qk d = l/\∀ row ∈ d,row.length = 1
def qtz (r d c:Nat):SH:=.arr r 153 kRk (.var d) (.var c)
def rkS (r l c:Nat):SV:=.one (.vslice r (.lit 0) (.var l) (.var c) 33)
def qfz:Ctr:={ fn := 83,nv:=4,args:=[rkS 0 1 2,.fn (.func 81) [] []],heap:=[qtz 0 3 2],ro:=[],pre:=fun Z=>(Z 1).i = (Z 3).d.length/\(Z 1).i <= 1000000/\∃ o L:List Int,qH o/\(Z 3).d = L.map (qD o)/\∀ x ∈ L,0 <= x/\x < 16,alts:=[
 { k:=1,ret:=.tup [],heap:=[qtz 0 4 2],post:=fun Z=>∀ o L:List Int,qH o->(Z 3).d = L.map (qD o)->(∀ x ∈ L,0 <= x/\x < 16)->(Z 4).d = (qat o L).map (qD o) }] }
def q60 (r:Nat):SH:=.cells r 24 (qaF .u8 0 32)
def qoi (r:Nat):SV:=.one (.vptr r (.lit 0) 32 0)
def qtq (Z:Env) (g:Nat):Prop:=qH (qd (Z 0).d 32)/\qay Z 1/\gOk Z 7 8 g
def qdo:Ctr:={ fn := 32,nv:=9,ip:=[gIp 7],args:=[dgV 0,bS 1,iv .i64 (.var 6)],heap:=[],ro:=[qbL 1,gHp 7 8],pre:=fun Z=>qtq Z gR,alts:=[
 { k:=4,ret:=.one (.vslice 9 (.lit 0) (.var 10) (.var 11) 1),heap:=[iHp 9 12 11],post:=fun Z=>qaw (Z 12).d (Z 10).i (qbi (qd (Z 0).d 32) (qk (Z 4).d) (Z 6).i) }] }
def qyl:Inv:={ key:=3,nv:=6,env:=[(2,iv .i64 (.var 6)),(3,qoi 1000),(7,rkS 1002 1003 1004),(14,b16 10),(15,iv .i64 (.var 1001))],heap:=[q60 1000,qtz 1002 1005 1004],inv:=(fun Z=>0 <= (Z 1001).i/\(Z 1001).i <= 16/\(Z 1003).i = (Z 1005).d.length/\(Z 1005).d = (qK (qk (Z 4).d) (Z 1001).i.toNat).map (qD (qd (Z 0).d 32))),mu:=(fun Z=>(16 - (Z 1001).i).toNat) }
def qxy:Inv:={ key:=11,nv:=9,env:=[(36,rkS 1000 1001 1002),(37,iv .i64 (.var 1001)),(38,iv .i64 (.var 1003)),(10,.one (.vslice 1004 (.lit 0) (.var 1005) (.var 1006) 1))],heap:=[qtz 1000 1007 1002,iHp 1004 1008 1006],inv:=(fun Z=>0 <= (Z 1003).i/\(Z 1003).i <= (Z 1001).i/\(Z 1001).i <= (Z 1007).d.length/\(Z 1007).d = (qat (qd (Z 0).d 32) (qbb (qk (Z 4).d))).map (qD (qd (Z 0).d 32))/\(Z 1001).i = min (max (Z 6).i 0) ((qat (qd (Z 0).d 32) (qbb (qk (Z 4).d))).length:Int)/\qaw (Z 1008).d (Z 1005).i ((qat (qd (Z 0).d 32) (qbb (qk (Z 4).d))).take (Z 1003).i.toNat)),mu:=(fun Z=>((Z 1001).i - (Z 1003).i).toNat) }
def qfG (n:Int):List Int:=(List.range (min (max n 0) 16).toNat).map fun (i:Nat)=>(i:Int)
def qk8 (o:List Int) (n:Int):List Int:=qbi o (qfG n) 16
def qfU:Ctr:={ fn := 29,nv:=4,ip:=[gIp 2],args:=[dgV 0,iv .i64 (.var 1)],heap:=[],ro:=[gHp 2 3],pre:=fun Z=>qH (qd (Z 0).d 32)/\gOk Z 2 3 gR,alts:=[
 { k:=4,ret:=.one (.vslice 4 (.lit 0) (.var 5) (.var 6) 1),heap:=[iHp 4 7 6],post:=fun Z=>qaw (Z 7).d (Z 5).i (qk8 (qd (Z 0).d 32) (Z 1).i) }] }
def qtY:Inv:={ key:=3,nv:=7,env:=[(2,qoi 1000),(5,.one (.vslice 1001 (.lit 0) (.var 1002) (.var 1003) 1)),(10,iv .i64 (.var 1006)),(11,iv .i64 (.var 1005))],heap:=[q60 1000,iHp 1001 1004 1003],inv:=(fun Z=>0 <= (Z 1005).i/\(Z 1005).i <= (Z 1006).i/\(Z 1006).i = min (max (Z 1).i 0) 16/\qaw (Z 1004).d (Z 1002).i (qfG (Z 1005).i)),mu:=(fun Z=>((Z 1006).i - (Z 1005).i).toNat) }
def qgs (o:List Int) (self:Int) (L:List Int) (n:Int) (held buried:Bool):Int :=
 if buried then (if held then 3 else 0) else if n < 1 then 0 else if self ∈ qbi o L n then (if held then 0 else 1) else if held = true/\((qbi o L n).length:Int) = n then 2 else 0
def q62 (Z:Env) (g:Nat):Prop:=qH (qd (Z 0).d 32)/\qay Z 2/\gOk Z 10 11 g
def qmJ:Ctr:={ fn := 35,nv:=12,ip:=[gIp 10],args:=[dgV 0,iv .i64 (.var 1),bS 2,iv .i64 (.var 7),.one (.vbool (.var 8)),.one (.vbool (.var 9))],heap:=[],ro:=[qbL 2,gHp 10 11],pre:=fun Z=>q62 Z gR,alts:=[
 { k:=1,ret:=iv .u8 (.var 12),heap:=[],post:=fun Z=>(Z 12).i = qgs (qd (Z 0).d 32) (Z 1).i (qk (Z 5).d) (Z 7).i (Z 8).b (Z 9).b }] }
def mtI:MT:=⟨false,[.i64],false,[.int .u64],[.vint .u64 (.lit 0)]⟩
def mtO:MT:=⟨true,List.replicate 32 .u8,false,[.any],[.vnilm]⟩
abbrev Cl:=List Int->Int->Option Int
def qbk (l:List ME) (i:Int):Option Int:=(l.find? fun x=>x.k == [i]).map fun x=>qS (x.v.headD .nilFunc)
def qj (h:Hp) (v:Value) (cl:Cl):Prop:=∃ b l c,v = .map (some b)/\qZ h b mtO l c /\
 (∀ x ∈ l,∃ b' m c',x.v = [.map (some b')]/\b' ≠ b/\qZ h b' mtI m c'/\∀ i,cl x.k i = qbk m i) /\
 (∀ x ∈ l,∀ y ∈ l,x.k ≠ y.k->x.v ≠ y.v)/\(∀ o i,(∀ x ∈ l,x.k ≠ o)->cl o i = none)/\∀ o i t,cl o i = some t->0 <= i/\i < 16/\0 <= t/\t < 18446744073709551616
def qcS (cl:Cl) (o:List Int) (i t:Int):Cl:=if 0 <= i/\i < 16 then fun o' i'=>if o' = o/\i' = i then some t else cl o' i' else cl
def qcl (t clock:Int):Bool:=decide (t <= clock) && decide (clock - t < 12)
def qcd (cl:Cl) (o:List Int) (self clock:Int) (L H:List Int):Bool:=(List.range 16).any fun (i:Nat)=>match cl o i with
 | some t=>qcl t clock && decide ((i:Int) ∈ L) && !decide ((i:Int) ∈ H) && qO o i self
 | none=>false
def qfc (r v:Nat):SH:=.cells r 179 [.var v]
def clP (r:Nat):SV:=.one (.vptr r (.lit 0) 1 0)
def ql8 (r v:Nat):SH:=.cells r 24 (qaF .u8 v 32)
def qgG:Ctr:={ fn := 61,nv:=0,args:=[],heap:=[],ro:=[],pre:=fun _=>True,alts:=[
 { k:=3,ret:=clP 0,heap:=[qfc 0 1,.abs 2 1003],post:=fun Z=>qj (Z 2).h (Z 1).v fun _ _=>none }] }
def qow:Ctr:={ fn := 101,nv:=2,args:=[iv .u64 (.var 0),iv .u64 (.var 1)],heap:=[],ro:=[],pre:=fun Z=>0 <= (Z 0).i/\(Z 0).i < 18446744073709551616/\0 <= (Z 1).i/\(Z 1).i < 18446744073709551616,alts:=[
 { k:=1,ret:=.one (.vbool (.var 2)),heap:=[],post:=fun Z=>(Z 2).b = qcl (Z 0).i (Z 1).i }] }
def qik:Ctr:={ fn := 62,nv:=6,args:=[clP 0,dgV 1,iv .i64 (.var 2),iv .u64 (.var 3)],heap:=[qfc 0 4,.abs 5 1003],ro:=[],pre:=fun Z=>(∃ cl,qj (Z 5).h (Z 4).v cl)/\0 <= (Z 3).i/\(Z 3).i < 18446744073709551616,alts:=[
 { k:=1,ret:=.tup [],heap:=[qfc 0 4,.abs 6 1003],post:=fun Z=>∀ cl,qj (Z 5).h (Z 4).v cl->qj (Z 6).h (Z 4).v (qcS cl (qd (Z 1).d 32) (Z 2).i (Z 3).i) }] }
def q1Y (h:Hp) (it:Value) (m:List ME) (seen:List Nat):Prop:=∃ b' mo since st,it = .pointer (some ⟨b',0,none⟩)/\h b' = some (.mapIter mo since seen.toArray st) /\
 ((mo = none/\m = [])∨∃ b c,mo = some b/\b' ≠ b/\qZ h b mtI m c/\c <= since/\(seen = []∨m = []∨∃ e ∈ m,e.born < st)/\∀ n ∈ seen,∃ e ∈ m,e.born = n)
def qbo (h:Hp) (it:Value):Nat :=
 match it with
 | .pointer (some a) =>
  match h a.block with
  | some (.mapIter (some b) _ seen _) =>
   match h b with
   | some (.map es _)=>(es.toList.filter fun e=>!(seen.contains e.born)).length
   | _=>0
  | _=>0
 | _=>0
def qzK (Z:Env):Prop:=(∃ cl,qj (Z 5).h (Z 4).v cl)/\qH (qd (Z 1).d 32)/\qay Z 6/\qay Z 11/\gOk Z 16 17 gR/\0 <= (Z 3).i/\(Z 3).i < 18446744073709551616
def qdF:Ctr:={ fn := 68,nv:=18,ip:=[gIp 16,(5030, 181)],args:=[clP 0,dgV 1,iv .i64 (.var 2),iv .u64 (.var 3),bS 6,bS 11],heap:=[qfc 0 4,.abs 5 1003],ro:=[qbL 6,qbL 11,gHp 16 17],pre:=qzK,alts:=[
 { k:=2,ret:=.one (.vbool (.var 18)),heap:=[qfc 0 4,.abs 19 1003],post:=fun Z=>∀ cl,qj (Z 5).h (Z 4).v cl->qj (Z 19).h (Z 4).v cl/\(Z 18).b = qcd cl (qd (Z 1).d 32) (Z 2).i (Z 3).i (qk (Z 9).d) (qk (Z 14).d) }] }
def qiV (o:List Int) (self clock:Int) (L H:List Int) (x:ME):Bool:=qcl (qS (x.v.headD .nilFunc)) clock && decide (x.k.headD 0 ∈ L) && !decide (x.k.headD 0 ∈ H) && qO o (x.k.headD 0) self
def qqZ (h0 h:Hp) (v it:Value) (o:List Int) (self clock:Int) (L H:List Int) (x:Bool):Prop:=∀ cl,qj h0 v cl->qj h v cl/\∃ m seen,q1Y h it m seen/\(∀ i,cl o i = qbk m i)/\x = (m.filter fun e=>seen.contains e.born).any (qiV o self clock L H)
def qtx:Inv:={ key:=6,nv:=8,env:=[(2,iv .i64 (.var 2)),(3,iv .u64 (.var 3)),(7,qoi 1000),(13,.one (.vptr 1001 (.lit 0) 16 0)),(14,.one (.vptr 1003 (.lit 0) 16 0)),(15,.one (.vbool (.var 1005))),(30,.one (.var 1006))],heap:=[ql8 1000 1,.arr 1001 157 qqT (.var 1002) (.lit 1),.arr 1003 157 qqT (.var 1004) (.lit 1),qfc 0 4,.abs 1007 1003],inv:=(fun Z=>qdh (Z 1002).d (qk (Z 14).d) (Z 14).d.length/\qdh (Z 1004).d (qk (Z 9).d) (Z 9).d.length/\qqZ (Z 5).h (Z 1007).h (Z 4).v (Z 1006).v (qd (Z 1).d 32) (Z 2).i (Z 3).i (qk (Z 9).d) (qk (Z 14).d) (Z 1005).b),mu:=(fun Z=>qbo (Z 1007).h (Z 1006).v) }
structure ManV where
 k:Int
 n:Int
 t:Int
 s:Int
 o:List Int
 D:List (List Int)
def ManV.ok (m:ManV):Bool:=qJ m.k m.n m.t m.s m.D.length
def ManV.bytes (m:ManV):List Int:=qaM m.k m.n m.t m.s m.o ++ m.D.flatten
abbrev PcL:=List (Int × List Int)
def q8Q (m d c:Nat):SH:=.arr m 27 qvL (.var d) (.var c)
def q89 (g o m p l q:Nat):SH:=.cells g 165 (qaF .u8 o 32 ++ [.vptr m (.lit 0) 37 0,.vslice p (.lit 0) (.var l) (.var q) 2])
def gaP (g:Nat):SV:=.one (.vptr g (.lit 0) 34 0)
def qtn (b tag:Nat):List SH:=[q89 b (b + 1) (b + 2) (b + 5) (b + 6) (b + 7),q8Q (b + 2) (b + 3) (b + 4),q3L (b + 5) (b + 8) (b + 7),.abs (b + 9) tag]
def qh4 (h:Hp) (d:qf) (m:ManV):Prop:=∃ row D,d = [row]/\qt qvL row/\Rd h k32 (row[36]?.getD .nilFunc) D/\qft D/\dgs D = m.D/\qaJ row 0 = m.k/\qaJ row 1 = m.n/\qaJ row 2 = m.t/\qaJ row 3 = m.s/\((List.range 32).map fun j=>qaJ row (4 + j)) = m.o/\qH m.o/\m.ok = true
def qo3 (h:Hp) (P:qf) (L:PcL):Prop:=P.length = L.length/\qqL h P P.length/\∀ j,j < P.length->(pcI P j,pcD h P j) = L.getD j (0,[])
def qbM (h:Hp) (r:Option Addr) (d:qf) (c n:Int) (P:qf) (M:Option ManV) (L:PcL):Prop:=n = P.length/\qo3 h P L/\(∀ x ∈ L,(x.2.length:Int) <= 9000)/\L.length <= 255/\((M = none/\r = none/\c = 0/\d = []/\L = [])∨∃ m,M = some m/\c = 1/\qh4 h d m/\L ≠ [])
def qgF (M:Option ManV) (L:PcL):Bool:=match M with
 | some m=>decide (m.k <= L.length)
 | none=>false
def gaB (Z:Env) (b:Nat) (M:Option ManV) (L:PcL):Prop:=qbM (Z (b + 9)).h (Z (b + 2)).r (Z (b + 3)).d (Z (b + 4)).i (Z (b + 6)).i (Z (b + 8)).d M L
def qjs:Ctr:={ fn := 45,nv:=1,args:=[dgV 0],heap:=[],ro:=[],pre:=fun _=>True,alts:=[
 { k:=1,ret:=gaP 1,heap:=[.cells 1 165 (qaF .u8 0 32 ++ [.vnilp,.vnils])],post:=fun _=>True }] }
def qg9:Ctr:={ fn := 47,nv:=10,args:=[gaP 0],heap:=[],ro:=qtn 0 20,pre:=fun Z=>∃ M L,gaB Z 0 M L,alts:=[
 { k:=1,ret:=.one (.vbool (.var 10)),heap:=[],post:=fun Z=>∀ M L,gaB Z 0 M L->(Z 10).b = qgF M L }] }
def qit:Ctr:={ fn := 55,nv:=10,args:=[gaP 0],heap:=[],ro:=qtn 0 20,pre:=fun Z=>∃ M L,gaB Z 0 M L,alts:=[
 { k:=4,ret:=.one (.vslice 10 (.lit 0) (.var 11) (.var 12) 1),heap:=[iHp 10 13 12],post:=fun Z=>∀ M L,gaB Z 0 M L->qaw (Z 13).d (Z 11).i (L.map Prod.fst) }] }
def q6r:Inv:={ key:=5,nv:=5,env:=[(3,.one (.vslice 1000 (.lit 0) (.var 1001) (.var 1002) 1)),(12,pcS 5 6 7),(13,iv .i64 (.var 6)),(14,iv .i64 (.var 1004))],heap:=[iHp 1000 1003 1002],inv:=(fun Z=>0 <= (Z 1004).i/\(Z 1004).i <= (Z 6).i/\qaw (Z 1003).d (Z 1001).i (qgQ (Z 8).d (Z 1004).i.toNat)),mu:=(fun Z=>((Z 6).i - (Z 1004).i).toNat) }
def qjj:Ctr:={ fn := 90,nv:=5,args:=[.one (.vslice 0 (.lit 0) (.var 1) (.var 2) 32)],heap:=[],ro:=[qfn 0 3 4],pre:=fun Z=>0 <= (Z 1).i/\(Z 1).i = (Z 3).d.length/\(Z 1).i <= 4398046510976,alts:=[
 { k:=3,ret:=.one (.vslice 5 (.lit 0) (.var 1) (.var 6) 32),heap:=[qfn 5 7 6],post:=fun Z=>(Z 7).d = (Z 3).d }] }
def qfN (o:List Int) (M:Option ManV) (L:PcL) (m:ManV) (i:Int) (b:List Int):Int :=
 if m.ok = false then 2 else if sha m.bytes ≠ o then 20 else if qce m.k m.n m.t m.s m.D.length m.D i b ≠ 0 then qce m.k m.n m.t m.s m.D.length m.D i b else if i ∈ L.map Prod.fst then 7 else if qgF M L then 8 else 0
def q06 (Z:Env) (r:Nat):ManV:=⟨(Z r).i,(Z (r + 1)).i,(Z (r + 2)).i,(Z (r + 3)).i,qd (Z (r + 4)).d 32,dgs (Z (r + 8)).d⟩
def q0Z (Z:Env):Prop:=(∃ M L,gaB Z 0 M L)/\qH (qd (Z 1).d 32)/\q6t Z 10/\qmo (Z 20).i/\qha Z 20/\(Z 22).i <= 9000
def qjy:Ctr:={ fn := 48,nv:=28,ip:=[gIp 26,(1002,9)],args:=[gaP 0,q61 10,qki 20],heap:=qtn 0 20,ro:=[qfn 15 18 19,qq7 20,gHp 26 27],pre:=fun Z=>q0Z Z/\gOk Z 26 27 gR,alts:=[
 { k:=9,ret:=iv .i64 (.var 36),heap:=[q89 0 1 28 31 32 33,q8Q 28 29 30,q3L 31 34 33,.abs 35 20],post:=fun Z=>∀ M L,gaB Z 0 M L->(Z 36).i = qfN (qd (Z 1).d 32) M L (q06 Z 10) (Z 20).i (bI (Z 24).d)/\qbM (Z 35).h (Z 28).r (Z 29).d (Z 30).i (Z 32).i (Z 34).d (if (Z 36).i = 0 then some (q06 Z 10) else M) (if (Z 36).i = 0 then L ++ [((Z 20).i,bI (Z 24).d)] else L) }] }
end Go.Eng
namespace Go.Proofs
open Go Go.Eng Go.RowKit Go.Lib
theorem q4b {P:Program} (a b:Addr) (xs ys:List Int) (c c':Nat) (w:World) (hx:∀ j x,xs[j]? = some x->w.cell? (a.add j) = some (.int .u8 x)) (hy:∀ j x,ys[j]? = some x->w.cell? (b.add j) = some (.int .u8 x)) :
  (Extern.BytealgCompare.compare #[.slice (some a) xs.length c,.slice (some b) ys.length c']).run P w = .ok (.int .i64 (compareBytes (Lib.bytesOf xs) (Lib.bytesOf ys))) w:=by
 have h1:=run_loadBytesX (P:=P) w xs a .empty hx
 have h2:=run_loadBytesX (P:=P) w ys b .empty hy
 change Sem.run P (do pure (goInt (Extern.BytealgCompare.cmp (<- Extern.Bytes.bytesOf (.slice (some a) xs.length c)) (<- Extern.Bytes.bytesOf (.slice (some b) ys.length c'))))) w = _
 simp only [Extern.Bytes.bytesOf,Sem.run_bind,h1,h2,Sem.run_pure,Result.andThen]
 rw [cmp_eq]
 simp [goInt]
set_option maxHeartbeats 1000000 in
set_option maxRecDepth 100000 in
theorem qqz (a b:Addr) (xs ys:List Int) (c c':Nat) (w:World) (hx:∀ j x,xs[j]? = some x->w.cell? (a.add j) = some (.int .u8 x)) (hy:∀ j x,ys[j]? = some x->w.cell? (b.add j) = some (.int .u8 x)) :
  Calls Tryz.prog 118 #[.slice (some a) xs.length c,.slice (some b) ys.length c'] w fun e w'=>e = .returned (.int .i64 (compareBytes (Lib.bytesOf xs) (Lib.bytesOf ys)))/\w' = w:=by
 go_enter Tryz.func118,Tryz.ntmps118
 go_wp2
 rw [run_callFunc_extern Tryz.func139 (by kernel_rfl) (by kernel_rfl) (by kernel_rfl) (e:=Extern.BytealgCompare.compare) (by kernel_rfl),q4b a b xs ys c c' w hx hy]
 simp only [Result.andThen]
 rw [Oper.upon_value]
 go_wp2
 go_ret
 exact ⟨rfl,rfl⟩
end Go.Proofs
namespace Go.Proofs
open Go Go.Eng
theorem qtp {x y:Int} (hx:0 <= x/\x < 256) (hy:0 <= y/\y < 256):x.toNat.toUInt8 < y.toNat.toUInt8↔x < y:=by
 rw [UInt8.lt_iff_toNat_lt]
 have h1:x.toNat.toUInt8.toNat = x.toNat:=by
  show x.toNat % 256 = x.toNat
  omega
 have h2:y.toNat.toUInt8.toNat = y.toNat:=by
  show y.toNat % 256 = y.toNat
  omega
 rw [h1,h2]; omega
theorem qmq:∀ {xs ys:List Int},qH xs->qH ys->Lib.compareBytes (Lib.bytesOf xs) (Lib.bytesOf ys) = qbl xs ys
 | [],[],_,_=>rfl
 | [],_ :: _,_,_=>rfl
 | _ :: _,[],_,_=>rfl
 | x :: xs,y :: ys,hx,hy=>by
  have h1:=qtp (hx x (jae ..)) (hy y (jae ..))
  have h2:=qtp (hy y (jae ..)) (hx x (jae ..))
  have h3:=qmq (xs:=xs) (ys:=ys) (fun z hz=>hx z (jab _ hz)) (fun z hz=>hy z (jab _ hz))
  show (if x.toNat.toUInt8 < y.toNat.toUInt8 then -1 else if y.toNat.toUInt8 < x.toNat.toUInt8 then 1 else Lib.compareBytes (Lib.bytesOf xs) (Lib.bytesOf ys)) = _
  rw [h3,qbl]
  simp only [h1,h2]
theorem q8O {k:IntKind} {v:Value} (h:CK.fits (.int k) v = true):∃ z,v = .int k z:=by
 cases v <;> simp [CK.fits] at h
 subst h
 exact ⟨_,rfl⟩
theorem qum {c:Array Value} {b o:Nat} {ty:TypeId} {fr:Nat × Nat} {d:qf} {w:World} (hb:w.heap[b]? = some (.cells c ty fr)) (hd:qC d 33) (hr:qT c o kRk d) :
  ∀ j x,((qd d 33).drop 1)[j]? = some x->w.cell? ((⟨b,o + 1,none⟩:Addr).add j) = some (.int .u8 x):=fun j x hx=>by
 obtain ⟨row,rfl,hl⟩:=hd
 obtain ⟨hf,hc⟩:=hr 0 row rfl
 rw [jbd] at hx
 have hj:1 + j < 33:=by
  rcases jbs (1 + j) 33 with h | h
  ·exact h
  ·rw [jaw (by simp [qd]; omega)] at hx; cases hx
 have hx2:x = qS (row[1 + j]?.getD .nilFunc):=by
  rw [qd,jan,jbx hj] at hx
  have:=(jaz hx).symm
  rw [this]; rfl
 have hrow:row[1 + j]? = some row[1 + j]:=jac (by omega)
 have hk:kRk[1 + j]? = some (.int .u8):=by
  have:kRk = .int .i64 :: List.replicate 32 (.int .u8):=rfl
  rw [this,jdd,ja5,jbj,jah (by omega)]
 obtain ⟨z,hz⟩:=q8O (hf.2 (1 + j) (.int .u8) row[1 + j] hk hrow)
 have hv:=hc (1 + j) row[1 + j] hrow
 rw [hx2,hrow]
 simp only [ja2]
 rw [hz] at hv ⊢
 have e:((⟨b,o + 1,none⟩:Addr).add j) = ⟨b,o + 1 + j,none⟩:=by
  unfold Addr.add
  by_cases hj0:j = 0
  ·subst hj0; simp
  ·simp [hj0]
 rw [e]
 simp only [World.cell?,hb]
 show c[o + 1 + j]? = _
 rw [show o + 1 + j = o + 0 * kRk.length + (1 + j) by omega,hv]
 rfl
theorem q7r:qpI.ok Tryz.prog:=by
 refine ⟨fun args w=>Tryz.call118 args w,fun Z w hF hO hg hd hw hs hro hp=>?_⟩
 obtain ⟨h2,h3,b2,b3⟩:=hp
 have hr0:=hro _ (jae ..)
 have hr1:=hro _ (jab _ (jae ..))
 obtain ⟨row2,e2,l2⟩:=h2
 obtain ⟨row3,e3,l3⟩:=h3
 rcases hr0 with h | ⟨b,o,c,ty,fr,q1,q2,q3⟩
 ·have h:(Z 2).d = []:=h
  rw [e2] at h; cases h
 rcases hr1 with h | ⟨b',o',c',ty',fr',p1,p2,p3⟩
 ·have h:(Z 3).d = []:=h
  rw [e3] at h; cases h
 have hsub:∀ {x:Nat} {X:Obj},hF.h x = some X->w.heap[x]? = some X:=fun h=>hw.1 _ _ (by simp [Hp.union,h])
 have hx:=qum (w:=w) (hsub q2) ⟨row2,e2,l2⟩ q3
 have hy:=qum (w:=w) (hsub p2) ⟨row3,e3,l3⟩ p3
 have hlen:∀ d:qf,((qd d 33).drop 1).length = 32:=fun d=>by simp [qd]
 have hc:=qqz ⟨b,o + 1,none⟩ ⟨b',o' + 1,none⟩ _ _ 32 32 w hx hy
 rw [hlen,hlen] at hc
 have hargs:(List.map (SV.den Z) qpI.args).toArray = #[.slice (some ⟨b,o + 1,none⟩) 32 32,.slice (some ⟨b',o' + 1,none⟩) 32 32]:=by
  simp [qpI,SV.den,T.den,O0.den,O3.den,q1,p1,qm]
 rw [hargs]
 refine hc.mono fun e w' h=>?_
 obtain ⟨rfl,rfl⟩:=h
 refine ⟨0,_,Z.set 4 { i:=qbl ((qd (Z 2).d 33).drop 1) ((qd (Z 3).d 33).drop 1) },rfl,fun n=>?_,fun n hn=>Env.set_ne _ _ (by have:n < 4:=hn; omega),?_,?_,hO,hd,trivial,hw.1,hw.2⟩
 ·by_cases hn:n = 4
  ·subst hn; rw [Env.set_same]; exact ⟨rfl,fun row hr=>(by cases hr)⟩
  ·rw [Env.set_ne _ _ hn]; exact hg n
 ·rw [qmq b2 b3]; rfl
 ·rfl
set_option maxRecDepth 100000
def q1q:Out:=(.br (.cmp .geq (tv 0) (tl 0))
 (.ret 0 (sg 1 [bt 1 (.cmp .lss (tv 0) (tl 16))]))
 (.ret 0 (sg 1 [bt 1 (.bl false)])))
theorem q7s:qn Tryz.prog qfh [] [] q1q:=qh Tryz.func100 Tryz.call100 (by kernel_rfl)
@[simp] def qbr:T:=.rcons (.vbool (.bcell (tv 7) (tl 0) 0)) (.rcons (.vbool (.bcell (tv 7) (tl 0) 1)) (.rcons (.vbool (.bcell (tv 7) (tl 0) 2)) (.rcons (.vbool (.bcell (tv 7) (tl 0) 3)) (.rcons (.vbool (.bcell (tv 7) (tl 0) 4)) (.rcons (.vbool (.bcell (tv 7) (tl 0) 5)) (.rcons (.vbool (.bcell (tv 7) (tl 0) 6)) (.rcons (.vbool (.bcell (tv 7) (tl 0) 7)) (.rcons (.vbool (.bcell (tv 7) (tl 0) 8)) (.rcons (.vbool (.bcell (tv 7) (tl 0) 9)) (.rcons (.vbool (.bcell (tv 7) (tl 0) 10)) (.rcons (.vbool (.bcell (tv 7) (tl 0) 11)) (.rcons (.vbool (.bcell (tv 7) (tl 0) 12)) (.rcons (.vbool (.bcell (tv 7) (tl 0) 13)) (.rcons (.vbool (.bcell (tv 7) (tl 0) 14)) (.rcons (.vbool (.bcell (tv 7) (tl 0) 15)) .rnil)))))))))))))))
def qqm:Out:=(.fresh 5 (.need (.cmp .leq (tl 0) (tv 1)) (.inv 0 6 (sg 1000 [bt 1001 (.rcons (.vbool (.bl false)) (.rcons (.vbool (.bl false)) (.rcons (.vbool (.bl false)) (.rcons (.vbool (.bl false)) (.rcons (.vbool (.bl false)) (.rcons (.vbool (.bl false)) (.rcons (.vbool (.bl false)) (.rcons (.vbool (.bl false)) (.rcons (.vbool (.bl false)) (.rcons (.vbool (.bl false)) (.rcons (.vbool (.bl false)) (.rcons (.vbool (.bl false)) (.rcons (.vbool (.bl false)) (.rcons (.vbool (.bl false)) (.rcons (.vbool (.bl false)) (.rcons (.vbool (.bl false)) .rnil)))))))))))))))),bt 1002 (tl 0),bg 1000 5]) (fr 6 3 (.hyp 0 6 (.br (.cmp .lss (tv 8) (tv 1))
 (.need (.cmp .leq (tl 0) (tv 8)) (.need (.cmp .lss (tv 8) (.dlen (tv 3))) (.pre 0 (sg 0 [bt 0 (.icell (tv 3) (tv 8) 0)]) (.both (.fresh 9 (.post 0 0 (sg 0 [bt 0 (.icell (tv 3) (tv 8) 0)]) 9 (.br (tv 9)
 (.need (.cmp .leq (tl 0) (.icell (tv 3) (tv 8) 0)) (.need (.cmp .lss (.icell (tv 3) (tv 8) 0) (tl 16)) (.need (.cmp .lss (tl 0) (.dlen (tv 7))) (.back 0 6 (sg 1000 [bt 1001 (.c3 (.xput 0) (tv 7) (.icell (tv 3) (tv 8) 0) (.vbool (.bl true))),bt 1002 (.arith .add .i64 (tv 8) (tl 1)),bg 1000 6])))))
 (.back 0 6 (sg 1000 [bv 1001 7,bt 1002 (.arith .add .i64 (tv 8) (tl 1)),bg 1000 6]))))) .top))))
 (.need (.cmp .lss (tl 0) (.dlen (tv 7))) (.ret 0 (sg 5 [bt 20 (.bcell (.dput (tv 7) (tl 0) 0 qbr) (tl 0) 15),bt 19 (.bcell (.dput (tv 7) (tl 0) 0 qbr) (tl 0) 14),bt 18 (.bcell (.dput (tv 7) (tl 0) 0 qbr) (tl 0) 13),bt 17 (.bcell (.dput (tv 7) (tl 0) 0 qbr) (tl 0) 12),bt 16 (.bcell (.dput (tv 7) (tl 0) 0 qbr) (tl 0) 11),bt 15 (.bcell (.dput (tv 7) (tl 0) 0 qbr) (tl 0) 10),bt 14 (.bcell (.dput (tv 7) (tl 0) 0 qbr) (tl 0) 9),bt 13 (.bcell (.dput (tv 7) (tl 0) 0 qbr) (tl 0) 8),bt 12 (.bcell (.dput (tv 7) (tl 0) 0 qbr) (tl 0) 7),bt 11 (.bcell (.dput (tv 7) (tl 0) 0 qbr) (tl 0) 6),bt 10 (.bcell (.dput (tv 7) (tl 0) 0 qbr) (tl 0) 5),bt 9 (.bcell (.dput (tv 7) (tl 0) 0 qbr) (tl 0) 4),bt 8 (.bcell (.dput (tv 7) (tl 0) 0 qbr) (tl 0) 3),bt 7 (.bcell (.dput (tv 7) (tl 0) 0 qbr) (tl 0) 2),bt 6 (.bcell (.dput (tv 7) (tl 0) 0 qbr) (tl 0) 1),bt 5 (.bcell (.dput (tv 7) (tl 0) 0 qbr) (tl 0) 0)])))))))))
theorem q8z:qn Tryz.prog qi8 [qfh] [qty] qqm:=qh Tryz.func82 Tryz.call82 (by kernel_rfl)
@[simp] def qrA:Sg:=sg 0 [bv 7 3,bv 5 8,bt 4 (.dapp (.dapp (.rcons (x8 0 0) .rnil) (.dapp (.rcons (x8 1 0) .rnil) (.dapp (.rcons (x8 2 0) .rnil) (.dapp (.rcons (x8 3 0) .rnil) (.dapp (.rcons (x8 4 0) .rnil) (.dapp (.rcons (x8 5 0) .rnil) (.dapp (.rcons (x8 6 0) .rnil) (.dapp (.rcons (x8 7 0) .rnil) (.dapp (.rcons (x8 8 0) .rnil) (.dapp (.rcons (x8 9 0) .rnil) (.dapp (.rcons (x8 10 0) .rnil) (.dapp (.rcons (x8 11 0) .rnil) (.dapp (.rcons (x8 12 0) .rnil) (.dapp (.rcons (x8 13 0) .rnil) (.dapp (.rcons (x8 14 0) .rnil) (.dapp (.rcons (x8 15 0) .rnil) (.dapp (.rcons (x8 16 0) .rnil) (.dapp (.rcons (x8 17 0) .rnil) (.dapp (.rcons (x8 18 0) .rnil) (.dapp (.rcons (x8 19 0) .rnil) (.dapp (.rcons (x8 20 0) .rnil) (.dapp (.rcons (x8 21 0) .rnil) (.dapp (.rcons (x8 22 0) .rnil) (.dapp (.rcons (x8 23 0) .rnil) (.dapp (.rcons (x8 24 0) .rnil) (.dapp (.rcons (x8 25 0) .rnil) (.dapp (.rcons (x8 26 0) .rnil) (.dapp (.rcons (x8 27 0) .rnil) (.dapp (.rcons (x8 28 0) .rnil) (.dapp (.rcons (x8 29 0) .rnil) (.dapp (.rcons (x8 30 0) .rnil) (.rcons (x8 31 0) .rnil)))))))))))))))))))))))))))))))) (.rcons (.vint .u8 (.conv .u8 (tv 1))) .rnil)),bv 3 8,bt 2 (tl 33),bt 1 (tl 0),bg 0 7,bg 6 2]
def qxQ:Out:=(fr 4 3 (.need (.cmp .leq (.tims (tl 1) (tl 33)) (tl 140737488355328)) (fr 7 2 (.know (.cmp .leq (tl 33) (tv 8)) (.pre 0 qrA (.both (.fresh 9 (.post 0 0 qrA 9 (.ret 0 (sg 4 [bt 4 (r8 9)])))) .top))))))
theorem q4n:qn Tryz.prog qg7 [qdO] [] qxQ:=qh Tryz.func24 Tryz.call24 (by kernel_rfl)
@[simp] def qqf:Sg:=sg 0 [bv 6 3,bv 4 11,bt 3 (.dapp (.dapp (.rcons (x8 0 0) .rnil) (.dapp (.rcons (x8 1 0) .rnil) (.dapp (.rcons (x8 2 0) .rnil) (.dapp (.rcons (x8 3 0) .rnil) (.dapp (.rcons (x8 4 0) .rnil) (.dapp (.rcons (x8 5 0) .rnil) (.dapp (.rcons (x8 6 0) .rnil) (.dapp (.rcons (x8 7 0) .rnil) (.dapp (.rcons (x8 8 0) .rnil) (.dapp (.rcons (x8 9 0) .rnil) (.dapp (.rcons (x8 10 0) .rnil) (.dapp (.rcons (x8 11 0) .rnil) (.dapp (.rcons (x8 12 0) .rnil) (.dapp (.rcons (x8 13 0) .rnil) (.dapp (.rcons (x8 14 0) .rnil) (.dapp (.rcons (x8 15 0) .rnil) (.dapp (.rcons (x8 16 0) .rnil) (.dapp (.rcons (x8 17 0) .rnil) (.dapp (.rcons (x8 18 0) .rnil) (.dapp (.rcons (x8 19 0) .rnil) (.dapp (.rcons (x8 20 0) .rnil) (.dapp (.rcons (x8 21 0) .rnil) (.dapp (.rcons (x8 22 0) .rnil) (.dapp (.rcons (x8 23 0) .rnil) (.dapp (.rcons (x8 24 0) .rnil) (.dapp (.rcons (x8 25 0) .rnil) (.dapp (.rcons (x8 26 0) .rnil) (.dapp (.rcons (x8 27 0) .rnil) (.dapp (.rcons (x8 28 0) .rnil) (.dapp (.rcons (x8 29 0) .rnil) (.dapp (.rcons (x8 30 0) .rnil) (.rcons (x8 31 0) .rnil)))))))))))))))))))))))))))))))) (.rcons (.vint .u8 (.conv .u8 (tv 1))) .rnil)),bv 2 11,bt 1 (tl 33),bg 0 10,bg 5 2]
def qvH:Out:=(fr 4 3 (.need (.cmp .leq (.tims (tl 1) (tl 32)) (tl 140737488355328)) (fr 7 3 (.need (.cmp .leq (.tims (tl 1) (tl 33)) (tl 140737488355328)) (fr 10 2 (.pre 0 qqf (.both (.fresh 12 (.post 0 0 qqf 12 (.ret 0 (sg 4 [bt 4 (r8 12)])))) .top)))))))
theorem q0R:qn Tryz.prog qjd [qpU] [] qvH:=qh Tryz.func25 Tryz.call25 (by kernel_rfl)
def q32:Out:=(fr 4 2 (.pre 0 (sg 0 [bv 3 3,bv 1 1,bt 0 (r8 0),bg 2 2]) (.both (.fresh 6 (.post 0 0 (sg 0 [bv 3 3,bv 1 1,bt 0 (r8 0),bg 2 2]) 6 (.ret 0 (sg 4 [bt 4 (r8 6)])))) .top)))
theorem q6O:qn Tryz.prog qjK [qg7] [] q32:=qh Tryz.func80 Tryz.call80 (by kernel_rfl)
def qsl:Out:=(fr 4 2 (.both (.pre 0 (sg 0 [bt 3 (.rcons (.vint .i64 (tv 2)) (r8 3)),bt 2 (.rcons (.vint .i64 (tv 0)) (r8 1)),bg 1 5,bg 0 4]) (.both (.fresh 6 (.post 0 0 (sg 0 [bt 3 (.rcons (.vint .i64 (tv 2)) (r8 3)),bt 2 (.rcons (.vint .i64 (tv 0)) (r8 1)),bg 1 5,bg 0 4]) 6 (.br (.cmp .neq (tv 6) (tl 0))
 (.ret 0 (sg 4 [bv 4 6]))
 (.ret 0 (sg 4 [bt 4 (.arith .sub .i64 (tv 0) (tv 2))]))))) .top)) .top))
theorem qyS:qn Tryz.prog qh2 [qpI] [] qsl:=qh Tryz.func81 Tryz.call81 (by kernel_rfl)
@[simp] def qp5:Out:=.fresh 10 (.both (.fresh 11 (.both (.both (.br (.c2 .req (r8 6) (r8 8))
 (.ret 0 (sg 5 [bt 5 (.cmp .lss (tv 1) (tv 2))]))
 (.pre 1 (sg 0 [bv 2 2,bt 3 (r8 8),bv 0 1,bt 1 (r8 6)]) (.both (.fresh 12 (.post 1 0 (sg 0 [bv 2 2,bt 3 (r8 8),bv 0 1,bt 1 (r8 6)]) 12 (.ret 0 (sg 5 [bt 5 (.cmp .lss (tv 12) (tl 0))])))) .top))) .top) .top)) .top)
@[simp] def qoK:Out:=.fresh 8 (.both (.pre 0 (sg 0 [bv 3 4,bv 1 2,bt 0 (r8 0),bg 2 3]) (.both (fr 9 2 (.post 0 0 (sg 0 [bv 3 4,bv 1 2,bt 0 (r8 0),bg 2 3]) 9 (.both (.fresh 11 (.both (.both (.br (.c2 .req (r8 6) (r8 9))
 (.ret 0 (sg 5 [bt 5 (.cmp .lss (tv 1) (tv 2))]))
 (.pre 1 (sg 0 [bv 2 2,bt 3 (r8 9),bv 0 1,bt 1 (r8 6)]) (.both (.fresh 12 (.post 1 0 (sg 0 [bv 2 2,bt 3 (r8 9),bv 0 1,bt 1 (r8 6)]) 12 (.ret 0 (sg 5 [bt 5 (.cmp .lss (tv 12) (tl 0))])))) .top))) .top) .top)) .top))) .top)) (.both (.fresh 9 (.both (.pre 0 (sg 0 [bv 3 4,bv 1 2,bt 0 (r8 0),bg 2 3]) (.both (fr 10 2 (.post 0 0 (sg 0 [bv 3 4,bv 1 2,bt 0 (r8 0),bg 2 3]) 10 (.both (.both (.br (.c2 .req (r8 6) (r8 10))
 (.ret 0 (sg 5 [bt 5 (.cmp .lss (tv 1) (tv 2))]))
 (.pre 1 (sg 0 [bv 2 2,bt 3 (r8 10),bv 0 1,bt 1 (r8 6)]) (.both (.fresh 12 (.post 1 0 (sg 0 [bv 2 2,bt 3 (r8 10),bv 0 1,bt 1 (r8 6)]) 12 (.ret 0 (sg 5 [bt 5 (.cmp .lss (tv 12) (tl 0))])))) .top))) .top) .top))) .top)) .top)) .top))
@[simp] def qpJ:Out:=.fresh 6 (.both (.pre 0 (sg 0 [bv 3 4,bv 1 1,bt 0 (r8 0),bg 2 3]) (.both (fr 7 2 (.post 0 0 (sg 0 [bv 3 4,bv 1 1,bt 0 (r8 0),bg 2 3]) 7 (.both (.pre 0 (sg 0 [bv 3 4,bv 1 2,bt 0 (r8 0),bg 2 3]) (.both (fr 9 2 (.post 0 0 (sg 0 [bv 3 4,bv 1 2,bt 0 (r8 0),bg 2 3]) 9 (.both (.fresh 11 (.both (.both (.br (.c2 .req (r8 7) (r8 9))
 (.ret 0 (sg 5 [bt 5 (.cmp .lss (tv 1) (tv 2))]))
 (.pre 1 (sg 0 [bv 2 2,bt 3 (r8 9),bv 0 1,bt 1 (r8 7)]) (.both (.fresh 12 (.post 1 0 (sg 0 [bv 2 2,bt 3 (r8 9),bv 0 1,bt 1 (r8 7)]) 12 (.ret 0 (sg 5 [bt 5 (.cmp .lss (tv 12) (tl 0))])))) .top))) .top) .top)) .top))) .top)) (.both (.fresh 9 (.both (.pre 0 (sg 0 [bv 3 4,bv 1 2,bt 0 (r8 0),bg 2 3]) (.both (fr 10 2 (.post 0 0 (sg 0 [bv 3 4,bv 1 2,bt 0 (r8 0),bg 2 3]) 10 (.both (.both (.br (.c2 .req (r8 7) (r8 10))
 (.ret 0 (sg 5 [bt 5 (.cmp .lss (tv 1) (tv 2))]))
 (.pre 1 (sg 0 [bv 2 2,bt 3 (r8 10),bv 0 1,bt 1 (r8 7)]) (.both (.fresh 12 (.post 1 0 (sg 0 [bv 2 2,bt 3 (r8 10),bv 0 1,bt 1 (r8 7)]) 12 (.ret 0 (sg 5 [bt 5 (.cmp .lss (tv 12) (tl 0))])))) .top))) .top) .top))) .top)) .top)) .top)))) .top)) (.both (.fresh 7 (.both (.pre 0 (sg 0 [bv 3 4,bv 1 1,bt 0 (r8 0),bg 2 3]) (.both (fr 8 2 (.post 0 0 (sg 0 [bv 3 4,bv 1 1,bt 0 (r8 0),bg 2 3]) 8 (.both (.pre 0 (sg 0 [bv 3 4,bv 1 2,bt 0 (r8 0),bg 2 3]) (.both (fr 10 2 (.post 0 0 (sg 0 [bv 3 4,bv 1 2,bt 0 (r8 0),bg 2 3]) 10 (.both (.both (.br (.c2 .req (r8 8) (r8 10))
 (.ret 0 (sg 5 [bt 5 (.cmp .lss (tv 1) (tv 2))]))
 (.pre 1 (sg 0 [bv 2 2,bt 3 (r8 10),bv 0 1,bt 1 (r8 8)]) (.both (.fresh 12 (.post 1 0 (sg 0 [bv 2 2,bt 3 (r8 10),bv 0 1,bt 1 (r8 8)]) 12 (.ret 0 (sg 5 [bt 5 (.cmp .lss (tv 12) (tl 0))])))) .top))) .top) .top))) .top)) .top))) .top)) .top)) .top))
def qt5:Out:=(.fresh 5 (.both (.pre 0 (sg 0 [bv 3 4,bv 1 1,bt 0 (r8 0),bg 2 3]) (.both (fr 6 2 (.post 0 0 (sg 0 [bv 3 4,bv 1 1,bt 0 (r8 0),bg 2 3]) 6 (.both (.pre 0 (sg 0 [bv 3 4,bv 1 2,bt 0 (r8 0),bg 2 3]) (.both (fr 8 2 (.post 0 0 (sg 0 [bv 3 4,bv 1 2,bt 0 (r8 0),bg 2 3]) 8 (.both qp5 (.both qp5 .top)))) .top)) (.both qoK (.both qoK .top))))) .top)) (.both qpJ (.both qpJ .top))))
theorem q2M:qn Tryz.prog qdR [qjK,qh2] [] qt5:=qh Tryz.func26 Tryz.call26 (by kernel_rfl)
@[simp] def qiM:T:=.c1 .vbytes (.dapp (.rcons (x8 0 9) .rnil) (.dapp (.rcons (x8 1 9) .rnil) (.dapp (.rcons (x8 2 9) .rnil) (.dapp (.rcons (x8 3 9) .rnil) (.dapp (.rcons (x8 4 9) .rnil) (.dapp (.rcons (x8 5 9) .rnil) (.dapp (.rcons (x8 6 9) .rnil) (.dapp (.rcons (x8 7 9) .rnil) (.dapp (.rcons (x8 8 9) .rnil) (.dapp (.rcons (x8 9 9) .rnil) (.dapp (.rcons (x8 10 9) .rnil) (.dapp (.rcons (x8 11 9) .rnil) (.dapp (.rcons (x8 12 9) .rnil) (.dapp (.rcons (x8 13 9) .rnil) (.dapp (.rcons (x8 14 9) .rnil) (.dapp (.rcons (x8 15 9) .rnil) (.dapp (.rcons (x8 16 9) .rnil) (.dapp (.rcons (x8 17 9) .rnil) (.dapp (.rcons (x8 18 9) .rnil) (.dapp (.rcons (x8 19 9) .rnil) (.dapp (.rcons (x8 20 9) .rnil) (.dapp (.rcons (x8 21 9) .rnil) (.dapp (.rcons (x8 22 9) .rnil) (.dapp (.rcons (x8 23 9) .rnil) (.dapp (.rcons (x8 24 9) .rnil) (.dapp (.rcons (x8 25 9) .rnil) (.dapp (.rcons (x8 26 9) .rnil) (.dapp (.rcons (x8 27 9) .rnil) (.dapp (.rcons (x8 28 9) .rnil) (.dapp (.rcons (x8 29 9) .rnil) (.dapp (.rcons (x8 30 9) .rnil) (.rcons (x8 31 9) .rnil))))))))))))))))))))))))))))))))
@[simp] def qiK:T:=.c1 .vbytes (.dapp (.rcons (x8 0 8) .rnil) (.dapp (.rcons (x8 1 8) .rnil) (.dapp (.rcons (x8 2 8) .rnil) (.dapp (.rcons (x8 3 8) .rnil) (.dapp (.rcons (x8 4 8) .rnil) (.dapp (.rcons (x8 5 8) .rnil) (.dapp (.rcons (x8 6 8) .rnil) (.dapp (.rcons (x8 7 8) .rnil) (.dapp (.rcons (x8 8 8) .rnil) (.dapp (.rcons (x8 9 8) .rnil) (.dapp (.rcons (x8 10 8) .rnil) (.dapp (.rcons (x8 11 8) .rnil) (.dapp (.rcons (x8 12 8) .rnil) (.dapp (.rcons (x8 13 8) .rnil) (.dapp (.rcons (x8 14 8) .rnil) (.dapp (.rcons (x8 15 8) .rnil) (.dapp (.rcons (x8 16 8) .rnil) (.dapp (.rcons (x8 17 8) .rnil) (.dapp (.rcons (x8 18 8) .rnil) (.dapp (.rcons (x8 19 8) .rnil) (.dapp (.rcons (x8 20 8) .rnil) (.dapp (.rcons (x8 21 8) .rnil) (.dapp (.rcons (x8 22 8) .rnil) (.dapp (.rcons (x8 23 8) .rnil) (.dapp (.rcons (x8 24 8) .rnil) (.dapp (.rcons (x8 25 8) .rnil) (.dapp (.rcons (x8 26 8) .rnil) (.dapp (.rcons (x8 27 8) .rnil) (.dapp (.rcons (x8 28 8) .rnil) (.dapp (.rcons (x8 29 8) .rnil) (.dapp (.rcons (x8 30 8) .rnil) (.rcons (x8 31 8) .rnil))))))))))))))))))))))))))))))))
@[simp] def qiS:T:=.c1 .vbytes (.dapp (.rcons (x8 0 7) .rnil) (.dapp (.rcons (x8 1 7) .rnil) (.dapp (.rcons (x8 2 7) .rnil) (.dapp (.rcons (x8 3 7) .rnil) (.dapp (.rcons (x8 4 7) .rnil) (.dapp (.rcons (x8 5 7) .rnil) (.dapp (.rcons (x8 6 7) .rnil) (.dapp (.rcons (x8 7 7) .rnil) (.dapp (.rcons (x8 8 7) .rnil) (.dapp (.rcons (x8 9 7) .rnil) (.dapp (.rcons (x8 10 7) .rnil) (.dapp (.rcons (x8 11 7) .rnil) (.dapp (.rcons (x8 12 7) .rnil) (.dapp (.rcons (x8 13 7) .rnil) (.dapp (.rcons (x8 14 7) .rnil) (.dapp (.rcons (x8 15 7) .rnil) (.dapp (.rcons (x8 16 7) .rnil) (.dapp (.rcons (x8 17 7) .rnil) (.dapp (.rcons (x8 18 7) .rnil) (.dapp (.rcons (x8 19 7) .rnil) (.dapp (.rcons (x8 20 7) .rnil) (.dapp (.rcons (x8 21 7) .rnil) (.dapp (.rcons (x8 22 7) .rnil) (.dapp (.rcons (x8 23 7) .rnil) (.dapp (.rcons (x8 24 7) .rnil) (.dapp (.rcons (x8 25 7) .rnil) (.dapp (.rcons (x8 26 7) .rnil) (.dapp (.rcons (x8 27 7) .rnil) (.dapp (.rcons (x8 28 7) .rnil) (.dapp (.rcons (x8 29 7) .rnil) (.dapp (.rcons (x8 30 7) .rnil) (.rcons (x8 31 7) .rnil))))))))))))))))))))))))))))))))
@[simp] def qiQ:T:=.c1 .vbytes (.dapp (.rcons (x8 0 6) .rnil) (.dapp (.rcons (x8 1 6) .rnil) (.dapp (.rcons (x8 2 6) .rnil) (.dapp (.rcons (x8 3 6) .rnil) (.dapp (.rcons (x8 4 6) .rnil) (.dapp (.rcons (x8 5 6) .rnil) (.dapp (.rcons (x8 6 6) .rnil) (.dapp (.rcons (x8 7 6) .rnil) (.dapp (.rcons (x8 8 6) .rnil) (.dapp (.rcons (x8 9 6) .rnil) (.dapp (.rcons (x8 10 6) .rnil) (.dapp (.rcons (x8 11 6) .rnil) (.dapp (.rcons (x8 12 6) .rnil) (.dapp (.rcons (x8 13 6) .rnil) (.dapp (.rcons (x8 14 6) .rnil) (.dapp (.rcons (x8 15 6) .rnil) (.dapp (.rcons (x8 16 6) .rnil) (.dapp (.rcons (x8 17 6) .rnil) (.dapp (.rcons (x8 18 6) .rnil) (.dapp (.rcons (x8 19 6) .rnil) (.dapp (.rcons (x8 20 6) .rnil) (.dapp (.rcons (x8 21 6) .rnil) (.dapp (.rcons (x8 22 6) .rnil) (.dapp (.rcons (x8 23 6) .rnil) (.dapp (.rcons (x8 24 6) .rnil) (.dapp (.rcons (x8 25 6) .rnil) (.dapp (.rcons (x8 26 6) .rnil) (.dapp (.rcons (x8 27 6) .rnil) (.dapp (.rcons (x8 28 6) .rnil) (.dapp (.rcons (x8 29 6) .rnil) (.dapp (.rcons (x8 30 6) .rnil) (.rcons (x8 31 6) .rnil))))))))))))))))))))))))))))))))
@[simp] def qn0:Out:=.fresh 8 (.both (.fresh 9 (.both (.both (.br (.c2 .req (r8 6) (r8 7))
 (.ret 0 (sg 5 [bt 5 (.cmp .lss (tv 1) (tv 2))]))
 (.ret 0 (sg 5 [bt 5 (.c2 .slt qiQ qiS)]))) .top) .top)) .top)
@[simp] def qnl:Out:=.fresh 7 (.both (.pre 0 (sg 0 [bv 3 4,bv 1 2,bt 0 (r8 0),bg 2 3]) (.both (.fresh 8 (.post 0 0 (sg 0 [bv 3 4,bv 1 2,bt 0 (r8 0),bg 2 3]) 8 (.both (.fresh 9 (.both (.both (.br (.c2 .req (r8 6) (r8 8))
 (.ret 0 (sg 5 [bt 5 (.cmp .lss (tv 1) (tv 2))]))
 (.ret 0 (sg 5 [bt 5 (.c2 .slt qiQ qiK)]))) .top) .top)) .top))) .top)) (.both (.fresh 8 (.both (.pre 0 (sg 0 [bv 3 4,bv 1 2,bt 0 (r8 0),bg 2 3]) (.both (.fresh 9 (.post 0 0 (sg 0 [bv 3 4,bv 1 2,bt 0 (r8 0),bg 2 3]) 9 (.both (.both (.br (.c2 .req (r8 6) (r8 9))
 (.ret 0 (sg 5 [bt 5 (.cmp .lss (tv 1) (tv 2))]))
 (.ret 0 (sg 5 [bt 5 (.c2 .slt qiQ qiM)]))) .top) .top))) .top)) .top)) .top))
@[simp] def qns:Out:=.fresh 6 (.both (.pre 0 (sg 0 [bv 3 4,bv 1 1,bt 0 (r8 0),bg 2 3]) (.both (.fresh 7 (.post 0 0 (sg 0 [bv 3 4,bv 1 1,bt 0 (r8 0),bg 2 3]) 7 (.both (.pre 0 (sg 0 [bv 3 4,bv 1 2,bt 0 (r8 0),bg 2 3]) (.both (.fresh 8 (.post 0 0 (sg 0 [bv 3 4,bv 1 2,bt 0 (r8 0),bg 2 3]) 8 (.both (.fresh 9 (.both (.both (.br (.c2 .req (r8 7) (r8 8))
 (.ret 0 (sg 5 [bt 5 (.cmp .lss (tv 1) (tv 2))]))
 (.ret 0 (sg 5 [bt 5 (.c2 .slt qiS qiK)]))) .top) .top)) .top))) .top)) (.both (.fresh 8 (.both (.pre 0 (sg 0 [bv 3 4,bv 1 2,bt 0 (r8 0),bg 2 3]) (.both (.fresh 9 (.post 0 0 (sg 0 [bv 3 4,bv 1 2,bt 0 (r8 0),bg 2 3]) 9 (.both (.both (.br (.c2 .req (r8 7) (r8 9))
 (.ret 0 (sg 5 [bt 5 (.cmp .lss (tv 1) (tv 2))]))
 (.ret 0 (sg 5 [bt 5 (.c2 .slt qiS qiM)]))) .top) .top))) .top)) .top)) .top)))) .top)) (.both (.fresh 7 (.both (.pre 0 (sg 0 [bv 3 4,bv 1 1,bt 0 (r8 0),bg 2 3]) (.both (.fresh 8 (.post 0 0 (sg 0 [bv 3 4,bv 1 1,bt 0 (r8 0),bg 2 3]) 8 (.both (.pre 0 (sg 0 [bv 3 4,bv 1 2,bt 0 (r8 0),bg 2 3]) (.both (.fresh 9 (.post 0 0 (sg 0 [bv 3 4,bv 1 2,bt 0 (r8 0),bg 2 3]) 9 (.both (.both (.br (.c2 .req (r8 8) (r8 9))
 (.ret 0 (sg 5 [bt 5 (.cmp .lss (tv 1) (tv 2))]))
 (.ret 0 (sg 5 [bt 5 (.c2 .slt qiK qiM)]))) .top) .top))) .top)) .top))) .top)) .top)) .top))
def qr3:Out:=(.fresh 5 (.both (.pre 0 (sg 0 [bv 3 4,bv 1 1,bt 0 (r8 0),bg 2 3]) (.both (.fresh 6 (.post 0 0 (sg 0 [bv 3 4,bv 1 1,bt 0 (r8 0),bg 2 3]) 6 (.both (.pre 0 (sg 0 [bv 3 4,bv 1 2,bt 0 (r8 0),bg 2 3]) (.both (.fresh 7 (.post 0 0 (sg 0 [bv 3 4,bv 1 2,bt 0 (r8 0),bg 2 3]) 7 (.both qn0 (.both qn0 .top)))) .top)) (.both qnl (.both qnl .top))))) .top)) (.both qns (.both qns .top))))
theorem qzc:qn Tryz.prog qhL [qjd] [] qr3:=qh Tryz.func27 Tryz.call27 (by kernel_rfl)
set_option maxRecDepth 20000
theorem qrm:qfh.ok Tryz.prog:=q7s (by simp) fun Z hg hp=>by
 simp (config:={ maxSteps:=4000000 }) [q1q,qfh,qpk]
 exact ⟨fun h=>by simp [qL,h],fun h1 h2=>by omega⟩
theorem qpr (d:qf) (p:Int):(qd d 32).map (fun x=>[Value.int .u8 x]) ++ [[Value.int .u8 (IntKind.u8.wrap p)]] = [[.int .u8 (qa d 0)],[.int .u8 (qa d 1)],[.int .u8 (qa d 2)],[.int .u8 (qa d 3)],[.int .u8 (qa d 4)],[.int .u8 (qa d 5)],[.int .u8 (qa d 6)],[.int .u8 (qa d 7)],[.int .u8 (qa d 8)],[.int .u8 (qa d 9)],[.int .u8 (qa d 10)],[.int .u8 (qa d 11)],[.int .u8 (qa d 12)],[.int .u8 (qa d 13)],[.int .u8 (qa d 14)],[.int .u8 (qa d 15)],[.int .u8 (qa d 16)],[.int .u8 (qa d 17)],[.int .u8 (qa d 18)],[.int .u8 (qa d 19)],[.int .u8 (qa d 20)],[.int .u8 (qa d 21)],[.int .u8 (qa d 22)],[.int .u8 (qa d 23)],[.int .u8 (qa d 24)],[.int .u8 (qa d 25)],[.int .u8 (qa d 26)],[.int .u8 (qa d 27)],[.int .u8 (qa d 28)],[.int .u8 (qa d 29)],[.int .u8 (qa d 30)],[.int .u8 (qa d 31)],[.int .u8 (IntKind.u8.wrap p)]]:=rfl
theorem qoq (d:qf) (p:Int):bI ((qd d 32).map (fun x=>[Value.int .u8 x]) ++ [[Value.int .u8 (IntKind.u8.wrap p)]]) = qd d 32 ++ [p % 256]:=by
 rw [qj2]
 congr 1
theorem qqc {d:qf} {p:Int} (h:qH (qd d 32)):q6 ((qd d 32).map (fun x=>[Value.int .u8 x]) ++ [[Value.int .u8 (IntKind.u8.wrap p)]]):=by
 refine q7n ?_
 rw [qoq]
 intro x hx
 rcases jas.1 hx with hx | hx
 ·exact h x hx
 ·rw [jaj.1 hx]; exact ⟨Int.emod_nonneg _ (by decide),Int.emod_lt_of_pos _ (by decide)⟩
theorem qvX:qg7.ok Tryz.prog:=q4n (by simp [qkY]) fun Z hg hp=>by
 obtain ⟨hO,hGr,hGd⟩:=hp
 simp (config:={ maxSteps:=4000000 }) [qxQ,qg7,qdO,qmD,gOk,hGr,hGd,hO]
 rw [<- qpr]
 refine fun u _ hu=>⟨⟨by omega,qqc hO⟩,fun v _ hv=>?_⟩
 rw [hv,qkB (by simp [qd]),qoq]; rfl
theorem q2O:qjd.ok Tryz.prog:=q0R (by simp [q6Y]) fun Z hg hp=>by
 obtain ⟨hO,hGr,hGd⟩:=hp
 simp (config:={ maxSteps:=4000000 }) [qvH,qjd,qpU,gOk,hGr,hGd,hO]
 rw [<- qpr]
 refine ⟨qqc hO,fun v _ hv=>?_⟩
 rw [hv,qoq]; rfl
theorem qxr:qjK.ok Tryz.prog:=q6O (by simp [qvX]) fun Z hg hp=>by
 obtain ⟨hO,hGr,hGd⟩:=hp
 simp (config:={ maxSteps:=4000000 }) [q32,qjK,qg7,gOk,hGr,hGd,hO]
theorem qzf:qh2.ok Tryz.prog:=qyS (by simp [q7r]) fun Z hg hp=>by
 obtain ⟨h1,h3⟩:=hp
 simp (config:={ maxSteps:=4000000 }) [qsl,qh2,qpI]
 refine ⟨⟨⟨_,rfl,rfl⟩,⟨_,rfl,rfl⟩,h1,h3⟩,fun u _ hu=>?_⟩
 have hu:u.i = qbl (qd (Z 1).d 32) (qd (Z 3).d 32):=hu
 rw [<- hu]
 exact ⟨fun h=>by simp [h],fun h=>by simp [h]⟩
theorem qrB:qdR.ok Tryz.prog:=q2M (by simp [qxr,qzf]) fun Z hg hp=>by
 obtain ⟨hO,hGr,hGd⟩:=hp
 simp (config:={ maxSteps:=4000000 }) [qt5,qdR,qjK,qh2,gOk,hGr,hGd,hO]
 intro u _ hu u1 _ hu1
 rw [hu,hu1]
 unfold qO
 refine ⟨fun h=>by rw [jah h]; rfl,fun h=>⟨⟨qd7 _,qd7 _⟩,fun v _ hv=>?_⟩⟩
 rw [jaf (fun h'=>h (qeT.1 h'))] at hv
 rw [jaf h,hv]; rfl
theorem q0S (d:qf):(qd d 32).map (fun x=>[Value.int .u8 x]) = [[.int .u8 (qa d 0)],[.int .u8 (qa d 1)],[.int .u8 (qa d 2)],[.int .u8 (qa d 3)],[.int .u8 (qa d 4)],[.int .u8 (qa d 5)],[.int .u8 (qa d 6)],[.int .u8 (qa d 7)],[.int .u8 (qa d 8)],[.int .u8 (qa d 9)],[.int .u8 (qa d 10)],[.int .u8 (qa d 11)],[.int .u8 (qa d 12)],[.int .u8 (qa d 13)],[.int .u8 (qa d 14)],[.int .u8 (qa d 15)],[.int .u8 (qa d 16)],[.int .u8 (qa d 17)],[.int .u8 (qa d 18)],[.int .u8 (qa d 19)],[.int .u8 (qa d 20)],[.int .u8 (qa d 21)],[.int .u8 (qa d 22)],[.int .u8 (qa d 23)],[.int .u8 (qa d 24)],[.int .u8 (qa d 25)],[.int .u8 (qa d 26)],[.int .u8 (qa d 27)],[.int .u8 (qa d 28)],[.int .u8 (qa d 29)],[.int .u8 (qa d 30)],[.int .u8 (qa d 31)]]:=rfl
theorem q6l:∀ {xs ys:List Int},qH xs->qH ys->Op.bytesLess (xs.map fun x=>UInt8.ofNat x.toNat) (ys.map fun x=>UInt8.ofNat x.toNat) = decide (qbl xs ys < 0)
 | [],[],_,_=>rfl
 | [],_ :: _,_,_=>rfl
 | _ :: _,[],_,_=>rfl
 | x :: xs,y :: ys,hx,hy=>by
  have h1:=qtp (hx x (jae ..)) (hy y (jae ..))
  have h2:=qtp (hy y (jae ..)) (hx x (jae ..))
  have h3:=q6l (xs:=xs) (ys:=ys) (fun z hz=>hx z (jab _ hz)) (fun z hz=>hy z (jab _ hz))
  change UInt8.ofNat x.toNat < UInt8.ofNat y.toNat↔x < y at h1
  change UInt8.ofNat y.toNat < UInt8.ofNat x.toNat↔y < x at h2
  show (decide (UInt8.ofNat x.toNat < UInt8.ofNat y.toNat) || (UInt8.ofNat x.toNat == UInt8.ofNat y.toNat && Op.bytesLess (xs.map fun x=>UInt8.ofNat x.toNat) (ys.map fun x=>UInt8.ofNat x.toNat))) = _
  rw [h3,qbl]
  by_cases a1:x < y
  ·rw [jah a1,jda (h1.2 a1)]; rfl
  ·rw [jaf a1,jdw (fun h=>a1 (h1.1 h))]
   by_cases a2:y < x
   ·rw [jah a2]
    have:(UInt8.ofNat x.toNat == UInt8.ofNat y.toNat) = false:=by
     rw [beq_eq_false_iff_ne]
     intro h
     have h4:=h2.2 a2
     rw [h] at h4
     exact UInt8.lt_irrefl _ h4
    rw [this]; rfl
   ·rw [jaf a2]
    obtain rfl:x = y:=by omega
    simp
theorem qyN:qhL.ok Tryz.prog:=qzc (by simp [q2O]) fun Z hg hp=>by
 obtain ⟨hO,hGr,hGd⟩:=hp
 simp (config:={ maxSteps:=4000000 }) [qr3,qhL,qjd,gOk,qhp,hGr,hGd,hO]
 intro u _ hu u1 _ hu1
 rw [<- q0S u.d,<- q0S u1.d,qo0,qo0,show bI ((qd u.d 32).map fun x=>[Value.int .u8 x]) = qd u.d 32 from rfl,show bI ((qd u1.d 32).map fun x=>[Value.int .u8 x]) = qd u1.d 32 from rfl,hu,hu1]
 unfold qO
 refine ⟨fun h=>by rw [jah h]; rfl,fun h=>?_⟩
 rw [jaf h]
 exact q6l (qd7 _) (qd7 _)
theorem qnw {L:List Int}:qdh [List.replicate 16 (.bool false)] L 0:=by
 refine ⟨⟨_,rfl,ja4 ..⟩,fun x h0 h1=>⟨fun h=>?_,fun h=>by simp at h⟩⟩
 exfalso
 have h2:qaV [List.replicate 16 (Value.bool false)] x.toNat = false:=by
  unfold qaV
  rw [jbq,jbj,jah (by omega)]; rfl
 rw [h2] at h; cases h
theorem qdI {L:List Int} {n:Nat} (hn:n < L.length):L.take (n + 1) = L.take n ++ [L.getD n 0]:=by
 rw [jd9,jac hn,jad,jac hn]; rfl
theorem qnA {s:qf} {L:List Int} {n:Nat} {y:Int} (h:qdh s L n) (hn:n < L.length) (hy:y = L.getD n 0) (h0:0 <= y) (h1:y < 16):qdh (qa1 s y.toNat (.bool true)) L (n + 1):=by
 obtain ⟨⟨row,rfl,hr⟩,h2⟩:=h
 refine ⟨⟨_,rfl,by rw [jem]; exact hr⟩,fun x x0 x1=>?_⟩
 have hc:qaV (qa1 [row] y.toNat (.bool true)) x.toNat = if x = y then true else qaV [row] x.toNat:=by
  unfold qaV qa1
  rw [jbq,jbq,jce]
  by_cases hxe:x = y
  ·rw [jah (by rw [hxe]),jah (by omega),jah hxe]; rfl
  ·rw [jaf (fun e=>hxe (by omega)),jaf hxe]
 rw [hc,qdI hn,<- hy,jas,jaj]
 by_cases hxe:x = y
 ·rw [jah hxe]; exact ⟨fun _=>.inr hxe,fun _=>rfl⟩
 ·rw [jaf hxe,h2 x x0 x1]
  exact ⟨.inl,fun h=>h.resolve_right hxe⟩
theorem qn1 {s:qf} {L:List Int} {n:Nat} {y:Int} (h:qdh s L n) (hn:n < L.length) (hy:y = L.getD n 0) (hne:¬ (0 <= y/\y < 16)):qdh s L (n + 1):=by
 refine ⟨h.1,fun x x0 x1=>?_⟩
 rw [h.2 x x0 x1,qdI hn,<- hy,jas,jaj]
 exact ⟨.inl,fun h=>h.resolve_right (fun e=>hne (by omega))⟩
theorem qby {d:qf} {i:Int} (h0:0 <= i) (h1:i < d.length):qb d i 0 = (qk d).getD i.toNat 0:=by
 have hl:i.toNat < d.length:=by omega
 rw [qk,jad,jan,jac hl]
 simp [qb,qG,qaJ,jac hl]
theorem q1O:qi8.ok Tryz.prog:=q8z (by simp [qrm]) fun Z hg hp=>by
 obtain ⟨hl,h1,hr⟩:=hp
 simp only [Nat.reduceAdd] at hl h1 hr
 simp (config:={ maxSteps:=4000000 }) [qqm,qi8,qty,qfh,hl]
 have hil:(qk (Z 3).d).length = (Z 3).d.length:=by simp [qk]
 refine ⟨qnw,fun s _ i _ i0 i1 hs=>⟨fun hi=>⟨i0,hi,fun u _ hu=>⟨fun ht=>?_,fun hf=>?_⟩⟩,fun hi=>?_⟩⟩
 ·have hp:0 <= qb (Z 3).d i.i 0/\qb (Z 3).d i.i 0 < 16:=by rw [hu] at ht; exact jbf ht
  have hsl:0 < s.d.length:=by obtain ⟨⟨row,e,_⟩,_⟩:=hs; rw [e]; exact Nat.one_pos
  rw [add64 (x:=i.i) (by omega) (by omega)]
  refine ⟨hp.1,hp.2,hsl,⟨by omega,by omega,?_⟩,by omega⟩
  rw [show (i.i + 1).toNat = i.i.toNat + 1 by omega]
  exact qnA hs (by omega) (qby i0 hi) hp.1 hp.2
 ·have hp:¬ (0 <= qb (Z 3).d i.i 0/\qb (Z 3).d i.i 0 < 16):=by rw [hu] at hf; exact jds hf
  rw [add64 (x:=i.i) (by omega) (by omega)]
  refine ⟨⟨by omega,by omega,?_⟩,by omega⟩
  rw [show (i.i + 1).toNat = i.i.toNat + 1 by omega]
  exact qn1 hs (by omega) (qby i0 hi) hp
 ·obtain ⟨⟨row,hs1,hrl⟩,hs2⟩:=hs
  rw [ja3 (by omega)] at hs2
  rw [hs1] at hs2 ⊢
  match row,hrl with
  | [a0,a1,a2,a3,a4,a5,a6,a7,a8,a9,a10,a11,a12,a13,a14,a15],_ =>
   refine ⟨by simp,?_⟩
   have key:qeq ((List.range 16).map (qaV [[a0,a1,a2,a3,a4,a5,a6,a7,a8,a9,a10,a11,a12,a13,a14,a15]])) (qk (Z 3).d):=⟨by simp,fun j hj=>by
    rw [jad,jan,jbx hj]
    exact hs2 j (by omega) (by omega)⟩
   exact key
set_option maxRecDepth 100000
def q6o:Out:=(.inv 0 6 (sg 1000 [bt 1000 (tl 0)]) (.fresh 6 (.hyp 0 6 (.need (.cmp .leq (tl 0) (tv 1)) (.br (.cmp .lss (tv 6) (tv 1))
 (.need (.cmp .leq (tl 0) (tv 6)) (.need (.cmp .lss (tv 6) (.dlen (tv 3))) (.br (.cmp .eql (.icell (tv 3) (tv 6) 0) (tv 5))
 (.ret 0 (sg 6 [bt 6 (.bl true)]))
 (.back 0 6 (sg 1000 [bt 1000 (.arith .add .i64 (tv 6) (tl 1))])))))
 (.ret 0 (sg 6 [bt 6 (.bl false)])))))))
theorem q86:qn Tryz.prog qor [] [q8L] q6o:=qh Tryz.func34 Tryz.call34 (by kernel_rfl)
def qx8:Out:=(.need (.cmp .leq (tl 0) (tv 1)) (.need (.cmp .leq (tl 0) (tv 6)) (.br (.cmp .neq (tv 1) (tv 6))
 (.ret 0 (sg 10 [bt 10 (.bl false)]))
 (.inv 0 10 (sg 1000 [bt 1000 (tl 0)]) (.fresh 10 (.hyp 0 10 (.br (.cmp .lss (tv 10) (tv 1))
 (.need (.cmp .leq (tl 0) (tv 10)) (.need (.cmp .lss (tv 10) (.dlen (tv 3))) (.need (.cmp .lss (tv 10) (tv 6)) (.need (.cmp .lss (tv 10) (.dlen (tv 8))) (.br (.cmp .neq (.icell (tv 3) (tv 10) 0) (.icell (tv 8) (tv 10) 0))
 (.ret 0 (sg 10 [bt 10 (.bl false)]))
 (.back 0 10 (sg 1000 [bt 1000 (.arith .add .i64 (tv 10) (tl 1))])))))))
 (.ret 0 (sg 10 [bt 10 (.bl true)])))))))))
theorem q4a:qn Tryz.prog qm5 [] [q0V] qx8:=qh Tryz.func28 Tryz.call28 (by kernel_rfl)
def q1e:Out:=(.fresh 5 (.need (.cmp .leq (tl 0) (tv 1)) (.need (.cmp .leq (tv 1) (.dlen (tv 3))) (.need (.cmp .leq (.tims (tl 8) (tv 1)) (tl 140737488355328)) (fr 6 2 (.ret 0 (sg 5 [bt 7 (.dtake (tv 3) (tv 1)),bv 6 7,bg 5 6])))))))
theorem q6N:qn Tryz.prog qph [] [] q1e:=qh Tryz.func33 Tryz.call33 (by kernel_rfl)
set_option maxRecDepth 20000
theorem qb2 {d:qf}:(qk d).length = d.length:=by simp [qk]
theorem q2n:qor.ok Tryz.prog:=q86 (by simp) fun Z hg hp=>by
 obtain ⟨hl,h1,hr⟩:=hp
 simp only [Nat.reduceAdd] at hl h1 hr
 simp (config:={ maxSteps:=4000000 }) [q6o,qor,q8L,hl]
 have hil:=qb2 (d:=(Z 3).d)
 intro i _ i0 i1 hno
 refine ⟨fun hi=>⟨i0,hi,fun he=>?_,fun hne=>?_⟩,fun hi=>?_⟩
 ·rw [qby i0 hi] at he
  rw [<- he,jad,jac (by omega)]
  exact jbz _
 ·rw [qby i0 hi] at hne
  rw [add64 (x:=i.i) (by omega) (by omega)]
  refine ⟨⟨by omega,by omega,?_⟩,by omega⟩
  rw [show (i.i + 1).toNat = i.i.toNat + 1 by omega,qdI (by omega),jas,jaj]
  exact fun h=>h.elim hno fun h=>hne h.symm
 ·rw [ja3 (by omega)] at hno
  exact hno
theorem q6P:qph.ok Tryz.prog:=q6N (by simp) fun Z hg hp=>by
 obtain ⟨hl,h1,hr⟩:=hp
 simp only [Nat.reduceAdd] at hl h1 hr
 simp (config:={ maxSteps:=4000000 }) [q1e,qph,hl]
 omega
theorem q5U:qm5.ok Tryz.prog:=q4a (by simp) fun Z hg hp=>by
 obtain ⟨⟨hl,h1,hr⟩,⟨hl2,h12,hr2⟩⟩:=hp
 simp only [Nat.reduceAdd] at hl h1 hr hl2 h12 hr2
 simp (config:={ maxSteps:=4000000 }) [qx8,qm5,q0V,hl,hl2]
 have la:=qb2 (d:=(Z 3).d)
 have lb:=qb2 (d:=(Z 8).d)
 refine ⟨fun hne he=>hne (by rw [<- la,<- lb,he]),fun hll i _ i0 i1 ht=>⟨fun hi=>⟨i0,hi,by omega,fun hne he=>?_,fun he=>?_⟩,fun hi=>?_⟩⟩
 ·rw [qby i0 hi,qby i0 (by omega),he] at hne
  exact hne rfl
 ·rw [add64 (x:=i.i) (by omega) (by omega)]
  refine ⟨⟨by omega,by omega,?_⟩,by omega⟩
  rw [qby i0 hi,qby i0 (by omega)] at he
  rw [show (i.i + 1).toNat = i.i.toNat + 1 by omega,qdI (by omega),qdI (by omega),ht,he]
 ·rw [ja3 (by omega),ja3 (by omega)] at ht
  exact ht
set_option maxRecDepth 100000
def qx2:Out:=(.fresh 5 (.inv 0 6 (sg 1000 [bt 1003 .dnil,bt 1004 (tl 0),bt 1002 (tl 0),bt 1001 (tl 0),bg 1000 5]) (fr 6 5 (.hyp 0 6 (.br (.cmp .lss (tv 10) (tl 16))
 (.pre 0 (sg 0 [bv 4 4,bv 3 3,bv 5 10,bv 2 2,bv 1 1,bg 0 0]) (.both (.fresh 11 (.post 0 0 (sg 0 [bv 4 4,bv 3 3,bv 5 10,bv 2 2,bv 1 1,bg 0 0]) 11 (.br (tv 11)
 (.fresh 12 (.need (.cmp .eql (tv 7) (.dlen (tv 9))) (.need (.cmp .leq (.tims (tl 8) (.plus (tv 7) (tl 1))) (tl 140737488355328)) (fr 13 2 (.back 0 6 (sg 1000 [bt 1003 (.dapp (tv 9) (.rcons (.vint .i64 (tv 10)) .rnil)),bt 1004 (.arith .add .i64 (tv 10) (tl 1)),bv 1002 14,bt 1001 (.plus (tv 7) (tl 1)),bg 1000 13]))))))
 (.back 0 6 (sg 1000 [bv 1003 9,bt 1004 (.arith .add .i64 (tv 10) (tl 1)),bv 1002 8,bv 1001 7,bg 1000 6]))))) .top))
 (.ret 0 (sg 5 [bv 8 9,bv 7 8,bv 6 7,bg 5 6])))))))
theorem q5B:qn Tryz.prog qlP [qor] [q35] qx2:=qh Tryz.func85 Tryz.call85 (by kernel_rfl)
def qyn:Out:=(.need (.cmp .leq (tl 0) (tv 1)) (.inv 0 6 (sg 1000 [bt 1000 (tl 0)]) (.fresh 6 (.hyp 0 6 (.br (.cmp .lss (tv 6) (tv 1))
 (.need (.cmp .leq (tl 0) (tv 6)) (.need (.cmp .lss (tv 6) (.dlen (tv 3))) (.br (.cmp .eql (tv 5) (.icell (tv 3) (tv 6) 0))
 (.ret 0 (sg 6 [bv 6 6]))
 (.back 0 6 (sg 1000 [bt 1000 (.arith .add .i64 (tv 6) (tl 1))])))))
 (.ret 0 (sg 6 [bt 6 (.lit (-1))])))))))
theorem q49:qn Tryz.prog qmn [] [q30] qyn:=qh Tryz.func121 Tryz.call121 (by kernel_rfl)
def qqp:Out:=(.pre 0 (sg 0 [bv 4 4,bv 3 3,bv 5 5,bv 2 2,bv 1 1,bg 0 0]) (.both (.fresh 6 (.post 0 0 (sg 0 [bv 4 4,bv 3 3,bv 5 5,bv 2 2,bv 1 1,bg 0 0]) 6 (.ret 0 (sg 6 [bt 6 (.cmp .geq (tv 6) (tl 0))])))) .top))
theorem qwG:qn Tryz.prog qd0 [qmn] [] qqp:=qh Tryz.func84 Tryz.call84 (by kernel_rfl)
set_option maxRecDepth 20000
theorem qbY {L:List Int} {n:Nat}:qK L (n + 1) = qK L n ++ (if (n:Int) ∈ L then [(n:Int)] else []):=by
 unfold qK
 rw [jel,jci,jcz]
 congr 1
 simp only [jay,jb9,jc5,List.filter_nil,jbc]
theorem qi3 {d:qf} {x:Int}:qk (d ++ [[.int .i64 x]]) = qk d ++ [x]:=by simp [qk,qaJ,qS]
theorem q3C:qlP.ok Tryz.prog:=q5B (by simp [q2n]) fun Z hg hp=>by
 obtain ⟨hl,h1,hr⟩:=hp
 simp only [Nat.reduceAdd] at hl h1 hr
 simp (config:={ maxSteps:=4000000 }) [qx2,qlP,q35,qor,qbL,qay,hl]
 refine ⟨rfl,fun n _ D _ i _ i0 i1 hn hni hD hD1=>⟨fun hi=>⟨⟨by omega,hr⟩,fun u _ hu=>⟨fun ht=>?_,fun hf=>?_⟩⟩,fun hi=>⟨hn,?_,hD1⟩⟩⟩
 ·have hm:i.i ∈ qk (Z 3).d:=by rw [hu] at ht; exact jbf ht
  rw [add64 (x:=i.i) (by omega) (by omega)]
  refine ⟨hn,by omega,⟨by omega,by omega,hn,by omega,?_,fun row h=>h.elim (hD1 row) fun h=>by rw [h]; rfl⟩,by omega⟩
  rw [qi3,hD,show (i.i + 1).toNat = i.i.toNat + 1 by omega,qbY,ja6 i0,jah hm]
 ·have hm:¬ i.i ∈ qk (Z 3).d:=by rw [hu] at hf; exact jds hf
  rw [add64 (x:=i.i) (by omega) (by omega)]
  refine ⟨⟨by omega,by omega,hn,by omega,?_,hD1⟩,by omega⟩
  rw [hD,show (i.i + 1).toNat = i.i.toNat + 1 by omega,qbY,ja6 i0,jaf hm,jcl]
 ·rw [hD,show i.i.toNat = 16 by omega]; rfl
theorem q4f:qmn.ok Tryz.prog:=q49 (by simp) fun Z hg hp=>by
 obtain ⟨hl,h1,hr⟩:=hp
 simp only [Nat.reduceAdd] at hl h1 hr
 simp (config:={ maxSteps:=4000000 }) [qyn,qmn,q30,hl]
 have hil:=qb2 (d:=(Z 3).d)
 intro i _ i0 i1 hno
 refine ⟨fun hi=>⟨i0,hi,fun he=>⟨fun _=>?_,fun _=>i0⟩,fun hne=>?_⟩,fun hi=>?_⟩
 ·rw [he,qby i0 hi,jad,jac (by omega)]
  exact jbz _
 ·rw [qby i0 hi] at hne
  rw [add64 (x:=i.i) (by omega) (by omega)]
  refine ⟨⟨by omega,by omega,?_⟩,by omega⟩
  rw [show (i.i + 1).toNat = i.i.toNat + 1 by omega,qdI (by omega),jas,jaj]
  exact fun h=>h.elim hno fun h=>hne h
 ·rw [ja3 (by omega)] at hno
  exact hno
theorem qnE:qd0.ok Tryz.prog:=qwG (by simp [q4f]) fun Z hg hp=>by
 obtain ⟨hl,h1,hr⟩:=hp
 simp only [Nat.reduceAdd] at hl h1 hr
 simp (config:={ maxSteps:=4000000 }) [qqp,qd0,qmn,qbL,qay,hl]
 refine ⟨⟨by omega,hr⟩,fun u _ hu=>?_⟩
 show decide (u.i ≥ 0) = _
 exact decide_eq_decide.2 hu
set_option maxRecDepth 100000
def qu6:Out:=(.fresh 9 (.pre 0 (sg 0 [bv 4 5,bv 3 4,bv 2 3,bv 1 2,bg 0 1]) (.both (fr 10 16 (.post 0 0 (sg 0 [bv 4 5,bv 3 4,bv 2 3,bv 1 2,bg 0 1]) 10 (.inv 0 26 (sg 1000 [bt 1005 .dnil,bt 1001 (tl 0),bt 1004 (tl 0),bt 1003 (tl 0),(1002,.nil),bg 1000 9]) (fr 26 6 (.hyp 0 26 (.br (.cmp .lss (tv 27) (tl 16))
 (.need (.cmp .leq (tl 0) (tv 27)) (.br (.c2 (.xbool 0) (.rcons (.vbool (tv 10)) (.rcons (.vbool (tv 11)) (.rcons (.vbool (tv 12)) (.rcons (.vbool (tv 13)) (.rcons (.vbool (tv 14)) (.rcons (.vbool (tv 15)) (.rcons (.vbool (tv 16)) (.rcons (.vbool (tv 17)) (.rcons (.vbool (tv 18)) (.rcons (.vbool (tv 19)) (.rcons (.vbool (tv 20)) (.rcons (.vbool (tv 21)) (.rcons (.vbool (tv 22)) (.rcons (.vbool (tv 23)) (.rcons (.vbool (tv 24)) (.rcons (.vbool (tv 25)) .rnil)))))))))))))))) (tv 27))
 (.pre 1 (sg 0 [bv 3 8,bv 1 27,bt 0 (r8 0),bg 2 7]) (.both (fr 32 2 (.post 1 0 (sg 0 [bv 3 8,bv 1 27,bt 0 (r8 0),bg 2 7]) 32 (.fresh 34 (.need (.cmp .eql (tv 29) (.dlen (tv 31))) (.need (.cmp .leq (.tims (tl 40) (.plus (tv 29) (tl 1))) (tl 140737488355328)) (fr 35 2 (.back 0 26 (sg 1000 [bt 1005 (.dapp (tv 31) (.rcons (.vint .i64 (tv 27)) (r8 32))),bt 1001 (.arith .add .i64 (tv 27) (tl 1)),bv 1004 36,bt 1003 (.plus (tv 29) (tl 1)),bg 1002 35,bg 1000 26])))))))) .top))
 (.back 0 26 (sg 1000 [bv 1005 31,bt 1001 (.arith .add .i64 (tv 27) (tl 1)),bv 1004 30,bv 1003 29,bg 1002 28,bg 1000 26]))))
 (.pre 2 (sg 0 [bv 3 31,bv 2 30,bv 1 29,bg 0 28]) (.both (.fresh 32 (.post 2 0 (sg 0 [bv 3 31,bv 2 30,bv 1 29,bg 0 28]) 32 (.fresh 33 (.need (.cmp .leq (tl 0) (tv 29)) (.know (.cmp .leq (.dlen (tv 32)) (tv 30)) (.need (.cmp .leq (tl 0) (tv 30)) (.need (.cmp .leq (tl 0) (.imin (.imax (tv 6) (tl 0)) (tv 29))) (.need (.cmp .leq (.imin (.imax (tv 6) (tl 0)) (tv 29)) (tv 30)) (.inv 1 34 (sg 1000 [bt 1008 .dnil,bv 1007 32,bt 1006 (tl 0),bt 1005 (tl 0),bg 1004 33,bt 1003 (tl 0),bv 1002 30,bt 1001 (.imin (.imax (tv 6) (tl 0)) (tv 29)),bg 1000 28]) (fr 34 9 (.hyp 1 34 (.br (.cmp .lss (tv 37) (tv 35))
 (.need (.cmp .leq (tl 0) (tv 37)) (.need (.cmp .lss (tv 37) (.dlen (tv 41))) (fr 43 2 (.need (.cmp .eql (tv 39) (.dlen (tv 42))) (.need (.cmp .leq (.tims (tl 8) (.plus (tv 39) (tl 1))) (tl 140737488355328)) (fr 45 2 (.back 1 34 (sg 1000 [bt 1008 (.dapp (tv 42) (.rcons (.vint .i64 (.icell (tv 41) (tv 37) 0)) .rnil)),bv 1007 41,bv 1006 46,bt 1005 (.plus (tv 39) (tl 1)),bg 1004 45,bt 1003 (.arith .add .i64 (tv 37) (tl 1)),bv 1002 36,bv 1001 35,bg 1000 34]))))))))
 (.ret 0 (sg 9 [bv 12 42,bv 11 40,bv 10 39,bg 9 38])))))))))))))) .top)))))))) .top)))
theorem q2I:qn Tryz.prog qdo [qi8,qjK,qfz] [qyl,qxy] qu6:=qh Tryz.func32 Tryz.call32 (by kernel_rfl)
def qsd:Out:=(fr 4 2 (.inv 0 6 (sg 1000 [bt 1004 .dnil,bt 1005 (tl 0),bt 1006 (.imin (.imax (tv 1) (tl 0)) (tl 16)),bt 1003 (tl 0),bt 1002 (tl 0),bg 1001 5,bg 1000 4]) (fr 6 7 (.hyp 0 6 (.br (.cmp .lss (tv 11) (tv 12))
 (.fresh 13 (.need (.cmp .eql (tv 8) (.dlen (tv 10))) (.need (.cmp .leq (.tims (tl 8) (.plus (tv 8) (tl 1))) (tl 140737488355328)) (fr 14 2 (.back 0 6 (sg 1000 [bt 1004 (.dapp (tv 10) (.rcons (.vint .i64 (tv 11)) .rnil)),bt 1005 (.arith .add .i64 (tv 11) (tl 1)),bv 1006 12,bv 1003 15,bt 1002 (.plus (tv 8) (tl 1)),bg 1001 14,bg 1000 6]))))))
 (.pre 0 (sg 0 [bv 8 3,bv 5 9,bv 4 10,bt 6 (tl 16),bv 3 9,bv 2 8,bg 1 7,bt 0 (r8 0),bg 7 2]) (.both (fr 13 4 (.post 0 0 (sg 0 [bv 8 3,bv 5 9,bv 4 10,bt 6 (tl 16),bv 3 9,bv 2 8,bg 1 7,bt 0 (r8 0),bg 7 2]) 13 (.ret 0 (sg 4 [bv 7 16,bv 6 15,bv 5 14,bg 4 13])))) .top)))))))
theorem qyH:qn Tryz.prog qfU [qdo] [qtY] qsd:=qh Tryz.func29 Tryz.call29 (by kernel_rfl)
def q2N:Out:=(.fresh 12 (.br (tv 9)
 (.br (tv 8)
 (.ret 0 (sg 12 [bt 12 (tl 3)]))
 (.ret 0 (sg 12 [bt 12 (tl 0)])))
 (.br (.cmp .lss (tv 7) (tl 1))
 (.ret 0 (sg 12 [bt 12 (tl 0)]))
 (.pre 0 (sg 0 [bv 8 11,bv 5 6,bv 4 5,bv 6 7,bv 3 4,bv 2 3,bg 1 2,bt 0 (r8 0),bg 7 10]) (.both (fr 13 4 (.post 0 0 (sg 0 [bv 8 11,bv 5 6,bv 4 5,bv 6 7,bv 3 4,bv 2 3,bg 1 2,bt 0 (r8 0),bg 7 10]) 13 (.pre 1 (sg 0 [bv 4 15,bv 3 16,bv 5 1,bv 2 15,bv 1 14,bg 0 13]) (.both (.fresh 17 (.post 1 0 (sg 0 [bv 4 15,bv 3 16,bv 5 1,bv 2 15,bv 1 14,bg 0 13]) 17 (.br (tv 17)
 (.br (.not (tv 8))
 (.ret 0 (sg 12 [bt 12 (tl 1)]))
 (.ret 0 (sg 12 [bt 12 (tl 0)])))
 (.br (tv 8)
 (.need (.cmp .leq (tl 0) (tv 14)) (.br (.cmp .eql (tv 14) (tv 7))
 (.ret 0 (sg 12 [bt 12 (tl 2)]))
 (.ret 0 (sg 12 [bt 12 (tl 0)]))))
 (.ret 0 (sg 12 [bt 12 (tl 0)])))))) .top)))) .top)))))
theorem q7I:qn Tryz.prog qmJ [qdo,qd0] [] q2N:=qh Tryz.func35 Tryz.call35 (by kernel_rfl)
variable {o:List Int}
theorem qjo {a b:Int}:(!qO o b a) = true↔qcT o a b <= 0:=by
 rw [qeW,jbe,decide_eq_false_iff_not,qke (a:=a) (b:=b)]; omega
theorem qhd {l:List Int}:(qat o l).Perm l:=List.mergeSort_perm l _
theorem q4T {l:List Int}:(qat o l).Pairwise fun a b=>(!qO o b a) = true:=by
 refine List.pairwise_mergeSort (fun a b c h1 h2=>?_) (fun a b=>?_) l
 ·rw [qjo] at h1 h2 ⊢
  by_cases e1:qcT o a b = 0
  ·rw [qeO.1 e1]; exact h2
  ·by_cases e2:qcT o b c = 0
   ·rw [<- qeO.1 e2]; exact h1
   ·have:=qkw (o:=o) (a:=a) (b:=b) (c:=c) (by omega) (by omega)
    omega
 ·rw [jcw,qjo,qjo,qke (a:=a) (b:=b)]; omega
theorem quT {l:List Int} (h:l.Nodup):qm9 o l (qat o l):=by
 refine ⟨qhd,?_⟩
 have hn:(qat o l).Nodup:=qhd.nodup_iff.2 h
 refine List.Pairwise.imp₂ (fun a b h1 h2=>?_) q4T hn
 rcases qsq (o:=o) h2 with h | h
 ·exact h
 ·rw [h] at h1; cases h1
theorem qyV {l m:List Int} (h:qm9 o l m) (hn:l.Nodup):m = qat o l:=qwE h (quT hn)
theorem q3x {l:List Int} {x:Int}:x ∈ qat o l↔x ∈ l:=qhd.mem_iff
theorem qi1 {l:List Int}:(qat o l).length = l.length:=qhd.length_eq
theorem qnz {L:List Int} {n:Nat} {x:Int}:x ∈ qK L n↔0 <= x/\x < n/\x ∈ L:=by
 unfold qK
 rw [jb4,jbb]
 constructor
 ·rintro ⟨⟨i,hi,rfl⟩,h⟩
  rw [jb5] at hi
  exact ⟨by omega,by omega,jbf h⟩
 ·rintro ⟨h0,h1,h2⟩
  exact ⟨⟨x.toNat,jb5.2 (by omega),by omega⟩,jda h2⟩
theorem q1P {L:List Int}:qbb L = qK L 16:=rfl
theorem qnr {p:Int}:qH (qP o p):=qd7 _
theorem qjF {p:Int}:(qP o p).length = 32:=q7p
theorem qig {p:Int}:(qD o p).length = 33:=by simp [qD,qjF]
theorem qvh {l:List Int}:qk (l.map (qD o)) = l:=by
 unfold qk
 rw [jdq]
 conv=>rhs; rw [<- jd8 l]
 exact jbt fun x _=>rfl
end Go.Proofs
set_option maxRecDepth 100000
namespace Go.Proofs
open Go Go.Eng
set_option maxRecDepth 20000
theorem qyK {l:List Bool} {i:Nat}:qaV [l.map Value.bool] i = l.getD i false:=by
 unfold qaV
 rw [jbq,jan,jad]
 cases l[i]? <;> rfl
theorem qcM {l:List Bool} {L:List Int} {n:Nat} (h:qeq l L) (hn:L.length <= n):qdh [l.map Value.bool] L n:=by
 refine ⟨⟨_,rfl,by rw [ja0]; exact h.1⟩,fun x x0 x1=>?_⟩
 rw [qyK,ja3 hn]
 have:=h.2 x.toNat (by omega)
 rwa [ja6 x0] at this
theorem qdB {D:qf}:(qk D).length <= D.length:=by simp [qk]
theorem qeA {d:qf} {L:List Int} {n:Nat} {x:Int} (h:qdh d L n) (hn:L.length <= n) (x0:0 <= x) (x1:x < 16):qaV d x.toNat = true↔x ∈ L:=by
 have:=h.2 x x0 x1
 rwa [ja3 hn] at this
theorem qtT {d:qf} {L:List Int} {n:Nat} (h:qdh d L n):0 < d.length:=by obtain ⟨⟨row,e,_⟩,_⟩:=h; rw [e]; exact Nat.one_pos
theorem qcI {i:Int} (h0:0 <= i) (h1:i < 1000000000000):qe .add .i64 i 1 = i + 1:=add64 (by omega) (by omega)
theorem qjL {d:qf} {L:List Int} {n:Nat} {x:Int} (h:qdh d L n) (hn:L.length <= n) (x0:0 <= x) (x1:x < 16) (hf:qaV d x.toNat = false):x ∉ L:=fun hx=>by
 rw [(qeA h hn x0 x1).2 hx] at hf; cases hf
theorem qqB {D:qf} {row:List Value} {v:Value} (hr:row ∈ D∨row = [v]) (h:∀ row,row ∈ D->row.length = 1):row.length = 1:=hr.elim (h row) fun h=>by rw [h]; rfl
theorem qji {D:qf} {row:List Value} (hr:row ∈ D) (h:∀ row,row ∈ D->row.length = 1):row.length = 1:=h row hr
theorem q93 {b:Bool} {p:Prop} [Decidable p] (h:b = decide p) (hb:b = true):p:=jbf (h ▸ hb)
theorem q0F {b:Bool} {p:Prop} [Decidable p] (h:b = decide p) (hb:b = false):¬ p:=jds (h ▸ hb)
theorem qqa {L:List Int}:(qbb L).length <= 16:=by
 rw [q1P]; unfold qK
 exact jde (jcb ..) (by simp)
theorem qxa {o L:List Int} {n:Int}:(qbi o L n).length <= 16:=by
 unfold qbi
 rw [jbm,qi1]
 have:=qqa (L:=L)
 omega
theorem qw7 {o L:List Int} {n:Int} {D:qf} (h:qk D = qbi o L n):D.length <= 16:=by
 have h1:=congrArg List.length h
 rw [qb2] at h1
 have:=qxa (o:=o) (L:=L) (n:=n)
 omega
theorem q8m {o L:List Int} {self n x:Int} {D:qf} {held buried:Bool} (hD:qk D = qbi o L n) (hx:x = (D.length:Int)) (hn:1 <= n) (hm:¬ self ∈ qk D) (hh:held = true) (hb:buried = false) (he:x = n):2 = qgs o self L n held buried:=by
 have h1:((qbi o L n).length:Int) = n:=by rw [<- hD,qb2]; omega
 rw [hD] at hm
 unfold qgs
 rw [hh,hb,jaf (by simp),jaf (by omega),jaf hm,jah ⟨rfl,h1⟩]
theorem q8M {o L:List Int} {self n x:Int} {D:qf} {held buried:Bool} (hD:qk D = qbi o L n) (hx:x = (D.length:Int)) (hn:1 <= n) (hm:¬ self ∈ qk D) (hh:held = true) (hb:buried = false) (he:¬ x = n):0 = qgs o self L n held buried:=by
 have h1:¬ ((qbi o L n).length:Int) = n:=by rw [<- hD,qb2]; omega
 rw [hD] at hm
 unfold qgs
 rw [hh,hb,jaf (by simp),jaf (by omega),jaf hm,jaf (fun h=>h1 h.2)]
theorem q79 (hch:qdo.ok Tryz.prog):qmJ.ok Tryz.prog:=q7I (by simp [qnE,hch]) fun Z hg hp=>by
 obtain ⟨hO,⟨hl,h1,hr⟩,hGr,hGd⟩:=hp
 simp only [Nat.reduceAdd] at hl h1 hr
 simp (config:={ maxSteps:=4000000 }) [q2N,qmJ,qdo,qd0,qtq,qbL,qay,qaw,gOk,hl,hO,hGr,hGd]
 repeat' (first | with_reducible apply And.intro | with_reducible intro _)
 all_goals first
  | assumption
  | omega
  | exact qji (by assumption) (by assumption)
  | exact (by have:=qw7 (by assumption); omega)
  | (unfold qgs; simp_all [qb2]; done)
  | exact q8m (by assumption) (by assumption) (by assumption) (q0F (by assumption) (by assumption)) (by assumption) (by assumption) (by assumption)
  | exact q8M (by assumption) (by assumption) (by assumption) (q0F (by assumption) (by assumption)) (by assumption) (by assumption) (by assumption)
theorem q54 {n:Int}:(qfG n).length = (min (max n 0) 16).toNat:=by simp [qfG]
theorem qyC {i n:Int} (h:min (max i 0) 16 = min (max n 0) 16):qfG i = qfG n:=by unfold qfG; rw [h]
theorem q2x {i:Int} {D:qf} (hD:qk D = qfG i) (h0:0 <= i) (h1:i < 16):qk (D ++ [[.int .i64 i]]) = qfG (qe .add .i64 i 1):=by
 rw [qcI h0 (by omega),qi3,hD]
 unfold qfG
 rw [show (min (max (i + 1) 0) 16).toNat = (min (max i 0) 16).toNat + 1 by omega,jel,jci]
 congr 1
 show [i] = [(((min (max i 0) 16).toNat:Nat):Int)]
 congr 1; omega
theorem q2Z {i:Int} {D:qf} (hD:qk D = qfG i):D.length <= 16:=by
 have h1:=congrArg List.length hD
 rw [qb2,q54] at h1
 omega
theorem q3F {o:List Int} {i n:Int} {D E:qf} (hE:qk E = qbi o (qk D) 16) (hD:qk D = qfG i) (h:min (max i 0) 16 = min (max n 0) 16):qk E = qk8 o n:=by
 rw [hE,hD,qyC h]; rfl
theorem qyW (hch:qdo.ok Tryz.prog):qfU.ok Tryz.prog:=qyH (by simp [hch]) fun Z hg hp=>by
 obtain ⟨hO,hGr,hGd⟩:=hp
 simp (config:={ maxSteps:=4000000 }) [qsd,qfU,qtY,qdo,qtq,qbL,qay,qaw,gOk,hO,hGr,hGd]
 repeat' (first | with_reducible apply And.intro | with_reducible intro _)
 all_goals first
  | assumption
  | omega
  | exact qji (by assumption) (by assumption)
  | exact qqB (by assumption) (by assumption)
  | (rw [qcI (by assumption) (by omega)]; omega)
  | rfl
  | exact (by have:=q2Z (by assumption); omega)
  | exact q2x (by assumption) (by assumption) (by omega)
  | exact q3F (by assumption) (by assumption) (by omega)
section
variable {o L:List Int}
theorem qnd {L:List Int} {n:Nat}:(qK L n).length <= n:=by
 unfold qK
 exact jde (jcb ..) (by simp)
theorem q9m {D:qf} {i:Int} (h:D = (qK L i.toNat).map (qD o)) (h1:i <= 16):D.length <= 16:=by
 rw [h,ja0]
 have:=qnd (L:=L) (n:=i.toNat)
 omega
theorem q8w {D v:qf} {i:Int} {l:List Bool} (hD:D = (qK L i.toNat).map (qD o)) (h0:0 <= i) (h1:i < 16) (hb:qeq l L) (hc:qaV [l.map Value.bool] i.toNat = true) (hv:qd v 32 = qP o i) :
  D ++ [Value.int .i64 i :: (qd v 32).map (Value.int .u8)] = (qK L (qe .add .i64 i 1).toNat).map (qD o):=by
 have hm:i ∈ L:=(qeA (qcM hb (ja1 _)) (ja1 _) h0 h1).1 hc
 rw [qcI h0 (by omega),show (i + 1).toNat = i.toNat + 1 by omega,qbY,ja6 h0,jah hm,jci,hD,hv]; rfl
theorem q6X {D:qf} {i:Int} {l:List Bool} (hD:D = (qK L i.toNat).map (qD o)) (h0:0 <= i) (h1:i < 16) (hb:qeq l L) (hc:qaV [l.map Value.bool] i.toNat = false) :
  D = (qK L (qe .add .i64 i 1).toNat).map (qD o):=by
 have hm:¬ i ∈ L:=qjL (qcM hb (ja1 _)) (ja1 _) h0 h1 hc
 rw [qcI h0 (by omega),show (i + 1).toNat = i.toNat + 1 by omega,qbY,ja6 h0,jaf hm,jcl,hD]
theorem qlE {D E:qf} {i:Int} (hO:qH o) (hD:D = (qK L i.toNat).map (qD o)) (h1:i <= 16) (h2:16 <= i) (h:∀ o L:List Int,qH o->D = L.map (qD o)->(∀ x,x ∈ L->0 <= x/\x < 16)->E = (qat o L).map (qD o)):E = (qat o (qbb L)).map (qD o)/\E.length = D.length:=by
 have hi:i.toNat = 16:=by omega
 rw [hi] at hD
 have hE:=h o (qK L 16) hO hD (fun x hx=>by have:=qnz.1 hx; omega)
 exact ⟨hE,by rw [hE,hD,ja0,ja0,qi1]⟩
theorem q4G {D:qf} {n:Nat} (hO:qH o) (hD:D = (qK L n).map (qD o)) (hn:n <= 16):∃ o:List Int,qH o/\∃ x:List Int,D = x.map (qD o)/\∀ y:Int,y ∈ x->0 <= y/\y < 16 :=
 ⟨o,hO,_,hD,fun x hx=>by have:=qnz.1 hx; omega⟩
theorem q9R {M:List Int} {D:qf} {i:Int} (hD:D = M.map (qD o)) (h0:0 <= i) (h1:i < M.length):qb D i 0 = M.getD i.toNat 0:=by
 have hl:i.toNat < M.length:=by omega
 subst hD
 rw [jad,jac hl]
 simp [qb,qG,jac hl,qD,qS]
theorem take_add {M:List Int} {D E:qf} {i:Int} (hE:E = M.map (qD o)) (hD:qk D = M.take i.toNat) (h0:0 <= i) (h1:i < M.length) (hb:i < 1000000):qk (D ++ [[.int .i64 (qb E i 0)]]) = M.take (qe .add .i64 i 1).toNat:=by
 rw [qcI h0 (by omega),show (i + 1).toNat = i.toNat + 1 by omega,qdI (by omega),qi3,hD,q9R hE h0 h1]
theorem q6C {M:List Int} {D:qf} {i:Nat} (hD:qk D = M.take i):D.length <= i/\D.length <= M.length:=by
 have h1:=congrArg List.length hD
 rw [qb2,jbm] at h1
 omega
theorem qzw {o L:List Int}:(qat o (qbb L)).length <= 16:=by rw [qi1]; exact qqa
theorem q8r {D:qf} {i n:Int} (hD:qk D = (qat o (qbb L)).take i.toNat) (h:i = min (max n 0) ((qat o (qbb L)).length:Int)):qk D = qbi o L n:=by
 rw [hD]
 unfold qbi
 by_cases hn:n.toNat <= (qat o (qbb L)).length
 ·rw [show i.toNat = n.toNat by omega]
 ·rw [ja3 (by omega),ja3 (by omega)]
end
theorem q2f (hs:qfz.ok Tryz.prog):qdo.ok Tryz.prog:=q2I (by simp [hs,q1O,qxr]) fun Z hg hp=>by
 obtain ⟨hO,⟨hl,h1,hr⟩,hGr,hGd⟩:=hp
 simp only [Nat.reduceAdd] at hl h1 hr
 simp (config:={ maxSteps:=4000000 }) [qu6,qdo,qyl,qxy,qi8,qjK,qfz,qtq,qbL,qay,qaw,gOk,hl,hO,hGr,hGd]
 have hsl:=qzw (o:=qd (Z 0).d 32) (L:=qk (Z 4).d)
 repeat' (first | with_reducible apply And.intro | with_reducible intro _)
 all_goals first
  | assumption
  | omega
  | exact qji (by assumption) (by assumption)
  | exact qqB (by assumption) (by assumption)
  | (rw [qcI (by assumption) (by omega)]; omega)
  | rfl
  | exact (by have:=q9m (by assumption) (by omega); omega)
  | exact q8w (l:=[_,_,_,_,_,_,_,_,_,_,_,_,_,_,_,_]) (by assumption) (by assumption) (by assumption) (by assumption) (by assumption) (by assumption)
  | exact q6X (l:=[_,_,_,_,_,_,_,_,_,_,_,_,_,_,_,_]) (by assumption) (by assumption) (by assumption) (by assumption) (by assumption)
  | exact q4G hO (by assumption) (by omega)
  | exact (qlE hO (by assumption) (by assumption) (by assumption) (by assumption)).1
  | (have h:=qlE hO (by assumption) (by assumption) (by assumption) (by assumption); have h2:=congrArg List.length h.1; rw [ja0] at h2; have h3:=h.2; split <;> split <;> omega)
  | (have h:=qlE hO (by assumption) (by assumption) (by assumption) (by assumption); have h2:=congrArg List.length h.1; rw [ja0] at h2; have h3:=h.2; split <;> omega)
  | exact take_add (by assumption) (by assumption) (by assumption) (by omega) (by omega)
  | exact q8r (by assumption) (by omega)
  | (have h2:=q6C (by assumption); omega)
section
variable {o L:List Int} {D E:qf} {n m k b i:Int}
end
set_option maxRecDepth 100000
def qzv:Out:=(.fresh 10 (.pre 0 (sg 0 [bv 4 7,bv 3 6,bv 2 5,bv 1 4,bg 0 3]) (.both (fr 11 16 (.post 0 0 (sg 0 [bv 4 7,bv 3 6,bv 2 5,bv 1 4,bg 0 3]) 11 (.inv 0 27 (sg 1000 [bt 1001 (tl 0),bt 1002 (tl 0),bg 1000 10]) (fr 27 3 (.hyp 0 27 (.br (.cmp .lss (tv 28) (tl 16))
 (.need (.cmp .leq (tl 0) (tv 28)) (.br (.c2 (.xbool 0) (.rcons (.vbool (tv 11)) (.rcons (.vbool (tv 12)) (.rcons (.vbool (tv 13)) (.rcons (.vbool (tv 14)) (.rcons (.vbool (tv 15)) (.rcons (.vbool (tv 16)) (.rcons (.vbool (tv 17)) (.rcons (.vbool (tv 18)) (.rcons (.vbool (tv 19)) (.rcons (.vbool (tv 20)) (.rcons (.vbool (tv 21)) (.rcons (.vbool (tv 22)) (.rcons (.vbool (tv 23)) (.rcons (.vbool (tv 24)) (.rcons (.vbool (tv 25)) (.rcons (.vbool (tv 26)) .rnil)))))))))))))))) (tv 28))
 (.pre 1 (sg 0 [bv 4 9,bv 2 1,bv 1 28,bt 0 (r8 0),bg 3 8]) (.both (.fresh 30 (.post 1 0 (sg 0 [bv 4 9,bv 2 1,bv 1 28,bt 0 (r8 0),bg 3 8]) 30 (.br (tv 30)
 (.back 0 27 (sg 1000 [bt 1001 (.arith .add .i64 (tv 28) (tl 1)),bt 1002 (.arith .add .i64 (tv 29) (tl 1)),bg 1000 27]))
 (.back 0 27 (sg 1000 [bt 1001 (.arith .add .i64 (tv 28) (tl 1)),bv 1002 29,bg 1000 27]))))) .top))
 (.back 0 27 (sg 1000 [bt 1001 (.arith .add .i64 (tv 28) (tl 1)),bv 1002 29,bg 1000 27]))))
 (.br (.cmp .geq (tv 2) (tl 1))
 (.ret 0 (sg 10 [bt 10 (.cmp .geq (tv 29) (tv 2))]))
 (.ret 0 (sg 10 [bt 10 (.bl false)]))))))))) .top)))
section
set_option maxRecDepth 20000
variable {o L:List Int} {i c s:Int} {l:List Bool}
def qfT (o:List Int) (s:Int) (l:List Int):Int:=((l.filter fun i=>qO o i s).length:Int)
theorem q4w {l:List Int}:0 <= qfT o s l/\qfT o s l <= l.length:=⟨by unfold qfT; omega,by unfold qfT; have:=jcb (fun i=>qO o i s) l; omega⟩
theorem qrH {l:List Int} {x:Int}:qfT o s (l ++ [x]) = qfT o s l + (if qO o x s = true then 1 else 0):=by
 unfold qfT
 rw [jcz,jal]
 by_cases h:qO o x s = true
 ·rw [jah h]; simp [h]
 ·rw [jaf h]; simp [h]
theorem qxJ {n:Nat}:0 <= qfT o s (qK L n)/\qfT o s (qK L n) <= n:=by
 have h:=q4w (o:=o) (s:=s) (l:=qK L n)
 have:=qnd (L:=L) (n:=n)
 omega
theorem q9K {x:Bool} (hc:c = ((qK L i.toNat).filter fun i=>qO o i s).length) (h0:0 <= i) (h1:i < 16) (hb:qeq l L) (hx:qaV [l.map Value.bool] i.toNat = true) (hu:x = qO o i s) (ht:x = true):qe .add .i64 c 1 = ((qK L (qe .add .i64 i 1).toNat).filter fun i=>qO o i s).length:=by
 have hm:i ∈ L:=(qeA (qcM hb (ja1 _)) (ja1 _) h0 h1).1 hx
 have h2:=qxJ (o:=o) (s:=s) (L:=L) (n:=i.toNat)
 change c = qfT o s (qK L i.toNat) at hc
 show _ = qfT o s _
 rw [qcI h0 (by omega),qcI (by omega) (by omega),show (i + 1).toNat = i.toNat + 1 by omega,qbY,ja6 h0,jah hm,qrH,jah (hu ▸ ht),hc]
theorem q9Q {x:Bool} (hc:c = ((qK L i.toNat).filter fun i=>qO o i s).length) (h0:0 <= i) (h1:i < 16) (hb:qeq l L) (hx:qaV [l.map Value.bool] i.toNat = true) (hu:x = qO o i s) (ht:x = false):c = ((qK L (qe .add .i64 i 1).toNat).filter fun i=>qO o i s).length:=by
 have hm:i ∈ L:=(qeA (qcM hb (ja1 _)) (ja1 _) h0 h1).1 hx
 have h2:=qxJ (o:=o) (s:=s) (L:=L) (n:=i.toNat)
 change c = qfT o s (qK L i.toNat) at hc
 show _ = qfT o s _
 rw [qcI h0 (by omega),show (i + 1).toNat = i.toNat + 1 by omega,qbY,ja6 h0,jah hm,qrH,jaf (by rw [<- hu,ht]; simp),hc,Int.add_zero]
theorem q9M (hc:c = ((qK L i.toNat).filter fun i=>qO o i s).length) (h0:0 <= i) (h1:i < 16) (hb:qeq l L) (hx:qaV [l.map Value.bool] i.toNat = false):c = ((qK L (qe .add .i64 i 1).toNat).filter fun i=>qO o i s).length:=by
 have hm:¬ i ∈ L:=qjL (qcM hb (ja1 _)) (ja1 _) h0 h1 hx
 rw [qcI h0 (by omega),show (i + 1).toNat = i.toNat + 1 by omega,qbY,ja6 h0,jaf hm,jcl,hc]
theorem q7D {n:Int} (hc:c = ((qK L i.toNat).filter fun i=>qO o i s).length) (h0:i <= 16) (h1:16 <= i) (hn:1 <= n):decide (c ≥ n) = qlO o s n L:=by
 rw [show i.toNat = 16 by omega] at hc
 unfold qlO
 rw [jda hn,jef,hc]; rfl
theorem quk {n:Int} (hn:n < 1):false = qlO o s n L:=by
 unfold qlO
 rw [jdw (by omega),jfz]
end
end Go.Proofs
namespace Go.Eng
open Go Go.Proofs
def qmI (Z:Env) (r:Nat):Prop:=0 <= (Z (r + 1)).i/\(Z (r + 1)).i <= (Z (r + 3)).d.length/\(Z (r + 1)).i <= 1000000000000/\∀ row ∈ (Z (r + 3)).d,row.length = 1
def qg0:Ctr:={ qi8 with pre:=fun Z=>qmI Z 0,alts:=[
 { k:=16,ret:=b16 5,heap:=[],post:=fun Z=>qeq [(Z 5).b,(Z 6).b,(Z 7).b,(Z 8).b,(Z 9).b,(Z 10).b,(Z 11).b,(Z 12).b,(Z 13).b,(Z 14).b,(Z 15).b,(Z 16).b,(Z 17).b,(Z 18).b,(Z 19).b,(Z 20).b] ((qk (Z 3).d).take (Z 1).i.toNat) }] }
def qhh:Ctr:={ q5u with pre:=fun Z=>qH (qd (Z 0).d 32)/\qmI Z 3/\gOk Z 8 9 gR,alts:=[{ k:=1,ret:=.one (.vbool (.var 10)),heap:=[],post:=fun Z=>(Z 10).b = qlO (qd (Z 0).d 32) (Z 1).i (Z 2).i ((qk (Z 6).d).take (Z 4).i.toNat) }] }
def qz8:Inv:={ q8f with inv:=(fun Z=>0 <= (Z 1001).i/\(Z 1001).i <= 16/\(Z 1002).i = (((qK ((qk (Z 6).d).take (Z 4).i.toNat) (Z 1001).i.toNat).filter fun i=>qO (qd (Z 0).d 32) i (Z 1).i).length:Int)) }
end Go.Eng
namespace Go.Proofs
open Go Go.Eng
theorem q1G:qmr ⟨Tryz.prog,qg0,[qfh],[qty]⟩ 100000 Tryz.f82 = qqm:=by kernel_rfl
theorem q6A (hd:∀ c ∈ ([qfh]:List Ctr),c.ok Tryz.prog) (h:∀ Z:Env,Z.good->(qg0).pre Z->qqm.den ⟨Tryz.prog,qg0,[qfh],[qty]⟩ Z):(qg0).ok Tryz.prog :=
 qjP Tryz.func82 (fun a w=>Tryz.call82 a w) hd 100000 (fun Z hg hp=>by rw [q1G]; exact h Z hg hp)
theorem q1m:qmr ⟨Tryz.prog,qhh,[qg0,qdR],[qz8]⟩ 100000 Tryz.f37 = qzv:=by kernel_rfl
theorem q6M (hd:∀ c ∈ ([qg0,qdR]:List Ctr),c.ok Tryz.prog) (h:∀ Z:Env,Z.good->(qhh).pre Z->qzv.den ⟨Tryz.prog,qhh,[qg0,qdR],[qz8]⟩ Z):(qhh).ok Tryz.prog :=
 qjP Tryz.func37 (fun a w=>Tryz.call37 a w) hd 100000 (fun Z hg hp=>by rw [q1m]; exact h Z hg hp)
theorem q7E:qg0.ok Tryz.prog:=q6A (by simp [qrm]) fun Z hg hp=>by
 obtain ⟨h0,hl,h1,hr⟩:=hp
 simp only [Nat.reduceAdd] at h0 hl h1 hr
 simp (config:={ maxSteps:=4000000 }) [qqm,qg0,qi8,qty,qfh,h0]
 have hil:(qk (Z 3).d).length = (Z 3).d.length:=by simp [qk]
 refine ⟨qnw,fun s _ i _ i0 i1 hs=>⟨fun hi=>⟨i0,by omega,fun u _ hu=>⟨fun ht=>?_,fun hf=>?_⟩⟩,fun hi=>?_⟩⟩
 ·have hp:0 <= qb (Z 3).d i.i 0/\qb (Z 3).d i.i 0 < 16:=by rw [hu] at ht; exact jbf ht
  have hsl:0 < s.d.length:=by obtain ⟨⟨row,e,_⟩,_⟩:=hs; rw [e]; exact Nat.one_pos
  rw [add64 (x:=i.i) (by omega) (by omega)]
  refine ⟨hp.1,hp.2,hsl,⟨by omega,by omega,?_⟩,by omega⟩
  rw [show (i.i + 1).toNat = i.i.toNat + 1 by omega]
  exact qnA hs (by omega) (qby i0 (by omega)) hp.1 hp.2
 ·have hp:¬ (0 <= qb (Z 3).d i.i 0/\qb (Z 3).d i.i 0 < 16):=by rw [hu] at hf; exact jds hf
  rw [add64 (x:=i.i) (by omega) (by omega)]
  refine ⟨⟨by omega,by omega,?_⟩,by omega⟩
  rw [show (i.i + 1).toNat = i.i.toNat + 1 by omega]
  exact qn1 hs (by omega) (qby i0 (by omega)) hp
 ·obtain ⟨⟨row,hs1,hrl⟩,hs2⟩:=hs
  rw [show i.i.toNat = (Z 1).i.toNat by omega] at hs2
  rw [hs1] at hs2 ⊢
  match row,hrl with
  | [a0,a1,a2,a3,a4,a5,a6,a7,a8,a9,a10,a11,a12,a13,a14,a15],_ =>
   refine ⟨by simp,?_⟩
   have key:qeq ((List.range 16).map (qaV [[a0,a1,a2,a3,a4,a5,a6,a7,a8,a9,a10,a11,a12,a13,a14,a15]])) ((qk (Z 3).d).take (Z 1).i.toNat):=⟨by simp,fun j hj=>by
    rw [jad,jan,jbx hj]
    exact hs2 j (by omega) (by omega)⟩
   exact key
theorem q68:qhh.ok Tryz.prog:=q6M (by simp [q7E,qrB]) fun Z hg hp=>by
 obtain ⟨hO,⟨h0,hl,h1,hr⟩,hGr,hGd⟩:=hp
 simp only [Nat.reduceAdd] at h0 hl h1 hr
 simp (config:={ maxSteps:=4000000 }) [qzv,qhh,q5u,qz8,q8f,qg0,qi8,qdR,qbL,qmI,gOk,h0,hl,hO,hGr,hGd]
 repeat' (first | with_reducible apply And.intro | with_reducible intro _)
 all_goals first
  | assumption
  | omega
  | rfl
  | exact qji (by assumption) (by assumption)
  | (rw [qcI (by assumption) (by omega)]; omega)
  | exact q9K (l:=[_,_,_,_,_,_,_,_,_,_,_,_,_,_,_,_]) (by assumption) (by assumption) (by assumption) (by assumption) (by assumption) (by assumption) (by assumption)
  | exact q9Q (l:=[_,_,_,_,_,_,_,_,_,_,_,_,_,_,_,_]) (by assumption) (by assumption) (by assumption) (by assumption) (by assumption) (by assumption) (by assumption)
  | exact q9M (l:=[_,_,_,_,_,_,_,_,_,_,_,_,_,_,_,_]) (by assumption) (by assumption) (by assumption) (by assumption) (by assumption)
  | exact q7D (by assumption) (by assumption) (by assumption) (by assumption)
  | exact quk (by assumption)
  | exact (quk (by assumption)).symm
end Go.Proofs
namespace Go.Eng
open Go Go.Proofs
def qhu:Ctr:={ fn := 31,nv:=2,ow:=[1003,200096],ip:=[gIp 0,(1127,8),(58,2),(1001,9),(1002,9)],args:=[],heap:=[],ro:=[gHp 0 1],pre:=fun Z=>gOk Z 0 1 gR,alts:=[qm7] }
def qx5:Inv:={ key:=1000012,nv:=19,env:=[(4,.one (.vptr 1010 (.lit 0) 37 0)),(5,.one (.vslice 1015 (.lit 0) (.lit 1) (.var 1016) 2)),(6,.one (.vint .i64 (.lit 0))),(9,gaP 1000)],heap:=qtn 1000 20 ++ [.cells 1010 27 ([.vint .i64 (.lit 1),.vint .i64 (.lit 1),.vint .i64 (.lit 1),.vint .i64 (.lit 1)] ++ (qaF .u8 1011 32 ++ [.vslice 1012 (.lit 0) (.lit 1) (.var 1013) 32])),qfn 1012 1014 1013,q3L 1015 1017 1016,.abs 1018 10],inv:=(fun Z=>gaB Z 1000 none []/\qH (qd (Z 1011).d 32)/\qft (Z 1014).d/\(Z 1014).d.length = 1/\(Z 1017).d.length = 1/\qqL (Z 1018).h (Z 1017).d 1/\pcI (Z 1017).d 0 = 0/\qce 1 1 1 1 1 (dgs (Z 1014).d) 0 (pcD (Z 1018).h (Z 1017).d 0) = 0/\qd (Z 1001).d 32 = sha (qaM 1 1 1 1 (qd (Z 1011).d 32) ++ (dgs (Z 1014).d).flatten)),mu:=fun _=>0 }
def qdf (cl:Cl) (clock:Int):Cl:=fun o i=>match cl o i with
 | some t=>if qcl t clock then some t else none
 | none=>none
def qcX (cl:Cl) (o:List Int):List Int:=((List.range 16).map Int.ofNat).filter fun i=>(cl o i).isSome
def qdC (x:Int):List Value:=[.int .i64 x]
def qcx (l:List Int):List Int:=l.mergeSort fun x y=>decide (x <= y)
def isS (r l c:Nat):SV:=.one (.vslice r (.lit 0) (.var l) (.var c) 1)
def qel:Ctr:={ fn := 103,nv:=4,args:=[isS 0 1 2],heap:=[iHp 0 3 2],ro:=[],pre:=fun Z=>(Z 1).i <= 1000000/\∃ L:List Int,qaw (Z 3).d (Z 1).i L/\(∀ x ∈ L,0 <= x/\x < 16),alts:=[
 { k:=1,ret:=.tup [],heap:=[iHp 0 4 2],post:=fun Z=>∀ L,qaw (Z 3).d (Z 1).i L->qaw (Z 4).d (Z 1).i (qcx L) }] }
def qlF (h:Hp) (it:Value) (b c:Nat) (seen:List Nat):Prop:=∃ bi,it = .pointer (some ⟨bi,0,none⟩)/\h bi = some (.mapIter (some b) c seen.toArray c)
def ctI (h0 h:Hp) (v it:Value) (o:List Int) (L:List Int):Prop:=∀ cl,qj h0 v cl->qj h v cl/\∃ m seen,q1Y h it m seen/\(∀ i,cl o i = qbk m i)/\(m = []->L = [])/\L.Perm ((m.filter fun e=>seen.contains e.born).map fun e=>e.k.headD 0)
def qfx:Ctr:={ fn := 66,nv:=4,ip:=[(5016, 181)],args:=[clP 0,dgV 1],heap:=[qfc 0 2,.abs 3 1003],ro:=[],pre:=fun Z=>∃ cl,qj (Z 3).h (Z 2).v cl,alts:=[
 { k:=5,ret:=isS 4 5 6,heap:=[qfc 0 2,iHp 4 7 6,.abs 8 1003],post:=fun Z=>∀ cl,qj (Z 3).h (Z 2).v cl->qj (Z 8).h (Z 2).v cl/\qaw (Z 7).d (Z 5).i (qcX cl (qd (Z 1).d 32)) }] }
def qpK:Inv:={ key:=5,nv:=6,env:=[(5,isS 1000 1001 1002),(16,.one (.var 1004))],heap:=[iHp 1000 1003 1002,qfc 0 2,.abs 1005 1003],inv:=(fun Z=>(Z 1001).i = (Z 1003).d.length/\(∀ row ∈ (Z 1003).d,row.length = 1)/\ctI (Z 3).h (Z 1005).h (Z 2).v (Z 1004).v (qd (Z 1).d 32) (qk (Z 1003).d)),mu:=(fun Z=>qbo (Z 1005).h (Z 1004).v) }
structure SwO (cl:Cl) (h:Hp) (v it:Value) (clock:Int) (b:Nat) (l:List ME) (c:Nat) (seen:List Nat) (cl1:Cl):Prop where
 hv:v = .map (some b)
 hi:qlF h it b c seen
 hm:qZ h b mtO l c
 hc:qj h v cl1
 h1:∀ o,(∀ x ∈ l,x.k = o->x.born ∈ seen)->∀ i,cl1 o i = qdf cl clock o i
 h2:∀ x ∈ l,x.born ∉ seen->∀ i,cl1 x.k i = cl x.k i
def swO (h0 h:Hp) (v it:Value) (clock:Int):Prop:=∀ cl,qj h0 v cl->∃ b l c seen cl1,SwO cl h v it clock b l c seen cl1
structure SwI (cl:Cl) (h:Hp) (v it mv it2:Value) (kd:List Int) (clock:Int) (b:Nat) (l:List ME) (c:Nat) (seen:List Nat) (cl1:Cl) (e:ME) (b':Nat) (m:List ME) (c':Nat) (seen2:List Nat):Prop where
 hv:v = .map (some b)
 hi:qlF h it b c seen
 hm:qZ h b mtO l c
 hc:qj h v cl1
 he:e ∈ l
 hk:e.k = kd
 hs:e.born ∈ seen
 hev:e.v = [.map (some b')]
 hmv:mv = .map (some b')
 hi2:qlF h it2 b' c' seen2
 hm2:qZ h b' mtI m c'
 hne:it ≠ it2
 h1:∀ o,o ≠ kd->(∀ x ∈ l,x.k = o->x.born ∈ seen)->∀ i,cl1 o i = qdf cl clock o i
 h2:∀ x ∈ l,x.born ∉ seen->∀ i,cl1 x.k i = cl x.k i
 h3:∀ i,(∀ y ∈ m,y.k = [i]->y.born ∈ seen2)->cl1 kd i = qdf cl clock kd i
 h4:∀ y ∈ m,y.born ∉ seen2->∀ i,y.k = [i]->cl1 kd i = cl kd i
def swI (h0 h:Hp) (v it mv it2:Value) (kd:List Int) (clock:Int):Prop:=∀ cl,qj h0 v cl->∃ b l c seen cl1 e b' m c' seen2,SwI cl h v it mv it2 kd clock b l c seen cl1 e b' m c' seen2
def qm1:Ctr:={ fn := 64,nv:=4,ip:=[(5014, 177),(5021, 181),(1001,9),(1002,9)],args:=[clP 0,iv .u64 (.var 1)],heap:=[qfc 0 2,.abs 3 1003],ro:=[],pre:=fun Z=>(∃ cl,qj (Z 3).h (Z 2).v cl)/\0 <= (Z 1).i/\(Z 1).i < 18446744073709551616,alts:=[
 { k:=1,ret:=.tup [],heap:=[qfc 0 2,.abs 4 1003],post:=fun Z=>∀ cl,qj (Z 3).h (Z 2).v cl->qj (Z 4).h (Z 2).v (qdf cl (Z 1).i) }] }
def q27:Inv:={ key:=2,nv:=2,env:=[(0,clP 0),(1,iv .u64 (.var 1)),(14,.one (.var 1000))],heap:=[qfc 0 2,.abs 1001 1003],inv:=(fun Z=>swO (Z 3).h (Z 1001).h (Z 2).v (Z 1000).v (Z 1).i),mu:=(fun Z=>qbo (Z 1001).h (Z 1000).v) }
def q0P:Inv:={ key:=5,nv:=6,env:=[(0,clP 0),(1,iv .u64 (.var 1)),(14,.one (.var 1002)),(4,qoi 1000),(5,.one (.var 1003)),(21,.one (.var 1004))],heap:=[qfc 0 2,ql8 1000 1001,.abs 1005 1003],inv:=(fun Z=>swI (Z 3).h (Z 1005).h (Z 2).v (Z 1002).v (Z 1003).v (Z 1004).v (qd (Z 1001).d 32) (Z 1).i/\qbo (Z 1005).h (Z 1002).v < qbo (Z 8).h (Z 7).v),mu:=(fun Z=>qbo (Z 1005).h (Z 1004).v) }
def kCl:List CK:=List.replicate 32 (.int .u8) ++ [.int .i64,.int .u64]
def qhI (r d c:Nat):SH:=.arr r 183 kCl (.var d) (.var c)
def rcS (r l c:Nat):SV:=.one (.vslice r (.lit 0) (.var l) (.var c) 34)
abbrev RC:=List Int × Int × Int
def qqC (row:List Value):RC:=((List.range 32).map fun j=>qaJ row j,qaJ row 32,qaJ row 33)
def rcL (d:qf):List RC:=d.map qqC
def qbE (d:qf) (n:Int) (l:List RC):Prop:=n = d.length/\rcL d = l/\n <= 1000/\(∀ row ∈ d,row.length = 34)/\∀ x ∈ l,0 <= x.2.2/\x.2.2 < 18446744073709551616
def qhf (l:List RC) (o:List Int) (i:Int):List RC:=l.filter fun x=>!decide (x.1 = o/\x.2.1 = i)
def qix (l:List RC) (o:List Int) (i t:Int):List RC:=if 0 <= i/\i < 16 then qhf l o i ++ [(o,i,t)] else l
def qep (l:List RC) (clock:Int):List RC:=l.filter fun x=>qcl x.2.2 clock
def ofL (l:List RC) (o:List Int):List Int:=(l.filter fun x=>decide (x.1 = o)).map fun x=>x.2.1
def blE (o:List Int) (s clock:Int) (L H:List Int) (x:RC):Bool:=decide (x.1 = o) && qcl x.2.2 clock && qO o x.2.1 s && decide (x.2.1 ∈ L) && !decide (x.2.1 ∈ H)
def qhz (o:List Int) (s clock:Int) (L H:List Int) (l:List RC):Bool:=l.any (blE o s clock L H)
def qjU (cl:Cl) (l:List RC):Prop:=∀ o i t,cl o i = some t↔(o,i,t) ∈ l
def qjG:Ctr:={ fn := 102,nv:=4,args:=[.agg (qaF .u8 0 32 ++ [.vint .i64 (.var 1),.vint .u64 (.var 2)]),iv .u64 (.var 3)],heap:=[],ro:=[],pre:=fun Z=>0 <= (Z 2).i/\(Z 2).i < 18446744073709551616/\0 <= (Z 3).i/\(Z 3).i < 18446744073709551616,alts:=[
 { k:=1,ret:=.one (.vbool (.var 4)),heap:=[],post:=fun Z=>(Z 4).b = qcl (Z 2).i (Z 3).i }] }
def qlz:Ctr:={ fn := 63,nv:=7,ip:=[(1001,9)],args:=[rcS 0 1 2,dgV 4,iv .i64 (.var 5),iv .u64 (.var 6)],heap:=[qhI 0 3 2],ro:=[],pre:=fun Z=>(∃ l,qbE (Z 3).d (Z 1).i l)/\(Z 1).i <= 999/\0 <= (Z 6).i/\(Z 6).i < 18446744073709551616,alts:=[
 { k:=4,ret:=rcS 7 8 9,heap:=[qhI 7 10 9],post:=fun Z=>∀ l,qbE (Z 3).d (Z 1).i l->qbE (Z 10).d (Z 8).i (qix l (qd (Z 4).d 32) (Z 5).i (Z 6).i) }] }
def q2a:Inv:={ key:=5,nv:=6,env:=[(0,rcS 0 1 2),(2,iv .i64 (.var 5)),(3,iv .u64 (.var 6)),(5,qoi 1000),(9,rcS 1001 1002 1003),(10,iv .i64 (.var 1005))],heap:=[qhI 0 3 2,ql8 1000 4,qhI 1001 1004 1003],inv:=(fun Z=>0 <= (Z 1005).i/\(Z 1005).i <= (Z 1).i/\qbE (Z 1004).d (Z 1002).i (qhf ((rcL (Z 3).d).take (Z 1005).i.toNat) (qd (Z 4).d 32) (Z 5).i)),mu:=(fun Z=>((Z 1).i - (Z 1005).i).toNat) }
def qjz:Ctr:={ fn := 65,nv:=5,ip:=[(1001,9)],args:=[rcS 0 1 2,iv .u64 (.var 4)],heap:=[qhI 0 3 2],ro:=[],pre:=fun Z=>(∃ l,qbE (Z 3).d (Z 1).i l)/\0 <= (Z 4).i/\(Z 4).i < 18446744073709551616,alts:=[
 { k:=4,ret:=rcS 5 6 7,heap:=[qhI 5 8 7],post:=fun Z=>∀ l,qbE (Z 3).d (Z 1).i l->qbE (Z 8).d (Z 6).i (qep l (Z 4).i) }] }
def qyw:Inv:={ key:=3,nv:=5,env:=[(0,rcS 0 1 2),(1,iv .u64 (.var 4)),(5,rcS 1000 1001 1002),(6,iv .i64 (.var 1004))],heap:=[qhI 0 3 2,qhI 1000 1003 1002],inv:=(fun Z=>0 <= (Z 1004).i/\(Z 1004).i <= (Z 1).i/\qbE (Z 1003).d (Z 1001).i (qep ((rcL (Z 3).d).take (Z 1004).i.toNat) (Z 4).i)),mu:=(fun Z=>((Z 1).i - (Z 1004).i).toNat) }
def qej:Ctr:={ fn := 67,nv:=5,ip:=[(1001,9)],args:=[rcS 0 1 2,dgV 4],heap:=[],ro:=[qhI 0 3 2],pre:=fun Z=>∃ l,qbE (Z 3).d (Z 1).i l,alts:=[
 { k:=4,ret:=isS 5 6 7,heap:=[iHp 5 8 7],post:=fun Z=>∀ l,qbE (Z 3).d (Z 1).i l->qaw (Z 8).d (Z 6).i (qbb (ofL l (qd (Z 4).d 32))) }] }
def qn7:Inv:={ key:=3,nv:=6,env:=[(0,rcS 0 1 2),(3,qoi 1000),(5,isS 1001 1002 1003),(6,iv .i64 (.var 1005))],heap:=[ql8 1000 4,iHp 1001 1004 1003],inv:=(fun Z=>0 <= (Z 1005).i/\(Z 1005).i <= (Z 1).i/\qaw (Z 1004).d (Z 1002).i (ofL ((rcL (Z 3).d).take (Z 1005).i.toNat) (qd (Z 4).d 32))),mu:=(fun Z=>((Z 1).i - (Z 1005).i).toNat) }
def qgC:Ctr:={ fn := 69,nv:=19,ip:=[gIs 17,(1001,9),(1002,9)],args:=[rcS 0 1 2,dgV 4,iv .i64 (.var 5),iv .u64 (.var 6),bS 7,bS 12],heap:=[],ro:=[qhI 0 3 2,qbL 7,qbL 12,gHp 17 18],pre:=fun Z=>(∃ l,qbE (Z 3).d (Z 1).i l)/\qH (qd (Z 4).d 32)/\0 <= (Z 6).i/\(Z 6).i < 18446744073709551616/\qay Z 7/\qay Z 12/\gOk Z 17 18 gS,alts:=[
 { k:=1,ret:=.one (.vbool (.var 19)),heap:=[],post:=fun Z=>∀ l,qbE (Z 3).d (Z 1).i l->(Z 19).b = qhz (qd (Z 4).d 32) (Z 5).i (Z 6).i (qk (Z 10).d) (qk (Z 15).d) l }] }
def qsA:Inv:={ key:=2,nv:=2,env:=[(0,rcS 0 1 2),(2,iv .i64 (.var 5)),(3,iv .u64 (.var 6)),(4,bS 7),(5,bS 12),(7,qoi 1000),(13,iv .i64 (.var 1001))],heap:=[ql8 1000 4],inv:=(fun Z=>0 <= (Z 1001).i/\(Z 1001).i <= (Z 1).i/\qhz (qd (Z 4).d 32) (Z 5).i (Z 6).i (qk (Z 10).d) (qk (Z 15).d) ((rcL (Z 3).d).take (Z 1001).i.toNat) = false),mu:=(fun Z=>((Z 1).i - (Z 1001).i).toNat) }
def kNt:List CK:=.int .i64 :: (List.replicate 32 (.int .u8) ++ [.int .i64,.int .i64,.int .u64,.int .u64,.any,.any])
def q1X (h:Hp) (d:qf) (i:Int):Prop:=qH ((List.range 32).map fun k=>qb d i (k + 1))/\(0 <= qb d i 35/\qb d i 35 < 18446744073709551616)/\(0 <= qb d i 36/\qb d i 36 < 18446744073709551616)/\(∃ L,Rd h kI (qG d i 37) L/\∀ row ∈ L,row.length = 1)/\∃ L,Rd h kI (qG d i 38) L/\∀ row ∈ L,row.length = 1
def q77 (Z:Env):Prop:=(Z 1).i = (Z 3).d.length/\(Z 1).i <= 17592186043904/\∀ i:Int,0 <= i->i < (Z 1).i->q1X (Z 5).h (Z 3).d i
def qda:Ctr:={ fn := 13,nv:=10,ip:=[gIs 6,gIp 8,(1001,9),(1002,9)],args:=[.one (.vslice 0 (.lit 0) (.var 1) (.var 2) 39)],heap:=[],ro:=[.arr 0 115 kNt (.var 3) (.var 4),.abs 5 0,gHp 6 7,gHp 8 9],pre:=fun Z=>q77 Z/\gOk Z 6 7 gS/\gOk Z 8 9 gR,alts:=[qm7] }
def qxI (h:Hp) (v:Value) (d:qf) (n:Int) (i:Int):Prop:=n <= i/\∃ cl l,qj h v cl/\qbE d n l/\qjU cl l
def qxv:Inv:={ key:=6,nv:=8,env:=[(0,.one (.vslice 0 (.lit 0) (.var 1) (.var 2) 39)),(3,clP 1000),(4,rcS 1002 1003 1004),(5,iv .i64 (.var 1007))],heap:=[qfc 1000 1001,qhI 1002 1005 1004,.abs 1006 1003],inv:=(fun Z=>0 <= (Z 1007).i/\(Z 1007).i <= (Z 1).i/\qxI (Z 1006).h (Z 1001).v (Z 1005).d (Z 1003).i (Z 1007).i),mu:=(fun Z=>((Z 1).i - (Z 1007).i).toNat) }
end Go.Eng
namespace Go.Proofs
open Go Go.Eng Go.RowKit Go.Lib Go.Sort
theorem q2G {α:Type} {l:List α} (h:l.length = 32):∃ a0 a1 a2 a3 a4 a5 a6 a7 a8 a9 a10 a11 a12 a13 a14 a15 a16 a17 a18 a19 a20 a21 a22 a23 a24 a25 a26 a27 a28 a29 a30 a31,l = [a0,a1,a2,a3,a4,a5,a6,a7,a8,a9,a10,a11,a12,a13,a14,a15,a16,a17,a18,a19,a20,a21,a22,a23,a24,a25,a26,a27,a28,a29,a30,a31]:=by
 match l,h with
 | [a0,a1,a2,a3,a4,a5,a6,a7,a8,a9,a10,a11,a12,a13,a14,a15,a16,a17,a18,a19,a20,a21,a22,a23,a24,a25,a26,a27,a28,a29,a30,a31],_=>exact ⟨_,_,_,_,_,_,_,_,_,_,_,_,_,_,_,_,_,_,_,_,_,_,_,_,_,_,_,_,_,_,_,_,rfl⟩
def qou (W:World) (p q:Int) (xs ys:List Int):World:=(W.alloc (Obj.cells (Value.int .i64 p :: xs.map (Value.int .u8)).toArray 153)).alloc (Obj.cells (Value.int .i64 q :: ys.map (Value.int .u8)).toArray 153)
theorem qy7 {W:World} {p q:Int} {xs ys:List Int}:(qou W p q xs ys).heap[W.heap.size]? = some (Obj.cells (Value.int .i64 p :: xs.map (Value.int .u8)).toArray 153):=by
 simp only [qou,World.alloc]
 rw [jej,jaf (by simp),jej,jah rfl]
theorem qya {W:World} {p q:Int} {xs ys:List Int}:(qou W p q xs ys).heap[W.heap.size + 1]? = some (Obj.cells (Value.int .i64 q :: ys.map (Value.int .u8)).toArray 153):=by
 simp only [qou,World.alloc]
 rw [jej,jah (by simp)]
theorem q2r {W:World} {b:Nat} {p:Int} {xs:List Int} {ty:TypeId} (h:W.heap[b]? = some (Obj.cells (Value.int .i64 p :: xs.map (Value.int .u8)).toArray ty)) (n j:Nat) (x:Int) (hx:xs[j]? = some x):(W.drewN n).cell? ((⟨b,1,none⟩:Addr).add j) = some (.int .u8 x):=by
 have e:((⟨b,1,none⟩:Addr).add j) = ⟨b,1 + j,none⟩:=by
  unfold Addr.add
  by_cases hj0:j = 0
  ·subst hj0; simp
  ·simp [hj0]
 have h':(W.drewN n).heap[b]? = some (Obj.cells (Value.int .i64 p :: xs.map (Value.int .u8)).toArray ty):=h
 rw [e]
 simp only [World.cell?,h']
 rw [show 1 + j = j + 1 by omega]
 simp [hx]
theorem qwb {W:World} {b:Nat} {p:Int} {xs:List Int} {ty:TypeId} (h:W.heap[b]? = some (Obj.cells (Value.int .i64 p :: xs.map (Value.int .u8)).toArray ty)) (n:Nat):(W.drewN n).cell? ⟨b,0,none⟩ = some (.int .i64 p):=by
 have h':(W.drewN n).heap[b]? = some (Obj.cells (Value.int .i64 p :: xs.map (Value.int .u8)).toArray ty):=h
 simp only [World.cell?,h']
 simp
set_option maxHeartbeats 2000000 in
set_option maxRecDepth 100000 in
theorem q2U (p q:Int) (xs ys:List Int) (hx:xs.length = 32) (hy:ys.length = 32) (W:World) :
  Calls Tryz.prog 81 #[.agg (Value.int .i64 p :: xs.map (Value.int .u8)).toArray,.agg (Value.int .i64 q :: ys.map (Value.int .u8)).toArray] W fun e w' =>
   e = .returned (.int .i64 (if compareBytes (Lib.bytesOf xs) (Lib.bytesOf ys) = 0 then RowKit.wrap64 (p - q) else compareBytes (Lib.bytesOf xs) (Lib.bytesOf ys)))/\∃ n os',w' = grow (W.drewN n) os':=by
 have hc:=fun (a b:Addr) (w:World) h1 h2=>qqz a b xs ys 32 32 w h1 h2
 rw [hx,hy] at hc
 have c1:=q2r (qy7 (W:=W) (p:=p) (q:=q) (xs:=xs) (ys:=ys))
 have c2:=q2r (qya (W:=W) (p:=p) (q:=q) (xs:=xs) (ys:=ys))
 have c3:=qwb (qy7 (W:=W) (p:=p) (q:=q) (xs:=xs) (ys:=ys))
 have c4:=qwb (qya (W:=W) (p:=p) (q:=q) (xs:=xs) (ys:=ys))
 have hg:∀ n,∃ m os',(qou W p q xs ys).drewN n = grow (W.drewN m) os':=fun n=>⟨n,_,by rw [qou,alloc_eq_grow,alloc_eq_grow,grow_grow]; rfl⟩
 unfold qou at c1 c2 c3 c4 hg
 generalize compareBytes (Lib.bytesOf xs) (Lib.bytesOf ys) = r at hc ⊢
 go_enter Tryz.func81,Tryz.ntmps81
 go_wp2
 go_quiet ((go_at_call 118; refine Calls.quiet_of_same (hc _ _ _ ?_ ?_); exact c1 _; exact c2 _))
 go_wp2
 all_goals go_ret
 all_goals refine ⟨?_,hg nq⟩
 all_goals simp_all
end Go.Proofs
namespace Go.Proofs
open Go Go.Shelf Go.RowKit Go.Lib Go.Sort
def qwO:Go.Shelf.Ren:=⟨fun | 6=>83 | 15=>120 | 14=>119 | 28=>148 | 29=>149 | 20=>140 | 21=>141 | 22=>142 | 23=>143 | 24=>144 | 25=>145 | 26=>146 | 27=>147 | 46=>172 | 47=>173 | 48=>174 | 49=>175 | 50=>176 | 57=>186 | n=>n,fun | 22=>156 | 24=>153 | 25=>155 | 3=>3 | 39=>187 | 0=>0 | 53=>131 | 55=>113 | 4=>4 | 46=>234 | 45=>233 | 50=>238 | 5=>5 | 9=>9 | 66=>258 | 70=>262 | 76=>271 | 77=>272 | n=>n,fun | n=>n⟩
theorem qxu:SlLaysF0.n6 Tryz.prog qwO:={
 mixed:=by kernel_rfl
 f6:=⟨Tryz.f83.name,by decide,Tryz.func83.trans (congrArg some (by kernel_rfl))⟩
 f14:=⟨Tryz.f119.name,by decide,Tryz.func119.trans (congrArg some (by kernel_rfl))⟩
 f15:=Tryz.func120.trans (congrArg some (by kernel_rfl))
 f20:=⟨Tryz.f140.name,by decide,Tryz.func140.trans (congrArg some (by kernel_rfl))⟩
 f21:=⟨Tryz.f141.name,by decide,Tryz.func141.trans (congrArg some (by kernel_rfl))⟩
 f22:=⟨Tryz.f142.name,by decide,Tryz.func142.trans (congrArg some (by kernel_rfl))⟩
 f23:=⟨Tryz.f143.name,by decide,Tryz.func143.trans (congrArg some (by kernel_rfl))⟩
 f24:=⟨Tryz.f144.name,by decide,Tryz.func144.trans (congrArg some (by kernel_rfl))⟩
 f25:=⟨Tryz.f145.name,by decide,Tryz.func145.trans (congrArg some (by kernel_rfl))⟩
 f26:=⟨Tryz.f146.name,by decide,Tryz.func146.trans (congrArg some (by kernel_rfl))⟩
 f27:=⟨Tryz.f147.name,by decide,Tryz.func147.trans (congrArg some (by kernel_rfl))⟩
 f28:=Tryz.func148.trans (congrArg some (by kernel_rfl))
 f29:=Tryz.func149.trans (congrArg some (by kernel_rfl))
 f46:=⟨Tryz.f172.name,by decide,Tryz.func172.trans (congrArg some (by kernel_rfl))⟩
 f47:=Tryz.func173.trans (congrArg some (by kernel_rfl))
 f48:=Tryz.func174.trans (congrArg some (by kernel_rfl))
 f49:=⟨Tryz.f175.name,by decide,Tryz.func175.trans (congrArg some (by kernel_rfl))⟩
 f50:=⟨Tryz.f176.name,by decide,Tryz.func176.trans (congrArg some (by kernel_rfl))⟩
 f57:=⟨Tryz.f186.name,by decide,Tryz.func186.trans (congrArg some (by kernel_rfl))⟩
 t0:=Tryz.underlying0
 a0:=Tryz.isAgg0
 z0:=Tryz.sizeOf0
 v0:=Tryz.zeroValue0
 t3:=Tryz.underlying3
 a3:=Tryz.isAgg3
 z3:=Tryz.sizeOf3
 v3:=Tryz.zeroValue3
 t4:=Tryz.underlying4
 a4:=Tryz.isAgg4
 z4:=Tryz.sizeOf4
 v4:=Tryz.zeroValue4
 t5:=Tryz.underlying5
 a5:=Tryz.isAgg5
 z5:=Tryz.sizeOf5
 v5:=Tryz.zeroValue5
 t9:=Tryz.underlying9
 a9:=Tryz.isAgg9
 z9:=Tryz.sizeOf9
 v9:=Tryz.zeroValue9
 t22:=Tryz.underlying156
 a22:=Tryz.isAgg156
 z22:=Tryz.sizeOf156
 v22:=Tryz.zeroValue156
 t25:=Tryz.underlying155
 a25:=Tryz.isAgg155
 z25:=Tryz.sizeOf155
 v25:=Tryz.zeroValue155
 t39:=Tryz.underlying187
 a39:=Tryz.isAgg187
 z39:=Tryz.sizeOf187
 v39:=Tryz.zeroValue187
 t45:=Tryz.underlying233
 a45:=Tryz.isAgg233
 z45:=Tryz.sizeOf233
 v45:=Tryz.zeroValue233
 t46:=Tryz.underlying234
 a46:=Tryz.isAgg234
 z46:=Tryz.sizeOf234
 v46:=Tryz.zeroValue234
 t50:=Tryz.underlying238
 a50:=Tryz.isAgg238
 z50:=Tryz.sizeOf238
 v50:=Tryz.zeroValue238
 t53:=Tryz.underlying131
 a53:=Tryz.isAgg131
 z53:=Tryz.sizeOf131
 v53:=Tryz.zeroValue131
 t55:=Tryz.underlying113
 a55:=Tryz.isAgg113
 z55:=Tryz.sizeOf113
 v55:=Tryz.zeroValue113
 t66:=Tryz.underlying258
 a66:=Tryz.isAgg258
 z66:=Tryz.sizeOf258
 v66:=Tryz.zeroValue258
 t70:=Tryz.underlying262
 a70:=Tryz.isAgg262
 z70:=Tryz.sizeOf262
 v70:=Tryz.zeroValue262
 t76:=Tryz.underlying271
 a76:=Tryz.isAgg271
 z76:=Tryz.sizeOf271
 v76:=Tryz.zeroValue271
 t77:=Tryz.underlying272
 a77:=Tryz.isAgg272
 z77:=Tryz.sizeOf272
 v77:=Tryz.zeroValue272 }
end Go.Proofs
namespace Go.Proofs
open Go Go.Eng Go.Shelf Go.RowKit Go.Lib Go.Sort
def qe8 (o:List Int) (p:Fin 16):List Value:=qD o (p.val:Int)
def cfK (o:List Int) (a b:Fin 16):Int:=qcT o (a.val:Int) (b.val:Int)
theorem ltK {o:List Int} {a b:Fin 16}:ltOf (cfK o) a b = qO o (a.val:Int) (b.val:Int):=by unfold ltOf cfK; rw [qeW]
theorem q9V (o:List Int):SWO (ltOf (cfK o)) where
 irrefl x:=by rw [ltK]; exact qyR
 trans x y z h1 h2:=by rw [ltK] at *; exact q2y h1 h2
 ntrans x y z h1 h2:=by
  rw [ltK] at *
  have e1:(!qO o (x.val:Int) (y.val:Int)) = true:=by rw [h1]; rfl
  have e2:(!qO o (y.val:Int) (z.val:Int)) = true:=by rw [h2]; rfl
  rw [qjo] at e1 e2
  have e3:(!qO o (x.val:Int) (z.val:Int)) = true:=by
   rw [qjo]
   by_cases c1:qcT o (y.val:Int) (x.val:Int) = 0
   ·rw [<- qeO.1 c1]; exact e2
   ·by_cases c2:qcT o (z.val:Int) (y.val:Int) = 0
    ·rw [qeO.1 c2]; exact e1
    ·have:=qkw (o:=o) (a:=(z.val:Int)) (b:=(y.val:Int)) (c:=(x.val:Int)) (by omega) (by omega)
     omega
  simpa using e3
theorem q9Z (o:List Int) (x y:Fin 16) (h1:ltOf (cfK o) x y = false) (h2:ltOf (cfK o) y x = false):x = y:=by
 rw [ltK] at h1 h2
 by_cases h:x = y
 ·exact h
 ·have hv:(x.val:Int) ≠ (y.val:Int):=fun e=>h (Fin.ext (by omega))
  rcases qsq (o:=o) hv with e | e
  ·rw [e] at h1; cases h1
  ·rw [e] at h2; cases h2
theorem q8P {o:List Int} {p:Int}:qt kRk (qD o p):=by
 refine ⟨by rw [qig]; rfl,fun c k v hk hv=>?_⟩
 cases c with
 | zero =>
  simp only [kRk,qD,jat,jaa] at hk hv
  subst hk hv; rfl
 | succ c =>
  simp only [kRk,qD,ja5] at hk hv
  rw [jbj] at hk
  split at hk
  ·simp only [jaa] at hk
   rw [jan] at hv
   obtain ⟨z,_,rfl⟩:=jai.1 hv
   subst hk; rfl
  ·cases hk
theorem qxt {o:List Int} {p:Int}:∀ v ∈ qD o p,v.oneCell' = true:=fun v hv=>by
 rcases jbo.1 hv with rfl | hv
 ·rfl
 ·obtain ⟨z,_,rfl⟩:=jbb.1 hv; rfl
def toFin (x:Int):Fin 16:=⟨x.toNat % 16,by omega⟩
theorem qrI {x:Int} (h:0 <= x/\x < 16):((toFin x).val:Int) = x:=by simp only [toFin]; omega
theorem qxY {M:List Int} {d:Array (Fin 16)} (h:d.toList.map (fun p=>(p.val:Int)) = M) {i:Nat} (hi:i < d.size):M[i]? = some ((d[i]!).val:Int):=by
 rw [<- h,jan,jac (by simpa using hi),jav]
 rw [jes d i hi]; rfl
theorem qvI {o:List Int} {M:List Int} {d:Array (Fin 16)} (h:d.toList.map (fun p=>(p.val:Int)) = M) {i k:Nat} {row:List Value} {v:Value} (hr:(M.map (qD o))[i]? = some row) (hv:row[k]? = some v) :
  i < d.size/\k < 33/\(flatK (qe8 o) 33 d)[i * 33 + k]! = v:=by
 rw [jan] at hr
 obtain ⟨x,hx,rfl⟩:=jai.1 hr
 have hi:i < d.size:=by
  have:=(jam.1 hx).1
  rw [<- h] at this; simpa using this
 have hk:k < 33:=by
  have:=(jam.1 hv).1
  rwa [qig] at this
 rw [qxY h hi,jaa] at hx
 refine ⟨hi,hk,?_⟩
 have hlt:i * 33 + k < d.size * 33:=by omega
 rw [get_flatK _ _ _ _ hlt,show (i * 33 + k) / 33 = i by omega,show (i * 33 + k) % 33 = k by omega]
 unfold qe8
 rw [hx,List.getElem!_eq_getElem?_getD,hv]; rfl
theorem qw2 {o:List Int} {L:List Int} {d:Array (Fin 16)} (h:d.toList.map (fun p=>(p.val:Int)) = L) {w:World} {b:Nat} {c:Array Value} {ty:TypeId} (hb:w.heap[b]? = some (.cells c ty (0,0))) (hr:qT c 0 kRk (L.map (qD o))):HoldsK (qe8 o) 33 w b 0 d:=by
 intro j hj
 rw [size_flatK] at hj
 have hi:j / 33 < d.size:=by omega
 have hrow:(L.map (qD o))[j / 33]? = some (qD o ((d[j / 33]!).val:Int)):=by rw [jan,qxY h hi]; rfl
 have hkl:j % 33 < (qD o ((d[j / 33]!).val:Int)).length:=by rw [qig]; omega
 have hv:=(hr _ _ hrow).2 (j % 33) _ (jac hkl)
 have hf:=(qvI h hrow (jac hkl)).2.2
 rw [show j / 33 * 33 + j % 33 = j by omega] at hf
 have hlen:kRk.length = 33:=rfl
 rw [hlen,show 0 + j / 33 * 33 + j % 33 = j by omega] at hv
 refine ⟨?_,by simp [World.frozen?,hb]⟩
 show w.cell? ⟨b,0 + j,none⟩ = some (id (flatK (qe8 o) 33 d)[j]!)
 simp only [World.cell?,hb,jbp,id]
 rw [hf,hv]; rfl
theorem q0C {o:List Int} {w:World} {b n:Nat} {d:Array (Fin 16)} {os:Array Obj} {c:Array Value} {ty:TypeId} (hb:w.heap[b]? = some (.cells c ty (0,0))) :
  (sortWorldK (qe8 o) 33 w b 0 n d os).heap[b]? = some (.cells (putCells id 0 (flatK (qe8 o) 33 d) c) ty (0,0)):=by
 have hlt:b < w.heap.size:=(jb7.1 hb).1
 unfold sortWorldK grow putRowK putRow mapBlock
 have e:(Go.Sort.ahead w n).heap = w.heap:=rfl
 simp only [e]
 rw [jcd (by simpa using hlt),jb0,jah rfl,hb]; rfl
theorem qxb {o:List Int} {w:World} {b x n:Nat} {d:Array (Fin 16)} {os:Array Obj} {X:Obj} (hx:w.heap[x]? = some X) (hne:x ≠ b):(sortWorldK (qe8 o) 33 w b 0 n d os).heap[x]? = some X:=by
 have hlt:x < w.heap.size:=(jb7.1 hx).1
 unfold sortWorldK grow putRowK putRow mapBlock
 have e:(Go.Sort.ahead w n).heap = w.heap:=rfl
 simp only [e]
 rw [jcd (by simpa using hlt),jb0,jaf (Ne.symm hne),hx]
theorem q0t {o:List Int} {M:List Int} {d:Array (Fin 16)} (h:d.toList.map (fun p=>(p.val:Int)) = M) {c:Array Value} (hc:d.size * 33 <= c.size):qT (putCells id 0 (flatK (qe8 o) 33 d) c) 0 kRk (M.map (qD o)):=by
 intro i row hi
 have hfit:qt kRk row:=by
  rw [jan] at hi
  obtain ⟨x,_,rfl⟩:=jai.1 hi
  exact q8P
 refine ⟨hfit,fun k v hv=>?_⟩
 obtain ⟨h1,h2,h3⟩:=qvI h hi hv
 have hlen:kRk.length = 33:=rfl
 rw [hlen,jbp]
 have hlt:i * 33 + k < d.size * 33:=by omega
 unfold putCells
 rw [Array.getElem?_mapIdx,jch (by omega),jav,jah ⟨by omega,by rw [size_flatK]; omega⟩,jd1,h3]; rfl
theorem qAd (o:List Int) (ho:qH o) (x y:Fin 16) (W:World):Calls Tryz.prog 81 #[.agg (qe8 o x).toArray,.agg (qe8 o y).toArray] W fun e w'=>e = .returned (.int .i64 (cfK o x y))/\∃ q os',w' = grow (W.drewN q) os':=by
 refine (q2U (x.val:Int) (y.val:Int) (qP o x.val) (qP o y.val) qjF qjF W).mono fun e w' h=>?_
 obtain ⟨rfl,h⟩:=h
 refine ⟨?_,h⟩
 rw [qmq qnr qnr]
 have hx:=x.isLt
 have hy:=y.isLt
 unfold cfK qcT
 by_cases he:qP o (x.val:Int) = qP o (y.val:Int)
 ·rw [jah (qeT.2 he),jah he]
  have:RowKit.wrap64 ((x.val:Int) - (y.val:Int)) = (x.val:Int) - (y.val:Int):=by unfold RowKit.wrap64; omega
  rw [this]
 ·rw [jaf (fun h=>he (qeT.1 h)),jaf he]
theorem q1T (o:List Int) (ho:qH o) (b cap:Nat) (d:Array (Fin 16)) (w:World) (hH:HoldsK (qe8 o) 33 w b 0 d) (hb:b < w.heap.size) (hsz:d.size < 4611686018427387904) :
  Calls Tryz.prog 83 #[.slice (some ⟨b,0,none⟩) d.size cap,.func (.func 81) #[] #[]] w fun e w'=>e = .returned (.tuple #[])/\∃ n os,w' = sortWorldK (qe8 o) 33 w b 0 n (d.toList.mergeSort fun x y=>!(ltOf (cfK o)) y x).toArray os :=
 AnyQ.slices_SortFunc_total qxu 33 Tryz.isAgg153 Tryz.sizeOf153 (qe8 o) (fun _=>qig) (fun _=>qxt) (cfK o) (q9V o) 81 #[] b 0 cap d w (fun args w=>Tryz.call81 args w) (fun m os dk hs x y=>qAd o ho x y _) hH hb hsz (q9Z o)
theorem qyL (p:Option Addr) (cap:Nat) (fv:Value) (w:World):Calls Tryz.prog 83 #[.slice p 0 cap,fv] w fun e w'=>e = .returned (.tuple #[])/\w' = w:=AnyF.slices_SortFunc_none qxu p cap fv w
theorem q0h {o L:List Int} (hL:∀ x ∈ L,0 <= x/\x < 16):(((L.map toFin).mergeSort fun x y=>!(ltOf (cfK o)) y x).map fun p=>(p.val:Int)) = qat o L:=by
 have hv:(L.map toFin).map (fun p=>(p.val:Int)) = L:=by
  rw [jdq]
  conv=>rhs; rw [<- jd8 L]
  exact jbt fun x hx=>qrI (hL x hx)
 rw [List.map_mergeSort (s:=fun a b=>!qO o b a) (fun a _ b _=>by rw [ltK]),hv]; rfl
theorem qwz {o o' L:List Int} (h:L.map (qD o) = L.map (qD o')):(qat o L).map (qD o) = (qat o' L).map (qD o'):=by
 have h1:∀ x ∈ L,qD o x = qD o' x:=List.map_inj_left.1 h
 have hsc:∀ x ∈ L,qP o x = qP o' x:=fun x hx=>by
  have h2:=h1 x hx
  simp only [qD,jb2,true_and] at h2
  have h3:=congrArg (List.map qS) h2
  rw [jdq,jdq] at h3
  have e:(qS ∘ Value.int IntKind.u8) = id:=rfl
  rwa [e,jd8,jd8] at h3
 have hs:qat o L = qat o' L:=by
  have:=List.map_mergeSort (r:=fun a b=>!qO o b a) (s:=fun a b=>!qO o' b a) (f:=id) (l:=L) (fun a ha b hb=>by simp only [id,qO,hsc a ha,hsc b hb])
  rwa [jd8,jd8] at this
 rw [<- hs]
 exact jbt fun x hx=>h1 x (q3x.1 hx)
theorem q7q:qfz.ok Tryz.prog:=by
 refine ⟨fun args w=>Tryz.call83 args w,fun Z w hF hO hg hd hw hs hro hp=>?_⟩
 obtain ⟨hl,hb1,o,L,ho,hD,hL⟩:=hp
 obtain ⟨h1,h2,hdis,hu,harr,_⟩:=hs
 have huniq:∀ {o' L':List Int},(Z 3).d = L'.map (qD o')->L' = L:=fun {o' L'} h=>by
  have e:=congrArg qk (h.symm.trans hD)
  rwa [qvh,qvh] at e
 have hlen:(Z 1).i = L.length:=by rw [hl,hD,ja0]
 -- the answer, once the rows are qci
 have key:∀ (w':World) (hO':Hp),Hp.disj hF.h hO'->SH.den (Z.set 4 { d:=(qat o L).map (qD o) }) (qtz 0 4 2) hO'->(Hp.union hF.h hO').sub w'->hF.wi w' ->
   ∃ (ai:Nat) (al:Alt) (Z':Env),qfz.alts[ai]? = some al/\Z'.good/\(∀ n,n < qfz.nv->Z' n = Z n)/\(Ending.returned (.tuple #[]):Ending) = .returned (al.ret.den Z')/\al.post (Z'.upto (qfz.nv + al.k))/\qs Z' hF al.heap w':=by
  intro w' hO' a1 a2 a3 a4
  have hgood:({ d:=(qat o L).map (qD o) }:U).good:=⟨rfl,fun row hr v hv=>by
   obtain ⟨x,_,rfl⟩:=jbb.1 hr
   exact qxt v hv⟩
  refine ⟨0,_,Z.set 4 { d:=(qat o L).map (qD o) },rfl,fun n=>?_,fun n hn=>Env.set_ne _ _ (by have:n < 4:=hn; omega),rfl,?_,hO',a1,⟨hO',Hp.emp,fun _=>.inr rfl,?_,a2,trivial⟩,a3,a4⟩
  ·by_cases hn:n = 4
   ·subst hn; rw [Env.set_same]; exact hgood
   ·rw [Env.set_ne _ _ hn]; exact hg n
  ·intro o' L' ho' hD' hL'
   have hD2:(Z 3).d = L'.map (qD o'):=hD'
   obtain rfl:=huniq hD2
   show (qat o L').map (qD o) = (qat o' L').map (qD o')
   exact qwz (hD.symm.trans hD2)
  ·funext b
   simp only [Hp.union,Hp.emp]
   cases hO' b <;> rfl
 rcases harr with ⟨hr,hd0,hc0⟩ | ⟨b,c,hr,hb,hcs,hcap,hrows⟩
 ·have hL0:L = []:=by
   have e:(Z 3).d = []:=hd0
   rw [hD] at e
   exact List.map_eq_nil_iff.1 e
  subst hL0
  have hargs:(List.map (SV.den Z) qfz.args).toArray = #[.slice none 0 (Z 2).i.toNat,.func (.func 81) #[] #[]]:=by
   have hr':(Z 0).r = none:=hr
   simp [qfz,rkS,SV.den,qc,T.den,O0.den,O3.den,hr',hlen,qm]
  rw [hargs]
  refine (qyL none _ _ w).mono fun e w' h=>?_
  obtain ⟨rfl,rfl⟩:=h
  refine key _ hO hd (.inl ⟨?_,?_,?_⟩) hw.1 hw.2
  ·rw [Env.set_ne _ _ (by decide)]; exact hr
  ·show ((Z.set 4 _) 4).d = []
   rw [Env.set_same]; simp [qat]
  ·show ((Z.set 4 _) 2).i = 0
   rw [Env.set_ne _ _ (by decide)]; exact hc0
 ·have hbO:hO b = some (.cells c 153 (0,0)):=by rw [hu]; simp [Hp.union,hb]
  have hbw:w.heap[b]? = some (.cells c 153 (0,0)):=hw.1 _ _ (by
   unfold Hp.union
   rcases hd b with h | h
   ·rw [h]; exact hbO
   ·rw [hbO] at h; cases h)
  have hblt:b < w.heap.size:=(jb7.1 hbw).1
  have hrows':qT c 0 kRk (L.map (qD o)):=by
   have h:=hrows
   rw [show (T.den Z (.var 3)).d = (Z 3).d from rfl,hD] at h
   exact h
  have hcs':c.size = (Z 2).i.toNat * 33:=hcs
  have hcap':((Z 3).d.length:Int) <= (Z 2).i:=hcap
  rw [hD,ja0] at hcap'
  let d:Array (Fin 16):=(L.map toFin).toArray
  have hdv:d.toList.map (fun p=>(p.val:Int)) = L:=by
   simp only [d,jcc,jdq]
   conv=>rhs; rw [<- jd8 L]
   exact jbt fun x hx=>qrI (hL x hx)
  have hds:d.size = L.length:=by simp [d]
  have hH:=qw2 hdv hbw hrows'
  have hargs:(List.map (SV.den Z) qfz.args).toArray = #[.slice (some ⟨b,0,none⟩) d.size (Z 2).i.toNat,.func (.func 81) #[] #[]]:=by
   have hr':(Z 0).r = some ⟨b,0,none⟩:=hr
   simp [qfz,rkS,SV.den,qc,T.den,O0.den,O3.den,hr',hlen,qm,hds]
  rw [hargs]
  refine (q1T o ho b _ d w hH hblt (by omega)).mono fun e w' h=>?_
  obtain ⟨rfl,n,os,rfl⟩:=h
  have hsv:((d.toList.mergeSort fun x y=>!(ltOf (cfK o)) y x).toArray:Array (Fin 16)).toList.map (fun p=>(p.val:Int)) = qat o L:=by
   simp only [d,jcc]
   exact q0h hL
  have hsl:((d.toList.mergeSort fun x y=>!(ltOf (cfK o)) y x).toArray:Array (Fin 16)).size * 33 <= c.size:=by
   rw [hcs',jew,List.length_mergeSort]
   simp only [jff,hds]
   omega
  refine key _ (Hp.upd hO b (.cells (putCells id 0 (flatK (qe8 o) 33 (d.toList.mergeSort fun x y=>!(ltOf (cfK o)) y x).toArray) c) 153 (0,0))) (fun x=>?_) (.inr ⟨b,putCells id 0 (flatK (qe8 o) 33 (d.toList.mergeSort fun x y=>!(ltOf (cfK o)) y x).toArray) c,?_,?_,?_,?_,?_⟩) (fun x X hX=>?_) ?_
  ·by_cases hx:x = b
   ·subst hx
    rcases hd x with h | h
    ·exact .inl h
    ·rw [hbO] at h; cases h
   ·unfold Hp.upd; rw [jaf hx]; exact hd x
  ·rw [Env.set_ne _ _ (by decide)]; exact hr
  ·unfold Hp.upd; rw [jah rfl]
  ·show (putCells id 0 _ c).size = ((Z.set 4 _) 2).i.toNat * 33
   rw [Env.set_ne _ _ (by decide),<- hcs']
   simp [putCells]
  ·show ((((Z.set 4 { d:=(qat o L).map (qD o) }) 4).d.length:Nat):Int) <= ((Z.set 4 _) 2).i
   rw [Env.set_same,Env.set_ne _ _ (by decide),ja0,qi1]; exact hcap'
  ·show qT _ 0 kRk ((Z.set 4 { d:=(qat o L).map (qD o) }) 4).d
   rw [Env.set_same]
   exact q0t hsv hsl
  ·by_cases hx:x = b
   ·subst hx
    have hFn:hF.h x = none:=by
     rcases hd x with h | h
     ·exact h
     ·rw [hbO] at h; cases h
    simp only [Hp.union,hFn,Hp.upd,jbw,jby,jaa] at hX
    rw [<- hX]
    exact q0C hbw
   ·have hX':Hp.union hF.h hO x = some X:=by
     simpa [Hp.union,Hp.upd,hx] using hX
    exact qxb (hw.1 _ _ hX') hx
  ·exact hw.2
end Go.Proofs
namespace Go.Proofs
open Go Go.Eng
def q6g:Out:=(.br (.cmp .geq (tv 1) (tv 0))
 (.ret 0 (sg 2 [bt 2 (.cmp .lss (.arith .sub .u64 (tv 1) (tv 0)) (tl 12))]))
 (.ret 0 (sg 2 [bt 2 (.bl false)])))
theorem q8D:qn Tryz.prog qow [] [] q6g:=qh Tryz.func101 Tryz.call101 (by kernel_rfl)
def qxN:Out:=(.mop .new 0 (.fresh 2 (.ret 0 (sg 0 [bg 2 0,bv 1 1,bg 0 2]))) .top)
theorem q5q:qn Tryz.prog qgG [] [] qxN:=qh Tryz.func61 Tryz.call61 (by kernel_rfl)
def q1n:Out:=(.fresh 6 (.pre 0 (sg 0 [bv 0 2]) (.both (.fresh 7 (.post 0 0 (sg 0 [bv 0 2]) 7 (.br (.not (tv 7))
 (.ret 0 (sg 6 [bg 6 5]))
 (.both (.mop (.get (tv 4) [(.c2 (.xint 0) (tv 1) (tl 0)),(.c2 (.xint 1) (tv 1) (tl 0)),(.c2 (.xint 2) (tv 1) (tl 0)),(.c2 (.xint 3) (tv 1) (tl 0)),(.c2 (.xint 4) (tv 1) (tl 0)),(.c2 (.xint 5) (tv 1) (tl 0)),(.c2 (.xint 6) (tv 1) (tl 0)),(.c2 (.xint 7) (tv 1) (tl 0)),(.c2 (.xint 8) (tv 1) (tl 0)),(.c2 (.xint 9) (tv 1) (tl 0)),(.c2 (.xint 10) (tv 1) (tl 0)),(.c2 (.xint 11) (tv 1) (tl 0)),(.c2 (.xint 12) (tv 1) (tl 0)),(.c2 (.xint 13) (tv 1) (tl 0)),(.c2 (.xint 14) (tv 1) (tl 0)),(.c2 (.xint 15) (tv 1) (tl 0)),(.c2 (.xint 16) (tv 1) (tl 0)),(.c2 (.xint 17) (tv 1) (tl 0)),(.c2 (.xint 18) (tv 1) (tl 0)),(.c2 (.xint 19) (tv 1) (tl 0)),(.c2 (.xint 20) (tv 1) (tl 0)),(.c2 (.xint 21) (tv 1) (tl 0)),(.c2 (.xint 22) (tv 1) (tl 0)),(.c2 (.xint 23) (tv 1) (tl 0)),(.c2 (.xint 24) (tv 1) (tl 0)),(.c2 (.xint 25) (tv 1) (tl 0)),(.c2 (.xint 26) (tv 1) (tl 0)),(.c2 (.xint 27) (tv 1) (tl 0)),(.c2 (.xint 28) (tv 1) (tl 0)),(.c2 (.xint 29) (tv 1) (tl 0)),(.c2 (.xint 30) (tv 1) (tl 0)),(.c2 (.xint 31) (tv 1) (tl 0))] ⟨true,[.u8,.u8,.u8,.u8,.u8,.u8,.u8,.u8,.u8,.u8,.u8,.u8,.u8,.u8,.u8,.u8,.u8,.u8,.u8,.u8,.u8,.u8,.u8,.u8,.u8,.u8,.u8,.u8,.u8,.u8,.u8,.u8],false,[CK.any],[.vnilm]⟩ [5]) 8 (.both (.mop (.isnil (.vcell (tv 8) (tl 0) 0)) 9 (.br (tv 9)
 (.both (.mop .new 10 (.both (.pack [.abs 10 1003,.abs 5 1003] 12 (.mop (.put 12 (tv 4) [(.c2 (.xint 0) (tv 1) (tl 0)),(.c2 (.xint 1) (tv 1) (tl 0)),(.c2 (.xint 2) (tv 1) (tl 0)),(.c2 (.xint 3) (tv 1) (tl 0)),(.c2 (.xint 4) (tv 1) (tl 0)),(.c2 (.xint 5) (tv 1) (tl 0)),(.c2 (.xint 6) (tv 1) (tl 0)),(.c2 (.xint 7) (tv 1) (tl 0)),(.c2 (.xint 8) (tv 1) (tl 0)),(.c2 (.xint 9) (tv 1) (tl 0)),(.c2 (.xint 10) (tv 1) (tl 0)),(.c2 (.xint 11) (tv 1) (tl 0)),(.c2 (.xint 12) (tv 1) (tl 0)),(.c2 (.xint 13) (tv 1) (tl 0)),(.c2 (.xint 14) (tv 1) (tl 0)),(.c2 (.xint 15) (tv 1) (tl 0)),(.c2 (.xint 16) (tv 1) (tl 0)),(.c2 (.xint 17) (tv 1) (tl 0)),(.c2 (.xint 18) (tv 1) (tl 0)),(.c2 (.xint 19) (tv 1) (tl 0)),(.c2 (.xint 20) (tv 1) (tl 0)),(.c2 (.xint 21) (tv 1) (tl 0)),(.c2 (.xint 22) (tv 1) (tl 0)),(.c2 (.xint 23) (tv 1) (tl 0)),(.c2 (.xint 24) (tv 1) (tl 0)),(.c2 (.xint 25) (tv 1) (tl 0)),(.c2 (.xint 26) (tv 1) (tl 0)),(.c2 (.xint 27) (tv 1) (tl 0)),(.c2 (.xint 28) (tv 1) (tl 0)),(.c2 (.xint 29) (tv 1) (tl 0)),(.c2 (.xint 30) (tv 1) (tl 0)),(.c2 (.xint 31) (tv 1) (tl 0))] [(tv 11)] ⟨true,[.u8,.u8,.u8,.u8,.u8,.u8,.u8,.u8,.u8,.u8,.u8,.u8,.u8,.u8,.u8,.u8,.u8,.u8,.u8,.u8,.u8,.u8,.u8,.u8,.u8,.u8,.u8,.u8,.u8,.u8,.u8,.u8],false,[CK.any],[.vnilm]⟩) 13 (.both (.mop (.get (tv 4) [(.c2 (.xint 0) (tv 1) (tl 0)),(.c2 (.xint 1) (tv 1) (tl 0)),(.c2 (.xint 2) (tv 1) (tl 0)),(.c2 (.xint 3) (tv 1) (tl 0)),(.c2 (.xint 4) (tv 1) (tl 0)),(.c2 (.xint 5) (tv 1) (tl 0)),(.c2 (.xint 6) (tv 1) (tl 0)),(.c2 (.xint 7) (tv 1) (tl 0)),(.c2 (.xint 8) (tv 1) (tl 0)),(.c2 (.xint 9) (tv 1) (tl 0)),(.c2 (.xint 10) (tv 1) (tl 0)),(.c2 (.xint 11) (tv 1) (tl 0)),(.c2 (.xint 12) (tv 1) (tl 0)),(.c2 (.xint 13) (tv 1) (tl 0)),(.c2 (.xint 14) (tv 1) (tl 0)),(.c2 (.xint 15) (tv 1) (tl 0)),(.c2 (.xint 16) (tv 1) (tl 0)),(.c2 (.xint 17) (tv 1) (tl 0)),(.c2 (.xint 18) (tv 1) (tl 0)),(.c2 (.xint 19) (tv 1) (tl 0)),(.c2 (.xint 20) (tv 1) (tl 0)),(.c2 (.xint 21) (tv 1) (tl 0)),(.c2 (.xint 22) (tv 1) (tl 0)),(.c2 (.xint 23) (tv 1) (tl 0)),(.c2 (.xint 24) (tv 1) (tl 0)),(.c2 (.xint 25) (tv 1) (tl 0)),(.c2 (.xint 26) (tv 1) (tl 0)),(.c2 (.xint 27) (tv 1) (tl 0)),(.c2 (.xint 28) (tv 1) (tl 0)),(.c2 (.xint 29) (tv 1) (tl 0)),(.c2 (.xint 30) (tv 1) (tl 0)),(.c2 (.xint 31) (tv 1) (tl 0))] ⟨true,[.u8,.u8,.u8,.u8,.u8,.u8,.u8,.u8,.u8,.u8,.u8,.u8,.u8,.u8,.u8,.u8,.u8,.u8,.u8,.u8,.u8,.u8,.u8,.u8,.u8,.u8,.u8,.u8,.u8,.u8,.u8,.u8],false,[CK.any],[.vnilm]⟩ [13]) 14 (.both (.mop (.put 13 (.vcell (tv 14) (tl 0) 0) [(tv 2)] [(.vint .u64 (tv 3))] ⟨false,[.i64],false,[CK.int .u64],[(.vint .u64 (tl 0))]⟩) 15 (.ret 0 (sg 6 [bg 6 15])) .top) .top) .top) .top) .top)) .top) .top) .top)
 (.both (.mop (.get (tv 4) [(.c2 (.xint 0) (tv 1) (tl 0)),(.c2 (.xint 1) (tv 1) (tl 0)),(.c2 (.xint 2) (tv 1) (tl 0)),(.c2 (.xint 3) (tv 1) (tl 0)),(.c2 (.xint 4) (tv 1) (tl 0)),(.c2 (.xint 5) (tv 1) (tl 0)),(.c2 (.xint 6) (tv 1) (tl 0)),(.c2 (.xint 7) (tv 1) (tl 0)),(.c2 (.xint 8) (tv 1) (tl 0)),(.c2 (.xint 9) (tv 1) (tl 0)),(.c2 (.xint 10) (tv 1) (tl 0)),(.c2 (.xint 11) (tv 1) (tl 0)),(.c2 (.xint 12) (tv 1) (tl 0)),(.c2 (.xint 13) (tv 1) (tl 0)),(.c2 (.xint 14) (tv 1) (tl 0)),(.c2 (.xint 15) (tv 1) (tl 0)),(.c2 (.xint 16) (tv 1) (tl 0)),(.c2 (.xint 17) (tv 1) (tl 0)),(.c2 (.xint 18) (tv 1) (tl 0)),(.c2 (.xint 19) (tv 1) (tl 0)),(.c2 (.xint 20) (tv 1) (tl 0)),(.c2 (.xint 21) (tv 1) (tl 0)),(.c2 (.xint 22) (tv 1) (tl 0)),(.c2 (.xint 23) (tv 1) (tl 0)),(.c2 (.xint 24) (tv 1) (tl 0)),(.c2 (.xint 25) (tv 1) (tl 0)),(.c2 (.xint 26) (tv 1) (tl 0)),(.c2 (.xint 27) (tv 1) (tl 0)),(.c2 (.xint 28) (tv 1) (tl 0)),(.c2 (.xint 29) (tv 1) (tl 0)),(.c2 (.xint 30) (tv 1) (tl 0)),(.c2 (.xint 31) (tv 1) (tl 0))] ⟨true,[.u8,.u8,.u8,.u8,.u8,.u8,.u8,.u8,.u8,.u8,.u8,.u8,.u8,.u8,.u8,.u8,.u8,.u8,.u8,.u8,.u8,.u8,.u8,.u8,.u8,.u8,.u8,.u8,.u8,.u8,.u8,.u8],false,[CK.any],[.vnilm]⟩ [5]) 10 (.both (.mop (.put 5 (.vcell (tv 10) (tl 0) 0) [(tv 2)] [(.vint .u64 (tv 3))] ⟨false,[.i64],false,[CK.int .u64],[(.vint .u64 (tl 0))]⟩) 11 (.ret 0 (sg 6 [bg 6 11])) .top) .top) .top) .top)) .top) .top) .top) .top)))) .top)))
theorem q6Q:qn Tryz.prog qik [qfh] [] q1n:=qh Tryz.func62 Tryz.call62 (by kernel_rfl)
@[simp] def qiC:Out:=.back 0 57 (sg 1000 [bg 1007 65,bv 1004 61,bv 1002 59,bv 1006 63,bt 1005 (.bl false),bg 1003 60,bg 1001 58,bg 1000 57])
def qrD:Out:=(.fresh 18 (.pre 0 (sg 0 [bv 4 15,bv 3 14,bv 2 13,bv 1 12,bg 0 11]) (.both (fr 19 16 (.post 0 0 (sg 0 [bv 4 15,bv 3 14,bv 2 13,bv 1 12,bg 0 11]) 19 (.pre 0 (sg 0 [bv 4 10,bv 3 9,bv 2 8,bv 1 7,bg 0 6]) (.both (fr 35 16 (.post 0 0 (sg 0 [bv 4 10,bv 3 9,bv 2 8,bv 1 7,bg 0 6]) 35 (fr 51 2 (.both (.mop (.get (tv 4) [(.c2 (.xint 0) (tv 1) (tl 0)),(.c2 (.xint 1) (tv 1) (tl 0)),(.c2 (.xint 2) (tv 1) (tl 0)),(.c2 (.xint 3) (tv 1) (tl 0)),(.c2 (.xint 4) (tv 1) (tl 0)),(.c2 (.xint 5) (tv 1) (tl 0)),(.c2 (.xint 6) (tv 1) (tl 0)),(.c2 (.xint 7) (tv 1) (tl 0)),(.c2 (.xint 8) (tv 1) (tl 0)),(.c2 (.xint 9) (tv 1) (tl 0)),(.c2 (.xint 10) (tv 1) (tl 0)),(.c2 (.xint 11) (tv 1) (tl 0)),(.c2 (.xint 12) (tv 1) (tl 0)),(.c2 (.xint 13) (tv 1) (tl 0)),(.c2 (.xint 14) (tv 1) (tl 0)),(.c2 (.xint 15) (tv 1) (tl 0)),(.c2 (.xint 16) (tv 1) (tl 0)),(.c2 (.xint 17) (tv 1) (tl 0)),(.c2 (.xint 18) (tv 1) (tl 0)),(.c2 (.xint 19) (tv 1) (tl 0)),(.c2 (.xint 20) (tv 1) (tl 0)),(.c2 (.xint 21) (tv 1) (tl 0)),(.c2 (.xint 22) (tv 1) (tl 0)),(.c2 (.xint 23) (tv 1) (tl 0)),(.c2 (.xint 24) (tv 1) (tl 0)),(.c2 (.xint 25) (tv 1) (tl 0)),(.c2 (.xint 26) (tv 1) (tl 0)),(.c2 (.xint 27) (tv 1) (tl 0)),(.c2 (.xint 28) (tv 1) (tl 0)),(.c2 (.xint 29) (tv 1) (tl 0)),(.c2 (.xint 30) (tv 1) (tl 0)),(.c2 (.xint 31) (tv 1) (tl 0))] ⟨true,[.u8,.u8,.u8,.u8,.u8,.u8,.u8,.u8,.u8,.u8,.u8,.u8,.u8,.u8,.u8,.u8,.u8,.u8,.u8,.u8,.u8,.u8,.u8,.u8,.u8,.u8,.u8,.u8,.u8,.u8,.u8,.u8],false,[CK.any],[.vnilm]⟩ [5]) 53 (.both (.mop (.range (.vcell (tv 53) (tl 0) 0) ⟨false,[.i64],false,[CK.int .u64],[(.vint .u64 (tl 0))]⟩ [5]) 54 (.pack [.abs 54 1003,.abs 5 1003] 56 (.inv 0 57 (sg 1000 [bg 1007 56,bt 1004 (.rcons (.vbool (tv 35)) (.rcons (.vbool (tv 36)) (.rcons (.vbool (tv 37)) (.rcons (.vbool (tv 38)) (.rcons (.vbool (tv 39)) (.rcons (.vbool (tv 40)) (.rcons (.vbool (tv 41)) (.rcons (.vbool (tv 42)) (.rcons (.vbool (tv 43)) (.rcons (.vbool (tv 44)) (.rcons (.vbool (tv 45)) (.rcons (.vbool (tv 46)) (.rcons (.vbool (tv 47)) (.rcons (.vbool (tv 48)) (.rcons (.vbool (tv 49)) (.rcons (.vbool (tv 50)) .rnil)))))))))))))))),bt 1002 (.rcons (.vbool (tv 19)) (.rcons (.vbool (tv 20)) (.rcons (.vbool (tv 21)) (.rcons (.vbool (tv 22)) (.rcons (.vbool (tv 23)) (.rcons (.vbool (tv 24)) (.rcons (.vbool (tv 25)) (.rcons (.vbool (tv 26)) (.rcons (.vbool (tv 27)) (.rcons (.vbool (tv 28)) (.rcons (.vbool (tv 29)) (.rcons (.vbool (tv 30)) (.rcons (.vbool (tv 31)) (.rcons (.vbool (tv 32)) (.rcons (.vbool (tv 33)) (.rcons (.vbool (tv 34)) .rnil)))))))))))))))),bv 1006 55,bt 1005 (.bl false),bg 1003 52,bg 1001 51,bg 1000 18]) (fr 57 8 (.hyp 0 57 (.mop (.next 64 (tv 63) ⟨false,[.i64],false,[CK.int .u64],[(.vint .u64 (tl 0))]⟩ [64]) 65 (.mop (.entry 65 (tv 63) ⟨false,[.i64],false,[CK.int .u64],[(.vint .u64 (tl 0))]⟩ [65]) 68 (.br (tv 62)
 (.back 0 57 (sg 1000 [bg 1007 65,bv 1004 61,bv 1002 59,bv 1006 63,bt 1005 (.bl true),bg 1003 60,bg 1001 58,bg 1000 57]))
 (.pre 1 (sg 0 [bv 1 3,bt 0 (.c2 (.xint 0) (tv 69) (tl 0))]) (.both (.fresh 70 (.post 1 0 (sg 0 [bv 1 3,bt 0 (.c2 (.xint 0) (tv 69) (tl 0))]) 70 (.br (tv 70)
 (.need (.cmp .leq (tl 0) (.c2 (.xint 0) (tv 68) (tl 0))) (.need (.cmp .lss (.c2 (.xint 0) (tv 68) (tl 0)) (tl 16)) (.need (.cmp .lss (tl 0) (.dlen (tv 61))) (.br (.c2 (.xbool 0) (tv 61) (.c2 (.xint 0) (tv 68) (tl 0)))
 (.need (.cmp .lss (tl 0) (.dlen (tv 59))) (.br (.not (.c2 (.xbool 0) (tv 59) (.c2 (.xint 0) (tv 68) (tl 0))))
 (.pre 2 (sg 0 [bv 4 17,bv 2 2,bt 1 (.c2 (.xint 0) (tv 68) (tl 0)),bt 0 (r8 1),bg 3 16]) (.both (.fresh 71 (.post 2 0 (sg 0 [bv 4 17,bv 2 2,bt 1 (.c2 (.xint 0) (tv 68) (tl 0)),bt 0 (r8 1),bg 3 16]) 71 (.back 0 57 (sg 1000 [bg 1007 65,bv 1004 61,bv 1002 59,bv 1006 63,bv 1005 71,bg 1003 60,bg 1001 58,bg 1000 57])))) .top))
 qiC))
 qiC))))
 qiC))) .top))) .top) (.ret 0 (sg 18 [bg 19 64,bv 18 62]))))))) .top) .top) .top) .top)))) .top)))) .top)))
theorem qzk:qn Tryz.prog qdF [qi8,qow,qdR] [qtx] qrD:=qh Tryz.func68 Tryz.call68 (by kernel_rfl)
theorem qsy:∀ {ks:List IntKind} {a b:List Int},a.length = ks.length->b.length = ks.length->qN ks a = qN ks b->a = b
 | [],[],[],_,_,_=>rfl
 | k :: ks,x :: a,y :: b,h1,h2,h=>by
  simp only [qN,List.zipWith_cons_cons,jb2,Value.int.injEq,true_and] at h
  rw [h.1,qsy (ks:=ks) (by simpa using h1) (by simpa using h2) h.2]
 | [],_ :: _,_,h,_,_=>by simp at h
 | [],_,_ :: _,_,h,_=>by simp at h
 | _ :: _,[],_,h,_,_=>by simp at h
 | _ :: _,_ :: _,[],_,h,_=>by simp at h
theorem qxR {g:Bool} {a b:List Value} {n:Nat} (ha:a.length = n) (hb:b.length = n) (hg:g = true∨n = 1) (h:mkV g a = mkV g b):a = b:=by
 cases g with
 | true =>
  simp only [mkV,Value.agg.injEq] at h
  simpa using congrArg Array.toList h
 | false =>
  obtain rfl:=hg.resolve_left (by simp)
  match a,b,ha,hb with
  | [x],[y],_,_ =>
   simp only [mkV,jbq] at h
   rw [h]
theorem qvo {mt:MT} (hk:mt.kagg = true∨mt.kks.length = 1) (hv:mt.vagg = true∨mt.vpat.length = 1):∀ {l l':List ME},(∀ x ∈ l,x.k.length = mt.kks.length/\qt mt.vpat x.v)->(∀ x ∈ l',x.k.length = mt.kks.length/\qt mt.vpat x.v)->l.map mt.ent = l'.map mt.ent->l = l'
 | [],[],_,_,_=>rfl
 | [],_ :: _,_,_,h=>by simp at h
 | _ :: _,[],_,_,h=>by simp at h
 | x :: l,y :: l',h1,h2,h=>by
  simp only [jay,jb2] at h
  obtain ⟨e1,e2⟩:=h
  have hx:=h1 x (jae ..)
  have hy:=h2 y (jae ..)
  simp only [MT.ent,MapEntry.mk.injEq] at e1
  obtain ⟨a1,a2,a3⟩:=e1
  have lk:∀ {k:List Int},k.length = mt.kks.length->(qN mt.kks k).length = mt.kks.length:=fun h=>by simp [qN,h]
  have b1:=qsy hx.1 hy.1 (qxR (lk hx.1) (lk hy.1) hk a1)
  have b2:=qxR hx.2.1 hy.2.1 hv a2
  obtain ⟨xk,xv,xb⟩:=x
  obtain ⟨yk,yv,yb⟩:=y
  simp only at b1 b2 a3
  subst b1 b2 a3
  rw [qvo hk hv (fun z hz=>h1 z (jab _ hz)) (fun z hz=>h2 z (jab _ hz)) e2]
theorem qsw {h:Hp} {b:Nat} {mt:MT} {l l':List ME} {c c':Nat} (hk:mt.kagg = true∨mt.kks.length = 1) (hv:mt.vagg = true∨mt.vpat.length = 1) (h1:qZ h b mt l c) (h2:qZ h b mt l' c'):l = l'/\c = c':=by
 have e:=h1.1.symm.trans h2.1
 simp only [MT.obj,jaa,Obj.map.injEq] at e
 exact ⟨qvo hk hv (fun x hx=>⟨(h1.2.1 x hx).1,(h1.2.1 x hx).2.1⟩) (fun x hx=>⟨(h2.2.1 x hx).1,(h2.2.1 x hx).2.1⟩) (by simpa using congrArg Array.toList e.1),e.2⟩
theorem qks {h:Hp} {b:Nat} {l l':List ME} {c c':Nat} (h1:qZ h b mtO l c) (h2:qZ h b mtO l' c'):l = l'/\c = c':=qsw (.inl rfl) (.inr rfl) h1 h2
theorem qtv {h:Hp} {b:Nat} {l l':List ME} {c c':Nat} (h1:qZ h b mtI l c) (h2:qZ h b mtI l' c'):l = l'/\c = c':=qsw (.inr rfl) (.inr rfl) h1 h2
theorem qbU {h:Hp} {v:Value} {cl cl':Cl} (h1:qj h v cl) (h2:qj h v cl'):cl' = cl:=by
 obtain ⟨b,l,c,rfl,hm,hi,_,hn,_⟩:=h1
 obtain ⟨b2,l2,c2,e,hm2,hi2,_,hn2,_⟩:=h2
 simp only [Value.map.injEq,jaa] at e
 subst e
 obtain ⟨rfl,rfl⟩:=qks hm hm2
 funext o i
 by_cases ho:∃ x ∈ l,x.k = o
 ·obtain ⟨x,hx,rfl⟩:=ho
  obtain ⟨b',m,c',e1,_,e2,e3⟩:=hi x hx
  obtain ⟨b2',m2,c2',e1',_,e2',e3'⟩:=hi2 x hx
  rw [e1] at e1'
  simp only [jb2,Value.map.injEq,jaa,and_true] at e1'
  subst e1'
  obtain ⟨rfl,_⟩:=qtv e2 e2'
  rw [e3,e3']
 ·have:∀ x ∈ l,x.k ≠ o:=fun x hx he=>ho ⟨x,hx,he⟩
  rw [hn o i this,hn2 o i this]
theorem qct {h h':Hp} {b:Nat} {mt:MT} {l:List ME} {c:Nat} (hm:qZ h b mt l c) (hl:Hp.le h h'):qZ h' b mt l c:=⟨hl _ _ hm.1,hm.2⟩
theorem qht {h h':Hp} {v:Value} {cl:Cl} (hc:qj h v cl) (hl:Hp.le h h'):qj h' v cl:=by
 obtain ⟨b,l,c,e,hm,hi,hr⟩:=hc
 exact ⟨b,l,c,e,qct hm hl,fun x hx=>by
  obtain ⟨b',m,c',e1,e2,e3,e4⟩:=hi x hx
  exact ⟨b',m,c',e1,e2,qct e3 hl,e4⟩,hr⟩
theorem quZ {l:List ME} {k:List Int}:qbt l k = true↔∃ x ∈ l,x.k = k:=by
 unfold qbt
 rw [jc0]
 exact ⟨fun ⟨x,h1,h2⟩=>⟨x,h1,by simpa using h2⟩,fun ⟨x,h1,h2⟩=>⟨x,h1,by simpa using h2⟩⟩
theorem qhV {l:List ME} {k:List Int} (h:qbt l k = false):∀ x ∈ l,x.k ≠ k:=fun x hx he=>by
 rw [quZ.2 ⟨x,hx,he⟩] at h; cases h
theorem qwg {m:List ME} {i i' t:Int} {c:Nat}:qbk (qbz m [i] [.int .u64 t] c).1 i' = if i' = i then some t else qbk m i':=by
 unfold qbz
 by_cases h:qbt m [i] = true
 ·rw [jah h]
  unfold qbk
  simp only
  rw [List.find?_map]
  have hp:((fun x:ME=>x.k == [i']) ∘ fun x:ME=>if x.k = [i] then { x with v:=[.int .u64 t] } else x) = fun x:ME=>x.k == [i']:=by
   funext x
   simp only [Function.comp]
   split <;> rfl
  rw [hp,Option.map_map]
  by_cases hi:i' = i
  ·subst hi
   rw [jah rfl]
   obtain ⟨x,hx,hk⟩:=quZ.1 h
   cases hf:m.find? fun x=>x.k == [i'] with
   | none =>
    rw [jdr] at hf
    exact absurd (by simpa using hk) (hf x hx)
   | some y =>
    have hy:=List.find?_some hf
    simp only [beq_iff_eq] at hy
    simp [hy,qS]
  ·rw [jaf hi]
   cases hf:m.find? fun x=>x.k == [i'] with
   | none=>rfl
   | some y =>
    have hy:=List.find?_some hf
    simp only [beq_iff_eq] at hy
    have:y.k ≠ [i]:=by rw [hy]; simp [hi]
    simp [this]
 ·rw [jaf h]
  have hn:=qhV (by simpa using h)
  unfold qbk
  simp only
  rw [List.find?_append]
  by_cases hi:i' = i
  ·subst hi
   rw [jah rfl]
   have:m.find? (fun x=>x.k == [i']) = none:=by
    rw [jdr]
    intro x hx hk
    exact hn x hx (by simpa using hk)
   rw [this]; simp [qS]
  ·rw [jaf hi]
   have:([⟨[i],[.int .u64 t],c⟩]:List ME).find? (fun x=>x.k == [i']) = none:=by
    simp [Ne.symm hi]
   rw [this,jfy]
theorem qhZ {i t:Int}:([i]:List Int).length = mtI.kks.length/\qt mtI.vpat [.int .u64 t]:=⟨rfl,rfl,fun c k v hk hv=>by
 cases c with
 | zero=>simp only [mtI,jat,jaa] at hk hv; subst hk hv; rfl
 | succ c=>simp [mtI] at hk⟩
theorem qjm {h:Hp} {b x:Nat} {X:Obj} (hne:x ≠ b):Hp.upd h b X x = h x:=by unfold Hp.upd; rw [jaf hne]
theorem qbh {h:Hp} {b:Nat} {X:Obj}:Hp.upd h b X b = some X:=by unfold Hp.upd; rw [jah rfl]
theorem qY {h:Hp} {b x:Nat} {X:Obj} {mt:MT} {l:List ME} {c:Nat} (hne:x ≠ b) (hm:qZ h x mt l c):qZ (Hp.upd h b X) x mt l c:=⟨by rw [qjm hne]; exact hm.1,hm.2⟩
theorem q56 {h:Hp} {b b' c c':Nat} {l m:List ME} {x:ME} {cl:Cl} {i t:Int} (hm:qZ h b mtO l c) (hi:∀ x ∈ l,∃ b' m c',x.v = [.map (some b')]/\b' ≠ b/\qZ h b' mtI m c'/\∀ i,cl x.k i = qbk m i) (hd:∀ x ∈ l,∀ y ∈ l,x.k ≠ y.k->x.v ≠ y.v) (hn:∀ o i,(∀ x ∈ l,x.k ≠ o)->cl o i = none)
  (hr:∀ o i t,cl o i = some t->0 <= i/\i < 16/\0 <= t/\t < 18446744073709551616) (hx:x ∈ l) (hb:x.v = [.map (some b')]) (hI:qZ h b' mtI m c') (i0:0 <= i) (i1:i < 16) (t0:0 <= t) (t1:t < 18446744073709551616) :
  qj (Hp.upd h b' (mtI.obj (qbz m [i] [.int .u64 t] c'))) (.map (some b)) (qcS cl x.k i t):=by
 obtain ⟨b2,m2,c2,e1,e2,e3,e4⟩:=hi x hx
 rw [hb] at e1
 simp only [jb2,Value.map.injEq,jaa,and_true] at e1
 subst e1
 obtain ⟨rfl,rfl⟩:=qtv hI e3
 have hF:∀ o' i',qcS cl x.k i t o' i' = if o' = x.k/\i' = i then some t else cl o' i':=fun o' i'=>by unfold qcS; rw [jah ⟨i0,i1⟩]
 refine ⟨b,l,c,rfl,qY (Ne.symm e2) hm,fun y hy=>?_,hd,fun o' i' ho=>?_,fun o' i' t' ht=>?_⟩
 ·by_cases hk:y.k = x.k
  ·have hvv:y.v = [.map (some b')]:=by
    obtain ⟨jx,hjx⟩:=ja8 hx
    obtain ⟨jy,hjy⟩:=ja8 hy
    have hj:=qfY hm.2 hjy hjx hk
    rw [hj,hjx] at hjy
    rw [<- jaz hjy]; exact hb
   refine ⟨b',(qbz m [i] [.int .u64 t] c').1,(qbz m [i] [.int .u64 t] c').2,hvv,e2,⟨qbh,qmM hI.2 (qhZ (i:=i) (t:=t)).1 (qhZ (i:=i) (t:=t)).2⟩,fun i'=>?_⟩
   rw [hF,qwg,hk,e4]
   by_cases hii:i' = i
   ·simp [hii]
   ·simp [hii]
  ·obtain ⟨b3,m3,c3,f1,f2,f3,f4⟩:=hi y hy
   have hne:b3 ≠ b':=fun he=>hd y hy x hx hk (by rw [f1,hb,he])
   refine ⟨b3,m3,c3,f1,f2,qY hne f3,fun i'=>?_⟩
   rw [hF,jaf (fun h=>hk h.1),f4]
 ·rw [hF,jaf (fun h=>ho x hx h.1.symm),hn o' i' ho]
 ·rw [hF] at ht
  split at ht
  ·rename_i he
   obtain rfl:=jaz ht
   exact ⟨by omega,by omega,t0,t1⟩
  ·exact hr _ _ _ ht
theorem q3X {h:Hp} {b b' c:Nat} {l:List ME} {cl:Cl} {o:List Int} {i t:Int} (hm:qZ h b mtO l c) (hi:∀ x ∈ l,∃ b' m c',x.v = [.map (some b')]/\b' ≠ b/\qZ h b' mtI m c'/\∀ i,cl x.k i = qbk m i) (hd:∀ x ∈ l,∀ y ∈ l,x.k ≠ y.k->x.v ≠ y.v) (hn:∀ o i,(∀ x ∈ l,x.k ≠ o)->cl o i = none)
  (hr:∀ o i t,cl o i = some t->0 <= i/\i < 16/\0 <= t/\t < 18446744073709551616) (ho:qbt l o = false) (hol:o.length = 32) (hbb:b' ≠ b) (hfree:∀ x ∈ l,x.v ≠ [.map (some b')]) (i0:0 <= i) (i1:i < 16) (t0:0 <= t) (t1:t < 18446744073709551616) :
  qj (Hp.upd (Hp.upd h b (mtO.obj (qbz l o [.map (some b')] c))) b' (mtI.obj (qbz [] [i] [.int .u64 t] 0))) (.map (some b)) (qcS cl o i t):=by
 have hF:∀ o' i',qcS cl o i t o' i' = if o' = o/\i' = i then some t else cl o' i':=fun o' i'=>by unfold qcS; rw [jah ⟨i0,i1⟩]
 have hput:qbz l o [.map (some b')] c = (l ++ [⟨o,[.map (some b')],c⟩],c + 1):=by unfold qbz; rw [jaf (by rw [ho]; simp)]
 have hfit:qt mtO.vpat [.map (some b')]:=⟨rfl,fun c k v hk hv=>by
  cases c with
  | zero=>simp only [mtO,jat,jaa] at hk hv; subst hk hv; rfl
  | succ c=>simp [mtO] at hk⟩
 have hno:=qhV ho
 refine ⟨b,(qbz l o [.map (some b')] c).1,(qbz l o [.map (some b')] c).2,rfl,⟨by rw [qjm (Ne.symm hbb)]; exact qbh,qmM hm.2 (by rw [hol]; rfl) hfit⟩,fun y hy=>?_,fun x hx y hy hk=>?_,fun o' i' ho'=>?_,fun o' i' t' ht=>?_⟩
 ·rw [hput] at hy
  rcases jas.1 hy with hy | hy
  ·obtain ⟨b3,m3,c3,f1,f2,f3,f4⟩:=hi y hy
   have hne:b3 ≠ b':=fun he=>hfree y hy (by rw [f1,he])
   refine ⟨b3,m3,c3,f1,f2,qY hne (qY f2 f3),fun i'=>?_⟩
   rw [hF,jaf (fun h=>hno y hy h.1),f4]
  ·rw [jaj] at hy
   subst hy
   refine ⟨b',(qbz [] [i] [.int .u64 t] 0).1,(qbz [] [i] [.int .u64 t] 0).2,rfl,hbb,⟨qbh,qmM (c:=0) (l:=[]) ⟨fun x hx=>(by cases hx),List.Pairwise.nil⟩ (qhZ (i:=i) (t:=t)).1 (qhZ (i:=i) (t:=t)).2⟩,fun i'=>?_⟩
   rw [hF,qwg,hn o i' hno]
   by_cases hii:i' = i
   ·simp [hii]
   ·simp [hii,qbk]
 ·rw [hput] at hx hy
  rcases jas.1 hx with hx | hx <;> rcases jas.1 hy with hy | hy
  ·exact hd x hx y hy hk
  ·rw [jaj] at hy; subst hy; exact hfree x hx
  ·rw [jaj] at hx; subst hx; exact (hfree y hy).symm
  ·rw [jaj] at hx hy; subst hx hy; exact absurd rfl hk
 ·rw [hput] at ho'
  rw [hF,jaf (fun h=>ho' _ (jck _ (jaj.2 rfl)) h.1.symm),hn o' i' fun x hx=>ho' x (jbn _ hx)]
 ·rw [hF] at ht
  split at ht
  ·obtain rfl:=jaz ht
   rename_i he
   exact ⟨by omega,by omega,t0,t1⟩
  ·exact hr _ _ _ ht
theorem qeY {m:List ME} {c:Nat} (hM:MWf mtI m c) {e:ME} (he:e ∈ m):∃ z,e.k = [z]:=qjl (hM.1 e he).1
theorem ql6 {m:List ME} {i t:Int} (h:qbk m i = some t):∃ e ∈ m,e.k = [i]/\qS (e.v.headD .nilFunc) = t:=by
 unfold qbk at h
 obtain ⟨e,he,rfl⟩:=jai.1 h
 exact ⟨e,jeo he,by simpa using List.find?_some he,rfl⟩
theorem qe6 {m:List ME} {c:Nat} (hM:MWf mtI m c) {e:ME} (he:e ∈ m) {z:Int} (hk:e.k = [z]):qbk m z = some (qS (e.v.headD .nilFunc)):=by
 unfold qbk
 cases hf:m.find? fun x=>x.k == [z] with
 | none =>
  rw [jdr] at hf
  exact absurd (by simpa using hk) (hf e he)
 | some y =>
  have hy:y.k = [z]:=by simpa using List.find?_some hf
  obtain ⟨j,hj⟩:=ja8 he
  obtain ⟨j',hj'⟩:=ja8 (jeo hf)
  have hjj:=qfY hM hj hj' (hk.trans hy.symm)
  rw [hjj,hj'] at hj
  rw [jaz hj]; rfl
theorem quL {m:List ME} {c:Nat} {cl:Cl} {o:List Int} {s t:Int} {L Hs:List Int} (hM:MWf mtI m c) (he:∀ i,cl o i = qbk m i) (hr:∀ o i t,cl o i = some t->0 <= i/\i < 16/\0 <= t/\t < 18446744073709551616):m.any (qiV o s t L Hs) = qcd cl o s t L Hs:=by
 apply jfc.2
 unfold qcd
 rw [jc0,jc0]
 constructor
 ·rintro ⟨e,hem,hb⟩
  obtain ⟨z,hz⟩:=qeY hM hem
  have hg:=qe6 hM hem hz
  have hc:=(he z).trans hg
  obtain ⟨z0,z1,_⟩:=hr _ _ _ hc
  refine ⟨z.toNat,jb5.2 (by omega),?_⟩
  rw [ja6 z0,hc]
  unfold qiV at hb
  rw [hz] at hb
  exact hb
 ·rintro ⟨i,hi,hb⟩
  cases hc:cl o i with
  | none=>rw [hc] at hb; cases hb
  | some tt =>
   rw [hc] at hb
   obtain ⟨e,hem,hk,hv⟩:=ql6 ((he i).symm.trans hc)
   refine ⟨e,hem,?_⟩
   unfold qiV
   rw [hk,hv]
   exact hb
theorem qeu {h:Hp} {v:Value} {cl:Cl} {bi:Nat} {mo:Option Nat} {since st:Nat} {seen:Array Nat} {X:Obj} (hc:qj h v cl) (hb:h bi = some (.mapIter mo since seen st)):qj (Hp.upd h bi X) v cl:=by
 have hne:∀ {b:Nat} {mt:MT} {l:List ME} {c:Nat},qZ h b mt l c->b ≠ bi:=fun hm he=>by
  rw [he] at hm
  have:=hm.1.symm.trans hb
  simp [MT.obj] at this
 obtain ⟨b,l,c,e,hm,hi,hr⟩:=hc
 exact ⟨b,l,c,e,qY (hne hm) hm,fun x hx=>by
  obtain ⟨b',m,c',e1,e2,e3,e4⟩:=hi x hx
  exact ⟨b',m,c',e1,e2,qY (hne e3) e3,e4⟩,hr⟩
theorem q45 {m:List ME} {c:Nat} (hM:MWf mtI m c) {e:ME} (he:e ∈ m) {seen:List Nat} {p:ME->Bool}:((m.filter fun y=>(seen ++ [e.born]).contains y.born).any p) = ((m.filter fun y=>seen.contains y.born).any p || p e):=by
 apply jfc.2
 rw [jcw,jc0,jc0]
 constructor
 ·rintro ⟨y,hy,hp⟩
  rw [jb4] at hy
  obtain ⟨hy1,hy2⟩:=hy
  simp only [List.contains_eq_mem,jas,jaj,jbc] at hy2
  rcases hy2 with h | h
  ·exact .inl ⟨y,jb4.2 ⟨hy1,by simpa using h⟩,hp⟩
  ·right
   have:y = e:=by
    obtain ⟨i,hi⟩:=ja8 hy1
    obtain ⟨j,hj⟩:=ja8 he
    have hij:i = j:=born_get hM hi hj h
    rw [hij,hj] at hi
    exact (jaz hi).symm
   rw [<- this]; exact hp
 ·rintro (⟨y,hy,hp⟩ | hp)
  ·rw [jb4] at hy
   exact ⟨y,jb4.2 ⟨hy.1,by have:=hy.2; simp only [List.contains_eq_mem,jbc] at this; simp [this]⟩,hp⟩
  ·exact ⟨e,jb4.2 ⟨he,by simp⟩,hp⟩
where
 born_get {m:List ME} {c:Nat} (hM:MWf mtI m c) {i j:Nat} {x y:ME} (hi:m[i]? = some x) (hj:m[j]? = some y) (h:x.born = y.born):i = j:=by
  have hp:=jdy.1 hM.2
  obtain ⟨h1,e1⟩:=jam.1 hi
  obtain ⟨h2,e2⟩:=jam.1 hj
  rcases jea i j with hlt | heq | hlt
  ·have:=(hp i j h1 h2 hlt).1; rw [e1,e2] at this; omega
  ·exact heq
  ·have:=(hp j i h2 h1 hlt).1; rw [e1,e2] at this; omega
theorem qgm {h:Hp} {it:Value} {bi b since st c:Nat} {seen:List Nat} {m:List ME} (hit:it = .pointer (some ⟨bi,0,none⟩)) (hb:h bi = some (.mapIter (some b) since seen.toArray st)) (hM:qZ h b mtI m c):qbo h it = (m.filter fun y=>!(seen.contains y.born)).length:=by
 subst hit
 unfold qbo
 simp only [hb,hM.1,MT.obj,jcc,List.contains_toArray]
 rw [List.filter_map,ja0]
 rfl
theorem qg3 {m:List ME} {e:ME} (he:e ∈ m) {seen:List Nat} (hn:¬ e.born ∈ seen):(m.filter fun y=>!((seen ++ [e.born]).contains y.born)).length < (m.filter fun y=>!(seen.contains y.born)).length:=by
 have h1:(m.filter fun y=>!((seen ++ [e.born]).contains y.born)) = ((m.filter fun y=>!(seen.contains y.born)).filter fun y=>!((seen ++ [e.born]).contains y.born)):=by
  rw [List.filter_filter]
  refine jfs fun y hy=>?_
  by_cases hs:y.born ∈ seen <;> simp [hs]
 rw [h1]
 refine List.length_filter_lt_length_iff_exists.2 ⟨e,jb4.2 ⟨he,by simp [hn]⟩,by simp⟩
section
variable {h0 H:Hp} {v it:Value} {o:List Int} {s t:Int} {L Hs:List Int} {cl:Cl}
theorem qsM {bi:Nat} (hc:qj h0 v cl) (hno:∀ i,cl o i = none) (hle:Hp.le h0 H) (hit:it = .pointer (some ⟨bi,0,none⟩)) (hb:H bi = some (.mapIter none 0 #[] 0)):qqZ h0 H v it o s t L Hs false:=fun cl' h'=>by
 rw [qbU hc h']
 exact ⟨qht hc hle,[],[],⟨bi,none,0,0,hit,hb,.inl ⟨rfl,rfl⟩⟩,fun i=>by rw [hno]; rfl,rfl⟩
theorem qta {bi b c:Nat} {m:List ME} (hc:qj h0 v cl) (hm:qZ h0 b mtI m c) (he:∀ i,cl o i = qbk m i) (hle:Hp.le h0 H) (hit:it = .pointer (some ⟨bi,0,none⟩)) (hb:H bi = some (.mapIter (some b) c #[] c)):qqZ h0 H v it o s t L Hs false:=fun cl' h'=>by
 rw [qbU hc h']
 have hmH:=qct hm hle
 have hne:bi ≠ b:=fun e=>by
  rw [e] at hb
  have:=hmH.1.symm.trans hb
  simp [MT.obj] at this
 refine ⟨qht hc hle,m,[],⟨bi,some b,c,c,hit,hb,.inr ⟨b,c,rfl,hne,hmH,ja1 _,.inl rfl,fun n hn=>by cases hn⟩⟩,he,?_⟩
 have:(m.filter fun e=>([]:List Nat).contains e.born) = []:=by simp
 rw [this]; rfl
theorem q7u {bi b since st c:Nat} {m:List ME} {seen:List Nat} {e:ME} {x y:Bool} (hc:qj h0 v cl) (hcH:qj H v cl) (hit:it = .pointer (some ⟨bi,0,none⟩)) (hb:H bi = some (.mapIter (some b) since seen.toArray st)) (hne:bi ≠ b) (hm:qZ H b mtI m c) (hcs:c <= since) (hseen:∀ n ∈ seen,∃ e ∈ m,e.born = n)
  (he:∀ i,cl o i = qbk m i) (hem:e ∈ m) (hx:x = (m.filter fun e=>seen.contains e.born).any (qiV o s t L Hs)) (hy:y = (x || qiV o s t L Hs e)):qqZ h0 (Hp.upd H bi (.mapIter (some b) since (seen ++ [e.born]).toArray c)) v it o s t L Hs y:=fun cl' h'=>by
 rw [qbU hc h']
 refine ⟨qeu hcH hb,m,seen ++ [e.born],⟨bi,some b,since,c,hit,qbh,.inr ⟨b,c,rfl,hne,qY (Ne.symm hne) hm,hcs,.inr (.inr ⟨e,hem,(hm.2.1 e hem).2.2⟩),fun n hn=>?_⟩⟩,he,?_⟩
 ·rcases jas.1 hn with h | h
  ·exact hseen n h
  ·rw [jaj] at h; exact ⟨e,hem,h.symm⟩
 ·rw [q45 hm.2 hem,<- hx,hy]
theorem q3h {since c:Nat} {m:List ME} {seen:List Nat} {x:Bool} (hM:MWf mtI m c) (hc:qj h0 v cl) (hcH:qj H v cl) (hcs:c <= since) (he:∀ i,cl o i = qbk m i) (hx:x = (m.filter fun e=>seen.contains e.born).any (qiV o s t L Hs)) (hall:∀ e ∈ m,e.born < since->e.born ∈ seen) :
  ∀ cl',qj h0 v cl'->qj H v cl'/\x = qcd cl' o s t L Hs:=fun cl' h'=>by
 rw [qbU hc h']
 refine ⟨hcH,?_⟩
 have hf:(m.filter fun e=>seen.contains e.born) = m:=jd3.2 fun e hem=>by
  have:=hall e hem (by have:=(hM.1 e hem).2.2; omega)
  simpa using this
 obtain ⟨b,l,c0,rfl,_,_,_,_,hr⟩:=hc
 rw [hf] at hx
 rw [hx]; exact quL hM he hr
end
set_option maxRecDepth 20000
theorem qu0:qgG.ok Tryz.prog:=q5q (by simp) fun Z hg hp=>by
 simp (config:={ maxSteps:=4000000 }) [qxN,qgG]
 intro u _ v _ b hv hu
 exact ⟨b,[],0,hv,⟨by rw [hu]; simp [Hp.one,MT.obj],fun x hx=>(by cases hx),List.Pairwise.nil⟩,fun x hx=>(by cases hx),fun x hx=>(by cases hx),fun _ _ _=>rfl,fun _ _ _ h=>(by cases h)⟩
theorem q1B:qow.ok Tryz.prog:=q8D (by simp) fun Z hg hp=>by
 obtain ⟨h0,h1,h2,h3⟩:=hp
 simp (config:={ maxSteps:=4000000 }) [q6g,qow]
 have hu:(Z 0).i <= (Z 1).i->qe .sub .u64 (Z 1).i (Z 0).i = (Z 1).i - (Z 0).i:=fun h=>by
  show IntKind.wrap .u64 _ = _
  rw [qj4]; omega
 refine ⟨fun h=>?_,fun h=>?_⟩
 ·rw [hu h]; unfold qcl; rw [jda h,jef]; rfl
 ·unfold qcl; rw [jdw (by omega),jfz]
theorem qk5 (d:qf):[qa d 0,qa d 1,qa d 2,qa d 3,qa d 4,qa d 5,qa d 6,qa d 7,qa d 8,qa d 9,qa d 10,qa d 11,qa d 12,qa d 13,qa d 14,qa d 15,qa d 16,qa d 17,qa d 18,qa d 19,qa d 20,qa d 21,qa d 22,qa d 23,qa d 24,qa d 25,qa d 26,qa d 27,qa d 28,qa d 29,qa d 30,qa d 31] = qd d 32:=rfl
theorem qkD:(⟨true,[.u8,.u8,.u8,.u8,.u8,.u8,.u8,.u8,.u8,.u8,.u8,.u8,.u8,.u8,.u8,.u8,.u8,.u8,.u8,.u8,.u8,.u8,.u8,.u8,.u8,.u8,.u8,.u8,.u8,.u8,.u8,.u8],false,[.any],[.vnilm]⟩:MT) = mtO:=rfl
theorem qjD:(⟨false,[.i64],false,[.int .u64],[.vint .u64 (.lit 0)]⟩:MT) = mtI:=rfl
theorem qtt (Z:Env):List.map (fun t=>(T.den Z t).v) mtO.zero = [.map none]:=rfl
theorem qtl (Z:Env):List.map (fun t=>(T.den Z t).v) mtI.zero = [.int .u64 0]:=rfl
theorem qie (row:List Value):qG [row] 0 0 = row.headD .nilFunc:=by cases row <;> rfl
theorem qos {l:List ME} {k:List Int} {z:List Value} (h:qbt l k = true):∃ x ∈ l,x.k = k/\qck l k z = x.v:=by
 obtain ⟨j,x,hj,hk,_,hg⟩:=qfs (mt:=mtO) (i:=0) h
 exact ⟨x,jbg hj,hk,hg z⟩
theorem q4o {cl:Cl} {o:List Int} {i t:Int} (h:qpk i = false):qcS cl o i t = cl:=by
 unfold qcS
 rw [jaf (jds h)]
theorem q3J {l:List ME} {k:List Int} {v z:List Value} {c:Nat} (h:qbt l k = false):qck (qbz l k v c).1 k z = v:=by
 have hn:=qhV h
 unfold qbz
 rw [jaf (by rw [h]; simp)]
 unfold qck
 simp only
 rw [List.find?_append]
 have:l.find? (fun x=>x.k == k) = none:=by
  rw [jdr]
  intro x hx hk
  exact hn x hx (by simpa using hk)
 rw [this]; simp
theorem qbv {Z:Env} {l:List SH} {H:Hp} (n t:Nat) (hs:qac Z l H) (hm:SH.abs n t ∈ l):Hp.le (Z n).h H:=by
 obtain ⟨hb,lb,db⟩:=qcf hs hm
 exact Hp.le_trans db lb
theorem qql {Z:Env} {n m t t':Nat} {H:Hp} (hs:qac Z [SH.abs n t,SH.abs m t'] H):Hp.disj (Z n).h (Z m).h:=by
 obtain ⟨h1,h2,hd,hu,hx,h3,h4,hd2,hu2,hy,_⟩:=hs
 intro b
 cases hb1:(Z n).h b with
 | none=>exact .inl rfl
 | some X =>
  cases hb2:(Z m).h b with
  | none=>exact .inr rfl
  | some Y =>
   have e1:=hx.1 b X hb1
   have e2:=hy.1 b Y hb2
   have e3:h2 b = some Y:=by rw [hu2]; simp [Hp.union,e2]
   rcases hd b with h | h
   ·rw [e1] at h; cases h
   ·rw [e3] at h; cases h
theorem q71 {b:Nat}:qt mtO.vpat [.map (some b)]:=⟨rfl,fun c k v hk hv=>by
 cases c with
 | zero=>simp only [mtO,jat,jaa] at hk hv; subst hk hv; rfl
 | succ c=>simp [mtO] at hk⟩
theorem qyv:qik.ok Tryz.prog:=q6Q (by simp [qrm]) fun Z hg hp=>by
 obtain ⟨⟨cl,hcl⟩,h0,h1⟩:=hp
 have hcl0:=hcl
 simp (config:={ maxSteps:=4000000 }) [q1n,qik,qfh,qk5,qkD,qjD,qie,qc,qtt,qtl]
 obtain ⟨b,l,c,hv,hm,hi,hd,hn,hr⟩:=hcl
 intro u _ p _ hp
 refine ⟨fun hpf cl' h'=>by rw [q4o (hp ▸ hpf)]; exact h',fun hpt=>⟨l,.inr ⟨b,hv,c,hm⟩,?_⟩⟩
 have hpp:0 <= (Z 2).i/\(Z 2).i < 16:=jbf (hp ▸ hpt:qpk (Z 2).i = true)
 cases hh:qbt l (qd (Z 1).d 32) with
 | false =>
  refine .inl ⟨by rw [qiq hh]; rfl,fun m _ v _ b' hvv hmh H _ hst=>?_⟩
  obtain ⟨hA,lA,dA⟩:=qcf hst (n:=10) (t:=1003) (by simp)
  obtain ⟨hB,lB,dB⟩:=qcf hst (n:=5) (t:=1003) (by simp)
  have hle:Hp.le (Z 5).h H.h:=by
   have h:=qbv 5 1003 hst (by simp)
   simpa using h
  have hone:H.h b' = some (.map #[] 0):=by
   have h:=qbv 10 1003 hst (by simp)
   have h:Hp.le m.h H.h:=by simpa using h
   exact h b' _ (by rw [hmh]; simp [Hp.one])
  have hnew:∀ X,(Z 5).h b' = some X->False:=by
   intro X hX
   have h:=qql hst
   have h:Hp.disj m.h (Z 5).h:=by simpa using h
   rcases h b' with h | h
   ·rw [hmh] at h; simp [Hp.one] at h
   ·rw [hX] at h; cases h
  have hbb:b' ≠ b:=fun he=>hnew _ (by rw [he]; exact hm.1)
  have hfree:∀ x ∈ l,x.v ≠ [.map (some b')]:=fun x hx he=>by
   obtain ⟨b3,m3,c3,f1,f2,f3,f4⟩:=hi x hx
   rw [he] at f1
   simp only [jb2,Value.map.injEq,jaa,and_true] at f1
   exact hnew _ (by rw [f1]; exact f3.1)
  have hmH:=qct hm hle
  have hiH:∀ x ∈ l,∃ b' m c',x.v = [.map (some b')]/\b' ≠ b/\qZ H.h b' mtI m c'/\∀ i,cl x.k i = qbk m i:=fun x hx=>by
   obtain ⟨b3,m3,c3,f1,f2,f3,f4⟩:=hi x hx
   exact ⟨b3,m3,c3,f1,f2,qct f3 hle,f4⟩
  have hput:=q3J (z:=[.map none]) (v:=[v.v]) (c:=c) hh
  have hfit:qt mtO.vpat [v.v]:=by rw [hvv]; exact q71
  refine ⟨b,hv,l,c,hmH,fun u4 _ h4=>⟨(qbz l (qd (Z 1).d 32) [v.v] c).1,.inr ⟨b,hv,(qbz l (qd (Z 1).d 32) [v.v] c).2,⟨by rw [h4]; exact qbh,qmM hm.2 (by simp [qd,mtO]) hfit⟩⟩,b',by rw [hput,hvv]; rfl,[],0,⟨by rw [h4,qjm hbb,hone]; rfl,fun x hx=>(by cases hx),List.Pairwise.nil⟩,fun u5 _ h5 cl' h'=>?_⟩⟩
  rw [qbU hcl0 h',h5,hv,h4,hvv]
  exact q3X hmH hiH hd hn hr hh (by simp [qd]) hbb hfree hpp.1 hpp.2 h0 h1
 | true =>
  obtain ⟨x,hx,hk,hgx⟩:=qos (z:=[.map none]) hh
  obtain ⟨b',m,c',e1,e2,e3,e4⟩:=hi x hx
  refine .inr ⟨⟨b',by rw [hgx,e1]; rfl⟩,l,.inr ⟨b,hv,c,hm⟩,b',by rw [hgx,e1]; rfl,m,c',e3,fun u5 _ h5 cl' h'=>?_⟩
  rw [qbU hcl0 h',h5,hv,<- hk]
  exact q56 hm hi hd hn hr hx e1 e3 hpp.1 hpp.2 h0 h1
theorem qp2:qdF.ok Tryz.prog:=qzk (by simp [q1O,q1B,qrB]) fun Z hg hp=>by
 obtain ⟨⟨cl,hcl⟩,hO,⟨hl,h1,hr⟩,⟨hl2,h12,hr2⟩,⟨hGr,hGd⟩,t0,t1⟩:=hp
 simp only [Nat.reduceAdd] at hl h1 hr hl2 h12 hr2
 have hcl0:=hcl
 simp (config:={ maxSteps:=4000000 }) [qrD,qdF,qtx,qi8,qow,qdR,qbL,qay,gOk,qk5,qkD,qjD,qie,qc,qtt,qtl,hl,hl2,hO,hGr,hGd]
 obtain ⟨b,l,c,hv,hm,hi,hd,hn,hrr⟩:=hcl
 repeat' (first | with_reducible apply And.intro | with_reducible intro _)
 all_goals first
  | omega
  | exact qji (by assumption) (by assumption)
  | skip
 refine ⟨l,.inr ⟨b,hv,c,hm⟩,?_⟩
 have hstart:∃ (mo:Option Nat) (clock:Nat),((qck l (qd (Z 1).d 32) [Value.map none]).head?.getD .nilFunc = .map none/\mo = none/\clock = 0∨∃ b:Nat,(qck l (qd (Z 1).d 32) [Value.map none]).head?.getD .nilFunc = .map (some b)/\mo = some b/\∃ l,qZ (Z 5).h b mtI l clock)/\∀ (H:Hp) (bi:Nat) (it:Value),Hp.le (Z 5).h H->it = .pointer (some ⟨bi,0,none⟩)->H bi = some (.mapIter mo clock #[] clock)->qqZ (Z 5).h H (Z 4).v it (qd (Z 1).d 32) (Z 2).i (Z 3).i (qk (Z 9).d) (qk (Z 14).d) false:=by
  cases hh:qbt l (qd (Z 1).d 32) with
  | false =>
   have hg0:=qiq (z:=[.map none]) hh
   exact ⟨none,0,.inl ⟨by rw [hg0]; rfl,rfl,rfl⟩,fun H bi it hle hit hb=>qsM hcl0 (fun i=>hn _ _ (qhV hh)) hle hit hb⟩
  | true =>
   obtain ⟨x,hx,hk,hgx⟩:=qos (z:=[.map none]) hh
   obtain ⟨b',m,c',e1,e2,e3,e4⟩:=hi x hx
   exact ⟨some b',c',.inr ⟨b',by rw [hgx,e1]; rfl,rfl,m,e3⟩,fun H bi it hle hit hb=>qta hcl0 e3 (fun i=>by rw [<- hk]; exact e4 i) hle hit hb⟩
 obtain ⟨mo,clock,hmo,hst0⟩:=hstart
 refine ⟨mo,clock,hmo,?_⟩
 intro I1 _ I2 _ bi hit hI1 H _ hst
 have hle:Hp.le I1.h H.h/\Hp.le (Z 5).h H.h:=by
  have h1:=qbv 54 1003 hst (by simp)
  have h2:=qbv 5 1003 hst (by simp)
  exact ⟨by simpa using h1,by simpa using h2⟩
 have hbi:H.h bi = some (.mapIter mo clock #[] clock):=hle.1 _ _ (by rw [hI1]; simp [Hp.one])
 refine ⟨⟨qcM (l:=[_,_,_,_,_,_,_,_,_,_,_,_,_,_,_,_]) (by assumption) qdB,qcM (l:=[_,_,_,_,_,_,_,_,_,_,_,_,_,_,_,_]) (by assumption) qdB,hst0 H.h bi I2.v hle.2 hit hbi⟩,?_⟩
 intro F13 _ F14 _ x _ it _ H2 _ hs13 hs14 hB
 obtain ⟨hcH,m,seen,⟨bi2,mo2,since,stp,hit2,hbi2,hmo2⟩,hco,hx⟩:=hB cl hcl0
 refine ⟨bi2,hit2,since,seen,stp,mo2,hbi2,?_⟩
 rcases hmo2 with ⟨rfl,rfl⟩ | ⟨b2,c2,rfl,hne,hM,hcs,hstt,hseen⟩
 ·exact q3h (m:=[]) (c:=0) (since:=0) ⟨fun x hx=>(by cases hx),List.Pairwise.nil⟩ hcl0 hcH (ja1 _) hco hx (fun e he=>by cases he)
 ·refine ⟨m,c2,hM,hstt,fun hall=>q3h hM.2 hcl0 hcH hcs hco hx hall,fun e he hns u2 _ hu2=>⟨bi2,hit2,since,seen,c2,b2,m,e,by rw [hu2]; exact qbh,by rw [hu2]; exact qY (Ne.symm hne) hM,he,?_⟩⟩
  have hbl:∀ y:Bool,y = (x.b || qiV (qd (Z 1).d 32) (Z 2).i (Z 3).i (qk (Z 9).d) (qk (Z 14).d) e)->qqZ (Z 5).h u2.h (Z 4).v it.v (qd (Z 1).d 32) (Z 2).i (Z 3).i (qk (Z 9).d) (qk (Z 14).d) y:=fun y hy=>by
   rw [hu2]; exact q7u hcl0 hcH hit2 hbi2 hne hM hcs hseen hco he hx hy
  have hless:qbo u2.h it.v < qbo H2.h it.v:=by
   rw [qgm (h:=H2.h) hit2 hbi2 hM,qgm (h:=u2.h) (seen:=seen ++ [e.born]) hit2 (by rw [hu2]; exact qbh) (by rw [hu2]; exact qY (Ne.symm hne) hM)]
   exact qg3 he hns
  obtain ⟨z,hz⟩:=qeY hM.2 he
  have hg:=(hco z).trans (qe6 hM.2 he hz)
  obtain ⟨z0,z1,v0,v1⟩:=hrr _ _ _ hg
  have hcv:qa [e.v] 0 = qS (e.v.headD .nilFunc):=by unfold qa; cases e.v <;> rfl
  have hbe:∀ a b c d:Bool,a = qcl (qS (e.v.headD .nilFunc)) (Z 3).i->b = decide (z ∈ qk (Z 9).d)->c = decide (z ∈ qk (Z 14).d)->d = qO (qd (Z 1).d 32) z (Z 2).i->qiV (qd (Z 1).d 32) (Z 2).i (Z 3).i (qk (Z 9).d) (qk (Z 14).d) e = (a && b && !c && d):=by
   intro a b c d ha hb hc hd
   unfold qiV
   rw [hz,ha,hb,hc,hd,jbq]
  have hkx:qa [qN [IntKind.i64] e.k] 0 = z:=by rw [hz]; rfl
  have hkx':qa [qN mtI.kks e.k] 0 = z:=hkx
  rw [hcv,hkx']
  have hB:=fun (r:U) (hr':r.b = qcl (qS (e.v.headD .nilFunc)) (Z 3).i)=>hbe r.b (decide (z ∈ qk (Z 9).d)) (decide (z ∈ qk (Z 14).d)) (qO (qd (Z 1).d 32) z (Z 2).i) hr' rfl rfl rfl
  refine ⟨fun hxt=>⟨⟨hs13,hs14,hbl true (by rw [hxt,Bool.true_or])⟩,hless⟩,fun hxf=>⟨⟨v0,v1,t0,t1⟩,fun r _ hr'=>⟨fun hrt=>⟨z0,z1,qtT hs14,fun hf14=>⟨qtT hs13,fun hf13 w _ hw=>⟨⟨hs13,hs14,hbl w.b ?_⟩,hless⟩,fun hf13=>⟨⟨hs13,hs14,hbl false ?_⟩,hless⟩⟩,fun hf14=>⟨⟨hs13,hs14,hbl false ?_⟩,hless⟩⟩,fun hrf=>⟨⟨hs13,hs14,hbl false ?_⟩,hless⟩⟩⟩⟩
  ·rw [hxf,hB r hr',hrt,jda ((qeA hs14 qdB z0 z1).1 hf14),jdw (qjL hs13 qdB z0 z1 hf13),hw]; generalize qO (qd (Z 1).d 32) z (Z 2).i = q; cases q <;> rfl
  ·rw [hxf,hB r hr',hrt,jda ((qeA hs14 qdB z0 z1).1 hf14),jda ((qeA hs13 qdB z0 z1).1 hf13)]; generalize qO (qd (Z 1).d 32) z (Z 2).i = q; cases q <;> rfl
  ·rw [hxf,hB r hr',hrt,jdw (qjL hs14 qdB z0 z1 hf14)]; generalize qO (qd (Z 1).d 32) z (Z 2).i = q; cases q <;> rfl
  ·rw [hxf,hB r hr',hrf]; generalize qO (qd (Z 1).d 32) z (Z 2).i = q; cases q <;> simp
end Go.Proofs
