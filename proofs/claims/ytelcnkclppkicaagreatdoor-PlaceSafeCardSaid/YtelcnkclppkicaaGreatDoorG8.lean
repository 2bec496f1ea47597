/- Texts PH, PL, PO, PR, PS, QA, QF, PG, PI, PJ, PK, PM, PN, PP, PQ, PT, PU, PV, PY, PZ, QM, QI, QN, QR, RE, RI, PA, PB, PC, PD, PE, P0, P1, PX, PW, QB, QC, QE, QD. -/
import Derived.Test.YtelcnkclppkicaaGreatDoorG7
import Derived.Test.YtelcnkclppkicaaGreatDoorG5
import Derived.Test.YtelcnkclppkicaaGreatDoorProg
import Derived.WalkCall
import Derived.Laws.Externs
import Derived.Lib.Bytealg
import Derived.Lib.BytesEntry
import Derived.Test.YtelcnkclppkicaaGreatDoorG4
import Derived.Shelf.SlSortCmp.NoneTotal
import Derived.Deep.QuietTactic
import Derived.BigQuiet
import Derived.Ground.SlsfProg
import Derived.Test.YtelcnkclppkicaaGreatDoorG3
set_option linter.unusedSimpArgs false
set_option linter.unusedVariables false
namespace Go.Eng
open Go Go.Proofs
def qde (o:List Int) (a b:Int):Int:=if qN o a = qN o b then a - b else qbw (qN o a) (qN o b)
def qmd (o:List Int) (s out:List Int):Prop:=out.Perm s/\out.Pairwise fun a b=>qI o a b = true
def qbM (l:List Int):List Int:=((List.range 16).map fun (i:Nat)=>(i:Int)).filter fun x=>decide (x ∈ l)
end Go.Eng
namespace Go.Proofs
open Go Go.Eng
theorem qfl:∀ {a b:List Int},qbw a b = 0↔a = b
 | [],[]=>by simp [qbw]
 | [],_ :: _=>by simp [qbw]
 | _ :: _,[]=>by simp [qbw]
 | x :: a,y :: b=>by
  unfold qbw
  by_cases h1:x < y
  ·rw [if_pos h1]
   constructor
   ·intro h; omega
   ·intro h; injection h; omega
  ·rw [if_neg h1]
   by_cases h2:y < x
   ·rw [if_pos h2]
    constructor
    ·intro h; omega
    ·intro h; injection h; omega
   ·rw [if_neg h2,qfl]
    have:x = y:=by omega
    subst this
    simp
theorem quk:∀ {a b:List Int},qbw b a = - qbw a b
 | [],[]=>rfl
 | [],_ :: _=>rfl
 | _ :: _,[]=>rfl
 | x :: a,y :: b=>by
  unfold qbw
  by_cases h1:x < y
  ·rw [if_pos h1,if_neg (by omega),if_pos h1]; rfl
  ·by_cases h2:y < x
   ·rw [if_pos h2,if_neg h1,if_pos h2]
   ·rw [if_neg h2,if_neg h1,if_neg h1,if_neg h2]; exact quk
theorem qpl:∀ {a b c:List Int},qbw a b < 0->qbw b c < 0->qbw a c < 0
 | [],[],_,h,_=>by simp [qbw] at h
 | [],_ :: _,[],_,h=>by simp [qbw] at h
 | [],_ :: _,_ :: _,_,_=>by simp [qbw]
 | _ :: _,[],_,h,_=>by simp [qbw] at h
 | _ :: _,_ :: _,[],_,h=>by simp [qbw] at h
 | x :: a,y :: b,z :: c,h1,h2=>by
  unfold qbw at h1 h2 ⊢
  by_cases a1:x < y
  ·by_cases b1:y < z
   ·rw [if_pos (by omega)]; decide
   ·rw [if_neg b1] at h2
    by_cases b2:z < y
    ·rw [if_pos b2] at h2; omega
    ·rw [if_pos (by omega)]; decide
  ·rw [if_neg a1] at h1
   by_cases a2:y < x
   ·rw [if_pos a2] at h1; omega
   ·rw [if_neg a2] at h1
    have e:x = y:=by omega
    subst e
    by_cases b1:x < z
    ·rw [if_pos b1]; decide
    ·rw [if_neg b1] at h2 ⊢
     by_cases b2:z < x
     ·rw [if_pos b2] at h2; omega
     ·rw [if_neg b2] at h2 ⊢
      exact qpl h1 h2
variable {o:List Int} {a b c:Int}
theorem qfa:qI o a b = decide (qde o a b < 0):=by
 unfold qI qde
 by_cases h:qN o a = qN o b
 ·rw [if_pos h,if_pos h]
  exact decide_eq_decide.2 ⟨fun h=>by omega,fun h=>by omega⟩
 ·rw [if_neg h,if_neg h]
theorem qeZ:qde o a b = 0↔a = b:=by
 unfold qde
 by_cases h:qN o a = qN o b
 ·rw [if_pos h]; omega
 ·rw [if_neg h,qfl]
  exact ⟨fun h'=>(h h').elim,fun h'=>by rw [h']⟩
theorem qjG:qde o b a = - qde o a b:=by
 unfold qde
 by_cases h:qN o a = qN o b
 ·rw [if_pos h,if_pos h.symm]; omega
 ·rw [if_neg h,if_neg (fun h'=>h h'.symm),quk]
theorem qkj (h1:qde o a b < 0) (h2:qde o b c < 0):qde o a c < 0:=by
 unfold qde at h1 h2 ⊢
 by_cases e1:qN o a = qN o b
 ·rw [if_pos e1] at h1
  by_cases e2:qN o b = qN o c
  ·rw [if_pos e2] at h2
   rw [if_pos (e1.trans e2)]; omega
  ·rw [if_neg e2] at h2
   rw [if_neg (by rw [e1]; exact e2),e1]; exact h2
 ·rw [if_neg e1] at h1
  by_cases e2:qN o b = qN o c
  ·rw [if_neg (by rw [<- e2]; exact e1),<- e2]; exact h1
  ·rw [if_neg e2] at h2
   have h3:=qpl h1 h2
   by_cases e3:qN o a = qN o c
   ·rw [e3,qfl.2 rfl] at h3; omega
   ·rw [if_neg e3]; exact h3
theorem qlI (h1:qI o a b = true) (h2:qI o b c = true):qI o a c = true:=by
 rw [qfa,decide_eq_true_eq] at h1 h2 ⊢
 exact qkj h1 h2
theorem qox:qI o a a = false:=by
 rw [qfa,qeZ.2 rfl]; rfl
theorem q06 (h:qI o a b = true):qI o b a = false:=by
 rw [qfa,decide_eq_true_eq] at h
 rw [qfa,decide_eq_false_iff_not,qjG]; omega
theorem qlH (h:a ≠ b):qI o a b = true∨qI o b a = true:=by
 rw [qfa,qfa,decide_eq_true_eq,decide_eq_true_eq,qjG (a:=a) (b:=b)]
 have:¬ qde o a b = 0:=fun h'=>h (qeZ.1 h')
 omega
theorem qr0:∀ {l m:List Int},l.Perm m->(l.Pairwise fun a b=>qI o a b = true)->(m.Pairwise fun a b=>qI o a b = true)->l = m
 | [],m,h,_,_=>(List.Perm.nil_eq h)
 | x :: l,[],h,_,_=>by simp at h
 | x :: l,y :: m,h,h1,h2=>by
  rw [List.pairwise_cons] at h1 h2
  have hxy:x = y:=by
   rcases List.mem_cons.1 (h.subset (List.mem_cons_self ..)) with e | e
   ·exact e
   ·rcases List.mem_cons.1 (h.symm.subset (List.mem_cons_self ..)) with e' | e'
    ·exact e'.symm
    ·have a1:=h2.1 x e
     have a2:=h1.1 y e'
     rw [q06 a1] at a2; cases a2
  subst hxy
  rw [qr0 (List.Perm.cons_inv h) h1.2 h2.2]
theorem qvR {s l m:List Int} (h1:qmd o s l) (h2:qmd o s m):l = m:=qr0 (h1.1.trans h2.1.symm) h1.2 h2.2
end Go.Proofs

set_option linter.unusedSimpArgs false
set_option linter.unusedVariables false
namespace Go.Eng
open Go Go.Proofs
def qi6:Ctr:={ fn := 34,nv:=6,args:=[bS 0,iv .i64 (.var 5)],heap:=[],ro:=[qco 0],pre:=fun ρ=>qbf ρ 0,alts:=[{ k:=1,ret:=.one (.vbool (.var 6)),heap:=[],post:=fun ρ=>(ρ 6).b = decide ((ρ 5).i ∈ qu (ρ 3).d) }] }
def q2F:Inv:={ key:=2,nv:=1,env:=[(0,bS 0),(1,iv .i64 (.var 5)),(5,iv .i64 (.var 1000))],heap:=[],inv:=(fun ρ=>0 <= (ρ 1000).i/\(ρ 1000).i <= (ρ 1).i/\(ρ 5).i ∉ (qu (ρ 3).d).take (ρ 1000).i.toNat),mu:=(fun ρ=>((ρ 1).i - (ρ 1000).i).toNat) }
def qgw:Ctr:={ fn := 33,nv:=5,args:=[bS 0],heap:=[],ro:=[qco 0],pre:=fun ρ=>qbf ρ 0,alts:=[{ k:=3,ret:=.one (.vslice 5 (.lit 0) (.var 1) (.var 6) 1),heap:=[iHp 5 7 6],post:=fun ρ=>(ρ 7).d = (ρ 3).d }] }
end Go.Eng

set_option linter.unusedSimpArgs false
set_option linter.unusedVariables false
namespace Go.Eng
open Go Go.Proofs
def qG (L:List Int) (n:Nat):List Int:=((List.range n).map fun (i:Nat)=>(i:Int)).filter fun x=>decide (x ∈ L)
def qe6:Ctr:={ fn := 121,nv:=6,args:=[bS 0,iv .i64 (.var 5)],heap:=[],ro:=[qco 0],pre:=fun ρ=>qbf ρ 0,alts:=[{ k:=1,ret:=iv .i64 (.var 6),heap:=[],post:=fun ρ=>0 <= (ρ 6).i↔(ρ 5).i ∈ qu (ρ 3).d }] }
def qs5:Inv:={ key:=2,nv:=1,env:=[(0,bS 0),(1,iv .i64 (.var 5)),(6,bS 0),(7,iv .i64 (.var 1)),(8,iv .i64 (.var 1000))],heap:=[],inv:=(fun ρ=>0 <= (ρ 1000).i/\(ρ 1000).i <= (ρ 1).i/\(ρ 5).i ∉ (qu (ρ 3).d).take (ρ 1000).i.toNat),mu:=(fun ρ=>((ρ 1).i - (ρ 1000).i).toNat) }
def qaG:Ctr:={ fn := 84,nv:=6,args:=[bS 0,iv .i64 (.var 5)],heap:=[],ro:=[qco 0],pre:=fun ρ=>qbf ρ 0,alts:=[{ k:=1,ret:=.one (.vbool (.var 6)),heap:=[],post:=fun ρ=>(ρ 6).b = decide ((ρ 5).i ∈ qu (ρ 3).d) }] }
end Go.Eng

set_option linter.unusedSimpArgs false
set_option linter.unusedVariables false
namespace Go.Eng
open Go Go.Proofs
def qgS (o:List Int) (self n:Int) (L:List Int):Bool:=decide (1 <= n) && decide (n <= (((qbM L).filter fun i=>qI o i self).length:Int))
def q0y (ρ:Env) (g:Nat):Prop:=qS (qf (ρ 0).d 32)/\qbf ρ 3/\gOk ρ 8 9 g
def qfM:Ctr:={ fn := 37,nv:=10,ip:=[gIp 8],args:=[dgV 0,iv .i64 (.var 1),iv .i64 (.var 2),bS 3],heap:=[],ro:=[qco 3,gHp 8 9],pre:=fun ρ=>q0y ρ gR,alts:=[{ k:=1,ret:=.one (.vbool (.var 10)),heap:=[],post:=fun ρ=>(ρ 10).b = qgS (qf (ρ 0).d 32) (ρ 1).i (ρ 2).i (qu (ρ 6).d) }] }
def qu5:Inv:={ key:=3,nv:=3,env:=[(1,iv .i64 (.var 1)),(2,iv .i64 (.var 2)),(4,.one (.vptr 1000 (.lit 0) 32 0)),(9,iv .i64 (.var 1002)),(13,b16 11),(14,iv .i64 (.var 1001))],heap:=[.cells 1000 24 (qaY .u8 0 32)],inv:=(fun ρ=>0 <= (ρ 1001).i/\(ρ 1001).i <= 16/\(ρ 1002).i = (((qG (qu (ρ 6).d) (ρ 1001).i.toNat).filter fun i=>qI (qf (ρ 0).d 32) i (ρ 1).i).length:Int)),mu:=(fun ρ=>(16 - (ρ 1001).i).toNat) }
end Go.Eng

set_option linter.unusedSimpArgs false
set_option linter.unusedVariables false
namespace Go.Eng
open Go Go.Proofs
def qB (o:List Int) (p:Int):List Value:=.int .i64 p :: (qN o p).map (Value.int .u8)
def qao (o l:List Int):List Int:=l.mergeSort fun a b=>!qI o b a
def qbb (o live:List Int) (n:Int):List Int:=(qao o (qbM live)).take n.toNat
def qdS (d:qd) (n:Int) (l:List Int):Prop:=n = d.length/\qu d = l/\∀ row ∈ d,row.length = 1
def quK (r d c:Nat):SH:=.arr r 153 kRk (.var d) (.var c)
def rkS (r l c:Nat):SV:=.one (.vslice r (.lit 0) (.var l) (.var c) 33)
def qec:Ctr:={ fn := 83,nv:=4,args:=[rkS 0 1 2,.fn (.func 81) [] []],heap:=[quK 0 3 2],ro:=[],pre:=fun ρ=>(ρ 1).i = (ρ 3).d.length/\(ρ 1).i <= 1000000/\∃ o L:List Int,qS o/\(ρ 3).d = L.map (qB o)/\∀ x ∈ L,0 <= x/\x < 16,alts:=[
 { k:=1,ret:=.tup [],heap:=[quK 0 4 2],post:=fun ρ=>∀ o L:List Int,qS o->(ρ 3).d = L.map (qB o)->(∀ x ∈ L,0 <= x/\x < 16)->(ρ 4).d = (qao o L).map (qB o) }] }
def qsv (r:Nat):SH:=.cells r 24 (qaY .u8 0 32)
def qyB (r:Nat):SV:=.one (.vptr r (.lit 0) 32 0)
def qs2 (ρ:Env) (g:Nat):Prop:=qS (qf (ρ 0).d 32)/\qbf ρ 1/\gOk ρ 7 8 g
def qaZ:Ctr:={ fn := 32,nv:=9,ip:=[gIp 7],args:=[dgV 0,bS 1,iv .i64 (.var 6)],heap:=[],ro:=[qco 1,gHp 7 8],pre:=fun ρ=>qs2 ρ gR,alts:=[
 { k:=4,ret:=.one (.vslice 9 (.lit 0) (.var 10) (.var 11) 1),heap:=[iHp 9 12 11],post:=fun ρ=>qdS (ρ 12).d (ρ 10).i (qbb (qf (ρ 0).d 32) (qu (ρ 4).d) (ρ 6).i) }] }
def qpT:Inv:={ key:=3,nv:=6,env:=[(2,iv .i64 (.var 6)),(3,qyB 1000),(7,rkS 1002 1003 1004),(14,b16 10),(15,iv .i64 (.var 1001))],heap:=[qsv 1000,quK 1002 1005 1004],inv:=(fun ρ=>0 <= (ρ 1001).i/\(ρ 1001).i <= 16/\(ρ 1003).i = (ρ 1005).d.length/\(ρ 1005).d = (qG (qu (ρ 4).d) (ρ 1001).i.toNat).map (qB (qf (ρ 0).d 32))),mu:=(fun ρ=>(16 - (ρ 1001).i).toNat) }
def qpA:Inv:={ key:=11,nv:=9,env:=[(36,rkS 1000 1001 1002),(37,iv .i64 (.var 1001)),(38,iv .i64 (.var 1003)),(10,.one (.vslice 1004 (.lit 0) (.var 1005) (.var 1006) 1))],heap:=[quK 1000 1007 1002,iHp 1004 1008 1006],inv:=(fun ρ=>0 <= (ρ 1003).i/\(ρ 1003).i <= (ρ 1001).i/\(ρ 1001).i <= (ρ 1007).d.length/\(ρ 1007).d = (qao (qf (ρ 0).d 32) (qbM (qu (ρ 4).d))).map (qB (qf (ρ 0).d 32))/\(ρ 1001).i = min (max (ρ 6).i 0) ((qao (qf (ρ 0).d 32) (qbM (qu (ρ 4).d))).length:Int)/\qdS (ρ 1008).d (ρ 1005).i ((qao (qf (ρ 0).d 32) (qbM (qu (ρ 4).d))).take (ρ 1003).i.toNat)),mu:=(fun ρ=>((ρ 1001).i - (ρ 1003).i).toNat) }
def qfV (n:Int):List Int:=(List.range (min (max n 0) 16).toNat).map fun (i:Nat)=>(i:Int)
def qj6 (o:List Int) (n:Int):List Int:=qbb o (qfV n) 16
def qce:Ctr:={ fn := 29,nv:=4,ip:=[gIp 2],args:=[dgV 0,iv .i64 (.var 1)],heap:=[],ro:=[gHp 2 3],pre:=fun ρ=>qS (qf (ρ 0).d 32)/\gOk ρ 2 3 gR,alts:=[
 { k:=4,ret:=.one (.vslice 4 (.lit 0) (.var 5) (.var 6) 1),heap:=[iHp 4 7 6],post:=fun ρ=>qdS (ρ 7).d (ρ 5).i (qj6 (qf (ρ 0).d 32) (ρ 1).i) }] }
def qnG:Inv:={ key:=3,nv:=7,env:=[(2,qyB 1000),(5,.one (.vslice 1001 (.lit 0) (.var 1002) (.var 1003) 1)),(10,iv .i64 (.var 1006)),(11,iv .i64 (.var 1005))],heap:=[qsv 1000,iHp 1001 1004 1003],inv:=(fun ρ=>0 <= (ρ 1005).i/\(ρ 1005).i <= (ρ 1006).i/\(ρ 1006).i = min (max (ρ 1).i 0) 16/\qdS (ρ 1004).d (ρ 1002).i (qfV (ρ 1005).i)),mu:=(fun ρ=>((ρ 1006).i - (ρ 1005).i).toNat) }
def qgt (o:List Int) (self:Int) (L:List Int) (n:Int) (held buried:Bool):Int :=
 if buried then (if held then 3 else 0) else if n < 1 then 0 else if self ∈ qbb o L n then (if held then 0 else 1) else if held = true/\((qbb o L n).length:Int) = n then 2 else 0
def q4E (ρ:Env) (g:Nat):Prop:=qS (qf (ρ 0).d 32)/\qbf ρ 2/\gOk ρ 10 11 g
def qf6:Ctr:={ fn := 35,nv:=12,ip:=[gIp 10],args:=[dgV 0,iv .i64 (.var 1),bS 2,iv .i64 (.var 7),.one (.vbool (.var 8)),.one (.vbool (.var 9))],heap:=[],ro:=[qco 2,gHp 10 11],pre:=fun ρ=>q4E ρ gR,alts:=[
 { k:=1,ret:=iv .u8 (.var 12),heap:=[],post:=fun ρ=>(ρ 12).i = qgt (qf (ρ 0).d 32) (ρ 1).i (qu (ρ 5).d) (ρ 7).i (ρ 8).b (ρ 9).b }] }
end Go.Eng

set_option linter.unusedSimpArgs false
set_option linter.unusedVariables false
namespace Go.Eng
open Go Go.Proofs
def mtI:MT:=⟨false,[.i64],false,[.int .u64],[.vint .u64 (.lit 0)]⟩
def mtO:MT:=⟨true,List.replicate 32 .u8,false,[.any],[.vnilm]⟩
abbrev Cl:=List Int->Int->Option Int
def qd3 (l:List ME) (i:Int):Option Int:=(l.find? fun x=>x.k == [i]).map fun x=>qaf (x.v.headD .nilFunc)
def qV (h:Hp) (v:Value) (cl:Cl):Prop:=∃ b l c,v = .map (some b)/\qaK h b mtO l c /\
 (∀ x ∈ l,∃ b' m c',x.v = [.map (some b')]/\b' ≠ b/\qaK h b' mtI m c'/\∀ i,cl x.k i = qd3 m i) /\
 (∀ x ∈ l,∀ y ∈ l,x.k ≠ y.k->x.v ≠ y.v)/\(∀ o i,(∀ x ∈ l,x.k ≠ o)->cl o i = none)/\∀ o i t,cl o i = some t->0 <= i/\i < 16/\0 <= t/\t < 18446744073709551616
def qen (cl:Cl) (o:List Int) (i t:Int):Cl:=if 0 <= i/\i < 16 then fun o' i'=>if o' = o/\i' = i then some t else cl o' i' else cl
def qkq (t clock:Int):Bool:=decide (t <= clock) && decide (clock - t < 12)
def qdX (cl:Cl) (o:List Int) (self clock:Int) (L H:List Int):Bool:=(List.range 16).any fun (i:Nat)=>match cl o i with
 | some t=>qkq t clock && decide ((i:Int) ∈ L) && !decide ((i:Int) ∈ H) && qI o i self
 | none=>false
def qq5 (r v:Nat):SH:=.cells r 179 [.var v]
def clP (r:Nat):SV:=.one (.vptr r (.lit 0) 1 0)
def q7z (r v:Nat):SH:=.cells r 24 (qaY .u8 v 32)
def qdP:Ctr:={ fn := 61,nv:=0,args:=[],heap:=[],ro:=[],pre:=fun _=>True,alts:=[
 { k:=3,ret:=clP 0,heap:=[qq5 0 1,.abs 2 1003],post:=fun ρ=>qV (ρ 2).h (ρ 1).v fun _ _=>none }] }
def qiF:Ctr:={ fn := 101,nv:=2,args:=[iv .u64 (.var 0),iv .u64 (.var 1)],heap:=[],ro:=[],pre:=fun ρ=>0 <= (ρ 0).i/\(ρ 0).i < 18446744073709551616/\0 <= (ρ 1).i/\(ρ 1).i < 18446744073709551616,alts:=[
 { k:=1,ret:=.one (.vbool (.var 2)),heap:=[],post:=fun ρ=>(ρ 2).b = qkq (ρ 0).i (ρ 1).i }] }
def qfG:Ctr:={ fn := 62,nv:=6,args:=[clP 0,dgV 1,iv .i64 (.var 2),iv .u64 (.var 3)],heap:=[qq5 0 4,.abs 5 1003],ro:=[],pre:=fun ρ=>(∃ cl,qV (ρ 5).h (ρ 4).v cl)/\0 <= (ρ 3).i/\(ρ 3).i < 18446744073709551616,alts:=[
 { k:=1,ret:=.tup [],heap:=[qq5 0 4,.abs 6 1003],post:=fun ρ=>∀ cl,qV (ρ 5).h (ρ 4).v cl->qV (ρ 6).h (ρ 4).v (qen cl (qf (ρ 1).d 32) (ρ 2).i (ρ 3).i) }] }
def q6A (h:Hp) (it:Value) (m:List ME) (seen:List Nat):Prop:=∃ b' mo since st,it = .pointer (some ⟨b',0,none⟩)/\h b' = some (.mapIter mo since seen.toArray st) /\
 ((mo = none/\m = [])∨∃ b c,mo = some b/\b' ≠ b/\qaK h b mtI m c/\c <= since/\(seen = []∨m = []∨∃ e ∈ m,e.born < st)/\∀ n ∈ seen,∃ e ∈ m,e.born = n)
def qhw (h:Hp) (it:Value):Nat :=
 match it with
 | .pointer (some a) =>
  match h a.block with
  | some (.mapIter (some b) _ seen _) =>
   match h b with
   | some (.map es _)=>(es.toList.filter fun e=>!(seen.contains e.born)).length
   | _=>0
  | _=>0
 | _=>0
def q4T (ρ:Env):Prop:=(∃ cl,qV (ρ 5).h (ρ 4).v cl)/\qS (qf (ρ 1).d 32)/\qbf ρ 6/\qbf ρ 11/\gOk ρ 16 17 gR/\0 <= (ρ 3).i/\(ρ 3).i < 18446744073709551616
def qcb:Ctr:={ fn := 68,nv:=18,ip:=[gIp 16,(5030, 181)],args:=[clP 0,dgV 1,iv .i64 (.var 2),iv .u64 (.var 3),bS 6,bS 11],heap:=[qq5 0 4,.abs 5 1003],ro:=[qco 6,qco 11,gHp 16 17],pre:=q4T,alts:=[
 { k:=2,ret:=.one (.vbool (.var 18)),heap:=[qq5 0 4,.abs 19 1003],post:=fun ρ=>∀ cl,qV (ρ 5).h (ρ 4).v cl->qV (ρ 19).h (ρ 4).v cl/\(ρ 18).b = qdX cl (qf (ρ 1).d 32) (ρ 2).i (ρ 3).i (qu (ρ 9).d) (qu (ρ 14).d) }] }
def qi4 (o:List Int) (self clock:Int) (L H:List Int) (x:ME):Bool:=qkq (qaf (x.v.headD .nilFunc)) clock && decide (x.k.headD 0 ∈ L) && !decide (x.k.headD 0 ∈ H) && qI o (x.k.headD 0) self
def qp8 (h0 h:Hp) (v it:Value) (o:List Int) (self clock:Int) (L H:List Int) (x:Bool):Prop:=∀ cl,qV h0 v cl->qV h v cl/\∃ m seen,q6A h it m seen/\(∀ i,cl o i = qd3 m i)/\x = (m.filter fun e=>seen.contains e.born).any (qi4 o self clock L H)
def qnh:Inv:={ key:=6,nv:=8,env:=[(2,iv .i64 (.var 2)),(3,iv .u64 (.var 3)),(7,qyB 1000),(13,.one (.vptr 1001 (.lit 0) 16 0)),(14,.one (.vptr 1003 (.lit 0) 16 0)),(15,.one (.vbool (.var 1005))),(30,.one (.var 1006))],heap:=[q7z 1000 1,.arr 1001 157 qpG (.var 1002) (.lit 1),.arr 1003 157 qpG (.var 1004) (.lit 1),qq5 0 4,.abs 1007 1003],inv:=(fun ρ=>qdn (ρ 1002).d (qu (ρ 14).d) (ρ 14).d.length/\qdn (ρ 1004).d (qu (ρ 9).d) (ρ 9).d.length/\qp8 (ρ 5).h (ρ 1007).h (ρ 4).v (ρ 1006).v (qf (ρ 1).d 32) (ρ 2).i (ρ 3).i (qu (ρ 9).d) (qu (ρ 14).d) (ρ 1005).b),mu:=(fun ρ=>qhw (ρ 1007).h (ρ 1006).v) }
end Go.Eng

set_option linter.unusedSimpArgs false
set_option linter.unusedVariables false
namespace Go.Eng
open Go Go.Proofs
structure ManV where
 k:Int
 n:Int
 t:Int
 s:Int
 o:List Int
 D:List (List Int)
def ManV.ok (m:ManV):Bool:=qF m.k m.n m.t m.s m.D.length
def ManV.bytes (m:ManV):List Int:=qa6 m.k m.n m.t m.s m.o ++ m.D.flatten
abbrev PcL:=List (Int × List Int)
def q72 (m d c:Nat):SH:=.arr m 27 quQ (.var d) (.var c)
def q63 (g o m p l q:Nat):SH:=.cells g 165 (qaY .u8 o 32 ++ [.vptr m (.lit 0) 37 0,.vslice p (.lit 0) (.var l) (.var q) 2])
def gaP (g:Nat):SV:=.one (.vptr g (.lit 0) 34 0)
def qsz (b tag:Nat):List SH:=[q63 b (b + 1) (b + 2) (b + 5) (b + 6) (b + 7),q72 (b + 2) (b + 3) (b + 4),q3P (b + 5) (b + 8) (b + 7),.abs (b + 9) tag]
def qhU (h:Hp) (d:qd) (m:ManV):Prop:=∃ row D,d = [row]/\qr quQ row/\Rd h k32 (row[36]?.getD .nilFunc) D/\qf3 D/\dgs D = m.D/\qbD row 0 = m.k/\qbD row 1 = m.n/\qbD row 2 = m.t/\qbD row 3 = m.s/\((List.range 32).map fun j=>qbD row (4 + j)) = m.o/\qS m.o/\m.ok = true
def qo1 (h:Hp) (P:qd) (L:PcL):Prop:=P.length = L.length/\qqU h P P.length/\∀ j,j < P.length->(pcI P j,pcD h P j) = L.getD j (0,[])
def qbL (h:Hp) (r:Option Addr) (d:qd) (c n:Int) (P:qd) (M:Option ManV) (L:PcL):Prop:=n = P.length/\qo1 h P L/\(∀ x ∈ L,(x.2.length:Int) <= 9000)/\L.length <= 255/\((M = none/\r = none/\c = 0/\d = []/\L = [])∨∃ m,M = some m/\c = 1/\qhU h d m/\L ≠ [])
def qgH (M:Option ManV) (L:PcL):Bool:=match M with
 | some m=>decide (m.k <= L.length)
 | none=>false
def gaB (ρ:Env) (b:Nat) (M:Option ManV) (L:PcL):Prop:=qbL (ρ (b + 9)).h (ρ (b + 2)).r (ρ (b + 3)).d (ρ (b + 4)).i (ρ (b + 6)).i (ρ (b + 8)).d M L
def qdW:Ctr:={ fn := 45,nv:=1,args:=[dgV 0],heap:=[],ro:=[],pre:=fun _=>True,alts:=[
 { k:=1,ret:=gaP 1,heap:=[.cells 1 165 (qaY .u8 0 32 ++ [.vnilp,.vnils])],post:=fun _=>True }] }
def qcf:Ctr:={ fn := 47,nv:=10,args:=[gaP 0],heap:=[],ro:=qsz 0 20,pre:=fun ρ=>∃ M L,gaB ρ 0 M L,alts:=[
 { k:=1,ret:=.one (.vbool (.var 10)),heap:=[],post:=fun ρ=>∀ M L,gaB ρ 0 M L->(ρ 10).b = qgH M L }] }
def qdj:Ctr:={ fn := 55,nv:=10,args:=[gaP 0],heap:=[],ro:=qsz 0 20,pre:=fun ρ=>∃ M L,gaB ρ 0 M L,alts:=[
 { k:=4,ret:=.one (.vslice 10 (.lit 0) (.var 11) (.var 12) 1),heap:=[iHp 10 13 12],post:=fun ρ=>∀ M L,gaB ρ 0 M L->qdS (ρ 13).d (ρ 11).i (L.map Prod.fst) }] }
def qxF:Inv:={ key:=5,nv:=5,env:=[(3,.one (.vslice 1000 (.lit 0) (.var 1001) (.var 1002) 1)),(12,pcS 5 6 7),(13,iv .i64 (.var 6)),(14,iv .i64 (.var 1004))],heap:=[iHp 1000 1003 1002],inv:=(fun ρ=>0 <= (ρ 1004).i/\(ρ 1004).i <= (ρ 6).i/\qdS (ρ 1003).d (ρ 1001).i (qgO (ρ 8).d (ρ 1004).i.toNat)),mu:=(fun ρ=>((ρ 6).i - (ρ 1004).i).toNat) }
def qd1:Ctr:={ fn := 90,nv:=5,args:=[.one (.vslice 0 (.lit 0) (.var 1) (.var 2) 32)],heap:=[],ro:=[qf2 0 3 4],pre:=fun ρ=>0 <= (ρ 1).i/\(ρ 1).i = (ρ 3).d.length/\(ρ 1).i <= 4398046510976,alts:=[
 { k:=3,ret:=.one (.vslice 5 (.lit 0) (.var 1) (.var 6) 32),heap:=[qf2 5 7 6],post:=fun ρ=>(ρ 7).d = (ρ 3).d }] }
def qgd (o:List Int) (M:Option ManV) (L:PcL) (m:ManV) (i:Int) (b:List Int):Int :=
 if m.ok = false then 2 else if sha m.bytes ≠ o then 20 else if qbY m.k m.n m.t m.s m.D.length m.D i b ≠ 0 then qbY m.k m.n m.t m.s m.D.length m.D i b else if i ∈ L.map Prod.fst then 7 else if qgH M L then 8 else 0
def qyV (ρ:Env) (r:Nat):ManV:=⟨(ρ r).i,(ρ (r + 1)).i,(ρ (r + 2)).i,(ρ (r + 3)).i,qf (ρ (r + 4)).d 32,dgs (ρ (r + 8)).d⟩
def q0o (ρ:Env):Prop:=(∃ M L,gaB ρ 0 M L)/\qS (qf (ρ 1).d 32)/\q4D ρ 10/\qiP (ρ 20).i/\qhg ρ 20/\(ρ 22).i <= 9000
def qdV:Ctr:={ fn := 48,nv:=28,ip:=[gIp 26,(1002,9)],args:=[gaP 0,q4U 10,qjZ 20],heap:=qsz 0 20,ro:=[qf2 15 18 19,qqi 20,gHp 26 27],pre:=fun ρ=>q0o ρ/\gOk ρ 26 27 gR,alts:=[
 { k:=9,ret:=iv .i64 (.var 36),heap:=[q63 0 1 28 31 32 33,q72 28 29 30,q3P 31 34 33,.abs 35 20],post:=fun ρ=>∀ M L,gaB ρ 0 M L->(ρ 36).i = qgd (qf (ρ 1).d 32) M L (qyV ρ 10) (ρ 20).i (bI (ρ 24).d)/\qbL (ρ 35).h (ρ 28).r (ρ 29).d (ρ 30).i (ρ 32).i (ρ 34).d (if (ρ 36).i = 0 then some (qyV ρ 10) else M) (if (ρ 36).i = 0 then L ++ [((ρ 20).i,bI (ρ 24).d)] else L) }] }
end Go.Eng

set_option linter.unusedSimpArgs false
set_option linter.unusedVariables false
namespace Go.Proofs
open Go Go.Eng Go.RowKit Go.Lib
theorem q3l {P:Program} (a b:Addr) (xs ys:List Int) (c c':Nat) (w:World) (hx:∀ j x,xs[j]? = some x->w.cell? (a.add j) = some (.int .u8 x)) (hy:∀ j x,ys[j]? = some x->w.cell? (b.add j) = some (.int .u8 x)) :
  (Extern.BytealgCompare.compare #[.slice (some a) xs.length c,.slice (some b) ys.length c']).run P w = .ok (.int .i64 (compareBytes (Lib.bytesOf xs) (Lib.bytesOf ys))) w:=by
 have h1:=run_loadBytesX (P:=P) w xs a .empty hx
 have h2:=run_loadBytesX (P:=P) w ys b .empty hy
 change Sem.run P (do pure (goInt (Extern.BytealgCompare.cmp (<- Extern.Bytes.bytesOf (.slice (some a) xs.length c)) (<- Extern.Bytes.bytesOf (.slice (some b) ys.length c'))))) w = _
 simp only [Extern.Bytes.bytesOf,Sem.run_bind,h1,h2,Sem.run_pure,Result.andThen]
 rw [cmp_eq]
 simp [goInt]
set_option maxHeartbeats 1000000 in
set_option maxRecDepth 100000 in
theorem qp5 (a b:Addr) (xs ys:List Int) (c c':Nat) (w:World) (hx:∀ j x,xs[j]? = some x->w.cell? (a.add j) = some (.int .u8 x)) (hy:∀ j x,ys[j]? = some x->w.cell? (b.add j) = some (.int .u8 x)) :
  Calls Tryz.prog 118 #[.slice (some a) xs.length c,.slice (some b) ys.length c'] w fun e w'=>e = .returned (.int .i64 (compareBytes (Lib.bytesOf xs) (Lib.bytesOf ys)))/\w' = w:=by
 go_enter Tryz.func118,Tryz.ntmps118
 go_wp2
 rw [run_callFunc_extern Tryz.func139 (by kernel_rfl) (by kernel_rfl) (by kernel_rfl) (e:=Extern.BytealgCompare.compare) (by kernel_rfl),q3l a b xs ys c c' w hx hy]
 simp only [Result.andThen]
 rw [Oper.upon_value]
 go_wp2
 go_ret
 exact ⟨rfl,rfl⟩
end Go.Proofs

set_option linter.unusedSimpArgs false
set_option linter.unusedVariables false
namespace Go.Proofs
open Go Go.Eng
theorem q4C {x y:Int} (hx:0 <= x/\x < 256) (hy:0 <= y/\y < 256):x.toNat.toUInt8 < y.toNat.toUInt8↔x < y:=by
 rw [UInt8.lt_iff_toNat_lt]
 have h1:x.toNat.toUInt8.toNat = x.toNat:=by
  show x.toNat % 256 = x.toNat
  omega
 have h2:y.toNat.toUInt8.toNat = y.toNat:=by
  show y.toNat % 256 = y.toNat
  omega
 rw [h1,h2]; omega
theorem qkS:∀ {xs ys:List Int},qS xs->qS ys->Lib.compareBytes (Lib.bytesOf xs) (Lib.bytesOf ys) = qbw xs ys
 | [],[],_,_=>rfl
 | [],_ :: _,_,_=>rfl
 | _ :: _,[],_,_=>rfl
 | x :: xs,y :: ys,hx,hy=>by
  have h1:=q4C (hx x (List.mem_cons_self ..)) (hy y (List.mem_cons_self ..))
  have h2:=q4C (hy y (List.mem_cons_self ..)) (hx x (List.mem_cons_self ..))
  have h3:=qkS (xs:=xs) (ys:=ys) (fun z hz=>hx z (List.mem_cons_of_mem _ hz)) (fun z hz=>hy z (List.mem_cons_of_mem _ hz))
  show (if x.toNat.toUInt8 < y.toNat.toUInt8 then -1 else if y.toNat.toUInt8 < x.toNat.toUInt8 then 1 else Lib.compareBytes (Lib.bytesOf xs) (Lib.bytesOf ys)) = _
  rw [h3,qbw]
  simp only [h1,h2]
theorem q7q {k:IntKind} {v:Value} (h:CK.fits (.int k) v = true):∃ z,v = .int k z:=by
 cases v <;> simp [CK.fits] at h
 subst h
 exact ⟨_,rfl⟩
theorem qtK {c:Array Value} {b o:Nat} {ty:TypeId} {fr:Nat × Nat} {d:qd} {w:World} (hb:w.heap[b]? = some (.cells c ty fr)) (hd:qal d 33) (hr:qT c o kRk d) :
  ∀ j x,((qf d 33).drop 1)[j]? = some x->w.cell? ((⟨b,o + 1,none⟩:Addr).add j) = some (.int .u8 x):=fun j x hx=>by
 obtain ⟨row,rfl,hl⟩:=hd
 obtain ⟨hf,hc⟩:=hr 0 row rfl
 rw [List.getElem?_drop] at hx
 have hj:1 + j < 33:=by
  rcases Nat.lt_or_ge (1 + j) 33 with h | h
  ·exact h
  ·rw [List.getElem?_eq_none (by simp [qf]; omega)] at hx; cases hx
 have hx2:x = qaf (row[1 + j]?.getD .nilFunc):=by
  rw [qf,List.getElem?_map,List.getElem?_range hj] at hx
  have:=(Option.some.inj hx).symm
  rw [this]; rfl
 have hrow:row[1 + j]? = some row[1 + j]:=List.getElem?_eq_getElem (by omega)
 have hk:kRk[1 + j]? = some (.int .u8):=by
  have:kRk = .int .i64 :: List.replicate 32 (.int .u8):=rfl
  rw [this,Nat.add_comm,List.getElem?_cons_succ,List.getElem?_replicate,if_pos (by omega)]
 obtain ⟨z,hz⟩:=q7q (hf.2 (1 + j) (.int .u8) row[1 + j] hk hrow)
 have hv:=hc (1 + j) row[1 + j] hrow
 rw [hx2,hrow]
 simp only [Option.getD_some]
 rw [hz] at hv ⊢
 have e:((⟨b,o + 1,none⟩:Addr).add j) = ⟨b,o + 1 + j,none⟩:=by
  unfold Addr.add
  by_cases hj0:j = 0
  ·subst hj0; simp
  ·simp [hj0]
 rw [e]
 simp only [World.cell?,hb]
 show c[o + 1 + j]? = _
 rw [show o + 1 + j = o + 0 * kRk.length + (1 + j) by omega,hv]
 rfl
theorem q6c:qj0.ok Tryz.prog:=by
 refine ⟨fun args w=>Tryz.call118 args w,fun ρ w hF hO hg hd hw hs hro hp=>?_⟩
 obtain ⟨h2,h3,b2,b3⟩:=hp
 have hr0:=hro _ (List.mem_cons_self ..)
 have hr1:=hro _ (List.mem_cons_of_mem _ (List.mem_cons_self ..))
 obtain ⟨row2,e2,l2⟩:=h2
 obtain ⟨row3,e3,l3⟩:=h3
 rcases hr0 with h | ⟨b,o,c,ty,fr,q1,q2,q3⟩
 ·have h:(ρ 2).d = []:=h
  rw [e2] at h; cases h
 rcases hr1 with h | ⟨b',o',c',ty',fr',p1,p2,p3⟩
 ·have h:(ρ 3).d = []:=h
  rw [e3] at h; cases h
 have hsub:∀ {x:Nat} {X:Obj},hF.h x = some X->w.heap[x]? = some X:=fun h=>hw.1 _ _ (by simp [Hp.union,h])
 have hx:=qtK (w:=w) (hsub q2) ⟨row2,e2,l2⟩ q3
 have hy:=qtK (w:=w) (hsub p2) ⟨row3,e3,l3⟩ p3
 have hlen:∀ d:qd,((qf d 33).drop 1).length = 32:=fun d=>by simp [qf]
 have hc:=qp5 ⟨b,o + 1,none⟩ ⟨b',o' + 1,none⟩ _ _ 32 32 w hx hy
 rw [hlen,hlen] at hc
 have hargs:(List.map (SV.den ρ) qj0.args).toArray = #[.slice (some ⟨b,o + 1,none⟩) 32 32,.slice (some ⟨b',o' + 1,none⟩) 32 32]:=by
  simp [qj0,SV.den,T.den,O0.den,O3.den,q1,p1,ql]
 rw [hargs]
 refine hc.mono fun e w' h=>?_
 obtain ⟨rfl,rfl⟩:=h
 refine ⟨0,_,ρ.set 4 { i:=qbw ((qf (ρ 2).d 33).drop 1) ((qf (ρ 3).d 33).drop 1) },rfl,fun n=>?_,fun n hn=>Env.set_ne _ _ (by have:n < 4:=hn; omega),?_,?_,hO,hd,trivial,hw.1,hw.2⟩
 ·by_cases hn:n = 4
  ·subst hn; rw [Env.set_same]; exact ⟨rfl,fun row hr=>(by cases hr)⟩
  ·rw [Env.set_ne _ _ hn]; exact hg n
 ·rw [qkS b2 b3]; rfl
 ·rfl
end Go.Proofs

set_option linter.unusedSimpArgs false
set_option linter.unusedVariables false
set_option maxRecDepth 100000
namespace Go.Proofs
open Go Go.Eng

def qsZ:Out:=(.br (.cmp .geq (.var 0) (.lit 0))
 (.ret 0 (sg 1 [bt 1 (.cmp .lss (.var 0) (.lit 16))]))
 (.ret 0 (sg 1 [bt 1 (.bl false)])))
theorem q2h:qk ⟨Tryz.prog,qcl,[],[]⟩ 100000 Tryz.f100 = qsZ:=by kernel_rfl
theorem q6n (hd:∀ c ∈ ([]:List Ctr),c.ok Tryz.prog) (h:∀ ρ:Env,ρ.good->(qcl).pre ρ->qsZ.den ⟨Tryz.prog,qcl,[],[]⟩ ρ):(qcl).ok Tryz.prog :=
 qe Tryz.func100 (fun a w=>Tryz.call100 a w) hd 100000 (fun ρ hg hp=>by rw [q2h]; exact h ρ hg hp)
@[simp] def qbn:T:=.rcons (.vbool (.bcell (.var 7) (.lit 0) 0)) (.rcons (.vbool (.bcell (.var 7) (.lit 0) 1)) (.rcons (.vbool (.bcell (.var 7) (.lit 0) 2)) (.rcons (.vbool (.bcell (.var 7) (.lit 0) 3)) (.rcons (.vbool (.bcell (.var 7) (.lit 0) 4)) (.rcons (.vbool (.bcell (.var 7) (.lit 0) 5)) (.rcons (.vbool (.bcell (.var 7) (.lit 0) 6)) (.rcons (.vbool (.bcell (.var 7) (.lit 0) 7)) (.rcons (.vbool (.bcell (.var 7) (.lit 0) 8)) (.rcons (.vbool (.bcell (.var 7) (.lit 0) 9)) (.rcons (.vbool (.bcell (.var 7) (.lit 0) 10)) (.rcons (.vbool (.bcell (.var 7) (.lit 0) 11)) (.rcons (.vbool (.bcell (.var 7) (.lit 0) 12)) (.rcons (.vbool (.bcell (.var 7) (.lit 0) 13)) (.rcons (.vbool (.bcell (.var 7) (.lit 0) 14)) (.rcons (.vbool (.bcell (.var 7) (.lit 0) 15)) .rnil)))))))))))))))
def qmt:Out:=(.fresh 5 (.need (.cmp .leq (.lit 0) (.var 1)) (.inv 0 6 (sg 1000 [bt 1001 (.rcons (.vbool (.bl false)) (.rcons (.vbool (.bl false)) (.rcons (.vbool (.bl false)) (.rcons (.vbool (.bl false)) (.rcons (.vbool (.bl false)) (.rcons (.vbool (.bl false)) (.rcons (.vbool (.bl false)) (.rcons (.vbool (.bl false)) (.rcons (.vbool (.bl false)) (.rcons (.vbool (.bl false)) (.rcons (.vbool (.bl false)) (.rcons (.vbool (.bl false)) (.rcons (.vbool (.bl false)) (.rcons (.vbool (.bl false)) (.rcons (.vbool (.bl false)) (.rcons (.vbool (.bl false)) .rnil)))))))))))))))),bt 1002 (.lit 0),bg 1000 5]) (.fresh 6 (.fresh 7 (.fresh 8 (.hyp 0 6 (.br (.cmp .lss (.var 8) (.var 1))
 (.need (.cmp .leq (.lit 0) (.var 8)) (.need (.cmp .lss (.var 8) (.dlen (.var 3))) (.pre 0 (sg 0 [bt 0 (.icell (.var 3) (.var 8) 0)]) (.both (.fresh 9 (.post 0 0 (sg 0 [bt 0 (.icell (.var 3) (.var 8) 0)]) 9 (.br (.var 9)
 (.need (.cmp .leq (.lit 0) (.icell (.var 3) (.var 8) 0)) (.need (.cmp .lss (.icell (.var 3) (.var 8) 0) (.lit 16)) (.need (.cmp .lss (.lit 0) (.dlen (.var 7))) (.back 0 6 (sg 1000 [bt 1001 (.c3 (.xput 0) (.var 7) (.icell (.var 3) (.var 8) 0) (.vbool (.bl true))),bt 1002 (.arith .add .i64 (.var 8) (.lit 1)),bg 1000 6])))))
 (.back 0 6 (sg 1000 [bv 1001 7,bt 1002 (.arith .add .i64 (.var 8) (.lit 1)),bg 1000 6]))))) .top))))
 (.need (.cmp .lss (.lit 0) (.dlen (.var 7))) (.ret 0 (sg 5 [bt 20 (.bcell (.dput (.var 7) (.lit 0) 0 qbn) (.lit 0) 15),bt 19 (.bcell (.dput (.var 7) (.lit 0) 0 qbn) (.lit 0) 14),bt 18 (.bcell (.dput (.var 7) (.lit 0) 0 qbn) (.lit 0) 13),bt 17 (.bcell (.dput (.var 7) (.lit 0) 0 qbn) (.lit 0) 12),bt 16 (.bcell (.dput (.var 7) (.lit 0) 0 qbn) (.lit 0) 11),bt 15 (.bcell (.dput (.var 7) (.lit 0) 0 qbn) (.lit 0) 10),bt 14 (.bcell (.dput (.var 7) (.lit 0) 0 qbn) (.lit 0) 9),bt 13 (.bcell (.dput (.var 7) (.lit 0) 0 qbn) (.lit 0) 8),bt 12 (.bcell (.dput (.var 7) (.lit 0) 0 qbn) (.lit 0) 7),bt 11 (.bcell (.dput (.var 7) (.lit 0) 0 qbn) (.lit 0) 6),bt 10 (.bcell (.dput (.var 7) (.lit 0) 0 qbn) (.lit 0) 5),bt 9 (.bcell (.dput (.var 7) (.lit 0) 0 qbn) (.lit 0) 4),bt 8 (.bcell (.dput (.var 7) (.lit 0) 0 qbn) (.lit 0) 3),bt 7 (.bcell (.dput (.var 7) (.lit 0) 0 qbn) (.lit 0) 2),bt 6 (.bcell (.dput (.var 7) (.lit 0) 0 qbn) (.lit 0) 1),bt 5 (.bcell (.dput (.var 7) (.lit 0) 0 qbn) (.lit 0) 0)])))))))))))
theorem q2V:qk ⟨Tryz.prog,qc8,[qcl],[qpO]⟩ 100000 Tryz.f82 = qmt:=by kernel_rfl
theorem q7e (hd:∀ c ∈ ([qcl]:List Ctr),c.ok Tryz.prog) (h:∀ ρ:Env,ρ.good->(qc8).pre ρ->qmt.den ⟨Tryz.prog,qc8,[qcl],[qpO]⟩ ρ):(qc8).ok Tryz.prog :=
 qe Tryz.func82 (fun a w=>Tryz.call82 a w) hd 100000 (fun ρ hg hp=>by rw [q2V]; exact h ρ hg hp)
@[simp] def qqY:Sg:=sg 0 [bv 7 3,bv 5 8,bt 4 (.dapp (.dapp (.rcons (x8 0 0) .rnil) (.dapp (.rcons (x8 1 0) .rnil) (.dapp (.rcons (x8 2 0) .rnil) (.dapp (.rcons (x8 3 0) .rnil) (.dapp (.rcons (x8 4 0) .rnil) (.dapp (.rcons (x8 5 0) .rnil) (.dapp (.rcons (x8 6 0) .rnil) (.dapp (.rcons (x8 7 0) .rnil) (.dapp (.rcons (x8 8 0) .rnil) (.dapp (.rcons (x8 9 0) .rnil) (.dapp (.rcons (x8 10 0) .rnil) (.dapp (.rcons (x8 11 0) .rnil) (.dapp (.rcons (x8 12 0) .rnil) (.dapp (.rcons (x8 13 0) .rnil) (.dapp (.rcons (x8 14 0) .rnil) (.dapp (.rcons (x8 15 0) .rnil) (.dapp (.rcons (x8 16 0) .rnil) (.dapp (.rcons (x8 17 0) .rnil) (.dapp (.rcons (x8 18 0) .rnil) (.dapp (.rcons (x8 19 0) .rnil) (.dapp (.rcons (x8 20 0) .rnil) (.dapp (.rcons (x8 21 0) .rnil) (.dapp (.rcons (x8 22 0) .rnil) (.dapp (.rcons (x8 23 0) .rnil) (.dapp (.rcons (x8 24 0) .rnil) (.dapp (.rcons (x8 25 0) .rnil) (.dapp (.rcons (x8 26 0) .rnil) (.dapp (.rcons (x8 27 0) .rnil) (.dapp (.rcons (x8 28 0) .rnil) (.dapp (.rcons (x8 29 0) .rnil) (.dapp (.rcons (x8 30 0) .rnil) (.rcons (x8 31 0) .rnil)))))))))))))))))))))))))))))))) (.rcons (.vint .u8 (.conv .u8 (.var 1))) .rnil)),bv 3 8,bt 2 (.lit 33),bt 1 (.lit 0),bg 0 7,bg 6 2]
def qqn:Out:=(.fresh 4 (.fresh 5 (.fresh 6 (.need (.cmp .leq (.tims (.lit 1) (.lit 33)) (.lit 140737488355328)) (.fresh 7 (.fresh 8 (.know (.cmp .leq (.lit 33) (.var 8)) (.pre 0 qqY (.both (.fresh 9 (.post 0 0 qqY 9 (.ret 0 (sg 4 [bt 4 (r8 9)])))) .top)))))))))
theorem qza:qk ⟨Tryz.prog,qcj,[qaI],[]⟩ 100000 Tryz.f24 = qqn:=by kernel_rfl
theorem q3w (hd:∀ c ∈ ([qaI]:List Ctr),c.ok Tryz.prog) (h:∀ ρ:Env,ρ.good->(qcj).pre ρ->qqn.den ⟨Tryz.prog,qcj,[qaI],[]⟩ ρ):(qcj).ok Tryz.prog :=
 qe Tryz.func24 (fun a w=>Tryz.call24 a w) hd 100000 (fun ρ hg hp=>by rw [qza]; exact h ρ hg hp)
def quG:Out:=(.fresh 4 (.fresh 5 (.pre 0 (sg 0 [bv 3 3,bv 1 1,bt 0 (r8 0),bg 2 2]) (.both (.fresh 6 (.post 0 0 (sg 0 [bv 3 3,bv 1 1,bt 0 (r8 0),bg 2 2]) 6 (.ret 0 (sg 4 [bt 4 (r8 6)])))) .top))))
theorem q1q:qk ⟨Tryz.prog,qd8,[qcj],[]⟩ 100000 Tryz.f80 = quG:=by kernel_rfl
theorem q6f (hd:∀ c ∈ ([qcj]:List Ctr),c.ok Tryz.prog) (h:∀ ρ:Env,ρ.good->(qd8).pre ρ->quG.den ⟨Tryz.prog,qd8,[qcj],[]⟩ ρ):(qd8).ok Tryz.prog :=
 qe Tryz.func80 (fun a w=>Tryz.call80 a w) hd 100000 (fun ρ hg hp=>by rw [q1q]; exact h ρ hg hp)
def qkE:Out:=(.fresh 4 (.fresh 5 (.both (.pre 0 (sg 0 [bt 3 (.rcons (.vint .i64 (.var 2)) (r8 3)),bt 2 (.rcons (.vint .i64 (.var 0)) (r8 1)),bg 1 5,bg 0 4]) (.both (.fresh 6 (.post 0 0 (sg 0 [bt 3 (.rcons (.vint .i64 (.var 2)) (r8 3)),bt 2 (.rcons (.vint .i64 (.var 0)) (r8 1)),bg 1 5,bg 0 4]) 6 (.br (.cmp .neq (.var 6) (.lit 0))
 (.ret 0 (sg 4 [bv 4 6]))
 (.ret 0 (sg 4 [bt 4 (.arith .sub .i64 (.var 0) (.var 2))]))))) .top)) .top)))
theorem qup:qk ⟨Tryz.prog,qcA,[qj0],[]⟩ 100000 Tryz.f81 = qkE:=by kernel_rfl
theorem qyp (hd:∀ c ∈ ([qj0]:List Ctr),c.ok Tryz.prog) (h:∀ ρ:Env,ρ.good->(qcA).pre ρ->qkE.den ⟨Tryz.prog,qcA,[qj0],[]⟩ ρ):(qcA).ok Tryz.prog :=
 qe Tryz.func81 (fun a w=>Tryz.call81 a w) hd 100000 (fun ρ hg hp=>by rw [qup]; exact h ρ hg hp)
@[simp] def qoP:Out:=.fresh 10 (.both (.fresh 11 (.both (.both (.br (.c2 .req (r8 6) (r8 8))
 (.ret 0 (sg 5 [bt 5 (.cmp .lss (.var 1) (.var 2))]))
 (.pre 1 (sg 0 [bv 2 2,bt 3 (r8 8),bv 0 1,bt 1 (r8 6)]) (.both (.fresh 12 (.post 1 0 (sg 0 [bv 2 2,bt 3 (r8 8),bv 0 1,bt 1 (r8 6)]) 12 (.ret 0 (sg 5 [bt 5 (.cmp .lss (.var 12) (.lit 0))])))) .top))) .top) .top)) .top)
@[simp] def qo2:Out:=.fresh 8 (.both (.pre 0 (sg 0 [bv 3 4,bv 1 2,bt 0 (r8 0),bg 2 3]) (.both (.fresh 9 (.fresh 10 (.post 0 0 (sg 0 [bv 3 4,bv 1 2,bt 0 (r8 0),bg 2 3]) 9 (.both (.fresh 11 (.both (.both (.br (.c2 .req (r8 6) (r8 9))
 (.ret 0 (sg 5 [bt 5 (.cmp .lss (.var 1) (.var 2))]))
 (.pre 1 (sg 0 [bv 2 2,bt 3 (r8 9),bv 0 1,bt 1 (r8 6)]) (.both (.fresh 12 (.post 1 0 (sg 0 [bv 2 2,bt 3 (r8 9),bv 0 1,bt 1 (r8 6)]) 12 (.ret 0 (sg 5 [bt 5 (.cmp .lss (.var 12) (.lit 0))])))) .top))) .top) .top)) .top)))) .top)) (.both (.fresh 9 (.both (.pre 0 (sg 0 [bv 3 4,bv 1 2,bt 0 (r8 0),bg 2 3]) (.both (.fresh 10 (.fresh 11 (.post 0 0 (sg 0 [bv 3 4,bv 1 2,bt 0 (r8 0),bg 2 3]) 10 (.both (.both (.br (.c2 .req (r8 6) (r8 10))
 (.ret 0 (sg 5 [bt 5 (.cmp .lss (.var 1) (.var 2))]))
 (.pre 1 (sg 0 [bv 2 2,bt 3 (r8 10),bv 0 1,bt 1 (r8 6)]) (.both (.fresh 12 (.post 1 0 (sg 0 [bv 2 2,bt 3 (r8 10),bv 0 1,bt 1 (r8 6)]) 12 (.ret 0 (sg 5 [bt 5 (.cmp .lss (.var 12) (.lit 0))])))) .top))) .top) .top)))) .top)) .top)) .top))
@[simp] def qoz:Out:=.fresh 6 (.both (.pre 0 (sg 0 [bv 3 4,bv 1 1,bt 0 (r8 0),bg 2 3]) (.both (.fresh 7 (.fresh 8 (.post 0 0 (sg 0 [bv 3 4,bv 1 1,bt 0 (r8 0),bg 2 3]) 7 (.both (.pre 0 (sg 0 [bv 3 4,bv 1 2,bt 0 (r8 0),bg 2 3]) (.both (.fresh 9 (.fresh 10 (.post 0 0 (sg 0 [bv 3 4,bv 1 2,bt 0 (r8 0),bg 2 3]) 9 (.both (.fresh 11 (.both (.both (.br (.c2 .req (r8 7) (r8 9))
 (.ret 0 (sg 5 [bt 5 (.cmp .lss (.var 1) (.var 2))]))
 (.pre 1 (sg 0 [bv 2 2,bt 3 (r8 9),bv 0 1,bt 1 (r8 7)]) (.both (.fresh 12 (.post 1 0 (sg 0 [bv 2 2,bt 3 (r8 9),bv 0 1,bt 1 (r8 7)]) 12 (.ret 0 (sg 5 [bt 5 (.cmp .lss (.var 12) (.lit 0))])))) .top))) .top) .top)) .top)))) .top)) (.both (.fresh 9 (.both (.pre 0 (sg 0 [bv 3 4,bv 1 2,bt 0 (r8 0),bg 2 3]) (.both (.fresh 10 (.fresh 11 (.post 0 0 (sg 0 [bv 3 4,bv 1 2,bt 0 (r8 0),bg 2 3]) 10 (.both (.both (.br (.c2 .req (r8 7) (r8 10))
 (.ret 0 (sg 5 [bt 5 (.cmp .lss (.var 1) (.var 2))]))
 (.pre 1 (sg 0 [bv 2 2,bt 3 (r8 10),bv 0 1,bt 1 (r8 7)]) (.both (.fresh 12 (.post 1 0 (sg 0 [bv 2 2,bt 3 (r8 10),bv 0 1,bt 1 (r8 7)]) 12 (.ret 0 (sg 5 [bt 5 (.cmp .lss (.var 12) (.lit 0))])))) .top))) .top) .top)))) .top)) .top)) .top))))) .top)) (.both (.fresh 7 (.both (.pre 0 (sg 0 [bv 3 4,bv 1 1,bt 0 (r8 0),bg 2 3]) (.both (.fresh 8 (.fresh 9 (.post 0 0 (sg 0 [bv 3 4,bv 1 1,bt 0 (r8 0),bg 2 3]) 8 (.both (.pre 0 (sg 0 [bv 3 4,bv 1 2,bt 0 (r8 0),bg 2 3]) (.both (.fresh 10 (.fresh 11 (.post 0 0 (sg 0 [bv 3 4,bv 1 2,bt 0 (r8 0),bg 2 3]) 10 (.both (.both (.br (.c2 .req (r8 8) (r8 10))
 (.ret 0 (sg 5 [bt 5 (.cmp .lss (.var 1) (.var 2))]))
 (.pre 1 (sg 0 [bv 2 2,bt 3 (r8 10),bv 0 1,bt 1 (r8 8)]) (.both (.fresh 12 (.post 1 0 (sg 0 [bv 2 2,bt 3 (r8 10),bv 0 1,bt 1 (r8 8)]) 12 (.ret 0 (sg 5 [bt 5 (.cmp .lss (.var 12) (.lit 0))])))) .top))) .top) .top)))) .top)) .top)))) .top)) .top)) .top))
def qnc:Out:=(.fresh 5 (.both (.pre 0 (sg 0 [bv 3 4,bv 1 1,bt 0 (r8 0),bg 2 3]) (.both (.fresh 6 (.fresh 7 (.post 0 0 (sg 0 [bv 3 4,bv 1 1,bt 0 (r8 0),bg 2 3]) 6 (.both (.pre 0 (sg 0 [bv 3 4,bv 1 2,bt 0 (r8 0),bg 2 3]) (.both (.fresh 8 (.fresh 9 (.post 0 0 (sg 0 [bv 3 4,bv 1 2,bt 0 (r8 0),bg 2 3]) 8 (.both qoP (.both qoP .top))))) .top)) (.both qo2 (.both qo2 .top)))))) .top)) (.both qoz (.both qoz .top))))
theorem qvW:qk ⟨Tryz.prog,qaH,[qd8,qcA],[]⟩ 100000 Tryz.f26 = qnc:=by kernel_rfl
theorem q1V (hd:∀ c ∈ ([qd8,qcA]:List Ctr),c.ok Tryz.prog) (h:∀ ρ:Env,ρ.good->(qaH).pre ρ->qnc.den ⟨Tryz.prog,qaH,[qd8,qcA],[]⟩ ρ):(qaH).ok Tryz.prog :=
 qe Tryz.func26 (fun a w=>Tryz.call26 a w) hd 100000 (fun ρ hg hp=>by rw [qvW]; exact h ρ hg hp)
end Go.Proofs

set_option linter.unusedSimpArgs false
set_option linter.unusedVariables false
namespace Go.Proofs
open Go Go.Eng
set_option maxRecDepth 20000
theorem qqK:qcl.ok Tryz.prog:=q6n (by simp) fun ρ hg hp=>by
 simp (config:={ maxSteps:=4000000 }) [qsZ,qcl,qoo]
 exact ⟨fun h=>by simp [qH,h],fun h1 h2=>by omega⟩
theorem qzT (d:qd) (p:Int):(qf d 32).map (fun x=>[Value.int .u8 x]) ++ [[Value.int .u8 (IntKind.u8.wrap p)]] = [[.int .u8 (qa d 0)],[.int .u8 (qa d 1)],[.int .u8 (qa d 2)],[.int .u8 (qa d 3)],[.int .u8 (qa d 4)],[.int .u8 (qa d 5)],[.int .u8 (qa d 6)],[.int .u8 (qa d 7)],[.int .u8 (qa d 8)],[.int .u8 (qa d 9)],[.int .u8 (qa d 10)],[.int .u8 (qa d 11)],[.int .u8 (qa d 12)],[.int .u8 (qa d 13)],[.int .u8 (qa d 14)],[.int .u8 (qa d 15)],[.int .u8 (qa d 16)],[.int .u8 (qa d 17)],[.int .u8 (qa d 18)],[.int .u8 (qa d 19)],[.int .u8 (qa d 20)],[.int .u8 (qa d 21)],[.int .u8 (qa d 22)],[.int .u8 (qa d 23)],[.int .u8 (qa d 24)],[.int .u8 (qa d 25)],[.int .u8 (qa d 26)],[.int .u8 (qa d 27)],[.int .u8 (qa d 28)],[.int .u8 (qa d 29)],[.int .u8 (qa d 30)],[.int .u8 (qa d 31)],[.int .u8 (IntKind.u8.wrap p)]]:=rfl
theorem qsY (d:qd) (p:Int):bI ((qf d 32).map (fun x=>[Value.int .u8 x]) ++ [[Value.int .u8 (IntKind.u8.wrap p)]]) = qf d 32 ++ [p % 256]:=by
 rw [qtL]
 congr 1
theorem qxZ {d:qd} {p:Int} (h:qS (qf d 32)):q9 ((qf d 32).map (fun x=>[Value.int .u8 x]) ++ [[Value.int .u8 (IntKind.u8.wrap p)]]):=by
 refine q5R ?_
 rw [qsY]
 intro x hx
 rcases List.mem_append.1 hx with hx | hx
 ·exact h x hx
 ·rw [List.mem_singleton.1 hx]; exact ⟨Int.emod_nonneg _ (by decide),Int.emod_lt_of_pos _ (by decide)⟩
theorem qvk:qcj.ok Tryz.prog:=q3w (by simp [qlC]) fun ρ hg hp=>by
 obtain ⟨hO,hGr,hGd⟩:=hp
 simp (config:={ maxSteps:=4000000 }) [qqn,qcj,qaI,qmf,gOk,hGr,hGd,hO]
 rw [<- qzT]
 refine fun u _ hu=>⟨⟨by omega,qxZ hO⟩,fun v _ hv=>?_⟩
 rw [hv,qjH (by simp [qf]),qsY]; rfl
theorem qwL:qd8.ok Tryz.prog:=q6f (by simp [qvk]) fun ρ hg hp=>by
 obtain ⟨hO,hGr,hGd⟩:=hp
 simp (config:={ maxSteps:=4000000 }) [quG,qd8,qcj,gOk,hGr,hGd,hO]
theorem qzM:qcA.ok Tryz.prog:=qyp (by simp [q6c]) fun ρ hg hp=>by
 obtain ⟨h1,h3⟩:=hp
 simp (config:={ maxSteps:=4000000 }) [qkE,qcA,qj0]
 refine ⟨⟨⟨_,rfl,rfl⟩,⟨_,rfl,rfl⟩,h1,h3⟩,fun u _ hu=>?_⟩
 have hu:u.i = qbw (qf (ρ 1).d 32) (qf (ρ 3).d 32):=hu
 rw [<- hu]
 exact ⟨fun h=>by simp [h],fun h=>by simp [h]⟩
theorem qlr:qaH.ok Tryz.prog:=q1V (by simp [qwL,qzM]) fun ρ hg hp=>by
 obtain ⟨hO,hGr,hGd⟩:=hp
 simp (config:={ maxSteps:=4000000 }) [qnc,qaH,qd8,qcA,gOk,hGr,hGd,hO]
 intro u _ hu u1 _ hu1
 rw [hu,hu1]
 unfold qI
 refine ⟨fun h=>by rw [if_pos h]; rfl,fun h=>⟨⟨qge _,qge _⟩,fun v _ hv=>?_⟩⟩
 rw [if_neg (fun h'=>h (qfl.1 h'))] at hv
 rw [if_neg h,hv]; rfl
theorem qmY {L:List Int}:qdn [List.replicate 16 (.bool false)] L 0:=by
 refine ⟨⟨_,rfl,List.length_replicate ..⟩,fun x h0 h1=>⟨fun h=>?_,fun h=>by simp at h⟩⟩
 exfalso
 have h2:qaN [List.replicate 16 (Value.bool false)] x.toNat = false:=by
  unfold qaN
  rw [List.headD_cons,List.getElem?_replicate,if_pos (by omega)]; rfl
 rw [h2] at h; cases h
theorem qg6 {L:List Int} {n:Nat} (hn:n < L.length):L.take (n + 1) = L.take n ++ [L.getD n 0]:=by
 rw [List.take_add_one,List.getElem?_eq_getElem hn,List.getD_eq_getElem?_getD,List.getElem?_eq_getElem hn]; rfl
theorem qmU {s:qd} {L:List Int} {n:Nat} {y:Int} (h:qdn s L n) (hn:n < L.length) (hy:y = L.getD n 0) (h0:0 <= y) (h1:y < 16):qdn (qau s y.toNat (.bool true)) L (n + 1):=by
 obtain ⟨⟨row,rfl,hr⟩,h2⟩:=h
 refine ⟨⟨_,rfl,by rw [List.length_set]; exact hr⟩,fun x x0 x1=>?_⟩
 have hc:qaN (qau [row] y.toNat (.bool true)) x.toNat = if x = y then true else qaN [row] x.toNat:=by
  unfold qaN qau
  rw [List.headD_cons,List.headD_cons,List.getElem?_set]
  by_cases hxe:x = y
  ·rw [if_pos (by rw [hxe]),if_pos (by omega),if_pos hxe]; rfl
  ·rw [if_neg (fun e=>hxe (by omega)),if_neg hxe]
 rw [hc,qg6 hn,<- hy,List.mem_append,List.mem_singleton]
 by_cases hxe:x = y
 ·rw [if_pos hxe]; exact ⟨fun _=>.inr hxe,fun _=>rfl⟩
 ·rw [if_neg hxe,h2 x x0 x1]
  exact ⟨.inl,fun h=>h.resolve_right hxe⟩
theorem qmM {s:qd} {L:List Int} {n:Nat} {y:Int} (h:qdn s L n) (hn:n < L.length) (hy:y = L.getD n 0) (hne:¬ (0 <= y/\y < 16)):qdn s L (n + 1):=by
 refine ⟨h.1,fun x x0 x1=>?_⟩
 rw [h.2 x x0 x1,qg6 hn,<- hy,List.mem_append,List.mem_singleton]
 exact ⟨.inl,fun h=>h.resolve_right (fun e=>hne (by omega))⟩
theorem qcQ {d:qd} {i:Int} (h0:0 <= i) (h1:i < d.length):qg d i 0 = (qu d).getD i.toNat 0:=by
 have hl:i.toNat < d.length:=by omega
 rw [qu,List.getD_eq_getElem?_getD,List.getElem?_map,List.getElem?_eq_getElem hl]
 simp [qg,qJ,qbD,List.getElem?_eq_getElem hl]
theorem qtF:qc8.ok Tryz.prog:=q7e (by simp [qqK]) fun ρ hg hp=>by
 obtain ⟨hl,h1,hr⟩:=hp
 simp only [Nat.reduceAdd] at hl h1 hr
 simp (config:={ maxSteps:=4000000 }) [qmt,qc8,qpO,qcl,hl]
 have hil:(qu (ρ 3).d).length = (ρ 3).d.length:=by simp [qu]
 refine ⟨qmY,fun s _ i _ i0 i1 hs=>⟨fun hi=>⟨i0,hi,fun u _ hu=>⟨fun ht=>?_,fun hf=>?_⟩⟩,fun hi=>?_⟩⟩
 ·have hp:0 <= qg (ρ 3).d i.i 0/\qg (ρ 3).d i.i 0 < 16:=by rw [hu] at ht; exact of_decide_eq_true ht
  have hsl:0 < s.d.length:=by obtain ⟨⟨row,e,_⟩,_⟩:=hs; rw [e]; exact Nat.one_pos
  rw [add64 (x:=i.i) (by omega) (by omega)]
  refine ⟨hp.1,hp.2,hsl,⟨by omega,by omega,?_⟩,by omega⟩
  rw [show (i.i + 1).toNat = i.i.toNat + 1 by omega]
  exact qmU hs (by omega) (qcQ i0 hi) hp.1 hp.2
 ·have hp:¬ (0 <= qg (ρ 3).d i.i 0/\qg (ρ 3).d i.i 0 < 16):=by rw [hu] at hf; exact of_decide_eq_false hf
  rw [add64 (x:=i.i) (by omega) (by omega)]
  refine ⟨⟨by omega,by omega,?_⟩,by omega⟩
  rw [show (i.i + 1).toNat = i.i.toNat + 1 by omega]
  exact qmM hs (by omega) (qcQ i0 hi) hp
 ·obtain ⟨⟨row,hs1,hrl⟩,hs2⟩:=hs
  rw [List.take_of_length_le (by omega)] at hs2
  rw [hs1] at hs2 ⊢
  match row,hrl with
  | [a0,a1,a2,a3,a4,a5,a6,a7,a8,a9,a10,a11,a12,a13,a14,a15],_ =>
   refine ⟨by simp,?_⟩
   have key:qeJ ((List.range 16).map (qaN [[a0,a1,a2,a3,a4,a5,a6,a7,a8,a9,a10,a11,a12,a13,a14,a15]])) (qu (ρ 3).d):=⟨by simp,fun j hj=>by
    rw [List.getD_eq_getElem?_getD,List.getElem?_map,List.getElem?_range hj]
    exact hs2 j (by omega) (by omega)⟩
   exact key
end Go.Proofs

set_option linter.unusedSimpArgs false
set_option linter.unusedVariables false
set_option maxRecDepth 100000
namespace Go.Proofs
open Go Go.Eng

def qzA:Out:=(.inv 0 6 (sg 1000 [bt 1000 (.lit 0)]) (.fresh 6 (.hyp 0 6 (.need (.cmp .leq (.lit 0) (.var 1)) (.br (.cmp .lss (.var 6) (.var 1))
 (.need (.cmp .leq (.lit 0) (.var 6)) (.need (.cmp .lss (.var 6) (.dlen (.var 3))) (.br (.cmp .eql (.icell (.var 3) (.var 6) 0) (.var 5))
 (.ret 0 (sg 6 [bt 6 (.bl true)]))
 (.back 0 6 (sg 1000 [bt 1000 (.arith .add .i64 (.var 6) (.lit 1))])))))
 (.ret 0 (sg 6 [bt 6 (.bl false)])))))))
theorem q35:qk ⟨Tryz.prog,qi6,[],[q2F]⟩ 100000 Tryz.f34 = qzA:=by kernel_rfl
theorem q7d (hd:∀ c ∈ ([]:List Ctr),c.ok Tryz.prog) (h:∀ ρ:Env,ρ.good->(qi6).pre ρ->qzA.den ⟨Tryz.prog,qi6,[],[q2F]⟩ ρ):(qi6).ok Tryz.prog :=
 qe Tryz.func34 (fun a w=>Tryz.call34 a w) hd 100000 (fun ρ hg hp=>by rw [q35]; exact h ρ hg hp)
def qvi:Out:=(.fresh 5 (.need (.cmp .leq (.lit 0) (.var 1)) (.need (.cmp .leq (.var 1) (.dlen (.var 3))) (.need (.cmp .leq (.tims (.lit 8) (.var 1)) (.lit 140737488355328)) (.fresh 6 (.fresh 7 (.ret 0 (sg 5 [bt 7 (.dtake (.var 3) (.var 1)),bv 6 7,bg 5 6]))))))))
theorem q1k:qk ⟨Tryz.prog,qgw,[],[]⟩ 100000 Tryz.f33 = qvi:=by kernel_rfl
theorem q51 (hd:∀ c ∈ ([]:List Ctr),c.ok Tryz.prog) (h:∀ ρ:Env,ρ.good->(qgw).pre ρ->qvi.den ⟨Tryz.prog,qgw,[],[]⟩ ρ):(qgw).ok Tryz.prog :=
 qe Tryz.func33 (fun a w=>Tryz.call33 a w) hd 100000 (fun ρ hg hp=>by rw [q1k]; exact h ρ hg hp)
end Go.Proofs

set_option linter.unusedSimpArgs false
set_option linter.unusedVariables false
namespace Go.Proofs
open Go Go.Eng
set_option maxRecDepth 20000
theorem qcc {d:qd}:(qu d).length = d.length:=by simp [qu]
theorem q6I:qi6.ok Tryz.prog:=q7d (by simp) fun ρ hg hp=>by
 obtain ⟨hl,h1,hr⟩:=hp
 simp only [Nat.reduceAdd] at hl h1 hr
 simp (config:={ maxSteps:=4000000 }) [qzA,qi6,q2F,hl]
 have hil:=qcc (d:=(ρ 3).d)
 intro i _ i0 i1 hno
 refine ⟨fun hi=>⟨i0,hi,fun he=>?_,fun hne=>?_⟩,fun hi=>?_⟩
 ·rw [qcQ i0 hi] at he
  rw [<- he,List.getD_eq_getElem?_getD,List.getElem?_eq_getElem (by omega)]
  exact List.getElem_mem _
 ·rw [qcQ i0 hi] at hne
  rw [add64 (x:=i.i) (by omega) (by omega)]
  refine ⟨⟨by omega,by omega,?_⟩,by omega⟩
  rw [show (i.i + 1).toNat = i.i.toNat + 1 by omega,qg6 (by omega),List.mem_append,List.mem_singleton]
  exact fun h=>h.elim hno fun h=>hne h.symm
 ·rw [List.take_of_length_le (by omega)] at hno
  exact hno
theorem q5z:qgw.ok Tryz.prog:=q51 (by simp) fun ρ hg hp=>by
 obtain ⟨hl,h1,hr⟩:=hp
 simp only [Nat.reduceAdd] at hl h1 hr
 simp (config:={ maxSteps:=4000000 }) [qvi,qgw,hl]
 omega
end Go.Proofs

set_option linter.unusedSimpArgs false
set_option linter.unusedVariables false
set_option maxRecDepth 100000
namespace Go.Proofs
open Go Go.Eng

def qqC:Out:=(.need (.cmp .leq (.lit 0) (.var 1)) (.inv 0 6 (sg 1000 [bt 1000 (.lit 0)]) (.fresh 6 (.hyp 0 6 (.br (.cmp .lss (.var 6) (.var 1))
 (.need (.cmp .leq (.lit 0) (.var 6)) (.need (.cmp .lss (.var 6) (.dlen (.var 3))) (.br (.cmp .eql (.var 5) (.icell (.var 3) (.var 6) 0))
 (.ret 0 (sg 6 [bv 6 6]))
 (.back 0 6 (sg 1000 [bt 1000 (.arith .add .i64 (.var 6) (.lit 1))])))))
 (.ret 0 (sg 6 [bt 6 (.lit (-1))])))))))
theorem qz7:qk ⟨Tryz.prog,qe6,[],[qs5]⟩ 100000 Tryz.f121 = qqC:=by kernel_rfl
theorem q3Z (hd:∀ c ∈ ([]:List Ctr),c.ok Tryz.prog) (h:∀ ρ:Env,ρ.good->(qe6).pre ρ->qqC.den ⟨Tryz.prog,qe6,[],[qs5]⟩ ρ):(qe6).ok Tryz.prog :=
 qe Tryz.func121 (fun a w=>Tryz.call121 a w) hd 100000 (fun ρ hg hp=>by rw [qz7]; exact h ρ hg hp)
def qka:Out:=(.pre 0 (sg 0 [bv 4 4,bv 3 3,bv 5 5,bv 2 2,bv 1 1,bg 0 0]) (.both (.fresh 6 (.post 0 0 (sg 0 [bv 4 4,bv 3 3,bv 5 5,bv 2 2,bv 1 1,bg 0 0]) 6 (.ret 0 (sg 6 [bt 6 (.cmp .geq (.var 6) (.lit 0))])))) .top))
theorem qsc:qk ⟨Tryz.prog,qaG,[qe6],[]⟩ 100000 Tryz.f84 = qka:=by kernel_rfl
theorem qwg (hd:∀ c ∈ ([qe6]:List Ctr),c.ok Tryz.prog) (h:∀ ρ:Env,ρ.good->(qaG).pre ρ->qka.den ⟨Tryz.prog,qaG,[qe6],[]⟩ ρ):(qaG).ok Tryz.prog :=
 qe Tryz.func84 (fun a w=>Tryz.call84 a w) hd 100000 (fun ρ hg hp=>by rw [qsc]; exact h ρ hg hp)
end Go.Proofs

set_option linter.unusedSimpArgs false
set_option linter.unusedVariables false
namespace Go.Proofs
open Go Go.Eng
set_option maxRecDepth 20000
theorem qdI {L:List Int} {n:Nat}:qG L (n + 1) = qG L n ++ (if (n:Int) ∈ L then [(n:Int)] else []):=by
 unfold qG
 rw [List.range_succ,List.map_append,List.filter_append]
 congr 1
 simp only [List.map_cons,List.map_nil,List.filter_cons,List.filter_nil,decide_eq_true_eq]
theorem qkD {d:qd} {x:Int}:qu (d ++ [[.int .i64 x]]) = qu d ++ [x]:=by simp [qu,qbD,qaf]
theorem q3d:qe6.ok Tryz.prog:=q3Z (by simp) fun ρ hg hp=>by
 obtain ⟨hl,h1,hr⟩:=hp
 simp only [Nat.reduceAdd] at hl h1 hr
 simp (config:={ maxSteps:=4000000 }) [qqC,qe6,qs5,hl]
 have hil:=qcc (d:=(ρ 3).d)
 intro i _ i0 i1 hno
 refine ⟨fun hi=>⟨i0,hi,fun he=>⟨fun _=>?_,fun _=>i0⟩,fun hne=>?_⟩,fun hi=>?_⟩
 ·rw [he,qcQ i0 hi,List.getD_eq_getElem?_getD,List.getElem?_eq_getElem (by omega)]
  exact List.getElem_mem _
 ·rw [qcQ i0 hi] at hne
  rw [add64 (x:=i.i) (by omega) (by omega)]
  refine ⟨⟨by omega,by omega,?_⟩,by omega⟩
  rw [show (i.i + 1).toNat = i.i.toNat + 1 by omega,qg6 (by omega),List.mem_append,List.mem_singleton]
  exact fun h=>h.elim hno fun h=>hne h
 ·rw [List.take_of_length_le (by omega)] at hno
  exact hno
theorem qmK:qaG.ok Tryz.prog:=qwg (by simp [q3d]) fun ρ hg hp=>by
 obtain ⟨hl,h1,hr⟩:=hp
 simp only [Nat.reduceAdd] at hl h1 hr
 simp (config:={ maxSteps:=4000000 }) [qka,qaG,qe6,qco,qbf,hl]
 refine ⟨⟨by omega,hr⟩,fun u _ hu=>?_⟩
 show decide (u.i ≥ 0) = _
 exact decide_eq_decide.2 hu
end Go.Proofs

set_option linter.unusedSimpArgs false
set_option linter.unusedVariables false
set_option maxRecDepth 100000
namespace Go.Proofs
open Go Go.Eng

def qnF:Out:=(.fresh 9 (.pre 0 (sg 0 [bv 4 5,bv 3 4,bv 2 3,bv 1 2,bg 0 1]) (.both (.fresh 10 (.fresh 11 (.fresh 12 (.fresh 13 (.fresh 14 (.fresh 15 (.fresh 16 (.fresh 17 (.fresh 18 (.fresh 19 (.fresh 20 (.fresh 21 (.fresh 22 (.fresh 23 (.fresh 24 (.fresh 25 (.post 0 0 (sg 0 [bv 4 5,bv 3 4,bv 2 3,bv 1 2,bg 0 1]) 10 (.inv 0 26 (sg 1000 [bt 1005 .dnil,bt 1001 (.lit 0),bt 1004 (.lit 0),bt 1003 (.lit 0),(1002,.nil),bg 1000 9]) (.fresh 26 (.fresh 27 (.fresh 28 (.fresh 29 (.fresh 30 (.fresh 31 (.hyp 0 26 (.br (.cmp .lss (.var 27) (.lit 16))
 (.need (.cmp .leq (.lit 0) (.var 27)) (.br (.c2 (.xbool 0) (.rcons (.vbool (.var 10)) (.rcons (.vbool (.var 11)) (.rcons (.vbool (.var 12)) (.rcons (.vbool (.var 13)) (.rcons (.vbool (.var 14)) (.rcons (.vbool (.var 15)) (.rcons (.vbool (.var 16)) (.rcons (.vbool (.var 17)) (.rcons (.vbool (.var 18)) (.rcons (.vbool (.var 19)) (.rcons (.vbool (.var 20)) (.rcons (.vbool (.var 21)) (.rcons (.vbool (.var 22)) (.rcons (.vbool (.var 23)) (.rcons (.vbool (.var 24)) (.rcons (.vbool (.var 25)) .rnil)))))))))))))))) (.var 27))
 (.pre 1 (sg 0 [bv 3 8,bv 1 27,bt 0 (r8 0),bg 2 7]) (.both (.fresh 32 (.fresh 33 (.post 1 0 (sg 0 [bv 3 8,bv 1 27,bt 0 (r8 0),bg 2 7]) 32 (.fresh 34 (.need (.cmp .eql (.var 29) (.dlen (.var 31))) (.need (.cmp .leq (.tims (.lit 40) (.plus (.var 29) (.lit 1))) (.lit 140737488355328)) (.fresh 35 (.fresh 36 (.back 0 26 (sg 1000 [bt 1005 (.dapp (.var 31) (.rcons (.vint .i64 (.var 27)) (r8 32))),bt 1001 (.arith .add .i64 (.var 27) (.lit 1)),bv 1004 36,bt 1003 (.plus (.var 29) (.lit 1)),bg 1002 35,bg 1000 26])))))))))) .top))
 (.back 0 26 (sg 1000 [bv 1005 31,bt 1001 (.arith .add .i64 (.var 27) (.lit 1)),bv 1004 30,bv 1003 29,bg 1002 28,bg 1000 26]))))
 (.pre 2 (sg 0 [bv 3 31,bv 2 30,bv 1 29,bg 0 28]) (.both (.fresh 32 (.post 2 0 (sg 0 [bv 3 31,bv 2 30,bv 1 29,bg 0 28]) 32 (.fresh 33 (.need (.cmp .leq (.lit 0) (.var 29)) (.know (.cmp .leq (.dlen (.var 32)) (.var 30)) (.need (.cmp .leq (.lit 0) (.var 30)) (.need (.cmp .leq (.lit 0) (.imin (.imax (.var 6) (.lit 0)) (.var 29))) (.need (.cmp .leq (.imin (.imax (.var 6) (.lit 0)) (.var 29)) (.var 30)) (.inv 1 34 (sg 1000 [bt 1008 .dnil,bv 1007 32,bt 1006 (.lit 0),bt 1005 (.lit 0),bg 1004 33,bt 1003 (.lit 0),bv 1002 30,bt 1001 (.imin (.imax (.var 6) (.lit 0)) (.var 29)),bg 1000 28]) (.fresh 34 (.fresh 35 (.fresh 36 (.fresh 37 (.fresh 38 (.fresh 39 (.fresh 40 (.fresh 41 (.fresh 42 (.hyp 1 34 (.br (.cmp .lss (.var 37) (.var 35))
 (.need (.cmp .leq (.lit 0) (.var 37)) (.need (.cmp .lss (.var 37) (.dlen (.var 41))) (.fresh 43 (.fresh 44 (.need (.cmp .eql (.var 39) (.dlen (.var 42))) (.need (.cmp .leq (.tims (.lit 8) (.plus (.var 39) (.lit 1))) (.lit 140737488355328)) (.fresh 45 (.fresh 46 (.back 1 34 (sg 1000 [bt 1008 (.dapp (.var 42) (.rcons (.vint .i64 (.icell (.var 41) (.var 37) 0)) .rnil)),bv 1007 41,bv 1006 46,bt 1005 (.plus (.var 39) (.lit 1)),bg 1004 45,bt 1003 (.arith .add .i64 (.var 37) (.lit 1)),bv 1002 36,bv 1001 35,bg 1000 34]))))))))))
 (.ret 0 (sg 9 [bv 12 42,bv 11 40,bv 10 39,bg 9 38])))))))))))))))))))))) .top)))))))))))))))))))))))))))) .top)))
theorem qwq:qk ⟨Tryz.prog,qaZ,[qc8,qd8,qec],[qpT,qpA]⟩ 100000 Tryz.f32 = qnF:=by kernel_rfl
theorem q1r (hd:∀ c ∈ ([qc8,qd8,qec]:List Ctr),c.ok Tryz.prog) (h:∀ ρ:Env,ρ.good->(qaZ).pre ρ->qnF.den ⟨Tryz.prog,qaZ,[qc8,qd8,qec],[qpT,qpA]⟩ ρ):(qaZ).ok Tryz.prog :=
 qe Tryz.func32 (fun a w=>Tryz.call32 a w) hd 100000 (fun ρ hg hp=>by rw [qwq]; exact h ρ hg hp)
def qlB:Out:=(.fresh 4 (.fresh 5 (.inv 0 6 (sg 1000 [bt 1004 .dnil,bt 1005 (.lit 0),bt 1006 (.imin (.imax (.var 1) (.lit 0)) (.lit 16)),bt 1003 (.lit 0),bt 1002 (.lit 0),bg 1001 5,bg 1000 4]) (.fresh 6 (.fresh 7 (.fresh 8 (.fresh 9 (.fresh 10 (.fresh 11 (.fresh 12 (.hyp 0 6 (.br (.cmp .lss (.var 11) (.var 12))
 (.fresh 13 (.need (.cmp .eql (.var 8) (.dlen (.var 10))) (.need (.cmp .leq (.tims (.lit 8) (.plus (.var 8) (.lit 1))) (.lit 140737488355328)) (.fresh 14 (.fresh 15 (.back 0 6 (sg 1000 [bt 1004 (.dapp (.var 10) (.rcons (.vint .i64 (.var 11)) .rnil)),bt 1005 (.arith .add .i64 (.var 11) (.lit 1)),bv 1006 12,bv 1003 15,bt 1002 (.plus (.var 8) (.lit 1)),bg 1001 14,bg 1000 6])))))))
 (.pre 0 (sg 0 [bv 8 3,bv 5 9,bv 4 10,bt 6 (.lit 16),bv 3 9,bv 2 8,bg 1 7,bt 0 (r8 0),bg 7 2]) (.both (.fresh 13 (.fresh 14 (.fresh 15 (.fresh 16 (.post 0 0 (sg 0 [bv 8 3,bv 5 9,bv 4 10,bt 6 (.lit 16),bv 3 9,bv 2 8,bg 1 7,bt 0 (r8 0),bg 7 2]) 13 (.ret 0 (sg 4 [bv 7 16,bv 6 15,bv 5 14,bg 4 13]))))))) .top))))))))))))))
theorem qu6:qk ⟨Tryz.prog,qce,[qaZ],[qnG]⟩ 100000 Tryz.f29 = qlB:=by kernel_rfl
theorem qzG (hd:∀ c ∈ ([qaZ]:List Ctr),c.ok Tryz.prog) (h:∀ ρ:Env,ρ.good->(qce).pre ρ->qlB.den ⟨Tryz.prog,qce,[qaZ],[qnG]⟩ ρ):(qce).ok Tryz.prog :=
 qe Tryz.func29 (fun a w=>Tryz.call29 a w) hd 100000 (fun ρ hg hp=>by rw [qu6]; exact h ρ hg hp)
def qva:Out:=(.fresh 12 (.br (.var 9)
 (.br (.var 8)
 (.ret 0 (sg 12 [bt 12 (.lit 3)]))
 (.ret 0 (sg 12 [bt 12 (.lit 0)])))
 (.br (.cmp .lss (.var 7) (.lit 1))
 (.ret 0 (sg 12 [bt 12 (.lit 0)]))
 (.pre 0 (sg 0 [bv 8 11,bv 5 6,bv 4 5,bv 6 7,bv 3 4,bv 2 3,bg 1 2,bt 0 (r8 0),bg 7 10]) (.both (.fresh 13 (.fresh 14 (.fresh 15 (.fresh 16 (.post 0 0 (sg 0 [bv 8 11,bv 5 6,bv 4 5,bv 6 7,bv 3 4,bv 2 3,bg 1 2,bt 0 (r8 0),bg 7 10]) 13 (.pre 1 (sg 0 [bv 4 15,bv 3 16,bv 5 1,bv 2 15,bv 1 14,bg 0 13]) (.both (.fresh 17 (.post 1 0 (sg 0 [bv 4 15,bv 3 16,bv 5 1,bv 2 15,bv 1 14,bg 0 13]) 17 (.br (.var 17)
 (.br (.not (.var 8))
 (.ret 0 (sg 12 [bt 12 (.lit 1)]))
 (.ret 0 (sg 12 [bt 12 (.lit 0)])))
 (.br (.var 8)
 (.need (.cmp .leq (.lit 0) (.var 14)) (.br (.cmp .eql (.var 14) (.var 7))
 (.ret 0 (sg 12 [bt 12 (.lit 2)]))
 (.ret 0 (sg 12 [bt 12 (.lit 0)]))))
 (.ret 0 (sg 12 [bt 12 (.lit 0)])))))) .top))))))) .top)))))
theorem q1G:qk ⟨Tryz.prog,qf6,[qaZ,qaG],[]⟩ 100000 Tryz.f35 = qva:=by kernel_rfl
theorem q5B (hd:∀ c ∈ ([qaZ,qaG]:List Ctr),c.ok Tryz.prog) (h:∀ ρ:Env,ρ.good->(qf6).pre ρ->qva.den ⟨Tryz.prog,qf6,[qaZ,qaG],[]⟩ ρ):(qf6).ok Tryz.prog :=
 qe Tryz.func35 (fun a w=>Tryz.call35 a w) hd 100000 (fun ρ hg hp=>by rw [q1G]; exact h ρ hg hp)
end Go.Proofs

set_option linter.unusedSimpArgs false
set_option linter.unusedVariables false
namespace Go.Proofs
open Go Go.Eng
variable {o:List Int}
theorem qiZ {a b:Int}:(!qI o b a) = true↔qde o a b <= 0:=by
 rw [qfa,Bool.not_eq_true',decide_eq_false_iff_not,qjG (a:=a) (b:=b)]; omega
theorem qgU {l:List Int}:(qao o l).Perm l:=List.mergeSort_perm l _
theorem q4z {l:List Int}:(qao o l).Pairwise fun a b=>(!qI o b a) = true:=by
 refine List.pairwise_mergeSort (fun a b c h1 h2=>?_) (fun a b=>?_) l
 ·rw [qiZ] at h1 h2 ⊢
  by_cases e1:qde o a b = 0
  ·rw [qeZ.1 e1]; exact h2
  ·by_cases e2:qde o b c = 0
   ·rw [<- qeZ.1 e2]; exact h1
   ·have:=qkj (o:=o) (a:=a) (b:=b) (c:=c) (by omega) (by omega)
    omega
 ·rw [Bool.or_eq_true,qiZ,qiZ,qjG (a:=a) (b:=b)]; omega
theorem qt0 {l:List Int} (h:l.Nodup):qmd o l (qao o l):=by
 refine ⟨qgU,?_⟩
 have hn:(qao o l).Nodup:=qgU.nodup_iff.2 h
 refine List.Pairwise.imp₂ (fun a b h1 h2=>?_) q4z hn
 rcases qlH (o:=o) h2 with h | h
 ·exact h
 ·rw [h] at h1; cases h1
theorem qx3 {l m:List Int} (h:qmd o l m) (hn:l.Nodup):m = qao o l:=qvR h (qt0 hn)
theorem q1i {l:List Int} {x:Int}:x ∈ qao o l↔x ∈ l:=qgU.mem_iff
theorem qir {l:List Int}:(qao o l).length = l.length:=qgU.length_eq
theorem qiQ {L:List Int} {n:Nat} {x:Int}:x ∈ qG L n↔0 <= x/\x < n/\x ∈ L:=by
 unfold qG
 rw [List.mem_filter,List.mem_map]
 constructor
 ·rintro ⟨⟨i,hi,rfl⟩,h⟩
  rw [List.mem_range] at hi
  exact ⟨by omega,by omega,of_decide_eq_true h⟩
 ·rintro ⟨h0,h1,h2⟩
  exact ⟨⟨x.toNat,List.mem_range.2 (by omega),by omega⟩,decide_eq_true h2⟩
theorem qu0 {n:Nat}:((List.range n).map fun (i:Nat)=>(i:Int)).Nodup:=by
 rw [List.Nodup,List.pairwise_map]
 exact List.Pairwise.imp (fun h he=>h (by omega)) List.nodup_range
theorem qrX {L:List Int} {n:Nat}:(qG L n).Nodup:=List.Nodup.sublist List.filter_sublist qu0
theorem qrC {L:List Int}:qbM L = qG L 16:=rfl
theorem qzu {L:List Int} {x:Int}:x ∈ qbM L↔0 <= x/\x < 16/\x ∈ L:=by rw [qrC,qiQ]; rfl
theorem qmI {p:Int}:qS (qN o p):=qge _
theorem qkx {p:Int}:(qN o p).length = 32:=q5j
theorem qis {p:Int}:(qB o p).length = 33:=by simp [qB,qkx]
theorem quF {l:List Int}:qu (l.map (qB o)) = l:=by
 unfold qu
 rw [List.map_map]
 conv=>rhs; rw [<- List.map_id l]
 exact List.map_congr_left fun x _=>rfl
end Go.Proofs

set_option linter.unusedSimpArgs false
set_option linter.unusedVariables false
namespace Go.Proofs
open Go Go.Eng
set_option maxRecDepth 20000
theorem qx9 {l:List Bool} {i:Nat}:qaN [l.map Value.bool] i = l.getD i false:=by
 unfold qaN
 rw [List.headD_cons,List.getElem?_map,List.getD_eq_getElem?_getD]
 cases l[i]? <;> rfl
theorem qdi {l:List Bool} {L:List Int} {n:Nat} (h:qeJ l L) (hn:L.length <= n):qdn [l.map Value.bool] L n:=by
 refine ⟨⟨_,rfl,by rw [List.length_map]; exact h.1⟩,fun x x0 x1=>?_⟩
 rw [qx9,List.take_of_length_le hn]
 have:=h.2 x.toNat (by omega)
 rwa [Int.toNat_of_nonneg x0] at this
theorem qdY {D:qd}:(qu D).length <= D.length:=by simp [qu]
theorem qeS {d:qd} {L:List Int} {n:Nat} {x:Int} (h:qdn d L n) (hn:L.length <= n) (x0:0 <= x) (x1:x < 16):qaN d x.toNat = true↔x ∈ L:=by
 have:=h.2 x x0 x1
 rwa [List.take_of_length_le hn] at this
theorem qt5 {d:qd} {L:List Int} {n:Nat} (h:qdn d L n):0 < d.length:=by obtain ⟨⟨row,e,_⟩,_⟩:=h; rw [e]; exact Nat.one_pos
theorem qcM {i:Int} (h0:0 <= i) (h1:i < 1000000000000):qc .add .i64 i 1 = i + 1:=add64 (by omega) (by omega)
theorem qjI {d:qd} {L:List Int} {n:Nat} {x:Int} (h:qdn d L n) (hn:L.length <= n) (x0:0 <= x) (x1:x < 16) (hf:qaN d x.toNat = false):x ∉ L:=fun hx=>by
 rw [(qeS h hn x0 x1).2 hx] at hf; cases hf
theorem qpS {D:qd} {row:List Value} {v:Value} (hr:row ∈ D∨row = [v]) (h:∀ row,row ∈ D->row.length = 1):row.length = 1:=hr.elim (h row) fun h=>by rw [h]; rfl
theorem qhp {D:qd} {row:List Value} (hr:row ∈ D) (h:∀ row,row ∈ D->row.length = 1):row.length = 1:=h row hr
theorem q8b {b:Bool} {p:Prop} [Decidable p] (h:b = decide p) (hb:b = true):p:=of_decide_eq_true (h ▸ hb)
theorem qzq {b:Bool} {p:Prop} [Decidable p] (h:b = decide p) (hb:b = false):¬ p:=of_decide_eq_false (h ▸ hb)
theorem qo9 {L:List Int}:(qbM L).length <= 16:=by
 rw [qrC]; unfold qG
 exact Nat.le_trans (List.length_filter_le ..) (by simp)
theorem qw3 {o L:List Int} {n:Int}:(qbb o L n).length <= 16:=by
 unfold qbb
 rw [List.length_take,qir]
 have:=qo9 (L:=L)
 omega
theorem qwp {o L:List Int} {n:Int} {D:qd} (h:qu D = qbb o L n):D.length <= 16:=by
 have h1:=congrArg List.length h
 rw [qcc] at h1
 have:=qw3 (o:=o) (L:=L) (n:=n)
 omega
theorem q6M {o L:List Int} {self n x:Int} {D:qd} {held buried:Bool} (hD:qu D = qbb o L n) (hx:x = (D.length:Int)) (hn:1 <= n) (hm:¬ self ∈ qu D) (hh:held = true) (hb:buried = false) (he:x = n):2 = qgt o self L n held buried:=by
 have h1:((qbb o L n).length:Int) = n:=by rw [<- hD,qcc]; omega
 rw [hD] at hm
 unfold qgt
 rw [hh,hb,if_neg (by simp),if_neg (by omega),if_neg hm,if_pos ⟨rfl,h1⟩]
theorem q7h {o L:List Int} {self n x:Int} {D:qd} {held buried:Bool} (hD:qu D = qbb o L n) (hx:x = (D.length:Int)) (hn:1 <= n) (hm:¬ self ∈ qu D) (hh:held = true) (hb:buried = false) (he:¬ x = n):0 = qgt o self L n held buried:=by
 have h1:¬ ((qbb o L n).length:Int) = n:=by rw [<- hD,qcc]; omega
 rw [hD] at hm
 unfold qgt
 rw [hh,hb,if_neg (by simp),if_neg (by omega),if_neg hm,if_neg (fun h=>h1 h.2)]
theorem q5g (hch:qaZ.ok Tryz.prog):qf6.ok Tryz.prog:=q5B (by simp [qmK,hch]) fun ρ hg hp=>by
 obtain ⟨hO,⟨hl,h1,hr⟩,hGr,hGd⟩:=hp
 simp only [Nat.reduceAdd] at hl h1 hr
 simp (config:={ maxSteps:=4000000 }) [qva,qf6,qaZ,qaG,qs2,qco,qbf,qdS,gOk,hl,hO,hGr,hGd]
 repeat' (first | with_reducible apply And.intro | with_reducible intro _)
 all_goals first
  | assumption
  | omega
  | exact qhp (by assumption) (by assumption)
  | exact (by have:=qwp (by assumption); omega)
  | (unfold qgt; simp_all [qcc]; done)
  | exact q6M (by assumption) (by assumption) (by assumption) (qzq (by assumption) (by assumption)) (by assumption) (by assumption) (by assumption)
  | exact q7h (by assumption) (by assumption) (by assumption) (qzq (by assumption) (by assumption)) (by assumption) (by assumption) (by assumption)
theorem q4s {n:Int}:(qfV n).length = (min (max n 0) 16).toNat:=by simp [qfV]
theorem qx1 {i n:Int} (h:min (max i 0) 16 = min (max n 0) 16):qfV i = qfV n:=by unfold qfV; rw [h]
theorem q2p {i:Int} {D:qd} (hD:qu D = qfV i) (h0:0 <= i) (h1:i < 16):qu (D ++ [[.int .i64 i]]) = qfV (qc .add .i64 i 1):=by
 rw [qcM h0 (by omega),qkD,hD]
 unfold qfV
 rw [show (min (max (i + 1) 0) 16).toNat = (min (max i 0) 16).toNat + 1 by omega,List.range_succ,List.map_append]
 congr 1
 show [i] = [(((min (max i 0) 16).toNat:Nat):Int)]
 congr 1; omega
theorem q11 {i:Int} {D:qd} (hD:qu D = qfV i):D.length <= 16:=by
 have h1:=congrArg List.length hD
 rw [qcc,q4s] at h1
 omega
theorem q42 {o:List Int} {i n:Int} {D E:qd} (hE:qu E = qbb o (qu D) 16) (hD:qu D = qfV i) (h:min (max i 0) 16 = min (max n 0) 16):qu E = qj6 o n:=by
 rw [hE,hD,qx1 h]; rfl
theorem qxQ (hch:qaZ.ok Tryz.prog):qce.ok Tryz.prog:=qzG (by simp [hch]) fun ρ hg hp=>by
 obtain ⟨hO,hGr,hGd⟩:=hp
 simp (config:={ maxSteps:=4000000 }) [qlB,qce,qnG,qaZ,qs2,qco,qbf,qdS,gOk,hO,hGr,hGd]
 repeat' (first | with_reducible apply And.intro | with_reducible intro _)
 all_goals first
  | assumption
  | omega
  | exact qhp (by assumption) (by assumption)
  | exact qpS (by assumption) (by assumption)
  | (rw [qcM (by assumption) (by omega)]; omega)
  | rfl
  | exact (by have:=q11 (by assumption); omega)
  | exact q2p (by assumption) (by assumption) (by omega)
  | exact q42 (by assumption) (by assumption) (by omega)
section
variable {o L:List Int}
theorem qmT {L:List Int} {n:Nat}:(qG L n).length <= n:=by
 unfold qG
 exact Nat.le_trans (List.length_filter_le ..) (by simp)
theorem q7o {D:qd} {i:Int} (h:D = (qG L i.toNat).map (qB o)) (h1:i <= 16):D.length <= 16:=by
 rw [h,List.length_map]
 have:=qmT (L:=L) (n:=i.toNat)
 omega
theorem q7g {D v:qd} {i:Int} {l:List Bool} (hD:D = (qG L i.toNat).map (qB o)) (h0:0 <= i) (h1:i < 16) (hb:qeJ l L) (hc:qaN [l.map Value.bool] i.toNat = true) (hv:qf v 32 = qN o i) :
  D ++ [Value.int .i64 i :: (qf v 32).map (Value.int .u8)] = (qG L (qc .add .i64 i 1).toNat).map (qB o):=by
 have hm:i ∈ L:=(qeS (qdi hb (Nat.le_refl _)) (Nat.le_refl _) h0 h1).1 hc
 rw [qcM h0 (by omega),show (i + 1).toNat = i.toNat + 1 by omega,qdI,Int.toNat_of_nonneg h0,if_pos hm,List.map_append,hD,hv]; rfl
theorem q5U {D:qd} {i:Int} {l:List Bool} (hD:D = (qG L i.toNat).map (qB o)) (h0:0 <= i) (h1:i < 16) (hb:qeJ l L) (hc:qaN [l.map Value.bool] i.toNat = false) :
  D = (qG L (qc .add .i64 i 1).toNat).map (qB o):=by
 have hm:¬ i ∈ L:=qjI (qdi hb (Nat.le_refl _)) (Nat.le_refl _) h0 h1 hc
 rw [qcM h0 (by omega),show (i + 1).toNat = i.toNat + 1 by omega,qdI,Int.toNat_of_nonneg h0,if_neg hm,List.append_nil,hD]
theorem qlR {D E:qd} {i:Int} (hO:qS o) (hD:D = (qG L i.toNat).map (qB o)) (h1:i <= 16) (h2:16 <= i) (h:∀ o L:List Int,qS o->D = L.map (qB o)->(∀ x,x ∈ L->0 <= x/\x < 16)->E = (qao o L).map (qB o)):E = (qao o (qbM L)).map (qB o)/\E.length = D.length:=by
 have hi:i.toNat = 16:=by omega
 rw [hi] at hD
 have hE:=h o (qG L 16) hO hD (fun x hx=>by have:=qiQ.1 hx; omega)
 exact ⟨hE,by rw [hE,hD,List.length_map,List.length_map,qir]⟩
theorem q47 {D:qd} {n:Nat} (hO:qS o) (hD:D = (qG L n).map (qB o)) (hn:n <= 16):∃ o:List Int,qS o/\∃ x:List Int,D = x.map (qB o)/\∀ y:Int,y ∈ x->0 <= y/\y < 16 :=
 ⟨o,hO,_,hD,fun x hx=>by have:=qiQ.1 hx; omega⟩
theorem q8a {M:List Int} {D:qd} {i:Int} (hD:D = M.map (qB o)) (h0:0 <= i) (h1:i < M.length):qg D i 0 = M.getD i.toNat 0:=by
 have hl:i.toNat < M.length:=by omega
 subst hD
 rw [List.getD_eq_getElem?_getD,List.getElem?_eq_getElem hl]
 simp [qg,qJ,List.getElem?_eq_getElem hl,qB,qaf]
theorem take_add {M:List Int} {D E:qd} {i:Int} (hE:E = M.map (qB o)) (hD:qu D = M.take i.toNat) (h0:0 <= i) (h1:i < M.length) (hb:i < 1000000):qu (D ++ [[.int .i64 (qg E i 0)]]) = M.take (qc .add .i64 i 1).toNat:=by
 rw [qcM h0 (by omega),show (i + 1).toNat = i.toNat + 1 by omega,qg6 (by omega),qkD,hD,q8a hE h0 h1]
theorem q5q {M:List Int} {D:qd} {i:Nat} (hD:qu D = M.take i):D.length <= i/\D.length <= M.length:=by
 have h1:=congrArg List.length hD
 rw [qcc,List.length_take] at h1
 omega
theorem qyr {o L:List Int}:(qao o (qbM L)).length <= 16:=by rw [qir]; exact qo9
theorem q70 {D:qd} {i n:Int} (hD:qu D = (qao o (qbM L)).take i.toNat) (h:i = min (max n 0) ((qao o (qbM L)).length:Int)):qu D = qbb o L n:=by
 rw [hD]
 unfold qbb
 by_cases hn:n.toNat <= (qao o (qbM L)).length
 ·rw [show i.toNat = n.toNat by omega]
 ·rw [List.take_of_length_le (by omega),List.take_of_length_le (by omega)]
end
theorem qzY (hs:qec.ok Tryz.prog):qaZ.ok Tryz.prog:=q1r (by simp [hs,qtF,qwL]) fun ρ hg hp=>by
 obtain ⟨hO,⟨hl,h1,hr⟩,hGr,hGd⟩:=hp
 simp only [Nat.reduceAdd] at hl h1 hr
 simp (config:={ maxSteps:=4000000 }) [qnF,qaZ,qpT,qpA,qc8,qd8,qec,qs2,qco,qbf,qdS,gOk,hl,hO,hGr,hGd]
 have hsl:=qyr (o:=qf (ρ 0).d 32) (L:=qu (ρ 4).d)
 repeat' (first | with_reducible apply And.intro | with_reducible intro _)
 all_goals first
  | assumption
  | omega
  | exact qhp (by assumption) (by assumption)
  | exact qpS (by assumption) (by assumption)
  | (rw [qcM (by assumption) (by omega)]; omega)
  | rfl
  | exact (by have:=q7o (by assumption) (by omega); omega)
  | exact q7g (l:=[_,_,_,_,_,_,_,_,_,_,_,_,_,_,_,_]) (by assumption) (by assumption) (by assumption) (by assumption) (by assumption) (by assumption)
  | exact q5U (l:=[_,_,_,_,_,_,_,_,_,_,_,_,_,_,_,_]) (by assumption) (by assumption) (by assumption) (by assumption) (by assumption)
  | exact q47 hO (by assumption) (by omega)
  | exact (qlR hO (by assumption) (by assumption) (by assumption) (by assumption)).1
  | (have h:=qlR hO (by assumption) (by assumption) (by assumption) (by assumption); have h2:=congrArg List.length h.1; rw [List.length_map] at h2; have h3:=h.2; split <;> split <;> omega)
  | (have h:=qlR hO (by assumption) (by assumption) (by assumption) (by assumption); have h2:=congrArg List.length h.1; rw [List.length_map] at h2; have h3:=h.2; split <;> omega)
  | exact take_add (by assumption) (by assumption) (by assumption) (by omega) (by omega)
  | exact q70 (by assumption) (by omega)
  | (have h2:=q5q (by assumption); omega)
section
variable {o L:List Int} {D E:qd} {n m k b i:Int}
end
end Go.Proofs

set_option linter.unusedSimpArgs false
set_option linter.unusedVariables false
set_option maxRecDepth 100000
namespace Go.Proofs
open Go Go.Eng

def qme:Out:=(.fresh 10 (.pre 0 (sg 0 [bv 4 7,bv 3 6,bv 2 5,bv 1 4,bg 0 3]) (.both (.fresh 11 (.fresh 12 (.fresh 13 (.fresh 14 (.fresh 15 (.fresh 16 (.fresh 17 (.fresh 18 (.fresh 19 (.fresh 20 (.fresh 21 (.fresh 22 (.fresh 23 (.fresh 24 (.fresh 25 (.fresh 26 (.post 0 0 (sg 0 [bv 4 7,bv 3 6,bv 2 5,bv 1 4,bg 0 3]) 11 (.inv 0 27 (sg 1000 [bt 1001 (.lit 0),bt 1002 (.lit 0),bg 1000 10]) (.fresh 27 (.fresh 28 (.fresh 29 (.hyp 0 27 (.br (.cmp .lss (.var 28) (.lit 16))
 (.need (.cmp .leq (.lit 0) (.var 28)) (.br (.c2 (.xbool 0) (.rcons (.vbool (.var 11)) (.rcons (.vbool (.var 12)) (.rcons (.vbool (.var 13)) (.rcons (.vbool (.var 14)) (.rcons (.vbool (.var 15)) (.rcons (.vbool (.var 16)) (.rcons (.vbool (.var 17)) (.rcons (.vbool (.var 18)) (.rcons (.vbool (.var 19)) (.rcons (.vbool (.var 20)) (.rcons (.vbool (.var 21)) (.rcons (.vbool (.var 22)) (.rcons (.vbool (.var 23)) (.rcons (.vbool (.var 24)) (.rcons (.vbool (.var 25)) (.rcons (.vbool (.var 26)) .rnil)))))))))))))))) (.var 28))
 (.pre 1 (sg 0 [bv 4 9,bv 2 1,bv 1 28,bt 0 (r8 0),bg 3 8]) (.both (.fresh 30 (.post 1 0 (sg 0 [bv 4 9,bv 2 1,bv 1 28,bt 0 (r8 0),bg 3 8]) 30 (.br (.var 30)
 (.back 0 27 (sg 1000 [bt 1001 (.arith .add .i64 (.var 28) (.lit 1)),bt 1002 (.arith .add .i64 (.var 29) (.lit 1)),bg 1000 27]))
 (.back 0 27 (sg 1000 [bt 1001 (.arith .add .i64 (.var 28) (.lit 1)),bv 1002 29,bg 1000 27]))))) .top))
 (.back 0 27 (sg 1000 [bt 1001 (.arith .add .i64 (.var 28) (.lit 1)),bv 1002 29,bg 1000 27]))))
 (.br (.cmp .geq (.var 2) (.lit 1))
 (.ret 0 (sg 10 [bt 10 (.cmp .geq (.var 29) (.var 2))]))
 (.ret 0 (sg 10 [bt 10 (.bl false)])))))))))))))))))))))))))) .top)))
theorem q3s:qk ⟨Tryz.prog,qfM,[qc8,qaH],[qu5]⟩ 100000 Tryz.f37 = qme:=by kernel_rfl
theorem q7u (hd:∀ c ∈ ([qc8,qaH]:List Ctr),c.ok Tryz.prog) (h:∀ ρ:Env,ρ.good->(qfM).pre ρ->qme.den ⟨Tryz.prog,qfM,[qc8,qaH],[qu5]⟩ ρ):(qfM).ok Tryz.prog :=
 qe Tryz.func37 (fun a w=>Tryz.call37 a w) hd 100000 (fun ρ hg hp=>by rw [q3s]; exact h ρ hg hp)
end Go.Proofs

set_option linter.unusedSimpArgs false
set_option linter.unusedVariables false
namespace Go.Proofs
open Go Go.Eng
set_option maxRecDepth 20000
section
variable {o L:List Int} {i c s:Int} {l:List Bool}
def qfI (o:List Int) (s:Int) (l:List Int):Int:=((l.filter fun i=>qI o i s).length:Int)
theorem q4p {l:List Int}:0 <= qfI o s l/\qfI o s l <= l.length:=⟨by unfold qfI; omega,by unfold qfI; have:=List.length_filter_le (fun i=>qI o i s) l; omega⟩
theorem qrw {l:List Int} {x:Int}:qfI o s (l ++ [x]) = qfI o s l + (if qI o x s = true then 1 else 0):=by
 unfold qfI
 rw [List.filter_append,List.length_append]
 by_cases h:qI o x s = true
 ·rw [if_pos h]; simp [h]
 ·rw [if_neg h]; simp [h]
theorem qwK {n:Nat}:0 <= qfI o s (qG L n)/\qfI o s (qG L n) <= n:=by
 have h:=q4p (o:=o) (s:=s) (l:=qG L n)
 have:=qmT (L:=L) (n:=n)
 omega
theorem q4K {x:Bool} (hc:c = ((qG L i.toNat).filter fun i=>qI o i s).length) (h0:0 <= i) (h1:i < 16) (hb:qeJ l L) (hx:qaN [l.map Value.bool] i.toNat = true) (hu:x = qI o i s) (ht:x = true):qc .add .i64 c 1 = ((qG L (qc .add .i64 i 1).toNat).filter fun i=>qI o i s).length:=by
 have hm:i ∈ L:=(qeS (qdi hb (Nat.le_refl _)) (Nat.le_refl _) h0 h1).1 hx
 have h2:=qwK (o:=o) (s:=s) (L:=L) (n:=i.toNat)
 change c = qfI o s (qG L i.toNat) at hc
 show _ = qfI o s _
 rw [qcM h0 (by omega),qcM (by omega) (by omega),show (i + 1).toNat = i.toNat + 1 by omega,qdI,Int.toNat_of_nonneg h0,if_pos hm,qrw,if_pos (hu ▸ ht),hc]
theorem q4Q {x:Bool} (hc:c = ((qG L i.toNat).filter fun i=>qI o i s).length) (h0:0 <= i) (h1:i < 16) (hb:qeJ l L) (hx:qaN [l.map Value.bool] i.toNat = true) (hu:x = qI o i s) (ht:x = false):c = ((qG L (qc .add .i64 i 1).toNat).filter fun i=>qI o i s).length:=by
 have hm:i ∈ L:=(qeS (qdi hb (Nat.le_refl _)) (Nat.le_refl _) h0 h1).1 hx
 have h2:=qwK (o:=o) (s:=s) (L:=L) (n:=i.toNat)
 change c = qfI o s (qG L i.toNat) at hc
 show _ = qfI o s _
 rw [qcM h0 (by omega),show (i + 1).toNat = i.toNat + 1 by omega,qdI,Int.toNat_of_nonneg h0,if_pos hm,qrw,if_neg (by rw [<- hu,ht]; simp),hc,Int.add_zero]
theorem q4I (hc:c = ((qG L i.toNat).filter fun i=>qI o i s).length) (h0:0 <= i) (h1:i < 16) (hb:qeJ l L) (hx:qaN [l.map Value.bool] i.toNat = false):c = ((qG L (qc .add .i64 i 1).toNat).filter fun i=>qI o i s).length:=by
 have hm:¬ i ∈ L:=qjI (qdi hb (Nat.le_refl _)) (Nat.le_refl _) h0 h1 hx
 rw [qcM h0 (by omega),show (i + 1).toNat = i.toNat + 1 by omega,qdI,Int.toNat_of_nonneg h0,if_neg hm,List.append_nil,hc]
theorem qwN {n:Int} (hc:c = ((qG L i.toNat).filter fun i=>qI o i s).length) (h0:i <= 16) (h1:16 <= i) (hn:1 <= n):decide (c ≥ n) = qgS o s n L:=by
 rw [show i.toNat = 16 by omega] at hc
 unfold qgS
 rw [decide_eq_true hn,Bool.true_and,hc]; rfl
theorem qjJ {n:Int} (hn:n < 1):false = qgS o s n L:=by
 unfold qgS
 rw [decide_eq_false (by omega),Bool.false_and]
end
theorem q7n:qfM.ok Tryz.prog:=q7u (by simp [qtF,qlr]) fun ρ hg hp=>by
 obtain ⟨hO,⟨hl,h1,hr⟩,hGr,hGd⟩:=hp
 simp only [Nat.reduceAdd] at hl h1 hr
 simp (config:={ maxSteps:=4000000 }) [qme,qfM,qu5,qc8,qaH,qco,qbf,gOk,hl,hO,hGr,hGd]
 repeat' (first | with_reducible apply And.intro | with_reducible intro _)
 all_goals first
  | assumption
  | omega
  | rfl
  | exact qhp (by assumption) (by assumption)
  | (rw [qcM (by assumption) (by omega)]; omega)
  | exact q4K (l:=[_,_,_,_,_,_,_,_,_,_,_,_,_,_,_,_]) (by assumption) (by assumption) (by assumption) (by assumption) (by assumption) (by assumption) (by assumption)
  | exact q4Q (l:=[_,_,_,_,_,_,_,_,_,_,_,_,_,_,_,_]) (by assumption) (by assumption) (by assumption) (by assumption) (by assumption) (by assumption) (by assumption)
  | exact q4I (l:=[_,_,_,_,_,_,_,_,_,_,_,_,_,_,_,_]) (by assumption) (by assumption) (by assumption) (by assumption) (by assumption)
  | exact qwN (by assumption) (by assumption) (by assumption) (by assumption)
  | exact qjJ (by assumption)
  | exact (qjJ (by assumption)).symm
end Go.Proofs

set_option linter.unusedSimpArgs false
set_option linter.unusedVariables false
namespace Go.Eng
open Go Go.Proofs
def qmq (ρ:Env) (r:Nat):Prop:=0 <= (ρ (r + 1)).i/\(ρ (r + 1)).i <= (ρ (r + 3)).d.length/\(ρ (r + 1)).i <= 1000000000000/\∀ row ∈ (ρ (r + 3)).d,row.length = 1
def qgy:Ctr:={ qc8 with pre:=fun ρ=>qmq ρ 0,alts:=[
 { k:=16,ret:=b16 5,heap:=[],post:=fun ρ=>qeJ [(ρ 5).b,(ρ 6).b,(ρ 7).b,(ρ 8).b,(ρ 9).b,(ρ 10).b,(ρ 11).b,(ρ 12).b,(ρ 13).b,(ρ 14).b,(ρ 15).b,(ρ 16).b,(ρ 17).b,(ρ 18).b,(ρ 19).b,(ρ 20).b] ((qu (ρ 3).d).take (ρ 1).i.toNat) }] }
def qfq:Ctr:={ qfM with pre:=fun ρ=>qS (qf (ρ 0).d 32)/\qmq ρ 3/\gOk ρ 8 9 gR,alts:=[{ k:=1,ret:=.one (.vbool (.var 10)),heap:=[],post:=fun ρ=>(ρ 10).b = qgS (qf (ρ 0).d 32) (ρ 1).i (ρ 2).i ((qu (ρ 6).d).take (ρ 4).i.toNat) }] }
def qxD:Inv:={ qu5 with inv:=(fun ρ=>0 <= (ρ 1001).i/\(ρ 1001).i <= 16/\(ρ 1002).i = (((qG ((qu (ρ 6).d).take (ρ 4).i.toNat) (ρ 1001).i.toNat).filter fun i=>qI (qf (ρ 0).d 32) i (ρ 1).i).length:Int)) }
end Go.Eng
namespace Go.Proofs
open Go Go.Eng
set_option maxRecDepth 100000
theorem q1Y:qk ⟨Tryz.prog,qgy,[qcl],[qpO]⟩ 100000 Tryz.f82 = qmt:=by kernel_rfl
theorem q5F (hd:∀ c ∈ ([qcl]:List Ctr),c.ok Tryz.prog) (h:∀ ρ:Env,ρ.good->(qgy).pre ρ->qmt.den ⟨Tryz.prog,qgy,[qcl],[qpO]⟩ ρ):(qgy).ok Tryz.prog :=
 qe Tryz.func82 (fun a w=>Tryz.call82 a w) hd 100000 (fun ρ hg hp=>by rw [q1Y]; exact h ρ hg hp)
theorem q1A:qk ⟨Tryz.prog,qfq,[qgy,qaH],[qxD]⟩ 100000 Tryz.f37 = qme:=by kernel_rfl
theorem q6h (hd:∀ c ∈ ([qgy,qaH]:List Ctr),c.ok Tryz.prog) (h:∀ ρ:Env,ρ.good->(qfq).pre ρ->qme.den ⟨Tryz.prog,qfq,[qgy,qaH],[qxD]⟩ ρ):(qfq).ok Tryz.prog :=
 qe Tryz.func37 (fun a w=>Tryz.call37 a w) hd 100000 (fun ρ hg hp=>by rw [q1A]; exact h ρ hg hp)
theorem q5v:qgy.ok Tryz.prog:=q5F (by simp [qqK]) fun ρ hg hp=>by
 obtain ⟨h0,hl,h1,hr⟩:=hp
 simp only [Nat.reduceAdd] at h0 hl h1 hr
 simp (config:={ maxSteps:=4000000 }) [qmt,qgy,qc8,qpO,qcl,h0]
 have hil:(qu (ρ 3).d).length = (ρ 3).d.length:=by simp [qu]
 refine ⟨qmY,fun s _ i _ i0 i1 hs=>⟨fun hi=>⟨i0,by omega,fun u _ hu=>⟨fun ht=>?_,fun hf=>?_⟩⟩,fun hi=>?_⟩⟩
 ·have hp:0 <= qg (ρ 3).d i.i 0/\qg (ρ 3).d i.i 0 < 16:=by rw [hu] at ht; exact of_decide_eq_true ht
  have hsl:0 < s.d.length:=by obtain ⟨⟨row,e,_⟩,_⟩:=hs; rw [e]; exact Nat.one_pos
  rw [add64 (x:=i.i) (by omega) (by omega)]
  refine ⟨hp.1,hp.2,hsl,⟨by omega,by omega,?_⟩,by omega⟩
  rw [show (i.i + 1).toNat = i.i.toNat + 1 by omega]
  exact qmU hs (by omega) (qcQ i0 (by omega)) hp.1 hp.2
 ·have hp:¬ (0 <= qg (ρ 3).d i.i 0/\qg (ρ 3).d i.i 0 < 16):=by rw [hu] at hf; exact of_decide_eq_false hf
  rw [add64 (x:=i.i) (by omega) (by omega)]
  refine ⟨⟨by omega,by omega,?_⟩,by omega⟩
  rw [show (i.i + 1).toNat = i.i.toNat + 1 by omega]
  exact qmM hs (by omega) (qcQ i0 (by omega)) hp
 ·obtain ⟨⟨row,hs1,hrl⟩,hs2⟩:=hs
  rw [show i.i.toNat = (ρ 1).i.toNat by omega] at hs2
  rw [hs1] at hs2 ⊢
  match row,hrl with
  | [a0,a1,a2,a3,a4,a5,a6,a7,a8,a9,a10,a11,a12,a13,a14,a15],_ =>
   refine ⟨by simp,?_⟩
   have key:qeJ ((List.range 16).map (qaN [[a0,a1,a2,a3,a4,a5,a6,a7,a8,a9,a10,a11,a12,a13,a14,a15]])) ((qu (ρ 3).d).take (ρ 1).i.toNat):=⟨by simp,fun j hj=>by
    rw [List.getD_eq_getElem?_getD,List.getElem?_map,List.getElem?_range hj]
    exact hs2 j (by omega) (by omega)⟩
   exact key
theorem q5M:qfq.ok Tryz.prog:=q6h (by simp [q5v,qlr]) fun ρ hg hp=>by
 obtain ⟨hO,⟨h0,hl,h1,hr⟩,hGr,hGd⟩:=hp
 simp only [Nat.reduceAdd] at h0 hl h1 hr
 simp (config:={ maxSteps:=4000000 }) [qme,qfq,qfM,qxD,qu5,qgy,qc8,qaH,qco,qmq,gOk,h0,hl,hO,hGr,hGd]
 repeat' (first | with_reducible apply And.intro | with_reducible intro _)
 all_goals first
  | assumption
  | omega
  | rfl
  | exact qhp (by assumption) (by assumption)
  | (rw [qcM (by assumption) (by omega)]; omega)
  | exact q4K (l:=[_,_,_,_,_,_,_,_,_,_,_,_,_,_,_,_]) (by assumption) (by assumption) (by assumption) (by assumption) (by assumption) (by assumption) (by assumption)
  | exact q4Q (l:=[_,_,_,_,_,_,_,_,_,_,_,_,_,_,_,_]) (by assumption) (by assumption) (by assumption) (by assumption) (by assumption) (by assumption) (by assumption)
  | exact q4I (l:=[_,_,_,_,_,_,_,_,_,_,_,_,_,_,_,_]) (by assumption) (by assumption) (by assumption) (by assumption) (by assumption)
  | exact qwN (by assumption) (by assumption) (by assumption) (by assumption)
  | exact qjJ (by assumption)
  | exact (qjJ (by assumption)).symm
end Go.Proofs

set_option linter.unusedSimpArgs false
set_option linter.unusedVariables false
namespace Go.Eng
open Go Go.Proofs
def qcN:Ctr:={ fn := 31,nv:=2,ow:=[1003,200096],ip:=[gIp 0,(1127,8),(58,2),(1001,9),(1002,9)],args:=[],heap:=[],ro:=[gHp 0 1],pre:=fun ρ=>gOk ρ 0 1 gR,alts:=[qmu] }
def qqJ:Inv:={ key:=1000012,nv:=19,env:=[(4,.one (.vptr 1010 (.lit 0) 37 0)),(5,.one (.vslice 1015 (.lit 0) (.lit 1) (.var 1016) 2)),(6,.one (.vint .i64 (.lit 0))),(9,gaP 1000)],heap:=qsz 1000 20 ++ [.cells 1010 27 ([.vint .i64 (.lit 1),.vint .i64 (.lit 1),.vint .i64 (.lit 1),.vint .i64 (.lit 1)] ++ (qaY .u8 1011 32 ++ [.vslice 1012 (.lit 0) (.lit 1) (.var 1013) 32])),qf2 1012 1014 1013,q3P 1015 1017 1016,.abs 1018 10],inv:=(fun ρ=>gaB ρ 1000 none []/\qS (qf (ρ 1011).d 32)/\qf3 (ρ 1014).d/\(ρ 1014).d.length = 1/\(ρ 1017).d.length = 1/\qqU (ρ 1018).h (ρ 1017).d 1/\pcI (ρ 1017).d 0 = 0/\qbY 1 1 1 1 1 (dgs (ρ 1014).d) 0 (pcD (ρ 1018).h (ρ 1017).d 0) = 0/\qf (ρ 1001).d 32 = sha (qa6 1 1 1 1 (qf (ρ 1011).d 32) ++ (dgs (ρ 1014).d).flatten)),mu:=fun _=>0 }
end Go.Eng

set_option linter.unusedSimpArgs false
set_option linter.unusedVariables false
namespace Go.Eng
open Go Go.Proofs
end Go.Eng

set_option linter.unusedSimpArgs false
set_option linter.unusedVariables false
namespace Go.Eng
open Go Go.Proofs
def q7R (ρ:Env) (r:Nat):Prop:=(ρ (r + 1)).i = (ρ (r + 3)).d.length/\(ρ (r + 1)).i <= 17592186043904/\∀ row ∈ (ρ (r + 3)).d,row.length = 1
end Go.Eng

set_option linter.unusedSimpArgs false
set_option linter.unusedVariables false
namespace Go.Eng
open Go Go.Proofs
def qiL (x:Int):List Value:=[.int .i64 x]
def isS (r l c:Nat):SV:=.one (.vslice r (.lit 0) (.var l) (.var c) 1)
end Go.Eng

set_option linter.unusedSimpArgs false
set_option linter.unusedVariables false
namespace Go.Eng
open Go Go.Proofs
def qgu:Ctr:={ fn := 36,nv:=2,args:=[iv .i64 (.var 0),iv .i64 (.var 1)],heap:=[],ro:=[],pre:=fun ρ=>1 <= (ρ 1).i/\(ρ 1).i <= 1000000,alts:=[
 { k:=1,ret:=iv .i64 (.var 2),heap:=[],post:=fun ρ=>(ρ 2).i = (ρ 0).i % (ρ 1).i }] }
def kEv:List CK:=[.int .i64,.int .i64,.int .i64]
def k2I:List CK:=[.int .i64,.int .i64]
def qx8 (r d c:Nat):SH:=.arr r 4 [.bool] (.var d) (.var c)
def q80 (r d c:Nat):SH:=.arr r 29 [.any] (.var d) (.var c)
def q8y (r d c:Nat):SH:=.arr r 68 k2I (.var d) (.var c)
def qy1 (r d c:Nat):SH:=.arr r 67 kEv (.var d) (.var c)
def qoj:SV:=.agg (qaY .u8 0 32 ++ [.vint .i64 (.var 1),.vint .i64 (.var 2),.vslice 3 (.lit 0) (.var 4) (.var 5) 1,.vslice 8 (.lit 0) (.var 9) (.var 10) 3])
def q5x (ρ:Env) (r:Nat):Prop:=(ρ (r + 1)).i = (ρ (r + 3)).d.length/\(ρ (r + 1)).i <= 17592186043904/\∀ row ∈ (ρ (r + 3)).d,row.length = 3
def qcB:Ctr:={ fn := 8,nv:=15,ow:=[50100142],ip:=[gIp 13,(1114,8),(1001,9),(1002,9)],args:=[qoj],heap:=[],ro:=[qco 3,qy1 8 11 12,gHp 13 14],pre:=fun ρ=>qS (qf (ρ 0).d 32)/\q7R ρ 3/\q5x ρ 8/\gOk ρ 13 14 gR,alts:=[qmu] }
def qf0 (b:Bool):List Value:=[.bool b]
def qq0 (x:Int × Int):List Value:=[.int .i64 x.1,.int .i64 x.2]
def qg8 (h:Hp) (v:Value) (g:List Int):Prop:=(v = .slice none 0 0/\g = [])∨∃ b cap c,v = .slice (some ⟨b,0,none⟩) g.length cap/\h b = some (.cells c 3 (0,0))/\c.size = cap * 1/\g.length <= cap/\qT c 0 kI (g.map qiL)
def qe9:Value->Option Nat
 | .slice (some a) _ _=>some a.block
 | _=>none
def qhi (h:Hp) (R:qd) (G:List (List Int)):Prop:=R.length = G.length/\(∀ (j:Nat) g,G[j]? = some g->∃ v,R[j]? = some [v]/\qg8 h v g)/\∀ (i j:Nat) v w b,i ≠ j->R[i]? = some [v]->R[j]? = some [w]->qe9 v = some b->qe9 w ≠ some b
def qcH (o:List Int) (p n:Int) (H F:List Bool) (G:List (List Int)) (N:List (Int × Int)) (reached:Bool):Prop:=∃ E D:Nat->Prop,
 (∀ j:Nat,H[j]? = some true->E j)/\(∀ j,E j->(j:Int) < p/\(H[j]? = some true∨F[j]? = some true∨D j))/\(∀ x ∈ N,∃ a b:Nat,x = ((a:Int),(b:Int))/\E a/\(b:Int) < p) /\
 (∀ g ∈ G,∀ x ∈ g,∃ a:Nat,x = (a:Int)/\E a)/\(∀ d,D d->reached = true)/\(reached = true->∃ S:List Nat,S.Nodup/\n <= (S.length:Int)/\∀ s ∈ S,E s/\∀ d,D d->qI o (s:Int) (d:Int) = true)
def qb7 (o:List Int) (p n k:Int) (h:Hp) (dH dF dG dN:qd) (nN:Int) (reached:Bool):Prop:=∃ H F G N,dH = H.map qf0/\dF = F.map qf0/\qhi h dG G/\dN = N.map qq0/\nN = (N.length:Int)/\(H.length:Int) = p/\(F.length:Int) = p/\(G.length:Int) = p/\nN <= k/\(∀ g ∈ G,(g.length:Int) <= k)/\qcH o p n H F G N reached
def qjr:List (Nat × SV):=[(3,qyB 1000),(4,iv .i64 (.var 1)),(5,iv .i64 (.var 2)),(6,bS 3),(7,.one (.vslice 8 (.lit 0) (.var 9) (.var 10) 3)),(8,.one (.vslice 1001 (.lit 0) (.var 1) (.var 1002) 1)),(9,.one (.vslice 1004 (.lit 0) (.var 1) (.var 1005) 1)),(10,.one (.vslice 1007 (.lit 0) (.var 1) (.var 1008) 1)),(11,.one (.vslice 1010 (.lit 0) (.var 1013) (.var 1011) 2))]
def qov:List SH:=[qsv 1000,qx8 1001 1003 1002,qx8 1004 1006 1005,q80 1007 1009 1008,q8y 1010 1012 1011]
def qyk:Inv:={ key:=1000005,nv:=7,env:=qjr.take 5 ++ [(8,.one (.vslice 1001 (.lit 0) (.var 1) (.var 1002) 1)),(9,.one (.vslice 1004 (.lit 0) (.var 1) (.var 1005) 1))],heap:=[qsv 1000,qx8 1001 1003 1002,qx8 1004 1006 1005],inv:=(fun ρ=>(ρ 1003).d = (List.replicate (ρ 1).i.toNat false).map qf0/\(ρ 1006).d = (List.replicate (ρ 1).i.toNat false).map qf0),mu:=fun _=>0 }
def qdU (L:List Int) (p:Int) (i:Int):qd:=(List.range p.toNat).map fun (j:Nat)=>qf0 (decide ((j:Int) < i) && decide ((j:Int) ∈ L))
def qsD:Inv:={ key:=8,nv:=15,env:=qjr ++ [(12,iv .i64 (.var 1014))],heap:=qov,inv:=(fun ρ=>0 <= (ρ 1014).i/\(ρ 1014).i <= (ρ 1).i/\(ρ 1003).d = qdU (qu (ρ 6).d) (ρ 1).i (ρ 1014).i/\(ρ 1006).d = (List.replicate (ρ 1).i.toNat false).map qf0/\(ρ 1009).d = List.replicate (ρ 1).i.toNat [.slice none 0 0]/\(ρ 1012).d = []/\(ρ 1013).i = 0),mu:=(fun ρ=>((ρ 1).i - (ρ 1014).i).toNat) }
def qpk (ρ:Env) (k:Int) (b:Bool):Prop:=qb7 (qf (ρ 0).d 32) (ρ 1).i (ρ 2).i k (ρ 1016).h (ρ 1003).d (ρ 1006).d (ρ 1009).d (ρ 1012).d (ρ 1013).i b
def qur:Inv:={ key:=13,nv:=17,env:=qjr ++ [(13,.one (.vbool (.var 1014))),(14,iv .i64 (.var 1015))],heap:=qov ++ [.abs 1016 10],inv:=(fun ρ=>-1 <= (ρ 1015).i/\(ρ 1015).i <= (ρ 9).i/\qpk ρ ((ρ 1015).i + 1) (ρ 1014).b),mu:=(fun ρ=>((ρ 9).i - (ρ 1015).i).toNat) }
def qzE:Inv:={ key:=1000034,nv:=17,env:=qjr ++ [(13,.one (.vbool (.var 1014))),(14,iv .i64 (.var 1015))],heap:=qov ++ [.abs 1016 10],inv:=(fun ρ=>(ρ 1015).i = (ρ 57).i/\qpk ρ ((ρ 57).i + 2) (ρ 1014).b),mu:=fun _=>0 }
def qez (d:qd) (j:Int):Int:=(((d.take j.toNat).filter fun r=>qmm (r.headD .nilFunc)).length:Int)
def qtV:Inv:={ key:=36,nv:=20,env:=qjr ++ [(13,.one (.vbool (.var 1014))),(14,iv .i64 (.var 1015)),(18,iv .i64 (.var 1017)),(19,iv .i64 (.var 1018)),(20,iv .i64 (.var 1019))],heap:=qov ++ [.abs 1016 10],inv:=(fun ρ=>(ρ 1015).i = (ρ 57).i/\qpk ρ ((ρ 57).i + 2) (ρ 1014).b/\0 <= (ρ 1019).i/\(ρ 1019).i <= (ρ 1).i/\(ρ 1017).i = qez (ρ 1003).d (ρ 1019).i/\(ρ 1018).i = qez (ρ 1006).d (ρ 1019).i),mu:=(fun ρ=>((ρ 1).i - (ρ 1019).i).toNat) }
end Go.Eng

set_option linter.unusedSimpArgs false
set_option linter.unusedVariables false
set_option maxRecDepth 100000
namespace Go.Proofs
open Go Go.Eng

end Go.Proofs

set_option linter.unusedSimpArgs false
set_option linter.unusedVariables false
namespace Go.Proofs
open Go Go.Eng
set_option maxRecDepth 100000
end Go.Proofs

set_option linter.unusedSimpArgs false
set_option linter.unusedVariables false
namespace Go.Eng
open Go Go.Proofs
end Go.Eng

set_option linter.unusedSimpArgs false
set_option linter.unusedVariables false
set_option maxRecDepth 100000
namespace Go.Proofs
open Go Go.Eng

end Go.Proofs

set_option linter.unusedSimpArgs false
set_option linter.unusedVariables false
namespace Go.Proofs
open Go Go.Eng
set_option maxRecDepth 20000
set_option maxRecDepth 100000
end Go.Proofs

set_option linter.unusedSimpArgs false
set_option linter.unusedVariables false
namespace Go.Proofs
open Go Go.Eng
end Go.Proofs

set_option linter.unusedSimpArgs false
set_option linter.unusedVariables false
namespace Go.Proofs
open Go Go.Eng Go.RowKit Go.Lib Go.Sort
def qn7 (W:World) (p q:Int) (xs ys:List Int):World:=(W.alloc (Obj.cells (Value.int .i64 p :: xs.map (Value.int .u8)).toArray 153)).alloc (Obj.cells (Value.int .i64 q :: ys.map (Value.int .u8)).toArray 153)
theorem qwS {W:World} {p q:Int} {xs ys:List Int}:(qn7 W p q xs ys).heap[W.heap.size]? = some (Obj.cells (Value.int .i64 p :: xs.map (Value.int .u8)).toArray 153):=by
 simp only [qn7,World.alloc]
 rw [Array.getElem?_push,if_neg (by simp),Array.getElem?_push,if_pos rfl]
theorem qwI {W:World} {p q:Int} {xs ys:List Int}:(qn7 W p q xs ys).heap[W.heap.size + 1]? = some (Obj.cells (Value.int .i64 q :: ys.map (Value.int .u8)).toArray 153):=by
 simp only [qn7,World.alloc]
 rw [Array.getElem?_push,if_pos (by simp)]
theorem q00 {W:World} {b:Nat} {p:Int} {xs:List Int} {ty:TypeId} (h:W.heap[b]? = some (Obj.cells (Value.int .i64 p :: xs.map (Value.int .u8)).toArray ty)) (n j:Nat) (x:Int) (hx:xs[j]? = some x):(W.drewN n).cell? ((⟨b,1,none⟩:Addr).add j) = some (.int .u8 x):=by
 have e:((⟨b,1,none⟩:Addr).add j) = ⟨b,1 + j,none⟩:=by
  unfold Addr.add
  by_cases hj0:j = 0
  ·subst hj0; simp
  ·simp [hj0]
 have h':(W.drewN n).heap[b]? = some (Obj.cells (Value.int .i64 p :: xs.map (Value.int .u8)).toArray ty):=h
 rw [e]
 simp only [World.cell?,h']
 rw [show 1 + j = j + 1 by omega]
 simp [hx]
theorem quY {W:World} {b:Nat} {p:Int} {xs:List Int} {ty:TypeId} (h:W.heap[b]? = some (Obj.cells (Value.int .i64 p :: xs.map (Value.int .u8)).toArray ty)) (n:Nat):(W.drewN n).cell? ⟨b,0,none⟩ = some (.int .i64 p):=by
 have h':(W.drewN n).heap[b]? = some (Obj.cells (Value.int .i64 p :: xs.map (Value.int .u8)).toArray ty):=h
 simp only [World.cell?,h']
 simp
set_option maxHeartbeats 2000000 in
set_option maxRecDepth 100000 in
theorem q2i (p q:Int) (xs ys:List Int) (hx:xs.length = 32) (hy:ys.length = 32) (W:World) :
  Calls Tryz.prog 81 #[.agg (Value.int .i64 p :: xs.map (Value.int .u8)).toArray,.agg (Value.int .i64 q :: ys.map (Value.int .u8)).toArray] W fun e w' =>
   e = .returned (.int .i64 (if compareBytes (Lib.bytesOf xs) (Lib.bytesOf ys) = 0 then RowKit.wrap64 (p - q) else compareBytes (Lib.bytesOf xs) (Lib.bytesOf ys)))/\∃ n os',w' = grow (W.drewN n) os':=by
 have hc:=fun (a b:Addr) (w:World) h1 h2=>qp5 a b xs ys 32 32 w h1 h2
 rw [hx,hy] at hc
 have c1:=q00 (qwS (W:=W) (p:=p) (q:=q) (xs:=xs) (ys:=ys))
 have c2:=q00 (qwI (W:=W) (p:=p) (q:=q) (xs:=xs) (ys:=ys))
 have c3:=quY (qwS (W:=W) (p:=p) (q:=q) (xs:=xs) (ys:=ys))
 have c4:=quY (qwI (W:=W) (p:=p) (q:=q) (xs:=xs) (ys:=ys))
 have hg:∀ n,∃ m os',(qn7 W p q xs ys).drewN n = grow (W.drewN m) os':=fun n=>⟨n,_,by rw [qn7,alloc_eq_grow,alloc_eq_grow,grow_grow]; rfl⟩
 unfold qn7 at c1 c2 c3 c4 hg
 generalize compareBytes (Lib.bytesOf xs) (Lib.bytesOf ys) = r at hc ⊢
 go_enter Tryz.func81,Tryz.ntmps81
 go_wp2
 go_quiet ((go_at_call 118; refine Calls.quiet_of_same (hc _ _ _ ?_ ?_); exact c1 _; exact c2 _))
 go_wp2
 all_goals go_ret
 all_goals refine ⟨?_,hg nq⟩
 all_goals simp_all
end Go.Proofs

namespace Go.Proofs
open Go Go.Shelf Go.RowKit Go.Lib Go.Sort
def qwn:Go.Shelf.Ren:=⟨fun | 6=>83 | 15=>120 | 14=>119 | 28=>148 | 29=>149 | 20=>140 | 21=>141 | 22=>142 | 23=>143 | 24=>144 | 25=>145 | 26=>146 | 27=>147 | 46=>172 | 47=>173 | 48=>174 | 49=>175 | 50=>176 | 57=>186 | n=>n,fun | 22=>156 | 24=>153 | 25=>155 | 3=>3 | 39=>187 | 0=>0 | 53=>131 | 55=>113 | 4=>4 | 46=>234 | 45=>233 | 50=>238 | 5=>5 | 9=>9 | 66=>258 | 70=>262 | 76=>271 | 77=>272 | n=>n,fun | n=>n⟩
theorem qxb:SlLaysF0.n6 Tryz.prog qwn:={
 mixed:=by kernel_rfl
 f6:=⟨Tryz.f83.name,by decide,Tryz.func83.trans (congrArg some (by kernel_rfl))⟩
 f14:=⟨Tryz.f119.name,by decide,Tryz.func119.trans (congrArg some (by kernel_rfl))⟩
 f15:=Tryz.func120.trans (congrArg some (by kernel_rfl))
 f20:=⟨Tryz.f140.name,by decide,Tryz.func140.trans (congrArg some (by kernel_rfl))⟩
 f21:=⟨Tryz.f141.name,by decide,Tryz.func141.trans (congrArg some (by kernel_rfl))⟩
 f22:=⟨Tryz.f142.name,by decide,Tryz.func142.trans (congrArg some (by kernel_rfl))⟩
 f23:=⟨Tryz.f143.name,by decide,Tryz.func143.trans (congrArg some (by kernel_rfl))⟩
 f24:=⟨Tryz.f144.name,by decide,Tryz.func144.trans (congrArg some (by kernel_rfl))⟩
 f25:=⟨Tryz.f145.name,by decide,Tryz.func145.trans (congrArg some (by kernel_rfl))⟩
 f26:=⟨Tryz.f146.name,by decide,Tryz.func146.trans (congrArg some (by kernel_rfl))⟩
 f27:=⟨Tryz.f147.name,by decide,Tryz.func147.trans (congrArg some (by kernel_rfl))⟩
 f28:=Tryz.func148.trans (congrArg some (by kernel_rfl))
 f29:=Tryz.func149.trans (congrArg some (by kernel_rfl))
 f46:=⟨Tryz.f172.name,by decide,Tryz.func172.trans (congrArg some (by kernel_rfl))⟩
 f47:=Tryz.func173.trans (congrArg some (by kernel_rfl))
 f48:=Tryz.func174.trans (congrArg some (by kernel_rfl))
 f49:=⟨Tryz.f175.name,by decide,Tryz.func175.trans (congrArg some (by kernel_rfl))⟩
 f50:=⟨Tryz.f176.name,by decide,Tryz.func176.trans (congrArg some (by kernel_rfl))⟩
 f57:=⟨Tryz.f186.name,by decide,Tryz.func186.trans (congrArg some (by kernel_rfl))⟩
 t0:=Tryz.underlying0
 a0:=Tryz.isAgg0
 z0:=Tryz.sizeOf0
 v0:=Tryz.zeroValue0
 t3:=Tryz.underlying3
 a3:=Tryz.isAgg3
 z3:=Tryz.sizeOf3
 v3:=Tryz.zeroValue3
 t4:=Tryz.underlying4
 a4:=Tryz.isAgg4
 z4:=Tryz.sizeOf4
 v4:=Tryz.zeroValue4
 t5:=Tryz.underlying5
 a5:=Tryz.isAgg5
 z5:=Tryz.sizeOf5
 v5:=Tryz.zeroValue5
 t9:=Tryz.underlying9
 a9:=Tryz.isAgg9
 z9:=Tryz.sizeOf9
 v9:=Tryz.zeroValue9
 t22:=Tryz.underlying156
 a22:=Tryz.isAgg156
 z22:=Tryz.sizeOf156
 v22:=Tryz.zeroValue156
 t25:=Tryz.underlying155
 a25:=Tryz.isAgg155
 z25:=Tryz.sizeOf155
 v25:=Tryz.zeroValue155
 t39:=Tryz.underlying187
 a39:=Tryz.isAgg187
 z39:=Tryz.sizeOf187
 v39:=Tryz.zeroValue187
 t45:=Tryz.underlying233
 a45:=Tryz.isAgg233
 z45:=Tryz.sizeOf233
 v45:=Tryz.zeroValue233
 t46:=Tryz.underlying234
 a46:=Tryz.isAgg234
 z46:=Tryz.sizeOf234
 v46:=Tryz.zeroValue234
 t50:=Tryz.underlying238
 a50:=Tryz.isAgg238
 z50:=Tryz.sizeOf238
 v50:=Tryz.zeroValue238
 t53:=Tryz.underlying131
 a53:=Tryz.isAgg131
 z53:=Tryz.sizeOf131
 v53:=Tryz.zeroValue131
 t55:=Tryz.underlying113
 a55:=Tryz.isAgg113
 z55:=Tryz.sizeOf113
 v55:=Tryz.zeroValue113
 t66:=Tryz.underlying258
 a66:=Tryz.isAgg258
 z66:=Tryz.sizeOf258
 v66:=Tryz.zeroValue258
 t70:=Tryz.underlying262
 a70:=Tryz.isAgg262
 z70:=Tryz.sizeOf262
 v70:=Tryz.zeroValue262
 t76:=Tryz.underlying271
 a76:=Tryz.isAgg271
 z76:=Tryz.sizeOf271
 v76:=Tryz.zeroValue271
 t77:=Tryz.underlying272
 a77:=Tryz.isAgg272
 z77:=Tryz.sizeOf272
 v77:=Tryz.zeroValue272 }
end Go.Proofs

set_option linter.unusedSimpArgs false
set_option linter.unusedVariables false
namespace Go.Proofs
open Go Go.Eng Go.Shelf Go.RowKit Go.Lib Go.Sort
def qeX (o:List Int) (p:Fin 16):List Value:=qB o (p.val:Int)
def cfK (o:List Int) (a b:Fin 16):Int:=qde o (a.val:Int) (b.val:Int)
theorem ltK {o:List Int} {a b:Fin 16}:ltOf (cfK o) a b = qI o (a.val:Int) (b.val:Int):=by unfold ltOf cfK; rw [qfa]
theorem q8s (o:List Int):SWO (ltOf (cfK o)) where
 irrefl x:=by rw [ltK]; exact qox
 trans x y z h1 h2:=by rw [ltK] at *; exact qlI h1 h2
 ntrans x y z h1 h2:=by
  rw [ltK] at *
  have e1:(!qI o (x.val:Int) (y.val:Int)) = true:=by rw [h1]; rfl
  have e2:(!qI o (y.val:Int) (z.val:Int)) = true:=by rw [h2]; rfl
  rw [qiZ] at e1 e2
  have e3:(!qI o (x.val:Int) (z.val:Int)) = true:=by
   rw [qiZ]
   by_cases c1:qde o (y.val:Int) (x.val:Int) = 0
   ·rw [<- qeZ.1 c1]; exact e2
   ·by_cases c2:qde o (z.val:Int) (y.val:Int) = 0
    ·rw [qeZ.1 c2]; exact e1
    ·have:=qkj (o:=o) (a:=(z.val:Int)) (b:=(y.val:Int)) (c:=(x.val:Int)) (by omega) (by omega)
     omega
  simpa using e3
theorem q8v (o:List Int) (x y:Fin 16) (h1:ltOf (cfK o) x y = false) (h2:ltOf (cfK o) y x = false):x = y:=by
 rw [ltK] at h1 h2
 by_cases h:x = y
 ·exact h
 ·have hv:(x.val:Int) ≠ (y.val:Int):=fun e=>h (Fin.ext (by omega))
  rcases qlH (o:=o) hv with e | e
  ·rw [e] at h1; cases h1
  ·rw [e] at h2; cases h2
theorem q7j {o:List Int} {p:Int}:qr kRk (qB o p):=by
 refine ⟨by rw [qis]; rfl,fun c k v hk hv=>?_⟩
 cases c with
 | zero =>
  simp only [kRk,qB,List.getElem?_cons_zero,Option.some.injEq] at hk hv
  subst hk hv; rfl
 | succ c =>
  simp only [kRk,qB,List.getElem?_cons_succ] at hk hv
  rw [List.getElem?_replicate] at hk
  split at hk
  ·simp only [Option.some.injEq] at hk
   rw [List.getElem?_map] at hv
   obtain ⟨z,_,rfl⟩:=Option.map_eq_some_iff.1 hv
   subst hk; rfl
  ·cases hk
theorem qwX {o:List Int} {p:Int}:∀ v ∈ qB o p,v.oneCell' = true:=fun v hv=>by
 rcases List.mem_cons.1 hv with rfl | hv
 ·rfl
 ·obtain ⟨z,_,rfl⟩:=List.mem_map.1 hv; rfl
def toFin (x:Int):Fin 16:=⟨x.toNat % 16,by omega⟩
theorem qrc {x:Int} (h:0 <= x/\x < 16):((toFin x).val:Int) = x:=by simp only [toFin]; omega
theorem qxt {M:List Int} {d:Array (Fin 16)} (h:d.toList.map (fun p=>(p.val:Int)) = M) {i:Nat} (hi:i < d.size):M[i]? = some ((d[i]!).val:Int):=by
 rw [<- h,List.getElem?_map,List.getElem?_eq_getElem (by simpa using hi),Option.map_some]
 rw [getElem!_pos d i hi]; rfl
theorem qs7 {o:List Int} {M:List Int} {d:Array (Fin 16)} (h:d.toList.map (fun p=>(p.val:Int)) = M) {i k:Nat} {row:List Value} {v:Value} (hr:(M.map (qB o))[i]? = some row) (hv:row[k]? = some v) :
  i < d.size/\k < 33/\(flatK (qeX o) 33 d)[i * 33 + k]! = v:=by
 rw [List.getElem?_map] at hr
 obtain ⟨x,hx,rfl⟩:=Option.map_eq_some_iff.1 hr
 have hi:i < d.size:=by
  have:=(List.getElem?_eq_some_iff.1 hx).1
  rw [<- h] at this; simpa using this
 have hk:k < 33:=by
  have:=(List.getElem?_eq_some_iff.1 hv).1
  rwa [qis] at this
 rw [qxt h hi,Option.some.injEq] at hx
 refine ⟨hi,hk,?_⟩
 have hlt:i * 33 + k < d.size * 33:=by omega
 rw [get_flatK _ _ _ _ hlt,show (i * 33 + k) / 33 = i by omega,show (i * 33 + k) % 33 = k by omega]
 unfold qeX
 rw [hx,List.getElem!_eq_getElem?_getD,hv]; rfl
theorem qwu {o:List Int} {L:List Int} {d:Array (Fin 16)} (h:d.toList.map (fun p=>(p.val:Int)) = L) {w:World} {b:Nat} {c:Array Value} {ty:TypeId} (hb:w.heap[b]? = some (.cells c ty (0,0))) (hr:qT c 0 kRk (L.map (qB o))):HoldsK (qeX o) 33 w b 0 d:=by
 intro j hj
 rw [size_flatK] at hj
 have hi:j / 33 < d.size:=by omega
 have hrow:(L.map (qB o))[j / 33]? = some (qB o ((d[j / 33]!).val:Int)):=by rw [List.getElem?_map,qxt h hi]; rfl
 have hkl:j % 33 < (qB o ((d[j / 33]!).val:Int)).length:=by rw [qis]; omega
 have hv:=(hr _ _ hrow).2 (j % 33) _ (List.getElem?_eq_getElem hkl)
 have hf:=(qs7 h hrow (List.getElem?_eq_getElem hkl)).2.2
 rw [show j / 33 * 33 + j % 33 = j by omega] at hf
 have hlen:kRk.length = 33:=rfl
 rw [hlen,show 0 + j / 33 * 33 + j % 33 = j by omega] at hv
 refine ⟨?_,by simp [World.frozen?,hb]⟩
 show w.cell? ⟨b,0 + j,none⟩ = some (id (flatK (qeX o) 33 d)[j]!)
 simp only [World.cell?,hb,Nat.zero_add,id]
 rw [hf,hv]; rfl
theorem qyf {o:List Int} {w:World} {b n:Nat} {d:Array (Fin 16)} {os:Array Obj} {c:Array Value} {ty:TypeId} (hb:w.heap[b]? = some (.cells c ty (0,0))) :
  (sortWorldK (qeX o) 33 w b 0 n d os).heap[b]? = some (.cells (putCells id 0 (flatK (qeX o) 33 d) c) ty (0,0)):=by
 have hlt:b < w.heap.size:=(Array.getElem?_eq_some_iff.1 hb).1
 unfold sortWorldK grow putRowK putRow mapBlock
 have e:(Go.Sort.ahead w n).heap = w.heap:=rfl
 simp only [e]
 rw [Array.getElem?_append_left (by simpa using hlt),Array.getElem?_modify,if_pos rfl,hb]; rfl
theorem qvX {o:List Int} {w:World} {b x n:Nat} {d:Array (Fin 16)} {os:Array Obj} {X:Obj} (hx:w.heap[x]? = some X) (hne:x ≠ b):(sortWorldK (qeX o) 33 w b 0 n d os).heap[x]? = some X:=by
 have hlt:x < w.heap.size:=(Array.getElem?_eq_some_iff.1 hx).1
 unfold sortWorldK grow putRowK putRow mapBlock
 have e:(Go.Sort.ahead w n).heap = w.heap:=rfl
 simp only [e]
 rw [Array.getElem?_append_left (by simpa using hlt),Array.getElem?_modify,if_neg (Ne.symm hne),hx]
theorem qy3 {o:List Int} {M:List Int} {d:Array (Fin 16)} (h:d.toList.map (fun p=>(p.val:Int)) = M) {c:Array Value} (hc:d.size * 33 <= c.size):qT (putCells id 0 (flatK (qeX o) 33 d) c) 0 kRk (M.map (qB o)):=by
 intro i row hi
 have hfit:qr kRk row:=by
  rw [List.getElem?_map] at hi
  obtain ⟨x,_,rfl⟩:=Option.map_eq_some_iff.1 hi
  exact q7j
 refine ⟨hfit,fun k v hv=>?_⟩
 obtain ⟨h1,h2,h3⟩:=qs7 h hi hv
 have hlen:kRk.length = 33:=rfl
 rw [hlen,Nat.zero_add]
 have hlt:i * 33 + k < d.size * 33:=by omega
 unfold putCells
 rw [Array.getElem?_mapIdx,Array.getElem?_eq_getElem (by omega),Option.map_some,if_pos ⟨by omega,by rw [size_flatK]; omega⟩,Nat.sub_zero,h3]; rfl
theorem q8n (o:List Int) (ho:qS o) (x y:Fin 16) (W:World):Calls Tryz.prog 81 #[.agg (qeX o x).toArray,.agg (qeX o y).toArray] W fun e w'=>e = .returned (.int .i64 (cfK o x y))/\∃ q os',w' = grow (W.drewN q) os':=by
 refine (q2i (x.val:Int) (y.val:Int) (qN o x.val) (qN o y.val) qkx qkx W).mono fun e w' h=>?_
 obtain ⟨rfl,h⟩:=h
 refine ⟨?_,h⟩
 rw [qkS qmI qmI]
 have hx:=x.isLt
 have hy:=y.isLt
 unfold cfK qde
 by_cases he:qN o (x.val:Int) = qN o (y.val:Int)
 ·rw [if_pos (qfl.2 he),if_pos he]
  have:RowKit.wrap64 ((x.val:Int) - (y.val:Int)) = (x.val:Int) - (y.val:Int):=by unfold RowKit.wrap64; omega
  rw [this]
 ·rw [if_neg (fun h=>he (qfl.1 h)),if_neg he]
theorem q14 (o:List Int) (ho:qS o) (b cap:Nat) (d:Array (Fin 16)) (w:World) (hH:HoldsK (qeX o) 33 w b 0 d) (hb:b < w.heap.size) (hsz:d.size < 4611686018427387904) :
  Calls Tryz.prog 83 #[.slice (some ⟨b,0,none⟩) d.size cap,.func (.func 81) #[] #[]] w fun e w'=>e = .returned (.tuple #[])/\∃ n os,w' = sortWorldK (qeX o) 33 w b 0 n (d.toList.mergeSort fun x y=>!(ltOf (cfK o)) y x).toArray os :=
 AnyQ.slices_SortFunc_total qxb 33 Tryz.isAgg153 Tryz.sizeOf153 (qeX o) (fun _=>qis) (fun _=>qwX) (cfK o) (q8s o) 81 #[] b 0 cap d w (fun args w=>Tryz.call81 args w) (fun m os dk hs x y=>q8n o ho x y _) hH hb hsz (q8v o)
theorem qxS (p:Option Addr) (cap:Nat) (fv:Value) (w:World):Calls Tryz.prog 83 #[.slice p 0 cap,fv] w fun e w'=>e = .returned (.tuple #[])/\w' = w:=AnyF.slices_SortFunc_none qxb p cap fv w
theorem qzS {o L:List Int} (hL:∀ x ∈ L,0 <= x/\x < 16):(((L.map toFin).mergeSort fun x y=>!(ltOf (cfK o)) y x).map fun p=>(p.val:Int)) = qao o L:=by
 have hv:(L.map toFin).map (fun p=>(p.val:Int)) = L:=by
  rw [List.map_map]
  conv=>rhs; rw [<- List.map_id L]
  exact List.map_congr_left fun x hx=>qrc (hL x hx)
 rw [List.map_mergeSort (s:=fun a b=>!qI o b a) (fun a _ b _=>by rw [ltK]),hv]; rfl
theorem qv9 {o o' L:List Int} (h:L.map (qB o) = L.map (qB o')):(qao o L).map (qB o) = (qao o' L).map (qB o'):=by
 have h1:∀ x ∈ L,qB o x = qB o' x:=List.map_inj_left.1 h
 have hsc:∀ x ∈ L,qN o x = qN o' x:=fun x hx=>by
  have h2:=h1 x hx
  simp only [qB,List.cons.injEq,true_and] at h2
  have h3:=congrArg (List.map qaf) h2
  rw [List.map_map,List.map_map] at h3
  have e:(qaf ∘ Value.int IntKind.u8) = id:=rfl
  rwa [e,List.map_id,List.map_id] at h3
 have hs:qao o L = qao o' L:=by
  have:=List.map_mergeSort (r:=fun a b=>!qI o b a) (s:=fun a b=>!qI o' b a) (f:=id) (l:=L) (fun a ha b hb=>by simp only [id,qI,hsc a ha,hsc b hb])
  rwa [List.map_id,List.map_id] at this
 rw [<- hs]
 exact List.map_congr_left fun x hx=>h1 x (q1i.1 hx)
theorem q5E:qec.ok Tryz.prog:=by
 refine ⟨fun args w=>Tryz.call83 args w,fun ρ w hF hO hg hd hw hs hro hp=>?_⟩
 obtain ⟨hl,hb1,o,L,ho,hD,hL⟩:=hp
 obtain ⟨h1,h2,hdis,hu,harr,_⟩:=hs
 have huniq:∀ {o' L':List Int},(ρ 3).d = L'.map (qB o')->L' = L:=fun {o' L'} h=>by
  have e:=congrArg qu (h.symm.trans hD)
  rwa [quF,quF] at e
 have hlen:(ρ 1).i = L.length:=by rw [hl,hD,List.length_map]
 -- the answer, once the rows are qcm
 have key:∀ (w':World) (hO':Hp),Hp.disj hF.h hO'->SH.den (ρ.set 4 { d:=(qao o L).map (qB o) }) (quK 0 4 2) hO'->(Hp.union hF.h hO').sub w'->hF.wi w' ->
   ∃ (ai:Nat) (al:Alt) (ρ':Env),qec.alts[ai]? = some al/\ρ'.good/\(∀ n,n < qec.nv->ρ' n = ρ n)/\(Ending.returned (.tuple #[]):Ending) = .returned (al.ret.den ρ')/\al.post (ρ'.upto (qec.nv + al.k))/\qq ρ' hF al.heap w':=by
  intro w' hO' a1 a2 a3 a4
  have hgood:({ d:=(qao o L).map (qB o) }:U).good:=⟨rfl,fun row hr v hv=>by
   obtain ⟨x,_,rfl⟩:=List.mem_map.1 hr
   exact qwX v hv⟩
  refine ⟨0,_,ρ.set 4 { d:=(qao o L).map (qB o) },rfl,fun n=>?_,fun n hn=>Env.set_ne _ _ (by have:n < 4:=hn; omega),rfl,?_,hO',a1,⟨hO',Hp.emp,fun _=>.inr rfl,?_,a2,trivial⟩,a3,a4⟩
  ·by_cases hn:n = 4
   ·subst hn; rw [Env.set_same]; exact hgood
   ·rw [Env.set_ne _ _ hn]; exact hg n
  ·intro o' L' ho' hD' hL'
   have hD2:(ρ 3).d = L'.map (qB o'):=hD'
   obtain rfl:=huniq hD2
   show (qao o L').map (qB o) = (qao o' L').map (qB o')
   exact qv9 (hD.symm.trans hD2)
  ·funext b
   simp only [Hp.union,Hp.emp]
   cases hO' b <;> rfl
 rcases harr with ⟨hr,hd0,hc0⟩ | ⟨b,c,hr,hb,hcs,hcap,hrows⟩
 ·have hL0:L = []:=by
   have e:(ρ 3).d = []:=hd0
   rw [hD] at e
   exact List.map_eq_nil_iff.1 e
  subst hL0
  have hargs:(List.map (SV.den ρ) qec.args).toArray = #[.slice none 0 (ρ 2).i.toNat,.func (.func 81) #[] #[]]:=by
   have hr':(ρ 0).r = none:=hr
   simp [qec,rkS,SV.den,qb,T.den,O0.den,O3.den,hr',hlen,ql]
  rw [hargs]
  refine (qxS none _ _ w).mono fun e w' h=>?_
  obtain ⟨rfl,rfl⟩:=h
  refine key _ hO hd (.inl ⟨?_,?_,?_⟩) hw.1 hw.2
  ·rw [Env.set_ne _ _ (by decide)]; exact hr
  ·show ((ρ.set 4 _) 4).d = []
   rw [Env.set_same]; simp [qao]
  ·show ((ρ.set 4 _) 2).i = 0
   rw [Env.set_ne _ _ (by decide)]; exact hc0
 ·have hbO:hO b = some (.cells c 153 (0,0)):=by rw [hu]; simp [Hp.union,hb]
  have hbw:w.heap[b]? = some (.cells c 153 (0,0)):=hw.1 _ _ (by
   unfold Hp.union
   rcases hd b with h | h
   ·rw [h]; exact hbO
   ·rw [hbO] at h; cases h)
  have hblt:b < w.heap.size:=(Array.getElem?_eq_some_iff.1 hbw).1
  have hrows':qT c 0 kRk (L.map (qB o)):=by
   have h:=hrows
   rw [show (T.den ρ (.var 3)).d = (ρ 3).d from rfl,hD] at h
   exact h
  have hcs':c.size = (ρ 2).i.toNat * 33:=hcs
  have hcap':((ρ 3).d.length:Int) <= (ρ 2).i:=hcap
  rw [hD,List.length_map] at hcap'
  let d:Array (Fin 16):=(L.map toFin).toArray
  have hdv:d.toList.map (fun p=>(p.val:Int)) = L:=by
   simp only [d,List.toList_toArray,List.map_map]
   conv=>rhs; rw [<- List.map_id L]
   exact List.map_congr_left fun x hx=>qrc (hL x hx)
  have hds:d.size = L.length:=by simp [d]
  have hH:=qwu hdv hbw hrows'
  have hargs:(List.map (SV.den ρ) qec.args).toArray = #[.slice (some ⟨b,0,none⟩) d.size (ρ 2).i.toNat,.func (.func 81) #[] #[]]:=by
   have hr':(ρ 0).r = some ⟨b,0,none⟩:=hr
   simp [qec,rkS,SV.den,qb,T.den,O0.den,O3.den,hr',hlen,ql,hds]
  rw [hargs]
  refine (q14 o ho b _ d w hH hblt (by omega)).mono fun e w' h=>?_
  obtain ⟨rfl,n,os,rfl⟩:=h
  have hsv:((d.toList.mergeSort fun x y=>!(ltOf (cfK o)) y x).toArray:Array (Fin 16)).toList.map (fun p=>(p.val:Int)) = qao o L:=by
   simp only [d,List.toList_toArray]
   exact qzS hL
  have hsl:((d.toList.mergeSort fun x y=>!(ltOf (cfK o)) y x).toArray:Array (Fin 16)).size * 33 <= c.size:=by
   rw [hcs',List.size_toArray,List.length_mergeSort]
   simp only [Array.length_toList,hds]
   omega
  refine key _ (Hp.upd hO b (.cells (putCells id 0 (flatK (qeX o) 33 (d.toList.mergeSort fun x y=>!(ltOf (cfK o)) y x).toArray) c) 153 (0,0))) (fun x=>?_) (.inr ⟨b,putCells id 0 (flatK (qeX o) 33 (d.toList.mergeSort fun x y=>!(ltOf (cfK o)) y x).toArray) c,?_,?_,?_,?_,?_⟩) (fun x X hX=>?_) ?_
  ·by_cases hx:x = b
   ·subst hx
    rcases hd x with h | h
    ·exact .inl h
    ·rw [hbO] at h; cases h
   ·unfold Hp.upd; rw [if_neg hx]; exact hd x
  ·rw [Env.set_ne _ _ (by decide)]; exact hr
  ·unfold Hp.upd; rw [if_pos rfl]
  ·show (putCells id 0 _ c).size = ((ρ.set 4 _) 2).i.toNat * 33
   rw [Env.set_ne _ _ (by decide),<- hcs']
   simp [putCells]
  ·show ((((ρ.set 4 { d:=(qao o L).map (qB o) }) 4).d.length:Nat):Int) <= ((ρ.set 4 _) 2).i
   rw [Env.set_same,Env.set_ne _ _ (by decide),List.length_map,qir]; exact hcap'
  ·show qT _ 0 kRk ((ρ.set 4 { d:=(qao o L).map (qB o) }) 4).d
   rw [Env.set_same]
   exact qy3 hsv hsl
  ·by_cases hx:x = b
   ·subst hx
    have hFn:hF.h x = none:=by
     rcases hd x with h | h
     ·exact h
     ·rw [hbO] at h; cases h
    simp only [Hp.union,hFn,Hp.upd,if_true,Option.none_or,Option.some.injEq] at hX
    rw [<- hX]
    exact qyf hbw
   ·have hX':Hp.union hF.h hO x = some X:=by
     simpa [Hp.union,Hp.upd,hx] using hX
    exact qvX (hw.1 _ _ hX') hx
  ·exact hw.2
end Go.Proofs

set_option linter.unusedSimpArgs false
set_option linter.unusedVariables false
set_option maxRecDepth 100000
namespace Go.Proofs
open Go Go.Eng

def qx2:Out:=(.br (.cmp .geq (.var 1) (.var 0))
 (.ret 0 (sg 2 [bt 2 (.cmp .lss (.arith .sub .u64 (.var 1) (.var 0)) (.lit 12))]))
 (.ret 0 (sg 2 [bt 2 (.bl false)])))
theorem q2P:qk ⟨Tryz.prog,qiF,[],[]⟩ 100000 Tryz.f101 = qx2:=by kernel_rfl
theorem q6T (hd:∀ c ∈ ([]:List Ctr),c.ok Tryz.prog) (h:∀ ρ:Env,ρ.good->(qiF).pre ρ->qx2.den ⟨Tryz.prog,qiF,[],[]⟩ ρ):(qiF).ok Tryz.prog :=
 qe Tryz.func101 (fun a w=>Tryz.call101 a w) hd 100000 (fun ρ hg hp=>by rw [q2P]; exact h ρ hg hp)
def qpQ:Out:=(.mop .new 0 (.fresh 2 (.ret 0 (sg 0 [bg 2 0,bv 1 1,bg 0 2]))) .top)
theorem qzx:qk ⟨Tryz.prog,qdP,[],[]⟩ 100000 Tryz.f61 = qpQ:=by kernel_rfl
theorem q39 (hd:∀ c ∈ ([]:List Ctr),c.ok Tryz.prog) (h:∀ ρ:Env,ρ.good->(qdP).pre ρ->qpQ.den ⟨Tryz.prog,qdP,[],[]⟩ ρ):(qdP).ok Tryz.prog :=
 qe Tryz.func61 (fun a w=>Tryz.call61 a w) hd 100000 (fun ρ hg hp=>by rw [qzx]; exact h ρ hg hp)
def qtp:Out:=(.fresh 6 (.pre 0 (sg 0 [bv 0 2]) (.both (.fresh 7 (.post 0 0 (sg 0 [bv 0 2]) 7 (.br (.not (.var 7))
 (.ret 0 (sg 6 [bg 6 5]))
 (.both (.mop (.get (.var 4) [(.c2 (.xint 0) (.var 1) (.lit 0)),(.c2 (.xint 1) (.var 1) (.lit 0)),(.c2 (.xint 2) (.var 1) (.lit 0)),(.c2 (.xint 3) (.var 1) (.lit 0)),(.c2 (.xint 4) (.var 1) (.lit 0)),(.c2 (.xint 5) (.var 1) (.lit 0)),(.c2 (.xint 6) (.var 1) (.lit 0)),(.c2 (.xint 7) (.var 1) (.lit 0)),(.c2 (.xint 8) (.var 1) (.lit 0)),(.c2 (.xint 9) (.var 1) (.lit 0)),(.c2 (.xint 10) (.var 1) (.lit 0)),(.c2 (.xint 11) (.var 1) (.lit 0)),(.c2 (.xint 12) (.var 1) (.lit 0)),(.c2 (.xint 13) (.var 1) (.lit 0)),(.c2 (.xint 14) (.var 1) (.lit 0)),(.c2 (.xint 15) (.var 1) (.lit 0)),(.c2 (.xint 16) (.var 1) (.lit 0)),(.c2 (.xint 17) (.var 1) (.lit 0)),(.c2 (.xint 18) (.var 1) (.lit 0)),(.c2 (.xint 19) (.var 1) (.lit 0)),(.c2 (.xint 20) (.var 1) (.lit 0)),(.c2 (.xint 21) (.var 1) (.lit 0)),(.c2 (.xint 22) (.var 1) (.lit 0)),(.c2 (.xint 23) (.var 1) (.lit 0)),(.c2 (.xint 24) (.var 1) (.lit 0)),(.c2 (.xint 25) (.var 1) (.lit 0)),(.c2 (.xint 26) (.var 1) (.lit 0)),(.c2 (.xint 27) (.var 1) (.lit 0)),(.c2 (.xint 28) (.var 1) (.lit 0)),(.c2 (.xint 29) (.var 1) (.lit 0)),(.c2 (.xint 30) (.var 1) (.lit 0)),(.c2 (.xint 31) (.var 1) (.lit 0))] ⟨true,[.u8,.u8,.u8,.u8,.u8,.u8,.u8,.u8,.u8,.u8,.u8,.u8,.u8,.u8,.u8,.u8,.u8,.u8,.u8,.u8,.u8,.u8,.u8,.u8,.u8,.u8,.u8,.u8,.u8,.u8,.u8,.u8],false,[CK.any],[.vnilm]⟩ [5]) 8 (.both (.mop (.isnil (.vcell (.var 8) (.lit 0) 0)) 9 (.br (.var 9)
 (.both (.mop .new 10 (.both (.pack [.abs 10 1003,.abs 5 1003] 12 (.mop (.put 12 (.var 4) [(.c2 (.xint 0) (.var 1) (.lit 0)),(.c2 (.xint 1) (.var 1) (.lit 0)),(.c2 (.xint 2) (.var 1) (.lit 0)),(.c2 (.xint 3) (.var 1) (.lit 0)),(.c2 (.xint 4) (.var 1) (.lit 0)),(.c2 (.xint 5) (.var 1) (.lit 0)),(.c2 (.xint 6) (.var 1) (.lit 0)),(.c2 (.xint 7) (.var 1) (.lit 0)),(.c2 (.xint 8) (.var 1) (.lit 0)),(.c2 (.xint 9) (.var 1) (.lit 0)),(.c2 (.xint 10) (.var 1) (.lit 0)),(.c2 (.xint 11) (.var 1) (.lit 0)),(.c2 (.xint 12) (.var 1) (.lit 0)),(.c2 (.xint 13) (.var 1) (.lit 0)),(.c2 (.xint 14) (.var 1) (.lit 0)),(.c2 (.xint 15) (.var 1) (.lit 0)),(.c2 (.xint 16) (.var 1) (.lit 0)),(.c2 (.xint 17) (.var 1) (.lit 0)),(.c2 (.xint 18) (.var 1) (.lit 0)),(.c2 (.xint 19) (.var 1) (.lit 0)),(.c2 (.xint 20) (.var 1) (.lit 0)),(.c2 (.xint 21) (.var 1) (.lit 0)),(.c2 (.xint 22) (.var 1) (.lit 0)),(.c2 (.xint 23) (.var 1) (.lit 0)),(.c2 (.xint 24) (.var 1) (.lit 0)),(.c2 (.xint 25) (.var 1) (.lit 0)),(.c2 (.xint 26) (.var 1) (.lit 0)),(.c2 (.xint 27) (.var 1) (.lit 0)),(.c2 (.xint 28) (.var 1) (.lit 0)),(.c2 (.xint 29) (.var 1) (.lit 0)),(.c2 (.xint 30) (.var 1) (.lit 0)),(.c2 (.xint 31) (.var 1) (.lit 0))] [(.var 11)] ⟨true,[.u8,.u8,.u8,.u8,.u8,.u8,.u8,.u8,.u8,.u8,.u8,.u8,.u8,.u8,.u8,.u8,.u8,.u8,.u8,.u8,.u8,.u8,.u8,.u8,.u8,.u8,.u8,.u8,.u8,.u8,.u8,.u8],false,[CK.any],[.vnilm]⟩) 13 (.both (.mop (.get (.var 4) [(.c2 (.xint 0) (.var 1) (.lit 0)),(.c2 (.xint 1) (.var 1) (.lit 0)),(.c2 (.xint 2) (.var 1) (.lit 0)),(.c2 (.xint 3) (.var 1) (.lit 0)),(.c2 (.xint 4) (.var 1) (.lit 0)),(.c2 (.xint 5) (.var 1) (.lit 0)),(.c2 (.xint 6) (.var 1) (.lit 0)),(.c2 (.xint 7) (.var 1) (.lit 0)),(.c2 (.xint 8) (.var 1) (.lit 0)),(.c2 (.xint 9) (.var 1) (.lit 0)),(.c2 (.xint 10) (.var 1) (.lit 0)),(.c2 (.xint 11) (.var 1) (.lit 0)),(.c2 (.xint 12) (.var 1) (.lit 0)),(.c2 (.xint 13) (.var 1) (.lit 0)),(.c2 (.xint 14) (.var 1) (.lit 0)),(.c2 (.xint 15) (.var 1) (.lit 0)),(.c2 (.xint 16) (.var 1) (.lit 0)),(.c2 (.xint 17) (.var 1) (.lit 0)),(.c2 (.xint 18) (.var 1) (.lit 0)),(.c2 (.xint 19) (.var 1) (.lit 0)),(.c2 (.xint 20) (.var 1) (.lit 0)),(.c2 (.xint 21) (.var 1) (.lit 0)),(.c2 (.xint 22) (.var 1) (.lit 0)),(.c2 (.xint 23) (.var 1) (.lit 0)),(.c2 (.xint 24) (.var 1) (.lit 0)),(.c2 (.xint 25) (.var 1) (.lit 0)),(.c2 (.xint 26) (.var 1) (.lit 0)),(.c2 (.xint 27) (.var 1) (.lit 0)),(.c2 (.xint 28) (.var 1) (.lit 0)),(.c2 (.xint 29) (.var 1) (.lit 0)),(.c2 (.xint 30) (.var 1) (.lit 0)),(.c2 (.xint 31) (.var 1) (.lit 0))] ⟨true,[.u8,.u8,.u8,.u8,.u8,.u8,.u8,.u8,.u8,.u8,.u8,.u8,.u8,.u8,.u8,.u8,.u8,.u8,.u8,.u8,.u8,.u8,.u8,.u8,.u8,.u8,.u8,.u8,.u8,.u8,.u8,.u8],false,[CK.any],[.vnilm]⟩ [13]) 14 (.both (.mop (.put 13 (.vcell (.var 14) (.lit 0) 0) [(.var 2)] [(.vint .u64 (.var 3))] ⟨false,[.i64],false,[CK.int .u64],[(.vint .u64 (.lit 0))]⟩) 15 (.ret 0 (sg 6 [bg 6 15])) .top) .top) .top) .top) .top)) .top) .top) .top)
 (.both (.mop (.get (.var 4) [(.c2 (.xint 0) (.var 1) (.lit 0)),(.c2 (.xint 1) (.var 1) (.lit 0)),(.c2 (.xint 2) (.var 1) (.lit 0)),(.c2 (.xint 3) (.var 1) (.lit 0)),(.c2 (.xint 4) (.var 1) (.lit 0)),(.c2 (.xint 5) (.var 1) (.lit 0)),(.c2 (.xint 6) (.var 1) (.lit 0)),(.c2 (.xint 7) (.var 1) (.lit 0)),(.c2 (.xint 8) (.var 1) (.lit 0)),(.c2 (.xint 9) (.var 1) (.lit 0)),(.c2 (.xint 10) (.var 1) (.lit 0)),(.c2 (.xint 11) (.var 1) (.lit 0)),(.c2 (.xint 12) (.var 1) (.lit 0)),(.c2 (.xint 13) (.var 1) (.lit 0)),(.c2 (.xint 14) (.var 1) (.lit 0)),(.c2 (.xint 15) (.var 1) (.lit 0)),(.c2 (.xint 16) (.var 1) (.lit 0)),(.c2 (.xint 17) (.var 1) (.lit 0)),(.c2 (.xint 18) (.var 1) (.lit 0)),(.c2 (.xint 19) (.var 1) (.lit 0)),(.c2 (.xint 20) (.var 1) (.lit 0)),(.c2 (.xint 21) (.var 1) (.lit 0)),(.c2 (.xint 22) (.var 1) (.lit 0)),(.c2 (.xint 23) (.var 1) (.lit 0)),(.c2 (.xint 24) (.var 1) (.lit 0)),(.c2 (.xint 25) (.var 1) (.lit 0)),(.c2 (.xint 26) (.var 1) (.lit 0)),(.c2 (.xint 27) (.var 1) (.lit 0)),(.c2 (.xint 28) (.var 1) (.lit 0)),(.c2 (.xint 29) (.var 1) (.lit 0)),(.c2 (.xint 30) (.var 1) (.lit 0)),(.c2 (.xint 31) (.var 1) (.lit 0))] ⟨true,[.u8,.u8,.u8,.u8,.u8,.u8,.u8,.u8,.u8,.u8,.u8,.u8,.u8,.u8,.u8,.u8,.u8,.u8,.u8,.u8,.u8,.u8,.u8,.u8,.u8,.u8,.u8,.u8,.u8,.u8,.u8,.u8],false,[CK.any],[.vnilm]⟩ [5]) 10 (.both (.mop (.put 5 (.vcell (.var 10) (.lit 0) 0) [(.var 2)] [(.vint .u64 (.var 3))] ⟨false,[.i64],false,[CK.int .u64],[(.vint .u64 (.lit 0))]⟩) 11 (.ret 0 (sg 6 [bg 6 11])) .top) .top) .top) .top)) .top) .top) .top) .top)))) .top)))
theorem q1I:qk ⟨Tryz.prog,qfG,[qcl],[]⟩ 100000 Tryz.f62 = qtp:=by kernel_rfl
theorem q5f (hd:∀ c ∈ ([qcl]:List Ctr),c.ok Tryz.prog) (h:∀ ρ:Env,ρ.good->(qfG).pre ρ->qtp.den ⟨Tryz.prog,qfG,[qcl],[]⟩ ρ):(qfG).ok Tryz.prog :=
 qe Tryz.func62 (fun a w=>Tryz.call62 a w) hd 100000 (fun ρ hg hp=>by rw [q1I]; exact h ρ hg hp)
@[simp] def qiB:Out:=.back 0 57 (sg 1000 [bg 1007 65,bv 1004 61,bv 1002 59,bv 1006 63,bt 1005 (.bl false),bg 1003 60,bg 1001 58,bg 1000 57])
def qlN:Out:=(.fresh 18 (.pre 0 (sg 0 [bv 4 15,bv 3 14,bv 2 13,bv 1 12,bg 0 11]) (.both (.fresh 19 (.fresh 20 (.fresh 21 (.fresh 22 (.fresh 23 (.fresh 24 (.fresh 25 (.fresh 26 (.fresh 27 (.fresh 28 (.fresh 29 (.fresh 30 (.fresh 31 (.fresh 32 (.fresh 33 (.fresh 34 (.post 0 0 (sg 0 [bv 4 15,bv 3 14,bv 2 13,bv 1 12,bg 0 11]) 19 (.pre 0 (sg 0 [bv 4 10,bv 3 9,bv 2 8,bv 1 7,bg 0 6]) (.both (.fresh 35 (.fresh 36 (.fresh 37 (.fresh 38 (.fresh 39 (.fresh 40 (.fresh 41 (.fresh 42 (.fresh 43 (.fresh 44 (.fresh 45 (.fresh 46 (.fresh 47 (.fresh 48 (.fresh 49 (.fresh 50 (.post 0 0 (sg 0 [bv 4 10,bv 3 9,bv 2 8,bv 1 7,bg 0 6]) 35 (.fresh 51 (.fresh 52 (.both (.mop (.get (.var 4) [(.c2 (.xint 0) (.var 1) (.lit 0)),(.c2 (.xint 1) (.var 1) (.lit 0)),(.c2 (.xint 2) (.var 1) (.lit 0)),(.c2 (.xint 3) (.var 1) (.lit 0)),(.c2 (.xint 4) (.var 1) (.lit 0)),(.c2 (.xint 5) (.var 1) (.lit 0)),(.c2 (.xint 6) (.var 1) (.lit 0)),(.c2 (.xint 7) (.var 1) (.lit 0)),(.c2 (.xint 8) (.var 1) (.lit 0)),(.c2 (.xint 9) (.var 1) (.lit 0)),(.c2 (.xint 10) (.var 1) (.lit 0)),(.c2 (.xint 11) (.var 1) (.lit 0)),(.c2 (.xint 12) (.var 1) (.lit 0)),(.c2 (.xint 13) (.var 1) (.lit 0)),(.c2 (.xint 14) (.var 1) (.lit 0)),(.c2 (.xint 15) (.var 1) (.lit 0)),(.c2 (.xint 16) (.var 1) (.lit 0)),(.c2 (.xint 17) (.var 1) (.lit 0)),(.c2 (.xint 18) (.var 1) (.lit 0)),(.c2 (.xint 19) (.var 1) (.lit 0)),(.c2 (.xint 20) (.var 1) (.lit 0)),(.c2 (.xint 21) (.var 1) (.lit 0)),(.c2 (.xint 22) (.var 1) (.lit 0)),(.c2 (.xint 23) (.var 1) (.lit 0)),(.c2 (.xint 24) (.var 1) (.lit 0)),(.c2 (.xint 25) (.var 1) (.lit 0)),(.c2 (.xint 26) (.var 1) (.lit 0)),(.c2 (.xint 27) (.var 1) (.lit 0)),(.c2 (.xint 28) (.var 1) (.lit 0)),(.c2 (.xint 29) (.var 1) (.lit 0)),(.c2 (.xint 30) (.var 1) (.lit 0)),(.c2 (.xint 31) (.var 1) (.lit 0))] ⟨true,[.u8,.u8,.u8,.u8,.u8,.u8,.u8,.u8,.u8,.u8,.u8,.u8,.u8,.u8,.u8,.u8,.u8,.u8,.u8,.u8,.u8,.u8,.u8,.u8,.u8,.u8,.u8,.u8,.u8,.u8,.u8,.u8],false,[CK.any],[.vnilm]⟩ [5]) 53 (.both (.mop (.range (.vcell (.var 53) (.lit 0) 0) ⟨false,[.i64],false,[CK.int .u64],[(.vint .u64 (.lit 0))]⟩ [5]) 54 (.pack [.abs 54 1003,.abs 5 1003] 56 (.inv 0 57 (sg 1000 [bg 1007 56,bt 1004 (.rcons (.vbool (.var 35)) (.rcons (.vbool (.var 36)) (.rcons (.vbool (.var 37)) (.rcons (.vbool (.var 38)) (.rcons (.vbool (.var 39)) (.rcons (.vbool (.var 40)) (.rcons (.vbool (.var 41)) (.rcons (.vbool (.var 42)) (.rcons (.vbool (.var 43)) (.rcons (.vbool (.var 44)) (.rcons (.vbool (.var 45)) (.rcons (.vbool (.var 46)) (.rcons (.vbool (.var 47)) (.rcons (.vbool (.var 48)) (.rcons (.vbool (.var 49)) (.rcons (.vbool (.var 50)) .rnil)))))))))))))))),bt 1002 (.rcons (.vbool (.var 19)) (.rcons (.vbool (.var 20)) (.rcons (.vbool (.var 21)) (.rcons (.vbool (.var 22)) (.rcons (.vbool (.var 23)) (.rcons (.vbool (.var 24)) (.rcons (.vbool (.var 25)) (.rcons (.vbool (.var 26)) (.rcons (.vbool (.var 27)) (.rcons (.vbool (.var 28)) (.rcons (.vbool (.var 29)) (.rcons (.vbool (.var 30)) (.rcons (.vbool (.var 31)) (.rcons (.vbool (.var 32)) (.rcons (.vbool (.var 33)) (.rcons (.vbool (.var 34)) .rnil)))))))))))))))),bv 1006 55,bt 1005 (.bl false),bg 1003 52,bg 1001 51,bg 1000 18]) (.fresh 57 (.fresh 58 (.fresh 59 (.fresh 60 (.fresh 61 (.fresh 62 (.fresh 63 (.fresh 64 (.hyp 0 57 (.mop (.next 64 (.var 63) ⟨false,[.i64],false,[CK.int .u64],[(.vint .u64 (.lit 0))]⟩ [64]) 65 (.mop (.entry 65 (.var 63) ⟨false,[.i64],false,[CK.int .u64],[(.vint .u64 (.lit 0))]⟩ [65]) 68 (.br (.var 62)
 (.back 0 57 (sg 1000 [bg 1007 65,bv 1004 61,bv 1002 59,bv 1006 63,bt 1005 (.bl true),bg 1003 60,bg 1001 58,bg 1000 57]))
 (.pre 1 (sg 0 [bv 1 3,bt 0 (.c2 (.xint 0) (.var 69) (.lit 0))]) (.both (.fresh 70 (.post 1 0 (sg 0 [bv 1 3,bt 0 (.c2 (.xint 0) (.var 69) (.lit 0))]) 70 (.br (.var 70)
 (.need (.cmp .leq (.lit 0) (.c2 (.xint 0) (.var 68) (.lit 0))) (.need (.cmp .lss (.c2 (.xint 0) (.var 68) (.lit 0)) (.lit 16)) (.need (.cmp .lss (.lit 0) (.dlen (.var 61))) (.br (.c2 (.xbool 0) (.var 61) (.c2 (.xint 0) (.var 68) (.lit 0)))
 (.need (.cmp .lss (.lit 0) (.dlen (.var 59))) (.br (.not (.c2 (.xbool 0) (.var 59) (.c2 (.xint 0) (.var 68) (.lit 0))))
 (.pre 2 (sg 0 [bv 4 17,bv 2 2,bt 1 (.c2 (.xint 0) (.var 68) (.lit 0)),bt 0 (r8 1),bg 3 16]) (.both (.fresh 71 (.post 2 0 (sg 0 [bv 4 17,bv 2 2,bt 1 (.c2 (.xint 0) (.var 68) (.lit 0)),bt 0 (r8 1),bg 3 16]) 71 (.back 0 57 (sg 1000 [bg 1007 65,bv 1004 61,bv 1002 59,bv 1006 63,bv 1005 71,bg 1003 60,bg 1001 58,bg 1000 57])))) .top))
 qiB))
 qiB))))
 qiB))) .top))) .top) (.ret 0 (sg 18 [bg 19 64,bv 18 62])))))))))))))) .top) .top) .top) .top)))))))))))))))))))) .top))))))))))))))))))) .top)))
theorem qve:qk ⟨Tryz.prog,qcb,[qc8,qiF,qaH],[qnh]⟩ 100000 Tryz.f68 = qlN:=by kernel_rfl
theorem qxB (hd:∀ c ∈ ([qc8,qiF,qaH]:List Ctr),c.ok Tryz.prog) (h:∀ ρ:Env,ρ.good->(qcb).pre ρ->qlN.den ⟨Tryz.prog,qcb,[qc8,qiF,qaH],[qnh]⟩ ρ):(qcb).ok Tryz.prog :=
 qe Tryz.func68 (fun a w=>Tryz.call68 a w) hd 100000 (fun ρ hg hp=>by rw [qve]; exact h ρ hg hp)
end Go.Proofs

set_option linter.unusedSimpArgs false
set_option linter.unusedVariables false
namespace Go.Proofs
open Go Go.Eng
theorem qr6:∀ {ks:List IntKind} {a b:List Int},a.length = ks.length->b.length = ks.length->qU ks a = qU ks b->a = b
 | [],[],[],_,_,_=>rfl
 | k :: ks,x :: a,y :: b,h1,h2,h=>by
  simp only [qU,List.zipWith_cons_cons,List.cons.injEq,Value.int.injEq,true_and] at h
  rw [h.1,qr6 (ks:=ks) (by simpa using h1) (by simpa using h2) h.2]
 | [],_ :: _,_,h,_,_=>by simp at h
 | [],_,_ :: _,_,h,_=>by simp at h
 | _ :: _,[],_,h,_,_=>by simp at h
 | _ :: _,_ :: _,[],_,h,_=>by simp at h
theorem qwH {g:Bool} {a b:List Value} {n:Nat} (ha:a.length = n) (hb:b.length = n) (hg:g = true∨n = 1) (h:mkV g a = mkV g b):a = b:=by
 cases g with
 | true =>
  simp only [mkV,Value.agg.injEq] at h
  simpa using congrArg Array.toList h
 | false =>
  obtain rfl:=hg.resolve_left (by simp)
  match a,b,ha,hb with
  | [x],[y],_,_ =>
   simp only [mkV,List.headD_cons] at h
   rw [h]
theorem qum {mt:MT} (hk:mt.kagg = true∨mt.kks.length = 1) (hv:mt.vagg = true∨mt.vpat.length = 1):∀ {l l':List ME},(∀ x ∈ l,x.k.length = mt.kks.length/\qr mt.vpat x.v)->(∀ x ∈ l',x.k.length = mt.kks.length/\qr mt.vpat x.v)->l.map mt.ent = l'.map mt.ent->l = l'
 | [],[],_,_,_=>rfl
 | [],_ :: _,_,_,h=>by simp at h
 | _ :: _,[],_,_,h=>by simp at h
 | x :: l,y :: l',h1,h2,h=>by
  simp only [List.map_cons,List.cons.injEq] at h
  obtain ⟨e1,e2⟩:=h
  have hx:=h1 x (List.mem_cons_self ..)
  have hy:=h2 y (List.mem_cons_self ..)
  simp only [MT.ent,MapEntry.mk.injEq] at e1
  obtain ⟨a1,a2,a3⟩:=e1
  have lk:∀ {k:List Int},k.length = mt.kks.length->(qU mt.kks k).length = mt.kks.length:=fun h=>by simp [qU,h]
  have b1:=qr6 hx.1 hy.1 (qwH (lk hx.1) (lk hy.1) hk a1)
  have b2:=qwH hx.2.1 hy.2.1 hv a2
  obtain ⟨xk,xv,xb⟩:=x
  obtain ⟨yk,yv,yb⟩:=y
  simp only at b1 b2 a3
  subst b1 b2 a3
  rw [qum hk hv (fun z hz=>h1 z (List.mem_cons_of_mem _ hz)) (fun z hz=>h2 z (List.mem_cons_of_mem _ hz)) e2]
theorem qr4 {h:Hp} {b:Nat} {mt:MT} {l l':List ME} {c c':Nat} (hk:mt.kagg = true∨mt.kks.length = 1) (hv:mt.vagg = true∨mt.vpat.length = 1) (h1:qaK h b mt l c) (h2:qaK h b mt l' c'):l = l'/\c = c':=by
 have e:=h1.1.symm.trans h2.1
 simp only [MT.obj,Option.some.injEq,Obj.map.injEq] at e
 exact ⟨qum hk hv (fun x hx=>⟨(h1.2.1 x hx).1,(h1.2.1 x hx).2.1⟩) (fun x hx=>⟨(h2.2.1 x hx).1,(h2.2.1 x hx).2.1⟩) (by simpa using congrArg Array.toList e.1),e.2⟩
theorem q8j {h:Hp} {b:Nat} {l l':List ME} {c c':Nat} (h1:qaK h b mtO l c) (h2:qaK h b mtO l' c'):l = l'/\c = c':=qr4 (.inl rfl) (.inr rfl) h1 h2
theorem q4L {h:Hp} {b:Nat} {l l':List ME} {c c':Nat} (h1:qaK h b mtI l c) (h2:qaK h b mtI l' c'):l = l'/\c = c':=qr4 (.inr rfl) (.inr rfl) h1 h2
theorem qhn {h:Hp} {v:Value} {cl cl':Cl} (h1:qV h v cl) (h2:qV h v cl'):cl' = cl:=by
 obtain ⟨b,l,c,rfl,hm,hi,_,hn,_⟩:=h1
 obtain ⟨b2,l2,c2,e,hm2,hi2,_,hn2,_⟩:=h2
 simp only [Value.map.injEq,Option.some.injEq] at e
 subst e
 obtain ⟨rfl,rfl⟩:=q8j hm hm2
 funext o i
 by_cases ho:∃ x ∈ l,x.k = o
 ·obtain ⟨x,hx,rfl⟩:=ho
  obtain ⟨b',m,c',e1,_,e2,e3⟩:=hi x hx
  obtain ⟨b2',m2,c2',e1',_,e2',e3'⟩:=hi2 x hx
  rw [e1] at e1'
  simp only [List.cons.injEq,Value.map.injEq,Option.some.injEq,and_true] at e1'
  subst e1'
  obtain ⟨rfl,_⟩:=q4L e2 e2'
  rw [e3,e3']
 ·have:∀ x ∈ l,x.k ≠ o:=fun x hx he=>ho ⟨x,hx,he⟩
  rw [hn o i this,hn2 o i this]
theorem qgE {h h':Hp} {b:Nat} {mt:MT} {l:List ME} {c:Nat} (hm:qaK h b mt l c) (hl:Hp.le h h'):qaK h' b mt l c:=⟨hl _ _ hm.1,hm.2⟩
theorem qxm {h h':Hp} {v:Value} {cl:Cl} (hc:qV h v cl) (hl:Hp.le h h'):qV h' v cl:=by
 obtain ⟨b,l,c,e,hm,hi,hr⟩:=hc
 exact ⟨b,l,c,e,qgE hm hl,fun x hx=>by
  obtain ⟨b',m,c',e1,e2,e3,e4⟩:=hi x hx
  exact ⟨b',m,c',e1,e2,qgE e3 hl,e4⟩,hr⟩
theorem qu8 {l:List ME} {k:List Int}:qbv l k = true↔∃ x ∈ l,x.k = k:=by
 unfold qbv
 rw [List.any_eq_true]
 exact ⟨fun ⟨x,h1,h2⟩=>⟨x,h1,by simpa using h2⟩,fun ⟨x,h1,h2⟩=>⟨x,h1,by simpa using h2⟩⟩
theorem qki {l:List ME} {k:List Int} (h:qbv l k = false):∀ x ∈ l,x.k ≠ k:=fun x hx he=>by
 rw [qu8.2 ⟨x,hx,he⟩] at h; cases h
theorem quO {m:List ME} {i i' t:Int} {c:Nat}:qd3 (qbt m [i] [.int .u64 t] c).1 i' = if i' = i then some t else qd3 m i':=by
 unfold qbt
 by_cases h:qbv m [i] = true
 ·rw [if_pos h]
  unfold qd3
  simp only
  rw [List.find?_map]
  have hp:((fun x:ME=>x.k == [i']) ∘ fun x:ME=>if x.k = [i] then { x with v:=[.int .u64 t] } else x) = fun x:ME=>x.k == [i']:=by
   funext x
   simp only [Function.comp]
   split <;> rfl
  rw [hp,Option.map_map]
  by_cases hi:i' = i
  ·subst hi
   rw [if_pos rfl]
   obtain ⟨x,hx,hk⟩:=qu8.1 h
   cases hf:m.find? fun x=>x.k == [i'] with
   | none =>
    rw [List.find?_eq_none] at hf
    exact absurd (by simpa using hk) (hf x hx)
   | some y =>
    have hy:=List.find?_some hf
    simp only [beq_iff_eq] at hy
    simp [hy,qaf]
  ·rw [if_neg hi]
   cases hf:m.find? fun x=>x.k == [i'] with
   | none=>rfl
   | some y =>
    have hy:=List.find?_some hf
    simp only [beq_iff_eq] at hy
    have:y.k ≠ [i]:=by rw [hy]; simp [hi]
    simp [this]
 ·rw [if_neg h]
  have hn:=qki (by simpa using h)
  unfold qd3
  simp only
  rw [List.find?_append]
  by_cases hi:i' = i
  ·subst hi
   rw [if_pos rfl]
   have:m.find? (fun x=>x.k == [i']) = none:=by
    rw [List.find?_eq_none]
    intro x hx hk
    exact hn x hx (by simpa using hk)
   rw [this]; simp [qaf]
  ·rw [if_neg hi]
   have:([⟨[i],[.int .u64 t],c⟩]:List ME).find? (fun x=>x.k == [i']) = none:=by
    simp [Ne.symm hi]
   rw [this,Option.or_none]
theorem qif {i t:Int}:([i]:List Int).length = mtI.kks.length/\qr mtI.vpat [.int .u64 t]:=⟨rfl,rfl,fun c k v hk hv=>by
 cases c with
 | zero=>simp only [mtI,List.getElem?_cons_zero,Option.some.injEq] at hk hv; subst hk hv; rfl
 | succ c=>simp [mtI] at hk⟩
theorem qth {h:Hp} {b x:Nat} {X:Obj} (hne:x ≠ b):Hp.upd h b X x = h x:=by unfold Hp.upd; rw [if_neg hne]
theorem qhB {h:Hp} {b:Nat} {X:Obj}:Hp.upd h b X b = some X:=by unfold Hp.upd; rw [if_pos rfl]
theorem qcY {h:Hp} {b x:Nat} {X:Obj} {mt:MT} {l:List ME} {c:Nat} (hne:x ≠ b) (hm:qaK h x mt l c):qaK (Hp.upd h b X) x mt l c:=⟨by rw [qth hne]; exact hm.1,hm.2⟩
theorem q3t {h:Hp} {b b' c c':Nat} {l m:List ME} {x:ME} {cl:Cl} {i t:Int} (hm:qaK h b mtO l c) (hi:∀ x ∈ l,∃ b' m c',x.v = [.map (some b')]/\b' ≠ b/\qaK h b' mtI m c'/\∀ i,cl x.k i = qd3 m i) (hd:∀ x ∈ l,∀ y ∈ l,x.k ≠ y.k->x.v ≠ y.v) (hn:∀ o i,(∀ x ∈ l,x.k ≠ o)->cl o i = none)
  (hr:∀ o i t,cl o i = some t->0 <= i/\i < 16/\0 <= t/\t < 18446744073709551616) (hx:x ∈ l) (hb:x.v = [.map (some b')]) (hI:qaK h b' mtI m c') (i0:0 <= i) (i1:i < 16) (t0:0 <= t) (t1:t < 18446744073709551616) :
  qV (Hp.upd h b' (mtI.obj (qbt m [i] [.int .u64 t] c'))) (.map (some b)) (qen cl x.k i t):=by
 obtain ⟨b2,m2,c2,e1,e2,e3,e4⟩:=hi x hx
 rw [hb] at e1
 simp only [List.cons.injEq,Value.map.injEq,Option.some.injEq,and_true] at e1
 subst e1
 obtain ⟨rfl,rfl⟩:=q4L hI e3
 have hF:∀ o' i',qen cl x.k i t o' i' = if o' = x.k/\i' = i then some t else cl o' i':=fun o' i'=>by unfold qen; rw [if_pos ⟨i0,i1⟩]
 refine ⟨b,l,c,rfl,qcY (Ne.symm e2) hm,fun y hy=>?_,hd,fun o' i' ho=>?_,fun o' i' t' ht=>?_⟩
 ·by_cases hk:y.k = x.k
  ·have hvv:y.v = [.map (some b')]:=by
    obtain ⟨jx,hjx⟩:=List.getElem?_of_mem hx
    obtain ⟨jy,hjy⟩:=List.getElem?_of_mem hy
    have hj:=qh0 hm.2 hjy hjx hk
    rw [hj,hjx] at hjy
    rw [<- Option.some.inj hjy]; exact hb
   refine ⟨b',(qbt m [i] [.int .u64 t] c').1,(qbt m [i] [.int .u64 t] c').2,hvv,e2,⟨qhB,qmk hI.2 (qif (i:=i) (t:=t)).1 (qif (i:=i) (t:=t)).2⟩,fun i'=>?_⟩
   rw [hF,quO,hk,e4]
   by_cases hii:i' = i
   ·simp [hii]
   ·simp [hii]
  ·obtain ⟨b3,m3,c3,f1,f2,f3,f4⟩:=hi y hy
   have hne:b3 ≠ b':=fun he=>hd y hy x hx hk (by rw [f1,hb,he])
   refine ⟨b3,m3,c3,f1,f2,qcY hne f3,fun i'=>?_⟩
   rw [hF,if_neg (fun h=>hk h.1),f4]
 ·rw [hF,if_neg (fun h=>ho x hx h.1.symm),hn o' i' ho]
 ·rw [hF] at ht
  split at ht
  ·rename_i he
   obtain rfl:=Option.some.inj ht
   exact ⟨by omega,by omega,t0,t1⟩
  ·exact hr _ _ _ ht
theorem q4o {h:Hp} {b b' c:Nat} {l:List ME} {cl:Cl} {o:List Int} {i t:Int} (hm:qaK h b mtO l c) (hi:∀ x ∈ l,∃ b' m c',x.v = [.map (some b')]/\b' ≠ b/\qaK h b' mtI m c'/\∀ i,cl x.k i = qd3 m i) (hd:∀ x ∈ l,∀ y ∈ l,x.k ≠ y.k->x.v ≠ y.v) (hn:∀ o i,(∀ x ∈ l,x.k ≠ o)->cl o i = none)
  (hr:∀ o i t,cl o i = some t->0 <= i/\i < 16/\0 <= t/\t < 18446744073709551616) (ho:qbv l o = false) (hol:o.length = 32) (hbb:b' ≠ b) (hfree:∀ x ∈ l,x.v ≠ [.map (some b')]) (i0:0 <= i) (i1:i < 16) (t0:0 <= t) (t1:t < 18446744073709551616) :
  qV (Hp.upd (Hp.upd h b (mtO.obj (qbt l o [.map (some b')] c))) b' (mtI.obj (qbt [] [i] [.int .u64 t] 0))) (.map (some b)) (qen cl o i t):=by
 have hF:∀ o' i',qen cl o i t o' i' = if o' = o/\i' = i then some t else cl o' i':=fun o' i'=>by unfold qen; rw [if_pos ⟨i0,i1⟩]
 have hput:qbt l o [.map (some b')] c = (l ++ [⟨o,[.map (some b')],c⟩],c + 1):=by unfold qbt; rw [if_neg (by rw [ho]; simp)]
 have hfit:qr mtO.vpat [.map (some b')]:=⟨rfl,fun c k v hk hv=>by
  cases c with
  | zero=>simp only [mtO,List.getElem?_cons_zero,Option.some.injEq] at hk hv; subst hk hv; rfl
  | succ c=>simp [mtO] at hk⟩
 have hno:=qki ho
 refine ⟨b,(qbt l o [.map (some b')] c).1,(qbt l o [.map (some b')] c).2,rfl,⟨by rw [qth (Ne.symm hbb)]; exact qhB,qmk hm.2 (by rw [hol]; rfl) hfit⟩,fun y hy=>?_,fun x hx y hy hk=>?_,fun o' i' ho'=>?_,fun o' i' t' ht=>?_⟩
 ·rw [hput] at hy
  rcases List.mem_append.1 hy with hy | hy
  ·obtain ⟨b3,m3,c3,f1,f2,f3,f4⟩:=hi y hy
   have hne:b3 ≠ b':=fun he=>hfree y hy (by rw [f1,he])
   refine ⟨b3,m3,c3,f1,f2,qcY hne (qcY f2 f3),fun i'=>?_⟩
   rw [hF,if_neg (fun h=>hno y hy h.1),f4]
  ·rw [List.mem_singleton] at hy
   subst hy
   refine ⟨b',(qbt [] [i] [.int .u64 t] 0).1,(qbt [] [i] [.int .u64 t] 0).2,rfl,hbb,⟨qhB,qmk (c:=0) (l:=[]) ⟨fun x hx=>(by cases hx),List.Pairwise.nil⟩ (qif (i:=i) (t:=t)).1 (qif (i:=i) (t:=t)).2⟩,fun i'=>?_⟩
   rw [hF,quO,hn o i' hno]
   by_cases hii:i' = i
   ·simp [hii]
   ·simp [hii,qd3]
 ·rw [hput] at hx hy
  rcases List.mem_append.1 hx with hx | hx <;> rcases List.mem_append.1 hy with hy | hy
  ·exact hd x hx y hy hk
  ·rw [List.mem_singleton] at hy; subst hy; exact hfree x hx
  ·rw [List.mem_singleton] at hx; subst hx; exact (hfree y hy).symm
  ·rw [List.mem_singleton] at hx hy; subst hx hy; exact absurd rfl hk
 ·rw [hput] at ho'
  rw [hF,if_neg (fun h=>ho' _ (List.mem_append_right _ (List.mem_singleton.2 rfl)) h.1.symm),hn o' i' fun x hx=>ho' x (List.mem_append_left _ hx)]
 ·rw [hF] at ht
  split at ht
  ·obtain rfl:=Option.some.inj ht
   rename_i he
   exact ⟨by omega,by omega,t0,t1⟩
  ·exact hr _ _ _ ht
end Go.Proofs

set_option linter.unusedSimpArgs false
set_option linter.unusedVariables false
namespace Go.Proofs
open Go Go.Eng
theorem qxh {m:List ME} {c:Nat} (hM:MWf mtI m c) {e:ME} (he:e ∈ m):∃ z,e.k = [z]:=qji (hM.1 e he).1
theorem q2e {m:List ME} {i t:Int} (h:qd3 m i = some t):∃ e ∈ m,e.k = [i]/\qaf (e.v.headD .nilFunc) = t:=by
 unfold qd3 at h
 obtain ⟨e,he,rfl⟩:=Option.map_eq_some_iff.1 h
 exact ⟨e,List.mem_of_find?_eq_some he,by simpa using List.find?_some he,rfl⟩
theorem qui {m:List ME} {c:Nat} (hM:MWf mtI m c) {e:ME} (he:e ∈ m) {z:Int} (hk:e.k = [z]):qd3 m z = some (qaf (e.v.headD .nilFunc)):=by
 unfold qd3
 cases hf:m.find? fun x=>x.k == [z] with
 | none =>
  rw [List.find?_eq_none] at hf
  exact absurd (by simpa using hk) (hf e he)
 | some y =>
  have hy:y.k = [z]:=by simpa using List.find?_some hf
  obtain ⟨j,hj⟩:=List.getElem?_of_mem he
  obtain ⟨j',hj'⟩:=List.getElem?_of_mem (List.mem_of_find?_eq_some hf)
  have hjj:=qh0 hM hj hj' (hk.trans hy.symm)
  rw [hjj,hj'] at hj
  rw [Option.some.inj hj]; rfl
theorem quD {m:List ME} {c:Nat} {cl:Cl} {o:List Int} {s t:Int} {L Hs:List Int} (hM:MWf mtI m c) (he:∀ i,cl o i = qd3 m i) (hr:∀ o i t,cl o i = some t->0 <= i/\i < 16/\0 <= t/\t < 18446744073709551616):m.any (qi4 o s t L Hs) = qdX cl o s t L Hs:=by
 apply Bool.eq_iff_iff.2
 unfold qdX
 rw [List.any_eq_true,List.any_eq_true]
 constructor
 ·rintro ⟨e,hem,hb⟩
  obtain ⟨z,hz⟩:=qxh hM hem
  have hg:=qui hM hem hz
  have hc:=(he z).trans hg
  obtain ⟨z0,z1,_⟩:=hr _ _ _ hc
  refine ⟨z.toNat,List.mem_range.2 (by omega),?_⟩
  rw [Int.toNat_of_nonneg z0,hc]
  unfold qi4 at hb
  rw [hz] at hb
  exact hb
 ·rintro ⟨i,hi,hb⟩
  cases hc:cl o i with
  | none=>rw [hc] at hb; cases hb
  | some tt =>
   rw [hc] at hb
   obtain ⟨e,hem,hk,hv⟩:=q2e ((he i).symm.trans hc)
   refine ⟨e,hem,?_⟩
   unfold qi4
   rw [hk,hv]
   exact hb
theorem qwd {h:Hp} {v:Value} {cl:Cl} {bi:Nat} {mo:Option Nat} {since st:Nat} {seen:Array Nat} {X:Obj} (hc:qV h v cl) (hb:h bi = some (.mapIter mo since seen st)):qV (Hp.upd h bi X) v cl:=by
 have hne:∀ {b:Nat} {mt:MT} {l:List ME} {c:Nat},qaK h b mt l c->b ≠ bi:=fun hm he=>by
  rw [he] at hm
  have:=hm.1.symm.trans hb
  simp [MT.obj] at this
 obtain ⟨b,l,c,e,hm,hi,hr⟩:=hc
 exact ⟨b,l,c,e,qcY (hne hm) hm,fun x hx=>by
  obtain ⟨b',m,c',e1,e2,e3,e4⟩:=hi x hx
  exact ⟨b',m,c',e1,e2,qcY (hne e3) e3,e4⟩,hr⟩
theorem q3M {m:List ME} {c:Nat} (hM:MWf mtI m c) {e:ME} (he:e ∈ m) {seen:List Nat} {p:ME->Bool}:((m.filter fun y=>(seen ++ [e.born]).contains y.born).any p) = ((m.filter fun y=>seen.contains y.born).any p || p e):=by
 apply Bool.eq_iff_iff.2
 rw [Bool.or_eq_true,List.any_eq_true,List.any_eq_true]
 constructor
 ·rintro ⟨y,hy,hp⟩
  rw [List.mem_filter] at hy
  obtain ⟨hy1,hy2⟩:=hy
  simp only [List.contains_eq_mem,List.mem_append,List.mem_singleton,decide_eq_true_eq] at hy2
  rcases hy2 with h | h
  ·exact .inl ⟨y,List.mem_filter.2 ⟨hy1,by simpa using h⟩,hp⟩
  ·right
   have:y = e:=by
    obtain ⟨i,hi⟩:=List.getElem?_of_mem hy1
    obtain ⟨j,hj⟩:=List.getElem?_of_mem he
    have hij:i = j:=born_get hM hi hj h
    rw [hij,hj] at hi
    exact (Option.some.inj hi).symm
   rw [<- this]; exact hp
 ·rintro (⟨y,hy,hp⟩ | hp)
  ·rw [List.mem_filter] at hy
   exact ⟨y,List.mem_filter.2 ⟨hy.1,by have:=hy.2; simp only [List.contains_eq_mem,decide_eq_true_eq] at this; simp [this]⟩,hp⟩
  ·exact ⟨e,List.mem_filter.2 ⟨he,by simp⟩,hp⟩
where
 born_get {m:List ME} {c:Nat} (hM:MWf mtI m c) {i j:Nat} {x y:ME} (hi:m[i]? = some x) (hj:m[j]? = some y) (h:x.born = y.born):i = j:=by
  have hp:=List.pairwise_iff_getElem.1 hM.2
  obtain ⟨h1,e1⟩:=List.getElem?_eq_some_iff.1 hi
  obtain ⟨h2,e2⟩:=List.getElem?_eq_some_iff.1 hj
  rcases Nat.lt_trichotomy i j with hlt | heq | hlt
  ·have:=(hp i j h1 h2 hlt).1; rw [e1,e2] at this; omega
  ·exact heq
  ·have:=(hp j i h2 h1 hlt).1; rw [e1,e2] at this; omega
theorem qmy {h:Hp} {it:Value} {bi b since st c:Nat} {seen:List Nat} {m:List ME} (hit:it = .pointer (some ⟨bi,0,none⟩)) (hb:h bi = some (.mapIter (some b) since seen.toArray st)) (hM:qaK h b mtI m c):qhw h it = (m.filter fun y=>!(seen.contains y.born)).length:=by
 subst hit
 unfold qhw
 simp only [hb,hM.1,MT.obj,List.toList_toArray,List.contains_toArray]
 rw [List.filter_map,List.length_map]
 rfl
theorem q0Z {m:List ME} {e:ME} (he:e ∈ m) {seen:List Nat} (hn:¬ e.born ∈ seen):(m.filter fun y=>!((seen ++ [e.born]).contains y.born)).length < (m.filter fun y=>!(seen.contains y.born)).length:=by
 have h1:(m.filter fun y=>!((seen ++ [e.born]).contains y.born)) = ((m.filter fun y=>!(seen.contains y.born)).filter fun y=>!((seen ++ [e.born]).contains y.born)):=by
  rw [List.filter_filter]
  refine List.filter_congr fun y hy=>?_
  by_cases hs:y.born ∈ seen <;> simp [hs]
 rw [h1]
 refine List.length_filter_lt_length_iff_exists.2 ⟨e,List.mem_filter.2 ⟨he,by simp [hn]⟩,by simp⟩
section
variable {h0 H:Hp} {v it:Value} {o:List Int} {s t:Int} {L Hs:List Int} {cl:Cl}
theorem qse {bi:Nat} (hc:qV h0 v cl) (hno:∀ i,cl o i = none) (hle:Hp.le h0 H) (hit:it = .pointer (some ⟨bi,0,none⟩)) (hb:H bi = some (.mapIter none 0 #[] 0)):qp8 h0 H v it o s t L Hs false:=fun cl' h'=>by
 rw [qhn hc h']
 exact ⟨qxm hc hle,[],[],⟨bi,none,0,0,hit,hb,.inl ⟨rfl,rfl⟩⟩,fun i=>by rw [hno]; rfl,rfl⟩
theorem qrV {bi b c:Nat} {m:List ME} (hc:qV h0 v cl) (hm:qaK h0 b mtI m c) (he:∀ i,cl o i = qd3 m i) (hle:Hp.le h0 H) (hit:it = .pointer (some ⟨bi,0,none⟩)) (hb:H bi = some (.mapIter (some b) c #[] c)):qp8 h0 H v it o s t L Hs false:=fun cl' h'=>by
 rw [qhn hc h']
 have hmH:=qgE hm hle
 have hne:bi ≠ b:=fun e=>by
  rw [e] at hb
  have:=hmH.1.symm.trans hb
  simp [MT.obj] at this
 refine ⟨qxm hc hle,m,[],⟨bi,some b,c,c,hit,hb,.inr ⟨b,c,rfl,hne,hmH,Nat.le_refl _,.inl rfl,fun n hn=>by cases hn⟩⟩,he,?_⟩
 have:(m.filter fun e=>([]:List Nat).contains e.born) = []:=by simp
 rw [this]; rfl
theorem q58 {bi b since st c:Nat} {m:List ME} {seen:List Nat} {e:ME} {x y:Bool} (hc:qV h0 v cl) (hcH:qV H v cl) (hit:it = .pointer (some ⟨bi,0,none⟩)) (hb:H bi = some (.mapIter (some b) since seen.toArray st)) (hne:bi ≠ b) (hm:qaK H b mtI m c) (hcs:c <= since) (hseen:∀ n ∈ seen,∃ e ∈ m,e.born = n)
  (he:∀ i,cl o i = qd3 m i) (hem:e ∈ m) (hx:x = (m.filter fun e=>seen.contains e.born).any (qi4 o s t L Hs)) (hy:y = (x || qi4 o s t L Hs e)):qp8 h0 (Hp.upd H bi (.mapIter (some b) since (seen ++ [e.born]).toArray c)) v it o s t L Hs y:=fun cl' h'=>by
 rw [qhn hc h']
 refine ⟨qwd hcH hb,m,seen ++ [e.born],⟨bi,some b,since,c,hit,qhB,.inr ⟨b,c,rfl,hne,qcY (Ne.symm hne) hm,hcs,.inr (.inr ⟨e,hem,(hm.2.1 e hem).2.2⟩),fun n hn=>?_⟩⟩,he,?_⟩
 ·rcases List.mem_append.1 hn with h | h
  ·exact hseen n h
  ·rw [List.mem_singleton] at h; exact ⟨e,hem,h.symm⟩
 ·rw [q3M hm.2 hem,<- hx,hy]
theorem q2t {since c:Nat} {m:List ME} {seen:List Nat} {x:Bool} (hM:MWf mtI m c) (hc:qV h0 v cl) (hcH:qV H v cl) (hcs:c <= since) (he:∀ i,cl o i = qd3 m i) (hx:x = (m.filter fun e=>seen.contains e.born).any (qi4 o s t L Hs)) (hall:∀ e ∈ m,e.born < since->e.born ∈ seen) :
  ∀ cl',qV h0 v cl'->qV H v cl'/\x = qdX cl' o s t L Hs:=fun cl' h'=>by
 rw [qhn hc h']
 refine ⟨hcH,?_⟩
 have hf:(m.filter fun e=>seen.contains e.born) = m:=List.filter_eq_self.2 fun e hem=>by
  have:=hall e hem (by have:=(hM.1 e hem).2.2; omega)
  simpa using this
 obtain ⟨b,l,c0,rfl,_,_,_,_,hr⟩:=hc
 rw [hf] at hx
 rw [hx]; exact quD hM he hr
end
end Go.Proofs

set_option linter.unusedSimpArgs false
set_option linter.unusedVariables false
namespace Go.Proofs
open Go Go.Eng
set_option maxRecDepth 20000
theorem q2J:qdP.ok Tryz.prog:=q39 (by simp) fun ρ hg hp=>by
 simp (config:={ maxSteps:=4000000 }) [qpQ,qdP]
 intro u _ v _ b hv hu
 exact ⟨b,[],0,hv,⟨by rw [hu]; simp [Hp.one,MT.obj],fun x hx=>(by cases hx),List.Pairwise.nil⟩,fun x hx=>(by cases hx),fun x hx=>(by cases hx),fun _ _ _=>rfl,fun _ _ _ h=>(by cases h)⟩
theorem q7f:qiF.ok Tryz.prog:=q6T (by simp) fun ρ hg hp=>by
 obtain ⟨h0,h1,h2,h3⟩:=hp
 simp (config:={ maxSteps:=4000000 }) [qx2,qiF]
 have hu:(ρ 0).i <= (ρ 1).i->qc .sub .u64 (ρ 1).i (ρ 0).i = (ρ 1).i - (ρ 0).i:=fun h=>by
  show IntKind.wrap .u64 _ = _
  rw [q5Z]; omega
 refine ⟨fun h=>?_,fun h=>?_⟩
 ·rw [hu h]; unfold qkq; rw [decide_eq_true h,Bool.true_and]; rfl
 ·unfold qkq; rw [decide_eq_false (by omega),Bool.false_and]
theorem qtY (d:qd):[qa d 0,qa d 1,qa d 2,qa d 3,qa d 4,qa d 5,qa d 6,qa d 7,qa d 8,qa d 9,qa d 10,qa d 11,qa d 12,qa d 13,qa d 14,qa d 15,qa d 16,qa d 17,qa d 18,qa d 19,qa d 20,qa d 21,qa d 22,qa d 23,qa d 24,qa d 25,qa d 26,qa d 27,qa d 28,qa d 29,qa d 30,qa d 31] = qf d 32:=rfl
theorem qtJ:(⟨true,[.u8,.u8,.u8,.u8,.u8,.u8,.u8,.u8,.u8,.u8,.u8,.u8,.u8,.u8,.u8,.u8,.u8,.u8,.u8,.u8,.u8,.u8,.u8,.u8,.u8,.u8,.u8,.u8,.u8,.u8,.u8,.u8],false,[.any],[.vnilm]⟩:MT) = mtO:=rfl
theorem qu4:(⟨false,[.i64],false,[.int .u64],[.vint .u64 (.lit 0)]⟩:MT) = mtI:=rfl
theorem q4M (ρ:Env):List.map (fun t=>(T.den ρ t).v) mtO.zero = [.map none]:=rfl
theorem q4N (ρ:Env):List.map (fun t=>(T.den ρ t).v) mtI.zero = [.int .u64 0]:=rfl
theorem qrL (row:List Value):qJ [row] 0 0 = row.headD .nilFunc:=by cases row <;> rfl
theorem qtI {l:List ME} {k:List Int} {z:List Value} (h:qbv l k = true):∃ x ∈ l,x.k = k/\qcS l k z = x.v:=by
 obtain ⟨j,x,hj,hk,_,hg⟩:=qfA (mt:=mtO) (i:=0) h
 exact ⟨x,List.mem_of_getElem? hj,hk,hg z⟩
theorem q2H {cl:Cl} {o:List Int} {i t:Int} (h:qoo i = false):qen cl o i t = cl:=by
 unfold qen
 rw [if_neg (of_decide_eq_false h)]
theorem q3x {l:List ME} {k:List Int} {v z:List Value} {c:Nat} (h:qbv l k = false):qcS (qbt l k v c).1 k z = v:=by
 have hn:=qki h
 unfold qbt
 rw [if_neg (by rw [h]; simp)]
 unfold qcS
 simp only
 rw [List.find?_append]
 have:l.find? (fun x=>x.k == k) = none:=by
  rw [List.find?_eq_none]
  intro x hx hk
  exact hn x hx (by simpa using hk)
 rw [this]; simp
theorem qc7 {ρ:Env} {l:List SH} {H:Hp} (n t:Nat) (hs:qW ρ l H) (hm:SH.abs n t ∈ l):Hp.le (ρ n).h H:=by
 obtain ⟨hb,lb,db⟩:=qca hs hm
 exact Hp.le_trans db lb
theorem qy4 {ρ:Env} {n m t t':Nat} {H:Hp} (hs:qW ρ [SH.abs n t,SH.abs m t'] H):Hp.disj (ρ n).h (ρ m).h:=by
 obtain ⟨h1,h2,hd,hu,hx,h3,h4,hd2,hu2,hy,_⟩:=hs
 intro b
 cases hb1:(ρ n).h b with
 | none=>exact .inl rfl
 | some X =>
  cases hb2:(ρ m).h b with
  | none=>exact .inr rfl
  | some Y =>
   have e1:=hx.1 b X hb1
   have e2:=hy.1 b Y hb2
   have e3:h2 b = some Y:=by rw [hu2]; simp [Hp.union,e2]
   rcases hd b with h | h
   ·rw [e1] at h; cases h
   ·rw [e3] at h; cases h
theorem q5e {b:Nat}:qr mtO.vpat [.map (some b)]:=⟨rfl,fun c k v hk hv=>by
 cases c with
 | zero=>simp only [mtO,List.getElem?_cons_zero,Option.some.injEq] at hk hv; subst hk hv; rfl
 | succ c=>simp [mtO] at hk⟩
theorem q5d:qfG.ok Tryz.prog:=q5f (by simp [qqK]) fun ρ hg hp=>by
 obtain ⟨⟨cl,hcl⟩,h0,h1⟩:=hp
 have hcl0:=hcl
 simp (config:={ maxSteps:=4000000 }) [qtp,qfG,qcl,qtY,qtJ,qu4,qrL,qb,q4M,q4N]
 obtain ⟨b,l,c,hv,hm,hi,hd,hn,hr⟩:=hcl
 intro u _ p _ hp
 refine ⟨fun hpf cl' h'=>by rw [q2H (hp ▸ hpf)]; exact h',fun hpt=>⟨l,.inr ⟨b,hv,c,hm⟩,?_⟩⟩
 have hpp:0 <= (ρ 2).i/\(ρ 2).i < 16:=of_decide_eq_true (hp ▸ hpt:qoo (ρ 2).i = true)
 cases hh:qbv l (qf (ρ 1).d 32) with
 | false =>
  refine .inl ⟨by rw [qlF hh]; rfl,fun m _ v _ b' hvv hmh H _ hst=>?_⟩
  obtain ⟨hA,lA,dA⟩:=qca hst (n:=10) (t:=1003) (by simp)
  obtain ⟨hB,lB,dB⟩:=qca hst (n:=5) (t:=1003) (by simp)
  have hle:Hp.le (ρ 5).h H.h:=by
   have h:=qc7 5 1003 hst (by simp)
   simpa using h
  have hone:H.h b' = some (.map #[] 0):=by
   have h:=qc7 10 1003 hst (by simp)
   have h:Hp.le m.h H.h:=by simpa using h
   exact h b' _ (by rw [hmh]; simp [Hp.one])
  have hnew:∀ X,(ρ 5).h b' = some X->False:=by
   intro X hX
   have h:=qy4 hst
   have h:Hp.disj m.h (ρ 5).h:=by simpa using h
   rcases h b' with h | h
   ·rw [hmh] at h; simp [Hp.one] at h
   ·rw [hX] at h; cases h
  have hbb:b' ≠ b:=fun he=>hnew _ (by rw [he]; exact hm.1)
  have hfree:∀ x ∈ l,x.v ≠ [.map (some b')]:=fun x hx he=>by
   obtain ⟨b3,m3,c3,f1,f2,f3,f4⟩:=hi x hx
   rw [he] at f1
   simp only [List.cons.injEq,Value.map.injEq,Option.some.injEq,and_true] at f1
   exact hnew _ (by rw [f1]; exact f3.1)
  have hmH:=qgE hm hle
  have hiH:∀ x ∈ l,∃ b' m c',x.v = [.map (some b')]/\b' ≠ b/\qaK H.h b' mtI m c'/\∀ i,cl x.k i = qd3 m i:=fun x hx=>by
   obtain ⟨b3,m3,c3,f1,f2,f3,f4⟩:=hi x hx
   exact ⟨b3,m3,c3,f1,f2,qgE f3 hle,f4⟩
  have hput:=q3x (z:=[.map none]) (v:=[v.v]) (c:=c) hh
  have hfit:qr mtO.vpat [v.v]:=by rw [hvv]; exact q5e
  refine ⟨b,hv,l,c,hmH,fun u4 _ h4=>⟨(qbt l (qf (ρ 1).d 32) [v.v] c).1,.inr ⟨b,hv,(qbt l (qf (ρ 1).d 32) [v.v] c).2,⟨by rw [h4]; exact qhB,qmk hm.2 (by simp [qf,mtO]) hfit⟩⟩,b',by rw [hput,hvv]; rfl,[],0,⟨by rw [h4,qth hbb,hone]; rfl,fun x hx=>(by cases hx),List.Pairwise.nil⟩,fun u5 _ h5 cl' h'=>?_⟩⟩
  rw [qhn hcl0 h',h5,hv,h4,hvv]
  exact q4o hmH hiH hd hn hr hh (by simp [qf]) hbb hfree hpp.1 hpp.2 h0 h1
 | true =>
  obtain ⟨x,hx,hk,hgx⟩:=qtI (z:=[.map none]) hh
  obtain ⟨b',m,c',e1,e2,e3,e4⟩:=hi x hx
  refine .inr ⟨⟨b',by rw [hgx,e1]; rfl⟩,l,.inr ⟨b,hv,c,hm⟩,b',by rw [hgx,e1]; rfl,m,c',e3,fun u5 _ h5 cl' h'=>?_⟩
  rw [qhn hcl0 h',h5,hv,<- hk]
  exact q3t hm hi hd hn hr hx e1 e3 hpp.1 hpp.2 h0 h1
theorem qxz:qcb.ok Tryz.prog:=qxB (by simp [qtF,q7f,qlr]) fun ρ hg hp=>by
 obtain ⟨⟨cl,hcl⟩,hO,⟨hl,h1,hr⟩,⟨hl2,h12,hr2⟩,⟨hGr,hGd⟩,t0,t1⟩:=hp
 simp only [Nat.reduceAdd] at hl h1 hr hl2 h12 hr2
 have hcl0:=hcl
 simp (config:={ maxSteps:=4000000 }) [qlN,qcb,qnh,qc8,qiF,qaH,qco,qbf,gOk,qtY,qtJ,qu4,qrL,qb,q4M,q4N,hl,hl2,hO,hGr,hGd]
 obtain ⟨b,l,c,hv,hm,hi,hd,hn,hrr⟩:=hcl
 repeat' (first | with_reducible apply And.intro | with_reducible intro _)
 all_goals first
  | omega
  | exact qhp (by assumption) (by assumption)
  | skip
 refine ⟨l,.inr ⟨b,hv,c,hm⟩,?_⟩
 have hstart:∃ (mo:Option Nat) (clock:Nat),((qcS l (qf (ρ 1).d 32) [Value.map none]).head?.getD .nilFunc = .map none/\mo = none/\clock = 0∨∃ b:Nat,(qcS l (qf (ρ 1).d 32) [Value.map none]).head?.getD .nilFunc = .map (some b)/\mo = some b/\∃ l,qaK (ρ 5).h b mtI l clock)/\∀ (H:Hp) (bi:Nat) (it:Value),Hp.le (ρ 5).h H->it = .pointer (some ⟨bi,0,none⟩)->H bi = some (.mapIter mo clock #[] clock)->qp8 (ρ 5).h H (ρ 4).v it (qf (ρ 1).d 32) (ρ 2).i (ρ 3).i (qu (ρ 9).d) (qu (ρ 14).d) false:=by
  cases hh:qbv l (qf (ρ 1).d 32) with
  | false =>
   have hg0:=qlF (z:=[.map none]) hh
   exact ⟨none,0,.inl ⟨by rw [hg0]; rfl,rfl,rfl⟩,fun H bi it hle hit hb=>qse hcl0 (fun i=>hn _ _ (qki hh)) hle hit hb⟩
  | true =>
   obtain ⟨x,hx,hk,hgx⟩:=qtI (z:=[.map none]) hh
   obtain ⟨b',m,c',e1,e2,e3,e4⟩:=hi x hx
   exact ⟨some b',c',.inr ⟨b',by rw [hgx,e1]; rfl,rfl,m,e3⟩,fun H bi it hle hit hb=>qrV hcl0 e3 (fun i=>by rw [<- hk]; exact e4 i) hle hit hb⟩
 obtain ⟨mo,clock,hmo,hst0⟩:=hstart
 refine ⟨mo,clock,hmo,?_⟩
 intro I1 _ I2 _ bi hit hI1 H _ hst
 have hle:Hp.le I1.h H.h/\Hp.le (ρ 5).h H.h:=by
  have h1:=qc7 54 1003 hst (by simp)
  have h2:=qc7 5 1003 hst (by simp)
  exact ⟨by simpa using h1,by simpa using h2⟩
 have hbi:H.h bi = some (.mapIter mo clock #[] clock):=hle.1 _ _ (by rw [hI1]; simp [Hp.one])
 refine ⟨⟨qdi (l:=[_,_,_,_,_,_,_,_,_,_,_,_,_,_,_,_]) (by assumption) qdY,qdi (l:=[_,_,_,_,_,_,_,_,_,_,_,_,_,_,_,_]) (by assumption) qdY,hst0 H.h bi I2.v hle.2 hit hbi⟩,?_⟩
 intro F13 _ F14 _ x _ it _ H2 _ hs13 hs14 hB
 obtain ⟨hcH,m,seen,⟨bi2,mo2,since,stp,hit2,hbi2,hmo2⟩,hco,hx⟩:=hB cl hcl0
 refine ⟨bi2,hit2,since,seen,stp,mo2,hbi2,?_⟩
 rcases hmo2 with ⟨rfl,rfl⟩ | ⟨b2,c2,rfl,hne,hM,hcs,hstt,hseen⟩
 ·exact q2t (m:=[]) (c:=0) (since:=0) ⟨fun x hx=>(by cases hx),List.Pairwise.nil⟩ hcl0 hcH (Nat.le_refl _) hco hx (fun e he=>by cases he)
 ·refine ⟨m,c2,hM,hstt,fun hall=>q2t hM.2 hcl0 hcH hcs hco hx hall,fun e he hns u2 _ hu2=>⟨bi2,hit2,since,seen,c2,b2,m,e,by rw [hu2]; exact qhB,by rw [hu2]; exact qcY (Ne.symm hne) hM,he,?_⟩⟩
  have hbl:∀ y:Bool,y = (x.b || qi4 (qf (ρ 1).d 32) (ρ 2).i (ρ 3).i (qu (ρ 9).d) (qu (ρ 14).d) e)->qp8 (ρ 5).h u2.h (ρ 4).v it.v (qf (ρ 1).d 32) (ρ 2).i (ρ 3).i (qu (ρ 9).d) (qu (ρ 14).d) y:=fun y hy=>by
   rw [hu2]; exact q58 hcl0 hcH hit2 hbi2 hne hM hcs hseen hco he hx hy
  have hless:qhw u2.h it.v < qhw H2.h it.v:=by
   rw [qmy (h:=H2.h) hit2 hbi2 hM,qmy (h:=u2.h) (seen:=seen ++ [e.born]) hit2 (by rw [hu2]; exact qhB) (by rw [hu2]; exact qcY (Ne.symm hne) hM)]
   exact q0Z he hns
  obtain ⟨z,hz⟩:=qxh hM.2 he
  have hg:=(hco z).trans (qui hM.2 he hz)
  obtain ⟨z0,z1,v0,v1⟩:=hrr _ _ _ hg
  have hcv:qa [e.v] 0 = qaf (e.v.headD .nilFunc):=by unfold qa; cases e.v <;> rfl
  have hbe:∀ a b c d:Bool,a = qkq (qaf (e.v.headD .nilFunc)) (ρ 3).i->b = decide (z ∈ qu (ρ 9).d)->c = decide (z ∈ qu (ρ 14).d)->d = qI (qf (ρ 1).d 32) z (ρ 2).i->qi4 (qf (ρ 1).d 32) (ρ 2).i (ρ 3).i (qu (ρ 9).d) (qu (ρ 14).d) e = (a && b && !c && d):=by
   intro a b c d ha hb hc hd
   unfold qi4
   rw [hz,ha,hb,hc,hd,List.headD_cons]
  have hkx:qa [qU [IntKind.i64] e.k] 0 = z:=by rw [hz]; rfl
  have hkx':qa [qU mtI.kks e.k] 0 = z:=hkx
  rw [hcv,hkx']
  have hB:=fun (r:U) (hr':r.b = qkq (qaf (e.v.headD .nilFunc)) (ρ 3).i)=>hbe r.b (decide (z ∈ qu (ρ 9).d)) (decide (z ∈ qu (ρ 14).d)) (qI (qf (ρ 1).d 32) z (ρ 2).i) hr' rfl rfl rfl
  refine ⟨fun hxt=>⟨⟨hs13,hs14,hbl true (by rw [hxt,Bool.true_or])⟩,hless⟩,fun hxf=>⟨⟨v0,v1,t0,t1⟩,fun r _ hr'=>⟨fun hrt=>⟨z0,z1,qt5 hs14,fun hf14=>⟨qt5 hs13,fun hf13 w _ hw=>⟨⟨hs13,hs14,hbl w.b ?_⟩,hless⟩,fun hf13=>⟨⟨hs13,hs14,hbl false ?_⟩,hless⟩⟩,fun hf14=>⟨⟨hs13,hs14,hbl false ?_⟩,hless⟩⟩,fun hrf=>⟨⟨hs13,hs14,hbl false ?_⟩,hless⟩⟩⟩⟩
  ·rw [hxf,hB r hr',hrt,decide_eq_true ((qeS hs14 qdY z0 z1).1 hf14),decide_eq_false (qjI hs13 qdY z0 z1 hf13),hw]; generalize qI (qf (ρ 1).d 32) z (ρ 2).i = q; cases q <;> rfl
  ·rw [hxf,hB r hr',hrt,decide_eq_true ((qeS hs14 qdY z0 z1).1 hf14),decide_eq_true ((qeS hs13 qdY z0 z1).1 hf13)]; generalize qI (qf (ρ 1).d 32) z (ρ 2).i = q; cases q <;> rfl
  ·rw [hxf,hB r hr',hrt,decide_eq_false (qjI hs14 qdY z0 z1 hf14)]; generalize qI (qf (ρ 1).d 32) z (ρ 2).i = q; cases q <;> rfl
  ·rw [hxf,hB r hr',hrf]; generalize qI (qf (ρ 1).d 32) z (ρ 2).i = q; cases q <;> simp
end Go.Proofs
