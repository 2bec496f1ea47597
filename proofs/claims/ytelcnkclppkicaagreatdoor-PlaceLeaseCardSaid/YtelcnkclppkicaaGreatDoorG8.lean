/- Texts QA, QF, PG, PI, PJ, PK, PM, PN, PP, PQ, PT, PU, PV, PY, PZ, QM, QI, QN, QR, RE, RK, PA, PB, PC, PD, PE, P0, P1, PX, PW, QB, QC, QE, QD, QG. -/
import Derived.Test.YtelcnkclppkicaaGreatDoorG7
import Derived.Test.YtelcnkclppkicaaGreatDoorG5
import Derived.Test.YtelcnkclppkicaaGreatDoorProg
import Derived.WalkCall
import Derived.Laws.Externs
import Derived.Lib.Bytealg
import Derived.Lib.BytesEntry
import Derived.Test.YtelcnkclppkicaaGreatDoorG4
import Derived.Shelf.SlSortCmp.NoneTotal
import Derived.Deep.QuietTactic
import Derived.BigQuiet
import Derived.Ground.SlsfProg
import Derived.Test.YtelcnkclppkicaaGreatDoorG3
set_option linter.unusedSimpArgs false
set_option linter.unusedVariables false
namespace Go.Eng
open Go Go.Proofs
def mtI:MT:=⟨false,[.i64],false,[.int .u64],[.vint .u64 (.lit 0)]⟩
def mtO:MT:=⟨true,List.replicate 32 .u8,false,[.any],[.vnilm]⟩
abbrev Cl:=List Int->Int->Option Int
def qbf (l:List ME) (i:Int):Option Int:=(l.find? fun x=>x.k == [i]).map fun x=>qQ (x.v.headD .nilFunc)
def qh (h:Hp) (v:Value) (cl:Cl):Prop:=∃ b l c,v = .map (some b)/\qV h b mtO l c /\
 (∀ x ∈ l,∃ b' m c',x.v = [.map (some b')]/\b' ≠ b/\qV h b' mtI m c'/\∀ i,cl x.k i = qbf m i) /\
 (∀ x ∈ l,∀ y ∈ l,x.k ≠ y.k->x.v ≠ y.v)/\(∀ o i,(∀ x ∈ l,x.k ≠ o)->cl o i = none)/\∀ o i t,cl o i = some t->0 <= i/\i < 16/\0 <= t/\t < 18446744073709551616
def qdq (cl:Cl) (o:List Int) (i t:Int):Cl:=if 0 <= i/\i < 16 then fun o' i'=>if o' = o/\i' = i then some t else cl o' i' else cl
def qcI (t clock:Int):Bool:=decide (t <= clock) && decide (clock - t < 12)
def qb3 (cl:Cl) (o:List Int) (self clock:Int) (L H:List Int):Bool:=(List.range 16).any fun (i:Nat)=>match cl o i with
 | some t=>qcI t clock && decide ((i:Int) ∈ L) && !decide ((i:Int) ∈ H) && qN o i self
 | none=>false
def qgv (r v:Nat):SH:=.cells r 179 [.var v]
def clP (r:Nat):SV:=.one (.vptr r (.lit 0) 1 0)
def qzR (r v:Nat):SH:=.cells r 24 (qaY .u8 v 32)
def qcp:Ctr:={ fn := 61,nv:=0,args:=[],heap:=[],ro:=[],pre:=fun _=>True,alts:=[
 { k:=3,ret:=clP 0,heap:=[qgv 0 1,.abs 2 1003],post:=fun ρ=>qh (ρ 2).h (ρ 1).v fun _ _=>none }] }
def qfP:Ctr:={ fn := 101,nv:=2,args:=[iv .u64 (.var 0),iv .u64 (.var 1)],heap:=[],ro:=[],pre:=fun ρ=>0 <= (ρ 0).i/\(ρ 0).i < 18446744073709551616/\0 <= (ρ 1).i/\(ρ 1).i < 18446744073709551616,alts:=[
 { k:=1,ret:=.one (.vbool (.var 2)),heap:=[],post:=fun ρ=>(ρ 2).b = qcI (ρ 0).i (ρ 1).i }] }
def qdd:Ctr:={ fn := 62,nv:=6,args:=[clP 0,dgV 1,iv .i64 (.var 2),iv .u64 (.var 3)],heap:=[qgv 0 4,.abs 5 1003],ro:=[],pre:=fun ρ=>(∃ cl,qh (ρ 5).h (ρ 4).v cl)/\0 <= (ρ 3).i/\(ρ 3).i < 18446744073709551616,alts:=[
 { k:=1,ret:=.tup [],heap:=[qgv 0 4,.abs 6 1003],post:=fun ρ=>∀ cl,qh (ρ 5).h (ρ 4).v cl->qh (ρ 6).h (ρ 4).v (qdq cl (qd (ρ 1).d 32) (ρ 2).i (ρ 3).i) }] }
def q07 (h:Hp) (it:Value) (m:List ME) (seen:List Nat):Prop:=∃ b' mo since st,it = .pointer (some ⟨b',0,none⟩)/\h b' = some (.mapIter mo since seen.toArray st) /\
 ((mo = none/\m = [])∨∃ b c,mo = some b/\b' ≠ b/\qV h b mtI m c/\c <= since/\(seen = []∨m = []∨∃ e ∈ m,e.born < st)/\∀ n ∈ seen,∃ e ∈ m,e.born = n)
def qbo (h:Hp) (it:Value):Nat :=
 match it with
 | .pointer (some a) =>
  match h a.block with
  | some (.mapIter (some b) _ seen _) =>
   match h b with
   | some (.map es _)=>(es.toList.filter fun e=>!(seen.contains e.born)).length
   | _=>0
  | _=>0
 | _=>0
def qyX (ρ:Env):Prop:=(∃ cl,qh (ρ 5).h (ρ 4).v cl)/\qT (qd (ρ 1).d 32)/\qbS ρ 6/\qbS ρ 11/\gOk ρ 16 17 gR/\0 <= (ρ 3).i/\(ρ 3).i < 18446744073709551616
def qaR:Ctr:={ fn := 68,nv:=18,ip:=[gIp 16,(5030, 181)],args:=[clP 0,dgV 1,iv .i64 (.var 2),iv .u64 (.var 3),bS 6,bS 11],heap:=[qgv 0 4,.abs 5 1003],ro:=[qeb 6,qeb 11,gHp 16 17],pre:=qyX,alts:=[
 { k:=2,ret:=.one (.vbool (.var 18)),heap:=[qgv 0 4,.abs 19 1003],post:=fun ρ=>∀ cl,qh (ρ 5).h (ρ 4).v cl->qh (ρ 19).h (ρ 4).v cl/\(ρ 18).b = qb3 cl (qd (ρ 1).d 32) (ρ 2).i (ρ 3).i (qn (ρ 9).d) (qn (ρ 14).d) }] }
def qiQ (o:List Int) (self clock:Int) (L H:List Int) (x:ME):Bool:=qcI (qQ (x.v.headD .nilFunc)) clock && decide (x.k.headD 0 ∈ L) && !decide (x.k.headD 0 ∈ H) && qN o (x.k.headD 0) self
def qqj (h0 h:Hp) (v it:Value) (o:List Int) (self clock:Int) (L H:List Int) (x:Bool):Prop:=∀ cl,qh h0 v cl->qh h v cl/\∃ m seen,q07 h it m seen/\(∀ i,cl o i = qbf m i)/\x = (m.filter fun e=>seen.contains e.born).any (qiQ o self clock L H)
def qnH:Inv:={ key:=6,nv:=8,env:=[(2,iv .i64 (.var 2)),(3,iv .u64 (.var 3)),(7,qzb 1000),(13,.one (.vptr 1001 (.lit 0) 16 0)),(14,.one (.vptr 1003 (.lit 0) 16 0)),(15,.one (.vbool (.var 1005))),(30,.one (.var 1006))],heap:=[qzR 1000 1,.arr 1001 157 qqw (.var 1002) (.lit 1),.arr 1003 157 qqw (.var 1004) (.lit 1),qgv 0 4,.abs 1007 1003],inv:=(fun ρ=>qdy (ρ 1002).d (qn (ρ 14).d) (ρ 14).d.length/\qdy (ρ 1004).d (qn (ρ 9).d) (ρ 9).d.length/\qqj (ρ 5).h (ρ 1007).h (ρ 4).v (ρ 1006).v (qd (ρ 1).d 32) (ρ 2).i (ρ 3).i (qn (ρ 9).d) (qn (ρ 14).d) (ρ 1005).b),mu:=(fun ρ=>qbo (ρ 1007).h (ρ 1006).v) }
end Go.Eng

set_option linter.unusedSimpArgs false
set_option linter.unusedVariables false
namespace Go.Eng
open Go Go.Proofs
structure ManV where
 k:Int
 n:Int
 t:Int
 s:Int
 o:List Int
 D:List (List Int)
def ManV.ok (m:ManV):Bool:=qG m.k m.n m.t m.s m.D.length
def ManV.bytes (m:ManV):List Int:=qaF m.k m.n m.t m.s m.o ++ m.D.flatten
abbrev PcL:=List (Int × List Int)
def q60 (m d c:Nat):SH:=.arr m 27 qva (.var d) (.var c)
def q6O (g o m p l q:Nat):SH:=.cells g 165 (qaY .u8 o 32 ++ [.vptr m (.lit 0) 37 0,.vslice p (.lit 0) (.var l) (.var q) 2])
def gaP (g:Nat):SV:=.one (.vptr g (.lit 0) 34 0)
def qs0 (b tag:Nat):List SH:=[q6O b (b + 1) (b + 2) (b + 5) (b + 6) (b + 7),q60 (b + 2) (b + 3) (b + 4),q3X (b + 5) (b + 8) (b + 7),.abs (b + 9) tag]
def qic (h:Hp) (d:qf) (m:ManV):Prop:=∃ row D,d = [row]/\q6 qva row/\Rd h k32 (row[36]?.getD .nilFunc) D/\qfA D/\dgs D = m.D/\qbs row 0 = m.k/\qbs row 1 = m.n/\qbs row 2 = m.t/\qbs row 3 = m.s/\((List.range 32).map fun j=>qbs row (4 + j)) = m.o/\qT m.o/\m.ok = true
def qo6 (h:Hp) (P:qf) (L:PcL):Prop:=P.length = L.length/\qqY h P P.length/\∀ j,j < P.length->(pcI P j,pcD h P j) = L.getD j (0,[])
def qbR (h:Hp) (r:Option Addr) (d:qf) (c n:Int) (P:qf) (M:Option ManV) (L:PcL):Prop:=n = P.length/\qo6 h P L/\(∀ x ∈ L,(x.2.length:Int) <= 9000)/\L.length <= 255/\((M = none/\r = none/\c = 0/\d = []/\L = [])∨∃ m,M = some m/\c = 1/\qic h d m/\L ≠ [])
def qgR (M:Option ManV) (L:PcL):Bool:=match M with
 | some m=>decide (m.k <= L.length)
 | none=>false
def gaB (ρ:Env) (b:Nat) (M:Option ManV) (L:PcL):Prop:=qbR (ρ (b + 9)).h (ρ (b + 2)).r (ρ (b + 3)).d (ρ (b + 4)).i (ρ (b + 6)).i (ρ (b + 8)).d M L
def qdR:Ctr:={ fn := 45,nv:=1,args:=[dgV 0],heap:=[],ro:=[],pre:=fun _=>True,alts:=[
 { k:=1,ret:=gaP 1,heap:=[.cells 1 165 (qaY .u8 0 32 ++ [.vnilp,.vnils])],post:=fun _=>True }] }
def qci:Ctr:={ fn := 47,nv:=10,args:=[gaP 0],heap:=[],ro:=qs0 0 20,pre:=fun ρ=>∃ M L,gaB ρ 0 M L,alts:=[
 { k:=1,ret:=.one (.vbool (.var 10)),heap:=[],post:=fun ρ=>∀ M L,gaB ρ 0 M L->(ρ 10).b = qgR M L }] }
def qdh:Ctr:={ fn := 55,nv:=10,args:=[gaP 0],heap:=[],ro:=qs0 0 20,pre:=fun ρ=>∃ M L,gaB ρ 0 M L,alts:=[
 { k:=4,ret:=.one (.vslice 10 (.lit 0) (.var 11) (.var 12) 1),heap:=[iHp 10 13 12],post:=fun ρ=>∀ M L,gaB ρ 0 M L->qaO (ρ 13).d (ρ 11).i (L.map Prod.fst) }] }
def qxE:Inv:={ key:=5,nv:=5,env:=[(3,.one (.vslice 1000 (.lit 0) (.var 1001) (.var 1002) 1)),(12,pcS 5 6 7),(13,iv .i64 (.var 6)),(14,iv .i64 (.var 1004))],heap:=[iHp 1000 1003 1002],inv:=(fun ρ=>0 <= (ρ 1004).i/\(ρ 1004).i <= (ρ 6).i/\qaO (ρ 1003).d (ρ 1001).i (qhf (ρ 8).d (ρ 1004).i.toNat)),mu:=(fun ρ=>((ρ 6).i - (ρ 1004).i).toNat) }
def qd1:Ctr:={ fn := 90,nv:=5,args:=[.one (.vslice 0 (.lit 0) (.var 1) (.var 2) 32)],heap:=[],ro:=[qfD 0 3 4],pre:=fun ρ=>0 <= (ρ 1).i/\(ρ 1).i = (ρ 3).d.length/\(ρ 1).i <= 4398046510976,alts:=[
 { k:=3,ret:=.one (.vslice 5 (.lit 0) (.var 1) (.var 6) 32),heap:=[qfD 5 7 6],post:=fun ρ=>(ρ 7).d = (ρ 3).d }] }
def qgb (o:List Int) (M:Option ManV) (L:PcL) (m:ManV) (i:Int) (b:List Int):Int :=
 if m.ok = false then 2 else if sha m.bytes ≠ o then 20 else if qcm m.k m.n m.t m.s m.D.length m.D i b ≠ 0 then qcm m.k m.n m.t m.s m.D.length m.D i b else if i ∈ L.map Prod.fst then 7 else if qgR M L then 8 else 0
def qyg (ρ:Env) (r:Nat):ManV:=⟨(ρ r).i,(ρ (r + 1)).i,(ρ (r + 2)).i,(ρ (r + 3)).i,qd (ρ (r + 4)).d 32,dgs (ρ (r + 8)).d⟩
def qzV (ρ:Env):Prop:=(∃ M L,gaB ρ 0 M L)/\qT (qd (ρ 1).d 32)/\q4F ρ 10/\qiS (ρ 20).i/\qhq ρ 20/\(ρ 22).i <= 9000
def qdW:Ctr:={ fn := 48,nv:=28,ip:=[gIp 26,(1002,9)],args:=[gaP 0,q4J 10,qke 20],heap:=qs0 0 20,ro:=[qfD 15 18 19,qqn 20,gHp 26 27],pre:=fun ρ=>qzV ρ/\gOk ρ 26 27 gR,alts:=[
 { k:=9,ret:=iv .i64 (.var 36),heap:=[q6O 0 1 28 31 32 33,q60 28 29 30,q3X 31 34 33,.abs 35 20],post:=fun ρ=>∀ M L,gaB ρ 0 M L->(ρ 36).i = qgb (qd (ρ 1).d 32) M L (qyg ρ 10) (ρ 20).i (bI (ρ 24).d)/\qbR (ρ 35).h (ρ 28).r (ρ 29).d (ρ 30).i (ρ 32).i (ρ 34).d (if (ρ 36).i = 0 then some (qyg ρ 10) else M) (if (ρ 36).i = 0 then L ++ [((ρ 20).i,bI (ρ 24).d)] else L) }] }
end Go.Eng

set_option linter.unusedSimpArgs false
set_option linter.unusedVariables false
namespace Go.Proofs
open Go Go.Eng Go.RowKit Go.Lib
theorem q3t {P:Program} (a b:Addr) (xs ys:List Int) (c c':Nat) (w:World) (hx:∀ j x,xs[j]? = some x->w.cell? (a.add j) = some (.int .u8 x)) (hy:∀ j x,ys[j]? = some x->w.cell? (b.add j) = some (.int .u8 x)) :
  (Extern.BytealgCompare.compare #[.slice (some a) xs.length c,.slice (some b) ys.length c']).run P w = .ok (.int .i64 (compareBytes (Lib.bytesOf xs) (Lib.bytesOf ys))) w:=by
 have h1:=run_loadBytesX (P:=P) w xs a .empty hx
 have h2:=run_loadBytesX (P:=P) w ys b .empty hy
 change Sem.run P (do pure (goInt (Extern.BytealgCompare.cmp (<- Extern.Bytes.bytesOf (.slice (some a) xs.length c)) (<- Extern.Bytes.bytesOf (.slice (some b) ys.length c'))))) w = _
 simp only [Extern.Bytes.bytesOf,Sem.run_bind,h1,h2,Sem.run_pure,Result.andThen]
 rw [cmp_eq]
 simp [goInt]
set_option maxHeartbeats 1000000 in
set_option maxRecDepth 100000 in
theorem qoa (a b:Addr) (xs ys:List Int) (c c':Nat) (w:World) (hx:∀ j x,xs[j]? = some x->w.cell? (a.add j) = some (.int .u8 x)) (hy:∀ j x,ys[j]? = some x->w.cell? (b.add j) = some (.int .u8 x)) :
  Calls Tryz.prog 118 #[.slice (some a) xs.length c,.slice (some b) ys.length c'] w fun e w'=>e = .returned (.int .i64 (compareBytes (Lib.bytesOf xs) (Lib.bytesOf ys)))/\w' = w:=by
 go_enter Tryz.func118,Tryz.ntmps118
 go_wp2
 rw [run_callFunc_extern Tryz.func139 (by kernel_rfl) (by kernel_rfl) (by kernel_rfl) (e:=Extern.BytealgCompare.compare) (by kernel_rfl),q3t a b xs ys c c' w hx hy]
 simp only [Result.andThen]
 rw [Oper.upon_value]
 go_wp2
 go_ret
 exact ⟨rfl,rfl⟩
end Go.Proofs

set_option linter.unusedSimpArgs false
set_option linter.unusedVariables false
namespace Go.Proofs
open Go Go.Eng
theorem q44 {x y:Int} (hx:0 <= x/\x < 256) (hy:0 <= y/\y < 256):x.toNat.toUInt8 < y.toNat.toUInt8↔x < y:=by
 rw [UInt8.lt_iff_toNat_lt]
 have h1:x.toNat.toUInt8.toNat = x.toNat:=by
  show x.toNat % 256 = x.toNat
  omega
 have h2:y.toNat.toUInt8.toNat = y.toNat:=by
  show y.toNat % 256 = y.toNat
  omega
 rw [h1,h2]; omega
theorem qlY:∀ {xs ys:List Int},qT xs->qT ys->Lib.compareBytes (Lib.bytesOf xs) (Lib.bytesOf ys) = qbz xs ys
 | [],[],_,_=>rfl
 | [],_ :: _,_,_=>rfl
 | _ :: _,[],_,_=>rfl
 | x :: xs,y :: ys,hx,hy=>by
  have h1:=q44 (hx x (List.mem_cons_self ..)) (hy y (List.mem_cons_self ..))
  have h2:=q44 (hy y (List.mem_cons_self ..)) (hx x (List.mem_cons_self ..))
  have h3:=qlY (xs:=xs) (ys:=ys) (fun z hz=>hx z (List.mem_cons_of_mem _ hz)) (fun z hz=>hy z (List.mem_cons_of_mem _ hz))
  show (if x.toNat.toUInt8 < y.toNat.toUInt8 then -1 else if y.toNat.toUInt8 < x.toNat.toUInt8 then 1 else Lib.compareBytes (Lib.bytesOf xs) (Lib.bytesOf ys)) = _
  rw [h3,qbz]
  simp only [h1,h2]
theorem q6y {k:IntKind} {v:Value} (h:CK.fits (.int k) v = true):∃ z,v = .int k z:=by
 cases v <;> simp [CK.fits] at h
 subst h
 exact ⟨_,rfl⟩
theorem quf {c:Array Value} {b o:Nat} {ty:TypeId} {fr:Nat × Nat} {d:qf} {w:World} (hb:w.heap[b]? = some (.cells c ty fr)) (hd:qam d 33) (hr:qS c o kRk d) :
  ∀ j x,((qd d 33).drop 1)[j]? = some x->w.cell? ((⟨b,o + 1,none⟩:Addr).add j) = some (.int .u8 x):=fun j x hx=>by
 obtain ⟨row,rfl,hl⟩:=hd
 obtain ⟨hf,hc⟩:=hr 0 row rfl
 rw [List.getElem?_drop] at hx
 have hj:1 + j < 33:=by
  rcases Nat.lt_or_ge (1 + j) 33 with h | h
  ·exact h
  ·rw [List.getElem?_eq_none (by simp [qd]; omega)] at hx; cases hx
 have hx2:x = qQ (row[1 + j]?.getD .nilFunc):=by
  rw [qd,List.getElem?_map,List.getElem?_range hj] at hx
  have:=(Option.some.inj hx).symm
  rw [this]; rfl
 have hrow:row[1 + j]? = some row[1 + j]:=List.getElem?_eq_getElem (by omega)
 have hk:kRk[1 + j]? = some (.int .u8):=by
  have:kRk = .int .i64 :: List.replicate 32 (.int .u8):=rfl
  rw [this,Nat.add_comm,List.getElem?_cons_succ,List.getElem?_replicate,if_pos (by omega)]
 obtain ⟨z,hz⟩:=q6y (hf.2 (1 + j) (.int .u8) row[1 + j] hk hrow)
 have hv:=hc (1 + j) row[1 + j] hrow
 rw [hx2,hrow]
 simp only [Option.getD_some]
 rw [hz] at hv ⊢
 have e:((⟨b,o + 1,none⟩:Addr).add j) = ⟨b,o + 1 + j,none⟩:=by
  unfold Addr.add
  by_cases hj0:j = 0
  ·subst hj0; simp
  ·simp [hj0]
 rw [e]
 simp only [World.cell?,hb]
 show c[o + 1 + j]? = _
 rw [show o + 1 + j = o + 0 * kRk.length + (1 + j) by omega,hv]
 rfl
theorem q4Q:qks.ok Tryz.prog:=by
 refine ⟨fun args w=>Tryz.call118 args w,fun ρ w hF hO hg hd hw hs hro hp=>?_⟩
 obtain ⟨h2,h3,b2,b3⟩:=hp
 have hr0:=hro _ (List.mem_cons_self ..)
 have hr1:=hro _ (List.mem_cons_of_mem _ (List.mem_cons_self ..))
 obtain ⟨row2,e2,l2⟩:=h2
 obtain ⟨row3,e3,l3⟩:=h3
 rcases hr0 with h | ⟨b,o,c,ty,fr,q1,q2,q3⟩
 ·have h:(ρ 2).d = []:=h
  rw [e2] at h; cases h
 rcases hr1 with h | ⟨b',o',c',ty',fr',p1,p2,p3⟩
 ·have h:(ρ 3).d = []:=h
  rw [e3] at h; cases h
 have hsub:∀ {x:Nat} {X:Obj},hF.h x = some X->w.heap[x]? = some X:=fun h=>hw.1 _ _ (by simp [Hp.union,h])
 have hx:=quf (w:=w) (hsub q2) ⟨row2,e2,l2⟩ q3
 have hy:=quf (w:=w) (hsub p2) ⟨row3,e3,l3⟩ p3
 have hlen:∀ d:qf,((qd d 33).drop 1).length = 32:=fun d=>by simp [qd]
 have hc:=qoa ⟨b,o + 1,none⟩ ⟨b',o' + 1,none⟩ _ _ 32 32 w hx hy
 rw [hlen,hlen] at hc
 have hargs:(List.map (SV.den ρ) qks.args).toArray = #[.slice (some ⟨b,o + 1,none⟩) 32 32,.slice (some ⟨b',o' + 1,none⟩) 32 32]:=by
  simp [qks,SV.den,T.den,O0.den,O3.den,q1,p1,qm]
 rw [hargs]
 refine hc.mono fun e w' h=>?_
 obtain ⟨rfl,rfl⟩:=h
 refine ⟨0,_,ρ.set 4 { i:=qbz ((qd (ρ 2).d 33).drop 1) ((qd (ρ 3).d 33).drop 1) },rfl,fun n=>?_,fun n hn=>Env.set_ne _ _ (by have:n < 4:=hn; omega),?_,?_,hO,hd,trivial,hw.1,hw.2⟩
 ·by_cases hn:n = 4
  ·subst hn; rw [Env.set_same]; exact ⟨rfl,fun row hr=>(by cases hr)⟩
  ·rw [Env.set_ne _ _ hn]; exact hg n
 ·rw [qlY b2 b3]; rfl
 ·rfl
end Go.Proofs

set_option linter.unusedSimpArgs false
set_option linter.unusedVariables false
set_option maxRecDepth 100000
namespace Go.Proofs
open Go Go.Eng

def qua:Out:=(.br (.cmp .geq (.var 0) (.lit 0))
 (.ret 0 (sg 1 [bt 1 (.cmp .lss (.var 0) (.lit 16))]))
 (.ret 0 (sg 1 [bt 1 (.bl false)])))
theorem q1m:ql ⟨Tryz.prog,qct,[],[]⟩ 100000 Tryz.f100 = qua:=by kernel_rfl
theorem q54 (hd:∀ c ∈ ([]:List Ctr),c.ok Tryz.prog) (h:∀ ρ:Env,ρ.good->(qct).pre ρ->qua.den ⟨Tryz.prog,qct,[],[]⟩ ρ):(qct).ok Tryz.prog :=
 qe Tryz.func100 (fun a w=>Tryz.call100 a w) hd 100000 (fun ρ hg hp=>by rw [q1m]; exact h ρ hg hp)
@[simp] def qbq:T:=.rcons (.vbool (.bcell (.var 7) (.lit 0) 0)) (.rcons (.vbool (.bcell (.var 7) (.lit 0) 1)) (.rcons (.vbool (.bcell (.var 7) (.lit 0) 2)) (.rcons (.vbool (.bcell (.var 7) (.lit 0) 3)) (.rcons (.vbool (.bcell (.var 7) (.lit 0) 4)) (.rcons (.vbool (.bcell (.var 7) (.lit 0) 5)) (.rcons (.vbool (.bcell (.var 7) (.lit 0) 6)) (.rcons (.vbool (.bcell (.var 7) (.lit 0) 7)) (.rcons (.vbool (.bcell (.var 7) (.lit 0) 8)) (.rcons (.vbool (.bcell (.var 7) (.lit 0) 9)) (.rcons (.vbool (.bcell (.var 7) (.lit 0) 10)) (.rcons (.vbool (.bcell (.var 7) (.lit 0) 11)) (.rcons (.vbool (.bcell (.var 7) (.lit 0) 12)) (.rcons (.vbool (.bcell (.var 7) (.lit 0) 13)) (.rcons (.vbool (.bcell (.var 7) (.lit 0) 14)) (.rcons (.vbool (.bcell (.var 7) (.lit 0) 15)) .rnil)))))))))))))))
def qmh:Out:=(.fresh 5 (.need (.cmp .leq (.lit 0) (.var 1)) (.inv 0 6 (sg 1000 [bt 1001 (.rcons (.vbool (.bl false)) (.rcons (.vbool (.bl false)) (.rcons (.vbool (.bl false)) (.rcons (.vbool (.bl false)) (.rcons (.vbool (.bl false)) (.rcons (.vbool (.bl false)) (.rcons (.vbool (.bl false)) (.rcons (.vbool (.bl false)) (.rcons (.vbool (.bl false)) (.rcons (.vbool (.bl false)) (.rcons (.vbool (.bl false)) (.rcons (.vbool (.bl false)) (.rcons (.vbool (.bl false)) (.rcons (.vbool (.bl false)) (.rcons (.vbool (.bl false)) (.rcons (.vbool (.bl false)) .rnil)))))))))))))))),bt 1002 (.lit 0),bg 1000 5]) (.fresh 6 (.fresh 7 (.fresh 8 (.hyp 0 6 (.br (.cmp .lss (.var 8) (.var 1))
 (.need (.cmp .leq (.lit 0) (.var 8)) (.need (.cmp .lss (.var 8) (.dlen (.var 3))) (.pre 0 (sg 0 [bt 0 (.icell (.var 3) (.var 8) 0)]) (.both (.fresh 9 (.post 0 0 (sg 0 [bt 0 (.icell (.var 3) (.var 8) 0)]) 9 (.br (.var 9)
 (.need (.cmp .leq (.lit 0) (.icell (.var 3) (.var 8) 0)) (.need (.cmp .lss (.icell (.var 3) (.var 8) 0) (.lit 16)) (.need (.cmp .lss (.lit 0) (.dlen (.var 7))) (.back 0 6 (sg 1000 [bt 1001 (.c3 (.xput 0) (.var 7) (.icell (.var 3) (.var 8) 0) (.vbool (.bl true))),bt 1002 (.arith .add .i64 (.var 8) (.lit 1)),bg 1000 6])))))
 (.back 0 6 (sg 1000 [bv 1001 7,bt 1002 (.arith .add .i64 (.var 8) (.lit 1)),bg 1000 6]))))) .top))))
 (.need (.cmp .lss (.lit 0) (.dlen (.var 7))) (.ret 0 (sg 5 [bt 20 (.bcell (.dput (.var 7) (.lit 0) 0 qbq) (.lit 0) 15),bt 19 (.bcell (.dput (.var 7) (.lit 0) 0 qbq) (.lit 0) 14),bt 18 (.bcell (.dput (.var 7) (.lit 0) 0 qbq) (.lit 0) 13),bt 17 (.bcell (.dput (.var 7) (.lit 0) 0 qbq) (.lit 0) 12),bt 16 (.bcell (.dput (.var 7) (.lit 0) 0 qbq) (.lit 0) 11),bt 15 (.bcell (.dput (.var 7) (.lit 0) 0 qbq) (.lit 0) 10),bt 14 (.bcell (.dput (.var 7) (.lit 0) 0 qbq) (.lit 0) 9),bt 13 (.bcell (.dput (.var 7) (.lit 0) 0 qbq) (.lit 0) 8),bt 12 (.bcell (.dput (.var 7) (.lit 0) 0 qbq) (.lit 0) 7),bt 11 (.bcell (.dput (.var 7) (.lit 0) 0 qbq) (.lit 0) 6),bt 10 (.bcell (.dput (.var 7) (.lit 0) 0 qbq) (.lit 0) 5),bt 9 (.bcell (.dput (.var 7) (.lit 0) 0 qbq) (.lit 0) 4),bt 8 (.bcell (.dput (.var 7) (.lit 0) 0 qbq) (.lit 0) 3),bt 7 (.bcell (.dput (.var 7) (.lit 0) 0 qbq) (.lit 0) 2),bt 6 (.bcell (.dput (.var 7) (.lit 0) 0 qbq) (.lit 0) 1),bt 5 (.bcell (.dput (.var 7) (.lit 0) 0 qbq) (.lit 0) 0)])))))))))))
theorem q3q:ql ⟨Tryz.prog,qdP,[qct],[qqk]⟩ 100000 Tryz.f82 = qmh:=by kernel_rfl
theorem q66 (hd:∀ c ∈ ([qct]:List Ctr),c.ok Tryz.prog) (h:∀ ρ:Env,ρ.good->(qdP).pre ρ->qmh.den ⟨Tryz.prog,qdP,[qct],[qqk]⟩ ρ):(qdP).ok Tryz.prog :=
 qe Tryz.func82 (fun a w=>Tryz.call82 a w) hd 100000 (fun ρ hg hp=>by rw [q3q]; exact h ρ hg hp)
@[simp] def qr4:Sg:=sg 0 [bv 7 3,bv 5 8,bt 4 (.dapp (.dapp (.rcons (x8 0 0) .rnil) (.dapp (.rcons (x8 1 0) .rnil) (.dapp (.rcons (x8 2 0) .rnil) (.dapp (.rcons (x8 3 0) .rnil) (.dapp (.rcons (x8 4 0) .rnil) (.dapp (.rcons (x8 5 0) .rnil) (.dapp (.rcons (x8 6 0) .rnil) (.dapp (.rcons (x8 7 0) .rnil) (.dapp (.rcons (x8 8 0) .rnil) (.dapp (.rcons (x8 9 0) .rnil) (.dapp (.rcons (x8 10 0) .rnil) (.dapp (.rcons (x8 11 0) .rnil) (.dapp (.rcons (x8 12 0) .rnil) (.dapp (.rcons (x8 13 0) .rnil) (.dapp (.rcons (x8 14 0) .rnil) (.dapp (.rcons (x8 15 0) .rnil) (.dapp (.rcons (x8 16 0) .rnil) (.dapp (.rcons (x8 17 0) .rnil) (.dapp (.rcons (x8 18 0) .rnil) (.dapp (.rcons (x8 19 0) .rnil) (.dapp (.rcons (x8 20 0) .rnil) (.dapp (.rcons (x8 21 0) .rnil) (.dapp (.rcons (x8 22 0) .rnil) (.dapp (.rcons (x8 23 0) .rnil) (.dapp (.rcons (x8 24 0) .rnil) (.dapp (.rcons (x8 25 0) .rnil) (.dapp (.rcons (x8 26 0) .rnil) (.dapp (.rcons (x8 27 0) .rnil) (.dapp (.rcons (x8 28 0) .rnil) (.dapp (.rcons (x8 29 0) .rnil) (.dapp (.rcons (x8 30 0) .rnil) (.rcons (x8 31 0) .rnil)))))))))))))))))))))))))))))))) (.rcons (.vint .u8 (.conv .u8 (.var 1))) .rnil)),bv 3 8,bt 2 (.lit 33),bt 1 (.lit 0),bg 0 7,bg 6 2]
def qqJ:Out:=(.fresh 4 (.fresh 5 (.fresh 6 (.need (.cmp .leq (.tims (.lit 1) (.lit 33)) (.lit 140737488355328)) (.fresh 7 (.fresh 8 (.know (.cmp .leq (.lit 33) (.var 8)) (.pre 0 qr4 (.both (.fresh 9 (.post 0 0 qr4 9 (.ret 0 (sg 4 [bt 4 (r8 9)])))) .top)))))))))
theorem qx9:ql ⟨Tryz.prog,qco,[qaK],[]⟩ 100000 Tryz.f24 = qqJ:=by kernel_rfl
theorem q2F (hd:∀ c ∈ ([qaK]:List Ctr),c.ok Tryz.prog) (h:∀ ρ:Env,ρ.good->(qco).pre ρ->qqJ.den ⟨Tryz.prog,qco,[qaK],[]⟩ ρ):(qco).ok Tryz.prog :=
 qe Tryz.func24 (fun a w=>Tryz.call24 a w) hd 100000 (fun ρ hg hp=>by rw [qx9]; exact h ρ hg hp)
def quK:Out:=(.fresh 4 (.fresh 5 (.pre 0 (sg 0 [bv 3 3,bv 1 1,bt 0 (r8 0),bg 2 2]) (.both (.fresh 6 (.post 0 0 (sg 0 [bv 3 3,bv 1 1,bt 0 (r8 0),bg 2 2]) 6 (.ret 0 (sg 4 [bt 4 (r8 6)])))) .top))))
theorem q1g:ql ⟨Tryz.prog,qdH,[qco],[]⟩ 100000 Tryz.f80 = quK:=by kernel_rfl
theorem q51 (hd:∀ c ∈ ([qco]:List Ctr),c.ok Tryz.prog) (h:∀ ρ:Env,ρ.good->(qdH).pre ρ->quK.den ⟨Tryz.prog,qdH,[qco],[]⟩ ρ):(qdH).ok Tryz.prog :=
 qe Tryz.func80 (fun a w=>Tryz.call80 a w) hd 100000 (fun ρ hg hp=>by rw [q1g]; exact h ρ hg hp)
def qkD:Out:=(.fresh 4 (.fresh 5 (.both (.pre 0 (sg 0 [bt 3 (.rcons (.vint .i64 (.var 2)) (r8 3)),bt 2 (.rcons (.vint .i64 (.var 0)) (r8 1)),bg 1 5,bg 0 4]) (.both (.fresh 6 (.post 0 0 (sg 0 [bt 3 (.rcons (.vint .i64 (.var 2)) (r8 3)),bt 2 (.rcons (.vint .i64 (.var 0)) (r8 1)),bg 1 5,bg 0 4]) 6 (.br (.cmp .neq (.var 6) (.lit 0))
 (.ret 0 (sg 4 [bv 4 6]))
 (.ret 0 (sg 4 [bt 4 (.arith .sub .i64 (.var 0) (.var 2))]))))) .top)) .top)))
theorem qte:ql ⟨Tryz.prog,qcJ,[qks],[]⟩ 100000 Tryz.f81 = qkD:=by kernel_rfl
theorem qz3 (hd:∀ c ∈ ([qks]:List Ctr),c.ok Tryz.prog) (h:∀ ρ:Env,ρ.good->(qcJ).pre ρ->qkD.den ⟨Tryz.prog,qcJ,[qks],[]⟩ ρ):(qcJ).ok Tryz.prog :=
 qe Tryz.func81 (fun a w=>Tryz.call81 a w) hd 100000 (fun ρ hg hp=>by rw [qte]; exact h ρ hg hp)
@[simp] def qoB:Out:=.fresh 10 (.both (.fresh 11 (.both (.both (.br (.c2 .req (r8 6) (r8 8))
 (.ret 0 (sg 5 [bt 5 (.cmp .lss (.var 1) (.var 2))]))
 (.pre 1 (sg 0 [bv 2 2,bt 3 (r8 8),bv 0 1,bt 1 (r8 6)]) (.both (.fresh 12 (.post 1 0 (sg 0 [bv 2 2,bt 3 (r8 8),bv 0 1,bt 1 (r8 6)]) 12 (.ret 0 (sg 5 [bt 5 (.cmp .lss (.var 12) (.lit 0))])))) .top))) .top) .top)) .top)
@[simp] def qo9:Out:=.fresh 8 (.both (.pre 0 (sg 0 [bv 3 4,bv 1 2,bt 0 (r8 0),bg 2 3]) (.both (.fresh 9 (.fresh 10 (.post 0 0 (sg 0 [bv 3 4,bv 1 2,bt 0 (r8 0),bg 2 3]) 9 (.both (.fresh 11 (.both (.both (.br (.c2 .req (r8 6) (r8 9))
 (.ret 0 (sg 5 [bt 5 (.cmp .lss (.var 1) (.var 2))]))
 (.pre 1 (sg 0 [bv 2 2,bt 3 (r8 9),bv 0 1,bt 1 (r8 6)]) (.both (.fresh 12 (.post 1 0 (sg 0 [bv 2 2,bt 3 (r8 9),bv 0 1,bt 1 (r8 6)]) 12 (.ret 0 (sg 5 [bt 5 (.cmp .lss (.var 12) (.lit 0))])))) .top))) .top) .top)) .top)))) .top)) (.both (.fresh 9 (.both (.pre 0 (sg 0 [bv 3 4,bv 1 2,bt 0 (r8 0),bg 2 3]) (.both (.fresh 10 (.fresh 11 (.post 0 0 (sg 0 [bv 3 4,bv 1 2,bt 0 (r8 0),bg 2 3]) 10 (.both (.both (.br (.c2 .req (r8 6) (r8 10))
 (.ret 0 (sg 5 [bt 5 (.cmp .lss (.var 1) (.var 2))]))
 (.pre 1 (sg 0 [bv 2 2,bt 3 (r8 10),bv 0 1,bt 1 (r8 6)]) (.both (.fresh 12 (.post 1 0 (sg 0 [bv 2 2,bt 3 (r8 10),bv 0 1,bt 1 (r8 6)]) 12 (.ret 0 (sg 5 [bt 5 (.cmp .lss (.var 12) (.lit 0))])))) .top))) .top) .top)))) .top)) .top)) .top))
@[simp] def qpd:Out:=.fresh 6 (.both (.pre 0 (sg 0 [bv 3 4,bv 1 1,bt 0 (r8 0),bg 2 3]) (.both (.fresh 7 (.fresh 8 (.post 0 0 (sg 0 [bv 3 4,bv 1 1,bt 0 (r8 0),bg 2 3]) 7 (.both (.pre 0 (sg 0 [bv 3 4,bv 1 2,bt 0 (r8 0),bg 2 3]) (.both (.fresh 9 (.fresh 10 (.post 0 0 (sg 0 [bv 3 4,bv 1 2,bt 0 (r8 0),bg 2 3]) 9 (.both (.fresh 11 (.both (.both (.br (.c2 .req (r8 7) (r8 9))
 (.ret 0 (sg 5 [bt 5 (.cmp .lss (.var 1) (.var 2))]))
 (.pre 1 (sg 0 [bv 2 2,bt 3 (r8 9),bv 0 1,bt 1 (r8 7)]) (.both (.fresh 12 (.post 1 0 (sg 0 [bv 2 2,bt 3 (r8 9),bv 0 1,bt 1 (r8 7)]) 12 (.ret 0 (sg 5 [bt 5 (.cmp .lss (.var 12) (.lit 0))])))) .top))) .top) .top)) .top)))) .top)) (.both (.fresh 9 (.both (.pre 0 (sg 0 [bv 3 4,bv 1 2,bt 0 (r8 0),bg 2 3]) (.both (.fresh 10 (.fresh 11 (.post 0 0 (sg 0 [bv 3 4,bv 1 2,bt 0 (r8 0),bg 2 3]) 10 (.both (.both (.br (.c2 .req (r8 7) (r8 10))
 (.ret 0 (sg 5 [bt 5 (.cmp .lss (.var 1) (.var 2))]))
 (.pre 1 (sg 0 [bv 2 2,bt 3 (r8 10),bv 0 1,bt 1 (r8 7)]) (.both (.fresh 12 (.post 1 0 (sg 0 [bv 2 2,bt 3 (r8 10),bv 0 1,bt 1 (r8 7)]) 12 (.ret 0 (sg 5 [bt 5 (.cmp .lss (.var 12) (.lit 0))])))) .top))) .top) .top)))) .top)) .top)) .top))))) .top)) (.both (.fresh 7 (.both (.pre 0 (sg 0 [bv 3 4,bv 1 1,bt 0 (r8 0),bg 2 3]) (.both (.fresh 8 (.fresh 9 (.post 0 0 (sg 0 [bv 3 4,bv 1 1,bt 0 (r8 0),bg 2 3]) 8 (.both (.pre 0 (sg 0 [bv 3 4,bv 1 2,bt 0 (r8 0),bg 2 3]) (.both (.fresh 10 (.fresh 11 (.post 0 0 (sg 0 [bv 3 4,bv 1 2,bt 0 (r8 0),bg 2 3]) 10 (.both (.both (.br (.c2 .req (r8 8) (r8 10))
 (.ret 0 (sg 5 [bt 5 (.cmp .lss (.var 1) (.var 2))]))
 (.pre 1 (sg 0 [bv 2 2,bt 3 (r8 10),bv 0 1,bt 1 (r8 8)]) (.both (.fresh 12 (.post 1 0 (sg 0 [bv 2 2,bt 3 (r8 10),bv 0 1,bt 1 (r8 8)]) 12 (.ret 0 (sg 5 [bt 5 (.cmp .lss (.var 12) (.lit 0))])))) .top))) .top) .top)))) .top)) .top)))) .top)) .top)) .top))
def qnR:Out:=(.fresh 5 (.both (.pre 0 (sg 0 [bv 3 4,bv 1 1,bt 0 (r8 0),bg 2 3]) (.both (.fresh 6 (.fresh 7 (.post 0 0 (sg 0 [bv 3 4,bv 1 1,bt 0 (r8 0),bg 2 3]) 6 (.both (.pre 0 (sg 0 [bv 3 4,bv 1 2,bt 0 (r8 0),bg 2 3]) (.both (.fresh 8 (.fresh 9 (.post 0 0 (sg 0 [bv 3 4,bv 1 2,bt 0 (r8 0),bg 2 3]) 8 (.both qoB (.both qoB .top))))) .top)) (.both qo9 (.both qo9 .top)))))) .top)) (.both qpd (.both qpd .top))))
theorem qwa:ql ⟨Tryz.prog,qaJ,[qdH,qcJ],[]⟩ 100000 Tryz.f26 = qnR:=by kernel_rfl
theorem q18 (hd:∀ c ∈ ([qdH,qcJ]:List Ctr),c.ok Tryz.prog) (h:∀ ρ:Env,ρ.good->(qaJ).pre ρ->qnR.den ⟨Tryz.prog,qaJ,[qdH,qcJ],[]⟩ ρ):(qaJ).ok Tryz.prog :=
 qe Tryz.func26 (fun a w=>Tryz.call26 a w) hd 100000 (fun ρ hg hp=>by rw [qwa]; exact h ρ hg hp)
end Go.Proofs

set_option linter.unusedSimpArgs false
set_option linter.unusedVariables false
namespace Go.Proofs
open Go Go.Eng
set_option maxRecDepth 20000
theorem qq4:qct.ok Tryz.prog:=q54 (by simp) fun ρ hg hp=>by
 simp (config:={ maxSteps:=4000000 }) [qua,qct,qp4]
 exact ⟨fun h=>by simp [qE,h],fun h1 h2=>by omega⟩
theorem qyf (d:qf) (p:Int):(qd d 32).map (fun x=>[Value.int .u8 x]) ++ [[Value.int .u8 (IntKind.u8.wrap p)]] = [[.int .u8 (qa d 0)],[.int .u8 (qa d 1)],[.int .u8 (qa d 2)],[.int .u8 (qa d 3)],[.int .u8 (qa d 4)],[.int .u8 (qa d 5)],[.int .u8 (qa d 6)],[.int .u8 (qa d 7)],[.int .u8 (qa d 8)],[.int .u8 (qa d 9)],[.int .u8 (qa d 10)],[.int .u8 (qa d 11)],[.int .u8 (qa d 12)],[.int .u8 (qa d 13)],[.int .u8 (qa d 14)],[.int .u8 (qa d 15)],[.int .u8 (qa d 16)],[.int .u8 (qa d 17)],[.int .u8 (qa d 18)],[.int .u8 (qa d 19)],[.int .u8 (qa d 20)],[.int .u8 (qa d 21)],[.int .u8 (qa d 22)],[.int .u8 (qa d 23)],[.int .u8 (qa d 24)],[.int .u8 (qa d 25)],[.int .u8 (qa d 26)],[.int .u8 (qa d 27)],[.int .u8 (qa d 28)],[.int .u8 (qa d 29)],[.int .u8 (qa d 30)],[.int .u8 (qa d 31)],[.int .u8 (IntKind.u8.wrap p)]]:=rfl
theorem qvh (d:qf) (p:Int):bI ((qd d 32).map (fun x=>[Value.int .u8 x]) ++ [[Value.int .u8 (IntKind.u8.wrap p)]]) = qd d 32 ++ [p % 256]:=by
 rw [qtg]
 congr 1
theorem qxY {d:qf} {p:Int} (h:qT (qd d 32)):q9 ((qd d 32).map (fun x=>[Value.int .u8 x]) ++ [[Value.int .u8 (IntKind.u8.wrap p)]]):=by
 refine q4N ?_
 rw [qvh]
 intro x hx
 rcases List.mem_append.1 hx with hx | hx
 ·exact h x hx
 ·rw [List.mem_singleton.1 hx]; exact ⟨Int.emod_nonneg _ (by decide),Int.emod_lt_of_pos _ (by decide)⟩
theorem quV:qco.ok Tryz.prog:=q2F (by simp [ql1]) fun ρ hg hp=>by
 obtain ⟨hO,hGr,hGd⟩:=hp
 simp (config:={ maxSteps:=4000000 }) [qqJ,qco,qaK,qmt,gOk,hGr,hGd,hO]
 rw [<- qyf]
 refine fun u _ hu=>⟨⟨by omega,qxY hO⟩,fun v _ hv=>?_⟩
 rw [hv,qkz (by simp [qd]),qvh]; rfl
theorem qxa:qdH.ok Tryz.prog:=q51 (by simp [quV]) fun ρ hg hp=>by
 obtain ⟨hO,hGr,hGd⟩:=hp
 simp (config:={ maxSteps:=4000000 }) [quK,qdH,qco,gOk,hGr,hGd,hO]
theorem qxK:qcJ.ok Tryz.prog:=qz3 (by simp [q4Q]) fun ρ hg hp=>by
 obtain ⟨h1,h3⟩:=hp
 simp (config:={ maxSteps:=4000000 }) [qkD,qcJ,qks]
 refine ⟨⟨⟨_,rfl,rfl⟩,⟨_,rfl,rfl⟩,h1,h3⟩,fun u _ hu=>?_⟩
 have hu:u.i = qbz (qd (ρ 1).d 32) (qd (ρ 3).d 32):=hu
 rw [<- hu]
 exact ⟨fun h=>by simp [h],fun h=>by simp [h]⟩
theorem qkG:qaJ.ok Tryz.prog:=q18 (by simp [qxa,qxK]) fun ρ hg hp=>by
 obtain ⟨hO,hGr,hGd⟩:=hp
 simp (config:={ maxSteps:=4000000 }) [qnR,qaJ,qdH,qcJ,gOk,hGr,hGd,hO]
 intro u _ hu u1 _ hu1
 rw [hu,hu1]
 unfold qN
 refine ⟨fun h=>by rw [if_pos h]; rfl,fun h=>⟨⟨qgn _,qgn _⟩,fun v _ hv=>?_⟩⟩
 rw [if_neg (fun h'=>h (qfv.1 h'))] at hv
 rw [if_neg h,hv]; rfl
theorem qmE {L:List Int}:qdy [List.replicate 16 (.bool false)] L 0:=by
 refine ⟨⟨_,rfl,List.length_replicate ..⟩,fun x h0 h1=>⟨fun h=>?_,fun h=>by simp at h⟩⟩
 exfalso
 have h2:qaP [List.replicate 16 (Value.bool false)] x.toNat = false:=by
  unfold qaP
  rw [List.headD_cons,List.getElem?_replicate,if_pos (by omega)]; rfl
 rw [h2] at h; cases h
theorem qik {L:List Int} {n:Nat} (hn:n < L.length):L.take (n + 1) = L.take n ++ [L.getD n 0]:=by
 rw [List.take_add_one,List.getElem?_eq_getElem hn,List.getD_eq_getElem?_getD,List.getElem?_eq_getElem hn]; rfl
theorem qmS {s:qf} {L:List Int} {n:Nat} {y:Int} (h:qdy s L n) (hn:n < L.length) (hy:y = L.getD n 0) (h0:0 <= y) (h1:y < 16):qdy (qav s y.toNat (.bool true)) L (n + 1):=by
 obtain ⟨⟨row,rfl,hr⟩,h2⟩:=h
 refine ⟨⟨_,rfl,by rw [List.length_set]; exact hr⟩,fun x x0 x1=>?_⟩
 have hc:qaP (qav [row] y.toNat (.bool true)) x.toNat = if x = y then true else qaP [row] x.toNat:=by
  unfold qaP qav
  rw [List.headD_cons,List.headD_cons,List.getElem?_set]
  by_cases hxe:x = y
  ·rw [if_pos (by rw [hxe]),if_pos (by omega),if_pos hxe]; rfl
  ·rw [if_neg (fun e=>hxe (by omega)),if_neg hxe]
 rw [hc,qik hn,<- hy,List.mem_append,List.mem_singleton]
 by_cases hxe:x = y
 ·rw [if_pos hxe]; exact ⟨fun _=>.inr hxe,fun _=>rfl⟩
 ·rw [if_neg hxe,h2 x x0 x1]
  exact ⟨.inl,fun h=>h.resolve_right hxe⟩
theorem qmF {s:qf} {L:List Int} {n:Nat} {y:Int} (h:qdy s L n) (hn:n < L.length) (hy:y = L.getD n 0) (hne:¬ (0 <= y/\y < 16)):qdy s L (n + 1):=by
 refine ⟨h.1,fun x x0 x1=>?_⟩
 rw [h.2 x x0 x1,qik hn,<- hy,List.mem_append,List.mem_singleton]
 exact ⟨.inl,fun h=>h.resolve_right (fun e=>hne (by omega))⟩
theorem qeu {d:qf} {i:Int} (h0:0 <= i) (h1:i < d.length):qi d i 0 = (qn d).getD i.toNat 0:=by
 have hl:i.toNat < d.length:=by omega
 rw [qn,List.getD_eq_getElem?_getD,List.getElem?_map,List.getElem?_eq_getElem hl]
 simp [qi,qal,qbs,List.getElem?_eq_getElem hl]
theorem q0U:qdP.ok Tryz.prog:=q66 (by simp [qq4]) fun ρ hg hp=>by
 obtain ⟨hl,h1,hr⟩:=hp
 simp only [Nat.reduceAdd] at hl h1 hr
 simp (config:={ maxSteps:=4000000 }) [qmh,qdP,qqk,qct,hl]
 have hil:(qn (ρ 3).d).length = (ρ 3).d.length:=by simp [qn]
 refine ⟨qmE,fun s _ i _ i0 i1 hs=>⟨fun hi=>⟨i0,hi,fun u _ hu=>⟨fun ht=>?_,fun hf=>?_⟩⟩,fun hi=>?_⟩⟩
 ·have hp:0 <= qi (ρ 3).d i.i 0/\qi (ρ 3).d i.i 0 < 16:=by rw [hu] at ht; exact of_decide_eq_true ht
  have hsl:0 < s.d.length:=by obtain ⟨⟨row,e,_⟩,_⟩:=hs; rw [e]; exact Nat.one_pos
  rw [add64 (x:=i.i) (by omega) (by omega)]
  refine ⟨hp.1,hp.2,hsl,⟨by omega,by omega,?_⟩,by omega⟩
  rw [show (i.i + 1).toNat = i.i.toNat + 1 by omega]
  exact qmS hs (by omega) (qeu i0 hi) hp.1 hp.2
 ·have hp:¬ (0 <= qi (ρ 3).d i.i 0/\qi (ρ 3).d i.i 0 < 16):=by rw [hu] at hf; exact of_decide_eq_false hf
  rw [add64 (x:=i.i) (by omega) (by omega)]
  refine ⟨⟨by omega,by omega,?_⟩,by omega⟩
  rw [show (i.i + 1).toNat = i.i.toNat + 1 by omega]
  exact qmF hs (by omega) (qeu i0 hi) hp
 ·obtain ⟨⟨row,hs1,hrl⟩,hs2⟩:=hs
  rw [List.take_of_length_le (by omega)] at hs2
  rw [hs1] at hs2 ⊢
  match row,hrl with
  | [a0,a1,a2,a3,a4,a5,a6,a7,a8,a9,a10,a11,a12,a13,a14,a15],_ =>
   refine ⟨by simp,?_⟩
   have key:qeB ((List.range 16).map (qaP [[a0,a1,a2,a3,a4,a5,a6,a7,a8,a9,a10,a11,a12,a13,a14,a15]])) (qn (ρ 3).d):=⟨by simp,fun j hj=>by
    rw [List.getD_eq_getElem?_getD,List.getElem?_map,List.getElem?_range hj]
    exact hs2 j (by omega) (by omega)⟩
   exact key
end Go.Proofs

set_option linter.unusedSimpArgs false
set_option linter.unusedVariables false
set_option maxRecDepth 100000
namespace Go.Proofs
open Go Go.Eng

end Go.Proofs

set_option linter.unusedSimpArgs false
set_option linter.unusedVariables false
namespace Go.Proofs
open Go Go.Eng
set_option maxRecDepth 20000
theorem qcL {d:qf}:(qn d).length = d.length:=by simp [qn]
end Go.Proofs

set_option linter.unusedSimpArgs false
set_option linter.unusedVariables false
set_option maxRecDepth 100000
namespace Go.Proofs
open Go Go.Eng

def qpT:Out:=(.need (.cmp .leq (.lit 0) (.var 1)) (.inv 0 6 (sg 1000 [bt 1000 (.lit 0)]) (.fresh 6 (.hyp 0 6 (.br (.cmp .lss (.var 6) (.var 1))
 (.need (.cmp .leq (.lit 0) (.var 6)) (.need (.cmp .lss (.var 6) (.dlen (.var 3))) (.br (.cmp .eql (.var 5) (.icell (.var 3) (.var 6) 0))
 (.ret 0 (sg 6 [bv 6 6]))
 (.back 0 6 (sg 1000 [bt 1000 (.arith .add .i64 (.var 6) (.lit 1))])))))
 (.ret 0 (sg 6 [bt 6 (.lit (-1))])))))))
theorem qyi:ql ⟨Tryz.prog,qeC,[],[quQ]⟩ 100000 Tryz.f121 = qpT:=by kernel_rfl
theorem q3L (hd:∀ c ∈ ([]:List Ctr),c.ok Tryz.prog) (h:∀ ρ:Env,ρ.good->(qeC).pre ρ->qpT.den ⟨Tryz.prog,qeC,[],[quQ]⟩ ρ):(qeC).ok Tryz.prog :=
 qe Tryz.func121 (fun a w=>Tryz.call121 a w) hd 100000 (fun ρ hg hp=>by rw [qyi]; exact h ρ hg hp)
def qjK:Out:=(.pre 0 (sg 0 [bv 4 4,bv 3 3,bv 5 5,bv 2 2,bv 1 1,bg 0 0]) (.both (.fresh 6 (.post 0 0 (sg 0 [bv 4 4,bv 3 3,bv 5 5,bv 2 2,bv 1 1,bg 0 0]) 6 (.ret 0 (sg 6 [bt 6 (.cmp .geq (.var 6) (.lit 0))])))) .top))
theorem qsq:ql ⟨Tryz.prog,qaH,[qeC],[]⟩ 100000 Tryz.f84 = qjK:=by kernel_rfl
theorem qvY (hd:∀ c ∈ ([qeC]:List Ctr),c.ok Tryz.prog) (h:∀ ρ:Env,ρ.good->(qaH).pre ρ->qjK.den ⟨Tryz.prog,qaH,[qeC],[]⟩ ρ):(qaH).ok Tryz.prog :=
 qe Tryz.func84 (fun a w=>Tryz.call84 a w) hd 100000 (fun ρ hg hp=>by rw [qsq]; exact h ρ hg hp)
end Go.Proofs

set_option linter.unusedSimpArgs false
set_option linter.unusedVariables false
namespace Go.Proofs
open Go Go.Eng
set_option maxRecDepth 20000
theorem qei {L:List Int} {n:Nat}:qH L (n + 1) = qH L n ++ (if (n:Int) ∈ L then [(n:Int)] else []):=by
 unfold qH
 rw [List.range_succ,List.map_append,List.filter_append]
 congr 1
 simp only [List.map_cons,List.map_nil,List.filter_cons,List.filter_nil,decide_eq_true_eq]
theorem qlb {d:qf} {x:Int}:qn (d ++ [[.int .i64 x]]) = qn d ++ [x]:=by simp [qn,qbs,qQ]
theorem q4h:qeC.ok Tryz.prog:=q3L (by simp) fun ρ hg hp=>by
 obtain ⟨hl,h1,hr⟩:=hp
 simp only [Nat.reduceAdd] at hl h1 hr
 simp (config:={ maxSteps:=4000000 }) [qpT,qeC,quQ,hl]
 have hil:=qcL (d:=(ρ 3).d)
 intro i _ i0 i1 hno
 refine ⟨fun hi=>⟨i0,hi,fun he=>⟨fun _=>?_,fun _=>i0⟩,fun hne=>?_⟩,fun hi=>?_⟩
 ·rw [he,qeu i0 hi,List.getD_eq_getElem?_getD,List.getElem?_eq_getElem (by omega)]
  exact List.getElem_mem _
 ·rw [qeu i0 hi] at hne
  rw [add64 (x:=i.i) (by omega) (by omega)]
  refine ⟨⟨by omega,by omega,?_⟩,by omega⟩
  rw [show (i.i + 1).toNat = i.i.toNat + 1 by omega,qik (by omega),List.mem_append,List.mem_singleton]
  exact fun h=>h.elim hno fun h=>hne h
 ·rw [List.take_of_length_le (by omega)] at hno
  exact hno
theorem qna:qaH.ok Tryz.prog:=qvY (by simp [q4h]) fun ρ hg hp=>by
 obtain ⟨hl,h1,hr⟩:=hp
 simp only [Nat.reduceAdd] at hl h1 hr
 simp (config:={ maxSteps:=4000000 }) [qjK,qaH,qeC,qeb,qbS,hl]
 refine ⟨⟨by omega,hr⟩,fun u _ hu=>?_⟩
 show decide (u.i ≥ 0) = _
 exact decide_eq_decide.2 hu
end Go.Proofs

set_option linter.unusedSimpArgs false
set_option linter.unusedVariables false
set_option maxRecDepth 100000
namespace Go.Proofs
open Go Go.Eng

def qnu:Out:=(.fresh 9 (.pre 0 (sg 0 [bv 4 5,bv 3 4,bv 2 3,bv 1 2,bg 0 1]) (.both (.fresh 10 (.fresh 11 (.fresh 12 (.fresh 13 (.fresh 14 (.fresh 15 (.fresh 16 (.fresh 17 (.fresh 18 (.fresh 19 (.fresh 20 (.fresh 21 (.fresh 22 (.fresh 23 (.fresh 24 (.fresh 25 (.post 0 0 (sg 0 [bv 4 5,bv 3 4,bv 2 3,bv 1 2,bg 0 1]) 10 (.inv 0 26 (sg 1000 [bt 1005 .dnil,bt 1001 (.lit 0),bt 1004 (.lit 0),bt 1003 (.lit 0),(1002,.nil),bg 1000 9]) (.fresh 26 (.fresh 27 (.fresh 28 (.fresh 29 (.fresh 30 (.fresh 31 (.hyp 0 26 (.br (.cmp .lss (.var 27) (.lit 16))
 (.need (.cmp .leq (.lit 0) (.var 27)) (.br (.c2 (.xbool 0) (.rcons (.vbool (.var 10)) (.rcons (.vbool (.var 11)) (.rcons (.vbool (.var 12)) (.rcons (.vbool (.var 13)) (.rcons (.vbool (.var 14)) (.rcons (.vbool (.var 15)) (.rcons (.vbool (.var 16)) (.rcons (.vbool (.var 17)) (.rcons (.vbool (.var 18)) (.rcons (.vbool (.var 19)) (.rcons (.vbool (.var 20)) (.rcons (.vbool (.var 21)) (.rcons (.vbool (.var 22)) (.rcons (.vbool (.var 23)) (.rcons (.vbool (.var 24)) (.rcons (.vbool (.var 25)) .rnil)))))))))))))))) (.var 27))
 (.pre 1 (sg 0 [bv 3 8,bv 1 27,bt 0 (r8 0),bg 2 7]) (.both (.fresh 32 (.fresh 33 (.post 1 0 (sg 0 [bv 3 8,bv 1 27,bt 0 (r8 0),bg 2 7]) 32 (.fresh 34 (.need (.cmp .eql (.var 29) (.dlen (.var 31))) (.need (.cmp .leq (.tims (.lit 40) (.plus (.var 29) (.lit 1))) (.lit 140737488355328)) (.fresh 35 (.fresh 36 (.back 0 26 (sg 1000 [bt 1005 (.dapp (.var 31) (.rcons (.vint .i64 (.var 27)) (r8 32))),bt 1001 (.arith .add .i64 (.var 27) (.lit 1)),bv 1004 36,bt 1003 (.plus (.var 29) (.lit 1)),bg 1002 35,bg 1000 26])))))))))) .top))
 (.back 0 26 (sg 1000 [bv 1005 31,bt 1001 (.arith .add .i64 (.var 27) (.lit 1)),bv 1004 30,bv 1003 29,bg 1002 28,bg 1000 26]))))
 (.pre 2 (sg 0 [bv 3 31,bv 2 30,bv 1 29,bg 0 28]) (.both (.fresh 32 (.post 2 0 (sg 0 [bv 3 31,bv 2 30,bv 1 29,bg 0 28]) 32 (.fresh 33 (.need (.cmp .leq (.lit 0) (.var 29)) (.know (.cmp .leq (.dlen (.var 32)) (.var 30)) (.need (.cmp .leq (.lit 0) (.var 30)) (.need (.cmp .leq (.lit 0) (.imin (.imax (.var 6) (.lit 0)) (.var 29))) (.need (.cmp .leq (.imin (.imax (.var 6) (.lit 0)) (.var 29)) (.var 30)) (.inv 1 34 (sg 1000 [bt 1008 .dnil,bv 1007 32,bt 1006 (.lit 0),bt 1005 (.lit 0),bg 1004 33,bt 1003 (.lit 0),bv 1002 30,bt 1001 (.imin (.imax (.var 6) (.lit 0)) (.var 29)),bg 1000 28]) (.fresh 34 (.fresh 35 (.fresh 36 (.fresh 37 (.fresh 38 (.fresh 39 (.fresh 40 (.fresh 41 (.fresh 42 (.hyp 1 34 (.br (.cmp .lss (.var 37) (.var 35))
 (.need (.cmp .leq (.lit 0) (.var 37)) (.need (.cmp .lss (.var 37) (.dlen (.var 41))) (.fresh 43 (.fresh 44 (.need (.cmp .eql (.var 39) (.dlen (.var 42))) (.need (.cmp .leq (.tims (.lit 8) (.plus (.var 39) (.lit 1))) (.lit 140737488355328)) (.fresh 45 (.fresh 46 (.back 1 34 (sg 1000 [bt 1008 (.dapp (.var 42) (.rcons (.vint .i64 (.icell (.var 41) (.var 37) 0)) .rnil)),bv 1007 41,bv 1006 46,bt 1005 (.plus (.var 39) (.lit 1)),bg 1004 45,bt 1003 (.arith .add .i64 (.var 37) (.lit 1)),bv 1002 36,bv 1001 35,bg 1000 34]))))))))))
 (.ret 0 (sg 9 [bv 12 42,bv 11 40,bv 10 39,bg 9 38])))))))))))))))))))))) .top)))))))))))))))))))))))))))) .top)))
theorem qwv:ql ⟨Tryz.prog,qbd,[qdP,qdH,qer],[qqy,qq8]⟩ 100000 Tryz.f32 = qnu:=by kernel_rfl
theorem q09 (hd:∀ c ∈ ([qdP,qdH,qer]:List Ctr),c.ok Tryz.prog) (h:∀ ρ:Env,ρ.good->(qbd).pre ρ->qnu.den ⟨Tryz.prog,qbd,[qdP,qdH,qer],[qqy,qq8]⟩ ρ):(qbd).ok Tryz.prog :=
 qe Tryz.func32 (fun a w=>Tryz.call32 a w) hd 100000 (fun ρ hg hp=>by rw [qwv]; exact h ρ hg hp)
def qkU:Out:=(.fresh 4 (.fresh 5 (.inv 0 6 (sg 1000 [bt 1004 .dnil,bt 1005 (.lit 0),bt 1006 (.imin (.imax (.var 1) (.lit 0)) (.lit 16)),bt 1003 (.lit 0),bt 1002 (.lit 0),bg 1001 5,bg 1000 4]) (.fresh 6 (.fresh 7 (.fresh 8 (.fresh 9 (.fresh 10 (.fresh 11 (.fresh 12 (.hyp 0 6 (.br (.cmp .lss (.var 11) (.var 12))
 (.fresh 13 (.need (.cmp .eql (.var 8) (.dlen (.var 10))) (.need (.cmp .leq (.tims (.lit 8) (.plus (.var 8) (.lit 1))) (.lit 140737488355328)) (.fresh 14 (.fresh 15 (.back 0 6 (sg 1000 [bt 1004 (.dapp (.var 10) (.rcons (.vint .i64 (.var 11)) .rnil)),bt 1005 (.arith .add .i64 (.var 11) (.lit 1)),bv 1006 12,bv 1003 15,bt 1002 (.plus (.var 8) (.lit 1)),bg 1001 14,bg 1000 6])))))))
 (.pre 0 (sg 0 [bv 8 3,bv 5 9,bv 4 10,bt 6 (.lit 16),bv 3 9,bv 2 8,bg 1 7,bt 0 (r8 0),bg 7 2]) (.both (.fresh 13 (.fresh 14 (.fresh 15 (.fresh 16 (.post 0 0 (sg 0 [bv 8 3,bv 5 9,bv 4 10,bt 6 (.lit 16),bv 3 9,bv 2 8,bg 1 7,bt 0 (r8 0),bg 7 2]) 13 (.ret 0 (sg 4 [bv 7 16,bv 6 15,bv 5 14,bg 4 13]))))))) .top))))))))))))))
theorem qsI:ql ⟨Tryz.prog,qcf,[qbd],[qnO]⟩ 100000 Tryz.f29 = qkU:=by kernel_rfl
theorem qzs (hd:∀ c ∈ ([qbd]:List Ctr),c.ok Tryz.prog) (h:∀ ρ:Env,ρ.good->(qcf).pre ρ->qkU.den ⟨Tryz.prog,qcf,[qbd],[qnO]⟩ ρ):(qcf).ok Tryz.prog :=
 qe Tryz.func29 (fun a w=>Tryz.call29 a w) hd 100000 (fun ρ hg hp=>by rw [qsI]; exact h ρ hg hp)
def qsD:Out:=(.fresh 12 (.br (.var 9)
 (.br (.var 8)
 (.ret 0 (sg 12 [bt 12 (.lit 3)]))
 (.ret 0 (sg 12 [bt 12 (.lit 0)])))
 (.br (.cmp .lss (.var 7) (.lit 1))
 (.ret 0 (sg 12 [bt 12 (.lit 0)]))
 (.pre 0 (sg 0 [bv 8 11,bv 5 6,bv 4 5,bv 6 7,bv 3 4,bv 2 3,bg 1 2,bt 0 (r8 0),bg 7 10]) (.both (.fresh 13 (.fresh 14 (.fresh 15 (.fresh 16 (.post 0 0 (sg 0 [bv 8 11,bv 5 6,bv 4 5,bv 6 7,bv 3 4,bv 2 3,bg 1 2,bt 0 (r8 0),bg 7 10]) 13 (.pre 1 (sg 0 [bv 4 15,bv 3 16,bv 5 1,bv 2 15,bv 1 14,bg 0 13]) (.both (.fresh 17 (.post 1 0 (sg 0 [bv 4 15,bv 3 16,bv 5 1,bv 2 15,bv 1 14,bg 0 13]) 17 (.br (.var 17)
 (.br (.not (.var 8))
 (.ret 0 (sg 12 [bt 12 (.lit 1)]))
 (.ret 0 (sg 12 [bt 12 (.lit 0)])))
 (.br (.var 8)
 (.need (.cmp .leq (.lit 0) (.var 14)) (.br (.cmp .eql (.var 14) (.var 7))
 (.ret 0 (sg 12 [bt 12 (.lit 2)]))
 (.ret 0 (sg 12 [bt 12 (.lit 0)]))))
 (.ret 0 (sg 12 [bt 12 (.lit 0)])))))) .top))))))) .top)))))
theorem q0N:ql ⟨Tryz.prog,qfG,[qbd,qaH],[]⟩ 100000 Tryz.f35 = qsD:=by kernel_rfl
theorem q5e (hd:∀ c ∈ ([qbd,qaH]:List Ctr),c.ok Tryz.prog) (h:∀ ρ:Env,ρ.good->(qfG).pre ρ->qsD.den ⟨Tryz.prog,qfG,[qbd,qaH],[]⟩ ρ):(qfG).ok Tryz.prog :=
 qe Tryz.func35 (fun a w=>Tryz.call35 a w) hd 100000 (fun ρ hg hp=>by rw [q0N]; exact h ρ hg hp)
end Go.Proofs

set_option linter.unusedSimpArgs false
set_option linter.unusedVariables false
namespace Go.Proofs
open Go Go.Eng
variable {o:List Int}
theorem qjs {a b:Int}:(!qN o b a) = true↔qdm o a b <= 0:=by
 rw [qfx,Bool.not_eq_true',decide_eq_false_iff_not,qkv (a:=a) (b:=b)]; omega
theorem qhp {l:List Int}:(qap o l).Perm l:=List.mergeSort_perm l _
theorem q2x {l:List Int}:(qap o l).Pairwise fun a b=>(!qN o b a) = true:=by
 refine List.pairwise_mergeSort (fun a b c h1 h2=>?_) (fun a b=>?_) l
 ·rw [qjs] at h1 h2 ⊢
  by_cases e1:qdm o a b = 0
  ·rw [qfw.1 e1]; exact h2
  ·by_cases e2:qdm o b c = 0
   ·rw [<- qfw.1 e2]; exact h1
   ·have:=qj9 (o:=o) (a:=a) (b:=b) (c:=c) (by omega) (by omega)
    omega
 ·rw [Bool.or_eq_true,qjs,qjs,qkv (a:=a) (b:=b)]; omega
theorem qtV {l:List Int} (h:l.Nodup):qmp o l (qap o l):=by
 refine ⟨qhp,?_⟩
 have hn:(qap o l).Nodup:=qhp.nodup_iff.2 h
 refine List.Pairwise.imp₂ (fun a b h1 h2=>?_) q2x hn
 rcases qr5 (o:=o) h2 with h | h
 ·exact h
 ·rw [h] at h1; cases h1
theorem qzN {l m:List Int} (h:qmp o l m) (hn:l.Nodup):m = qap o l:=qvw h (qtV hn)
theorem q0p {l:List Int} {x:Int}:x ∈ qap o l↔x ∈ l:=qhp.mem_iff
theorem qi6 {l:List Int}:(qap o l).length = l.length:=qhp.length_eq
theorem qmU {L:List Int} {n:Nat} {x:Int}:x ∈ qH L n↔0 <= x/\x < n/\x ∈ L:=by
 unfold qH
 rw [List.mem_filter,List.mem_map]
 constructor
 ·rintro ⟨⟨i,hi,rfl⟩,h⟩
  rw [List.mem_range] at hi
  exact ⟨by omega,by omega,of_decide_eq_true h⟩
 ·rintro ⟨h0,h1,h2⟩
  exact ⟨⟨x.toNat,List.mem_range.2 (by omega),by omega⟩,decide_eq_true h2⟩
theorem q2c {L:List Int}:qc7 L = qH L 16:=rfl
theorem qmO {p:Int}:qT (qL o p):=qgn _
theorem qkd {p:Int}:(qL o p).length = 32:=q5U
theorem qi0 {p:Int}:(qB o p).length = 33:=by simp [qB,qkd]
theorem qsT {l:List Int}:qn (l.map (qB o)) = l:=by
 unfold qn
 rw [List.map_map]
 conv=>rhs; rw [<- List.map_id l]
 exact List.map_congr_left fun x _=>rfl
end Go.Proofs

set_option linter.unusedSimpArgs false
set_option linter.unusedVariables false
namespace Go.Proofs
open Go Go.Eng
set_option maxRecDepth 20000
theorem qyT {l:List Bool} {i:Nat}:qaP [l.map Value.bool] i = l.getD i false:=by
 unfold qaP
 rw [List.headD_cons,List.getElem?_map,List.getD_eq_getElem?_getD]
 cases l[i]? <;> rfl
theorem qdp {l:List Bool} {L:List Int} {n:Nat} (h:qeB l L) (hn:L.length <= n):qdy [l.map Value.bool] L n:=by
 refine ⟨⟨_,rfl,by rw [List.length_map]; exact h.1⟩,fun x x0 x1=>?_⟩
 rw [qyT,List.take_of_length_le hn]
 have:=h.2 x.toNat (by omega)
 rwa [Int.toNat_of_nonneg x0] at this
theorem qdS {D:qf}:(qn D).length <= D.length:=by simp [qn]
theorem qfg {d:qf} {L:List Int} {n:Nat} {x:Int} (h:qdy d L n) (hn:L.length <= n) (x0:0 <= x) (x1:x < 16):qaP d x.toNat = true↔x ∈ L:=by
 have:=h.2 x x0 x1
 rwa [List.take_of_length_le hn] at this
theorem qts {d:qf} {L:List Int} {n:Nat} (h:qdy d L n):0 < d.length:=by obtain ⟨⟨row,e,_⟩,_⟩:=h; rw [e]; exact Nat.one_pos
theorem qfa {i:Int} (h0:0 <= i) (h1:i < 1000000000000):qc .add .i64 i 1 = i + 1:=add64 (by omega) (by omega)
theorem qj4 {d:qf} {L:List Int} {n:Nat} {x:Int} (h:qdy d L n) (hn:L.length <= n) (x0:0 <= x) (x1:x < 16) (hf:qaP d x.toNat = false):x ∉ L:=fun hx=>by
 rw [(qfg h hn x0 x1).2 hx] at hf; cases hf
theorem qqK {D:qf} {row:List Value} {v:Value} (hr:row ∈ D∨row = [v]) (h:∀ row,row ∈ D->row.length = 1):row.length = 1:=hr.elim (h row) fun h=>by rw [h]; rfl
theorem qjv {D:qf} {row:List Value} (hr:row ∈ D) (h:∀ row,row ∈ D->row.length = 1):row.length = 1:=h row hr
theorem q72 {b:Bool} {p:Prop} [Decidable p] (h:b = decide p) (hb:b = true):p:=of_decide_eq_true (h ▸ hb)
theorem qyp {b:Bool} {p:Prop} [Decidable p] (h:b = decide p) (hb:b = false):¬ p:=of_decide_eq_false (h ▸ hb)
theorem qoU {L:List Int}:(qc7 L).length <= 16:=by
 rw [q2c]; unfold qH
 exact Nat.le_trans (List.length_filter_le ..) (by simp)
theorem qw2 {o L:List Int} {n:Int}:(qaX o L n).length <= 16:=by
 unfold qaX
 rw [List.length_take,qi6]
 have:=qoU (L:=L)
 omega
theorem qvy {o L:List Int} {n:Int} {D:qf} (h:qn D = qaX o L n):D.length <= 16:=by
 have h1:=congrArg List.length h
 rw [qcL] at h1
 have:=qw2 (o:=o) (L:=L) (n:=n)
 omega
theorem q6s {o L:List Int} {self n x:Int} {D:qf} {held buried:Bool} (hD:qn D = qaX o L n) (hx:x = (D.length:Int)) (hn:1 <= n) (hm:¬ self ∈ qn D) (hh:held = true) (hb:buried = false) (he:x = n):2 = qgD o self L n held buried:=by
 have h1:((qaX o L n).length:Int) = n:=by rw [<- hD,qcL]; omega
 rw [hD] at hm
 unfold qgD
 rw [hh,hb,if_neg (by simp),if_neg (by omega),if_neg hm,if_pos ⟨rfl,h1⟩]
theorem q6K {o L:List Int} {self n x:Int} {D:qf} {held buried:Bool} (hD:qn D = qaX o L n) (hx:x = (D.length:Int)) (hn:1 <= n) (hm:¬ self ∈ qn D) (hh:held = true) (hb:buried = false) (he:¬ x = n):0 = qgD o self L n held buried:=by
 have h1:¬ ((qaX o L n).length:Int) = n:=by rw [<- hD,qcL]; omega
 rw [hD] at hm
 unfold qgD
 rw [hh,hb,if_neg (by simp),if_neg (by omega),if_neg hm,if_neg (fun h=>h1 h.2)]
theorem q5s (hch:qbd.ok Tryz.prog):qfG.ok Tryz.prog:=q5e (by simp [qna,hch]) fun ρ hg hp=>by
 obtain ⟨hO,⟨hl,h1,hr⟩,hGr,hGd⟩:=hp
 simp only [Nat.reduceAdd] at hl h1 hr
 simp (config:={ maxSteps:=4000000 }) [qsD,qfG,qbd,qaH,qs5,qeb,qbS,qaO,gOk,hl,hO,hGr,hGd]
 repeat' (first | with_reducible apply And.intro | with_reducible intro _)
 all_goals first
  | assumption
  | omega
  | exact qjv (by assumption) (by assumption)
  | exact (by have:=qvy (by assumption); omega)
  | (unfold qgD; simp_all [qcL]; done)
  | exact q6s (by assumption) (by assumption) (by assumption) (qyp (by assumption) (by assumption)) (by assumption) (by assumption) (by assumption)
  | exact q6K (by assumption) (by assumption) (by assumption) (qyp (by assumption) (by assumption)) (by assumption) (by assumption) (by assumption)
theorem q2E {n:Int}:(qgt n).length = (min (max n 0) 16).toNat:=by simp [qgt]
theorem qys {i n:Int} (h:min (max i 0) 16 = min (max n 0) 16):qgt i = qgt n:=by unfold qgt; rw [h]
theorem q1P {i:Int} {D:qf} (hD:qn D = qgt i) (h0:0 <= i) (h1:i < 16):qn (D ++ [[.int .i64 i]]) = qgt (qc .add .i64 i 1):=by
 rw [qfa h0 (by omega),qlb,hD]
 unfold qgt
 rw [show (min (max (i + 1) 0) 16).toNat = (min (max i 0) 16).toNat + 1 by omega,List.range_succ,List.map_append]
 congr 1
 show [i] = [(((min (max i 0) 16).toNat:Nat):Int)]
 congr 1; omega
theorem q0A {i:Int} {D:qf} (hD:qn D = qgt i):D.length <= 16:=by
 have h1:=congrArg List.length hD
 rw [qcL,q2E] at h1
 omega
theorem q2N {o:List Int} {i n:Int} {D E:qf} (hE:qn E = qaX o (qn D) 16) (hD:qn D = qgt i) (h:min (max i 0) 16 = min (max n 0) 16):qn E = qjE o n:=by
 rw [hE,hD,qys h]; rfl
theorem qx0 (hch:qbd.ok Tryz.prog):qcf.ok Tryz.prog:=qzs (by simp [hch]) fun ρ hg hp=>by
 obtain ⟨hO,hGr,hGd⟩:=hp
 simp (config:={ maxSteps:=4000000 }) [qkU,qcf,qnO,qbd,qs5,qeb,qbS,qaO,gOk,hO,hGr,hGd]
 repeat' (first | with_reducible apply And.intro | with_reducible intro _)
 all_goals first
  | assumption
  | omega
  | exact qjv (by assumption) (by assumption)
  | exact qqK (by assumption) (by assumption)
  | (rw [qfa (by assumption) (by omega)]; omega)
  | rfl
  | exact (by have:=q0A (by assumption); omega)
  | exact q1P (by assumption) (by assumption) (by omega)
  | exact q2N (by assumption) (by assumption) (by omega)
section
variable {o L:List Int}
theorem qm3 {L:List Int} {n:Nat}:(qH L n).length <= n:=by
 unfold qH
 exact Nat.le_trans (List.length_filter_le ..) (by simp)
theorem q6j {D:qf} {i:Int} (h:D = (qH L i.toNat).map (qB o)) (h1:i <= 16):D.length <= 16:=by
 rw [h,List.length_map]
 have:=qm3 (L:=L) (n:=i.toNat)
 omega
theorem q6p {D v:qf} {i:Int} {l:List Bool} (hD:D = (qH L i.toNat).map (qB o)) (h0:0 <= i) (h1:i < 16) (hb:qeB l L) (hc:qaP [l.map Value.bool] i.toNat = true) (hv:qd v 32 = qL o i) :
  D ++ [Value.int .i64 i :: (qd v 32).map (Value.int .u8)] = (qH L (qc .add .i64 i 1).toNat).map (qB o):=by
 have hm:i ∈ L:=(qfg (qdp hb (Nat.le_refl _)) (Nat.le_refl _) h0 h1).1 hc
 rw [qfa h0 (by omega),show (i + 1).toNat = i.toNat + 1 by omega,qei,Int.toNat_of_nonneg h0,if_pos hm,List.map_append,hD,hv]; rfl
theorem q5i {D:qf} {i:Int} {l:List Bool} (hD:D = (qH L i.toNat).map (qB o)) (h0:0 <= i) (h1:i < 16) (hb:qeB l L) (hc:qaP [l.map Value.bool] i.toNat = false) :
  D = (qH L (qc .add .i64 i 1).toNat).map (qB o):=by
 have hm:¬ i ∈ L:=qj4 (qdp hb (Nat.le_refl _)) (Nat.le_refl _) h0 h1 hc
 rw [qfa h0 (by omega),show (i + 1).toNat = i.toNat + 1 by omega,qei,Int.toNat_of_nonneg h0,if_neg hm,List.append_nil,hD]
theorem qlV {D E:qf} {i:Int} (hO:qT o) (hD:D = (qH L i.toNat).map (qB o)) (h1:i <= 16) (h2:16 <= i) (h:∀ o L:List Int,qT o->D = L.map (qB o)->(∀ x,x ∈ L->0 <= x/\x < 16)->E = (qap o L).map (qB o)):E = (qap o (qc7 L)).map (qB o)/\E.length = D.length:=by
 have hi:i.toNat = 16:=by omega
 rw [hi] at hD
 have hE:=h o (qH L 16) hO hD (fun x hx=>by have:=qmU.1 hx; omega)
 exact ⟨hE,by rw [hE,hD,List.length_map,List.length_map,qi6]⟩
theorem q4u {D:qf} {n:Nat} (hO:qT o) (hD:D = (qH L n).map (qB o)) (hn:n <= 16):∃ o:List Int,qT o/\∃ x:List Int,D = x.map (qB o)/\∀ y:Int,y ∈ x->0 <= y/\y < 16 :=
 ⟨o,hO,_,hD,fun x hx=>by have:=qmU.1 hx; omega⟩
theorem q74 {M:List Int} {D:qf} {i:Int} (hD:D = M.map (qB o)) (h0:0 <= i) (h1:i < M.length):qi D i 0 = M.getD i.toNat 0:=by
 have hl:i.toNat < M.length:=by omega
 subst hD
 rw [List.getD_eq_getElem?_getD,List.getElem?_eq_getElem hl]
 simp [qi,qal,List.getElem?_eq_getElem hl,qB,qQ]
theorem take_add {M:List Int} {D E:qf} {i:Int} (hE:E = M.map (qB o)) (hD:qn D = M.take i.toNat) (h0:0 <= i) (h1:i < M.length) (hb:i < 1000000):qn (D ++ [[.int .i64 (qi E i 0)]]) = M.take (qc .add .i64 i 1).toNat:=by
 rw [qfa h0 (by omega),show (i + 1).toNat = i.toNat + 1 by omega,qik (by omega),qlb,hD,q74 hE h0 h1]
theorem q5P {M:List Int} {D:qf} {i:Nat} (hD:qn D = M.take i):D.length <= i/\D.length <= M.length:=by
 have h1:=congrArg List.length hD
 rw [qcL,List.length_take] at h1
 omega
theorem qyj {o L:List Int}:(qap o (qc7 L)).length <= 16:=by rw [qi6]; exact qoU
theorem q6g {D:qf} {i n:Int} (hD:qn D = (qap o (qc7 L)).take i.toNat) (h:i = min (max n 0) ((qap o (qc7 L)).length:Int)):qn D = qaX o L n:=by
 rw [hD]
 unfold qaX
 by_cases hn:n.toNat <= (qap o (qc7 L)).length
 ·rw [show i.toNat = n.toNat by omega]
 ·rw [List.take_of_length_le (by omega),List.take_of_length_le (by omega)]
end
theorem q1O (hs:qer.ok Tryz.prog):qbd.ok Tryz.prog:=q09 (by simp [hs,q0U,qxa]) fun ρ hg hp=>by
 obtain ⟨hO,⟨hl,h1,hr⟩,hGr,hGd⟩:=hp
 simp only [Nat.reduceAdd] at hl h1 hr
 simp (config:={ maxSteps:=4000000 }) [qnu,qbd,qqy,qq8,qdP,qdH,qer,qs5,qeb,qbS,qaO,gOk,hl,hO,hGr,hGd]
 have hsl:=qyj (o:=qd (ρ 0).d 32) (L:=qn (ρ 4).d)
 repeat' (first | with_reducible apply And.intro | with_reducible intro _)
 all_goals first
  | assumption
  | omega
  | exact qjv (by assumption) (by assumption)
  | exact qqK (by assumption) (by assumption)
  | (rw [qfa (by assumption) (by omega)]; omega)
  | rfl
  | exact (by have:=q6j (by assumption) (by omega); omega)
  | exact q6p (l:=[_,_,_,_,_,_,_,_,_,_,_,_,_,_,_,_]) (by assumption) (by assumption) (by assumption) (by assumption) (by assumption) (by assumption)
  | exact q5i (l:=[_,_,_,_,_,_,_,_,_,_,_,_,_,_,_,_]) (by assumption) (by assumption) (by assumption) (by assumption) (by assumption)
  | exact q4u hO (by assumption) (by omega)
  | exact (qlV hO (by assumption) (by assumption) (by assumption) (by assumption)).1
  | (have h:=qlV hO (by assumption) (by assumption) (by assumption) (by assumption); have h2:=congrArg List.length h.1; rw [List.length_map] at h2; have h3:=h.2; split <;> split <;> omega)
  | (have h:=qlV hO (by assumption) (by assumption) (by assumption) (by assumption); have h2:=congrArg List.length h.1; rw [List.length_map] at h2; have h3:=h.2; split <;> omega)
  | exact take_add (by assumption) (by assumption) (by assumption) (by omega) (by omega)
  | exact q6g (by assumption) (by omega)
  | (have h2:=q5P (by assumption); omega)
section
variable {o L:List Int} {D E:qf} {n m k b i:Int}
end
end Go.Proofs

set_option linter.unusedSimpArgs false
set_option linter.unusedVariables false
set_option maxRecDepth 100000
namespace Go.Proofs
open Go Go.Eng

def qxH:Out:=(.fresh 10 (.pre 0 (sg 0 [bv 4 7,bv 3 6,bv 2 5,bv 1 4,bg 0 3]) (.both (.fresh 11 (.fresh 12 (.fresh 13 (.fresh 14 (.fresh 15 (.fresh 16 (.fresh 17 (.fresh 18 (.fresh 19 (.fresh 20 (.fresh 21 (.fresh 22 (.fresh 23 (.fresh 24 (.fresh 25 (.fresh 26 (.post 0 0 (sg 0 [bv 4 7,bv 3 6,bv 2 5,bv 1 4,bg 0 3]) 11 (.inv 0 27 (sg 1000 [bt 1001 (.lit 0),bt 1002 (.lit 0),bg 1000 10]) (.fresh 27 (.fresh 28 (.fresh 29 (.hyp 0 27 (.br (.cmp .lss (.var 28) (.lit 16))
 (.need (.cmp .leq (.lit 0) (.var 28)) (.br (.c2 (.xbool 0) (.rcons (.vbool (.var 11)) (.rcons (.vbool (.var 12)) (.rcons (.vbool (.var 13)) (.rcons (.vbool (.var 14)) (.rcons (.vbool (.var 15)) (.rcons (.vbool (.var 16)) (.rcons (.vbool (.var 17)) (.rcons (.vbool (.var 18)) (.rcons (.vbool (.var 19)) (.rcons (.vbool (.var 20)) (.rcons (.vbool (.var 21)) (.rcons (.vbool (.var 22)) (.rcons (.vbool (.var 23)) (.rcons (.vbool (.var 24)) (.rcons (.vbool (.var 25)) (.rcons (.vbool (.var 26)) .rnil)))))))))))))))) (.var 28))
 (.pre 1 (sg 0 [bv 4 9,bv 2 1,bv 1 28,bt 0 (r8 0),bg 3 8]) (.both (.fresh 30 (.post 1 0 (sg 0 [bv 4 9,bv 2 1,bv 1 28,bt 0 (r8 0),bg 3 8]) 30 (.br (.var 30)
 (.back 0 27 (sg 1000 [bt 1001 (.arith .add .i64 (.var 28) (.lit 1)),bt 1002 (.arith .add .i64 (.var 29) (.lit 1)),bg 1000 27]))
 (.back 0 27 (sg 1000 [bt 1001 (.arith .add .i64 (.var 28) (.lit 1)),bv 1002 29,bg 1000 27]))))) .top))
 (.back 0 27 (sg 1000 [bt 1001 (.arith .add .i64 (.var 28) (.lit 1)),bv 1002 29,bg 1000 27]))))
 (.br (.cmp .geq (.var 2) (.lit 1))
 (.ret 0 (sg 10 [bt 10 (.cmp .geq (.var 29) (.var 2))]))
 (.ret 0 (sg 10 [bt 10 (.bl false)])))))))))))))))))))))))))) .top)))
end Go.Proofs

set_option linter.unusedSimpArgs false
set_option linter.unusedVariables false
namespace Go.Proofs
open Go Go.Eng
set_option maxRecDepth 20000
section
variable {o L:List Int} {i c s:Int} {l:List Bool}
def qgj (o:List Int) (s:Int) (l:List Int):Int:=((l.filter fun i=>qN o i s).length:Int)
theorem q4q {l:List Int}:0 <= qgj o s l/\qgj o s l <= l.length:=⟨by unfold qgj; omega,by unfold qgj; have:=List.length_filter_le (fun i=>qN o i s) l; omega⟩
theorem qr9 {l:List Int} {x:Int}:qgj o s (l ++ [x]) = qgj o s l + (if qN o x s = true then 1 else 0):=by
 unfold qgj
 rw [List.filter_append,List.length_append]
 by_cases h:qN o x s = true
 ·rw [if_pos h]; simp [h]
 ·rw [if_neg h]; simp [h]
theorem qxs {n:Nat}:0 <= qgj o s (qH L n)/\qgj o s (qH L n) <= n:=by
 have h:=q4q (o:=o) (s:=s) (l:=qH L n)
 have:=qm3 (L:=L) (n:=n)
 omega
theorem q7H {x:Bool} (hc:c = ((qH L i.toNat).filter fun i=>qN o i s).length) (h0:0 <= i) (h1:i < 16) (hb:qeB l L) (hx:qaP [l.map Value.bool] i.toNat = true) (hu:x = qN o i s) (ht:x = true):qc .add .i64 c 1 = ((qH L (qc .add .i64 i 1).toNat).filter fun i=>qN o i s).length:=by
 have hm:i ∈ L:=(qfg (qdp hb (Nat.le_refl _)) (Nat.le_refl _) h0 h1).1 hx
 have h2:=qxs (o:=o) (s:=s) (L:=L) (n:=i.toNat)
 change c = qgj o s (qH L i.toNat) at hc
 show _ = qgj o s _
 rw [qfa h0 (by omega),qfa (by omega) (by omega),show (i + 1).toNat = i.toNat + 1 by omega,qei,Int.toNat_of_nonneg h0,if_pos hm,qr9,if_pos (hu ▸ ht),hc]
theorem q70 {x:Bool} (hc:c = ((qH L i.toNat).filter fun i=>qN o i s).length) (h0:0 <= i) (h1:i < 16) (hb:qeB l L) (hx:qaP [l.map Value.bool] i.toNat = true) (hu:x = qN o i s) (ht:x = false):c = ((qH L (qc .add .i64 i 1).toNat).filter fun i=>qN o i s).length:=by
 have hm:i ∈ L:=(qfg (qdp hb (Nat.le_refl _)) (Nat.le_refl _) h0 h1).1 hx
 have h2:=qxs (o:=o) (s:=s) (L:=L) (n:=i.toNat)
 change c = qgj o s (qH L i.toNat) at hc
 show _ = qgj o s _
 rw [qfa h0 (by omega),show (i + 1).toNat = i.toNat + 1 by omega,qei,Int.toNat_of_nonneg h0,if_pos hm,qr9,if_neg (by rw [<- hu,ht]; simp),hc,Int.add_zero]
theorem q7A (hc:c = ((qH L i.toNat).filter fun i=>qN o i s).length) (h0:0 <= i) (h1:i < 16) (hb:qeB l L) (hx:qaP [l.map Value.bool] i.toNat = false):c = ((qH L (qc .add .i64 i 1).toNat).filter fun i=>qN o i s).length:=by
 have hm:¬ i ∈ L:=qj4 (qdp hb (Nat.le_refl _)) (Nat.le_refl _) h0 h1 hx
 rw [qfa h0 (by omega),show (i + 1).toNat = i.toNat + 1 by omega,qei,Int.toNat_of_nonneg h0,if_neg hm,List.append_nil,hc]
theorem q4T {n:Int} (hc:c = ((qH L i.toNat).filter fun i=>qN o i s).length) (h0:i <= 16) (h1:16 <= i) (hn:1 <= n):decide (c ≥ n) = qlU o s n L:=by
 rw [show i.toNat = 16 by omega] at hc
 unfold qlU
 rw [decide_eq_true hn,Bool.true_and,hc]; rfl
theorem quX {n:Int} (hn:n < 1):false = qlU o s n L:=by
 unfold qlU
 rw [decide_eq_false (by omega),Bool.false_and]
end
end Go.Proofs

set_option linter.unusedSimpArgs false
set_option linter.unusedVariables false
namespace Go.Eng
open Go Go.Proofs
def qmj (ρ:Env) (r:Nat):Prop:=0 <= (ρ (r + 1)).i/\(ρ (r + 1)).i <= (ρ (r + 3)).d.length/\(ρ (r + 1)).i <= 1000000000000/\∀ row ∈ (ρ (r + 3)).d,row.length = 1
def qgC:Ctr:={ qdP with pre:=fun ρ=>qmj ρ 0,alts:=[
 { k:=16,ret:=b16 5,heap:=[],post:=fun ρ=>qeB [(ρ 5).b,(ρ 6).b,(ρ 7).b,(ρ 8).b,(ρ 9).b,(ρ 10).b,(ρ 11).b,(ρ 12).b,(ρ 13).b,(ρ 14).b,(ρ 15).b,(ρ 16).b,(ρ 17).b,(ρ 18).b,(ρ 19).b,(ρ 20).b] ((qn (ρ 3).d).take (ρ 1).i.toNat) }] }
def qfL:Ctr:={ q4l with pre:=fun ρ=>qT (qd (ρ 0).d 32)/\qmj ρ 3/\gOk ρ 8 9 gR,alts:=[{ k:=1,ret:=.one (.vbool (.var 10)),heap:=[],post:=fun ρ=>(ρ 10).b = qlU (qd (ρ 0).d 32) (ρ 1).i (ρ 2).i ((qn (ρ 6).d).take (ρ 4).i.toNat) }] }
def qz9:Inv:={ q6x with inv:=(fun ρ=>0 <= (ρ 1001).i/\(ρ 1001).i <= 16/\(ρ 1002).i = (((qH ((qn (ρ 6).d).take (ρ 4).i.toNat) (ρ 1001).i.toNat).filter fun i=>qN (qd (ρ 0).d 32) i (ρ 1).i).length:Int)) }
end Go.Eng
namespace Go.Proofs
open Go Go.Eng
set_option maxRecDepth 100000
theorem q1p:ql ⟨Tryz.prog,qgC,[qct],[qqk]⟩ 100000 Tryz.f82 = qmh:=by kernel_rfl
theorem q5B (hd:∀ c ∈ ([qct]:List Ctr),c.ok Tryz.prog) (h:∀ ρ:Env,ρ.good->(qgC).pre ρ->qmh.den ⟨Tryz.prog,qgC,[qct],[qqk]⟩ ρ):(qgC).ok Tryz.prog :=
 qe Tryz.func82 (fun a w=>Tryz.call82 a w) hd 100000 (fun ρ hg hp=>by rw [q1p]; exact h ρ hg hp)
theorem q1Z:ql ⟨Tryz.prog,qfL,[qgC,qaJ],[qz9]⟩ 100000 Tryz.f37 = qxH:=by kernel_rfl
theorem q5C (hd:∀ c ∈ ([qgC,qaJ]:List Ctr),c.ok Tryz.prog) (h:∀ ρ:Env,ρ.good->(qfL).pre ρ->qxH.den ⟨Tryz.prog,qfL,[qgC,qaJ],[qz9]⟩ ρ):(qfL).ok Tryz.prog :=
 qe Tryz.func37 (fun a w=>Tryz.call37 a w) hd 100000 (fun ρ hg hp=>by rw [q1Z]; exact h ρ hg hp)
theorem q6c:qgC.ok Tryz.prog:=q5B (by simp [qq4]) fun ρ hg hp=>by
 obtain ⟨h0,hl,h1,hr⟩:=hp
 simp only [Nat.reduceAdd] at h0 hl h1 hr
 simp (config:={ maxSteps:=4000000 }) [qmh,qgC,qdP,qqk,qct,h0]
 have hil:(qn (ρ 3).d).length = (ρ 3).d.length:=by simp [qn]
 refine ⟨qmE,fun s _ i _ i0 i1 hs=>⟨fun hi=>⟨i0,by omega,fun u _ hu=>⟨fun ht=>?_,fun hf=>?_⟩⟩,fun hi=>?_⟩⟩
 ·have hp:0 <= qi (ρ 3).d i.i 0/\qi (ρ 3).d i.i 0 < 16:=by rw [hu] at ht; exact of_decide_eq_true ht
  have hsl:0 < s.d.length:=by obtain ⟨⟨row,e,_⟩,_⟩:=hs; rw [e]; exact Nat.one_pos
  rw [add64 (x:=i.i) (by omega) (by omega)]
  refine ⟨hp.1,hp.2,hsl,⟨by omega,by omega,?_⟩,by omega⟩
  rw [show (i.i + 1).toNat = i.i.toNat + 1 by omega]
  exact qmS hs (by omega) (qeu i0 (by omega)) hp.1 hp.2
 ·have hp:¬ (0 <= qi (ρ 3).d i.i 0/\qi (ρ 3).d i.i 0 < 16):=by rw [hu] at hf; exact of_decide_eq_false hf
  rw [add64 (x:=i.i) (by omega) (by omega)]
  refine ⟨⟨by omega,by omega,?_⟩,by omega⟩
  rw [show (i.i + 1).toNat = i.i.toNat + 1 by omega]
  exact qmF hs (by omega) (qeu i0 (by omega)) hp
 ·obtain ⟨⟨row,hs1,hrl⟩,hs2⟩:=hs
  rw [show i.i.toNat = (ρ 1).i.toNat by omega] at hs2
  rw [hs1] at hs2 ⊢
  match row,hrl with
  | [a0,a1,a2,a3,a4,a5,a6,a7,a8,a9,a10,a11,a12,a13,a14,a15],_ =>
   refine ⟨by simp,?_⟩
   have key:qeB ((List.range 16).map (qaP [[a0,a1,a2,a3,a4,a5,a6,a7,a8,a9,a10,a11,a12,a13,a14,a15]])) ((qn (ρ 3).d).take (ρ 1).i.toNat):=⟨by simp,fun j hj=>by
    rw [List.getD_eq_getElem?_getD,List.getElem?_map,List.getElem?_range hj]
    exact hs2 j (by omega) (by omega)⟩
   exact key
theorem q5H:qfL.ok Tryz.prog:=q5C (by simp [q6c,qkG]) fun ρ hg hp=>by
 obtain ⟨hO,⟨h0,hl,h1,hr⟩,hGr,hGd⟩:=hp
 simp only [Nat.reduceAdd] at h0 hl h1 hr
 simp (config:={ maxSteps:=4000000 }) [qxH,qfL,q4l,qz9,q6x,qgC,qdP,qaJ,qeb,qmj,gOk,h0,hl,hO,hGr,hGd]
 repeat' (first | with_reducible apply And.intro | with_reducible intro _)
 all_goals first
  | assumption
  | omega
  | rfl
  | exact qjv (by assumption) (by assumption)
  | (rw [qfa (by assumption) (by omega)]; omega)
  | exact q7H (l:=[_,_,_,_,_,_,_,_,_,_,_,_,_,_,_,_]) (by assumption) (by assumption) (by assumption) (by assumption) (by assumption) (by assumption) (by assumption)
  | exact q70 (l:=[_,_,_,_,_,_,_,_,_,_,_,_,_,_,_,_]) (by assumption) (by assumption) (by assumption) (by assumption) (by assumption) (by assumption) (by assumption)
  | exact q7A (l:=[_,_,_,_,_,_,_,_,_,_,_,_,_,_,_,_]) (by assumption) (by assumption) (by assumption) (by assumption) (by assumption)
  | exact q4T (by assumption) (by assumption) (by assumption) (by assumption)
  | exact quX (by assumption)
  | exact (quX (by assumption)).symm
end Go.Proofs

set_option linter.unusedSimpArgs false
set_option linter.unusedVariables false
namespace Go.Eng
open Go Go.Proofs
def qda:Ctr:={ fn := 31,nv:=2,ow:=[1003,200096],ip:=[gIp 0,(1127,8),(58,2),(1001,9),(1002,9)],args:=[],heap:=[],ro:=[gHp 0 1],pre:=fun ρ=>gOk ρ 0 1 gR,alts:=[qmv] }
def qq2:Inv:={ key:=1000012,nv:=19,env:=[(4,.one (.vptr 1010 (.lit 0) 37 0)),(5,.one (.vslice 1015 (.lit 0) (.lit 1) (.var 1016) 2)),(6,.one (.vint .i64 (.lit 0))),(9,gaP 1000)],heap:=qs0 1000 20 ++ [.cells 1010 27 ([.vint .i64 (.lit 1),.vint .i64 (.lit 1),.vint .i64 (.lit 1),.vint .i64 (.lit 1)] ++ (qaY .u8 1011 32 ++ [.vslice 1012 (.lit 0) (.lit 1) (.var 1013) 32])),qfD 1012 1014 1013,q3X 1015 1017 1016,.abs 1018 10],inv:=(fun ρ=>gaB ρ 1000 none []/\qT (qd (ρ 1011).d 32)/\qfA (ρ 1014).d/\(ρ 1014).d.length = 1/\(ρ 1017).d.length = 1/\qqY (ρ 1018).h (ρ 1017).d 1/\pcI (ρ 1017).d 0 = 0/\qcm 1 1 1 1 1 (dgs (ρ 1014).d) 0 (pcD (ρ 1018).h (ρ 1017).d 0) = 0/\qd (ρ 1001).d 32 = sha (qaF 1 1 1 1 (qd (ρ 1011).d 32) ++ (dgs (ρ 1014).d).flatten)),mu:=fun _=>0 }
end Go.Eng

set_option linter.unusedSimpArgs false
set_option linter.unusedVariables false
namespace Go.Eng
open Go Go.Proofs
end Go.Eng

set_option linter.unusedSimpArgs false
set_option linter.unusedVariables false
namespace Go.Eng
open Go Go.Proofs
end Go.Eng

set_option linter.unusedSimpArgs false
set_option linter.unusedVariables false
namespace Go.Eng
open Go Go.Proofs
def qcA (cl:Cl) (clock:Int):Cl:=fun o i=>match cl o i with
 | some t=>if qcI t clock then some t else none
 | none=>none
def qej (cl:Cl) (o:List Int):List Int:=((List.range 16).map Int.ofNat).filter fun i=>(cl o i).isSome
def qdN (x:Int):List Value:=[.int .i64 x]
def qc5 (l:List Int):List Int:=l.mergeSort fun x y=>decide (x <= y)
def isS (r l c:Nat):SV:=.one (.vslice r (.lit 0) (.var l) (.var c) 1)
def qdz:Ctr:={ fn := 103,nv:=4,args:=[isS 0 1 2],heap:=[iHp 0 3 2],ro:=[],pre:=fun ρ=>(ρ 1).i <= 1000000/\∃ L:List Int,qaO (ρ 3).d (ρ 1).i L/\(∀ x ∈ L,0 <= x/\x < 16),alts:=[
 { k:=1,ret:=.tup [],heap:=[iHp 0 4 2],post:=fun ρ=>∀ L,qaO (ρ 3).d (ρ 1).i L->qaO (ρ 4).d (ρ 1).i (qc5 L) }] }
def qlX (h:Hp) (it:Value) (b c:Nat) (seen:List Nat):Prop:=∃ bi,it = .pointer (some ⟨bi,0,none⟩)/\h bi = some (.mapIter (some b) c seen.toArray c)
def ctI (h0 h:Hp) (v it:Value) (o:List Int) (L:List Int):Prop:=∀ cl,qh h0 v cl->qh h v cl/\∃ m seen,q07 h it m seen/\(∀ i,cl o i = qbf m i)/\(m = []->L = [])/\L.Perm ((m.filter fun e=>seen.contains e.born).map fun e=>e.k.headD 0)
def qb9:Ctr:={ fn := 66,nv:=4,ip:=[(5016, 181)],args:=[clP 0,dgV 1],heap:=[qgv 0 2,.abs 3 1003],ro:=[],pre:=fun ρ=>∃ cl,qh (ρ 3).h (ρ 2).v cl,alts:=[
 { k:=5,ret:=isS 4 5 6,heap:=[qgv 0 2,iHp 4 7 6,.abs 8 1003],post:=fun ρ=>∀ cl,qh (ρ 3).h (ρ 2).v cl->qh (ρ 8).h (ρ 2).v cl/\qaO (ρ 7).d (ρ 5).i (qej cl (qd (ρ 1).d 32)) }] }
def qjB:Inv:={ key:=5,nv:=6,env:=[(5,isS 1000 1001 1002),(16,.one (.var 1004))],heap:=[iHp 1000 1003 1002,qgv 0 2,.abs 1005 1003],inv:=(fun ρ=>(ρ 1001).i = (ρ 1003).d.length/\(∀ row ∈ (ρ 1003).d,row.length = 1)/\ctI (ρ 3).h (ρ 1005).h (ρ 2).v (ρ 1004).v (qd (ρ 1).d 32) (qn (ρ 1003).d)),mu:=(fun ρ=>qbo (ρ 1005).h (ρ 1004).v) }
structure SwO (cl:Cl) (h:Hp) (v it:Value) (clock:Int) (b:Nat) (l:List ME) (c:Nat) (seen:List Nat) (cl1:Cl):Prop where
 hv:v = .map (some b)
 hi:qlX h it b c seen
 hm:qV h b mtO l c
 hc:qh h v cl1
 h1:∀ o,(∀ x ∈ l,x.k = o->x.born ∈ seen)->∀ i,cl1 o i = qcA cl clock o i
 h2:∀ x ∈ l,x.born ∉ seen->∀ i,cl1 x.k i = cl x.k i
def swO (h0 h:Hp) (v it:Value) (clock:Int):Prop:=∀ cl,qh h0 v cl->∃ b l c seen cl1,SwO cl h v it clock b l c seen cl1
structure SwI (cl:Cl) (h:Hp) (v it mv it2:Value) (kd:List Int) (clock:Int) (b:Nat) (l:List ME) (c:Nat) (seen:List Nat) (cl1:Cl) (e:ME) (b':Nat) (m:List ME) (c':Nat) (seen2:List Nat):Prop where
 hv:v = .map (some b)
 hi:qlX h it b c seen
 hm:qV h b mtO l c
 hc:qh h v cl1
 he:e ∈ l
 hk:e.k = kd
 hs:e.born ∈ seen
 hev:e.v = [.map (some b')]
 hmv:mv = .map (some b')
 hi2:qlX h it2 b' c' seen2
 hm2:qV h b' mtI m c'
 hne:it ≠ it2
 h1:∀ o,o ≠ kd->(∀ x ∈ l,x.k = o->x.born ∈ seen)->∀ i,cl1 o i = qcA cl clock o i
 h2:∀ x ∈ l,x.born ∉ seen->∀ i,cl1 x.k i = cl x.k i
 h3:∀ i,(∀ y ∈ m,y.k = [i]->y.born ∈ seen2)->cl1 kd i = qcA cl clock kd i
 h4:∀ y ∈ m,y.born ∉ seen2->∀ i,y.k = [i]->cl1 kd i = cl kd i
def swI (h0 h:Hp) (v it mv it2:Value) (kd:List Int) (clock:Int):Prop:=∀ cl,qh h0 v cl->∃ b l c seen cl1 e b' m c' seen2,SwI cl h v it mv it2 kd clock b l c seen cl1 e b' m c' seen2
def qeI:Ctr:={ fn := 64,nv:=4,ip:=[(5014, 177),(5021, 181),(1001,9),(1002,9)],args:=[clP 0,iv .u64 (.var 1)],heap:=[qgv 0 2,.abs 3 1003],ro:=[],pre:=fun ρ=>(∃ cl,qh (ρ 3).h (ρ 2).v cl)/\0 <= (ρ 1).i/\(ρ 1).i < 18446744073709551616,alts:=[
 { k:=1,ret:=.tup [],heap:=[qgv 0 2,.abs 4 1003],post:=fun ρ=>∀ cl,qh (ρ 3).h (ρ 2).v cl->qh (ρ 4).h (ρ 2).v (qcA cl (ρ 1).i) }] }
def qum:Inv:={ key:=2,nv:=2,env:=[(0,clP 0),(1,iv .u64 (.var 1)),(14,.one (.var 1000))],heap:=[qgv 0 2,.abs 1001 1003],inv:=(fun ρ=>swO (ρ 3).h (ρ 1001).h (ρ 2).v (ρ 1000).v (ρ 1).i),mu:=(fun ρ=>qbo (ρ 1001).h (ρ 1000).v) }
def qvf:Inv:={ key:=5,nv:=6,env:=[(0,clP 0),(1,iv .u64 (.var 1)),(14,.one (.var 1002)),(4,qzb 1000),(5,.one (.var 1003)),(21,.one (.var 1004))],heap:=[qgv 0 2,qzR 1000 1001,.abs 1005 1003],inv:=(fun ρ=>swI (ρ 3).h (ρ 1005).h (ρ 2).v (ρ 1002).v (ρ 1003).v (ρ 1004).v (qd (ρ 1001).d 32) (ρ 1).i/\qbo (ρ 1005).h (ρ 1002).v < qbo (ρ 8).h (ρ 7).v),mu:=(fun ρ=>qbo (ρ 1005).h (ρ 1004).v) }
end Go.Eng

set_option linter.unusedSimpArgs false
set_option linter.unusedVariables false
namespace Go.Eng
open Go Go.Proofs
def qoG:SV:=.agg (qaY .u8 0 32 ++ [.vint .i64 (.var 1),.vint .i64 (.var 2),.vint .u64 (.var 3),.vint .u64 (.var 4)])
def qbX:Ctr:={ fn := 14,nv:=7,ip:=[gIp 5,(1001,9),(1002,9)],args:=[qoG],heap:=[],ro:=[gHp 5 6],pre:=fun ρ=>qT (qd (ρ 0).d 32)/\0 <= (ρ 3).i/\0 <= (ρ 4).i/\(ρ 4).i < 18446744073709551616/\gOk ρ 5 6 gR,alts:=[qmv] }
end Go.Eng

set_option linter.unusedSimpArgs false
set_option linter.unusedVariables false
set_option maxRecDepth 100000
namespace Go.Proofs
open Go Go.Eng

end Go.Proofs

set_option linter.unusedSimpArgs false
set_option linter.unusedVariables false
namespace Go.Proofs
open Go Go.Eng
set_option maxRecDepth 100000
end Go.Proofs

set_option linter.unusedSimpArgs false
set_option linter.unusedVariables false
namespace Go.Eng
open Go Go.Proofs
end Go.Eng

set_option linter.unusedSimpArgs false
set_option linter.unusedVariables false
set_option maxRecDepth 100000
namespace Go.Proofs
open Go Go.Eng

end Go.Proofs

set_option linter.unusedSimpArgs false
set_option linter.unusedVariables false
namespace Go.Proofs
open Go Go.Eng
set_option maxRecDepth 20000
set_option maxRecDepth 100000
end Go.Proofs

set_option linter.unusedSimpArgs false
set_option linter.unusedVariables false
namespace Go.Proofs
open Go Go.Eng
end Go.Proofs

set_option linter.unusedSimpArgs false
set_option linter.unusedVariables false
namespace Go.Proofs
open Go Go.Eng Go.RowKit Go.Lib Go.Sort
theorem q6l {α:Type} {l:List α} (h:l.length = 32):∃ a0 a1 a2 a3 a4 a5 a6 a7 a8 a9 a10 a11 a12 a13 a14 a15 a16 a17 a18 a19 a20 a21 a22 a23 a24 a25 a26 a27 a28 a29 a30 a31,l = [a0,a1,a2,a3,a4,a5,a6,a7,a8,a9,a10,a11,a12,a13,a14,a15,a16,a17,a18,a19,a20,a21,a22,a23,a24,a25,a26,a27,a28,a29,a30,a31]:=by
 match l,h with
 | [a0,a1,a2,a3,a4,a5,a6,a7,a8,a9,a10,a11,a12,a13,a14,a15,a16,a17,a18,a19,a20,a21,a22,a23,a24,a25,a26,a27,a28,a29,a30,a31],_=>exact ⟨_,_,_,_,_,_,_,_,_,_,_,_,_,_,_,_,_,_,_,_,_,_,_,_,_,_,_,_,_,_,_,_,rfl⟩
def qnT (W:World) (p q:Int) (xs ys:List Int):World:=(W.alloc (Obj.cells (Value.int .i64 p :: xs.map (Value.int .u8)).toArray 153)).alloc (Obj.cells (Value.int .i64 q :: ys.map (Value.int .u8)).toArray 153)
theorem qxr {W:World} {p q:Int} {xs ys:List Int}:(qnT W p q xs ys).heap[W.heap.size]? = some (Obj.cells (Value.int .i64 p :: xs.map (Value.int .u8)).toArray 153):=by
 simp only [qnT,World.alloc]
 rw [Array.getElem?_push,if_neg (by simp),Array.getElem?_push,if_pos rfl]
theorem qxb {W:World} {p q:Int} {xs ys:List Int}:(qnT W p q xs ys).heap[W.heap.size + 1]? = some (Obj.cells (Value.int .i64 q :: ys.map (Value.int .u8)).toArray 153):=by
 simp only [qnT,World.alloc]
 rw [Array.getElem?_push,if_pos (by simp)]
theorem q1J {W:World} {b:Nat} {p:Int} {xs:List Int} {ty:TypeId} (h:W.heap[b]? = some (Obj.cells (Value.int .i64 p :: xs.map (Value.int .u8)).toArray ty)) (n j:Nat) (x:Int) (hx:xs[j]? = some x):(W.drewN n).cell? ((⟨b,1,none⟩:Addr).add j) = some (.int .u8 x):=by
 have e:((⟨b,1,none⟩:Addr).add j) = ⟨b,1 + j,none⟩:=by
  unfold Addr.add
  by_cases hj0:j = 0
  ·subst hj0; simp
  ·simp [hj0]
 have h':(W.drewN n).heap[b]? = some (Obj.cells (Value.int .i64 p :: xs.map (Value.int .u8)).toArray ty):=h
 rw [e]
 simp only [World.cell?,h']
 rw [show 1 + j = j + 1 by omega]
 simp [hx]
theorem qvo {W:World} {b:Nat} {p:Int} {xs:List Int} {ty:TypeId} (h:W.heap[b]? = some (Obj.cells (Value.int .i64 p :: xs.map (Value.int .u8)).toArray ty)) (n:Nat):(W.drewN n).cell? ⟨b,0,none⟩ = some (.int .i64 p):=by
 have h':(W.drewN n).heap[b]? = some (Obj.cells (Value.int .i64 p :: xs.map (Value.int .u8)).toArray ty):=h
 simp only [World.cell?,h']
 simp
set_option maxHeartbeats 2000000 in
set_option maxRecDepth 100000 in
theorem q0T (p q:Int) (xs ys:List Int) (hx:xs.length = 32) (hy:ys.length = 32) (W:World) :
  Calls Tryz.prog 81 #[.agg (Value.int .i64 p :: xs.map (Value.int .u8)).toArray,.agg (Value.int .i64 q :: ys.map (Value.int .u8)).toArray] W fun e w' =>
   e = .returned (.int .i64 (if compareBytes (Lib.bytesOf xs) (Lib.bytesOf ys) = 0 then RowKit.wrap64 (p - q) else compareBytes (Lib.bytesOf xs) (Lib.bytesOf ys)))/\∃ n os',w' = grow (W.drewN n) os':=by
 have hc:=fun (a b:Addr) (w:World) h1 h2=>qoa a b xs ys 32 32 w h1 h2
 rw [hx,hy] at hc
 have c1:=q1J (qxr (W:=W) (p:=p) (q:=q) (xs:=xs) (ys:=ys))
 have c2:=q1J (qxb (W:=W) (p:=p) (q:=q) (xs:=xs) (ys:=ys))
 have c3:=qvo (qxr (W:=W) (p:=p) (q:=q) (xs:=xs) (ys:=ys))
 have c4:=qvo (qxb (W:=W) (p:=p) (q:=q) (xs:=xs) (ys:=ys))
 have hg:∀ n,∃ m os',(qnT W p q xs ys).drewN n = grow (W.drewN m) os':=fun n=>⟨n,_,by rw [qnT,alloc_eq_grow,alloc_eq_grow,grow_grow]; rfl⟩
 unfold qnT at c1 c2 c3 c4 hg
 generalize compareBytes (Lib.bytesOf xs) (Lib.bytesOf ys) = r at hc ⊢
 go_enter Tryz.func81,Tryz.ntmps81
 go_wp2
 go_quiet ((go_at_call 118; refine Calls.quiet_of_same (hc _ _ _ ?_ ?_); exact c1 _; exact c2 _))
 go_wp2
 all_goals go_ret
 all_goals refine ⟨?_,hg nq⟩
 all_goals simp_all
end Go.Proofs

namespace Go.Proofs
open Go Go.Shelf Go.RowKit Go.Lib Go.Sort
def qwm:Go.Shelf.Ren:=⟨fun | 6=>83 | 15=>120 | 14=>119 | 28=>148 | 29=>149 | 20=>140 | 21=>141 | 22=>142 | 23=>143 | 24=>144 | 25=>145 | 26=>146 | 27=>147 | 46=>172 | 47=>173 | 48=>174 | 49=>175 | 50=>176 | 57=>186 | n=>n,fun | 22=>156 | 24=>153 | 25=>155 | 3=>3 | 39=>187 | 0=>0 | 53=>131 | 55=>113 | 4=>4 | 46=>234 | 45=>233 | 50=>238 | 5=>5 | 9=>9 | 66=>258 | 70=>262 | 76=>271 | 77=>272 | n=>n,fun | n=>n⟩
theorem qwW:SlLaysF0.n6 Tryz.prog qwm:={
 mixed:=by kernel_rfl
 f6:=⟨Tryz.f83.name,by decide,Tryz.func83.trans (congrArg some (by kernel_rfl))⟩
 f14:=⟨Tryz.f119.name,by decide,Tryz.func119.trans (congrArg some (by kernel_rfl))⟩
 f15:=Tryz.func120.trans (congrArg some (by kernel_rfl))
 f20:=⟨Tryz.f140.name,by decide,Tryz.func140.trans (congrArg some (by kernel_rfl))⟩
 f21:=⟨Tryz.f141.name,by decide,Tryz.func141.trans (congrArg some (by kernel_rfl))⟩
 f22:=⟨Tryz.f142.name,by decide,Tryz.func142.trans (congrArg some (by kernel_rfl))⟩
 f23:=⟨Tryz.f143.name,by decide,Tryz.func143.trans (congrArg some (by kernel_rfl))⟩
 f24:=⟨Tryz.f144.name,by decide,Tryz.func144.trans (congrArg some (by kernel_rfl))⟩
 f25:=⟨Tryz.f145.name,by decide,Tryz.func145.trans (congrArg some (by kernel_rfl))⟩
 f26:=⟨Tryz.f146.name,by decide,Tryz.func146.trans (congrArg some (by kernel_rfl))⟩
 f27:=⟨Tryz.f147.name,by decide,Tryz.func147.trans (congrArg some (by kernel_rfl))⟩
 f28:=Tryz.func148.trans (congrArg some (by kernel_rfl))
 f29:=Tryz.func149.trans (congrArg some (by kernel_rfl))
 f46:=⟨Tryz.f172.name,by decide,Tryz.func172.trans (congrArg some (by kernel_rfl))⟩
 f47:=Tryz.func173.trans (congrArg some (by kernel_rfl))
 f48:=Tryz.func174.trans (congrArg some (by kernel_rfl))
 f49:=⟨Tryz.f175.name,by decide,Tryz.func175.trans (congrArg some (by kernel_rfl))⟩
 f50:=⟨Tryz.f176.name,by decide,Tryz.func176.trans (congrArg some (by kernel_rfl))⟩
 f57:=⟨Tryz.f186.name,by decide,Tryz.func186.trans (congrArg some (by kernel_rfl))⟩
 t0:=Tryz.underlying0
 a0:=Tryz.isAgg0
 z0:=Tryz.sizeOf0
 v0:=Tryz.zeroValue0
 t3:=Tryz.underlying3
 a3:=Tryz.isAgg3
 z3:=Tryz.sizeOf3
 v3:=Tryz.zeroValue3
 t4:=Tryz.underlying4
 a4:=Tryz.isAgg4
 z4:=Tryz.sizeOf4
 v4:=Tryz.zeroValue4
 t5:=Tryz.underlying5
 a5:=Tryz.isAgg5
 z5:=Tryz.sizeOf5
 v5:=Tryz.zeroValue5
 t9:=Tryz.underlying9
 a9:=Tryz.isAgg9
 z9:=Tryz.sizeOf9
 v9:=Tryz.zeroValue9
 t22:=Tryz.underlying156
 a22:=Tryz.isAgg156
 z22:=Tryz.sizeOf156
 v22:=Tryz.zeroValue156
 t25:=Tryz.underlying155
 a25:=Tryz.isAgg155
 z25:=Tryz.sizeOf155
 v25:=Tryz.zeroValue155
 t39:=Tryz.underlying187
 a39:=Tryz.isAgg187
 z39:=Tryz.sizeOf187
 v39:=Tryz.zeroValue187
 t45:=Tryz.underlying233
 a45:=Tryz.isAgg233
 z45:=Tryz.sizeOf233
 v45:=Tryz.zeroValue233
 t46:=Tryz.underlying234
 a46:=Tryz.isAgg234
 z46:=Tryz.sizeOf234
 v46:=Tryz.zeroValue234
 t50:=Tryz.underlying238
 a50:=Tryz.isAgg238
 z50:=Tryz.sizeOf238
 v50:=Tryz.zeroValue238
 t53:=Tryz.underlying131
 a53:=Tryz.isAgg131
 z53:=Tryz.sizeOf131
 v53:=Tryz.zeroValue131
 t55:=Tryz.underlying113
 a55:=Tryz.isAgg113
 z55:=Tryz.sizeOf113
 v55:=Tryz.zeroValue113
 t66:=Tryz.underlying258
 a66:=Tryz.isAgg258
 z66:=Tryz.sizeOf258
 v66:=Tryz.zeroValue258
 t70:=Tryz.underlying262
 a70:=Tryz.isAgg262
 z70:=Tryz.sizeOf262
 v70:=Tryz.zeroValue262
 t76:=Tryz.underlying271
 a76:=Tryz.isAgg271
 z76:=Tryz.sizeOf271
 v76:=Tryz.zeroValue271
 t77:=Tryz.underlying272
 a77:=Tryz.isAgg272
 z77:=Tryz.sizeOf272
 v77:=Tryz.zeroValue272 }
end Go.Proofs

set_option linter.unusedSimpArgs false
set_option linter.unusedVariables false
namespace Go.Proofs
open Go Go.Eng Go.Shelf Go.RowKit Go.Lib Go.Sort
def qeZ (o:List Int) (p:Fin 16):List Value:=qB o (p.val:Int)
def cfK (o:List Int) (a b:Fin 16):Int:=qdm o (a.val:Int) (b.val:Int)
theorem ltK {o:List Int} {a b:Fin 16}:ltOf (cfK o) a b = qN o (a.val:Int) (b.val:Int):=by unfold ltOf cfK; rw [qfx]
theorem q7O (o:List Int):SWO (ltOf (cfK o)) where
 irrefl x:=by rw [ltK]; exact qpl
 trans x y z h1 h2:=by rw [ltK] at *; exact q0k h1 h2
 ntrans x y z h1 h2:=by
  rw [ltK] at *
  have e1:(!qN o (x.val:Int) (y.val:Int)) = true:=by rw [h1]; rfl
  have e2:(!qN o (y.val:Int) (z.val:Int)) = true:=by rw [h2]; rfl
  rw [qjs] at e1 e2
  have e3:(!qN o (x.val:Int) (z.val:Int)) = true:=by
   rw [qjs]
   by_cases c1:qdm o (y.val:Int) (x.val:Int) = 0
   ·rw [<- qfw.1 c1]; exact e2
   ·by_cases c2:qdm o (z.val:Int) (y.val:Int) = 0
    ·rw [qfw.1 c2]; exact e1
    ·have:=qj9 (o:=o) (a:=(z.val:Int)) (b:=(y.val:Int)) (c:=(x.val:Int)) (by omega) (by omega)
     omega
  simpa using e3
theorem q7S (o:List Int) (x y:Fin 16) (h1:ltOf (cfK o) x y = false) (h2:ltOf (cfK o) y x = false):x = y:=by
 rw [ltK] at h1 h2
 by_cases h:x = y
 ·exact h
 ·have hv:(x.val:Int) ≠ (y.val:Int):=fun e=>h (Fin.ext (by omega))
  rcases qr5 (o:=o) hv with e | e
  ·rw [e] at h1; cases h1
  ·rw [e] at h2; cases h2
theorem q65 {o:List Int} {p:Int}:q6 kRk (qB o p):=by
 refine ⟨by rw [qi0]; rfl,fun c k v hk hv=>?_⟩
 cases c with
 | zero =>
  simp only [kRk,qB,List.getElem?_cons_zero,Option.some.injEq] at hk hv
  subst hk hv; rfl
 | succ c =>
  simp only [kRk,qB,List.getElem?_cons_succ] at hk hv
  rw [List.getElem?_replicate] at hk
  split at hk
  ·simp only [Option.some.injEq] at hk
   rw [List.getElem?_map] at hv
   obtain ⟨z,_,rfl⟩:=Option.map_eq_some_iff.1 hv
   subst hk; rfl
  ·cases hk
theorem qxq {o:List Int} {p:Int}:∀ v ∈ qB o p,v.oneCell' = true:=fun v hv=>by
 rcases List.mem_cons.1 hv with rfl | hv
 ·rfl
 ·obtain ⟨z,_,rfl⟩:=List.mem_map.1 hv; rfl
def toFin (x:Int):Fin 16:=⟨x.toNat % 16,by omega⟩
theorem qrm {x:Int} (h:0 <= x/\x < 16):((toFin x).val:Int) = x:=by simp only [toFin]; omega
theorem qxd {M:List Int} {d:Array (Fin 16)} (h:d.toList.map (fun p=>(p.val:Int)) = M) {i:Nat} (hi:i < d.size):M[i]? = some ((d[i]!).val:Int):=by
 rw [<- h,List.getElem?_map,List.getElem?_eq_getElem (by simpa using hi),Option.map_some]
 rw [getElem!_pos d i hi]; rfl
theorem qur {o:List Int} {M:List Int} {d:Array (Fin 16)} (h:d.toList.map (fun p=>(p.val:Int)) = M) {i k:Nat} {row:List Value} {v:Value} (hr:(M.map (qB o))[i]? = some row) (hv:row[k]? = some v) :
  i < d.size/\k < 33/\(flatK (qeZ o) 33 d)[i * 33 + k]! = v:=by
 rw [List.getElem?_map] at hr
 obtain ⟨x,hx,rfl⟩:=Option.map_eq_some_iff.1 hr
 have hi:i < d.size:=by
  have:=(List.getElem?_eq_some_iff.1 hx).1
  rw [<- h] at this; simpa using this
 have hk:k < 33:=by
  have:=(List.getElem?_eq_some_iff.1 hv).1
  rwa [qi0] at this
 rw [qxd h hi,Option.some.injEq] at hx
 refine ⟨hi,hk,?_⟩
 have hlt:i * 33 + k < d.size * 33:=by omega
 rw [get_flatK _ _ _ _ hlt,show (i * 33 + k) / 33 = i by omega,show (i * 33 + k) % 33 = k by omega]
 unfold qeZ
 rw [hx,List.getElem!_eq_getElem?_getD,hv]; rfl
theorem qv3 {o:List Int} {L:List Int} {d:Array (Fin 16)} (h:d.toList.map (fun p=>(p.val:Int)) = L) {w:World} {b:Nat} {c:Array Value} {ty:TypeId} (hb:w.heap[b]? = some (.cells c ty (0,0))) (hr:qS c 0 kRk (L.map (qB o))):HoldsK (qeZ o) 33 w b 0 d:=by
 intro j hj
 rw [size_flatK] at hj
 have hi:j / 33 < d.size:=by omega
 have hrow:(L.map (qB o))[j / 33]? = some (qB o ((d[j / 33]!).val:Int)):=by rw [List.getElem?_map,qxd h hi]; rfl
 have hkl:j % 33 < (qB o ((d[j / 33]!).val:Int)).length:=by rw [qi0]; omega
 have hv:=(hr _ _ hrow).2 (j % 33) _ (List.getElem?_eq_getElem hkl)
 have hf:=(qur h hrow (List.getElem?_eq_getElem hkl)).2.2
 rw [show j / 33 * 33 + j % 33 = j by omega] at hf
 have hlen:kRk.length = 33:=rfl
 rw [hlen,show 0 + j / 33 * 33 + j % 33 = j by omega] at hv
 refine ⟨?_,by simp [World.frozen?,hb]⟩
 show w.cell? ⟨b,0 + j,none⟩ = some (id (flatK (qeZ o) 33 d)[j]!)
 simp only [World.cell?,hb,Nat.zero_add,id]
 rw [hf,hv]; rfl
theorem qyO {o:List Int} {w:World} {b n:Nat} {d:Array (Fin 16)} {os:Array Obj} {c:Array Value} {ty:TypeId} (hb:w.heap[b]? = some (.cells c ty (0,0))) :
  (sortWorldK (qeZ o) 33 w b 0 n d os).heap[b]? = some (.cells (putCells id 0 (flatK (qeZ o) 33 d) c) ty (0,0)):=by
 have hlt:b < w.heap.size:=(Array.getElem?_eq_some_iff.1 hb).1
 unfold sortWorldK grow putRowK putRow mapBlock
 have e:(Go.Sort.ahead w n).heap = w.heap:=rfl
 simp only [e]
 rw [Array.getElem?_append_left (by simpa using hlt),Array.getElem?_modify,if_pos rfl,hb]; rfl
theorem qwi {o:List Int} {w:World} {b x n:Nat} {d:Array (Fin 16)} {os:Array Obj} {X:Obj} (hx:w.heap[x]? = some X) (hne:x ≠ b):(sortWorldK (qeZ o) 33 w b 0 n d os).heap[x]? = some X:=by
 have hlt:x < w.heap.size:=(Array.getElem?_eq_some_iff.1 hx).1
 unfold sortWorldK grow putRowK putRow mapBlock
 have e:(Go.Sort.ahead w n).heap = w.heap:=rfl
 simp only [e]
 rw [Array.getElem?_append_left (by simpa using hlt),Array.getElem?_modify,if_neg (Ne.symm hne),hx]
theorem qzg {o:List Int} {M:List Int} {d:Array (Fin 16)} (h:d.toList.map (fun p=>(p.val:Int)) = M) {c:Array Value} (hc:d.size * 33 <= c.size):qS (putCells id 0 (flatK (qeZ o) 33 d) c) 0 kRk (M.map (qB o)):=by
 intro i row hi
 have hfit:q6 kRk row:=by
  rw [List.getElem?_map] at hi
  obtain ⟨x,_,rfl⟩:=Option.map_eq_some_iff.1 hi
  exact q65
 refine ⟨hfit,fun k v hv=>?_⟩
 obtain ⟨h1,h2,h3⟩:=qur h hi hv
 have hlen:kRk.length = 33:=rfl
 rw [hlen,Nat.zero_add]
 have hlt:i * 33 + k < d.size * 33:=by omega
 unfold putCells
 rw [Array.getElem?_mapIdx,Array.getElem?_eq_getElem (by omega),Option.map_some,if_pos ⟨by omega,by rw [size_flatK]; omega⟩,Nat.sub_zero,h3]; rfl
theorem q7N (o:List Int) (ho:qT o) (x y:Fin 16) (W:World):Calls Tryz.prog 81 #[.agg (qeZ o x).toArray,.agg (qeZ o y).toArray] W fun e w'=>e = .returned (.int .i64 (cfK o x y))/\∃ q os',w' = grow (W.drewN q) os':=by
 refine (q0T (x.val:Int) (y.val:Int) (qL o x.val) (qL o y.val) qkd qkd W).mono fun e w' h=>?_
 obtain ⟨rfl,h⟩:=h
 refine ⟨?_,h⟩
 rw [qlY qmO qmO]
 have hx:=x.isLt
 have hy:=y.isLt
 unfold cfK qdm
 by_cases he:qL o (x.val:Int) = qL o (y.val:Int)
 ·rw [if_pos (qfv.2 he),if_pos he]
  have:RowKit.wrap64 ((x.val:Int) - (y.val:Int)) = (x.val:Int) - (y.val:Int):=by unfold RowKit.wrap64; omega
  rw [this]
 ·rw [if_neg (fun h=>he (qfv.1 h)),if_neg he]
theorem q1N (o:List Int) (ho:qT o) (b cap:Nat) (d:Array (Fin 16)) (w:World) (hH:HoldsK (qeZ o) 33 w b 0 d) (hb:b < w.heap.size) (hsz:d.size < 4611686018427387904) :
  Calls Tryz.prog 83 #[.slice (some ⟨b,0,none⟩) d.size cap,.func (.func 81) #[] #[]] w fun e w'=>e = .returned (.tuple #[])/\∃ n os,w' = sortWorldK (qeZ o) 33 w b 0 n (d.toList.mergeSort fun x y=>!(ltOf (cfK o)) y x).toArray os :=
 AnyQ.slices_SortFunc_total qwW 33 Tryz.isAgg153 Tryz.sizeOf153 (qeZ o) (fun _=>qi0) (fun _=>qxq) (cfK o) (q7O o) 81 #[] b 0 cap d w (fun args w=>Tryz.call81 args w) (fun m os dk hs x y=>q7N o ho x y _) hH hb hsz (q7S o)
theorem qyd (p:Option Addr) (cap:Nat) (fv:Value) (w:World):Calls Tryz.prog 83 #[.slice p 0 cap,fv] w fun e w'=>e = .returned (.tuple #[])/\w' = w:=AnyF.slices_SortFunc_none qwW p cap fv w
theorem qya {o L:List Int} (hL:∀ x ∈ L,0 <= x/\x < 16):(((L.map toFin).mergeSort fun x y=>!(ltOf (cfK o)) y x).map fun p=>(p.val:Int)) = qap o L:=by
 have hv:(L.map toFin).map (fun p=>(p.val:Int)) = L:=by
  rw [List.map_map]
  conv=>rhs; rw [<- List.map_id L]
  exact List.map_congr_left fun x hx=>qrm (hL x hx)
 rw [List.map_mergeSort (s:=fun a b=>!qN o b a) (fun a _ b _=>by rw [ltK]),hv]; rfl
theorem qv6 {o o' L:List Int} (h:L.map (qB o) = L.map (qB o')):(qap o L).map (qB o) = (qap o' L).map (qB o'):=by
 have h1:∀ x ∈ L,qB o x = qB o' x:=List.map_inj_left.1 h
 have hsc:∀ x ∈ L,qL o x = qL o' x:=fun x hx=>by
  have h2:=h1 x hx
  simp only [qB,List.cons.injEq,true_and] at h2
  have h3:=congrArg (List.map qQ) h2
  rw [List.map_map,List.map_map] at h3
  have e:(qQ ∘ Value.int IntKind.u8) = id:=rfl
  rwa [e,List.map_id,List.map_id] at h3
 have hs:qap o L = qap o' L:=by
  have:=List.map_mergeSort (r:=fun a b=>!qN o b a) (s:=fun a b=>!qN o' b a) (f:=id) (l:=L) (fun a ha b hb=>by simp only [id,qN,hsc a ha,hsc b hb])
  rwa [List.map_id,List.map_id] at this
 rw [<- hs]
 exact List.map_congr_left fun x hx=>h1 x (q0p.1 hx)
theorem q4Y:qer.ok Tryz.prog:=by
 refine ⟨fun args w=>Tryz.call83 args w,fun ρ w hF hO hg hd hw hs hro hp=>?_⟩
 obtain ⟨hl,hb1,o,L,ho,hD,hL⟩:=hp
 obtain ⟨h1,h2,hdis,hu,harr,_⟩:=hs
 have huniq:∀ {o' L':List Int},(ρ 3).d = L'.map (qB o')->L' = L:=fun {o' L'} h=>by
  have e:=congrArg qn (h.symm.trans hD)
  rwa [qsT,qsT] at e
 have hlen:(ρ 1).i = L.length:=by rw [hl,hD,List.length_map]
 -- the answer, once the rows are qcu
 have key:∀ (w':World) (hO':Hp),Hp.disj hF.h hO'->SH.den (ρ.set 4 { d:=(qap o L).map (qB o) }) (qup 0 4 2) hO'->(Hp.union hF.h hO').sub w'->hF.wi w' ->
   ∃ (ai:Nat) (al:Alt) (ρ':Env),qer.alts[ai]? = some al/\ρ'.good/\(∀ n,n < qer.nv->ρ' n = ρ n)/\(Ending.returned (.tuple #[]):Ending) = .returned (al.ret.den ρ')/\al.post (ρ'.upto (qer.nv + al.k))/\qs ρ' hF al.heap w':=by
  intro w' hO' a1 a2 a3 a4
  have hgood:({ d:=(qap o L).map (qB o) }:U).good:=⟨rfl,fun row hr v hv=>by
   obtain ⟨x,_,rfl⟩:=List.mem_map.1 hr
   exact qxq v hv⟩
  refine ⟨0,_,ρ.set 4 { d:=(qap o L).map (qB o) },rfl,fun n=>?_,fun n hn=>Env.set_ne _ _ (by have:n < 4:=hn; omega),rfl,?_,hO',a1,⟨hO',Hp.emp,fun _=>.inr rfl,?_,a2,trivial⟩,a3,a4⟩
  ·by_cases hn:n = 4
   ·subst hn; rw [Env.set_same]; exact hgood
   ·rw [Env.set_ne _ _ hn]; exact hg n
  ·intro o' L' ho' hD' hL'
   have hD2:(ρ 3).d = L'.map (qB o'):=hD'
   obtain rfl:=huniq hD2
   show (qap o L').map (qB o) = (qap o' L').map (qB o')
   exact qv6 (hD.symm.trans hD2)
  ·funext b
   simp only [Hp.union,Hp.emp]
   cases hO' b <;> rfl
 rcases harr with ⟨hr,hd0,hc0⟩ | ⟨b,c,hr,hb,hcs,hcap,hrows⟩
 ·have hL0:L = []:=by
   have e:(ρ 3).d = []:=hd0
   rw [hD] at e
   exact List.map_eq_nil_iff.1 e
  subst hL0
  have hargs:(List.map (SV.den ρ) qer.args).toArray = #[.slice none 0 (ρ 2).i.toNat,.func (.func 81) #[] #[]]:=by
   have hr':(ρ 0).r = none:=hr
   simp [qer,rkS,SV.den,qb,T.den,O0.den,O3.den,hr',hlen,qm]
  rw [hargs]
  refine (qyd none _ _ w).mono fun e w' h=>?_
  obtain ⟨rfl,rfl⟩:=h
  refine key _ hO hd (.inl ⟨?_,?_,?_⟩) hw.1 hw.2
  ·rw [Env.set_ne _ _ (by decide)]; exact hr
  ·show ((ρ.set 4 _) 4).d = []
   rw [Env.set_same]; simp [qap]
  ·show ((ρ.set 4 _) 2).i = 0
   rw [Env.set_ne _ _ (by decide)]; exact hc0
 ·have hbO:hO b = some (.cells c 153 (0,0)):=by rw [hu]; simp [Hp.union,hb]
  have hbw:w.heap[b]? = some (.cells c 153 (0,0)):=hw.1 _ _ (by
   unfold Hp.union
   rcases hd b with h | h
   ·rw [h]; exact hbO
   ·rw [hbO] at h; cases h)
  have hblt:b < w.heap.size:=(Array.getElem?_eq_some_iff.1 hbw).1
  have hrows':qS c 0 kRk (L.map (qB o)):=by
   have h:=hrows
   rw [show (T.den ρ (.var 3)).d = (ρ 3).d from rfl,hD] at h
   exact h
  have hcs':c.size = (ρ 2).i.toNat * 33:=hcs
  have hcap':((ρ 3).d.length:Int) <= (ρ 2).i:=hcap
  rw [hD,List.length_map] at hcap'
  let d:Array (Fin 16):=(L.map toFin).toArray
  have hdv:d.toList.map (fun p=>(p.val:Int)) = L:=by
   simp only [d,List.toList_toArray,List.map_map]
   conv=>rhs; rw [<- List.map_id L]
   exact List.map_congr_left fun x hx=>qrm (hL x hx)
  have hds:d.size = L.length:=by simp [d]
  have hH:=qv3 hdv hbw hrows'
  have hargs:(List.map (SV.den ρ) qer.args).toArray = #[.slice (some ⟨b,0,none⟩) d.size (ρ 2).i.toNat,.func (.func 81) #[] #[]]:=by
   have hr':(ρ 0).r = some ⟨b,0,none⟩:=hr
   simp [qer,rkS,SV.den,qb,T.den,O0.den,O3.den,hr',hlen,qm,hds]
  rw [hargs]
  refine (q1N o ho b _ d w hH hblt (by omega)).mono fun e w' h=>?_
  obtain ⟨rfl,n,os,rfl⟩:=h
  have hsv:((d.toList.mergeSort fun x y=>!(ltOf (cfK o)) y x).toArray:Array (Fin 16)).toList.map (fun p=>(p.val:Int)) = qap o L:=by
   simp only [d,List.toList_toArray]
   exact qya hL
  have hsl:((d.toList.mergeSort fun x y=>!(ltOf (cfK o)) y x).toArray:Array (Fin 16)).size * 33 <= c.size:=by
   rw [hcs',List.size_toArray,List.length_mergeSort]
   simp only [Array.length_toList,hds]
   omega
  refine key _ (Hp.upd hO b (.cells (putCells id 0 (flatK (qeZ o) 33 (d.toList.mergeSort fun x y=>!(ltOf (cfK o)) y x).toArray) c) 153 (0,0))) (fun x=>?_) (.inr ⟨b,putCells id 0 (flatK (qeZ o) 33 (d.toList.mergeSort fun x y=>!(ltOf (cfK o)) y x).toArray) c,?_,?_,?_,?_,?_⟩) (fun x X hX=>?_) ?_
  ·by_cases hx:x = b
   ·subst hx
    rcases hd x with h | h
    ·exact .inl h
    ·rw [hbO] at h; cases h
   ·unfold Hp.upd; rw [if_neg hx]; exact hd x
  ·rw [Env.set_ne _ _ (by decide)]; exact hr
  ·unfold Hp.upd; rw [if_pos rfl]
  ·show (putCells id 0 _ c).size = ((ρ.set 4 _) 2).i.toNat * 33
   rw [Env.set_ne _ _ (by decide),<- hcs']
   simp [putCells]
  ·show ((((ρ.set 4 { d:=(qap o L).map (qB o) }) 4).d.length:Nat):Int) <= ((ρ.set 4 _) 2).i
   rw [Env.set_same,Env.set_ne _ _ (by decide),List.length_map,qi6]; exact hcap'
  ·show qS _ 0 kRk ((ρ.set 4 { d:=(qap o L).map (qB o) }) 4).d
   rw [Env.set_same]
   exact qzg hsv hsl
  ·by_cases hx:x = b
   ·subst hx
    have hFn:hF.h x = none:=by
     rcases hd x with h | h
     ·exact h
     ·rw [hbO] at h; cases h
    simp only [Hp.union,hFn,Hp.upd,if_true,Option.none_or,Option.some.injEq] at hX
    rw [<- hX]
    exact qyO hbw
   ·have hX':Hp.union hF.h hO x = some X:=by
     simpa [Hp.union,Hp.upd,hx] using hX
    exact qwi (hw.1 _ _ hX') hx
  ·exact hw.2
end Go.Proofs

set_option linter.unusedSimpArgs false
set_option linter.unusedVariables false
set_option maxRecDepth 100000
namespace Go.Proofs
open Go Go.Eng

def qzk:Out:=(.br (.cmp .geq (.var 1) (.var 0))
 (.ret 0 (sg 2 [bt 2 (.cmp .lss (.arith .sub .u64 (.var 1) (.var 0)) (.lit 12))]))
 (.ret 0 (sg 2 [bt 2 (.bl false)])))
theorem q4r:ql ⟨Tryz.prog,qfP,[],[]⟩ 100000 Tryz.f101 = qzk:=by kernel_rfl
theorem q6U (hd:∀ c ∈ ([]:List Ctr),c.ok Tryz.prog) (h:∀ ρ:Env,ρ.good->(qfP).pre ρ->qzk.den ⟨Tryz.prog,qfP,[],[]⟩ ρ):(qfP).ok Tryz.prog :=
 qe Tryz.func101 (fun a w=>Tryz.call101 a w) hd 100000 (fun ρ hg hp=>by rw [q4r]; exact h ρ hg hp)
def qqH:Out:=(.mop .new 0 (.fresh 2 (.ret 0 (sg 0 [bg 2 0,bv 1 1,bg 0 2]))) .top)
theorem qyC:ql ⟨Tryz.prog,qcp,[],[]⟩ 100000 Tryz.f61 = qqH:=by kernel_rfl
theorem q2T (hd:∀ c ∈ ([]:List Ctr),c.ok Tryz.prog) (h:∀ ρ:Env,ρ.good->(qcp).pre ρ->qqH.den ⟨Tryz.prog,qcp,[],[]⟩ ρ):(qcp).ok Tryz.prog :=
 qe Tryz.func61 (fun a w=>Tryz.call61 a w) hd 100000 (fun ρ hg hp=>by rw [qyC]; exact h ρ hg hp)
def quD:Out:=(.fresh 6 (.pre 0 (sg 0 [bv 0 2]) (.both (.fresh 7 (.post 0 0 (sg 0 [bv 0 2]) 7 (.br (.not (.var 7))
 (.ret 0 (sg 6 [bg 6 5]))
 (.both (.mop (.get (.var 4) [(.c2 (.xint 0) (.var 1) (.lit 0)),(.c2 (.xint 1) (.var 1) (.lit 0)),(.c2 (.xint 2) (.var 1) (.lit 0)),(.c2 (.xint 3) (.var 1) (.lit 0)),(.c2 (.xint 4) (.var 1) (.lit 0)),(.c2 (.xint 5) (.var 1) (.lit 0)),(.c2 (.xint 6) (.var 1) (.lit 0)),(.c2 (.xint 7) (.var 1) (.lit 0)),(.c2 (.xint 8) (.var 1) (.lit 0)),(.c2 (.xint 9) (.var 1) (.lit 0)),(.c2 (.xint 10) (.var 1) (.lit 0)),(.c2 (.xint 11) (.var 1) (.lit 0)),(.c2 (.xint 12) (.var 1) (.lit 0)),(.c2 (.xint 13) (.var 1) (.lit 0)),(.c2 (.xint 14) (.var 1) (.lit 0)),(.c2 (.xint 15) (.var 1) (.lit 0)),(.c2 (.xint 16) (.var 1) (.lit 0)),(.c2 (.xint 17) (.var 1) (.lit 0)),(.c2 (.xint 18) (.var 1) (.lit 0)),(.c2 (.xint 19) (.var 1) (.lit 0)),(.c2 (.xint 20) (.var 1) (.lit 0)),(.c2 (.xint 21) (.var 1) (.lit 0)),(.c2 (.xint 22) (.var 1) (.lit 0)),(.c2 (.xint 23) (.var 1) (.lit 0)),(.c2 (.xint 24) (.var 1) (.lit 0)),(.c2 (.xint 25) (.var 1) (.lit 0)),(.c2 (.xint 26) (.var 1) (.lit 0)),(.c2 (.xint 27) (.var 1) (.lit 0)),(.c2 (.xint 28) (.var 1) (.lit 0)),(.c2 (.xint 29) (.var 1) (.lit 0)),(.c2 (.xint 30) (.var 1) (.lit 0)),(.c2 (.xint 31) (.var 1) (.lit 0))] ⟨true,[.u8,.u8,.u8,.u8,.u8,.u8,.u8,.u8,.u8,.u8,.u8,.u8,.u8,.u8,.u8,.u8,.u8,.u8,.u8,.u8,.u8,.u8,.u8,.u8,.u8,.u8,.u8,.u8,.u8,.u8,.u8,.u8],false,[CK.any],[.vnilm]⟩ [5]) 8 (.both (.mop (.isnil (.vcell (.var 8) (.lit 0) 0)) 9 (.br (.var 9)
 (.both (.mop .new 10 (.both (.pack [.abs 10 1003,.abs 5 1003] 12 (.mop (.put 12 (.var 4) [(.c2 (.xint 0) (.var 1) (.lit 0)),(.c2 (.xint 1) (.var 1) (.lit 0)),(.c2 (.xint 2) (.var 1) (.lit 0)),(.c2 (.xint 3) (.var 1) (.lit 0)),(.c2 (.xint 4) (.var 1) (.lit 0)),(.c2 (.xint 5) (.var 1) (.lit 0)),(.c2 (.xint 6) (.var 1) (.lit 0)),(.c2 (.xint 7) (.var 1) (.lit 0)),(.c2 (.xint 8) (.var 1) (.lit 0)),(.c2 (.xint 9) (.var 1) (.lit 0)),(.c2 (.xint 10) (.var 1) (.lit 0)),(.c2 (.xint 11) (.var 1) (.lit 0)),(.c2 (.xint 12) (.var 1) (.lit 0)),(.c2 (.xint 13) (.var 1) (.lit 0)),(.c2 (.xint 14) (.var 1) (.lit 0)),(.c2 (.xint 15) (.var 1) (.lit 0)),(.c2 (.xint 16) (.var 1) (.lit 0)),(.c2 (.xint 17) (.var 1) (.lit 0)),(.c2 (.xint 18) (.var 1) (.lit 0)),(.c2 (.xint 19) (.var 1) (.lit 0)),(.c2 (.xint 20) (.var 1) (.lit 0)),(.c2 (.xint 21) (.var 1) (.lit 0)),(.c2 (.xint 22) (.var 1) (.lit 0)),(.c2 (.xint 23) (.var 1) (.lit 0)),(.c2 (.xint 24) (.var 1) (.lit 0)),(.c2 (.xint 25) (.var 1) (.lit 0)),(.c2 (.xint 26) (.var 1) (.lit 0)),(.c2 (.xint 27) (.var 1) (.lit 0)),(.c2 (.xint 28) (.var 1) (.lit 0)),(.c2 (.xint 29) (.var 1) (.lit 0)),(.c2 (.xint 30) (.var 1) (.lit 0)),(.c2 (.xint 31) (.var 1) (.lit 0))] [(.var 11)] ⟨true,[.u8,.u8,.u8,.u8,.u8,.u8,.u8,.u8,.u8,.u8,.u8,.u8,.u8,.u8,.u8,.u8,.u8,.u8,.u8,.u8,.u8,.u8,.u8,.u8,.u8,.u8,.u8,.u8,.u8,.u8,.u8,.u8],false,[CK.any],[.vnilm]⟩) 13 (.both (.mop (.get (.var 4) [(.c2 (.xint 0) (.var 1) (.lit 0)),(.c2 (.xint 1) (.var 1) (.lit 0)),(.c2 (.xint 2) (.var 1) (.lit 0)),(.c2 (.xint 3) (.var 1) (.lit 0)),(.c2 (.xint 4) (.var 1) (.lit 0)),(.c2 (.xint 5) (.var 1) (.lit 0)),(.c2 (.xint 6) (.var 1) (.lit 0)),(.c2 (.xint 7) (.var 1) (.lit 0)),(.c2 (.xint 8) (.var 1) (.lit 0)),(.c2 (.xint 9) (.var 1) (.lit 0)),(.c2 (.xint 10) (.var 1) (.lit 0)),(.c2 (.xint 11) (.var 1) (.lit 0)),(.c2 (.xint 12) (.var 1) (.lit 0)),(.c2 (.xint 13) (.var 1) (.lit 0)),(.c2 (.xint 14) (.var 1) (.lit 0)),(.c2 (.xint 15) (.var 1) (.lit 0)),(.c2 (.xint 16) (.var 1) (.lit 0)),(.c2 (.xint 17) (.var 1) (.lit 0)),(.c2 (.xint 18) (.var 1) (.lit 0)),(.c2 (.xint 19) (.var 1) (.lit 0)),(.c2 (.xint 20) (.var 1) (.lit 0)),(.c2 (.xint 21) (.var 1) (.lit 0)),(.c2 (.xint 22) (.var 1) (.lit 0)),(.c2 (.xint 23) (.var 1) (.lit 0)),(.c2 (.xint 24) (.var 1) (.lit 0)),(.c2 (.xint 25) (.var 1) (.lit 0)),(.c2 (.xint 26) (.var 1) (.lit 0)),(.c2 (.xint 27) (.var 1) (.lit 0)),(.c2 (.xint 28) (.var 1) (.lit 0)),(.c2 (.xint 29) (.var 1) (.lit 0)),(.c2 (.xint 30) (.var 1) (.lit 0)),(.c2 (.xint 31) (.var 1) (.lit 0))] ⟨true,[.u8,.u8,.u8,.u8,.u8,.u8,.u8,.u8,.u8,.u8,.u8,.u8,.u8,.u8,.u8,.u8,.u8,.u8,.u8,.u8,.u8,.u8,.u8,.u8,.u8,.u8,.u8,.u8,.u8,.u8,.u8,.u8],false,[CK.any],[.vnilm]⟩ [13]) 14 (.both (.mop (.put 13 (.vcell (.var 14) (.lit 0) 0) [(.var 2)] [(.vint .u64 (.var 3))] ⟨false,[.i64],false,[CK.int .u64],[(.vint .u64 (.lit 0))]⟩) 15 (.ret 0 (sg 6 [bg 6 15])) .top) .top) .top) .top) .top)) .top) .top) .top)
 (.both (.mop (.get (.var 4) [(.c2 (.xint 0) (.var 1) (.lit 0)),(.c2 (.xint 1) (.var 1) (.lit 0)),(.c2 (.xint 2) (.var 1) (.lit 0)),(.c2 (.xint 3) (.var 1) (.lit 0)),(.c2 (.xint 4) (.var 1) (.lit 0)),(.c2 (.xint 5) (.var 1) (.lit 0)),(.c2 (.xint 6) (.var 1) (.lit 0)),(.c2 (.xint 7) (.var 1) (.lit 0)),(.c2 (.xint 8) (.var 1) (.lit 0)),(.c2 (.xint 9) (.var 1) (.lit 0)),(.c2 (.xint 10) (.var 1) (.lit 0)),(.c2 (.xint 11) (.var 1) (.lit 0)),(.c2 (.xint 12) (.var 1) (.lit 0)),(.c2 (.xint 13) (.var 1) (.lit 0)),(.c2 (.xint 14) (.var 1) (.lit 0)),(.c2 (.xint 15) (.var 1) (.lit 0)),(.c2 (.xint 16) (.var 1) (.lit 0)),(.c2 (.xint 17) (.var 1) (.lit 0)),(.c2 (.xint 18) (.var 1) (.lit 0)),(.c2 (.xint 19) (.var 1) (.lit 0)),(.c2 (.xint 20) (.var 1) (.lit 0)),(.c2 (.xint 21) (.var 1) (.lit 0)),(.c2 (.xint 22) (.var 1) (.lit 0)),(.c2 (.xint 23) (.var 1) (.lit 0)),(.c2 (.xint 24) (.var 1) (.lit 0)),(.c2 (.xint 25) (.var 1) (.lit 0)),(.c2 (.xint 26) (.var 1) (.lit 0)),(.c2 (.xint 27) (.var 1) (.lit 0)),(.c2 (.xint 28) (.var 1) (.lit 0)),(.c2 (.xint 29) (.var 1) (.lit 0)),(.c2 (.xint 30) (.var 1) (.lit 0)),(.c2 (.xint 31) (.var 1) (.lit 0))] ⟨true,[.u8,.u8,.u8,.u8,.u8,.u8,.u8,.u8,.u8,.u8,.u8,.u8,.u8,.u8,.u8,.u8,.u8,.u8,.u8,.u8,.u8,.u8,.u8,.u8,.u8,.u8,.u8,.u8,.u8,.u8,.u8,.u8],false,[CK.any],[.vnilm]⟩ [5]) 10 (.both (.mop (.put 5 (.vcell (.var 10) (.lit 0) 0) [(.var 2)] [(.vint .u64 (.var 3))] ⟨false,[.i64],false,[CK.int .u64],[(.vint .u64 (.lit 0))]⟩) 11 (.ret 0 (sg 6 [bg 6 11])) .top) .top) .top) .top)) .top) .top) .top) .top)))) .top)))
theorem q0X:ql ⟨Tryz.prog,qdd,[qct],[]⟩ 100000 Tryz.f62 = quD:=by kernel_rfl
theorem q57 (hd:∀ c ∈ ([qct]:List Ctr),c.ok Tryz.prog) (h:∀ ρ:Env,ρ.good->(qdd).pre ρ->quD.den ⟨Tryz.prog,qdd,[qct],[]⟩ ρ):(qdd).ok Tryz.prog :=
 qe Tryz.func62 (fun a w=>Tryz.call62 a w) hd 100000 (fun ρ hg hp=>by rw [q0X]; exact h ρ hg hp)
@[simp] def qiK:Out:=.back 0 57 (sg 1000 [bg 1007 65,bv 1004 61,bv 1002 59,bv 1006 63,bt 1005 (.bl false),bg 1003 60,bg 1001 58,bg 1000 57])
def qkV:Out:=(.fresh 18 (.pre 0 (sg 0 [bv 4 15,bv 3 14,bv 2 13,bv 1 12,bg 0 11]) (.both (.fresh 19 (.fresh 20 (.fresh 21 (.fresh 22 (.fresh 23 (.fresh 24 (.fresh 25 (.fresh 26 (.fresh 27 (.fresh 28 (.fresh 29 (.fresh 30 (.fresh 31 (.fresh 32 (.fresh 33 (.fresh 34 (.post 0 0 (sg 0 [bv 4 15,bv 3 14,bv 2 13,bv 1 12,bg 0 11]) 19 (.pre 0 (sg 0 [bv 4 10,bv 3 9,bv 2 8,bv 1 7,bg 0 6]) (.both (.fresh 35 (.fresh 36 (.fresh 37 (.fresh 38 (.fresh 39 (.fresh 40 (.fresh 41 (.fresh 42 (.fresh 43 (.fresh 44 (.fresh 45 (.fresh 46 (.fresh 47 (.fresh 48 (.fresh 49 (.fresh 50 (.post 0 0 (sg 0 [bv 4 10,bv 3 9,bv 2 8,bv 1 7,bg 0 6]) 35 (.fresh 51 (.fresh 52 (.both (.mop (.get (.var 4) [(.c2 (.xint 0) (.var 1) (.lit 0)),(.c2 (.xint 1) (.var 1) (.lit 0)),(.c2 (.xint 2) (.var 1) (.lit 0)),(.c2 (.xint 3) (.var 1) (.lit 0)),(.c2 (.xint 4) (.var 1) (.lit 0)),(.c2 (.xint 5) (.var 1) (.lit 0)),(.c2 (.xint 6) (.var 1) (.lit 0)),(.c2 (.xint 7) (.var 1) (.lit 0)),(.c2 (.xint 8) (.var 1) (.lit 0)),(.c2 (.xint 9) (.var 1) (.lit 0)),(.c2 (.xint 10) (.var 1) (.lit 0)),(.c2 (.xint 11) (.var 1) (.lit 0)),(.c2 (.xint 12) (.var 1) (.lit 0)),(.c2 (.xint 13) (.var 1) (.lit 0)),(.c2 (.xint 14) (.var 1) (.lit 0)),(.c2 (.xint 15) (.var 1) (.lit 0)),(.c2 (.xint 16) (.var 1) (.lit 0)),(.c2 (.xint 17) (.var 1) (.lit 0)),(.c2 (.xint 18) (.var 1) (.lit 0)),(.c2 (.xint 19) (.var 1) (.lit 0)),(.c2 (.xint 20) (.var 1) (.lit 0)),(.c2 (.xint 21) (.var 1) (.lit 0)),(.c2 (.xint 22) (.var 1) (.lit 0)),(.c2 (.xint 23) (.var 1) (.lit 0)),(.c2 (.xint 24) (.var 1) (.lit 0)),(.c2 (.xint 25) (.var 1) (.lit 0)),(.c2 (.xint 26) (.var 1) (.lit 0)),(.c2 (.xint 27) (.var 1) (.lit 0)),(.c2 (.xint 28) (.var 1) (.lit 0)),(.c2 (.xint 29) (.var 1) (.lit 0)),(.c2 (.xint 30) (.var 1) (.lit 0)),(.c2 (.xint 31) (.var 1) (.lit 0))] ⟨true,[.u8,.u8,.u8,.u8,.u8,.u8,.u8,.u8,.u8,.u8,.u8,.u8,.u8,.u8,.u8,.u8,.u8,.u8,.u8,.u8,.u8,.u8,.u8,.u8,.u8,.u8,.u8,.u8,.u8,.u8,.u8,.u8],false,[CK.any],[.vnilm]⟩ [5]) 53 (.both (.mop (.range (.vcell (.var 53) (.lit 0) 0) ⟨false,[.i64],false,[CK.int .u64],[(.vint .u64 (.lit 0))]⟩ [5]) 54 (.pack [.abs 54 1003,.abs 5 1003] 56 (.inv 0 57 (sg 1000 [bg 1007 56,bt 1004 (.rcons (.vbool (.var 35)) (.rcons (.vbool (.var 36)) (.rcons (.vbool (.var 37)) (.rcons (.vbool (.var 38)) (.rcons (.vbool (.var 39)) (.rcons (.vbool (.var 40)) (.rcons (.vbool (.var 41)) (.rcons (.vbool (.var 42)) (.rcons (.vbool (.var 43)) (.rcons (.vbool (.var 44)) (.rcons (.vbool (.var 45)) (.rcons (.vbool (.var 46)) (.rcons (.vbool (.var 47)) (.rcons (.vbool (.var 48)) (.rcons (.vbool (.var 49)) (.rcons (.vbool (.var 50)) .rnil)))))))))))))))),bt 1002 (.rcons (.vbool (.var 19)) (.rcons (.vbool (.var 20)) (.rcons (.vbool (.var 21)) (.rcons (.vbool (.var 22)) (.rcons (.vbool (.var 23)) (.rcons (.vbool (.var 24)) (.rcons (.vbool (.var 25)) (.rcons (.vbool (.var 26)) (.rcons (.vbool (.var 27)) (.rcons (.vbool (.var 28)) (.rcons (.vbool (.var 29)) (.rcons (.vbool (.var 30)) (.rcons (.vbool (.var 31)) (.rcons (.vbool (.var 32)) (.rcons (.vbool (.var 33)) (.rcons (.vbool (.var 34)) .rnil)))))))))))))))),bv 1006 55,bt 1005 (.bl false),bg 1003 52,bg 1001 51,bg 1000 18]) (.fresh 57 (.fresh 58 (.fresh 59 (.fresh 60 (.fresh 61 (.fresh 62 (.fresh 63 (.fresh 64 (.hyp 0 57 (.mop (.next 64 (.var 63) ⟨false,[.i64],false,[CK.int .u64],[(.vint .u64 (.lit 0))]⟩ [64]) 65 (.mop (.entry 65 (.var 63) ⟨false,[.i64],false,[CK.int .u64],[(.vint .u64 (.lit 0))]⟩ [65]) 68 (.br (.var 62)
 (.back 0 57 (sg 1000 [bg 1007 65,bv 1004 61,bv 1002 59,bv 1006 63,bt 1005 (.bl true),bg 1003 60,bg 1001 58,bg 1000 57]))
 (.pre 1 (sg 0 [bv 1 3,bt 0 (.c2 (.xint 0) (.var 69) (.lit 0))]) (.both (.fresh 70 (.post 1 0 (sg 0 [bv 1 3,bt 0 (.c2 (.xint 0) (.var 69) (.lit 0))]) 70 (.br (.var 70)
 (.need (.cmp .leq (.lit 0) (.c2 (.xint 0) (.var 68) (.lit 0))) (.need (.cmp .lss (.c2 (.xint 0) (.var 68) (.lit 0)) (.lit 16)) (.need (.cmp .lss (.lit 0) (.dlen (.var 61))) (.br (.c2 (.xbool 0) (.var 61) (.c2 (.xint 0) (.var 68) (.lit 0)))
 (.need (.cmp .lss (.lit 0) (.dlen (.var 59))) (.br (.not (.c2 (.xbool 0) (.var 59) (.c2 (.xint 0) (.var 68) (.lit 0))))
 (.pre 2 (sg 0 [bv 4 17,bv 2 2,bt 1 (.c2 (.xint 0) (.var 68) (.lit 0)),bt 0 (r8 1),bg 3 16]) (.both (.fresh 71 (.post 2 0 (sg 0 [bv 4 17,bv 2 2,bt 1 (.c2 (.xint 0) (.var 68) (.lit 0)),bt 0 (r8 1),bg 3 16]) 71 (.back 0 57 (sg 1000 [bg 1007 65,bv 1004 61,bv 1002 59,bv 1006 63,bv 1005 71,bg 1003 60,bg 1001 58,bg 1000 57])))) .top))
 qiK))
 qiK))))
 qiK))) .top))) .top) (.ret 0 (sg 18 [bg 19 64,bv 18 62])))))))))))))) .top) .top) .top) .top)))))))))))))))))))) .top))))))))))))))))))) .top)))
theorem qtn:ql ⟨Tryz.prog,qaR,[qdP,qfP,qaJ],[qnH]⟩ 100000 Tryz.f68 = qkV:=by kernel_rfl
theorem qz6 (hd:∀ c ∈ ([qdP,qfP,qaJ]:List Ctr),c.ok Tryz.prog) (h:∀ ρ:Env,ρ.good->(qaR).pre ρ->qkV.den ⟨Tryz.prog,qaR,[qdP,qfP,qaJ],[qnH]⟩ ρ):(qaR).ok Tryz.prog :=
 qe Tryz.func68 (fun a w=>Tryz.call68 a w) hd 100000 (fun ρ hg hp=>by rw [qtn]; exact h ρ hg hp)
end Go.Proofs

set_option linter.unusedSimpArgs false
set_option linter.unusedVariables false
namespace Go.Proofs
open Go Go.Eng
theorem qrM:∀ {ks:List IntKind} {a b:List Int},a.length = ks.length->b.length = ks.length->qI ks a = qI ks b->a = b
 | [],[],[],_,_,_=>rfl
 | k :: ks,x :: a,y :: b,h1,h2,h=>by
  simp only [qI,List.zipWith_cons_cons,List.cons.injEq,Value.int.injEq,true_and] at h
  rw [h.1,qrM (ks:=ks) (by simpa using h1) (by simpa using h2) h.2]
 | [],_ :: _,_,h,_,_=>by simp at h
 | [],_,_ :: _,_,h,_=>by simp at h
 | _ :: _,[],_,h,_,_=>by simp at h
 | _ :: _,_ :: _,[],_,h,_=>by simp at h
theorem qwF {g:Bool} {a b:List Value} {n:Nat} (ha:a.length = n) (hb:b.length = n) (hg:g = true∨n = 1) (h:mkV g a = mkV g b):a = b:=by
 cases g with
 | true =>
  simp only [mkV,Value.agg.injEq] at h
  simpa using congrArg Array.toList h
 | false =>
  obtain rfl:=hg.resolve_left (by simp)
  match a,b,ha,hb with
  | [x],[y],_,_ =>
   simp only [mkV,List.headD_cons] at h
   rw [h]
theorem qsL {mt:MT} (hk:mt.kagg = true∨mt.kks.length = 1) (hv:mt.vagg = true∨mt.vpat.length = 1):∀ {l l':List ME},(∀ x ∈ l,x.k.length = mt.kks.length/\q6 mt.vpat x.v)->(∀ x ∈ l',x.k.length = mt.kks.length/\q6 mt.vpat x.v)->l.map mt.ent = l'.map mt.ent->l = l'
 | [],[],_,_,_=>rfl
 | [],_ :: _,_,_,h=>by simp at h
 | _ :: _,[],_,_,h=>by simp at h
 | x :: l,y :: l',h1,h2,h=>by
  simp only [List.map_cons,List.cons.injEq] at h
  obtain ⟨e1,e2⟩:=h
  have hx:=h1 x (List.mem_cons_self ..)
  have hy:=h2 y (List.mem_cons_self ..)
  simp only [MT.ent,MapEntry.mk.injEq] at e1
  obtain ⟨a1,a2,a3⟩:=e1
  have lk:∀ {k:List Int},k.length = mt.kks.length->(qI mt.kks k).length = mt.kks.length:=fun h=>by simp [qI,h]
  have b1:=qrM hx.1 hy.1 (qwF (lk hx.1) (lk hy.1) hk a1)
  have b2:=qwF hx.2.1 hy.2.1 hv a2
  obtain ⟨xk,xv,xb⟩:=x
  obtain ⟨yk,yv,yb⟩:=y
  simp only at b1 b2 a3
  subst b1 b2 a3
  rw [qsL hk hv (fun z hz=>h1 z (List.mem_cons_of_mem _ hz)) (fun z hz=>h2 z (List.mem_cons_of_mem _ hz)) e2]
theorem qrn {h:Hp} {b:Nat} {mt:MT} {l l':List ME} {c c':Nat} (hk:mt.kagg = true∨mt.kks.length = 1) (hv:mt.vagg = true∨mt.vpat.length = 1) (h1:qV h b mt l c) (h2:qV h b mt l' c'):l = l'/\c = c':=by
 have e:=h1.1.symm.trans h2.1
 simp only [MT.obj,Option.some.injEq,Obj.map.injEq] at e
 exact ⟨qsL hk hv (fun x hx=>⟨(h1.2.1 x hx).1,(h1.2.1 x hx).2.1⟩) (fun x hx=>⟨(h2.2.1 x hx).1,(h2.2.1 x hx).2.1⟩) (by simpa using congrArg Array.toList e.1),e.2⟩
theorem qk1 {h:Hp} {b:Nat} {l l':List ME} {c c':Nat} (h1:qV h b mtO l c) (h2:qV h b mtO l' c'):l = l'/\c = c':=qrn (.inl rfl) (.inr rfl) h1 h2
theorem qs3 {h:Hp} {b:Nat} {l l':List ME} {c c':Nat} (h1:qV h b mtI l c) (h2:qV h b mtI l' c'):l = l'/\c = c':=qrn (.inr rfl) (.inr rfl) h1 h2
theorem qcc {h:Hp} {v:Value} {cl cl':Cl} (h1:qh h v cl) (h2:qh h v cl'):cl' = cl:=by
 obtain ⟨b,l,c,rfl,hm,hi,_,hn,_⟩:=h1
 obtain ⟨b2,l2,c2,e,hm2,hi2,_,hn2,_⟩:=h2
 simp only [Value.map.injEq,Option.some.injEq] at e
 subst e
 obtain ⟨rfl,rfl⟩:=qk1 hm hm2
 funext o i
 by_cases ho:∃ x ∈ l,x.k = o
 ·obtain ⟨x,hx,rfl⟩:=ho
  obtain ⟨b',m,c',e1,_,e2,e3⟩:=hi x hx
  obtain ⟨b2',m2,c2',e1',_,e2',e3'⟩:=hi2 x hx
  rw [e1] at e1'
  simp only [List.cons.injEq,Value.map.injEq,Option.some.injEq,and_true] at e1'
  subst e1'
  obtain ⟨rfl,_⟩:=qs3 e2 e2'
  rw [e3,e3']
 ·have:∀ x ∈ l,x.k ≠ o:=fun x hx he=>ho ⟨x,hx,he⟩
  rw [hn o i this,hn2 o i this]
theorem qc2 {h h':Hp} {b:Nat} {mt:MT} {l:List ME} {c:Nat} (hm:qV h b mt l c) (hl:Hp.le h h'):qV h' b mt l c:=⟨hl _ _ hm.1,hm.2⟩
theorem qhw {h h':Hp} {v:Value} {cl:Cl} (hc:qh h v cl) (hl:Hp.le h h'):qh h' v cl:=by
 obtain ⟨b,l,c,e,hm,hi,hr⟩:=hc
 exact ⟨b,l,c,e,qc2 hm hl,fun x hx=>by
  obtain ⟨b',m,c',e1,e2,e3,e4⟩:=hi x hx
  exact ⟨b',m,c',e1,e2,qc2 e3 hl,e4⟩,hr⟩
theorem qvi {l:List ME} {k:List Int}:qbt l k = true↔∃ x ∈ l,x.k = k:=by
 unfold qbt
 rw [List.any_eq_true]
 exact ⟨fun ⟨x,h1,h2⟩=>⟨x,h1,by simpa using h2⟩,fun ⟨x,h1,h2⟩=>⟨x,h1,by simpa using h2⟩⟩
theorem qhE {l:List ME} {k:List Int} (h:qbt l k = false):∀ x ∈ l,x.k ≠ k:=fun x hx he=>by
 rw [qvi.2 ⟨x,hx,he⟩] at h; cases h
theorem qvm {m:List ME} {i i' t:Int} {c:Nat}:qbf (qb6 m [i] [.int .u64 t] c).1 i' = if i' = i then some t else qbf m i':=by
 unfold qb6
 by_cases h:qbt m [i] = true
 ·rw [if_pos h]
  unfold qbf
  simp only
  rw [List.find?_map]
  have hp:((fun x:ME=>x.k == [i']) ∘ fun x:ME=>if x.k = [i] then { x with v:=[.int .u64 t] } else x) = fun x:ME=>x.k == [i']:=by
   funext x
   simp only [Function.comp]
   split <;> rfl
  rw [hp,Option.map_map]
  by_cases hi:i' = i
  ·subst hi
   rw [if_pos rfl]
   obtain ⟨x,hx,hk⟩:=qvi.1 h
   cases hf:m.find? fun x=>x.k == [i'] with
   | none =>
    rw [List.find?_eq_none] at hf
    exact absurd (by simpa using hk) (hf x hx)
   | some y =>
    have hy:=List.find?_some hf
    simp only [beq_iff_eq] at hy
    simp [hy,qQ]
  ·rw [if_neg hi]
   cases hf:m.find? fun x=>x.k == [i'] with
   | none=>rfl
   | some y =>
    have hy:=List.find?_some hf
    simp only [beq_iff_eq] at hy
    have:y.k ≠ [i]:=by rw [hy]; simp [hi]
    simp [this]
 ·rw [if_neg h]
  have hn:=qhE (by simpa using h)
  unfold qbf
  simp only
  rw [List.find?_append]
  by_cases hi:i' = i
  ·subst hi
   rw [if_pos rfl]
   have:m.find? (fun x=>x.k == [i']) = none:=by
    rw [List.find?_eq_none]
    intro x hx hk
    exact hn x hx (by simpa using hk)
   rw [this]; simp [qQ]
  ·rw [if_neg hi]
   have:([⟨[i],[.int .u64 t],c⟩]:List ME).find? (fun x=>x.k == [i']) = none:=by
    simp [Ne.symm hi]
   rw [this,Option.or_none]
theorem qij {i t:Int}:([i]:List Int).length = mtI.kks.length/\q6 mtI.vpat [.int .u64 t]:=⟨rfl,rfl,fun c k v hk hv=>by
 cases c with
 | zero=>simp only [mtI,List.getElem?_cons_zero,Option.some.injEq] at hk hv; subst hk hv; rfl
 | succ c=>simp [mtI] at hk⟩
theorem qja {h:Hp} {b x:Nat} {X:Obj} (hne:x ≠ b):Hp.upd h b X x = h x:=by unfold Hp.upd; rw [if_neg hne]
theorem qbc {h:Hp} {b:Nat} {X:Obj}:Hp.upd h b X b = some X:=by unfold Hp.upd; rw [if_pos rfl]
theorem qU {h:Hp} {b x:Nat} {X:Obj} {mt:MT} {l:List ME} {c:Nat} (hne:x ≠ b) (hm:qV h x mt l c):qV (Hp.upd h b X) x mt l c:=⟨by rw [qja hne]; exact hm.1,hm.2⟩
theorem q2r {h:Hp} {b b' c c':Nat} {l m:List ME} {x:ME} {cl:Cl} {i t:Int} (hm:qV h b mtO l c) (hi:∀ x ∈ l,∃ b' m c',x.v = [.map (some b')]/\b' ≠ b/\qV h b' mtI m c'/\∀ i,cl x.k i = qbf m i) (hd:∀ x ∈ l,∀ y ∈ l,x.k ≠ y.k->x.v ≠ y.v) (hn:∀ o i,(∀ x ∈ l,x.k ≠ o)->cl o i = none)
  (hr:∀ o i t,cl o i = some t->0 <= i/\i < 16/\0 <= t/\t < 18446744073709551616) (hx:x ∈ l) (hb:x.v = [.map (some b')]) (hI:qV h b' mtI m c') (i0:0 <= i) (i1:i < 16) (t0:0 <= t) (t1:t < 18446744073709551616) :
  qh (Hp.upd h b' (mtI.obj (qb6 m [i] [.int .u64 t] c'))) (.map (some b)) (qdq cl x.k i t):=by
 obtain ⟨b2,m2,c2,e1,e2,e3,e4⟩:=hi x hx
 rw [hb] at e1
 simp only [List.cons.injEq,Value.map.injEq,Option.some.injEq,and_true] at e1
 subst e1
 obtain ⟨rfl,rfl⟩:=qs3 hI e3
 have hF:∀ o' i',qdq cl x.k i t o' i' = if o' = x.k/\i' = i then some t else cl o' i':=fun o' i'=>by unfold qdq; rw [if_pos ⟨i0,i1⟩]
 refine ⟨b,l,c,rfl,qU (Ne.symm e2) hm,fun y hy=>?_,hd,fun o' i' ho=>?_,fun o' i' t' ht=>?_⟩
 ·by_cases hk:y.k = x.k
  ·have hvv:y.v = [.map (some b')]:=by
    obtain ⟨jx,hjx⟩:=List.getElem?_of_mem hx
    obtain ⟨jy,hjy⟩:=List.getElem?_of_mem hy
    have hj:=qgg hm.2 hjy hjx hk
    rw [hj,hjx] at hjy
    rw [<- Option.some.inj hjy]; exact hb
   refine ⟨b',(qb6 m [i] [.int .u64 t] c').1,(qb6 m [i] [.int .u64 t] c').2,hvv,e2,⟨qbc,qmy hI.2 (qij (i:=i) (t:=t)).1 (qij (i:=i) (t:=t)).2⟩,fun i'=>?_⟩
   rw [hF,qvm,hk,e4]
   by_cases hii:i' = i
   ·simp [hii]
   ·simp [hii]
  ·obtain ⟨b3,m3,c3,f1,f2,f3,f4⟩:=hi y hy
   have hne:b3 ≠ b':=fun he=>hd y hy x hx hk (by rw [f1,hb,he])
   refine ⟨b3,m3,c3,f1,f2,qU hne f3,fun i'=>?_⟩
   rw [hF,if_neg (fun h=>hk h.1),f4]
 ·rw [hF,if_neg (fun h=>ho x hx h.1.symm),hn o' i' ho]
 ·rw [hF] at ht
  split at ht
  ·rename_i he
   obtain rfl:=Option.some.inj ht
   exact ⟨by omega,by omega,t0,t1⟩
  ·exact hr _ _ _ ht
theorem q2s {h:Hp} {b b' c:Nat} {l:List ME} {cl:Cl} {o:List Int} {i t:Int} (hm:qV h b mtO l c) (hi:∀ x ∈ l,∃ b' m c',x.v = [.map (some b')]/\b' ≠ b/\qV h b' mtI m c'/\∀ i,cl x.k i = qbf m i) (hd:∀ x ∈ l,∀ y ∈ l,x.k ≠ y.k->x.v ≠ y.v) (hn:∀ o i,(∀ x ∈ l,x.k ≠ o)->cl o i = none)
  (hr:∀ o i t,cl o i = some t->0 <= i/\i < 16/\0 <= t/\t < 18446744073709551616) (ho:qbt l o = false) (hol:o.length = 32) (hbb:b' ≠ b) (hfree:∀ x ∈ l,x.v ≠ [.map (some b')]) (i0:0 <= i) (i1:i < 16) (t0:0 <= t) (t1:t < 18446744073709551616) :
  qh (Hp.upd (Hp.upd h b (mtO.obj (qb6 l o [.map (some b')] c))) b' (mtI.obj (qb6 [] [i] [.int .u64 t] 0))) (.map (some b)) (qdq cl o i t):=by
 have hF:∀ o' i',qdq cl o i t o' i' = if o' = o/\i' = i then some t else cl o' i':=fun o' i'=>by unfold qdq; rw [if_pos ⟨i0,i1⟩]
 have hput:qb6 l o [.map (some b')] c = (l ++ [⟨o,[.map (some b')],c⟩],c + 1):=by unfold qb6; rw [if_neg (by rw [ho]; simp)]
 have hfit:q6 mtO.vpat [.map (some b')]:=⟨rfl,fun c k v hk hv=>by
  cases c with
  | zero=>simp only [mtO,List.getElem?_cons_zero,Option.some.injEq] at hk hv; subst hk hv; rfl
  | succ c=>simp [mtO] at hk⟩
 have hno:=qhE ho
 refine ⟨b,(qb6 l o [.map (some b')] c).1,(qb6 l o [.map (some b')] c).2,rfl,⟨by rw [qja (Ne.symm hbb)]; exact qbc,qmy hm.2 (by rw [hol]; rfl) hfit⟩,fun y hy=>?_,fun x hx y hy hk=>?_,fun o' i' ho'=>?_,fun o' i' t' ht=>?_⟩
 ·rw [hput] at hy
  rcases List.mem_append.1 hy with hy | hy
  ·obtain ⟨b3,m3,c3,f1,f2,f3,f4⟩:=hi y hy
   have hne:b3 ≠ b':=fun he=>hfree y hy (by rw [f1,he])
   refine ⟨b3,m3,c3,f1,f2,qU hne (qU f2 f3),fun i'=>?_⟩
   rw [hF,if_neg (fun h=>hno y hy h.1),f4]
  ·rw [List.mem_singleton] at hy
   subst hy
   refine ⟨b',(qb6 [] [i] [.int .u64 t] 0).1,(qb6 [] [i] [.int .u64 t] 0).2,rfl,hbb,⟨qbc,qmy (c:=0) (l:=[]) ⟨fun x hx=>(by cases hx),List.Pairwise.nil⟩ (qij (i:=i) (t:=t)).1 (qij (i:=i) (t:=t)).2⟩,fun i'=>?_⟩
   rw [hF,qvm,hn o i' hno]
   by_cases hii:i' = i
   ·simp [hii]
   ·simp [hii,qbf]
 ·rw [hput] at hx hy
  rcases List.mem_append.1 hx with hx | hx <;> rcases List.mem_append.1 hy with hy | hy
  ·exact hd x hx y hy hk
  ·rw [List.mem_singleton] at hy; subst hy; exact hfree x hx
  ·rw [List.mem_singleton] at hx; subst hx; exact (hfree y hy).symm
  ·rw [List.mem_singleton] at hx hy; subst hx hy; exact absurd rfl hk
 ·rw [hput] at ho'
  rw [hF,if_neg (fun h=>ho' _ (List.mem_append_right _ (List.mem_singleton.2 rfl)) h.1.symm),hn o' i' fun x hx=>ho' x (List.mem_append_left _ hx)]
 ·rw [hF] at ht
  split at ht
  ·obtain rfl:=Option.some.inj ht
   rename_i he
   exact ⟨by omega,by omega,t0,t1⟩
  ·exact hr _ _ _ ht
end Go.Proofs

set_option linter.unusedSimpArgs false
set_option linter.unusedVariables false
namespace Go.Proofs
open Go Go.Eng
theorem qfk {m:List ME} {c:Nat} (hM:MWf mtI m c) {e:ME} (he:e ∈ m):∃ z,e.k = [z]:=qjd (hM.1 e he).1
theorem qkE {m:List ME} {i t:Int} (h:qbf m i = some t):∃ e ∈ m,e.k = [i]/\qQ (e.v.headD .nilFunc) = t:=by
 unfold qbf at h
 obtain ⟨e,he,rfl⟩:=Option.map_eq_some_iff.1 h
 exact ⟨e,List.mem_of_find?_eq_some he,by simpa using List.find?_some he,rfl⟩
theorem qfe {m:List ME} {c:Nat} (hM:MWf mtI m c) {e:ME} (he:e ∈ m) {z:Int} (hk:e.k = [z]):qbf m z = some (qQ (e.v.headD .nilFunc)):=by
 unfold qbf
 cases hf:m.find? fun x=>x.k == [z] with
 | none =>
  rw [List.find?_eq_none] at hf
  exact absurd (by simpa using hk) (hf e he)
 | some y =>
  have hy:y.k = [z]:=by simpa using List.find?_some hf
  obtain ⟨j,hj⟩:=List.getElem?_of_mem he
  obtain ⟨j',hj'⟩:=List.getElem?_of_mem (List.mem_of_find?_eq_some hf)
  have hjj:=qgg hM hj hj' (hk.trans hy.symm)
  rw [hjj,hj'] at hj
  rw [Option.some.inj hj]; rfl
theorem qu2 {m:List ME} {c:Nat} {cl:Cl} {o:List Int} {s t:Int} {L Hs:List Int} (hM:MWf mtI m c) (he:∀ i,cl o i = qbf m i) (hr:∀ o i t,cl o i = some t->0 <= i/\i < 16/\0 <= t/\t < 18446744073709551616):m.any (qiQ o s t L Hs) = qb3 cl o s t L Hs:=by
 apply Bool.eq_iff_iff.2
 unfold qb3
 rw [List.any_eq_true,List.any_eq_true]
 constructor
 ·rintro ⟨e,hem,hb⟩
  obtain ⟨z,hz⟩:=qfk hM hem
  have hg:=qfe hM hem hz
  have hc:=(he z).trans hg
  obtain ⟨z0,z1,_⟩:=hr _ _ _ hc
  refine ⟨z.toNat,List.mem_range.2 (by omega),?_⟩
  rw [Int.toNat_of_nonneg z0,hc]
  unfold qiQ at hb
  rw [hz] at hb
  exact hb
 ·rintro ⟨i,hi,hb⟩
  cases hc:cl o i with
  | none=>rw [hc] at hb; cases hb
  | some tt =>
   rw [hc] at hb
   obtain ⟨e,hem,hk,hv⟩:=qkE ((he i).symm.trans hc)
   refine ⟨e,hem,?_⟩
   unfold qiQ
   rw [hk,hv]
   exact hb
theorem qeJ {h:Hp} {v:Value} {cl:Cl} {bi:Nat} {mo:Option Nat} {since st:Nat} {seen:Array Nat} {X:Obj} (hc:qh h v cl) (hb:h bi = some (.mapIter mo since seen st)):qh (Hp.upd h bi X) v cl:=by
 have hne:∀ {b:Nat} {mt:MT} {l:List ME} {c:Nat},qV h b mt l c->b ≠ bi:=fun hm he=>by
  rw [he] at hm
  have:=hm.1.symm.trans hb
  simp [MT.obj] at this
 obtain ⟨b,l,c,e,hm,hi,hr⟩:=hc
 exact ⟨b,l,c,e,qU (hne hm) hm,fun x hx=>by
  obtain ⟨b',m,c',e1,e2,e3,e4⟩:=hi x hx
  exact ⟨b',m,c',e1,e2,qU (hne e3) e3,e4⟩,hr⟩
theorem q3G {m:List ME} {c:Nat} (hM:MWf mtI m c) {e:ME} (he:e ∈ m) {seen:List Nat} {p:ME->Bool}:((m.filter fun y=>(seen ++ [e.born]).contains y.born).any p) = ((m.filter fun y=>seen.contains y.born).any p || p e):=by
 apply Bool.eq_iff_iff.2
 rw [Bool.or_eq_true,List.any_eq_true,List.any_eq_true]
 constructor
 ·rintro ⟨y,hy,hp⟩
  rw [List.mem_filter] at hy
  obtain ⟨hy1,hy2⟩:=hy
  simp only [List.contains_eq_mem,List.mem_append,List.mem_singleton,decide_eq_true_eq] at hy2
  rcases hy2 with h | h
  ·exact .inl ⟨y,List.mem_filter.2 ⟨hy1,by simpa using h⟩,hp⟩
  ·right
   have:y = e:=by
    obtain ⟨i,hi⟩:=List.getElem?_of_mem hy1
    obtain ⟨j,hj⟩:=List.getElem?_of_mem he
    have hij:i = j:=born_get hM hi hj h
    rw [hij,hj] at hi
    exact (Option.some.inj hi).symm
   rw [<- this]; exact hp
 ·rintro (⟨y,hy,hp⟩ | hp)
  ·rw [List.mem_filter] at hy
   exact ⟨y,List.mem_filter.2 ⟨hy.1,by have:=hy.2; simp only [List.contains_eq_mem,decide_eq_true_eq] at this; simp [this]⟩,hp⟩
  ·exact ⟨e,List.mem_filter.2 ⟨he,by simp⟩,hp⟩
where
 born_get {m:List ME} {c:Nat} (hM:MWf mtI m c) {i j:Nat} {x y:ME} (hi:m[i]? = some x) (hj:m[j]? = some y) (h:x.born = y.born):i = j:=by
  have hp:=List.pairwise_iff_getElem.1 hM.2
  obtain ⟨h1,e1⟩:=List.getElem?_eq_some_iff.1 hi
  obtain ⟨h2,e2⟩:=List.getElem?_eq_some_iff.1 hj
  rcases Nat.lt_trichotomy i j with hlt | heq | hlt
  ·have:=(hp i j h1 h2 hlt).1; rw [e1,e2] at this; omega
  ·exact heq
  ·have:=(hp j i h2 h1 hlt).1; rw [e1,e2] at this; omega
theorem qg2 {h:Hp} {it:Value} {bi b since st c:Nat} {seen:List Nat} {m:List ME} (hit:it = .pointer (some ⟨bi,0,none⟩)) (hb:h bi = some (.mapIter (some b) since seen.toArray st)) (hM:qV h b mtI m c):qbo h it = (m.filter fun y=>!(seen.contains y.born)).length:=by
 subst hit
 unfold qbo
 simp only [hb,hM.1,MT.obj,List.toList_toArray,List.contains_toArray]
 rw [List.filter_map,List.length_map]
 rfl
theorem qgM {m:List ME} {e:ME} (he:e ∈ m) {seen:List Nat} (hn:¬ e.born ∈ seen):(m.filter fun y=>!((seen ++ [e.born]).contains y.born)).length < (m.filter fun y=>!(seen.contains y.born)).length:=by
 have h1:(m.filter fun y=>!((seen ++ [e.born]).contains y.born)) = ((m.filter fun y=>!(seen.contains y.born)).filter fun y=>!((seen ++ [e.born]).contains y.born)):=by
  rw [List.filter_filter]
  refine List.filter_congr fun y hy=>?_
  by_cases hs:y.born ∈ seen <;> simp [hs]
 rw [h1]
 refine List.length_filter_lt_length_iff_exists.2 ⟨e,List.mem_filter.2 ⟨he,by simp [hn]⟩,by simp⟩
section
variable {h0 H:Hp} {v it:Value} {o:List Int} {s t:Int} {L Hs:List Int} {cl:Cl}
theorem qsc {bi:Nat} (hc:qh h0 v cl) (hno:∀ i,cl o i = none) (hle:Hp.le h0 H) (hit:it = .pointer (some ⟨bi,0,none⟩)) (hb:H bi = some (.mapIter none 0 #[] 0)):qqj h0 H v it o s t L Hs false:=fun cl' h'=>by
 rw [qcc hc h']
 exact ⟨qhw hc hle,[],[],⟨bi,none,0,0,hit,hb,.inl ⟨rfl,rfl⟩⟩,fun i=>by rw [hno]; rfl,rfl⟩
theorem qsk {bi b c:Nat} {m:List ME} (hc:qh h0 v cl) (hm:qV h0 b mtI m c) (he:∀ i,cl o i = qbf m i) (hle:Hp.le h0 H) (hit:it = .pointer (some ⟨bi,0,none⟩)) (hb:H bi = some (.mapIter (some b) c #[] c)):qqj h0 H v it o s t L Hs false:=fun cl' h'=>by
 rw [qcc hc h']
 have hmH:=qc2 hm hle
 have hne:bi ≠ b:=fun e=>by
  rw [e] at hb
  have:=hmH.1.symm.trans hb
  simp [MT.obj] at this
 refine ⟨qhw hc hle,m,[],⟨bi,some b,c,c,hit,hb,.inr ⟨b,c,rfl,hne,hmH,Nat.le_refl _,.inl rfl,fun n hn=>by cases hn⟩⟩,he,?_⟩
 have:(m.filter fun e=>([]:List Nat).contains e.born) = []:=by simp
 rw [this]; rfl
theorem q5b {bi b since st c:Nat} {m:List ME} {seen:List Nat} {e:ME} {x y:Bool} (hc:qh h0 v cl) (hcH:qh H v cl) (hit:it = .pointer (some ⟨bi,0,none⟩)) (hb:H bi = some (.mapIter (some b) since seen.toArray st)) (hne:bi ≠ b) (hm:qV H b mtI m c) (hcs:c <= since) (hseen:∀ n ∈ seen,∃ e ∈ m,e.born = n)
  (he:∀ i,cl o i = qbf m i) (hem:e ∈ m) (hx:x = (m.filter fun e=>seen.contains e.born).any (qiQ o s t L Hs)) (hy:y = (x || qiQ o s t L Hs e)):qqj h0 (Hp.upd H bi (.mapIter (some b) since (seen ++ [e.born]).toArray c)) v it o s t L Hs y:=fun cl' h'=>by
 rw [qcc hc h']
 refine ⟨qeJ hcH hb,m,seen ++ [e.born],⟨bi,some b,since,c,hit,qbc,.inr ⟨b,c,rfl,hne,qU (Ne.symm hne) hm,hcs,.inr (.inr ⟨e,hem,(hm.2.1 e hem).2.2⟩),fun n hn=>?_⟩⟩,he,?_⟩
 ·rcases List.mem_append.1 hn with h | h
  ·exact hseen n h
  ·rw [List.mem_singleton] at h; exact ⟨e,hem,h.symm⟩
 ·rw [q3G hm.2 hem,<- hx,hy]
theorem q1z {since c:Nat} {m:List ME} {seen:List Nat} {x:Bool} (hM:MWf mtI m c) (hc:qh h0 v cl) (hcH:qh H v cl) (hcs:c <= since) (he:∀ i,cl o i = qbf m i) (hx:x = (m.filter fun e=>seen.contains e.born).any (qiQ o s t L Hs)) (hall:∀ e ∈ m,e.born < since->e.born ∈ seen) :
  ∀ cl',qh h0 v cl'->qh H v cl'/\x = qb3 cl' o s t L Hs:=fun cl' h'=>by
 rw [qcc hc h']
 refine ⟨hcH,?_⟩
 have hf:(m.filter fun e=>seen.contains e.born) = m:=List.filter_eq_self.2 fun e hem=>by
  have:=hall e hem (by have:=(hM.1 e hem).2.2; omega)
  simpa using this
 obtain ⟨b,l,c0,rfl,_,_,_,_,hr⟩:=hc
 rw [hf] at hx
 rw [hx]; exact qu2 hM he hr
end
end Go.Proofs

set_option linter.unusedSimpArgs false
set_option linter.unusedVariables false
namespace Go.Proofs
open Go Go.Eng
set_option maxRecDepth 20000
theorem qtL:qcp.ok Tryz.prog:=q2T (by simp) fun ρ hg hp=>by
 simp (config:={ maxSteps:=4000000 }) [qqH,qcp]
 intro u _ v _ b hv hu
 exact ⟨b,[],0,hv,⟨by rw [hu]; simp [Hp.one,MT.obj],fun x hx=>(by cases hx),List.Pairwise.nil⟩,fun x hx=>(by cases hx),fun x hx=>(by cases hx),fun _ _ _=>rfl,fun _ _ _ h=>(by cases h)⟩
theorem qzW:qfP.ok Tryz.prog:=q6U (by simp) fun ρ hg hp=>by
 obtain ⟨h0,h1,h2,h3⟩:=hp
 simp (config:={ maxSteps:=4000000 }) [qzk,qfP]
 have hu:(ρ 0).i <= (ρ 1).i->qc .sub .u64 (ρ 1).i (ρ 0).i = (ρ 1).i - (ρ 0).i:=fun h=>by
  show IntKind.wrap .u64 _ = _
  rw [qwK]; omega
 refine ⟨fun h=>?_,fun h=>?_⟩
 ·rw [hu h]; unfold qcI; rw [decide_eq_true h,Bool.true_and]; rfl
 ·unfold qcI; rw [decide_eq_false (by omega),Bool.false_and]
theorem qku (d:qf):[qa d 0,qa d 1,qa d 2,qa d 3,qa d 4,qa d 5,qa d 6,qa d 7,qa d 8,qa d 9,qa d 10,qa d 11,qa d 12,qa d 13,qa d 14,qa d 15,qa d 16,qa d 17,qa d 18,qa d 19,qa d 20,qa d 21,qa d 22,qa d 23,qa d 24,qa d 25,qa d 26,qa d 27,qa d 28,qa d 29,qa d 30,qa d 31] = qd d 32:=rfl
theorem qj2:(⟨true,[.u8,.u8,.u8,.u8,.u8,.u8,.u8,.u8,.u8,.u8,.u8,.u8,.u8,.u8,.u8,.u8,.u8,.u8,.u8,.u8,.u8,.u8,.u8,.u8,.u8,.u8,.u8,.u8,.u8,.u8,.u8,.u8],false,[.any],[.vnilm]⟩:MT) = mtO:=rfl
theorem qkl:(⟨false,[.i64],false,[.int .u64],[.vint .u64 (.lit 0)]⟩:MT) = mtI:=rfl
theorem qs4 (ρ:Env):List.map (fun t=>(T.den ρ t).v) mtO.zero = [.map none]:=rfl
theorem qsy (ρ:Env):List.map (fun t=>(T.den ρ t).v) mtI.zero = [.int .u64 0]:=rfl
theorem qip (row:List Value):qal [row] 0 0 = row.headD .nilFunc:=by cases row <;> rfl
theorem qnF {l:List ME} {k:List Int} {z:List Value} (h:qbt l k = true):∃ x ∈ l,x.k = k/\qcx l k z = x.v:=by
 obtain ⟨j,x,hj,hk,_,hg⟩:=qfF (mt:=mtO) (i:=0) h
 exact ⟨x,List.mem_of_getElem? hj,hk,hg z⟩
theorem q3g {cl:Cl} {o:List Int} {i t:Int} (h:qp4 i = false):qdq cl o i t = cl:=by
 unfold qdq
 rw [if_neg (of_decide_eq_false h)]
theorem q24 {l:List ME} {k:List Int} {v z:List Value} {c:Nat} (h:qbt l k = false):qcx (qb6 l k v c).1 k z = v:=by
 have hn:=qhE h
 unfold qb6
 rw [if_neg (by rw [h]; simp)]
 unfold qcx
 simp only
 rw [List.find?_append]
 have:l.find? (fun x=>x.k == k) = none:=by
  rw [List.find?_eq_none]
  intro x hx hk
  exact hn x hx (by simpa using hk)
 rw [this]; simp
theorem qb0 {ρ:Env} {l:List SH} {H:Hp} (n t:Nat) (hs:qY ρ l H) (hm:SH.abs n t ∈ l):Hp.le (ρ n).h H:=by
 obtain ⟨hb,lb,db⟩:=qcq hs hm
 exact Hp.le_trans db lb
theorem qoo {ρ:Env} {n m t t':Nat} {H:Hp} (hs:qY ρ [SH.abs n t,SH.abs m t'] H):Hp.disj (ρ n).h (ρ m).h:=by
 obtain ⟨h1,h2,hd,hu,hx,h3,h4,hd2,hu2,hy,_⟩:=hs
 intro b
 cases hb1:(ρ n).h b with
 | none=>exact .inl rfl
 | some X =>
  cases hb2:(ρ m).h b with
  | none=>exact .inr rfl
  | some Y =>
   have e1:=hx.1 b X hb1
   have e2:=hy.1 b Y hb2
   have e3:h2 b = some Y:=by rw [hu2]; simp [Hp.union,e2]
   rcases hd b with h | h
   ·rw [e1] at h; cases h
   ·rw [e3] at h; cases h
theorem q5F {b:Nat}:q6 mtO.vpat [.map (some b)]:=⟨rfl,fun c k v hk hv=>by
 cases c with
 | zero=>simp only [mtO,List.getElem?_cons_zero,Option.some.injEq] at hk hv; subst hk hv; rfl
 | succ c=>simp [mtO] at hk⟩
theorem qxn:qdd.ok Tryz.prog:=q57 (by simp [qq4]) fun ρ hg hp=>by
 obtain ⟨⟨cl,hcl⟩,h0,h1⟩:=hp
 have hcl0:=hcl
 simp (config:={ maxSteps:=4000000 }) [quD,qdd,qct,qku,qj2,qkl,qip,qb,qs4,qsy]
 obtain ⟨b,l,c,hv,hm,hi,hd,hn,hr⟩:=hcl
 intro u _ p _ hp
 refine ⟨fun hpf cl' h'=>by rw [q3g (hp ▸ hpf)]; exact h',fun hpt=>⟨l,.inr ⟨b,hv,c,hm⟩,?_⟩⟩
 have hpp:0 <= (ρ 2).i/\(ρ 2).i < 16:=of_decide_eq_true (hp ▸ hpt:qp4 (ρ 2).i = true)
 cases hh:qbt l (qd (ρ 1).d 32) with
 | false =>
  refine .inl ⟨by rw [qin hh]; rfl,fun m _ v _ b' hvv hmh H _ hst=>?_⟩
  obtain ⟨hA,lA,dA⟩:=qcq hst (n:=10) (t:=1003) (by simp)
  obtain ⟨hB,lB,dB⟩:=qcq hst (n:=5) (t:=1003) (by simp)
  have hle:Hp.le (ρ 5).h H.h:=by
   have h:=qb0 5 1003 hst (by simp)
   simpa using h
  have hone:H.h b' = some (.map #[] 0):=by
   have h:=qb0 10 1003 hst (by simp)
   have h:Hp.le m.h H.h:=by simpa using h
   exact h b' _ (by rw [hmh]; simp [Hp.one])
  have hnew:∀ X,(ρ 5).h b' = some X->False:=by
   intro X hX
   have h:=qoo hst
   have h:Hp.disj m.h (ρ 5).h:=by simpa using h
   rcases h b' with h | h
   ·rw [hmh] at h; simp [Hp.one] at h
   ·rw [hX] at h; cases h
  have hbb:b' ≠ b:=fun he=>hnew _ (by rw [he]; exact hm.1)
  have hfree:∀ x ∈ l,x.v ≠ [.map (some b')]:=fun x hx he=>by
   obtain ⟨b3,m3,c3,f1,f2,f3,f4⟩:=hi x hx
   rw [he] at f1
   simp only [List.cons.injEq,Value.map.injEq,Option.some.injEq,and_true] at f1
   exact hnew _ (by rw [f1]; exact f3.1)
  have hmH:=qc2 hm hle
  have hiH:∀ x ∈ l,∃ b' m c',x.v = [.map (some b')]/\b' ≠ b/\qV H.h b' mtI m c'/\∀ i,cl x.k i = qbf m i:=fun x hx=>by
   obtain ⟨b3,m3,c3,f1,f2,f3,f4⟩:=hi x hx
   exact ⟨b3,m3,c3,f1,f2,qc2 f3 hle,f4⟩
  have hput:=q24 (z:=[.map none]) (v:=[v.v]) (c:=c) hh
  have hfit:q6 mtO.vpat [v.v]:=by rw [hvv]; exact q5F
  refine ⟨b,hv,l,c,hmH,fun u4 _ h4=>⟨(qb6 l (qd (ρ 1).d 32) [v.v] c).1,.inr ⟨b,hv,(qb6 l (qd (ρ 1).d 32) [v.v] c).2,⟨by rw [h4]; exact qbc,qmy hm.2 (by simp [qd,mtO]) hfit⟩⟩,b',by rw [hput,hvv]; rfl,[],0,⟨by rw [h4,qja hbb,hone]; rfl,fun x hx=>(by cases hx),List.Pairwise.nil⟩,fun u5 _ h5 cl' h'=>?_⟩⟩
  rw [qcc hcl0 h',h5,hv,h4,hvv]
  exact q2s hmH hiH hd hn hr hh (by simp [qd]) hbb hfree hpp.1 hpp.2 h0 h1
 | true =>
  obtain ⟨x,hx,hk,hgx⟩:=qnF (z:=[.map none]) hh
  obtain ⟨b',m,c',e1,e2,e3,e4⟩:=hi x hx
  refine .inr ⟨⟨b',by rw [hgx,e1]; rfl⟩,l,.inr ⟨b,hv,c,hm⟩,b',by rw [hgx,e1]; rfl,m,c',e3,fun u5 _ h5 cl' h'=>?_⟩
  rw [qcc hcl0 h',h5,hv,<- hk]
  exact q2r hm hi hd hn hr hx e1 e3 hpp.1 hpp.2 h0 h1
theorem qoS:qaR.ok Tryz.prog:=qz6 (by simp [q0U,qzW,qkG]) fun ρ hg hp=>by
 obtain ⟨⟨cl,hcl⟩,hO,⟨hl,h1,hr⟩,⟨hl2,h12,hr2⟩,⟨hGr,hGd⟩,t0,t1⟩:=hp
 simp only [Nat.reduceAdd] at hl h1 hr hl2 h12 hr2
 have hcl0:=hcl
 simp (config:={ maxSteps:=4000000 }) [qkV,qaR,qnH,qdP,qfP,qaJ,qeb,qbS,gOk,qku,qj2,qkl,qip,qb,qs4,qsy,hl,hl2,hO,hGr,hGd]
 obtain ⟨b,l,c,hv,hm,hi,hd,hn,hrr⟩:=hcl
 repeat' (first | with_reducible apply And.intro | with_reducible intro _)
 all_goals first
  | omega
  | exact qjv (by assumption) (by assumption)
  | skip
 refine ⟨l,.inr ⟨b,hv,c,hm⟩,?_⟩
 have hstart:∃ (mo:Option Nat) (clock:Nat),((qcx l (qd (ρ 1).d 32) [Value.map none]).head?.getD .nilFunc = .map none/\mo = none/\clock = 0∨∃ b:Nat,(qcx l (qd (ρ 1).d 32) [Value.map none]).head?.getD .nilFunc = .map (some b)/\mo = some b/\∃ l,qV (ρ 5).h b mtI l clock)/\∀ (H:Hp) (bi:Nat) (it:Value),Hp.le (ρ 5).h H->it = .pointer (some ⟨bi,0,none⟩)->H bi = some (.mapIter mo clock #[] clock)->qqj (ρ 5).h H (ρ 4).v it (qd (ρ 1).d 32) (ρ 2).i (ρ 3).i (qn (ρ 9).d) (qn (ρ 14).d) false:=by
  cases hh:qbt l (qd (ρ 1).d 32) with
  | false =>
   have hg0:=qin (z:=[.map none]) hh
   exact ⟨none,0,.inl ⟨by rw [hg0]; rfl,rfl,rfl⟩,fun H bi it hle hit hb=>qsc hcl0 (fun i=>hn _ _ (qhE hh)) hle hit hb⟩
  | true =>
   obtain ⟨x,hx,hk,hgx⟩:=qnF (z:=[.map none]) hh
   obtain ⟨b',m,c',e1,e2,e3,e4⟩:=hi x hx
   exact ⟨some b',c',.inr ⟨b',by rw [hgx,e1]; rfl,rfl,m,e3⟩,fun H bi it hle hit hb=>qsk hcl0 e3 (fun i=>by rw [<- hk]; exact e4 i) hle hit hb⟩
 obtain ⟨mo,clock,hmo,hst0⟩:=hstart
 refine ⟨mo,clock,hmo,?_⟩
 intro I1 _ I2 _ bi hit hI1 H _ hst
 have hle:Hp.le I1.h H.h/\Hp.le (ρ 5).h H.h:=by
  have h1:=qb0 54 1003 hst (by simp)
  have h2:=qb0 5 1003 hst (by simp)
  exact ⟨by simpa using h1,by simpa using h2⟩
 have hbi:H.h bi = some (.mapIter mo clock #[] clock):=hle.1 _ _ (by rw [hI1]; simp [Hp.one])
 refine ⟨⟨qdp (l:=[_,_,_,_,_,_,_,_,_,_,_,_,_,_,_,_]) (by assumption) qdS,qdp (l:=[_,_,_,_,_,_,_,_,_,_,_,_,_,_,_,_]) (by assumption) qdS,hst0 H.h bi I2.v hle.2 hit hbi⟩,?_⟩
 intro F13 _ F14 _ x _ it _ H2 _ hs13 hs14 hB
 obtain ⟨hcH,m,seen,⟨bi2,mo2,since,stp,hit2,hbi2,hmo2⟩,hco,hx⟩:=hB cl hcl0
 refine ⟨bi2,hit2,since,seen,stp,mo2,hbi2,?_⟩
 rcases hmo2 with ⟨rfl,rfl⟩ | ⟨b2,c2,rfl,hne,hM,hcs,hstt,hseen⟩
 ·exact q1z (m:=[]) (c:=0) (since:=0) ⟨fun x hx=>(by cases hx),List.Pairwise.nil⟩ hcl0 hcH (Nat.le_refl _) hco hx (fun e he=>by cases he)
 ·refine ⟨m,c2,hM,hstt,fun hall=>q1z hM.2 hcl0 hcH hcs hco hx hall,fun e he hns u2 _ hu2=>⟨bi2,hit2,since,seen,c2,b2,m,e,by rw [hu2]; exact qbc,by rw [hu2]; exact qU (Ne.symm hne) hM,he,?_⟩⟩
  have hbl:∀ y:Bool,y = (x.b || qiQ (qd (ρ 1).d 32) (ρ 2).i (ρ 3).i (qn (ρ 9).d) (qn (ρ 14).d) e)->qqj (ρ 5).h u2.h (ρ 4).v it.v (qd (ρ 1).d 32) (ρ 2).i (ρ 3).i (qn (ρ 9).d) (qn (ρ 14).d) y:=fun y hy=>by
   rw [hu2]; exact q5b hcl0 hcH hit2 hbi2 hne hM hcs hseen hco he hx hy
  have hless:qbo u2.h it.v < qbo H2.h it.v:=by
   rw [qg2 (h:=H2.h) hit2 hbi2 hM,qg2 (h:=u2.h) (seen:=seen ++ [e.born]) hit2 (by rw [hu2]; exact qbc) (by rw [hu2]; exact qU (Ne.symm hne) hM)]
   exact qgM he hns
  obtain ⟨z,hz⟩:=qfk hM.2 he
  have hg:=(hco z).trans (qfe hM.2 he hz)
  obtain ⟨z0,z1,v0,v1⟩:=hrr _ _ _ hg
  have hcv:qa [e.v] 0 = qQ (e.v.headD .nilFunc):=by unfold qa; cases e.v <;> rfl
  have hbe:∀ a b c d:Bool,a = qcI (qQ (e.v.headD .nilFunc)) (ρ 3).i->b = decide (z ∈ qn (ρ 9).d)->c = decide (z ∈ qn (ρ 14).d)->d = qN (qd (ρ 1).d 32) z (ρ 2).i->qiQ (qd (ρ 1).d 32) (ρ 2).i (ρ 3).i (qn (ρ 9).d) (qn (ρ 14).d) e = (a && b && !c && d):=by
   intro a b c d ha hb hc hd
   unfold qiQ
   rw [hz,ha,hb,hc,hd,List.headD_cons]
  have hkx:qa [qI [IntKind.i64] e.k] 0 = z:=by rw [hz]; rfl
  have hkx':qa [qI mtI.kks e.k] 0 = z:=hkx
  rw [hcv,hkx']
  have hB:=fun (r:U) (hr':r.b = qcI (qQ (e.v.headD .nilFunc)) (ρ 3).i)=>hbe r.b (decide (z ∈ qn (ρ 9).d)) (decide (z ∈ qn (ρ 14).d)) (qN (qd (ρ 1).d 32) z (ρ 2).i) hr' rfl rfl rfl
  refine ⟨fun hxt=>⟨⟨hs13,hs14,hbl true (by rw [hxt,Bool.true_or])⟩,hless⟩,fun hxf=>⟨⟨v0,v1,t0,t1⟩,fun r _ hr'=>⟨fun hrt=>⟨z0,z1,qts hs14,fun hf14=>⟨qts hs13,fun hf13 w _ hw=>⟨⟨hs13,hs14,hbl w.b ?_⟩,hless⟩,fun hf13=>⟨⟨hs13,hs14,hbl false ?_⟩,hless⟩⟩,fun hf14=>⟨⟨hs13,hs14,hbl false ?_⟩,hless⟩⟩,fun hrf=>⟨⟨hs13,hs14,hbl false ?_⟩,hless⟩⟩⟩⟩
  ·rw [hxf,hB r hr',hrt,decide_eq_true ((qfg hs14 qdS z0 z1).1 hf14),decide_eq_false (qj4 hs13 qdS z0 z1 hf13),hw]; generalize qN (qd (ρ 1).d 32) z (ρ 2).i = q; cases q <;> rfl
  ·rw [hxf,hB r hr',hrt,decide_eq_true ((qfg hs14 qdS z0 z1).1 hf14),decide_eq_true ((qfg hs13 qdS z0 z1).1 hf13)]; generalize qN (qd (ρ 1).d 32) z (ρ 2).i = q; cases q <;> rfl
  ·rw [hxf,hB r hr',hrt,decide_eq_false (qj4 hs14 qdS z0 z1 hf14)]; generalize qN (qd (ρ 1).d 32) z (ρ 2).i = q; cases q <;> rfl
  ·rw [hxf,hB r hr',hrf]; generalize qN (qd (ρ 1).d 32) z (ρ 2).i = q; cases q <;> simp
end Go.Proofs

set_option linter.unusedSimpArgs false
set_option linter.unusedVariables false
set_option maxRecDepth 100000
namespace Go.Proofs
open Go Go.Eng

def qpN:Out:=(.fresh 1 (.fresh 2 (.ret 0 (sg 1 [bg 1 2]))))
theorem qyJ:ql ⟨Tryz.prog,qdR,[],[]⟩ 100000 Tryz.f45 = qpN:=by kernel_rfl
theorem q2p (hd:∀ c ∈ ([]:List Ctr),c.ok Tryz.prog) (h:∀ ρ:Env,ρ.good->(qdR).pre ρ->qpN.den ⟨Tryz.prog,qdR,[],[]⟩ ρ):(qdR).ok Tryz.prog :=
 qe Tryz.func45 (fun a w=>Tryz.call45 a w) hd 100000 (fun ρ hg hp=>by rw [qyJ]; exact h ρ hg hp)
def qpG:Out:=(.br (.not (.and (.cmp .eql (.dlen (.var 3)) (.lit 0)) (.isnil 2)))
 (.need (.cmp .leq (.lit 0) (.var 6)) (.need (.cmp .lss (.lit 0) (.dlen (.var 3))) (.ret 0 (sg 10 [bt 10 (.cmp .geq (.var 6) (.icell (.var 3) (.lit 0) 0))]))))
 (.ret 0 (sg 10 [bt 10 (.bl false)])))
theorem qyG:ql ⟨Tryz.prog,qci,[],[]⟩ 100000 Tryz.f47 = qpG:=by kernel_rfl
theorem q22 (hd:∀ c ∈ ([]:List Ctr),c.ok Tryz.prog) (h:∀ ρ:Env,ρ.good->(qci).pre ρ->qpG.den ⟨Tryz.prog,qci,[],[]⟩ ρ):(qci).ok Tryz.prog :=
 qe Tryz.func47 (fun a w=>Tryz.call47 a w) hd 100000 (fun ρ hg hp=>by rw [qyG]; exact h ρ hg hp)
def qta:Out:=(.fresh 10 (.need (.cmp .leq (.lit 0) (.var 6)) (.inv 0 11 (sg 1000 [bt 1003 .dnil,bt 1004 (.lit 0),bt 1002 (.lit 0),bt 1001 (.lit 0),bg 1000 10]) (.fresh 11 (.fresh 12 (.fresh 13 (.fresh 14 (.fresh 15 (.hyp 0 11 (.br (.cmp .lss (.var 15) (.var 6))
 (.need (.cmp .leq (.lit 0) (.var 15)) (.need (.cmp .lss (.var 15) (.dlen (.var 8))) (.fresh 16 (.fresh 17 (.need (.cmp .eql (.var 12) (.dlen (.var 14))) (.need (.cmp .leq (.tims (.lit 8) (.plus (.var 12) (.lit 1))) (.lit 140737488355328)) (.fresh 18 (.fresh 19 (.back 0 11 (sg 1000 [bt 1003 (.dapp (.var 14) (.rcons (.vint .i64 (.icell (.var 8) (.var 15) 0)) .rnil)),bt 1004 (.arith .add .i64 (.var 15) (.lit 1)),bv 1002 19,bt 1001 (.plus (.var 12) (.lit 1)),bg 1000 18]))))))))))
 (.ret 0 (sg 10 [bv 13 14,bv 12 13,bv 11 12,bg 10 11]))))))))))))
theorem q0E:ql ⟨Tryz.prog,qdh,[],[qxE]⟩ 100000 Tryz.f55 = qta:=by kernel_rfl
theorem q5u (hd:∀ c ∈ ([]:List Ctr),c.ok Tryz.prog) (h:∀ ρ:Env,ρ.good->(qdh).pre ρ->qta.den ⟨Tryz.prog,qdh,[],[qxE]⟩ ρ):(qdh).ok Tryz.prog :=
 qe Tryz.func55 (fun a w=>Tryz.call55 a w) hd 100000 (fun ρ hg hp=>by rw [q0E]; exact h ρ hg hp)
def qnL:Out:=(.br (.and (.cmp .eql (.dlen (.var 3)) (.lit 0)) (.isnil 0))
 (.need (.cmp .eql (.var 1) (.lit 0)) (.ret 0 (sg 5 [bt 7 .dnil,bt 6 (.lit 0),(5,.nil)])))
 (.fresh 5 (.need (.cmp .leq (.lit 0) (.var 1)) (.need (.cmp .leq (.var 1) (.dlen (.var 3))) (.need (.cmp .leq (.tims (.lit 32) (.var 1)) (.lit 140737488355328)) (.fresh 6 (.fresh 7 (.ret 0 (sg 5 [bt 7 (.dtake (.var 3) (.var 1)),bv 6 7,bg 5 6])))))))))
theorem qvT:ql ⟨Tryz.prog,qd1,[],[]⟩ 100000 Tryz.f90 = qnL:=by kernel_rfl
theorem q0g (hd:∀ c ∈ ([]:List Ctr),c.ok Tryz.prog) (h:∀ ρ:Env,ρ.good->(qd1).pre ρ->qnL.den ⟨Tryz.prog,qd1,[],[]⟩ ρ):(qd1).ok Tryz.prog :=
 qe Tryz.func90 (fun a w=>Tryz.call90 a w) hd 100000 (fun ρ hg hp=>by rw [qvT]; exact h ρ hg hp)
@[simp] def qiv:Sg:=sg 0 [bg 9 9,bv 8 8,bv 4 4,bv 3 3,bv 7 7,bv 6 6,bg 5 5,bg 2 2,bt 1 (r8 1),bg 0 0]
@[simp] def qrG:Sg:=sg 0 [bv 11 27,bv 9 19,bv 8 18,bv 7 17,bv 6 16,bg 5 15,bv 3 13,bv 2 12,bv 1 11,bv 0 10,bt 4 (r8 14),bg 10 26]
@[simp] def qrK:Sg:=sg 0 [bv 17 27,bv 15 25,bv 14 24,bv 9 19,bv 8 18,bv 13 23,bv 12 22,bg 11 21,bv 10 20,bv 7 17,bv 6 16,bg 5 15,bv 3 13,bv 2 12,bv 1 11,bv 0 10,bt 4 (r8 14),bg 16 26]
def qqg:Out:=(.fresh 28 (.fresh 29 (.pre 0 qrG (.both (.fresh 30 (.fresh 31 (.post 0 0 qrG 30 (.fresh 32 (.br (.cmp .neq (.var 31) (.lit 0))
 (.pack [.cells 32 24 [(x8 0 30),(x8 1 30),(x8 2 30),(x8 3 30),(x8 4 30),(x8 5 30),(x8 6 30),(x8 7 30),(x8 8 30),(x8 9 30),(x8 10 30),(x8 11 30),(x8 12 30),(x8 13 30),(x8 14 30),(x8 15 30),(x8 16 30),(x8 17 30),(x8 18 30),(x8 19 30),(x8 20 30),(x8 21 30),(x8 22 30),(x8 23 30),(x8 24 30),(x8 25 30),(x8 26 30),(x8 27 30),(x8 28 30),(x8 29 30),(x8 30 30),(x8 31 30)],.cells 29 86 [(.vint .i64 (.var 20)),(.vslice 21 (.lit 0) (.var 22) (.var 23) 1)],.cells 28 27 [(.vint .i64 (.var 10)),(.vint .i64 (.var 11)),(.vint .i64 (.var 12)),(.vint .i64 (.var 13)),(x8 0 14),(x8 1 14),(x8 2 14),(x8 3 14),(x8 4 14),(x8 5 14),(x8 6 14),(x8 7 14),(x8 8 14),(x8 9 14),(x8 10 14),(x8 11 14),(x8 12 14),(x8 13 14),(x8 14 14),(x8 15 14),(x8 16 14),(x8 17 14),(x8 18 14),(x8 19 14),(x8 20 14),(x8 21 14),(x8 22 14),(x8 23 14),(x8 24 14),(x8 25 14),(x8 26 14),(x8 27 14),(x8 28 14),(x8 29 14),(x8 30 14),(x8 31 14),(.vslice 15 (.lit 0) (.var 16) (.var 17) 32)],.abs 9 20] 33 (.ret 0 (sg 28 [bg 35 33,bv 34 8,bv 30 4,bv 29 3,bv 33 7,bv 32 6,bg 31 5,bg 28 2,bv 36 31])))
 (.br (.not (.c2 .req (r8 30) (r8 1)))
 (.pack [.cells 32 24 [(x8 0 30),(x8 1 30),(x8 2 30),(x8 3 30),(x8 4 30),(x8 5 30),(x8 6 30),(x8 7 30),(x8 8 30),(x8 9 30),(x8 10 30),(x8 11 30),(x8 12 30),(x8 13 30),(x8 14 30),(x8 15 30),(x8 16 30),(x8 17 30),(x8 18 30),(x8 19 30),(x8 20 30),(x8 21 30),(x8 22 30),(x8 23 30),(x8 24 30),(x8 25 30),(x8 26 30),(x8 27 30),(x8 28 30),(x8 29 30),(x8 30 30),(x8 31 30)],.cells 29 86 [(.vint .i64 (.var 20)),(.vslice 21 (.lit 0) (.var 22) (.var 23) 1)],.cells 28 27 [(.vint .i64 (.var 10)),(.vint .i64 (.var 11)),(.vint .i64 (.var 12)),(.vint .i64 (.var 13)),(x8 0 14),(x8 1 14),(x8 2 14),(x8 3 14),(x8 4 14),(x8 5 14),(x8 6 14),(x8 7 14),(x8 8 14),(x8 9 14),(x8 10 14),(x8 11 14),(x8 12 14),(x8 13 14),(x8 14 14),(x8 15 14),(x8 16 14),(x8 17 14),(x8 18 14),(x8 19 14),(x8 20 14),(x8 21 14),(x8 22 14),(x8 23 14),(x8 24 14),(x8 25 14),(x8 26 14),(x8 27 14),(x8 28 14),(x8 29 14),(x8 30 14),(x8 31 14),(.vslice 15 (.lit 0) (.var 16) (.var 17) 32)],.abs 9 20] 33 (.ret 0 (sg 28 [bg 35 33,bv 34 8,bv 30 4,bv 29 3,bv 33 7,bv 32 6,bg 31 5,bg 28 2,bt 36 (.lit 20)])))
 (.pre 1 qrK (.both (.fresh 33 (.post 1 0 qrK 33 (.br (.cmp .neq (.var 33) (.lit 0))
 (.pack [.cells 32 24 [(x8 0 30),(x8 1 30),(x8 2 30),(x8 3 30),(x8 4 30),(x8 5 30),(x8 6 30),(x8 7 30),(x8 8 30),(x8 9 30),(x8 10 30),(x8 11 30),(x8 12 30),(x8 13 30),(x8 14 30),(x8 15 30),(x8 16 30),(x8 17 30),(x8 18 30),(x8 19 30),(x8 20 30),(x8 21 30),(x8 22 30),(x8 23 30),(x8 24 30),(x8 25 30),(x8 26 30),(x8 27 30),(x8 28 30),(x8 29 30),(x8 30 30),(x8 31 30)],.cells 29 86 [(.vint .i64 (.var 20)),(.vslice 21 (.lit 0) (.var 22) (.var 23) 1)],.cells 28 27 [(.vint .i64 (.var 10)),(.vint .i64 (.var 11)),(.vint .i64 (.var 12)),(.vint .i64 (.var 13)),(x8 0 14),(x8 1 14),(x8 2 14),(x8 3 14),(x8 4 14),(x8 5 14),(x8 6 14),(x8 7 14),(x8 8 14),(x8 9 14),(x8 10 14),(x8 11 14),(x8 12 14),(x8 13 14),(x8 14 14),(x8 15 14),(x8 16 14),(x8 17 14),(x8 18 14),(x8 19 14),(x8 20 14),(x8 21 14),(x8 22 14),(x8 23 14),(x8 24 14),(x8 25 14),(x8 26 14),(x8 27 14),(x8 28 14),(x8 29 14),(x8 30 14),(x8 31 14),(.vslice 15 (.lit 0) (.var 16) (.var 17) 32)],.abs 9 20] 34 (.ret 0 (sg 28 [bg 35 34,bv 34 8,bv 30 4,bv 29 3,bv 33 7,bv 32 6,bg 31 5,bg 28 2,bv 36 33])))
 (.both (.pre 2 qiv (.both (.fresh 34 (.fresh 35 (.fresh 36 (.fresh 37 (.post 2 0 qiv 34 (.both (.pre 3 (sg 0 [bv 4 36,bv 3 37,bv 5 20,bv 2 36,bv 1 35,bg 0 34]) (.both (.fresh 38 (.post 3 0 (sg 0 [bv 4 36,bv 3 37,bv 5 20,bv 2 36,bv 1 35,bg 0 34]) 38 (.br (.var 38)
 (.pack [.arr 34 3 [CK.int .i64] (.var 37) (.var 36),.cells 32 24 [(x8 0 30),(x8 1 30),(x8 2 30),(x8 3 30),(x8 4 30),(x8 5 30),(x8 6 30),(x8 7 30),(x8 8 30),(x8 9 30),(x8 10 30),(x8 11 30),(x8 12 30),(x8 13 30),(x8 14 30),(x8 15 30),(x8 16 30),(x8 17 30),(x8 18 30),(x8 19 30),(x8 20 30),(x8 21 30),(x8 22 30),(x8 23 30),(x8 24 30),(x8 25 30),(x8 26 30),(x8 27 30),(x8 28 30),(x8 29 30),(x8 30 30),(x8 31 30)],.cells 29 86 [(.vint .i64 (.var 20)),(.vslice 21 (.lit 0) (.var 22) (.var 23) 1)],.cells 28 27 [(.vint .i64 (.var 10)),(.vint .i64 (.var 11)),(.vint .i64 (.var 12)),(.vint .i64 (.var 13)),(x8 0 14),(x8 1 14),(x8 2 14),(x8 3 14),(x8 4 14),(x8 5 14),(x8 6 14),(x8 7 14),(x8 8 14),(x8 9 14),(x8 10 14),(x8 11 14),(x8 12 14),(x8 13 14),(x8 14 14),(x8 15 14),(x8 16 14),(x8 17 14),(x8 18 14),(x8 19 14),(x8 20 14),(x8 21 14),(x8 22 14),(x8 23 14),(x8 24 14),(x8 25 14),(x8 26 14),(x8 27 14),(x8 28 14),(x8 29 14),(x8 30 14),(x8 31 14),(.vslice 15 (.lit 0) (.var 16) (.var 17) 32)],.abs 9 20] 39 (.ret 0 (sg 28 [bg 35 39,bv 34 8,bv 30 4,bv 29 3,bv 33 7,bv 32 6,bg 31 5,bg 28 2,bt 36 (.lit 7)])))
 (.pre 4 qiv (.both (.fresh 39 (.post 4 0 qiv 39 (.br (.var 39)
 (.pack [.arr 34 3 [CK.int .i64] (.var 37) (.var 36),.cells 32 24 [(x8 0 30),(x8 1 30),(x8 2 30),(x8 3 30),(x8 4 30),(x8 5 30),(x8 6 30),(x8 7 30),(x8 8 30),(x8 9 30),(x8 10 30),(x8 11 30),(x8 12 30),(x8 13 30),(x8 14 30),(x8 15 30),(x8 16 30),(x8 17 30),(x8 18 30),(x8 19 30),(x8 20 30),(x8 21 30),(x8 22 30),(x8 23 30),(x8 24 30),(x8 25 30),(x8 26 30),(x8 27 30),(x8 28 30),(x8 29 30),(x8 30 30),(x8 31 30)],.cells 29 86 [(.vint .i64 (.var 20)),(.vslice 21 (.lit 0) (.var 22) (.var 23) 1)],.cells 28 27 [(.vint .i64 (.var 10)),(.vint .i64 (.var 11)),(.vint .i64 (.var 12)),(.vint .i64 (.var 13)),(x8 0 14),(x8 1 14),(x8 2 14),(x8 3 14),(x8 4 14),(x8 5 14),(x8 6 14),(x8 7 14),(x8 8 14),(x8 9 14),(x8 10 14),(x8 11 14),(x8 12 14),(x8 13 14),(x8 14 14),(x8 15 14),(x8 16 14),(x8 17 14),(x8 18 14),(x8 19 14),(x8 20 14),(x8 21 14),(x8 22 14),(x8 23 14),(x8 24 14),(x8 25 14),(x8 26 14),(x8 27 14),(x8 28 14),(x8 29 14),(x8 30 14),(x8 31 14),(.vslice 15 (.lit 0) (.var 16) (.var 17) 32)],.abs 9 20] 40 (.ret 0 (sg 28 [bg 35 40,bv 34 8,bv 30 4,bv 29 3,bv 33 7,bv 32 6,bg 31 5,bg 28 2,bt 36 (.lit 8)])))
 (.pre 5 (sg 0 [bv 4 19,bv 3 18,bv 2 17,bv 1 16,bg 0 15]) (.both (.fresh 40 (.fresh 41 (.fresh 42 (.post 5 0 (sg 0 [bv 4 19,bv 3 18,bv 2 17,bv 1 16,bg 0 15]) 40 (.both (.pre 6 (sg 0 [bv 4 25,bv 3 24,bv 2 23,bv 1 22,bg 0 21]) (.both (.fresh 43 (.fresh 44 (.fresh 45 (.post 6 0 (sg 0 [bv 4 25,bv 3 24,bv 2 23,bv 1 22,bg 0 21]) 43 (.both (.both (.fresh 46 (.both (.need (.cmp .eql (.var 6) (.dlen (.var 8))) (.need (.cmp .leq (.tims (.lit 32) (.plus (.var 6) (.lit 1))) (.lit 140737488355328)) (.fresh 47 (.fresh 48 (.both (.both (.both (.pack [.cells 46 86 [(.vint .i64 (.var 20)),(.vslice 43 (.lit 0) (.var 22) (.var 44) 1)],.arr 43 5 [CK.int .u8] (.var 45) (.var 44),.arr 40 24 [CK.int .u8,CK.int .u8,CK.int .u8,CK.int .u8,CK.int .u8,CK.int .u8,CK.int .u8,CK.int .u8,CK.int .u8,CK.int .u8,CK.int .u8,CK.int .u8,CK.int .u8,CK.int .u8,CK.int .u8,CK.int .u8,CK.int .u8,CK.int .u8,CK.int .u8,CK.int .u8,CK.int .u8,CK.int .u8,CK.int .u8,CK.int .u8,CK.int .u8,CK.int .u8,CK.int .u8,CK.int .u8,CK.int .u8,CK.int .u8,CK.int .u8,CK.int .u8] (.var 42) (.var 41),.arr 34 3 [CK.int .i64] (.var 37) (.var 36),.cells 32 24 [(x8 0 30),(x8 1 30),(x8 2 30),(x8 3 30),(x8 4 30),(x8 5 30),(x8 6 30),(x8 7 30),(x8 8 30),(x8 9 30),(x8 10 30),(x8 11 30),(x8 12 30),(x8 13 30),(x8 14 30),(x8 15 30),(x8 16 30),(x8 17 30),(x8 18 30),(x8 19 30),(x8 20 30),(x8 21 30),(x8 22 30),(x8 23 30),(x8 24 30),(x8 25 30),(x8 26 30),(x8 27 30),(x8 28 30),(x8 29 30),(x8 30 30),(x8 31 30)],.cells 29 86 [(.vint .i64 (.var 20)),(.vslice 21 (.lit 0) (.var 22) (.var 23) 1)],.arr 2 27 [CK.int .i64,CK.int .i64,CK.int .i64,CK.int .i64,CK.int .u8,CK.int .u8,CK.int .u8,CK.int .u8,CK.int .u8,CK.int .u8,CK.int .u8,CK.int .u8,CK.int .u8,CK.int .u8,CK.int .u8,CK.int .u8,CK.int .u8,CK.int .u8,CK.int .u8,CK.int .u8,CK.int .u8,CK.int .u8,CK.int .u8,CK.int .u8,CK.int .u8,CK.int .u8,CK.int .u8,CK.int .u8,CK.int .u8,CK.int .u8,CK.int .u8,CK.int .u8,CK.int .u8,CK.int .u8,CK.int .u8,CK.int .u8,CK.any] (.var 3) (.var 4),.abs 9 20] 49 (.ret 0 (sg 28 [bg 35 49,bt 34 (.dapp (.var 8) (.rcons (.vint .i64 (.var 20)) (.rcons (.vslice 43 (.lit 0) (.var 22) (.var 44) 1) .rnil))),bt 30 (.lit 1),bt 29 (.rcons (.vint .i64 (.var 10)) (.rcons (.vint .i64 (.var 11)) (.rcons (.vint .i64 (.var 12)) (.rcons (.vint .i64 (.var 13)) (.rcons (x8 0 14) (.rcons (x8 1 14) (.rcons (x8 2 14) (.rcons (x8 3 14) (.rcons (x8 4 14) (.rcons (x8 5 14) (.rcons (x8 6 14) (.rcons (x8 7 14) (.rcons (x8 8 14) (.rcons (x8 9 14) (.rcons (x8 10 14) (.rcons (x8 11 14) (.rcons (x8 12 14) (.rcons (x8 13 14) (.rcons (x8 14 14) (.rcons (x8 15 14) (.rcons (x8 16 14) (.rcons (x8 17 14) (.rcons (x8 18 14) (.rcons (x8 19 14) (.rcons (x8 20 14) (.rcons (x8 21 14) (.rcons (x8 22 14) (.rcons (x8 23 14) (.rcons (x8 24 14) (.rcons (x8 25 14) (.rcons (x8 26 14) (.rcons (x8 27 14) (.rcons (x8 28 14) (.rcons (x8 29 14) (.rcons (x8 30 14) (.rcons (x8 31 14) (.rcons (.vslice 40 (.lit 0) (.var 16) (.var 41) 32) .rnil))))))))))))))))))))))))))))))))))))),bv 33 48,bt 32 (.plus (.var 6) (.lit 1)),bg 31 47,bg 28 28,bt 36 (.lit 0)]))) .top) .top) .top))))) .top)) .top) .top))))) .top)) .top))))) .top))))) .top))))) .top)) .top)))))) .top)) .top)))) .top)))))))) .top))))
theorem qyh:ql ⟨Tryz.prog,qdW,[idC,qd5,qdh,qaH,qci,qd1,qbQ],[]⟩ 100000 Tryz.f48 = qqg:=by kernel_rfl
theorem q3Y (hd:∀ c ∈ ([idC,qd5,qdh,qaH,qci,qd1,qbQ]:List Ctr),c.ok Tryz.prog) (h:∀ ρ:Env,ρ.good->(qdW).pre ρ->qqg.den ⟨Tryz.prog,qdW,[idC,qd5,qdh,qaH,qci,qd1,qbQ],[]⟩ ρ):(qdW).ok Tryz.prog :=
 qe Tryz.func48 (fun a w=>Tryz.call48 a w) hd 100000 (fun ρ hg hp=>by rw [qyh]; exact h ρ hg hp)
end Go.Proofs
