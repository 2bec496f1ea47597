/- Texts E13, E14, FD, FE, FF, FG, PA, PB, PC, PD, PE, PF, PG, PH, PI, PJ, PK, PL, PM, PN, PO, PP, PQ, PR, P0, PS, PT, PU, PV, P1, PX, PW, QA, QB, QC, QE, QD, QF. -/
import Derived.Test.YtelcnkclppkicaaGreatDoorG4
import Derived.WalkKit
import Derived.ProofKit
import Derived.OpenShut
import Derived.Carry
import Derived.SizedLaws
import Derived.Test.YtelcnkclppkicaaGreatDoorG7
import Derived.Test.YtelcnkclppkicaaGreatDoorProg
import Derived.WalkCall
import Derived.Laws.Externs
import Derived.Lib.Bytealg
import Derived.Lib.BytesEntry
import Derived.Shelf.SlSortCmp.NoneTotal
import Derived.Deep.QuietTactic
import Derived.BigQuiet
import Derived.Ground.SlsfProg
import Derived.Test.YtelcnkclppkicaaGreatDoorG3
import Derived.Test.YtelcnkclppkicaaGreatDoorG5
set_option linter.unusedSimpArgs false
set_option linter.unusedVariables false
namespace Go.Eng
open Go Go.ChangeShapes Go.WideShapes Go.ChangeAt Go.RowKit

structure Grew (W w':World):Prop where
 os:w'.os = W.os
 out:w'.output = W.output
 blk:∀ (b:Nat) (o:Obj),W.heap[b]? = some o→w'.heap[b]? = some o

theorem Grew.block {W w':World} (h:Grew W w') {i:Nat} (hi:i < W.heap.size):w'.heap[i]? = W.heap[i]?:=by
 rw [Array.getElem?_eq_getElem hi]; exact h.blk i _ (Array.getElem?_eq_getElem hi)

theorem Grew.kept {W w':World} (h:Grew W w') (may:MemPlace→Prop):W.keptBut w' may:=by
 refine ⟨h.os,h.out,fun i hi=>?_⟩
 rw [h.block hi,Array.getElem?_eq_getElem hi]
 cases W.heap[i] <;> simp

theorem Grew.trodAll {H:Type} {enc:TypeId × Value→H} {P:Program} {W W':World} (hg:Grew W W') (hl:laidOutB P = true) {sp:Nat→Bool}:∀ {ts:List TypeId} {vs:List Value} {ds:List (DataW H)} {ps:List MemPlace},
  (∀ t ∈ ts,P.readableRec t = true∧t < P.types.size)→DataW.TrodAll enc P W 0 (fun _=>true) true ts vs ds ps→(∀ p ∈ ps,p.block < W.heap.size)→(∀ p ∈ ps,sp p.block = true) →
  DataW.TrodAll enc P W' 0 sp true ts vs ds ps
 | [],[],[],_,_,h,_,_=>h
 | _ :: _,_ :: _,_ :: _,_,hT,⟨p,q,h1,h2,e⟩,hlt,hs=>by
  subst e
  refine ⟨p,q,?_,Grew.trodAll hg hl (fun t ht=>hT t (List.mem_cons_of_mem _ ht)) h2 (fun x hx=>hlt x (List.mem_append_right _ hx)) (fun x hx=>hs x (List.mem_append_right _ hx)),rfl⟩
  have hr:=hT _ (List.mem_cons_self ..)
  refine WideElems.Trod_stays hl hr.1 hr.2 h1 (fun x hx=>?_) (fun x hx=>hs x (List.mem_append_left _ hx))
  have hb:=hg.block (hlt x (List.mem_append_left _ hx))
  cases x with
  | cell b o=>exact World.cell?_of_block (w:=W) hb
  | map b=>exact hb

theorem law_calls {P:Program} {c:Ctr} (hok:c.ok P) (hheap:c.heap = []) (halts:∀ al ∈ c.alts,al.ret = .one (.vbool (.bl true))) {ρ:Env} (hg:ρ.good) (W:World)
  (hro:∀ x ∈ c.ro,x.roden ρ (fun b=>W.heap[b]?)) (hpre:c.pre ρ) :
  Calls P c.fn (c.args.map (SV.den ρ)).toArray W fun e W'=>e = .returned (.bool true)∧Grew W W':=by
 have h:=hok.2 ρ W ⟨fun b=>W.heap[b]?,W.os,W.output⟩ Hp.emp hg (Hp.disj_emp _)
  ⟨fun b o hb=>by simpa [Hp.union,Hp.emp] using hb,rfl,rfl⟩ (by rw [hheap]; trivial) hro hpre
 refine h.mono fun e w' hq=>?_
 obtain ⟨ai,al,ρ',hal,_,_,rfl,_,hO,_,_,hsub,hwi⟩:=hq
 refine ⟨by rw [halts al (List.mem_of_getElem? hal)]; rfl,⟨hwi.1,hwi.2,fun b o hb=>hsub b o ?_⟩⟩
 simp [Hp.union,hb]

theorem law_post {H:Type} {enc:TypeId × Value→H} {P:Program} {f:Func} {s:ChangeSpec} {W W':World} {args:Array Value} {ds gs:List (DataW H)} {before:List MemPlace} {bt:TypeId}
  (hl:laidOutB P = true) (hT:∀ t ∈ f.params.toList,P.readableRec t = true∧t < P.types.size) (hvars:s.vars = []) (hrt:f.resultTypes = #[bt]) (hbt:P.underlying bt = some .bool)
  (hfn:∀ ds':List (DataW H),ds'.length = f.params.size→s.fn H ds' = { results:=[.lit (.bool true)],args:=ds' })
  (hW:DataW.Whole enc P f.params.toList s.vars false W args.toList ds gs before) (hg:Grew W W'):s.post enc P f false true false false W args (.bool true) W':=by
 have hlt:=hW.lt
 have hW0:=hW
 obtain ⟨p,q,hA,hV,hpq,hz,hn⟩:=hW
 rw [hvars] at hV
 obtain ⟨rfl,rfl⟩:=trodVars_none hV
 have hlen:ds.length = f.params.size:=by
  have:∀ {ts:List TypeId} {vs:List Value} {ds:List (DataW H)} {ps:List MemPlace},DataW.TrodAll enc P W 0 (fun _=>true) true ts vs ds ps→ds.length = ts.length:=by
   intro ts
   induction ts with
   | nil=>intro vs ds ps h; cases vs <;> cases ds <;> simp_all [DataW.TrodAll]
   | cons t ts ih =>
    intro vs ds ps h
    cases vs <;> cases ds <;> simp_all [DataW.TrodAll]
    obtain ⟨p,q,_,h2,_⟩:=h
    exact ih h2
  simpa using this hA
 have hlt':∀ x ∈ p,x.block < W.heap.size:=fun x hx=>hlt x (by rw [hpq]; exact List.mem_append_left _ hx)
 refine ⟨ds,[],before,[],p,[],hW0,?_,?_,?_,hg.kept _,fun h=>by cases h⟩
 ·rw [List.append_nil,hfn ds hlen,hrt]
  exact ⟨[],[],⟨1,by simp [DataW.trod,hbt,Value.cells]⟩,rfl,rfl⟩
 ·rw [List.append_nil,hfn ds hlen]
  exact hg.trodAll hl hT hA hlt' (fun x hx=>by simpa using hlt' x hx)
 ·rw [List.append_nil,hfn ds hlen,hvars]
  rfl

theorem law_call {H:Type} {enc:TypeId × Value→H} {P:Program} {f:Func} {s:ChangeSpec} {c:Ctr} {W:World} {args:Array Value} {ds gs:List (DataW H)} {before:List MemPlace} {bt:TypeId} {ρ:Env}
  (hok:c.ok P) (hheap:c.heap = []) (halts:∀ al ∈ c.alts,al.ret = .one (.vbool (.bl true)))
  (hl:laidOutB P = true) (hT:∀ t ∈ f.params.toList,P.readableRec t = true∧t < P.types.size) (hvars:s.vars = []) (hrt:f.resultTypes = #[bt]) (hbt:P.underlying bt = some .bool)
  (hfn:∀ ds':List (DataW H),ds'.length = f.params.size→s.fn H ds' = { results:=[.lit (.bool true)],args:=ds' })
  (hW:DataW.Whole enc P f.params.toList s.vars false W args.toList ds gs before)
  (hg:ρ.good) (hargs:args = (c.args.map (SV.den ρ)).toArray) (hro:∀ x ∈ c.ro,x.roden ρ (fun b=>W.heap[b]?)) (hpre:c.pre ρ) :
  Calls P c.fn args W fun e W'=>∃ v,e = .returned v∧s.post enc P f false true false false W args v W':=by
 rw [hargs]
 refine (law_calls hok hheap halts hg W hro hpre).mono fun e W' ⟨he,hgr⟩=>⟨_,he,?_⟩
 rw [← hargs]
 exact law_post hl hT hvars hrt hbt hfn hW hgr
end Go.Eng

set_option linter.unusedSimpArgs false
set_option linter.unusedVariables false
namespace Go.Eng
open Go Go.ChangeShapes Go.WideShapes Go.ChangeAt Go.RowKit

section
variable {H:Type} {enc:TypeId × Value→H} {P:Program} {w:World} {base:Nat} {spare:Nat→Bool} {held:Bool}

end

end Go.Eng

set_option linter.unusedSimpArgs false
set_option linter.unusedVariables false
namespace Go.Eng
open Go Go.Proofs
def makeGC:Ctr:={ makeC with pre:=fun ρ=>makeC.pre ρ∧sizes3 (ρ 2).i (ρ 3).i (ρ 4).i = true∧(ρ 6).i ≤ 8192,alts:=[{ k:=9,ret:=.tup [(true,manT 2 3 4 6 12 13 4 14),(false,[.vslice 15 (.lit 0) (.var 4) (.var 16) 2]),eRet (.lit 0)],heap:=[fHp 17,dgsHp 13 18 14,.arr 15 86 kPiece (.var 19) (.var 16),.abs 20 10],post:=fun ρ=>fieldD (ρ 17).d∧sizes3 (ρ 2).i (ρ 3).i (ρ 4).i = true∧(ρ 6).i ≤ 8192∧(ρ 19).d.length = (ρ 4).i.toNat∧encAt (ρ 20).h (ρ 19).d (ρ 4).i.toNat (encP (ρ 2).i.toNat (ρ 4).i.toNat (bI (ρ 8).d))∧rowL (ρ 12).d 32 = sha (bI (ρ 8).d)∧dgsOk (ρ 18).d∧dgs (ρ 18).d = madeAt (encP (ρ 2).i.toNat (ρ 4).i.toNat (bI (ρ 8).d)) (ρ 4).i.toNat }] }
end Go.Eng

set_option linter.unusedSimpArgs false
set_option linter.unusedVariables false
set_option maxRecDepth 100000
namespace Go.Proofs
open Go Go.Eng

end Go.Proofs

set_option linter.unusedSimpArgs false
set_option linter.unusedVariables false
namespace Go.Proofs
open Go Go.Eng
section
variable {k total:Nat} {data:List Int}
end
section
variable {h:Hp} {P:Rows'} {k n t s l:Int} {data:List Int} {G:Rows'}
theorem made_get {f:Nat→List Int} {m:Nat} {x:Int} (x0:0 ≤ x) (x1:x < m):(madeAt f m).getD x.toNat [] = sha (pieceIn x ++ f x.toNat):=by
 unfold madeAt
 rw [List.getD_eq_getElem?_getD,List.getElem?_map,List.getElem?_range (by omega)]
 simp only [Option.map_some,Option.getD_some]
 rw [Int.toNat_of_nonneg x0]
theorem made_chk {x:Int} {m:List Int} (hM:manOk k n t s l = true) (hb:bytesL data) (hsz:s = data.length) (hG:dgs G = madeAt (encP k.toNat t.toNat data) t.toNat) (x0:0 ≤ x) (x1:x < t) (hm:m = encP k.toNat t.toNat data x.toNat):chkE k n t s l (dgs G) x m = 0:=by
 obtain ⟨k1,k2,k3,k4,s0,s1,htl⟩:=manOk_iff.1 hM
 have hl:(m.length:Int) = plenI k s:=by
  rw [hm,(enc_facts (by omega) (by omega) (by omega) hb _).1,plenI_eq k1 s0,hsz]
  unfold plI
  simp
 have hS:sha (pieceIn x ++ m) = (dgs G).getD x.toNat []:=by rw [hm,hG,made_get x0 (by omega)]
 rw [chkE,if_neg (by rw [hM]; decide),if_neg (by omega),if_neg (fun h=>h hl),if_neg (fun h=>h hS)]
end
section
variable {h h':Hp} {D S L:Rows'} {n i:Nat} {t:Int} {f:Nat→List Int}
end
section
variable {h h0:Hp} {P P0 G R:Rows'} {k n t s l x e y m:Int} {data O:List Int} {N N':Nat}
end
section
variable {h h':Hp} {S L:Rows'} {i n j i':Int} {t:Int} {f:Nat→List Int}
end
section
variable {h h0:Hp} {D D0 G:Rows'} {T:Nat} {t:Int} {f:Nat→List Int} {N N' M:Nat}
end
end Go.Proofs

set_option linter.unusedSimpArgs false
set_option linter.unusedVariables false
namespace Go.Proofs
open Go Go.Eng
theorem makeG_ok:makeGC.ok Tryz.prog:=by
 refine ⟨make_ok.1,fun ρ w hF hO hg hd hw hs hro hp=>?_⟩
 obtain ⟨hp,hs3,h8⟩:=hp
 refine (make_ok.2 ρ w hF hO hg hd hw hs hro hp).mono fun e w' h=>?_
 obtain ⟨ai,al,ρ',h1,h2,hρ,h4,hpost,h6⟩:=h
 match ai,h1 with
 | 0,h1 =>
  obtain rfl:=(Option.some.inj h1).symm
  exfalso
  have e2:=hρ 2 (by decide)
  have e3:=hρ 3 (by decide)
  have e4:=hρ 4 (by decide)
  have e6:=hρ 6 (by decide)
  obtain ⟨_,⟨h1,_⟩ | ⟨_,h1,_⟩⟩:=hpost
  ·change sizes3 (ρ' 2).i (ρ' 3).i (ρ' 4).i = false at h1
   rw [e2,e3,e4,hs3] at h1; cases h1
  ·change 8192 < (ρ' 6).i at h1
   rw [e6] at h1; omega
 | 1,h1 =>
  obtain rfl:=(Option.some.inj h1).symm
  exact ⟨0,_,ρ',rfl,h2,hρ,h4,hpost,h6⟩
 | ai + 2,h1=>simp [makeC] at h1
set_option maxRecDepth 20000
end Go.Proofs

set_option linter.unusedSimpArgs false
set_option linter.unusedVariables false
set_option maxRecDepth 100000
namespace Go.Proofs
open Go Go.Eng

end Go.Proofs

set_option linter.unusedSimpArgs false
set_option linter.unusedVariables false
namespace Go.Proofs
open Go Go.Eng
set_option maxRecDepth 100000
end Go.Proofs

set_option linter.unusedSimpArgs false
set_option linter.unusedVariables false
namespace Go.Eng
open Go Go.Proofs
end Go.Eng

set_option linter.unusedSimpArgs false
set_option linter.unusedVariables false
set_option maxRecDepth 100000
namespace Go.Proofs
open Go Go.Eng

end Go.Proofs

set_option linter.unusedSimpArgs false
set_option linter.unusedVariables false
namespace Go.Proofs
open Go Go.Eng
set_option maxRecDepth 20000
set_option maxRecDepth 100000
end Go.Proofs

set_option linter.unusedSimpArgs false
set_option linter.unusedVariables false
namespace Go.Eng
open Go Go.Proofs
def ints (d:Rows'):List Int:=d.map fun row=>rowI row 0
def kBool16:List CK:=List.replicate 16 .bool
def b16 (n:Nat):SV:=.agg ((List.range 16).map fun i=>.c1 .vbool (.var (n + i)))
def peerIs (x:Int):Bool:=decide (0 ≤ x∧x < 16)
def peerC:Ctr:={ fn := 100,nv:=1,args:=[iv .i64 (.var 0)],heap:=[],ro:=[],pre:=fun _=>True,alts:=[{ k:=1,ret:=.one (.vbool (.var 1)),heap:=[],post:=fun ρ=>(ρ 1).b = peerIs (ρ 0).i }] }
def iHpA (r:Nat):SH:=iHp r (r + 3) (r + 4)
def intsIn (ρ:Env) (r:Nat):Prop:=(ρ (r + 1)).i = (ρ (r + 3)).d.length∧(ρ (r + 1)).i ≤ 1000000000000∧∀ row ∈ (ρ (r + 3)).d,row.length = 1
def boolsP (l:List Bool) (L:List Int):Prop:=l.length = 16∧∀ j:Nat,j < 16→(l.getD j false = true↔(j:Int) ∈ L)
def setC:Ctr:={ fn := 82,nv:=5,args:=[bS 0],heap:=[],ro:=[iHpA 0],pre:=fun ρ=>intsIn ρ 0,alts:=[
 { k:=16,ret:=b16 5,heap:=[],post:=fun ρ=>boolsP [(ρ 5).b,(ρ 6).b,(ρ 7).b,(ρ 8).b,(ρ 9).b,(ρ 10).b,(ρ 11).b,(ρ 12).b,(ρ 13).b,(ρ 14).b,(ρ 15).b,(ρ 16).b,(ρ 17).b,(ρ 18).b,(ρ 19).b,(ρ 20).b] (ints (ρ 3).d) }] }
def seenTo (s:Rows') (l:List Int) (n:Nat):Prop:=(∃ row,s = [row]∧row.length = 16)∧∀ x:Int,0 ≤ x→x < 16→(cellXB s x.toNat = true↔x ∈ l.take n)
def setI:Inv:={ key:=2,nv:=3,env:=[(2,.one (.vptr 1000 (.lit 0) 16 0)),(5,bS 0),(6,iv .i64 (.var 1)),(7,iv .i64 (.var 1002))],heap:=[.arr 1000 157 kBool16 (.var 1001) (.lit 1)],inv:=(fun ρ=>0 ≤ (ρ 1002).i∧(ρ 1002).i ≤ (ρ 1).i∧seenTo (ρ 1001).d (ints (ρ 3).d) (ρ 1002).i.toNat),mu:=(fun ρ=>((ρ 1).i - (ρ 1002).i).toNat) }
def scoreF (o:List Int) (p:Int):List Int:=sha (o ++ [p % 256])
def scoreC:Ctr:={ fn := 24,nv:=4,ip:=[gIp 2,(1005,9)],args:=[dgV 0,iv .i64 (.var 1)],heap:=[],ro:=[gHp 2 3],pre:=fun ρ=>allM (rowL (ρ 0).d 32)∧gOk ρ 2 3 gR,alts:=[
 { k:=1,ret:=dgV 4,heap:=[],post:=fun ρ=>rowL (ρ 4).d 32 = scoreF (rowL (ρ 0).d 32) (ρ 1).i }] }
def rkV (p d:Nat):SV:=.agg (.vint .i64 (.var p) :: cellsT .u8 d 32)
def rankC:Ctr:={ fn := 80,nv:=4,ip:=[gIp 2],args:=[dgV 0,iv .i64 (.var 1)],heap:=[],ro:=[gHp 2 3],pre:=fun ρ=>allM (rowL (ρ 0).d 32)∧gOk ρ 2 3 gR,alts:=[
 { k:=2,ret:=.agg (.vint .i64 (.var 1) :: cellsT .u8 4 32),heap:=[],post:=fun ρ=>rowL (ρ 4).d 32 = scoreF (rowL (ρ 0).d 32) (ρ 1).i }] }
def cmpL:List Int→List Int→Int
 | [],[]=>0
 | [],_ :: _=>-1
 | _ :: _,[]=>1
 | a :: l,b :: m=>if a < b then -1 else if b < a then 1 else cmpL l m
def kRk:List CK:=.int .i64 :: List.replicate 32 (.int .u8)
def bcmpC:Ctr:={ fn := 118,nv:=4,args:=[.one (.vslice 0 (.lit 1) (.lit 32) (.lit 32) 1),.one (.vslice 1 (.lit 1) (.lit 32) (.lit 32) 1)],heap:=[],ro:=[.arr 0 153 kRk (.var 2) (.lit 1),.arr 1 153 kRk (.var 3) (.lit 1)],pre:=fun ρ=>oneRow (ρ 2).d 33∧oneRow (ρ 3).d 33∧allM ((rowL (ρ 2).d 33).drop 1)∧allM ((rowL (ρ 3).d 33).drop 1),alts:=[
 { k:=1,ret:=iv .i64 (.var 4),heap:=[],post:=fun ρ=>(ρ 4).i = cmpL ((rowL (ρ 2).d 33).drop 1) ((rowL (ρ 3).d 33).drop 1) }] }
def compareC:Ctr:={ fn := 81,nv:=4,args:=[rkV 0 1,rkV 2 3],heap:=[],ro:=[],pre:=fun ρ=>allM (rowL (ρ 1).d 32)∧allM (rowL (ρ 3).d 32),alts:=[
 { k:=1,ret:=iv .i64 (.var 4),heap:=[],post:=fun ρ=>(ρ 4).i = if cmpL (rowL (ρ 1).d 32) (rowL (ρ 3).d 32) = 0 then arithOf .sub .i64 (ρ 0).i (ρ 2).i else cmpL (rowL (ρ 1).d 32) (rowL (ρ 3).d 32) }] }
def betF (o:List Int) (a b:Int):Bool:=if scoreF o a = scoreF o b then decide (a < b) else decide (cmpL (scoreF o a) (scoreF o b) < 0)
def betterC:Ctr:={ fn := 26,nv:=5,ip:=[gIp 3],args:=[dgV 0,iv .i64 (.var 1),iv .i64 (.var 2)],heap:=[],ro:=[gHp 3 4],pre:=fun ρ=>allM (rowL (ρ 0).d 32)∧gOk ρ 3 4 gR,alts:=[
 { k:=1,ret:=.one (.vbool (.var 5)),heap:=[],post:=fun ρ=>(ρ 5).b = betF (rowL (ρ 0).d 32) (ρ 1).i (ρ 2).i }] }
end Go.Eng

set_option linter.unusedSimpArgs false
set_option linter.unusedVariables false
namespace Go.Proofs
open Go Go.Eng Go.RowKit Go.Lib
theorem run_bcmp {P:Program} (a b:Addr) (xs ys:List Int) (c c':Nat) (w:World) (hx:∀ j x,xs[j]? = some x→w.cell? (a.add j) = some (.int .u8 x)) (hy:∀ j x,ys[j]? = some x→w.cell? (b.add j) = some (.int .u8 x)) :
  (Extern.BytealgCompare.compare #[.slice (some a) xs.length c,.slice (some b) ys.length c']).run P w = .ok (.int .i64 (compareBytes (Lib.bytesOf xs) (Lib.bytesOf ys))) w:=by
 have h1:=run_loadBytesX (P:=P) w xs a .empty hx
 have h2:=run_loadBytesX (P:=P) w ys b .empty hy
 change Sem.run P (do pure (goInt (Extern.BytealgCompare.cmp (← Extern.Bytes.bytesOf (.slice (some a) xs.length c)) (← Extern.Bytes.bytesOf (.slice (some b) ys.length c'))))) w = _
 simp only [Extern.Bytes.bytesOf,Sem.run_bind,h1,h2,Sem.run_pure,Result.andThen]
 rw [cmp_eq]
 simp [goInt]
set_option maxHeartbeats 1000000 in
set_option maxRecDepth 100000 in
theorem bcmp_calls (a b:Addr) (xs ys:List Int) (c c':Nat) (w:World) (hx:∀ j x,xs[j]? = some x→w.cell? (a.add j) = some (.int .u8 x)) (hy:∀ j x,ys[j]? = some x→w.cell? (b.add j) = some (.int .u8 x)) :
  Calls Tryz.prog 118 #[.slice (some a) xs.length c,.slice (some b) ys.length c'] w fun e w'=>e = .returned (.int .i64 (compareBytes (Lib.bytesOf xs) (Lib.bytesOf ys)))∧w' = w:=by
 go_enter Tryz.func118,Tryz.ntmps118
 go_wp2
 rw [run_callFunc_extern Tryz.func139 (by kernel_rfl) (by kernel_rfl) (by kernel_rfl) (e:=Extern.BytealgCompare.compare) (by kernel_rfl),run_bcmp a b xs ys c c' w hx hy]
 simp only [Result.andThen]
 rw [Oper.upon_value]
 go_wp2
 go_ret
 exact ⟨rfl,rfl⟩
end Go.Proofs

set_option linter.unusedSimpArgs false
set_option linter.unusedVariables false
namespace Go.Eng
open Go Go.Proofs
def cmpF (o:List Int) (a b:Int):Int:=if scoreF o a = scoreF o b then a - b else cmpL (scoreF o a) (scoreF o b)
def rankedP (o:List Int) (s out:List Int):Prop:=out.Perm s∧out.Pairwise fun a b=>betF o a b = true
def peersL (l:List Int):List Int:=((List.range 16).map fun (i:Nat)=>(i:Int)).filter fun x=>decide (x ∈ l)
end Go.Eng
namespace Go.Proofs
open Go Go.Eng
theorem cmpL_zero:∀ {a b:List Int},cmpL a b = 0↔a = b
 | [],[]=>by simp [cmpL]
 | [],_ :: _=>by simp [cmpL]
 | _ :: _,[]=>by simp [cmpL]
 | x :: a,y :: b=>by
  unfold cmpL
  by_cases h1:x < y
  ·rw [if_pos h1]
   constructor
   ·intro h; omega
   ·intro h; injection h; omega
  ·rw [if_neg h1]
   by_cases h2:y < x
   ·rw [if_pos h2]
    constructor
    ·intro h; omega
    ·intro h; injection h; omega
   ·rw [if_neg h2,cmpL_zero]
    have:x = y:=by omega
    subst this
    simp
theorem cmpL_neg:∀ {a b:List Int},cmpL b a = - cmpL a b
 | [],[]=>rfl
 | [],_ :: _=>rfl
 | _ :: _,[]=>rfl
 | x :: a,y :: b=>by
  unfold cmpL
  by_cases h1:x < y
  ·rw [if_pos h1,if_neg (by omega),if_pos h1]; rfl
  ·by_cases h2:y < x
   ·rw [if_pos h2,if_neg h1,if_pos h2]
   ·rw [if_neg h2,if_neg h1,if_neg h1,if_neg h2]; exact cmpL_neg
theorem cmpL_trans:∀ {a b c:List Int},cmpL a b < 0→cmpL b c < 0→cmpL a c < 0
 | [],[],_,h,_=>by simp [cmpL] at h
 | [],_ :: _,[],_,h=>by simp [cmpL] at h
 | [],_ :: _,_ :: _,_,_=>by simp [cmpL]
 | _ :: _,[],_,h,_=>by simp [cmpL] at h
 | _ :: _,_ :: _,[],_,h=>by simp [cmpL] at h
 | x :: a,y :: b,z :: c,h1,h2=>by
  unfold cmpL at h1 h2 ⊢
  by_cases a1:x < y
  ·by_cases b1:y < z
   ·rw [if_pos (by omega)]; decide
   ·rw [if_neg b1] at h2
    by_cases b2:z < y
    ·rw [if_pos b2] at h2; omega
    ·rw [if_pos (by omega)]; decide
  ·rw [if_neg a1] at h1
   by_cases a2:y < x
   ·rw [if_pos a2] at h1; omega
   ·rw [if_neg a2] at h1
    have e:x = y:=by omega
    subst e
    by_cases b1:x < z
    ·rw [if_pos b1]; decide
    ·rw [if_neg b1] at h2 ⊢
     by_cases b2:z < x
     ·rw [if_pos b2] at h2; omega
     ·rw [if_neg b2] at h2 ⊢
      exact cmpL_trans h1 h2
variable {o:List Int} {a b c:Int}
theorem bet_cmp:betF o a b = decide (cmpF o a b < 0):=by
 unfold betF cmpF
 by_cases h:scoreF o a = scoreF o b
 ·rw [if_pos h,if_pos h]
  exact decide_eq_decide.2 ⟨fun h=>by omega,fun h=>by omega⟩
 ·rw [if_neg h,if_neg h]
theorem cmpF_zero:cmpF o a b = 0↔a = b:=by
 unfold cmpF
 by_cases h:scoreF o a = scoreF o b
 ·rw [if_pos h]; omega
 ·rw [if_neg h,cmpL_zero]
  exact ⟨fun h'=>(h h').elim,fun h'=>by rw [h']⟩
theorem cmpF_neg:cmpF o b a = - cmpF o a b:=by
 unfold cmpF
 by_cases h:scoreF o a = scoreF o b
 ·rw [if_pos h,if_pos h.symm]; omega
 ·rw [if_neg h,if_neg (fun h'=>h h'.symm),cmpL_neg]
theorem cmpF_trans (h1:cmpF o a b < 0) (h2:cmpF o b c < 0):cmpF o a c < 0:=by
 unfold cmpF at h1 h2 ⊢
 by_cases e1:scoreF o a = scoreF o b
 ·rw [if_pos e1] at h1
  by_cases e2:scoreF o b = scoreF o c
  ·rw [if_pos e2] at h2
   rw [if_pos (e1.trans e2)]; omega
  ·rw [if_neg e2] at h2
   rw [if_neg (by rw [e1]; exact e2),e1]; exact h2
 ·rw [if_neg e1] at h1
  by_cases e2:scoreF o b = scoreF o c
  ·rw [if_neg (by rw [← e2]; exact e1),← e2]; exact h1
  ·rw [if_neg e2] at h2
   have h3:=cmpL_trans h1 h2
   by_cases e3:scoreF o a = scoreF o c
   ·rw [e3,cmpL_zero.2 rfl] at h3; omega
   ·rw [if_neg e3]; exact h3
theorem bet_trans (h1:betF o a b = true) (h2:betF o b c = true):betF o a c = true:=by
 rw [bet_cmp,decide_eq_true_eq] at h1 h2 ⊢
 exact cmpF_trans h1 h2
theorem bet_irrefl:betF o a a = false:=by
 rw [bet_cmp,cmpF_zero.2 rfl]; rfl
theorem bet_asymm (h:betF o a b = true):betF o b a = false:=by
 rw [bet_cmp,decide_eq_true_eq] at h
 rw [bet_cmp,decide_eq_false_iff_not,cmpF_neg]; omega
theorem bet_total (h:a ≠ b):betF o a b = true∨betF o b a = true:=by
 rw [bet_cmp,bet_cmp,decide_eq_true_eq,decide_eq_true_eq,cmpF_neg (a:=a) (b:=b)]
 have:¬ cmpF o a b = 0:=fun h'=>h (cmpF_zero.1 h')
 omega
theorem ranked_eq:∀ {l m:List Int},l.Perm m→(l.Pairwise fun a b=>betF o a b = true)→(m.Pairwise fun a b=>betF o a b = true)→l = m
 | [],m,h,_,_=>(List.Perm.nil_eq h)
 | x :: l,[],h,_,_=>by simp at h
 | x :: l,y :: m,h,h1,h2=>by
  rw [List.pairwise_cons] at h1 h2
  have hxy:x = y:=by
   rcases List.mem_cons.1 (h.subset (List.mem_cons_self ..)) with e | e
   ·exact e
   ·rcases List.mem_cons.1 (h.symm.subset (List.mem_cons_self ..)) with e' | e'
    ·exact e'.symm
    ·have a1:=h2.1 x e
     have a2:=h1.1 y e'
     rw [bet_asymm a1] at a2; cases a2
  subst hxy
  rw [ranked_eq (List.Perm.cons_inv h) h1.2 h2.2]
theorem ranked_uniq {s l m:List Int} (h1:rankedP o s l) (h2:rankedP o s m):l = m:=ranked_eq (h1.1.trans h2.1.symm) h1.2 h2.2
end Go.Proofs

set_option linter.unusedSimpArgs false
set_option linter.unusedVariables false
namespace Go.Proofs
open Go Go.Eng
theorem u8_lt {x y:Int} (hx:0 ≤ x∧x < 256) (hy:0 ≤ y∧y < 256):x.toNat.toUInt8 < y.toNat.toUInt8↔x < y:=by
 rw [UInt8.lt_iff_toNat_lt]
 have h1:x.toNat.toUInt8.toNat = x.toNat:=by
  show x.toNat % 256 = x.toNat
  omega
 have h2:y.toNat.toUInt8.toNat = y.toNat:=by
  show y.toNat % 256 = y.toNat
  omega
 rw [h1,h2]; omega
theorem cmp_bytes:∀ {xs ys:List Int},allM xs→allM ys→Lib.compareBytes (Lib.bytesOf xs) (Lib.bytesOf ys) = cmpL xs ys
 | [],[],_,_=>rfl
 | [],_ :: _,_,_=>rfl
 | _ :: _,[],_,_=>rfl
 | x :: xs,y :: ys,hx,hy=>by
  have h1:=u8_lt (hx x (List.mem_cons_self ..)) (hy y (List.mem_cons_self ..))
  have h2:=u8_lt (hy y (List.mem_cons_self ..)) (hx x (List.mem_cons_self ..))
  have h3:=cmp_bytes (xs:=xs) (ys:=ys) (fun z hz=>hx z (List.mem_cons_of_mem _ hz)) (fun z hz=>hy z (List.mem_cons_of_mem _ hz))
  show (if x.toNat.toUInt8 < y.toNat.toUInt8 then -1 else if y.toNat.toUInt8 < x.toNat.toUInt8 then 1 else Lib.compareBytes (Lib.bytesOf xs) (Lib.bytesOf ys)) = _
  rw [h3,cmpL]
  simp only [h1,h2]
theorem ck_int {k:IntKind} {v:Value} (h:CK.fits (.int k) v = true):∃ z,v = .int k z:=by
 cases v <;> simp [CK.fits] at h
 subst h
 exact ⟨_,rfl⟩
theorem rk_cells {c:Array Value} {b o:Nat} {ty:TypeId} {fr:Nat × Nat} {d:Rows'} {w:World} (hb:w.heap[b]? = some (.cells c ty fr)) (hd:oneRow d 33) (hr:rowsAt c o kRk d) :
  ∀ j x,((rowL d 33).drop 1)[j]? = some x→w.cell? ((⟨b,o + 1,none⟩:Addr).add j) = some (.int .u8 x):=fun j x hx=>by
 obtain ⟨row,rfl,hl⟩:=hd
 obtain ⟨hf,hc⟩:=hr 0 row rfl
 rw [List.getElem?_drop] at hx
 have hj:1 + j < 33:=by
  rcases Nat.lt_or_ge (1 + j) 33 with h | h
  ·exact h
  ·rw [List.getElem?_eq_none (by simp [rowL]; omega)] at hx; cases hx
 have hx2:x = vInt (row[1 + j]?.getD .nilFunc):=by
  rw [rowL,List.getElem?_map,List.getElem?_range hj] at hx
  have:=(Option.some.inj hx).symm
  rw [this]; rfl
 have hrow:row[1 + j]? = some row[1 + j]:=List.getElem?_eq_getElem (by omega)
 have hk:kRk[1 + j]? = some (.int .u8):=by
  have:kRk = .int .i64 :: List.replicate 32 (.int .u8):=rfl
  rw [this,Nat.add_comm,List.getElem?_cons_succ,List.getElem?_replicate,if_pos (by omega)]
 obtain ⟨z,hz⟩:=ck_int (hf.2 (1 + j) (.int .u8) row[1 + j] hk hrow)
 have hv:=hc (1 + j) row[1 + j] hrow
 rw [hx2,hrow]
 simp only [Option.getD_some]
 rw [hz] at hv ⊢
 have e:((⟨b,o + 1,none⟩:Addr).add j) = ⟨b,o + 1 + j,none⟩:=by
  unfold Addr.add
  by_cases hj0:j = 0
  ·subst hj0; simp
  ·simp [hj0]
 rw [e]
 simp only [World.cell?,hb]
 show c[o + 1 + j]? = _
 rw [show o + 1 + j = o + 0 * kRk.length + (1 + j) by omega,hv]
 rfl
theorem bcmp_ok:bcmpC.ok Tryz.prog:=by
 refine ⟨fun args w=>Tryz.call118 args w,fun ρ w hF hO hg hd hw hs hro hp=>?_⟩
 obtain ⟨h2,h3,b2,b3⟩:=hp
 have hr0:=hro _ (List.mem_cons_self ..)
 have hr1:=hro _ (List.mem_cons_of_mem _ (List.mem_cons_self ..))
 obtain ⟨row2,e2,l2⟩:=h2
 obtain ⟨row3,e3,l3⟩:=h3
 rcases hr0 with h | ⟨b,o,c,ty,fr,q1,q2,q3⟩
 ·have h:(ρ 2).d = []:=h
  rw [e2] at h; cases h
 rcases hr1 with h | ⟨b',o',c',ty',fr',p1,p2,p3⟩
 ·have h:(ρ 3).d = []:=h
  rw [e3] at h; cases h
 have hsub:∀ {x:Nat} {X:Obj},hF.h x = some X→w.heap[x]? = some X:=fun h=>hw.1 _ _ (by simp [Hp.union,h])
 have hx:=rk_cells (w:=w) (hsub q2) ⟨row2,e2,l2⟩ q3
 have hy:=rk_cells (w:=w) (hsub p2) ⟨row3,e3,l3⟩ p3
 have hlen:∀ d:Rows',((rowL d 33).drop 1).length = 32:=fun d=>by simp [rowL]
 have hc:=bcmp_calls ⟨b,o + 1,none⟩ ⟨b',o' + 1,none⟩ _ _ 32 32 w hx hy
 rw [hlen,hlen] at hc
 have hargs:(List.map (SV.den ρ) bcmpC.args).toArray = #[.slice (some ⟨b,o + 1,none⟩) 32 32,.slice (some ⟨b',o' + 1,none⟩) 32 32]:=by
  simp [bcmpC,SV.den,T.den,O0.den,O3.den,q1,p1,addrOf]
 rw [hargs]
 refine hc.mono fun e w' h=>?_
 obtain ⟨rfl,rfl⟩:=h
 refine ⟨0,_,ρ.set 4 { i:=cmpL ((rowL (ρ 2).d 33).drop 1) ((rowL (ρ 3).d 33).drop 1) },rfl,fun n=>?_,fun n hn=>Env.set_ne _ _ (by have:n < 4:=hn; omega),?_,?_,hO,hd,trivial,hw.1,hw.2⟩
 ·by_cases hn:n = 4
  ·subst hn; rw [Env.set_same]; exact ⟨rfl,fun row hr=>(by cases hr)⟩
  ·rw [Env.set_ne _ _ hn]; exact hg n
 ·rw [cmp_bytes b2 b3]; rfl
 ·rfl
end Go.Proofs

set_option linter.unusedSimpArgs false
set_option linter.unusedVariables false
set_option maxRecDepth 100000
namespace Go.Proofs
open Go Go.Eng

def o_peer:Out:=(.br (.cmp .geq (.var 0) (.lit 0))
 (.ret 0 (sg 1 [bt 1 (.cmp .lss (.var 0) (.lit 16))]))
 (.ret 0 (sg 1 [bt 1 (.bl false)])))
theorem o_peer_eq:treeOf ⟨Tryz.prog,peerC,[],[]⟩ 100000 Tryz.f100 = o_peer:=by kernel_rfl
theorem peer_of (hd:∀ c ∈ ([]:List Ctr),c.ok Tryz.prog) (h:∀ ρ:Env,ρ.good→(peerC).pre ρ→o_peer.den ⟨Tryz.prog,peerC,[],[]⟩ ρ):(peerC).ok Tryz.prog :=
 ok_of_tree Tryz.func100 (fun a w=>Tryz.call100 a w) hd 100000 (fun ρ hg hp=>by rw [o_peer_eq]; exact h ρ hg hp)
@[simp] def o_set_1:T:=.rcons (.vbool (.bcell (.var 7) (.lit 0) 0)) (.rcons (.vbool (.bcell (.var 7) (.lit 0) 1)) (.rcons (.vbool (.bcell (.var 7) (.lit 0) 2)) (.rcons (.vbool (.bcell (.var 7) (.lit 0) 3)) (.rcons (.vbool (.bcell (.var 7) (.lit 0) 4)) (.rcons (.vbool (.bcell (.var 7) (.lit 0) 5)) (.rcons (.vbool (.bcell (.var 7) (.lit 0) 6)) (.rcons (.vbool (.bcell (.var 7) (.lit 0) 7)) (.rcons (.vbool (.bcell (.var 7) (.lit 0) 8)) (.rcons (.vbool (.bcell (.var 7) (.lit 0) 9)) (.rcons (.vbool (.bcell (.var 7) (.lit 0) 10)) (.rcons (.vbool (.bcell (.var 7) (.lit 0) 11)) (.rcons (.vbool (.bcell (.var 7) (.lit 0) 12)) (.rcons (.vbool (.bcell (.var 7) (.lit 0) 13)) (.rcons (.vbool (.bcell (.var 7) (.lit 0) 14)) (.rcons (.vbool (.bcell (.var 7) (.lit 0) 15)) .rnil)))))))))))))))
def o_set:Out:=(.fresh 5 (.need (.cmp .leq (.lit 0) (.var 1)) (.inv 0 6 (sg 1000 [bt 1001 (.rcons (.vbool (.bl false)) (.rcons (.vbool (.bl false)) (.rcons (.vbool (.bl false)) (.rcons (.vbool (.bl false)) (.rcons (.vbool (.bl false)) (.rcons (.vbool (.bl false)) (.rcons (.vbool (.bl false)) (.rcons (.vbool (.bl false)) (.rcons (.vbool (.bl false)) (.rcons (.vbool (.bl false)) (.rcons (.vbool (.bl false)) (.rcons (.vbool (.bl false)) (.rcons (.vbool (.bl false)) (.rcons (.vbool (.bl false)) (.rcons (.vbool (.bl false)) (.rcons (.vbool (.bl false)) .rnil)))))))))))))))),bt 1002 (.lit 0),bg 1000 5]) (.fresh 6 (.fresh 7 (.fresh 8 (.hyp 0 6 (.br (.cmp .lss (.var 8) (.var 1))
 (.need (.cmp .leq (.lit 0) (.var 8)) (.need (.cmp .lss (.var 8) (.dlen (.var 3))) (.pre 0 (sg 0 [bt 0 (.icell (.var 3) (.var 8) 0)]) (.both (.fresh 9 (.post 0 0 (sg 0 [bt 0 (.icell (.var 3) (.var 8) 0)]) 9 (.br (.var 9)
 (.need (.cmp .leq (.lit 0) (.icell (.var 3) (.var 8) 0)) (.need (.cmp .lss (.icell (.var 3) (.var 8) 0) (.lit 16)) (.need (.cmp .lss (.lit 0) (.dlen (.var 7))) (.back 0 6 (sg 1000 [bt 1001 (.c3 (.xput 0) (.var 7) (.icell (.var 3) (.var 8) 0) (.vbool (.bl true))),bt 1002 (.arith .add .i64 (.var 8) (.lit 1)),bg 1000 6])))))
 (.back 0 6 (sg 1000 [bv 1001 7,bt 1002 (.arith .add .i64 (.var 8) (.lit 1)),bg 1000 6]))))) .top))))
 (.need (.cmp .lss (.lit 0) (.dlen (.var 7))) (.ret 0 (sg 5 [bt 20 (.bcell (.dput (.var 7) (.lit 0) 0 o_set_1) (.lit 0) 15),bt 19 (.bcell (.dput (.var 7) (.lit 0) 0 o_set_1) (.lit 0) 14),bt 18 (.bcell (.dput (.var 7) (.lit 0) 0 o_set_1) (.lit 0) 13),bt 17 (.bcell (.dput (.var 7) (.lit 0) 0 o_set_1) (.lit 0) 12),bt 16 (.bcell (.dput (.var 7) (.lit 0) 0 o_set_1) (.lit 0) 11),bt 15 (.bcell (.dput (.var 7) (.lit 0) 0 o_set_1) (.lit 0) 10),bt 14 (.bcell (.dput (.var 7) (.lit 0) 0 o_set_1) (.lit 0) 9),bt 13 (.bcell (.dput (.var 7) (.lit 0) 0 o_set_1) (.lit 0) 8),bt 12 (.bcell (.dput (.var 7) (.lit 0) 0 o_set_1) (.lit 0) 7),bt 11 (.bcell (.dput (.var 7) (.lit 0) 0 o_set_1) (.lit 0) 6),bt 10 (.bcell (.dput (.var 7) (.lit 0) 0 o_set_1) (.lit 0) 5),bt 9 (.bcell (.dput (.var 7) (.lit 0) 0 o_set_1) (.lit 0) 4),bt 8 (.bcell (.dput (.var 7) (.lit 0) 0 o_set_1) (.lit 0) 3),bt 7 (.bcell (.dput (.var 7) (.lit 0) 0 o_set_1) (.lit 0) 2),bt 6 (.bcell (.dput (.var 7) (.lit 0) 0 o_set_1) (.lit 0) 1),bt 5 (.bcell (.dput (.var 7) (.lit 0) 0 o_set_1) (.lit 0) 0)])))))))))))
theorem o_set_eq:treeOf ⟨Tryz.prog,setC,[peerC],[setI]⟩ 100000 Tryz.f82 = o_set:=by kernel_rfl
theorem set_of (hd:∀ c ∈ ([peerC]:List Ctr),c.ok Tryz.prog) (h:∀ ρ:Env,ρ.good→(setC).pre ρ→o_set.den ⟨Tryz.prog,setC,[peerC],[setI]⟩ ρ):(setC).ok Tryz.prog :=
 ok_of_tree Tryz.func82 (fun a w=>Tryz.call82 a w) hd 100000 (fun ρ hg hp=>by rw [o_set_eq]; exact h ρ hg hp)
@[simp] def o_score_1:Sg:=sg 0 [bv 7 3,bv 5 8,bt 4 (.dapp (.dapp (.rcons (x8 0 0) .rnil) (.dapp (.rcons (x8 1 0) .rnil) (.dapp (.rcons (x8 2 0) .rnil) (.dapp (.rcons (x8 3 0) .rnil) (.dapp (.rcons (x8 4 0) .rnil) (.dapp (.rcons (x8 5 0) .rnil) (.dapp (.rcons (x8 6 0) .rnil) (.dapp (.rcons (x8 7 0) .rnil) (.dapp (.rcons (x8 8 0) .rnil) (.dapp (.rcons (x8 9 0) .rnil) (.dapp (.rcons (x8 10 0) .rnil) (.dapp (.rcons (x8 11 0) .rnil) (.dapp (.rcons (x8 12 0) .rnil) (.dapp (.rcons (x8 13 0) .rnil) (.dapp (.rcons (x8 14 0) .rnil) (.dapp (.rcons (x8 15 0) .rnil) (.dapp (.rcons (x8 16 0) .rnil) (.dapp (.rcons (x8 17 0) .rnil) (.dapp (.rcons (x8 18 0) .rnil) (.dapp (.rcons (x8 19 0) .rnil) (.dapp (.rcons (x8 20 0) .rnil) (.dapp (.rcons (x8 21 0) .rnil) (.dapp (.rcons (x8 22 0) .rnil) (.dapp (.rcons (x8 23 0) .rnil) (.dapp (.rcons (x8 24 0) .rnil) (.dapp (.rcons (x8 25 0) .rnil) (.dapp (.rcons (x8 26 0) .rnil) (.dapp (.rcons (x8 27 0) .rnil) (.dapp (.rcons (x8 28 0) .rnil) (.dapp (.rcons (x8 29 0) .rnil) (.dapp (.rcons (x8 30 0) .rnil) (.rcons (x8 31 0) .rnil)))))))))))))))))))))))))))))))) (.rcons (.vint .u8 (.conv .u8 (.var 1))) .rnil)),bv 3 8,bt 2 (.lit 33),bt 1 (.lit 0),bg 0 7,bg 6 2]
def o_score:Out:=(.fresh 4 (.fresh 5 (.fresh 6 (.need (.cmp .leq (.tims (.lit 1) (.lit 33)) (.lit 140737488355328)) (.fresh 7 (.fresh 8 (.know (.cmp .leq (.lit 33) (.var 8)) (.pre 0 o_score_1 (.both (.fresh 9 (.post 0 0 o_score_1 9 (.ret 0 (sg 4 [bt 4 (r8 9)])))) .top)))))))))
theorem o_score_eq:treeOf ⟨Tryz.prog,scoreC,[sha256C],[]⟩ 100000 Tryz.f24 = o_score:=by kernel_rfl
theorem score_of (hd:∀ c ∈ ([sha256C]:List Ctr),c.ok Tryz.prog) (h:∀ ρ:Env,ρ.good→(scoreC).pre ρ→o_score.den ⟨Tryz.prog,scoreC,[sha256C],[]⟩ ρ):(scoreC).ok Tryz.prog :=
 ok_of_tree Tryz.func24 (fun a w=>Tryz.call24 a w) hd 100000 (fun ρ hg hp=>by rw [o_score_eq]; exact h ρ hg hp)
def o_rank:Out:=(.fresh 4 (.fresh 5 (.pre 0 (sg 0 [bv 3 3,bv 1 1,bt 0 (r8 0),bg 2 2]) (.both (.fresh 6 (.post 0 0 (sg 0 [bv 3 3,bv 1 1,bt 0 (r8 0),bg 2 2]) 6 (.ret 0 (sg 4 [bt 4 (r8 6)])))) .top))))
theorem o_rank_eq:treeOf ⟨Tryz.prog,rankC,[scoreC],[]⟩ 100000 Tryz.f80 = o_rank:=by kernel_rfl
theorem rank_of (hd:∀ c ∈ ([scoreC]:List Ctr),c.ok Tryz.prog) (h:∀ ρ:Env,ρ.good→(rankC).pre ρ→o_rank.den ⟨Tryz.prog,rankC,[scoreC],[]⟩ ρ):(rankC).ok Tryz.prog :=
 ok_of_tree Tryz.func80 (fun a w=>Tryz.call80 a w) hd 100000 (fun ρ hg hp=>by rw [o_rank_eq]; exact h ρ hg hp)
def o_compare:Out:=(.fresh 4 (.fresh 5 (.both (.pre 0 (sg 0 [bt 3 (.rcons (.vint .i64 (.var 2)) (r8 3)),bt 2 (.rcons (.vint .i64 (.var 0)) (r8 1)),bg 1 5,bg 0 4]) (.both (.fresh 6 (.post 0 0 (sg 0 [bt 3 (.rcons (.vint .i64 (.var 2)) (r8 3)),bt 2 (.rcons (.vint .i64 (.var 0)) (r8 1)),bg 1 5,bg 0 4]) 6 (.br (.cmp .neq (.var 6) (.lit 0))
 (.ret 0 (sg 4 [bv 4 6]))
 (.ret 0 (sg 4 [bt 4 (.arith .sub .i64 (.var 0) (.var 2))]))))) .top)) .top)))
theorem o_compare_eq:treeOf ⟨Tryz.prog,compareC,[bcmpC],[]⟩ 100000 Tryz.f81 = o_compare:=by kernel_rfl
theorem compare_of (hd:∀ c ∈ ([bcmpC]:List Ctr),c.ok Tryz.prog) (h:∀ ρ:Env,ρ.good→(compareC).pre ρ→o_compare.den ⟨Tryz.prog,compareC,[bcmpC],[]⟩ ρ):(compareC).ok Tryz.prog :=
 ok_of_tree Tryz.func81 (fun a w=>Tryz.call81 a w) hd 100000 (fun ρ hg hp=>by rw [o_compare_eq]; exact h ρ hg hp)
@[simp] def o_better_3:Out:=.fresh 10 (.both (.fresh 11 (.both (.both (.br (.c2 .req (r8 6) (r8 8))
 (.ret 0 (sg 5 [bt 5 (.cmp .lss (.var 1) (.var 2))]))
 (.pre 1 (sg 0 [bv 2 2,bt 3 (r8 8),bv 0 1,bt 1 (r8 6)]) (.both (.fresh 12 (.post 1 0 (sg 0 [bv 2 2,bt 3 (r8 8),bv 0 1,bt 1 (r8 6)]) 12 (.ret 0 (sg 5 [bt 5 (.cmp .lss (.var 12) (.lit 0))])))) .top))) .top) .top)) .top)
@[simp] def o_better_2:Out:=.fresh 8 (.both (.pre 0 (sg 0 [bv 3 4,bv 1 2,bt 0 (r8 0),bg 2 3]) (.both (.fresh 9 (.fresh 10 (.post 0 0 (sg 0 [bv 3 4,bv 1 2,bt 0 (r8 0),bg 2 3]) 9 (.both (.fresh 11 (.both (.both (.br (.c2 .req (r8 6) (r8 9))
 (.ret 0 (sg 5 [bt 5 (.cmp .lss (.var 1) (.var 2))]))
 (.pre 1 (sg 0 [bv 2 2,bt 3 (r8 9),bv 0 1,bt 1 (r8 6)]) (.both (.fresh 12 (.post 1 0 (sg 0 [bv 2 2,bt 3 (r8 9),bv 0 1,bt 1 (r8 6)]) 12 (.ret 0 (sg 5 [bt 5 (.cmp .lss (.var 12) (.lit 0))])))) .top))) .top) .top)) .top)))) .top)) (.both (.fresh 9 (.both (.pre 0 (sg 0 [bv 3 4,bv 1 2,bt 0 (r8 0),bg 2 3]) (.both (.fresh 10 (.fresh 11 (.post 0 0 (sg 0 [bv 3 4,bv 1 2,bt 0 (r8 0),bg 2 3]) 10 (.both (.both (.br (.c2 .req (r8 6) (r8 10))
 (.ret 0 (sg 5 [bt 5 (.cmp .lss (.var 1) (.var 2))]))
 (.pre 1 (sg 0 [bv 2 2,bt 3 (r8 10),bv 0 1,bt 1 (r8 6)]) (.both (.fresh 12 (.post 1 0 (sg 0 [bv 2 2,bt 3 (r8 10),bv 0 1,bt 1 (r8 6)]) 12 (.ret 0 (sg 5 [bt 5 (.cmp .lss (.var 12) (.lit 0))])))) .top))) .top) .top)))) .top)) .top)) .top))
@[simp] def o_better_1:Out:=.fresh 6 (.both (.pre 0 (sg 0 [bv 3 4,bv 1 1,bt 0 (r8 0),bg 2 3]) (.both (.fresh 7 (.fresh 8 (.post 0 0 (sg 0 [bv 3 4,bv 1 1,bt 0 (r8 0),bg 2 3]) 7 (.both (.pre 0 (sg 0 [bv 3 4,bv 1 2,bt 0 (r8 0),bg 2 3]) (.both (.fresh 9 (.fresh 10 (.post 0 0 (sg 0 [bv 3 4,bv 1 2,bt 0 (r8 0),bg 2 3]) 9 (.both (.fresh 11 (.both (.both (.br (.c2 .req (r8 7) (r8 9))
 (.ret 0 (sg 5 [bt 5 (.cmp .lss (.var 1) (.var 2))]))
 (.pre 1 (sg 0 [bv 2 2,bt 3 (r8 9),bv 0 1,bt 1 (r8 7)]) (.both (.fresh 12 (.post 1 0 (sg 0 [bv 2 2,bt 3 (r8 9),bv 0 1,bt 1 (r8 7)]) 12 (.ret 0 (sg 5 [bt 5 (.cmp .lss (.var 12) (.lit 0))])))) .top))) .top) .top)) .top)))) .top)) (.both (.fresh 9 (.both (.pre 0 (sg 0 [bv 3 4,bv 1 2,bt 0 (r8 0),bg 2 3]) (.both (.fresh 10 (.fresh 11 (.post 0 0 (sg 0 [bv 3 4,bv 1 2,bt 0 (r8 0),bg 2 3]) 10 (.both (.both (.br (.c2 .req (r8 7) (r8 10))
 (.ret 0 (sg 5 [bt 5 (.cmp .lss (.var 1) (.var 2))]))
 (.pre 1 (sg 0 [bv 2 2,bt 3 (r8 10),bv 0 1,bt 1 (r8 7)]) (.both (.fresh 12 (.post 1 0 (sg 0 [bv 2 2,bt 3 (r8 10),bv 0 1,bt 1 (r8 7)]) 12 (.ret 0 (sg 5 [bt 5 (.cmp .lss (.var 12) (.lit 0))])))) .top))) .top) .top)))) .top)) .top)) .top))))) .top)) (.both (.fresh 7 (.both (.pre 0 (sg 0 [bv 3 4,bv 1 1,bt 0 (r8 0),bg 2 3]) (.both (.fresh 8 (.fresh 9 (.post 0 0 (sg 0 [bv 3 4,bv 1 1,bt 0 (r8 0),bg 2 3]) 8 (.both (.pre 0 (sg 0 [bv 3 4,bv 1 2,bt 0 (r8 0),bg 2 3]) (.both (.fresh 10 (.fresh 11 (.post 0 0 (sg 0 [bv 3 4,bv 1 2,bt 0 (r8 0),bg 2 3]) 10 (.both (.both (.br (.c2 .req (r8 8) (r8 10))
 (.ret 0 (sg 5 [bt 5 (.cmp .lss (.var 1) (.var 2))]))
 (.pre 1 (sg 0 [bv 2 2,bt 3 (r8 10),bv 0 1,bt 1 (r8 8)]) (.both (.fresh 12 (.post 1 0 (sg 0 [bv 2 2,bt 3 (r8 10),bv 0 1,bt 1 (r8 8)]) 12 (.ret 0 (sg 5 [bt 5 (.cmp .lss (.var 12) (.lit 0))])))) .top))) .top) .top)))) .top)) .top)))) .top)) .top)) .top))
def o_better:Out:=(.fresh 5 (.both (.pre 0 (sg 0 [bv 3 4,bv 1 1,bt 0 (r8 0),bg 2 3]) (.both (.fresh 6 (.fresh 7 (.post 0 0 (sg 0 [bv 3 4,bv 1 1,bt 0 (r8 0),bg 2 3]) 6 (.both (.pre 0 (sg 0 [bv 3 4,bv 1 2,bt 0 (r8 0),bg 2 3]) (.both (.fresh 8 (.fresh 9 (.post 0 0 (sg 0 [bv 3 4,bv 1 2,bt 0 (r8 0),bg 2 3]) 8 (.both o_better_3 (.both o_better_3 .top))))) .top)) (.both o_better_2 (.both o_better_2 .top)))))) .top)) (.both o_better_1 (.both o_better_1 .top))))
theorem o_better_eq:treeOf ⟨Tryz.prog,betterC,[rankC,compareC],[]⟩ 100000 Tryz.f26 = o_better:=by kernel_rfl
theorem better_of (hd:∀ c ∈ ([rankC,compareC]:List Ctr),c.ok Tryz.prog) (h:∀ ρ:Env,ρ.good→(betterC).pre ρ→o_better.den ⟨Tryz.prog,betterC,[rankC,compareC],[]⟩ ρ):(betterC).ok Tryz.prog :=
 ok_of_tree Tryz.func26 (fun a w=>Tryz.call26 a w) hd 100000 (fun ρ hg hp=>by rw [o_better_eq]; exact h ρ hg hp)
end Go.Proofs

set_option linter.unusedSimpArgs false
set_option linter.unusedVariables false
namespace Go.Proofs
open Go Go.Eng
set_option maxRecDepth 20000
theorem peer_ok:peerC.ok Tryz.prog:=peer_of (by simp) fun ρ hg hp=>by
 simp (config:={ maxSteps:=4000000 }) [o_peer,peerC,peerIs]
 exact ⟨fun h=>by simp [cmpOf,h],fun h1 h2=>by omega⟩
theorem score_rows (d:Rows') (p:Int):(rowL d 32).map (fun x=>[Value.int .u8 x]) ++ [[Value.int .u8 (IntKind.u8.wrap p)]] = [[.int .u8 (cellX d 0)],[.int .u8 (cellX d 1)],[.int .u8 (cellX d 2)],[.int .u8 (cellX d 3)],[.int .u8 (cellX d 4)],[.int .u8 (cellX d 5)],[.int .u8 (cellX d 6)],[.int .u8 (cellX d 7)],[.int .u8 (cellX d 8)],[.int .u8 (cellX d 9)],[.int .u8 (cellX d 10)],[.int .u8 (cellX d 11)],[.int .u8 (cellX d 12)],[.int .u8 (cellX d 13)],[.int .u8 (cellX d 14)],[.int .u8 (cellX d 15)],[.int .u8 (cellX d 16)],[.int .u8 (cellX d 17)],[.int .u8 (cellX d 18)],[.int .u8 (cellX d 19)],[.int .u8 (cellX d 20)],[.int .u8 (cellX d 21)],[.int .u8 (cellX d 22)],[.int .u8 (cellX d 23)],[.int .u8 (cellX d 24)],[.int .u8 (cellX d 25)],[.int .u8 (cellX d 26)],[.int .u8 (cellX d 27)],[.int .u8 (cellX d 28)],[.int .u8 (cellX d 29)],[.int .u8 (cellX d 30)],[.int .u8 (cellX d 31)],[.int .u8 (IntKind.u8.wrap p)]]:=rfl
theorem score_bI (d:Rows') (p:Int):bI ((rowL d 32).map (fun x=>[Value.int .u8 x]) ++ [[Value.int .u8 (IntKind.u8.wrap p)]]) = rowL d 32 ++ [p % 256]:=by
 rw [bI_app]
 congr 1
theorem score_allB {d:Rows'} {p:Int} (h:allM (rowL d 32)):allB ((rowL d 32).map (fun x=>[Value.int .u8 x]) ++ [[Value.int .u8 (IntKind.u8.wrap p)]]):=by
 refine allB_of ?_
 rw [score_bI]
 intro x hx
 rcases List.mem_append.1 hx with hx | hx
 ·exact h x hx
 ·rw [List.mem_singleton.1 hx]; exact ⟨Int.emod_nonneg _ (by decide),Int.emod_lt_of_pos _ (by decide)⟩
theorem score_ok:scoreC.ok Tryz.prog:=score_of (by simp [sha256_ok]) fun ρ hg hp=>by
 obtain ⟨hO,hGr,hGd⟩:=hp
 simp (config:={ maxSteps:=4000000 }) [o_score,scoreC,sha256C,bytesIn,gOk,hGr,hGd,hO]
 rw [← score_rows]
 refine fun u _ hu=>⟨⟨by omega,score_allB hO⟩,fun v _ hv=>?_⟩
 rw [hv,segB_all (by simp [rowL]),score_bI]; rfl
theorem rank_ok:rankC.ok Tryz.prog:=rank_of (by simp [score_ok]) fun ρ hg hp=>by
 obtain ⟨hO,hGr,hGd⟩:=hp
 simp (config:={ maxSteps:=4000000 }) [o_rank,rankC,scoreC,gOk,hGr,hGd,hO]
theorem compare_ok:compareC.ok Tryz.prog:=compare_of (by simp [bcmp_ok]) fun ρ hg hp=>by
 obtain ⟨h1,h3⟩:=hp
 simp (config:={ maxSteps:=4000000 }) [o_compare,compareC,bcmpC]
 refine ⟨⟨⟨_,rfl,rfl⟩,⟨_,rfl,rfl⟩,h1,h3⟩,fun u _ hu=>?_⟩
 have hu:u.i = cmpL (rowL (ρ 1).d 32) (rowL (ρ 3).d 32):=hu
 rw [← hu]
 exact ⟨fun h=>by simp [h],fun h=>by simp [h]⟩
theorem better_ok:betterC.ok Tryz.prog:=better_of (by simp [rank_ok,compare_ok]) fun ρ hg hp=>by
 obtain ⟨hO,hGr,hGd⟩:=hp
 simp (config:={ maxSteps:=4000000 }) [o_better,betterC,rankC,compareC,gOk,hGr,hGd,hO]
 intro u _ hu u1 _ hu1
 rw [hu,hu1]
 unfold betF
 refine ⟨fun h=>by rw [if_pos h]; rfl,fun h=>⟨⟨sha_allM _,sha_allM _⟩,fun v _ hv=>?_⟩⟩
 rw [if_neg (fun h'=>h (cmpL_zero.1 h'))] at hv
 rw [if_neg h,hv]; rfl
theorem seenTo_zero {L:List Int}:seenTo [List.replicate 16 (.bool false)] L 0:=by
 refine ⟨⟨_,rfl,List.length_replicate ..⟩,fun x h0 h1=>⟨fun h=>?_,fun h=>by simp at h⟩⟩
 exfalso
 have h2:cellXB [List.replicate 16 (Value.bool false)] x.toNat = false:=by
  unfold cellXB
  rw [List.headD_cons,List.getElem?_replicate,if_pos (by omega)]; rfl
 rw [h2] at h; cases h
theorem take_next {L:List Int} {n:Nat} (hn:n < L.length):L.take (n + 1) = L.take n ++ [L.getD n 0]:=by
 rw [List.take_add_one,List.getElem?_eq_getElem hn,List.getD_eq_getElem?_getD,List.getElem?_eq_getElem hn]; rfl
theorem seenTo_step {s:Rows'} {L:List Int} {n:Nat} {y:Int} (h:seenTo s L n) (hn:n < L.length) (hy:y = L.getD n 0) (h0:0 ≤ y) (h1:y < 16):seenTo (putX s y.toNat (.bool true)) L (n + 1):=by
 obtain ⟨⟨row,rfl,hr⟩,h2⟩:=h
 refine ⟨⟨_,rfl,by rw [List.length_set]; exact hr⟩,fun x x0 x1=>?_⟩
 have hc:cellXB (putX [row] y.toNat (.bool true)) x.toNat = if x = y then true else cellXB [row] x.toNat:=by
  unfold cellXB putX
  rw [List.headD_cons,List.headD_cons,List.getElem?_set]
  by_cases hxe:x = y
  ·rw [if_pos (by rw [hxe]),if_pos (by omega),if_pos hxe]; rfl
  ·rw [if_neg (fun e=>hxe (by omega)),if_neg hxe]
 rw [hc,take_next hn,← hy,List.mem_append,List.mem_singleton]
 by_cases hxe:x = y
 ·rw [if_pos hxe]; exact ⟨fun _=>.inr hxe,fun _=>rfl⟩
 ·rw [if_neg hxe,h2 x x0 x1]
  exact ⟨.inl,fun h=>h.resolve_right hxe⟩
theorem seenTo_skip {s:Rows'} {L:List Int} {n:Nat} {y:Int} (h:seenTo s L n) (hn:n < L.length) (hy:y = L.getD n 0) (hne:¬ (0 ≤ y∧y < 16)):seenTo s L (n + 1):=by
 refine ⟨h.1,fun x x0 x1=>?_⟩
 rw [h.2 x x0 x1,take_next hn,← hy,List.mem_append,List.mem_singleton]
 exact ⟨.inl,fun h=>h.resolve_right (fun e=>hne (by omega))⟩
theorem ints_at {d:Rows'} {i:Int} (h0:0 ≤ i) (h1:i < d.length):cellI d i 0 = (ints d).getD i.toNat 0:=by
 have hl:i.toNat < d.length:=by omega
 rw [ints,List.getD_eq_getElem?_getD,List.getElem?_map,List.getElem?_eq_getElem hl]
 simp [cellI,cellV,rowI,List.getElem?_eq_getElem hl]
theorem set_ok:setC.ok Tryz.prog:=set_of (by simp [peer_ok]) fun ρ hg hp=>by
 obtain ⟨hl,h1,hr⟩:=hp
 simp only [Nat.reduceAdd] at hl h1 hr
 simp (config:={ maxSteps:=4000000 }) [o_set,setC,setI,peerC,hl]
 have hil:(ints (ρ 3).d).length = (ρ 3).d.length:=by simp [ints]
 refine ⟨seenTo_zero,fun s _ i _ i0 i1 hs=>⟨fun hi=>⟨i0,hi,fun u _ hu=>⟨fun ht=>?_,fun hf=>?_⟩⟩,fun hi=>?_⟩⟩
 ·have hp:0 ≤ cellI (ρ 3).d i.i 0∧cellI (ρ 3).d i.i 0 < 16:=by rw [hu] at ht; exact of_decide_eq_true ht
  have hsl:0 < s.d.length:=by obtain ⟨⟨row,e,_⟩,_⟩:=hs; rw [e]; exact Nat.one_pos
  rw [add64 (x:=i.i) (by omega) (by omega)]
  refine ⟨hp.1,hp.2,hsl,⟨by omega,by omega,?_⟩,by omega⟩
  rw [show (i.i + 1).toNat = i.i.toNat + 1 by omega]
  exact seenTo_step hs (by omega) (ints_at i0 hi) hp.1 hp.2
 ·have hp:¬ (0 ≤ cellI (ρ 3).d i.i 0∧cellI (ρ 3).d i.i 0 < 16):=by rw [hu] at hf; exact of_decide_eq_false hf
  rw [add64 (x:=i.i) (by omega) (by omega)]
  refine ⟨⟨by omega,by omega,?_⟩,by omega⟩
  rw [show (i.i + 1).toNat = i.i.toNat + 1 by omega]
  exact seenTo_skip hs (by omega) (ints_at i0 hi) hp
 ·obtain ⟨⟨row,hs1,hrl⟩,hs2⟩:=hs
  rw [List.take_of_length_le (by omega)] at hs2
  rw [hs1] at hs2 ⊢
  match row,hrl with
  | [a0,a1,a2,a3,a4,a5,a6,a7,a8,a9,a10,a11,a12,a13,a14,a15],_ =>
   refine ⟨by simp,?_⟩
   have key:boolsP ((List.range 16).map (cellXB [[a0,a1,a2,a3,a4,a5,a6,a7,a8,a9,a10,a11,a12,a13,a14,a15]])) (ints (ρ 3).d):=⟨by simp,fun j hj=>by
    rw [List.getD_eq_getElem?_getD,List.getElem?_map,List.getElem?_range hj]
    exact hs2 j (by omega) (by omega)⟩
   exact key
end Go.Proofs

set_option linter.unusedSimpArgs false
set_option linter.unusedVariables false
namespace Go.Eng
open Go Go.Proofs
end Go.Eng

set_option linter.unusedSimpArgs false
set_option linter.unusedVariables false
set_option maxRecDepth 100000
namespace Go.Proofs
open Go Go.Eng

end Go.Proofs

set_option linter.unusedSimpArgs false
set_option linter.unusedVariables false
namespace Go.Proofs
open Go Go.Eng
set_option maxRecDepth 20000
theorem ints_len {d:Rows'}:(ints d).length = d.length:=by simp [ints]
end Go.Proofs

set_option linter.unusedSimpArgs false
set_option linter.unusedVariables false
namespace Go.Eng
open Go Go.Proofs
def peersTo (L:List Int) (n:Nat):List Int:=((List.range n).map fun (i:Nat)=>(i:Int)).filter fun x=>decide (x ∈ L)
def indexC:Ctr:={ fn := 121,nv:=6,args:=[bS 0,iv .i64 (.var 5)],heap:=[],ro:=[iHpA 0],pre:=fun ρ=>intsIn ρ 0,alts:=[{ k:=1,ret:=iv .i64 (.var 6),heap:=[],post:=fun ρ=>0 ≤ (ρ 6).i↔(ρ 5).i ∈ ints (ρ 3).d }] }
def indexI:Inv:={ key:=2,nv:=1,env:=[(0,bS 0),(1,iv .i64 (.var 5)),(6,bS 0),(7,iv .i64 (.var 1)),(8,iv .i64 (.var 1000))],heap:=[],inv:=(fun ρ=>0 ≤ (ρ 1000).i∧(ρ 1000).i ≤ (ρ 1).i∧(ρ 5).i ∉ (ints (ρ 3).d).take (ρ 1000).i.toNat),mu:=(fun ρ=>((ρ 1).i - (ρ 1000).i).toNat) }
def containsC:Ctr:={ fn := 84,nv:=6,args:=[bS 0,iv .i64 (.var 5)],heap:=[],ro:=[iHpA 0],pre:=fun ρ=>intsIn ρ 0,alts:=[{ k:=1,ret:=.one (.vbool (.var 6)),heap:=[],post:=fun ρ=>(ρ 6).b = decide ((ρ 5).i ∈ ints (ρ 3).d) }] }
end Go.Eng

set_option linter.unusedSimpArgs false
set_option linter.unusedVariables false
set_option maxRecDepth 100000
namespace Go.Proofs
open Go Go.Eng

def o_index:Out:=(.need (.cmp .leq (.lit 0) (.var 1)) (.inv 0 6 (sg 1000 [bt 1000 (.lit 0)]) (.fresh 6 (.hyp 0 6 (.br (.cmp .lss (.var 6) (.var 1))
 (.need (.cmp .leq (.lit 0) (.var 6)) (.need (.cmp .lss (.var 6) (.dlen (.var 3))) (.br (.cmp .eql (.var 5) (.icell (.var 3) (.var 6) 0))
 (.ret 0 (sg 6 [bv 6 6]))
 (.back 0 6 (sg 1000 [bt 1000 (.arith .add .i64 (.var 6) (.lit 1))])))))
 (.ret 0 (sg 6 [bt 6 (.lit (-1))])))))))
theorem o_index_eq:treeOf ⟨Tryz.prog,indexC,[],[indexI]⟩ 100000 Tryz.f121 = o_index:=by kernel_rfl
theorem index_of (hd:∀ c ∈ ([]:List Ctr),c.ok Tryz.prog) (h:∀ ρ:Env,ρ.good→(indexC).pre ρ→o_index.den ⟨Tryz.prog,indexC,[],[indexI]⟩ ρ):(indexC).ok Tryz.prog :=
 ok_of_tree Tryz.func121 (fun a w=>Tryz.call121 a w) hd 100000 (fun ρ hg hp=>by rw [o_index_eq]; exact h ρ hg hp)
def o_contains:Out:=(.pre 0 (sg 0 [bv 4 4,bv 3 3,bv 5 5,bv 2 2,bv 1 1,bg 0 0]) (.both (.fresh 6 (.post 0 0 (sg 0 [bv 4 4,bv 3 3,bv 5 5,bv 2 2,bv 1 1,bg 0 0]) 6 (.ret 0 (sg 6 [bt 6 (.cmp .geq (.var 6) (.lit 0))])))) .top))
theorem o_contains_eq:treeOf ⟨Tryz.prog,containsC,[indexC],[]⟩ 100000 Tryz.f84 = o_contains:=by kernel_rfl
theorem contains_of (hd:∀ c ∈ ([indexC]:List Ctr),c.ok Tryz.prog) (h:∀ ρ:Env,ρ.good→(containsC).pre ρ→o_contains.den ⟨Tryz.prog,containsC,[indexC],[]⟩ ρ):(containsC).ok Tryz.prog :=
 ok_of_tree Tryz.func84 (fun a w=>Tryz.call84 a w) hd 100000 (fun ρ hg hp=>by rw [o_contains_eq]; exact h ρ hg hp)
end Go.Proofs

set_option linter.unusedSimpArgs false
set_option linter.unusedVariables false
namespace Go.Proofs
open Go Go.Eng
set_option maxRecDepth 20000
theorem peersTo_next {L:List Int} {n:Nat}:peersTo L (n + 1) = peersTo L n ++ (if (n:Int) ∈ L then [(n:Int)] else []):=by
 unfold peersTo
 rw [List.range_succ,List.map_append,List.filter_append]
 congr 1
 simp only [List.map_cons,List.map_nil,List.filter_cons,List.filter_nil,decide_eq_true_eq]
theorem ints_snoc {d:Rows'} {x:Int}:ints (d ++ [[.int .i64 x]]) = ints d ++ [x]:=by simp [ints,rowI,vInt]
theorem index_ok:indexC.ok Tryz.prog:=index_of (by simp) fun ρ hg hp=>by
 obtain ⟨hl,h1,hr⟩:=hp
 simp only [Nat.reduceAdd] at hl h1 hr
 simp (config:={ maxSteps:=4000000 }) [o_index,indexC,indexI,hl]
 have hil:=ints_len (d:=(ρ 3).d)
 intro i _ i0 i1 hno
 refine ⟨fun hi=>⟨i0,hi,fun he=>⟨fun _=>?_,fun _=>i0⟩,fun hne=>?_⟩,fun hi=>?_⟩
 ·rw [he,ints_at i0 hi,List.getD_eq_getElem?_getD,List.getElem?_eq_getElem (by omega)]
  exact List.getElem_mem _
 ·rw [ints_at i0 hi] at hne
  rw [add64 (x:=i.i) (by omega) (by omega)]
  refine ⟨⟨by omega,by omega,?_⟩,by omega⟩
  rw [show (i.i + 1).toNat = i.i.toNat + 1 by omega,take_next (by omega),List.mem_append,List.mem_singleton]
  exact fun h=>h.elim hno fun h=>hne h
 ·rw [List.take_of_length_le (by omega)] at hno
  exact hno
theorem contains_ok:containsC.ok Tryz.prog:=contains_of (by simp [index_ok]) fun ρ hg hp=>by
 obtain ⟨hl,h1,hr⟩:=hp
 simp only [Nat.reduceAdd] at hl h1 hr
 simp (config:={ maxSteps:=4000000 }) [o_contains,containsC,indexC,iHpA,intsIn,hl]
 refine ⟨⟨by omega,hr⟩,fun u _ hu=>?_⟩
 show decide (u.i ≥ 0) = _
 exact decide_eq_decide.2 hu
end Go.Proofs

set_option linter.unusedSimpArgs false
set_option linter.unusedVariables false
namespace Go.Eng
open Go Go.Proofs
def covF (o:List Int) (self n:Int) (L:List Int):Bool:=decide (1 ≤ n) && decide (n ≤ (((peersL L).filter fun i=>betF o i self).length:Int))
def covPre (ρ:Env) (g:Nat):Prop:=allM (rowL (ρ 0).d 32)∧intsIn ρ 3∧gOk ρ 8 9 g
def covC:Ctr:={ fn := 37,nv:=10,ip:=[gIp 8],args:=[dgV 0,iv .i64 (.var 1),iv .i64 (.var 2),bS 3],heap:=[],ro:=[iHpA 3,gHp 8 9],pre:=fun ρ=>covPre ρ gR,alts:=[{ k:=1,ret:=.one (.vbool (.var 10)),heap:=[],post:=fun ρ=>(ρ 10).b = covF (rowL (ρ 0).d 32) (ρ 1).i (ρ 2).i (ints (ρ 6).d) }] }
def covI:Inv:={ key:=3,nv:=3,env:=[(1,iv .i64 (.var 1)),(2,iv .i64 (.var 2)),(4,.one (.vptr 1000 (.lit 0) 32 0)),(9,iv .i64 (.var 1002)),(13,b16 11),(14,iv .i64 (.var 1001))],heap:=[.cells 1000 24 (cellsT .u8 0 32)],inv:=(fun ρ=>0 ≤ (ρ 1001).i∧(ρ 1001).i ≤ 16∧(ρ 1002).i = (((peersTo (ints (ρ 6).d) (ρ 1001).i.toNat).filter fun i=>betF (rowL (ρ 0).d 32) i (ρ 1).i).length:Int)),mu:=(fun ρ=>(16 - (ρ 1001).i).toNat) }
end Go.Eng

set_option linter.unusedSimpArgs false
set_option linter.unusedVariables false
namespace Go.Proofs
open Go Go.Eng
end Go.Proofs

set_option linter.unusedSimpArgs false
set_option linter.unusedVariables false
namespace Go.Eng
open Go Go.Proofs
def rkRow (o:List Int) (p:Int):List Value:=.int .i64 p :: (scoreF o p).map (Value.int .u8)
def sortF (o l:List Int):List Int:=l.mergeSort fun a b=>!betF o b a
def chosenF (o live:List Int) (n:Int):List Int:=(sortF o (peersL live)).take n.toNat
def isInts (d:Rows') (n:Int) (l:List Int):Prop:=n = d.length∧ints d = l∧∀ row ∈ d,row.length = 1
def rkHp (r d c:Nat):SH:=.arr r 153 kRk (.var d) (.var c)
def rkS (r l c:Nat):SV:=.one (.vslice r (.lit 0) (.var l) (.var c) 33)
def sortC:Ctr:={ fn := 83,nv:=4,args:=[rkS 0 1 2,.fn (.func 81) [] []],heap:=[rkHp 0 3 2],ro:=[],pre:=fun ρ=>(ρ 1).i = (ρ 3).d.length∧(ρ 1).i ≤ 1000000∧∃ o L:List Int,allM o∧(ρ 3).d = L.map (rkRow o)∧∀ x ∈ L,0 ≤ x∧x < 16,alts:=[
 { k:=1,ret:=.tup [],heap:=[rkHp 0 4 2],post:=fun ρ=>∀ o L:List Int,allM o→(ρ 3).d = L.map (rkRow o)→(∀ x ∈ L,0 ≤ x∧x < 16)→(ρ 4).d = (sortF o L).map (rkRow o) }] }
def objHp (r:Nat):SH:=.cells r 24 (cellsT .u8 0 32)
def objP (r:Nat):SV:=.one (.vptr r (.lit 0) 32 0)
def chPre (ρ:Env) (g:Nat):Prop:=allM (rowL (ρ 0).d 32)∧intsIn ρ 1∧gOk ρ 7 8 g
def chosenC:Ctr:={ fn := 32,nv:=9,ip:=[gIp 7],args:=[dgV 0,bS 1,iv .i64 (.var 6)],heap:=[],ro:=[iHpA 1,gHp 7 8],pre:=fun ρ=>chPre ρ gR,alts:=[
 { k:=4,ret:=.one (.vslice 9 (.lit 0) (.var 10) (.var 11) 1),heap:=[iHp 9 12 11],post:=fun ρ=>isInts (ρ 12).d (ρ 10).i (chosenF (rowL (ρ 0).d 32) (ints (ρ 4).d) (ρ 6).i) }] }
def chosenI:Inv:={ key:=3,nv:=6,env:=[(2,iv .i64 (.var 6)),(3,objP 1000),(7,rkS 1002 1003 1004),(14,b16 10),(15,iv .i64 (.var 1001))],heap:=[objHp 1000,rkHp 1002 1005 1004],inv:=(fun ρ=>0 ≤ (ρ 1001).i∧(ρ 1001).i ≤ 16∧(ρ 1003).i = (ρ 1005).d.length∧(ρ 1005).d = (peersTo (ints (ρ 4).d) (ρ 1001).i.toNat).map (rkRow (rowL (ρ 0).d 32))),mu:=(fun ρ=>(16 - (ρ 1001).i).toNat) }
def chosenJ:Inv:={ key:=11,nv:=9,env:=[(36,rkS 1000 1001 1002),(37,iv .i64 (.var 1001)),(38,iv .i64 (.var 1003)),(10,.one (.vslice 1004 (.lit 0) (.var 1005) (.var 1006) 1))],heap:=[rkHp 1000 1007 1002,iHp 1004 1008 1006],inv:=(fun ρ=>0 ≤ (ρ 1003).i∧(ρ 1003).i ≤ (ρ 1001).i∧(ρ 1001).i ≤ (ρ 1007).d.length∧(ρ 1007).d = (sortF (rowL (ρ 0).d 32) (peersL (ints (ρ 4).d))).map (rkRow (rowL (ρ 0).d 32))∧(ρ 1001).i = min (max (ρ 6).i 0) ((sortF (rowL (ρ 0).d 32) (peersL (ints (ρ 4).d))).length:Int)∧isInts (ρ 1008).d (ρ 1005).i ((sortF (rowL (ρ 0).d 32) (peersL (ints (ρ 4).d))).take (ρ 1003).i.toNat)),mu:=(fun ρ=>((ρ 1001).i - (ρ 1003).i).toNat) }
def upTo (n:Int):List Int:=(List.range (min (max n 0) 16).toNat).map fun (i:Nat)=>(i:Int)
def rankingF (o:List Int) (n:Int):List Int:=chosenF o (upTo n) 16
def rankingC:Ctr:={ fn := 29,nv:=4,ip:=[gIp 2],args:=[dgV 0,iv .i64 (.var 1)],heap:=[],ro:=[gHp 2 3],pre:=fun ρ=>allM (rowL (ρ 0).d 32)∧gOk ρ 2 3 gR,alts:=[
 { k:=4,ret:=.one (.vslice 4 (.lit 0) (.var 5) (.var 6) 1),heap:=[iHp 4 7 6],post:=fun ρ=>isInts (ρ 7).d (ρ 5).i (rankingF (rowL (ρ 0).d 32) (ρ 1).i) }] }
def rankingI:Inv:={ key:=3,nv:=7,env:=[(2,objP 1000),(5,.one (.vslice 1001 (.lit 0) (.var 1002) (.var 1003) 1)),(10,iv .i64 (.var 1006)),(11,iv .i64 (.var 1005))],heap:=[objHp 1000,iHp 1001 1004 1003],inv:=(fun ρ=>0 ≤ (ρ 1005).i∧(ρ 1005).i ≤ (ρ 1006).i∧(ρ 1006).i = min (max (ρ 1).i 0) 16∧isInts (ρ 1004).d (ρ 1002).i (upTo (ρ 1005).i)),mu:=(fun ρ=>((ρ 1006).i - (ρ 1005).i).toNat) }
def dutyF (o:List Int) (self:Int) (L:List Int) (n:Int) (held buried:Bool):Int :=
 if buried then (if held then 3 else 0) else if n < 1 then 0 else if self ∈ chosenF o L n then (if held then 0 else 1) else if held = true∧((chosenF o L n).length:Int) = n then 2 else 0
def duPre (ρ:Env) (g:Nat):Prop:=allM (rowL (ρ 0).d 32)∧intsIn ρ 2∧gOk ρ 10 11 g
def dutyC:Ctr:={ fn := 35,nv:=12,ip:=[gIp 10],args:=[dgV 0,iv .i64 (.var 1),bS 2,iv .i64 (.var 7),.one (.vbool (.var 8)),.one (.vbool (.var 9))],heap:=[],ro:=[iHpA 2,gHp 10 11],pre:=fun ρ=>duPre ρ gR,alts:=[
 { k:=1,ret:=iv .u8 (.var 12),heap:=[],post:=fun ρ=>(ρ 12).i = dutyF (rowL (ρ 0).d 32) (ρ 1).i (ints (ρ 5).d) (ρ 7).i (ρ 8).b (ρ 9).b }] }
end Go.Eng

set_option linter.unusedSimpArgs false
set_option linter.unusedVariables false
set_option maxRecDepth 100000
namespace Go.Proofs
open Go Go.Eng

def o_chosen:Out:=(.fresh 9 (.pre 0 (sg 0 [bv 4 5,bv 3 4,bv 2 3,bv 1 2,bg 0 1]) (.both (.fresh 10 (.fresh 11 (.fresh 12 (.fresh 13 (.fresh 14 (.fresh 15 (.fresh 16 (.fresh 17 (.fresh 18 (.fresh 19 (.fresh 20 (.fresh 21 (.fresh 22 (.fresh 23 (.fresh 24 (.fresh 25 (.post 0 0 (sg 0 [bv 4 5,bv 3 4,bv 2 3,bv 1 2,bg 0 1]) 10 (.inv 0 26 (sg 1000 [bt 1005 .dnil,bt 1001 (.lit 0),bt 1004 (.lit 0),bt 1003 (.lit 0),(1002,.nil),bg 1000 9]) (.fresh 26 (.fresh 27 (.fresh 28 (.fresh 29 (.fresh 30 (.fresh 31 (.hyp 0 26 (.br (.cmp .lss (.var 27) (.lit 16))
 (.need (.cmp .leq (.lit 0) (.var 27)) (.br (.c2 (.xbool 0) (.rcons (.vbool (.var 10)) (.rcons (.vbool (.var 11)) (.rcons (.vbool (.var 12)) (.rcons (.vbool (.var 13)) (.rcons (.vbool (.var 14)) (.rcons (.vbool (.var 15)) (.rcons (.vbool (.var 16)) (.rcons (.vbool (.var 17)) (.rcons (.vbool (.var 18)) (.rcons (.vbool (.var 19)) (.rcons (.vbool (.var 20)) (.rcons (.vbool (.var 21)) (.rcons (.vbool (.var 22)) (.rcons (.vbool (.var 23)) (.rcons (.vbool (.var 24)) (.rcons (.vbool (.var 25)) .rnil)))))))))))))))) (.var 27))
 (.pre 1 (sg 0 [bv 3 8,bv 1 27,bt 0 (r8 0),bg 2 7]) (.both (.fresh 32 (.fresh 33 (.post 1 0 (sg 0 [bv 3 8,bv 1 27,bt 0 (r8 0),bg 2 7]) 32 (.fresh 34 (.need (.cmp .eql (.var 29) (.dlen (.var 31))) (.need (.cmp .leq (.tims (.lit 40) (.plus (.var 29) (.lit 1))) (.lit 140737488355328)) (.fresh 35 (.fresh 36 (.back 0 26 (sg 1000 [bt 1005 (.dapp (.var 31) (.rcons (.vint .i64 (.var 27)) (r8 32))),bt 1001 (.arith .add .i64 (.var 27) (.lit 1)),bv 1004 36,bt 1003 (.plus (.var 29) (.lit 1)),bg 1002 35,bg 1000 26])))))))))) .top))
 (.back 0 26 (sg 1000 [bv 1005 31,bt 1001 (.arith .add .i64 (.var 27) (.lit 1)),bv 1004 30,bv 1003 29,bg 1002 28,bg 1000 26]))))
 (.pre 2 (sg 0 [bv 3 31,bv 2 30,bv 1 29,bg 0 28]) (.both (.fresh 32 (.post 2 0 (sg 0 [bv 3 31,bv 2 30,bv 1 29,bg 0 28]) 32 (.fresh 33 (.need (.cmp .leq (.lit 0) (.var 29)) (.know (.cmp .leq (.dlen (.var 32)) (.var 30)) (.need (.cmp .leq (.lit 0) (.var 30)) (.need (.cmp .leq (.lit 0) (.imin (.imax (.var 6) (.lit 0)) (.var 29))) (.need (.cmp .leq (.imin (.imax (.var 6) (.lit 0)) (.var 29)) (.var 30)) (.inv 1 34 (sg 1000 [bt 1008 .dnil,bv 1007 32,bt 1006 (.lit 0),bt 1005 (.lit 0),bg 1004 33,bt 1003 (.lit 0),bv 1002 30,bt 1001 (.imin (.imax (.var 6) (.lit 0)) (.var 29)),bg 1000 28]) (.fresh 34 (.fresh 35 (.fresh 36 (.fresh 37 (.fresh 38 (.fresh 39 (.fresh 40 (.fresh 41 (.fresh 42 (.hyp 1 34 (.br (.cmp .lss (.var 37) (.var 35))
 (.need (.cmp .leq (.lit 0) (.var 37)) (.need (.cmp .lss (.var 37) (.dlen (.var 41))) (.fresh 43 (.fresh 44 (.need (.cmp .eql (.var 39) (.dlen (.var 42))) (.need (.cmp .leq (.tims (.lit 8) (.plus (.var 39) (.lit 1))) (.lit 140737488355328)) (.fresh 45 (.fresh 46 (.back 1 34 (sg 1000 [bt 1008 (.dapp (.var 42) (.rcons (.vint .i64 (.icell (.var 41) (.var 37) 0)) .rnil)),bv 1007 41,bv 1006 46,bt 1005 (.plus (.var 39) (.lit 1)),bg 1004 45,bt 1003 (.arith .add .i64 (.var 37) (.lit 1)),bv 1002 36,bv 1001 35,bg 1000 34]))))))))))
 (.ret 0 (sg 9 [bv 12 42,bv 11 40,bv 10 39,bg 9 38])))))))))))))))))))))) .top)))))))))))))))))))))))))))) .top)))
theorem o_chosen_eq:treeOf ⟨Tryz.prog,chosenC,[setC,rankC,sortC],[chosenI,chosenJ]⟩ 100000 Tryz.f32 = o_chosen:=by kernel_rfl
theorem chosen_of (hd:∀ c ∈ ([setC,rankC,sortC]:List Ctr),c.ok Tryz.prog) (h:∀ ρ:Env,ρ.good→(chosenC).pre ρ→o_chosen.den ⟨Tryz.prog,chosenC,[setC,rankC,sortC],[chosenI,chosenJ]⟩ ρ):(chosenC).ok Tryz.prog :=
 ok_of_tree Tryz.func32 (fun a w=>Tryz.call32 a w) hd 100000 (fun ρ hg hp=>by rw [o_chosen_eq]; exact h ρ hg hp)
def o_ranking:Out:=(.fresh 4 (.fresh 5 (.inv 0 6 (sg 1000 [bt 1004 .dnil,bt 1005 (.lit 0),bt 1006 (.imin (.imax (.var 1) (.lit 0)) (.lit 16)),bt 1003 (.lit 0),bt 1002 (.lit 0),bg 1001 5,bg 1000 4]) (.fresh 6 (.fresh 7 (.fresh 8 (.fresh 9 (.fresh 10 (.fresh 11 (.fresh 12 (.hyp 0 6 (.br (.cmp .lss (.var 11) (.var 12))
 (.fresh 13 (.need (.cmp .eql (.var 8) (.dlen (.var 10))) (.need (.cmp .leq (.tims (.lit 8) (.plus (.var 8) (.lit 1))) (.lit 140737488355328)) (.fresh 14 (.fresh 15 (.back 0 6 (sg 1000 [bt 1004 (.dapp (.var 10) (.rcons (.vint .i64 (.var 11)) .rnil)),bt 1005 (.arith .add .i64 (.var 11) (.lit 1)),bv 1006 12,bv 1003 15,bt 1002 (.plus (.var 8) (.lit 1)),bg 1001 14,bg 1000 6])))))))
 (.pre 0 (sg 0 [bv 8 3,bv 5 9,bv 4 10,bt 6 (.lit 16),bv 3 9,bv 2 8,bg 1 7,bt 0 (r8 0),bg 7 2]) (.both (.fresh 13 (.fresh 14 (.fresh 15 (.fresh 16 (.post 0 0 (sg 0 [bv 8 3,bv 5 9,bv 4 10,bt 6 (.lit 16),bv 3 9,bv 2 8,bg 1 7,bt 0 (r8 0),bg 7 2]) 13 (.ret 0 (sg 4 [bv 7 16,bv 6 15,bv 5 14,bg 4 13]))))))) .top))))))))))))))
theorem o_ranking_eq:treeOf ⟨Tryz.prog,rankingC,[chosenC],[rankingI]⟩ 100000 Tryz.f29 = o_ranking:=by kernel_rfl
theorem ranking_of (hd:∀ c ∈ ([chosenC]:List Ctr),c.ok Tryz.prog) (h:∀ ρ:Env,ρ.good→(rankingC).pre ρ→o_ranking.den ⟨Tryz.prog,rankingC,[chosenC],[rankingI]⟩ ρ):(rankingC).ok Tryz.prog :=
 ok_of_tree Tryz.func29 (fun a w=>Tryz.call29 a w) hd 100000 (fun ρ hg hp=>by rw [o_ranking_eq]; exact h ρ hg hp)
def o_duty:Out:=(.fresh 12 (.br (.var 9)
 (.br (.var 8)
 (.ret 0 (sg 12 [bt 12 (.lit 3)]))
 (.ret 0 (sg 12 [bt 12 (.lit 0)])))
 (.br (.cmp .lss (.var 7) (.lit 1))
 (.ret 0 (sg 12 [bt 12 (.lit 0)]))
 (.pre 0 (sg 0 [bv 8 11,bv 5 6,bv 4 5,bv 6 7,bv 3 4,bv 2 3,bg 1 2,bt 0 (r8 0),bg 7 10]) (.both (.fresh 13 (.fresh 14 (.fresh 15 (.fresh 16 (.post 0 0 (sg 0 [bv 8 11,bv 5 6,bv 4 5,bv 6 7,bv 3 4,bv 2 3,bg 1 2,bt 0 (r8 0),bg 7 10]) 13 (.pre 1 (sg 0 [bv 4 15,bv 3 16,bv 5 1,bv 2 15,bv 1 14,bg 0 13]) (.both (.fresh 17 (.post 1 0 (sg 0 [bv 4 15,bv 3 16,bv 5 1,bv 2 15,bv 1 14,bg 0 13]) 17 (.br (.var 17)
 (.br (.not (.var 8))
 (.ret 0 (sg 12 [bt 12 (.lit 1)]))
 (.ret 0 (sg 12 [bt 12 (.lit 0)])))
 (.br (.var 8)
 (.need (.cmp .leq (.lit 0) (.var 14)) (.br (.cmp .eql (.var 14) (.var 7))
 (.ret 0 (sg 12 [bt 12 (.lit 2)]))
 (.ret 0 (sg 12 [bt 12 (.lit 0)]))))
 (.ret 0 (sg 12 [bt 12 (.lit 0)])))))) .top))))))) .top)))))
theorem o_duty_eq:treeOf ⟨Tryz.prog,dutyC,[chosenC,containsC],[]⟩ 100000 Tryz.f35 = o_duty:=by kernel_rfl
theorem duty_of (hd:∀ c ∈ ([chosenC,containsC]:List Ctr),c.ok Tryz.prog) (h:∀ ρ:Env,ρ.good→(dutyC).pre ρ→o_duty.den ⟨Tryz.prog,dutyC,[chosenC,containsC],[]⟩ ρ):(dutyC).ok Tryz.prog :=
 ok_of_tree Tryz.func35 (fun a w=>Tryz.call35 a w) hd 100000 (fun ρ hg hp=>by rw [o_duty_eq]; exact h ρ hg hp)
end Go.Proofs

set_option linter.unusedSimpArgs false
set_option linter.unusedVariables false
namespace Go.Proofs
open Go Go.Eng
variable {o:List Int}
theorem le_cmpF {a b:Int}:(!betF o b a) = true↔cmpF o a b ≤ 0:=by
 rw [bet_cmp,Bool.not_eq_true',decide_eq_false_iff_not,cmpF_neg (a:=a) (b:=b)]; omega
theorem sortF_perm {l:List Int}:(sortF o l).Perm l:=List.mergeSort_perm l _
theorem sortF_le {l:List Int}:(sortF o l).Pairwise fun a b=>(!betF o b a) = true:=by
 refine List.pairwise_mergeSort (fun a b c h1 h2=>?_) (fun a b=>?_) l
 ·rw [le_cmpF] at h1 h2 ⊢
  by_cases e1:cmpF o a b = 0
  ·rw [cmpF_zero.1 e1]; exact h2
  ·by_cases e2:cmpF o b c = 0
   ·rw [← cmpF_zero.1 e2]; exact h1
   ·have:=cmpF_trans (o:=o) (a:=a) (b:=b) (c:=c) (by omega) (by omega)
    omega
 ·rw [Bool.or_eq_true,le_cmpF,le_cmpF,cmpF_neg (a:=a) (b:=b)]; omega
theorem sortF_ranked {l:List Int} (h:l.Nodup):rankedP o l (sortF o l):=by
 refine ⟨sortF_perm,?_⟩
 have hn:(sortF o l).Nodup:=sortF_perm.nodup_iff.2 h
 refine List.Pairwise.imp₂ (fun a b h1 h2=>?_) sortF_le hn
 rcases bet_total (o:=o) h2 with h | h
 ·exact h
 ·rw [h] at h1; cases h1
theorem sortF_uniq {l m:List Int} (h:rankedP o l m) (hn:l.Nodup):m = sortF o l:=ranked_uniq h (sortF_ranked hn)
theorem mem_sortF {l:List Int} {x:Int}:x ∈ sortF o l↔x ∈ l:=sortF_perm.mem_iff
theorem len_sortF {l:List Int}:(sortF o l).length = l.length:=sortF_perm.length_eq
theorem peersTo_mem {L:List Int} {n:Nat} {x:Int}:x ∈ peersTo L n↔0 ≤ x∧x < n∧x ∈ L:=by
 unfold peersTo
 rw [List.mem_filter,List.mem_map]
 constructor
 ·rintro ⟨⟨i,hi,rfl⟩,h⟩
  rw [List.mem_range] at hi
  exact ⟨by omega,by omega,of_decide_eq_true h⟩
 ·rintro ⟨h0,h1,h2⟩
  exact ⟨⟨x.toNat,List.mem_range.2 (by omega),by omega⟩,decide_eq_true h2⟩
theorem rangeI_nodup {n:Nat}:((List.range n).map fun (i:Nat)=>(i:Int)).Nodup:=by
 rw [List.Nodup,List.pairwise_map]
 exact List.Pairwise.imp (fun h he=>h (by omega)) List.nodup_range
theorem peersL_eq {L:List Int}:peersL L = peersTo L 16:=rfl
theorem scoreF_allM {p:Int}:allM (scoreF o p):=sha_allM _
theorem scoreF_len {p:Int}:(scoreF o p).length = 32:=sha_len
theorem rkRow_len {p:Int}:(rkRow o p).length = 33:=by simp [rkRow,scoreF_len]
theorem rows_int {l:List Int}:ints (l.map (rkRow o)) = l:=by
 unfold ints
 rw [List.map_map]
 conv=>rhs; rw [← List.map_id l]
 exact List.map_congr_left fun x _=>rfl
end Go.Proofs

set_option linter.unusedSimpArgs false
set_option linter.unusedVariables false
namespace Go.Proofs
open Go Go.Eng
set_option maxRecDepth 20000
theorem cellXB_map {l:List Bool} {i:Nat}:cellXB [l.map Value.bool] i = l.getD i false:=by
 unfold cellXB
 rw [List.headD_cons,List.getElem?_map,List.getD_eq_getElem?_getD]
 cases l[i]? <;> rfl
theorem seen_bools {l:List Bool} {L:List Int} {n:Nat} (h:boolsP l L) (hn:L.length ≤ n):seenTo [l.map Value.bool] L n:=by
 refine ⟨⟨_,rfl,by rw [List.length_map]; exact h.1⟩,fun x x0 x1=>?_⟩
 rw [cellXB_map,List.take_of_length_le hn]
 have:=h.2 x.toNat (by omega)
 rwa [Int.toNat_of_nonneg x0] at this
theorem ints_len' {D:Rows'}:(ints D).length ≤ D.length:=by simp [ints]
theorem seen_iff {d:Rows'} {L:List Int} {n:Nat} {x:Int} (h:seenTo d L n) (hn:L.length ≤ n) (x0:0 ≤ x) (x1:x < 16):cellXB d x.toNat = true↔x ∈ L:=by
 have:=h.2 x x0 x1
 rwa [List.take_of_length_le hn] at this
theorem seen_pos {d:Rows'} {L:List Int} {n:Nat} (h:seenTo d L n):0 < d.length:=by obtain ⟨⟨row,e,_⟩,_⟩:=h; rw [e]; exact Nat.one_pos
theorem add1 {i:Int} (h0:0 ≤ i) (h1:i < 1000000000000):arithOf .add .i64 i 1 = i + 1:=add64 (by omega) (by omega)
theorem seen_not {d:Rows'} {L:List Int} {n:Nat} {x:Int} (h:seenTo d L n) (hn:L.length ≤ n) (x0:0 ≤ x) (x1:x < 16) (hf:cellXB d x.toNat = false):x ∉ L:=fun hx=>by
 rw [(seen_iff h hn x0 x1).2 hx] at hf; cases hf
theorem rows_or {D:Rows'} {row:List Value} {v:Value} (hr:row ∈ D∨row = [v]) (h:∀ row,row ∈ D→row.length = 1):row.length = 1:=hr.elim (h row) fun h=>by rw [h]; rfl
theorem rows_in {D:Rows'} {row:List Value} (hr:row ∈ D) (h:∀ row,row ∈ D→row.length = 1):row.length = 1:=h row hr
theorem dec_t {b:Bool} {p:Prop} [Decidable p] (h:b = decide p) (hb:b = true):p:=of_decide_eq_true (h ▸ hb)
theorem dec_f {b:Bool} {p:Prop} [Decidable p] (h:b = decide p) (hb:b = false):¬ p:=of_decide_eq_false (h ▸ hb)
theorem len_peersL {L:List Int}:(peersL L).length ≤ 16:=by
 rw [peersL_eq]; unfold peersTo
 exact Nat.le_trans (List.length_filter_le ..) (by simp)
theorem len_chosenF {o L:List Int} {n:Int}:(chosenF o L n).length ≤ 16:=by
 unfold chosenF
 rw [List.length_take,len_sortF]
 have:=len_peersL (L:=L)
 omega
theorem ints_chosen {o L:List Int} {n:Int} {D:Rows'} (h:ints D = chosenF o L n):D.length ≤ 16:=by
 have h1:=congrArg List.length h
 rw [ints_len] at h1
 have:=len_chosenF (o:=o) (L:=L) (n:=n)
 omega
theorem duty_2 {o L:List Int} {self n x:Int} {D:Rows'} {held buried:Bool} (hD:ints D = chosenF o L n) (hx:x = (D.length:Int)) (hn:1 ≤ n) (hm:¬ self ∈ ints D) (hh:held = true) (hb:buried = false) (he:x = n):2 = dutyF o self L n held buried:=by
 have h1:((chosenF o L n).length:Int) = n:=by rw [← hD,ints_len]; omega
 rw [hD] at hm
 unfold dutyF
 rw [hh,hb,if_neg (by simp),if_neg (by omega),if_neg hm,if_pos ⟨rfl,h1⟩]
theorem duty_0 {o L:List Int} {self n x:Int} {D:Rows'} {held buried:Bool} (hD:ints D = chosenF o L n) (hx:x = (D.length:Int)) (hn:1 ≤ n) (hm:¬ self ∈ ints D) (hh:held = true) (hb:buried = false) (he:¬ x = n):0 = dutyF o self L n held buried:=by
 have h1:¬ ((chosenF o L n).length:Int) = n:=by rw [← hD,ints_len]; omega
 rw [hD] at hm
 unfold dutyF
 rw [hh,hb,if_neg (by simp),if_neg (by omega),if_neg hm,if_neg (fun h=>h1 h.2)]
theorem duty_ok (hch:chosenC.ok Tryz.prog):dutyC.ok Tryz.prog:=duty_of (by simp [contains_ok,hch]) fun ρ hg hp=>by
 obtain ⟨hO,⟨hl,h1,hr⟩,hGr,hGd⟩:=hp
 simp only [Nat.reduceAdd] at hl h1 hr
 simp (config:={ maxSteps:=4000000 }) [o_duty,dutyC,chosenC,containsC,chPre,iHpA,intsIn,isInts,gOk,hl,hO,hGr,hGd]
 repeat' (first | with_reducible apply And.intro | with_reducible intro _)
 all_goals first
  | assumption
  | omega
  | exact rows_in (by assumption) (by assumption)
  | exact (by have:=ints_chosen (by assumption); omega)
  | (unfold dutyF; simp_all [ints_len]; done)
  | exact duty_2 (by assumption) (by assumption) (by assumption) (dec_f (by assumption) (by assumption)) (by assumption) (by assumption) (by assumption)
  | exact duty_0 (by assumption) (by assumption) (by assumption) (dec_f (by assumption) (by assumption)) (by assumption) (by assumption) (by assumption)
theorem upTo_len {n:Int}:(upTo n).length = (min (max n 0) 16).toNat:=by simp [upTo]
theorem upTo_congr {i n:Int} (h:min (max i 0) 16 = min (max n 0) 16):upTo i = upTo n:=by unfold upTo; rw [h]
theorem upTo_next {i:Int} {D:Rows'} (hD:ints D = upTo i) (h0:0 ≤ i) (h1:i < 16):ints (D ++ [[.int .i64 i]]) = upTo (arithOf .add .i64 i 1):=by
 rw [add1 h0 (by omega),ints_snoc,hD]
 unfold upTo
 rw [show (min (max (i + 1) 0) 16).toNat = (min (max i 0) 16).toNat + 1 by omega,List.range_succ,List.map_append]
 congr 1
 show [i] = [(((min (max i 0) 16).toNat:Nat):Int)]
 congr 1; omega
theorem upTo_rows {i:Int} {D:Rows'} (hD:ints D = upTo i):D.length ≤ 16:=by
 have h1:=congrArg List.length hD
 rw [ints_len,upTo_len] at h1
 omega
theorem rank_end {o:List Int} {i n:Int} {D E:Rows'} (hE:ints E = chosenF o (ints D) 16) (hD:ints D = upTo i) (h:min (max i 0) 16 = min (max n 0) 16):ints E = rankingF o n:=by
 rw [hE,hD,upTo_congr h]; rfl
theorem ranking_ok (hch:chosenC.ok Tryz.prog):rankingC.ok Tryz.prog:=ranking_of (by simp [hch]) fun ρ hg hp=>by
 obtain ⟨hO,hGr,hGd⟩:=hp
 simp (config:={ maxSteps:=4000000 }) [o_ranking,rankingC,rankingI,chosenC,chPre,iHpA,intsIn,isInts,gOk,hO,hGr,hGd]
 repeat' (first | with_reducible apply And.intro | with_reducible intro _)
 all_goals first
  | assumption
  | omega
  | exact rows_in (by assumption) (by assumption)
  | exact rows_or (by assumption) (by assumption)
  | (rw [add1 (by assumption) (by omega)]; omega)
  | rfl
  | exact (by have:=upTo_rows (by assumption); omega)
  | exact upTo_next (by assumption) (by assumption) (by omega)
  | exact rank_end (by assumption) (by assumption) (by omega)
section
variable {o L:List Int}
theorem peersTo_len {L:List Int} {n:Nat}:(peersTo L n).length ≤ n:=by
 unfold peersTo
 exact Nat.le_trans (List.length_filter_le ..) (by simp)
theorem ch_len {D:Rows'} {i:Int} (h:D = (peersTo L i.toNat).map (rkRow o)) (h1:i ≤ 16):D.length ≤ 16:=by
 rw [h,List.length_map]
 have:=peersTo_len (L:=L) (n:=i.toNat)
 omega
theorem ch_add {D v:Rows'} {i:Int} {l:List Bool} (hD:D = (peersTo L i.toNat).map (rkRow o)) (h0:0 ≤ i) (h1:i < 16) (hb:boolsP l L) (hc:cellXB [l.map Value.bool] i.toNat = true) (hv:rowL v 32 = scoreF o i) :
  D ++ [Value.int .i64 i :: (rowL v 32).map (Value.int .u8)] = (peersTo L (arithOf .add .i64 i 1).toNat).map (rkRow o):=by
 have hm:i ∈ L:=(seen_iff (seen_bools hb (Nat.le_refl _)) (Nat.le_refl _) h0 h1).1 hc
 rw [add1 h0 (by omega),show (i + 1).toNat = i.toNat + 1 by omega,peersTo_next,Int.toNat_of_nonneg h0,if_pos hm,List.map_append,hD,hv]; rfl
theorem ch_skip {D:Rows'} {i:Int} {l:List Bool} (hD:D = (peersTo L i.toNat).map (rkRow o)) (h0:0 ≤ i) (h1:i < 16) (hb:boolsP l L) (hc:cellXB [l.map Value.bool] i.toNat = false) :
  D = (peersTo L (arithOf .add .i64 i 1).toNat).map (rkRow o):=by
 have hm:¬ i ∈ L:=seen_not (seen_bools hb (Nat.le_refl _)) (Nat.le_refl _) h0 h1 hc
 rw [add1 h0 (by omega),show (i + 1).toNat = i.toNat + 1 by omega,peersTo_next,Int.toNat_of_nonneg h0,if_neg hm,List.append_nil,hD]
theorem ch_sorted {D E:Rows'} {i:Int} (hO:allM o) (hD:D = (peersTo L i.toNat).map (rkRow o)) (h1:i ≤ 16) (h2:16 ≤ i) (h:∀ o L:List Int,allM o→D = L.map (rkRow o)→(∀ x,x ∈ L→0 ≤ x∧x < 16)→E = (sortF o L).map (rkRow o)):E = (sortF o (peersL L)).map (rkRow o)∧E.length = D.length:=by
 have hi:i.toNat = 16:=by omega
 rw [hi] at hD
 have hE:=h o (peersTo L 16) hO hD (fun x hx=>by have:=peersTo_mem.1 hx; omega)
 exact ⟨hE,by rw [hE,hD,List.length_map,List.length_map,len_sortF]⟩
theorem sort_pre {D:Rows'} {n:Nat} (hO:allM o) (hD:D = (peersTo L n).map (rkRow o)) (hn:n ≤ 16):∃ o:List Int,allM o∧∃ x:List Int,D = x.map (rkRow o)∧∀ y:Int,y ∈ x→0 ≤ y∧y < 16 :=
 ⟨o,hO,_,hD,fun x hx=>by have:=peersTo_mem.1 hx; omega⟩
theorem rk_at {M:List Int} {D:Rows'} {i:Int} (hD:D = M.map (rkRow o)) (h0:0 ≤ i) (h1:i < M.length):cellI D i 0 = M.getD i.toNat 0:=by
 have hl:i.toNat < M.length:=by omega
 subst hD
 rw [List.getD_eq_getElem?_getD,List.getElem?_eq_getElem hl]
 simp [cellI,cellV,List.getElem?_eq_getElem hl,rkRow,vInt]
theorem take_add {M:List Int} {D E:Rows'} {i:Int} (hE:E = M.map (rkRow o)) (hD:ints D = M.take i.toNat) (h0:0 ≤ i) (h1:i < M.length) (hb:i < 1000000):ints (D ++ [[.int .i64 (cellI E i 0)]]) = M.take (arithOf .add .i64 i 1).toNat:=by
 rw [add1 h0 (by omega),show (i + 1).toNat = i.toNat + 1 by omega,take_next (by omega),ints_snoc,hD,rk_at hE h0 h1]
theorem ch_rows {M:List Int} {D:Rows'} {i:Nat} (hD:ints D = M.take i):D.length ≤ i∧D.length ≤ M.length:=by
 have h1:=congrArg List.length hD
 rw [ints_len,List.length_take] at h1
 omega
theorem len_sorted {o L:List Int}:(sortF o (peersL L)).length ≤ 16:=by rw [len_sortF]; exact len_peersL
theorem ch_end {D:Rows'} {i n:Int} (hD:ints D = (sortF o (peersL L)).take i.toNat) (h:i = min (max n 0) ((sortF o (peersL L)).length:Int)):ints D = chosenF o L n:=by
 rw [hD]
 unfold chosenF
 by_cases hn:n.toNat ≤ (sortF o (peersL L)).length
 ·rw [show i.toNat = n.toNat by omega]
 ·rw [List.take_of_length_le (by omega),List.take_of_length_le (by omega)]
end
theorem chosen_ok (hs:sortC.ok Tryz.prog):chosenC.ok Tryz.prog:=chosen_of (by simp [hs,set_ok,rank_ok]) fun ρ hg hp=>by
 obtain ⟨hO,⟨hl,h1,hr⟩,hGr,hGd⟩:=hp
 simp only [Nat.reduceAdd] at hl h1 hr
 simp (config:={ maxSteps:=4000000 }) [o_chosen,chosenC,chosenI,chosenJ,setC,rankC,sortC,chPre,iHpA,intsIn,isInts,gOk,hl,hO,hGr,hGd]
 have hsl:=len_sorted (o:=rowL (ρ 0).d 32) (L:=ints (ρ 4).d)
 repeat' (first | with_reducible apply And.intro | with_reducible intro _)
 all_goals first
  | assumption
  | omega
  | exact rows_in (by assumption) (by assumption)
  | exact rows_or (by assumption) (by assumption)
  | (rw [add1 (by assumption) (by omega)]; omega)
  | rfl
  | exact (by have:=ch_len (by assumption) (by omega); omega)
  | exact ch_add (l:=[_,_,_,_,_,_,_,_,_,_,_,_,_,_,_,_]) (by assumption) (by assumption) (by assumption) (by assumption) (by assumption) (by assumption)
  | exact ch_skip (l:=[_,_,_,_,_,_,_,_,_,_,_,_,_,_,_,_]) (by assumption) (by assumption) (by assumption) (by assumption) (by assumption)
  | exact sort_pre hO (by assumption) (by omega)
  | exact (ch_sorted hO (by assumption) (by assumption) (by assumption) (by assumption)).1
  | (have h:=ch_sorted hO (by assumption) (by assumption) (by assumption) (by assumption); have h2:=congrArg List.length h.1; rw [List.length_map] at h2; have h3:=h.2; split <;> split <;> omega)
  | (have h:=ch_sorted hO (by assumption) (by assumption) (by assumption) (by assumption); have h2:=congrArg List.length h.1; rw [List.length_map] at h2; have h3:=h.2; split <;> omega)
  | exact take_add (by assumption) (by assumption) (by assumption) (by omega) (by omega)
  | exact ch_end (by assumption) (by omega)
  | (have h2:=ch_rows (by assumption); omega)
section
variable {o L:List Int} {D E:Rows'} {n m k b i:Int}
end
end Go.Proofs

set_option linter.unusedSimpArgs false
set_option linter.unusedVariables false
namespace Go.Proofs
open Go Go.Eng Go.RowKit Go.Lib Go.Sort
def twoW (W:World) (p q:Int) (xs ys:List Int):World:=(W.alloc (Obj.cells (Value.int .i64 p :: xs.map (Value.int .u8)).toArray 153)).alloc (Obj.cells (Value.int .i64 q :: ys.map (Value.int .u8)).toArray 153)
theorem two_fst {W:World} {p q:Int} {xs ys:List Int}:(twoW W p q xs ys).heap[W.heap.size]? = some (Obj.cells (Value.int .i64 p :: xs.map (Value.int .u8)).toArray 153):=by
 simp only [twoW,World.alloc]
 rw [Array.getElem?_push,if_neg (by simp),Array.getElem?_push,if_pos rfl]
theorem two_snd {W:World} {p q:Int} {xs ys:List Int}:(twoW W p q xs ys).heap[W.heap.size + 1]? = some (Obj.cells (Value.int .i64 q :: ys.map (Value.int .u8)).toArray 153):=by
 simp only [twoW,World.alloc]
 rw [Array.getElem?_push,if_pos (by simp)]
theorem two_at {W:World} {b:Nat} {p:Int} {xs:List Int} {ty:TypeId} (h:W.heap[b]? = some (Obj.cells (Value.int .i64 p :: xs.map (Value.int .u8)).toArray ty)) (n j:Nat) (x:Int) (hx:xs[j]? = some x):(W.drewN n).cell? ((⟨b,1,none⟩:Addr).add j) = some (.int .u8 x):=by
 have e:((⟨b,1,none⟩:Addr).add j) = ⟨b,1 + j,none⟩:=by
  unfold Addr.add
  by_cases hj0:j = 0
  ·subst hj0; simp
  ·simp [hj0]
 have h':(W.drewN n).heap[b]? = some (Obj.cells (Value.int .i64 p :: xs.map (Value.int .u8)).toArray ty):=h
 rw [e]
 simp only [World.cell?,h']
 rw [show 1 + j = j + 1 by omega]
 simp [hx]
theorem two_zero {W:World} {b:Nat} {p:Int} {xs:List Int} {ty:TypeId} (h:W.heap[b]? = some (Obj.cells (Value.int .i64 p :: xs.map (Value.int .u8)).toArray ty)) (n:Nat):(W.drewN n).cell? ⟨b,0,none⟩ = some (.int .i64 p):=by
 have h':(W.drewN n).heap[b]? = some (Obj.cells (Value.int .i64 p :: xs.map (Value.int .u8)).toArray ty):=h
 simp only [World.cell?,h']
 simp
set_option maxHeartbeats 2000000 in
set_option maxRecDepth 100000 in
theorem cmp_calls (p q:Int) (xs ys:List Int) (hx:xs.length = 32) (hy:ys.length = 32) (W:World) :
  Calls Tryz.prog 81 #[.agg (Value.int .i64 p :: xs.map (Value.int .u8)).toArray,.agg (Value.int .i64 q :: ys.map (Value.int .u8)).toArray] W fun e w' =>
   e = .returned (.int .i64 (if compareBytes (Lib.bytesOf xs) (Lib.bytesOf ys) = 0 then RowKit.wrap64 (p - q) else compareBytes (Lib.bytesOf xs) (Lib.bytesOf ys)))∧∃ n os',w' = grow (W.drewN n) os':=by
 have hc:=fun (a b:Addr) (w:World) h1 h2=>bcmp_calls a b xs ys 32 32 w h1 h2
 rw [hx,hy] at hc
 have c1:=two_at (two_fst (W:=W) (p:=p) (q:=q) (xs:=xs) (ys:=ys))
 have c2:=two_at (two_snd (W:=W) (p:=p) (q:=q) (xs:=xs) (ys:=ys))
 have c3:=two_zero (two_fst (W:=W) (p:=p) (q:=q) (xs:=xs) (ys:=ys))
 have c4:=two_zero (two_snd (W:=W) (p:=p) (q:=q) (xs:=xs) (ys:=ys))
 have hg:∀ n,∃ m os',(twoW W p q xs ys).drewN n = grow (W.drewN m) os':=fun n=>⟨n,_,by rw [twoW,alloc_eq_grow,alloc_eq_grow,grow_grow]; rfl⟩
 unfold twoW at c1 c2 c3 c4 hg
 generalize compareBytes (Lib.bytesOf xs) (Lib.bytesOf ys) = r at hc ⊢
 go_enter Tryz.func81,Tryz.ntmps81
 go_wp2
 go_quiet ((go_at_call 118; refine Calls.quiet_of_same (hc _ _ _ ?_ ?_); exact c1 _; exact c2 _))
 go_wp2
 all_goals go_ret
 all_goals refine ⟨?_,hg nq⟩
 all_goals simp_all
end Go.Proofs

namespace Go.Proofs
open Go Go.Shelf Go.RowKit Go.Lib Go.Sort
def sortRkL_ren:Go.Shelf.Ren:=⟨fun | 6=>83 | 15=>120 | 14=>119 | 28=>148 | 29=>149 | 20=>140 | 21=>141 | 22=>142 | 23=>143 | 24=>144 | 25=>145 | 26=>146 | 27=>147 | 46=>172 | 47=>173 | 48=>174 | 49=>175 | 50=>176 | 57=>186 | n=>n,fun | 22=>156 | 24=>153 | 25=>155 | 3=>3 | 39=>187 | 0=>0 | 53=>131 | 55=>113 | 4=>4 | 46=>234 | 45=>233 | 50=>238 | 5=>5 | 9=>9 | 66=>258 | 70=>262 | 76=>271 | 77=>272 | n=>n,fun | n=>n⟩
theorem sortRkL:SlLaysF0.n6 Tryz.prog sortRkL_ren:={
 mixed:=by kernel_rfl
 f6:=⟨Tryz.f83.name,by decide,Tryz.func83.trans (congrArg some (by kernel_rfl))⟩
 f14:=⟨Tryz.f119.name,by decide,Tryz.func119.trans (congrArg some (by kernel_rfl))⟩
 f15:=Tryz.func120.trans (congrArg some (by kernel_rfl))
 f20:=⟨Tryz.f140.name,by decide,Tryz.func140.trans (congrArg some (by kernel_rfl))⟩
 f21:=⟨Tryz.f141.name,by decide,Tryz.func141.trans (congrArg some (by kernel_rfl))⟩
 f22:=⟨Tryz.f142.name,by decide,Tryz.func142.trans (congrArg some (by kernel_rfl))⟩
 f23:=⟨Tryz.f143.name,by decide,Tryz.func143.trans (congrArg some (by kernel_rfl))⟩
 f24:=⟨Tryz.f144.name,by decide,Tryz.func144.trans (congrArg some (by kernel_rfl))⟩
 f25:=⟨Tryz.f145.name,by decide,Tryz.func145.trans (congrArg some (by kernel_rfl))⟩
 f26:=⟨Tryz.f146.name,by decide,Tryz.func146.trans (congrArg some (by kernel_rfl))⟩
 f27:=⟨Tryz.f147.name,by decide,Tryz.func147.trans (congrArg some (by kernel_rfl))⟩
 f28:=Tryz.func148.trans (congrArg some (by kernel_rfl))
 f29:=Tryz.func149.trans (congrArg some (by kernel_rfl))
 f46:=⟨Tryz.f172.name,by decide,Tryz.func172.trans (congrArg some (by kernel_rfl))⟩
 f47:=Tryz.func173.trans (congrArg some (by kernel_rfl))
 f48:=Tryz.func174.trans (congrArg some (by kernel_rfl))
 f49:=⟨Tryz.f175.name,by decide,Tryz.func175.trans (congrArg some (by kernel_rfl))⟩
 f50:=⟨Tryz.f176.name,by decide,Tryz.func176.trans (congrArg some (by kernel_rfl))⟩
 f57:=⟨Tryz.f186.name,by decide,Tryz.func186.trans (congrArg some (by kernel_rfl))⟩
 t0:=Tryz.underlying0
 a0:=Tryz.isAgg0
 z0:=Tryz.sizeOf0
 v0:=Tryz.zeroValue0
 t3:=Tryz.underlying3
 a3:=Tryz.isAgg3
 z3:=Tryz.sizeOf3
 v3:=Tryz.zeroValue3
 t4:=Tryz.underlying4
 a4:=Tryz.isAgg4
 z4:=Tryz.sizeOf4
 v4:=Tryz.zeroValue4
 t5:=Tryz.underlying5
 a5:=Tryz.isAgg5
 z5:=Tryz.sizeOf5
 v5:=Tryz.zeroValue5
 t9:=Tryz.underlying9
 a9:=Tryz.isAgg9
 z9:=Tryz.sizeOf9
 v9:=Tryz.zeroValue9
 t22:=Tryz.underlying156
 a22:=Tryz.isAgg156
 z22:=Tryz.sizeOf156
 v22:=Tryz.zeroValue156
 t25:=Tryz.underlying155
 a25:=Tryz.isAgg155
 z25:=Tryz.sizeOf155
 v25:=Tryz.zeroValue155
 t39:=Tryz.underlying187
 a39:=Tryz.isAgg187
 z39:=Tryz.sizeOf187
 v39:=Tryz.zeroValue187
 t45:=Tryz.underlying233
 a45:=Tryz.isAgg233
 z45:=Tryz.sizeOf233
 v45:=Tryz.zeroValue233
 t46:=Tryz.underlying234
 a46:=Tryz.isAgg234
 z46:=Tryz.sizeOf234
 v46:=Tryz.zeroValue234
 t50:=Tryz.underlying238
 a50:=Tryz.isAgg238
 z50:=Tryz.sizeOf238
 v50:=Tryz.zeroValue238
 t53:=Tryz.underlying131
 a53:=Tryz.isAgg131
 z53:=Tryz.sizeOf131
 v53:=Tryz.zeroValue131
 t55:=Tryz.underlying113
 a55:=Tryz.isAgg113
 z55:=Tryz.sizeOf113
 v55:=Tryz.zeroValue113
 t66:=Tryz.underlying258
 a66:=Tryz.isAgg258
 z66:=Tryz.sizeOf258
 v66:=Tryz.zeroValue258
 t70:=Tryz.underlying262
 a70:=Tryz.isAgg262
 z70:=Tryz.sizeOf262
 v70:=Tryz.zeroValue262
 t76:=Tryz.underlying271
 a76:=Tryz.isAgg271
 z76:=Tryz.sizeOf271
 v76:=Tryz.zeroValue271
 t77:=Tryz.underlying272
 a77:=Tryz.isAgg272
 z77:=Tryz.sizeOf272
 v77:=Tryz.zeroValue272 }
end Go.Proofs

set_option linter.unusedSimpArgs false
set_option linter.unusedVariables false
namespace Go.Proofs
open Go Go.Eng Go.Shelf Go.RowKit Go.Lib Go.Sort
def encK (o:List Int) (p:Fin 16):List Value:=rkRow o (p.val:Int)
def cfK (o:List Int) (a b:Fin 16):Int:=cmpF o (a.val:Int) (b.val:Int)
theorem ltK {o:List Int} {a b:Fin 16}:ltOf (cfK o) a b = betF o (a.val:Int) (b.val:Int):=by unfold ltOf cfK; rw [bet_cmp]
theorem swoK (o:List Int):SWO (ltOf (cfK o)) where
 irrefl x:=by rw [ltK]; exact bet_irrefl
 trans x y z h1 h2:=by rw [ltK] at *; exact bet_trans h1 h2
 ntrans x y z h1 h2:=by
  rw [ltK] at *
  have e1:(!betF o (x.val:Int) (y.val:Int)) = true:=by rw [h1]; rfl
  have e2:(!betF o (y.val:Int) (z.val:Int)) = true:=by rw [h2]; rfl
  rw [le_cmpF] at e1 e2
  have e3:(!betF o (x.val:Int) (z.val:Int)) = true:=by
   rw [le_cmpF]
   by_cases c1:cmpF o (y.val:Int) (x.val:Int) = 0
   ·rw [← cmpF_zero.1 c1]; exact e2
   ·by_cases c2:cmpF o (z.val:Int) (y.val:Int) = 0
    ·rw [cmpF_zero.1 c2]; exact e1
    ·have:=cmpF_trans (o:=o) (a:=(z.val:Int)) (b:=(y.val:Int)) (c:=(x.val:Int)) (by omega) (by omega)
     omega
  simpa using e3
theorem totK (o:List Int) (x y:Fin 16) (h1:ltOf (cfK o) x y = false) (h2:ltOf (cfK o) y x = false):x = y:=by
 rw [ltK] at h1 h2
 by_cases h:x = y
 ·exact h
 ·have hv:(x.val:Int) ≠ (y.val:Int):=fun e=>h (Fin.ext (by omega))
  rcases bet_total (o:=o) hv with e | e
  ·rw [e] at h1; cases h1
  ·rw [e] at h2; cases h2
theorem fit_rk {o:List Int} {p:Int}:fitsRow kRk (rkRow o p):=by
 refine ⟨by rw [rkRow_len]; rfl,fun c k v hk hv=>?_⟩
 cases c with
 | zero =>
  simp only [kRk,rkRow,List.getElem?_cons_zero,Option.some.injEq] at hk hv
  subst hk hv; rfl
 | succ c =>
  simp only [kRk,rkRow,List.getElem?_cons_succ] at hk hv
  rw [List.getElem?_replicate] at hk
  split at hk
  ·simp only [Option.some.injEq] at hk
   rw [List.getElem?_map] at hv
   obtain ⟨z,_,rfl⟩:=Option.map_eq_some_iff.1 hv
   subst hk; rfl
  ·cases hk
theorem rk_cell {o:List Int} {p:Int}:∀ v ∈ rkRow o p,v.oneCell' = true:=fun v hv=>by
 rcases List.mem_cons.1 hv with rfl | hv
 ·rfl
 ·obtain ⟨z,_,rfl⟩:=List.mem_map.1 hv; rfl
def toFin (x:Int):Fin 16:=⟨x.toNat % 16,by omega⟩
theorem toFin_val {x:Int} (h:0 ≤ x∧x < 16):((toFin x).val:Int) = x:=by simp only [toFin]; omega
theorem fin_get {M:List Int} {d:Array (Fin 16)} (h:d.toList.map (fun p=>(p.val:Int)) = M) {i:Nat} (hi:i < d.size):M[i]? = some ((d[i]!).val:Int):=by
 rw [← h,List.getElem?_map,List.getElem?_eq_getElem (by simpa using hi),Option.map_some]
 rw [getElem!_pos d i hi]; rfl
theorem flatS_at {o:List Int} {M:List Int} {d:Array (Fin 16)} (h:d.toList.map (fun p=>(p.val:Int)) = M) {i k:Nat} {row:List Value} {v:Value} (hr:(M.map (rkRow o))[i]? = some row) (hv:row[k]? = some v) :
  i < d.size∧k < 33∧(flatK (encK o) 33 d)[i * 33 + k]! = v:=by
 rw [List.getElem?_map] at hr
 obtain ⟨x,hx,rfl⟩:=Option.map_eq_some_iff.1 hr
 have hi:i < d.size:=by
  have:=(List.getElem?_eq_some_iff.1 hx).1
  rw [← h] at this; simpa using this
 have hk:k < 33:=by
  have:=(List.getElem?_eq_some_iff.1 hv).1
  rwa [rkRow_len] at this
 rw [fin_get h hi,Option.some.injEq] at hx
 refine ⟨hi,hk,?_⟩
 have hlt:i * 33 + k < d.size * 33:=by omega
 rw [get_flatK _ _ _ _ hlt,show (i * 33 + k) / 33 = i by omega,show (i * 33 + k) % 33 = k by omega]
 unfold encK
 rw [hx,List.getElem!_eq_getElem?_getD,hv]; rfl
theorem holdsK_rows {o:List Int} {L:List Int} {d:Array (Fin 16)} (h:d.toList.map (fun p=>(p.val:Int)) = L) {w:World} {b:Nat} {c:Array Value} {ty:TypeId} (hb:w.heap[b]? = some (.cells c ty (0,0))) (hr:rowsAt c 0 kRk (L.map (rkRow o))):HoldsK (encK o) 33 w b 0 d:=by
 intro j hj
 rw [size_flatK] at hj
 have hi:j / 33 < d.size:=by omega
 have hrow:(L.map (rkRow o))[j / 33]? = some (rkRow o ((d[j / 33]!).val:Int)):=by rw [List.getElem?_map,fin_get h hi]; rfl
 have hkl:j % 33 < (rkRow o ((d[j / 33]!).val:Int)).length:=by rw [rkRow_len]; omega
 have hv:=(hr _ _ hrow).2 (j % 33) _ (List.getElem?_eq_getElem hkl)
 have hf:=(flatS_at h hrow (List.getElem?_eq_getElem hkl)).2.2
 rw [show j / 33 * 33 + j % 33 = j by omega] at hf
 have hlen:kRk.length = 33:=rfl
 rw [hlen,show 0 + j / 33 * 33 + j % 33 = j by omega] at hv
 refine ⟨?_,by simp [World.frozen?,hb]⟩
 show w.cell? ⟨b,0 + j,none⟩ = some (id (flatK (encK o) 33 d)[j]!)
 simp only [World.cell?,hb,Nat.zero_add,id]
 rw [hf,hv]; rfl
theorem sortW_heap {o:List Int} {w:World} {b n:Nat} {d:Array (Fin 16)} {os:Array Obj} {c:Array Value} {ty:TypeId} (hb:w.heap[b]? = some (.cells c ty (0,0))) :
  (sortWorldK (encK o) 33 w b 0 n d os).heap[b]? = some (.cells (putCells id 0 (flatK (encK o) 33 d) c) ty (0,0)):=by
 have hlt:b < w.heap.size:=(Array.getElem?_eq_some_iff.1 hb).1
 unfold sortWorldK grow putRowK putRow mapBlock
 have e:(Go.Sort.ahead w n).heap = w.heap:=rfl
 simp only [e]
 rw [Array.getElem?_append_left (by simpa using hlt),Array.getElem?_modify,if_pos rfl,hb]; rfl
theorem sortW_other {o:List Int} {w:World} {b x n:Nat} {d:Array (Fin 16)} {os:Array Obj} {X:Obj} (hx:w.heap[x]? = some X) (hne:x ≠ b):(sortWorldK (encK o) 33 w b 0 n d os).heap[x]? = some X:=by
 have hlt:x < w.heap.size:=(Array.getElem?_eq_some_iff.1 hx).1
 unfold sortWorldK grow putRowK putRow mapBlock
 have e:(Go.Sort.ahead w n).heap = w.heap:=rfl
 simp only [e]
 rw [Array.getElem?_append_left (by simpa using hlt),Array.getElem?_modify,if_neg (Ne.symm hne),hx]
theorem sortW_rows {o:List Int} {M:List Int} {d:Array (Fin 16)} (h:d.toList.map (fun p=>(p.val:Int)) = M) {c:Array Value} (hc:d.size * 33 ≤ c.size):rowsAt (putCells id 0 (flatK (encK o) 33 d) c) 0 kRk (M.map (rkRow o)):=by
 intro i row hi
 have hfit:fitsRow kRk row:=by
  rw [List.getElem?_map] at hi
  obtain ⟨x,_,rfl⟩:=Option.map_eq_some_iff.1 hi
  exact fit_rk
 refine ⟨hfit,fun k v hv=>?_⟩
 obtain ⟨h1,h2,h3⟩:=flatS_at h hi hv
 have hlen:kRk.length = 33:=rfl
 rw [hlen,Nat.zero_add]
 have hlt:i * 33 + k < d.size * 33:=by omega
 unfold putCells
 rw [Array.getElem?_mapIdx,Array.getElem?_eq_getElem (by omega),Option.map_some,if_pos ⟨by omega,by rw [size_flatK]; omega⟩,Nat.sub_zero,h3]; rfl
theorem cmpK (o:List Int) (ho:allM o) (x y:Fin 16) (W:World):Calls Tryz.prog 81 #[.agg (encK o x).toArray,.agg (encK o y).toArray] W fun e w'=>e = .returned (.int .i64 (cfK o x y))∧∃ q os',w' = grow (W.drewN q) os':=by
 refine (cmp_calls (x.val:Int) (y.val:Int) (scoreF o x.val) (scoreF o y.val) scoreF_len scoreF_len W).mono fun e w' h=>?_
 obtain ⟨rfl,h⟩:=h
 refine ⟨?_,h⟩
 rw [cmp_bytes scoreF_allM scoreF_allM]
 have hx:=x.isLt
 have hy:=y.isLt
 unfold cfK cmpF
 by_cases he:scoreF o (x.val:Int) = scoreF o (y.val:Int)
 ·rw [if_pos (cmpL_zero.2 he),if_pos he]
  have:RowKit.wrap64 ((x.val:Int) - (y.val:Int)) = (x.val:Int) - (y.val:Int):=by unfold RowKit.wrap64; omega
  rw [this]
 ·rw [if_neg (fun h=>he (cmpL_zero.1 h)),if_neg he]
theorem lay_calls (o:List Int) (ho:allM o) (b cap:Nat) (d:Array (Fin 16)) (w:World) (hH:HoldsK (encK o) 33 w b 0 d) (hb:b < w.heap.size) (hsz:d.size < 4611686018427387904) :
  Calls Tryz.prog 83 #[.slice (some ⟨b,0,none⟩) d.size cap,.func (.func 81) #[] #[]] w fun e w'=>e = .returned (.tuple #[])∧∃ n os,w' = sortWorldK (encK o) 33 w b 0 n (d.toList.mergeSort fun x y=>!(ltOf (cfK o)) y x).toArray os :=
 AnyQ.slices_SortFunc_total sortRkL 33 Tryz.isAgg153 Tryz.sizeOf153 (encK o) (fun _=>rkRow_len) (fun _=>rk_cell) (cfK o) (swoK o) 81 #[] b 0 cap d w (fun args w=>Tryz.call81 args w) (fun m os dk hs x y=>cmpK o ho x y _) hH hb hsz (totK o)
theorem none_calls (p:Option Addr) (cap:Nat) (fv:Value) (w:World):Calls Tryz.prog 83 #[.slice p 0 cap,fv] w fun e w'=>e = .returned (.tuple #[])∧w' = w:=AnyF.slices_SortFunc_none sortRkL p cap fv w
theorem sorted_val {o L:List Int} (hL:∀ x ∈ L,0 ≤ x∧x < 16):(((L.map toFin).mergeSort fun x y=>!(ltOf (cfK o)) y x).map fun p=>(p.val:Int)) = sortF o L:=by
 have hv:(L.map toFin).map (fun p=>(p.val:Int)) = L:=by
  rw [List.map_map]
  conv=>rhs; rw [← List.map_id L]
  exact List.map_congr_left fun x hx=>toFin_val (hL x hx)
 rw [List.map_mergeSort (s:=fun a b=>!betF o b a) (fun a _ b _=>by rw [ltK]),hv]; rfl
theorem sortF_congr {o o' L:List Int} (h:L.map (rkRow o) = L.map (rkRow o')):(sortF o L).map (rkRow o) = (sortF o' L).map (rkRow o'):=by
 have h1:∀ x ∈ L,rkRow o x = rkRow o' x:=List.map_inj_left.1 h
 have hsc:∀ x ∈ L,scoreF o x = scoreF o' x:=fun x hx=>by
  have h2:=h1 x hx
  simp only [rkRow,List.cons.injEq,true_and] at h2
  have h3:=congrArg (List.map vInt) h2
  rw [List.map_map,List.map_map] at h3
  have e:(vInt ∘ Value.int IntKind.u8) = id:=rfl
  rwa [e,List.map_id,List.map_id] at h3
 have hs:sortF o L = sortF o' L:=by
  have:=List.map_mergeSort (r:=fun a b=>!betF o b a) (s:=fun a b=>!betF o' b a) (f:=id) (l:=L) (fun a ha b hb=>by simp only [id,betF,hsc a ha,hsc b hb])
  rwa [List.map_id,List.map_id] at this
 rw [← hs]
 exact List.map_congr_left fun x hx=>h1 x (mem_sortF.1 hx)
theorem sort_ok:sortC.ok Tryz.prog:=by
 refine ⟨fun args w=>Tryz.call83 args w,fun ρ w hF hO hg hd hw hs hro hp=>?_⟩
 obtain ⟨hl,hb1,o,L,ho,hD,hL⟩:=hp
 obtain ⟨h1,h2,hdis,hu,harr,_⟩:=hs
 have huniq:∀ {o' L':List Int},(ρ 3).d = L'.map (rkRow o')→L' = L:=fun {o' L'} h=>by
  have e:=congrArg ints (h.symm.trans hD)
  rwa [rows_int,rows_int] at e
 have hlen:(ρ 1).i = L.length:=by rw [hl,hD,List.length_map]
 -- the answer, once the rows are known
 have key:∀ (w':World) (hO':Hp),Hp.disj hF.h hO'→SH.den (ρ.set 4 { d:=(sortF o L).map (rkRow o) }) (rkHp 0 4 2) hO'→(Hp.union hF.h hO').sub w'→hF.wi w' →
   ∃ (ai:Nat) (al:Alt) (ρ':Env),sortC.alts[ai]? = some al∧ρ'.good∧(∀ n,n < sortC.nv→ρ' n = ρ n)∧(Ending.returned (.tuple #[]):Ending) = .returned (al.ret.den ρ')∧al.post (ρ'.upto (sortC.nv + al.k))∧HeapOk ρ' hF al.heap w':=by
  intro w' hO' a1 a2 a3 a4
  have hgood:({ d:=(sortF o L).map (rkRow o) }:U).good:=⟨rfl,fun row hr v hv=>by
   obtain ⟨x,_,rfl⟩:=List.mem_map.1 hr
   exact rk_cell v hv⟩
  refine ⟨0,_,ρ.set 4 { d:=(sortF o L).map (rkRow o) },rfl,fun n=>?_,fun n hn=>Env.set_ne _ _ (by have:n < 4:=hn; omega),rfl,?_,hO',a1,⟨hO',Hp.emp,fun _=>.inr rfl,?_,a2,trivial⟩,a3,a4⟩
  ·by_cases hn:n = 4
   ·subst hn; rw [Env.set_same]; exact hgood
   ·rw [Env.set_ne _ _ hn]; exact hg n
  ·intro o' L' ho' hD' hL'
   have hD2:(ρ 3).d = L'.map (rkRow o'):=hD'
   obtain rfl:=huniq hD2
   show (sortF o L').map (rkRow o) = (sortF o' L').map (rkRow o')
   exact sortF_congr (hD.symm.trans hD2)
  ·funext b
   simp only [Hp.union,Hp.emp]
   cases hO' b <;> rfl
 rcases harr with ⟨hr,hd0,hc0⟩ | ⟨b,c,hr,hb,hcs,hcap,hrows⟩
 ·have hL0:L = []:=by
   have e:(ρ 3).d = []:=hd0
   rw [hD] at e
   exact List.map_eq_nil_iff.1 e
  subst hL0
  have hargs:(List.map (SV.den ρ) sortC.args).toArray = #[.slice none 0 (ρ 2).i.toNat,.func (.func 81) #[] #[]]:=by
   have hr':(ρ 0).r = none:=hr
   simp [sortC,rkS,SV.den,denVs,T.den,O0.den,O3.den,hr',hlen,addrOf]
  rw [hargs]
  refine (none_calls none _ _ w).mono fun e w' h=>?_
  obtain ⟨rfl,rfl⟩:=h
  refine key _ hO hd (.inl ⟨?_,?_,?_⟩) hw.1 hw.2
  ·rw [Env.set_ne _ _ (by decide)]; exact hr
  ·show ((ρ.set 4 _) 4).d = []
   rw [Env.set_same]; simp [sortF]
  ·show ((ρ.set 4 _) 2).i = 0
   rw [Env.set_ne _ _ (by decide)]; exact hc0
 ·have hbO:hO b = some (.cells c 153 (0,0)):=by rw [hu]; simp [Hp.union,hb]
  have hbw:w.heap[b]? = some (.cells c 153 (0,0)):=hw.1 _ _ (by
   unfold Hp.union
   rcases hd b with h | h
   ·rw [h]; exact hbO
   ·rw [hbO] at h; cases h)
  have hblt:b < w.heap.size:=(Array.getElem?_eq_some_iff.1 hbw).1
  have hrows':rowsAt c 0 kRk (L.map (rkRow o)):=by
   have h:=hrows
   rw [show (T.den ρ (.var 3)).d = (ρ 3).d from rfl,hD] at h
   exact h
  have hcs':c.size = (ρ 2).i.toNat * 33:=hcs
  have hcap':((ρ 3).d.length:Int) ≤ (ρ 2).i:=hcap
  rw [hD,List.length_map] at hcap'
  let d:Array (Fin 16):=(L.map toFin).toArray
  have hdv:d.toList.map (fun p=>(p.val:Int)) = L:=by
   simp only [d,List.toList_toArray,List.map_map]
   conv=>rhs; rw [← List.map_id L]
   exact List.map_congr_left fun x hx=>toFin_val (hL x hx)
  have hds:d.size = L.length:=by simp [d]
  have hH:=holdsK_rows hdv hbw hrows'
  have hargs:(List.map (SV.den ρ) sortC.args).toArray = #[.slice (some ⟨b,0,none⟩) d.size (ρ 2).i.toNat,.func (.func 81) #[] #[]]:=by
   have hr':(ρ 0).r = some ⟨b,0,none⟩:=hr
   simp [sortC,rkS,SV.den,denVs,T.den,O0.den,O3.den,hr',hlen,addrOf,hds]
  rw [hargs]
  refine (lay_calls o ho b _ d w hH hblt (by omega)).mono fun e w' h=>?_
  obtain ⟨rfl,n,os,rfl⟩:=h
  have hsv:((d.toList.mergeSort fun x y=>!(ltOf (cfK o)) y x).toArray:Array (Fin 16)).toList.map (fun p=>(p.val:Int)) = sortF o L:=by
   simp only [d,List.toList_toArray]
   exact sorted_val hL
  have hsl:((d.toList.mergeSort fun x y=>!(ltOf (cfK o)) y x).toArray:Array (Fin 16)).size * 33 ≤ c.size:=by
   rw [hcs',List.size_toArray,List.length_mergeSort]
   simp only [Array.length_toList,hds]
   omega
  refine key _ (Hp.upd hO b (.cells (putCells id 0 (flatK (encK o) 33 (d.toList.mergeSort fun x y=>!(ltOf (cfK o)) y x).toArray) c) 153 (0,0))) (fun x=>?_) (.inr ⟨b,putCells id 0 (flatK (encK o) 33 (d.toList.mergeSort fun x y=>!(ltOf (cfK o)) y x).toArray) c,?_,?_,?_,?_,?_⟩) (fun x X hX=>?_) ?_
  ·by_cases hx:x = b
   ·subst hx
    rcases hd x with h | h
    ·exact .inl h
    ·rw [hbO] at h; cases h
   ·unfold Hp.upd; rw [if_neg hx]; exact hd x
  ·rw [Env.set_ne _ _ (by decide)]; exact hr
  ·unfold Hp.upd; rw [if_pos rfl]
  ·show (putCells id 0 _ c).size = ((ρ.set 4 _) 2).i.toNat * 33
   rw [Env.set_ne _ _ (by decide),← hcs']
   simp [putCells]
  ·show ((((ρ.set 4 { d:=(sortF o L).map (rkRow o) }) 4).d.length:Nat):Int) ≤ ((ρ.set 4 _) 2).i
   rw [Env.set_same,Env.set_ne _ _ (by decide),List.length_map,len_sortF]; exact hcap'
  ·show rowsAt _ 0 kRk ((ρ.set 4 { d:=(sortF o L).map (rkRow o) }) 4).d
   rw [Env.set_same]
   exact sortW_rows hsv hsl
  ·by_cases hx:x = b
   ·subst hx
    have hFn:hF.h x = none:=by
     rcases hd x with h | h
     ·exact h
     ·rw [hbO] at h; cases h
    simp only [Hp.union,hFn,Hp.upd,if_true,Option.none_or,Option.some.injEq] at hX
    rw [← hX]
    exact sortW_heap hbw
   ·have hX':Hp.union hF.h hO x = some X:=by
     simpa [Hp.union,Hp.upd,hx] using hX
    exact sortW_other (hw.1 _ _ hX') hx
  ·exact hw.2
end Go.Proofs

set_option linter.unusedSimpArgs false
set_option linter.unusedVariables false
namespace Go.Eng
open Go Go.Proofs
def mtI:MT:=⟨false,[.i64],false,[.int .u64],[.vint .u64 (.lit 0)]⟩
def mtO:MT:=⟨true,List.replicate 32 .u8,false,[.any],[.vnilm]⟩
abbrev Cl:=List Int→Int→Option Int
def getO (l:List ME) (i:Int):Option Int:=(l.find? fun x=>x.k == [i]).map fun x=>vInt (x.v.headD .nilFunc)
def claimsAt (h:Hp) (v:Value) (cl:Cl):Prop:=∃ b l c,v = .map (some b)∧MapH h b mtO l c ∧
 (∀ x ∈ l,∃ b' m c',x.v = [.map (some b')]∧b' ≠ b∧MapH h b' mtI m c'∧∀ i,cl x.k i = getO m i) ∧
 (∀ x ∈ l,∀ y ∈ l,x.k ≠ y.k→x.v ≠ y.v)∧(∀ o i,(∀ x ∈ l,x.k ≠ o)→cl o i = none)∧∀ o i t,cl o i = some t→0 ≤ i∧i < 16∧0 ≤ t∧t < 18446744073709551616
def noteF (cl:Cl) (o:List Int) (i t:Int):Cl:=if 0 ≤ i∧i < 16 then fun o' i'=>if o' = o∧i' = i then some t else cl o' i' else cl
def curF (t clock:Int):Bool:=decide (t ≤ clock) && decide (clock - t < 12)
def blockedF (cl:Cl) (o:List Int) (self clock:Int) (L H:List Int):Bool:=(List.range 16).any fun (i:Nat)=>match cl o i with
 | some t=>curF t clock && decide ((i:Int) ∈ L) && !decide ((i:Int) ∈ H) && betF o i self
 | none=>false
def clHp (r v:Nat):SH:=.cells r 179 [.var v]
def clP (r:Nat):SV:=.one (.vptr r (.lit 0) 1 0)
def objHpN (r v:Nat):SH:=.cells r 24 (cellsT .u8 v 32)
def newClC:Ctr:={ fn := 61,nv:=0,args:=[],heap:=[],ro:=[],pre:=fun _=>True,alts:=[
 { k:=3,ret:=clP 0,heap:=[clHp 0 1,.abs 2 1003],post:=fun ρ=>claimsAt (ρ 2).h (ρ 1).v fun _ _=>none }] }
def curC:Ctr:={ fn := 101,nv:=2,args:=[iv .u64 (.var 0),iv .u64 (.var 1)],heap:=[],ro:=[],pre:=fun ρ=>0 ≤ (ρ 0).i∧(ρ 0).i < 18446744073709551616∧0 ≤ (ρ 1).i∧(ρ 1).i < 18446744073709551616,alts:=[
 { k:=1,ret:=.one (.vbool (.var 2)),heap:=[],post:=fun ρ=>(ρ 2).b = curF (ρ 0).i (ρ 1).i }] }
def noteC:Ctr:={ fn := 62,nv:=6,args:=[clP 0,dgV 1,iv .i64 (.var 2),iv .u64 (.var 3)],heap:=[clHp 0 4,.abs 5 1003],ro:=[],pre:=fun ρ=>(∃ cl,claimsAt (ρ 5).h (ρ 4).v cl)∧0 ≤ (ρ 3).i∧(ρ 3).i < 18446744073709551616,alts:=[
 { k:=1,ret:=.tup [],heap:=[clHp 0 4,.abs 6 1003],post:=fun ρ=>∀ cl,claimsAt (ρ 5).h (ρ 4).v cl→claimsAt (ρ 6).h (ρ 4).v (noteF cl (rowL (ρ 1).d 32) (ρ 2).i (ρ 3).i) }] }
def itOver (h:Hp) (it:Value) (m:List ME) (seen:List Nat):Prop:=∃ b' mo since st,it = .pointer (some ⟨b',0,none⟩)∧h b' = some (.mapIter mo since seen.toArray st) ∧
 ((mo = none∧m = [])∨∃ b c,mo = some b∧b' ≠ b∧MapH h b mtI m c∧c ≤ since∧(seen = []∨m = []∨∃ e ∈ m,e.born < st)∧∀ n ∈ seen,∃ e ∈ m,e.born = n)
def iterLeft (h:Hp) (it:Value):Nat :=
 match it with
 | .pointer (some a) =>
  match h a.block with
  | some (.mapIter (some b) _ seen _) =>
   match h b with
   | some (.map es _)=>(es.toList.filter fun e=>!(seen.contains e.born)).length
   | _=>0
  | _=>0
 | _=>0
def blPre (ρ:Env):Prop:=(∃ cl,claimsAt (ρ 5).h (ρ 4).v cl)∧allM (rowL (ρ 1).d 32)∧intsIn ρ 6∧intsIn ρ 11∧gOk ρ 16 17 gR∧0 ≤ (ρ 3).i∧(ρ 3).i < 18446744073709551616
def blockedC:Ctr:={ fn := 68,nv:=18,ip:=[gIp 16,(5030, 181)],args:=[clP 0,dgV 1,iv .i64 (.var 2),iv .u64 (.var 3),bS 6,bS 11],heap:=[clHp 0 4,.abs 5 1003],ro:=[iHpA 6,iHpA 11,gHp 16 17],pre:=blPre,alts:=[
 { k:=2,ret:=.one (.vbool (.var 18)),heap:=[clHp 0 4,.abs 19 1003],post:=fun ρ=>∀ cl,claimsAt (ρ 5).h (ρ 4).v cl→claimsAt (ρ 19).h (ρ 4).v cl∧(ρ 18).b = blockedF cl (rowL (ρ 1).d 32) (ρ 2).i (ρ 3).i (ints (ρ 9).d) (ints (ρ 14).d) }] }
def blkE (o:List Int) (self clock:Int) (L H:List Int) (x:ME):Bool:=curF (vInt (x.v.headD .nilFunc)) clock && decide (x.k.headD 0 ∈ L) && !decide (x.k.headD 0 ∈ H) && betF o (x.k.headD 0) self
def blkI (h0 h:Hp) (v it:Value) (o:List Int) (self clock:Int) (L H:List Int) (x:Bool):Prop:=∀ cl,claimsAt h0 v cl→claimsAt h v cl∧∃ m seen,itOver h it m seen∧(∀ i,cl o i = getO m i)∧x = (m.filter fun e=>seen.contains e.born).any (blkE o self clock L H)
def blockedI:Inv:={ key:=6,nv:=8,env:=[(2,iv .i64 (.var 2)),(3,iv .u64 (.var 3)),(7,objP 1000),(13,.one (.vptr 1001 (.lit 0) 16 0)),(14,.one (.vptr 1003 (.lit 0) 16 0)),(15,.one (.vbool (.var 1005))),(30,.one (.var 1006))],heap:=[objHpN 1000 1,.arr 1001 157 kBool16 (.var 1002) (.lit 1),.arr 1003 157 kBool16 (.var 1004) (.lit 1),clHp 0 4,.abs 1007 1003],inv:=(fun ρ=>seenTo (ρ 1002).d (ints (ρ 14).d) (ρ 14).d.length∧seenTo (ρ 1004).d (ints (ρ 9).d) (ρ 9).d.length∧blkI (ρ 5).h (ρ 1007).h (ρ 4).v (ρ 1006).v (rowL (ρ 1).d 32) (ρ 2).i (ρ 3).i (ints (ρ 9).d) (ints (ρ 14).d) (ρ 1005).b),mu:=(fun ρ=>iterLeft (ρ 1007).h (ρ 1006).v) }
end Go.Eng

set_option linter.unusedSimpArgs false
set_option linter.unusedVariables false
set_option maxRecDepth 100000
namespace Go.Proofs
open Go Go.Eng

def o_cur:Out:=(.br (.cmp .geq (.var 1) (.var 0))
 (.ret 0 (sg 2 [bt 2 (.cmp .lss (.arith .sub .u64 (.var 1) (.var 0)) (.lit 12))]))
 (.ret 0 (sg 2 [bt 2 (.bl false)])))
theorem o_cur_eq:treeOf ⟨Tryz.prog,curC,[],[]⟩ 100000 Tryz.f101 = o_cur:=by kernel_rfl
theorem cur_of (hd:∀ c ∈ ([]:List Ctr),c.ok Tryz.prog) (h:∀ ρ:Env,ρ.good→(curC).pre ρ→o_cur.den ⟨Tryz.prog,curC,[],[]⟩ ρ):(curC).ok Tryz.prog :=
 ok_of_tree Tryz.func101 (fun a w=>Tryz.call101 a w) hd 100000 (fun ρ hg hp=>by rw [o_cur_eq]; exact h ρ hg hp)
def o_newCl:Out:=(.mop .new 0 (.fresh 2 (.ret 0 (sg 0 [bg 2 0,bv 1 1,bg 0 2]))) .top)
theorem o_newCl_eq:treeOf ⟨Tryz.prog,newClC,[],[]⟩ 100000 Tryz.f61 = o_newCl:=by kernel_rfl
theorem newCl_of (hd:∀ c ∈ ([]:List Ctr),c.ok Tryz.prog) (h:∀ ρ:Env,ρ.good→(newClC).pre ρ→o_newCl.den ⟨Tryz.prog,newClC,[],[]⟩ ρ):(newClC).ok Tryz.prog :=
 ok_of_tree Tryz.func61 (fun a w=>Tryz.call61 a w) hd 100000 (fun ρ hg hp=>by rw [o_newCl_eq]; exact h ρ hg hp)
def o_note:Out:=(.fresh 6 (.pre 0 (sg 0 [bv 0 2]) (.both (.fresh 7 (.post 0 0 (sg 0 [bv 0 2]) 7 (.br (.not (.var 7))
 (.ret 0 (sg 6 [bg 6 5]))
 (.both (.mop (.get (.var 4) [(.c2 (.xint 0) (.var 1) (.lit 0)),(.c2 (.xint 1) (.var 1) (.lit 0)),(.c2 (.xint 2) (.var 1) (.lit 0)),(.c2 (.xint 3) (.var 1) (.lit 0)),(.c2 (.xint 4) (.var 1) (.lit 0)),(.c2 (.xint 5) (.var 1) (.lit 0)),(.c2 (.xint 6) (.var 1) (.lit 0)),(.c2 (.xint 7) (.var 1) (.lit 0)),(.c2 (.xint 8) (.var 1) (.lit 0)),(.c2 (.xint 9) (.var 1) (.lit 0)),(.c2 (.xint 10) (.var 1) (.lit 0)),(.c2 (.xint 11) (.var 1) (.lit 0)),(.c2 (.xint 12) (.var 1) (.lit 0)),(.c2 (.xint 13) (.var 1) (.lit 0)),(.c2 (.xint 14) (.var 1) (.lit 0)),(.c2 (.xint 15) (.var 1) (.lit 0)),(.c2 (.xint 16) (.var 1) (.lit 0)),(.c2 (.xint 17) (.var 1) (.lit 0)),(.c2 (.xint 18) (.var 1) (.lit 0)),(.c2 (.xint 19) (.var 1) (.lit 0)),(.c2 (.xint 20) (.var 1) (.lit 0)),(.c2 (.xint 21) (.var 1) (.lit 0)),(.c2 (.xint 22) (.var 1) (.lit 0)),(.c2 (.xint 23) (.var 1) (.lit 0)),(.c2 (.xint 24) (.var 1) (.lit 0)),(.c2 (.xint 25) (.var 1) (.lit 0)),(.c2 (.xint 26) (.var 1) (.lit 0)),(.c2 (.xint 27) (.var 1) (.lit 0)),(.c2 (.xint 28) (.var 1) (.lit 0)),(.c2 (.xint 29) (.var 1) (.lit 0)),(.c2 (.xint 30) (.var 1) (.lit 0)),(.c2 (.xint 31) (.var 1) (.lit 0))] ⟨true,[.u8,.u8,.u8,.u8,.u8,.u8,.u8,.u8,.u8,.u8,.u8,.u8,.u8,.u8,.u8,.u8,.u8,.u8,.u8,.u8,.u8,.u8,.u8,.u8,.u8,.u8,.u8,.u8,.u8,.u8,.u8,.u8],false,[CK.any],[.vnilm]⟩ [5]) 8 (.both (.mop (.isnil (.vcell (.var 8) (.lit 0) 0)) 9 (.br (.var 9)
 (.both (.mop .new 10 (.both (.pack [.abs 10 1003,.abs 5 1003] 12 (.mop (.put 12 (.var 4) [(.c2 (.xint 0) (.var 1) (.lit 0)),(.c2 (.xint 1) (.var 1) (.lit 0)),(.c2 (.xint 2) (.var 1) (.lit 0)),(.c2 (.xint 3) (.var 1) (.lit 0)),(.c2 (.xint 4) (.var 1) (.lit 0)),(.c2 (.xint 5) (.var 1) (.lit 0)),(.c2 (.xint 6) (.var 1) (.lit 0)),(.c2 (.xint 7) (.var 1) (.lit 0)),(.c2 (.xint 8) (.var 1) (.lit 0)),(.c2 (.xint 9) (.var 1) (.lit 0)),(.c2 (.xint 10) (.var 1) (.lit 0)),(.c2 (.xint 11) (.var 1) (.lit 0)),(.c2 (.xint 12) (.var 1) (.lit 0)),(.c2 (.xint 13) (.var 1) (.lit 0)),(.c2 (.xint 14) (.var 1) (.lit 0)),(.c2 (.xint 15) (.var 1) (.lit 0)),(.c2 (.xint 16) (.var 1) (.lit 0)),(.c2 (.xint 17) (.var 1) (.lit 0)),(.c2 (.xint 18) (.var 1) (.lit 0)),(.c2 (.xint 19) (.var 1) (.lit 0)),(.c2 (.xint 20) (.var 1) (.lit 0)),(.c2 (.xint 21) (.var 1) (.lit 0)),(.c2 (.xint 22) (.var 1) (.lit 0)),(.c2 (.xint 23) (.var 1) (.lit 0)),(.c2 (.xint 24) (.var 1) (.lit 0)),(.c2 (.xint 25) (.var 1) (.lit 0)),(.c2 (.xint 26) (.var 1) (.lit 0)),(.c2 (.xint 27) (.var 1) (.lit 0)),(.c2 (.xint 28) (.var 1) (.lit 0)),(.c2 (.xint 29) (.var 1) (.lit 0)),(.c2 (.xint 30) (.var 1) (.lit 0)),(.c2 (.xint 31) (.var 1) (.lit 0))] [(.var 11)] ⟨true,[.u8,.u8,.u8,.u8,.u8,.u8,.u8,.u8,.u8,.u8,.u8,.u8,.u8,.u8,.u8,.u8,.u8,.u8,.u8,.u8,.u8,.u8,.u8,.u8,.u8,.u8,.u8,.u8,.u8,.u8,.u8,.u8],false,[CK.any],[.vnilm]⟩) 13 (.both (.mop (.get (.var 4) [(.c2 (.xint 0) (.var 1) (.lit 0)),(.c2 (.xint 1) (.var 1) (.lit 0)),(.c2 (.xint 2) (.var 1) (.lit 0)),(.c2 (.xint 3) (.var 1) (.lit 0)),(.c2 (.xint 4) (.var 1) (.lit 0)),(.c2 (.xint 5) (.var 1) (.lit 0)),(.c2 (.xint 6) (.var 1) (.lit 0)),(.c2 (.xint 7) (.var 1) (.lit 0)),(.c2 (.xint 8) (.var 1) (.lit 0)),(.c2 (.xint 9) (.var 1) (.lit 0)),(.c2 (.xint 10) (.var 1) (.lit 0)),(.c2 (.xint 11) (.var 1) (.lit 0)),(.c2 (.xint 12) (.var 1) (.lit 0)),(.c2 (.xint 13) (.var 1) (.lit 0)),(.c2 (.xint 14) (.var 1) (.lit 0)),(.c2 (.xint 15) (.var 1) (.lit 0)),(.c2 (.xint 16) (.var 1) (.lit 0)),(.c2 (.xint 17) (.var 1) (.lit 0)),(.c2 (.xint 18) (.var 1) (.lit 0)),(.c2 (.xint 19) (.var 1) (.lit 0)),(.c2 (.xint 20) (.var 1) (.lit 0)),(.c2 (.xint 21) (.var 1) (.lit 0)),(.c2 (.xint 22) (.var 1) (.lit 0)),(.c2 (.xint 23) (.var 1) (.lit 0)),(.c2 (.xint 24) (.var 1) (.lit 0)),(.c2 (.xint 25) (.var 1) (.lit 0)),(.c2 (.xint 26) (.var 1) (.lit 0)),(.c2 (.xint 27) (.var 1) (.lit 0)),(.c2 (.xint 28) (.var 1) (.lit 0)),(.c2 (.xint 29) (.var 1) (.lit 0)),(.c2 (.xint 30) (.var 1) (.lit 0)),(.c2 (.xint 31) (.var 1) (.lit 0))] ⟨true,[.u8,.u8,.u8,.u8,.u8,.u8,.u8,.u8,.u8,.u8,.u8,.u8,.u8,.u8,.u8,.u8,.u8,.u8,.u8,.u8,.u8,.u8,.u8,.u8,.u8,.u8,.u8,.u8,.u8,.u8,.u8,.u8],false,[CK.any],[.vnilm]⟩ [13]) 14 (.both (.mop (.put 13 (.vcell (.var 14) (.lit 0) 0) [(.var 2)] [(.vint .u64 (.var 3))] ⟨false,[.i64],false,[CK.int .u64],[(.vint .u64 (.lit 0))]⟩) 15 (.ret 0 (sg 6 [bg 6 15])) .top) .top) .top) .top) .top)) .top) .top) .top)
 (.both (.mop (.get (.var 4) [(.c2 (.xint 0) (.var 1) (.lit 0)),(.c2 (.xint 1) (.var 1) (.lit 0)),(.c2 (.xint 2) (.var 1) (.lit 0)),(.c2 (.xint 3) (.var 1) (.lit 0)),(.c2 (.xint 4) (.var 1) (.lit 0)),(.c2 (.xint 5) (.var 1) (.lit 0)),(.c2 (.xint 6) (.var 1) (.lit 0)),(.c2 (.xint 7) (.var 1) (.lit 0)),(.c2 (.xint 8) (.var 1) (.lit 0)),(.c2 (.xint 9) (.var 1) (.lit 0)),(.c2 (.xint 10) (.var 1) (.lit 0)),(.c2 (.xint 11) (.var 1) (.lit 0)),(.c2 (.xint 12) (.var 1) (.lit 0)),(.c2 (.xint 13) (.var 1) (.lit 0)),(.c2 (.xint 14) (.var 1) (.lit 0)),(.c2 (.xint 15) (.var 1) (.lit 0)),(.c2 (.xint 16) (.var 1) (.lit 0)),(.c2 (.xint 17) (.var 1) (.lit 0)),(.c2 (.xint 18) (.var 1) (.lit 0)),(.c2 (.xint 19) (.var 1) (.lit 0)),(.c2 (.xint 20) (.var 1) (.lit 0)),(.c2 (.xint 21) (.var 1) (.lit 0)),(.c2 (.xint 22) (.var 1) (.lit 0)),(.c2 (.xint 23) (.var 1) (.lit 0)),(.c2 (.xint 24) (.var 1) (.lit 0)),(.c2 (.xint 25) (.var 1) (.lit 0)),(.c2 (.xint 26) (.var 1) (.lit 0)),(.c2 (.xint 27) (.var 1) (.lit 0)),(.c2 (.xint 28) (.var 1) (.lit 0)),(.c2 (.xint 29) (.var 1) (.lit 0)),(.c2 (.xint 30) (.var 1) (.lit 0)),(.c2 (.xint 31) (.var 1) (.lit 0))] ⟨true,[.u8,.u8,.u8,.u8,.u8,.u8,.u8,.u8,.u8,.u8,.u8,.u8,.u8,.u8,.u8,.u8,.u8,.u8,.u8,.u8,.u8,.u8,.u8,.u8,.u8,.u8,.u8,.u8,.u8,.u8,.u8,.u8],false,[CK.any],[.vnilm]⟩ [5]) 10 (.both (.mop (.put 5 (.vcell (.var 10) (.lit 0) 0) [(.var 2)] [(.vint .u64 (.var 3))] ⟨false,[.i64],false,[CK.int .u64],[(.vint .u64 (.lit 0))]⟩) 11 (.ret 0 (sg 6 [bg 6 11])) .top) .top) .top) .top)) .top) .top) .top) .top)))) .top)))
theorem o_note_eq:treeOf ⟨Tryz.prog,noteC,[peerC],[]⟩ 100000 Tryz.f62 = o_note:=by kernel_rfl
theorem note_of (hd:∀ c ∈ ([peerC]:List Ctr),c.ok Tryz.prog) (h:∀ ρ:Env,ρ.good→(noteC).pre ρ→o_note.den ⟨Tryz.prog,noteC,[peerC],[]⟩ ρ):(noteC).ok Tryz.prog :=
 ok_of_tree Tryz.func62 (fun a w=>Tryz.call62 a w) hd 100000 (fun ρ hg hp=>by rw [o_note_eq]; exact h ρ hg hp)
@[simp] def o_blocked_1:Out:=.back 0 57 (sg 1000 [bg 1007 65,bv 1004 61,bv 1002 59,bv 1006 63,bt 1005 (.bl false),bg 1003 60,bg 1001 58,bg 1000 57])
def o_blocked:Out:=(.fresh 18 (.pre 0 (sg 0 [bv 4 15,bv 3 14,bv 2 13,bv 1 12,bg 0 11]) (.both (.fresh 19 (.fresh 20 (.fresh 21 (.fresh 22 (.fresh 23 (.fresh 24 (.fresh 25 (.fresh 26 (.fresh 27 (.fresh 28 (.fresh 29 (.fresh 30 (.fresh 31 (.fresh 32 (.fresh 33 (.fresh 34 (.post 0 0 (sg 0 [bv 4 15,bv 3 14,bv 2 13,bv 1 12,bg 0 11]) 19 (.pre 0 (sg 0 [bv 4 10,bv 3 9,bv 2 8,bv 1 7,bg 0 6]) (.both (.fresh 35 (.fresh 36 (.fresh 37 (.fresh 38 (.fresh 39 (.fresh 40 (.fresh 41 (.fresh 42 (.fresh 43 (.fresh 44 (.fresh 45 (.fresh 46 (.fresh 47 (.fresh 48 (.fresh 49 (.fresh 50 (.post 0 0 (sg 0 [bv 4 10,bv 3 9,bv 2 8,bv 1 7,bg 0 6]) 35 (.fresh 51 (.fresh 52 (.both (.mop (.get (.var 4) [(.c2 (.xint 0) (.var 1) (.lit 0)),(.c2 (.xint 1) (.var 1) (.lit 0)),(.c2 (.xint 2) (.var 1) (.lit 0)),(.c2 (.xint 3) (.var 1) (.lit 0)),(.c2 (.xint 4) (.var 1) (.lit 0)),(.c2 (.xint 5) (.var 1) (.lit 0)),(.c2 (.xint 6) (.var 1) (.lit 0)),(.c2 (.xint 7) (.var 1) (.lit 0)),(.c2 (.xint 8) (.var 1) (.lit 0)),(.c2 (.xint 9) (.var 1) (.lit 0)),(.c2 (.xint 10) (.var 1) (.lit 0)),(.c2 (.xint 11) (.var 1) (.lit 0)),(.c2 (.xint 12) (.var 1) (.lit 0)),(.c2 (.xint 13) (.var 1) (.lit 0)),(.c2 (.xint 14) (.var 1) (.lit 0)),(.c2 (.xint 15) (.var 1) (.lit 0)),(.c2 (.xint 16) (.var 1) (.lit 0)),(.c2 (.xint 17) (.var 1) (.lit 0)),(.c2 (.xint 18) (.var 1) (.lit 0)),(.c2 (.xint 19) (.var 1) (.lit 0)),(.c2 (.xint 20) (.var 1) (.lit 0)),(.c2 (.xint 21) (.var 1) (.lit 0)),(.c2 (.xint 22) (.var 1) (.lit 0)),(.c2 (.xint 23) (.var 1) (.lit 0)),(.c2 (.xint 24) (.var 1) (.lit 0)),(.c2 (.xint 25) (.var 1) (.lit 0)),(.c2 (.xint 26) (.var 1) (.lit 0)),(.c2 (.xint 27) (.var 1) (.lit 0)),(.c2 (.xint 28) (.var 1) (.lit 0)),(.c2 (.xint 29) (.var 1) (.lit 0)),(.c2 (.xint 30) (.var 1) (.lit 0)),(.c2 (.xint 31) (.var 1) (.lit 0))] ⟨true,[.u8,.u8,.u8,.u8,.u8,.u8,.u8,.u8,.u8,.u8,.u8,.u8,.u8,.u8,.u8,.u8,.u8,.u8,.u8,.u8,.u8,.u8,.u8,.u8,.u8,.u8,.u8,.u8,.u8,.u8,.u8,.u8],false,[CK.any],[.vnilm]⟩ [5]) 53 (.both (.mop (.range (.vcell (.var 53) (.lit 0) 0) ⟨false,[.i64],false,[CK.int .u64],[(.vint .u64 (.lit 0))]⟩ [5]) 54 (.pack [.abs 54 1003,.abs 5 1003] 56 (.inv 0 57 (sg 1000 [bg 1007 56,bt 1004 (.rcons (.vbool (.var 35)) (.rcons (.vbool (.var 36)) (.rcons (.vbool (.var 37)) (.rcons (.vbool (.var 38)) (.rcons (.vbool (.var 39)) (.rcons (.vbool (.var 40)) (.rcons (.vbool (.var 41)) (.rcons (.vbool (.var 42)) (.rcons (.vbool (.var 43)) (.rcons (.vbool (.var 44)) (.rcons (.vbool (.var 45)) (.rcons (.vbool (.var 46)) (.rcons (.vbool (.var 47)) (.rcons (.vbool (.var 48)) (.rcons (.vbool (.var 49)) (.rcons (.vbool (.var 50)) .rnil)))))))))))))))),bt 1002 (.rcons (.vbool (.var 19)) (.rcons (.vbool (.var 20)) (.rcons (.vbool (.var 21)) (.rcons (.vbool (.var 22)) (.rcons (.vbool (.var 23)) (.rcons (.vbool (.var 24)) (.rcons (.vbool (.var 25)) (.rcons (.vbool (.var 26)) (.rcons (.vbool (.var 27)) (.rcons (.vbool (.var 28)) (.rcons (.vbool (.var 29)) (.rcons (.vbool (.var 30)) (.rcons (.vbool (.var 31)) (.rcons (.vbool (.var 32)) (.rcons (.vbool (.var 33)) (.rcons (.vbool (.var 34)) .rnil)))))))))))))))),bv 1006 55,bt 1005 (.bl false),bg 1003 52,bg 1001 51,bg 1000 18]) (.fresh 57 (.fresh 58 (.fresh 59 (.fresh 60 (.fresh 61 (.fresh 62 (.fresh 63 (.fresh 64 (.hyp 0 57 (.mop (.next 64 (.var 63) ⟨false,[.i64],false,[CK.int .u64],[(.vint .u64 (.lit 0))]⟩ [64]) 65 (.mop (.entry 65 (.var 63) ⟨false,[.i64],false,[CK.int .u64],[(.vint .u64 (.lit 0))]⟩ [65]) 68 (.br (.var 62)
 (.back 0 57 (sg 1000 [bg 1007 65,bv 1004 61,bv 1002 59,bv 1006 63,bt 1005 (.bl true),bg 1003 60,bg 1001 58,bg 1000 57]))
 (.pre 1 (sg 0 [bv 1 3,bt 0 (.c2 (.xint 0) (.var 69) (.lit 0))]) (.both (.fresh 70 (.post 1 0 (sg 0 [bv 1 3,bt 0 (.c2 (.xint 0) (.var 69) (.lit 0))]) 70 (.br (.var 70)
 (.need (.cmp .leq (.lit 0) (.c2 (.xint 0) (.var 68) (.lit 0))) (.need (.cmp .lss (.c2 (.xint 0) (.var 68) (.lit 0)) (.lit 16)) (.need (.cmp .lss (.lit 0) (.dlen (.var 61))) (.br (.c2 (.xbool 0) (.var 61) (.c2 (.xint 0) (.var 68) (.lit 0)))
 (.need (.cmp .lss (.lit 0) (.dlen (.var 59))) (.br (.not (.c2 (.xbool 0) (.var 59) (.c2 (.xint 0) (.var 68) (.lit 0))))
 (.pre 2 (sg 0 [bv 4 17,bv 2 2,bt 1 (.c2 (.xint 0) (.var 68) (.lit 0)),bt 0 (r8 1),bg 3 16]) (.both (.fresh 71 (.post 2 0 (sg 0 [bv 4 17,bv 2 2,bt 1 (.c2 (.xint 0) (.var 68) (.lit 0)),bt 0 (r8 1),bg 3 16]) 71 (.back 0 57 (sg 1000 [bg 1007 65,bv 1004 61,bv 1002 59,bv 1006 63,bv 1005 71,bg 1003 60,bg 1001 58,bg 1000 57])))) .top))
 o_blocked_1))
 o_blocked_1))))
 o_blocked_1))) .top))) .top) (.ret 0 (sg 18 [bg 19 64,bv 18 62])))))))))))))) .top) .top) .top) .top)))))))))))))))))))) .top))))))))))))))))))) .top)))
theorem o_blocked_eq:treeOf ⟨Tryz.prog,blockedC,[setC,curC,betterC],[blockedI]⟩ 100000 Tryz.f68 = o_blocked:=by kernel_rfl
theorem blocked_of (hd:∀ c ∈ ([setC,curC,betterC]:List Ctr),c.ok Tryz.prog) (h:∀ ρ:Env,ρ.good→(blockedC).pre ρ→o_blocked.den ⟨Tryz.prog,blockedC,[setC,curC,betterC],[blockedI]⟩ ρ):(blockedC).ok Tryz.prog :=
 ok_of_tree Tryz.func68 (fun a w=>Tryz.call68 a w) hd 100000 (fun ρ hg hp=>by rw [o_blocked_eq]; exact h ρ hg hp)
end Go.Proofs

set_option linter.unusedSimpArgs false
set_option linter.unusedVariables false
namespace Go.Proofs
open Go Go.Eng
theorem kVals_inj:∀ {ks:List IntKind} {a b:List Int},a.length = ks.length→b.length = ks.length→kVals ks a = kVals ks b→a = b
 | [],[],[],_,_,_=>rfl
 | k :: ks,x :: a,y :: b,h1,h2,h=>by
  simp only [kVals,List.zipWith_cons_cons,List.cons.injEq,Value.int.injEq,true_and] at h
  rw [h.1,kVals_inj (ks:=ks) (by simpa using h1) (by simpa using h2) h.2]
 | [],_ :: _,_,h,_,_=>by simp at h
 | [],_,_ :: _,_,h,_=>by simp at h
 | _ :: _,[],_,h,_,_=>by simp at h
 | _ :: _,_ :: _,[],_,h,_=>by simp at h
theorem mkV_inj {g:Bool} {a b:List Value} {n:Nat} (ha:a.length = n) (hb:b.length = n) (hg:g = true∨n = 1) (h:mkV g a = mkV g b):a = b:=by
 cases g with
 | true =>
  simp only [mkV,Value.agg.injEq] at h
  simpa using congrArg Array.toList h
 | false =>
  obtain rfl:=hg.resolve_left (by simp)
  match a,b,ha,hb with
  | [x],[y],_,_ =>
   simp only [mkV,List.headD_cons] at h
   rw [h]
theorem ents_inj {mt:MT} (hk:mt.kagg = true∨mt.kks.length = 1) (hv:mt.vagg = true∨mt.vpat.length = 1):∀ {l l':List ME},(∀ x ∈ l,x.k.length = mt.kks.length∧fitsRow mt.vpat x.v)→(∀ x ∈ l',x.k.length = mt.kks.length∧fitsRow mt.vpat x.v)→l.map mt.ent = l'.map mt.ent→l = l'
 | [],[],_,_,_=>rfl
 | [],_ :: _,_,_,h=>by simp at h
 | _ :: _,[],_,_,h=>by simp at h
 | x :: l,y :: l',h1,h2,h=>by
  simp only [List.map_cons,List.cons.injEq] at h
  obtain ⟨e1,e2⟩:=h
  have hx:=h1 x (List.mem_cons_self ..)
  have hy:=h2 y (List.mem_cons_self ..)
  simp only [MT.ent,MapEntry.mk.injEq] at e1
  obtain ⟨a1,a2,a3⟩:=e1
  have lk:∀ {k:List Int},k.length = mt.kks.length→(kVals mt.kks k).length = mt.kks.length:=fun h=>by simp [kVals,h]
  have b1:=kVals_inj hx.1 hy.1 (mkV_inj (lk hx.1) (lk hy.1) hk a1)
  have b2:=mkV_inj hx.2.1 hy.2.1 hv a2
  obtain ⟨xk,xv,xb⟩:=x
  obtain ⟨yk,yv,yb⟩:=y
  simp only at b1 b2 a3
  subst b1 b2 a3
  rw [ents_inj hk hv (fun z hz=>h1 z (List.mem_cons_of_mem _ hz)) (fun z hz=>h2 z (List.mem_cons_of_mem _ hz)) e2]
theorem MapH_uniq {h:Hp} {b:Nat} {mt:MT} {l l':List ME} {c c':Nat} (hk:mt.kagg = true∨mt.kks.length = 1) (hv:mt.vagg = true∨mt.vpat.length = 1) (h1:MapH h b mt l c) (h2:MapH h b mt l' c'):l = l'∧c = c':=by
 have e:=h1.1.symm.trans h2.1
 simp only [MT.obj,Option.some.injEq,Obj.map.injEq] at e
 exact ⟨ents_inj hk hv (fun x hx=>⟨(h1.2.1 x hx).1,(h1.2.1 x hx).2.1⟩) (fun x hx=>⟨(h2.2.1 x hx).1,(h2.2.1 x hx).2.1⟩) (by simpa using congrArg Array.toList e.1),e.2⟩
theorem uniqO {h:Hp} {b:Nat} {l l':List ME} {c c':Nat} (h1:MapH h b mtO l c) (h2:MapH h b mtO l' c'):l = l'∧c = c':=MapH_uniq (.inl rfl) (.inr rfl) h1 h2
theorem uniqI {h:Hp} {b:Nat} {l l':List ME} {c c':Nat} (h1:MapH h b mtI l c) (h2:MapH h b mtI l' c'):l = l'∧c = c':=MapH_uniq (.inr rfl) (.inr rfl) h1 h2
theorem cl_uniq {h:Hp} {v:Value} {cl cl':Cl} (h1:claimsAt h v cl) (h2:claimsAt h v cl'):cl' = cl:=by
 obtain ⟨b,l,c,rfl,hm,hi,_,hn,_⟩:=h1
 obtain ⟨b2,l2,c2,e,hm2,hi2,_,hn2,_⟩:=h2
 simp only [Value.map.injEq,Option.some.injEq] at e
 subst e
 obtain ⟨rfl,rfl⟩:=uniqO hm hm2
 funext o i
 by_cases ho:∃ x ∈ l,x.k = o
 ·obtain ⟨x,hx,rfl⟩:=ho
  obtain ⟨b',m,c',e1,_,e2,e3⟩:=hi x hx
  obtain ⟨b2',m2,c2',e1',_,e2',e3'⟩:=hi2 x hx
  rw [e1] at e1'
  simp only [List.cons.injEq,Value.map.injEq,Option.some.injEq,and_true] at e1'
  subst e1'
  obtain ⟨rfl,_⟩:=uniqI e2 e2'
  rw [e3,e3']
 ·have:∀ x ∈ l,x.k ≠ o:=fun x hx he=>ho ⟨x,hx,he⟩
  rw [hn o i this,hn2 o i this]
theorem MapH_mono {h h':Hp} {b:Nat} {mt:MT} {l:List ME} {c:Nat} (hm:MapH h b mt l c) (hl:Hp.le h h'):MapH h' b mt l c:=⟨hl _ _ hm.1,hm.2⟩
theorem cl_mono {h h':Hp} {v:Value} {cl:Cl} (hc:claimsAt h v cl) (hl:Hp.le h h'):claimsAt h' v cl:=by
 obtain ⟨b,l,c,e,hm,hi,hr⟩:=hc
 exact ⟨b,l,c,e,MapH_mono hm hl,fun x hx=>by
  obtain ⟨b',m,c',e1,e2,e3,e4⟩:=hi x hx
  exact ⟨b',m,c',e1,e2,MapH_mono e3 hl,e4⟩,hr⟩
theorem hasM_iff {l:List ME} {k:List Int}:hasM l k = true↔∃ x ∈ l,x.k = k:=by
 unfold hasM
 rw [List.any_eq_true]
 exact ⟨fun ⟨x,h1,h2⟩=>⟨x,h1,by simpa using h2⟩,fun ⟨x,h1,h2⟩=>⟨x,h1,by simpa using h2⟩⟩
theorem hasM_not {l:List ME} {k:List Int} (h:hasM l k = false):∀ x ∈ l,x.k ≠ k:=fun x hx he=>by
 rw [hasM_iff.2 ⟨x,hx,he⟩] at h; cases h
theorem getO_put {m:List ME} {i i' t:Int} {c:Nat}:getO (putM m [i] [.int .u64 t] c).1 i' = if i' = i then some t else getO m i':=by
 unfold putM
 by_cases h:hasM m [i] = true
 ·rw [if_pos h]
  unfold getO
  simp only
  rw [List.find?_map]
  have hp:((fun x:ME=>x.k == [i']) ∘ fun x:ME=>if x.k = [i] then { x with v:=[.int .u64 t] } else x) = fun x:ME=>x.k == [i']:=by
   funext x
   simp only [Function.comp]
   split <;> rfl
  rw [hp,Option.map_map]
  by_cases hi:i' = i
  ·subst hi
   rw [if_pos rfl]
   obtain ⟨x,hx,hk⟩:=hasM_iff.1 h
   cases hf:m.find? fun x=>x.k == [i'] with
   | none =>
    rw [List.find?_eq_none] at hf
    exact absurd (by simpa using hk) (hf x hx)
   | some y =>
    have hy:=List.find?_some hf
    simp only [beq_iff_eq] at hy
    simp [hy,vInt]
  ·rw [if_neg hi]
   cases hf:m.find? fun x=>x.k == [i'] with
   | none=>rfl
   | some y =>
    have hy:=List.find?_some hf
    simp only [beq_iff_eq] at hy
    have:y.k ≠ [i]:=by rw [hy]; simp [hi]
    simp [this]
 ·rw [if_neg h]
  have hn:=hasM_not (by simpa using h)
  unfold getO
  simp only
  rw [List.find?_append]
  by_cases hi:i' = i
  ·subst hi
   rw [if_pos rfl]
   have:m.find? (fun x=>x.k == [i']) = none:=by
    rw [List.find?_eq_none]
    intro x hx hk
    exact hn x hx (by simpa using hk)
   rw [this]; simp [vInt]
  ·rw [if_neg hi]
   have:([⟨[i],[.int .u64 t],c⟩]:List ME).find? (fun x=>x.k == [i']) = none:=by
    simp [Ne.symm hi]
   rw [this,Option.or_none]
theorem putM_len1 {i t:Int}:([i]:List Int).length = mtI.kks.length∧fitsRow mtI.vpat [.int .u64 t]:=⟨rfl,rfl,fun c k v hk hv=>by
 cases c with
 | zero=>simp only [mtI,List.getElem?_cons_zero,Option.some.injEq] at hk hv; subst hk hv; rfl
 | succ c=>simp [mtI] at hk⟩
theorem upd_ne {h:Hp} {b x:Nat} {X:Obj} (hne:x ≠ b):Hp.upd h b X x = h x:=by unfold Hp.upd; rw [if_neg hne]
theorem upd_eq {h:Hp} {b:Nat} {X:Obj}:Hp.upd h b X b = some X:=by unfold Hp.upd; rw [if_pos rfl]
theorem MapH_upd {h:Hp} {b x:Nat} {X:Obj} {mt:MT} {l:List ME} {c:Nat} (hne:x ≠ b) (hm:MapH h x mt l c):MapH (Hp.upd h b X) x mt l c:=⟨by rw [upd_ne hne]; exact hm.1,hm.2⟩
theorem note_old {h:Hp} {b b' c c':Nat} {l m:List ME} {x:ME} {cl:Cl} {i t:Int} (hm:MapH h b mtO l c) (hi:∀ x ∈ l,∃ b' m c',x.v = [.map (some b')]∧b' ≠ b∧MapH h b' mtI m c'∧∀ i,cl x.k i = getO m i) (hd:∀ x ∈ l,∀ y ∈ l,x.k ≠ y.k→x.v ≠ y.v) (hn:∀ o i,(∀ x ∈ l,x.k ≠ o)→cl o i = none)
  (hr:∀ o i t,cl o i = some t→0 ≤ i∧i < 16∧0 ≤ t∧t < 18446744073709551616) (hx:x ∈ l) (hb:x.v = [.map (some b')]) (hI:MapH h b' mtI m c') (i0:0 ≤ i) (i1:i < 16) (t0:0 ≤ t) (t1:t < 18446744073709551616) :
  claimsAt (Hp.upd h b' (mtI.obj (putM m [i] [.int .u64 t] c'))) (.map (some b)) (noteF cl x.k i t):=by
 obtain ⟨b2,m2,c2,e1,e2,e3,e4⟩:=hi x hx
 rw [hb] at e1
 simp only [List.cons.injEq,Value.map.injEq,Option.some.injEq,and_true] at e1
 subst e1
 obtain ⟨rfl,rfl⟩:=uniqI hI e3
 have hF:∀ o' i',noteF cl x.k i t o' i' = if o' = x.k∧i' = i then some t else cl o' i':=fun o' i'=>by unfold noteF; rw [if_pos ⟨i0,i1⟩]
 refine ⟨b,l,c,rfl,MapH_upd (Ne.symm e2) hm,fun y hy=>?_,hd,fun o' i' ho=>?_,fun o' i' t' ht=>?_⟩
 ·by_cases hk:y.k = x.k
  ·have hvv:y.v = [.map (some b')]:=by
    obtain ⟨jx,hjx⟩:=List.getElem?_of_mem hx
    obtain ⟨jy,hjy⟩:=List.getElem?_of_mem hy
    have hj:=pair_get hm.2 hjy hjx hk
    rw [hj,hjx] at hjy
    rw [← Option.some.inj hjy]; exact hb
   refine ⟨b',(putM m [i] [.int .u64 t] c').1,(putM m [i] [.int .u64 t] c').2,hvv,e2,⟨upd_eq,putM_wf hI.2 (putM_len1 (i:=i) (t:=t)).1 (putM_len1 (i:=i) (t:=t)).2⟩,fun i'=>?_⟩
   rw [hF,getO_put,hk,e4]
   by_cases hii:i' = i
   ·simp [hii]
   ·simp [hii]
  ·obtain ⟨b3,m3,c3,f1,f2,f3,f4⟩:=hi y hy
   have hne:b3 ≠ b':=fun he=>hd y hy x hx hk (by rw [f1,hb,he])
   refine ⟨b3,m3,c3,f1,f2,MapH_upd hne f3,fun i'=>?_⟩
   rw [hF,if_neg (fun h=>hk h.1),f4]
 ·rw [hF,if_neg (fun h=>ho x hx h.1.symm),hn o' i' ho]
 ·rw [hF] at ht
  split at ht
  ·rename_i he
   obtain rfl:=Option.some.inj ht
   exact ⟨by omega,by omega,t0,t1⟩
  ·exact hr _ _ _ ht
theorem note_new {h:Hp} {b b' c:Nat} {l:List ME} {cl:Cl} {o:List Int} {i t:Int} (hm:MapH h b mtO l c) (hi:∀ x ∈ l,∃ b' m c',x.v = [.map (some b')]∧b' ≠ b∧MapH h b' mtI m c'∧∀ i,cl x.k i = getO m i) (hd:∀ x ∈ l,∀ y ∈ l,x.k ≠ y.k→x.v ≠ y.v) (hn:∀ o i,(∀ x ∈ l,x.k ≠ o)→cl o i = none)
  (hr:∀ o i t,cl o i = some t→0 ≤ i∧i < 16∧0 ≤ t∧t < 18446744073709551616) (ho:hasM l o = false) (hol:o.length = 32) (hbb:b' ≠ b) (hfree:∀ x ∈ l,x.v ≠ [.map (some b')]) (i0:0 ≤ i) (i1:i < 16) (t0:0 ≤ t) (t1:t < 18446744073709551616) :
  claimsAt (Hp.upd (Hp.upd h b (mtO.obj (putM l o [.map (some b')] c))) b' (mtI.obj (putM [] [i] [.int .u64 t] 0))) (.map (some b)) (noteF cl o i t):=by
 have hF:∀ o' i',noteF cl o i t o' i' = if o' = o∧i' = i then some t else cl o' i':=fun o' i'=>by unfold noteF; rw [if_pos ⟨i0,i1⟩]
 have hput:putM l o [.map (some b')] c = (l ++ [⟨o,[.map (some b')],c⟩],c + 1):=by unfold putM; rw [if_neg (by rw [ho]; simp)]
 have hfit:fitsRow mtO.vpat [.map (some b')]:=⟨rfl,fun c k v hk hv=>by
  cases c with
  | zero=>simp only [mtO,List.getElem?_cons_zero,Option.some.injEq] at hk hv; subst hk hv; rfl
  | succ c=>simp [mtO] at hk⟩
 have hno:=hasM_not ho
 refine ⟨b,(putM l o [.map (some b')] c).1,(putM l o [.map (some b')] c).2,rfl,⟨by rw [upd_ne (Ne.symm hbb)]; exact upd_eq,putM_wf hm.2 (by rw [hol]; rfl) hfit⟩,fun y hy=>?_,fun x hx y hy hk=>?_,fun o' i' ho'=>?_,fun o' i' t' ht=>?_⟩
 ·rw [hput] at hy
  rcases List.mem_append.1 hy with hy | hy
  ·obtain ⟨b3,m3,c3,f1,f2,f3,f4⟩:=hi y hy
   have hne:b3 ≠ b':=fun he=>hfree y hy (by rw [f1,he])
   refine ⟨b3,m3,c3,f1,f2,MapH_upd hne (MapH_upd f2 f3),fun i'=>?_⟩
   rw [hF,if_neg (fun h=>hno y hy h.1),f4]
  ·rw [List.mem_singleton] at hy
   subst hy
   refine ⟨b',(putM [] [i] [.int .u64 t] 0).1,(putM [] [i] [.int .u64 t] 0).2,rfl,hbb,⟨upd_eq,putM_wf (c:=0) (l:=[]) ⟨fun x hx=>(by cases hx),List.Pairwise.nil⟩ (putM_len1 (i:=i) (t:=t)).1 (putM_len1 (i:=i) (t:=t)).2⟩,fun i'=>?_⟩
   rw [hF,getO_put,hn o i' hno]
   by_cases hii:i' = i
   ·simp [hii]
   ·simp [hii,getO]
 ·rw [hput] at hx hy
  rcases List.mem_append.1 hx with hx | hx <;> rcases List.mem_append.1 hy with hy | hy
  ·exact hd x hx y hy hk
  ·rw [List.mem_singleton] at hy; subst hy; exact hfree x hx
  ·rw [List.mem_singleton] at hx; subst hx; exact (hfree y hy).symm
  ·rw [List.mem_singleton] at hx hy; subst hx hy; exact absurd rfl hk
 ·rw [hput] at ho'
  rw [hF,if_neg (fun h=>ho' _ (List.mem_append_right _ (List.mem_singleton.2 rfl)) h.1.symm),hn o' i' fun x hx=>ho' x (List.mem_append_left _ hx)]
 ·rw [hF] at ht
  split at ht
  ·obtain rfl:=Option.some.inj ht
   rename_i he
   exact ⟨by omega,by omega,t0,t1⟩
  ·exact hr _ _ _ ht
end Go.Proofs

set_option linter.unusedSimpArgs false
set_option linter.unusedVariables false
namespace Go.Proofs
open Go Go.Eng
theorem key_one {m:List ME} {c:Nat} (hM:MWf mtI m c) {e:ME} (he:e ∈ m):∃ z,e.k = [z]:=len_one (hM.1 e he).1
theorem getO_some {m:List ME} {i t:Int} (h:getO m i = some t):∃ e ∈ m,e.k = [i]∧vInt (e.v.headD .nilFunc) = t:=by
 unfold getO at h
 obtain ⟨e,he,rfl⟩:=Option.map_eq_some_iff.1 h
 exact ⟨e,List.mem_of_find?_eq_some he,by simpa using List.find?_some he,rfl⟩
theorem getO_mem {m:List ME} {c:Nat} (hM:MWf mtI m c) {e:ME} (he:e ∈ m) {z:Int} (hk:e.k = [z]):getO m z = some (vInt (e.v.headD .nilFunc)):=by
 unfold getO
 cases hf:m.find? fun x=>x.k == [z] with
 | none =>
  rw [List.find?_eq_none] at hf
  exact absurd (by simpa using hk) (hf e he)
 | some y =>
  have hy:y.k = [z]:=by simpa using List.find?_some hf
  obtain ⟨j,hj⟩:=List.getElem?_of_mem he
  obtain ⟨j',hj'⟩:=List.getElem?_of_mem (List.mem_of_find?_eq_some hf)
  have hjj:=pair_get hM hj hj' (hk.trans hy.symm)
  rw [hjj,hj'] at hj
  rw [Option.some.inj hj]; rfl
theorem blockedF_any {m:List ME} {c:Nat} {cl:Cl} {o:List Int} {s t:Int} {L Hs:List Int} (hM:MWf mtI m c) (he:∀ i,cl o i = getO m i) (hr:∀ o i t,cl o i = some t→0 ≤ i∧i < 16∧0 ≤ t∧t < 18446744073709551616):m.any (blkE o s t L Hs) = blockedF cl o s t L Hs:=by
 apply Bool.eq_iff_iff.2
 unfold blockedF
 rw [List.any_eq_true,List.any_eq_true]
 constructor
 ·rintro ⟨e,hem,hb⟩
  obtain ⟨z,hz⟩:=key_one hM hem
  have hg:=getO_mem hM hem hz
  have hc:=(he z).trans hg
  obtain ⟨z0,z1,_⟩:=hr _ _ _ hc
  refine ⟨z.toNat,List.mem_range.2 (by omega),?_⟩
  rw [Int.toNat_of_nonneg z0,hc]
  unfold blkE at hb
  rw [hz] at hb
  exact hb
 ·rintro ⟨i,hi,hb⟩
  cases hc:cl o i with
  | none=>rw [hc] at hb; cases hb
  | some tt =>
   rw [hc] at hb
   obtain ⟨e,hem,hk,hv⟩:=getO_some ((he i).symm.trans hc)
   refine ⟨e,hem,?_⟩
   unfold blkE
   rw [hk,hv]
   exact hb
theorem cl_upd_iter {h:Hp} {v:Value} {cl:Cl} {bi:Nat} {mo:Option Nat} {since st:Nat} {seen:Array Nat} {X:Obj} (hc:claimsAt h v cl) (hb:h bi = some (.mapIter mo since seen st)):claimsAt (Hp.upd h bi X) v cl:=by
 have hne:∀ {b:Nat} {mt:MT} {l:List ME} {c:Nat},MapH h b mt l c→b ≠ bi:=fun hm he=>by
  rw [he] at hm
  have:=hm.1.symm.trans hb
  simp [MT.obj] at this
 obtain ⟨b,l,c,e,hm,hi,hr⟩:=hc
 exact ⟨b,l,c,e,MapH_upd (hne hm) hm,fun x hx=>by
  obtain ⟨b',m,c',e1,e2,e3,e4⟩:=hi x hx
  exact ⟨b',m,c',e1,e2,MapH_upd (hne e3) e3,e4⟩,hr⟩
theorem any_next {m:List ME} {c:Nat} (hM:MWf mtI m c) {e:ME} (he:e ∈ m) {seen:List Nat} {p:ME→Bool}:((m.filter fun y=>(seen ++ [e.born]).contains y.born).any p) = ((m.filter fun y=>seen.contains y.born).any p || p e):=by
 apply Bool.eq_iff_iff.2
 rw [Bool.or_eq_true,List.any_eq_true,List.any_eq_true]
 constructor
 ·rintro ⟨y,hy,hp⟩
  rw [List.mem_filter] at hy
  obtain ⟨hy1,hy2⟩:=hy
  simp only [List.contains_eq_mem,List.mem_append,List.mem_singleton,decide_eq_true_eq] at hy2
  rcases hy2 with h | h
  ·exact .inl ⟨y,List.mem_filter.2 ⟨hy1,by simpa using h⟩,hp⟩
  ·right
   have:y = e:=by
    obtain ⟨i,hi⟩:=List.getElem?_of_mem hy1
    obtain ⟨j,hj⟩:=List.getElem?_of_mem he
    have hij:i = j:=born_get hM hi hj h
    rw [hij,hj] at hi
    exact (Option.some.inj hi).symm
   rw [← this]; exact hp
 ·rintro (⟨y,hy,hp⟩ | hp)
  ·rw [List.mem_filter] at hy
   exact ⟨y,List.mem_filter.2 ⟨hy.1,by have:=hy.2; simp only [List.contains_eq_mem,decide_eq_true_eq] at this; simp [this]⟩,hp⟩
  ·exact ⟨e,List.mem_filter.2 ⟨he,by simp⟩,hp⟩
where
 born_get {m:List ME} {c:Nat} (hM:MWf mtI m c) {i j:Nat} {x y:ME} (hi:m[i]? = some x) (hj:m[j]? = some y) (h:x.born = y.born):i = j:=by
  have hp:=List.pairwise_iff_getElem.1 hM.2
  obtain ⟨h1,e1⟩:=List.getElem?_eq_some_iff.1 hi
  obtain ⟨h2,e2⟩:=List.getElem?_eq_some_iff.1 hj
  rcases Nat.lt_trichotomy i j with hlt | heq | hlt
  ·have:=(hp i j h1 h2 hlt).1; rw [e1,e2] at this; omega
  ·exact heq
  ·have:=(hp j i h2 h1 hlt).1; rw [e1,e2] at this; omega
theorem iterLeft_eq {h:Hp} {it:Value} {bi b since st c:Nat} {seen:List Nat} {m:List ME} (hit:it = .pointer (some ⟨bi,0,none⟩)) (hb:h bi = some (.mapIter (some b) since seen.toArray st)) (hM:MapH h b mtI m c):iterLeft h it = (m.filter fun y=>!(seen.contains y.born)).length:=by
 subst hit
 unfold iterLeft
 simp only [hb,hM.1,MT.obj,List.toList_toArray,List.contains_toArray]
 rw [List.filter_map,List.length_map]
 rfl
theorem left_less {m:List ME} {e:ME} (he:e ∈ m) {seen:List Nat} (hn:¬ e.born ∈ seen):(m.filter fun y=>!((seen ++ [e.born]).contains y.born)).length < (m.filter fun y=>!(seen.contains y.born)).length:=by
 have h1:(m.filter fun y=>!((seen ++ [e.born]).contains y.born)) = ((m.filter fun y=>!(seen.contains y.born)).filter fun y=>!((seen ++ [e.born]).contains y.born)):=by
  rw [List.filter_filter]
  refine List.filter_congr fun y hy=>?_
  by_cases hs:y.born ∈ seen <;> simp [hs]
 rw [h1]
 refine List.length_filter_lt_length_iff_exists.2 ⟨e,List.mem_filter.2 ⟨he,by simp [hn]⟩,by simp⟩
section
variable {h0 H:Hp} {v it:Value} {o:List Int} {s t:Int} {L Hs:List Int} {cl:Cl}
theorem bl_start_none {bi:Nat} (hc:claimsAt h0 v cl) (hno:∀ i,cl o i = none) (hle:Hp.le h0 H) (hit:it = .pointer (some ⟨bi,0,none⟩)) (hb:H bi = some (.mapIter none 0 #[] 0)):blkI h0 H v it o s t L Hs false:=fun cl' h'=>by
 rw [cl_uniq hc h']
 exact ⟨cl_mono hc hle,[],[],⟨bi,none,0,0,hit,hb,.inl ⟨rfl,rfl⟩⟩,fun i=>by rw [hno]; rfl,rfl⟩
theorem bl_start_some {bi b c:Nat} {m:List ME} (hc:claimsAt h0 v cl) (hm:MapH h0 b mtI m c) (he:∀ i,cl o i = getO m i) (hle:Hp.le h0 H) (hit:it = .pointer (some ⟨bi,0,none⟩)) (hb:H bi = some (.mapIter (some b) c #[] c)):blkI h0 H v it o s t L Hs false:=fun cl' h'=>by
 rw [cl_uniq hc h']
 have hmH:=MapH_mono hm hle
 have hne:bi ≠ b:=fun e=>by
  rw [e] at hb
  have:=hmH.1.symm.trans hb
  simp [MT.obj] at this
 refine ⟨cl_mono hc hle,m,[],⟨bi,some b,c,c,hit,hb,.inr ⟨b,c,rfl,hne,hmH,Nat.le_refl _,.inl rfl,fun n hn=>by cases hn⟩⟩,he,?_⟩
 have:(m.filter fun e=>([]:List Nat).contains e.born) = []:=by simp
 rw [this]; rfl
theorem bl_next {bi b since st c:Nat} {m:List ME} {seen:List Nat} {e:ME} {x y:Bool} (hc:claimsAt h0 v cl) (hcH:claimsAt H v cl) (hit:it = .pointer (some ⟨bi,0,none⟩)) (hb:H bi = some (.mapIter (some b) since seen.toArray st)) (hne:bi ≠ b) (hm:MapH H b mtI m c) (hcs:c ≤ since) (hseen:∀ n ∈ seen,∃ e ∈ m,e.born = n)
  (he:∀ i,cl o i = getO m i) (hem:e ∈ m) (hx:x = (m.filter fun e=>seen.contains e.born).any (blkE o s t L Hs)) (hy:y = (x || blkE o s t L Hs e)):blkI h0 (Hp.upd H bi (.mapIter (some b) since (seen ++ [e.born]).toArray c)) v it o s t L Hs y:=fun cl' h'=>by
 rw [cl_uniq hc h']
 refine ⟨cl_upd_iter hcH hb,m,seen ++ [e.born],⟨bi,some b,since,c,hit,upd_eq,.inr ⟨b,c,rfl,hne,MapH_upd (Ne.symm hne) hm,hcs,.inr (.inr ⟨e,hem,(hm.2.1 e hem).2.2⟩),fun n hn=>?_⟩⟩,he,?_⟩
 ·rcases List.mem_append.1 hn with h | h
  ·exact hseen n h
  ·rw [List.mem_singleton] at h; exact ⟨e,hem,h.symm⟩
 ·rw [any_next hm.2 hem,← hx,hy]
theorem bl_end {since c:Nat} {m:List ME} {seen:List Nat} {x:Bool} (hM:MWf mtI m c) (hc:claimsAt h0 v cl) (hcH:claimsAt H v cl) (hcs:c ≤ since) (he:∀ i,cl o i = getO m i) (hx:x = (m.filter fun e=>seen.contains e.born).any (blkE o s t L Hs)) (hall:∀ e ∈ m,e.born < since→e.born ∈ seen) :
  ∀ cl',claimsAt h0 v cl'→claimsAt H v cl'∧x = blockedF cl' o s t L Hs:=fun cl' h'=>by
 rw [cl_uniq hc h']
 refine ⟨hcH,?_⟩
 have hf:(m.filter fun e=>seen.contains e.born) = m:=List.filter_eq_self.2 fun e hem=>by
  have:=hall e hem (by have:=(hM.1 e hem).2.2; omega)
  simpa using this
 obtain ⟨b,l,c0,rfl,_,_,_,_,hr⟩:=hc
 rw [hf] at hx
 rw [hx]; exact blockedF_any hM he hr
end
end Go.Proofs

set_option linter.unusedSimpArgs false
set_option linter.unusedVariables false
namespace Go.Proofs
open Go Go.Eng
set_option maxRecDepth 20000
theorem newCl_ok:newClC.ok Tryz.prog:=newCl_of (by simp) fun ρ hg hp=>by
 simp (config:={ maxSteps:=4000000 }) [o_newCl,newClC]
 intro u _ v _ b hv hu
 exact ⟨b,[],0,hv,⟨by rw [hu]; simp [Hp.one,MT.obj],fun x hx=>(by cases hx),List.Pairwise.nil⟩,fun x hx=>(by cases hx),fun x hx=>(by cases hx),fun _ _ _=>rfl,fun _ _ _ h=>(by cases h)⟩
theorem cur_ok:curC.ok Tryz.prog:=cur_of (by simp) fun ρ hg hp=>by
 obtain ⟨h0,h1,h2,h3⟩:=hp
 simp (config:={ maxSteps:=4000000 }) [o_cur,curC]
 have hu:(ρ 0).i ≤ (ρ 1).i→arithOf .sub .u64 (ρ 1).i (ρ 0).i = (ρ 1).i - (ρ 0).i:=fun h=>by
  show IntKind.wrap .u64 _ = _
  rw [wrap64u]; omega
 refine ⟨fun h=>?_,fun h=>?_⟩
 ·rw [hu h]; unfold curF; rw [decide_eq_true h,Bool.true_and]; rfl
 ·unfold curF; rw [decide_eq_false (by omega),Bool.false_and]
theorem fold_row (d:Rows'):[cellX d 0,cellX d 1,cellX d 2,cellX d 3,cellX d 4,cellX d 5,cellX d 6,cellX d 7,cellX d 8,cellX d 9,cellX d 10,cellX d 11,cellX d 12,cellX d 13,cellX d 14,cellX d 15,cellX d 16,cellX d 17,cellX d 18,cellX d 19,cellX d 20,cellX d 21,cellX d 22,cellX d 23,cellX d 24,cellX d 25,cellX d 26,cellX d 27,cellX d 28,cellX d 29,cellX d 30,cellX d 31] = rowL d 32:=rfl
theorem fold_mtO:(⟨true,[.u8,.u8,.u8,.u8,.u8,.u8,.u8,.u8,.u8,.u8,.u8,.u8,.u8,.u8,.u8,.u8,.u8,.u8,.u8,.u8,.u8,.u8,.u8,.u8,.u8,.u8,.u8,.u8,.u8,.u8,.u8,.u8],false,[.any],[.vnilm]⟩:MT) = mtO:=rfl
theorem fold_mtI:(⟨false,[.i64],false,[.int .u64],[.vint .u64 (.lit 0)]⟩:MT) = mtI:=rfl
theorem zeroO (ρ:Env):List.map (fun t=>(T.den ρ t).v) mtO.zero = [.map none]:=rfl
theorem zeroI (ρ:Env):List.map (fun t=>(T.den ρ t).v) mtI.zero = [.int .u64 0]:=rfl
theorem cellV_one (row:List Value):cellV [row] 0 0 = row.headD .nilFunc:=by cases row <;> rfl
theorem getM_has {l:List ME} {k:List Int} {z:List Value} (h:hasM l k = true):∃ x ∈ l,x.k = k∧getM l k z = x.v:=by
 obtain ⟨j,x,hj,hk,_,hg⟩:=findM_some (mt:=mtO) (i:=0) h
 exact ⟨x,List.mem_of_getElem? hj,hk,hg z⟩
theorem noteF_no {cl:Cl} {o:List Int} {i t:Int} (h:peerIs i = false):noteF cl o i t = cl:=by
 unfold noteF
 rw [if_neg (of_decide_eq_false h)]
theorem getM_put {l:List ME} {k:List Int} {v z:List Value} {c:Nat} (h:hasM l k = false):getM (putM l k v c).1 k z = v:=by
 have hn:=hasM_not h
 unfold putM
 rw [if_neg (by rw [h]; simp)]
 unfold getM
 simp only
 rw [List.find?_append]
 have:l.find? (fun x=>x.k == k) = none:=by
  rw [List.find?_eq_none]
  intro x hx hk
  exact hn x hx (by simpa using hk)
 rw [this]; simp
theorem star_leM {ρ:Env} {l:List SH} {H:Hp} (n t:Nat) (hs:star ρ l H) (hm:SH.abs n t ∈ l):Hp.le (ρ n).h H:=by
 obtain ⟨hb,lb,db⟩:=star_mem_abs hs hm
 exact Hp.le_trans db lb
theorem star_apart {ρ:Env} {n m t t':Nat} {H:Hp} (hs:star ρ [SH.abs n t,SH.abs m t'] H):Hp.disj (ρ n).h (ρ m).h:=by
 obtain ⟨h1,h2,hd,hu,hx,h3,h4,hd2,hu2,hy,_⟩:=hs
 intro b
 cases hb1:(ρ n).h b with
 | none=>exact .inl rfl
 | some X =>
  cases hb2:(ρ m).h b with
  | none=>exact .inr rfl
  | some Y =>
   have e1:=hx.1 b X hb1
   have e2:=hy.1 b Y hb2
   have e3:h2 b = some Y:=by rw [hu2]; simp [Hp.union,e2]
   rcases hd b with h | h
   ·rw [e1] at h; cases h
   ·rw [e3] at h; cases h
theorem fit_map {b:Nat}:fitsRow mtO.vpat [.map (some b)]:=⟨rfl,fun c k v hk hv=>by
 cases c with
 | zero=>simp only [mtO,List.getElem?_cons_zero,Option.some.injEq] at hk hv; subst hk hv; rfl
 | succ c=>simp [mtO] at hk⟩
theorem note_ok:noteC.ok Tryz.prog:=note_of (by simp [peer_ok]) fun ρ hg hp=>by
 obtain ⟨⟨cl,hcl⟩,h0,h1⟩:=hp
 have hcl0:=hcl
 simp (config:={ maxSteps:=4000000 }) [o_note,noteC,peerC,fold_row,fold_mtO,fold_mtI,cellV_one,denVs,zeroO,zeroI]
 obtain ⟨b,l,c,hv,hm,hi,hd,hn,hr⟩:=hcl
 intro u _ p _ hp
 refine ⟨fun hpf cl' h'=>by rw [noteF_no (hp ▸ hpf)]; exact h',fun hpt=>⟨l,.inr ⟨b,hv,c,hm⟩,?_⟩⟩
 have hpp:0 ≤ (ρ 2).i∧(ρ 2).i < 16:=of_decide_eq_true (hp ▸ hpt:peerIs (ρ 2).i = true)
 cases hh:hasM l (rowL (ρ 1).d 32) with
 | false =>
  refine .inl ⟨by rw [getM_none hh]; rfl,fun m _ v _ b' hvv hmh H _ hst=>?_⟩
  obtain ⟨hA,lA,dA⟩:=star_mem_abs hst (n:=10) (t:=1003) (by simp)
  obtain ⟨hB,lB,dB⟩:=star_mem_abs hst (n:=5) (t:=1003) (by simp)
  have hle:Hp.le (ρ 5).h H.h:=by
   have h:=star_leM 5 1003 hst (by simp)
   simpa using h
  have hone:H.h b' = some (.map #[] 0):=by
   have h:=star_leM 10 1003 hst (by simp)
   have h:Hp.le m.h H.h:=by simpa using h
   exact h b' _ (by rw [hmh]; simp [Hp.one])
  have hnew:∀ X,(ρ 5).h b' = some X→False:=by
   intro X hX
   have h:=star_apart hst
   have h:Hp.disj m.h (ρ 5).h:=by simpa using h
   rcases h b' with h | h
   ·rw [hmh] at h; simp [Hp.one] at h
   ·rw [hX] at h; cases h
  have hbb:b' ≠ b:=fun he=>hnew _ (by rw [he]; exact hm.1)
  have hfree:∀ x ∈ l,x.v ≠ [.map (some b')]:=fun x hx he=>by
   obtain ⟨b3,m3,c3,f1,f2,f3,f4⟩:=hi x hx
   rw [he] at f1
   simp only [List.cons.injEq,Value.map.injEq,Option.some.injEq,and_true] at f1
   exact hnew _ (by rw [f1]; exact f3.1)
  have hmH:=MapH_mono hm hle
  have hiH:∀ x ∈ l,∃ b' m c',x.v = [.map (some b')]∧b' ≠ b∧MapH H.h b' mtI m c'∧∀ i,cl x.k i = getO m i:=fun x hx=>by
   obtain ⟨b3,m3,c3,f1,f2,f3,f4⟩:=hi x hx
   exact ⟨b3,m3,c3,f1,f2,MapH_mono f3 hle,f4⟩
  have hput:=getM_put (z:=[.map none]) (v:=[v.v]) (c:=c) hh
  have hfit:fitsRow mtO.vpat [v.v]:=by rw [hvv]; exact fit_map
  refine ⟨b,hv,l,c,hmH,fun u4 _ h4=>⟨(putM l (rowL (ρ 1).d 32) [v.v] c).1,.inr ⟨b,hv,(putM l (rowL (ρ 1).d 32) [v.v] c).2,⟨by rw [h4]; exact upd_eq,putM_wf hm.2 (by simp [rowL,mtO]) hfit⟩⟩,b',by rw [hput,hvv]; rfl,[],0,⟨by rw [h4,upd_ne hbb,hone]; rfl,fun x hx=>(by cases hx),List.Pairwise.nil⟩,fun u5 _ h5 cl' h'=>?_⟩⟩
  rw [cl_uniq hcl0 h',h5,hv,h4,hvv]
  exact note_new hmH hiH hd hn hr hh (by simp [rowL]) hbb hfree hpp.1 hpp.2 h0 h1
 | true =>
  obtain ⟨x,hx,hk,hgx⟩:=getM_has (z:=[.map none]) hh
  obtain ⟨b',m,c',e1,e2,e3,e4⟩:=hi x hx
  refine .inr ⟨⟨b',by rw [hgx,e1]; rfl⟩,l,.inr ⟨b,hv,c,hm⟩,b',by rw [hgx,e1]; rfl,m,c',e3,fun u5 _ h5 cl' h'=>?_⟩
  rw [cl_uniq hcl0 h',h5,hv,← hk]
  exact note_old hm hi hd hn hr hx e1 e3 hpp.1 hpp.2 h0 h1
theorem blocked_ok:blockedC.ok Tryz.prog:=blocked_of (by simp [set_ok,cur_ok,better_ok]) fun ρ hg hp=>by
 obtain ⟨⟨cl,hcl⟩,hO,⟨hl,h1,hr⟩,⟨hl2,h12,hr2⟩,⟨hGr,hGd⟩,t0,t1⟩:=hp
 simp only [Nat.reduceAdd] at hl h1 hr hl2 h12 hr2
 have hcl0:=hcl
 simp (config:={ maxSteps:=4000000 }) [o_blocked,blockedC,blockedI,setC,curC,betterC,iHpA,intsIn,gOk,fold_row,fold_mtO,fold_mtI,cellV_one,denVs,zeroO,zeroI,hl,hl2,hO,hGr,hGd]
 obtain ⟨b,l,c,hv,hm,hi,hd,hn,hrr⟩:=hcl
 repeat' (first | with_reducible apply And.intro | with_reducible intro _)
 all_goals first
  | omega
  | exact rows_in (by assumption) (by assumption)
  | skip
 refine ⟨l,.inr ⟨b,hv,c,hm⟩,?_⟩
 have hstart:∃ (mo:Option Nat) (clock:Nat),((getM l (rowL (ρ 1).d 32) [Value.map none]).head?.getD .nilFunc = .map none∧mo = none∧clock = 0∨∃ b:Nat,(getM l (rowL (ρ 1).d 32) [Value.map none]).head?.getD .nilFunc = .map (some b)∧mo = some b∧∃ l,MapH (ρ 5).h b mtI l clock)∧∀ (H:Hp) (bi:Nat) (it:Value),Hp.le (ρ 5).h H→it = .pointer (some ⟨bi,0,none⟩)→H bi = some (.mapIter mo clock #[] clock)→blkI (ρ 5).h H (ρ 4).v it (rowL (ρ 1).d 32) (ρ 2).i (ρ 3).i (ints (ρ 9).d) (ints (ρ 14).d) false:=by
  cases hh:hasM l (rowL (ρ 1).d 32) with
  | false =>
   have hg0:=getM_none (z:=[.map none]) hh
   exact ⟨none,0,.inl ⟨by rw [hg0]; rfl,rfl,rfl⟩,fun H bi it hle hit hb=>bl_start_none hcl0 (fun i=>hn _ _ (hasM_not hh)) hle hit hb⟩
  | true =>
   obtain ⟨x,hx,hk,hgx⟩:=getM_has (z:=[.map none]) hh
   obtain ⟨b',m,c',e1,e2,e3,e4⟩:=hi x hx
   exact ⟨some b',c',.inr ⟨b',by rw [hgx,e1]; rfl,rfl,m,e3⟩,fun H bi it hle hit hb=>bl_start_some hcl0 e3 (fun i=>by rw [← hk]; exact e4 i) hle hit hb⟩
 obtain ⟨mo,clock,hmo,hst0⟩:=hstart
 refine ⟨mo,clock,hmo,?_⟩
 intro I1 _ I2 _ bi hit hI1 H _ hst
 have hle:Hp.le I1.h H.h∧Hp.le (ρ 5).h H.h:=by
  have h1:=star_leM 54 1003 hst (by simp)
  have h2:=star_leM 5 1003 hst (by simp)
  exact ⟨by simpa using h1,by simpa using h2⟩
 have hbi:H.h bi = some (.mapIter mo clock #[] clock):=hle.1 _ _ (by rw [hI1]; simp [Hp.one])
 refine ⟨⟨seen_bools (l:=[_,_,_,_,_,_,_,_,_,_,_,_,_,_,_,_]) (by assumption) ints_len',seen_bools (l:=[_,_,_,_,_,_,_,_,_,_,_,_,_,_,_,_]) (by assumption) ints_len',hst0 H.h bi I2.v hle.2 hit hbi⟩,?_⟩
 intro F13 _ F14 _ x _ it _ H2 _ hs13 hs14 hB
 obtain ⟨hcH,m,seen,⟨bi2,mo2,since,stp,hit2,hbi2,hmo2⟩,hco,hx⟩:=hB cl hcl0
 refine ⟨bi2,hit2,since,seen,stp,mo2,hbi2,?_⟩
 rcases hmo2 with ⟨rfl,rfl⟩ | ⟨b2,c2,rfl,hne,hM,hcs,hstt,hseen⟩
 ·exact bl_end (m:=[]) (c:=0) (since:=0) ⟨fun x hx=>(by cases hx),List.Pairwise.nil⟩ hcl0 hcH (Nat.le_refl _) hco hx (fun e he=>by cases he)
 ·refine ⟨m,c2,hM,hstt,fun hall=>bl_end hM.2 hcl0 hcH hcs hco hx hall,fun e he hns u2 _ hu2=>⟨bi2,hit2,since,seen,c2,b2,m,e,by rw [hu2]; exact upd_eq,by rw [hu2]; exact MapH_upd (Ne.symm hne) hM,he,?_⟩⟩
  have hbl:∀ y:Bool,y = (x.b || blkE (rowL (ρ 1).d 32) (ρ 2).i (ρ 3).i (ints (ρ 9).d) (ints (ρ 14).d) e)→blkI (ρ 5).h u2.h (ρ 4).v it.v (rowL (ρ 1).d 32) (ρ 2).i (ρ 3).i (ints (ρ 9).d) (ints (ρ 14).d) y:=fun y hy=>by
   rw [hu2]; exact bl_next hcl0 hcH hit2 hbi2 hne hM hcs hseen hco he hx hy
  have hless:iterLeft u2.h it.v < iterLeft H2.h it.v:=by
   rw [iterLeft_eq (h:=H2.h) hit2 hbi2 hM,iterLeft_eq (h:=u2.h) (seen:=seen ++ [e.born]) hit2 (by rw [hu2]; exact upd_eq) (by rw [hu2]; exact MapH_upd (Ne.symm hne) hM)]
   exact left_less he hns
  obtain ⟨z,hz⟩:=key_one hM.2 he
  have hg:=(hco z).trans (getO_mem hM.2 he hz)
  obtain ⟨z0,z1,v0,v1⟩:=hrr _ _ _ hg
  have hcv:cellX [e.v] 0 = vInt (e.v.headD .nilFunc):=by unfold cellX; cases e.v <;> rfl
  have hbe:∀ a b c d:Bool,a = curF (vInt (e.v.headD .nilFunc)) (ρ 3).i→b = decide (z ∈ ints (ρ 9).d)→c = decide (z ∈ ints (ρ 14).d)→d = betF (rowL (ρ 1).d 32) z (ρ 2).i→blkE (rowL (ρ 1).d 32) (ρ 2).i (ρ 3).i (ints (ρ 9).d) (ints (ρ 14).d) e = (a && b && !c && d):=by
   intro a b c d ha hb hc hd
   unfold blkE
   rw [hz,ha,hb,hc,hd,List.headD_cons]
  have hkx:cellX [kVals [IntKind.i64] e.k] 0 = z:=by rw [hz]; rfl
  have hkx':cellX [kVals mtI.kks e.k] 0 = z:=hkx
  rw [hcv,hkx']
  have hB:=fun (r:U) (hr':r.b = curF (vInt (e.v.headD .nilFunc)) (ρ 3).i)=>hbe r.b (decide (z ∈ ints (ρ 9).d)) (decide (z ∈ ints (ρ 14).d)) (betF (rowL (ρ 1).d 32) z (ρ 2).i) hr' rfl rfl rfl
  refine ⟨fun hxt=>⟨⟨hs13,hs14,hbl true (by rw [hxt,Bool.true_or])⟩,hless⟩,fun hxf=>⟨⟨v0,v1,t0,t1⟩,fun r _ hr'=>⟨fun hrt=>⟨z0,z1,seen_pos hs14,fun hf14=>⟨seen_pos hs13,fun hf13 w _ hw=>⟨⟨hs13,hs14,hbl w.b ?_⟩,hless⟩,fun hf13=>⟨⟨hs13,hs14,hbl false ?_⟩,hless⟩⟩,fun hf14=>⟨⟨hs13,hs14,hbl false ?_⟩,hless⟩⟩,fun hrf=>⟨⟨hs13,hs14,hbl false ?_⟩,hless⟩⟩⟩⟩
  ·rw [hxf,hB r hr',hrt,decide_eq_true ((seen_iff hs14 ints_len' z0 z1).1 hf14),decide_eq_false (seen_not hs13 ints_len' z0 z1 hf13),hw]; generalize betF (rowL (ρ 1).d 32) z (ρ 2).i = q; cases q <;> rfl
  ·rw [hxf,hB r hr',hrt,decide_eq_true ((seen_iff hs14 ints_len' z0 z1).1 hf14),decide_eq_true ((seen_iff hs13 ints_len' z0 z1).1 hf13)]; generalize betF (rowL (ρ 1).d 32) z (ρ 2).i = q; cases q <;> rfl
  ·rw [hxf,hB r hr',hrt,decide_eq_false (seen_not hs14 ints_len' z0 z1 hf14)]; generalize betF (rowL (ρ 1).d 32) z (ρ 2).i = q; cases q <;> rfl
  ·rw [hxf,hB r hr',hrf]; generalize betF (rowL (ρ 1).d 32) z (ρ 2).i = q; cases q <;> simp
end Go.Proofs

set_option linter.unusedSimpArgs false
set_option linter.unusedVariables false
namespace Go.Eng
open Go Go.Proofs
structure ManV where
 k:Int
 n:Int
 t:Int
 s:Int
 o:List Int
 D:List (List Int)
def ManV.ok (m:ManV):Bool:=manOk m.k m.n m.t m.s m.D.length
def ManV.bytes (m:ManV):List Int:=manHead m.k m.n m.t m.s m.o ++ m.D.flatten
abbrev PcL:=List (Int × List Int)
def mdHp (m d c:Nat):SH:=.arr m 27 kMan (.var d) (.var c)
def gaHp (g o m p l q:Nat):SH:=.cells g 165 (cellsT .u8 o 32 ++ [.vptr m (.lit 0) 37 0,.vslice p (.lit 0) (.var l) (.var q) 2])
def gaP (g:Nat):SV:=.one (.vptr g (.lit 0) 34 0)
def gaAll (b tag:Nat):List SH:=[gaHp b (b + 1) (b + 2) (b + 5) (b + 6) (b + 7),mdHp (b + 2) (b + 3) (b + 4),pcHp (b + 5) (b + 8) (b + 7),.abs (b + 9) tag]
def manRow (h:Hp) (d:Rows') (m:ManV):Prop:=∃ row D,d = [row]∧fitsRow kMan row∧Rd h k32 (row[36]?.getD .nilFunc) D∧dgsOk D∧dgs D = m.D∧rowI row 0 = m.k∧rowI row 1 = m.n∧rowI row 2 = m.t∧rowI row 3 = m.s∧((List.range 32).map fun j=>rowI row (4 + j)) = m.o∧allM m.o∧m.ok = true
def pcsIs (h:Hp) (P:Rows') (L:PcL):Prop:=P.length = L.length∧pcOk h P P.length∧∀ j,j < P.length→(pcI P j,pcD h P j) = L.getD j (0,[])
def gaIs (h:Hp) (r:Option Addr) (d:Rows') (c n:Int) (P:Rows') (M:Option ManV) (L:PcL):Prop:=n = P.length∧pcsIs h P L∧(∀ x ∈ L,(x.2.length:Int) ≤ 9000)∧L.length ≤ 255∧((M = none∧r = none∧c = 0∧d = []∧L = [])∨∃ m,M = some m∧c = 1∧manRow h d m∧L ≠ [])
def readyF (M:Option ManV) (L:PcL):Bool:=match M with
 | some m=>decide (m.k ≤ L.length)
 | none=>false
def gaB (ρ:Env) (b:Nat) (M:Option ManV) (L:PcL):Prop:=gaIs (ρ (b + 9)).h (ρ (b + 2)).r (ρ (b + 3)).d (ρ (b + 4)).i (ρ (b + 6)).i (ρ (b + 8)).d M L
def newGaC:Ctr:={ fn := 45,nv:=1,args:=[dgV 0],heap:=[],ro:=[],pre:=fun _=>True,alts:=[
 { k:=1,ret:=gaP 1,heap:=[.cells 1 165 (cellsT .u8 0 32 ++ [.vnilp,.vnils])],post:=fun _=>True }] }
def readyC:Ctr:={ fn := 47,nv:=10,args:=[gaP 0],heap:=[],ro:=gaAll 0 20,pre:=fun ρ=>∃ M L,gaB ρ 0 M L,alts:=[
 { k:=1,ret:=.one (.vbool (.var 10)),heap:=[],post:=fun ρ=>∀ M L,gaB ρ 0 M L→(ρ 10).b = readyF M L }] }
def indsC:Ctr:={ fn := 55,nv:=10,args:=[gaP 0],heap:=[],ro:=gaAll 0 20,pre:=fun ρ=>∃ M L,gaB ρ 0 M L,alts:=[
 { k:=4,ret:=.one (.vslice 10 (.lit 0) (.var 11) (.var 12) 1),heap:=[iHp 10 13 12],post:=fun ρ=>∀ M L,gaB ρ 0 M L→isInts (ρ 13).d (ρ 11).i (L.map Prod.fst) }] }
def indsI:Inv:={ key:=5,nv:=5,env:=[(3,.one (.vslice 1000 (.lit 0) (.var 1001) (.var 1002) 1)),(12,pcS 5 6 7),(13,iv .i64 (.var 6)),(14,iv .i64 (.var 1004))],heap:=[iHp 1000 1003 1002],inv:=(fun ρ=>0 ≤ (ρ 1004).i∧(ρ 1004).i ≤ (ρ 6).i∧isInts (ρ 1003).d (ρ 1001).i (idxL (ρ 8).d (ρ 1004).i.toNat)),mu:=(fun ρ=>((ρ 6).i - (ρ 1004).i).toNat) }
def cloneDC:Ctr:={ fn := 90,nv:=5,args:=[.one (.vslice 0 (.lit 0) (.var 1) (.var 2) 32)],heap:=[],ro:=[dgsHp 0 3 4],pre:=fun ρ=>0 ≤ (ρ 1).i∧(ρ 1).i = (ρ 3).d.length∧(ρ 1).i ≤ 4398046510976,alts:=[
 { k:=3,ret:=.one (.vslice 5 (.lit 0) (.var 1) (.var 6) 32),heap:=[dgsHp 5 7 6],post:=fun ρ=>(ρ 7).d = (ρ 3).d }] }
def offE (o:List Int) (M:Option ManV) (L:PcL) (m:ManV) (i:Int) (b:List Int):Int :=
 if m.ok = false then 2 else if sha m.bytes ≠ o then 20 else if chkE m.k m.n m.t m.s m.D.length m.D i b ≠ 0 then chkE m.k m.n m.t m.s m.D.length m.D i b else if i ∈ L.map Prod.fst then 7 else if readyF M L then 8 else 0
def argM (ρ:Env) (r:Nat):ManV:=⟨(ρ r).i,(ρ (r + 1)).i,(ρ (r + 2)).i,(ρ (r + 3)).i,rowL (ρ (r + 4)).d 32,dgs (ρ (r + 8)).d⟩
def offPre (ρ:Env):Prop:=(∃ M L,gaB ρ 0 M L)∧allM (rowL (ρ 1).d 32)∧manIn ρ 10∧i64P (ρ 20).i∧pieceArgIn ρ 20∧(ρ 22).i ≤ 9000
def offerC:Ctr:={ fn := 48,nv:=28,ip:=[gIp 26,(1002,9)],args:=[gaP 0,manAt 10,pieceArg 20],heap:=gaAll 0 20,ro:=[dgsHp 15 18 19,pieceHp 20,gHp 26 27],pre:=fun ρ=>offPre ρ∧gOk ρ 26 27 gR,alts:=[
 { k:=9,ret:=iv .i64 (.var 36),heap:=[gaHp 0 1 28 31 32 33,mdHp 28 29 30,pcHp 31 34 33,.abs 35 20],post:=fun ρ=>∀ M L,gaB ρ 0 M L→(ρ 36).i = offE (rowL (ρ 1).d 32) M L (argM ρ 10) (ρ 20).i (bI (ρ 24).d)∧gaIs (ρ 35).h (ρ 28).r (ρ 29).d (ρ 30).i (ρ 32).i (ρ 34).d (if (ρ 36).i = 0 then some (argM ρ 10) else M) (if (ρ 36).i = 0 then L ++ [((ρ 20).i,bI (ρ 24).d)] else L) }] }
end Go.Eng
