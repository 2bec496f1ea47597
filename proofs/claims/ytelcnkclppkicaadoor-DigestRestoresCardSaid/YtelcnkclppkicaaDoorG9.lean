/- Texts WQ, CY, E13, E14, FD, FE, FF, FG, FH, FI, FJ. -/
import Derived.Test.YtelcnkclppkicaaDoorG8
import Derived.Test.YtelcnkclppkicaaDoorG6
import Derived.Test.YtelcnkclppkicaaDoorG7
import Derived.Test.YtelcnkclppkicaaDoorG4
import Derived.WalkKit
import Derived.ProofKit
import Derived.OpenShut
import Derived.Carry
import Derived.SizedLaws
import Derived.Test.YtelcnkclppkicaaDoorProg
set_option linter.unusedSimpArgs false
set_option linter.unusedVariables false
namespace Go.Proofs
open Go Go.Eng
set_option maxRecDepth 100000
theorem grow98_ok:grow98C.ok Tryd.prog:=grow98_of (by simp) fun ρ hg hp=>by
 obtain ⟨n0,n1⟩:=hp
 simp (config:={ maxSteps:=4000000 }) [o_grow98,grow98C]
 rw [sub64 (by omega) (by omega)]
 exact ⟨n0,fun _=>⟨fun _=>⟨by omega,by omega,fun u _ h=>⟨by omega,allB_rep⟩⟩,fun _ r hr=>(by cases hr)⟩⟩
theorem concat92_ok:concat92C.ok Tryd.prog:=concat92_of (by simp [grow98_ok]) fun ρ hg hp=>by
 obtain ⟨n0,n1,nd,hr1,hcol⟩:=hp
 simp (config:={ maxSteps:=4000000 }) [o_concat92,concat92C,concat92I,concat92J,grow98C]
 have hle:∀ i:Nat,(i:Int) ≤ (ρ 1).i→(catN (colF (ρ 5).h (ρ 3).d) i).length ≤ i * 9000:=fun i hi=>catN_le fun j hj=>(hcol j (by omega)).2
 have hat:∀ i:Int,0 ≤ i→i < (ρ 1).i→∃ d,Rd (ρ 5).h kB (cellV (ρ 3).d i 0) d∧allB d∧colF (ρ 5).h (ρ 3).d i.toNat = bI d∧d.length ≤ 9000:=fun i i0 i1=>by
  obtain ⟨d,h1,h2,h3⟩:=col_at (hcol i.toNat (by omega)).1 i0
  refine ⟨d,h1,h2,h3,?_⟩
  have:=(hcol i.toNat (by omega)).2
  rwa [h3,bI_len] at this
 have hnext:∀ i:Int,0 ≤ i→catN (colF (ρ 5).h (ρ 3).d) (i + 1).toNat = catN (colF (ρ 5).h (ρ 3).d) i.toNat ++ colF (ρ 5).h (ρ 3).d i.toNat:=fun i i0=>by
  rw [show (i + 1).toNat = i.toNat + 1 by omega]; rfl
 refine ⟨n0,⟨n0,rfl⟩,fun i _ t _ i0 i1 ht=>⟨fun hi=>?_,fun hi=>?_⟩⟩
 ·obtain ⟨d,h1,h2,h3,h4⟩:=hat i.i i0 hi
  have h5:=hle i.i.toNat (by omega)
  have e1:arithOf .add .i64 t.i (d.length:Int) = t.i + d.length:=add64 (by omega) (by omega)
  have e2:arithOf .add .i64 i.i 1 = i.i + 1:=add64 (by omega) (by omega)
  refine ⟨i0,by omega,d,h1,?_⟩
  rw [e1,e2]
  exact ⟨by omega,fun _=>⟨⟨by omega,by omega,by rw [hnext _ i0,List.length_append,h3,bI_len]; omega⟩,by omega⟩⟩
 ·have h5:=hle i.i.toNat (by omega)
  refine ⟨⟨by omega,by omega⟩,fun u _ hGB=>⟨⟨n0,rfl,fun r hr=>(by cases hr),rfl,hGB⟩,fun l _ D _ j _ j0 j1 hl hlD hB hb hBB=>⟨fun hj=>?_,fun hj=>?_⟩⟩⟩
  ·obtain ⟨d,h1,h2,h3,h4⟩:=hat j.i j0 hj
   have h6:=hle j.i.toNat (by omega)
   have hmin:min l.i.toNat D.d.length = l.i.toNat:=Nat.min_eq_left (by omega)
   rw [hmin]
   have e2:arithOf .add .i64 j.i 1 = j.i + 1:=add64 (by omega) (by omega)
   rw [e2]
   have htk:(D.d.take l.i.toNat ++ d).take (l.i + (d.length:Int)).toNat = D.d.take l.i.toNat ++ d:=List.take_of_length_le (by rw [List.length_append,List.length_take,hmin]; omega)
   refine ⟨j0,by omega,d,h1,?_⟩
   rw [htk]
   exact ⟨by omega,by omega,⟨by omega,by omega,by rw [hnext _ j0,List.length_append,h3,bI_len]; omega,by omega,allB_app hB h2,by rw [bI_app,hb,hnext _ j0,h3],allB_app hB h2⟩,by omega⟩
  ·have he:j.i = (ρ 1).i:=by omega
   rw [he] at hl hb
   exact ⟨hl,hlD,hB,hb,hBB⟩
theorem dec_len {h:Hp} {D:Rows'} {k total n size:Int} (hp:pcPre h D n) (hd:decK h D k total size n) (h0:0 ≤ size):size.toNat ≤ k.toNat * pcN h D 0∧pcN h D 0 ≤ 8192∧1 ≤ k∧k ≤ 255:=by
 obtain ⟨P,hl⟩:=pcInD hp hd
 have h1:=P.k1
 have h2:=P.k2
 have h3:=P.k3
 have h8:=P.sol.2.2.2.2.2.1
 refine ⟨?_,h8,h1,by omega⟩
 rw [hl]
 exact pieceLen_ge (by omega)
theorem piece_pl {k size:Int} {a b:Int} (k1:1 ≤ k) (k2:k ≤ 255) (s0:0 ≤ size) (s1:size ≤ 8192) (h:¬ pieceBad k size→a = (size + k - 1).tdiv k∧b = 0):a = plI k size∧b = 0:=by
 obtain ⟨h1,h2⟩:=h (by unfold pieceBad; omega)
 refine ⟨?_,h2⟩
 have hd:=pieceLen_tdiv (k:=k) (n:=size.toNat) k1
 rw [Int.toNat_of_nonneg s0] at hd
 rw [h1,hd]; rfl
theorem decode69_ok:decode69C.ok Tryd.prog:=decode69_of (by simp [sizes74_ok,piece26_ok,check88_ok,solve89_ok,concat92_ok]) fun ρ hg hp=>by
 obtain ⟨hf,hpre⟩:=hp
 have hpre':=hpre
 obtain ⟨n0,n1,hpc⟩:=hpre'
 simp (config:={ maxSteps:=4000000 }) [o_decode69,decode69C,sizes74C,piece26C,check88C,chkOf,solve89C,genW,concat92C]
 refine ⟨fun h=>(field_some hf h).elim,fun _ b _ hb=>⟨fun h=>⟨hf,.inl ⟨.inl (by rw [← hb,h]),rfl⟩⟩,fun h=>⟨fun hi=>⟨hf,.inl ⟨.inr (.inl hi),rfl⟩⟩,fun s0=>⟨fun hi=>⟨hf,.inl ⟨.inr (.inr hi),rfl⟩⟩,fun s1 l _ e0 _ _ hl=>?_⟩⟩⟩⟩
 have hs:sizesB (ρ 2).i (ρ 3).i = true:=by rw [← hb,h]
 obtain ⟨k1,k2,k3⟩:=sizesB_iff.1 hs
 obtain ⟨hl,_⟩:=piece_pl k1 (by omega) s0 s1 hl
 rw [hl]
 refine ⟨⟨k3,n0,n1,hpc⟩,fun e _ he=>⟨fun hne=>⟨hf,.inr ⟨hs,s0,s1,he,hne⟩⟩,fun he0=>?_⟩⟩
 rw [he0] at he
 have hK:decK (ρ 10).h (ρ 8).d (ρ 2).i (ρ 3).i (ρ 4).i (ρ 6).i:=⟨hs,s0,s1,he⟩
 obtain ⟨P,hN⟩:=pcInD hpre hK
 obtain ⟨hd1,hd2,_,_⟩:=dec_len hpre hK s0
 refine ⟨⟨hf,P.sol⟩,fun _ _ _ _ f1 _ C _ H _ _ _ hf1 hCl hCr ht _ _=>?_⟩
 obtain ⟨c1,c2,c3⟩:=P.cat ht
 refine ⟨⟨by omega,by omega,by omega,hCr,fun j hj=>⟨(c1 j (by omega)).1,by rw [(c1 j (by omega)).2]; omega⟩⟩,fun m _ cp _ d _ hm hmd hB hb hBB hcp=>?_⟩
 rw [c2] at hm hb
 rw [c3] at hm
 have htk:(d.d.take (ρ 4).i.toNat) = (d.d.take m.i.toNat).take (ρ 4).i.toNat:=by rw [List.take_take,Nat.min_eq_left (by omega)]
 exact ⟨by omega,by omega,s0,by omega,hf1,hK,by omega,by rw [htk]; exact allB_take hB,by rw [htk,bI_take,hb],hBB⟩
end Go.Proofs

set_option linter.unusedSimpArgs false
set_option linter.unusedVariables false
namespace Go.Proofs
open Go Go.Eng
set_option maxRecDepth 20000
set_option maxHeartbeats 1000000 in
theorem chks_ok:chksC.ok Tryd.prog:=chks_of (by simp [checkP_ok]) fun ρ hg hp=>by
 obtain ⟨⟨⟨m0,m1,m2,m3,hl,hD⟩,⟨p0,p1,hpc⟩,hn,h9⟩,hGr,hGd⟩:=hp
 simp only [Nat.reduceAdd] at m0 m1 m2 m3 hl hD p0 p1 hpc hn h9
 simp (config:={ maxSteps:=4000000 }) [o_chks,chksC,chksI,chksAlts,checkPC,chkAlts,chkPre,pieceArgIn,gOk,manV,manT,cellsT,pieceArg,MK.sem,mF,hGr,hGd,hD,hl,m0,m3]
 intro u _ u1 _ v hv x hx hm
 refine ⟨p0,⟨p0,fun j hj=>by omega,seen_new hx hm⟩,?_⟩
 intro H _ M _ u4 _ i _ i0 i1 hall hseen
 refine ⟨fun hi=>⟨i0,by omega,fun u6 _=>?_⟩,fun hi=>⟨fun hk=>?_,fun hk=>?_⟩⟩
 ·obtain ⟨hj,hI,d,hr,hB,hDd⟩:=pc_atI hpc i0 hi
  have hdl:d.length ≤ 9000:=by
   have:=h9 i.i.toNat (by omega)
   rwa [hDd,bI_len] at this
  refine ⟨d,hr,fun r _ c _ hv hc=>⟨⟨hc,by omega,hB⟩,fun e _ he=>?_⟩⟩
  rw [hI,← hDd] at he
  refine ⟨fun hne=>chks_bad i0 hj hall he hne,fun h0=>?_⟩
  obtain ⟨b,l,ck,hM,hmap,ht,hs⟩:=hseen
  refine ⟨l,.inr ⟨b,hM,ck,hmap⟩,?_⟩
  have hz:∀ (ρ:Env) (b:Bool),denVs ρ [.vbool (.bl b)] = [.bool b]:=fun _ _=>rfl
  have hcx:∀ b:Bool,cellXB [[Value.bool b]] 0 = b:=fun _=>rfl
  rw [h0] at he
  simp only [hz,getM_true ht,hI,hcx]
  refine ⟨fun h7=>chks_twice i0 hj hall he.symm ((hs _).1 h7),fun hno=>⟨b,hM,l,ck,hmap,fun u' _ hu'=>?_⟩⟩
  rw [add64 (x:=i.i) (by omega) (by omega)]
  refine ⟨⟨by omega,by omega,chks_next i0 hall he.symm fun l' hl' h=>?_,?_⟩,by omega⟩
  ·rw [(hs _).2 ⟨l',hl',h⟩] at hno; cases hno
  ·rw [show (i.i + 1).toNat = i.i.toNat + 1 by omega]
   exact seen_put hM hmap ht hs rfl hu'
 ·exact chks_end (by omega) hall (.inl ⟨by omega,rfl⟩)
 ·exact chks_end (by omega) hall (.inr ⟨by omega,rfl⟩)
set_option maxHeartbeats 1000000 in
theorem reg_ok:regC.ok Tryd.prog:=reg_of (by simp [checkM_ok,chks_ok,rebuild71_ok,pieceDg_ok]) fun ρ hg hp=>by
 obtain ⟨hf,⟨m0,m1,m2,m3,hl,hD⟩,⟨⟨p0,p1,hpc⟩,hn,h9⟩,⟨hGr,hGd⟩,hx⟩:=hp
 simp only [Nat.reduceAdd] at m0 m1 m2 m3 hl hD p0 p1 hpc hn h9
 have hne:=field_some hf
 simp (config:={ maxSteps:=4000000 }) [o_reg,regC,checkMC,chksC,chksAlts,chksPre,manP,psP,rebuild71C,pieceDgC,pcPre,manV,manT,cellsT,gOk,mF,mChk,mOk,regD,hf,hne,hGr,hGd,hD,hl,m0,m1,m2,m3,hx,p0,p1,hpc]
 cases hM:manOk (ρ 2).i (ρ 3).i (ρ 4).i (ρ 5).i ((ρ 10).d.length:Int)
 ·intro u2 _ hu2
  simp only [Bool.false_eq_true,if_false] at hu2
  exact ⟨fun _=>by rw [hu2]; exact regS_man rfl,fun h=>by omega⟩
 ·intro u2 _ hu2
  simp only [if_true] at hu2
  refine ⟨fun h=>absurd hu2 h,fun _=>⟨fun hx=>regS_idx (.inl hx),fun x0=>⟨fun hx=>regS_idx (.inr hx),fun x1=>⟨⟨hn,h9⟩,fun u3 _ hC=>⟨fun hne=>regS_chk rfl x0 x1 hC hne,fun h0=>?_⟩⟩⟩⟩⟩
  rw [h0] at hC
  have hK:=chks_reb hC hM hn x0 x1
  obtain ⟨k1,k2,k3,k4,s0,s1,htl⟩:=manOk_iff.1 hM
  have hcz:=(chks_zero hC).2
  have h90:=h9 0 (by omega)
  have hrow:rowI8 (ρ 10).d (ρ 20).i = (dgs (ρ 10).d)[(ρ 20).i.toNat]?.getD []:=by rw [rowI8_dgs x0 (by omega),List.getD_eq_getElem?_getD]
  refine ⟨fun u4 _ u5 _ _ hE=>(reb_bad hK hE).elim,fun n' _ c _ f2 _ d _ hf2 _ hnd hdl hdB hdb=>⟨x0,by omega,fun hcap=>⟨⟨by omega,by omega,by unfold pcN at hdl; omega,by omega,hdB⟩,fun u10 _ hs=>?_⟩⟩⟩
  rw [hs,segB_all hnd,hdb,hrow]
  exact ⟨fun h=>⟨hf2,regS_sum rfl x0 x1 hC h⟩,fun h=>⟨hf2,regS_ok rfl x0 x1 hC h hnd hdB hdb⟩⟩
set_option maxHeartbeats 1000000 in
theorem asm_ok:asmC.ok Tryd.prog:=asm_of (by simp [checkM_ok,chks_ok,decode69_ok,sha256_ok]) fun ρ hg hp=>by
 obtain ⟨hf,⟨m0,m1,m2,m3,hl,hD⟩,hO,⟨⟨p0,p1,hpc⟩,hn,h9⟩,⟨hGr,hGd⟩⟩:=hp
 simp only [Nat.reduceAdd] at m0 m1 m2 m3 hl hD p0 p1 hpc hn h9
 have hne:=field_some hf
 simp (config:={ maxSteps:=4000000 }) [o_asm,asmC,checkMC,chksC,chksAlts,chksPre,manP,psP,decode69C,sha256C,bytesIn,pcPre,manV,manT,cellsT,gOk,mF,mChk,mOk,asmD,hf,hne,hGr,hGd,hD,hl,hO,m0,m1,m2,m3,p0,p1,hpc]
 cases hM:manOk (ρ 2).i (ρ 3).i (ρ 4).i (ρ 5).i ((ρ 10).d.length:Int)
 ·intro u2 _ hu2
  simp only [Bool.false_eq_true,if_false] at hu2
  exact ⟨fun hne=>asmS_e (by rw [hu2]; exact outR_man rfl) hne,fun h=>by omega⟩
 ·intro u2 _ hu2
  simp only [if_true] at hu2
  refine ⟨fun h=>absurd hu2 h,fun _=>⟨⟨hn,h9⟩,fun u3 _ hC=>⟨fun hne=>asmS_e (outR_chk rfl hC hne) hne,fun h0=>?_⟩⟩⟩
  rw [h0] at hC
  have hK:=chks_dec hC hM hn
  obtain ⟨k1,k2,k3,k4,s0,s1,htl⟩:=manOk_iff.1 hM
  refine ⟨fun u4 _ u5 _ _ hE=>(dec_bad hK hE).elim,fun f2 _ d _ c _ hf2 _ hsz hB hb hBB hcap=>⟨⟨s0,by omega,hsz,hBB⟩,fun u10 _ hs=>?_⟩⟩
  have hsg:segB d.d 0 (ρ 5).i = bI (d.d.take (ρ 5).i.toNat):=by rw [bI_take]; rfl
  rw [hs,hsg,hb]
  exact ⟨fun h=>⟨hf2,asmS_e (outR_sum rfl hC h) (by decide)⟩,fun h=>⟨hf2,asmS_ok (outR_ok rfl hC h) s0 hsz hBB hb⟩⟩
end Go.Proofs

set_option linter.unusedSimpArgs false
set_option linter.unusedVariables false
namespace Go.Eng
open Go Go.ChangeShapes Go.WideShapes Go.ChangeAt Go.RowKit

structure Grew (W w':World):Prop where
 os:w'.os = W.os
 out:w'.output = W.output
 blk:∀ (b:Nat) (o:Obj),W.heap[b]? = some o→w'.heap[b]? = some o

theorem Grew.block {W w':World} (h:Grew W w') {i:Nat} (hi:i < W.heap.size):w'.heap[i]? = W.heap[i]?:=by
 rw [Array.getElem?_eq_getElem hi]; exact h.blk i _ (Array.getElem?_eq_getElem hi)

theorem Grew.kept {W w':World} (h:Grew W w') (may:MemPlace→Prop):W.keptBut w' may:=by
 refine ⟨h.os,h.out,fun i hi=>?_⟩
 rw [h.block hi,Array.getElem?_eq_getElem hi]
 cases W.heap[i] <;> simp

theorem Grew.trodAll {H:Type} {enc:TypeId × Value→H} {P:Program} {W W':World} (hg:Grew W W') (hl:laidOutB P = true) {sp:Nat→Bool}:∀ {ts:List TypeId} {vs:List Value} {ds:List (DataW H)} {ps:List MemPlace},
  (∀ t ∈ ts,P.readableRec t = true∧t < P.types.size)→DataW.TrodAll enc P W 0 (fun _=>true) true ts vs ds ps→(∀ p ∈ ps,p.block < W.heap.size)→(∀ p ∈ ps,sp p.block = true) →
  DataW.TrodAll enc P W' 0 sp true ts vs ds ps
 | [],[],[],_,_,h,_,_=>h
 | _ :: _,_ :: _,_ :: _,_,hT,⟨p,q,h1,h2,e⟩,hlt,hs=>by
  subst e
  refine ⟨p,q,?_,Grew.trodAll hg hl (fun t ht=>hT t (List.mem_cons_of_mem _ ht)) h2 (fun x hx=>hlt x (List.mem_append_right _ hx)) (fun x hx=>hs x (List.mem_append_right _ hx)),rfl⟩
  have hr:=hT _ (List.mem_cons_self ..)
  refine WideElems.Trod_stays hl hr.1 hr.2 h1 (fun x hx=>?_) (fun x hx=>hs x (List.mem_append_left _ hx))
  have hb:=hg.block (hlt x (List.mem_append_left _ hx))
  cases x with
  | cell b o=>exact World.cell?_of_block (w:=W) hb
  | map b=>exact hb

theorem law_calls {P:Program} {c:Ctr} (hok:c.ok P) (hheap:c.heap = []) (halts:∀ al ∈ c.alts,al.ret = .one (.vbool (.bl true))) {ρ:Env} (hg:ρ.good) (W:World)
  (hro:∀ x ∈ c.ro,x.roden ρ (fun b=>W.heap[b]?)) (hpre:c.pre ρ) :
  Calls P c.fn (c.args.map (SV.den ρ)).toArray W fun e W'=>e = .returned (.bool true)∧Grew W W':=by
 have h:=hok.2 ρ W ⟨fun b=>W.heap[b]?,W.os,W.output⟩ Hp.emp hg (Hp.disj_emp _)
  ⟨fun b o hb=>by simpa [Hp.union,Hp.emp] using hb,rfl,rfl⟩ (by rw [hheap]; trivial) hro hpre
 refine h.mono fun e w' hq=>?_
 obtain ⟨ai,al,ρ',hal,_,_,rfl,_,hO,_,_,hsub,hwi⟩:=hq
 refine ⟨by rw [halts al (List.mem_of_getElem? hal)]; rfl,⟨hwi.1,hwi.2,fun b o hb=>hsub b o ?_⟩⟩
 simp [Hp.union,hb]

theorem law_post {H:Type} {enc:TypeId × Value→H} {P:Program} {f:Func} {s:ChangeSpec} {W W':World} {args:Array Value} {ds gs:List (DataW H)} {before:List MemPlace} {bt:TypeId}
  (hl:laidOutB P = true) (hT:∀ t ∈ f.params.toList,P.readableRec t = true∧t < P.types.size) (hvars:s.vars = []) (hrt:f.resultTypes = #[bt]) (hbt:P.underlying bt = some .bool)
  (hfn:∀ ds':List (DataW H),ds'.length = f.params.size→s.fn H ds' = { results:=[.lit (.bool true)],args:=ds' })
  (hW:DataW.Whole enc P f.params.toList s.vars false W args.toList ds gs before) (hg:Grew W W'):s.post enc P f false true false false W args (.bool true) W':=by
 have hlt:=hW.lt
 have hW0:=hW
 obtain ⟨p,q,hA,hV,hpq,hz,hn⟩:=hW
 rw [hvars] at hV
 obtain ⟨rfl,rfl⟩:=trodVars_none hV
 have hlen:ds.length = f.params.size:=by
  have:∀ {ts:List TypeId} {vs:List Value} {ds:List (DataW H)} {ps:List MemPlace},DataW.TrodAll enc P W 0 (fun _=>true) true ts vs ds ps→ds.length = ts.length:=by
   intro ts
   induction ts with
   | nil=>intro vs ds ps h; cases vs <;> cases ds <;> simp_all [DataW.TrodAll]
   | cons t ts ih =>
    intro vs ds ps h
    cases vs <;> cases ds <;> simp_all [DataW.TrodAll]
    obtain ⟨p,q,_,h2,_⟩:=h
    exact ih h2
  simpa using this hA
 have hlt':∀ x ∈ p,x.block < W.heap.size:=fun x hx=>hlt x (by rw [hpq]; exact List.mem_append_left _ hx)
 refine ⟨ds,[],before,[],p,[],hW0,?_,?_,?_,hg.kept _,fun h=>by cases h⟩
 ·rw [List.append_nil,hfn ds hlen,hrt]
  exact ⟨[],[],⟨1,by simp [DataW.trod,hbt,Value.cells]⟩,rfl,rfl⟩
 ·rw [List.append_nil,hfn ds hlen]
  exact hg.trodAll hl hT hA hlt' (fun x hx=>by simpa using hlt' x hx)
 ·rw [List.append_nil,hfn ds hlen,hvars]
  rfl

theorem law_call {H:Type} {enc:TypeId × Value→H} {P:Program} {f:Func} {s:ChangeSpec} {c:Ctr} {W:World} {args:Array Value} {ds gs:List (DataW H)} {before:List MemPlace} {bt:TypeId} {ρ:Env}
  (hok:c.ok P) (hheap:c.heap = []) (halts:∀ al ∈ c.alts,al.ret = .one (.vbool (.bl true)))
  (hl:laidOutB P = true) (hT:∀ t ∈ f.params.toList,P.readableRec t = true∧t < P.types.size) (hvars:s.vars = []) (hrt:f.resultTypes = #[bt]) (hbt:P.underlying bt = some .bool)
  (hfn:∀ ds':List (DataW H),ds'.length = f.params.size→s.fn H ds' = { results:=[.lit (.bool true)],args:=ds' })
  (hW:DataW.Whole enc P f.params.toList s.vars false W args.toList ds gs before)
  (hg:ρ.good) (hargs:args = (c.args.map (SV.den ρ)).toArray) (hro:∀ x ∈ c.ro,x.roden ρ (fun b=>W.heap[b]?)) (hpre:c.pre ρ) :
  Calls P c.fn args W fun e W'=>∃ v,e = .returned v∧s.post enc P f false true false false W args v W':=by
 rw [hargs]
 refine (law_calls hok hheap halts hg W hro hpre).mono fun e W' ⟨he,hgr⟩=>⟨_,he,?_⟩
 rw [← hargs]
 exact law_post hl hT hvars hrt hbt hfn hW hgr
end Go.Eng

set_option linter.unusedSimpArgs false
set_option linter.unusedVariables false
namespace Go.Eng
open Go Go.ChangeShapes Go.WideShapes Go.ChangeAt Go.RowKit

def patFs (P:Program) (f:TypeId→Option (List CK)):List Field→Nat→Option (List CK)
 | [],_=>some []
 | x :: fs,off =>
  if Nat.beq x.offset off then
   match f x.type with
   | some p=>if Nat.beq p.length (P.cellsOf x.type) then (patFs P f fs (off + p.length)).map (p ++ ·) else none
   | none=>none
  else none
def patArr (p:List CK):Nat→List CK
 | 0=>[]
 | n + 1=>p ++ patArr p n
def patP (P:Program):Nat→TypeId→Option (List CK)
 | 0,_=>none
 | n + 1,t =>
  match P.underlying t with
  | some (.int k)=>some [.int k]
  | some .bool=>some [.bool]
  | some .string=>some [.any]
  | some (.slice _)=>some [.any]
  | some (.pointer _)=>some [.any]
  | some (.struct fs)=>match patFs P (patP P n) fs.toList 0 with
   | some p=>if Nat.beq p.length (P.cellsOf t) then some p else none
   | none=>none
  | some (.array m e)=>match patP P n e with
   | some p=>if Nat.beq p.length (P.cellsOf e) && Nat.beq (P.cellsOf t) (m * P.cellsOf e) then some (patArr p m) else none
   | none=>none
  | _=>none

theorem fitsRow_append {p q:List CK} {cs:List Value} (h1:fitsRow p (cs.take p.length)) (h2:fitsRow q (cs.drop p.length)):fitsRow (p ++ q) cs:=by
 obtain ⟨a1,a2⟩:=h1
 obtain ⟨b1,b2⟩:=h2
 have hle:p.length ≤ cs.length:=by simp at a1; omega
 refine ⟨by simp at a1 b1 ⊢; omega,fun c k v hk hv=>?_⟩
 by_cases hc:c < p.length
 ·rw [List.getElem?_append_left hc] at hk
  exact a2 c k v hk (by rw [List.getElem?_take,if_pos hc]; exact hv)
 ·rw [List.getElem?_append_right (by omega)] at hk
  exact b2 (c - p.length) k v hk (by rw [List.getElem?_drop,show p.length + (c - p.length) = c by omega]; exact hv)

section
variable {H:Type} {enc:TypeId × Value→H} {P:Program} {w:World} {base:Nat} {spare:Nat→Bool} {held:Bool}

theorem fits_one_any {v:Value} (h:v.oneCell' = true):fitsRow [.any] [v]:=⟨rfl,fun c k v' hk hv=>by
 cases c with
 | zero=>simp at hk hv; subst hk; subst hv; exact h
 | succ c=>simp at hk⟩

theorem patFs_fits {f:TypeId→Option (List CK)} {cs:List Value} (hf:∀ t p,f t = some p→∀ cs',(∃ fuel x,DataW.trod enc P w base spare held fuel t cs' = some x)→fitsRow p cs') :
  ∀ {fs:List Field} {off:Nat} {p:List CK},patFs P f fs off = some p→(∀ x ∈ fs,∃ fuel y,DataW.trod enc P w base spare held fuel x.type ((cs.drop x.offset).take (P.cellsOf x.type)) = some y)→off + p.length = cs.length→fitsRow p (cs.drop off)
 | [],off,p,h,_,hl=>by
  simp only [patFs,Option.some.injEq] at h; subst h
  simp at hl
  refine ⟨by simp; omega,fun c k v hk=>by simp at hk⟩
 | x :: fs,off,p,h,ht,hl=>by
  simp only [patFs] at h
  split at h
  ·rename_i ho
   have ho:=Nat.eq_of_beq_eq_true ho
   split at h
   ·rename_i p1 hp1
    split at h
    ·rename_i hc
     have hc:=Nat.eq_of_beq_eq_true hc
     simp only [Option.map_eq_some_iff] at h
     obtain ⟨p2,hp2,rfl⟩:=h
     simp only [List.length_append] at hl
     have h1:=hf x.type p1 hp1 _ (ht x (List.mem_cons_self ..))
     rw [ho,← hc] at h1
     have h2:=patFs_fits hf hp2 (fun y hy=>ht y (List.mem_cons_of_mem _ hy)) (by omega)
     exact fitsRow_append h1 (by rw [List.drop_drop]; exact h2)
    ·simp at h
   ·simp at h
  ·simp at h

theorem patArr_fits {p:List CK}:∀ {m:Nat} {cs:List Value},cs.length = m * p.length→(∀ i,i < m→fitsRow p ((cs.drop (i * p.length)).take p.length))→fitsRow (patArr p m) cs
 | 0,cs,hl,_=>by
  simp at hl; subst hl
  exact ⟨rfl,fun c k v hk=>by simp [patArr] at hk⟩
 | m + 1,cs,hl,h=>by
  simp only [patArr]
  refine fitsRow_append (by simpa using h 0 (by omega)) (patArr_fits (by rw [List.length_drop,hl,Nat.add_mul]; omega) fun i hi=>?_)
  rw [List.drop_drop,show p.length + i * p.length = (i + 1) * p.length by rw [Nat.add_mul]; omega]
  exact h (i + 1) (by omega)

theorem trod_fits:∀ (n:Nat) {t:TypeId} {pat:List CK},patP P n t = some pat→∀ cs,(∃ fuel x,DataW.trod enc P w base spare held fuel t cs = some x)→fitsRow pat cs
 | 0,t,pat,h,_,_=>by simp [patP] at h
 | n + 1,t,pat,h,cs,⟨fuel,x,hx⟩=>by
  simp only [patP] at h
  split at h
  ·rename_i k hu
   simp only [Option.some.injEq] at h; subst h
   obtain ⟨z,rfl,_,_⟩:=DataW.trod_int hu hx
   refine ⟨rfl,fun c k' v hk hv=>?_⟩
   cases c with
   | zero=>simp at hk hv; subst hk; subst hv; simp [CK.fits]
   | succ c=>simp at hk
  ·rename_i hu
   simp only [Option.some.injEq] at h; subst h
   cases fuel with
   | zero=>simp [DataW.trod] at hx
   | succ m =>
    unfold DataW.trod at hx
    rw [hu] at hx
    split at hx <;> simp_all
    refine ⟨rfl,fun c k' v hk hv=>?_⟩
    cases c with
    | zero=>simp at hk hv; subst hk; subst hv; simp [CK.fits]
    | succ c=>simp at hk
  ·rename_i hu
   simp only [Option.some.injEq] at h; subst h
   cases fuel with
   | zero=>simp [DataW.trod] at hx
   | succ m =>
    unfold DataW.trod at hx
    rw [hu] at hx
    split at hx <;> simp_all
    exact fits_one_any rfl
  ·rename_i e hu
   simp only [Option.some.injEq] at h; subst h
   rcases DataW.trod_slice hu hx with ⟨rfl,_⟩ | ⟨a,len,cap,elems,rest,m,_,rfl,_⟩
   ·exact fits_one_any rfl
   ·exact fits_one_any rfl
  ·rename_i e hu
   simp only [Option.some.injEq] at h; subst h
   cases fuel with
   | zero=>simp [DataW.trod] at hx
   | succ m =>
    unfold DataW.trod at hx
    rw [hu] at hx
    split at hx <;> simp_all
    all_goals exact fits_one_any rfl
  ·rename_i fs hu
   split at h
   ·rename_i p hp
    split at h
    ·rename_i hc
     have hc:=Nat.eq_of_beq_eq_true hc
     simp only [Option.some.injEq] at h; subst h
     obtain ⟨xs,m,_,_,hl,hxl,hall⟩:=DataW.trod_struct hu hx
     have:=patFs_fits (cs:=cs) (f:=patP P n) (fun t p hp cs' hh=>trod_fits n hp cs' hh) hp (fun y hy=>by
      obtain ⟨i,hi⟩:=List.getElem?_of_mem hy
      have hi':fs[i]? = some y:=by simpa using hi
      have h1:=hall i y hi'
      have hlt:i < xs.length:=by
       rw [hxl]; exact (Array.getElem?_eq_some_iff.1 hi').1
      exact ⟨m,xs[i],by rw [h1]; simp [hlt]⟩) (by omega)
     simpa using this
    ·simp at h
   ·simp at h
  ·rename_i m e hu
   split at h
   ·rename_i p hp
    split at h
    ·rename_i hc
     simp only [Bool.and_eq_true] at hc
     have hc1:=Nat.eq_of_beq_eq_true hc.1
     have hc2:=Nat.eq_of_beq_eq_true hc.2
     simp only [Option.some.injEq] at h; subst h
     obtain ⟨xs,k,_,_,hl,hxl,hall⟩:=DataW.trod_array hu hx
     refine patArr_fits (by rw [hl,hc2,hc1]) fun i hi=>?_
     have h1:=hall i hi
     rw [← hc1] at h1
     exact trod_fits n hp _ ⟨k,xs[i]'(by omega),by rw [h1]; simp [hxl,hi]⟩
    ·simp at h
   ·simp at h
  ·simp at h

theorem cells?_get {a:Addr} {n:Nat} {cs:List Value} (h:w.cells? base a n = some cs):cs.length = n∧∀ i,i < n→w.cell? (a.add i) = cs[i]?:=by
 unfold World.cells? at h
 split at h
 ·exact ⟨by simpa using mapM_some_length h,fun i hi=>by simpa using mapM_some_get h i i (by simp [hi])⟩
 ·simp at h

theorem open_rows {t e:TypeId} {pat:List CK} {n:Nat} {v:Value} {d:DataW H} {ps:List MemPlace} (ht:P.underlying t = some (.slice e)) (hpat:patP P n e = some pat) (hce:P.cellsOf e = pat.length) (hpos:0 < pat.length)
  {fuel:Nat} (hsp:∀ b,spare b = true) (hf:DataW.trod enc P w base spare held fuel t [v] = some (d,ps)) :
  ∃ rows:List (List Value),Rd (fun b=>w.heap[b]?) pat v rows∧(∀ row ∈ rows,∃ fuel x,DataW.trod enc P w base spare held fuel e row = some x) ∧
   ((d = .nil∧rows = [])∨∃ elems sp,d = .slice elems sp∧elems.length = rows.length∧∀ (i:Nat) (row:List Value),rows[i]? = some row→∃ fuel x,DataW.trod enc P w base spare held fuel e row = some x∧elems[i]? = some x.1):=by
 rcases DataW.trod_slice ht hf with ⟨h1,h2⟩ | ⟨a,len,cap,elems,rest,m,_,h1,h2,hb,hlc,hcm,hel,hall,hrest,_⟩
 ·simp at h1 h2
  exact ⟨[],.inl ⟨_,h1,rfl⟩,by simp,.inl ⟨h2.1,rfl⟩⟩
 ·simp at h1 h2
  subst h1
  have hrow:∀ i,i < len→∃ cs x,w.cells? base (a.add (i * P.cellsOf e)) (P.cellsOf e) = some cs∧DataW.trod enc P w base spare held m e cs = some x∧elems[i]? = some x:=fun i hi=>by
   have:=hall i hi
   rw [List.getElem?_eq_getElem (by omega)] at this
   obtain ⟨cs,g1,g2⟩:=Option.bind_eq_some_iff.1 this
   exact ⟨cs,_,g1,g2,List.getElem?_eq_getElem _⟩
  let rows:List (List Value):=(List.range len).map fun i=>((w.cells? base (a.add (i * P.cellsOf e)) (P.cellsOf e)).getD [])
  have hget:∀ i row,rows[i]? = some row→i < len∧w.cells? base (a.add (i * P.cellsOf e)) (P.cellsOf e) = some row:=fun i row hr=>by
   simp only [rows,List.getElem?_map,Option.map_eq_some_iff] at hr
   obtain ⟨j,hj,rfl⟩:=hr
   have hlt:i < len:=by
    have:=(List.getElem?_eq_some_iff.1 hj).1; simpa using this
   rw [List.getElem?_range hlt] at hj
   simp only [Option.some.injEq] at hj; subst hj
   obtain ⟨cs,x,g1,_,_⟩:=hrow i hlt
   exact ⟨hlt,by rw [g1]; rfl⟩
  have hrl:rows.length = len:=by simp [rows]
  have htr:∀ row ∈ rows,∃ fuel x,DataW.trod enc P w base spare held fuel e row = some x:=fun row hr=>by
   obtain ⟨i,hi⟩:=List.getElem?_of_mem hr
   obtain ⟨hlt,hc⟩:=hget i row hi
   obtain ⟨cs,x,g1,g2,_⟩:=hrow i hlt
   rw [hc] at g1
   simp only [Option.some.injEq] at g1; subst g1
   exact ⟨m,x,g2⟩
  refine ⟨rows,?_,htr,.inr ⟨_,_,h2.1,by simp [hel,hrl],fun i row hi=>?_⟩⟩
  rotate_left
  ·obtain ⟨hlt,hc⟩:=hget i row hi
   obtain ⟨cs,x,g1,g2,g3⟩:=hrow i hlt
   rw [hc] at g1
   simp only [Option.some.injEq] at g1; subst g1
   exact ⟨m,x,g2,by simp [g3]⟩
  by_cases hcap:cap = 0
  ·have hl0:len = 0:=by omega
   have:rows = []:=by apply List.eq_nil_of_length_eq_zero; omega
   exact .inl ⟨some a,by rw [hl0,hcap],this⟩
  have hfirst:∃ cs,w.cells? base (a.add 0) (P.cellsOf e) = some cs:=by
   by_cases hl:0 < len
   ·obtain ⟨cs,_,g1,_,_⟩:=hrow 0 hl
    rw [Nat.zero_mul] at g1
    exact ⟨cs,g1⟩
   ·obtain ⟨r1,r2⟩:=hrest (hsp _)
    have:=r2 0 (by omega)
    rw [show (len + 0) * P.cellsOf e = 0 by rw [show len + 0 = 0 by omega]; simp,List.getElem?_eq_getElem (by omega)] at this
    obtain ⟨cs,g1,_⟩:=Option.bind_eq_some_iff.1 this
    exact ⟨cs,g1⟩
  obtain ⟨cs0,hc0⟩:=hfirst
  obtain ⟨hl0,hg0⟩:=cells?_get hc0
  have h00:=hg0 0 (by omega)
  rw [show (a.add 0).add 0 = a from rfl,List.getElem?_eq_getElem (by omega)] at h00
  obtain ⟨ab,ao,asp⟩:=a
  have hblk0:=h00
  unfold World.cell? at hblk0
  split at hblk0
  ·rename_i c ty fr hblk
   simp only at hblk
   have hsp0:asp = none:=by
    cases asp with
    | none=>rfl
    | some s=>simp at hblk0
   subst hsp0
   refine .inr ⟨ab,ao,cap,c,ty,fr,by rw [hrl],by omega,hblk,fun i row hi=>?_⟩
   obtain ⟨hlt,hc⟩:=hget i row hi
   refine ⟨trod_fits n hpat row (htr row (List.mem_of_getElem? hi)),fun k x hk=>?_⟩
   obtain ⟨hl1,hg⟩:=cells?_get hc
   have hkl:k < P.cellsOf e:=by
    rw [← hl1]; exact (List.getElem?_eq_some_iff.1 hk).1
   have:=hg k hkl
   rw [hk,hce] at this
   rw [Go.Eng.addr_add,Go.Eng.addr_add,cell_of_heap hblk] at this
   exact this
  ·simp at hblk0
end

end Go.Eng

set_option linter.unusedSimpArgs false
set_option linter.unusedVariables false
namespace Go.Eng
open Go Go.Proofs
def makeGC:Ctr:={ makeC with pre:=fun ρ=>makeC.pre ρ∧sizes3 (ρ 2).i (ρ 3).i (ρ 4).i = true∧(ρ 6).i ≤ 8192,alts:=[{ k:=9,ret:=.tup [(true,manT 2 3 4 6 12 13 4 14),(false,[.vslice 15 (.lit 0) (.var 4) (.var 16) 2]),eRet (.lit 0)],heap:=[fHp 17,dgsHp 13 18 14,.arr 15 45 kPiece (.var 19) (.var 16),.abs 20 10],post:=fun ρ=>fieldD (ρ 17).d∧sizes3 (ρ 2).i (ρ 3).i (ρ 4).i = true∧(ρ 6).i ≤ 8192∧(ρ 19).d.length = (ρ 4).i.toNat∧encAt (ρ 20).h (ρ 19).d (ρ 4).i.toNat (encP (ρ 2).i.toNat (ρ 4).i.toNat (bI (ρ 8).d))∧rowL (ρ 12).d 32 = sha (bI (ρ 8).d)∧dgsOk (ρ 18).d∧dgs (ρ 18).d = madeAt (encP (ρ 2).i.toNat (ρ 4).i.toNat (bI (ρ 8).d)) (ρ 4).i.toNat }] }
def mineT (r t:Nat):Ctr:={ mineC with ro:=[pcHp 0 3 4,.abs 5 r],alts:=[
 { k:=4,ret:=.one (.vslice 6 (.lit 0) (.var 1) (.var 7) 2),heap:=[pcHp 6 8 7,.abs 9 t],post:=fun ρ=>(ρ 8).d.length = (ρ 3).d.length∧pcOk (ρ 9).h (ρ 8).d (ρ 3).d.length∧samePc (ρ 9).h (ρ 5).h (ρ 8).d (ρ 3).d (ρ 3).d.length (ρ 3).d.length }] }
def mineTI (t:Nat):Inv:={ mineI with heap:=[pcHp 1000 1003 1002,.abs 1004 t] }
def mineA:Ctr:=mineT 10 2
def mineB:Ctr:=mineT 2 4
def mineAI:Inv:=mineTI 2
def mineBI:Inv:=mineTI 4
def lawRestoresC:Ctr:={ fn := 20,nv:=32,ip:=[gIp 30,(119,2),(124,2),(1005,7),(1001,9),(1002,9)],args:=[caseArg],heap:=[],ro:=caseRo ++ [gHp 30 31],pre:=fun ρ=>caseIn ρ∧gOk ρ 30 31 gR,alts:=[lawTrue] }
def rstEnv:List (Nat × SV):=[(1,.one (.vptr 1000 (.lit 0) 44 0)),(3,.one (.vptr 1001 (.lit 0) 769 0)),(4,.one (.vptr 1003 (.lit 0) 37 0)),(5,pcS 1008 2 1009)]
def rstHp:List SH:=[.cells 1000 31 caseCells,.arr 1001 121 kField (.var 1002) (.lit 1),.cells 1003 27 (manT 0 1 2 5 1004 1005 2 1006),dgsHp 1005 1007 1006,pcHp 1008 1010 1009]
noncomputable def rstF (ρ:Env):Nat→List Int:=encP (ρ 0).i.toNat (ρ 2).i.toNat (bI (ρ 21).d)
def subP (h:Hp) (D:Rows') (n:Nat) (t:Int) (f:Nat→List Int):Prop:=D.length = n∧pcOk h D n∧∀ j,j < n→(0 ≤ pcI D j∧pcI D j < t)∧pcD h D j = f (pcI D j).toNat
def rstW (ρ:Env) (h:Hp):Prop:=(1 ≤ (ρ 0).i∧(ρ 0).i ≤ (ρ 1).i∧(ρ 1).i ≤ (ρ 2).i∧(ρ 2).i ≤ 20∧(ρ 5).i ≤ 2000∧(ρ 19).i ≤ 60)∧fieldD (ρ 1002).d∧rowL (ρ 1004).d 32 = sha (bI (ρ 21).d)∧dgsOk (ρ 1007).d∧dgs (ρ 1007).d = madeAt (rstF ρ) (ρ 2).i.toNat∧(ρ 1010).d.length = (ρ 2).i.toNat∧encAt h (ρ 1010).d (ρ 2).i.toNat (rstF ρ)
def rstA:Inv:={ key:=10,nv:=21,env:=rstEnv ++ [(7,pcS 1011 1012 1013),(8,pcS 1015 1018 1016),(9,iv .i64 (.var 1018))],heap:=rstHp ++ [pcHp 1011 1014 1013,pcHp 1015 1017 1016,.abs 1019 2,.abs 1020 10],inv:=(fun ρ=>rstW ρ (ρ 1020).h∧0 ≤ (ρ 1018).i∧(ρ 1018).i ≤ (ρ 0).i∧(ρ 1012).i = (ρ 2).i - (ρ 1018).i∧subP (ρ 1019).h (ρ 1014).d (ρ 1012).i.toNat (ρ 2).i (rstF ρ)∧subP (ρ 1019).h (ρ 1017).d (ρ 1018).i.toNat (ρ 2).i (rstF ρ)∧(idxL (ρ 1017).d (ρ 1018).i.toNat ++ idxL (ρ 1014).d (ρ 1012).i.toNat).Nodup),mu:=(fun ρ=>((ρ 0).i - (ρ 1018).i).toNat) }
def rstB:Inv:={ key:=23,nv:=17,env:=rstEnv ++ [(8,pcS 1011 0 1012),(12,iv .i64 (.var 1014))],heap:=rstHp ++ [pcHp 1011 1013 1012,.abs 1015 2,.abs 1016 10],inv:=(fun ρ=>rstW ρ (ρ 1016).h∧0 ≤ (ρ 1014).i∧(ρ 1014).i ≤ (ρ 2).i∧subP (ρ 1015).h (ρ 1013).d (ρ 0).i.toNat (ρ 2).i (rstF ρ)∧(idxL (ρ 1013).d (ρ 0).i.toNat).Nodup),mu:=(fun ρ=>((ρ 2).i - (ρ 1014).i).toNat) }
def rstJ1:Inv:={ key:=1000005,nv:=12,env:=rstEnv ++ [(6,.one (.vint .i64 (.lit 0)))],heap:=rstHp ++ [.abs 1011 10],inv:=(fun ρ=>rstW ρ (ρ 1011).h),mu:=fun _=>0 }
end Go.Eng

set_option linter.unusedSimpArgs false
set_option linter.unusedVariables false
set_option maxRecDepth 100000
namespace Go.Proofs
open Go Go.Eng

def o_mineA:Out:=(.fresh 6 (.pack [] 7 (.inv 0 8 (sg 1000 [bg 1004 7,bt 1003 .dnil,bt 1002 (.lit 0),bt 1001 (.lit 0),bg 1000 6]) (.fresh 8 (.fresh 9 (.fresh 10 (.fresh 11 (.fresh 12 (.fresh 13 (.hyp 0 8 (.need (.cmp .leq (.lit 0) (.var 1)) (.br (.cmp .lss (.var 9) (.var 1))
 (.need (.cmp .leq (.lit 0) (.var 9)) (.need (.cmp .lss (.var 9) (.dlen (.var 3))) (.both (.fresh 14 (.both (.view (.vcell (.var 3) (.var 9) 1) [CK.int .u8] [12,5] 15 (.need (.cmp .leq (.tims (.lit 1) (.dlen (.var 17))) (.lit 140737488355328)) (.fresh 18 (.fresh 19 (.both (.both (.fresh 20 (.both (.need (.cmp .eql (.var 9) (.dlen (.var 11))) (.need (.cmp .leq (.tims (.lit 32) (.plus (.var 9) (.lit 1))) (.lit 140737488355328)) (.fresh 21 (.fresh 22 (.both (.pack [.cells 20 45 [(.vint .i64 (.icell (.var 3) (.var 9) 0)),(.vslice 18 (.lit 0) (.dlen (.var 17)) (.var 19) 1)],.arr 18 5 [CK.int .u8] (.var 17) (.var 19),.abs 12 2] 23 (.need (.cmp .eql (.plus (.var 9) (.lit 1)) (.arith .add .i64 (.var 9) (.lit 1))) (.back 0 8 (sg 1000 [bg 1004 23,bt 1003 (.dapp (.var 11) (.rcons (.vint .i64 (.icell (.var 3) (.var 9) 0)) (.rcons (.vslice 18 (.lit 0) (.dlen (.var 17)) (.var 19) 1) .rnil))),bv 1002 22,bt 1001 (.plus (.var 9) (.lit 1)),bg 1000 21])))) .top))))) .top)) .top) .top))))) .top)) .top)))
 (.need (.cmp .eql (.var 1) (.var 9)) (.ret 0 (sg 6 [bg 9 12,bv 8 11,bv 7 10,bg 6 8])))))))))))))))
theorem o_mineA_eq:treeOf ⟨Tryd.prog,mineA,[],[mineAI]⟩ 100000 Tryd.f68 = o_mineA:=by kernel_rfl
theorem mineA_of (hd:∀ c ∈ ([]:List Ctr),c.ok Tryd.prog) (h:∀ ρ:Env,ρ.good→(mineA).pre ρ→o_mineA.den ⟨Tryd.prog,mineA,[],[mineAI]⟩ ρ):(mineA).ok Tryd.prog :=
 ok_of_tree Tryd.func68 (fun a w=>Tryd.call68 a w) hd 100000 (fun ρ hg hp=>by rw [o_mineA_eq]; exact h ρ hg hp)
def o_mineB:Out:=(.fresh 6 (.pack [] 7 (.inv 0 8 (sg 1000 [bg 1004 7,bt 1003 .dnil,bt 1002 (.lit 0),bt 1001 (.lit 0),bg 1000 6]) (.fresh 8 (.fresh 9 (.fresh 10 (.fresh 11 (.fresh 12 (.fresh 13 (.hyp 0 8 (.need (.cmp .leq (.lit 0) (.var 1)) (.br (.cmp .lss (.var 9) (.var 1))
 (.need (.cmp .leq (.lit 0) (.var 9)) (.need (.cmp .lss (.var 9) (.dlen (.var 3))) (.both (.fresh 14 (.both (.view (.vcell (.var 3) (.var 9) 1) [CK.int .u8] [12,5] 15 (.need (.cmp .leq (.tims (.lit 1) (.dlen (.var 17))) (.lit 140737488355328)) (.fresh 18 (.fresh 19 (.both (.both (.fresh 20 (.both (.need (.cmp .eql (.var 9) (.dlen (.var 11))) (.need (.cmp .leq (.tims (.lit 32) (.plus (.var 9) (.lit 1))) (.lit 140737488355328)) (.fresh 21 (.fresh 22 (.both (.pack [.cells 20 45 [(.vint .i64 (.icell (.var 3) (.var 9) 0)),(.vslice 18 (.lit 0) (.dlen (.var 17)) (.var 19) 1)],.arr 18 5 [CK.int .u8] (.var 17) (.var 19),.abs 12 4] 23 (.need (.cmp .eql (.plus (.var 9) (.lit 1)) (.arith .add .i64 (.var 9) (.lit 1))) (.back 0 8 (sg 1000 [bg 1004 23,bt 1003 (.dapp (.var 11) (.rcons (.vint .i64 (.icell (.var 3) (.var 9) 0)) (.rcons (.vslice 18 (.lit 0) (.dlen (.var 17)) (.var 19) 1) .rnil))),bv 1002 22,bt 1001 (.plus (.var 9) (.lit 1)),bg 1000 21])))) .top))))) .top)) .top) .top))))) .top)) .top)))
 (.need (.cmp .eql (.var 1) (.var 9)) (.ret 0 (sg 6 [bg 9 12,bv 8 11,bv 7 10,bg 6 8])))))))))))))))
theorem o_mineB_eq:treeOf ⟨Tryd.prog,mineB,[],[mineBI]⟩ 100000 Tryd.f68 = o_mineB:=by kernel_rfl
theorem mineB_of (hd:∀ c ∈ ([]:List Ctr),c.ok Tryd.prog) (h:∀ ρ:Env,ρ.good→(mineB).pre ρ→o_mineB.den ⟨Tryd.prog,mineB,[],[mineBI]⟩ ρ):(mineB).ok Tryd.prog :=
 ok_of_tree Tryd.func68 (fun a w=>Tryd.call68 a w) hd 100000 (fun ρ hg hp=>by rw [o_mineB_eq]; exact h ρ hg hp)
@[simp] def o_rstB_5:Sg:=sg 0 [bv 17 31,bv 15 111,bv 14 112,bv 9 92,bv 8 93,bv 13 111,bv 12 110,bg 11 109,bv 10 108,bv 7 92,bv 6 2,bg 5 91,bv 3 5,bv 2 2,bv 1 1,bv 0 0,bt 4 (r8 90),bg 16 30]
@[simp] def o_rstB_4:Sg:=sg 0 [bv 17 31,bv 15 110,bv 14 111,bv 9 92,bv 8 93,bv 13 110,bv 12 109,bg 11 108,bv 10 107,bv 7 92,bv 6 2,bg 5 91,bv 3 5,bv 2 2,bv 1 1,bv 0 0,bt 4 (r8 90),bg 16 30]
@[simp] def o_rstB_3:Sg:=sg 0 [bv 19 31,bg 17 107,bv 16 105,bv 15 106,bv 11 92,bv 10 93,bv 1 88,bv 20 100,bv 14 105,bv 13 0,bg 12 104,bv 9 92,bv 8 2,bg 7 91,bv 5 5,bv 4 2,bv 3 1,bv 2 0,bt 6 (r8 90),bg 0 87,bg 18 30]
@[simp] def o_rstB_2:Sg:=sg 0 [bv 19 31,bg 17 106,bv 16 104,bv 15 105,bv 11 92,bv 10 93,bv 1 88,bv 20 100,bv 14 104,bv 13 0,bg 12 103,bv 9 92,bv 8 2,bg 7 91,bv 5 5,bv 4 2,bv 3 1,bv 2 0,bt 6 (r8 90),bg 0 87,bg 18 30]
@[simp] def o_rstB_1:Out:=.back 1 86 (sg 1000 [bg 1016 102,bg 1015 119,bv 1013 99,bv 1010 96,bv 1007 93,bv 1006 92,bg 1005 91,bt 1004 (r8 90),bv 1002 114,bt 1014 (.arith .add .i64 (.var 100) (.lit 1)),bv 1012 98,bg 1011 97,bv 1009 95,bg 1008 94,bg 1003 89,bg 1001 87,bg 1000 86])
def o_rstB:Out:=(.hyp 1 86 (.br (.cmp .lss (.var 100) (.var 2))
 (.both (.know (.cmp .leq (.dlen (.var 99)) (.var 98)) (.pre 4 (sg 0 [bg 5 101,bv 4 98,bv 3 99,bv 2 98,bv 1 0,bg 0 97]) (.both (.fresh 103 (.fresh 104 (.fresh 105 (.fresh 106 (.post 4 0 (sg 0 [bg 5 101,bv 4 98,bv 3 99,bv 2 98,bv 1 0,bg 0 97]) 103 (.both (.know (.cmp .leq (.dlen (.var 93)) (.var 92)) (.know (.cmp .leq (.dlen (.var 105)) (.var 104)) (.pre 7 o_rstB_2 (.both (.fresh 107 (.fresh 108 (.fresh 109 (.fresh 110 (.fresh 111 (.fresh 112 (.fresh 113 (.post 7 0 o_rstB_2 107 (.both (.fresh 114 (.both (.br (.cmp .neq (.var 112) (.lit 0))
 (.both (.stuck 7 0 0) .top)
 (.br (.cmp .neq (.var 107) (.var 100))
 (.both (.stuck 7 0 0) .top)
 (.need (.cmp .leq (.lit 0) (.var 109)) (.need (.cmp .leq (.var 109) (.dlen (.var 111))) (.need (.cmp .leq (.lit 0) (.var 100)) (.need (.cmp .lss (.var 100) (.dlen (.var 96))) (.both (.view (.vcell (.var 96) (.var 100) 1) [CK.int .u8] [106,101,102,29] 115 (.br (.not (.c2 .veq (.c1 .vbytes (.dtake (.var 111) (.var 109))) (.c1 .vbytes (.var 117))))
 (.both (.stuck 7 0 0) .top)
 (.both (.know (.cmp .leq (.dlen (.var 111)) (.var 110)) (.pre 8 o_rstB_4 (.both (.fresh 118 (.post 8 0 o_rstB_4 118 (.br (.cmp .neq (.var 118) (.lit 0))
 (.stuck 7 0 0)
 (.pack [.cells 114 45 [(.vint .i64 (.var 107)),(.vslice 108 (.lit 0) (.var 109) (.var 110) 1)],.arr 108 5 [CK.int .u8] (.var 111) (.var 110),.arr 103 45 [CK.int .i64,CK.any] (.var 105) (.var 104),.abs 101 2] 119 (.back 1 86 (sg 1000 [bg 1016 102,bg 1015 119,bv 1013 99,bv 1010 96,bv 1007 93,bv 1006 92,bg 1005 91,bt 1004 (r8 90),bv 1002 113,bt 1014 (.arith .add .i64 (.var 100) (.lit 1)),bv 1012 98,bg 1011 97,bv 1009 95,bg 1008 94,bg 1003 89,bg 1001 87,bg 1000 86])))))) .top))) .top))) .top))))))) .top)) .top))))))))) .top)))) (.both (.fresh 107 (.both (.know (.cmp .leq (.dlen (.var 93)) (.var 92)) (.know (.cmp .leq (.dlen (.var 105)) (.var 104)) (.pre 7 o_rstB_2 (.both (.fresh 108 (.fresh 109 (.fresh 110 (.fresh 111 (.fresh 112 (.fresh 113 (.fresh 114 (.post 7 0 o_rstB_2 108 (.both (.br (.cmp .neq (.var 113) (.lit 0))
 (.both (.stuck 7 0 0) .top)
 (.br (.cmp .neq (.var 108) (.var 100))
 (.both (.stuck 7 0 0) .top)
 (.need (.cmp .leq (.lit 0) (.var 110)) (.need (.cmp .leq (.var 110) (.dlen (.var 112))) (.need (.cmp .leq (.lit 0) (.var 100)) (.need (.cmp .lss (.var 100) (.dlen (.var 96))) (.both (.view (.vcell (.var 96) (.var 100) 1) [CK.int .u8] [106,101,102,29] 115 (.br (.not (.c2 .veq (.c1 .vbytes (.dtake (.var 112) (.var 110))) (.c1 .vbytes (.var 117))))
 (.both (.stuck 7 0 0) .top)
 (.both (.know (.cmp .leq (.dlen (.var 112)) (.var 111)) (.pre 8 o_rstB_5 (.both (.fresh 118 (.post 8 0 o_rstB_5 118 (.br (.cmp .neq (.var 118) (.lit 0))
 (.stuck 7 0 0)
 (.pack [.arr 109 5 [CK.int .u8] (.var 112) (.var 111),.cells 107 45 [(.vint .i64 (.var 108)),(.vslice 109 (.lit 0) (.var 110) (.var 111) 1)],.arr 103 45 [CK.int .i64,CK.any] (.var 105) (.var 104),.abs 101 2] 119 o_rstB_1)))) .top))) .top))) .top))))))) .top))))))))) .top)))) .top)) .top))))))) .top))) (.both (.fresh 103 (.both (.know (.cmp .leq (.dlen (.var 99)) (.var 98)) (.pre 4 (sg 0 [bg 5 101,bv 4 98,bv 3 99,bv 2 98,bv 1 0,bg 0 97]) (.both (.fresh 104 (.fresh 105 (.fresh 106 (.fresh 107 (.post 4 0 (sg 0 [bg 5 101,bv 4 98,bv 3 99,bv 2 98,bv 1 0,bg 0 97]) 104 (.both (.know (.cmp .leq (.dlen (.var 93)) (.var 92)) (.know (.cmp .leq (.dlen (.var 106)) (.var 105)) (.pre 7 o_rstB_3 (.both (.fresh 108 (.fresh 109 (.fresh 110 (.fresh 111 (.fresh 112 (.fresh 113 (.fresh 114 (.post 7 0 o_rstB_3 108 (.both (.br (.cmp .neq (.var 113) (.lit 0))
 (.both (.stuck 7 0 0) .top)
 (.br (.cmp .neq (.var 108) (.var 100))
 (.both (.stuck 7 0 0) .top)
 (.need (.cmp .leq (.lit 0) (.var 110)) (.need (.cmp .leq (.var 110) (.dlen (.var 112))) (.need (.cmp .leq (.lit 0) (.var 100)) (.need (.cmp .lss (.var 100) (.dlen (.var 96))) (.both (.view (.vcell (.var 96) (.var 100) 1) [CK.int .u8] [107,101,102,29] 115 (.br (.not (.c2 .veq (.c1 .vbytes (.dtake (.var 112) (.var 110))) (.c1 .vbytes (.var 117))))
 (.both (.stuck 7 0 0) .top)
 (.both (.know (.cmp .leq (.dlen (.var 112)) (.var 111)) (.pre 8 o_rstB_5 (.both (.fresh 118 (.post 8 0 o_rstB_5 118 (.br (.cmp .neq (.var 118) (.lit 0))
 (.stuck 7 0 0)
 (.pack [.arr 109 5 [CK.int .u8] (.var 112) (.var 111),.arr 104 45 [CK.int .i64,CK.any] (.var 106) (.var 105),.cells 103 45 [(.vint .i64 (.var 108)),(.vslice 109 (.lit 0) (.var 110) (.var 111) 1)],.abs 101 2] 119 o_rstB_1)))) .top))) .top))) .top))))))) .top))))))))) .top)))) .top)))))) .top))) .top)) .top))
 (.pre 0 (sg 0 [bv 1 31,bg 0 30]) (.both (.post 0 0 (sg 0 [bv 1 31,bg 0 30]) 103 (.ret 0 (sg 32 []))) .top))))
@[simp] def o_rstA_11:T:=.cmp .eql (.plus (.var 71) (.lit 1)) (.arith .add .i64 (.var 71) (.lit 1))
@[simp] def o_rstA_10:T:=.dtake (.var 67) (.arith .rem .i64 (.icell (.var 27) (.var 71) 0) (.var 65))
@[simp] def o_rstA_9:T:=.cmp .leq (.tims (.lit 32) (.plus (.var 71) (.lit 1))) (.lit 140737488355328)
@[simp] def o_rstA_8:T:=.arith .add .i64 (.arith .rem .i64 (.icell (.var 27) (.var 71) 0) (.var 65)) (.lit 1)
@[simp] def o_rstA_7:T:=.arith .add .i64 (.arith .rem .i64 (.icell (.var 27) (.var 71) 0) (.var 65)) (.var 65)
@[simp] def o_rstA_6:T:=.icell (.var 67) (.arith .add .i64 (.arith .rem .i64 (.icell (.var 27) (.var 71) 0) (.var 65)) (.var 65)) 0
@[simp] def o_rstA_5:T:=.dlen (.dtake (.var 67) (.arith .add .i64 (.arith .rem .i64 (.icell (.var 27) (.var 71) 0) (.var 65)) (.var 65)))
@[simp] def o_rstA_4:T:=.arith .add .i64 (.arith .add .i64 (.arith .rem .i64 (.icell (.var 27) (.var 71) 0) (.var 65)) (.var 65)) (.lit 1)
@[simp] def o_rstA_3:Sg:=sg 0 [bv 19 31,bg 17 77,bv 16 75,bv 15 76,bv 11 59,bv 10 60,bv 1 55,bv 14 75,bv 13 71,bg 12 74,bv 9 59,bv 8 2,bg 7 58,bv 5 5,bv 4 2,bv 3 1,bv 2 0,bt 6 (r8 57),bg 0 54,bg 18 30]
@[simp] def o_rstA_2:T:=.ife (.var 66) (.arith .add .i64 (.arith .rem .i64 (.icell (.var 27) (.var 71) 0) (.var 65)) (.lit 1)) (.lit 0) (.arith .add .i64 (.arith .rem .i64 (.icell (.var 27) (.var 71) 0) (.var 65)) (.lit 1))
@[simp] def o_rstA_1:T:=.ife (.var 66) (.arith .add .i64 (.arith .add .i64 (.arith .rem .i64 (.icell (.var 27) (.var 71) 0) (.var 65)) (.var 65)) (.lit 1)) (.lit 0) (.arith .add .i64 (.arith .add .i64 (.arith .rem .i64 (.icell (.var 27) (.var 71) 0) (.var 65)) (.var 65)) (.lit 1))
def o_rstA:Out:=(.hyp 0 53 (.br (.cmp .lss (.var 71) (.var 0))
 (.br (.cmp .lss (.var 71) (.var 19))
 (.need (.cmp .leq (.lit 0) (.var 71)) (.need (.cmp .lss (.var 71) (.dlen (.var 27))) (.know (.cmp .leq (.dlen (.var 67)) (.var 66)) (.need (.cmp .leq (.lit 0) (.var 65)) (.need (.cmp .neq (.var 65) (.lit 0)) (.br (.cmp .lss (.arith .rem .i64 (.icell (.var 27) (.var 71) 0) (.var 65)) (.lit 0))
 (.need (.cmp .leq (.lit 0) o_rstA_7) (.need (.cmp .lss o_rstA_7 (.var 65)) (.need (.cmp .lss o_rstA_7 (.dlen (.var 67))) (.fresh 74 (.know (.cmp .leq (.dlen (.var 70)) (.var 69)) (.need (.cmp .eql (.var 71) (.dlen (.var 70))) (.need o_rstA_9 (.fresh 75 (.fresh 76 (.need (.cmp .leq (.lit 0) (.var 66)) (.need (.cmp .leq o_rstA_7 (.var 66)) (.need (.cmp .leq (.lit 0) o_rstA_4) (.need (.cmp .leq o_rstA_4 (.var 65)) (.need (.cmp .leq (.var 65) (.var 66)) (.both (.fresh 77 (.both (.need (.cmp .leq o_rstA_7 (.dlen (.var 67))) (.need (.cmp .leq (.tims (.lit 32) o_rstA_7) (.lit 140737488355328)) (.fresh 78 (.fresh 79 (.both (.know (.cmp .leq o_rstA_5 (.var 79)) (.need (.cmp .eql o_rstA_7 o_rstA_5) (.need (.cmp .leq (.lit 0) o_rstA_1) (.need (.cmp .leq (.lit 0) (.minus (.var 65) o_rstA_4)) (.need (.cmp .leq (.plus o_rstA_1 (.minus (.var 65) o_rstA_4)) (.dlen (.var 67))) (.need (.cmp .leq (.tims (.lit 32) (.plus o_rstA_7 (.minus (.var 65) o_rstA_4))) (.lit 140737488355328)) (.fresh 80 (.fresh 81 (.pack [.cells 74 45 [(.vint .i64 o_rstA_6),(.vcell (.var 67) o_rstA_7 1)],.arr 64 45 [CK.int .i64,CK.any] (.var 67) (.var 66),.abs 72 2] 82 (.need o_rstA_11 (.back 0 53 (sg 1000 [bg 1020 73,bg 1019 82,bt 1017 (.dapp (.var 70) (.rcons (.vint .i64 o_rstA_6) (.rcons (.vcell (.var 67) o_rstA_7 1) .rnil))),bt 1014 (.dapp (.dtake (.var 67) o_rstA_7) (.dtake (.ddrop (.var 67) o_rstA_1) (.minus (.var 65) o_rstA_4))),bv 1010 63,bv 1007 60,bv 1006 59,bg 1005 58,bt 1004 (r8 57),bv 1002 55,bv 1016 76,bt 1018 (.plus (.var 71) (.lit 1)),bg 1015 75,bv 1013 81,bt 1012 (.plus o_rstA_7 (.minus (.var 65) o_rstA_4)),bg 1011 80,bv 1009 62,bg 1008 61,bg 1003 56,bg 1001 54,bg 1000 53])))))))))))) .top))))) .top)) .top)))))))))))))))
 (.need (.cmp .leq (.lit 0) (.arith .rem .i64 (.icell (.var 27) (.var 71) 0) (.var 65))) (.need (.cmp .lss (.arith .rem .i64 (.icell (.var 27) (.var 71) 0) (.var 65)) (.var 65)) (.need (.cmp .lss (.arith .rem .i64 (.icell (.var 27) (.var 71) 0) (.var 65)) (.dlen (.var 67))) (.fresh 74 (.know (.cmp .leq (.dlen (.var 70)) (.var 69)) (.need (.cmp .eql (.var 71) (.dlen (.var 70))) (.need o_rstA_9 (.fresh 75 (.fresh 76 (.need (.cmp .leq (.lit 0) (.var 66)) (.need (.cmp .leq (.arith .rem .i64 (.icell (.var 27) (.var 71) 0) (.var 65)) (.var 66)) (.need (.cmp .leq (.lit 0) o_rstA_8) (.need (.cmp .leq o_rstA_8 (.var 65)) (.need (.cmp .leq (.var 65) (.var 66)) (.both (.fresh 77 (.both (.need (.cmp .leq (.arith .rem .i64 (.icell (.var 27) (.var 71) 0) (.var 65)) (.dlen (.var 67))) (.need (.cmp .leq (.tims (.lit 32) (.arith .rem .i64 (.icell (.var 27) (.var 71) 0) (.var 65))) (.lit 140737488355328)) (.fresh 78 (.fresh 79 (.both (.know (.cmp .leq (.dlen o_rstA_10) (.var 79)) (.need (.cmp .eql (.arith .rem .i64 (.icell (.var 27) (.var 71) 0) (.var 65)) (.dlen o_rstA_10)) (.need (.cmp .leq (.lit 0) o_rstA_2) (.need (.cmp .leq (.lit 0) (.minus (.var 65) o_rstA_8)) (.need (.cmp .leq (.plus o_rstA_2 (.minus (.var 65) o_rstA_8)) (.dlen (.var 67))) (.need (.cmp .leq (.tims (.lit 32) (.plus (.arith .rem .i64 (.icell (.var 27) (.var 71) 0) (.var 65)) (.minus (.var 65) o_rstA_8))) (.lit 140737488355328)) (.fresh 80 (.fresh 81 (.pack [.cells 74 45 [(.vint .i64 (.icell (.var 67) (.arith .rem .i64 (.icell (.var 27) (.var 71) 0) (.var 65)) 0)),(.vcell (.var 67) (.arith .rem .i64 (.icell (.var 27) (.var 71) 0) (.var 65)) 1)],.arr 64 45 [CK.int .i64,CK.any] (.var 67) (.var 66),.abs 72 2] 82 (.need o_rstA_11 (.back 0 53 (sg 1000 [bg 1020 73,bg 1019 82,bt 1017 (.dapp (.var 70) (.rcons (.vint .i64 (.icell (.var 67) (.arith .rem .i64 (.icell (.var 27) (.var 71) 0) (.var 65)) 0)) (.rcons (.vcell (.var 67) (.arith .rem .i64 (.icell (.var 27) (.var 71) 0) (.var 65)) 1) .rnil))),bt 1014 (.dapp o_rstA_10 (.dtake (.ddrop (.var 67) o_rstA_2) (.minus (.var 65) o_rstA_8))),bv 1010 63,bv 1007 60,bv 1006 59,bg 1005 58,bt 1004 (r8 57),bv 1002 55,bv 1016 76,bt 1018 (.plus (.var 71) (.lit 1)),bg 1015 75,bv 1013 81,bt 1012 (.plus (.arith .rem .i64 (.icell (.var 27) (.var 71) 0) (.var 65)) (.minus (.var 65) o_rstA_8)),bg 1011 80,bv 1009 62,bg 1008 61,bg 1003 56,bg 1001 54,bg 1000 53])))))))))))) .top))))) .top)) .top)))))))))))))))))))))
 (.need (.cmp .lss (.lit 0) (.var 65)) (.need (.cmp .lss (.lit 0) (.dlen (.var 67))) (.fresh 74 (.know (.cmp .leq (.dlen (.var 70)) (.var 69)) (.need (.cmp .eql (.var 71) (.dlen (.var 70))) (.need o_rstA_9 (.fresh 75 (.fresh 76 (.know (.cmp .leq (.dlen (.var 67)) (.var 66)) (.need (.cmp .leq (.lit 0) (.var 65)) (.need (.cmp .leq (.lit 0) (.var 66)) (.need (.cmp .leq (.lit 1) (.var 65)) (.need (.cmp .leq (.var 65) (.var 66)) (.both (.fresh 77 (.both (.need (.cmp .leq (.lit 0) (.dlen (.var 67))) (.need (.cmp .leq (.tims (.lit 32) (.lit 0)) (.lit 140737488355328)) (.fresh 78 (.fresh 79 (.both (.know (.cmp .leq (.dlen (.dtake (.var 67) (.lit 0))) (.var 79)) (.need (.cmp .eql (.lit 0) (.dlen (.dtake (.var 67) (.lit 0)))) (.need (.cmp .leq (.lit 0) (.ife (.var 66) (.lit 1) (.lit 0) (.lit 1))) (.need (.cmp .leq (.lit 0) (.minus (.var 65) (.lit 1))) (.need (.cmp .leq (.plus (.ife (.var 66) (.lit 1) (.lit 0) (.lit 1)) (.minus (.var 65) (.lit 1))) (.dlen (.var 67))) (.need (.cmp .leq (.tims (.lit 32) (.minus (.var 65) (.lit 1))) (.lit 140737488355328)) (.fresh 80 (.fresh 81 (.pack [.cells 74 45 [(.vint .i64 (.icell (.var 67) (.lit 0) 0)),(.vcell (.var 67) (.lit 0) 1)],.arr 64 45 [CK.int .i64,CK.any] (.var 67) (.var 66),.abs 72 2] 82 (.need o_rstA_11 (.back 0 53 (sg 1000 [bg 1020 73,bg 1019 82,bt 1017 (.dapp (.var 70) (.rcons (.vint .i64 (.icell (.var 67) (.lit 0) 0)) (.rcons (.vcell (.var 67) (.lit 0) 1) .rnil))),bt 1014 (.dapp (.dtake (.var 67) (.lit 0)) (.dtake (.ddrop (.var 67) (.ife (.var 66) (.lit 1) (.lit 0) (.lit 1))) (.minus (.var 65) (.lit 1)))),bv 1010 63,bv 1007 60,bv 1006 59,bg 1005 58,bt 1004 (r8 57),bv 1002 55,bv 1016 76,bt 1018 (.plus (.var 71) (.lit 1)),bg 1015 75,bv 1013 81,bt 1012 (.minus (.var 65) (.lit 1)),bg 1011 80,bv 1009 62,bg 1008 61,bg 1003 56,bg 1001 54,bg 1000 53])))))))))))) .top))))) .top)) .top)))))))))))))))
 (.both (.know (.cmp .leq (.dlen (.var 70)) (.var 69)) (.pre 4 (sg 0 [bg 5 72,bv 4 69,bv 3 70,bv 2 69,bv 1 71,bg 0 68]) (.both (.fresh 74 (.fresh 75 (.fresh 76 (.fresh 77 (.post 4 0 (sg 0 [bg 5 72,bv 4 69,bv 3 70,bv 2 69,bv 1 71,bg 0 68]) 74 (.both (.know (.cmp .leq (.dlen (.var 60)) (.var 59)) (.know (.cmp .leq (.dlen (.var 76)) (.var 75)) (.pre 6 o_rstA_3 (.both (.fresh 78 (.fresh 79 (.fresh 80 (.fresh 81 (.fresh 82 (.fresh 83 (.fresh 84 (.post 6 0 o_rstA_3 78 (.br (.cmp .neq (.var 82) (.lit 0))
 (.stuck 7 0 0)
 (.need (.cmp .leq (.lit 0) (.var 79)) (.need (.cmp .leq (.var 79) (.dlen (.var 81))) (.need (.cmp .leq (.var 5) (.dlen (.var 21))) (.br (.not (.c2 .veq (.c1 .vbytes (.dtake (.var 81) (.var 79))) (.c1 .vbytes (.dtake (.var 21) (.var 5)))))
 (.stuck 7 0 0)
 (.pack [.arr 78 5 [CK.int .u8] (.var 81) (.var 80),.arr 74 45 [CK.int .i64,CK.any] (.var 76) (.var 75),.arr 64 45 [CK.int .i64,CK.any] (.var 67) (.var 66),.abs 72 2] 85 (.need (.cmp .eql (.var 0) (.var 71)) (.inv 1 86 (sg 1000 [bg 1016 73,bg 1015 85,bv 1013 70,bv 1010 63,bv 1007 60,bv 1006 59,bg 1005 58,bt 1004 (r8 57),bv 1002 83,bt 1014 (.lit 0),bv 1012 69,bg 1011 68,bv 1009 62,bg 1008 61,bg 1003 56,bg 1001 54,bg 1000 53]) (.fresh 86 (.fresh 87 (.fresh 88 (.fresh 89 (.fresh 90 (.fresh 91 (.fresh 92 (.fresh 93 (.fresh 94 (.fresh 95 (.fresh 96 (.fresh 97 (.fresh 98 (.fresh 99 (.fresh 100 (.fresh 101 (.fresh 102 o_rstB))))))))))))))))))))))))))))))))) .top)))) .top)))))) .top))) .top)))
@[simp] def o_lawRestores_3:Out:=.pre 0 (sg 0 [bv 1 31,bg 0 30]) (.both (.post 0 0 (sg 0 [bv 1 31,bg 0 30]) 33 (.ret 0 (sg 32 []))) .top)
@[simp] def o_lawRestores_2:Sg:=sg 0 [bv 11 31,bv 9 38,bt 8 (.dtake (.var 21) (.var 5)),bv 1 34,bv 7 38,bv 6 5,bg 5 37,bv 4 2,bv 3 1,bv 2 0,bg 0 33,bg 10 30]
@[simp] def o_lawRestores_1:Sg:=sg 0 [bv 11 31,bv 9 37,bt 8 (.dtake (.var 21) (.var 5)),bv 1 34,bv 7 37,bv 6 5,bg 5 36,bv 4 2,bv 3 1,bv 2 0,bg 0 33,bg 10 30]
def o_lawRestores:Out:=(.fresh 32 (.br (.cmp .lss (.var 0) (.lit 1))
 o_lawRestores_3
 (.br (.cmp .gtr (.var 0) (.var 1))
 o_lawRestores_3
 (.br (.cmp .gtr (.var 1) (.var 2))
 o_lawRestores_3
 (.br (.cmp .gtr (.var 2) (.lit 20))
 o_lawRestores_3
 (.need (.cmp .leq (.lit 0) (.var 5)) (.br (.cmp .gtr (.var 5) (.lit 2000))
 o_lawRestores_3
 (.need (.cmp .leq (.lit 0) (.var 19)) (.br (.cmp .gtr (.var 19) (.lit 60))
 o_lawRestores_3
 (.pre 1 (sg 0 []) (.both (.fresh 33 (.fresh 34 (.post 1 0 (sg 0 []) 33 (.both (.both (.fresh 35 (.both (.need (.cmp .leq (.var 5) (.dlen (.var 21))) (.need (.cmp .leq (.tims (.lit 1) (.var 5)) (.lit 140737488355328)) (.fresh 36 (.fresh 37 (.both (.know (.cmp .leq (.dlen (.dtake (.var 21) (.var 5))) (.var 37)) (.pre 2 o_lawRestores_1 (.both (.fresh 38 (.fresh 39 (.fresh 40 (.fresh 41 (.fresh 42 (.fresh 43 (.fresh 44 (.fresh 45 (.fresh 46 (.post 2 0 o_lawRestores_1 38 (.both (.fresh 47 (.both (.pack [.abs 46 10,.arr 36 5 [CK.int .u8] (.dtake (.var 21) (.var 5)) (.var 37)] 48 (.cut 2 35 (sg 1000 [bg 1011 48,bv 1010 45,bv 1007 44,bv 1006 40,bg 1005 39,bt 1004 (r8 38),bv 1002 43,bv 1009 42,bg 1008 41,bg 1003 47,bg 1001 33,bg 1000 32]))) .top)) .top))))))))))) .top))) (.both (.fresh 38 (.both (.know (.cmp .leq (.dlen (.dtake (.var 21) (.var 5))) (.var 37)) (.pre 2 o_lawRestores_1 (.both (.fresh 39 (.fresh 40 (.fresh 41 (.fresh 42 (.fresh 43 (.fresh 44 (.fresh 45 (.fresh 46 (.fresh 47 (.post 2 0 o_lawRestores_1 39 (.both (.pack [.abs 47 10,.arr 36 5 [CK.int .u8] (.dtake (.var 21) (.var 5)) (.var 37)] 48 (.cut 2 35 (sg 1000 [bg 1011 48,bv 1010 46,bv 1007 45,bv 1006 41,bg 1005 40,bt 1004 (r8 39),bv 1002 44,bv 1009 43,bg 1008 42,bg 1003 38,bg 1001 33,bg 1000 32]))) .top))))))))))) .top))) .top)) .top)))))) (.both (.fresh 36 (.both (.need (.cmp .leq (.var 5) (.dlen (.var 21))) (.need (.cmp .leq (.tims (.lit 1) (.var 5)) (.lit 140737488355328)) (.fresh 37 (.fresh 38 (.both (.know (.cmp .leq (.dlen (.dtake (.var 21) (.var 5))) (.var 38)) (.pre 2 o_lawRestores_2 (.both (.fresh 39 (.fresh 40 (.fresh 41 (.fresh 42 (.fresh 43 (.fresh 44 (.fresh 45 (.fresh 46 (.fresh 47 (.post 2 0 o_lawRestores_2 39 (.both (.pack [.abs 47 10,.arr 37 5 [CK.int .u8] (.dtake (.var 21) (.var 5)) (.var 38)] 48 (.cut 2 35 (sg 1000 [bg 1011 48,bv 1010 46,bv 1007 45,bv 1006 41,bg 1005 40,bt 1004 (r8 39),bv 1002 44,bv 1009 43,bg 1008 42,bg 1003 36,bg 1001 33,bg 1000 32]))) .top))))))))))) .top))) .top))))) .top)) .top))) (.both (.fresh 35 (.both (.fresh 36 (.both (.need (.cmp .leq (.var 5) (.dlen (.var 21))) (.need (.cmp .leq (.tims (.lit 1) (.var 5)) (.lit 140737488355328)) (.fresh 37 (.fresh 38 (.both (.know (.cmp .leq (.dlen (.dtake (.var 21) (.var 5))) (.var 38)) (.pre 2 o_lawRestores_2 (.both (.fresh 39 (.fresh 40 (.fresh 41 (.fresh 42 (.fresh 43 (.fresh 44 (.fresh 45 (.fresh 46 (.fresh 47 (.post 2 0 o_lawRestores_2 39 (.both (.pack [.abs 47 10,.arr 37 5 [CK.int .u8] (.dtake (.var 21) (.var 5)) (.var 38)] 48 (.cut 2 35 (sg 1000 [bg 1011 48,bv 1010 46,bv 1007 45,bv 1006 41,bg 1005 40,bt 1004 (r8 39),bv 1002 44,bv 1009 43,bg 1008 42,bg 1003 35,bg 1001 33,bg 1000 32]))) .top))))))))))) .top))) .top))))) .top)) .top)) .top)) (.fresh 35 (.fresh 36 (.fresh 37 (.fresh 38 (.fresh 39 (.fresh 40 (.fresh 41 (.fresh 42 (.fresh 43 (.fresh 44 (.fresh 45 (.fresh 46 (.hyp 2 35 (.know (.cmp .leq (.dlen (.var 45)) (.var 44)) (.need (.cmp .leq (.lit 0) (.var 2)) (.know (.cmp .leq (.dlen (.var 42)) (.var 41)) (.pre 3 (sg 0 [bv 9 41,bv 8 42,bv 7 41,bv 6 2,bg 5 40,bv 3 5,bv 2 2,bv 1 1,bv 0 0,bt 4 (r8 39)]) (.both (.fresh 47 (.post 3 0 (sg 0 [bv 9 41,bv 8 42,bv 7 41,bv 6 2,bg 5 40,bv 3 5,bv 2 2,bv 1 1,bv 0 0,bt 4 (r8 39)]) 47 (.br (.cmp .neq (.var 47) (.lit 0))
 (.stuck 7 0 0)
 (.pre 5 (sg 0 [bg 5 46,bv 4 44,bv 3 45,bv 2 44,bv 1 2,bg 0 43]) (.both (.fresh 48 (.fresh 49 (.fresh 50 (.fresh 51 (.post 5 0 (sg 0 [bg 5 46,bv 4 44,bv 3 45,bv 2 44,bv 1 2,bg 0 43]) 48 (.fresh 52 (.inv 0 53 (sg 1000 [bg 1020 46,bg 1019 51,bt 1017 .dnil,bv 1014 50,bv 1010 45,bv 1007 42,bv 1006 41,bg 1005 40,bt 1004 (r8 39),bv 1002 37,bt 1016 (.lit 0),bt 1018 (.lit 0),bg 1015 52,bv 1013 49,bv 1012 2,bg 1011 48,bv 1009 44,bg 1008 43,bg 1003 38,bg 1001 36,bg 1000 35]) (.fresh 53 (.fresh 54 (.fresh 55 (.fresh 56 (.fresh 57 (.fresh 58 (.fresh 59 (.fresh 60 (.fresh 61 (.fresh 62 (.fresh 63 (.fresh 64 (.fresh 65 (.fresh 66 (.fresh 67 (.fresh 68 (.fresh 69 (.fresh 70 (.fresh 71 (.fresh 72 (.fresh 73 o_rstA)))))))))))))))))))))))))))) .top))))) .top)))))))))))))))))))))) .top)))))))))))
theorem o_lawRestores_eq:treeOf ⟨Tryd.prog,lawRestoresC,[knownC,newFieldC,makeGC,checkMC,mineB,mineA,asmC,regC,checkPC],[rstA,rstB,rstJ1]⟩ 100000 Tryd.f20 = o_lawRestores:=by kernel_rfl
theorem lawRestores_of (hd:∀ c ∈ ([knownC,newFieldC,makeGC,checkMC,mineB,mineA,asmC,regC,checkPC]:List Ctr),c.ok Tryd.prog) (h:∀ ρ:Env,ρ.good→(lawRestoresC).pre ρ→o_lawRestores.den ⟨Tryd.prog,lawRestoresC,[knownC,newFieldC,makeGC,checkMC,mineB,mineA,asmC,regC,checkPC],[rstA,rstB,rstJ1]⟩ ρ):(lawRestoresC).ok Tryd.prog :=
 ok_of_tree Tryd.func20 (fun a w=>Tryd.call20 a w) hd 100000 (fun ρ hg hp=>by rw [o_lawRestores_eq]; exact h ρ hg hp)
end Go.Proofs

set_option linter.unusedSimpArgs false
set_option linter.unusedVariables false
namespace Go.Proofs
open Go Go.Eng
section
theorem mix_toF {f:Nat→List Int} {rs:List Int} {l k c:Nat} {x:Int} (hr:rs.length = k) (hf:∀ j,j < k→(f j).length = l∧bytesL (f j)) (hc:c < l) :
  toF ((mixN f (wgtL rs x) l k).getD c 0) = fsum (fun j=>fmul (lagF k (fun m=>toF (rs.getD m 0)) (toF x) j) (toF ((f j).getD c 0))) k:=by
 obtain ⟨_,_,h3⟩:=mixN_facts (w:=wgtL rs x) wgt_byte k hf
 rw [h3 c hc]
 exact fsum_congr fun j hj=>by rw [wgt_at (by omega),hr]
variable {k total:Nat} {data:List Int}
theorem enc_poly (h1:1 ≤ k) (hk:k ≤ total) (ht:total ≤ 255) (hb:bytesL data) {c:Nat} (hc:c < pieceLen k data.length):∃ y:Nat→F,∀ r,r < total→toF ((encP k total data r).getD c 0) = pval k y (xsF r):=by
 obtain ⟨y,hy,hL⟩:=poly_thru (k:=k) (xs:=xsF) (v:=fun j=>toF ((encP k total data j).getD c 0)) h1 (xs_distinct (by omega))
 refine ⟨y,fun r hr=>?_⟩
 rw [hL,← enc_mix h1 hk ht hb hr (f:=encP k total data) (fun j _=>rfl),mix_toF first_len (fun j hj=>⟨(enc_facts h1 hk ht hb j).1,(enc_facts h1 hk ht hb j).2.1⟩) hc]
 exact fsum_congr fun j hj=>by
  rw [lagF_congr (ys:=xsF) hj fun m hm=>by rw [first_get hm]; rfl]
  rfl
theorem enc_val {rs:List Int} (hch:chooseOk k total rs) (h1:1 ≤ k) (hk:k ≤ total) (ht:total ≤ 255) (hb:bytesL data) {f:Nat→List Int} (hf:∀ j,j < k→f j = encP k total data (rs.getD j 0).toNat) {x:Nat} (hx:x < total) :
  mixN f (wgtL rs (x:Int)) (pieceLen k data.length) k = encP k total data x:=by
 have hfl:∀ j,j < k→(f j).length = pieceLen k data.length∧bytesL (f j):=fun j hj=>by
  rw [hf j hj]; exact ⟨(enc_facts h1 hk ht hb _).1,(enc_facts h1 hk ht hb _).2.1⟩
 obtain ⟨a1,a2,_⟩:=mixN_facts (w:=wgtL rs (x:Int)) wgt_byte k hfl
 obtain ⟨b1,b2,_⟩:=enc_facts h1 hk ht hb x
 refine list_ext_getD (by omega) fun c hc=>toF_inj (bytesL_get a2 c) (bytesL_get b2 c) ?_
 rw [a1] at hc
 obtain ⟨y,hy⟩:=enc_poly h1 hk ht hb hc
 rw [mix_toF hch.1 hfl hc,hy x hx,show xsF x = toF (x:Int) from rfl,lagrange (chosen_dist hch ht)]
 refine fsum_congr fun j hj=>?_
 have hlt:(rs.getD j 0).toNat < total:=by
  have h2:=hch.1
  have h3:=hch.2.2 (rs.getD j 0) (getD_mem (by omega))
  omega
 rw [hf j hj,hy _ hlt,← chosen_xs hch hj]
theorem catN_seg {L:List Int} {l:Nat}:∀ {n:Nat},n * l ≤ L.length→catN (fun i=>seg L (i * l) l) n = L.take (n * l)
 | 0,_=>by simp [catN]
 | n + 1,h=>by
  rw [Nat.add_mul,Nat.one_mul] at h
  rw [catN,catN_seg (by omega),Nat.add_mul,Nat.one_mul,List.take_add]
  rfl
theorem enc_cat {k total:Nat} {data:List Int} (h1:1 ≤ k) (hk:k ≤ total) (ht:total ≤ 255) (hb:bytesL data):catN (encP k total data) k = fullL data (k * pieceLen k data.length):=by
 rw [catN_congr fun j hj=>enc_seg h1 hk ht hb hj,catN_seg (by rw [(full_facts hb (pieceLen_ge' (by omega))).1]; exact Nat.le_refl _),List.take_of_length_le (by rw [(full_facts hb (pieceLen_ge' (by omega))).1]; exact Nat.le_refl _)]
theorem full_take {data:List Int} {n:Nat}:(fullL data n).take data.length = data:=by
 simp [fullL]
end
section
variable {h:Hp} {P:Rows'} {k n t s l:Int} {data:List Int} {G:Rows'}
theorem idx_at {D:Rows'} {m j:Nat} (hj:j < m):(idxL D m).getD j 0 = pcI D j:=by
 unfold idxL
 rw [List.getD_eq_getElem?_getD,List.getElem?_map,List.getElem?_range hj]; rfl
theorem sub_choose {f:Nat→List Int} (hs:subP h P k.toNat t f) (hd:(idxL P k.toNat).Nodup) (t0:0 ≤ t):chooseOk k.toNat t.toNat (idxL P k.toNat):=by
 refine ⟨by simp [idxL],hd,fun x hx=>?_⟩
 obtain ⟨j,hj,rfl⟩:=List.mem_map.1 hx
 have:=(hs.2.2 j (List.mem_range.1 hj)).1
 omega
theorem sub_dec (k1:1 ≤ k) (kt:k ≤ t) (t1:t ≤ 255) (hb:bytesL data) (hs:subP h P k.toNat t (encP k.toNat t.toNat data)) (hd:(idxL P k.toNat).Nodup) :
  (∀ j,j < k.toNat→pcN h P j = pieceLen k.toNat data.length)∧(∀ x:Int,0 ≤ x→x < t→valLr h P k.toNat x = encP k.toNat t.toNat data x.toNat)∧(decL h P k.toNat).take data.length = data:=by
 have hc:=sub_choose hs hd (by omega)
 have hL:∀ j,j < k.toNat→pcN h P j = pieceLen k.toNat data.length:=fun j hj=>by
  unfold pcN
  rw [(hs.2.2 j hj).2,(enc_facts (by omega) (by omega) (by omega) hb _).1]
 have hval:∀ x:Int,0 ≤ x→x < t→valLr h P k.toNat x = encP k.toNat t.toNat data x.toNat:=fun x x0 x1=>by
  have:=enc_val (x:=x.toNat) hc (by omega) (by omega) (by omega) hb (f:=pcD h P) (fun j hj=>by rw [idx_at hj]; exact (hs.2.2 j hj).2) (by omega)
  rw [Int.toNat_of_nonneg x0] at this
  unfold valLr
  rw [hL 0 (by omega),this]
 refine ⟨hL,hval,?_⟩
 rw [decL,catN_congr (g:=encP k.toNat t.toNat data) fun j hj=>by rw [hval _ (by omega) (by omega)]; simp,enc_cat (by omega) (by omega) (by omega) hb,full_take]
theorem made_get {f:Nat→List Int} {m:Nat} {x:Int} (x0:0 ≤ x) (x1:x < m):(madeAt f m).getD x.toNat [] = sha (pieceIn x ++ f x.toNat):=by
 unfold madeAt
 rw [List.getD_eq_getElem?_getD,List.getElem?_map,List.getElem?_range (by omega)]
 simp only [Option.map_some,Option.getD_some]
 rw [Int.toNat_of_nonneg x0]
theorem made_chk {x:Int} {m:List Int} (hM:manOk k n t s l = true) (hb:bytesL data) (hsz:s = data.length) (hG:dgs G = madeAt (encP k.toNat t.toNat data) t.toNat) (x0:0 ≤ x) (x1:x < t) (hm:m = encP k.toNat t.toNat data x.toNat):chkE k n t s l (dgs G) x m = 0:=by
 obtain ⟨k1,k2,k3,k4,s0,s1,htl⟩:=manOk_iff.1 hM
 have hl:(m.length:Int) = plenI k s:=by
  rw [hm,(enc_facts (by omega) (by omega) (by omega) hb _).1,plenI_eq k1 s0,hsz]
  unfold plI
  simp
 have hS:sha (pieceIn x ++ m) = (dgs G).getD x.toNat []:=by rw [hm,hG,made_get x0 (by omega)]
 rw [chkE,if_neg (by rw [hM]; decide),if_neg (by omega),if_neg (fun h=>h hl),if_neg (fun h=>h hS)]
theorem sub_chks (hM:manOk k n t s l = true) (hb:bytesL data) (hsz:s = data.length) (hG:dgs G = madeAt (encP k.toNat t.toNat data) t.toNat) (hs:subP h P k.toNat t (encP k.toNat t.toNat data)) (hd:(idxL P k.toNat).Nodup) :
  chksP (chkF k n t s l (dgs G) h P) (pcI P) P.length k 0:=by
 obtain ⟨k1,k2,k3,k4,s0,s1,htl⟩:=manOk_iff.1 hM
 rw [hs.1]
 refine .inr ⟨fun j hj=>⟨made_chk hM hb hsz hG (hs.2.2 j hj).1.1 (hs.2.2 j hj).1.2 (hs.2.2 j hj).2,fun i hi he=>?_⟩,.inr ⟨by omega,rfl⟩⟩
 have h1:=List.pairwise_map.1 (List.nodup_iff_pairwise_ne.1 hd)
 have h2:=List.pairwise_iff_getElem.1 h1 i j (by simp; omega) (by simp; omega) hi
 rw [List.getElem_range,List.getElem_range] at h2
 exact h2 he
theorem out_zero {M:Bool} {C:Int→Prop} {D O:List Int} {e:Int} (hM:M = true) (hC:∀ x,C x→x = 0) (hs:sha D = O) (a:outR M C D O e):e = 0:=by
 rcases a with ⟨a,a1⟩ | ⟨a,a1,a2⟩ | ⟨a,a1,⟨a2,a3⟩ | ⟨a2,a3⟩⟩
 ·rw [hM] at a; cases a
 ·exact hC _ a1
 ·exact (a2 hs).elim
 ·exact a3
end
section
variable {h h':Hp} {D S L:Rows'} {n i:Nat} {t:Int} {f:Nat→List Int}
def gdRow (h:Hp) (t:Int) (f:Nat→List Int) (row:List Value):Prop:=∃ x v d,row = [.int .i64 x,v]∧Rd h kB v d∧allB d∧(0 ≤ x∧x < t)∧bI d = f x.toNat
theorem sub_iff:subP h D n t f↔D.length = n∧∀ row ∈ D,gdRow h t f row:=by
 constructor
 ·rintro ⟨hl,hp,hx⟩
  refine ⟨hl,fun row hr=>?_⟩
  obtain ⟨j,hj,rfl⟩:=List.getElem_of_mem hr
  obtain ⟨v,d,e,_,hr,hB,hd⟩:=pc_at hp (show j < n by omega)
  obtain ⟨a,b⟩:=hx j (by omega)
  rw [List.getElem?_eq_getElem hj] at e
  exact ⟨_,v,d,Option.some.inj e,hr,hB,a,by rw [← hd,b]⟩
 ·rintro ⟨hl,hg⟩
  have hat:∀ j,j < n→∃ x v d,D[j]? = some [.int .i64 x,v]∧Rd h kB v d∧allB d∧(0 ≤ x∧x < t)∧bI d = f x.toNat:=fun j hj=>by
   obtain ⟨x,v,d,e,r⟩:=hg D[j] (List.getElem_mem (by omega))
   exact ⟨x,v,d,by rw [List.getElem?_eq_getElem (by omega),e],r⟩
  refine ⟨hl,fun j hj=>?_,fun j hj=>?_⟩
  ·obtain ⟨x,v,d,e,hr,hB,_⟩:=hat j hj
   exact ⟨x,v,d,e,hr,hB⟩
  ·obtain ⟨x,v,d,e,hr,hB,hx,hd⟩:=hat j hj
   obtain ⟨a,b⟩:=pc_cell e hr
   rw [a,b]; exact ⟨hx,hd⟩
theorem gd_mono {row:List Value} (hg:gdRow h t f row) (hl:Hp.le h h'):gdRow h' t f row:=by
 obtain ⟨x,v,d,e,hr,r⟩:=hg
 exact ⟨x,v,d,e,Rd_mono hr hl,r⟩
theorem sub_mono (hs:subP h D n t f) (hl:Hp.le h h'):subP h' D n t f:=by
 rw [sub_iff] at hs ⊢
 exact ⟨hs.1,fun row hr=>gd_mono (hs.2 row hr) hl⟩
theorem idx_map (hl:D.length = n):idxL D n = D.map fun r=>rowI r 0:=by
 refine List.ext_getElem? fun i=>?_
 by_cases hi:i < n
 ·rw [idxL,List.getElem?_map,List.getElem?_range hi,List.getElem?_map,List.getElem?_eq_getElem (by omega)]
  simp [pcI,cellI,cellV,rowI,List.getElem?_eq_getElem (show i < D.length by omega)]
 ·rw [List.getElem?_eq_none (by simp [idxL]; omega),List.getElem?_eq_none (by simp; omega)]
theorem sub_step {j o m:Int} (hS:subP h S i t f) (hL:subP h L n t f) (hd:(idxL S i ++ idxL L n).Nodup) (hle:Hp.le h h') (j0:0 ≤ j) (j1:j < n) (hm:m = n - (j + 1)) (ho:m = 0∨o = j + 1) :
  subP h' (S ++ [[.int .i64 (cellI L j 0),cellV L j 1]]) (i + 1) t f∧subP h' (L.take j.toNat ++ (L.drop o.toNat).take m.toNat) (n - 1) t f ∧
  (idxL (S ++ [[.int .i64 (cellI L j 0),cellV L j 1]]) (i + 1) ++ idxL (L.take j.toNat ++ (L.drop o.toNat).take m.toNat) (n - 1)).Nodup:=by
 have hSn:=hS.1
 have hLn:=hL.1
 have hj:j.toNat < L.length:=by omega
 have hrow:L[j.toNat] = [.int .i64 (cellI L j 0),cellV L j 1]:=by
  obtain ⟨v,d,e,e2,_⟩:=pc_at hL.2.1 (show j.toNat < n by omega)
  rw [List.getElem?_eq_getElem hj] at e
  have e:=Option.some.inj e
  have h1:cellI L j 0 = pcI L j.toNat:=by unfold pcI; rw [Int.toNat_of_nonneg j0]
  have h2:cellV L j 1 = v:=by rw [Int.toNat_of_nonneg j0] at e2; exact e2
  rw [e,h1,h2]
 have hdr:(L.drop o.toNat).take m.toNat = L.drop (j.toNat + 1):=by
  rcases ho with ho | ho
  ·rw [ho,List.drop_eq_nil_of_le (show L.length ≤ j.toNat + 1 by omega)]; simp
  ·rw [ho,show (j + 1).toNat = j.toNat + 1 by omega,List.take_of_length_le (by rw [List.length_drop]; omega)]
 rw [hdr,← hrow]
 have hlen:(L.take j.toNat ++ L.drop (j.toNat + 1)).length = n - 1:=by rw [List.length_append,List.length_take,List.length_drop]; omega
 rw [sub_iff] at hS hL
 refine ⟨sub_iff.2 ⟨by rw [List.length_append,hSn]; rfl,fun row hr=>?_⟩,sub_iff.2 ⟨hlen,fun row hr=>?_⟩,?_⟩
 ·rcases List.mem_append.1 hr with hr | hr
  ·exact gd_mono (hS.2 row hr) hle
  ·rw [List.mem_singleton.1 hr]; exact gd_mono (hL.2 _ (List.getElem_mem hj)) hle
 ·rcases List.mem_append.1 hr with hr | hr
  ·exact gd_mono (hL.2 row (List.mem_of_mem_take hr)) hle
  ·exact gd_mono (hL.2 row (List.mem_of_mem_drop hr)) hle
 ·rw [idx_map hSn,idx_map hLn] at hd
  rw [idx_map hlen,idx_map (by rw [List.length_append,hSn]; rfl)]
  have hsp:L.map (fun r=>rowI r 0) = (L.take j.toNat).map (fun r=>rowI r 0) ++ rowI L[j.toNat] 0 :: (L.drop (j.toNat + 1)).map (fun r=>rowI r 0):=by
   conv=>lhs; rw [← List.take_append_drop j.toNat L,List.drop_eq_getElem_cons hj]
   rw [List.map_append,List.map_cons]
  rw [hsp] at hd
  refine (List.Perm.nodup_iff ?_).1 hd
  rw [List.map_append,List.map_append,List.map_cons,List.map_nil,List.append_assoc]
  exact List.Perm.append_left _ List.perm_middle
end
section
variable {h h0:Hp} {P P0 G R:Rows'} {k n t s l x e y m:Int} {data O:List Int} {N N':Nat}
theorem sub_same {f:Nat→List Int} {i:Nat} (hS:subP h0 P0 i t f) (hs:samePc h h0 P P0 N N') (hp:pcOk h P i) (hN:N = P0.length) (hl:P.length = P0.length):subP h P i t f :=
 ⟨by rw [hl,hS.1],hp,fun j hj=>by
  have:=hs.2 j (by rw [hN,hS.1]; exact hj)
  rw [this.1,this.2]; exact hS.2.2 j hj⟩
theorem same_idx {f:Nat→List Int} {i:Nat} (hS:subP h0 P0 i t f) (hs:samePc h h0 P P0 N N') (hN:N = P0.length):idxL P i = idxL P0 i :=
 idxL_congr fun j hj=>(hs.2 j (by rw [hN,hS.1]; exact hj)).1
theorem rst_reg (a:regS (manOk k n t s l) (chksP (chkF k n t s l (dgs G) h P) (pcI P) P.length k) x t e y m (valLr h P k.toNat x) ((dgs G)[x.toNat]?.getD []) R) (hp:pcOk h P P0.length) (hs:samePc h h0 P P0 N N') (hl:P.length = P0.length)
  (hM:manOk k n t s l = true) (hb:bytesL data) (hsz:s = data.length) (hG:dgs G = madeAt (encP k.toNat t.toNat data) t.toNat) (hS:subP h0 P0 k.toNat t (encP k.toNat t.toNat data)) (hNd:(idxL P0 k.toNat).Nodup) (hN:N = P0.length) (x0:0 ≤ x) (x1:x < t) :
  e = 0∧y = x∧m = R.length∧allB R∧bI R = encP k.toNat t.toNat data x.toNat∧m ≤ 100000000:=by
 obtain ⟨k1,k2,k3,k4,s0,s1,htl⟩:=manOk_iff.1 hM
 have hS':=sub_same hS hs (by rw [← hS.1]; exact hp) hN hl
 have hNd':(idxL P k.toNat).Nodup:=by rw [same_idx hS hs hN]; exact hNd
 have hC:=sub_chks (n:=n) (l:=l) hM hb hsz hG hS' hNd'
 obtain ⟨hL,hV,_⟩:=sub_dec k1 (by omega) k4 hb hS' hNd'
 have hO:sha (pieceIn x ++ valLr h P k.toNat x) = (dgs G)[x.toNat]?.getD []:=by
  rw [hV x x0 x1,← List.getD_eq_getElem?_getD,hG,made_get x0 (by omega)]
 have he:e = 0:=out_zero (by rw [hM,decide_eq_true ⟨x0,x1⟩]; rfl) (fun z hz=>chks_uniq hz hC) hO a.1
 obtain ⟨_,_,_,_,q1,q2,q3,q4⟩:=regS_ok0 a he
 have hlen:(bI R).length = pcN h P 0:=by rw [q4]; exact val_len
 have hp:=pieceLen_le (k:=k.toNat) (n:=data.length) (by omega)
 refine ⟨he,q1,q2,q3,by rw [q4,hV x x0 x1],?_⟩
 rw [q2,← bI_len,hlen,hL 0 (by omega)]
 omega
theorem rst_asm (a:asmS (manOk k n t s l) (chksP (chkF k n t s l (dgs G) h P) (pcI P) P.length k) s e m ((decL h P k.toNat).take s.toNat) O R) (hp:pcOk h P P0.length) (hs:samePc h h0 P P0 N N') (hl:P.length = P0.length)
  (hM:manOk k n t s l = true) (hb:bytesL data) (hsz:s = data.length) (hG:dgs G = madeAt (encP k.toNat t.toNat data) t.toNat) (hS:subP h0 P0 k.toNat t (encP k.toNat t.toNat data)) (hNd:(idxL P0 k.toNat).Nodup) (hN:N = P0.length) (hO:O = sha data) :
  e = 0∧0 ≤ m∧m ≤ R.length∧bI (R.take m.toNat) = data:=by
 obtain ⟨k1,k2,k3,k4,s0,s1,htl⟩:=manOk_iff.1 hM
 have hS':=sub_same hS hs (by rw [← hS.1]; exact hp) hN hl
 have hNd':(idxL P k.toNat).Nodup:=by rw [same_idx hS hs hN]; exact hNd
 have hC:=sub_chks (n:=n) (l:=l) hM hb hsz hG hS' hNd'
 obtain ⟨hL,hV,hD⟩:=sub_dec k1 (by omega) k4 hb hS' hNd'
 have hD':(decL h P k.toNat).take s.toNat = data:=by rw [hsz,Int.toNat_natCast]; exact hD
 rw [hD'] at a
 have he:e = 0:=out_zero hM (fun z hz=>chks_uniq hz hC) hO.symm a.1
 subst he
 obtain ⟨_,⟨a1,_⟩ | ⟨_,_,a3,a4,_,a6⟩⟩:=a
 ·exact (a1 rfl).elim
 ·exact ⟨rfl,a3,a4,a6⟩
theorem rst_chk {v z:Int} {m':List Int} (hv:v = chkE k n t s l (dgs G) z m') (hz:z = x) (hm:m' = encP k.toNat t.toNat data x.toNat) (hM:manOk k n t s l = true) (hb:bytesL data) (hsz:s = data.length) (hG:dgs G = madeAt (encP k.toNat t.toNat data) t.toNat) (x0:0 ≤ x) (x1:x < t):v = 0:=by
 rw [hv,hz]; exact made_chk hM hb hsz hG x0 x1 hm
theorem star_leT {ρ:Env} {l:List SH} {H:Hp} (n t:Nat) (hs:star ρ l H) (hm:SH.abs n t ∈ l):Hp.le (ρ n).h H:=by
 obtain ⟨hb,lb,db⟩:=star_mem_abs hs hm
 exact Hp.le_trans db lb
theorem made_len {f:Nat→List Int} {c:Nat} (h:dgs G = madeAt f c):G.length = c:=by
 have:=congrArg List.length h
 simpa [dgs,madeAt] using this
end
theorem rem_small {x n:Int} (n1:1 ≤ n) (n2:n ≤ 1000000):- n < arithOf .rem .i64 x n∧arithOf .rem .i64 x n < n:=by
 exact ⟨Int.lt_tmod_of_pos x (by omega),Int.tmod_lt_of_pos x (by omega)⟩
theorem sub_stepI {h h':Hp} {S L:Rows'} {i n j o m i' n':Int} {t:Int} {f:Nat→List Int} (hS:subP h S i.toNat t f) (hL:subP h L n.toNat t f) (hd:(idxL S i.toNat ++ idxL L n.toNat).Nodup) (hle:Hp.le h h') (i0:0 ≤ i) (j0:0 ≤ j) (j1:j < n) (hm:m = n - (j + 1)) (ho:m = 0∨o = j + 1) (hi':i' = i + 1) (hn':n' = n - 1) :
  subP h' (S ++ [[.int .i64 (cellI L j 0),cellV L j 1]]) i'.toNat t f∧subP h' (L.take j.toNat ++ (L.drop o.toNat).take m.toNat) n'.toNat t f ∧
  (idxL (S ++ [[.int .i64 (cellI L j 0),cellV L j 1]]) i'.toNat ++ idxL (L.take j.toNat ++ (L.drop o.toNat).take m.toNat) n'.toNat).Nodup:=by
 rw [show i'.toNat = i.toNat + 1 by omega,show n'.toNat = n.toNat - 1 by omega]
 exact sub_step hS hL hd hle j0 (by omega) (by omega) ho
section
variable {h h':Hp} {S L:Rows'} {i n j i':Int} {t:Int} {f:Nat→List Int}
theorem sub_takeI (hS:subP h S i.toNat t f) (hL:subP h L n.toNat t f) (hd:(idxL S i.toNat ++ idxL L n.toNat).Nodup) (hle:Hp.le h h') (i0:0 ≤ i) (j0:0 ≤ j) (j1:j < n) (hi':i' = i + 1) :
  subP h' (S ++ [[.int .i64 (cellI L j 0),cellV L j 1]]) i'.toNat t f :=
 (sub_stepI (o:=j + 1) (m:=n - (j + 1)) (n':=n - 1) hS hL hd hle i0 j0 j1 rfl (.inr rfl) hi' rfl).1
theorem sub_step0 {o:Int} (hS:subP h S i.toNat t f) (hL:subP h L n.toNat t f) (hd:(idxL S i.toNat ++ idxL L n.toNat).Nodup) (hle:Hp.le h h') (i0:0 ≤ i) (n1:1 ≤ n) (ho:n = 1∨o = 1) (hi':i' = i + 1) :
  subP h' ((L.drop o.toNat).take (n.toNat - 1)) (n.toNat - 1) t f∧(idxL (S ++ [[.int .i64 (cellI L 0 0),cellV L 0 1]]) i'.toNat ++ idxL ((L.drop o.toNat).take (n.toNat - 1)) (n.toNat - 1)).Nodup:=by
 have:=(sub_stepI (j:=0) (o:=o) (m:=n - (0 + 1)) (n':=n - 1) hS hL hd hle i0 (by omega) (by omega) rfl (by omega) hi' rfl).2
 rw [show (n - (0 + 1)).toNat = n.toNat - 1 by omega,show (n - 1).toNat = n.toNat - 1 by omega] at this
 simpa using this
end
section
variable {h h0:Hp} {D D0 G:Rows'} {T:Nat} {t:Int} {f:Nat→List Int} {N N' M:Nat}
theorem sub_all (hp:pcOk h D M) (hs:samePc h h0 D D0 N N') (hE:encAt h0 D0 T f) (hl0:D0.length = T) (hl:D.length = D0.length) (hM:M = D0.length) (hN:N = D0.length) (ht:(T:Int) ≤ t):subP h D T t f∧(idxL D T).Nodup:=by
 have he:=(enc_pc hE).2
 have hat:∀ j,j < T→pcI D j = j∧pcD h D j = f j:=fun j hj=>by
  have h1:=hs.2 j (by omega)
  have h2:=he j hj
  exact ⟨h1.1.trans h2.1,h1.2.trans h2.2⟩
 refine ⟨⟨by omega,by rw [show T = M by omega]; exact hp,fun j hj=>?_⟩,?_⟩
 ·obtain ⟨a,b⟩:=hat j hj
  rw [a,b]; exact ⟨by omega,by simp⟩
 ·refine nodup_map fun j hj j' hj' hne=>?_
  rw [(hat j hj).1,(hat j' (by omega)).1] at hne
  omega
theorem enc_len9 {k n:Nat} {data:List Int} {j:Nat} (hE:encAt h D T (encP k n data)) (hj:j < T) (h1:1 ≤ k) (hk:k ≤ n) (ht:n ≤ 255) (hb:bytesL data) (hl:data.length ≤ 2000):(pcD h D j).length ≤ 9000:=by
 rw [((enc_pc hE).2 j hj).2,(enc_facts h1 hk ht hb j).1]
 have:=pieceLen_le (k:=k) (n:=data.length) (by omega)
 omega
theorem chk0 {v:Int} {b:Bool} (h:v = if b = true then 0 else 2) (hb:b = true):v = 0:=by rw [h,if_pos hb]
theorem nd_nil (h:(idxL D T).Nodup):(idxL ([]:Rows') 0 ++ idxL D T).Nodup:=h
theorem sub_nil:subP h [] 0 t f:=⟨rfl,fun j hj=>by omega,fun j hj=>by omega⟩
end
end Go.Proofs

set_option linter.unusedSimpArgs false
set_option linter.unusedVariables false
namespace Go.Proofs
open Go Go.Eng
theorem makeG_ok:makeGC.ok Tryd.prog:=by
 refine ⟨make_ok.1,fun ρ w hF hO hg hd hw hs hro hp=>?_⟩
 obtain ⟨hp,hs3,h8⟩:=hp
 refine (make_ok.2 ρ w hF hO hg hd hw hs hro hp).mono fun e w' h=>?_
 obtain ⟨ai,al,ρ',h1,h2,hρ,h4,hpost,h6⟩:=h
 match ai,h1 with
 | 0,h1 =>
  obtain rfl:=(Option.some.inj h1).symm
  exfalso
  have e2:=hρ 2 (by decide)
  have e3:=hρ 3 (by decide)
  have e4:=hρ 4 (by decide)
  have e6:=hρ 6 (by decide)
  obtain ⟨_,⟨h1,_⟩ | ⟨_,h1,_⟩⟩:=hpost
  ·change sizes3 (ρ' 2).i (ρ' 3).i (ρ' 4).i = false at h1
   rw [e2,e3,e4,hs3] at h1; cases h1
  ·change 8192 < (ρ' 6).i at h1
   rw [e6] at h1; omega
 | 1,h1 =>
  obtain rfl:=(Option.some.inj h1).symm
  exact ⟨0,_,ρ',rfl,h2,hρ,h4,hpost,h6⟩
 | ai + 2,h1=>simp [makeC] at h1
set_option maxRecDepth 20000
theorem mineA_ok:mineA.ok Tryd.prog:=mineA_of (by simp) fun ρ hg hp=>by
 obtain ⟨⟨p0,p1,hpc⟩,hn,h1,h9⟩:=hp
 simp (config:={ maxSteps:=4000000 }) [o_mineA,mineA,mineT,mineC,mineAI,mineTI,mineI]
 intro u _ u1 _ hst
 refine ⟨⟨p0,fun j hj=>by omega,rfl,fun j hj=>by omega⟩,?_⟩
 intro a _ n _ c _ D _ h _ u7 _ n0 n1 hnl hpD hsD
 refine ⟨p0,fun hi=>⟨n0,by omega,fun u8 _=>?_⟩,fun hi=>⟨by omega,by omega,?_,?_⟩⟩
 ·obtain ⟨hj,hI,d,hr,hB,hDd⟩:=pc_atI hpc n0 hi
  have hdl:d.length ≤ 9000:=by
   have:=h9 n.i.toNat (by omega)
   rwa [hDd,bI_len] at this
  refine ⟨d,.inr hr,fun v18 _ v19 _=>⟨by omega,fun u9 _ u10 _ u11 _=>⟨hnl,by omega,fun u12 _ u13 _ u14 _ hs=>?_⟩⟩⟩
  obtain ⟨ha,la,da⟩:=star_mem hs (List.mem_cons_of_mem _ (List.mem_cons_self ..))
  obtain ⟨hb,lb,db⟩:=star_mem_abs hs (n:=12) (t:=2) (by simp)
  have hrd:=arr_Rd (n:=d.length) (k:=u10.i.toNat) da la (by simp) (by simp)
  obtain ⟨q1,q2⟩:=pc_snoc (d:=d) (x:=cellI (ρ 3).d n.i 0) hpD hsD (by omega) (Hp.le_trans (by simpa using db) lb) (by simpa [kB] using hrd) hB hI hDd.symm
  rw [add64 (x:=n.i) (by omega) (by omega),show (n.i + 1).toNat = n.i.toNat + 1 by omega]
  exact ⟨rfl,⟨by omega,by omega,hnl,q1,q2⟩,by omega⟩
 ·rw [← show n.i.toNat = (ρ 3).d.length by omega]; exact hpD
 ·rw [← show n.i.toNat = (ρ 3).d.length by omega]; exact hsD
theorem mineB_ok:mineB.ok Tryd.prog:=mineB_of (by simp) fun ρ hg hp=>by
 obtain ⟨⟨p0,p1,hpc⟩,hn,h1,h9⟩:=hp
 simp (config:={ maxSteps:=4000000 }) [o_mineB,mineB,mineT,mineC,mineBI,mineTI,mineI]
 intro u _ u1 _ hst
 refine ⟨⟨p0,fun j hj=>by omega,rfl,fun j hj=>by omega⟩,?_⟩
 intro a _ n _ c _ D _ h _ u7 _ n0 n1 hnl hpD hsD
 refine ⟨p0,fun hi=>⟨n0,by omega,fun u8 _=>?_⟩,fun hi=>⟨by omega,by omega,?_,?_⟩⟩
 ·obtain ⟨hj,hI,d,hr,hB,hDd⟩:=pc_atI hpc n0 hi
  have hdl:d.length ≤ 9000:=by
   have:=h9 n.i.toNat (by omega)
   rwa [hDd,bI_len] at this
  refine ⟨d,.inr hr,fun v18 _ v19 _=>⟨by omega,fun u9 _ u10 _ u11 _=>⟨hnl,by omega,fun u12 _ u13 _ u14 _ hs=>?_⟩⟩⟩
  obtain ⟨ha,la,da⟩:=star_mem hs (List.mem_cons_of_mem _ (List.mem_cons_self ..))
  obtain ⟨hb,lb,db⟩:=star_mem_abs hs (n:=12) (t:=4) (by simp)
  have hrd:=arr_Rd (n:=d.length) (k:=u10.i.toNat) da la (by simp) (by simp)
  obtain ⟨q1,q2⟩:=pc_snoc (d:=d) (x:=cellI (ρ 3).d n.i 0) hpD hsD (by omega) (Hp.le_trans (by simpa using db) lb) (by simpa [kB] using hrd) hB hI hDd.symm
  rw [add64 (x:=n.i) (by omega) (by omega),show (n.i + 1).toNat = n.i.toNat + 1 by omega]
  exact ⟨rfl,⟨by omega,by omega,hnl,q1,q2⟩,by omega⟩
 ·rw [← show n.i.toNat = (ρ 3).d.length by omega]; exact hpD
 ·rw [← show n.i.toNat = (ρ 3).d.length by omega]; exact hsD
end Go.Proofs

set_option linter.unusedSimpArgs false
set_option linter.unusedVariables false
namespace Go.Proofs
open Go Go.Eng
set_option maxRecDepth 100000
noncomputable abbrev rstE:Ctx:=⟨Tryd.prog,lawRestoresC,[knownC,newFieldC,makeGC,checkMC,mineA,mineB,asmC,regC,checkPC],[rstA,rstB,rstJ1]⟩
set_option maxHeartbeats 8000000 in
theorem rstB_den:∀ ρ:Env,lawRestoresC.pre ρ→o_rstB.den rstE ρ:=fun ρ hp=>by
 obtain ⟨⟨ik,i1,i2,i3,mk,m1,m2,m3,⟨dl,dl1,dB,dc⟩,hO,⟨ml,ml1,mD,mc⟩,⟨pl,pl1,pc,pok⟩,bl,bl1⟩,hGr,hGd⟩:=hp
 simp (config:={ maxSteps:=8000000 }) [o_rstB,lawRestoresC,lawTrue,knownC,newFieldC,makeGC,makeC,checkMC,mineA,mineB,mineT,mineC,asmC,regC,checkPC,chkAlts,chkPre,pieceArgIn,pieceArg,rstA,rstB,rstW,rstF,manP,psP,pcPre,manV,manT,cellsT,gOk,mOk,mChk,mF,asmD,regD,vStr_mk,hGr,hGd,dl,dB]
 intro k1 kn nt t20 dl20 bl60 hf hObj hGk hG hEl hE i0 i1 hS hNd hlt
 have hb:bytesL (bI (ρ 21).d):=allB_list dB
 have hGl:=made_len hG
 have hM:manOk (ρ 0).i (ρ 1).i (ρ 2).i ((ρ 21).d.length:Int) (ρ 2).i = true:=manOk_iff.2 ⟨k1,kn,nt,by omega,by omega,by omega,rfl⟩
 have hsz:((ρ 21).d.length:Int) = ((bI (ρ 21).d).length:Int):=by rw [bI_len]
 have hPl:=hS.1
 have hkl:(ρ 0).i = ((ρ 99).d.length:Int):=by omega
 have pk:=hS.2.1
 have h9:∀ j,j < (ρ 99).d.length→(pcD (ρ 101).h (ρ 99).d j).length ≤ 9000:=fun j hj=>by
  have h1:=(sub_dec k1 (by omega) (by omega) hb hS hNd).1 j (by omega)
  have h2:=pieceLen_le (k:=(ρ 0).i.toNat) (n:=(bI (ρ 21).d).length) (by omega)
  unfold pcN at h1
  omega
 obtain ⟨v,dd,e1,hRd,hdd,hBd⟩:=hE (ρ 100).i.toNat (by omega)
 have hcv:cellV (ρ 96).d (ρ 100).i 1 = v:=by simp only [cellV,e1,Option.getD_some]; rfl
 have ha:arithOf .add .i64 (ρ 100).i 1 = (ρ 100).i + 1:=add64 (by omega) (by omega)
 have hRd':Rd (ρ 102).h [CK.int .u8] v dd:=hRd
 have hk':(ρ 0).i.toNat = (ρ 99).d.length:=by omega
 simp only [ha,hcv]
 repeat' (first | with_reducible apply And.intro | with_reducible intro _ | with_reducible refine Exists.intro dd (And.intro (Or.inr (Or.inr (Or.inl hRd'))) ?_))
 all_goals first
  | assumption
  | omega
  | exact (rst_reg (by assumption) (by assumption) (by assumption) (by assumption) hM hb hsz hG hS hNd rfl i0 hlt).1
  | exact (rst_reg (by assumption) (by assumption) (by assumption) (by assumption) hM hb hsz hG hS hNd rfl i0 hlt).2.1
  | exact (rst_reg (by assumption) (by assumption) (by assumption) (by assumption) hM hb hsz hG hS hNd rfl i0 hlt).2.2.1
  | exact (rst_reg (by assumption) (by assumption) (by assumption) (by assumption) hM hb hsz hG hS hNd rfl i0 hlt).2.2.2.1
  | exact (rst_reg (by assumption) (by assumption) (by assumption) (by assumption) hM hb hsz hG hS hNd rfl i0 hlt).2.2.2.2.2
  | exact (by have:=(rst_reg (by assumption) (by assumption) (by assumption) (by assumption) hM hb hsz hG hS hNd rfl i0 hlt).2.2.1; omega)
  | exact (by unfold i64P; omega)
  | exact h9 _ (by assumption)
  | exact (by rw [hk']; assumption)
  | exact pc_len9 (by assumption) h9 (by assumption) rfl (by assumption)
  | exact (by
    obtain ⟨_,_,q,_,q4,_⟩:=rst_reg (by assumption) (by assumption) (by assumption) (by assumption) hM hb hsz hG hS hNd rfl i0 hlt
    rw [List.take_of_length_le (by omega),bytesOf_eq,bytesOf_eq,q4,hdd])
  | exact rst_chk (by assumption) (by assumption) (rst_reg (by assumption) (by assumption) (by assumption) (by assumption) hM hb hsz hG hS hNd rfl i0 hlt).2.2.2.2.1 hM hb hsz hG i0 hlt
  | exact sub_mono hS (by have h:=star_leT 101 2 (by assumption) (by simp); simpa using h)
end Go.Proofs

set_option linter.unusedSimpArgs false
set_option linter.unusedVariables false
namespace Go.Proofs
open Go Go.Eng
set_option maxRecDepth 100000
theorem rst_pre {ρ ρ':Env} (h:∀ n,n < 32→ρ' n = ρ n) (hp:lawRestoresC.pre ρ):lawRestoresC.pre ρ':=by
 change caseIn ρ'∧gOk ρ' 30 31 gR
 have hp:caseIn ρ∧gOk ρ 30 31 gR:=hp
 unfold caseIn gOk at hp ⊢
 simp only [h 0 (by decide),h 1 (by decide),h 2 (by decide),h 3 (by decide),h 5 (by decide),h 6 (by decide),h 7 (by decide),h 8 (by decide),h 9 (by decide),h 10 (by decide),h 11 (by decide),h 13 (by decide),h 14 (by decide),h 16 (by decide),h 17 (by decide),h 19 (by decide),h 20 (by decide),h 21 (by decide),h 23 (by decide),h 25 (by decide),h 27 (by decide),h 29 (by decide),h 30 (by decide),h 31 (by decide)]
 exact hp
set_option maxHeartbeats 8000000 in
theorem rstA_den:∀ ρ:Env,lawRestoresC.pre ρ→o_rstA.den rstE ρ:=fun ρ hp=>by
 have hp0:=hp
 obtain ⟨⟨ik,i1,i2,i3,mk,m1,m2,m3,⟨dl,dl1,dB,dc⟩,hO,⟨ml,ml1,mD,mc⟩,⟨pl,pl1,pc,pok⟩,bl,bl1⟩,hGr,hGd⟩:=hp
 simp (config:={ maxSteps:=8000000 }) [o_rstA,lawRestoresC,lawTrue,knownC,newFieldC,makeGC,makeC,checkMC,mineA,mineB,mineT,mineC,asmC,regC,checkPC,chkAlts,chkPre,pieceArgIn,pieceArg,rstA,rstB,rstW,rstF,manP,psP,pcPre,manV,manT,cellsT,gOk,mOk,mChk,mF,asmD,regD,vStr_mk,hGr,hGd,dl,dB]
 intro k1 kn nt t20 dl20 bl60 hf hObj hGk hG hEl hE i0 i1 hn hL hS hNd
 have hb:bytesL (bI (ρ 21).d):=allB_list dB
 have hGl:=made_len hG
 have hM:manOk (ρ 0).i (ρ 1).i (ρ 2).i ((ρ 21).d.length:Int) (ρ 2).i = true:=manOk_iff.2 ⟨k1,kn,nt,by omega,by omega,by omega,rfl⟩
 have hsz:((ρ 21).d.length:Int) = ((bI (ρ 21).d).length:Int):=by rw [bI_len]
 have hLl:=hL.1
 have hSl:=hS.1
 have hOm:allM (rowL (ρ 57).d 32):=by rw [hObj]; exact sha_allM _
 generalize hz:arithOf .rem .i64 (cellI (ρ 27).d (ρ 71).i 0) (ρ 65).i = z
 have ha:arithOf .add .i64 (ρ 71).i 1 = (ρ 71).i + 1:=add64 (by omega) (by omega)
 refine ⟨fun hlt=>?_,fun hge=>?_⟩
 ·have hzb:=rem_small (x:=cellI (ρ 27).d (ρ 71).i 0) (n:=(ρ 65).i) (by omega) (by omega)
  rw [hz] at hzb
  have e1:arithOf .add .i64 z (ρ 65).i = z + (ρ 65).i:=add64 (by omega) (by omega)
  have e2:arithOf .add .i64 (z + (ρ 65).i) 1 = z + (ρ 65).i + 1:=add64 (by omega) (by omega)
  have e3:arithOf .add .i64 z 1 = z + 1:=add64 (by omega) (by omega)
  simp only [ha,e1,e2,e3]
  repeat' (first | with_reducible apply And.intro | with_reducible intro _)
  all_goals first
   | assumption
   | omega
   | (rw [List.length_take]; omega)
   | (split <;> omega)
   | exact sub_takeI hS hL hNd (by have h:=star_leT 72 2 (by assumption) (by simp); simpa using h) i0 (by omega) (by omega) (by omega)
   | exact (sub_stepI hS hL hNd (by have h:=star_leT 72 2 (by assumption) (by simp); simpa using h) i0 (by omega) (by omega) (by omega) (by first | omega | (split <;> omega)) (by omega) (by omega)).2.1
   | exact (sub_stepI hS hL hNd (by have h:=star_leT 72 2 (by assumption) (by simp); simpa using h) i0 (by omega) (by omega) (by omega) (by first | omega | (split <;> omega)) (by omega) (by omega)).2.2
   | exact (sub_step0 hS hL hNd (by have h:=star_leT 72 2 (by assumption) (by simp); simpa using h) i0 (by omega) (by first | omega | (split <;> omega)) (by omega)).1
   | exact (sub_step0 hS hL hNd (by have h:=star_leT 72 2 (by assumption) (by simp); simpa using h) i0 (by omega) (by first | omega | (split <;> omega)) (by omega)).2
   | trivial
 ·have hik:(ρ 71).i = (ρ 0).i:=by omega
  have hSk:subP (ρ 72).h (ρ 70).d (ρ 0).i.toNat (ρ 2).i (encP (ρ 0).i.toNat (ρ 2).i.toNat (bI (ρ 21).d)):=by
   have h:=hS
   rw [hik] at h; exact h
  have hNk:(idxL (ρ 70).d (ρ 0).i.toNat).Nodup:=by
   have h:=(List.nodup_append.1 hNd).1
   rw [hik] at h; exact h
  have hk':(ρ 0).i.toNat = (ρ 70).d.length:=by omega
  have pk:=hSk.2.1
  have h9:∀ j,j < (ρ 70).d.length→(pcD (ρ 72).h (ρ 70).d j).length ≤ 9000:=fun j hj=>by
   have h1:=(sub_dec k1 (by omega) (by omega) hb hSk hNk).1 j (by omega)
   have h2:=pieceLen_le (k:=(ρ 0).i.toNat) (n:=(bI (ρ 21).d).length) (by omega)
   unfold pcN at h1
   omega
  simp only [hik]
  repeat' (first | with_reducible apply And.intro | with_reducible intro _)
  all_goals first
   | assumption
   | omega
   | exact rstB_den _ (rst_pre (fun n hn=>by repeat rw [Env.set_ne _ _ (by omega)]) hp0)
   | trivial
   | exact (rst_asm (by assumption) (by assumption) (by assumption) (by assumption) hM hb hsz hG hSk hNk rfl hObj).1
   | exact (rst_asm (by assumption) (by assumption) (by assumption) (by assumption) hM hb hsz hG hSk hNk rfl hObj).2.1
   | exact (rst_asm (by assumption) (by assumption) (by assumption) (by assumption) hM hb hsz hG hSk hNk rfl hObj).2.2.1
   | exact (by rw [bytesOf_eq,bytesOf_eq,(rst_asm (by assumption) (by assumption) (by assumption) (by assumption) hM hb hsz hG hSk hNk rfl hObj).2.2.2])
   | exact (by unfold i64P; omega)
   | exact h9 _ (by assumption)
   | exact (by rw [hk']; assumption)
   | exact pc_len9 (by assumption) h9 (by assumption) rfl (by assumption)
   | exact sub_mono hSk (by have h:=star_leT 72 2 (by assumption) (by simp); simpa using h)
end Go.Proofs

set_option linter.unusedSimpArgs false
set_option linter.unusedVariables false
namespace Go.Proofs
open Go Go.Eng
theorem top_of {k t:Int} (hs:sizesB k t = true):(topE k.toNat t.toNat).2.2 = k.toNat:=by
 obtain ⟨k1,k2,k3⟩:=sizesB_iff.1 hs
 exact top_rank (by omega) (by omega)
set_option maxRecDepth 100000
set_option maxHeartbeats 8000000 in
theorem lawRestores_ok:lawRestoresC.ok Tryd.prog:=lawRestores_of (by simp [known_ok,newField_ok,makeG_ok,checkM_ok,mineA_ok,mineB_ok,asm_ok,reg_ok,checkP_ok]) fun ρ hg hp=>by
 have hp0:=hp
 obtain ⟨⟨ik,i1,i2,i3,mk,m1,m2,m3,⟨dl,dl1,dB,dc⟩,hO,⟨ml,ml1,mD,mc⟩,⟨pl,pl1,pc,pok⟩,bl,bl1⟩,hGr,hGd⟩:=hp
 simp (config:={ maxSteps:=8000000 }) [o_lawRestores,lawRestoresC,lawTrue,knownC,newFieldC,makeGC,makeC,checkMC,mineA,mineB,mineT,mineC,rstA,rstJ1,rstW,rstF,pcPre,manV,manT,cellsT,gOk,hGr,hGd,dl,dB]
 have hb:bytesL (bI (ρ 21).d):=allB_list dB
 refine fun u _ k1 kn nt t20 dl20=>⟨by omega,fun bl60=>?_⟩
 have hs3:sizes3 (ρ 0).i (ρ 1).i (ρ 2).i = true:=by unfold sizes3; exact decide_eq_true ⟨k1,kn,nt,by omega⟩
 have hM:manOk (ρ 0).i (ρ 1).i (ρ 2).i ((ρ 21).d.length:Int) (ρ 2).i = true:=manOk_iff.2 ⟨k1,kn,nt,by omega,by omega,by omega,rfl⟩
 have hbl:(bI (ρ 21).d).length ≤ 2000:=by rw [bI_len]; omega
 repeat' (first | with_reducible apply And.intro | with_reducible intro _)
 all_goals first
  | assumption
  | omega
  | exact .inl (by assumption)
  | exact top_of (by assumption)
  | exact rstA_den _ (rst_pre (fun n hn=>by repeat rw [Env.set_ne _ _ (by omega)]) hp0)
  | exact chk0 (by assumption) hM
  | exact (by have h:=made_len (by assumption); omega)
  | exact (enc_pc (by assumption)).1
  | exact enc_len9 (by assumption) (by omega) (by omega) (by omega) (by omega) hb hbl
  | exact sub_nil
  | exact encAt_mono (by assumption) (by have h:=star_leT 43 10 (by assumption) (by simp); simpa using h)
  | exact encAt_mono (by assumption) (by have h:=star_leT 44 10 (by assumption) (by simp); simpa using h)
  | exact encAt_mono (by assumption) (by have h:=star_leT 45 10 (by assumption) (by simp); simpa using h)
  | exact encAt_mono (by assumption) (by have h:=star_leT 46 10 (by assumption) (by simp); simpa using h)
  | exact encAt_mono (by assumption) (by have h:=star_leT 47 10 (by assumption) (by simp); simpa using h)
  | exact (sub_all (by assumption) (by assumption) (by assumption) (by assumption) (by assumption) (by omega) (by omega) (by omega)).1
  | exact nd_nil (sub_all (t:=(ρ 2).i) (by assumption) (by assumption) (by assumption) (by assumption) (by assumption) (by omega) (by omega) (by omega)).2
  | exact (by unfold i64P; omega)
  | trivial
end Go.Proofs
