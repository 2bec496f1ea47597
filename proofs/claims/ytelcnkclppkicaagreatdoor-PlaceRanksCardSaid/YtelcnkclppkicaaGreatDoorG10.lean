/- Texts QL, QN, QO, QP. -/
import Derived.Test.YtelcnkclppkicaaGreatDoorG9
import Derived.Test.YtelcnkclppkicaaGreatDoorG8
import Derived.Test.YtelcnkclppkicaaGreatDoorG5
import Derived.Test.YtelcnkclppkicaaGreatDoorProg
set_option linter.unusedSimpArgs false
set_option linter.unusedVariables false
namespace Go.Proofs
open Go Go.Eng
theorem rowL_d1:rowL [[Value.int .u8 1,.int .u8 0,.int .u8 0,.int .u8 0,.int .u8 0,.int .u8 0,.int .u8 0,.int .u8 0,.int .u8 0,.int .u8 0,.int .u8 0,.int .u8 0,.int .u8 0,.int .u8 0,.int .u8 0,.int .u8 0,.int .u8 0,.int .u8 0,.int .u8 0,.int .u8 0,.int .u8 0,.int .u8 0,.int .u8 0,.int .u8 0,.int .u8 0,.int .u8 0,.int .u8 0,.int .u8 0,.int .u8 0,.int .u8 0,.int .u8 0,.int .u8 0]] 32 = d1:=by rfl
theorem d1_allM:allM d1:=by intro x hx; simp [d1] at hx; rcases hx with rfl | rfl <;> decide
theorem ga_empty {h:Hp}:gaIs h none [] 0 0 [] none []:=by
 refine ⟨rfl,⟨rfl,?_,?_⟩,?_,by decide,.inl ⟨rfl,rfl,rfl,rfl,rfl⟩⟩
 ·intro j hj; exact absurd hj (Nat.not_lt_zero j)
 ·intro j hj; exact absurd hj (Nat.not_lt_zero j)
 ·intro x hx; cases hx
theorem top11:(topE 1 1).2.2 = 1:=by kernel_rfl
theorem allB_one:allB [[Value.int .u8 120]]:=by intro row hr; simp at hr; subst hr; decide
set_option pp.funBinderTypes false
set_option format.width 2000
set_option format.indent 1
set_option maxRecDepth 20000 in
set_option maxHeartbeats 4000000 in
theorem known7_ok_of (hd:∀ c ∈ ([rankingC,dutyC,newClC,noteC,blockedC,covSC,scoreC,newFieldC,makeGC,idC,newGaC,offerC,readyC,indsC]:List Ctr),c.ok Tryz.prog):known7C.ok Tryz.prog:=known7_of hd fun ρ hg hp=>by
 obtain ⟨hGr,hGd⟩:=hp
 simp (config:={ maxSteps:=4000000 }) [o_known7,known7C,known7J,rankingC,dutyC,duPre,newClC,noteC,blockedC,blPre,covSC,covC,intsPre,scoreC,newFieldC,makeGC,makeC,idC,idAlts,idPre,newGaC,offerC,offPre,readyC,indsC,manO,manB,manT,cellsT,manAt,manIn,pieceArg,pieceArgIn,pieceHp,argM,i64P,intsIn,iHpA,gaB,gOk,hGr,hGd,rowL_d1,d1_allM]
 have e012:ints [[Value.int IntKind.i64 0],[Value.int IntKind.i64 1],[Value.int IntKind.i64 2]] = [0,1,2]:=rfl
 intro _ _ l0 _ n _ c _ D _ hl
 obtain ⟨hn,hD,hrow⟩:=hl
 rw [d1_rank] at hD
 have hDl:D.d.length = 3:=by have:=congrArg List.length hD; simpa [ints] using this
 refine ⟨by omega,by omega,fun _ _ _ x5 _ h5=>?_⟩
 rw [e012,d1_duty1] at h5
 refine ⟨h5,fun _ _ _ x6 _ h6=>?_⟩
 rw [e012,d1_duty2] at h6
 refine ⟨h6,fun _ _ _ v _ H0 _ hc0=>⟨by omega,by omega,⟨_,hc0⟩,fun H1 _ hc1=>?_⟩⟩
 have g0:cellI D.d 0 0 = 0:=by rw [ints_at (d:=D.d) (by omega) (by omega),hD]; rfl
 have g1:cellI D.d 1 0 = 1:=by rw [ints_at (d:=D.d) (by omega) (by omega),hD]; rfl
 have g2:cellI D.d 2 0 = 2:=by rw [ints_at (d:=D.d) (by omega) (by omega),hD]; rfl
 have hcl:=hc1 _ hc0
 rw [g0] at hcl
 refine ⟨by omega,by omega,⟨⟨_,hcl⟩,by omega,by omega,hrow⟩,fun b1 _ H2 _ hb1=>?_⟩
 obtain ⟨hcl2,hb1⟩:=hb1 _ hcl
 rw [g1,hD] at hb1
 have hb1':b1.b = true:=hb1.trans d1_block16
 refine ⟨hb1',fun _=>⟨⟨⟨_,hcl2⟩,by omega,by omega,hrow⟩,fun b2 _ H3 _ hb2=>?_⟩⟩
 obtain ⟨hcl3,hb2⟩:=hb2 _ hcl2
 rw [g1,hD] at hb2
 have hb2':b2.b = false:=hb2.trans d1_block17
 refine ⟨hb2',fun _=>⟨by omega,by omega,fun hcap=>⟨by omega,by omega,⟨by omega,hrow⟩,fun b3 _ hb3=>?_⟩⟩⟩
 rw [g2,hD] at hb3
 have hb3':b3.b = true:=hb3.trans d1_cov
 refine ⟨hb3',fun _ s0 _ hs0 s1 _ hs1=>?_⟩
 rw [hs0,hs1]
 refine ⟨d1_score,fun _ _ _ fl _ hfl _ _ _ _=>⟨⟨⟨.inl hfl,allB_one,fun _=>top11⟩,by decide⟩,?_⟩⟩
 intro o _ _ _ f _ _ _ _ _ _ _ Ds _ P _ Hp _ _ _ hPl hE ho hDs hdg _ _
 have hDl1:Ds.d.length = 1:=by
  have:=congrArg List.length hdg
  rw [madeAt_len] at this; simpa [dgs] using this
 have hoM:allM (rowL o.d 32):=by rw [ho]; exact sha_allM _
 have hm1:manOk 1 1 1 1 1 = true:=by decide
 refine ⟨⟨by omega,hoM,hDs⟩,fun ID _ e _ hid gn _=>⟨fun _ _ _ _ _=>?_,?_⟩⟩
 ·obtain ⟨q1,q2⟩:=enc_pc hE
  refine ⟨ga_empty,hoM,hDs,hDl1,hPl,q1,(q2 0 (by decide)).1,?_,?_⟩
  ·exact made_chk (data:=[120]) hm1 (by intro x hx; simp at hx; subst hx; exact ⟨by decide,by decide⟩) rfl hdg (by decide) (by decide) (q2 0 (by decide)).2
  ·rcases hid with ⟨h,_⟩ | ⟨_,_,h⟩
   ·exact absurd h (by decide)
   ·exact h
 intro ar _ id _ mr _ mp _ mc _ pr _ pl _ pq _ pd _ gh _ bm _ om _ dr _ dq _ dd _ br _ bq _ bp _ bh _ hga hom hdd hdl hbl hpk hpi hck hid2
 obtain ⟨v0,B0,eP,hv,hRd,hB,hpd⟩:=pc_at hpk (j:=0) (by decide)
 obtain ⟨_,_,_,hlen,hsum⟩:=chkE_zero hck
 have hB1:B0.length = 1:=by rw [hpd,bI_len] at hlen; rw [show plenI 1 1 = 1 from rfl] at hlen; omega
 have hci:cellI bp.d 0 0 = 0:=hpi
 have hidM:allM (rowL id.d 32):=by rw [hid2]; exact sha_allM _
 have hck':chkE 1 1 1 1 1 (dgs dd.d) 0 (bI B0) = 0:=by rw [← hpd]; exact hck
 have hddl:(dgs dd.d).length = 1:=by simpa [dgs] using hdl
 have hoff:offE (rowL id.d 32) none [] { k:=1,n:=1,t:=1,s:=1,o:=rowL om.d 32,D:=dgs dd.d } 0 (bI B0) = 0:=by
  have hok:ManV.ok { k:=1,n:=1,t:=1,s:=1,o:=rowL om.d 32,D:=dgs dd.d } = true:=by simp only [ManV.ok,hddl]; decide
  have hbt:sha (ManV.bytes { k:=1,n:=1,t:=1,s:=1,o:=rowL om.d 32,D:=dgs dd.d }) = rowL id.d 32:=hid2.symm
  rw [offE,if_neg (by rw [hok]; decide),if_neg (fun h=>h hbt)]
  simp [hddl,hck',readyF]
 refine ⟨by omega,B0,by rw [show (0:Int) = ((0:Nat):Int) from rfl,hv]; exact hRd,?_⟩
 rw [hci]
 intro vr _ vc _ _ hcap
 refine ⟨⟨⟨_,_,hga⟩,hidM,⟨hom,by omega,hdd⟩,by decide,⟨by omega,by omega,hB⟩,by omega⟩,?_⟩
 intro _ _ _ _ _ _ _ _ _ _ _ _ _ _ _ _ oe _ hofr
 obtain ⟨he0,hga2⟩:=hofr _ _ hga
 rw [hoff] at he0
 rw [if_pos he0,if_pos he0] at hga2
 refine ⟨fun _=>⟨⟨_,_,hga2⟩,fun rb _ hrb=>?_⟩,he0⟩
 have hr1:=hrb _ _ hga2
 have hr2:rb.b = true:=by rw [hr1]; rfl
 refine ⟨fun _=>⟨⟨_,_,hga2⟩,fun _ _ il _ _ _ di _ hi=>?_⟩,hr2⟩
 obtain ⟨hi1,hi2,_⟩:=hi _ _ hga2
 have hdi:di.d.length = 1:=by
  have:=congrArg List.length hi2
  rw [ints_len] at this; simpa using this
 exact ⟨by omega,by omega,trivial⟩
theorem chosen_ok':chosenC.ok Tryz.prog:=chosen_ok sort_ok
theorem known7_ok:known7C.ok Tryz.prog:=known7_ok_of (by simp [ranking_ok chosen_ok',duty_ok chosen_ok',newCl_ok,note_ok,blocked_ok,covS_ok,score_ok,newField_ok,makeG_ok,id_ok,newGa_ok,offer_ok,ready_ok,inds_ok])
end Go.Proofs

set_option linter.unusedSimpArgs false
set_option linter.unusedVariables false
namespace Go.Eng
open Go Go.Proofs
def lawRanksC:Ctr:={ fn := 4,nv:=7,ip:=[gIs 3,gIp 5,(1001,9),(1002,9)],args:=[dgV 0,iv .i64 (.var 1),iv .i64 (.var 2)],heap:=[],ro:=[gHp 3 4,gHp 5 6],pre:=fun ρ=>allM (rowL (ρ 0).d 32)∧gOk ρ 3 4 gS∧gOk ρ 5 6 gR,alts:=[lawTrue] }
end Go.Eng

set_option linter.unusedSimpArgs false
set_option linter.unusedVariables false
set_option maxRecDepth 100000
namespace Go.Proofs
open Go Go.Eng

def o_lawRanks:Out:=(.fresh 7 (.both (.pre 0 (sg 0 [bv 3 6,bv 1 1,bt 0 (r8 0),bg 2 5]) (.both (.fresh 8 (.post 0 0 (sg 0 [bv 3 6,bv 1 1,bt 0 (r8 0),bg 2 5]) 8 (.both (.pre 1 (sg 0 [bv 3 4,bv 1 1,bt 0 (r8 0),bg 2 3]) (.both (.fresh 9 (.post 1 0 (sg 0 [bv 3 4,bv 1 1,bt 0 (r8 0),bg 2 3]) 9 (.br (.c2 .req (r8 8) (r8 9))
 (.both (.pre 2 (sg 0 [bv 4 6,bv 2 2,bv 1 1,bt 0 (r8 0),bg 3 5]) (.both (.fresh 10 (.post 2 0 (sg 0 [bv 4 6,bv 2 2,bv 1 1,bt 0 (r8 0),bg 3 5]) 10 (.both (.pre 3 (sg 0 [bv 4 4,bv 2 2,bv 1 1,bt 0 (r8 0),bg 3 3]) (.both (.fresh 11 (.post 3 0 (sg 0 [bv 4 4,bv 2 2,bv 1 1,bt 0 (r8 0),bg 3 3]) 11 (.br (.beq (.var 10) (.var 11))
 (.both (.pre 4 (sg 0 [bv 3 6,bv 1 2,bt 0 (r8 0),bg 2 5]) (.both (.fresh 12 (.fresh 13 (.fresh 14 (.fresh 15 (.post 4 0 (sg 0 [bv 3 6,bv 1 2,bt 0 (r8 0),bg 2 5]) 12 (.both (.pre 5 (sg 0 [bv 3 4,bv 1 2,bt 0 (r8 0),bg 2 3]) (.both (.fresh 16 (.fresh 17 (.fresh 18 (.fresh 19 (.post 5 0 (sg 0 [bv 3 4,bv 1 2,bt 0 (r8 0),bg 2 3]) 16 (.both (.pre 6 (sg 0 [bv 9 18,bv 8 19,bv 4 14,bv 3 15,bv 7 18,bv 6 17,bg 5 16,bv 2 14,bv 1 13,bg 0 12]) (.both (.fresh 20 (.post 6 0 (sg 0 [bv 9 18,bv 8 19,bv 4 14,bv 3 15,bv 7 18,bv 6 17,bg 5 16,bv 2 14,bv 1 13,bg 0 12]) 20 (.br (.var 20)
 (.both (.pre 7 (sg 0 [bv 1 6,bg 0 5]) (.both (.post 7 0 (sg 0 [bv 1 6,bg 0 5]) 21 (.ret 0 (sg 7 []))) .top)) .top)
 (.both (.stuck 7 0 0) .top)))) .top)) .top)))))) .top)) .top)))))) .top)) .top)
 (.both (.both (.both (.both (.stuck 7 0 0) .top) .top) .top) .top)))) .top)) .top))) .top)) .top)
 (.both (.both (.both (.both (.both (.both (.stuck 7 0 0) .top) .top) .top) .top) .top) .top)))) .top)) .top))) .top)) .top))
theorem o_lawRanks_eq:treeOf ⟨Tryz.prog,lawRanksC,[scoreC,scoreRC,betterC,betterRC,rankingC,rankingRC,sameIC,known7C],[]⟩ 100000 Tryz.f4 = o_lawRanks:=by kernel_rfl
theorem lawRanks_of (hd:∀ c ∈ ([scoreC,scoreRC,betterC,betterRC,rankingC,rankingRC,sameIC,known7C]:List Ctr),c.ok Tryz.prog) (h:∀ ρ:Env,ρ.good→(lawRanksC).pre ρ→o_lawRanks.den ⟨Tryz.prog,lawRanksC,[scoreC,scoreRC,betterC,betterRC,rankingC,rankingRC,sameIC,known7C],[]⟩ ρ):(lawRanksC).ok Tryz.prog :=
 ok_of_tree Tryz.func4 (fun a w=>Tryz.call4 a w) hd 100000 (fun ρ hg hp=>by rw [o_lawRanks_eq]; exact h ρ hg hp)
end Go.Proofs

set_option linter.unusedSimpArgs false
set_option linter.unusedVariables false
namespace Go.Proofs
open Go Go.Eng
theorem chosenR_ok':chosenRC.ok Tryz.prog:=chosenR_ok
set_option maxRecDepth 20000 in
theorem lawRanks_ok:lawRanksC.ok Tryz.prog:=lawRanks_of (by simp [score_ok,scoreR_ok,better_ok,betterR_ok,ranking_ok chosen_ok',rankingR_ok chosenR_ok',sameI_ok,known7_ok]) fun ρ hg hp=>by
 obtain ⟨hO,⟨hSr,hSd⟩,hRr,hRd⟩:=hp
 simp (config:={ maxSteps:=4000000 }) [o_lawRanks,lawRanksC,scoreC,scoreRC,betterC,betterRC,rankingC,rankingRC,sameIC,known7C,intsIn,iHpA,gOk,hO,hSr,hSd,hRr,hRd]
 intro _ _ s _ hs s' _ hs'
 refine ⟨fun _ b _ hb b' _ hb'=>⟨fun _ _ _ n _ _ _ D _ hD _ _ n' _ _ _ D' _ hD'=>⟨?_,fun x _ hx=>⟨fun _ _=>trivial,?_⟩⟩,hb.trans hb'.symm⟩,hs.trans hs'.symm⟩
 ·obtain ⟨h1,h2,h3⟩:=hD
  obtain ⟨h1',h2',h3'⟩:=hD'
  have l1:=ints_chosen h2
  have l2:=ints_chosen h2'
  exact ⟨⟨h1,by omega,h3⟩,h1',by omega,h3'⟩
 ·rw [hx,hD.2.1,hD'.2.1]; simp
end Go.Proofs
