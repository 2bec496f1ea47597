/- Texts ZD, ZH, ZI, ZK, ZM, ZS, ZV, ZW, ZX, DS, DT, BT, BU, BV, BW, BX, BY, CA, CB, CC, CD, CE, CF, CG, CH, CI, CK, YA, CL, CM, ZLq, YF, W1, W2, W3. -/
import Derived.Test.YtelcnkclppkicaaGreatDoorG6
import Derived.Test.YtelcnkclppkicaaGreatDoorG5
import Derived.Test.YtelcnkclppkicaaGreatDoorProg
import Derived.Test.YtelcnkclppkicaaGreatDoorG4
set_option linter.unusedSimpArgs false
set_option linter.unusedVariables false
namespace Go.Proofs
open Go Go.Eng
theorem sizes74_ok:sizes74C.ok Tryz.prog:=sizes74_of (by simp) fun ρ hg hp=>by
 simp [o_sizes74,sizes74C]
 refine ⟨fun h1=>⟨fun h2=>?_,fun h2=>?_⟩,fun h1=>?_⟩
 ·simp [sizesB,h1,h2,cmpOf]
 ·simp [sizesB]; omega
 ·simp [sizesB]; omega
theorem piece26_ok:piece26C.ok Tryz.prog:=piece26_of (by simp) fun ρ hg hp=>by
 simp [o_piece26,piece26C]
 unfold pieceBad
 refine ⟨fun h=>by omega,fun h1=>⟨fun h=>by omega,fun h2=>⟨fun h=>by omega,fun h3=>⟨fun h=>by omega,fun h4=>⟨by omega,by omega,fun _=>?_⟩⟩⟩⟩⟩
 rw [add64 (by omega) (by omega),sub64 (by omega) (by omega)]
 have hq:0 ≤ ((ρ 1).i + (ρ 0).i - 1).tdiv (ρ 0).i∧((ρ 1).i + (ρ 0).i - 1).tdiv (ρ 0).i ≤ 10000:=by
  rw [Int.tdiv_eq_ediv_of_nonneg (by omega)]
  refine ⟨Int.ediv_nonneg (by omega) (by omega),?_⟩
  have:=Int.ediv_le_self (a:=(ρ 1).i + (ρ 0).i - 1) (ρ 0).i (by omega)
  omega
 exact wrap64 (by omega) (by omega)
theorem zero82_ok:zero82C.ok Tryz.prog:=zero82_of (by simp) fun ρ hg hp=>by
 obtain ⟨h1,h2,h3,h4⟩:=hp
 simp [o_zero82,zero82C]
 have hb:=mul_bound h1 h2 h3 h4
 rw [mul64 (by omega) (by omega)]
 omega
theorem row75_ok:row75C.ok Tryz.prog:=row75_of (by simp) fun ρ hg hp=>by
 obtain ⟨r0,r1,a0,a1,c0,c1,hl,hc,hd,hB⟩:=hp
 simp [o_row75,row75C]
 have hb:=mul_bound (x:=(ρ 7).i) (y:=(ρ 1).i) r0 (show (ρ 7).i ≤ 255 by omega) c0 c1
 have hb2:=mul_bound (x:=(ρ 7).i + 1) (y:=(ρ 1).i) (by omega) (show (ρ 7).i + 1 ≤ 255 by omega) c0 c1
 have he:((ρ 7).i + 1) * (ρ 1).i = (ρ 7).i * (ρ 1).i + (ρ 1).i:=by rw [Int.add_mul,Int.one_mul]
 have hle:((ρ 7).i + 1) * (ρ 1).i ≤ (ρ 0).i * (ρ 1).i:=Int.mul_le_mul_of_nonneg_right (by omega) c0
 rw [add64 (by omega) (by omega),mul64 (by omega) (by omega),mul64 (by omega) (by omega)]
 refine ⟨by omega,by omega,hb.1,by omega,by omega,?_,by omega⟩
 split
 ·have:(ρ 1).i = 0:=by omega
  rw [this,Int.mul_zero]
 ·rfl
theorem valid36_ok:valid36C.ok Tryz.prog:=valid36_of (by simp) fun ρ hg hp=>by
 have hp:0 ≤ (ρ 3).i:=hp
 simp [o_valid36,valid36C]
 refine ⟨fun h1=>⟨fun h2=>⟨fun h3=>⟨fun h4=>⟨by omega,?_⟩,fun _=>by omega⟩,fun _=>by omega⟩,fun _=>by omega⟩,fun _=>by omega⟩
 have hb:=mul_bound (x:=(ρ 0).i) (y:=(ρ 1).i) (by omega) h2 (by omega) h4
 rw [mul64 (by omega) (by omega)]
 omega
theorem clone84_ok:clone84C.ok Tryz.prog:=clone84_of (by simp) fun ρ hg hp=>by
 obtain ⟨h0,h1,h2⟩:=hp
 simp [o_clone84,clone84C]
 unfold Go.Eng.big at h2
 exact ⟨by omega,by omega,by omega⟩
theorem addTo_ok:addToC.ok Tryz.prog:=addTo_of (by simp [mul_ok]) fun ρ hg hp=>by
 obtain ⟨hf,⟨o0,o1,o2,o3⟩,⟨s0,s1,s2,s3⟩,hle,hB,hB2,c0,c1⟩:=hp
 unfold Go.Eng.big at o3 s3
 simp [o_addTo,addToC,addToI,mulC]
 refine ⟨fun hc=>⟨hf,hB,?_⟩,fun hc=>⟨s1,⟨s1,hf,hB,?_⟩,fun i _ fd _ dd _ i0 i1 hfd hl hBd hd=>⟨fun hi=>?_,fun hi=>?_⟩⟩⟩
 ·rw [hc,addToL_zero (allB_list hB)]
 ·rw [show seg (bI (ρ 12).d) (ρ 9).i.toNat 0 = [] by simp [seg],addToL_nil]
 ·have hcell:=allB_get hB2 (i:=(ρ 9).i + i.i) (by omega) (by omega)
  refine ⟨i0,s0,by omega,by omega,by omega,o0,by omega,by omega,⟨hfd,c0,c1,hcell⟩,fun m _ fd2 _ hf2 hm=>?_⟩
  rw [add64 (by omega) (by omega)]
  have hy:=bI_get (d:=(ρ 12).d) (i:=(ρ 9).i + i.i) (by omega) (by omega)
  rw [show ((ρ 9).i + i.i).toNat = (ρ 9).i.toNat + i.i.toNat by omega] at hy
  have hz:=bI_get (d:=dd.d) (i:=(ρ 3).i + i.i) (by omega) (by omega)
  rw [show ((ρ 3).i + i.i).toNat = (ρ 3).i.toNat + i.i.toNat by omega,hd,addToL_out (by right; rw [seg_len (by rw [bI_len]; omega)]; omega)] at hz
  refine ⟨⟨by omega,by omega,hf2,by rw [putD_len,hl],allB_put hBd xorB_range.1 xorB_range.2,?_⟩,by omega⟩
  rw [bI_put,hd,hm,show (i.i + 1).toNat = i.i.toNat + 1 by omega,addToL_step hz hy,show ((ρ 3).i + i.i).toNat = (ρ 3).i.toNat + i.i.toNat by omega]
  rfl
 ·have:i.i = (ρ 10).i:=by omega
  rw [this] at hd
  exact ⟨hfd,hl,hBd,hd⟩
theorem addToS_ok:addToS.ok Tryz.prog:=addToSame_of (by simp [mul_ok]) fun ρ hg hp=>by
 obtain ⟨hf,⟨o0,o1,o2,o3⟩,⟨s0,s1,s2,s3⟩,hle,hdis,hB,c0,c1⟩:=hp
 unfold Go.Eng.big at o3 s3
 simp [o_addToSame,addToS,addToSI,mulC]
 refine ⟨fun hc=>⟨hf,hB,?_⟩,fun hc=>⟨s1,⟨s1,hf,hB,?_⟩,fun i _ fd _ dd _ i0 i1 hfd hl hBd hd=>⟨fun hi=>?_,fun hi=>?_⟩⟩⟩
 ·rw [hc,addToL_zero (allB_list hB)]
 ·rw [show seg (bI (ρ 6).d) (ρ 8).i.toNat 0 = [] by simp [seg],addToL_nil]
 ·have hcell:=allB_get hBd (i:=(ρ 8).i + i.i) (by omega) (by omega)
  have hsl:(seg (bI (ρ 6).d) (ρ 8).i.toNat i.i.toNat).length = i.i.toNat:=seg_len (by rw [bI_len]; omega)
  have hy:=bI_get (d:=dd.d) (i:=(ρ 8).i + i.i) (by omega) (by omega)
  rw [show ((ρ 8).i + i.i).toNat = (ρ 8).i.toNat + i.i.toNat by omega,hd,addToL_out (by rw [hsl]; omega)] at hy
  have hz:=bI_get (d:=dd.d) (i:=(ρ 3).i + i.i) (by omega) (by omega)
  rw [show ((ρ 3).i + i.i).toNat = (ρ 3).i.toNat + i.i.toNat by omega,hd,addToL_out (by rw [hsl]; omega)] at hz
  refine ⟨i0,s0,by omega,by omega,by omega,o0,by omega,by omega,⟨hfd,c0,c1,hcell⟩,fun m _ fd2 _ hf2 hm=>?_⟩
  rw [add64 (by omega) (by omega)]
  refine ⟨⟨by omega,by omega,hf2,by rw [putD_len,hl],allB_put hBd xorB_range.1 xorB_range.2,?_⟩,by omega⟩
  rw [bI_put,hd,hm,show (i.i + 1).toNat = i.i.toNat + 1 by omega,addToL_step hz hy,show ((ρ 3).i + i.i).toNat = (ρ 3).i.toNat + i.i.toNat by omega]
  rfl
 ·have:i.i = (ρ 9).i:=by omega
  rw [this] at hd
  exact ⟨hfd,hl,hBd,hd⟩
theorem scale_ok:scaleC.ok Tryz.prog:=scale_of (by simp [mul_ok]) fun ρ hg hp=>by
 obtain ⟨hf,⟨o0,o1,o2,o3⟩,hB,c0,c1⟩:=hp
 unfold Go.Eng.big at o3
 simp [o_scale,scaleC,scaleI,mulC]
 refine ⟨o1,⟨o1,hf,hB,?_⟩,fun i _ fd _ dd _ i0 i1 hfd hl hBd hd=>⟨fun hi=>?_,fun hi=>?_⟩⟩
 ·rw [scaleL_zero]
 ·have hcell:=allB_get hBd (i:=(ρ 3).i + i.i) (by omega) (by omega)
  refine ⟨i0,o0,by omega,by omega,⟨hfd,hcell.1,hcell.2,c0,c1⟩,fun m _ fd2 _ hf2 hm=>?_⟩
  rw [add64 (by omega) (by omega)]
  have hz:=bI_get (d:=dd.d) (i:=(ρ 3).i + i.i) (by omega) (by omega)
  rw [show ((ρ 3).i + i.i).toNat = (ρ 3).i.toNat + i.i.toNat by omega,hd,scaleL_out (by omega)] at hz
  have hmr:=mulF_range hcell.1 hcell.2 c0 c1
  refine ⟨⟨by omega,by omega,hf2,by rw [putD_len,hl],allB_put hBd (by rw [hm]; exact hmr.1) (by rw [hm]; exact hmr.2),?_⟩,by omega⟩
  rw [bI_put,hd,hm,show (i.i + 1).toNat = i.i.toNat + 1 by omega,scaleL_step hz,show ((ρ 3).i + i.i).toNat = (ρ 3).i.toNat + i.i.toNat by omega]
 ·have:i.i = (ρ 4).i:=by omega
  rw [this] at hd
  exact ⟨hfd,hl,hBd,hd⟩
theorem inv51_ok:inv51C.ok Tryz.prog:=inv51_of (by simp [once_ok]) fun ρ hg hp=>by
 obtain ⟨hf,a0,a1⟩:=hp
 obtain ⟨hne,hpos⟩:=fieldD_ne hf
 simp [o_inv51,inv51C,onceC]
 refine ⟨fun h=>(hne h).elim,fun _=>⟨fun h=>⟨hf,by rw [invF,if_pos h],h⟩,fun h=>⟨hpos,hf,fun u _ hu=>?_⟩⟩⟩
 rw [hu]
 obtain ⟨l0,l1⟩:=logT_range a0 a1
 have e1:cellX doneD ((ρ 2).i.toNat + 513) = logT (ρ 2).i.toNat:=rfl
 rw [e1,sub64 (by omega) (by omega)]
 exact ⟨(fieldD_ne (.inr rfl)).2,a0,a1,by omega,by omega,.inr rfl,by rw [invF,if_neg h]; rfl,h⟩
theorem pow37_ok:pow37C.ok Tryz.prog:=pow37_of (by simp [once_ok]) fun ρ hg hp=>by
 obtain ⟨hf,a0,a1,e1⟩:=hp
 obtain ⟨hne,hpos⟩:=fieldD_ne hf
 simp [o_pow37,pow37C,onceC]
 refine ⟨fun h=>(hne h).elim,fun _=>⟨fun h=>⟨hf,by rw [powF,if_pos h]⟩,fun he=>⟨fun h=>⟨hf,by rw [powF,if_neg (by omega),if_pos h]⟩,fun h=>⟨hpos,hf,fun u _ hu=>?_⟩⟩⟩⟩
 rw [hu]
 obtain ⟨l0,l1⟩:=logT_range a0 a1
 have e1:cellX doneD ((ρ 2).i.toNat + 513) = logT (ρ 2).i.toNat:=rfl
 have hr:arithOf .rem .i64 (ρ 3).i 255 = (ρ 3).i.tmod 255:=rfl
 have hr0:0 ≤ (ρ 3).i.tmod 255:=Int.tmod_nonneg _ (by omega)
 have hr1:(ρ 3).i.tmod 255 < 255:=Int.tmod_lt_of_pos _ (by omega)
 have hb:=mul_bound l0 (show logT (ρ 2).i.toNat ≤ 255 by omega) hr0 (show (ρ 3).i.tmod 255 ≤ 255 by omega)
 rw [e1,hr,mul64 (by omega) (by omega)]
 have hr2:arithOf .rem .i64 (logT (ρ 2).i.toNat * (ρ 3).i.tmod 255) 255 = (logT (ρ 2).i.toNat * (ρ 3).i.tmod 255).tmod 255:=rfl
 have hr3:0 ≤ (logT (ρ 2).i.toNat * (ρ 3).i.tmod 255).tmod 255:=Int.tmod_nonneg _ hb.1
 have hr4:(logT (ρ 2).i.toNat * (ρ 3).i.tmod 255).tmod 255 < 255:=Int.tmod_lt_of_pos _ (by omega)
 rw [hr2]
 refine ⟨(fieldD_ne (.inr rfl)).2,a0,a1,hr3,by omega,.inr rfl,?_⟩
 rw [powF,if_neg (by omega),if_neg h]; rfl
end Go.Proofs

set_option linter.unusedSimpArgs false
set_option linter.unusedVariables false
set_option maxRecDepth 100000
namespace Go.Proofs
open Go Go.Eng

def o_ident40:Out:=(.fresh 1 (.br (.cmp .lss (.var 0) (.lit 1))
 (.ret 0 (sg 1 []))
 (.br (.cmp .gtr (.var 0) (.lit 255))
 (.ret 0 (sg 1 []))
 (.pre 0 (sg 0 [bv 1 0,bv 0 0]) (.both (.fresh 2 (.fresh 3 (.fresh 4 (.fresh 5 (.post 0 0 (sg 0 [bv 1 0,bv 0 0]) 2 (.fresh 6 (.inv 0 7 (sg 1000 [bv 1004 5,bv 1003 4,bv 1002 3,bg 1001 2,bt 1000 (.lit 0),bg 1005 6,bg 1006 1]) (.fresh 7 (.fresh 8 (.fresh 9 (.fresh 10 (.fresh 11 (.fresh 12 (.fresh 13 (.hyp 0 7 (.br (.cmp .lss (.var 7) (.var 0))
 (.need (.cmp .leq (.lit 0) (.arith .add .i64 (.arith .mul .i64 (.var 7) (.var 0)) (.var 7))) (.need (.cmp .lss (.arith .add .i64 (.arith .mul .i64 (.var 7) (.var 0)) (.var 7)) (.var 9)) (.need (.cmp .lss (.arith .add .i64 (.arith .mul .i64 (.var 7) (.var 0)) (.var 7)) (.dlen (.var 11))) (.back 0 7 (sg 1000 [bt 1004 (.dput (.var 11) (.arith .add .i64 (.arith .mul .i64 (.var 7) (.var 0)) (.var 7)) 0 (.rcons (.vint .u8 (.lit 1)) .rnil)),bv 1003 10,bv 1002 9,bg 1001 8,bt 1000 (.arith .add .i64 (.var 7) (.lit 1)),bg 1005 12,bg 1006 13])))))
 (.ret 1 (sg 1 [bv 4 11,bv 3 10,bv 2 9,bg 1 8])))))))))))))))))) .top)))))
theorem o_ident40_eq:treeOf ⟨Tryz.prog,ident40C,[zero82C],[ident40I]⟩ 100000 Tryz.f166 = o_ident40:=by kernel_rfl
theorem ident40_of (hd:∀ c ∈ ([zero82C]:List Ctr),c.ok Tryz.prog) (h:∀ ρ:Env,ρ.good→(ident40C).pre ρ→o_ident40.den ⟨Tryz.prog,ident40C,[zero82C],[ident40I]⟩ ρ):(ident40C).ok Tryz.prog :=
 ok_of_tree Tryz.func166 (fun a w=>Tryz.call166 a w) hd 100000 (fun ρ hg hp=>by rw [o_ident40_eq]; exact h ρ hg hp)
def o_vander45:Out:=(.fresh 4 (.br (.and (.cmp .eql (.dlen (.var 1)) (.lit 0)) (.isnil 0))
 (.stuck 7 0 0)
 (.br (.cmp .lss (.var 2) (.lit 1))
 (.ret 0 (sg 4 [bv 4 1]))
 (.br (.cmp .gtr (.var 2) (.lit 255))
 (.ret 0 (sg 4 [bv 4 1]))
 (.br (.cmp .lss (.var 3) (.lit 1))
 (.ret 0 (sg 4 [bv 4 1]))
 (.br (.cmp .gtr (.var 3) (.lit 255))
 (.ret 0 (sg 4 [bv 4 1]))
 (.pre 0 (sg 0 [bv 1 3,bv 0 2]) (.both (.fresh 5 (.fresh 6 (.fresh 7 (.fresh 8 (.post 0 0 (sg 0 [bv 1 3,bv 0 2]) 5 (.fresh 9 (.inv 0 10 (sg 1000 [bv 1004 8,bv 1003 7,bv 1002 6,bg 1001 5,bv 1006 1,bt 1000 (.lit 0),bg 1005 9,bg 1007 4]) (.fresh 10 (.fresh 11 (.fresh 12 (.fresh 13 (.fresh 14 (.fresh 15 (.fresh 16 (.fresh 17 (.hyp 0 10 (.br (.cmp .lss (.var 10) (.var 2))
 (.inv 1 18 (sg 1000 [bv 1004 14,bv 1003 13,bv 1002 12,bg 1001 11,bv 1006 16,bt 1008 (.lit 0),bv 1000 10,bg 1005 15,bg 1007 17]) (.fresh 18 (.fresh 19 (.fresh 20 (.fresh 21 (.fresh 22 (.fresh 23 (.fresh 24 (.fresh 25 (.fresh 26 (.hyp 1 18 (.br (.cmp .lss (.var 26) (.var 3))
 (.both (.pre 1 (sg 0 [bv 1 24,bv 3 26,bt 2 (.conv .u8 (.var 18)),bg 0 0]) (.both (.fresh 27 (.fresh 28 (.post 1 0 (sg 0 [bv 1 24,bv 3 26,bt 2 (.conv .u8 (.var 18)),bg 0 0]) 27 (.need (.cmp .leq (.lit 0) (.arith .add .i64 (.arith .mul .i64 (.var 18) (.var 3)) (.var 26))) (.need (.cmp .lss (.arith .add .i64 (.arith .mul .i64 (.var 18) (.var 3)) (.var 26)) (.var 20)) (.need (.cmp .lss (.arith .add .i64 (.arith .mul .i64 (.var 18) (.var 3)) (.var 26)) (.dlen (.var 22))) (.both (.back 1 18 (sg 1000 [bt 1004 (.dput (.var 22) (.arith .add .i64 (.arith .mul .i64 (.var 18) (.var 3)) (.var 26)) 0 (.rcons (.vint .u8 (.var 27)) .rnil)),bv 1003 21,bv 1002 20,bg 1001 19,bv 1006 28,bt 1008 (.arith .add .i64 (.var 26) (.lit 1)),bv 1000 18,bg 1005 23,bg 1007 25])) .top))))))) .top)) .top)
 (.back 0 10 (sg 1000 [bv 1004 22,bv 1003 21,bv 1002 20,bg 1001 19,bv 1006 24,bt 1000 (.arith .add .i64 (.var 18) (.lit 1)),bg 1005 23,bg 1007 25]))))))))))))))
 (.ret 1 (sg 4 [bv 8 14,bv 7 16,bv 6 13,bv 5 12,bg 4 11]))))))))))))))))))) .top))))))))
theorem o_vander45_eq:treeOf ⟨Tryz.prog,vander45C,[zero82C,pow37C],[vander45I,vander45J]⟩ 100000 Tryz.f150 = o_vander45:=by kernel_rfl
theorem vander45_of (hd:∀ c ∈ ([zero82C,pow37C]:List Ctr),c.ok Tryz.prog) (h:∀ ρ:Env,ρ.good→(vander45C).pre ρ→o_vander45.den ⟨Tryz.prog,vander45C,[zero82C,pow37C],[vander45I,vander45J]⟩ ρ):(vander45C).ok Tryz.prog :=
 ok_of_tree Tryz.func150 (fun a w=>Tryz.call150 a w) hd 100000 (fun ρ hg hp=>by rw [o_vander45_eq]; exact h ρ hg hp)
@[simp] def o_prod49_1:Sg:=sg 0 [bv 13 15,bv 12 14,bv 7 42,bv 6 43,bv 1 45,bt 14 (.icell (.var 7) (.plus (.var 50) (.var 49)) 0),bv 11 58,bv 10 57,bv 9 56,bg 8 11,bv 5 55,bv 4 54,bv 3 53,bg 2 40,bg 0 0]
def o_prod49:Out:=(.fresh 16 (.fresh 17 (.fresh 18 (.br (.and (.cmp .eql (.dlen (.var 1)) (.lit 0)) (.isnil 0))
 (.stuck 7 0 0)
 (.pre 0 (sg 0 [bv 6 8,bv 5 7,bv 4 6,bv 3 5,bg 2 4,bv 1 3,bv 0 2]) (.both (.fresh 19 (.post 0 0 (sg 0 [bv 6 8,bv 5 7,bv 4 6,bv 3 5,bg 2 4,bv 1 3,bv 0 2]) 19 (.br (.not (.var 19))
 (.ret 0 (sg 16 [bv 16 1]))
 (.pre 0 (sg 0 [bv 6 15,bv 5 14,bv 4 13,bv 3 12,bg 2 11,bv 1 10,bv 0 9]) (.both (.fresh 20 (.post 0 0 (sg 0 [bv 6 15,bv 5 14,bv 4 13,bv 3 12,bg 2 11,bv 1 10,bv 0 9]) 20 (.br (.not (.var 20))
 (.ret 0 (sg 16 [bv 16 1]))
 (.br (.cmp .neq (.var 3) (.var 9))
 (.ret 1 (sg 16 [bv 16 1]))
 (.pre 1 (sg 0 [bv 1 10,bv 0 2]) (.both (.fresh 21 (.fresh 22 (.fresh 23 (.fresh 24 (.post 1 0 (sg 0 [bv 1 10,bv 0 2]) 21 (.fresh 25 (.inv 0 26 (sg 1000 [bv 1004 24,bv 1003 23,bv 1002 22,bg 1001 21,bv 1006 1,bt 1000 (.lit 0),bg 1005 25,bg 1008 17,bg 1007 16,bg 1009 18]) (.fresh 26 (.fresh 27 (.fresh 28 (.fresh 29 (.fresh 30 (.fresh 31 (.fresh 32 (.fresh 33 (.fresh 34 (.fresh 35 (.hyp 0 26 (.br (.cmp .lss (.var 26) (.var 2))
 (.pre 2 (sg 0 [bv 6 8,bv 5 7,bv 7 26,bv 4 6,bv 3 5,bg 2 4,bv 1 3,bv 0 2]) (.both (.fresh 36 (.fresh 37 (.fresh 38 (.post 2 0 (sg 0 [bv 6 8,bv 5 7,bv 7 26,bv 4 6,bv 3 5,bg 2 4,bv 1 3,bv 0 2]) 36 (.need (.cmp .leq (.lit 0) (.var 37)) (.inv 1 39 (sg 1000 [bv 1004 30,bv 1003 29,bv 1002 28,bg 1001 27,bv 1006 32,bt 1010 (.lit 0),bv 1013 38,bv 1012 37,bv 1011 36,bv 1000 26,bg 1005 31,bg 1008 34,bg 1007 33,bg 1009 35]) (.fresh 39 (.fresh 40 (.fresh 41 (.fresh 42 (.fresh 43 (.fresh 44 (.fresh 45 (.fresh 46 (.fresh 47 (.fresh 48 (.fresh 49 (.fresh 50 (.fresh 51 (.fresh 52 (.hyp 1 39 (.br (.cmp .lss (.var 49) (.var 51))
 (.need (.cmp .leq (.lit 0) (.var 49)) (.need (.cmp .leq (.lit 0) (.var 50)) (.need (.cmp .leq (.lit 0) (.plus (.var 50) (.var 49))) (.need (.cmp .lss (.plus (.var 50) (.var 49)) (.dlen (.var 7))) (.both (.pre 2 (sg 0 [bv 6 42,bv 5 43,bv 7 39,bv 4 42,bv 3 41,bg 2 40,bv 1 10,bv 0 2]) (.both (.fresh 53 (.fresh 54 (.fresh 55 (.post 2 0 (sg 0 [bv 6 42,bv 5 43,bv 7 39,bv 4 42,bv 3 41,bg 2 40,bv 1 10,bv 0 2]) 53 (.both (.pre 2 (sg 0 [bv 6 15,bv 5 14,bv 7 49,bv 4 13,bv 3 12,bg 2 11,bv 1 10,bv 0 9]) (.both (.fresh 56 (.fresh 57 (.fresh 58 (.post 2 0 (sg 0 [bv 6 15,bv 5 14,bv 7 49,bv 4 13,bv 3 12,bg 2 11,bv 1 10,bv 0 9]) 56 (.both (.pre 3 o_prod49_1 (.both (.fresh 59 (.fresh 60 (.post 3 0 o_prod49_1 59 (.back 1 39 (sg 1000 [bv 1004 60,bv 1003 42,bv 1002 41,bg 1001 40,bv 1006 59,bt 1010 (.arith .add .i64 (.var 49) (.lit 1)),bv 1013 52,bv 1012 51,bv 1011 50,bv 1000 39,bg 1005 44,bg 1008 47,bg 1007 46,bg 1009 48]))))) .top)) .top))))) .top)) .top))))) .top)) .top)))))
 (.back 0 26 (sg 1000 [bv 1004 43,bv 1003 42,bv 1002 41,bg 1001 40,bv 1006 45,bt 1000 (.arith .add .i64 (.var 39) (.lit 1)),bg 1005 44,bg 1008 47,bg 1007 46,bg 1009 48])))))))))))))))))))))))) .top))
 (.ret 2 (sg 16 [bv 20 30,bv 19 32,bv 18 29,bv 17 28,bg 16 27]))))))))))))))))))))) .top)))))) .top))))) .top))))))
theorem o_prod49_eq:treeOf ⟨Tryz.prog,prod49C,[valid36C,zero82C,row75C,addToC],[prod49I,prod49J]⟩ 100000 Tryz.f151 = o_prod49:=by kernel_rfl
theorem prod49_of (hd:∀ c ∈ ([valid36C,zero82C,row75C,addToC]:List Ctr),c.ok Tryz.prog) (h:∀ ρ:Env,ρ.good→(prod49C).pre ρ→o_prod49.den ⟨Tryz.prog,prod49C,[valid36C,zero82C,row75C,addToC],[prod49I,prod49J]⟩ ρ):(prod49C).ok Tryz.prog :=
 ok_of_tree Tryz.func151 (fun a w=>Tryz.call151 a w) hd 100000 (fun ρ hg hp=>by rw [o_prod49_eq]; exact h ρ hg hp)
end Go.Proofs

set_option linter.unusedSimpArgs false
set_option linter.unusedVariables false
namespace Go.Proofs
open Go Go.Eng

theorem fillTo_len {f:Nat→Int} {len n:Nat}:(fillTo f len n).length = len:=by simp [fillTo]
theorem fillTo_zero {f:Nat→Int} {len:Nat}:fillTo f len 0 = List.replicate len 0:=by
 apply List.ext_getElem?
 intro j
 by_cases hj:j < len
 ·simp [fillTo,List.getElem?_replicate,hj]
 ·simp [fillTo,List.getElem?_replicate,hj]
theorem fillTo_step {f:Nat→Int} {len n:Nat} (h:n < len):fillTo f len (n + 1) = (fillTo f len n).set n (f n):=by
 apply List.ext_getElem?
 intro j
 rw [List.getElem?_set]
 by_cases hj:j < len
 ·by_cases hn:n = j
  ·subst hn; rw [if_pos rfl,if_pos (by rw [fillTo_len]; exact h)]; simp [fillTo,h]
  ·rw [if_neg hn]
   simp only [fillTo,List.getElem?_map,List.getElem?_range hj,Option.map_some,Option.some.injEq]
   by_cases h1:j < n
   ·rw [if_pos (by omega),if_pos h1]
   ·rw [if_neg (by omega),if_neg h1]
 ·by_cases hn:n = j
  ·omega
  ·rw [if_neg hn]; simp [fillTo,hj]
theorem identTo_zero {n:Nat}:identTo n 0 = List.replicate (n * n) 0:=by
 apply List.ext_getElem?
 intro j
 by_cases hj:j < n * n
 ·simp [identTo,List.getElem?_replicate,hj]
 ·simp [identTo,List.getElem?_replicate,hj]
theorem div_row {i n l:Nat} (h:l < n):(i * n + l) / n = i∧(i * n + l) % n = l:=by
 have hn:0 < n:=by omega
 refine ⟨?_,?_⟩
 ·rw [Nat.mul_comm,Nat.mul_add_div hn,Nat.div_eq_of_lt h,Nat.add_zero]
 ·rw [Nat.mul_comm,Nat.mul_add_mod,Nat.mod_eq_of_lt h]
theorem row_lt {i r n l:Nat} (hi:i < r) (hl:l < n):i * n + l < r * n:=by
 have:=Nat.mul_le_mul_right n (show i + 1 ≤ r by omega)
 rw [Nat.add_mul] at this; omega
theorem identTo_step {n m:Nat} (h:m < n):identTo n (m + 1) = (identTo n m).set (m * n + m) 1:=by
 have hlt:=row_lt h h
 obtain ⟨hd,hm⟩:=div_row (i:=m) h
 apply List.ext_getElem?
 intro j
 rw [List.getElem?_set]
 by_cases hj:j < n * n
 ·simp only [identTo,List.getElem?_map,List.getElem?_range hj,Option.map_some,List.length_map,List.length_range]
  by_cases hn:m * n + m = j
  ·subst hn
   rw [if_pos rfl,if_pos hlt,hd,hm,if_pos ⟨rfl,by omega⟩]
  ·rw [if_neg hn]
   congr 1
   by_cases h1:j / n = j % n∧j / n < m
   ·rw [if_pos h1,if_pos ⟨h1.1,by omega⟩]
   ·rw [if_neg h1,if_neg]
    rintro ⟨e1,e2⟩
    have:j / n = m:=by
     rcases Nat.lt_or_ge (j / n) m with h | h
     ·exact (h1 ⟨e1,h⟩).elim
     ·omega
    have hdm:=Nat.div_add_mod j n
    rw [← e1,this,Nat.mul_comm] at hdm
    exact hn hdm
 ·rw [if_neg (by omega)]; simp [identTo,hj]
theorem seg_take {l:List Int} {L o n:Nat} (h:o + n ≤ L):seg (l.take L) o n = seg l o n:=by
 apply List.ext_getElem?
 intro j
 rw [seg_get,seg_get]
 by_cases hj:j < n
 ·rw [if_pos hj,if_pos hj,List.getElem?_take,if_pos (by omega)]
 ·rw [if_neg hj,if_neg hj]
theorem prodN_step {a b:List Int} {ra ca cb i l:Nat} (h:l < ca):prodN a b ra ca cb (i * ca + l + 1) = addToL (prodN a b ra ca cb (i * ca + l)) (i * cb) (seg b (l * cb) cb) (a.getD (i * ca + l) 0):=by
 obtain ⟨hd,hm⟩:=div_row (i:=i) h
 rw [prodN,hd,hm]
theorem matOk_put {r c l cap:Int} {d:Rows'} {e:Int} {k:IntKind} {z:Int} (h:matOk r c l cap d) (h0:0 ≤ z) (h1:z < 256):matOk r c l cap (putD d e 0 [.int k z]):=by
 obtain ⟨a1,a2,a3,a4,a5,a6,a7,a8⟩:=h
 exact ⟨a1,a2,a3,a4,a5,a6,by rw [putD_len]; exact a7,allB_put a8 h0 h1⟩
theorem powF_range {a e:Int} (a0:0 ≤ a) (a1:a < 256):0 ≤ powF a e∧powF a e < 256:=by
 unfold powF
 split
 ·omega
 ·split
  ·omega
  ·obtain ⟨l0,l1⟩:=logT_range a0 a1
   have hr0:0 ≤ e.tmod 255:=Int.tmod_nonneg _ (by omega)
   have hb:0 ≤ logT a.toNat * e.tmod 255:=Int.mul_nonneg l0 hr0
   have h3:0 ≤ (logT a.toNat * e.tmod 255).tmod 255:=Int.tmod_nonneg _ hb
   have h4:(logT a.toNat * e.tmod 255).tmod 255 < 255:=Int.tmod_lt_of_pos _ (by omega)
   have:=expT_range (i:=((logT a.toNat * e.tmod 255).tmod 255).toNat) (by omega)
   omega
theorem ident40_ok:ident40C.ok Tryz.prog:=ident40_of (by simp [zero82_ok]) fun ρ hg hp=>by
 simp [o_ident40,ident40C,ident40I,zero82C]
 refine ⟨fun h=>.inl h,fun h1=>⟨fun h=>.inr h,fun h2=>⟨⟨by omega,h2,by omega,h2⟩,fun l _ cp _ d _ hl hc hd=>⟨⟨h1,h2,by omega,?_⟩,fun i _ l' _ c' _ d' _ _ _ i0 i1 hM hL hB=>⟨fun hi=>?_,fun hi=>?_⟩⟩⟩⟩⟩
 ·have hb:=mul_bound (x:=(ρ 0).i) (y:=(ρ 0).i) (by omega) h2 (by omega) h2
  refine ⟨⟨by omega,h2,by omega,h2,hl,by omega,by rw [hd,List.length_replicate]; omega,by rw [hd]; exact allB_rep⟩,by rw [hd,List.length_replicate]; omega,?_⟩
  rw [hd,bI_rep,identTo_zero,hl,Int.toNat_mul (by omega) (by omega)]
 ·have hM':=hM
  obtain ⟨a1,a2,a3,a4,a5,a6,a7,a8⟩:=hM
  have hb:=mul_bound (x:=i.i) (y:=(ρ 0).i) i0 (show i.i ≤ 255 by omega) (by omega) h2
  have hlt:i.i * (ρ 0).i + i.i < (ρ 0).i * (ρ 0).i:=by
   have:=Int.mul_le_mul_of_nonneg_right (show i.i + 1 ≤ (ρ 0).i by omega) (show 0 ≤ (ρ 0).i by omega)
   rw [Int.add_mul,Int.one_mul] at this; omega
  rw [mul64 (by omega) (by omega),add64 (by omega) (by omega),add64 (by omega) (by omega)]
  refine ⟨by omega,by omega,by omega,⟨h1,h2,by omega,by omega,matOk_put hM' (by decide) (by decide),by rw [putD_len]; exact hL,?_⟩,by omega⟩
  rw [bI_put,hB,show (i.i + 1).toNat = i.i.toNat + 1 by omega,identTo_step (by omega)]
  congr 1
  rw [Int.toNat_add hb.1 i0,Int.toNat_mul i0 (by omega)]
 ·have:i.i = (ρ 0).i:=by omega
  rw [this] at hB
  exact ⟨h1,h2,hM,hL,hB⟩
theorem vander45_ok:vander45C.ok Tryz.prog:=vander45_of (by simp [zero82_ok,pow37_ok]) fun ρ hg hp=>by
 have hf:fieldD (ρ 1).d:=hp
 simp [o_vander45,vander45C,vander45I,vander45J,vandInv,zero82C,pow37C]
 have hne:=(fieldD_ne hf).1
 refine ⟨fun h=>(hne h).elim,fun _=>⟨fun h=>⟨hf,.inl h⟩,fun r1=>⟨fun h=>⟨hf,.inr (.inl h)⟩,fun r2=>⟨fun h=>⟨hf,.inr (.inr (.inl h))⟩,fun c1=>⟨fun h=>⟨hf,.inr (.inr (.inr h))⟩,fun c2=>?_⟩⟩⟩⟩⟩
 have hnb:¬ vanderBad (ρ 2).i (ρ 3).i:=by unfold vanderBad; omega
 have hb:=mul_bound (x:=(ρ 2).i) (y:=(ρ 3).i) (by omega) r2 (by omega) c2
 refine ⟨⟨by omega,r2,by omega,c2⟩,fun l _ cp _ d _ hl hc hd=>⟨⟨by omega,hnb,hf,?_⟩,fun i _ l' _ c' _ d' _ fd _ i0 i1 _ hfd hM hL hB=>⟨fun hi=>⟨⟨i0,hi,by omega,hnb,hfd,hM,hL,hB⟩,fun i' _ l2 _ cp2 _ d2 _ fd2 _ j _ i0' i1' j0 j1 _ hfd2 hM2 hL2 hB2 hii=>⟨fun hj=>?_,fun hj=>?_⟩⟩,fun hi=>?_⟩⟩⟩
 ·refine ⟨⟨by omega,r2,by omega,c2,hl,by omega,by rw [hd,List.length_replicate]; omega,by rw [hd]; exact allB_rep⟩,by rw [hd,List.length_replicate]; omega,?_⟩
  rw [hd,bI_rep,fillTo_zero,hl,Int.toNat_mul (by omega) (by omega)]
 ·have hw:IntKind.u8.wrap i'.i = i'.i:=by simp [IntKind.wrap,IntKind.bits,IntKind.signed]; omega
  rw [hw]
  have hM2':=hM2
  obtain ⟨a1,a2,a3,a4,a5,a6,a7,a8⟩:=hM2
  have hb2:=mul_bound (x:=i'.i) (y:=(ρ 3).i) i0' (show i'.i ≤ 255 by omega) (by omega) c2
  have hlt:i'.i * (ρ 3).i + j.i < (ρ 2).i * (ρ 3).i:=by
   have:=Int.mul_le_mul_of_nonneg_right (show i'.i + 1 ≤ (ρ 2).i by omega) (show 0 ≤ (ρ 3).i by omega)
   rw [Int.add_mul,Int.one_mul] at this; omega
  refine ⟨⟨hfd2,i0',by omega,by omega⟩,fun p _ fd3 _ hf3 hpw=>?_⟩
  rw [mul64 (by omega) (by omega),add64 (by omega) (by omega),add64 (by omega) (by omega)]
  have hpr:=powF_range (e:=j.i) i0' (show i'.i < 256 by omega)
  refine ⟨by omega,by omega,by omega,⟨i0',i1',by omega,by omega,⟨hnb,hf3,matOk_put hM2' (by rw [hpw]; exact hpr.1) (by rw [hpw]; exact hpr.2),by rw [putD_len]; exact hL2,?_⟩,hii⟩,by omega⟩
  have ht:(i'.i * (ρ 3).i + j.i).toNat = i'.i.toNat * (ρ 3).i.toNat + j.i.toNat:=by rw [Int.toNat_add hb2.1 j0,Int.toNat_mul i0' (by omega)]
  rw [bI_put,hB2,show (i'.i * (ρ 3).i + (j.i + 1)).toNat = (i'.i * (ρ 3).i + j.i).toNat + 1 by omega,fillTo_step (by rw [← Int.toNat_mul (by omega) (by omega)]; omega)]
  congr 1
  obtain ⟨e1,e2⟩:=div_row (i:=i'.i.toNat) (n:=(ρ 3).i.toNat) (l:=j.i.toNat) (by omega)
  rw [ht,vanderF,e1,e2,hpw,Int.toNat_of_nonneg i0',Int.toNat_of_nonneg j0]
 ·have hj':j.i = (ρ 3).i:=by omega
  rw [add64 (by omega) (by omega)]
  rw [hj',show i'.i * (ρ 3).i + (ρ 3).i = (i'.i + 1) * (ρ 3).i by rw [Int.add_mul,Int.one_mul]] at hB2
  exact ⟨⟨by omega,by omega,hnb,hfd2,hM2,hL2,hB2⟩,by omega⟩
 ·have:i.i = (ρ 2).i:=by omega
  rw [this,Int.toNat_mul (by omega) (by omega)] at hB
  exact ⟨hfd,hnb,hM,hL,hB⟩
theorem prod49_ok:prod49C.ok Tryz.prog:=prod49_of (by simp [valid36_ok,zero82_ok,row75_ok,addTo_ok]) fun ρ hg hp=>by
 obtain ⟨hf,la0,la1,la2,hBa,lb0,lb1,lb2,hBb⟩:=hp
 have hne:=(fieldD_ne hf).1
 simp [o_prod49,prod49C,prod49I,prod49J,prodInv,valid36C,zero82C,row75C,addToC]
 refine ⟨fun h=>(hne h).elim,fun _=>⟨la0,fun v1 _ hv1=>⟨fun hb=>⟨hf,fun h=>?_⟩,fun hb=>⟨lb0,fun v2 _ hv2=>⟨fun hb2=>⟨hf,fun _ h=>?_⟩,fun hb2=>?_⟩⟩⟩⟩⟩
 ·have:=hv1.2 h
  rw [hb] at this; cases this
 ·have:=hv2.2 h
  rw [hb2] at this; cases this
 have vA:validM (ρ 2).i (ρ 3).i (ρ 5).i:=hv1.1 hb
 have vB:validM (ρ 9).i (ρ 10).i (ρ 12).i:=hv2.1 hb2
 refine ⟨fun h=>⟨hf,vA,vB,h⟩,fun hcr=>?_⟩
 obtain ⟨ra1,ra2,ca1,ca2,hla⟩:=vA
 obtain ⟨rb1,rb2,cb1,cb2,hlb⟩:=vB
 have mA:matOk (ρ 2).i (ρ 3).i (ρ 5).i (ρ 6).i (ρ 7).d:=⟨by omega,ra2,by omega,ca2,hla,la1,la2,hBa⟩
 have mB:matOk (ρ 9).i (ρ 10).i (ρ 12).i (ρ 13).i (ρ 14).d:=⟨by omega,rb2,by omega,cb2,hlb,lb1,lb2,hBb⟩
 have hbA:=mul_bound (x:=(ρ 2).i) (y:=(ρ 3).i) (by omega) ra2 (by omega) ca2
 have hbP:=mul_bound (x:=(ρ 2).i) (y:=(ρ 10).i) (by omega) ra2 (by omega) cb2
 refine ⟨⟨by omega,ra2,by omega,cb2⟩,fun l _ cp _ d _ hl hc hd=>⟨⟨by omega,hv1.1 hb,hv2.1 hb2,hcr,hf,?_⟩,fun i _ l' _ c' _ d' _ fd _ i0 i1 _ _ _ hfd hM hL hB=>⟨fun hi=>⟨⟨i0,hi,mA⟩,fun o1 _ n1 _ k1 _ ho1 hn1 hk1=>⟨by omega,⟨i0,hi,by omega,ho1,hn1,hv1.1 hb,hv2.1 hb2,hcr,hfd,hM,hL,hB⟩,?_⟩⟩,fun hi=>?_⟩⟩⟩
 ·refine ⟨⟨by omega,ra2,by omega,cb2,hl,by omega,by rw [hd,List.length_replicate]; omega,by rw [hd]; exact allB_rep⟩,by rw [hd,List.length_replicate]; omega,?_⟩
  rw [hd,bI_rep,prodN,hl,Int.toNat_mul (by omega) (by omega)]
 ·intro i' _ l2 _ cp2 _ d2 _ fd2 _ j _ o2 _ n2 _ i0' i1' j0 j1 ho2 hn2 _ _ _ hfd2 hM2 hL2 hB2 hii
  refine ⟨fun hj=>?_,fun hj=>?_⟩
  ·have hjc:j.i < (ρ 3).i:=by omega
   have hbi:=mul_bound (x:=i'.i) (y:=(ρ 3).i) i0' (show i'.i ≤ 255 by omega) (by omega) ca2
   have hbo:=mul_bound (x:=i'.i) (y:=(ρ 10).i) i0' (show i'.i ≤ 255 by omega) (by omega) cb2
   have hbj:=mul_bound (x:=j.i) (y:=(ρ 10).i) j0 (show j.i ≤ 255 by omega) (by omega) cb2
   have hltA:i'.i * (ρ 3).i + j.i < (ρ 2).i * (ρ 3).i:=by
    have:=Int.mul_le_mul_of_nonneg_right (show i'.i + 1 ≤ (ρ 2).i by omega) (show 0 ≤ (ρ 3).i by omega)
    rw [Int.add_mul,Int.one_mul] at this; omega
   have hltP:i'.i * (ρ 10).i + (ρ 10).i ≤ (ρ 2).i * (ρ 10).i:=by
    have:=Int.mul_le_mul_of_nonneg_right (show i'.i + 1 ≤ (ρ 2).i by omega) (show 0 ≤ (ρ 10).i by omega)
    rw [Int.add_mul,Int.one_mul] at this; omega
   have hltB:j.i * (ρ 10).i + (ρ 10).i ≤ (ρ 9).i * (ρ 10).i:=by
    have:=Int.mul_le_mul_of_nonneg_right (show j.i + 1 ≤ (ρ 9).i by omega) (show 0 ≤ (ρ 10).i by omega)
    rw [Int.add_mul,Int.one_mul] at this; omega
   have hM2':=hM2
   obtain ⟨a1,a2,a3,a4,a5,a6,a7,a8⟩:=hM2
   have hcell:=allB_get hBa (i:=i'.i * (ρ 3).i + j.i) (by omega) (by omega)
   rw [ho2]
   refine ⟨j0,by omega,by omega,by omega,⟨i0',i1',hM2'⟩,fun o3 _ n3 _ k3 _ ho3 hn3 hk3=>⟨⟨j0,by omega,mB⟩,fun o4 _ n4 _ k4 _ ho4 hn4 hk4=>⟨⟨hfd2,⟨by omega,by omega,by omega,by unfold Go.Eng.big; omega⟩,⟨by omega,by omega,by omega,by unfold Go.Eng.big; omega⟩,by omega,a8,hBb,hcell⟩,fun fd5 _ d5 _ hf5 hl5 hB5 he5=>?_⟩⟩⟩
   rw [add64 (by omega) (by omega)]
   refine ⟨⟨i0',i1',by omega,by omega,rfl,hn2,⟨hv1.1 hb,hv2.1 hb2,hcr,hf5,⟨a1,a2,a3,a4,a5,a6,by omega,hB5⟩,by omega,?_⟩,hii⟩,by omega⟩
   have ht:(i'.i * (ρ 3).i + j.i).toNat = i'.i.toNat * (ρ 3).i.toNat + j.i.toNat:=by rw [Int.toNat_add hbi.1 j0,Int.toNat_mul i0' (by omega)]
   have hget:=bI_get (d:=(ρ 7).d) (i:=i'.i * (ρ 3).i + j.i) (by omega) (by omega)
   rw [he5,hB2,show (i'.i * (ρ 3).i + (j.i + 1)).toNat = (i'.i * (ρ 3).i + j.i).toNat + 1 by omega,ht,prodN_step (by omega)]
   have e1:o3.i.toNat = i'.i.toNat * (ρ 10).i.toNat:=by rw [ho3,Int.toNat_mul i0' (by omega)]
   have e2:o4.i.toNat = j.i.toNat * (ρ 10).i.toNat:=by rw [ho4,Int.toNat_mul j0 (by omega)]
   have e3:((bI (ρ 7).d).take (ρ 5).i.toNat).getD (i'.i.toNat * (ρ 3).i.toNat + j.i.toNat) 0 = cellI (ρ 7).d (i'.i * (ρ 3).i + j.i) 0:=by
    rw [List.getD_eq_getElem?_getD,List.getElem?_take,if_pos (by rw [← ht]; omega),← ht,hget]; rfl
   rw [e3,e1,e2,hn4,seg_take (by rw [← e2]; omega)]
  ·have hj':j.i = (ρ 3).i:=by omega
   rw [add64 (by omega) (by omega)]
   rw [hj',show i'.i * (ρ 3).i + (ρ 3).i = (i'.i + 1) * (ρ 3).i by rw [Int.add_mul,Int.one_mul]] at hB2
   exact ⟨⟨by omega,by omega,hv1.1 hb,hv2.1 hb2,hcr,hfd2,hM2,hL2,hB2⟩,by omega⟩
 ·have:i.i = (ρ 2).i:=by omega
  rw [this,Int.toNat_mul (by omega) (by omega)] at hB
  exact ⟨hfd,hv1.1 hb,hv2.1 hb2,hcr,hM,hL,hB⟩
end Go.Proofs

set_option linter.unusedSimpArgs false
set_option linter.unusedVariables false
set_option maxRecDepth 100000
namespace Go.Proofs
open Go Go.Eng

@[simp] def o_elim83_11:Sg:=sg 0 [bv 6 8,bv 5 30,bv 7 25,bv 4 6,bv 3 5,bg 2 4,bv 1 3,bv 0 2]
@[simp] def o_elim83_10:Sg:=sg 0 [bv 6 15,bv 5 31,bv 7 25,bv 4 13,bv 3 12,bg 2 11,bv 1 10,bv 0 9]
@[simp] def o_elim83_9:Sg:=sg 0 [bv 1 27,bt 2 (.icell (.var 30) (.arith .add .i64 (.arith .mul .i64 (.var 25) (.var 3)) (.var 26)) 0),bg 0 0]
@[simp] def o_elim83_8:Sg:=sg 0 [bv 1 47,bt 2 (.icell (.var 40) (.arith .add .i64 (.arith .mul .i64 (.var 25) (.var 3)) (.var 26)) 0),bg 0 0]
@[simp] def o_elim83_7:Sg:=sg 0 [bv 7 8,bv 6 30,bv 1 27,bt 11 (.lit 1),bv 10 38,bv 9 37,bv 8 36,bv 5 35,bv 4 34,bv 3 33,bg 2 4,bg 0 0]
@[simp] def o_elim83_6:Sg:=sg 0 [bv 7 15,bv 6 31,bv 1 39,bt 11 (.lit 1),bv 10 46,bv 9 45,bv 8 44,bv 5 43,bv 4 42,bv 3 41,bg 2 11,bg 0 0]
@[simp] def o_elim83_5:Sg:=sg 0 [bv 7 8,bv 6 51,bv 1 48,bt 11 (.icell (.var 51) (.arith .add .i64 (.arith .mul .i64 (.var 53) (.var 3)) (.var 47)) 0),bv 10 59,bv 9 58,bv 8 57,bv 5 56,bv 4 55,bv 3 54,bg 2 4,bg 0 0]
@[simp] def o_elim83_4:Sg:=sg 0 [bv 7 8,bv 6 67,bv 1 64,bt 11 (.icell (.var 67) (.arith .add .i64 (.arith .mul .i64 (.var 69) (.var 3)) (.var 63)) 0),bv 10 75,bv 9 74,bv 8 73,bv 5 72,bv 4 71,bv 3 70,bg 2 4,bg 0 0]
@[simp] def o_elim83_3:Sg:=sg 0 [bv 7 15,bv 6 52,bv 1 60,bt 11 (.icell (.var 51) (.arith .add .i64 (.arith .mul .i64 (.var 53) (.var 3)) (.var 47)) 0),bv 10 67,bv 9 66,bv 8 65,bv 5 64,bv 4 63,bv 3 62,bg 2 11,bg 0 0]
@[simp] def o_elim83_2:Sg:=sg 0 [bv 7 15,bv 6 68,bv 1 76,bt 11 (.icell (.var 67) (.arith .add .i64 (.arith .mul .i64 (.var 69) (.var 3)) (.var 63)) 0),bv 10 83,bv 9 82,bv 8 81,bv 5 80,bv 4 79,bv 3 78,bg 2 11,bg 0 0]
@[simp] def o_elim83_1:Out:=.br (.cmp .eql (.var 32) (.var 2))
 (.back 0 18 (sg 1000 [bv 1006 31,bv 1005 30,bv 1002 27,bt 1001 (.arith .add .i64 (.var 26) (.lit 1)),bv 1000 25,bg 1004 29,bg 1003 28]))
 (.br (.cmp .neq (.var 32) (.var 25))
 (.both (.pre 0 o_elim83_11 (.both (.fresh 33 (.fresh 34 (.fresh 35 (.post 0 0 o_elim83_11 33 (.both (.pre 0 (sg 0 [bv 6 8,bv 5 30,bv 7 32,bv 4 6,bv 3 5,bg 2 4,bv 1 3,bv 0 2]) (.both (.fresh 36 (.fresh 37 (.fresh 38 (.post 0 0 (sg 0 [bv 6 8,bv 5 30,bv 7 32,bv 4 6,bv 3 5,bg 2 4,bv 1 3,bv 0 2]) 36 (.both (.pre 2 o_elim83_7 (.both (.fresh 39 (.fresh 40 (.post 2 0 o_elim83_7 39 (.both (.pre 0 o_elim83_10 (.both (.fresh 41 (.fresh 42 (.fresh 43 (.post 0 0 o_elim83_10 41 (.both (.pre 0 (sg 0 [bv 6 15,bv 5 31,bv 7 32,bv 4 13,bv 3 12,bg 2 11,bv 1 10,bv 0 9]) (.both (.fresh 44 (.fresh 45 (.fresh 46 (.post 0 0 (sg 0 [bv 6 15,bv 5 31,bv 7 32,bv 4 13,bv 3 12,bg 2 11,bv 1 10,bv 0 9]) 44 (.both (.pre 2 o_elim83_6 (.both (.fresh 47 (.fresh 48 (.post 2 0 o_elim83_6 47 (.need (.cmp .leq (.lit 0) (.arith .add .i64 (.arith .mul .i64 (.var 25) (.var 3)) (.var 26))) (.need (.cmp .lss (.arith .add .i64 (.arith .mul .i64 (.var 25) (.var 3)) (.var 26)) (.var 5)) (.need (.cmp .lss (.arith .add .i64 (.arith .mul .i64 (.var 25) (.var 3)) (.var 26)) (.dlen (.var 40))) (.pre 3 o_elim83_8 (.both (.fresh 49 (.fresh 50 (.fresh 51 (.post 3 0 o_elim83_8 49 (.pre 0 (sg 0 [bv 6 8,bv 5 40,bv 7 25,bv 4 6,bv 3 5,bg 2 4,bv 1 3,bv 0 2]) (.both (.fresh 52 (.fresh 53 (.fresh 54 (.post 0 0 (sg 0 [bv 6 8,bv 5 40,bv 7 25,bv 4 6,bv 3 5,bg 2 4,bv 1 3,bv 0 2]) 52 (.pre 4 (sg 0 [bv 7 8,bv 6 40,bv 1 51,bv 8 49,bv 5 54,bv 4 53,bv 3 52,bg 2 4,bg 0 0]) (.both (.fresh 55 (.fresh 56 (.post 4 0 (sg 0 [bv 7 8,bv 6 40,bv 1 51,bv 8 49,bv 5 54,bv 4 53,bv 3 52,bg 2 4,bg 0 0]) 55 (.pre 0 (sg 0 [bv 6 15,bv 5 48,bv 7 25,bv 4 13,bv 3 12,bg 2 11,bv 1 10,bv 0 9]) (.both (.fresh 57 (.fresh 58 (.fresh 59 (.post 0 0 (sg 0 [bv 6 15,bv 5 48,bv 7 25,bv 4 13,bv 3 12,bg 2 11,bv 1 10,bv 0 9]) 57 (.pre 4 (sg 0 [bv 7 15,bv 6 48,bv 1 55,bv 8 49,bv 5 59,bv 4 58,bv 3 57,bg 2 11,bg 0 0]) (.both (.fresh 60 (.fresh 61 (.post 4 0 (sg 0 [bv 7 15,bv 6 48,bv 1 55,bv 8 49,bv 5 59,bv 4 58,bv 3 57,bg 2 11,bg 0 0]) 60 (.inv 2 62 (sg 1000 [bv 1006 61,bv 1005 56,bv 1002 60,bt 1007 (.lit 0),bv 1001 26,bv 1000 25,bg 1004 29,bg 1003 28]) (.fresh 62 (.fresh 63 (.fresh 64 (.fresh 65 (.fresh 66 (.fresh 67 (.fresh 68 (.fresh 69 (.hyp 2 62 (.br (.cmp .lss (.var 69) (.var 2))
 (.need (.cmp .leq (.lit 0) (.arith .add .i64 (.arith .mul .i64 (.var 69) (.var 3)) (.var 63))) (.need (.cmp .lss (.arith .add .i64 (.arith .mul .i64 (.var 69) (.var 3)) (.var 63)) (.var 5)) (.need (.cmp .lss (.arith .add .i64 (.arith .mul .i64 (.var 69) (.var 3)) (.var 63)) (.dlen (.var 67))) (.br (.cmp .neq (.var 69) (.var 62))
 (.both (.pre 0 (sg 0 [bv 6 8,bv 5 67,bv 7 69,bv 4 6,bv 3 5,bg 2 4,bv 1 3,bv 0 2]) (.both (.fresh 70 (.fresh 71 (.fresh 72 (.post 0 0 (sg 0 [bv 6 8,bv 5 67,bv 7 69,bv 4 6,bv 3 5,bg 2 4,bv 1 3,bv 0 2]) 70 (.both (.pre 0 (sg 0 [bv 6 8,bv 5 67,bv 7 62,bv 4 6,bv 3 5,bg 2 4,bv 1 3,bv 0 2]) (.both (.fresh 73 (.fresh 74 (.fresh 75 (.post 0 0 (sg 0 [bv 6 8,bv 5 67,bv 7 62,bv 4 6,bv 3 5,bg 2 4,bv 1 3,bv 0 2]) 73 (.both (.pre 2 o_elim83_4 (.both (.fresh 76 (.fresh 77 (.post 2 0 o_elim83_4 76 (.both (.pre 0 (sg 0 [bv 6 15,bv 5 68,bv 7 69,bv 4 13,bv 3 12,bg 2 11,bv 1 10,bv 0 9]) (.both (.fresh 78 (.fresh 79 (.fresh 80 (.post 0 0 (sg 0 [bv 6 15,bv 5 68,bv 7 69,bv 4 13,bv 3 12,bg 2 11,bv 1 10,bv 0 9]) 78 (.both (.pre 0 (sg 0 [bv 6 15,bv 5 68,bv 7 62,bv 4 13,bv 3 12,bg 2 11,bv 1 10,bv 0 9]) (.both (.fresh 81 (.fresh 82 (.fresh 83 (.post 0 0 (sg 0 [bv 6 15,bv 5 68,bv 7 62,bv 4 13,bv 3 12,bg 2 11,bv 1 10,bv 0 9]) 81 (.both (.pre 2 o_elim83_2 (.both (.fresh 84 (.fresh 85 (.post 2 0 o_elim83_2 84 (.back 2 62 (sg 1000 [bv 1006 85,bv 1005 77,bv 1002 84,bt 1007 (.arith .add .i64 (.var 69) (.lit 1)),bv 1001 63,bv 1000 62,bg 1004 66,bg 1003 65]))))) .top)) .top))))) .top)) .top))))) .top)) .top)))) .top)) .top))))) .top)) .top))))) .top)) .top)
 (.back 2 62 (sg 1000 [bv 1006 68,bv 1005 67,bv 1002 64,bt 1007 (.arith .add .i64 (.var 69) (.lit 1)),bv 1001 63,bv 1000 62,bg 1004 66,bg 1003 65]))))))
 (.back 0 18 (sg 1000 [bv 1006 68,bv 1005 67,bv 1002 64,bt 1001 (.arith .add .i64 (.var 63) (.lit 1)),bt 1000 (.arith .add .i64 (.var 62) (.lit 1)),bg 1004 66,bg 1003 65])))))))))))))))) .top)))))) .top))))) .top)))))) .top)))))) .top)))))))) .top)) .top))))) .top)) .top))))) .top)) .top)))) .top)) .top))))) .top)) .top))))) .top)) .top)
 (.need (.cmp .leq (.lit 0) (.arith .add .i64 (.arith .mul .i64 (.var 25) (.var 3)) (.var 26))) (.need (.cmp .lss (.arith .add .i64 (.arith .mul .i64 (.var 25) (.var 3)) (.var 26)) (.var 5)) (.need (.cmp .lss (.arith .add .i64 (.arith .mul .i64 (.var 25) (.var 3)) (.var 26)) (.dlen (.var 30))) (.pre 3 o_elim83_9 (.both (.fresh 33 (.fresh 34 (.fresh 35 (.post 3 0 o_elim83_9 33 (.pre 0 o_elim83_11 (.both (.fresh 36 (.fresh 37 (.fresh 38 (.post 0 0 o_elim83_11 36 (.pre 4 (sg 0 [bv 7 8,bv 6 30,bv 1 35,bv 8 33,bv 5 38,bv 4 37,bv 3 36,bg 2 4,bg 0 0]) (.both (.fresh 39 (.fresh 40 (.post 4 0 (sg 0 [bv 7 8,bv 6 30,bv 1 35,bv 8 33,bv 5 38,bv 4 37,bv 3 36,bg 2 4,bg 0 0]) 39 (.pre 0 o_elim83_10 (.both (.fresh 41 (.fresh 42 (.fresh 43 (.post 0 0 o_elim83_10 41 (.pre 4 (sg 0 [bv 7 15,bv 6 31,bv 1 39,bv 8 33,bv 5 43,bv 4 42,bv 3 41,bg 2 11,bg 0 0]) (.both (.fresh 44 (.fresh 45 (.post 4 0 (sg 0 [bv 7 15,bv 6 31,bv 1 39,bv 8 33,bv 5 43,bv 4 42,bv 3 41,bg 2 11,bg 0 0]) 44 (.inv 2 46 (sg 1000 [bv 1006 45,bv 1005 40,bv 1002 44,bt 1007 (.lit 0),bv 1001 26,bv 1000 25,bg 1004 29,bg 1003 28]) (.fresh 46 (.fresh 47 (.fresh 48 (.fresh 49 (.fresh 50 (.fresh 51 (.fresh 52 (.fresh 53 (.hyp 2 46 (.br (.cmp .lss (.var 53) (.var 2))
 (.need (.cmp .leq (.lit 0) (.arith .add .i64 (.arith .mul .i64 (.var 53) (.var 3)) (.var 47))) (.need (.cmp .lss (.arith .add .i64 (.arith .mul .i64 (.var 53) (.var 3)) (.var 47)) (.var 5)) (.need (.cmp .lss (.arith .add .i64 (.arith .mul .i64 (.var 53) (.var 3)) (.var 47)) (.dlen (.var 51))) (.br (.cmp .neq (.var 53) (.var 46))
 (.both (.pre 0 (sg 0 [bv 6 8,bv 5 51,bv 7 53,bv 4 6,bv 3 5,bg 2 4,bv 1 3,bv 0 2]) (.both (.fresh 54 (.fresh 55 (.fresh 56 (.post 0 0 (sg 0 [bv 6 8,bv 5 51,bv 7 53,bv 4 6,bv 3 5,bg 2 4,bv 1 3,bv 0 2]) 54 (.both (.pre 0 (sg 0 [bv 6 8,bv 5 51,bv 7 46,bv 4 6,bv 3 5,bg 2 4,bv 1 3,bv 0 2]) (.both (.fresh 57 (.fresh 58 (.fresh 59 (.post 0 0 (sg 0 [bv 6 8,bv 5 51,bv 7 46,bv 4 6,bv 3 5,bg 2 4,bv 1 3,bv 0 2]) 57 (.both (.pre 2 o_elim83_5 (.both (.fresh 60 (.fresh 61 (.post 2 0 o_elim83_5 60 (.both (.pre 0 (sg 0 [bv 6 15,bv 5 52,bv 7 53,bv 4 13,bv 3 12,bg 2 11,bv 1 10,bv 0 9]) (.both (.fresh 62 (.fresh 63 (.fresh 64 (.post 0 0 (sg 0 [bv 6 15,bv 5 52,bv 7 53,bv 4 13,bv 3 12,bg 2 11,bv 1 10,bv 0 9]) 62 (.both (.pre 0 (sg 0 [bv 6 15,bv 5 52,bv 7 46,bv 4 13,bv 3 12,bg 2 11,bv 1 10,bv 0 9]) (.both (.fresh 65 (.fresh 66 (.fresh 67 (.post 0 0 (sg 0 [bv 6 15,bv 5 52,bv 7 46,bv 4 13,bv 3 12,bg 2 11,bv 1 10,bv 0 9]) 65 (.both (.pre 2 o_elim83_3 (.both (.fresh 68 (.fresh 69 (.post 2 0 o_elim83_3 68 (.back 2 46 (sg 1000 [bv 1006 69,bv 1005 61,bv 1002 68,bt 1007 (.arith .add .i64 (.var 53) (.lit 1)),bv 1001 47,bv 1000 46,bg 1004 50,bg 1003 49]))))) .top)) .top))))) .top)) .top))))) .top)) .top)))) .top)) .top))))) .top)) .top))))) .top)) .top)
 (.back 2 46 (sg 1000 [bv 1006 52,bv 1005 51,bv 1002 48,bt 1007 (.arith .add .i64 (.var 53) (.lit 1)),bv 1001 47,bv 1000 46,bg 1004 50,bg 1003 49]))))))
 (.back 0 18 (sg 1000 [bv 1006 52,bv 1005 51,bv 1002 48,bt 1001 (.arith .add .i64 (.var 47) (.lit 1)),bt 1000 (.arith .add .i64 (.var 46) (.lit 1)),bg 1004 50,bg 1003 49])))))))))))))))) .top)))))) .top))))) .top)))))) .top)))))) .top))))))
def o_elim83:Out:=(.fresh 16 (.fresh 17 (.inv 0 18 (sg 1000 [bv 1006 14,bv 1005 7,bv 1002 1,bt 1001 (.lit 0),bt 1000 (.lit 0),bg 1004 17,bg 1003 16]) (.fresh 18 (.fresh 19 (.fresh 20 (.fresh 21 (.fresh 22 (.fresh 23 (.fresh 24 (.hyp 0 18 (.br (.cmp .lss (.var 19) (.var 3))
 (.br (.cmp .lss (.var 18) (.var 2))
 (.inv 1 25 (sg 1000 [bv 1006 24,bv 1005 23,bv 1002 20,bv 1007 18,bv 1001 19,bv 1000 18,bg 1004 22,bg 1003 21]) (.fresh 25 (.fresh 26 (.fresh 27 (.fresh 28 (.fresh 29 (.fresh 30 (.fresh 31 (.fresh 32 (.hyp 1 25 (.br (.cmp .lss (.var 32) (.var 2))
 (.need (.cmp .leq (.lit 0) (.arith .add .i64 (.arith .mul .i64 (.var 32) (.var 3)) (.var 26))) (.need (.cmp .lss (.arith .add .i64 (.arith .mul .i64 (.var 32) (.var 3)) (.var 26)) (.var 5)) (.need (.cmp .lss (.arith .add .i64 (.arith .mul .i64 (.var 32) (.var 3)) (.var 26)) (.dlen (.var 30))) (.br (.cmp .eql (.icell (.var 30) (.arith .add .i64 (.arith .mul .i64 (.var 32) (.var 3)) (.var 26)) 0) (.lit 0))
 (.back 1 25 (sg 1000 [bv 1006 31,bv 1005 30,bv 1002 27,bt 1007 (.arith .add .i64 (.var 32) (.lit 1)),bv 1001 26,bv 1000 25,bg 1004 29,bg 1003 28]))
 o_elim83_1))))
 o_elim83_1)))))))))))
 (.ret 0 (sg 16 [bv 19 24,bv 18 23,bv 17 20,bv 16 18])))
 (.ret 0 (sg 16 [bv 19 24,bv 18 23,bv 17 20,bv 16 18]))))))))))))))
theorem o_elim83_eq:treeOf ⟨Tryz.prog,elim83C,[row75C,addToC,addToS,inv51C,scaleC],[elim83I,elim83J,elim83K]⟩ 100000 Tryz.f167 = o_elim83:=by kernel_rfl
theorem elim83_of (hd:∀ c ∈ ([row75C,addToC,addToS,inv51C,scaleC]:List Ctr),c.ok Tryz.prog) (h:∀ ρ:Env,ρ.good→(elim83C).pre ρ→o_elim83.den ⟨Tryz.prog,elim83C,[row75C,addToC,addToS,inv51C,scaleC],[elim83I,elim83J,elim83K]⟩ ρ):(elim83C).ok Tryz.prog :=
 ok_of_tree Tryz.func167 (fun a w=>Tryz.call167 a w) hd 100000 (fun ρ hg hp=>by rw [o_elim83_eq]; exact h ρ hg hp)
@[simp] def o_inverse55_1:Sg:=sg 0 [bv 15 14,bv 14 15,bv 8 18,bv 7 19,bv 1 1,bv 13 14,bv 12 13,bg 11 12,bv 10 2,bv 9 2,bv 6 18,bv 5 5,bg 4 17,bv 3 3,bv 2 2,bg 0 0]
def o_inverse55:Out:=(.fresh 9 (.fresh 10 (.br (.and (.cmp .eql (.dlen (.var 1)) (.lit 0)) (.isnil 0))
 (.ret 0 (sg 9 [bv 10 1,bt 9 (.lit 1)]))
 (.pre 0 (sg 0 [bv 6 8,bv 5 7,bv 4 6,bv 3 5,bg 2 4,bv 1 3,bv 0 2]) (.both (.fresh 11 (.post 0 0 (sg 0 [bv 6 8,bv 5 7,bv 4 6,bv 3 5,bg 2 4,bv 1 3,bv 0 2]) 11 (.br (.not (.var 11))
 (.ret 0 (sg 9 [bv 10 1,bt 9 (.lit 2)]))
 (.br (.cmp .neq (.var 2) (.var 3))
 (.ret 0 (sg 9 [bv 10 1,bt 9 (.lit 10)]))
 (.pre 1 (sg 0 [bv 0 2]) (.both (.fresh 12 (.fresh 13 (.fresh 14 (.fresh 15 (.post 1 0 (sg 0 [bv 0 2]) 12 (.fresh 16 (.both (.pre 2 (sg 0 [bv 6 8,bv 5 7,bv 4 6,bv 3 5,bg 2 4,bv 1 3,bv 0 2]) (.both (.fresh 17 (.fresh 18 (.fresh 19 (.post 2 0 (sg 0 [bv 6 8,bv 5 7,bv 4 6,bv 3 5,bg 2 4,bv 1 3,bv 0 2]) 17 (.both (.pre 3 o_inverse55_1 (.both (.fresh 20 (.fresh 21 (.fresh 22 (.fresh 23 (.post 3 0 o_inverse55_1 20 (.br (.cmp .lss (.var 20) (.var 2))
 (.ret 0 (sg 9 [bv 10 21,bt 9 (.lit 11)]))
 (.ret 1 (sg 9 [bv 13 23,bv 12 21,bv 11 14,bv 10 13,bg 9 12])))))))) .top)) .top))))) .top)) .top))))))) .top)))))) .top)))))
theorem o_inverse55_eq:treeOf ⟨Tryz.prog,inverse55C,[valid36C,identGC,cloneKC,elim83C],[]⟩ 100000 Tryz.f134 = o_inverse55:=by kernel_rfl
theorem inverse55_of (hd:∀ c ∈ ([valid36C,identGC,cloneKC,elim83C]:List Ctr),c.ok Tryz.prog) (h:∀ ρ:Env,ρ.good→(inverse55C).pre ρ→o_inverse55.den ⟨Tryz.prog,inverse55C,[valid36C,identGC,cloneKC,elim83C],[]⟩ ρ):(inverse55C).ok Tryz.prog :=
 ok_of_tree Tryz.func134 (fun a w=>Tryz.call134 a w) hd 100000 (fun ρ hg hp=>by rw [o_inverse55_eq]; exact h ρ hg hp)
@[simp] def o_gen35_3:Sg:=sg 0 [bv 8 8,bv 7 10,bv 1 9,bv 6 8,bt 5 (.arith .mul .i64 (.var 2) (.var 2)),bg 4 6,bv 3 2,bv 2 2,bg 0 0]
@[simp] def o_gen35_2:Sg:=sg 0 [bv 15 15,bv 14 17,bv 8 8,bv 7 10,bv 1 16,bv 13 15,bv 12 14,bg 11 13,bv 10 2,bv 9 2,bv 6 8,bv 5 7,bg 4 6,bv 3 2,bv 2 3,bg 0 0]
@[simp] def o_gen35_1:Sg:=sg 0 [bt 15 (.lit 0),bt 14 .dnil,bv 8 8,bv 7 10,bv 1 14,bt 13 (.lit 0),bt 12 (.lit 0),(11,.nil),bt 10 (.lit 0),bt 9 (.lit 0),bv 6 8,bv 5 7,bg 4 6,bv 3 2,bv 2 3,bg 0 0]
def o_gen35:Out:=(.fresh 4 (.br (.and (.cmp .eql (.dlen (.var 1)) (.lit 0)) (.isnil 0))
 (.stuck 7 0 0)
 (.pre 0 (sg 0 [bv 1 3,bv 0 2]) (.both (.fresh 5 (.post 0 0 (sg 0 [bv 1 3,bv 0 2]) 5 (.br (.not (.var 5))
 (.ret 0 (sg 4 [bv 4 1]))
 (.pre 1 (sg 0 [bv 1 1,bv 3 2,bv 2 3,bg 0 0]) (.both (.fresh 6 (.fresh 7 (.fresh 8 (.fresh 9 (.fresh 10 (.post 1 0 (sg 0 [bv 1 1,bv 3 2,bv 2 3,bg 0 0]) 6 (.fresh 11 (.know (.cmp .leq (.dlen (.var 10)) (.var 8)) (.need (.cmp .leq (.lit 0) (.var 7)) (.need (.cmp .leq (.lit 0) (.var 8)) (.need (.cmp .leq (.lit 0) (.arith .mul .i64 (.var 2) (.var 2))) (.need (.cmp .leq (.arith .mul .i64 (.var 2) (.var 2)) (.var 8)) (.fresh 12 (.pre 2 o_gen35_3 (.both (.fresh 13 (.fresh 14 (.post 2 0 o_gen35_3 13 (.fresh 15 (.pre 3 o_gen35_1 (.both (.fresh 16 (.post 3 0 o_gen35_1 16 (.ret 0 (sg 4 [bv 4 16])))) (.both (.fresh 16 (.post 3 1 o_gen35_1 16 (.stuck 7 0 0))) (.both (.fresh 16 (.fresh 17 (.fresh 18 (.fresh 19 (.fresh 20 (.post 3 2 o_gen35_1 16 (.pack [.cells 15 200 [(.vint .i64 (.lit 0)),(.vint .i64 (.lit 0)),.vnils],.cells 12 200 [(.vint .i64 (.var 2)),(.vint .i64 (.var 2)),(.vslice 6 (.lit 0) (.arith .mul .i64 (.var 2) (.var 2)) (.var 8) 1)],.cells 11 200 [(.vint .i64 (.var 3)),(.vint .i64 (.var 2)),(.vslice 6 (.lit 0) (.var 7) (.var 8) 1)],.arr 6 5 [CK.int .u8] (.var 10) (.var 8),.cells 4 200 [(.vint .i64 (.var 3)),(.vint .i64 (.lit 0)),(.vslice 16 (.lit 0) (.var 17) (.var 18) 1)]] 21 (.need (.cmp .eql (.var 2) (.lit 0)) (.ret 1 (sg 4 [bg 9 21,bv 8 20,bv 7 19,bv 6 18,bv 5 17,bg 4 16])))))))))) .top)))))))) (.both (.fresh 13 (.fresh 14 (.fresh 15 (.fresh 16 (.fresh 17 (.post 2 1 o_gen35_3 13 (.fresh 18 (.pre 3 o_gen35_2 (.both (.fresh 19 (.post 3 0 o_gen35_2 19 (.ret 0 (sg 4 [bv 4 19])))) (.both (.fresh 19 (.post 3 1 o_gen35_2 19 (.stuck 7 0 0))) (.both (.fresh 19 (.fresh 20 (.fresh 21 (.fresh 22 (.fresh 23 (.post 3 2 o_gen35_2 19 (.pack [.cells 18 200 [(.vint .i64 (.var 2)),(.vint .i64 (.var 2)),(.vslice 13 (.lit 0) (.var 14) (.var 15) 1)],.arr 13 5 [CK.int .u8] (.var 17) (.var 15),.cells 12 200 [(.vint .i64 (.var 2)),(.vint .i64 (.var 2)),(.vslice 6 (.lit 0) (.arith .mul .i64 (.var 2) (.var 2)) (.var 8) 1)],.cells 11 200 [(.vint .i64 (.var 3)),(.vint .i64 (.var 2)),(.vslice 6 (.lit 0) (.var 7) (.var 8) 1)],.arr 6 5 [CK.int .u8] (.var 10) (.var 8),.cells 4 200 [(.vint .i64 (.var 3)),(.vint .i64 (.var 2)),(.vslice 19 (.lit 0) (.var 20) (.var 21) 1)]] 24 (.ret 1 (sg 4 [bg 9 24,bv 8 23,bv 7 22,bv 6 21,bv 5 20,bg 4 19]))))))))) .top))))))))))) .top)))))))))))))))) .top))))) .top))))
theorem o_gen35_eq:treeOf ⟨Tryz.prog,gen35C,[sizes74C,vanderGC,inverse55C,prod49C],[]⟩ 100000 Tryz.f122 = o_gen35:=by kernel_rfl
theorem gen35_of (hd:∀ c ∈ ([sizes74C,vanderGC,inverse55C,prod49C]:List Ctr),c.ok Tryz.prog) (h:∀ ρ:Env,ρ.good→(gen35C).pre ρ→o_gen35.den ⟨Tryz.prog,gen35C,[sizes74C,vanderGC,inverse55C,prod49C],[]⟩ ρ):(gen35C).ok Tryz.prog :=
 ok_of_tree Tryz.func122 (fun a w=>Tryz.call122 a w) hd 100000 (fun ρ hg hp=>by rw [o_gen35_eq]; exact h ρ hg hp)
end Go.Proofs

set_option linter.unusedSimpArgs false
set_option linter.unusedVariables false
namespace Go.Proofs
open Go Go.Eng

theorem idx {r n i c:Int} (hr:r ≤ 255) (hn:n ≤ 255) (i0:0 ≤ i) (i1:i < r) (c0:0 ≤ c) (c1:c < n) :
  arithOf .add .i64 (arithOf .mul .i64 i n) c = i * n + c∧0 ≤ i * n + c∧i * n + c < r * n∧(i * n + c).toNat = i.toNat * n.toNat + c.toNat:=by
 have hb:=mul_bound (x:=i) (y:=n) i0 (show i ≤ 255 by omega) (by omega) hn
 have hlt:i * n + n ≤ r * n:=by
  have:=Int.mul_le_mul_of_nonneg_right (show i + 1 ≤ r by omega) (show 0 ≤ n by omega)
  rw [Int.add_mul,Int.one_mul] at this; omega
 refine ⟨by rw [mul64 (by omega) (by omega),add64 (by omega) (by omega)],by omega,by omega,?_⟩
 rw [Int.toNat_add hb.1 c0,Int.toNat_mul i0 (by omega)]
theorem rowIx {r n i:Int} (i0:0 ≤ i) (i1:i < r) (n0:0 ≤ n):0 ≤ i * n∧i * n + n ≤ r * n∧(i * n).toNat = i.toNat * n.toNat:=by
 have hlt:i * n + n ≤ r * n:=by
  have:=Int.mul_le_mul_of_nonneg_right (show i + 1 ≤ r by omega) n0
  rw [Int.add_mul,Int.one_mul] at this; omega
 exact ⟨Int.mul_nonneg i0 n0,hlt,Int.toNat_mul i0 n0⟩
theorem rowDis {n i j:Int} (h:¬ i = j) (n0:0 ≤ n):j * n + n ≤ i * n∨i * n + n ≤ j * n:=by
 rcases Int.lt_or_gt_of_ne h with h | h
 ·right
  have:=Int.mul_le_mul_of_nonneg_right (show i + 1 ≤ j by omega) n0
  rw [Int.add_mul,Int.one_mul] at this; omega
 ·left
  have:=Int.mul_le_mul_of_nonneg_right (show j + 1 ≤ i by omega) n0
  rw [Int.add_mul,Int.one_mul] at this; omega
theorem cell_getD {d:Rows'} {e:Int} (h0:0 ≤ e) (h1:e < d.length):(bI d).getD e.toNat 0 = cellI d e 0:=by
 rw [List.getD_eq_getElem?_getD,bI_get h0 h1]; rfl
theorem fullM.seg {r c l cap:Int} {d:Rows'} (h:fullM r c l cap d) {i o n:Int} (i0:0 ≤ i) (i1:i < r) (ho:o = i * c) (hn:n = c):segOk d o n:=by
 obtain ⟨⟨a1,a2,a3,a4,a5,a6,a7,a8⟩,a9⟩:=h
 obtain ⟨b1,b2,_⟩:=rowIx i0 i1 a3
 exact ⟨by omega,by omega,by omega,by unfold Go.Eng.big; omega⟩
theorem fullM.next {r c l cap:Int} {d d':Rows'} (h:fullM r c l cap d) (hl:d'.length = d.length) (hB:allB d'):fullM r c l cap d':=by
 obtain ⟨⟨a1,a2,a3,a4,a5,a6,a7,a8⟩,a9⟩:=h
 exact ⟨⟨a1,a2,a3,a4,a5,a6,by omega,hB⟩,by omega⟩
theorem elimN_stop {rows ca cb:Nat} {a b:List Int} {c:Nat} (h:rows ≤ (elimN rows ca cb a b c).2.2):∀ k,elimN rows ca cb a b (c + k) = elimN rows ca cb a b c
 | 0=>rfl
 | k + 1=>by
  rw [← Nat.add_assoc,elimN,elimN_stop h k,elimStep,if_pos h]
theorem pivF_self {a:List Int} {ca c p n:Nat} (h:¬ a.getD (p * ca + c) 0 = 0):pivF a ca c p n = p:=by
 cases n with
 | zero=>rfl
 | succ n=>rw [pivF,if_neg h]
section
variable {r ca cb l1 c1 l2 c2 rank c p i:Int} {f da db a0 b0:Rows'}
theorem elimO.start (hf:fieldD f) (hA:fullM r ca l1 c1 da) (hB:fullM r cb l2 c2 db):elimO r ca cb l1 c1 l2 c2 0 0 f da db da db :=
 ⟨⟨hf,hA,hB,by omega,hA.1.1,by omega,hA.1.2.2.1⟩,rfl⟩
theorem elimP.start (h:elimO r ca cb l1 c1 l2 c2 rank c f da db a0 b0) (hr:rank < r) (hc:c < ca):elimP r ca cb l1 c1 l2 c2 rank c rank f da db a0 b0 :=
 ⟨h,hr,hc,by omega,by omega,rfl⟩
theorem elimP.next (h:elimP r ca cb l1 c1 l2 c2 rank c p f da db a0 b0) (hp:p < r) (hz:cellI da (p * ca + c) 0 = 0):elimP r ca cb l1 c1 l2 c2 rank c (p + 1) f da db a0 b0:=by
 obtain ⟨h1,h2,h3,h4,h5,h6⟩:=h
 refine ⟨h1,h2,h3,by omega,by omega,?_⟩
 obtain ⟨⟨_,hA,hB,w1,w2,w3,w4⟩,_⟩:=h1
 obtain ⟨⟨a1,a2,a3,a4,a5,a6,a7,a8⟩,a9⟩:=hA
 obtain ⟨_,e1,e2,e3⟩:=idx (i:=p) a2 a4 (by omega) hp w3 h3
 have hg:=cell_getD (d:=da) e1 (by omega)
 rw [e3] at hg
 rw [← h6,show r.toNat - p.toNat = (r.toNat - (p + 1).toNat) + 1 by omega,pivF,if_pos (by rw [hg]; exact hz),show (p + 1).toNat = p.toNat + 1 by omega]
theorem elimO.skip (h:elimP r ca cb l1 c1 l2 c2 rank c p f da db a0 b0) (hp:p = r):elimO r ca cb l1 c1 l2 c2 rank (c + 1) f da db a0 b0:=by
 obtain ⟨⟨⟨hf,hA,hB,w1,w2,w3,w4⟩,he⟩,h2,h3,h4,h5,h6⟩:=h
 refine ⟨⟨hf,hA,hB,w1,w2,by omega,by omega⟩,?_⟩
 rw [show (c + 1).toNat = c.toNat + 1 by omega,elimN,← he,elimStep]
 simp only
 rw [if_neg (by omega),if_pos]
 rw [← h6,hp,Nat.sub_self,pivF]
theorem elimP.piv (h:elimP r ca cb l1 c1 l2 c2 rank c p f da db a0 b0) (hp:p < r) (hz:¬ cellI da (p * ca + c) 0 = 0):pivF (bI da) ca.toNat c.toNat rank.toNat (r.toNat - rank.toNat) = p.toNat:=by
 obtain ⟨⟨⟨hf,hA,hB,w1,w2,w3,w4⟩,he⟩,h2,h3,h4,h5,h6⟩:=h
 obtain ⟨⟨a1,a2,a3,a4,a5,a6,a7,a8⟩,a9⟩:=hA
 obtain ⟨_,e1,e2,e3⟩:=idx (i:=p) a2 a4 (by omega) hp w3 h3
 have hg:=cell_getD (d:=da) e1 (by omega)
 rw [e3] at hg
 rw [← h6,pivF_self (by rw [hg]; exact hz)]
theorem elimQ.start {da1 db1 da2 db2 f2:Rows'} {o1 n1 o2 n2 x:Int} (h:elimP r ca cb l1 c1 l2 c2 rank c p f da db a0 b0) (hp:p < r) (hz:¬ cellI da (p * ca + c) 0 = 0)
  (hs:(bI da1,bI db1) = swapR ca.toNat cb.toNat rank.toNat p.toNat (bI da) (bI db)) (hl1:da1.length = da.length) (hl2:db1.length = db.length)
  (hx:x = invF (cellI da1 (rank * ca + c) 0)) (hA2:bI da2 = scaleL (bI da1) o1.toNat n1.toNat x) (hB2:bI db2 = scaleL (bI db1) o2.toNat n2.toNat x) (ho1:o1 = rank * ca) (hn1:n1 = ca) (ho2:o2 = rank * cb) (hn2:n2 = cb)
  (hl3:da2.length = da1.length) (hl4:db2.length = db1.length) (hb1:allB da2) (hb2:allB db2) (hf2:fieldD f2):elimQ r ca cb l1 c1 l2 c2 rank c 0 f2 da2 db2 a0 b0:=by
 have hpiv:=elimP.piv h hp hz
 obtain ⟨⟨⟨hf,hA,hB,w1,w2,w3,w4⟩,he⟩,h2,h3,h4,h5,h6⟩:=h
 refine ⟨⟨hf2,fullM.next hA (by omega) hb1,fullM.next hB (by omega) hb2,w1,w2,w3,w4⟩,h2,h3,by omega,by omega,_,he,rfl,by simp only; rw [hpiv]; omega,?_⟩
 obtain ⟨⟨a1,a2,a3,a4,a5,a6,a7,a8⟩,a9⟩:=hA
 obtain ⟨⟨d1,d2,d3,d4,d5,d6,d7,d8⟩,d9⟩:=hB
 obtain ⟨_,e1,e2,e3⟩:=idx (i:=rank) a2 a4 w1 h2 w3 h3
 have hg:=cell_getD (d:=da1) e1 (by omega)
 rw [e3] at hg
 have hr1:=(rowIx (n:=ca) w1 h2 a3).2.2
 have hr2:=(rowIx (n:=cb) w1 h2 d3).2.2
 simp only [elimMid,Int.toNat_zero,elimRows]
 rw [hpiv,← hs]
 simp only [scaleR]
 rw [hg,← hx,hA2,hB2,ho1,ho2,hn1,hn2,hr1,hr2]
theorem elimQ.same (h:elimQ r ca cb l1 c1 l2 c2 rank c i f da db a0 b0) (hi:i < r) (he:i = rank):elimQ r ca cb l1 c1 l2 c2 rank c (i + 1) f da db a0 b0:=by
 obtain ⟨hw,h2,h3,h4,h5,s,hs,hs2,hs3,hs4⟩:=h
 refine ⟨hw,h2,h3,by omega,by omega,s,hs,hs2,hs3,?_⟩
 rw [show (i + 1).toNat = i.toNat + 1 by omega,elimRows]
 rw [if_pos (by omega)]; exact hs4
theorem elimQ.next {da2 db2 f2:Rows'} {o1 o2 p1 m1 p2 m2:Int} (h:elimQ r ca cb l1 c1 l2 c2 rank c i f da db a0 b0) (hi:i < r) (hne:¬ i = rank)
  (hA2:bI da2 = addToL (bI da) o1.toNat (seg (bI da) p1.toNat m1.toNat) (cellI da (i * ca + c) 0)) (hB2:bI db2 = addToL (bI db) o2.toNat (seg (bI db) p2.toNat m2.toNat) (cellI da (i * ca + c) 0))
  (ho1:o1 = i * ca) (hp1:p1 = rank * ca) (hm1:m1 = ca) (ho2:o2 = i * cb) (hp2:p2 = rank * cb) (hm2:m2 = cb)
  (hl3:da2.length = da.length) (hl4:db2.length = db.length) (hb1:allB da2) (hb2:allB db2) (hf2:fieldD f2):elimQ r ca cb l1 c1 l2 c2 rank c (i + 1) f2 da2 db2 a0 b0:=by
 obtain ⟨⟨hf,hA,hB,w1,w2,w3,w4⟩,h2,h3,h4,h5,s,hs,hs2,hs3,hs4⟩:=h
 refine ⟨⟨hf2,fullM.next hA hl3 hb1,fullM.next hB hl4 hb2,w1,w2,w3,w4⟩,h2,h3,by omega,by omega,s,hs,hs2,hs3,?_⟩
 obtain ⟨⟨a1,a2,a3,a4,a5,a6,a7,a8⟩,a9⟩:=hA
 obtain ⟨⟨d1,d2,d3,d4,d5,d6,d7,d8⟩,d9⟩:=hB
 obtain ⟨_,e1,e2,e3⟩:=idx (i:=i) a2 a4 h4 hi w3 h3
 have hg:=cell_getD (d:=da) e1 (by omega)
 rw [e3] at hg
 rw [show (i + 1).toNat = i.toNat + 1 by omega,elimRows]
 rw [if_neg (by omega),← hs4]
 simp only
 rw [hg,hA2,hB2,ho1,ho2,hp1,hp2,hm1,hm2,(rowIx (n:=ca) h4 hi a3).2.2,(rowIx (n:=cb) h4 hi d3).2.2,(rowIx (n:=ca) w1 h2 a3).2.2,(rowIx (n:=cb) w1 h2 d3).2.2]
theorem elimO.after (h:elimQ r ca cb l1 c1 l2 c2 rank c i f da db a0 b0) (hi:i = r):elimO r ca cb l1 c1 l2 c2 (rank + 1) (c + 1) f da db a0 b0:=by
 obtain ⟨⟨hf,hA,hB,w1,w2,w3,w4⟩,h2,h3,h4,h5,s,hs,hs2,hs3,hs4⟩:=h
 refine ⟨⟨hf,hA,hB,by omega,by omega,by omega,by omega⟩,?_⟩
 rw [show (c + 1).toNat = c.toNat + 1 by omega,elimN,← hs,elimStep,hs2,if_neg (by omega),if_neg hs3]
 simp only
 rw [hi] at hs4
 rw [← hs4]
 simp only
 rw [show (rank + 1).toNat = rank.toNat + 1 by omega]
theorem elimO.fin (h:elimO r ca cb l1 c1 l2 c2 rank c f da db a0 b0) (hd:r ≤ rank∨ca ≤ c):(bI da,bI db,rank.toNat) = elimN r.toNat ca.toNat cb.toNat (bI a0) (bI b0) ca.toNat:=by
 obtain ⟨⟨hf,hA,hB,w1,w2,w3,w4⟩,he⟩:=h
 rcases hd with hd | hd
 ·have:=elimN_stop (rows:=r.toNat) (ca:=ca.toNat) (cb:=cb.toNat) (a:=bI a0) (b:=bI b0) (c:=c.toNat) (by rw [← he]; simp only; omega) (ca.toNat - c.toNat)
  rw [show c.toNat + (ca.toNat - c.toNat) = ca.toNat by omega] at this
  rw [this,he]
 ·rw [he,show c.toNat = ca.toNat by omega]
end
theorem swapR_ne {ca cb rank p:Nat} {a b:List Int} (h:¬ p = rank):swapR ca cb rank p a b = (addToL a (rank * ca) (seg a (p * ca) ca) 1,addToL b (rank * cb) (seg b (p * cb) cb) 1):=by rw [swapR,if_neg h]
set_option maxRecDepth 100000 in
set_option maxHeartbeats 4000000 in
theorem elim83_ok:elim83C.ok Tryz.prog:=elim83_of (by simp [row75_ok,addTo_ok,addToS_ok,inv51_ok,scale_ok]) fun ρ hg hp=>by
 obtain ⟨hf,hA,hB,hr⟩:=hp
 simp (config:={ maxSteps:=4000000 }) [o_elim83,elim83C,elim83I,elim83J,elim83K,row75C,addToC,addToS,inv51C,scaleC]
 have hA':=hA
 have hB':=hB
 obtain ⟨⟨a1,a2,a3,a4,a5,a6,a7,a8⟩,a9⟩:=hA'
 rw [hr] at hB
 have hB2:=hB
 obtain ⟨⟨d1,d2,d3,d4,d5,d6,d7,d8⟩,d9⟩:=hB2
 rw [hr]
 refine ⟨elimO.start hf hA hB,fun rk _ c _ f _ da _ db _ hO=>⟨fun hc=>⟨fun hrk=>⟨elimP.start hO hrk hc,?_⟩,fun hrk=>?_⟩,fun hc=>?_⟩⟩
 rotate_left
 ·have hfin:=elimO.fin hO (.inl hrk)
  obtain ⟨⟨h1,h2,h3,h4,h5,h6,h7⟩,he⟩:=hO
  exact ⟨h1,h2,h3,h4,h5,hfin⟩
 ·have hfin:=elimO.fin hO (.inr hc)
  obtain ⟨⟨h1,h2,h3,h4,h5,h6,h7⟩,he⟩:=hO
  exact ⟨h1,h2,h3,h4,h5,hfin⟩
 intro rk _ c' _ f _ da _ db _ p _ hP hcc
 have hP':=hP
 obtain ⟨⟨⟨hfd,hAd,hBd,w1,w2,w3,w4⟩,hE⟩,hrk,hcc',hp0,hp1,hpv⟩:=hP
 have hlA:=hAd.2
 refine ⟨fun hp=>?_,fun hp=>⟨fun he=>?_,fun hne=>by omega⟩⟩
 ·obtain ⟨x0,x1,x2,x3⟩:=idx (i:=p.i) a2 a4 (by omega) hp w3 hcc'
  rw [x0,add64 (x:=p.i) (by omega) (by omega)]
  refine ⟨x1,by omega,by omega,fun hz=>⟨⟨elimP.next hP' hp hz,hcc⟩,by omega⟩,fun hz=>⟨fun he=>by omega,fun _=>⟨fun hpr=>?_,fun hpr=>?_⟩⟩⟩
  ·refine ⟨⟨w1,hrk,hAd.1⟩,fun o1 _ n1 _ k1 _ ho1 hn1 hk1=>⟨⟨by omega,hp,hAd.1⟩,fun o2 _ n2 _ k2 _ ho2 hn2 hk2=>⟨⟨hfd,fullM.seg hAd w1 hrk ho1 hn1,fullM.seg hAd (by omega) hp ho2 hn2,by omega,by rw [ho1,hn1,ho2,hn2]; exact rowDis (fun h=>hpr h.symm) a3,hAd.1.2.2.2.2.2.2.2⟩,fun f1 _ da1 _ hf1 hl1 hb1 hA1=>⟨⟨w1,hrk,hBd.1⟩,fun o3 _ n3 _ k3 _ ho3 hn3 hk3=>⟨⟨by omega,hp,hBd.1⟩,fun o4 _ n4 _ k4 _ ho4 hn4 hk4=>⟨⟨hf1,fullM.seg hBd w1 hrk ho3 hn3,fullM.seg hBd (by omega) hp ho4 hn4,by omega,by rw [ho3,hn3,ho4,hn4]; exact rowDis (fun h=>hpr h.symm) d3,hBd.1.2.2.2.2.2.2.2⟩,fun f2 _ db1 _ hf2 hl2 hb2 hB1=>?_⟩⟩⟩⟩⟩⟩
   have hsw:(bI da1.d,bI db1.d) = swapR (ρ 3).i.toNat (ρ 10).i.toNat rk.i.toNat p.i.toNat (bI da.d) (bI db.d):=by
    rw [swapR_ne (by omega),hA1,hB1,ho1,ho2,ho3,ho4,hn2,hn4,(rowIx (n:=(ρ 3).i) w1 hrk a3).2.2,(rowIx (n:=(ρ 3).i) (by omega) hp a3).2.2,(rowIx (n:=(ρ 10).i) w1 hrk d3).2.2,(rowIx (n:=(ρ 10).i) (by omega) hp d3).2.2]
   have fA1:fullM (ρ 2).i (ρ 3).i (ρ 5).i (ρ 6).i da1.d:=fullM.next hAd hl1 hb1
   have fB1:fullM (ρ 2).i (ρ 10).i (ρ 12).i (ρ 13).i db1.d:=fullM.next hBd hl2 hb2
   obtain ⟨y0,y1,y2,y3⟩:=idx (i:=rk.i) a2 a4 w1 hrk w3 hcc'
   rw [y0]
   have hcell:=allB_get fA1.1.2.2.2.2.2.2.2 (i:=rk.i * (ρ 3).i + c'.i) y1 (by have:=fA1.2; omega)
   have hlA:=fA1.2
   refine ⟨y1,by omega,by omega,⟨hf2,hcell⟩,fun x _ er _ f3 _ hf3 hx _=>⟨⟨w1,hrk,fA1.1⟩,fun o5 _ n5 _ k5 _ ho5 hn5 hk5=>⟨⟨hf3,fullM.seg fA1 w1 hrk ho5 hn5,fA1.1.2.2.2.2.2.2.2,by rw [hx]; exact (invF_range hcell.1 hcell.2).1,by rw [hx]; exact (invF_range hcell.1 hcell.2).2⟩,fun f4 _ da2 _ hf4 hl4 hb4 hA4=>⟨⟨w1,hrk,fB1.1⟩,fun o6 _ n6 _ k6 _ ho6 hn6 hk6=>⟨⟨hf4,fullM.seg fB1 w1 hrk ho6 hn6,fB1.1.2.2.2.2.2.2.2,by rw [hx]; exact (invF_range hcell.1 hcell.2).1,by rw [hx]; exact (invF_range hcell.1 hcell.2).2⟩,fun f5 _ db2 _ hf5 hl5 hb5 hB5=>⟨⟨elimQ.start hP' hp hz hsw hl1 hl2 hx hA4 hB5 ho5 hn5 ho6 hn6 hl4 hl5 hb4 hb5 hf5,hcc⟩,?_⟩⟩⟩⟩⟩⟩
   intro rk2 _ c2 _ f6 _ da3 _ db3 _ i _ hQ hc2
   refine ⟨fun hi=>?_,fun hi=>?_⟩
   ·have hQ':=hQ
    obtain ⟨⟨hfq,hAq,hBq,v1,v2,v3,v4⟩,q1,q2,q3,q4,_⟩:=hQ'
    have hlq:=hAq.2
    obtain ⟨z0,z1,z2,z3⟩:=idx (i:=i.i) a2 a4 q3 hi v3 q2
    rw [z0,add64 (by omega) (by omega)]
    have hcq:=allB_get hAq.1.2.2.2.2.2.2.2 (i:=i.i * (ρ 3).i + c2.i) z1 (by omega)
    refine ⟨z1,by omega,by omega,fun hne=>⟨⟨q3,hi,hAq.1⟩,fun r1 _ r2 _ r3 _ hr1 hr2 hr3=>⟨⟨v1,q1,hAq.1⟩,fun t1 _ t2 _ t3 _ ht1 ht2 ht3=>⟨⟨hfq,fullM.seg hAq q3 hi hr1 hr2,fullM.seg hAq v1 q1 ht1 ht2,by omega,by rw [hr1,hr2,ht1,ht2]; exact rowDis hne a3,hAq.1.2.2.2.2.2.2.2,hcq⟩,fun f7 _ da4 _ hf7 hl7 hb7 hA7=>⟨⟨q3,hi,hBq.1⟩,fun r4 _ r5 _ r6 _ hr4 hr5 hr6=>⟨⟨v1,q1,hBq.1⟩,fun t4 _ t5 _ t6 _ ht4 ht5 ht6=>⟨⟨hf7,fullM.seg hBq q3 hi hr4 hr5,fullM.seg hBq v1 q1 ht4 ht5,by omega,by rw [hr4,hr5,ht4,ht5]; exact rowDis hne d3,hBq.1.2.2.2.2.2.2.2,hcq⟩,fun f8 _ db4 _ hf8 hl8 hb8 hB8=>⟨⟨elimQ.next hQ hi hne hA7 hB8 hr1 ht1 ht2 hr4 ht4 ht5 hl7 hl8 hb7 hb8 hf8,hc2⟩,by omega⟩⟩⟩⟩⟩⟩⟩,fun hieq=>⟨⟨elimQ.same hQ hi hieq,hc2⟩,by omega⟩⟩
   ·have hQ':=hQ
    obtain ⟨⟨hfq,hAq,hBq,v1,v2,v3,v4⟩,q1,q2,q3,q4,_⟩:=hQ'
    rw [add64 (by omega) (by omega),add64 (by omega) (by omega)]
    exact ⟨elimO.after hQ (by omega),by omega⟩
  ·have hsw:(bI da.d,bI db.d) = swapR (ρ 3).i.toNat (ρ 10).i.toNat rk.i.toNat p.i.toNat (bI da.d) (bI db.d):=by
    rw [swapR,if_pos (by omega)]
   have fA1:fullM (ρ 2).i (ρ 3).i (ρ 5).i (ρ 6).i da.d:=hAd
   have fB1:fullM (ρ 2).i (ρ 10).i (ρ 12).i (ρ 13).i db.d:=hBd
   obtain ⟨y0,y1,y2,y3⟩:=idx (i:=rk.i) a2 a4 w1 hrk w3 hcc'
   rw [y0]
   have hcell:=allB_get fA1.1.2.2.2.2.2.2.2 (i:=rk.i * (ρ 3).i + c'.i) y1 (by have:=fA1.2; omega)
   have hlA:=fA1.2
   refine ⟨y1,by omega,by omega,⟨hfd,hcell⟩,fun x _ er _ f3 _ hf3 hx _=>⟨⟨w1,hrk,fA1.1⟩,fun o5 _ n5 _ k5 _ ho5 hn5 hk5=>⟨⟨hf3,fullM.seg fA1 w1 hrk ho5 hn5,fA1.1.2.2.2.2.2.2.2,by rw [hx]; exact (invF_range hcell.1 hcell.2).1,by rw [hx]; exact (invF_range hcell.1 hcell.2).2⟩,fun f4 _ da2 _ hf4 hl4 hb4 hA4=>⟨⟨w1,hrk,fB1.1⟩,fun o6 _ n6 _ k6 _ ho6 hn6 hk6=>⟨⟨hf4,fullM.seg fB1 w1 hrk ho6 hn6,fB1.1.2.2.2.2.2.2.2,by rw [hx]; exact (invF_range hcell.1 hcell.2).1,by rw [hx]; exact (invF_range hcell.1 hcell.2).2⟩,fun f5 _ db2 _ hf5 hl5 hb5 hB5=>⟨⟨elimQ.start hP' hp hz hsw rfl rfl hx hA4 hB5 ho5 hn5 ho6 hn6 hl4 hl5 hb4 hb5 hf5,hcc⟩,?_⟩⟩⟩⟩⟩⟩
   intro rk2 _ c2 _ f6 _ da3 _ db3 _ i _ hQ hc2
   refine ⟨fun hi=>?_,fun hi=>?_⟩
   ·have hQ':=hQ
    obtain ⟨⟨hfq,hAq,hBq,v1,v2,v3,v4⟩,q1,q2,q3,q4,_⟩:=hQ'
    have hlq:=hAq.2
    obtain ⟨z0,z1,z2,z3⟩:=idx (i:=i.i) a2 a4 q3 hi v3 q2
    rw [z0,add64 (by omega) (by omega)]
    have hcq:=allB_get hAq.1.2.2.2.2.2.2.2 (i:=i.i * (ρ 3).i + c2.i) z1 (by omega)
    refine ⟨z1,by omega,by omega,fun hne=>⟨⟨q3,hi,hAq.1⟩,fun r1 _ r2 _ r3 _ hr1 hr2 hr3=>⟨⟨v1,q1,hAq.1⟩,fun t1 _ t2 _ t3 _ ht1 ht2 ht3=>⟨⟨hfq,fullM.seg hAq q3 hi hr1 hr2,fullM.seg hAq v1 q1 ht1 ht2,by omega,by rw [hr1,hr2,ht1,ht2]; exact rowDis hne a3,hAq.1.2.2.2.2.2.2.2,hcq⟩,fun f7 _ da4 _ hf7 hl7 hb7 hA7=>⟨⟨q3,hi,hBq.1⟩,fun r4 _ r5 _ r6 _ hr4 hr5 hr6=>⟨⟨v1,q1,hBq.1⟩,fun t4 _ t5 _ t6 _ ht4 ht5 ht6=>⟨⟨hf7,fullM.seg hBq q3 hi hr4 hr5,fullM.seg hBq v1 q1 ht4 ht5,by omega,by rw [hr4,hr5,ht4,ht5]; exact rowDis hne d3,hBq.1.2.2.2.2.2.2.2,hcq⟩,fun f8 _ db4 _ hf8 hl8 hb8 hB8=>⟨⟨elimQ.next hQ hi hne hA7 hB8 hr1 ht1 ht2 hr4 ht4 ht5 hl7 hl8 hb7 hb8 hf8,hc2⟩,by omega⟩⟩⟩⟩⟩⟩⟩,fun hieq=>⟨⟨elimQ.same hQ hi hieq,hc2⟩,by omega⟩⟩
   ·have hQ':=hQ
    obtain ⟨⟨hfq,hAq,hBq,v1,v2,v3,v4⟩,q1,q2,q3,q4,_⟩:=hQ'
    rw [add64 (by omega) (by omega),add64 (by omega) (by omega)]
    exact ⟨elimO.after hQ (by omega),by omega⟩
 ·rw [add64 (by omega) (by omega)]
  exact ⟨elimO.skip hP' he,by omega⟩
end Go.Proofs

set_option linter.unusedSimpArgs false
set_option linter.unusedVariables false
namespace Go.Proofs
open Go Go.Eng
theorem identG_ok:identGC.ok Tryz.prog:=Ctr.ok_less ident40_ok rfl rfl rfl rfl rfl (fun _ _=>trivial) fun ρ ρ' ai al hp hag hal hpost=>by
 match ai,hal with
 | 0,hal =>
  exfalso
  obtain rfl:=Option.some.inj hal
  have h2:((ρ'.upto 1) 0).i < 1∨255 < ((ρ'.upto 1) 0).i:=hpost
  have e:(ρ'.upto 1) 0 = ρ 0:=by rw [Env.upto,if_pos (by omega)]; exact hag 0 (by decide)
  rw [e] at h2
  have h3:1 ≤ (ρ 0).i∧(ρ 0).i ≤ 255:=hp
  omega
 | 1,hal=>exact ⟨0,hal⟩
 | n + 2,hal=>cases hal
theorem vanderG_ok:vanderGC.ok Tryz.prog:=Ctr.ok_less vander45_ok rfl rfl rfl rfl rfl (fun _ h=>h.1) fun ρ ρ' ai al hp hag hal hpost=>by
 match ai,hal with
 | 0,hal =>
  exfalso
  obtain rfl:=Option.some.inj hal
  have h2:vanderBad ((ρ'.upto 5) 2).i ((ρ'.upto 5) 3).i:=hpost.2
  have e2:(ρ'.upto 5) 2 = ρ 2:=by rw [Env.upto,if_pos (by omega)]; exact hag 2 (by decide)
  have e3:(ρ'.upto 5) 3 = ρ 3:=by rw [Env.upto,if_pos (by omega)]; exact hag 3 (by decide)
  rw [e2,e3] at h2
  exact hp.2 h2
 | 1,hal=>exact ⟨0,hal⟩
 | n + 2,hal=>cases hal
theorem cloneK_ok:cloneKC.ok Tryz.prog:=by
 refine ⟨clone84_ok.1,fun ρ w hF hO hg hd hsub hst hro hpre=>(clone84_ok.2 ρ w hF hO hg hd hsub hst hro hpre).mono fun e w' hq=>?_⟩
 obtain ⟨ai,al,ρ',hal,hg',hag,he,hpost,hheap⟩:=hq
 match ai,hal with
 | 0,hal =>
  obtain rfl:=Option.some.inj hal
  refine ⟨0,_,ρ',rfl,hg',hag,he,⟨hpost,?_⟩,hheap⟩
  obtain ⟨hO',hd',⟨h1,h2,hdj,hu,hden,_⟩,hsub',hwi'⟩:=hheap
  show (((ρ'.upto 10) 9).d.length:Int) ≤ ((ρ'.upto 10) 8).i
  rw [show (ρ'.upto 10) 9 = ρ' 9 from rfl,show (ρ'.upto 10) 8 = ρ' 8 from rfl]
  rcases hden with ⟨_,hn,hc⟩ | ⟨b,c,g1,g2,g3,g4,g5⟩
  ·have hn:(ρ' 9).d = []:=hn
   have hc:(ρ' 8).i = 0:=hc
   rw [hn,hc]; simp
  ·exact g4
 | n + 1,hal=>cases hal
theorem allB_take {d:Rows'} {n:Nat} (h:allB d):allB (d.take n):=fun r hr=>h r (List.mem_of_mem_take hr)
theorem bI_take {d:Rows'} {n:Nat}:bI (d.take n) = (bI d).take n:=by simp [bI,List.map_take]
theorem inverse55_ok:inverse55C.ok Tryz.prog:=inverse55_of (by simp [valid36_ok,identG_ok,cloneK_ok,elim83_ok]) fun ρ hg hp=>by
 obtain ⟨hf,l0,l1,l2,hB⟩:=hp
 have hne:=(fieldD_ne hf).1
 simp [o_inverse55,inverse55C,valid36C,identGC,ident40C,cloneKC,clone84C,elim83C]
 refine ⟨fun h=>(hne h).elim,fun _=>⟨l0,fun v _ hv=>⟨fun hb=>⟨hf,fun h=>?_⟩,fun hb=>⟨fun h=>⟨hf,hv.1 hb,h⟩,fun hrc=>?_⟩⟩⟩⟩
 ·have:=hv.2 h
  rw [hb] at this; cases this
 obtain ⟨r1,r2,c1,c2,hl⟩:=hv.1 hb
 have vA:validM (ρ 2).i (ρ 3).i (ρ 5).i:=hv.1 hb
 have hbd:=mul_bound (x:=(ρ 2).i) (y:=(ρ 3).i) (by omega) r2 (by omega) c2
 refine ⟨⟨r1,r2⟩,fun l _ cp _ d _ _ _ hM hL hI=>⟨⟨l0,l2,by unfold Go.Eng.big; omega⟩,fun cc _ dd _ hdd hcap=>?_⟩⟩
 have hlen:dd.d.length = (ρ 5).i.toNat:=by rw [hdd,List.length_take]; omega
 refine ⟨⟨hf,⟨⟨by omega,r2,by omega,c2,hl,by omega,by omega,by rw [hdd]; exact allB_take hB⟩,by omega⟩,hM,hL⟩,fun rk _ f2 _ d2 _ b2 _ hf2 hA2 hB2 k0 k1 he=>?_⟩
 have hE:elimN (ρ 2).i.toNat (ρ 3).i.toNat (ρ 2).i.toNat (bI dd.d) (bI d.d) (ρ 3).i.toNat = invE ((bI (ρ 7).d).take (ρ 5).i.toNat) (ρ 2).i.toNat:=by
  rw [invE,hdd,bI_take,hI,hrc]
 rw [hE] at he
 rw [← he]
 exact ⟨fun h=>⟨hf2,vA,hrc,by simp only; omega⟩,fun h=>⟨hf2,vA,hrc,hB2,by simp only; omega,rfl⟩⟩
theorem sizesB_iff {k t:Int}:sizesB k t = true↔1 ≤ k∧k ≤ t∧t ≤ 255:=by simp [sizesB,and_assoc]
theorem gen35_ok:gen35C.ok Tryz.prog:=gen35_of (by simp [sizes74_ok,vanderG_ok,inverse55_ok,prod49_ok]) fun ρ hg hp=>by
 have hf:fieldD (ρ 1).d:=hp
 have hne:=(fieldD_ne hf).1
 simp [o_gen35,gen35C,sizes74C,vanderGC,vander45C,inverse55C,prod49C]
 intro u0 _
 refine ⟨fun h=>(hne h).elim,fun _ u1 _ hs=>⟨fun hb=>⟨hf,fun h=>?_⟩,fun hb=>?_⟩⟩
 ·rw [h] at hs; rw [hb] at hs; cases hs
 have hsz:sizesB (ρ 2).i (ρ 3).i = true:=by rw [← hs]; exact hb
 obtain ⟨k1,k2,k3⟩:=sizesB_iff.1 hsz
 have hvb:¬ vanderBad (ρ 3).i (ρ 2).i:=by unfold vanderBad; omega
 have hkk:=mul_bound (x:=(ρ 2).i) (y:=(ρ 2).i) (by omega) (show (ρ 2).i ≤ 255 by omega) (by omega) (show (ρ 2).i ≤ 255 by omega)
 have hlek:(ρ 2).i * (ρ 2).i ≤ (ρ 3).i * (ρ 2).i:=Int.mul_le_mul_of_nonneg_right k2 (by omega)
 refine ⟨⟨hf,hvb⟩,fun u2 _ l _ cp _ f1 _ d _ hf1 _ hM hL hV u7 _ hcap=>?_⟩
 obtain ⟨a1,a2,a3,a4,a5,a6,a7,a8⟩:=hM
 have vV:validM (ρ 3).i (ρ 2).i l.i:=⟨by omega,by omega,by omega,by omega,a5⟩
 rw [mul64 (by omega) (by omega)]
 have hkn:((ρ 2).i * (ρ 2).i).toNat = (ρ 2).i.toNat * (ρ 2).i.toNat:=Int.toNat_mul (by omega) (by omega)
 have hTop:invE ((bI d.d).take ((ρ 2).i * (ρ 2).i).toNat) (ρ 2).i.toNat = topE (ρ 2).i.toNat (ρ 3).i.toNat:=by rw [topE,hV,hkn]
 rw [hTop]
 have vT:validM (ρ 2).i (ρ 2).i ((ρ 2).i * (ρ 2).i):=⟨by omega,by omega,by omega,by omega,rfl⟩
 have hno:¬ validM 0 0 0:=by unfold validM; omega
 refine ⟨by omega,by omega,hkk.1,by omega,fun u8 _=>⟨⟨hf1,hkk.1,by omega,by omega,a8⟩,fun e _ f2 _ hf2 hor u11 _=>⟨⟨hf2,by omega,by omega,by omega,a8,fun r hr=>by cases hr⟩,fun f3 _ hf3 _=>⟨hf3,fun _=>?_⟩,fun _ _ _ _ h=>(hno h).elim,?_⟩,?_⟩⟩
 ·rcases hor with ⟨h,_⟩ | ⟨_,h,_⟩
  ·exact (h vT).elim
  ·exact h
 ·intro _ _ _ _ _ _ _ _ _ _ _ _ h
  exact (hno h).elim
 ·intro u9 _ li _ ci _ f4 _ di _ hf4 _ hMi hrk hInv u14 _
  obtain ⟨⟨b1,b2,b3,b4,b5,b6,b7,b8⟩,b9⟩:=hMi
  have vI:validM (ρ 2).i (ρ 2).i li.i:=⟨by omega,by omega,by omega,by omega,b5⟩
  refine ⟨⟨hf4,by omega,by omega,by omega,a8,by omega,b6,by omega,b8⟩,fun f5 _ hf5 h=>(h vV vI).elim,?_⟩
  intro u15 _ lp _ cq _ f6 _ dp _ hf6 _ _ hMp hLp hP u20 _ _
  refine ⟨hf6,hsz,⟨hMp,hLp⟩,hrk,?_⟩
  rw [hP,hInv,genL,hV,List.take_of_length_le (by rw [vanderL,fillTo_len,a5,Int.toNat_mul (by omega) (by omega)]; exact Nat.le_refl _),List.take_of_length_le (by rw [← hInv,bI_len]; omega)]
end Go.Proofs

set_option linter.unusedSimpArgs false
set_option linter.unusedVariables false
set_option maxRecDepth 100000
namespace Go.Proofs
open Go Go.Eng

@[simp] def o_encode31_1:Sg:=sg 0 [bv 13 45,bv 12 55,bv 7 59,bv 6 60,bv 1 50,bt 14 (.icell (.var 54) (.plus (.var 61) (.var 64)) 0),bt 11 (.minus (.var 45) (.arith .mul .i64 (.var 64) (.var 42))),bt 10 (.minus (.arith .mul .i64 (.arith .add .i64 (.var 64) (.lit 1)) (.var 42)) (.arith .mul .i64 (.var 64) (.var 42))),bt 9 (.ife (.var 45) (.arith .mul .i64 (.var 64) (.var 42)) (.lit 0) (.arith .mul .i64 (.var 64) (.var 42))),bg 8 43,bv 5 59,bv 4 42,bt 3 (.lit 0),bg 2 58,bg 0 0]
def o_encode31:Out:=(.br (.and (.cmp .eql (.dlen (.var 1)) (.lit 0)) (.isnil 0))
 (.ret 0 (sg 9 [bv 10 1,bt 9 (.lit 1)]))
 (.pre 0 (sg 0 [bv 1 3,bv 0 2]) (.both (.fresh 9 (.post 0 0 (sg 0 [bv 1 3,bv 0 2]) 9 (.br (.not (.var 9))
 (.ret 0 (sg 9 [bv 10 1,bt 9 (.lit 2)]))
 (.need (.cmp .leq (.lit 0) (.var 5)) (.br (.cmp .gtr (.var 5) (.lit 8192))
 (.ret 0 (sg 9 [bv 10 1,bt 9 (.lit 3)]))
 (.pre 1 (sg 0 [bv 1 5,bv 0 2]) (.both (.fresh 10 (.fresh 11 (.post 1 0 (sg 0 [bv 1 5,bv 0 2]) 10 (.need (.cmp .leq (.lit 0) (.arith .mul .i64 (.var 2) (.var 10))) (.need (.cmp .leq (.tims (.lit 1) (.arith .mul .i64 (.var 2) (.var 10))) (.lit 281474976710656)) (.fresh 12 (.need (.cmp .leq (.arith .mul .i64 (.var 2) (.var 10)) (.dlen (.drep (.arith .mul .i64 (.var 2) (.var 10)) (.rcons (.vint .u8 (.lit 0)) .rnil)))) (.need (.cmp .leq (.var 5) (.dlen (.var 7))) (.fresh 13 (.pre 2 (sg 0 [bv 1 1,bv 3 3,bv 2 2,bg 0 0]) (.both (.fresh 14 (.fresh 15 (.fresh 16 (.fresh 17 (.fresh 18 (.fresh 19 (.post 2 0 (sg 0 [bv 1 1,bv 3 3,bv 2 2,bg 0 0]) 14 (.fresh 20 (.need (.cmp .leq (.lit 0) (.var 3)) (.need (.cmp .leq (.tims (.lit 32) (.var 3)) (.lit 281474976710656)) (.fresh 21 (.inv 0 22 (sg 1000 [bg 1015 19,bt 1014 (.drep (.var 3) (.rcons (.vint .i64 (.lit 0)) (.rcons .vnils .rnil))),bt 1013 (.c3 .dsplice (.drep (.arith .mul .i64 (.var 2) (.var 10)) (.rcons (.vint .u8 (.lit 0)) .rnil)) (.lit 0) (.dtake (.dtake (.var 7) (.var 5)) (.imin (.arith .mul .i64 (.var 2) (.var 10)) (.var 5)))),bv 1012 18,bv 1011 16,bv 1010 15,bg 1009 14,bv 1008 17,bt 1007 (.lit 0),bv 1006 3,bg 1005 21,bg 1004 20,bt 1003 (.arith .mul .i64 (.var 2) (.var 10)),bt 1002 (.arith .mul .i64 (.var 2) (.var 10)),bg 1001 12,bv 1000 10]) (.fresh 22 (.fresh 23 (.fresh 24 (.fresh 25 (.fresh 26 (.fresh 27 (.fresh 28 (.fresh 29 (.fresh 30 (.fresh 31 (.fresh 32 (.fresh 33 (.fresh 34 (.fresh 35 (.fresh 36 (.fresh 37 (.hyp 0 22 (.br (.cmp .lss (.var 29) (.var 3))
 (.need (.cmp .leq (.lit 0) (.var 22)) (.need (.cmp .leq (.tims (.lit 1) (.var 22)) (.lit 281474976710656)) (.fresh 38 (.pre 3 (sg 0 [bv 6 33,bv 5 34,bv 7 29,bv 4 33,bv 3 32,bg 2 31,bv 1 2,bv 0 3]) (.both (.fresh 39 (.fresh 40 (.fresh 41 (.post 3 0 (sg 0 [bv 6 33,bv 5 34,bv 7 29,bv 4 33,bv 3 32,bg 2 31,bv 1 2,bv 0 3]) 39 (.need (.cmp .leq (.lit 0) (.var 40)) (.inv 1 42 (sg 1000 [bg 1015 37,bt 1018 (.drep (.var 22) (.rcons (.vint .u8 (.lit 0)) .rnil)),bv 1014 36,bv 1013 35,bv 1012 34,bv 1011 33,bv 1010 32,bv 1008 30,bt 1022 (.lit 0),bv 1021 41,bv 1020 40,bv 1019 39,bg 1009 31,bv 1017 22,bg 1016 38,bv 1007 29,bv 1006 28,bg 1005 27,bg 1004 26,bv 1003 25,bv 1002 24,bg 1001 23,bv 1000 22]) (.fresh 42 (.fresh 43 (.fresh 44 (.fresh 45 (.fresh 46 (.fresh 47 (.fresh 48 (.fresh 49 (.fresh 50 (.fresh 51 (.fresh 52 (.fresh 53 (.fresh 54 (.fresh 55 (.fresh 56 (.fresh 57 (.fresh 58 (.fresh 59 (.fresh 60 (.fresh 61 (.fresh 62 (.fresh 63 (.fresh 64 (.hyp 1 42 (.br (.cmp .lss (.var 64) (.var 62))
 (.need (.cmp .leq (.lit 0) (.var 64)) (.need (.cmp .leq (.lit 0) (.var 61)) (.need (.cmp .leq (.lit 0) (.plus (.var 61) (.var 64))) (.need (.cmp .lss (.plus (.var 61) (.var 64)) (.dlen (.var 54))) (.know (.cmp .leq (.dlen (.var 55)) (.var 45)) (.need (.cmp .leq (.lit 0) (.var 44)) (.need (.cmp .leq (.lit 0) (.var 45)) (.need (.cmp .leq (.lit 0) (.arith .mul .i64 (.var 64) (.var 42))) (.need (.cmp .leq (.arith .mul .i64 (.var 64) (.var 42)) (.arith .mul .i64 (.arith .add .i64 (.var 64) (.lit 1)) (.var 42))) (.need (.cmp .leq (.arith .mul .i64 (.arith .add .i64 (.var 64) (.lit 1)) (.var 42)) (.var 45)) (.pre 4 o_encode31_1 (.both (.fresh 65 (.fresh 66 (.post 4 0 o_encode31_1 65 (.back 1 42 (sg 1000 [bg 1015 57,bv 1018 66,bv 1014 56,bv 1013 55,bv 1012 54,bv 1011 53,bv 1010 52,bv 1008 65,bt 1022 (.arith .add .i64 (.var 64) (.lit 1)),bv 1021 63,bv 1020 62,bv 1019 61,bg 1009 51,bv 1017 59,bg 1016 58,bv 1007 49,bv 1006 48,bg 1005 47,bg 1004 46,bv 1003 45,bv 1002 44,bg 1001 43,bv 1000 42]))))) .top))))))))))))
 (.need (.cmp .leq (.lit 0) (.var 49)) (.need (.cmp .lss (.var 49) (.var 3)) (.need (.cmp .lss (.var 49) (.dlen (.var 56))) (.pack [.arr 58 5 [CK.int .u8] (.var 60) (.var 59),.abs 57 2] 65 (.back 0 22 (sg 1000 [bg 1015 65,bt 1014 (.dput (.var 56) (.var 49) 0 (.rcons (.vint .i64 (.var 49)) (.rcons (.vslice 58 (.lit 0) (.var 42) (.var 59) 1) .rnil))),bv 1013 55,bv 1012 54,bv 1011 53,bv 1010 52,bg 1009 51,bv 1008 50,bt 1007 (.arith .add .i64 (.var 49) (.lit 1)),bv 1006 48,bg 1005 47,bg 1004 46,bv 1003 45,bv 1002 44,bg 1001 43,bv 1000 42]))))))))))))))))))))))))))))))))))))) .top)))))
 (.pack [.cells 26 200 [(.vint .i64 (.var 3)),(.vint .i64 (.var 2)),(.vslice 31 (.lit 0) (.var 32) (.var 33) 1)],.arr 31 5 [CK.int .u8] (.var 34) (.var 33),.arr 23 5 [CK.int .u8] (.var 35) (.var 25),.abs 37 2] 38 (.ret 1 (sg 9 [bg 13 38,bv 12 36,bv 11 30,bv 10 28,bg 9 27]))))))))))))))))))))))))))))))))) .top))))))))))) .top))))))) .top)))
theorem o_encode31_eq:treeOf ⟨Tryz.prog,encode31C,[sizes74C,piece26C,genGC,row75C,addToC],[encode31I,encode31J]⟩ 100000 Tryz.f87 = o_encode31:=by kernel_rfl
theorem encode31_of (hd:∀ c ∈ ([sizes74C,piece26C,genGC,row75C,addToC]:List Ctr),c.ok Tryz.prog) (h:∀ ρ:Env,ρ.good→(encode31C).pre ρ→o_encode31.den ⟨Tryz.prog,encode31C,[sizes74C,piece26C,genGC,row75C,addToC],[encode31I,encode31J]⟩ ρ):(encode31C).ok Tryz.prog :=
 ok_of_tree Tryz.func87 (fun a w=>Tryz.call87 a w) hd 100000 (fun ρ hg hp=>by rw [o_encode31_eq]; exact h ρ hg hp)
end Go.Proofs

set_option linter.unusedSimpArgs false
set_option linter.unusedVariables false
namespace Go.Proofs
open Go Go.Eng

theorem genG_ok:genGC.ok Tryz.prog:=Ctr.ok_less gen35_ok rfl rfl rfl rfl rfl (fun _ h=>h.1) fun ρ ρ' ai al hp hag hal hpost=>by
 match ai,hal with
 | 0,hal =>
  exfalso
  obtain rfl:=Option.some.inj hal
  obtain ⟨_,h2⟩:_∧(sizesB ((ρ'.upto 5) 2).i ((ρ'.upto 5) 3).i = true→(topE ((ρ'.upto 5) 2).i.toNat ((ρ'.upto 5) 3).i.toNat).2.2 < ((ρ'.upto 5) 2).i.toNat):=hpost
  have e2:(ρ'.upto 5) 2 = ρ 2:=by rw [Env.upto,if_pos (by omega)]; exact hag 2 (by decide)
  have e3:(ρ'.upto 5) 3 = ρ 3:=by rw [Env.upto,if_pos (by omega)]; exact hag 3 (by decide)
  rw [e2,e3] at h2
  obtain ⟨_,p2,p3⟩:=hp
  have:=h2 p2
  omega
 | 1,hal=>exact ⟨0,hal⟩
 | n + 2,hal=>cases hal
theorem pieceLen_ge {k n:Nat} (hk:0 < k):n ≤ k * pieceLen k n:=by
 unfold pieceLen
 have h1:=Nat.div_add_mod (n + k - 1) k
 have h2:=Nat.mod_lt (n + k - 1) hk
 omega
theorem pieceLen_lt {k n:Nat} (hk:0 < k):k * pieceLen k n < n + k:=by
 unfold pieceLen
 have h1:=Nat.div_add_mod (n + k - 1) k
 omega
theorem pieceLen_le {k n:Nat} (hk:0 < k):pieceLen k n ≤ n:=by
 have h:=pieceLen_lt (n:=n) hk
 by_cases h2:pieceLen k n ≤ n
 ·exact h2
 ·have h3:k * (n + 1) ≤ k * pieceLen k n:=Nat.mul_le_mul_left k (by omega)
  rw [Nat.mul_add,Nat.mul_one] at h3
  have h4:n * 1 ≤ k * n:=by rw [Nat.mul_comm k n]; exact Nat.mul_le_mul_left n hk
  omega
theorem pieceLen_tdiv {k:Int} {n:Nat} (hk:1 ≤ k):((n:Int) + k - 1).tdiv k = (pieceLen k.toNat n:Nat):=by
 rw [Int.tdiv_eq_ediv_of_nonneg (by omega),pieceLen,Int.natCast_ediv]
 congr 1 <;> omega
theorem bI_splice {d x:Rows'} (h:x.length ≤ d.length):bI (spliceD d 0 x) = bI x ++ (bI d).drop x.length:=by
 simp [spliceD,bI,List.map_drop]
theorem allB_splice {d x:Rows'} (hd:allB d) (hx:allB x):allB (spliceD d 0 x):=fun r hr=>by
 unfold spliceD at hr
 rcases List.mem_append.1 hr with hr | hr
 ·rcases List.mem_append.1 hr with hr | hr
  ·simp at hr
  ·exact hx r hr
 ·exact hd r (List.mem_of_mem_drop hr)
theorem encW_init {k total len lg cg:Int} {f dg data D:Rows'} (hf:fieldD f) (hs:sizesB k total = true) (h1:len ≤ 8192) (h2:len = data.length) (hB:allB data) (hM:fullM total k lg cg dg) (hG:bI dg = genL k.toNat total.toNat) (hD:D = List.replicate total.toNat [.int .i64 0,.slice none 0 0]) :
  encW k total len (pieceLen k.toNat data.length:Nat) (k * (pieceLen k.toNat data.length:Nat)) (k * (pieceLen k.toNat data.length:Nat)) lg cg 0 f dg (spliceD (List.replicate (k * (pieceLen k.toNat data.length:Nat)).toNat [.int .u8 0]) 0 data) D data:=by
 obtain ⟨k1,k2,k3⟩:=sizesB_iff.1 hs
 have hge:=pieceLen_ge (k:=k.toNat) (n:=data.length) (by omega)
 have hle:=pieceLen_le (k:=k.toNat) (n:=data.length) (by omega)
 have hc:(k * (pieceLen k.toNat data.length:Nat)).toNat = k.toNat * pieceLen k.toNat data.length:=by rw [Int.toNat_mul (by omega) (by omega)]; simp
 have hc0:0 ≤ k * (pieceLen k.toNat data.length:Nat):=Int.mul_nonneg (by omega) (by omega)
 refine ⟨hf,hs,h1,h2,hB,rfl,by omega,rfl,?_,allB_splice allB_rep hB,?_,hM,hG,by rw [hD,List.length_replicate],fun row hr=>by rw [hD] at hr; rw [List.eq_of_mem_replicate hr]; rfl,by omega,by omega⟩
 ·rw [spliceD_len (by rw [List.length_replicate]; omega),List.length_replicate]; omega
 ·rw [bI_splice (by rw [List.length_replicate]; omega),bI_rep,hc,fullL,bI_len,List.drop_replicate]; simp
theorem encW_next {k total len l lf cf lg cg i:Int} {f dg df D data:Rows'} {v w:Value} (h:encW k total len l lf cf lg cg i f dg df D data) (hi:i < total):encW k total len l lf cf lg cg (i + 1) f dg df (putD D i 0 [v,w]) data:=by
 obtain ⟨a1,a2,a3,a4,a5,a6,a7,a8,a9,a10,a11,a12,a13,a14,a17,a15,a16⟩:=h
 refine ⟨a1,a2,a3,a4,a5,a6,a7,a8,a9,a10,a11,a12,a13,by rw [putD_len]; exact a14,fun row hr=>?_,by omega,by omega⟩
 unfold putD at hr
 rcases List.mem_or_eq_of_mem_set hr with hr | rfl
 ·exact a17 row hr
 ·have hl:i.toNat < D.length:=by omega
  have:=a17 _ (List.getElem_mem hl)
  rw [List.getElem?_eq_getElem hl,Option.getD_some,splice_length (by rw [this]; simp),this]
theorem encW_f {k total len l lf cf lg cg i:Int} {f f' dg df D data:Rows'} (h:encW k total len l lf cf lg cg i f dg df D data) (hf:fieldD f'):encW k total len l lf cf lg cg i f' dg df D data:=⟨hf,h.2⟩
theorem encAt_mono {h h':Hp} {D:Rows'} {n:Nat} {f:Nat→List Int} (he:encAt h D n f) (hl:Hp.le h h'):encAt h' D n f:=fun j hj=>by
 obtain ⟨v,d,e1,e2,e3⟩:=he j hj
 exact ⟨v,d,e1,Rd_mono e2 hl,e3⟩
theorem encAt_next {h h':Hp} {D:Rows'} {i:Int} {f:Nat→List Int} {v:Value} {d:Rows'} (he:encAt h D i.toNat f) (hl:Hp.le h h') (h0:0 ≤ i) (hi:i.toNat < D.length) (hc:(D[i.toNat]?.getD []).length = 2) (hr:Rd h' kB v d) (hd:bI d = f i.toNat) (hB:allB d) :
  encAt h' (putD D i 0 [.int .i64 i,v]) (i.toNat + 1) f:=fun j hj=>by
 by_cases hji:j = i.toNat
 ·subst hji
  refine ⟨v,d,?_,hr,hd,hB⟩
  have hs:splice (D[i.toNat]?.getD []) 0 [.int .i64 i,v] = [.int .i64 i,v]:=by
   simp only [splice,List.take_zero,List.nil_append]
   rw [List.drop_eq_nil_of_le (by rw [hc]; exact Nat.le_refl _),List.append_nil]
  rw [putD,List.getElem?_set_self hi,hs,Int.toNat_of_nonneg h0]
 ·obtain ⟨v',d',e1,e2,e3⟩:=he j (by omega)
  exact ⟨v',d',by rw [putD,List.getElem?_set_ne (by omega)]; exact e1,Rd_mono e2 hl,e3⟩
set_option maxRecDepth 20000 in
set_option pp.deepTerms true in
set_option pp.maxSteps 1000000 in
theorem encode31_ok:encode31C.ok Tryz.prog:=encode31_of (by simp [sizes74_ok,piece26_ok,genG_ok,row75_ok,addTo_ok]) fun ρ hg hp=>by
 obtain ⟨hf,hl,hB,hrk⟩:=hp
 have hne:=(fieldD_ne hf).1
 simp (config:={ maxSteps:=4000000 }) [o_encode31,encode31C,encode31I,encode31J,sizes74C,piece26C,genGC,gen35C,row75C,addToC]
 refine ⟨fun h=>(hne h).elim,fun _ v _ hv=>⟨fun hb=>⟨hf,by rw [← hv]; exact hb⟩,fun hb=>?_⟩⟩
 have hsz:sizesB (ρ 2).i (ρ 3).i = true:=by rw [← hv]; exact hb
 obtain ⟨k1,k2,k3⟩:=sizesB_iff.1 hsz
 refine ⟨by omega,fun h=>⟨hf,hsz,h⟩,fun hle l _ e _ _ hpl=>?_⟩
 have hnb:¬ pieceBad (ρ 2).i (ρ 5).i:=by unfold pieceBad; omega
 obtain ⟨hpl1,_⟩:=hpl hnb
 rw [hl,pieceLen_tdiv k1] at hpl1
 have hge:=pieceLen_ge (k:=(ρ 2).i.toNat) (n:=(ρ 7).d.length) (by omega)
 have hlt:=pieceLen_lt (k:=(ρ 2).i.toNat) (n:=(ρ 7).d.length) (by omega)
 have hkl:(ρ 2).i * l.i = (((ρ 2).i.toNat * pieceLen (ρ 2).i.toNat (ρ 7).d.length:Nat):Int):=by rw [hpl1,Int.natCast_mul,Int.toNat_of_nonneg (by omega)]
 rw [mul64 (by omega) (by omega)]
 have hmax:max ((ρ 2).i * l.i) 0 = (ρ 2).i * l.i:=by omega
 refine ⟨by omega,by omega,fun u3 _=>⟨by omega,by omega,fun u4 _=>⟨⟨hf,hsz,hrk hsz⟩,fun u5 _ lg _ cg _ f1 _ dg _ ab _ hf1 _ hM _ hG u11 _=>⟨by omega,by omega,fun u12 _=>⟨⟨?_,fun j hj=>by omega⟩,?_⟩⟩⟩⟩⟩
 ·have htake:(((ρ 7).d.take (ρ 5).i.toNat).take (if (ρ 5).i < (ρ 2).i * l.i then (ρ 5).i else (ρ 2).i * l.i).toNat) = (ρ 7).d:=by
   rw [List.take_of_length_le (l:=(ρ 7).d) (by omega),List.take_of_length_le (by split <;> omega)]
  rw [htake,hpl1]
  exact encW_init hf1 hsz hle hl hB hM hG rfl
 intro l2 _ u14 _ lf _ cf _ u17 _ u18 _ u19 _ i _ f2 _ u22 _ lg2 _ cg2 _ dg2 _ df2 _ D2 _ ab2 _ hW hE
 refine ⟨fun hi=>?_,fun hi u29 _ hst=>?_⟩
 ·have hW':=hW
  obtain ⟨a1,a2,a3,a4,a5,a6,a7,a8,a9,a10,a11,a12,a13,a14,a17,a15,a16⟩:=hW'
  refine ⟨by omega,by omega,fun u29 _=>⟨⟨a15,hi,a12.1⟩,fun o _ n _ c _ ho hn hc=>⟨by omega,⟨hW,hE,hi,ho,hn,by omega,allB_rep,?_⟩,?_⟩⟩⟩
  ·rw [bI_rep]; rfl
  intro l3 _ u34 _ lf3 _ cf3 _ u37 _ u38 _ u39 _ i3 _ f3 _ u42 _ lg3 _ cg3 _ dg3 _ df3 _ D3 _ ab3 _ rp _ cp _ pd _ o3 _ n3 _ c3 _ j _ hW3 hE3 hii hi3 ho3 hn3 j0 j1 hpl hpB hp3
  have hW3':=hW3
  obtain ⟨b1,b2,b3,b4,b5,b6,b7,b8,b9,b10,b11,b12,b13,b14,b17,b15,b16⟩:=hW3'
  obtain ⟨⟨m1,m2,m3,m4,m5,m6,m7,m8⟩,m9⟩:=b12
  have hl0:0 ≤ l3.i:=by omega
  refine ⟨fun hj=>?_,fun hj=>?_⟩
  ·have hjk:j.i < (ρ 2).i:=by omega
   have hbo:=mul_bound (x:=i3.i) (y:=(ρ 2).i) b15 (show i3.i ≤ 255 by omega) (by omega) (show (ρ 2).i ≤ 255 by omega)
   have hbj:=mul_bound (x:=j.i) (y:=l3.i) j0 (show j.i ≤ 255 by omega) hl0 b7
   have hltG:i3.i * (ρ 2).i + j.i < (ρ 3).i * (ρ 2).i:=by
    have:=Int.mul_le_mul_of_nonneg_right (show i3.i + 1 ≤ (ρ 3).i by omega) (show 0 ≤ (ρ 2).i by omega)
    rw [Int.add_mul,Int.one_mul] at this; omega
   have he:(j.i + 1) * l3.i = j.i * l3.i + l3.i:=by rw [Int.add_mul,Int.one_mul]
   have hltF:j.i * l3.i + l3.i ≤ (ρ 2).i * l3.i:=by
    have:=Int.mul_le_mul_of_nonneg_right (show j.i + 1 ≤ (ρ 2).i by omega) hl0
    omega
   have hcell:=allB_get m8 (i:=o3.i + j.i) (by omega) (by omega)
   rw [add64 (by omega) (by omega),mul64 (by omega) (by omega),mul64 (by omega) (by omega),he]
   refine ⟨j0,by omega,by omega,by omega,fun hcap=>⟨by omega,by omega,hbj.1,by omega,by omega,⟨b1,⟨by omega,hl0,by omega,by unfold Go.Eng.big; omega⟩,⟨by split <;> omega,by omega,by split <;> omega,by unfold Go.Eng.big; omega⟩,by omega,hpB,b10,hcell⟩,fun f4 _ d4 _ hf4 hl4 hB4 he4=>?_⟩⟩
   refine ⟨⟨encW_f hW3 hf4,hE3,hii,hi3,ho3,hn3,by omega,by omega,by omega,hB4,?_⟩,by omega⟩
   have hsg:seg (bI df3.d) (if cf3.i = j.i * l3.i then 0 else j.i * l3.i).toNat (j.i * l3.i + l3.i - j.i * l3.i).toNat = seg (bI df3.d) (j.i.toNat * l3.i.toNat) l3.i.toNat:=by
    rw [show j.i * l3.i + l3.i - j.i * l3.i = l3.i by omega]
    split
    ·have:l3.i.toNat = 0:=by omega
     rw [this]; simp [seg]
    ·rw [Int.toNat_mul j0 hl0]
   have hgd:(bI dg3.d).getD (i3.i.toNat * (ρ 2).i.toNat + j.i.toNat) 0 = cellI dg3.d (o3.i + j.i) 0:=by
    have:=bI_get (d:=dg3.d) (i:=o3.i + j.i) (by omega) (by omega)
    rw [show (o3.i + j.i).toNat = i3.i.toNat * (ρ 2).i.toNat + j.i.toNat by rw [ho3,Int.toNat_add hbo.1 j0,Int.toNat_mul b15 (by omega)]] at this
    rw [List.getD_eq_getElem?_getD,this]; rfl
   rw [he4,hp3,hsg,show (j.i + 1).toNat = j.i.toNat + 1 by omega,pieceN,hgd]
  ·have hjk:j.i = (ρ 2).i:=by omega
   refine ⟨b15,hi3,by omega,fun u56 _ hst=>?_⟩
   rw [add64 (by omega) (by omega)]
   refine ⟨⟨encW_next hW3 hi3,?_⟩,by omega⟩
   obtain ⟨ha,la,da⟩:=star_mem hst (List.mem_cons_self ..)
   obtain ⟨hb,lb,db⟩:=star_mem_abs hst (n:=57) (t:=2) (by simp)
   have hr:=arr_Rd (n:=l3.i.toNat) (k:=cp.i.toNat) da la (by simp; omega) (by simp)
   have hr:Rd u56.h kB (.slice (addrOf rp.r 0) l3.i.toNat cp.i.toNat) pd.d:=by simpa [kB] using hr
   have hdl:i3.i.toNat < D3.d.length:=by omega
   rw [show (i3.i + 1).toNat = i3.i.toNat + 1 by omega]
   refine encAt_next hE3 (Hp.le_trans (by simpa using db) lb) b15 hdl (by rw [List.getElem?_eq_getElem hdl]; exact b17 _ (List.getElem_mem hdl)) hr ?_ hpB
   rw [hp3,encP,hjk,b13,b11,bI_len]
   rw [show l3.i.toNat = pieceLen (ρ 2).i.toNat (ρ 7).d.length by omega]
 ·obtain ⟨a1,a2,a3,a4,a5,a6,a7,a8,a9,a10,a11,a12,a13,a14,a17,a15,a16⟩:=hW
  obtain ⟨hb,lb,db⟩:=star_mem_abs hst (n:=37) (t:=2) (by simp)
  refine ⟨a1,hsz,hle,a14,?_⟩
  rw [show i.i.toNat = (ρ 3).i.toNat by omega] at hE
  exact encAt_mono hE (Hp.le_trans (by simpa using db) lb)
end Go.Proofs

set_option linter.unusedSimpArgs false
set_option linter.unusedVariables false
namespace Go.Proofs
open Go Go.Eng

end Go.Proofs

set_option linter.unusedSimpArgs false
set_option linter.unusedVariables false
namespace Go.Proofs
open Go Go.Eng
theorem sizes3_ok:sizes3C.ok Tryz.prog:=sizes3_of (by simp) fun ρ hg hp=>by
 simp [o_sizes3,sizes3C]
 refine ⟨fun h1=>⟨fun h2=>⟨fun h3=>?_,fun h3=>?_⟩,fun h2=>?_⟩,fun h1=>?_⟩
 ·simp [sizes3,h1,h2,h3,cmpOf]
 ·simp [sizes3]; omega
 ·simp [sizes3]; omega
 ·simp [sizes3]; omega
set_option maxRecDepth 20000 in
theorem checkM_ok:checkMC.ok Tryz.prog:=checkM_of (by simp [sizes3_ok]) fun ρ hg hp=>by
 have hp:0 ≤ (ρ 6).i:=hp
 simp [o_checkM,checkMC,sizes3C,manOk,manV,manT,cellsT]
 refine fun u _ hu=>⟨fun h hs=>by (rw [hu,hs] at h; cases h),fun h=>⟨fun a _ b=>by omega,fun a=>⟨fun b _ _ c=>by omega,fun b=>⟨hp,fun c _ _ _=>c,fun c=>⟨by rw [← hu,h],a,b,c⟩⟩⟩⟩⟩
theorem shr8 {x:Int}:arithOf .shr .i64 x 8 = x.fdiv 256:=rfl
set_option maxRecDepth 20000 in
theorem pieceDg_ok:pieceDgC.ok Tryz.prog:=pieceDg_of (by simp [newHash_ok,write_ok,sum_ok]) fun ρ hg hp=>by
 obtain ⟨o0,l0,lc,l1,hle,hB,hGr,hGd⟩:=hp
 simp (config:={ maxSteps:=2000000 }) [o_pieceDg,pieceDgC,newHashC,writeC,sumC,gOk]
 have hseg:segB [[.int .u8 (IntKind.u8.wrap (arithOf .shr .i64 (ρ 0).i 8))],[.int .u8 (IntKind.u8.wrap (ρ 0).i)]] 0 2 = pieceIn (ρ 0).i:=by
  rw [shr8,wrap8,wrap8]; rfl
 refine fun h _ hh=>⟨⟨⟨[],hh,by decide⟩,?_,hGr,hGd⟩,fun g _ hg1=>?_⟩
 ·intro row hr
  simp at hr
  rcases hr with rfl | rfl
  ·simp [rowI,vInt,wrap8]; omega
  ·simp [rowI,vInt,wrap8]; omega
 ·rw [hseg] at hg1
  have h1:=hg1 [] hh
  refine ⟨⟨⟨_,h1,by simp [pieceIn]⟩,o0,l0,lc,by omega,hle,hB,hGr,hGd⟩,fun k _ hk=>⟨⟨⟨_,hk _ h1,?_⟩,hGr,hGd⟩,fun d _ hd=>?_⟩⟩
  ·have:(segB (ρ 5).d (ρ 2).i (ρ 3).i).length ≤ (ρ 3).i.toNat:=by simp [segB]; omega
   simp [pieceIn]; omega
  ·exact (show rowL _ 32 = rowL d.d 32 from rfl).trans (hd _ (hk _ h1))
theorem wThen_ok {lim:Int} {b:Bool} {x m s:List Int} (h:(b,x) = wThen lim false m s) (hf:(m.length:Int) + s.length ≤ lim):b = false∧x = m ++ s:=by
 rw [wThen_fits (by simp [wFull]; omega)] at h
 simpa using h
theorem wrap16 {x:Int}:IntKind.u16.wrap x = x % 65536:=by simp [IntKind.wrap,IntKind.bits,IntKind.signed]
theorem row_dgs {d:Rows'} {i:Nat} (h:i < d.length):rowL [dgCells (cellI d i)] 32 = rowB d[i]:=by
 refine List.map_congr_left fun j hj=>?_
 rw [dgCells_get (List.mem_range.1 hj)]
 simp [cellI,cellV,rowI,h]
theorem dgs_take {d:Rows'} {i:Nat} (h:i < d.length):((dgs d).take (i + 1)).flatten = ((dgs d).take i).flatten ++ rowB d[i]:=by
 rw [List.take_add_one,List.getElem?_eq_getElem (by simpa [dgs] using h)]
 simp [dgs]
set_option maxRecDepth 20000 in
set_option maxHeartbeats 800000 in
theorem encMan_ok:encManC.ok Tryz.prog:=encMan_of (by simp [checkM_ok,newWriter_ok,u8_ok,u16_ok,rawM_ok,raw32_ok,bytes_ok]) fun ρ hg hp=>by
 obtain ⟨l0,hl,ho,hd⟩:=hp
 simp (config:={ maxSteps:=2000000 }) [o_encMan,encManC,encManI,checkMC,newWriterC,u8C,u16C,numFn,rawMC,raw32C,bytesC,wHeap,wCells,wPost]
 refine ⟨l0,fun e _ he=>⟨fun hne=>?_,fun hz lim _ hlim=>?_⟩⟩
 ·by_cases h:manOk (ρ 0).i (ρ 1).i (ρ 2).i (ρ 3).i (ρ 6).i = true
  ·rw [if_pos h] at he; exact absurd he hne
  ·rw [if_neg h] at he; exact ⟨he.symm,by simpa using h⟩
 ·have hok:manOk (ρ 0).i (ρ 1).i (ρ 2).i (ρ 3).i (ρ 6).i = true:=by
   by_cases h:manOk (ρ 0).i (ρ 1).i (ρ 2).i (ρ 3).i (ρ 6).i = true
   ·exact h
   ·rw [if_neg h] at he; omega
  have hb:=hok
  simp [manOk,sizes3] at hb
  obtain ⟨⟨b1,b2,b3,b4⟩,b5,b6,b7⟩:=hb
  have hl2:lim.i = 39 + 32 * (ρ 2).i:=by
   rw [hlim,mul64 (by omega) (by omega),add64 (by omega) (by omega)]; omega
  clear hlim
  simp only [wrap8,wrap16]
  have hman:List.drop 4 (rowL [([.int .i64 (ρ 0).i,.int .i64 (ρ 1).i,.int .i64 (ρ 2).i,.int .i64 (ρ 3).i] ++ (dgCells (cellX (ρ 4).d) ++ [.slice (addrOf (ρ 5).r 0) (ρ 6).i.toNat (ρ 7).i.toNat]):List Value)] 36) = rowL (ρ 4).d 32:=rfl
  have hone:oneRow [([.int .i64 (ρ 0).i,.int .i64 (ρ 1).i,.int .i64 (ρ 2).i,.int .i64 (ρ 3).i] ++ (dgCells (cellX (ρ 4).d) ++ [.slice (addrOf (ρ 5).r 0) (ρ 6).i.toNat (ρ 7).i.toNat]):List Value)] 37:=⟨_,rfl,by simp [dgCells]⟩
  have hlen:∀ {l n c:Int} {d:Rows'},wOk l n c d→n = ((bI d).length:Int):=fun h=>by rw [bI_len]; exact h.2.2.1
  refine ⟨⟨by omega,by omega,rfl,by omega,by intro r hr; cases hr⟩,fun f1 _ n1 _ c1 _ d1 _ w1 g1=>?_⟩
  obtain ⟨y1,x1⟩:=wThen_ok g1 (by rw [hl2]; simp [bI,beL_len]; omega)
  have L1:(bI d1.d).length = 2:=by rw [x1]; simp [bI,beL_len]
  have q1:=hlen w1
  refine ⟨⟨w1,by omega,by omega,by omega⟩,fun f2 _ n2 _ c2 _ d2 _ w2 g2=>?_⟩
  rw [y1] at g2
  obtain ⟨y2,x2⟩:=wThen_ok g2 (by rw [hl2,L1,beL_len]; omega)
  have L2:(bI d2.d).length = 3:=by rw [x2,List.length_append,L1,beL_len]
  have q2:=hlen w2
  refine ⟨⟨w2,by omega,by omega,by omega⟩,fun f3 _ n3 _ c3 _ d3 _ w3 g3=>?_⟩
  rw [y2] at g3
  obtain ⟨y3,x3⟩:=wThen_ok g3 (by rw [hl2,L2,beL_len]; omega)
  have L3:(bI d3.d).length = 4:=by rw [x3,List.length_append,L2,beL_len]
  have q3:=hlen w3
  refine ⟨⟨w3,by omega,by omega,by omega⟩,fun f4 _ n4 _ c4 _ d4 _ w4 g4=>?_⟩
  rw [y3] at g4
  obtain ⟨y4,x4⟩:=wThen_ok g4 (by rw [hl2,L3,beL_len]; omega)
  have L4:(bI d4.d).length = 5:=by rw [x4,List.length_append,L3,beL_len]
  have q4:=hlen w4
  refine ⟨⟨w4,by omega,by omega,by omega⟩,fun f5 _ n5 _ c5 _ d5 _ w5 g5=>?_⟩
  rw [y4] at g5
  obtain ⟨y5,x5⟩:=wThen_ok g5 (by rw [hl2,L4,beL_len]; omega)
  have L5:(bI d5.d).length = 7:=by rw [x5,List.length_append,L4,beL_len]
  have q5:=hlen w5
  refine ⟨⟨w5,by omega,hone,?_⟩,fun f6 _ n6 _ c6 _ d6 _ w6 g6=>?_⟩
  ·have:=hman
   exact this ▸ ho
  have g6':(f6.b,bI d6.d) = wThen lim.i f5.b (bI d5.d) (rowL (ρ 4).d 32):=g6
  rw [y5] at g6'
  obtain ⟨y6,x6⟩:=wThen_ok g6' (by rw [hl2,L5,rowL_len]; omega)
  have hhead:bI d6.d = manHead (ρ 0).i (ρ 1).i (ρ 2).i (ρ 3).i (rowL (ρ 4).d 32):=by
   rw [x6,x5,x4,x3,x2,x1]
   simp [manHead,bI,List.append_assoc]
  refine ⟨l0,⟨hok,l0,hl2,y6,w6,hhead⟩,fun lim2 _ f _ n _ c _ d _ t _ _ t0 t1 z1 z2 z3 z4=>⟨fun hlt=>?_,fun hge=>?_⟩⟩
  ·obtain ⟨T,hT⟩:∃ T:Nat,t.i = T:=⟨t.i.toNat,by omega⟩
   have m1:arithOf .add .i64 t.i 1 = ((T + 1:Nat):Int):=by rw [add64 (by omega) (by omega)]; omega
   have hTl:T < (ρ 8).d.length:=by omega
   have hrow:=row_dgs hTl
   have hnl:n.i = 39 + 32 * t.i:=by
    have h1:=hlen z3
    rw [z4,List.length_append] at h1
    have h2:∀ (k:Nat),k ≤ (ρ 8).d.length→((dgs (ρ 8).d).take k).flatten.length = 32 * k:=fun k=>by
     induction k with
     | zero=>intro _; simp
     | succ k ih=>intro hk; rw [dgs_take (by omega),List.length_append,ih (by omega)]; simp [rowB]; omega
    rw [h2 _ (by omega)] at h1
    have h3:(manHead (ρ 0).i (ρ 1).i (ρ 2).i (ρ 3).i (rowL (ρ 4).d 32)).length = 39:=by simp [manHead,beL_len,rowL_len]
    omega
   rw [hT] at z4 hnl ⊢
   rw [← hT,m1,hT]
   refine ⟨by omega,by omega,⟨z3,by omega,⟨_,rfl,rfl⟩,?_⟩,fun f7 _ n7 _ c7 _ d7 _ w7 g7=>?_⟩
   ·have h1:allM (rowB (ρ 8).d[T]):=(hd _ (List.getElem_mem hTl)).2
    rw [← hrow] at h1
    exact h1
   ·have g7':(f7.b,bI d7.d) = wThen lim2.i f.b (bI d.d) (rowL [dgCells (cellI (ρ 8).d T)] 32):=g7
    rw [z2,hrow] at g7'
    have hbl:(rowB (ρ 8).d[T]).length = 32:=by simp [rowB]
    obtain ⟨y7,x7⟩:=wThen_ok g7' (by rw [← hlen z3,hbl]; omega)
    refine ⟨⟨hok,by omega,by omega,z1,y7,w7,?_⟩,by omega⟩
    rw [x7,z4]
    simp only [Int.toNat_natCast]
    rw [dgs_take hTl,List.append_assoc]
  ·have ht:t.i.toNat = (ρ 8).d.length:=by omega
   rw [ht] at z4
   rw [List.take_of_length_le (by simp [dgs])] at z4
   refine ⟨⟨z3,?_⟩,z2,fun e _ _ he=>⟨hok,by rw [he]; exact z3.2.2.1,by rw [he]; exact z3.2.2.2.2,by rw [he]; exact z4⟩⟩
   have:=z3.2.2.2.1
   omega
end Go.Proofs

set_option linter.unusedSimpArgs false
set_option linter.unusedVariables false
namespace Go.Proofs
open Go Go.Eng
theorem sha_allM (m:List Int):allM (sha m):=fun x hx=>by
 obtain ⟨j,_,rfl⟩:=List.mem_map.1 hx
 omega
theorem madeAt_len {f:Nat→List Int} {n:Nat}:(madeAt f n).length = n:=by simp [madeAt]
theorem pieceN_len {g full:List Int} {k l i:Nat}:∀ j,(pieceN g full k l i j).length = l
 | 0=>by simp [pieceN]
 | j + 1=>by rw [pieceN,addToL_len,pieceN_len j]
theorem encP_len {k total:Nat} {data:List Int} {i:Nat}:(encP k total data i).length = pieceLen k data.length:=pieceN_len k
theorem dgs_snoc {d:Rows'} {r:List Value}:dgs (d ++ [r]) = dgs d ++ [rowB r]:=by simp [dgs]
theorem madeAt_snoc {f:Nat→List Int} {n:Nat}:madeAt f (n + 1) = madeAt f n ++ [sha (pieceIn n ++ f n)]:=by simp [madeAt,List.range_succ]
theorem rowB_dg {d:Rows'}:rowB (dgCells (cellX d)) = rowL d 32:=rfl
set_option maxRecDepth 20000 in
set_option maxHeartbeats 1600000 in
theorem make_ok:makeC.ok Tryz.prog:=make_of (by simp [sizes3_ok,encode31_ok,sha256_ok,pieceDg_ok]) fun ρ hg hp=>by
 obtain ⟨hf,hl,hlc,hB,⟨hGr,hGd⟩,htop⟩:=hp
 simp (config:={ maxSteps:=2000000 }) [o_make,makeC,makeI,sizes3C,encode31C,sha256C,pieceDgC,gOk,bytesIn]
 have hnn:=fieldD_ne hf
 refine fun u _=>⟨fun h=>absurd h hnn.1,fun _ b _ hb=>⟨fun hz=>⟨hf,by rw [← hb]; exact hz⟩,fun hz=>?_⟩⟩
 rw [hz] at hb
 have hs3:=hb.symm
 have hs3':=hs3
 simp [sizes3] at hs3'
 obtain ⟨b1,b2,b3,b4⟩:=hs3'
 have hsB:sizesB (ρ 2).i (ρ 4).i = true:=by simp [sizesB]; omega
 have hsz:sizesB (ρ 2).i (ρ 4).i = false→False:=fun h=>by rw [hsB] at h; cases h
 refine ⟨⟨hf,hl,hB,htop⟩,fun e _ f _ hf2 he=>⟨fun hne=>⟨hf2,?_⟩,fun hz2=>?_⟩,fun _ _ _ _ f _ P _ ab _ hf2 _ hle hPl hE=>⟨by omega,⟨⟨by omega,hlc,by omega,by omega,hB⟩,hGr,hGd⟩,fun o _ ho _ _=>⟨by omega,⟨hf2,hs3,hle,by omega,hPl,hE,?_,?_,?_⟩,fun _ _ _ _ _ _ o2 _ _ _ t _ _ _ Ds _ P2 _ _ _ f2 _ ab2 _ hf3 _ _ t0 t1 hPl2 hE2 ho2 hDl hDo hDm=>⟨fun hlt=>?_,fun hge=>?_⟩⟩⟩⟩
 ·rcases he with ⟨h,_⟩ | ⟨_,h1,h2⟩
  ·exact (hsz h).elim
  ·exact .inr ⟨hs3,h1,h2⟩
 ·rcases he with ⟨h,_⟩ | ⟨_,h1,h2⟩
  ·exact (hsz h).elim
  ·omega
 ·rw [segB_all hl] at ho
  exact ho
 ·intro r hr; cases hr
 ·rfl
 ·obtain ⟨T,hT⟩:∃ T:Nat,t.i = T:=⟨t.i.toNat,by omega⟩
  have m1:arithOf .add .i64 t.i 1 = ((T + 1:Nat):Int):=by rw [add64 (by omega) (by omega)]; omega
  obtain ⟨v,d,e1,e2,e3,e4⟩:=hE2 T (by omega)
  have hcv:cellV P2.d t.i 1 = v:=by rw [hT]; simp [cellV,e1]
  have hci:cellI P2.d t.i 0 = (T:Int):=by rw [hT]; simp [cellI,cellV,e1,vInt]
  rw [m1,hcv,hci]
  have hdl:d.length ≤ (ρ 8).d.length:=by
   have h1:=congrArg List.length e3
   rw [bI_len,encP_len,bI_len] at h1
   have:=pieceLen_le (k:=(ρ 2).i.toNat) (n:=(ρ 8).d.length) (by omega)
   omega
  refine ⟨by omega,by omega,fun _ _=>⟨d,e2,fun r0 _ c1 _ hv hcl=>⟨⟨hcl,by omega,e4,hGr,hGd⟩,fun g _ hg2 _ _=>⟨by omega,by omega,fun _ _ _ _ ab3 _ hst=>⟨by omega,⟨hf3,hs3,hle,by omega,by omega,hPl2,?_,ho2,by omega,?_,?_⟩,by omega⟩⟩⟩⟩⟩
  ·obtain ⟨hb2,lb,db⟩:=star_mem_abs hst (n:=32) (t:=2) (by simp)
   exact encAt_mono hE2 (Hp.le_trans (by simpa using db) lb)
  ·intro r hr
   rcases List.mem_append.1 hr with hr | hr
   ·exact hDo r hr
   ·obtain rfl:=List.mem_singleton.1 hr
    refine ⟨rfl,?_⟩
    have:allM (rowL g.d 32):=by rw [hg2]; exact sha_allM _
    exact this
  ·have hh:dgs (Ds.d ++ [dgCells (cellX g.d)]) = madeAt (encP (ρ 2).i.toNat (ρ 4).i.toNat (bI (ρ 8).d)) (T + 1):=by
    rw [dgs_snoc,rowB_dg,hg2,segB_all rfl,e3,hDm,hT,Int.toNat_natCast,madeAt_snoc]
   exact hh
 ·have ht:t.i = (ρ 4).i:=by omega
  refine fun ab3 _ hst=>⟨by omega,hf3,hs3,hle,hPl2,?_,ho2,hDo,by rw [hDm,ht]⟩
  obtain ⟨hb2,lb,db⟩:=star_mem_abs hst (n:=32) (t:=2) (by simp)
  exact encAt_mono hE2 (Hp.le_trans (by simpa using db) lb)
end Go.Proofs

set_option linter.unusedSimpArgs false
set_option linter.unusedVariables false
namespace Go.Proofs
open Go Go.Eng
set_option maxRecDepth 20000
end Go.Proofs

set_option linter.unusedSimpArgs false
set_option linter.unusedVariables false
namespace Go.Eng
open Go Go.Proofs
end Go.Eng

set_option linter.unusedSimpArgs false
set_option linter.unusedVariables false
set_option maxRecDepth 100000
namespace Go.Proofs
open Go Go.Eng

end Go.Proofs

set_option linter.unusedSimpArgs false
set_option linter.unusedVariables false
namespace Go.Proofs
open Go Go.Eng
set_option maxRecDepth 20000
end Go.Proofs

set_option linter.unusedSimpArgs false
set_option linter.unusedVariables false
namespace Go.Proofs
open Go Go.Eng
set_option maxRecDepth 20000
end Go.Proofs

set_option linter.unusedSimpArgs false
set_option linter.unusedVariables false
namespace Go.Eng
open Go Go.Proofs
end Go.Eng

set_option linter.unusedSimpArgs false
set_option linter.unusedVariables false
set_option maxRecDepth 100000
namespace Go.Proofs
open Go Go.Eng

end Go.Proofs

set_option linter.unusedSimpArgs false
set_option linter.unusedVariables false
namespace Go.Proofs
open Go Go.Eng
set_option maxRecDepth 20000
end Go.Proofs

set_option linter.unusedSimpArgs false
set_option linter.unusedVariables false
namespace Go.Eng
open Go Go.Proofs
end Go.Eng

set_option linter.unusedSimpArgs false
set_option linter.unusedVariables false
set_option maxRecDepth 100000
namespace Go.Proofs
open Go Go.Eng

end Go.Proofs

set_option linter.unusedSimpArgs false
set_option linter.unusedVariables false
namespace Go.Proofs
open Go Go.Eng
set_option maxRecDepth 20000
theorem dgs_len {D:Rows'}:(dgs D).length = D.length:=by simp [dgs]
end Go.Proofs

set_option linter.unusedSimpArgs false
set_option linter.unusedVariables false
namespace Go.Proofs
open Go Go.Eng
set_option maxRecDepth 20000
end Go.Proofs

set_option linter.unusedSimpArgs false
set_option linter.unusedVariables false
namespace Go.Eng
open Go Go.Proofs
def manIn (ρ:Env) (r:Nat):Prop:=i64P (ρ r).i∧i64P (ρ (r + 1)).i∧i64P (ρ (r + 2)).i∧i64P (ρ (r + 3)).i∧allM (rowL (ρ (r + 4)).d 32)∧(ρ (r + 6)).i = (ρ (r + 8)).d.length∧(ρ (r + 6)).i ≤ 4398046510976∧dgsOk (ρ (r + 8)).d
def manB (ρ:Env):List Int:=manHead (ρ 0).i (ρ 1).i (ρ 2).i (ρ 3).i (rowL (ρ 4).d 32) ++ (dgs (ρ 8).d).flatten
def manO (ρ:Env):Bool:=manOk (ρ 0).i (ρ 1).i (ρ 2).i (ρ 3).i (ρ 6).i
def idPre (ρ:Env):Prop:=(ρ 6).i = (ρ 8).d.length∧allM (rowL (ρ 4).d 32)∧dgsOk (ρ 8).d
def idAlts:List Alt:=[
 { k:=2,ret:=.tup [(true,cellsT .u8 12 32),eRet (.var 13)],heap:=[],post:=fun ρ=>(manO ρ = false∧(ρ 13).i = 2∧rowL (ρ 12).d 32 = List.replicate 32 0)∨(manO ρ = true∧(ρ 13).i = 0∧rowL (ρ 12).d 32 = sha (manB ρ)) }]
def idC:Ctr:={ fn := 44,nv:=12,ip:=[gIp 10,(1005,9)],args:=[manV],heap:=[],ro:=[dgsHp 5 8 9,gHp 10 11],pre:=fun ρ=>idPre ρ∧gOk ρ 10 11 gR,alts:=idAlts }
end Go.Eng

set_option linter.unusedSimpArgs false
set_option linter.unusedVariables false
set_option maxRecDepth 100000
namespace Go.Proofs
open Go Go.Eng

end Go.Proofs

set_option linter.unusedSimpArgs false
set_option linter.unusedVariables false
namespace Go.Proofs
open Go Go.Eng
set_option maxRecDepth 20000
theorem flat_len {l:List (List Int)} (h:∀ x ∈ l,x.length = 32):l.flatten.length = 32 * l.length:=by
 induction l with
 | nil=>rfl
 | cons x r ih =>
  rw [List.flatten_cons,List.length_append,h x (List.mem_cons_self ..),ih (fun y hy=>h y (List.mem_cons_of_mem _ hy)),List.length_cons]; omega
theorem flat_at {l:List (List Int)} (h:∀ x ∈ l,x.length = 32):∀ {j:Nat} (hj:j < l.length),(l.flatten.drop (32 * j)).take 32 = l[j]:=by
 induction l with
 | nil=>intro j hj; simp at hj
 | cons x r ih =>
  intro j hj
  have hx:=h x (List.mem_cons_self ..)
  cases j with
  | zero=>simp [List.take_left' hx]
  | succ j =>
   rw [List.flatten_cons,show 32 * (j + 1) = x.length + 32 * j by omega,List.drop_length_add_append]
   exact ih (fun y hy=>h y (List.mem_cons_of_mem _ hy)) (by simpa using hj)
theorem dgs_32 {D:Rows'}:∀ x ∈ dgs D,x.length = 32:=fun x hx=>by
 obtain ⟨r,_,rfl⟩:=List.mem_map.1 hx
 simp [rowB]
end Go.Proofs

set_option linter.unusedSimpArgs false
set_option linter.unusedVariables false
namespace Go.Proofs
open Go Go.Eng
def rowI8 (d:Rows') (i:Int):List Int:=(List.range 32).map fun k=>cellI d i k
@[simp high] theorem rowL_x8 (d:Rows'):rowL [[.int .u8 (cellX d 0),.int .u8 (cellX d 1),.int .u8 (cellX d 2),.int .u8 (cellX d 3),.int .u8 (cellX d 4),.int .u8 (cellX d 5),.int .u8 (cellX d 6),.int .u8 (cellX d 7),.int .u8 (cellX d 8),.int .u8 (cellX d 9),.int .u8 (cellX d 10),.int .u8 (cellX d 11),.int .u8 (cellX d 12),.int .u8 (cellX d 13),.int .u8 (cellX d 14),.int .u8 (cellX d 15),.int .u8 (cellX d 16),.int .u8 (cellX d 17),.int .u8 (cellX d 18),.int .u8 (cellX d 19),.int .u8 (cellX d 20),.int .u8 (cellX d 21),.int .u8 (cellX d 22),.int .u8 (cellX d 23),.int .u8 (cellX d 24),.int .u8 (cellX d 25),.int .u8 (cellX d 26),.int .u8 (cellX d 27),.int .u8 (cellX d 28),.int .u8 (cellX d 29),.int .u8 (cellX d 30),.int .u8 (cellX d 31)]] 32 = rowL d 32:=rfl
@[simp high] theorem rowL_i8 (d:Rows') (i:Int):rowL [[.int .u8 (cellI d i 0),.int .u8 (cellI d i 1),.int .u8 (cellI d i 2),.int .u8 (cellI d i 3),.int .u8 (cellI d i 4),.int .u8 (cellI d i 5),.int .u8 (cellI d i 6),.int .u8 (cellI d i 7),.int .u8 (cellI d i 8),.int .u8 (cellI d i 9),.int .u8 (cellI d i 10),.int .u8 (cellI d i 11),.int .u8 (cellI d i 12),.int .u8 (cellI d i 13),.int .u8 (cellI d i 14),.int .u8 (cellI d i 15),.int .u8 (cellI d i 16),.int .u8 (cellI d i 17),.int .u8 (cellI d i 18),.int .u8 (cellI d i 19),.int .u8 (cellI d i 20),.int .u8 (cellI d i 21),.int .u8 (cellI d i 22),.int .u8 (cellI d i 23),.int .u8 (cellI d i 24),.int .u8 (cellI d i 25),.int .u8 (cellI d i 26),.int .u8 (cellI d i 27),.int .u8 (cellI d i 28),.int .u8 (cellI d i 29),.int .u8 (cellI d i 30),.int .u8 (cellI d i 31)]] 32 = rowI8 d i:=rfl
@[simp high] theorem mapV_x8 (d:Rows'):([.int .u8 (cellX d 0),.int .u8 (cellX d 1),.int .u8 (cellX d 2),.int .u8 (cellX d 3),.int .u8 (cellX d 4),.int .u8 (cellX d 5),.int .u8 (cellX d 6),.int .u8 (cellX d 7),.int .u8 (cellX d 8),.int .u8 (cellX d 9),.int .u8 (cellX d 10),.int .u8 (cellX d 11),.int .u8 (cellX d 12),.int .u8 (cellX d 13),.int .u8 (cellX d 14),.int .u8 (cellX d 15),.int .u8 (cellX d 16),.int .u8 (cellX d 17),.int .u8 (cellX d 18),.int .u8 (cellX d 19),.int .u8 (cellX d 20),.int .u8 (cellX d 21),.int .u8 (cellX d 22),.int .u8 (cellX d 23),.int .u8 (cellX d 24),.int .u8 (cellX d 25),.int .u8 (cellX d 26),.int .u8 (cellX d 27),.int .u8 (cellX d 28),.int .u8 (cellX d 29),.int .u8 (cellX d 30),.int .u8 (cellX d 31)]:List Value).map vInt = rowL d 32:=rfl
@[simp high] theorem mapV_i8 (d:Rows') (i:Int):([.int .u8 (cellI d i 0),.int .u8 (cellI d i 1),.int .u8 (cellI d i 2),.int .u8 (cellI d i 3),.int .u8 (cellI d i 4),.int .u8 (cellI d i 5),.int .u8 (cellI d i 6),.int .u8 (cellI d i 7),.int .u8 (cellI d i 8),.int .u8 (cellI d i 9),.int .u8 (cellI d i 10),.int .u8 (cellI d i 11),.int .u8 (cellI d i 12),.int .u8 (cellI d i 13),.int .u8 (cellI d i 14),.int .u8 (cellI d i 15),.int .u8 (cellI d i 16),.int .u8 (cellI d i 17),.int .u8 (cellI d i 18),.int .u8 (cellI d i 19),.int .u8 (cellI d i 20),.int .u8 (cellI d i 21),.int .u8 (cellI d i 22),.int .u8 (cellI d i 23),.int .u8 (cellI d i 24),.int .u8 (cellI d i 25),.int .u8 (cellI d i 26),.int .u8 (cellI d i 27),.int .u8 (cellI d i 28),.int .u8 (cellI d i 29),.int .u8 (cellI d i 30),.int .u8 (cellI d i 31)]:List Value).map vInt = rowI8 d i:=rfl
@[simp high] theorem rowL_z8:rowL [[.int .u8 0,.int .u8 0,.int .u8 0,.int .u8 0,.int .u8 0,.int .u8 0,.int .u8 0,.int .u8 0,.int .u8 0,.int .u8 0,.int .u8 0,.int .u8 0,.int .u8 0,.int .u8 0,.int .u8 0,.int .u8 0,.int .u8 0,.int .u8 0,.int .u8 0,.int .u8 0,.int .u8 0,.int .u8 0,.int .u8 0,.int .u8 0,.int .u8 0,.int .u8 0,.int .u8 0,.int .u8 0,.int .u8 0,.int .u8 0,.int .u8 0,.int .u8 0]] 32 = List.replicate 32 0:=rfl
@[simp high] theorem mapV_z8:([.int .u8 0,.int .u8 0,.int .u8 0,.int .u8 0,.int .u8 0,.int .u8 0,.int .u8 0,.int .u8 0,.int .u8 0,.int .u8 0,.int .u8 0,.int .u8 0,.int .u8 0,.int .u8 0,.int .u8 0,.int .u8 0,.int .u8 0,.int .u8 0,.int .u8 0,.int .u8 0,.int .u8 0,.int .u8 0,.int .u8 0,.int .u8 0,.int .u8 0,.int .u8 0,.int .u8 0,.int .u8 0,.int .u8 0,.int .u8 0,.int .u8 0,.int .u8 0]:List Value).map vInt = List.replicate 32 0:=rfl
theorem rowI8_dgs {d:Rows'} {i:Int} (h0:0 ≤ i) (h1:i < d.length):rowI8 d i = (dgs d).getD i.toNat []:=by
 have hl:i.toNat < d.length:=by omega
 have h2:(dgs d).getD i.toNat [] = rowB d[i.toNat]:=by simp [dgs,hl]
 rw [h2]
 refine List.map_congr_left fun k hk=>?_
 simp [cellI,cellV,rowI,hl]
end Go.Proofs

set_option linter.unusedSimpArgs false
set_option linter.unusedVariables false
namespace Go.Eng
open Go

end Go.Eng

set_option linter.unusedSimpArgs false
set_option linter.unusedVariables false
namespace Go.Eng
open Go Go.Proofs
def pieceArg (r:Nat):SV:=.agg [.vint .i64 (.var r),.vslice (r + 1) (.lit 0) (.var (r + 2)) (.var (r + 3)) 1]
def pieceHp (r:Nat):SH:=bHp (r + 1) (r + 4) (r + 5)
def pieceArgIn (ρ:Env) (r:Nat):Prop:=(ρ (r + 2)).i = (ρ (r + 4)).d.length∧(ρ (r + 2)).i ≤ (ρ (r + 3)).i∧(ρ (r + 2)).i ≤ 100000000∧allB (ρ (r + 4)).d
def plenI (k s:Int):Int:=(s + k - 1).tdiv k
def chkE (k n t s l:Int) (D:List (List Int)) (i:Int) (m:List Int):Int:=if manOk k n t s l = false then 2 else if i < 0∨t ≤ i then 2 else if (m.length:Int) ≠ plenI k s then 10 else if sha (pieceIn i ++ m) ≠ D.getD i.toNat [] then 20 else 0
def chkPre (ρ:Env):Prop:=i64P (ρ 0).i∧i64P (ρ 3).i∧(ρ 6).i = (ρ 8).d.length∧dgsOk (ρ 8).d∧pieceArgIn ρ 10
def chkAlts:List Alt:=[{ k:=1,ret:=iv .i64 (.var 18),heap:=[],post:=fun ρ=>(ρ 18).i = chkE (ρ 0).i (ρ 1).i (ρ 2).i (ρ 3).i (ρ 6).i (dgs (ρ 8).d) (ρ 10).i (bI (ρ 14).d) }]
def checkPC:Ctr:={ fn := 60,nv:=18,ip:=[gIp 16],args:=[manV,pieceArg 10],heap:=[],ro:=[dgsHp 5 8 9,pieceHp 10,gHp 16 17],pre:=fun ρ=>chkPre ρ∧gOk ρ 16 17 gR,alts:=chkAlts }
end Go.Eng

set_option linter.unusedSimpArgs false
set_option linter.unusedVariables false
set_option maxRecDepth 100000
namespace Go.Proofs
open Go Go.Eng

@[simp] def o_id_1:Sg:=sg 0 [bv 9 9,bv 8 8,bv 7 7,bv 6 6,bg 5 5,bv 3 3,bv 2 2,bv 1 1,bv 0 0,bt 4 (r8 4)]
def o_id:Out:=(.fresh 12 (.fresh 13 (.pre 0 o_id_1 (.both (.post 0 0 o_id_1 14 (.ret 0 (sg 12 [bt 13 (.lit 2),bt 12 z8]))) (.both (.fresh 14 (.fresh 15 (.fresh 16 (.fresh 17 (.post 0 1 o_id_1 14 (.know (.cmp .leq (.dlen (.var 17)) (.var 16)) (.pre 1 (sg 0 [bv 7 11,bv 5 16,bv 4 17,bv 3 16,bv 2 15,bt 1 (.lit 0),bg 0 14,bg 6 10]) (.both (.fresh 18 (.post 1 0 (sg 0 [bv 7 11,bv 5 16,bv 4 17,bv 3 16,bv 2 15,bt 1 (.lit 0),bg 0 14,bg 6 10]) 18 (.ret 0 (sg 12 [bt 13 (.lit 0),bt 12 (r8 18)])))) .top)))))))) .top)))))
theorem o_id_eq:treeOf ⟨Tryz.prog,idC,[encManC,sha256C],[]⟩ 100000 Tryz.f44 = o_id:=by kernel_rfl
theorem id_of (hd:∀ c ∈ ([encManC,sha256C]:List Ctr),c.ok Tryz.prog) (h:∀ ρ:Env,ρ.good→(idC).pre ρ→o_id.den ⟨Tryz.prog,idC,[encManC,sha256C],[]⟩ ρ):(idC).ok Tryz.prog :=
 ok_of_tree Tryz.func44 (fun a w=>Tryz.call44 a w) hd 100000 (fun ρ hg hp=>by rw [o_id_eq]; exact h ρ hg hp)
end Go.Proofs

set_option linter.unusedSimpArgs false
set_option linter.unusedVariables false
set_option maxRecDepth 100000
namespace Go.Proofs
open Go Go.Eng
theorem log_exp:∀ i:Fin 255,logL.getD (expL.getD i.val 0).toNat 0 = i.val:=by decide +kernel
theorem exp_log:∀ a:Fin 256,a.val ≠ 0→expL.getD (logL.getD a.val 0).toNat 0 = a.val:=by decide +kernel
theorem exp_per:∀ i:Fin 255,expL.getD (i.val + 255) 0 = expL.getD i.val 0:=by decide +kernel
end Go.Proofs

set_option linter.unusedSimpArgs false
set_option linter.unusedVariables false
namespace Go.Proofs
open Go Go.Eng

abbrev F:=BitVec 8
def toF (x:Int):F:=BitVec.ofInt 8 x
def ofF (x:F):Int:=(x.toNat:Nat)
def isB (x:Int):Prop:=0 ≤ x∧x < 256
theorem ofF_isB {x:F}:isB (ofF x):=⟨Int.natCast_nonneg _,by have:=x.isLt; unfold ofF; omega⟩
theorem toF_ofF {x:F}:toF (ofF x) = x:=by
 unfold toF ofF
 apply BitVec.eq_of_toNat_eq
 rw [BitVec.toNat_ofInt]
 have:=x.isLt
 omega
theorem toF_toNat {x:Int} (h:isB x):(toF x).toNat = x.toNat:=by
 obtain ⟨h0,h1⟩:=h
 unfold toF
 rw [BitVec.toNat_ofInt]
 omega
theorem ofF_toF {x:Int} (h:isB x):ofF (toF x) = x:=by
 unfold ofF
 rw [toF_toNat h]
 obtain ⟨h0,h1⟩:=h
 omega
theorem toF_inj {x y:Int} (hx:isB x) (hy:isB y) (h:toF x = toF y):x = y:=by rw [← ofF_toF hx,← ofF_toF hy,h]
theorem toF_zero:toF 0 = 0:=rfl
theorem toF_eq_zero {x:Int} (h:isB x):toF x = 0↔x = 0:=⟨fun e=>toF_inj h ⟨by omega,by omega⟩ e,fun e=>by rw [e]; rfl⟩
theorem xorB_F {x y:Int}:xorB x y = ofF (toF x ^^^ toF y):=by
 have h:(BitVec.ofInt 8 x ^^^ BitVec.ofInt 8 y).toNat < 256:=(BitVec.ofInt 8 x ^^^ BitVec.ofInt 8 y).isLt
 unfold xorB arithOf ofF toF
 show IntKind.u8.wrap _ = _
 have hb:IntKind.u8.bits = 8:=rfl
 rw [hb]
 generalize (BitVec.ofInt 8 x ^^^ BitVec.ofInt 8 y).toNat = z at h ⊢
 simp only [IntKind.wrap,IntKind.bits,IntKind.signed]
 simp
 omega
theorem toF_xorB {x y:Int}:toF (xorB x y) = toF x ^^^ toF y:=by rw [xorB_F,toF_ofF]

def expF (n:Nat):F:=BitVec.ofNat 8 (expL.getD (n % 255) 0).toNat
def logF (x:F):Nat:=(logL.getD x.toNat 0).toNat
def fmul (x y:F):F:=if x = 0∨y = 0 then 0 else expF (logF x + logF y)
def finv (x:F):F:=if x = 0 then 0 else expF (255 - logF x)
theorem expF_mod {n:Nat}:expF (n % 255) = expF n:=by unfold expF; rw [Nat.mod_mod]
theorem expF_congr {n m:Nat} (h:n % 255 = m % 255):expF n = expF m:=by rw [← expF_mod,h,expF_mod]
theorem expF_toNat {n:Nat}:(expF n).toNat = (expL.getD (n % 255) 0).toNat:=by
 have h:=expL_range ⟨n % 255,by omega⟩
 simp only at h
 unfold expF
 rw [BitVec.toNat_ofNat]
 omega
theorem expF_ne {n:Nat}:expF n ≠ 0:=fun h=>by
 have h1:=congrArg BitVec.toNat h
 rw [expF_toNat] at h1
 have h2:=expL_range ⟨n % 255,by omega⟩
 simp only at h2
 rw [show (0:F).toNat = 0 by rfl] at h1
 omega
theorem logF_lt {x:F}:logF x < 255:=by
 have:=logL_range ⟨x.toNat,x.isLt⟩
 simp only at this
 unfold logF
 omega
theorem exp_logF {x:F} (h:x ≠ 0):expF (logF x) = x:=by
 apply BitVec.eq_of_toNat_eq
 have h0:x.toNat ≠ 0:=fun e=>h (BitVec.eq_of_toNat_eq (by rw [e]; rfl))
 have h1:=exp_log ⟨x.toNat,x.isLt⟩ h0
 simp only at h1
 rw [expF_toNat,Nat.mod_eq_of_lt logF_lt,logF,h1]
 omega
theorem log_expF {n:Nat}:logF (expF n) = n % 255:=by
 have h:=log_exp ⟨n % 255,by omega⟩
 simp only at h
 unfold logF
 rw [expF_toNat,h]
 omega
theorem expF_zero:expF 0 = 1:=by decide
theorem fmul_comm {x y:F}:fmul x y = fmul y x:=by
 unfold fmul
 by_cases hx:x = 0
 ·simp [hx]
 ·by_cases hy:y = 0
  ·simp [hy]
  ·rw [if_neg (not_or.2 ⟨hx,hy⟩),if_neg (not_or.2 ⟨hy,hx⟩),Nat.add_comm]
theorem fmul_zero {x:F}:fmul x 0 = 0:=by simp [fmul]
theorem zero_fmul {x:F}:fmul 0 x = 0:=by simp [fmul]
theorem fmul_ne {x y:F} (hx:x ≠ 0) (hy:y ≠ 0):fmul x y = expF (logF x + logF y):=by rw [fmul,if_neg (not_or.2 ⟨hx,hy⟩)]
theorem fmul_ne_zero {x y:F} (hx:x ≠ 0) (hy:y ≠ 0):fmul x y ≠ 0:=by rw [fmul_ne hx hy]; exact expF_ne
theorem fmul_eq_zero {x y:F}:fmul x y = 0↔x = 0∨y = 0:=⟨fun h=>by
 by_cases hx:x = 0
 ·exact .inl hx
 ·by_cases hy:y = 0
  ·exact .inr hy
  ·exact (fmul_ne_zero hx hy h).elim,fun h=>by rcases h with rfl | rfl; exact zero_fmul; exact fmul_zero⟩
theorem fmul_exp {n m:Nat}:fmul (expF n) (expF m) = expF (n + m):=by
 rw [fmul_ne expF_ne expF_ne,log_expF,log_expF]
 exact expF_congr (by omega)
theorem fmul_one {x:F}:fmul x 1 = x:=by
 by_cases h:x = 0
 ·rw [h,zero_fmul]
 ·rw [← expF_zero]; conv=>lhs; arg 1; rw [← exp_logF h]
  rw [fmul_exp,Nat.add_zero,exp_logF h]
theorem one_fmul {x:F}:fmul 1 x = x:=by rw [fmul_comm,fmul_one]
theorem exists_exp {x:F} (h:x ≠ 0):∃ n,n < 255∧x = expF n:=⟨logF x,logF_lt,(exp_logF h).symm⟩
theorem fmul_assoc {x y z:F}:fmul (fmul x y) z = fmul x (fmul y z):=by
 by_cases hx:x = 0
 ·rw [hx,zero_fmul,zero_fmul,zero_fmul]
 by_cases hy:y = 0
 ·rw [hy,fmul_zero,zero_fmul,fmul_zero]
 by_cases hz:z = 0
 ·rw [hz,fmul_zero,fmul_zero,fmul_zero]
 obtain ⟨a,_,rfl⟩:=exists_exp hx
 obtain ⟨b,_,rfl⟩:=exists_exp hy
 obtain ⟨c,_,rfl⟩:=exists_exp hz
 rw [fmul_exp,fmul_exp,fmul_exp,fmul_exp,Nat.add_assoc]
theorem finv_ne {x:F} (h:x ≠ 0):finv x ≠ 0:=by rw [finv,if_neg h]; exact expF_ne
theorem fmul_finv {x:F} (h:x ≠ 0):fmul x (finv x) = 1:=by
 rw [finv,if_neg h]
 conv=>lhs; arg 1; rw [← exp_logF h]
 have:=logF_lt (x:=x)
 rw [fmul_exp,← expF_zero]
 exact expF_congr (by omega)
def xt (x:F):F:=x <<< 1 ^^^ (if x.msb then 29#8 else 0#8)
theorem fmul_two':∀ i:Fin 256,fmul (BitVec.ofFin i) 2 = xt (BitVec.ofFin i):=by decide +kernel
theorem fmul_two {x:F}:fmul x 2 = xt x:=fmul_two' x.toFin
theorem xt_xor {x y:F}:xt (x ^^^ y) = xt x ^^^ xt y:=by
 unfold xt
 rw [BitVec.shiftLeft_xor_distrib,BitVec.msb_xor]
 have h1:∀ a b c:F,a ^^^ b ^^^ c = a ^^^ c ^^^ b:=fun a b c=>by rw [BitVec.xor_assoc,BitVec.xor_comm b c,← BitVec.xor_assoc]
 cases x.msb <;> cases y.msb
 ·simp
 ·simp [BitVec.xor_assoc]
 ·simp [h1 (x <<< 1) (29#8) (y <<< 1)]
 ·simp only [bne_self_eq_false,Bool.false_eq_true,if_true,if_false,BitVec.xor_zero]
  rw [h1 (x <<< 1) (29#8),BitVec.xor_assoc (x <<< 1),BitVec.xor_assoc (y <<< 1),BitVec.xor_self,BitVec.xor_zero]
theorem fmul_xor_exp {x y:F}:∀ n:Nat,fmul (x ^^^ y) (expF n) = fmul x (expF n) ^^^ fmul y (expF n)
 | 0=>by rw [expF_zero,fmul_one,fmul_one,fmul_one]
 | n + 1=>by
  have he:expF (n + 1) = fmul (expF n) 2:=by
   have:(2:F) = expF 1:=by decide
   rw [this,fmul_exp]
  rw [he,← fmul_assoc,← fmul_assoc,← fmul_assoc,fmul_xor_exp n,fmul_two,fmul_two,fmul_two,xt_xor]
theorem fmul_xor {x y z:F}:fmul (x ^^^ y) z = fmul x z ^^^ fmul y z:=by
 by_cases hz:z = 0
 ·rw [hz,fmul_zero,fmul_zero,fmul_zero]; rfl
 ·obtain ⟨n,_,rfl⟩:=exists_exp hz
  exact fmul_xor_exp n
theorem xor_fmul {x y z:F}:fmul z (x ^^^ y) = fmul z x ^^^ fmul z y:=by rw [fmul_comm,fmul_xor,fmul_comm,fmul_comm (x:=y)]

theorem expT_F {i:Nat} (h:i < 510):expT i = ofF (expF i):=by
 rw [expT_eq h,ofF,expF_toNat]
 by_cases hi:i < 255
 ·rw [Nat.mod_eq_of_lt hi]
  have:=expL_range ⟨i,h⟩
  simp only at this
  omega
 ·have h1:=exp_per ⟨i - 255,by omega⟩
  have h2:=expL_range ⟨i,h⟩
  simp only at h1 h2
  rw [show i - 255 + 255 = i by omega] at h1
  rw [show i % 255 = i - 255 by omega,← h1]
  omega
theorem logT_F {a:Int} (h:isB a):logT a.toNat = (logF (toF a):Nat):=by
 obtain ⟨h0,h1⟩:=h
 rw [logT_eq (by omega),logF,toF_toNat ⟨h0,h1⟩]
 have:=logL_range ⟨a.toNat,by omega⟩
 simp only at this
 omega
theorem mulF_F {a b:Int} (ha:isB a) (hb:isB b):mulF a b = ofF (fmul (toF a) (toF b)):=by
 unfold mulF fmul
 simp only [toF_eq_zero ha,toF_eq_zero hb]
 split
 ·rfl
 ·have h1:=logF_lt (x:=toF a)
  have h2:=logF_lt (x:=toF b)
  rw [logT_F ha,logT_F hb,expT_F (by omega)]
  congr 2
theorem invF_F {a:Int} (ha:isB a):invF a = ofF (finv (toF a)):=by
 unfold invF finv
 simp only [toF_eq_zero ha]
 split
 ·rfl
 ·have h1:=logF_lt (x:=toF a)
  rw [logT_F ha,expT_F (by omega)]
  congr 2
  omega
theorem mulF_isB {a b:Int} (ha:isB a) (hb:isB b):isB (mulF a b):=by rw [mulF_F ha hb]; exact ofF_isB
theorem toF_mulF {a b:Int} (ha:isB a) (hb:isB b):toF (mulF a b) = fmul (toF a) (toF b):=by rw [mulF_F ha hb,toF_ofF]
theorem invF_isB {a:Int} (ha:isB a):isB (invF a):=by rw [invF_F ha]; exact ofF_isB
theorem toF_invF {a:Int} (ha:isB a):toF (invF a) = finv (toF a):=by rw [invF_F ha,toF_ofF]
theorem xorB_isB {a b:Int}:isB (xorB a b):=by rw [xorB_F]; exact ofF_isB
def fpow (x:F):Nat→F
 | 0=>1
 | n + 1=>fmul (fpow x n) x
theorem fpow_exp {n:Nat}:∀ m,fpow (expF n) m = expF (n * m)
 | 0=>by rw [Nat.mul_zero]; exact expF_zero.symm
 | m + 1=>by rw [fpow,fpow_exp m,fmul_exp,Nat.mul_succ]
theorem fpow_zero' {m:Nat} (h:0 < m):fpow 0 m = 0:=by
 cases m with
 | zero=>omega
 | succ m=>rw [fpow,fmul_zero]
theorem powF_F {a e:Int} (ha:isB a) (he:e < 9223372036854775808):powF a e = ofF (fpow (toF a) e.toNat):=by
 unfold powF
 by_cases h0:e ≤ 0
 ·rw [if_pos h0,show e.toNat = 0 by omega]; rfl
 rw [if_neg h0]
 by_cases h1:a = 0
 ·rw [if_pos h1,h1,toF_zero,fpow_zero' (by omega)]; rfl
 rw [if_neg h1]
 have hx:toF a ≠ 0:=fun h=>h1 ((toF_eq_zero ha).1 h)
 have hl:=logF_lt (x:=toF a)
 rw [logT_F ha]
 have e1:e.tmod 255 = ((e.toNat % 255:Nat):Int):=by
  rw [Int.tmod_eq_emod_of_nonneg (by omega)]; omega
 rw [e1,← Int.natCast_mul,Int.tmod_eq_emod_of_nonneg (by omega),expT_F (by omega)]
 congr 1
 conv=>rhs; rw [← exp_logF hx,fpow_exp]
 refine expF_congr ?_
 have:((logF (toF a) * (e.toNat % 255):Nat):Int) % 255 = ((logF (toF a) * (e.toNat % 255) % 255:Nat):Int):=by omega
 rw [this,Int.toNat_natCast,Nat.mod_mod,Nat.mul_mod,Nat.mod_mod,← Nat.mul_mod]
theorem powF_isB {a e:Int} (ha:isB a) (he:e < 9223372036854775808):isB (powF a e):=by rw [powF_F ha he]; exact ofF_isB
end Go.Proofs

set_option linter.unusedSimpArgs false
set_option linter.unusedVariables false
namespace Go.Proofs
open Go Go.Eng

theorem xor_left_comm (a b c:F):a ^^^ (b ^^^ c) = b ^^^ (a ^^^ c):=by rw [← BitVec.xor_assoc,BitVec.xor_comm a b,BitVec.xor_assoc]
theorem xor_swap (a b c d:F):(a ^^^ b) ^^^ (c ^^^ d) = (a ^^^ c) ^^^ (b ^^^ d):=by rw [BitVec.xor_assoc,BitVec.xor_assoc,xor_left_comm b c d]
theorem xor_eq_zero {a b:F}:a ^^^ b = 0↔a = b:=⟨fun h=>by
 have:a ^^^ b ^^^ b = b:=by rw [h]; simp
 rwa [BitVec.xor_assoc,BitVec.xor_self,BitVec.xor_zero] at this,fun h=>by rw [h]; exact BitVec.xor_self⟩
theorem xor_zero' {a:F}:a ^^^ 0 = a:=BitVec.xor_zero
theorem zero_xor' {a:F}:0 ^^^ a = a:=BitVec.zero_xor
theorem xor_self' {a:F}:a ^^^ a = 0:=BitVec.xor_self
theorem xor_cancelF {a b:F}:a ^^^ b ^^^ b = a:=by rw [BitVec.xor_assoc,BitVec.xor_self,BitVec.xor_zero]
def fsum (f:Nat→F):Nat→F
 | 0=>0
 | n + 1=>fsum f n ^^^ f n
theorem fsum_congr {f g:Nat→F} {n:Nat} (h:∀ i,i < n→f i = g i):fsum f n = fsum g n:=by
 induction n with
 | zero=>rfl
 | succ n ih=>rw [fsum,fsum,ih fun i hi=>h i (by omega),h n (by omega)]
theorem fsum_zero {f:Nat→F} {n:Nat} (h:∀ i,i < n→f i = 0):fsum f n = 0:=by
 induction n with
 | zero=>rfl
 | succ n ih=>rw [fsum,ih fun i hi=>h i (by omega),h n (by omega),xor_zero']
theorem fsum_xor {f g:Nat→F} {n:Nat}:fsum (fun i=>f i ^^^ g i) n = fsum f n ^^^ fsum g n:=by
 induction n with
 | zero=>exact xor_zero'.symm
 | succ n ih=>rw [fsum,fsum,fsum,ih,xor_swap]
theorem fsum_mul {f:Nat→F} {c:F} {n:Nat}:fsum (fun i=>fmul c (f i)) n = fmul c (fsum f n):=by
 induction n with
 | zero=>exact fmul_zero.symm
 | succ n ih=>rw [fsum,fsum,ih,xor_fmul]
theorem fsum_mul' {f:Nat→F} {c:F} {n:Nat}:fsum (fun i=>fmul (f i) c) n = fmul (fsum f n) c:=by
 rw [fmul_comm,← fsum_mul]
 exact fsum_congr fun i _=>fmul_comm
theorem fsum_one {f:Nat→F} {n k:Nat} (hk:k < n) (h:∀ i,i < n→i ≠ k→f i = 0):fsum f n = f k:=by
 induction n with
 | zero=>omega
 | succ n ih =>
  rw [fsum]
  by_cases hkn:k = n
  ·rw [fsum_zero fun i hi=>h i (by omega) (by omega),hkn,zero_xor']
  ·rw [ih (by omega) fun i hi=>h i (by omega),h n (by omega) (by omega),xor_zero']
theorem fsum_swap {f:Nat→Nat→F} {n m:Nat}:fsum (fun i=>fsum (fun j=>f i j) m) n = fsum (fun j=>fsum (fun i=>f i j) n) m:=by
 induction n with
 | zero=>exact (fsum_zero fun _ _=>rfl).symm
 | succ n ih =>
  rw [fsum,ih,← fsum_xor]
  rfl
def del (i j:Nat):F:=if i = j then 1 else 0
theorem fsum_del {f:Nat→F} {n k:Nat} (hk:k < n):fsum (fun i=>fmul (del i k) (f i)) n = f k:=by
 rw [fsum_one hk fun i hi hik=>by rw [del,if_neg hik,zero_fmul],del,if_pos rfl,one_fmul]
theorem fsum_del' {f:Nat→F} {n k:Nat} (hk:k < n):fsum (fun i=>fmul (f i) (del i k)) n = f k:=by
 rw [fsum_one hk fun i hi hik=>by rw [del,if_neg hik,fmul_zero],del,if_pos rfl,fmul_one]

abbrev Mat:=Nat→Nat→F
def spans (r w:Nat) (T:Mat) (v:Nat→F):Prop:=∃ x:Nat→F,∀ j,j < w→v j = fsum (fun i=>fmul (x i) (T i j)) r
theorem spans_row {r w:Nat} {T:Mat} {i:Nat} (hi:i < r):spans r w T (T i):=⟨fun a=>del a i,fun j _=>(fsum_del (f:=fun a=>T a j) hi).symm⟩
theorem spans_congr {r w:Nat} {T:Mat} {v v':Nat→F} (h:spans r w T v) (he:∀ j,j < w→v' j = v j):spans r w T v':=by
 obtain ⟨x,hx⟩:=h
 exact ⟨x,fun j hj=>by rw [he j hj,hx j hj]⟩
theorem spans_xor {r w:Nat} {T:Mat} {v v':Nat→F} (h:spans r w T v) (h':spans r w T v'):spans r w T (fun j=>v j ^^^ v' j):=by
 obtain ⟨x,hx⟩:=h
 obtain ⟨y,hy⟩:=h'
 refine ⟨fun i=>x i ^^^ y i,fun j hj=>?_⟩
 show v j ^^^ v' j = _
 rw [hx j hj,hy j hj,← fsum_xor]
 exact fsum_congr fun i _=>fmul_xor.symm
theorem spans_mul {r w:Nat} {T:Mat} {v:Nat→F} {c:F} (h:spans r w T v):spans r w T (fun j=>fmul c (v j)):=by
 obtain ⟨x,hx⟩:=h
 refine ⟨fun i=>fmul c (x i),fun j hj=>?_⟩
 show fmul c (v j) = _
 rw [hx j hj,← fsum_mul]
 exact fsum_congr fun i _=>fmul_assoc.symm
theorem spans_trans {r w:Nat} {T T':Mat} {v:Nat→F} (h:spans r w T' v) (hr:∀ i,i < r→spans r w T (T' i)):spans r w T v:=by
 obtain ⟨x,hx⟩:=h
 let y:Nat→Nat→F:=fun i=>if h:i < r then (hr i h).choose else fun _=>0
 have hy:∀ i,i < r→∀ j,j < w→T' i j = fsum (fun a=>fmul (y i a) (T a j)) r:=fun i hi j hj=>by
  simp only [y,dif_pos hi]
  exact (hr i hi).choose_spec j hj
 refine ⟨fun a=>fsum (fun i=>fmul (x i) (y i a)) r,fun j hj=>?_⟩
 rw [hx j hj,fsum_congr fun i hi=>by rw [hy i hi j hj,← fsum_mul],fsum_swap]
 refine fsum_congr fun a _=>?_
 rw [← fsum_mul']
 exact fsum_congr fun i _=>fmul_assoc.symm
structure Same (r w:Nat) (T T':Mat):Prop where
 to:∀ i,i < r→spans r w T (T' i)
 back:∀ i,i < r→spans r w T' (T i)
theorem Same.refl {r w:Nat} {T:Mat}:Same r w T T:=⟨fun i hi=>spans_row hi,fun i hi=>spans_row hi⟩
theorem Same.trans {r w:Nat} {T T' T'':Mat} (h:Same r w T T') (h':Same r w T' T''):Same r w T T'' :=
 ⟨fun i hi=>spans_trans (h'.to i hi) h.to,fun i hi=>spans_trans (h.back i hi) h'.back⟩
theorem Same.symm {r w:Nat} {T T':Mat} (h:Same r w T T'):Same r w T' T:=⟨h.back,h.to⟩
theorem Same.spans {r w:Nat} {T T':Mat} (h:Same r w T T') {v:Nat→F}:spans r w T v↔Go.Proofs.spans r w T' v:=⟨fun hv=>spans_trans hv h.back,fun hv=>spans_trans hv h.to⟩
theorem same_add {r w:Nat} {T T':Mat} {i p:Nat} {g:F} (hi:i < r) (hp:p < r) (hip:i ≠ p) (h1:∀ j,j < w→T' i j = T i j ^^^ fmul g (T p j)) (h2:∀ a,a < r→a ≠ i→∀ j,j < w→T' a j = T a j):Same r w T T':=by
 refine ⟨fun a ha=>?_,fun a ha=>?_⟩
 ·by_cases hai:a = i
  ·subst hai
   exact spans_congr (spans_xor (spans_row ha) (spans_mul (c:=g) (spans_row hp))) h1
  ·exact spans_congr (spans_row ha) (h2 a ha hai)
 ·by_cases hai:a = i
  ·subst hai
   refine spans_congr (spans_xor (spans_row ha) (spans_mul (c:=g) (spans_row hp))) fun j hj=>?_
   rw [h1 j hj,h2 p hp (Ne.symm hip) j hj,xor_cancelF]
  ·exact spans_congr (spans_row ha) fun j hj=>(h2 a ha hai j hj).symm
theorem same_mul {r w:Nat} {T T':Mat} {i:Nat} {g:F} (hi:i < r) (hg:g ≠ 0) (h1:∀ j,j < w→T' i j = fmul (T i j) g) (h2:∀ a,a < r→a ≠ i→∀ j,j < w→T' a j = T a j):Same r w T T':=by
 refine ⟨fun a ha=>?_,fun a ha=>?_⟩
 ·by_cases hai:a = i
  ·subst hai
   exact spans_congr (spans_mul (c:=g) (spans_row ha)) fun j hj=>by rw [h1 j hj,fmul_comm]
  ·exact spans_congr (spans_row ha) (h2 a ha hai)
 ·by_cases hai:a = i
  ·subst hai
   refine spans_congr (spans_mul (c:=finv g) (spans_row ha)) fun j hj=>?_
   rw [h1 j hj,fmul_comm,fmul_assoc,fmul_finv hg,fmul_one]
  ·exact spans_congr (spans_row ha) fun j hj=>(h2 a ha hai j hj).symm
def lead (r w:Nat) (T:Mat) (c:Nat):Prop:=∃ v,spans r w T v∧(∀ j,j < c→v j = 0)∧v c ≠ 0
open Classical in
noncomputable def cnt (r w:Nat) (T:Mat):Nat→Nat
 | 0=>0
 | c + 1=>cnt r w T c + if lead r w T c then 1 else 0
theorem Same.lead {r w:Nat} {T T':Mat} (h:Same r w T T') {c:Nat}:lead r w T c↔Go.Proofs.lead r w T' c:=by
 unfold Go.Proofs.lead
 simp only [h.spans]
theorem cnt_le {r w:Nat} {T:Mat}:∀ c,cnt r w T c ≤ c
 | 0=>Nat.le_refl _
 | c + 1=>by
  have:=cnt_le (r:=r) (w:=w) (T:=T) c
  unfold cnt; split <;> omega
theorem cnt_mono {r w:Nat} {T:Mat} {c:Nat}:∀ d,cnt r w T c ≤ cnt r w T (c + d)
 | 0=>Nat.le_refl _
 | d + 1=>by
  have:=cnt_mono (r:=r) (w:=w) (T:=T) (c:=c) d
  rw [← Nat.add_assoc]
  conv=>rhs; unfold cnt
  omega
theorem cnt_lead {r w:Nat} {T:Mat} {c:Nat} (h:lead r w T c):cnt r w T (c + 1) = cnt r w T c + 1:=by rw [cnt,if_pos h]
theorem cnt_not {r w:Nat} {T:Mat} {c:Nat} (h:¬ lead r w T c):cnt r w T (c + 1) = cnt r w T c:=by rw [cnt,if_neg h]; rfl
theorem cnt_lt {r w:Nat} {T:Mat} {c c':Nat} (h:lead r w T c) (hlt:c < c'):cnt r w T c < cnt r w T c':=by
 have:=cnt_mono (r:=r) (w:=w) (T:=T) (c:=c + 1) (c' - (c + 1))
 rw [show c + 1 + (c' - (c + 1)) = c' by omega,cnt_lead h] at this
 omega
theorem cnt_inj {r w:Nat} {T:Mat} {c c':Nat} (h:lead r w T c) (h':lead r w T c') (he:cnt r w T c = cnt r w T c'):c = c':=by
 rcases Nat.lt_trichotomy c c' with h1 | h1 | h1
 ·have:=cnt_lt h h1; omega
 ·exact h1
 ·have:=cnt_lt h' h1; omega
theorem cnt_onto {r w:Nat} {T:Mat}:∀ {c i:Nat},i < cnt r w T c→∃ c',c' < c∧lead r w T c'∧cnt r w T c' = i
 | 0,i,h=>by simp [cnt] at h
 | c + 1,i,h=>by
  by_cases hl:lead r w T c
  ·rw [cnt_lead hl] at h
   by_cases hi:i = cnt r w T c
   ·exact ⟨c,by omega,hl,hi.symm⟩
   ·obtain ⟨c',h1,h2,h3⟩:=cnt_onto (r:=r) (w:=w) (T:=T) (c:=c) (i:=i) (by omega)
    exact ⟨c',by omega,h2,h3⟩
  ·rw [cnt_not hl] at h
   obtain ⟨c',h1,h2,h3⟩:=cnt_onto (c:=c) h
   exact ⟨c',by omega,h2,h3⟩
structure Ech (r w:Nat) (T0 T:Mat) (c rank:Nat):Prop where
 same:Same r w T0 T
 num:rank = cnt r w T0 c
 le:rank ≤ r
 col:∀ c',c' < c→lead r w T0 c'→∀ i,i < r→T i c' = del i (cnt r w T0 c')
 low:∀ i,rank ≤ i→i < r→∀ c',c' < c→T i c' = 0
theorem ech_start {r w:Nat} {T:Mat}:Ech r w T T 0 0:=⟨Same.refl,rfl,Nat.zero_le _,fun c' h=>by omega,fun i _ _ c' h=>by omega⟩
theorem ech_low {r w:Nat} {T0 T:Mat} {c rank:Nat} (h:Ech r w T0 T c rank) (hc:c ≤ w) {v:Nat→F} (hv:spans r w T0 v) (h0:∀ j,j < c→v j = 0) :
  ∃ x:Nat→F,(∀ i,i < rank→x i = 0)∧∀ j,j < w→v j = fsum (fun i=>fmul (x i) (T i j)) r:=by
 obtain ⟨x,hx⟩:=h.same.spans.1 hv
 refine ⟨x,fun i hi=>?_,hx⟩
 rw [h.num] at hi
 obtain ⟨c',h1,h2,h3⟩:=cnt_onto hi
 have hle:=h.le
 have h4:=hx c' (by omega)
 rw [h0 c' h1,fsum_congr fun a ha=>by rw [h.col c' h1 h2 a ha,h3]] at h4
 rw [fsum_del' (f:=x) (by have:=h.num; omega)] at h4
 exact h4.symm
theorem ech_skip {r w:Nat} {T0 T:Mat} {c rank:Nat} (h:Ech r w T0 T c rank) (hc:c < w) (hz:∀ i,rank ≤ i→i < r→T i c = 0):Ech r w T0 T (c + 1) rank:=by
 have hn:¬ lead r w T0 c:=fun ⟨v,h1,h2,h3⟩=>by
  obtain ⟨x,hx,he⟩:=ech_low h (by omega) h1 h2
  apply h3
  rw [he c hc]
  refine fsum_zero fun i hi=>?_
  by_cases hir:i < rank
  ·rw [hx i hir,zero_fmul]
  ·rw [hz i (by omega) hi,fmul_zero]
 refine ⟨h.same,by rw [cnt_not hn]; exact h.num,h.le,fun c' hc' hl i hi=>?_,fun i h1 h2 c' hc'=>?_⟩
 ·by_cases he:c' = c
  ·rw [he] at hl; exact (hn hl).elim
  ·exact h.col c' (by omega) hl i hi
 ·by_cases he:c' = c
  ·rw [he]; exact hz i h1 h2
  ·exact h.low i h1 h2 c' (by omega)
theorem ech_step {r w:Nat} {T0 T T':Mat} {c rank:Nat} (h:Ech r w T0 T c rank) (hc:c < w) (hr:rank < r) (hs:Same r w T T') (hcol:∀ i,i < r→T' i c = del i rank)
  (hold:∀ c',c' < c→∀ i,i < r→T' i c' = T i c'):Ech r w T0 T' (c + 1) (rank + 1):=by
 have hl:lead r w T0 c:=by
  refine ⟨T' rank,(h.same.trans hs).spans.2 (spans_row hr),fun j hj=>?_,?_⟩
  ·rw [hold j hj rank hr]; exact h.low rank (Nat.le_refl _) hr j hj
  ·rw [hcol rank hr,del,if_pos rfl]; decide
 refine ⟨h.same.trans hs,by rw [cnt_lead hl,← h.num],hr,fun c' hc' hl' i hi=>?_,fun i h1 h2 c' hc'=>?_⟩
 ·by_cases he:c' = c
  ·rw [he,hcol i hi,h.num]
  ·rw [hold c' (by omega) i hi]; exact h.col c' (by omega) hl' i hi
 ·by_cases he:c' = c
  ·rw [he,hcol i h2,del,if_neg (by omega)]
  ·rw [hold c' (by omega) i h2]; exact h.low i (by omega) h2 c' (by omega)
theorem cnt_full {r w:Nat} {T:Mat}:∀ {n:Nat},cnt r w T n = n→∀ c,c < n→lead r w T c∧cnt r w T c = c
 | 0,_,c,h=>by omega
 | n + 1,he,c,h=>by
  by_cases hl:lead r w T n
  ·rw [cnt_lead hl] at he
   by_cases hc:c = n
   ·exact ⟨by rw [hc]; exact hl,by rw [hc]; omega⟩
   ·exact cnt_full (n:=n) (by omega) c (by omega)
  ·rw [cnt_not hl] at he
   have:=cnt_le (r:=r) (w:=w) (T:=T) n
   omega
theorem ech_full {r w:Nat} {T0 T:Mat} {n:Nat} (h:Ech r w T0 T n n):∀ i,i < r→∀ c,c < n→T i c = del i c:=fun i hi c hc=>by
 obtain ⟨h1,h2⟩:=cnt_full h.num.symm c hc
 rw [h.col c hc h1 i hi,h2]
theorem ech_null {r w:Nat} {T0 T:Mat} {n rank:Nat} (h:Ech r w T0 T n rank) (hn:n ≤ w) (hlt:rank < n):∃ y:Nat→F,(∃ c,c < n∧y c ≠ 0)∧∀ i,i < r→fsum (fun j=>fmul (T0 i j) (y j)) n = 0:=by
 have hex:∃ c,c < n∧¬ lead r w T0 c:=by
  refine Classical.byContradiction fun hno=>?_
  have hall:∀ c,c < n→lead r w T0 c:=fun c hc=>Classical.byContradiction fun hl=>hno ⟨c,hc,hl⟩
  have:∀ c,c ≤ n→cnt r w T0 c = c:=fun c=>by
   induction c with
   | zero=>intro _; rfl
   | succ c ih=>intro hc; rw [cnt_lead (hall c (by omega)),ih (by omega)]
  have:=this n (Nat.le_refl _)
  have:=h.num
  omega
 obtain ⟨c,hc,hnl⟩:=hex
 let y:Nat→F:=fun j=>open Classical in if j = c then 1 else if lead r w T0 j then T (cnt r w T0 j) c else 0
 have hyc:y c = 1:=by simp [y]
 have hT:∀ i,i < r→fsum (fun j=>fmul (T i j) (y j)) n = 0:=fun i hi=>by
  have hsplit:fsum (fun j=>fmul (T i j) (y j)) n = fsum (fun j=>fmul (if j = c then T i c else 0) 1) n ^^^ fsum (fun j=>open Classical in if j ≠ c∧lead r w T0 j then fmul (del i (cnt r w T0 j)) (T (cnt r w T0 j) c) else 0) n:=by
   rw [← fsum_xor]
   refine fsum_congr fun j hj=>?_
   by_cases hjc:j = c
   ·subst hjc
    simp only [hyc,fmul_one,if_true,ne_eq,not_true,false_and,if_false,xor_zero']
   ·simp only [if_neg hjc,zero_fmul,zero_xor']
    by_cases hl:lead r w T0 j
    ·rw [if_pos ⟨hjc,hl⟩,h.col j hj hl i hi]; simp only [y,if_neg hjc,if_pos hl]
    ·rw [if_neg fun hh=>hl hh.2]; simp only [y,if_neg hjc,if_neg hl,fmul_zero]
  rw [hsplit,fsum_one hc fun j _ hj=>by rw [if_neg hj,zero_fmul],if_pos rfl,fmul_one]
  by_cases hir:i < rank
  ·rw [h.num] at hir
   obtain ⟨c',h1,h2,h3⟩:=cnt_onto hir
   have hcc:c' ≠ c:=fun e=>hnl (e ▸ h2)
   rw [fsum_one (k:=c') h1 fun j hj hjc=>?_,if_pos ⟨hcc,h2⟩,h3,del,if_pos rfl,one_fmul,xor_self']
   split
   ·rename_i hh
    rw [del,if_neg,zero_fmul]
    intro e
    exact hjc (cnt_inj hh.2 h2 (by rw [h3,e]))
   ·rfl
  ·rw [h.low i (by omega) hi c hc,zero_xor']
   refine fsum_zero fun j hj=>?_
   split
   ·rename_i hh
    rw [del,if_neg,zero_fmul]
    have:=cnt_lt hh.2 hj
    have:=h.num
    omega
   ·rfl
 refine ⟨y,⟨c,hc,by rw [hyc]; decide⟩,fun i hi=>?_⟩
 obtain ⟨x,hx⟩:=h.same.back i hi
 rw [fsum_congr fun j hj=>by rw [hx j (by omega),← fsum_mul'],fsum_swap]
 refine fsum_zero fun a ha=>?_
 rw [fsum_congr (g:=fun j=>fmul (x a) (fmul (T a j) (y j))) fun j _=>fmul_assoc,fsum_mul,hT a ha,fmul_zero]
end Go.Proofs

set_option linter.unusedSimpArgs false
set_option linter.unusedVariables false
namespace Go.Proofs
open Go Go.Eng

def hornF (x:F):List F→F
 | []=>0
 | c :: l=>fmul (hornF x l) x ^^^ c
theorem horn_nil {x:F}:hornF x [] = 0:=rfl
theorem horn_one {x c:F}:hornF x [c] = c:=by rw [hornF,horn_nil,zero_fmul,zero_xor']
def divL (r:F):List F→List F
 | []=>[]
 | [_]=>[]
 | _ :: c' :: l=>hornF r (c' :: l) :: divL r (c' :: l)
theorem divL_len {r:F}:∀ {l:List F},(divL r l).length = l.length - 1
 | []=>rfl
 | [_]=>rfl
 | _ :: c' :: l=>by simp only [divL,List.length_cons,divL_len (l:=c' :: l)]; omega
theorem horn_div {x r:F}:∀ {l:List F},hornF x l ^^^ hornF r l = fmul (x ^^^ r) (hornF x (divL r l))
 | []=>by rw [divL,horn_nil,horn_nil,xor_self',fmul_zero]
 | [c]=>by rw [divL,horn_one,horn_one,horn_nil,xor_self',fmul_zero]
 | c :: c' :: l=>by
  have ih:=horn_div (x:=x) (r:=r) (l:=c' :: l)
  rw [divL,show hornF x (c :: c' :: l) = fmul (hornF x (c' :: l)) x ^^^ c from rfl,show hornF r (c :: c' :: l) = fmul (hornF r (c' :: l)) r ^^^ c from rfl]
  conv=>rhs; rw [hornF]
  have h1:∀ a b d:F,a ^^^ b = fmul (x ^^^ r) d→fmul a x ^^^ c ^^^ (fmul b r ^^^ c) = fmul (x ^^^ r) (fmul d x ^^^ b):=fun a b d h=>by
   rw [xor_swap,xor_self',xor_zero',xor_fmul (z:=x ^^^ r),← fmul_assoc,← h,fmul_xor,fmul_comm (x:=x ^^^ r),xor_fmul,← BitVec.xor_assoc,xor_cancelF]
  exact h1 _ _ _ ih
theorem div_zero {r:F}:∀ {l:List F} {c:F},(∀ y ∈ divL r (c :: l),y = 0)→∀ y ∈ l,y = 0
 | [],_,_=>by simp
 | c' :: l,c,h=>by
  simp only [divL,List.mem_cons,forall_eq_or_imp] at h
  have ht:=div_zero (l:=l) (c:=c') h.2
  have hh:hornF r l = 0:=by
   clear h
   induction l with
   | nil=>rfl
   | cons a l ih=>rw [hornF,ih fun y hy=>ht y (List.mem_cons_of_mem _ hy),zero_fmul,ht a (List.mem_cons_self ..),xor_zero']
  have h1:=h.1
  rw [hornF,hh,zero_fmul,zero_xor'] at h1
  intro y hy
  rcases List.mem_cons.1 hy with rfl | hy
  ·exact h1
  ·exact ht y hy
theorem horn_zero {x:F}:∀ {l:List F},(∀ y ∈ l,y = 0)→hornF x l = 0
 | [],_=>rfl
 | a :: l,h=>by rw [hornF,horn_zero fun y hy=>h y (List.mem_cons_of_mem _ hy),zero_fmul,h a (List.mem_cons_self ..),xor_zero']
def distinct (n:Nat) (xs:Nat→F):Prop:=∀ i j,i < n→j < n→xs i = xs j→i = j
theorem roots_zero {xs:Nat→F}:∀ {n:Nat} {l:List F},l.length ≤ n→distinct n xs→(∀ i,i < n→hornF (xs i) l = 0)→∀ y ∈ l,y = 0
 | 0,l,hl,_,_=>by
  have:l = []:=List.eq_nil_of_length_eq_zero (by omega)
  rw [this]; simp
 | n + 1,[],_,_,_=>by simp
 | n + 1,c :: t,hl,hd,hr=>by
  simp only [List.length_cons] at hl
  have hq:=roots_zero (n:=n) (l:=divL (xs n) (c :: t)) (by rw [divL_len,List.length_cons]; omega) (fun i j hi hj=>hd i j (by omega) (by omega)) fun i hi=>by
   have h:=horn_div (x:=xs i) (r:=xs n) (l:=c :: t)
   rw [hr i (by omega),hr n (by omega),xor_self'] at h
   rcases fmul_eq_zero.1 h.symm with h1 | h1
   ·have:=hd i n (by omega) (by omega) (xor_eq_zero.1 h1); omega
   ·exact h1
  have ht:=div_zero hq
  have h1:=hr n (by omega)
  rw [hornF,horn_zero ht,zero_fmul,zero_xor'] at h1
  intro y hy
  rcases List.mem_cons.1 hy with rfl | hy
  ·exact h1
  ·exact ht y hy
def pval (n:Nat) (y:Nat→F) (x:F):F:=fsum (fun j=>fmul (y j) (fpow x j)) n
theorem horn_snoc {x c:F}:∀ {l:List F},hornF x (l ++ [c]) = hornF x l ^^^ fmul c (fpow x l.length)
 | []=>by rw [List.nil_append,horn_one,horn_nil,zero_xor',List.length_nil,fpow,fmul_one]
 | a :: l=>by
  rw [List.cons_append,hornF,horn_snoc (l:=l),hornF,fmul_xor,List.length_cons,fpow,BitVec.xor_assoc,BitVec.xor_assoc,fmul_assoc,BitVec.xor_comm a]
theorem horn_pval {y:Nat→F} {x:F}:∀ n,hornF x ((List.range n).map y) = pval n y x
 | 0=>rfl
 | n + 1=>by
  rw [List.range_succ,List.map_append,List.map_cons,List.map_nil,horn_snoc,horn_pval n]
  simp [pval,fsum]
theorem pval_roots {n:Nat} {y:Nat→F} {xs:Nat→F} (hd:distinct n xs) (h:∀ i,i < n→pval n y (xs i) = 0):∀ j,j < n→y j = 0:=fun j hj=>by
 have:=roots_zero (l:=(List.range n).map y) (by simp) hd (fun i hi=>by rw [horn_pval]; exact h i hi) (y j)
 exact this (List.mem_map.2 ⟨j,List.mem_range.2 hj,rfl⟩)
theorem horn_getD {x:F} {l:List F} {n:Nat} (hl:l.length ≤ n):hornF x l = pval n (fun j=>l.getD j 0) x:=by
 have h1:∀ m,pval (l.length + m) (fun j=>l.getD j 0) x = pval l.length (fun j=>l.getD j 0) x:=fun m=>by
  induction m with
  | zero=>rfl
  | succ m ih =>
   rw [← Nat.add_assoc,pval,fsum]
   rw [show fsum (fun j=>fmul (l.getD j 0) (fpow x j)) (l.length + m) = pval (l.length + m) (fun j=>l.getD j 0) x from rfl,ih]
   rw [show l.getD (l.length + m) 0 = 0 by rw [List.getD_eq_getElem?_getD,List.getElem?_eq_none (by omega)]; rfl,zero_fmul,xor_zero']
 rw [show n = l.length + (n - l.length) by omega,h1,← horn_pval]
 congr 1
 apply List.ext_getElem?
 intro j
 by_cases hj:j < l.length
 ·simp [List.getElem?_range hj,List.getD_eq_getElem?_getD,List.getElem?_eq_getElem hj]
 ·simp [hj]

def fprod (f:Nat→F):Nat→F
 | 0=>1
 | n + 1=>fmul (fprod f n) (f n)
theorem fprod_ne {f:Nat→F} {n:Nat} (h:∀ i,i < n→f i ≠ 0):fprod f n ≠ 0:=by
 induction n with
 | zero=>exact (by decide:(1:F) ≠ 0)
 | succ n ih=>exact fmul_ne_zero (ih fun i hi=>h i (by omega)) (h n (by omega))
theorem fprod_zero {f:Nat→F} {n k:Nat} (hk:k < n) (h:f k = 0):fprod f n = 0:=by
 induction n with
 | zero=>omega
 | succ n ih =>
  rw [fprod]
  by_cases hkn:k = n
  ·rw [← hkn,h,fmul_zero]
  ·rw [ih (by omega),zero_fmul]
def byGo (r:F):F→List F→List F
 | p,[]=>[p]
 | p,c :: l=>(p ^^^ fmul r c) :: byGo r c l
theorem byGo_len {r:F}:∀ {p:F} {l:List F},(byGo r p l).length = l.length + 1
 | _,[]=>rfl
 | _,c :: l=>by simp [byGo,byGo_len]
theorem byGo_horn {r x:F}:∀ {p:F} {l:List F},hornF x (byGo r p l) = p ^^^ fmul (x ^^^ r) (hornF x l)
 | p,[]=>by rw [byGo,horn_one,horn_nil,fmul_zero,xor_zero']
 | p,c :: l=>by
  rw [byGo,hornF,byGo_horn,hornF,fmul_xor,xor_fmul,BitVec.xor_comm _ (p ^^^ fmul r c),BitVec.xor_assoc,fmul_xor (x:=x) (y:=r) (z:=c),← fmul_assoc]
  congr 1
  rw [fmul_comm (x:=c) (y:=x),← BitVec.xor_assoc,BitVec.xor_comm (fmul r c),BitVec.xor_comm]
theorem prod_poly (xs:Nat→F) (i:Nat):∀ n,∃ l:List F,l.length = (if i < n then n else n + 1)∧∀ x,hornF x l = fprod (fun m=>if m = i then 1 else x ^^^ xs m) n
 | 0=>⟨[1],by simp,fun x=>by rw [horn_one,fprod]⟩
 | n + 1=>by
  obtain ⟨l,h1,h2⟩:=prod_poly xs i n
  by_cases hn:n = i
  ·subst hn
   refine ⟨l,by rw [h1]; simp,fun x=>by rw [h2,fprod,if_pos rfl,fmul_one]⟩
  ·refine ⟨byGo (xs n) 0 l,?_,fun x=>?_⟩
   ·rw [byGo_len,h1]; split <;> split <;> omega
   ·rw [byGo_horn,h2,fprod,if_neg hn,zero_xor',fmul_comm]
def lagF (n:Nat) (xs:Nat→F) (x:F) (i:Nat):F:=fmul (fprod (fun m=>if m = i then 1 else x ^^^ xs m) n) (finv (fprod (fun m=>if m = i then 1 else xs i ^^^ xs m) n))
theorem lag_del {n:Nat} {xs:Nat→F} (hd:distinct n xs) {i k:Nat} (hi:i < n) (hk:k < n):lagF n xs (xs k) i = del i k:=by
 unfold lagF del
 by_cases hik:i = k
 ·subst hik
  rw [if_pos rfl,fmul_finv]
  refine fprod_ne fun m hm=>?_
  split
  ·decide
  ·rename_i hmi
   exact fun h=>hmi (hd i m hi hm (xor_eq_zero.1 h)).symm
 ·rw [if_neg hik,fprod_zero (k:=k) hk (by rw [if_neg (Ne.symm hik)]; exact xor_self'),zero_fmul]
theorem lagrange {n:Nat} {xs:Nat→F} (hd:distinct n xs) {y:Nat→F} {x:F}:pval n y x = fsum (fun i=>fmul (lagF n xs x i) (pval n y (xs i))) n:=by
 have hex:∀ i,∃ l:Nat→F,i < n→∀ x,pval n l x = lagF n xs x i:=fun i=>by
  obtain ⟨l,h1,h2⟩:=prod_poly xs i n
  refine ⟨fun j=>fmul (l.getD j 0) (finv (fprod (fun m=>if m = i then 1 else xs i ^^^ xs m) n)),fun hi x=>?_⟩
  rw [lagF,← h2 x,horn_getD (n:=n) (by rw [h1,if_pos hi]; exact Nat.le_refl _),pval,pval,← fsum_mul']
  refine fsum_congr fun j _=>?_
  rw [fmul_assoc,fmul_comm (x:=finv _),← fmul_assoc]
 let lc:Nat→Nat→F:=fun i=>(hex i).choose
 have hlc:∀ i,i < n→∀ x,pval n (lc i) x = lagF n xs x i:=fun i hi=>(hex i).choose_spec hi
 let S:Nat→F:=fun j=>y j ^^^ fsum (fun i=>fmul (pval n y (xs i)) (lc i j)) n
 have hS:∀ x,pval n S x = pval n y x ^^^ fsum (fun i=>fmul (lagF n xs x i) (pval n y (xs i))) n:=fun x=>by
  have h1:pval n S x = pval n y x ^^^ fsum (fun j=>fsum (fun i=>fmul (pval n y (xs i)) (fmul (lc i j) (fpow x j))) n) n:=by
   simp only [pval]
   rw [← fsum_xor]
   refine fsum_congr fun j _=>?_
   simp only [S]
   rw [fmul_xor]
   congr 1
   rw [← fsum_mul']
   exact fsum_congr fun i _=>fmul_assoc
  rw [h1,fsum_swap]
  congr 1
  refine fsum_congr fun i hi=>?_
  rw [fsum_mul,← hlc i hi x,fmul_comm]
  rfl
 have h0:=pval_roots (y:=S) hd fun k hk=>by
  rw [hS,fsum_congr fun i hi=>by rw [lag_del hd hi hk],fsum_del (f:=fun i=>pval n y (xs i)) hk,xor_self']
 have:=hS x
 rw [show pval n S x = 0 from fsum_zero fun j hj=>by rw [h0 j hj,zero_fmul]] at this
 exact xor_eq_zero.1 this.symm
theorem vander_inj {n:Nat} {xs:Nat→F} (hd:distinct n xs) {y:Nat→F} (h:∀ i,i < n→fsum (fun j=>fmul (fpow (xs i) j) (y j)) n = 0):∀ j,j < n→y j = 0 :=
 pval_roots hd fun i hi=>by
  rw [pval,← h i hi]
  exact fsum_congr fun j _=>fmul_comm
end Go.Proofs

set_option linter.unusedSimpArgs false
set_option linter.unusedVariables false
namespace Go.Proofs
open Go Go.Eng

def bytesL (l:List Int):Prop:=∀ x ∈ l,isB x
theorem bytesL_get {l:List Int} (h:bytesL l) (i:Nat):isB (l.getD i 0):=by
 rw [List.getD_eq_getElem?_getD]
 by_cases hi:i < l.length
 ·rw [List.getElem?_eq_getElem hi]; exact h _ (List.getElem_mem hi)
 ·rw [List.getElem?_eq_none (by omega)]; exact ⟨by simp,by simp⟩
def matL (ca:Nat) (l:List Int):Mat:=fun i j=>toF (l.getD (i * ca + j) 0)
def augL (ca cb:Nat) (a b:List Int):Mat:=fun i j=>if j < ca then matL ca a i j else matL cb b i (j - ca)
theorem row_in {i i' ca j:Nat} (hj:j < ca):(i * ca ≤ i' * ca + j∧i' * ca + j < i * ca + ca)↔i' = i:=by
 constructor
 ·intro ⟨h1,h2⟩
  rcases Nat.lt_trichotomy i' i with h | h | h
  ·have:=Nat.mul_le_mul_right ca (show i' + 1 ≤ i by omega)
   rw [Nat.add_mul,Nat.one_mul] at this; omega
  ·exact h
  ·have:=Nat.mul_le_mul_right ca (show i + 1 ≤ i' by omega)
   rw [Nat.add_mul,Nat.one_mul] at this; omega
 ·rintro rfl; omega
theorem cell_lt {i r ca j:Nat} (hi:i < r) (hj:j < ca):i * ca + j < r * ca:=by
 have:=Nat.mul_le_mul_right ca (show i + 1 ≤ r by omega)
 rw [Nat.add_mul,Nat.one_mul] at this; omega
theorem row_le {i r ca:Nat} (hi:i < r):i * ca + ca ≤ r * ca:=by
 have:=Nat.mul_le_mul_right ca (show i + 1 ≤ r by omega)
 rwa [Nat.add_mul,Nat.one_mul] at this
theorem addToL_bytes {l s:List Int} {off:Nat} {c:Int} (h:bytesL l):bytesL (addToL l off s c):=fun x hx=>by
 obtain ⟨i,hi⟩:=List.getElem?_of_mem hx
 rw [addToL_get] at hi
 obtain ⟨y,hy,rfl⟩:=Option.map_eq_some_iff.1 hi
 split
 ·exact xorB_isB
 ·exact h y (List.mem_of_getElem? hy)
theorem scaleL_bytes {l:List Int} {off n:Nat} {c:Int} (h:bytesL l) (hc:isB c):bytesL (scaleL l off n c):=fun x hx=>by
 obtain ⟨i,hi⟩:=List.getElem?_of_mem hx
 rw [scaleL_get] at hi
 obtain ⟨y,hy,rfl⟩:=Option.map_eq_some_iff.1 hi
 have:=h y (List.mem_of_getElem? hy)
 split
 ·exact mulF_isB this hc
 ·exact this
theorem matL_add {ca r i p:Nat} {a:List Int} {g:Int} (ha:a.length = r * ca) (hb:bytesL a) (hg:isB g) (hi:i < r) (hp:p < r) {i' j:Nat} (hi':i' < r) (hj:j < ca) :
  matL ca (addToL a (i * ca) (seg a (p * ca) ca) g) i' j = if i' = i then matL ca a i j ^^^ fmul (toF g) (matL ca a p j) else matL ca a i' j:=by
 have hlt:=cell_lt hi' hj
 have hsl:(seg a (p * ca) ca).length = ca:=seg_len (by rw [ha]; exact row_le hp)
 unfold matL
 rw [List.getD_eq_getElem?_getD,addToL_get,List.getElem?_eq_getElem (by omega),Option.map_some,Option.getD_some,hsl]
 by_cases he:i' = i
 ·subst he
  rw [if_pos ⟨by omega,by omega⟩,if_pos rfl,show i' * ca + j - i' * ca = j by omega]
  have hs:(seg a (p * ca) ca).getD j 0 = a.getD (p * ca + j) 0:=by
   rw [List.getD_eq_getElem?_getD,seg_get,if_pos hj,List.getD_eq_getElem?_getD]
  rw [hs,toF_xorB,toF_mulF hg (bytesL_get hb _),List.getD_eq_getElem?_getD (l:=a) (i:=i' * ca + j),List.getElem?_eq_getElem (by omega),Option.getD_some]
 ·rw [if_neg (fun h=>he ((row_in hj).1 h)),if_neg he,List.getD_eq_getElem?_getD,List.getElem?_eq_getElem (by omega),Option.getD_some]
theorem matL_scale {ca r i:Nat} {a:List Int} {g:Int} (ha:a.length = r * ca) (hb:bytesL a) (hg:isB g) (hi:i < r) {i' j:Nat} (hi':i' < r) (hj:j < ca) :
  matL ca (scaleL a (i * ca) ca g) i' j = if i' = i then fmul (matL ca a i j) (toF g) else matL ca a i' j:=by
 have hlt:=cell_lt hi' hj
 unfold matL
 rw [List.getD_eq_getElem?_getD,scaleL_get,List.getElem?_eq_getElem (by omega),Option.map_some,Option.getD_some]
 by_cases he:i' = i
 ·subst he
  rw [if_pos ⟨by omega,by omega⟩,if_pos rfl,List.getD_eq_getElem?_getD,List.getElem?_eq_getElem (by omega),Option.getD_some,toF_mulF (hb _ (List.getElem_mem _)) hg]
 ·rw [if_neg (fun h=>he ((row_in hj).1 h)),if_neg he,List.getD_eq_getElem?_getD,List.getElem?_eq_getElem (by omega),Option.getD_some]
structure Two (r ca cb:Nat) (a b:List Int):Prop where
 la:a.length = r * ca
 lb:b.length = r * cb
 ba:bytesL a
 bb:bytesL b
variable {r ca cb:Nat} {a b:List Int}
theorem Two.add (h:Two r ca cb a b) {i p:Nat} {g:Int}:Two r ca cb (addToL a (i * ca) (seg a (p * ca) ca) g) (addToL b (i * cb) (seg b (p * cb) cb) g) :=
 ⟨by rw [addToL_len,h.la],by rw [addToL_len,h.lb],addToL_bytes h.ba,addToL_bytes h.bb⟩
theorem Two.scale (h:Two r ca cb a b) {i:Nat} {g:Int} (hg:isB g):Two r ca cb (scaleL a (i * ca) ca g) (scaleL b (i * cb) cb g) :=
 ⟨by rw [scaleL_len,h.la],by rw [scaleL_len,h.lb],scaleL_bytes h.ba hg,scaleL_bytes h.bb hg⟩
theorem aug_add (h:Two r ca cb a b) {i p:Nat} {g:Int} (hg:isB g) (hi:i < r) (hp:p < r) {i' j:Nat} (hi':i' < r) (hj:j < ca + cb) :
  augL ca cb (addToL a (i * ca) (seg a (p * ca) ca) g) (addToL b (i * cb) (seg b (p * cb) cb) g) i' j = if i' = i then augL ca cb a b i j ^^^ fmul (toF g) (augL ca cb a b p j) else augL ca cb a b i' j:=by
 unfold augL
 by_cases hjc:j < ca
 ·simp only [if_pos hjc]; exact matL_add h.la h.ba hg hi hp hi' hjc
 ·simp only [if_neg hjc]; exact matL_add h.lb h.bb hg hi hp hi' (by omega)
theorem aug_scale (h:Two r ca cb a b) {i:Nat} {g:Int} (hg:isB g) (hi:i < r) {i' j:Nat} (hi':i' < r) (hj:j < ca + cb) :
  augL ca cb (scaleL a (i * ca) ca g) (scaleL b (i * cb) cb g) i' j = if i' = i then fmul (augL ca cb a b i j) (toF g) else augL ca cb a b i' j:=by
 unfold augL
 by_cases hjc:j < ca
 ·simp only [if_pos hjc]; exact matL_scale h.la h.ba hg hi hi' hjc
 ·simp only [if_neg hjc]; exact matL_scale h.lb h.bb hg hi hi' (by omega)
theorem aug_left {c i:Nat} (hc:c < ca):augL ca cb a b i c = toF (a.getD (i * ca + c) 0):=by rw [augL,if_pos hc,matL]
theorem piv_facts (a:List Int) (ca c:Nat):∀ n p,p ≤ pivF a ca c p n∧pivF a ca c p n ≤ p + n∧(pivF a ca c p n < p + n→a.getD (pivF a ca c p n * ca + c) 0 ≠ 0)∧∀ i,p ≤ i→i < pivF a ca c p n→a.getD (i * ca + c) 0 = 0
 | 0,p=>by simp only [pivF]; exact ⟨Nat.le_refl _,Nat.le_refl _,fun h=>by omega,fun i h1 h2=>by omega⟩
 | n + 1,p=>by
  obtain ⟨h1,h2,h3,h4⟩:=piv_facts a ca c n (p + 1)
  simp only [pivF]
  split
  ·rename_i hz
   refine ⟨by omega,by omega,fun h=>h3 (by omega),fun i hi1 hi2=>?_⟩
   by_cases hip:i = p
   ·rw [hip]; exact hz
   ·exact h4 i (by omega) hi2
  ·rename_i hz
   exact ⟨Nat.le_refl _,by omega,fun _=>hz,fun i h1 h2=>by omega⟩
theorem Two.rows (h:Two r ca cb a b) {rank c:Nat}:∀ i,Two r ca cb (elimRows ca cb rank c a b i).1 (elimRows ca cb rank c a b i).2
 | 0=>h
 | i + 1=>by
  have ih:=Two.rows h (rank:=rank) (c:=c) i
  simp only [elimRows]
  split
  ·exact ih
  ·exact ih.add
theorem aug_rows (h:Two r ca cb a b) {rank c:Nat} (hr:rank < r) (hc:c < ca):∀ i,i ≤ r →
  (∀ i' j,i' < r→j < ca + cb→augL ca cb (elimRows ca cb rank c a b i).1 (elimRows ca cb rank c a b i).2 i' j = if i' < i∧i' ≠ rank then augL ca cb a b i' j ^^^ fmul (augL ca cb a b i' c) (augL ca cb a b rank j) else augL ca cb a b i' j) ∧
  Same r (ca + cb) (augL ca cb a b) (augL ca cb (elimRows ca cb rank c a b i).1 (elimRows ca cb rank c a b i).2)
 | 0,_=>⟨fun i' j _ _=>by rw [if_neg (by omega)]; rfl,Same.refl⟩
 | i + 1,hi=>by
  obtain ⟨ih,ihs⟩:=aug_rows h hr hc i (by omega)
  have hT:=h.rows (rank:=rank) (c:=c) i
  simp only [elimRows]
  by_cases hir:i = rank
  ·rw [if_pos hir]
   refine ⟨fun i' j hi' hj=>?_,ihs⟩
   rw [ih i' j hi' hj]
   by_cases h1:i' < i∧i' ≠ rank
   ·rw [if_pos h1,if_pos ⟨by omega,h1.2⟩]
   ·rw [if_neg h1,if_neg (by omega)]
  ·rw [if_neg hir]
   simp only
   have hg:=bytesL_get hT.ba (i * ca + c)
   have hgv:toF ((elimRows ca cb rank c a b i).1.getD (i * ca + c) 0) = augL ca cb a b i c:=by
    rw [← aug_left (cb:=cb) (b:=(elimRows ca cb rank c a b i).2) hc,ih i c (by omega) (by omega),if_neg (by omega)]
   have hstep:=fun i' j (hi':i' < r) (hj:j < ca + cb)=>aug_add hT (g:=(elimRows ca cb rank c a b i).1.getD (i * ca + c) 0) hg (show i < r by omega) hr hi' hj
   refine ⟨fun i' j hi' hj=>?_,ihs.trans (same_add (i:=i) (p:=rank) (g:=toF ((elimRows ca cb rank c a b i).1.getD (i * ca + c) 0)) (by omega) hr hir (fun j hj=>by rw [hstep i j (by omega) hj,if_pos rfl]) fun a' ha' hne j hj=>by rw [hstep a' j ha' hj,if_neg hne])⟩
   rw [hstep i' j hi' hj]
   by_cases he:i' = i
   ·subst he
    rw [if_pos rfl,hgv,ih i' j hi' hj,if_neg (by omega),ih rank j hr hj,if_neg (by omega),if_pos ⟨by omega,hir⟩]
   ·rw [if_neg he,ih i' j hi' hj]
    by_cases h1:i' < i∧i' ≠ rank
    ·rw [if_pos h1,if_pos ⟨by omega,h1.2⟩]
    ·rw [if_neg h1,if_neg (by omega)]
theorem elim_step {T0:Mat} {c rank:Nat} (h2:Two r ca cb a b) (h:Ech r (ca + cb) T0 (augL ca cb a b) c rank) (hc:c < ca) :
  Two r ca cb (elimStep r ca cb c (a,b,rank)).1 (elimStep r ca cb c (a,b,rank)).2.1∧Ech r (ca + cb) T0 (augL ca cb (elimStep r ca cb c (a,b,rank)).1 (elimStep r ca cb c (a,b,rank)).2.1) (c + 1) (elimStep r ca cb c (a,b,rank)).2.2:=by
 unfold elimStep
 simp only
 by_cases hr:r ≤ rank
 ·rw [if_pos hr]
  exact ⟨h2,ech_skip h (by omega) fun i (h1:rank ≤ i) h3=>by omega⟩
 rw [if_neg hr]
 obtain ⟨p1,p2,p3,p4⟩:=piv_facts a ca c (r - rank) rank
 by_cases hp:pivF a ca c rank (r - rank) = r
 ·rw [if_pos hp]
  refine ⟨h2,ech_skip h (by omega) fun i (h1:rank ≤ i) h3=>?_⟩
  rw [aug_left hc,p4 i h1 (by omega)]; rfl
 rw [if_neg hp]
 simp only
 generalize hpv:pivF a ca c rank (r - rank) = p at p1 p2 p3 p4 hp
 have hpr:p < r:=by omega
 have hnz:=p3 (by omega)
 have hmid:elimMid r ca cb c (a,b,rank) = scaleR ca cb rank c (swapR ca cb rank p a b).1 (swapR ca cb rank p a b).2:=by
  unfold elimMid; simp only [hpv]
 -- the pivot's row is added
 have h1:Two r ca cb (swapR ca cb rank p a b).1 (swapR ca cb rank p a b).2∧Same r (ca + cb) (augL ca cb a b) (augL ca cb (swapR ca cb rank p a b).1 (swapR ca cb rank p a b).2) ∧
   augL ca cb (swapR ca cb rank p a b).1 (swapR ca cb rank p a b).2 rank c ≠ 0∧(∀ i j,i < r→j < ca + cb→i ≠ rank→augL ca cb (swapR ca cb rank p a b).1 (swapR ca cb rank p a b).2 i j = augL ca cb a b i j) ∧
   ∀ c',c' < c→augL ca cb (swapR ca cb rank p a b).1 (swapR ca cb rank p a b).2 rank c' = 0:=by
  have hpc:augL ca cb a b p c ≠ 0:=by
   rw [aug_left hc]
   intro h0
   exact hnz ((toF_eq_zero (bytesL_get h2.ba _)).1 h0)
  unfold swapR
  by_cases hpe:p = rank
  ·rw [if_pos hpe]
   exact ⟨h2,Same.refl,by rw [← hpe]; exact hpc,fun _ _ _ _ _=>rfl,fun c' hc'=>h.low rank (Nat.le_refl _) (by omega) c' hc'⟩
  ·rw [if_neg hpe]
   have hst:=fun i' j (hi':i' < r) (hj:j < ca + cb)=>aug_add h2 (g:=1) ⟨by omega,by omega⟩ (show rank < r by omega) hpr hi' hj
   have h1:toF 1 = 1:=rfl
   refine ⟨h2.add,same_add (i:=rank) (p:=p) (g:=toF 1) (by omega) hpr (Ne.symm hpe) (fun j hj=>by simp only; rw [hst rank j (by omega) hj,if_pos rfl]) (fun a' ha' hne j hj=>by simp only; rw [hst a' j ha' hj,if_neg hne]),?_,fun i j hi hj hne=>by simp only; rw [hst i j hi hj,if_neg hne],fun c' hc'=>?_⟩
   ·simp only
    rw [hst rank c (by omega) (by omega),if_pos rfl,h1,one_fmul]
    rw [aug_left hc (i:=rank),p4 rank (Nat.le_refl _) (by omega),toF_zero,zero_xor']
    exact hpc
   ·simp only
    rw [hst rank c' (by omega) (by omega),if_pos rfl,h1,one_fmul,h.low rank (Nat.le_refl _) (by omega) c' hc',h.low p (by omega) hpr c' hc',xor_zero']
 rw [hmid]
 generalize swapR ca cb rank p a b = s1 at h1
 obtain ⟨t1,same1,nz1,oth1,low1⟩:=h1
 -- it is scaled
 have hgB:=invF_isB (bytesL_get t1.ba (rank * ca + c))
 have hgv:toF (invF (s1.1.getD (rank * ca + c) 0)) = finv (augL ca cb s1.1 s1.2 rank c):=by rw [toF_invF (bytesL_get t1.ba _),aug_left hc]
 have t2:Two r ca cb (scaleR ca cb rank c s1.1 s1.2).1 (scaleR ca cb rank c s1.1 s1.2).2:=t1.scale hgB
 have hsc:∀ i j,i < r→j < ca + cb→augL ca cb (scaleR ca cb rank c s1.1 s1.2).1 (scaleR ca cb rank c s1.1 s1.2).2 i j = if i = rank then fmul (augL ca cb s1.1 s1.2 rank j) (finv (augL ca cb s1.1 s1.2 rank c)) else augL ca cb s1.1 s1.2 i j:=fun i j hi hj=>by
  rw [← hgv]
  exact aug_scale t1 hgB (by omega) hi hj
 generalize scaleR ca cb rank c s1.1 s1.2 = s2 at t2 hsc
 have same2:Same r (ca + cb) (augL ca cb s1.1 s1.2) (augL ca cb s2.1 s2.2):=same_mul (i:=rank) (g:=finv (augL ca cb s1.1 s1.2 rank c)) (by omega) (finv_ne nz1) (fun j hj=>by rw [hsc rank j (by omega) hj,if_pos rfl]) fun a' ha' hne j hj=>by rw [hsc a' j ha' hj,if_neg hne]
 have one2:augL ca cb s2.1 s2.2 rank c = 1:=by rw [hsc rank c (by omega) (by omega),if_pos rfl,fmul_finv nz1]
 have low2:∀ c',c' < c→augL ca cb s2.1 s2.2 rank c' = 0:=fun c' hc'=>by rw [hsc rank c' (by omega) (by omega),if_pos rfl,low1 c' hc',zero_fmul]
 have oth2:∀ i j,i < r→j < ca + cb→i ≠ rank→augL ca cb s2.1 s2.2 i j = augL ca cb a b i j:=fun i j hi hj hne=>by rw [hsc i j hi hj,if_neg hne,oth1 i j hi hj hne]
 -- the others are cleared
 obtain ⟨r3,same3⟩:=aug_rows t2 (rank:=rank) (c:=c) (by omega) hc r (Nat.le_refl _)
 refine ⟨t2.rows r,ech_step h (by omega) (by omega) ((same1.trans same2).trans same3) (fun i hi=>?_) fun c' hc' i hi=>?_⟩
 ·rw [r3 i c hi (by omega),one2,fmul_one]
  by_cases hir:i = rank
  ·rw [if_neg (by omega),hir,one2,del,if_pos rfl]
  ·rw [if_pos ⟨hi,hir⟩,xor_self',del,if_neg hir]
 ·rw [r3 i c' hi (by omega),low2 c' hc',fmul_zero,xor_zero']
  by_cases hir:i = rank
  ·rw [if_neg (by omega),hir,low2 c' hc',h.low rank (Nat.le_refl _) (by omega) c' hc']
  ·rw [if_pos ⟨hi,hir⟩,oth2 i c' hi (by omega) hir]
theorem elim_ech (h:Two r ca cb a b):∀ c,c ≤ ca→Two r ca cb (elimN r ca cb a b c).1 (elimN r ca cb a b c).2.1∧Ech r (ca + cb) (augL ca cb a b) (augL ca cb (elimN r ca cb a b c).1 (elimN r ca cb a b c).2.1) c (elimN r ca cb a b c).2.2
 | 0,_=>⟨h,ech_start⟩
 | c + 1,hc=>by
  obtain ⟨h1,h2⟩:=elim_ech h c (by omega)
  rw [elimN]
  exact elim_step h1 h2 (by omega)
end Go.Proofs
