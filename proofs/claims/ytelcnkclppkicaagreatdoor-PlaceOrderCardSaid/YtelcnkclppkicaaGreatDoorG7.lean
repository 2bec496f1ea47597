/- Texts ZS, ZV, ZW, ZX, DS, DT, BT, BU, BV, BW, BX, BY, CA, CB, CC, CD, CE, CF, CG, CH, CI, CK, YA, CL, CM, ZLq, YF, W1, W2, W3, WD, CN, CO, YB, ZSq, YC, CP, W4, WC, YD, YE, YG, YK, W5, W6, YM, YR, CQ, CR, YS, W7, YU, YV, YW, CS, W9, V3, VT, VZ, VW, CT, CW, V4, VM, VU, WF, VV, WA, WE, VX, VY, WG, WH, WI, WN, CV, CX, WO, WQ, CY. -/
import Derived.Test.YtelcnkclppkicaaGreatDoorG6
import Derived.Test.YtelcnkclppkicaaGreatDoorG5
import Derived.Test.YtelcnkclppkicaaGreatDoorProg
import Derived.Test.YtelcnkclppkicaaGreatDoorG4
set_option linter.unusedSimpArgs false
set_option linter.unusedVariables false
namespace Go.Proofs
open Go Go.Eng
theorem identG_ok:identGC.ok Tryz.prog:=Ctr.ok_less ident40_ok rfl rfl rfl rfl rfl (fun _ _=>trivial) fun ρ ρ' ai al hp hag hal hpost=>by
 match ai,hal with
 | 0,hal =>
  exfalso
  obtain rfl:=Option.some.inj hal
  have h2:((ρ'.upto 1) 0).i < 1∨255 < ((ρ'.upto 1) 0).i:=hpost
  have e:(ρ'.upto 1) 0 = ρ 0:=by rw [Env.upto,if_pos (by omega)]; exact hag 0 (by decide)
  rw [e] at h2
  have h3:1 ≤ (ρ 0).i∧(ρ 0).i ≤ 255:=hp
  omega
 | 1,hal=>exact ⟨0,hal⟩
 | n + 2,hal=>cases hal
theorem vanderG_ok:vanderGC.ok Tryz.prog:=Ctr.ok_less vander45_ok rfl rfl rfl rfl rfl (fun _ h=>h.1) fun ρ ρ' ai al hp hag hal hpost=>by
 match ai,hal with
 | 0,hal =>
  exfalso
  obtain rfl:=Option.some.inj hal
  have h2:vanderBad ((ρ'.upto 5) 2).i ((ρ'.upto 5) 3).i:=hpost.2
  have e2:(ρ'.upto 5) 2 = ρ 2:=by rw [Env.upto,if_pos (by omega)]; exact hag 2 (by decide)
  have e3:(ρ'.upto 5) 3 = ρ 3:=by rw [Env.upto,if_pos (by omega)]; exact hag 3 (by decide)
  rw [e2,e3] at h2
  exact hp.2 h2
 | 1,hal=>exact ⟨0,hal⟩
 | n + 2,hal=>cases hal
theorem cloneK_ok:cloneKC.ok Tryz.prog:=by
 refine ⟨clone84_ok.1,fun ρ w hF hO hg hd hsub hst hro hpre=>(clone84_ok.2 ρ w hF hO hg hd hsub hst hro hpre).mono fun e w' hq=>?_⟩
 obtain ⟨ai,al,ρ',hal,hg',hag,he,hpost,hheap⟩:=hq
 match ai,hal with
 | 0,hal =>
  obtain rfl:=Option.some.inj hal
  refine ⟨0,_,ρ',rfl,hg',hag,he,⟨hpost,?_⟩,hheap⟩
  obtain ⟨hO',hd',⟨h1,h2,hdj,hu,hden,_⟩,hsub',hwi'⟩:=hheap
  show (((ρ'.upto 10) 9).d.length:Int) ≤ ((ρ'.upto 10) 8).i
  rw [show (ρ'.upto 10) 9 = ρ' 9 from rfl,show (ρ'.upto 10) 8 = ρ' 8 from rfl]
  rcases hden with ⟨_,hn,hc⟩ | ⟨b,c,g1,g2,g3,g4,g5⟩
  ·have hn:(ρ' 9).d = []:=hn
   have hc:(ρ' 8).i = 0:=hc
   rw [hn,hc]; simp
  ·exact g4
 | n + 1,hal=>cases hal
theorem allB_take {d:Rows'} {n:Nat} (h:allB d):allB (d.take n):=fun r hr=>h r (List.mem_of_mem_take hr)
theorem bI_take {d:Rows'} {n:Nat}:bI (d.take n) = (bI d).take n:=by simp [bI,List.map_take]
theorem inverse55_ok:inverse55C.ok Tryz.prog:=inverse55_of (by simp [valid36_ok,identG_ok,cloneK_ok,elim83_ok]) fun ρ hg hp=>by
 obtain ⟨hf,l0,l1,l2,hB⟩:=hp
 have hne:=(fieldD_ne hf).1
 simp [o_inverse55,inverse55C,valid36C,identGC,ident40C,cloneKC,clone84C,elim83C]
 refine ⟨fun h=>(hne h).elim,fun _=>⟨l0,fun v _ hv=>⟨fun hb=>⟨hf,fun h=>?_⟩,fun hb=>⟨fun h=>⟨hf,hv.1 hb,h⟩,fun hrc=>?_⟩⟩⟩⟩
 ·have:=hv.2 h
  rw [hb] at this; cases this
 obtain ⟨r1,r2,c1,c2,hl⟩:=hv.1 hb
 have vA:validM (ρ 2).i (ρ 3).i (ρ 5).i:=hv.1 hb
 have hbd:=mul_bound (x:=(ρ 2).i) (y:=(ρ 3).i) (by omega) r2 (by omega) c2
 refine ⟨⟨r1,r2⟩,fun l _ cp _ d _ _ _ hM hL hI=>⟨⟨l0,l2,by unfold Go.Eng.big; omega⟩,fun cc _ dd _ hdd hcap=>?_⟩⟩
 have hlen:dd.d.length = (ρ 5).i.toNat:=by rw [hdd,List.length_take]; omega
 refine ⟨⟨hf,⟨⟨by omega,r2,by omega,c2,hl,by omega,by omega,by rw [hdd]; exact allB_take hB⟩,by omega⟩,hM,hL⟩,fun rk _ f2 _ d2 _ b2 _ hf2 hA2 hB2 k0 k1 he=>?_⟩
 have hE:elimN (ρ 2).i.toNat (ρ 3).i.toNat (ρ 2).i.toNat (bI dd.d) (bI d.d) (ρ 3).i.toNat = invE ((bI (ρ 7).d).take (ρ 5).i.toNat) (ρ 2).i.toNat:=by
  rw [invE,hdd,bI_take,hI,hrc]
 rw [hE] at he
 rw [← he]
 exact ⟨fun h=>⟨hf2,vA,hrc,by simp only; omega⟩,fun h=>⟨hf2,vA,hrc,hB2,by simp only; omega,rfl⟩⟩
theorem sizesB_iff {k t:Int}:sizesB k t = true↔1 ≤ k∧k ≤ t∧t ≤ 255:=by simp [sizesB,and_assoc]
theorem gen35_ok:gen35C.ok Tryz.prog:=gen35_of (by simp [sizes74_ok,vanderG_ok,inverse55_ok,prod49_ok]) fun ρ hg hp=>by
 have hf:fieldD (ρ 1).d:=hp
 have hne:=(fieldD_ne hf).1
 simp [o_gen35,gen35C,sizes74C,vanderGC,vander45C,inverse55C,prod49C]
 intro u0 _
 refine ⟨fun h=>(hne h).elim,fun _ u1 _ hs=>⟨fun hb=>⟨hf,fun h=>?_⟩,fun hb=>?_⟩⟩
 ·rw [h] at hs; rw [hb] at hs; cases hs
 have hsz:sizesB (ρ 2).i (ρ 3).i = true:=by rw [← hs]; exact hb
 obtain ⟨k1,k2,k3⟩:=sizesB_iff.1 hsz
 have hvb:¬ vanderBad (ρ 3).i (ρ 2).i:=by unfold vanderBad; omega
 have hkk:=mul_bound (x:=(ρ 2).i) (y:=(ρ 2).i) (by omega) (show (ρ 2).i ≤ 255 by omega) (by omega) (show (ρ 2).i ≤ 255 by omega)
 have hlek:(ρ 2).i * (ρ 2).i ≤ (ρ 3).i * (ρ 2).i:=Int.mul_le_mul_of_nonneg_right k2 (by omega)
 refine ⟨⟨hf,hvb⟩,fun u2 _ l _ cp _ f1 _ d _ hf1 _ hM hL hV u7 _ hcap=>?_⟩
 obtain ⟨a1,a2,a3,a4,a5,a6,a7,a8⟩:=hM
 have vV:validM (ρ 3).i (ρ 2).i l.i:=⟨by omega,by omega,by omega,by omega,a5⟩
 rw [mul64 (by omega) (by omega)]
 have hkn:((ρ 2).i * (ρ 2).i).toNat = (ρ 2).i.toNat * (ρ 2).i.toNat:=Int.toNat_mul (by omega) (by omega)
 have hTop:invE ((bI d.d).take ((ρ 2).i * (ρ 2).i).toNat) (ρ 2).i.toNat = topE (ρ 2).i.toNat (ρ 3).i.toNat:=by rw [topE,hV,hkn]
 rw [hTop]
 have vT:validM (ρ 2).i (ρ 2).i ((ρ 2).i * (ρ 2).i):=⟨by omega,by omega,by omega,by omega,rfl⟩
 have hno:¬ validM 0 0 0:=by unfold validM; omega
 refine ⟨by omega,by omega,hkk.1,by omega,fun u8 _=>⟨⟨hf1,hkk.1,by omega,by omega,a8⟩,fun e _ f2 _ hf2 hor u11 _=>⟨⟨hf2,by omega,by omega,by omega,a8,fun r hr=>by cases hr⟩,fun f3 _ hf3 _=>⟨hf3,fun _=>?_⟩,fun _ _ _ _ h=>(hno h).elim,?_⟩,?_⟩⟩
 ·rcases hor with ⟨h,_⟩ | ⟨_,h,_⟩
  ·exact (h vT).elim
  ·exact h
 ·intro _ _ _ _ _ _ _ _ _ _ _ _ h
  exact (hno h).elim
 ·intro u9 _ li _ ci _ f4 _ di _ hf4 _ hMi hrk hInv u14 _
  obtain ⟨⟨b1,b2,b3,b4,b5,b6,b7,b8⟩,b9⟩:=hMi
  have vI:validM (ρ 2).i (ρ 2).i li.i:=⟨by omega,by omega,by omega,by omega,b5⟩
  refine ⟨⟨hf4,by omega,by omega,by omega,a8,by omega,b6,by omega,b8⟩,fun f5 _ hf5 h=>(h vV vI).elim,?_⟩
  intro u15 _ lp _ cq _ f6 _ dp _ hf6 _ _ hMp hLp hP u20 _ _
  refine ⟨hf6,hsz,⟨hMp,hLp⟩,hrk,?_⟩
  rw [hP,hInv,genL,hV,List.take_of_length_le (by rw [vanderL,fillTo_len,a5,Int.toNat_mul (by omega) (by omega)]; exact Nat.le_refl _),List.take_of_length_le (by rw [← hInv,bI_len]; omega)]
end Go.Proofs

set_option linter.unusedSimpArgs false
set_option linter.unusedVariables false
set_option maxRecDepth 100000
namespace Go.Proofs
open Go Go.Eng

@[simp] def o_encode31_1:Sg:=sg 0 [bv 13 45,bv 12 55,bv 7 59,bv 6 60,bv 1 50,bt 14 (.icell (.var 54) (.plus (.var 61) (.var 64)) 0),bt 11 (.minus (.var 45) (.arith .mul .i64 (.var 64) (.var 42))),bt 10 (.minus (.arith .mul .i64 (.arith .add .i64 (.var 64) (.lit 1)) (.var 42)) (.arith .mul .i64 (.var 64) (.var 42))),bt 9 (.ife (.var 45) (.arith .mul .i64 (.var 64) (.var 42)) (.lit 0) (.arith .mul .i64 (.var 64) (.var 42))),bg 8 43,bv 5 59,bv 4 42,bt 3 (.lit 0),bg 2 58,bg 0 0]
def o_encode31:Out:=(.br (.and (.cmp .eql (.dlen (.var 1)) (.lit 0)) (.isnil 0))
 (.ret 0 (sg 9 [bv 10 1,bt 9 (.lit 1)]))
 (.pre 0 (sg 0 [bv 1 3,bv 0 2]) (.both (.fresh 9 (.post 0 0 (sg 0 [bv 1 3,bv 0 2]) 9 (.br (.not (.var 9))
 (.ret 0 (sg 9 [bv 10 1,bt 9 (.lit 2)]))
 (.need (.cmp .leq (.lit 0) (.var 5)) (.br (.cmp .gtr (.var 5) (.lit 8192))
 (.ret 0 (sg 9 [bv 10 1,bt 9 (.lit 3)]))
 (.pre 1 (sg 0 [bv 1 5,bv 0 2]) (.both (.fresh 10 (.fresh 11 (.post 1 0 (sg 0 [bv 1 5,bv 0 2]) 10 (.need (.cmp .leq (.lit 0) (.arith .mul .i64 (.var 2) (.var 10))) (.need (.cmp .leq (.tims (.lit 1) (.arith .mul .i64 (.var 2) (.var 10))) (.lit 281474976710656)) (.fresh 12 (.need (.cmp .leq (.arith .mul .i64 (.var 2) (.var 10)) (.dlen (.drep (.arith .mul .i64 (.var 2) (.var 10)) (.rcons (.vint .u8 (.lit 0)) .rnil)))) (.need (.cmp .leq (.var 5) (.dlen (.var 7))) (.fresh 13 (.pre 2 (sg 0 [bv 1 1,bv 3 3,bv 2 2,bg 0 0]) (.both (.fresh 14 (.fresh 15 (.fresh 16 (.fresh 17 (.fresh 18 (.fresh 19 (.post 2 0 (sg 0 [bv 1 1,bv 3 3,bv 2 2,bg 0 0]) 14 (.fresh 20 (.need (.cmp .leq (.lit 0) (.var 3)) (.need (.cmp .leq (.tims (.lit 32) (.var 3)) (.lit 281474976710656)) (.fresh 21 (.inv 0 22 (sg 1000 [bg 1015 19,bt 1014 (.drep (.var 3) (.rcons (.vint .i64 (.lit 0)) (.rcons .vnils .rnil))),bt 1013 (.c3 .dsplice (.drep (.arith .mul .i64 (.var 2) (.var 10)) (.rcons (.vint .u8 (.lit 0)) .rnil)) (.lit 0) (.dtake (.dtake (.var 7) (.var 5)) (.imin (.arith .mul .i64 (.var 2) (.var 10)) (.var 5)))),bv 1012 18,bv 1011 16,bv 1010 15,bg 1009 14,bv 1008 17,bt 1007 (.lit 0),bv 1006 3,bg 1005 21,bg 1004 20,bt 1003 (.arith .mul .i64 (.var 2) (.var 10)),bt 1002 (.arith .mul .i64 (.var 2) (.var 10)),bg 1001 12,bv 1000 10]) (.fresh 22 (.fresh 23 (.fresh 24 (.fresh 25 (.fresh 26 (.fresh 27 (.fresh 28 (.fresh 29 (.fresh 30 (.fresh 31 (.fresh 32 (.fresh 33 (.fresh 34 (.fresh 35 (.fresh 36 (.fresh 37 (.hyp 0 22 (.br (.cmp .lss (.var 29) (.var 3))
 (.need (.cmp .leq (.lit 0) (.var 22)) (.need (.cmp .leq (.tims (.lit 1) (.var 22)) (.lit 281474976710656)) (.fresh 38 (.pre 3 (sg 0 [bv 6 33,bv 5 34,bv 7 29,bv 4 33,bv 3 32,bg 2 31,bv 1 2,bv 0 3]) (.both (.fresh 39 (.fresh 40 (.fresh 41 (.post 3 0 (sg 0 [bv 6 33,bv 5 34,bv 7 29,bv 4 33,bv 3 32,bg 2 31,bv 1 2,bv 0 3]) 39 (.need (.cmp .leq (.lit 0) (.var 40)) (.inv 1 42 (sg 1000 [bg 1015 37,bt 1018 (.drep (.var 22) (.rcons (.vint .u8 (.lit 0)) .rnil)),bv 1014 36,bv 1013 35,bv 1012 34,bv 1011 33,bv 1010 32,bv 1008 30,bt 1022 (.lit 0),bv 1021 41,bv 1020 40,bv 1019 39,bg 1009 31,bv 1017 22,bg 1016 38,bv 1007 29,bv 1006 28,bg 1005 27,bg 1004 26,bv 1003 25,bv 1002 24,bg 1001 23,bv 1000 22]) (.fresh 42 (.fresh 43 (.fresh 44 (.fresh 45 (.fresh 46 (.fresh 47 (.fresh 48 (.fresh 49 (.fresh 50 (.fresh 51 (.fresh 52 (.fresh 53 (.fresh 54 (.fresh 55 (.fresh 56 (.fresh 57 (.fresh 58 (.fresh 59 (.fresh 60 (.fresh 61 (.fresh 62 (.fresh 63 (.fresh 64 (.hyp 1 42 (.br (.cmp .lss (.var 64) (.var 62))
 (.need (.cmp .leq (.lit 0) (.var 64)) (.need (.cmp .leq (.lit 0) (.var 61)) (.need (.cmp .leq (.lit 0) (.plus (.var 61) (.var 64))) (.need (.cmp .lss (.plus (.var 61) (.var 64)) (.dlen (.var 54))) (.know (.cmp .leq (.dlen (.var 55)) (.var 45)) (.need (.cmp .leq (.lit 0) (.var 44)) (.need (.cmp .leq (.lit 0) (.var 45)) (.need (.cmp .leq (.lit 0) (.arith .mul .i64 (.var 64) (.var 42))) (.need (.cmp .leq (.arith .mul .i64 (.var 64) (.var 42)) (.arith .mul .i64 (.arith .add .i64 (.var 64) (.lit 1)) (.var 42))) (.need (.cmp .leq (.arith .mul .i64 (.arith .add .i64 (.var 64) (.lit 1)) (.var 42)) (.var 45)) (.pre 4 o_encode31_1 (.both (.fresh 65 (.fresh 66 (.post 4 0 o_encode31_1 65 (.back 1 42 (sg 1000 [bg 1015 57,bv 1018 66,bv 1014 56,bv 1013 55,bv 1012 54,bv 1011 53,bv 1010 52,bv 1008 65,bt 1022 (.arith .add .i64 (.var 64) (.lit 1)),bv 1021 63,bv 1020 62,bv 1019 61,bg 1009 51,bv 1017 59,bg 1016 58,bv 1007 49,bv 1006 48,bg 1005 47,bg 1004 46,bv 1003 45,bv 1002 44,bg 1001 43,bv 1000 42]))))) .top))))))))))))
 (.need (.cmp .leq (.lit 0) (.var 49)) (.need (.cmp .lss (.var 49) (.var 3)) (.need (.cmp .lss (.var 49) (.dlen (.var 56))) (.pack [.arr 58 5 [CK.int .u8] (.var 60) (.var 59),.abs 57 2] 65 (.back 0 22 (sg 1000 [bg 1015 65,bt 1014 (.dput (.var 56) (.var 49) 0 (.rcons (.vint .i64 (.var 49)) (.rcons (.vslice 58 (.lit 0) (.var 42) (.var 59) 1) .rnil))),bv 1013 55,bv 1012 54,bv 1011 53,bv 1010 52,bg 1009 51,bv 1008 50,bt 1007 (.arith .add .i64 (.var 49) (.lit 1)),bv 1006 48,bg 1005 47,bg 1004 46,bv 1003 45,bv 1002 44,bg 1001 43,bv 1000 42]))))))))))))))))))))))))))))))))))))) .top)))))
 (.pack [.cells 26 200 [(.vint .i64 (.var 3)),(.vint .i64 (.var 2)),(.vslice 31 (.lit 0) (.var 32) (.var 33) 1)],.arr 31 5 [CK.int .u8] (.var 34) (.var 33),.arr 23 5 [CK.int .u8] (.var 35) (.var 25),.abs 37 2] 38 (.ret 1 (sg 9 [bg 13 38,bv 12 36,bv 11 30,bv 10 28,bg 9 27]))))))))))))))))))))))))))))))))) .top))))))))))) .top))))))) .top)))
theorem o_encode31_eq:treeOf ⟨Tryz.prog,encode31C,[sizes74C,piece26C,genGC,row75C,addToC],[encode31I,encode31J]⟩ 100000 Tryz.f87 = o_encode31:=by kernel_rfl
theorem encode31_of (hd:∀ c ∈ ([sizes74C,piece26C,genGC,row75C,addToC]:List Ctr),c.ok Tryz.prog) (h:∀ ρ:Env,ρ.good→(encode31C).pre ρ→o_encode31.den ⟨Tryz.prog,encode31C,[sizes74C,piece26C,genGC,row75C,addToC],[encode31I,encode31J]⟩ ρ):(encode31C).ok Tryz.prog :=
 ok_of_tree Tryz.func87 (fun a w=>Tryz.call87 a w) hd 100000 (fun ρ hg hp=>by rw [o_encode31_eq]; exact h ρ hg hp)
end Go.Proofs

set_option linter.unusedSimpArgs false
set_option linter.unusedVariables false
namespace Go.Proofs
open Go Go.Eng

theorem genG_ok:genGC.ok Tryz.prog:=Ctr.ok_less gen35_ok rfl rfl rfl rfl rfl (fun _ h=>h.1) fun ρ ρ' ai al hp hag hal hpost=>by
 match ai,hal with
 | 0,hal =>
  exfalso
  obtain rfl:=Option.some.inj hal
  obtain ⟨_,h2⟩:_∧(sizesB ((ρ'.upto 5) 2).i ((ρ'.upto 5) 3).i = true→(topE ((ρ'.upto 5) 2).i.toNat ((ρ'.upto 5) 3).i.toNat).2.2 < ((ρ'.upto 5) 2).i.toNat):=hpost
  have e2:(ρ'.upto 5) 2 = ρ 2:=by rw [Env.upto,if_pos (by omega)]; exact hag 2 (by decide)
  have e3:(ρ'.upto 5) 3 = ρ 3:=by rw [Env.upto,if_pos (by omega)]; exact hag 3 (by decide)
  rw [e2,e3] at h2
  obtain ⟨_,p2,p3⟩:=hp
  have:=h2 p2
  omega
 | 1,hal=>exact ⟨0,hal⟩
 | n + 2,hal=>cases hal
theorem pieceLen_ge {k n:Nat} (hk:0 < k):n ≤ k * pieceLen k n:=by
 unfold pieceLen
 have h1:=Nat.div_add_mod (n + k - 1) k
 have h2:=Nat.mod_lt (n + k - 1) hk
 omega
theorem pieceLen_lt {k n:Nat} (hk:0 < k):k * pieceLen k n < n + k:=by
 unfold pieceLen
 have h1:=Nat.div_add_mod (n + k - 1) k
 omega
theorem pieceLen_le {k n:Nat} (hk:0 < k):pieceLen k n ≤ n:=by
 have h:=pieceLen_lt (n:=n) hk
 by_cases h2:pieceLen k n ≤ n
 ·exact h2
 ·have h3:k * (n + 1) ≤ k * pieceLen k n:=Nat.mul_le_mul_left k (by omega)
  rw [Nat.mul_add,Nat.mul_one] at h3
  have h4:n * 1 ≤ k * n:=by rw [Nat.mul_comm k n]; exact Nat.mul_le_mul_left n hk
  omega
theorem pieceLen_tdiv {k:Int} {n:Nat} (hk:1 ≤ k):((n:Int) + k - 1).tdiv k = (pieceLen k.toNat n:Nat):=by
 rw [Int.tdiv_eq_ediv_of_nonneg (by omega),pieceLen,Int.natCast_ediv]
 congr 1 <;> omega
theorem bI_splice {d x:Rows'} (h:x.length ≤ d.length):bI (spliceD d 0 x) = bI x ++ (bI d).drop x.length:=by
 simp [spliceD,bI,List.map_drop]
theorem allB_splice {d x:Rows'} (hd:allB d) (hx:allB x):allB (spliceD d 0 x):=fun r hr=>by
 unfold spliceD at hr
 rcases List.mem_append.1 hr with hr | hr
 ·rcases List.mem_append.1 hr with hr | hr
  ·simp at hr
  ·exact hx r hr
 ·exact hd r (List.mem_of_mem_drop hr)
theorem encW_init {k total len lg cg:Int} {f dg data D:Rows'} (hf:fieldD f) (hs:sizesB k total = true) (h1:len ≤ 8192) (h2:len = data.length) (hB:allB data) (hM:fullM total k lg cg dg) (hG:bI dg = genL k.toNat total.toNat) (hD:D = List.replicate total.toNat [.int .i64 0,.slice none 0 0]) :
  encW k total len (pieceLen k.toNat data.length:Nat) (k * (pieceLen k.toNat data.length:Nat)) (k * (pieceLen k.toNat data.length:Nat)) lg cg 0 f dg (spliceD (List.replicate (k * (pieceLen k.toNat data.length:Nat)).toNat [.int .u8 0]) 0 data) D data:=by
 obtain ⟨k1,k2,k3⟩:=sizesB_iff.1 hs
 have hge:=pieceLen_ge (k:=k.toNat) (n:=data.length) (by omega)
 have hle:=pieceLen_le (k:=k.toNat) (n:=data.length) (by omega)
 have hc:(k * (pieceLen k.toNat data.length:Nat)).toNat = k.toNat * pieceLen k.toNat data.length:=by rw [Int.toNat_mul (by omega) (by omega)]; simp
 have hc0:0 ≤ k * (pieceLen k.toNat data.length:Nat):=Int.mul_nonneg (by omega) (by omega)
 refine ⟨hf,hs,h1,h2,hB,rfl,by omega,rfl,?_,allB_splice allB_rep hB,?_,hM,hG,by rw [hD,List.length_replicate],fun row hr=>by rw [hD] at hr; rw [List.eq_of_mem_replicate hr]; rfl,by omega,by omega⟩
 ·rw [spliceD_len (by rw [List.length_replicate]; omega),List.length_replicate]; omega
 ·rw [bI_splice (by rw [List.length_replicate]; omega),bI_rep,hc,fullL,bI_len,List.drop_replicate]; simp
theorem encW_next {k total len l lf cf lg cg i:Int} {f dg df D data:Rows'} {v w:Value} (h:encW k total len l lf cf lg cg i f dg df D data) (hi:i < total):encW k total len l lf cf lg cg (i + 1) f dg df (putD D i 0 [v,w]) data:=by
 obtain ⟨a1,a2,a3,a4,a5,a6,a7,a8,a9,a10,a11,a12,a13,a14,a17,a15,a16⟩:=h
 refine ⟨a1,a2,a3,a4,a5,a6,a7,a8,a9,a10,a11,a12,a13,by rw [putD_len]; exact a14,fun row hr=>?_,by omega,by omega⟩
 unfold putD at hr
 rcases List.mem_or_eq_of_mem_set hr with hr | rfl
 ·exact a17 row hr
 ·have hl:i.toNat < D.length:=by omega
  have:=a17 _ (List.getElem_mem hl)
  rw [List.getElem?_eq_getElem hl,Option.getD_some,splice_length (by rw [this]; simp),this]
theorem encW_f {k total len l lf cf lg cg i:Int} {f f' dg df D data:Rows'} (h:encW k total len l lf cf lg cg i f dg df D data) (hf:fieldD f'):encW k total len l lf cf lg cg i f' dg df D data:=⟨hf,h.2⟩
theorem encAt_mono {h h':Hp} {D:Rows'} {n:Nat} {f:Nat→List Int} (he:encAt h D n f) (hl:Hp.le h h'):encAt h' D n f:=fun j hj=>by
 obtain ⟨v,d,e1,e2,e3⟩:=he j hj
 exact ⟨v,d,e1,Rd_mono e2 hl,e3⟩
theorem encAt_next {h h':Hp} {D:Rows'} {i:Int} {f:Nat→List Int} {v:Value} {d:Rows'} (he:encAt h D i.toNat f) (hl:Hp.le h h') (h0:0 ≤ i) (hi:i.toNat < D.length) (hc:(D[i.toNat]?.getD []).length = 2) (hr:Rd h' kB v d) (hd:bI d = f i.toNat) (hB:allB d) :
  encAt h' (putD D i 0 [.int .i64 i,v]) (i.toNat + 1) f:=fun j hj=>by
 by_cases hji:j = i.toNat
 ·subst hji
  refine ⟨v,d,?_,hr,hd,hB⟩
  have hs:splice (D[i.toNat]?.getD []) 0 [.int .i64 i,v] = [.int .i64 i,v]:=by
   simp only [splice,List.take_zero,List.nil_append]
   rw [List.drop_eq_nil_of_le (by rw [hc]; exact Nat.le_refl _),List.append_nil]
  rw [putD,List.getElem?_set_self hi,hs,Int.toNat_of_nonneg h0]
 ·obtain ⟨v',d',e1,e2,e3⟩:=he j (by omega)
  exact ⟨v',d',by rw [putD,List.getElem?_set_ne (by omega)]; exact e1,Rd_mono e2 hl,e3⟩
set_option maxRecDepth 20000 in
set_option pp.deepTerms true in
set_option pp.maxSteps 1000000 in
theorem encode31_ok:encode31C.ok Tryz.prog:=encode31_of (by simp [sizes74_ok,piece26_ok,genG_ok,row75_ok,addTo_ok]) fun ρ hg hp=>by
 obtain ⟨hf,hl,hB,hrk⟩:=hp
 have hne:=(fieldD_ne hf).1
 simp (config:={ maxSteps:=4000000 }) [o_encode31,encode31C,encode31I,encode31J,sizes74C,piece26C,genGC,gen35C,row75C,addToC]
 refine ⟨fun h=>(hne h).elim,fun _ v _ hv=>⟨fun hb=>⟨hf,by rw [← hv]; exact hb⟩,fun hb=>?_⟩⟩
 have hsz:sizesB (ρ 2).i (ρ 3).i = true:=by rw [← hv]; exact hb
 obtain ⟨k1,k2,k3⟩:=sizesB_iff.1 hsz
 refine ⟨by omega,fun h=>⟨hf,hsz,h⟩,fun hle l _ e _ _ hpl=>?_⟩
 have hnb:¬ pieceBad (ρ 2).i (ρ 5).i:=by unfold pieceBad; omega
 obtain ⟨hpl1,_⟩:=hpl hnb
 rw [hl,pieceLen_tdiv k1] at hpl1
 have hge:=pieceLen_ge (k:=(ρ 2).i.toNat) (n:=(ρ 7).d.length) (by omega)
 have hlt:=pieceLen_lt (k:=(ρ 2).i.toNat) (n:=(ρ 7).d.length) (by omega)
 have hkl:(ρ 2).i * l.i = (((ρ 2).i.toNat * pieceLen (ρ 2).i.toNat (ρ 7).d.length:Nat):Int):=by rw [hpl1,Int.natCast_mul,Int.toNat_of_nonneg (by omega)]
 rw [mul64 (by omega) (by omega)]
 have hmax:max ((ρ 2).i * l.i) 0 = (ρ 2).i * l.i:=by omega
 refine ⟨by omega,by omega,fun u3 _=>⟨by omega,by omega,fun u4 _=>⟨⟨hf,hsz,hrk hsz⟩,fun u5 _ lg _ cg _ f1 _ dg _ ab _ hf1 _ hM _ hG u11 _=>⟨by omega,by omega,fun u12 _=>⟨⟨?_,fun j hj=>by omega⟩,?_⟩⟩⟩⟩⟩
 ·have htake:(((ρ 7).d.take (ρ 5).i.toNat).take (if (ρ 5).i < (ρ 2).i * l.i then (ρ 5).i else (ρ 2).i * l.i).toNat) = (ρ 7).d:=by
   rw [List.take_of_length_le (l:=(ρ 7).d) (by omega),List.take_of_length_le (by split <;> omega)]
  rw [htake,hpl1]
  exact encW_init hf1 hsz hle hl hB hM hG rfl
 intro l2 _ u14 _ lf _ cf _ u17 _ u18 _ u19 _ i _ f2 _ u22 _ lg2 _ cg2 _ dg2 _ df2 _ D2 _ ab2 _ hW hE
 refine ⟨fun hi=>?_,fun hi u29 _ hst=>?_⟩
 ·have hW':=hW
  obtain ⟨a1,a2,a3,a4,a5,a6,a7,a8,a9,a10,a11,a12,a13,a14,a17,a15,a16⟩:=hW'
  refine ⟨by omega,by omega,fun u29 _=>⟨⟨a15,hi,a12.1⟩,fun o _ n _ c _ ho hn hc=>⟨by omega,⟨hW,hE,hi,ho,hn,by omega,allB_rep,?_⟩,?_⟩⟩⟩
  ·rw [bI_rep]; rfl
  intro l3 _ u34 _ lf3 _ cf3 _ u37 _ u38 _ u39 _ i3 _ f3 _ u42 _ lg3 _ cg3 _ dg3 _ df3 _ D3 _ ab3 _ rp _ cp _ pd _ o3 _ n3 _ c3 _ j _ hW3 hE3 hii hi3 ho3 hn3 j0 j1 hpl hpB hp3
  have hW3':=hW3
  obtain ⟨b1,b2,b3,b4,b5,b6,b7,b8,b9,b10,b11,b12,b13,b14,b17,b15,b16⟩:=hW3'
  obtain ⟨⟨m1,m2,m3,m4,m5,m6,m7,m8⟩,m9⟩:=b12
  have hl0:0 ≤ l3.i:=by omega
  refine ⟨fun hj=>?_,fun hj=>?_⟩
  ·have hjk:j.i < (ρ 2).i:=by omega
   have hbo:=mul_bound (x:=i3.i) (y:=(ρ 2).i) b15 (show i3.i ≤ 255 by omega) (by omega) (show (ρ 2).i ≤ 255 by omega)
   have hbj:=mul_bound (x:=j.i) (y:=l3.i) j0 (show j.i ≤ 255 by omega) hl0 b7
   have hltG:i3.i * (ρ 2).i + j.i < (ρ 3).i * (ρ 2).i:=by
    have:=Int.mul_le_mul_of_nonneg_right (show i3.i + 1 ≤ (ρ 3).i by omega) (show 0 ≤ (ρ 2).i by omega)
    rw [Int.add_mul,Int.one_mul] at this; omega
   have he:(j.i + 1) * l3.i = j.i * l3.i + l3.i:=by rw [Int.add_mul,Int.one_mul]
   have hltF:j.i * l3.i + l3.i ≤ (ρ 2).i * l3.i:=by
    have:=Int.mul_le_mul_of_nonneg_right (show j.i + 1 ≤ (ρ 2).i by omega) hl0
    omega
   have hcell:=allB_get m8 (i:=o3.i + j.i) (by omega) (by omega)
   rw [add64 (by omega) (by omega),mul64 (by omega) (by omega),mul64 (by omega) (by omega),he]
   refine ⟨j0,by omega,by omega,by omega,fun hcap=>⟨by omega,by omega,hbj.1,by omega,by omega,⟨b1,⟨by omega,hl0,by omega,by unfold Go.Eng.big; omega⟩,⟨by split <;> omega,by omega,by split <;> omega,by unfold Go.Eng.big; omega⟩,by omega,hpB,b10,hcell⟩,fun f4 _ d4 _ hf4 hl4 hB4 he4=>?_⟩⟩
   refine ⟨⟨encW_f hW3 hf4,hE3,hii,hi3,ho3,hn3,by omega,by omega,by omega,hB4,?_⟩,by omega⟩
   have hsg:seg (bI df3.d) (if cf3.i = j.i * l3.i then 0 else j.i * l3.i).toNat (j.i * l3.i + l3.i - j.i * l3.i).toNat = seg (bI df3.d) (j.i.toNat * l3.i.toNat) l3.i.toNat:=by
    rw [show j.i * l3.i + l3.i - j.i * l3.i = l3.i by omega]
    split
    ·have:l3.i.toNat = 0:=by omega
     rw [this]; simp [seg]
    ·rw [Int.toNat_mul j0 hl0]
   have hgd:(bI dg3.d).getD (i3.i.toNat * (ρ 2).i.toNat + j.i.toNat) 0 = cellI dg3.d (o3.i + j.i) 0:=by
    have:=bI_get (d:=dg3.d) (i:=o3.i + j.i) (by omega) (by omega)
    rw [show (o3.i + j.i).toNat = i3.i.toNat * (ρ 2).i.toNat + j.i.toNat by rw [ho3,Int.toNat_add hbo.1 j0,Int.toNat_mul b15 (by omega)]] at this
    rw [List.getD_eq_getElem?_getD,this]; rfl
   rw [he4,hp3,hsg,show (j.i + 1).toNat = j.i.toNat + 1 by omega,pieceN,hgd]
  ·have hjk:j.i = (ρ 2).i:=by omega
   refine ⟨b15,hi3,by omega,fun u56 _ hst=>?_⟩
   rw [add64 (by omega) (by omega)]
   refine ⟨⟨encW_next hW3 hi3,?_⟩,by omega⟩
   obtain ⟨ha,la,da⟩:=star_mem hst (List.mem_cons_self ..)
   obtain ⟨hb,lb,db⟩:=star_mem_abs hst (n:=57) (t:=2) (by simp)
   have hr:=arr_Rd (n:=l3.i.toNat) (k:=cp.i.toNat) da la (by simp; omega) (by simp)
   have hr:Rd u56.h kB (.slice (addrOf rp.r 0) l3.i.toNat cp.i.toNat) pd.d:=by simpa [kB] using hr
   have hdl:i3.i.toNat < D3.d.length:=by omega
   rw [show (i3.i + 1).toNat = i3.i.toNat + 1 by omega]
   refine encAt_next hE3 (Hp.le_trans (by simpa using db) lb) b15 hdl (by rw [List.getElem?_eq_getElem hdl]; exact b17 _ (List.getElem_mem hdl)) hr ?_ hpB
   rw [hp3,encP,hjk,b13,b11,bI_len]
   rw [show l3.i.toNat = pieceLen (ρ 2).i.toNat (ρ 7).d.length by omega]
 ·obtain ⟨a1,a2,a3,a4,a5,a6,a7,a8,a9,a10,a11,a12,a13,a14,a17,a15,a16⟩:=hW
  obtain ⟨hb,lb,db⟩:=star_mem_abs hst (n:=37) (t:=2) (by simp)
  refine ⟨a1,hsz,hle,a14,?_⟩
  rw [show i.i.toNat = (ρ 3).i.toNat by omega] at hE
  exact encAt_mono hE (Hp.le_trans (by simpa using db) lb)
end Go.Proofs

set_option linter.unusedSimpArgs false
set_option linter.unusedVariables false
namespace Go.Proofs
open Go Go.Eng

end Go.Proofs

set_option linter.unusedSimpArgs false
set_option linter.unusedVariables false
namespace Go.Proofs
open Go Go.Eng
theorem sizes3_ok:sizes3C.ok Tryz.prog:=sizes3_of (by simp) fun ρ hg hp=>by
 simp [o_sizes3,sizes3C]
 refine ⟨fun h1=>⟨fun h2=>⟨fun h3=>?_,fun h3=>?_⟩,fun h2=>?_⟩,fun h1=>?_⟩
 ·simp [sizes3,h1,h2,h3,cmpOf]
 ·simp [sizes3]; omega
 ·simp [sizes3]; omega
 ·simp [sizes3]; omega
set_option maxRecDepth 20000 in
theorem checkM_ok:checkMC.ok Tryz.prog:=checkM_of (by simp [sizes3_ok]) fun ρ hg hp=>by
 have hp:0 ≤ (ρ 6).i:=hp
 simp [o_checkM,checkMC,sizes3C,manOk,manV,manT,cellsT]
 refine fun u _ hu=>⟨fun h hs=>by (rw [hu,hs] at h; cases h),fun h=>⟨fun a _ b=>by omega,fun a=>⟨fun b _ _ c=>by omega,fun b=>⟨hp,fun c _ _ _=>c,fun c=>⟨by rw [← hu,h],a,b,c⟩⟩⟩⟩⟩
theorem shr8 {x:Int}:arithOf .shr .i64 x 8 = x.fdiv 256:=rfl
set_option maxRecDepth 20000 in
theorem pieceDg_ok:pieceDgC.ok Tryz.prog:=pieceDg_of (by simp [newHash_ok,write_ok,sum_ok]) fun ρ hg hp=>by
 obtain ⟨o0,l0,lc,l1,hle,hB,hGr,hGd⟩:=hp
 simp (config:={ maxSteps:=2000000 }) [o_pieceDg,pieceDgC,newHashC,writeC,sumC,gOk]
 have hseg:segB [[.int .u8 (IntKind.u8.wrap (arithOf .shr .i64 (ρ 0).i 8))],[.int .u8 (IntKind.u8.wrap (ρ 0).i)]] 0 2 = pieceIn (ρ 0).i:=by
  rw [shr8,wrap8,wrap8]; rfl
 refine fun h _ hh=>⟨⟨⟨[],hh,by decide⟩,?_,hGr,hGd⟩,fun g _ hg1=>?_⟩
 ·intro row hr
  simp at hr
  rcases hr with rfl | rfl
  ·simp [rowI,vInt,wrap8]; omega
  ·simp [rowI,vInt,wrap8]; omega
 ·rw [hseg] at hg1
  have h1:=hg1 [] hh
  refine ⟨⟨⟨_,h1,by simp [pieceIn]⟩,o0,l0,lc,by omega,hle,hB,hGr,hGd⟩,fun k _ hk=>⟨⟨⟨_,hk _ h1,?_⟩,hGr,hGd⟩,fun d _ hd=>?_⟩⟩
  ·have:(segB (ρ 5).d (ρ 2).i (ρ 3).i).length ≤ (ρ 3).i.toNat:=by simp [segB]; omega
   simp [pieceIn]; omega
  ·exact (show rowL _ 32 = rowL d.d 32 from rfl).trans (hd _ (hk _ h1))
theorem wThen_ok {lim:Int} {b:Bool} {x m s:List Int} (h:(b,x) = wThen lim false m s) (hf:(m.length:Int) + s.length ≤ lim):b = false∧x = m ++ s:=by
 rw [wThen_fits (by simp [wFull]; omega)] at h
 simpa using h
theorem wrap16 {x:Int}:IntKind.u16.wrap x = x % 65536:=by simp [IntKind.wrap,IntKind.bits,IntKind.signed]
theorem row_dgs {d:Rows'} {i:Nat} (h:i < d.length):rowL [dgCells (cellI d i)] 32 = rowB d[i]:=by
 refine List.map_congr_left fun j hj=>?_
 rw [dgCells_get (List.mem_range.1 hj)]
 simp [cellI,cellV,rowI,h]
theorem dgs_take {d:Rows'} {i:Nat} (h:i < d.length):((dgs d).take (i + 1)).flatten = ((dgs d).take i).flatten ++ rowB d[i]:=by
 rw [List.take_add_one,List.getElem?_eq_getElem (by simpa [dgs] using h)]
 simp [dgs]
set_option maxRecDepth 20000 in
set_option maxHeartbeats 800000 in
theorem encMan_ok:encManC.ok Tryz.prog:=encMan_of (by simp [checkM_ok,newWriter_ok,u8_ok,u16_ok,rawM_ok,raw32_ok,bytes_ok]) fun ρ hg hp=>by
 obtain ⟨l0,hl,ho,hd⟩:=hp
 simp (config:={ maxSteps:=2000000 }) [o_encMan,encManC,encManI,checkMC,newWriterC,u8C,u16C,numFn,rawMC,raw32C,bytesC,wHeap,wCells,wPost]
 refine ⟨l0,fun e _ he=>⟨fun hne=>?_,fun hz lim _ hlim=>?_⟩⟩
 ·by_cases h:manOk (ρ 0).i (ρ 1).i (ρ 2).i (ρ 3).i (ρ 6).i = true
  ·rw [if_pos h] at he; exact absurd he hne
  ·rw [if_neg h] at he; exact ⟨he.symm,by simpa using h⟩
 ·have hok:manOk (ρ 0).i (ρ 1).i (ρ 2).i (ρ 3).i (ρ 6).i = true:=by
   by_cases h:manOk (ρ 0).i (ρ 1).i (ρ 2).i (ρ 3).i (ρ 6).i = true
   ·exact h
   ·rw [if_neg h] at he; omega
  have hb:=hok
  simp [manOk,sizes3] at hb
  obtain ⟨⟨b1,b2,b3,b4⟩,b5,b6,b7⟩:=hb
  have hl2:lim.i = 39 + 32 * (ρ 2).i:=by
   rw [hlim,mul64 (by omega) (by omega),add64 (by omega) (by omega)]; omega
  clear hlim
  simp only [wrap8,wrap16]
  have hman:List.drop 4 (rowL [([.int .i64 (ρ 0).i,.int .i64 (ρ 1).i,.int .i64 (ρ 2).i,.int .i64 (ρ 3).i] ++ (dgCells (cellX (ρ 4).d) ++ [.slice (addrOf (ρ 5).r 0) (ρ 6).i.toNat (ρ 7).i.toNat]):List Value)] 36) = rowL (ρ 4).d 32:=rfl
  have hone:oneRow [([.int .i64 (ρ 0).i,.int .i64 (ρ 1).i,.int .i64 (ρ 2).i,.int .i64 (ρ 3).i] ++ (dgCells (cellX (ρ 4).d) ++ [.slice (addrOf (ρ 5).r 0) (ρ 6).i.toNat (ρ 7).i.toNat]):List Value)] 37:=⟨_,rfl,by simp [dgCells]⟩
  have hlen:∀ {l n c:Int} {d:Rows'},wOk l n c d→n = ((bI d).length:Int):=fun h=>by rw [bI_len]; exact h.2.2.1
  refine ⟨⟨by omega,by omega,rfl,by omega,by intro r hr; cases hr⟩,fun f1 _ n1 _ c1 _ d1 _ w1 g1=>?_⟩
  obtain ⟨y1,x1⟩:=wThen_ok g1 (by rw [hl2]; simp [bI,beL_len]; omega)
  have L1:(bI d1.d).length = 2:=by rw [x1]; simp [bI,beL_len]
  have q1:=hlen w1
  refine ⟨⟨w1,by omega,by omega,by omega⟩,fun f2 _ n2 _ c2 _ d2 _ w2 g2=>?_⟩
  rw [y1] at g2
  obtain ⟨y2,x2⟩:=wThen_ok g2 (by rw [hl2,L1,beL_len]; omega)
  have L2:(bI d2.d).length = 3:=by rw [x2,List.length_append,L1,beL_len]
  have q2:=hlen w2
  refine ⟨⟨w2,by omega,by omega,by omega⟩,fun f3 _ n3 _ c3 _ d3 _ w3 g3=>?_⟩
  rw [y2] at g3
  obtain ⟨y3,x3⟩:=wThen_ok g3 (by rw [hl2,L2,beL_len]; omega)
  have L3:(bI d3.d).length = 4:=by rw [x3,List.length_append,L2,beL_len]
  have q3:=hlen w3
  refine ⟨⟨w3,by omega,by omega,by omega⟩,fun f4 _ n4 _ c4 _ d4 _ w4 g4=>?_⟩
  rw [y3] at g4
  obtain ⟨y4,x4⟩:=wThen_ok g4 (by rw [hl2,L3,beL_len]; omega)
  have L4:(bI d4.d).length = 5:=by rw [x4,List.length_append,L3,beL_len]
  have q4:=hlen w4
  refine ⟨⟨w4,by omega,by omega,by omega⟩,fun f5 _ n5 _ c5 _ d5 _ w5 g5=>?_⟩
  rw [y4] at g5
  obtain ⟨y5,x5⟩:=wThen_ok g5 (by rw [hl2,L4,beL_len]; omega)
  have L5:(bI d5.d).length = 7:=by rw [x5,List.length_append,L4,beL_len]
  have q5:=hlen w5
  refine ⟨⟨w5,by omega,hone,?_⟩,fun f6 _ n6 _ c6 _ d6 _ w6 g6=>?_⟩
  ·have:=hman
   exact this ▸ ho
  have g6':(f6.b,bI d6.d) = wThen lim.i f5.b (bI d5.d) (rowL (ρ 4).d 32):=g6
  rw [y5] at g6'
  obtain ⟨y6,x6⟩:=wThen_ok g6' (by rw [hl2,L5,rowL_len]; omega)
  have hhead:bI d6.d = manHead (ρ 0).i (ρ 1).i (ρ 2).i (ρ 3).i (rowL (ρ 4).d 32):=by
   rw [x6,x5,x4,x3,x2,x1]
   simp [manHead,bI,List.append_assoc]
  refine ⟨l0,⟨hok,l0,hl2,y6,w6,hhead⟩,fun lim2 _ f _ n _ c _ d _ t _ _ t0 t1 z1 z2 z3 z4=>⟨fun hlt=>?_,fun hge=>?_⟩⟩
  ·obtain ⟨T,hT⟩:∃ T:Nat,t.i = T:=⟨t.i.toNat,by omega⟩
   have m1:arithOf .add .i64 t.i 1 = ((T + 1:Nat):Int):=by rw [add64 (by omega) (by omega)]; omega
   have hTl:T < (ρ 8).d.length:=by omega
   have hrow:=row_dgs hTl
   have hnl:n.i = 39 + 32 * t.i:=by
    have h1:=hlen z3
    rw [z4,List.length_append] at h1
    have h2:∀ (k:Nat),k ≤ (ρ 8).d.length→((dgs (ρ 8).d).take k).flatten.length = 32 * k:=fun k=>by
     induction k with
     | zero=>intro _; simp
     | succ k ih=>intro hk; rw [dgs_take (by omega),List.length_append,ih (by omega)]; simp [rowB]; omega
    rw [h2 _ (by omega)] at h1
    have h3:(manHead (ρ 0).i (ρ 1).i (ρ 2).i (ρ 3).i (rowL (ρ 4).d 32)).length = 39:=by simp [manHead,beL_len,rowL_len]
    omega
   rw [hT] at z4 hnl ⊢
   rw [← hT,m1,hT]
   refine ⟨by omega,by omega,⟨z3,by omega,⟨_,rfl,rfl⟩,?_⟩,fun f7 _ n7 _ c7 _ d7 _ w7 g7=>?_⟩
   ·have h1:allM (rowB (ρ 8).d[T]):=(hd _ (List.getElem_mem hTl)).2
    rw [← hrow] at h1
    exact h1
   ·have g7':(f7.b,bI d7.d) = wThen lim2.i f.b (bI d.d) (rowL [dgCells (cellI (ρ 8).d T)] 32):=g7
    rw [z2,hrow] at g7'
    have hbl:(rowB (ρ 8).d[T]).length = 32:=by simp [rowB]
    obtain ⟨y7,x7⟩:=wThen_ok g7' (by rw [← hlen z3,hbl]; omega)
    refine ⟨⟨hok,by omega,by omega,z1,y7,w7,?_⟩,by omega⟩
    rw [x7,z4]
    simp only [Int.toNat_natCast]
    rw [dgs_take hTl,List.append_assoc]
  ·have ht:t.i.toNat = (ρ 8).d.length:=by omega
   rw [ht] at z4
   rw [List.take_of_length_le (by simp [dgs])] at z4
   refine ⟨⟨z3,?_⟩,z2,fun e _ _ he=>⟨hok,by rw [he]; exact z3.2.2.1,by rw [he]; exact z3.2.2.2.2,by rw [he]; exact z4⟩⟩
   have:=z3.2.2.2.1
   omega
end Go.Proofs

set_option linter.unusedSimpArgs false
set_option linter.unusedVariables false
namespace Go.Proofs
open Go Go.Eng
theorem sha_allM (m:List Int):allM (sha m):=fun x hx=>by
 obtain ⟨j,_,rfl⟩:=List.mem_map.1 hx
 omega
theorem madeAt_len {f:Nat→List Int} {n:Nat}:(madeAt f n).length = n:=by simp [madeAt]
theorem pieceN_len {g full:List Int} {k l i:Nat}:∀ j,(pieceN g full k l i j).length = l
 | 0=>by simp [pieceN]
 | j + 1=>by rw [pieceN,addToL_len,pieceN_len j]
theorem encP_len {k total:Nat} {data:List Int} {i:Nat}:(encP k total data i).length = pieceLen k data.length:=pieceN_len k
theorem dgs_snoc {d:Rows'} {r:List Value}:dgs (d ++ [r]) = dgs d ++ [rowB r]:=by simp [dgs]
theorem madeAt_snoc {f:Nat→List Int} {n:Nat}:madeAt f (n + 1) = madeAt f n ++ [sha (pieceIn n ++ f n)]:=by simp [madeAt,List.range_succ]
theorem rowB_dg {d:Rows'}:rowB (dgCells (cellX d)) = rowL d 32:=rfl
set_option maxRecDepth 20000 in
set_option maxHeartbeats 1600000 in
theorem make_ok:makeC.ok Tryz.prog:=make_of (by simp [sizes3_ok,encode31_ok,sha256_ok,pieceDg_ok]) fun ρ hg hp=>by
 obtain ⟨hf,hl,hlc,hB,⟨hGr,hGd⟩,htop⟩:=hp
 simp (config:={ maxSteps:=2000000 }) [o_make,makeC,makeI,sizes3C,encode31C,sha256C,pieceDgC,gOk,bytesIn]
 have hnn:=fieldD_ne hf
 refine fun u _=>⟨fun h=>absurd h hnn.1,fun _ b _ hb=>⟨fun hz=>⟨hf,by rw [← hb]; exact hz⟩,fun hz=>?_⟩⟩
 rw [hz] at hb
 have hs3:=hb.symm
 have hs3':=hs3
 simp [sizes3] at hs3'
 obtain ⟨b1,b2,b3,b4⟩:=hs3'
 have hsB:sizesB (ρ 2).i (ρ 4).i = true:=by simp [sizesB]; omega
 have hsz:sizesB (ρ 2).i (ρ 4).i = false→False:=fun h=>by rw [hsB] at h; cases h
 refine ⟨⟨hf,hl,hB,htop⟩,fun e _ f _ hf2 he=>⟨fun hne=>⟨hf2,?_⟩,fun hz2=>?_⟩,fun _ _ _ _ f _ P _ ab _ hf2 _ hle hPl hE=>⟨by omega,⟨⟨by omega,hlc,by omega,by omega,hB⟩,hGr,hGd⟩,fun o _ ho _ _=>⟨by omega,⟨hf2,hs3,hle,by omega,hPl,hE,?_,?_,?_⟩,fun _ _ _ _ _ _ o2 _ _ _ t _ _ _ Ds _ P2 _ _ _ f2 _ ab2 _ hf3 _ _ t0 t1 hPl2 hE2 ho2 hDl hDo hDm=>⟨fun hlt=>?_,fun hge=>?_⟩⟩⟩⟩
 ·rcases he with ⟨h,_⟩ | ⟨_,h1,h2⟩
  ·exact (hsz h).elim
  ·exact .inr ⟨hs3,h1,h2⟩
 ·rcases he with ⟨h,_⟩ | ⟨_,h1,h2⟩
  ·exact (hsz h).elim
  ·omega
 ·rw [segB_all hl] at ho
  exact ho
 ·intro r hr; cases hr
 ·rfl
 ·obtain ⟨T,hT⟩:∃ T:Nat,t.i = T:=⟨t.i.toNat,by omega⟩
  have m1:arithOf .add .i64 t.i 1 = ((T + 1:Nat):Int):=by rw [add64 (by omega) (by omega)]; omega
  obtain ⟨v,d,e1,e2,e3,e4⟩:=hE2 T (by omega)
  have hcv:cellV P2.d t.i 1 = v:=by rw [hT]; simp [cellV,e1]
  have hci:cellI P2.d t.i 0 = (T:Int):=by rw [hT]; simp [cellI,cellV,e1,vInt]
  rw [m1,hcv,hci]
  have hdl:d.length ≤ (ρ 8).d.length:=by
   have h1:=congrArg List.length e3
   rw [bI_len,encP_len,bI_len] at h1
   have:=pieceLen_le (k:=(ρ 2).i.toNat) (n:=(ρ 8).d.length) (by omega)
   omega
  refine ⟨by omega,by omega,fun _ _=>⟨d,e2,fun r0 _ c1 _ hv hcl=>⟨⟨hcl,by omega,e4,hGr,hGd⟩,fun g _ hg2 _ _=>⟨by omega,by omega,fun _ _ _ _ ab3 _ hst=>⟨by omega,⟨hf3,hs3,hle,by omega,by omega,hPl2,?_,ho2,by omega,?_,?_⟩,by omega⟩⟩⟩⟩⟩
  ·obtain ⟨hb2,lb,db⟩:=star_mem_abs hst (n:=32) (t:=2) (by simp)
   exact encAt_mono hE2 (Hp.le_trans (by simpa using db) lb)
  ·intro r hr
   rcases List.mem_append.1 hr with hr | hr
   ·exact hDo r hr
   ·obtain rfl:=List.mem_singleton.1 hr
    refine ⟨rfl,?_⟩
    have:allM (rowL g.d 32):=by rw [hg2]; exact sha_allM _
    exact this
  ·have hh:dgs (Ds.d ++ [dgCells (cellX g.d)]) = madeAt (encP (ρ 2).i.toNat (ρ 4).i.toNat (bI (ρ 8).d)) (T + 1):=by
    rw [dgs_snoc,rowB_dg,hg2,segB_all rfl,e3,hDm,hT,Int.toNat_natCast,madeAt_snoc]
   exact hh
 ·have ht:t.i = (ρ 4).i:=by omega
  refine fun ab3 _ hst=>⟨by omega,hf3,hs3,hle,hPl2,?_,ho2,hDo,by rw [hDm,ht]⟩
  obtain ⟨hb2,lb,db⟩:=star_mem_abs hst (n:=32) (t:=2) (by simp)
  exact encAt_mono hE2 (Hp.le_trans (by simpa using db) lb)
end Go.Proofs

set_option linter.unusedSimpArgs false
set_option linter.unusedVariables false
namespace Go.Proofs
open Go Go.Eng
set_option maxRecDepth 20000
end Go.Proofs

set_option linter.unusedSimpArgs false
set_option linter.unusedVariables false
namespace Go.Eng
open Go Go.Proofs
end Go.Eng

set_option linter.unusedSimpArgs false
set_option linter.unusedVariables false
set_option maxRecDepth 100000
namespace Go.Proofs
open Go Go.Eng

end Go.Proofs

set_option linter.unusedSimpArgs false
set_option linter.unusedVariables false
namespace Go.Proofs
open Go Go.Eng
set_option maxRecDepth 20000
end Go.Proofs

set_option linter.unusedSimpArgs false
set_option linter.unusedVariables false
namespace Go.Proofs
open Go Go.Eng
set_option maxRecDepth 20000
end Go.Proofs

set_option linter.unusedSimpArgs false
set_option linter.unusedVariables false
namespace Go.Eng
open Go Go.Proofs
end Go.Eng

set_option linter.unusedSimpArgs false
set_option linter.unusedVariables false
set_option maxRecDepth 100000
namespace Go.Proofs
open Go Go.Eng

end Go.Proofs

set_option linter.unusedSimpArgs false
set_option linter.unusedVariables false
namespace Go.Proofs
open Go Go.Eng
set_option maxRecDepth 20000
end Go.Proofs

set_option linter.unusedSimpArgs false
set_option linter.unusedVariables false
namespace Go.Eng
open Go Go.Proofs
end Go.Eng

set_option linter.unusedSimpArgs false
set_option linter.unusedVariables false
set_option maxRecDepth 100000
namespace Go.Proofs
open Go Go.Eng

end Go.Proofs

set_option linter.unusedSimpArgs false
set_option linter.unusedVariables false
namespace Go.Proofs
open Go Go.Eng
set_option maxRecDepth 20000
theorem dgs_len {D:Rows'}:(dgs D).length = D.length:=by simp [dgs]
end Go.Proofs

set_option linter.unusedSimpArgs false
set_option linter.unusedVariables false
namespace Go.Proofs
open Go Go.Eng
set_option maxRecDepth 20000
end Go.Proofs

set_option linter.unusedSimpArgs false
set_option linter.unusedVariables false
namespace Go.Eng
open Go Go.Proofs
def manIn (ρ:Env) (r:Nat):Prop:=i64P (ρ r).i∧i64P (ρ (r + 1)).i∧i64P (ρ (r + 2)).i∧i64P (ρ (r + 3)).i∧allM (rowL (ρ (r + 4)).d 32)∧(ρ (r + 6)).i = (ρ (r + 8)).d.length∧(ρ (r + 6)).i ≤ 4398046510976∧dgsOk (ρ (r + 8)).d
def manB (ρ:Env):List Int:=manHead (ρ 0).i (ρ 1).i (ρ 2).i (ρ 3).i (rowL (ρ 4).d 32) ++ (dgs (ρ 8).d).flatten
def manO (ρ:Env):Bool:=manOk (ρ 0).i (ρ 1).i (ρ 2).i (ρ 3).i (ρ 6).i
def idPre (ρ:Env):Prop:=(ρ 6).i = (ρ 8).d.length∧allM (rowL (ρ 4).d 32)∧dgsOk (ρ 8).d
def idAlts:List Alt:=[
 { k:=2,ret:=.tup [(true,cellsT .u8 12 32),eRet (.var 13)],heap:=[],post:=fun ρ=>(manO ρ = false∧(ρ 13).i = 2∧rowL (ρ 12).d 32 = List.replicate 32 0)∨(manO ρ = true∧(ρ 13).i = 0∧rowL (ρ 12).d 32 = sha (manB ρ)) }]
def idC:Ctr:={ fn := 44,nv:=12,ip:=[gIp 10,(1005,9)],args:=[manV],heap:=[],ro:=[dgsHp 5 8 9,gHp 10 11],pre:=fun ρ=>idPre ρ∧gOk ρ 10 11 gR,alts:=idAlts }
end Go.Eng

set_option linter.unusedSimpArgs false
set_option linter.unusedVariables false
set_option maxRecDepth 100000
namespace Go.Proofs
open Go Go.Eng

end Go.Proofs

set_option linter.unusedSimpArgs false
set_option linter.unusedVariables false
namespace Go.Proofs
open Go Go.Eng
set_option maxRecDepth 20000
theorem flat_len {l:List (List Int)} (h:∀ x ∈ l,x.length = 32):l.flatten.length = 32 * l.length:=by
 induction l with
 | nil=>rfl
 | cons x r ih =>
  rw [List.flatten_cons,List.length_append,h x (List.mem_cons_self ..),ih (fun y hy=>h y (List.mem_cons_of_mem _ hy)),List.length_cons]; omega
theorem flat_at {l:List (List Int)} (h:∀ x ∈ l,x.length = 32):∀ {j:Nat} (hj:j < l.length),(l.flatten.drop (32 * j)).take 32 = l[j]:=by
 induction l with
 | nil=>intro j hj; simp at hj
 | cons x r ih =>
  intro j hj
  have hx:=h x (List.mem_cons_self ..)
  cases j with
  | zero=>simp [List.take_left' hx]
  | succ j =>
   rw [List.flatten_cons,show 32 * (j + 1) = x.length + 32 * j by omega,List.drop_length_add_append]
   exact ih (fun y hy=>h y (List.mem_cons_of_mem _ hy)) (by simpa using hj)
theorem dgs_32 {D:Rows'}:∀ x ∈ dgs D,x.length = 32:=fun x hx=>by
 obtain ⟨r,_,rfl⟩:=List.mem_map.1 hx
 simp [rowB]
end Go.Proofs

set_option linter.unusedSimpArgs false
set_option linter.unusedVariables false
namespace Go.Proofs
open Go Go.Eng
def rowI8 (d:Rows') (i:Int):List Int:=(List.range 32).map fun k=>cellI d i k
@[simp high] theorem rowL_x8 (d:Rows'):rowL [[.int .u8 (cellX d 0),.int .u8 (cellX d 1),.int .u8 (cellX d 2),.int .u8 (cellX d 3),.int .u8 (cellX d 4),.int .u8 (cellX d 5),.int .u8 (cellX d 6),.int .u8 (cellX d 7),.int .u8 (cellX d 8),.int .u8 (cellX d 9),.int .u8 (cellX d 10),.int .u8 (cellX d 11),.int .u8 (cellX d 12),.int .u8 (cellX d 13),.int .u8 (cellX d 14),.int .u8 (cellX d 15),.int .u8 (cellX d 16),.int .u8 (cellX d 17),.int .u8 (cellX d 18),.int .u8 (cellX d 19),.int .u8 (cellX d 20),.int .u8 (cellX d 21),.int .u8 (cellX d 22),.int .u8 (cellX d 23),.int .u8 (cellX d 24),.int .u8 (cellX d 25),.int .u8 (cellX d 26),.int .u8 (cellX d 27),.int .u8 (cellX d 28),.int .u8 (cellX d 29),.int .u8 (cellX d 30),.int .u8 (cellX d 31)]] 32 = rowL d 32:=rfl
@[simp high] theorem rowL_i8 (d:Rows') (i:Int):rowL [[.int .u8 (cellI d i 0),.int .u8 (cellI d i 1),.int .u8 (cellI d i 2),.int .u8 (cellI d i 3),.int .u8 (cellI d i 4),.int .u8 (cellI d i 5),.int .u8 (cellI d i 6),.int .u8 (cellI d i 7),.int .u8 (cellI d i 8),.int .u8 (cellI d i 9),.int .u8 (cellI d i 10),.int .u8 (cellI d i 11),.int .u8 (cellI d i 12),.int .u8 (cellI d i 13),.int .u8 (cellI d i 14),.int .u8 (cellI d i 15),.int .u8 (cellI d i 16),.int .u8 (cellI d i 17),.int .u8 (cellI d i 18),.int .u8 (cellI d i 19),.int .u8 (cellI d i 20),.int .u8 (cellI d i 21),.int .u8 (cellI d i 22),.int .u8 (cellI d i 23),.int .u8 (cellI d i 24),.int .u8 (cellI d i 25),.int .u8 (cellI d i 26),.int .u8 (cellI d i 27),.int .u8 (cellI d i 28),.int .u8 (cellI d i 29),.int .u8 (cellI d i 30),.int .u8 (cellI d i 31)]] 32 = rowI8 d i:=rfl
@[simp high] theorem mapV_x8 (d:Rows'):([.int .u8 (cellX d 0),.int .u8 (cellX d 1),.int .u8 (cellX d 2),.int .u8 (cellX d 3),.int .u8 (cellX d 4),.int .u8 (cellX d 5),.int .u8 (cellX d 6),.int .u8 (cellX d 7),.int .u8 (cellX d 8),.int .u8 (cellX d 9),.int .u8 (cellX d 10),.int .u8 (cellX d 11),.int .u8 (cellX d 12),.int .u8 (cellX d 13),.int .u8 (cellX d 14),.int .u8 (cellX d 15),.int .u8 (cellX d 16),.int .u8 (cellX d 17),.int .u8 (cellX d 18),.int .u8 (cellX d 19),.int .u8 (cellX d 20),.int .u8 (cellX d 21),.int .u8 (cellX d 22),.int .u8 (cellX d 23),.int .u8 (cellX d 24),.int .u8 (cellX d 25),.int .u8 (cellX d 26),.int .u8 (cellX d 27),.int .u8 (cellX d 28),.int .u8 (cellX d 29),.int .u8 (cellX d 30),.int .u8 (cellX d 31)]:List Value).map vInt = rowL d 32:=rfl
@[simp high] theorem mapV_i8 (d:Rows') (i:Int):([.int .u8 (cellI d i 0),.int .u8 (cellI d i 1),.int .u8 (cellI d i 2),.int .u8 (cellI d i 3),.int .u8 (cellI d i 4),.int .u8 (cellI d i 5),.int .u8 (cellI d i 6),.int .u8 (cellI d i 7),.int .u8 (cellI d i 8),.int .u8 (cellI d i 9),.int .u8 (cellI d i 10),.int .u8 (cellI d i 11),.int .u8 (cellI d i 12),.int .u8 (cellI d i 13),.int .u8 (cellI d i 14),.int .u8 (cellI d i 15),.int .u8 (cellI d i 16),.int .u8 (cellI d i 17),.int .u8 (cellI d i 18),.int .u8 (cellI d i 19),.int .u8 (cellI d i 20),.int .u8 (cellI d i 21),.int .u8 (cellI d i 22),.int .u8 (cellI d i 23),.int .u8 (cellI d i 24),.int .u8 (cellI d i 25),.int .u8 (cellI d i 26),.int .u8 (cellI d i 27),.int .u8 (cellI d i 28),.int .u8 (cellI d i 29),.int .u8 (cellI d i 30),.int .u8 (cellI d i 31)]:List Value).map vInt = rowI8 d i:=rfl
@[simp high] theorem rowL_z8:rowL [[.int .u8 0,.int .u8 0,.int .u8 0,.int .u8 0,.int .u8 0,.int .u8 0,.int .u8 0,.int .u8 0,.int .u8 0,.int .u8 0,.int .u8 0,.int .u8 0,.int .u8 0,.int .u8 0,.int .u8 0,.int .u8 0,.int .u8 0,.int .u8 0,.int .u8 0,.int .u8 0,.int .u8 0,.int .u8 0,.int .u8 0,.int .u8 0,.int .u8 0,.int .u8 0,.int .u8 0,.int .u8 0,.int .u8 0,.int .u8 0,.int .u8 0,.int .u8 0]] 32 = List.replicate 32 0:=rfl
@[simp high] theorem mapV_z8:([.int .u8 0,.int .u8 0,.int .u8 0,.int .u8 0,.int .u8 0,.int .u8 0,.int .u8 0,.int .u8 0,.int .u8 0,.int .u8 0,.int .u8 0,.int .u8 0,.int .u8 0,.int .u8 0,.int .u8 0,.int .u8 0,.int .u8 0,.int .u8 0,.int .u8 0,.int .u8 0,.int .u8 0,.int .u8 0,.int .u8 0,.int .u8 0,.int .u8 0,.int .u8 0,.int .u8 0,.int .u8 0,.int .u8 0,.int .u8 0,.int .u8 0,.int .u8 0]:List Value).map vInt = List.replicate 32 0:=rfl
theorem rowI8_dgs {d:Rows'} {i:Int} (h0:0 ≤ i) (h1:i < d.length):rowI8 d i = (dgs d).getD i.toNat []:=by
 have hl:i.toNat < d.length:=by omega
 have h2:(dgs d).getD i.toNat [] = rowB d[i.toNat]:=by simp [dgs,hl]
 rw [h2]
 refine List.map_congr_left fun k hk=>?_
 simp [cellI,cellV,rowI,hl]
end Go.Proofs

set_option linter.unusedSimpArgs false
set_option linter.unusedVariables false
namespace Go.Eng
open Go

end Go.Eng

set_option linter.unusedSimpArgs false
set_option linter.unusedVariables false
namespace Go.Eng
open Go Go.Proofs
def pieceArg (r:Nat):SV:=.agg [.vint .i64 (.var r),.vslice (r + 1) (.lit 0) (.var (r + 2)) (.var (r + 3)) 1]
def pieceHp (r:Nat):SH:=bHp (r + 1) (r + 4) (r + 5)
def pieceArgIn (ρ:Env) (r:Nat):Prop:=(ρ (r + 2)).i = (ρ (r + 4)).d.length∧(ρ (r + 2)).i ≤ (ρ (r + 3)).i∧(ρ (r + 2)).i ≤ 100000000∧allB (ρ (r + 4)).d
def plenI (k s:Int):Int:=(s + k - 1).tdiv k
def chkE (k n t s l:Int) (D:List (List Int)) (i:Int) (m:List Int):Int:=if manOk k n t s l = false then 2 else if i < 0∨t ≤ i then 2 else if (m.length:Int) ≠ plenI k s then 10 else if sha (pieceIn i ++ m) ≠ D.getD i.toNat [] then 20 else 0
def chkPre (ρ:Env):Prop:=i64P (ρ 0).i∧i64P (ρ 3).i∧(ρ 6).i = (ρ 8).d.length∧dgsOk (ρ 8).d∧pieceArgIn ρ 10
def chkAlts:List Alt:=[{ k:=1,ret:=iv .i64 (.var 18),heap:=[],post:=fun ρ=>(ρ 18).i = chkE (ρ 0).i (ρ 1).i (ρ 2).i (ρ 3).i (ρ 6).i (dgs (ρ 8).d) (ρ 10).i (bI (ρ 14).d) }]
def checkPC:Ctr:={ fn := 60,nv:=18,ip:=[gIp 16],args:=[manV,pieceArg 10],heap:=[],ro:=[dgsHp 5 8 9,pieceHp 10,gHp 16 17],pre:=fun ρ=>chkPre ρ∧gOk ρ 16 17 gR,alts:=chkAlts }
end Go.Eng

set_option linter.unusedSimpArgs false
set_option linter.unusedVariables false
set_option maxRecDepth 100000
namespace Go.Proofs
open Go Go.Eng

@[simp] def o_id_1:Sg:=sg 0 [bv 9 9,bv 8 8,bv 7 7,bv 6 6,bg 5 5,bv 3 3,bv 2 2,bv 1 1,bv 0 0,bt 4 (r8 4)]
def o_id:Out:=(.fresh 12 (.fresh 13 (.pre 0 o_id_1 (.both (.post 0 0 o_id_1 14 (.ret 0 (sg 12 [bt 13 (.lit 2),bt 12 z8]))) (.both (.fresh 14 (.fresh 15 (.fresh 16 (.fresh 17 (.post 0 1 o_id_1 14 (.know (.cmp .leq (.dlen (.var 17)) (.var 16)) (.pre 1 (sg 0 [bv 7 11,bv 5 16,bv 4 17,bv 3 16,bv 2 15,bt 1 (.lit 0),bg 0 14,bg 6 10]) (.both (.fresh 18 (.post 1 0 (sg 0 [bv 7 11,bv 5 16,bv 4 17,bv 3 16,bv 2 15,bt 1 (.lit 0),bg 0 14,bg 6 10]) 18 (.ret 0 (sg 12 [bt 13 (.lit 0),bt 12 (r8 18)])))) .top)))))))) .top)))))
theorem o_id_eq:treeOf ⟨Tryz.prog,idC,[encManC,sha256C],[]⟩ 100000 Tryz.f44 = o_id:=by kernel_rfl
theorem id_of (hd:∀ c ∈ ([encManC,sha256C]:List Ctr),c.ok Tryz.prog) (h:∀ ρ:Env,ρ.good→(idC).pre ρ→o_id.den ⟨Tryz.prog,idC,[encManC,sha256C],[]⟩ ρ):(idC).ok Tryz.prog :=
 ok_of_tree Tryz.func44 (fun a w=>Tryz.call44 a w) hd 100000 (fun ρ hg hp=>by rw [o_id_eq]; exact h ρ hg hp)
end Go.Proofs

set_option linter.unusedSimpArgs false
set_option linter.unusedVariables false
set_option maxRecDepth 100000
namespace Go.Proofs
open Go Go.Eng
theorem log_exp:∀ i:Fin 255,logL.getD (expL.getD i.val 0).toNat 0 = i.val:=by decide +kernel
theorem exp_log:∀ a:Fin 256,a.val ≠ 0→expL.getD (logL.getD a.val 0).toNat 0 = a.val:=by decide +kernel
theorem exp_per:∀ i:Fin 255,expL.getD (i.val + 255) 0 = expL.getD i.val 0:=by decide +kernel
end Go.Proofs

set_option linter.unusedSimpArgs false
set_option linter.unusedVariables false
namespace Go.Proofs
open Go Go.Eng

abbrev F:=BitVec 8
def toF (x:Int):F:=BitVec.ofInt 8 x
def ofF (x:F):Int:=(x.toNat:Nat)
def isB (x:Int):Prop:=0 ≤ x∧x < 256
theorem ofF_isB {x:F}:isB (ofF x):=⟨Int.natCast_nonneg _,by have:=x.isLt; unfold ofF; omega⟩
theorem toF_ofF {x:F}:toF (ofF x) = x:=by
 unfold toF ofF
 apply BitVec.eq_of_toNat_eq
 rw [BitVec.toNat_ofInt]
 have:=x.isLt
 omega
theorem toF_toNat {x:Int} (h:isB x):(toF x).toNat = x.toNat:=by
 obtain ⟨h0,h1⟩:=h
 unfold toF
 rw [BitVec.toNat_ofInt]
 omega
theorem ofF_toF {x:Int} (h:isB x):ofF (toF x) = x:=by
 unfold ofF
 rw [toF_toNat h]
 obtain ⟨h0,h1⟩:=h
 omega
theorem toF_inj {x y:Int} (hx:isB x) (hy:isB y) (h:toF x = toF y):x = y:=by rw [← ofF_toF hx,← ofF_toF hy,h]
theorem toF_zero:toF 0 = 0:=rfl
theorem toF_eq_zero {x:Int} (h:isB x):toF x = 0↔x = 0:=⟨fun e=>toF_inj h ⟨by omega,by omega⟩ e,fun e=>by rw [e]; rfl⟩
theorem xorB_F {x y:Int}:xorB x y = ofF (toF x ^^^ toF y):=by
 have h:(BitVec.ofInt 8 x ^^^ BitVec.ofInt 8 y).toNat < 256:=(BitVec.ofInt 8 x ^^^ BitVec.ofInt 8 y).isLt
 unfold xorB arithOf ofF toF
 show IntKind.u8.wrap _ = _
 have hb:IntKind.u8.bits = 8:=rfl
 rw [hb]
 generalize (BitVec.ofInt 8 x ^^^ BitVec.ofInt 8 y).toNat = z at h ⊢
 simp only [IntKind.wrap,IntKind.bits,IntKind.signed]
 simp
 omega
theorem toF_xorB {x y:Int}:toF (xorB x y) = toF x ^^^ toF y:=by rw [xorB_F,toF_ofF]

def expF (n:Nat):F:=BitVec.ofNat 8 (expL.getD (n % 255) 0).toNat
def logF (x:F):Nat:=(logL.getD x.toNat 0).toNat
def fmul (x y:F):F:=if x = 0∨y = 0 then 0 else expF (logF x + logF y)
def finv (x:F):F:=if x = 0 then 0 else expF (255 - logF x)
theorem expF_mod {n:Nat}:expF (n % 255) = expF n:=by unfold expF; rw [Nat.mod_mod]
theorem expF_congr {n m:Nat} (h:n % 255 = m % 255):expF n = expF m:=by rw [← expF_mod,h,expF_mod]
theorem expF_toNat {n:Nat}:(expF n).toNat = (expL.getD (n % 255) 0).toNat:=by
 have h:=expL_range ⟨n % 255,by omega⟩
 simp only at h
 unfold expF
 rw [BitVec.toNat_ofNat]
 omega
theorem expF_ne {n:Nat}:expF n ≠ 0:=fun h=>by
 have h1:=congrArg BitVec.toNat h
 rw [expF_toNat] at h1
 have h2:=expL_range ⟨n % 255,by omega⟩
 simp only at h2
 rw [show (0:F).toNat = 0 by rfl] at h1
 omega
theorem logF_lt {x:F}:logF x < 255:=by
 have:=logL_range ⟨x.toNat,x.isLt⟩
 simp only at this
 unfold logF
 omega
theorem exp_logF {x:F} (h:x ≠ 0):expF (logF x) = x:=by
 apply BitVec.eq_of_toNat_eq
 have h0:x.toNat ≠ 0:=fun e=>h (BitVec.eq_of_toNat_eq (by rw [e]; rfl))
 have h1:=exp_log ⟨x.toNat,x.isLt⟩ h0
 simp only at h1
 rw [expF_toNat,Nat.mod_eq_of_lt logF_lt,logF,h1]
 omega
theorem log_expF {n:Nat}:logF (expF n) = n % 255:=by
 have h:=log_exp ⟨n % 255,by omega⟩
 simp only at h
 unfold logF
 rw [expF_toNat,h]
 omega
theorem expF_zero:expF 0 = 1:=by decide
theorem fmul_comm {x y:F}:fmul x y = fmul y x:=by
 unfold fmul
 by_cases hx:x = 0
 ·simp [hx]
 ·by_cases hy:y = 0
  ·simp [hy]
  ·rw [if_neg (not_or.2 ⟨hx,hy⟩),if_neg (not_or.2 ⟨hy,hx⟩),Nat.add_comm]
theorem fmul_zero {x:F}:fmul x 0 = 0:=by simp [fmul]
theorem zero_fmul {x:F}:fmul 0 x = 0:=by simp [fmul]
theorem fmul_ne {x y:F} (hx:x ≠ 0) (hy:y ≠ 0):fmul x y = expF (logF x + logF y):=by rw [fmul,if_neg (not_or.2 ⟨hx,hy⟩)]
theorem fmul_ne_zero {x y:F} (hx:x ≠ 0) (hy:y ≠ 0):fmul x y ≠ 0:=by rw [fmul_ne hx hy]; exact expF_ne
theorem fmul_eq_zero {x y:F}:fmul x y = 0↔x = 0∨y = 0:=⟨fun h=>by
 by_cases hx:x = 0
 ·exact .inl hx
 ·by_cases hy:y = 0
  ·exact .inr hy
  ·exact (fmul_ne_zero hx hy h).elim,fun h=>by rcases h with rfl | rfl; exact zero_fmul; exact fmul_zero⟩
theorem fmul_exp {n m:Nat}:fmul (expF n) (expF m) = expF (n + m):=by
 rw [fmul_ne expF_ne expF_ne,log_expF,log_expF]
 exact expF_congr (by omega)
theorem fmul_one {x:F}:fmul x 1 = x:=by
 by_cases h:x = 0
 ·rw [h,zero_fmul]
 ·rw [← expF_zero]; conv=>lhs; arg 1; rw [← exp_logF h]
  rw [fmul_exp,Nat.add_zero,exp_logF h]
theorem one_fmul {x:F}:fmul 1 x = x:=by rw [fmul_comm,fmul_one]
theorem exists_exp {x:F} (h:x ≠ 0):∃ n,n < 255∧x = expF n:=⟨logF x,logF_lt,(exp_logF h).symm⟩
theorem fmul_assoc {x y z:F}:fmul (fmul x y) z = fmul x (fmul y z):=by
 by_cases hx:x = 0
 ·rw [hx,zero_fmul,zero_fmul,zero_fmul]
 by_cases hy:y = 0
 ·rw [hy,fmul_zero,zero_fmul,fmul_zero]
 by_cases hz:z = 0
 ·rw [hz,fmul_zero,fmul_zero,fmul_zero]
 obtain ⟨a,_,rfl⟩:=exists_exp hx
 obtain ⟨b,_,rfl⟩:=exists_exp hy
 obtain ⟨c,_,rfl⟩:=exists_exp hz
 rw [fmul_exp,fmul_exp,fmul_exp,fmul_exp,Nat.add_assoc]
theorem finv_ne {x:F} (h:x ≠ 0):finv x ≠ 0:=by rw [finv,if_neg h]; exact expF_ne
theorem fmul_finv {x:F} (h:x ≠ 0):fmul x (finv x) = 1:=by
 rw [finv,if_neg h]
 conv=>lhs; arg 1; rw [← exp_logF h]
 have:=logF_lt (x:=x)
 rw [fmul_exp,← expF_zero]
 exact expF_congr (by omega)
def xt (x:F):F:=x <<< 1 ^^^ (if x.msb then 29#8 else 0#8)
theorem fmul_two':∀ i:Fin 256,fmul (BitVec.ofFin i) 2 = xt (BitVec.ofFin i):=by decide +kernel
theorem fmul_two {x:F}:fmul x 2 = xt x:=fmul_two' x.toFin
theorem xt_xor {x y:F}:xt (x ^^^ y) = xt x ^^^ xt y:=by
 unfold xt
 rw [BitVec.shiftLeft_xor_distrib,BitVec.msb_xor]
 have h1:∀ a b c:F,a ^^^ b ^^^ c = a ^^^ c ^^^ b:=fun a b c=>by rw [BitVec.xor_assoc,BitVec.xor_comm b c,← BitVec.xor_assoc]
 cases x.msb <;> cases y.msb
 ·simp
 ·simp [BitVec.xor_assoc]
 ·simp [h1 (x <<< 1) (29#8) (y <<< 1)]
 ·simp only [bne_self_eq_false,Bool.false_eq_true,if_true,if_false,BitVec.xor_zero]
  rw [h1 (x <<< 1) (29#8),BitVec.xor_assoc (x <<< 1),BitVec.xor_assoc (y <<< 1),BitVec.xor_self,BitVec.xor_zero]
theorem fmul_xor_exp {x y:F}:∀ n:Nat,fmul (x ^^^ y) (expF n) = fmul x (expF n) ^^^ fmul y (expF n)
 | 0=>by rw [expF_zero,fmul_one,fmul_one,fmul_one]
 | n + 1=>by
  have he:expF (n + 1) = fmul (expF n) 2:=by
   have:(2:F) = expF 1:=by decide
   rw [this,fmul_exp]
  rw [he,← fmul_assoc,← fmul_assoc,← fmul_assoc,fmul_xor_exp n,fmul_two,fmul_two,fmul_two,xt_xor]
theorem fmul_xor {x y z:F}:fmul (x ^^^ y) z = fmul x z ^^^ fmul y z:=by
 by_cases hz:z = 0
 ·rw [hz,fmul_zero,fmul_zero,fmul_zero]; rfl
 ·obtain ⟨n,_,rfl⟩:=exists_exp hz
  exact fmul_xor_exp n
theorem xor_fmul {x y z:F}:fmul z (x ^^^ y) = fmul z x ^^^ fmul z y:=by rw [fmul_comm,fmul_xor,fmul_comm,fmul_comm (x:=y)]

theorem expT_F {i:Nat} (h:i < 510):expT i = ofF (expF i):=by
 rw [expT_eq h,ofF,expF_toNat]
 by_cases hi:i < 255
 ·rw [Nat.mod_eq_of_lt hi]
  have:=expL_range ⟨i,h⟩
  simp only at this
  omega
 ·have h1:=exp_per ⟨i - 255,by omega⟩
  have h2:=expL_range ⟨i,h⟩
  simp only at h1 h2
  rw [show i - 255 + 255 = i by omega] at h1
  rw [show i % 255 = i - 255 by omega,← h1]
  omega
theorem logT_F {a:Int} (h:isB a):logT a.toNat = (logF (toF a):Nat):=by
 obtain ⟨h0,h1⟩:=h
 rw [logT_eq (by omega),logF,toF_toNat ⟨h0,h1⟩]
 have:=logL_range ⟨a.toNat,by omega⟩
 simp only at this
 omega
theorem mulF_F {a b:Int} (ha:isB a) (hb:isB b):mulF a b = ofF (fmul (toF a) (toF b)):=by
 unfold mulF fmul
 simp only [toF_eq_zero ha,toF_eq_zero hb]
 split
 ·rfl
 ·have h1:=logF_lt (x:=toF a)
  have h2:=logF_lt (x:=toF b)
  rw [logT_F ha,logT_F hb,expT_F (by omega)]
  congr 2
theorem invF_F {a:Int} (ha:isB a):invF a = ofF (finv (toF a)):=by
 unfold invF finv
 simp only [toF_eq_zero ha]
 split
 ·rfl
 ·have h1:=logF_lt (x:=toF a)
  rw [logT_F ha,expT_F (by omega)]
  congr 2
  omega
theorem mulF_isB {a b:Int} (ha:isB a) (hb:isB b):isB (mulF a b):=by rw [mulF_F ha hb]; exact ofF_isB
theorem toF_mulF {a b:Int} (ha:isB a) (hb:isB b):toF (mulF a b) = fmul (toF a) (toF b):=by rw [mulF_F ha hb,toF_ofF]
theorem invF_isB {a:Int} (ha:isB a):isB (invF a):=by rw [invF_F ha]; exact ofF_isB
theorem toF_invF {a:Int} (ha:isB a):toF (invF a) = finv (toF a):=by rw [invF_F ha,toF_ofF]
theorem xorB_isB {a b:Int}:isB (xorB a b):=by rw [xorB_F]; exact ofF_isB
def fpow (x:F):Nat→F
 | 0=>1
 | n + 1=>fmul (fpow x n) x
theorem fpow_exp {n:Nat}:∀ m,fpow (expF n) m = expF (n * m)
 | 0=>by rw [Nat.mul_zero]; exact expF_zero.symm
 | m + 1=>by rw [fpow,fpow_exp m,fmul_exp,Nat.mul_succ]
theorem fpow_zero' {m:Nat} (h:0 < m):fpow 0 m = 0:=by
 cases m with
 | zero=>omega
 | succ m=>rw [fpow,fmul_zero]
theorem powF_F {a e:Int} (ha:isB a) (he:e < 9223372036854775808):powF a e = ofF (fpow (toF a) e.toNat):=by
 unfold powF
 by_cases h0:e ≤ 0
 ·rw [if_pos h0,show e.toNat = 0 by omega]; rfl
 rw [if_neg h0]
 by_cases h1:a = 0
 ·rw [if_pos h1,h1,toF_zero,fpow_zero' (by omega)]; rfl
 rw [if_neg h1]
 have hx:toF a ≠ 0:=fun h=>h1 ((toF_eq_zero ha).1 h)
 have hl:=logF_lt (x:=toF a)
 rw [logT_F ha]
 have e1:e.tmod 255 = ((e.toNat % 255:Nat):Int):=by
  rw [Int.tmod_eq_emod_of_nonneg (by omega)]; omega
 rw [e1,← Int.natCast_mul,Int.tmod_eq_emod_of_nonneg (by omega),expT_F (by omega)]
 congr 1
 conv=>rhs; rw [← exp_logF hx,fpow_exp]
 refine expF_congr ?_
 have:((logF (toF a) * (e.toNat % 255):Nat):Int) % 255 = ((logF (toF a) * (e.toNat % 255) % 255:Nat):Int):=by omega
 rw [this,Int.toNat_natCast,Nat.mod_mod,Nat.mul_mod,Nat.mod_mod,← Nat.mul_mod]
theorem powF_isB {a e:Int} (ha:isB a) (he:e < 9223372036854775808):isB (powF a e):=by rw [powF_F ha he]; exact ofF_isB
end Go.Proofs

set_option linter.unusedSimpArgs false
set_option linter.unusedVariables false
namespace Go.Proofs
open Go Go.Eng

theorem xor_left_comm (a b c:F):a ^^^ (b ^^^ c) = b ^^^ (a ^^^ c):=by rw [← BitVec.xor_assoc,BitVec.xor_comm a b,BitVec.xor_assoc]
theorem xor_swap (a b c d:F):(a ^^^ b) ^^^ (c ^^^ d) = (a ^^^ c) ^^^ (b ^^^ d):=by rw [BitVec.xor_assoc,BitVec.xor_assoc,xor_left_comm b c d]
theorem xor_eq_zero {a b:F}:a ^^^ b = 0↔a = b:=⟨fun h=>by
 have:a ^^^ b ^^^ b = b:=by rw [h]; simp
 rwa [BitVec.xor_assoc,BitVec.xor_self,BitVec.xor_zero] at this,fun h=>by rw [h]; exact BitVec.xor_self⟩
theorem xor_zero' {a:F}:a ^^^ 0 = a:=BitVec.xor_zero
theorem zero_xor' {a:F}:0 ^^^ a = a:=BitVec.zero_xor
theorem xor_self' {a:F}:a ^^^ a = 0:=BitVec.xor_self
theorem xor_cancelF {a b:F}:a ^^^ b ^^^ b = a:=by rw [BitVec.xor_assoc,BitVec.xor_self,BitVec.xor_zero]
def fsum (f:Nat→F):Nat→F
 | 0=>0
 | n + 1=>fsum f n ^^^ f n
theorem fsum_congr {f g:Nat→F} {n:Nat} (h:∀ i,i < n→f i = g i):fsum f n = fsum g n:=by
 induction n with
 | zero=>rfl
 | succ n ih=>rw [fsum,fsum,ih fun i hi=>h i (by omega),h n (by omega)]
theorem fsum_zero {f:Nat→F} {n:Nat} (h:∀ i,i < n→f i = 0):fsum f n = 0:=by
 induction n with
 | zero=>rfl
 | succ n ih=>rw [fsum,ih fun i hi=>h i (by omega),h n (by omega),xor_zero']
theorem fsum_xor {f g:Nat→F} {n:Nat}:fsum (fun i=>f i ^^^ g i) n = fsum f n ^^^ fsum g n:=by
 induction n with
 | zero=>exact xor_zero'.symm
 | succ n ih=>rw [fsum,fsum,fsum,ih,xor_swap]
theorem fsum_mul {f:Nat→F} {c:F} {n:Nat}:fsum (fun i=>fmul c (f i)) n = fmul c (fsum f n):=by
 induction n with
 | zero=>exact fmul_zero.symm
 | succ n ih=>rw [fsum,fsum,ih,xor_fmul]
theorem fsum_mul' {f:Nat→F} {c:F} {n:Nat}:fsum (fun i=>fmul (f i) c) n = fmul (fsum f n) c:=by
 rw [fmul_comm,← fsum_mul]
 exact fsum_congr fun i _=>fmul_comm
theorem fsum_one {f:Nat→F} {n k:Nat} (hk:k < n) (h:∀ i,i < n→i ≠ k→f i = 0):fsum f n = f k:=by
 induction n with
 | zero=>omega
 | succ n ih =>
  rw [fsum]
  by_cases hkn:k = n
  ·rw [fsum_zero fun i hi=>h i (by omega) (by omega),hkn,zero_xor']
  ·rw [ih (by omega) fun i hi=>h i (by omega),h n (by omega) (by omega),xor_zero']
theorem fsum_swap {f:Nat→Nat→F} {n m:Nat}:fsum (fun i=>fsum (fun j=>f i j) m) n = fsum (fun j=>fsum (fun i=>f i j) n) m:=by
 induction n with
 | zero=>exact (fsum_zero fun _ _=>rfl).symm
 | succ n ih =>
  rw [fsum,ih,← fsum_xor]
  rfl
def del (i j:Nat):F:=if i = j then 1 else 0
theorem fsum_del {f:Nat→F} {n k:Nat} (hk:k < n):fsum (fun i=>fmul (del i k) (f i)) n = f k:=by
 rw [fsum_one hk fun i hi hik=>by rw [del,if_neg hik,zero_fmul],del,if_pos rfl,one_fmul]
theorem fsum_del' {f:Nat→F} {n k:Nat} (hk:k < n):fsum (fun i=>fmul (f i) (del i k)) n = f k:=by
 rw [fsum_one hk fun i hi hik=>by rw [del,if_neg hik,fmul_zero],del,if_pos rfl,fmul_one]

abbrev Mat:=Nat→Nat→F
def spans (r w:Nat) (T:Mat) (v:Nat→F):Prop:=∃ x:Nat→F,∀ j,j < w→v j = fsum (fun i=>fmul (x i) (T i j)) r
theorem spans_row {r w:Nat} {T:Mat} {i:Nat} (hi:i < r):spans r w T (T i):=⟨fun a=>del a i,fun j _=>(fsum_del (f:=fun a=>T a j) hi).symm⟩
theorem spans_congr {r w:Nat} {T:Mat} {v v':Nat→F} (h:spans r w T v) (he:∀ j,j < w→v' j = v j):spans r w T v':=by
 obtain ⟨x,hx⟩:=h
 exact ⟨x,fun j hj=>by rw [he j hj,hx j hj]⟩
theorem spans_xor {r w:Nat} {T:Mat} {v v':Nat→F} (h:spans r w T v) (h':spans r w T v'):spans r w T (fun j=>v j ^^^ v' j):=by
 obtain ⟨x,hx⟩:=h
 obtain ⟨y,hy⟩:=h'
 refine ⟨fun i=>x i ^^^ y i,fun j hj=>?_⟩
 show v j ^^^ v' j = _
 rw [hx j hj,hy j hj,← fsum_xor]
 exact fsum_congr fun i _=>fmul_xor.symm
theorem spans_mul {r w:Nat} {T:Mat} {v:Nat→F} {c:F} (h:spans r w T v):spans r w T (fun j=>fmul c (v j)):=by
 obtain ⟨x,hx⟩:=h
 refine ⟨fun i=>fmul c (x i),fun j hj=>?_⟩
 show fmul c (v j) = _
 rw [hx j hj,← fsum_mul]
 exact fsum_congr fun i _=>fmul_assoc.symm
theorem spans_trans {r w:Nat} {T T':Mat} {v:Nat→F} (h:spans r w T' v) (hr:∀ i,i < r→spans r w T (T' i)):spans r w T v:=by
 obtain ⟨x,hx⟩:=h
 let y:Nat→Nat→F:=fun i=>if h:i < r then (hr i h).choose else fun _=>0
 have hy:∀ i,i < r→∀ j,j < w→T' i j = fsum (fun a=>fmul (y i a) (T a j)) r:=fun i hi j hj=>by
  simp only [y,dif_pos hi]
  exact (hr i hi).choose_spec j hj
 refine ⟨fun a=>fsum (fun i=>fmul (x i) (y i a)) r,fun j hj=>?_⟩
 rw [hx j hj,fsum_congr fun i hi=>by rw [hy i hi j hj,← fsum_mul],fsum_swap]
 refine fsum_congr fun a _=>?_
 rw [← fsum_mul']
 exact fsum_congr fun i _=>fmul_assoc.symm
structure Same (r w:Nat) (T T':Mat):Prop where
 to:∀ i,i < r→spans r w T (T' i)
 back:∀ i,i < r→spans r w T' (T i)
theorem Same.refl {r w:Nat} {T:Mat}:Same r w T T:=⟨fun i hi=>spans_row hi,fun i hi=>spans_row hi⟩
theorem Same.trans {r w:Nat} {T T' T'':Mat} (h:Same r w T T') (h':Same r w T' T''):Same r w T T'' :=
 ⟨fun i hi=>spans_trans (h'.to i hi) h.to,fun i hi=>spans_trans (h.back i hi) h'.back⟩
theorem Same.symm {r w:Nat} {T T':Mat} (h:Same r w T T'):Same r w T' T:=⟨h.back,h.to⟩
theorem Same.spans {r w:Nat} {T T':Mat} (h:Same r w T T') {v:Nat→F}:spans r w T v↔Go.Proofs.spans r w T' v:=⟨fun hv=>spans_trans hv h.back,fun hv=>spans_trans hv h.to⟩
theorem same_add {r w:Nat} {T T':Mat} {i p:Nat} {g:F} (hi:i < r) (hp:p < r) (hip:i ≠ p) (h1:∀ j,j < w→T' i j = T i j ^^^ fmul g (T p j)) (h2:∀ a,a < r→a ≠ i→∀ j,j < w→T' a j = T a j):Same r w T T':=by
 refine ⟨fun a ha=>?_,fun a ha=>?_⟩
 ·by_cases hai:a = i
  ·subst hai
   exact spans_congr (spans_xor (spans_row ha) (spans_mul (c:=g) (spans_row hp))) h1
  ·exact spans_congr (spans_row ha) (h2 a ha hai)
 ·by_cases hai:a = i
  ·subst hai
   refine spans_congr (spans_xor (spans_row ha) (spans_mul (c:=g) (spans_row hp))) fun j hj=>?_
   rw [h1 j hj,h2 p hp (Ne.symm hip) j hj,xor_cancelF]
  ·exact spans_congr (spans_row ha) fun j hj=>(h2 a ha hai j hj).symm
theorem same_mul {r w:Nat} {T T':Mat} {i:Nat} {g:F} (hi:i < r) (hg:g ≠ 0) (h1:∀ j,j < w→T' i j = fmul (T i j) g) (h2:∀ a,a < r→a ≠ i→∀ j,j < w→T' a j = T a j):Same r w T T':=by
 refine ⟨fun a ha=>?_,fun a ha=>?_⟩
 ·by_cases hai:a = i
  ·subst hai
   exact spans_congr (spans_mul (c:=g) (spans_row ha)) fun j hj=>by rw [h1 j hj,fmul_comm]
  ·exact spans_congr (spans_row ha) (h2 a ha hai)
 ·by_cases hai:a = i
  ·subst hai
   refine spans_congr (spans_mul (c:=finv g) (spans_row ha)) fun j hj=>?_
   rw [h1 j hj,fmul_comm,fmul_assoc,fmul_finv hg,fmul_one]
  ·exact spans_congr (spans_row ha) fun j hj=>(h2 a ha hai j hj).symm
def lead (r w:Nat) (T:Mat) (c:Nat):Prop:=∃ v,spans r w T v∧(∀ j,j < c→v j = 0)∧v c ≠ 0
open Classical in
noncomputable def cnt (r w:Nat) (T:Mat):Nat→Nat
 | 0=>0
 | c + 1=>cnt r w T c + if lead r w T c then 1 else 0
theorem Same.lead {r w:Nat} {T T':Mat} (h:Same r w T T') {c:Nat}:lead r w T c↔Go.Proofs.lead r w T' c:=by
 unfold Go.Proofs.lead
 simp only [h.spans]
theorem cnt_le {r w:Nat} {T:Mat}:∀ c,cnt r w T c ≤ c
 | 0=>Nat.le_refl _
 | c + 1=>by
  have:=cnt_le (r:=r) (w:=w) (T:=T) c
  unfold cnt; split <;> omega
theorem cnt_mono {r w:Nat} {T:Mat} {c:Nat}:∀ d,cnt r w T c ≤ cnt r w T (c + d)
 | 0=>Nat.le_refl _
 | d + 1=>by
  have:=cnt_mono (r:=r) (w:=w) (T:=T) (c:=c) d
  rw [← Nat.add_assoc]
  conv=>rhs; unfold cnt
  omega
theorem cnt_lead {r w:Nat} {T:Mat} {c:Nat} (h:lead r w T c):cnt r w T (c + 1) = cnt r w T c + 1:=by rw [cnt,if_pos h]
theorem cnt_not {r w:Nat} {T:Mat} {c:Nat} (h:¬ lead r w T c):cnt r w T (c + 1) = cnt r w T c:=by rw [cnt,if_neg h]; rfl
theorem cnt_lt {r w:Nat} {T:Mat} {c c':Nat} (h:lead r w T c) (hlt:c < c'):cnt r w T c < cnt r w T c':=by
 have:=cnt_mono (r:=r) (w:=w) (T:=T) (c:=c + 1) (c' - (c + 1))
 rw [show c + 1 + (c' - (c + 1)) = c' by omega,cnt_lead h] at this
 omega
theorem cnt_inj {r w:Nat} {T:Mat} {c c':Nat} (h:lead r w T c) (h':lead r w T c') (he:cnt r w T c = cnt r w T c'):c = c':=by
 rcases Nat.lt_trichotomy c c' with h1 | h1 | h1
 ·have:=cnt_lt h h1; omega
 ·exact h1
 ·have:=cnt_lt h' h1; omega
theorem cnt_onto {r w:Nat} {T:Mat}:∀ {c i:Nat},i < cnt r w T c→∃ c',c' < c∧lead r w T c'∧cnt r w T c' = i
 | 0,i,h=>by simp [cnt] at h
 | c + 1,i,h=>by
  by_cases hl:lead r w T c
  ·rw [cnt_lead hl] at h
   by_cases hi:i = cnt r w T c
   ·exact ⟨c,by omega,hl,hi.symm⟩
   ·obtain ⟨c',h1,h2,h3⟩:=cnt_onto (r:=r) (w:=w) (T:=T) (c:=c) (i:=i) (by omega)
    exact ⟨c',by omega,h2,h3⟩
  ·rw [cnt_not hl] at h
   obtain ⟨c',h1,h2,h3⟩:=cnt_onto (c:=c) h
   exact ⟨c',by omega,h2,h3⟩
structure Ech (r w:Nat) (T0 T:Mat) (c rank:Nat):Prop where
 same:Same r w T0 T
 num:rank = cnt r w T0 c
 le:rank ≤ r
 col:∀ c',c' < c→lead r w T0 c'→∀ i,i < r→T i c' = del i (cnt r w T0 c')
 low:∀ i,rank ≤ i→i < r→∀ c',c' < c→T i c' = 0
theorem ech_start {r w:Nat} {T:Mat}:Ech r w T T 0 0:=⟨Same.refl,rfl,Nat.zero_le _,fun c' h=>by omega,fun i _ _ c' h=>by omega⟩
theorem ech_low {r w:Nat} {T0 T:Mat} {c rank:Nat} (h:Ech r w T0 T c rank) (hc:c ≤ w) {v:Nat→F} (hv:spans r w T0 v) (h0:∀ j,j < c→v j = 0) :
  ∃ x:Nat→F,(∀ i,i < rank→x i = 0)∧∀ j,j < w→v j = fsum (fun i=>fmul (x i) (T i j)) r:=by
 obtain ⟨x,hx⟩:=h.same.spans.1 hv
 refine ⟨x,fun i hi=>?_,hx⟩
 rw [h.num] at hi
 obtain ⟨c',h1,h2,h3⟩:=cnt_onto hi
 have hle:=h.le
 have h4:=hx c' (by omega)
 rw [h0 c' h1,fsum_congr fun a ha=>by rw [h.col c' h1 h2 a ha,h3]] at h4
 rw [fsum_del' (f:=x) (by have:=h.num; omega)] at h4
 exact h4.symm
theorem ech_skip {r w:Nat} {T0 T:Mat} {c rank:Nat} (h:Ech r w T0 T c rank) (hc:c < w) (hz:∀ i,rank ≤ i→i < r→T i c = 0):Ech r w T0 T (c + 1) rank:=by
 have hn:¬ lead r w T0 c:=fun ⟨v,h1,h2,h3⟩=>by
  obtain ⟨x,hx,he⟩:=ech_low h (by omega) h1 h2
  apply h3
  rw [he c hc]
  refine fsum_zero fun i hi=>?_
  by_cases hir:i < rank
  ·rw [hx i hir,zero_fmul]
  ·rw [hz i (by omega) hi,fmul_zero]
 refine ⟨h.same,by rw [cnt_not hn]; exact h.num,h.le,fun c' hc' hl i hi=>?_,fun i h1 h2 c' hc'=>?_⟩
 ·by_cases he:c' = c
  ·rw [he] at hl; exact (hn hl).elim
  ·exact h.col c' (by omega) hl i hi
 ·by_cases he:c' = c
  ·rw [he]; exact hz i h1 h2
  ·exact h.low i h1 h2 c' (by omega)
theorem ech_step {r w:Nat} {T0 T T':Mat} {c rank:Nat} (h:Ech r w T0 T c rank) (hc:c < w) (hr:rank < r) (hs:Same r w T T') (hcol:∀ i,i < r→T' i c = del i rank)
  (hold:∀ c',c' < c→∀ i,i < r→T' i c' = T i c'):Ech r w T0 T' (c + 1) (rank + 1):=by
 have hl:lead r w T0 c:=by
  refine ⟨T' rank,(h.same.trans hs).spans.2 (spans_row hr),fun j hj=>?_,?_⟩
  ·rw [hold j hj rank hr]; exact h.low rank (Nat.le_refl _) hr j hj
  ·rw [hcol rank hr,del,if_pos rfl]; decide
 refine ⟨h.same.trans hs,by rw [cnt_lead hl,← h.num],hr,fun c' hc' hl' i hi=>?_,fun i h1 h2 c' hc'=>?_⟩
 ·by_cases he:c' = c
  ·rw [he,hcol i hi,h.num]
  ·rw [hold c' (by omega) i hi]; exact h.col c' (by omega) hl' i hi
 ·by_cases he:c' = c
  ·rw [he,hcol i h2,del,if_neg (by omega)]
  ·rw [hold c' (by omega) i h2]; exact h.low i (by omega) h2 c' (by omega)
theorem cnt_full {r w:Nat} {T:Mat}:∀ {n:Nat},cnt r w T n = n→∀ c,c < n→lead r w T c∧cnt r w T c = c
 | 0,_,c,h=>by omega
 | n + 1,he,c,h=>by
  by_cases hl:lead r w T n
  ·rw [cnt_lead hl] at he
   by_cases hc:c = n
   ·exact ⟨by rw [hc]; exact hl,by rw [hc]; omega⟩
   ·exact cnt_full (n:=n) (by omega) c (by omega)
  ·rw [cnt_not hl] at he
   have:=cnt_le (r:=r) (w:=w) (T:=T) n
   omega
theorem ech_full {r w:Nat} {T0 T:Mat} {n:Nat} (h:Ech r w T0 T n n):∀ i,i < r→∀ c,c < n→T i c = del i c:=fun i hi c hc=>by
 obtain ⟨h1,h2⟩:=cnt_full h.num.symm c hc
 rw [h.col c hc h1 i hi,h2]
theorem ech_null {r w:Nat} {T0 T:Mat} {n rank:Nat} (h:Ech r w T0 T n rank) (hn:n ≤ w) (hlt:rank < n):∃ y:Nat→F,(∃ c,c < n∧y c ≠ 0)∧∀ i,i < r→fsum (fun j=>fmul (T0 i j) (y j)) n = 0:=by
 have hex:∃ c,c < n∧¬ lead r w T0 c:=by
  refine Classical.byContradiction fun hno=>?_
  have hall:∀ c,c < n→lead r w T0 c:=fun c hc=>Classical.byContradiction fun hl=>hno ⟨c,hc,hl⟩
  have:∀ c,c ≤ n→cnt r w T0 c = c:=fun c=>by
   induction c with
   | zero=>intro _; rfl
   | succ c ih=>intro hc; rw [cnt_lead (hall c (by omega)),ih (by omega)]
  have:=this n (Nat.le_refl _)
  have:=h.num
  omega
 obtain ⟨c,hc,hnl⟩:=hex
 let y:Nat→F:=fun j=>open Classical in if j = c then 1 else if lead r w T0 j then T (cnt r w T0 j) c else 0
 have hyc:y c = 1:=by simp [y]
 have hT:∀ i,i < r→fsum (fun j=>fmul (T i j) (y j)) n = 0:=fun i hi=>by
  have hsplit:fsum (fun j=>fmul (T i j) (y j)) n = fsum (fun j=>fmul (if j = c then T i c else 0) 1) n ^^^ fsum (fun j=>open Classical in if j ≠ c∧lead r w T0 j then fmul (del i (cnt r w T0 j)) (T (cnt r w T0 j) c) else 0) n:=by
   rw [← fsum_xor]
   refine fsum_congr fun j hj=>?_
   by_cases hjc:j = c
   ·subst hjc
    simp only [hyc,fmul_one,if_true,ne_eq,not_true,false_and,if_false,xor_zero']
   ·simp only [if_neg hjc,zero_fmul,zero_xor']
    by_cases hl:lead r w T0 j
    ·rw [if_pos ⟨hjc,hl⟩,h.col j hj hl i hi]; simp only [y,if_neg hjc,if_pos hl]
    ·rw [if_neg fun hh=>hl hh.2]; simp only [y,if_neg hjc,if_neg hl,fmul_zero]
  rw [hsplit,fsum_one hc fun j _ hj=>by rw [if_neg hj,zero_fmul],if_pos rfl,fmul_one]
  by_cases hir:i < rank
  ·rw [h.num] at hir
   obtain ⟨c',h1,h2,h3⟩:=cnt_onto hir
   have hcc:c' ≠ c:=fun e=>hnl (e ▸ h2)
   rw [fsum_one (k:=c') h1 fun j hj hjc=>?_,if_pos ⟨hcc,h2⟩,h3,del,if_pos rfl,one_fmul,xor_self']
   split
   ·rename_i hh
    rw [del,if_neg,zero_fmul]
    intro e
    exact hjc (cnt_inj hh.2 h2 (by rw [h3,e]))
   ·rfl
  ·rw [h.low i (by omega) hi c hc,zero_xor']
   refine fsum_zero fun j hj=>?_
   split
   ·rename_i hh
    rw [del,if_neg,zero_fmul]
    have:=cnt_lt hh.2 hj
    have:=h.num
    omega
   ·rfl
 refine ⟨y,⟨c,hc,by rw [hyc]; decide⟩,fun i hi=>?_⟩
 obtain ⟨x,hx⟩:=h.same.back i hi
 rw [fsum_congr fun j hj=>by rw [hx j (by omega),← fsum_mul'],fsum_swap]
 refine fsum_zero fun a ha=>?_
 rw [fsum_congr (g:=fun j=>fmul (x a) (fmul (T a j) (y j))) fun j _=>fmul_assoc,fsum_mul,hT a ha,fmul_zero]
end Go.Proofs

set_option linter.unusedSimpArgs false
set_option linter.unusedVariables false
namespace Go.Proofs
open Go Go.Eng

def hornF (x:F):List F→F
 | []=>0
 | c :: l=>fmul (hornF x l) x ^^^ c
theorem horn_nil {x:F}:hornF x [] = 0:=rfl
theorem horn_one {x c:F}:hornF x [c] = c:=by rw [hornF,horn_nil,zero_fmul,zero_xor']
def divL (r:F):List F→List F
 | []=>[]
 | [_]=>[]
 | _ :: c' :: l=>hornF r (c' :: l) :: divL r (c' :: l)
theorem divL_len {r:F}:∀ {l:List F},(divL r l).length = l.length - 1
 | []=>rfl
 | [_]=>rfl
 | _ :: c' :: l=>by simp only [divL,List.length_cons,divL_len (l:=c' :: l)]; omega
theorem horn_div {x r:F}:∀ {l:List F},hornF x l ^^^ hornF r l = fmul (x ^^^ r) (hornF x (divL r l))
 | []=>by rw [divL,horn_nil,horn_nil,xor_self',fmul_zero]
 | [c]=>by rw [divL,horn_one,horn_one,horn_nil,xor_self',fmul_zero]
 | c :: c' :: l=>by
  have ih:=horn_div (x:=x) (r:=r) (l:=c' :: l)
  rw [divL,show hornF x (c :: c' :: l) = fmul (hornF x (c' :: l)) x ^^^ c from rfl,show hornF r (c :: c' :: l) = fmul (hornF r (c' :: l)) r ^^^ c from rfl]
  conv=>rhs; rw [hornF]
  have h1:∀ a b d:F,a ^^^ b = fmul (x ^^^ r) d→fmul a x ^^^ c ^^^ (fmul b r ^^^ c) = fmul (x ^^^ r) (fmul d x ^^^ b):=fun a b d h=>by
   rw [xor_swap,xor_self',xor_zero',xor_fmul (z:=x ^^^ r),← fmul_assoc,← h,fmul_xor,fmul_comm (x:=x ^^^ r),xor_fmul,← BitVec.xor_assoc,xor_cancelF]
  exact h1 _ _ _ ih
theorem div_zero {r:F}:∀ {l:List F} {c:F},(∀ y ∈ divL r (c :: l),y = 0)→∀ y ∈ l,y = 0
 | [],_,_=>by simp
 | c' :: l,c,h=>by
  simp only [divL,List.mem_cons,forall_eq_or_imp] at h
  have ht:=div_zero (l:=l) (c:=c') h.2
  have hh:hornF r l = 0:=by
   clear h
   induction l with
   | nil=>rfl
   | cons a l ih=>rw [hornF,ih fun y hy=>ht y (List.mem_cons_of_mem _ hy),zero_fmul,ht a (List.mem_cons_self ..),xor_zero']
  have h1:=h.1
  rw [hornF,hh,zero_fmul,zero_xor'] at h1
  intro y hy
  rcases List.mem_cons.1 hy with rfl | hy
  ·exact h1
  ·exact ht y hy
theorem horn_zero {x:F}:∀ {l:List F},(∀ y ∈ l,y = 0)→hornF x l = 0
 | [],_=>rfl
 | a :: l,h=>by rw [hornF,horn_zero fun y hy=>h y (List.mem_cons_of_mem _ hy),zero_fmul,h a (List.mem_cons_self ..),xor_zero']
def distinct (n:Nat) (xs:Nat→F):Prop:=∀ i j,i < n→j < n→xs i = xs j→i = j
theorem roots_zero {xs:Nat→F}:∀ {n:Nat} {l:List F},l.length ≤ n→distinct n xs→(∀ i,i < n→hornF (xs i) l = 0)→∀ y ∈ l,y = 0
 | 0,l,hl,_,_=>by
  have:l = []:=List.eq_nil_of_length_eq_zero (by omega)
  rw [this]; simp
 | n + 1,[],_,_,_=>by simp
 | n + 1,c :: t,hl,hd,hr=>by
  simp only [List.length_cons] at hl
  have hq:=roots_zero (n:=n) (l:=divL (xs n) (c :: t)) (by rw [divL_len,List.length_cons]; omega) (fun i j hi hj=>hd i j (by omega) (by omega)) fun i hi=>by
   have h:=horn_div (x:=xs i) (r:=xs n) (l:=c :: t)
   rw [hr i (by omega),hr n (by omega),xor_self'] at h
   rcases fmul_eq_zero.1 h.symm with h1 | h1
   ·have:=hd i n (by omega) (by omega) (xor_eq_zero.1 h1); omega
   ·exact h1
  have ht:=div_zero hq
  have h1:=hr n (by omega)
  rw [hornF,horn_zero ht,zero_fmul,zero_xor'] at h1
  intro y hy
  rcases List.mem_cons.1 hy with rfl | hy
  ·exact h1
  ·exact ht y hy
def pval (n:Nat) (y:Nat→F) (x:F):F:=fsum (fun j=>fmul (y j) (fpow x j)) n
theorem horn_snoc {x c:F}:∀ {l:List F},hornF x (l ++ [c]) = hornF x l ^^^ fmul c (fpow x l.length)
 | []=>by rw [List.nil_append,horn_one,horn_nil,zero_xor',List.length_nil,fpow,fmul_one]
 | a :: l=>by
  rw [List.cons_append,hornF,horn_snoc (l:=l),hornF,fmul_xor,List.length_cons,fpow,BitVec.xor_assoc,BitVec.xor_assoc,fmul_assoc,BitVec.xor_comm a]
theorem horn_pval {y:Nat→F} {x:F}:∀ n,hornF x ((List.range n).map y) = pval n y x
 | 0=>rfl
 | n + 1=>by
  rw [List.range_succ,List.map_append,List.map_cons,List.map_nil,horn_snoc,horn_pval n]
  simp [pval,fsum]
theorem pval_roots {n:Nat} {y:Nat→F} {xs:Nat→F} (hd:distinct n xs) (h:∀ i,i < n→pval n y (xs i) = 0):∀ j,j < n→y j = 0:=fun j hj=>by
 have:=roots_zero (l:=(List.range n).map y) (by simp) hd (fun i hi=>by rw [horn_pval]; exact h i hi) (y j)
 exact this (List.mem_map.2 ⟨j,List.mem_range.2 hj,rfl⟩)
theorem horn_getD {x:F} {l:List F} {n:Nat} (hl:l.length ≤ n):hornF x l = pval n (fun j=>l.getD j 0) x:=by
 have h1:∀ m,pval (l.length + m) (fun j=>l.getD j 0) x = pval l.length (fun j=>l.getD j 0) x:=fun m=>by
  induction m with
  | zero=>rfl
  | succ m ih =>
   rw [← Nat.add_assoc,pval,fsum]
   rw [show fsum (fun j=>fmul (l.getD j 0) (fpow x j)) (l.length + m) = pval (l.length + m) (fun j=>l.getD j 0) x from rfl,ih]
   rw [show l.getD (l.length + m) 0 = 0 by rw [List.getD_eq_getElem?_getD,List.getElem?_eq_none (by omega)]; rfl,zero_fmul,xor_zero']
 rw [show n = l.length + (n - l.length) by omega,h1,← horn_pval]
 congr 1
 apply List.ext_getElem?
 intro j
 by_cases hj:j < l.length
 ·simp [List.getElem?_range hj,List.getD_eq_getElem?_getD,List.getElem?_eq_getElem hj]
 ·simp [hj]

def fprod (f:Nat→F):Nat→F
 | 0=>1
 | n + 1=>fmul (fprod f n) (f n)
theorem fprod_ne {f:Nat→F} {n:Nat} (h:∀ i,i < n→f i ≠ 0):fprod f n ≠ 0:=by
 induction n with
 | zero=>exact (by decide:(1:F) ≠ 0)
 | succ n ih=>exact fmul_ne_zero (ih fun i hi=>h i (by omega)) (h n (by omega))
theorem fprod_zero {f:Nat→F} {n k:Nat} (hk:k < n) (h:f k = 0):fprod f n = 0:=by
 induction n with
 | zero=>omega
 | succ n ih =>
  rw [fprod]
  by_cases hkn:k = n
  ·rw [← hkn,h,fmul_zero]
  ·rw [ih (by omega),zero_fmul]
def byGo (r:F):F→List F→List F
 | p,[]=>[p]
 | p,c :: l=>(p ^^^ fmul r c) :: byGo r c l
theorem byGo_len {r:F}:∀ {p:F} {l:List F},(byGo r p l).length = l.length + 1
 | _,[]=>rfl
 | _,c :: l=>by simp [byGo,byGo_len]
theorem byGo_horn {r x:F}:∀ {p:F} {l:List F},hornF x (byGo r p l) = p ^^^ fmul (x ^^^ r) (hornF x l)
 | p,[]=>by rw [byGo,horn_one,horn_nil,fmul_zero,xor_zero']
 | p,c :: l=>by
  rw [byGo,hornF,byGo_horn,hornF,fmul_xor,xor_fmul,BitVec.xor_comm _ (p ^^^ fmul r c),BitVec.xor_assoc,fmul_xor (x:=x) (y:=r) (z:=c),← fmul_assoc]
  congr 1
  rw [fmul_comm (x:=c) (y:=x),← BitVec.xor_assoc,BitVec.xor_comm (fmul r c),BitVec.xor_comm]
theorem prod_poly (xs:Nat→F) (i:Nat):∀ n,∃ l:List F,l.length = (if i < n then n else n + 1)∧∀ x,hornF x l = fprod (fun m=>if m = i then 1 else x ^^^ xs m) n
 | 0=>⟨[1],by simp,fun x=>by rw [horn_one,fprod]⟩
 | n + 1=>by
  obtain ⟨l,h1,h2⟩:=prod_poly xs i n
  by_cases hn:n = i
  ·subst hn
   refine ⟨l,by rw [h1]; simp,fun x=>by rw [h2,fprod,if_pos rfl,fmul_one]⟩
  ·refine ⟨byGo (xs n) 0 l,?_,fun x=>?_⟩
   ·rw [byGo_len,h1]; split <;> split <;> omega
   ·rw [byGo_horn,h2,fprod,if_neg hn,zero_xor',fmul_comm]
def lagF (n:Nat) (xs:Nat→F) (x:F) (i:Nat):F:=fmul (fprod (fun m=>if m = i then 1 else x ^^^ xs m) n) (finv (fprod (fun m=>if m = i then 1 else xs i ^^^ xs m) n))
theorem lag_del {n:Nat} {xs:Nat→F} (hd:distinct n xs) {i k:Nat} (hi:i < n) (hk:k < n):lagF n xs (xs k) i = del i k:=by
 unfold lagF del
 by_cases hik:i = k
 ·subst hik
  rw [if_pos rfl,fmul_finv]
  refine fprod_ne fun m hm=>?_
  split
  ·decide
  ·rename_i hmi
   exact fun h=>hmi (hd i m hi hm (xor_eq_zero.1 h)).symm
 ·rw [if_neg hik,fprod_zero (k:=k) hk (by rw [if_neg (Ne.symm hik)]; exact xor_self'),zero_fmul]
theorem lagrange {n:Nat} {xs:Nat→F} (hd:distinct n xs) {y:Nat→F} {x:F}:pval n y x = fsum (fun i=>fmul (lagF n xs x i) (pval n y (xs i))) n:=by
 have hex:∀ i,∃ l:Nat→F,i < n→∀ x,pval n l x = lagF n xs x i:=fun i=>by
  obtain ⟨l,h1,h2⟩:=prod_poly xs i n
  refine ⟨fun j=>fmul (l.getD j 0) (finv (fprod (fun m=>if m = i then 1 else xs i ^^^ xs m) n)),fun hi x=>?_⟩
  rw [lagF,← h2 x,horn_getD (n:=n) (by rw [h1,if_pos hi]; exact Nat.le_refl _),pval,pval,← fsum_mul']
  refine fsum_congr fun j _=>?_
  rw [fmul_assoc,fmul_comm (x:=finv _),← fmul_assoc]
 let lc:Nat→Nat→F:=fun i=>(hex i).choose
 have hlc:∀ i,i < n→∀ x,pval n (lc i) x = lagF n xs x i:=fun i hi=>(hex i).choose_spec hi
 let S:Nat→F:=fun j=>y j ^^^ fsum (fun i=>fmul (pval n y (xs i)) (lc i j)) n
 have hS:∀ x,pval n S x = pval n y x ^^^ fsum (fun i=>fmul (lagF n xs x i) (pval n y (xs i))) n:=fun x=>by
  have h1:pval n S x = pval n y x ^^^ fsum (fun j=>fsum (fun i=>fmul (pval n y (xs i)) (fmul (lc i j) (fpow x j))) n) n:=by
   simp only [pval]
   rw [← fsum_xor]
   refine fsum_congr fun j _=>?_
   simp only [S]
   rw [fmul_xor]
   congr 1
   rw [← fsum_mul']
   exact fsum_congr fun i _=>fmul_assoc
  rw [h1,fsum_swap]
  congr 1
  refine fsum_congr fun i hi=>?_
  rw [fsum_mul,← hlc i hi x,fmul_comm]
  rfl
 have h0:=pval_roots (y:=S) hd fun k hk=>by
  rw [hS,fsum_congr fun i hi=>by rw [lag_del hd hi hk],fsum_del (f:=fun i=>pval n y (xs i)) hk,xor_self']
 have:=hS x
 rw [show pval n S x = 0 from fsum_zero fun j hj=>by rw [h0 j hj,zero_fmul]] at this
 exact xor_eq_zero.1 this.symm
theorem vander_inj {n:Nat} {xs:Nat→F} (hd:distinct n xs) {y:Nat→F} (h:∀ i,i < n→fsum (fun j=>fmul (fpow (xs i) j) (y j)) n = 0):∀ j,j < n→y j = 0 :=
 pval_roots hd fun i hi=>by
  rw [pval,← h i hi]
  exact fsum_congr fun j _=>fmul_comm
end Go.Proofs

set_option linter.unusedSimpArgs false
set_option linter.unusedVariables false
namespace Go.Proofs
open Go Go.Eng

def bytesL (l:List Int):Prop:=∀ x ∈ l,isB x
theorem bytesL_get {l:List Int} (h:bytesL l) (i:Nat):isB (l.getD i 0):=by
 rw [List.getD_eq_getElem?_getD]
 by_cases hi:i < l.length
 ·rw [List.getElem?_eq_getElem hi]; exact h _ (List.getElem_mem hi)
 ·rw [List.getElem?_eq_none (by omega)]; exact ⟨by simp,by simp⟩
def matL (ca:Nat) (l:List Int):Mat:=fun i j=>toF (l.getD (i * ca + j) 0)
def augL (ca cb:Nat) (a b:List Int):Mat:=fun i j=>if j < ca then matL ca a i j else matL cb b i (j - ca)
theorem row_in {i i' ca j:Nat} (hj:j < ca):(i * ca ≤ i' * ca + j∧i' * ca + j < i * ca + ca)↔i' = i:=by
 constructor
 ·intro ⟨h1,h2⟩
  rcases Nat.lt_trichotomy i' i with h | h | h
  ·have:=Nat.mul_le_mul_right ca (show i' + 1 ≤ i by omega)
   rw [Nat.add_mul,Nat.one_mul] at this; omega
  ·exact h
  ·have:=Nat.mul_le_mul_right ca (show i + 1 ≤ i' by omega)
   rw [Nat.add_mul,Nat.one_mul] at this; omega
 ·rintro rfl; omega
theorem cell_lt {i r ca j:Nat} (hi:i < r) (hj:j < ca):i * ca + j < r * ca:=by
 have:=Nat.mul_le_mul_right ca (show i + 1 ≤ r by omega)
 rw [Nat.add_mul,Nat.one_mul] at this; omega
theorem row_le {i r ca:Nat} (hi:i < r):i * ca + ca ≤ r * ca:=by
 have:=Nat.mul_le_mul_right ca (show i + 1 ≤ r by omega)
 rwa [Nat.add_mul,Nat.one_mul] at this
theorem addToL_bytes {l s:List Int} {off:Nat} {c:Int} (h:bytesL l):bytesL (addToL l off s c):=fun x hx=>by
 obtain ⟨i,hi⟩:=List.getElem?_of_mem hx
 rw [addToL_get] at hi
 obtain ⟨y,hy,rfl⟩:=Option.map_eq_some_iff.1 hi
 split
 ·exact xorB_isB
 ·exact h y (List.mem_of_getElem? hy)
theorem scaleL_bytes {l:List Int} {off n:Nat} {c:Int} (h:bytesL l) (hc:isB c):bytesL (scaleL l off n c):=fun x hx=>by
 obtain ⟨i,hi⟩:=List.getElem?_of_mem hx
 rw [scaleL_get] at hi
 obtain ⟨y,hy,rfl⟩:=Option.map_eq_some_iff.1 hi
 have:=h y (List.mem_of_getElem? hy)
 split
 ·exact mulF_isB this hc
 ·exact this
theorem matL_add {ca r i p:Nat} {a:List Int} {g:Int} (ha:a.length = r * ca) (hb:bytesL a) (hg:isB g) (hi:i < r) (hp:p < r) {i' j:Nat} (hi':i' < r) (hj:j < ca) :
  matL ca (addToL a (i * ca) (seg a (p * ca) ca) g) i' j = if i' = i then matL ca a i j ^^^ fmul (toF g) (matL ca a p j) else matL ca a i' j:=by
 have hlt:=cell_lt hi' hj
 have hsl:(seg a (p * ca) ca).length = ca:=seg_len (by rw [ha]; exact row_le hp)
 unfold matL
 rw [List.getD_eq_getElem?_getD,addToL_get,List.getElem?_eq_getElem (by omega),Option.map_some,Option.getD_some,hsl]
 by_cases he:i' = i
 ·subst he
  rw [if_pos ⟨by omega,by omega⟩,if_pos rfl,show i' * ca + j - i' * ca = j by omega]
  have hs:(seg a (p * ca) ca).getD j 0 = a.getD (p * ca + j) 0:=by
   rw [List.getD_eq_getElem?_getD,seg_get,if_pos hj,List.getD_eq_getElem?_getD]
  rw [hs,toF_xorB,toF_mulF hg (bytesL_get hb _),List.getD_eq_getElem?_getD (l:=a) (i:=i' * ca + j),List.getElem?_eq_getElem (by omega),Option.getD_some]
 ·rw [if_neg (fun h=>he ((row_in hj).1 h)),if_neg he,List.getD_eq_getElem?_getD,List.getElem?_eq_getElem (by omega),Option.getD_some]
theorem matL_scale {ca r i:Nat} {a:List Int} {g:Int} (ha:a.length = r * ca) (hb:bytesL a) (hg:isB g) (hi:i < r) {i' j:Nat} (hi':i' < r) (hj:j < ca) :
  matL ca (scaleL a (i * ca) ca g) i' j = if i' = i then fmul (matL ca a i j) (toF g) else matL ca a i' j:=by
 have hlt:=cell_lt hi' hj
 unfold matL
 rw [List.getD_eq_getElem?_getD,scaleL_get,List.getElem?_eq_getElem (by omega),Option.map_some,Option.getD_some]
 by_cases he:i' = i
 ·subst he
  rw [if_pos ⟨by omega,by omega⟩,if_pos rfl,List.getD_eq_getElem?_getD,List.getElem?_eq_getElem (by omega),Option.getD_some,toF_mulF (hb _ (List.getElem_mem _)) hg]
 ·rw [if_neg (fun h=>he ((row_in hj).1 h)),if_neg he,List.getD_eq_getElem?_getD,List.getElem?_eq_getElem (by omega),Option.getD_some]
structure Two (r ca cb:Nat) (a b:List Int):Prop where
 la:a.length = r * ca
 lb:b.length = r * cb
 ba:bytesL a
 bb:bytesL b
variable {r ca cb:Nat} {a b:List Int}
theorem Two.add (h:Two r ca cb a b) {i p:Nat} {g:Int}:Two r ca cb (addToL a (i * ca) (seg a (p * ca) ca) g) (addToL b (i * cb) (seg b (p * cb) cb) g) :=
 ⟨by rw [addToL_len,h.la],by rw [addToL_len,h.lb],addToL_bytes h.ba,addToL_bytes h.bb⟩
theorem Two.scale (h:Two r ca cb a b) {i:Nat} {g:Int} (hg:isB g):Two r ca cb (scaleL a (i * ca) ca g) (scaleL b (i * cb) cb g) :=
 ⟨by rw [scaleL_len,h.la],by rw [scaleL_len,h.lb],scaleL_bytes h.ba hg,scaleL_bytes h.bb hg⟩
theorem aug_add (h:Two r ca cb a b) {i p:Nat} {g:Int} (hg:isB g) (hi:i < r) (hp:p < r) {i' j:Nat} (hi':i' < r) (hj:j < ca + cb) :
  augL ca cb (addToL a (i * ca) (seg a (p * ca) ca) g) (addToL b (i * cb) (seg b (p * cb) cb) g) i' j = if i' = i then augL ca cb a b i j ^^^ fmul (toF g) (augL ca cb a b p j) else augL ca cb a b i' j:=by
 unfold augL
 by_cases hjc:j < ca
 ·simp only [if_pos hjc]; exact matL_add h.la h.ba hg hi hp hi' hjc
 ·simp only [if_neg hjc]; exact matL_add h.lb h.bb hg hi hp hi' (by omega)
theorem aug_scale (h:Two r ca cb a b) {i:Nat} {g:Int} (hg:isB g) (hi:i < r) {i' j:Nat} (hi':i' < r) (hj:j < ca + cb) :
  augL ca cb (scaleL a (i * ca) ca g) (scaleL b (i * cb) cb g) i' j = if i' = i then fmul (augL ca cb a b i j) (toF g) else augL ca cb a b i' j:=by
 unfold augL
 by_cases hjc:j < ca
 ·simp only [if_pos hjc]; exact matL_scale h.la h.ba hg hi hi' hjc
 ·simp only [if_neg hjc]; exact matL_scale h.lb h.bb hg hi hi' (by omega)
theorem aug_left {c i:Nat} (hc:c < ca):augL ca cb a b i c = toF (a.getD (i * ca + c) 0):=by rw [augL,if_pos hc,matL]
theorem piv_facts (a:List Int) (ca c:Nat):∀ n p,p ≤ pivF a ca c p n∧pivF a ca c p n ≤ p + n∧(pivF a ca c p n < p + n→a.getD (pivF a ca c p n * ca + c) 0 ≠ 0)∧∀ i,p ≤ i→i < pivF a ca c p n→a.getD (i * ca + c) 0 = 0
 | 0,p=>by simp only [pivF]; exact ⟨Nat.le_refl _,Nat.le_refl _,fun h=>by omega,fun i h1 h2=>by omega⟩
 | n + 1,p=>by
  obtain ⟨h1,h2,h3,h4⟩:=piv_facts a ca c n (p + 1)
  simp only [pivF]
  split
  ·rename_i hz
   refine ⟨by omega,by omega,fun h=>h3 (by omega),fun i hi1 hi2=>?_⟩
   by_cases hip:i = p
   ·rw [hip]; exact hz
   ·exact h4 i (by omega) hi2
  ·rename_i hz
   exact ⟨Nat.le_refl _,by omega,fun _=>hz,fun i h1 h2=>by omega⟩
theorem Two.rows (h:Two r ca cb a b) {rank c:Nat}:∀ i,Two r ca cb (elimRows ca cb rank c a b i).1 (elimRows ca cb rank c a b i).2
 | 0=>h
 | i + 1=>by
  have ih:=Two.rows h (rank:=rank) (c:=c) i
  simp only [elimRows]
  split
  ·exact ih
  ·exact ih.add
theorem aug_rows (h:Two r ca cb a b) {rank c:Nat} (hr:rank < r) (hc:c < ca):∀ i,i ≤ r →
  (∀ i' j,i' < r→j < ca + cb→augL ca cb (elimRows ca cb rank c a b i).1 (elimRows ca cb rank c a b i).2 i' j = if i' < i∧i' ≠ rank then augL ca cb a b i' j ^^^ fmul (augL ca cb a b i' c) (augL ca cb a b rank j) else augL ca cb a b i' j) ∧
  Same r (ca + cb) (augL ca cb a b) (augL ca cb (elimRows ca cb rank c a b i).1 (elimRows ca cb rank c a b i).2)
 | 0,_=>⟨fun i' j _ _=>by rw [if_neg (by omega)]; rfl,Same.refl⟩
 | i + 1,hi=>by
  obtain ⟨ih,ihs⟩:=aug_rows h hr hc i (by omega)
  have hT:=h.rows (rank:=rank) (c:=c) i
  simp only [elimRows]
  by_cases hir:i = rank
  ·rw [if_pos hir]
   refine ⟨fun i' j hi' hj=>?_,ihs⟩
   rw [ih i' j hi' hj]
   by_cases h1:i' < i∧i' ≠ rank
   ·rw [if_pos h1,if_pos ⟨by omega,h1.2⟩]
   ·rw [if_neg h1,if_neg (by omega)]
  ·rw [if_neg hir]
   simp only
   have hg:=bytesL_get hT.ba (i * ca + c)
   have hgv:toF ((elimRows ca cb rank c a b i).1.getD (i * ca + c) 0) = augL ca cb a b i c:=by
    rw [← aug_left (cb:=cb) (b:=(elimRows ca cb rank c a b i).2) hc,ih i c (by omega) (by omega),if_neg (by omega)]
   have hstep:=fun i' j (hi':i' < r) (hj:j < ca + cb)=>aug_add hT (g:=(elimRows ca cb rank c a b i).1.getD (i * ca + c) 0) hg (show i < r by omega) hr hi' hj
   refine ⟨fun i' j hi' hj=>?_,ihs.trans (same_add (i:=i) (p:=rank) (g:=toF ((elimRows ca cb rank c a b i).1.getD (i * ca + c) 0)) (by omega) hr hir (fun j hj=>by rw [hstep i j (by omega) hj,if_pos rfl]) fun a' ha' hne j hj=>by rw [hstep a' j ha' hj,if_neg hne])⟩
   rw [hstep i' j hi' hj]
   by_cases he:i' = i
   ·subst he
    rw [if_pos rfl,hgv,ih i' j hi' hj,if_neg (by omega),ih rank j hr hj,if_neg (by omega),if_pos ⟨by omega,hir⟩]
   ·rw [if_neg he,ih i' j hi' hj]
    by_cases h1:i' < i∧i' ≠ rank
    ·rw [if_pos h1,if_pos ⟨by omega,h1.2⟩]
    ·rw [if_neg h1,if_neg (by omega)]
theorem elim_step {T0:Mat} {c rank:Nat} (h2:Two r ca cb a b) (h:Ech r (ca + cb) T0 (augL ca cb a b) c rank) (hc:c < ca) :
  Two r ca cb (elimStep r ca cb c (a,b,rank)).1 (elimStep r ca cb c (a,b,rank)).2.1∧Ech r (ca + cb) T0 (augL ca cb (elimStep r ca cb c (a,b,rank)).1 (elimStep r ca cb c (a,b,rank)).2.1) (c + 1) (elimStep r ca cb c (a,b,rank)).2.2:=by
 unfold elimStep
 simp only
 by_cases hr:r ≤ rank
 ·rw [if_pos hr]
  exact ⟨h2,ech_skip h (by omega) fun i (h1:rank ≤ i) h3=>by omega⟩
 rw [if_neg hr]
 obtain ⟨p1,p2,p3,p4⟩:=piv_facts a ca c (r - rank) rank
 by_cases hp:pivF a ca c rank (r - rank) = r
 ·rw [if_pos hp]
  refine ⟨h2,ech_skip h (by omega) fun i (h1:rank ≤ i) h3=>?_⟩
  rw [aug_left hc,p4 i h1 (by omega)]; rfl
 rw [if_neg hp]
 simp only
 generalize hpv:pivF a ca c rank (r - rank) = p at p1 p2 p3 p4 hp
 have hpr:p < r:=by omega
 have hnz:=p3 (by omega)
 have hmid:elimMid r ca cb c (a,b,rank) = scaleR ca cb rank c (swapR ca cb rank p a b).1 (swapR ca cb rank p a b).2:=by
  unfold elimMid; simp only [hpv]
 -- the pivot's row is added
 have h1:Two r ca cb (swapR ca cb rank p a b).1 (swapR ca cb rank p a b).2∧Same r (ca + cb) (augL ca cb a b) (augL ca cb (swapR ca cb rank p a b).1 (swapR ca cb rank p a b).2) ∧
   augL ca cb (swapR ca cb rank p a b).1 (swapR ca cb rank p a b).2 rank c ≠ 0∧(∀ i j,i < r→j < ca + cb→i ≠ rank→augL ca cb (swapR ca cb rank p a b).1 (swapR ca cb rank p a b).2 i j = augL ca cb a b i j) ∧
   ∀ c',c' < c→augL ca cb (swapR ca cb rank p a b).1 (swapR ca cb rank p a b).2 rank c' = 0:=by
  have hpc:augL ca cb a b p c ≠ 0:=by
   rw [aug_left hc]
   intro h0
   exact hnz ((toF_eq_zero (bytesL_get h2.ba _)).1 h0)
  unfold swapR
  by_cases hpe:p = rank
  ·rw [if_pos hpe]
   exact ⟨h2,Same.refl,by rw [← hpe]; exact hpc,fun _ _ _ _ _=>rfl,fun c' hc'=>h.low rank (Nat.le_refl _) (by omega) c' hc'⟩
  ·rw [if_neg hpe]
   have hst:=fun i' j (hi':i' < r) (hj:j < ca + cb)=>aug_add h2 (g:=1) ⟨by omega,by omega⟩ (show rank < r by omega) hpr hi' hj
   have h1:toF 1 = 1:=rfl
   refine ⟨h2.add,same_add (i:=rank) (p:=p) (g:=toF 1) (by omega) hpr (Ne.symm hpe) (fun j hj=>by simp only; rw [hst rank j (by omega) hj,if_pos rfl]) (fun a' ha' hne j hj=>by simp only; rw [hst a' j ha' hj,if_neg hne]),?_,fun i j hi hj hne=>by simp only; rw [hst i j hi hj,if_neg hne],fun c' hc'=>?_⟩
   ·simp only
    rw [hst rank c (by omega) (by omega),if_pos rfl,h1,one_fmul]
    rw [aug_left hc (i:=rank),p4 rank (Nat.le_refl _) (by omega),toF_zero,zero_xor']
    exact hpc
   ·simp only
    rw [hst rank c' (by omega) (by omega),if_pos rfl,h1,one_fmul,h.low rank (Nat.le_refl _) (by omega) c' hc',h.low p (by omega) hpr c' hc',xor_zero']
 rw [hmid]
 generalize swapR ca cb rank p a b = s1 at h1
 obtain ⟨t1,same1,nz1,oth1,low1⟩:=h1
 -- it is scaled
 have hgB:=invF_isB (bytesL_get t1.ba (rank * ca + c))
 have hgv:toF (invF (s1.1.getD (rank * ca + c) 0)) = finv (augL ca cb s1.1 s1.2 rank c):=by rw [toF_invF (bytesL_get t1.ba _),aug_left hc]
 have t2:Two r ca cb (scaleR ca cb rank c s1.1 s1.2).1 (scaleR ca cb rank c s1.1 s1.2).2:=t1.scale hgB
 have hsc:∀ i j,i < r→j < ca + cb→augL ca cb (scaleR ca cb rank c s1.1 s1.2).1 (scaleR ca cb rank c s1.1 s1.2).2 i j = if i = rank then fmul (augL ca cb s1.1 s1.2 rank j) (finv (augL ca cb s1.1 s1.2 rank c)) else augL ca cb s1.1 s1.2 i j:=fun i j hi hj=>by
  rw [← hgv]
  exact aug_scale t1 hgB (by omega) hi hj
 generalize scaleR ca cb rank c s1.1 s1.2 = s2 at t2 hsc
 have same2:Same r (ca + cb) (augL ca cb s1.1 s1.2) (augL ca cb s2.1 s2.2):=same_mul (i:=rank) (g:=finv (augL ca cb s1.1 s1.2 rank c)) (by omega) (finv_ne nz1) (fun j hj=>by rw [hsc rank j (by omega) hj,if_pos rfl]) fun a' ha' hne j hj=>by rw [hsc a' j ha' hj,if_neg hne]
 have one2:augL ca cb s2.1 s2.2 rank c = 1:=by rw [hsc rank c (by omega) (by omega),if_pos rfl,fmul_finv nz1]
 have low2:∀ c',c' < c→augL ca cb s2.1 s2.2 rank c' = 0:=fun c' hc'=>by rw [hsc rank c' (by omega) (by omega),if_pos rfl,low1 c' hc',zero_fmul]
 have oth2:∀ i j,i < r→j < ca + cb→i ≠ rank→augL ca cb s2.1 s2.2 i j = augL ca cb a b i j:=fun i j hi hj hne=>by rw [hsc i j hi hj,if_neg hne,oth1 i j hi hj hne]
 -- the others are cleared
 obtain ⟨r3,same3⟩:=aug_rows t2 (rank:=rank) (c:=c) (by omega) hc r (Nat.le_refl _)
 refine ⟨t2.rows r,ech_step h (by omega) (by omega) ((same1.trans same2).trans same3) (fun i hi=>?_) fun c' hc' i hi=>?_⟩
 ·rw [r3 i c hi (by omega),one2,fmul_one]
  by_cases hir:i = rank
  ·rw [if_neg (by omega),hir,one2,del,if_pos rfl]
  ·rw [if_pos ⟨hi,hir⟩,xor_self',del,if_neg hir]
 ·rw [r3 i c' hi (by omega),low2 c' hc',fmul_zero,xor_zero']
  by_cases hir:i = rank
  ·rw [if_neg (by omega),hir,low2 c' hc',h.low rank (Nat.le_refl _) (by omega) c' hc']
  ·rw [if_pos ⟨hi,hir⟩,oth2 i c' hi (by omega) hir]
theorem elim_ech (h:Two r ca cb a b):∀ c,c ≤ ca→Two r ca cb (elimN r ca cb a b c).1 (elimN r ca cb a b c).2.1∧Ech r (ca + cb) (augL ca cb a b) (augL ca cb (elimN r ca cb a b c).1 (elimN r ca cb a b c).2.1) c (elimN r ca cb a b c).2.2
 | 0,_=>⟨h,ech_start⟩
 | c + 1,hc=>by
  obtain ⟨h1,h2⟩:=elim_ech h c (by omega)
  rw [elimN]
  exact elim_step h1 h2 (by omega)
end Go.Proofs

set_option linter.unusedSimpArgs false
set_option linter.unusedVariables false
namespace Go.Proofs
open Go Go.Eng
theorem allB_of {d:Rows'} (h:bytesL (bI d)):allB d:=fun row hr=>h (rowI row 0) (List.mem_map.2 ⟨row,hr,rfl⟩)
end Go.Proofs

set_option linter.unusedSimpArgs false
set_option linter.unusedVariables false
namespace Go.Proofs
open Go Go.Eng
set_option maxRecDepth 20000
theorem manHead_len {k n t s:Int} {o:List Int} (h:o.length = 32):(manHead k n t s o).length = 39:=by simp [manHead,beL_len,h]
theorem id_ok:idC.ok Tryz.prog:=id_of (by simp [encMan_ok,sha256_ok]) fun ρ hg hp=>by
 obtain ⟨⟨hl,hO,hD⟩,hGr,hGd⟩:=hp
 simp (config:={ maxSteps:=2000000 }) [o_id,idC,idAlts,encManC,sha256C,manV,manT,cellsT,gOk,manO,manB,bytesIn]
 refine ⟨⟨by omega,hl,hO,hD⟩,fun l _ c _ d _ hok hl2 hB hd=>?_⟩
 have hd:bI d.d = manHead (ρ 0).i (ρ 1).i (ρ 2).i (ρ 3).i (rowL (ρ 4).d 32) ++ (dgs (ρ 8).d).flatten:=hd
 have hb:=hok
 simp [manOk,sizes3] at hb
 have hlen:=congrArg List.length hd
 rw [List.length_append,flat_len dgs_32,dgs_len,bI_len,manHead_len rowL_len] at hlen
 refine fun hc=>⟨⟨⟨by omega,by omega,by omega,by omega,hB⟩,hGr,hGd⟩,fun x _ hx=>⟨hok,?_⟩⟩
 have hx:rowL x.d 32 = sha (manHead (ρ 0).i (ρ 1).i (ρ 2).i (ρ 3).i (rowL (ρ 4).d 32) ++ (dgs (ρ 8).d).flatten):=by
  rw [hx,segB,hd.symm]
  simp only [Int.toNat_zero,List.drop_zero]
  rw [List.take_of_length_le (by rw [bI_len]; omega)]
 exact hx
end Go.Proofs

set_option linter.unusedSimpArgs false
set_option linter.unusedVariables false
set_option maxRecDepth 100000
namespace Go.Proofs
open Go Go.Eng

def o_checkP:Out:=(.fresh 18 (.fresh 19 (.pre 0 (sg 0 [bv 9 9,bv 8 8,bv 7 7,bv 6 6,bg 5 5,bv 3 3,bv 2 2,bv 1 1,bv 0 0,bt 4 (r8 4)]) (.both (.fresh 20 (.post 0 0 (sg 0 [bv 9 9,bv 8 8,bv 7 7,bv 6 6,bg 5 5,bv 3 3,bv 2 2,bv 1 1,bv 0 0,bt 4 (r8 4)]) 20 (.br (.cmp .neq (.var 20) (.lit 0))
 (.ret 0 (sg 18 [bv 18 20]))
 (.br (.cmp .lss (.var 10) (.lit 0))
 (.ret 0 (sg 18 [bt 18 (.lit 2)]))
 (.br (.cmp .geq (.var 10) (.var 2))
 (.ret 0 (sg 18 [bt 18 (.lit 2)]))
 (.pre 1 (sg 0 [bv 1 3,bv 0 0]) (.both (.fresh 21 (.fresh 22 (.post 1 0 (sg 0 [bv 1 3,bv 0 0]) 21 (.need (.cmp .leq (.lit 0) (.var 12)) (.br (.cmp .neq (.var 12) (.var 21))
 (.ret 0 (sg 18 [bt 18 (.lit 10)]))
 (.need (.cmp .leq (.lit 0) (.var 10)) (.need (.cmp .lss (.var 10) (.var 6)) (.need (.cmp .lss (.var 10) (.dlen (.var 8))) (.both (.pre 2 (sg 0 [bv 8 17,bv 6 15,bv 5 14,bv 4 13,bv 3 12,bt 2 (.lit 0),bg 1 11,bv 0 10,bg 7 16]) (.both (.fresh 23 (.post 2 0 (sg 0 [bv 8 17,bv 6 15,bv 5 14,bv 4 13,bv 3 12,bt 2 (.lit 0),bg 1 11,bv 0 10,bg 7 16]) 23 (.br (.not (.c2 .req (r8 23) (.rcons (i8 8 10 0) (.rcons (i8 8 10 1) (.rcons (i8 8 10 2) (.rcons (i8 8 10 3) (.rcons (i8 8 10 4) (.rcons (i8 8 10 5) (.rcons (i8 8 10 6) (.rcons (i8 8 10 7) (.rcons (i8 8 10 8) (.rcons (i8 8 10 9) (.rcons (i8 8 10 10) (.rcons (i8 8 10 11) (.rcons (i8 8 10 12) (.rcons (i8 8 10 13) (.rcons (i8 8 10 14) (.rcons (i8 8 10 15) (.rcons (i8 8 10 16) (.rcons (i8 8 10 17) (.rcons (i8 8 10 18) (.rcons (i8 8 10 19) (.rcons (i8 8 10 20) (.rcons (i8 8 10 21) (.rcons (i8 8 10 22) (.rcons (i8 8 10 23) (.rcons (i8 8 10 24) (.rcons (i8 8 10 25) (.rcons (i8 8 10 26) (.rcons (i8 8 10 27) (.rcons (i8 8 10 28) (.rcons (i8 8 10 29) (.rcons (i8 8 10 30) (.rcons (i8 8 10 31) .rnil))))))))))))))))))))))))))))))))))
 (.ret 0 (sg 18 [bt 18 (.lit 20)]))
 (.ret 0 (sg 18 [bt 18 (.lit 0)]))))) .top)) .top))))))))) .top))))))) .top))))
theorem o_checkP_eq:treeOf ⟨Tryz.prog,checkPC,[checkMC,piece26C,pieceDgC],[]⟩ 100000 Tryz.f60 = o_checkP:=by kernel_rfl
theorem checkP_of (hd:∀ c ∈ ([checkMC,piece26C,pieceDgC]:List Ctr),c.ok Tryz.prog) (h:∀ ρ:Env,ρ.good→(checkPC).pre ρ→o_checkP.den ⟨Tryz.prog,checkPC,[checkMC,piece26C,pieceDgC],[]⟩ ρ):(checkPC).ok Tryz.prog :=
 ok_of_tree Tryz.func60 (fun a w=>Tryz.call60 a w) hd 100000 (fun ρ hg hp=>by rw [o_checkP_eq]; exact h ρ hg hp)
end Go.Proofs

set_option linter.unusedSimpArgs false
set_option linter.unusedVariables false
set_option maxRecDepth 100000
namespace Go.Proofs
open Go Go.Eng

end Go.Proofs

set_option linter.unusedSimpArgs false
set_option linter.unusedVariables false
namespace Go.Proofs
open Go Go.Eng
end Go.Proofs

set_option linter.unusedSimpArgs false
set_option linter.unusedVariables false
namespace Go.Proofs
open Go Go.Eng

end Go.Proofs

set_option linter.unusedSimpArgs false
set_option linter.unusedVariables false
namespace Go.Proofs
open Go Go.Eng
set_option maxRecDepth 20000
theorem chkE_bad {k n t s l i:Int} {D:List (List Int)} {m:List Int} (h:manOk k n t s l = false):2 = chkE k n t s l D i m:=by rw [chkE,if_pos h]
theorem chkE_arg {k n t s l i:Int} {D:List (List Int)} {m:List Int} (h:manOk k n t s l = true) (hi:i < 0∨t ≤ i):2 = chkE k n t s l D i m:=by rw [chkE,if_neg (by rw [h]; decide),if_pos hi]
theorem chkE_len {k n t s l i:Int} {D:List (List Int)} {m:List Int} (h:manOk k n t s l = true) (h0:0 ≤ i) (h1:i < t) (hl:(m.length:Int) ≠ plenI k s):10 = chkE k n t s l D i m:=by rw [chkE,if_neg (by rw [h]; decide),if_neg (by omega),if_pos hl]
theorem chkE_sum {k n t s l i:Int} {D:List (List Int)} {m:List Int} (h:manOk k n t s l = true) (h0:0 ≤ i) (h1:i < t) (hl:(m.length:Int) = plenI k s) (hs:sha (pieceIn i ++ m) ≠ D.getD i.toNat []):20 = chkE k n t s l D i m:=by rw [chkE,if_neg (by rw [h]; decide),if_neg (by omega),if_neg (fun h=>h hl),if_pos hs]
theorem chkE_ok {k n t s l i:Int} {D:List (List Int)} {m:List Int} (h:manOk k n t s l = true) (h0:0 ≤ i) (h1:i < t) (hl:(m.length:Int) = plenI k s) (hs:sha (pieceIn i ++ m) = D.getD i.toNat []):0 = chkE k n t s l D i m:=by rw [chkE,if_neg (by rw [h]; decide),if_neg (by omega),if_neg (fun h=>h hl),if_neg (fun h=>h hs)]
theorem man_notBad {k n t s l:Int} (h:manOk k n t s l = true):¬ pieceBad k s:=by
 simp [manOk,sizes3] at h
 unfold pieceBad; omega
set_option maxHeartbeats 1000000 in
theorem checkP_ok:checkPC.ok Tryz.prog:=checkP_of (by simp [checkM_ok,piece26_ok,pieceDg_ok]) fun ρ hg hp=>by
 obtain ⟨⟨i0,i3,hl,hD,hpl,hpc,hp1,hB⟩,hGr,hGd⟩:=hp
 simp only [Nat.reduceAdd] at hpl hpc hp1 hB
 simp (config:={ maxSteps:=4000000,contextual:=true }) [o_checkP,checkPC,chkAlts,checkMC,piece26C,pieceDgC,manV,manT,cellsT,gOk,hGr,hGd,hB,hD,hl,hpl]
 refine fun u _ hu=>⟨chkE_bad,fun hok=>⟨fun h0=>chkE_arg hok (.inl h0),fun h0=>⟨fun ht=>chkE_arg hok (.inr ht),fun ht l _ e _ _ hgood=>?_⟩⟩⟩
 have hlen:=(hgood (man_notBad hok)).1
 have hml:(bI (ρ 14).d).length = (ρ 14).d.length:=bI_len
 have htl:(ρ 2).i = (ρ 8).d.length:=by simp [manOk] at hok; omega
 have hrow:rowI8 (ρ 8).d (ρ 10).i = (dgs (ρ 8).d).getD (ρ 10).i.toNat []:=rowI8_dgs h0 (by omega)
 refine ⟨fun hne=>chkE_len hok h0 ht (by rw [hml,plenI,← hlen]; exact hne),fun heq=>⟨by omega,⟨by omega,by omega,by omega⟩,fun x _ hx=>?_⟩⟩
 rw [segB_all heq.symm,hrow]
 exact ⟨fun hn=>chkE_sum hok h0 ht (by rw [hml,plenI,← hlen]; exact heq) hn,fun he=>chkE_ok hok h0 ht (by rw [hml,plenI,← hlen]; exact heq) he⟩
end Go.Proofs

set_option linter.unusedSimpArgs false
set_option linter.unusedVariables false
namespace Go.Proofs
open Go Go.Eng

theorem pieceLen_ge' {k n:Nat} (hk:0 < k):n ≤ k * pieceLen k n:=by
 unfold pieceLen
 have h1:=Nat.div_add_mod (n + k - 1) k
 have h2:=Nat.mod_lt (n + k - 1) hk
 omega
theorem ident_len {n:Nat}:(identTo n n).length = n * n:=by simp [identTo]
theorem ident_get {n i:Nat} (hi:i < n * n):(identTo n n).getD i 0 = if i / n = i % n then 1 else 0:=by
 have hn:0 < n:=by
  cases n with
  | zero=>simp at hi
  | succ n=>omega
 rw [List.getD_eq_getElem?_getD,identTo,List.getElem?_map,List.getElem?_range hi]
 simp only [Option.map_some,Option.getD_some]
 have:i / n < n:=Nat.div_lt_of_lt_mul hi
 by_cases h:i / n = i % n
 ·rw [if_pos ⟨h,this⟩,if_pos h]
 ·rw [if_neg (fun hh=>h hh.1),if_neg h]
theorem divmod_cell {i n j:Nat} (hj:j < n):(i * n + j) / n = i∧(i * n + j) % n = j:=by
 have hn:0 < n:=by omega
 constructor
 ·rw [Nat.mul_comm,Nat.mul_add_div hn,Nat.div_eq_of_lt hj,Nat.add_zero]
 ·rw [Nat.mul_comm,Nat.mul_add_mod,Nat.mod_eq_of_lt hj]
theorem ident_bytes {n:Nat}:bytesL (identTo n n):=fun x hx=>by
 simp only [identTo,List.mem_map] at hx
 obtain ⟨i,_,rfl⟩:=hx
 split <;> exact ⟨by omega,by omega⟩
theorem ident_mat {n i j:Nat} (hi:i < n) (hj:j < n):matL n (identTo n n) i j = del i j:=by
 obtain ⟨h1,h2⟩:=divmod_cell (i:=i) hj
 rw [matL,ident_get (cell_lt hi hj),h1,h2,del]
 split <;> rfl
theorem vander_len {r c:Nat}:(vanderL r c).length = r * c:=by simp [vanderL,fillTo]
theorem vander_get {r c i j:Nat} (hi:i < r) (hj:j < c):(vanderL r c).getD (i * c + j) 0 = powF (i:Int) (j:Int):=by
 obtain ⟨h1,h2⟩:=divmod_cell (i:=i) hj
 have hlt:=cell_lt hi hj
 rw [List.getD_eq_getElem?_getD,vanderL,fillTo,List.getElem?_map,List.getElem?_range hlt]
 simp only [Option.map_some,Option.getD_some]
 rw [if_pos hlt,vanderF,h1,h2]
def xsF (m:Nat):F:=toF (m:Int)
theorem vander_mat {r c i j:Nat} (hr:r ≤ 256) (hi:i < r) (hj:j < c) (hc:c < 9223372036854775808):matL c (vanderL r c) i j = fpow (xsF i) j:=by
 rw [matL,vander_get hi hj,powF_F ⟨by omega,by omega⟩ (by omega),toF_ofF,Int.toNat_natCast]; rfl
theorem vander_bytes {r c:Nat} (hr:r ≤ 256) (hc:c < 9223372036854775808):bytesL (vanderL r c):=fun x hx=>by
 simp only [vanderL,fillTo,List.mem_map,List.mem_range] at hx
 obtain ⟨i,hi,rfl⟩:=hx
 rw [if_pos hi]
 have hc0:0 < c:=by
  cases c with
  | zero=>simp at hi
  | succ c=>omega
 have h1:i / c < r:=Nat.div_lt_of_lt_mul (by rwa [Nat.mul_comm] at hi)
 have h2:=Nat.mod_lt i hc0
 have h3:((i / c:Nat):Int) < 256:=by omega
 exact powF_isB ⟨Int.natCast_nonneg _,h3⟩ (by omega)
theorem xs_distinct {n:Nat} (hn:n ≤ 256):distinct n xsF:=fun i j hi hj h=>by
 have:=toF_inj (x:=(i:Int)) (y:=(j:Int)) ⟨by omega,by omega⟩ ⟨by omega,by omega⟩ h
 omega
theorem take_bytes {l:List Int} {n:Nat} (h:bytesL l):bytesL (l.take n):=fun x hx=>h x (List.mem_of_mem_take hx)
theorem take_mat {l:List Int} {n c i j:Nat} (hi:i < n) (hj:j < c):matL c (l.take (n * c)) i j = matL c l i j:=by
 have hlt:=cell_lt hi hj
 rw [matL,matL,List.getD_eq_getElem?_getD,List.getD_eq_getElem?_getD,List.getElem?_take,if_pos hlt]

theorem aug_right {ca cb:Nat} {a b:List Int} {i j:Nat}:augL ca cb a b i (ca + j) = matL cb b i j:=by
 rw [augL,if_neg (by omega),show ca + j - ca = j by omega]
theorem inv_mul {n:Nat} {a A B:List Int} (h:Ech n (n + n) (augL n n a (identTo n n)) (augL n n A B) n n) :
  (∀ i j,i < n→j < n→fsum (fun l=>fmul (matL n B i l) (matL n a l j)) n = del i j)∧∀ i j,i < n→j < n→fsum (fun l=>fmul (matL n a i l) (matL n B l j)) n = del i j:=by
 refine ⟨fun i j hi hj=>?_,fun i j hi hj=>?_⟩
 ·obtain ⟨x,hx⟩:=h.same.to i hi
  have hxB:∀ l,l < n→x l = matL n B i l:=fun l hl=>by
   have h1:=hx (n + l) (by omega)
   rw [aug_right,fsum_congr fun m hm=>by rw [aug_right,ident_mat hm hl],fsum_del' (f:=x) hl] at h1
   exact h1.symm
  have h2:=hx j (by omega)
  rw [ech_full h i hi j hj,fsum_congr fun m hm=>by rw [hxB m hm,aug_left hj]] at h2
  exact h2.symm
 ·obtain ⟨x,hx⟩:=h.same.back i hi
  have hxa:∀ l,l < n→x l = matL n a i l:=fun l hl=>by
   have h1:=hx l (by omega)
   rw [aug_left hl,fsum_congr fun m hm=>by rw [ech_full h m hm l hl],fsum_del' (f:=x) hl] at h1
   exact h1.symm
  have h2:=hx (n + j) (by omega)
  rw [aug_right,ident_mat hi hj,fsum_congr fun m hm=>by rw [hxa m hm,aug_right]] at h2
  exact h2.symm
theorem two_ident {n:Nat} {m:List Int} (hl:m.length = n * n) (hb:bytesL m):Two n n n m (identTo n n):=⟨hl,ident_len,hb,ident_bytes⟩
theorem inv_ech {n:Nat} {m:List Int} (hl:m.length = n * n) (hb:bytesL m):Two n n n (invE m n).1 (invE m n).2.1∧Ech n (n + n) (augL n n m (identTo n n)) (augL n n (invE m n).1 (invE m n).2.1) n (invE m n).2.2 :=
 elim_ech (two_ident hl hb) n (Nat.le_refl _)
theorem inv_rank {n:Nat} {m:List Int} (hl:m.length = n * n) (hb:bytesL m) (h:∀ y:Nat→F,(∀ i,i < n→fsum (fun j=>fmul (matL n m i j) (y j)) n = 0)→∀ j,j < n→y j = 0):(invE m n).2.2 = n:=by
 obtain ⟨_,he⟩:=inv_ech hl hb
 refine Classical.byContradiction fun hne=>?_
 have hlt:(invE m n).2.2 < n:=by have:=he.le; omega
 obtain ⟨y,⟨c,hc,hyc⟩,hy⟩:=ech_null he (by omega) hlt
 exact hyc (h y (fun i hi=>by rw [← hy i hi]; exact fsum_congr fun j hj=>by rw [aug_left hj]; rfl) c hc)

theorem top_len {k total:Nat} (h:k ≤ total):((vanderL total k).take (k * k)).length = k * k:=by
 rw [List.length_take,vander_len]
 exact Nat.min_eq_left (Nat.mul_le_mul_right k h)
theorem top_mat {k total i j:Nat} (hk:k ≤ total) (ht:total ≤ 255) (hi:i < k) (hj:j < k):matL k ((vanderL total k).take (k * k)) i j = fpow (xsF i) j:=by
 rw [take_mat hi hj,vander_mat (by omega) (by omega) hj (by omega)]
theorem top_bytes {k total:Nat} (hk:k ≤ total) (ht:total ≤ 255):bytesL ((vanderL total k).take (k * k)):=take_bytes (vander_bytes (by omega) (by omega))
theorem top_rank {k total:Nat} (hk:k ≤ total) (ht:total ≤ 255):(topE k total).2.2 = k :=
 inv_rank (top_len hk) (top_bytes hk ht) fun y hy=>vander_inj (xs_distinct (by omega)) fun i hi=>by
  rw [← hy i hi]
  exact fsum_congr fun j hj=>by rw [top_mat hk ht hi hj]
theorem top_ech {k total:Nat} (hk:k ≤ total) (ht:total ≤ 255):Two k k k (topE k total).1 (topE k total).2.1∧Ech k (k + k) (augL k k ((vanderL total k).take (k * k)) (identTo k k)) (augL k k (topE k total).1 (topE k total).2.1) k k:=by
 have h:=inv_ech (top_len hk) (top_bytes hk ht)
 have hr:=top_rank hk ht
 unfold topE at hr ⊢
 rw [hr] at h
 exact h

theorem prodN_facts {a b:List Int} {ra ca cb:Nat} (hb:b.length = ca * cb) (ha:bytesL a) (hbb:bytesL b) (hca:0 < ca):∀ t,t ≤ ra * ca→(prodN a b ra ca cb t).length = ra * cb∧bytesL (prodN a b ra ca cb t) ∧
  ∀ i j,i < ra→j < cb→matL cb (prodN a b ra ca cb t) i j = fsum (fun l=>if i * ca + l < t then fmul (matL ca a i l) (matL cb b l j) else 0) ca
 | 0,_=>⟨by simp [prodN],fun x hx=>by rw [prodN] at hx; rw [List.eq_of_mem_replicate hx]; exact ⟨by omega,by omega⟩,fun i j hi hj=>by
   rw [fsum_zero fun l _=>if_neg (by omega),matL,prodN,List.getD_eq_getElem?_getD,List.getElem?_replicate,if_pos (cell_lt hi hj)]; rfl⟩
 | t + 1,ht=>by
  obtain ⟨h1,h2,h3⟩:=prodN_facts (ra:=ra) hb ha hbb hca t (by omega)
  have hti:t / ca < ra:=Nat.div_lt_of_lt_mul (by rw [Nat.mul_comm]; omega)
  have htl:=Nat.mod_lt t hca
  have htd:=Nat.div_add_mod t ca
  rw [prodN]
  refine ⟨by rw [addToL_len,h1],addToL_bytes h2,fun i j hi hj=>?_⟩
  have hlt:=cell_lt hi hj
  have hsl:(seg b (t % ca * cb) cb).length = cb:=seg_len (by rw [hb]; exact row_le htl)
  have hL:matL cb (addToL (prodN a b ra ca cb t) (t / ca * cb) (seg b (t % ca * cb) cb) (a.getD t 0)) i j = if i = t / ca then matL cb (prodN a b ra ca cb t) i j ^^^ fmul (toF (a.getD t 0)) (matL cb b (t % ca) j) else matL cb (prodN a b ra ca cb t) i j:=by
   unfold matL
   rw [List.getD_eq_getElem?_getD,addToL_get,List.getElem?_eq_getElem (by omega),Option.map_some,Option.getD_some,hsl]
   by_cases he:i = t / ca
   ·subst he
    rw [if_pos ⟨by omega,by omega⟩,if_pos rfl,show t / ca * cb + j - t / ca * cb = j by omega]
    have hs:(seg b (t % ca * cb) cb).getD j 0 = b.getD (t % ca * cb + j) 0:=by
     rw [List.getD_eq_getElem?_getD,seg_get,if_pos hj,List.getD_eq_getElem?_getD]
    rw [hs,toF_xorB,toF_mulF (bytesL_get ha _) (bytesL_get hbb _),List.getD_eq_getElem?_getD (l:=prodN a b ra ca cb t),List.getElem?_eq_getElem (by omega),Option.getD_some]
   ·rw [if_neg (fun h=>he ((row_in hj).1 h)),if_neg he,List.getD_eq_getElem?_getD,List.getElem?_eq_getElem (by omega),Option.getD_some]
  rw [hL,h3 i j hi hj]
  by_cases he:i = t / ca
  ·have hit:i * ca + t % ca = t:=by rw [he,Nat.mul_comm]; exact htd
   rw [if_pos he]
   have hat:toF (a.getD t 0) = matL ca a i (t % ca):=by rw [matL,hit]
   have h4:fmul (toF (a.getD t 0)) (matL cb b (t % ca) j) = fsum (fun l=>if l = t % ca then fmul (matL ca a i l) (matL cb b l j) else 0) ca:=by
    rw [fsum_one htl fun l _ hl=>if_neg hl,if_pos rfl,hat]
   rw [h4,← fsum_xor]
   refine fsum_congr fun l hl=>?_
   by_cases hlt:l = t % ca
   ·subst hlt; rw [if_neg (by omega),if_pos rfl,if_pos (by omega),zero_xor']
   ·rw [if_neg hlt,xor_zero']
    by_cases h5:i * ca + l < t
    ·rw [if_pos h5,if_pos (by omega)]
    ·rw [if_neg h5,if_neg (by omega)]
  ·rw [if_neg he]
   refine fsum_congr fun l hl=>?_
   have hne:i * ca + l ≠ t:=fun h=>he (by rw [← h]; exact (divmod_cell hl).1.symm)
   by_cases h5:i * ca + l < t
   ·rw [if_pos h5,if_pos (by omega)]
   ·rw [if_neg h5,if_neg (by omega)]
theorem prod_facts {a b:List Int} {ra ca cb:Nat} (hb:b.length = ca * cb) (ha:bytesL a) (hbb:bytesL b) (hca:0 < ca):(prodL a b ra ca cb).length = ra * cb∧bytesL (prodL a b ra ca cb) ∧
  ∀ i j,i < ra→j < cb→matL cb (prodL a b ra ca cb) i j = fsum (fun l=>fmul (matL ca a i l) (matL cb b l j)) ca:=by
 obtain ⟨h1,h2,h3⟩:=prodN_facts (ra:=ra) hb ha hbb hca (ra * ca) (Nat.le_refl _)
 refine ⟨h1,h2,fun i j hi hj=>?_⟩
 rw [prodL,h3 i j hi hj]
 exact fsum_congr fun l hl=>if_pos (cell_lt hi hl)

theorem gen_facts {k total:Nat} (h1:1 ≤ k) (hk:k ≤ total) (ht:total ≤ 255):(genL k total).length = total * k∧bytesL (genL k total) ∧
  (∀ i j,i < total→j < k→matL k (genL k total) i j = fsum (fun l=>fmul (fpow (xsF i) l) (matL k (topE k total).2.1 l j)) k) ∧
  ∀ i j,i < total→j < k→matL k (genL k total) i j = lagF k xsF (xsF i) j:=by
 obtain ⟨t2,he⟩:=top_ech hk ht
 obtain ⟨p1,p2,p3⟩:=prod_facts (ra:=total) t2.lb (vander_bytes (r:=total) (c:=k) (by omega) (by omega)) t2.bb (by omega)
 have hg:∀ i j,i < total→j < k→matL k (genL k total) i j = fsum (fun l=>fmul (fpow (xsF i) l) (matL k (topE k total).2.1 l j)) k:=fun i j hi hj=>by
  rw [genL,p3 i j hi hj]
  exact fsum_congr fun l hl=>by rw [vander_mat (by omega) hi hl (by omega)]
 refine ⟨p1,p2,hg,fun i j hi hj=>?_⟩
 obtain ⟨_,m2⟩:=inv_mul he
 have hp:∀ x,pval k (fun l=>matL k (topE k total).2.1 l j) x = fsum (fun l=>fmul (fpow x l) (matL k (topE k total).2.1 l j)) k:=fun x=>fsum_congr fun l _=>fmul_comm
 rw [hg i j hi hj,← hp,lagrange (xs_distinct (n:=k) (by omega))]
 rw [fsum_congr (g:=fun m=>fmul (lagF k xsF (xsF i) m) (del m j)) fun m hm=>?_,fsum_del' hj]
 rw [hp,← m2 m j hm hj]
 congr 1
 exact fsum_congr fun l hl=>by rw [top_mat hk ht hm hl]
theorem pieceN_facts {g full:List Int} {k l i:Nat} (hg:bytesL g) (hf:bytesL full) (hl:full.length = k * l):∀ j,j ≤ k→(pieceN g full k l i j).length = l∧bytesL (pieceN g full k l i j) ∧
  ∀ c,c < l→toF ((pieceN g full k l i j).getD c 0) = fsum (fun m=>fmul (matL k g i m) (toF (full.getD (m * l + c) 0))) j
 | 0,_=>⟨by simp [pieceN],fun x hx=>by rw [pieceN] at hx; rw [List.eq_of_mem_replicate hx]; exact ⟨by omega,by omega⟩,fun c hc=>by
   rw [pieceN,List.getD_eq_getElem?_getD,List.getElem?_replicate,if_pos hc]; rfl⟩
 | j + 1,hj=>by
  obtain ⟨h1,h2,h3⟩:=pieceN_facts hg hf hl (i:=i) j (by omega)
  have hsl:(seg full (j * l) l).length = l:=seg_len (by rw [hl]; exact row_le (by omega))
  rw [pieceN]
  refine ⟨by rw [addToL_len,h1],addToL_bytes h2,fun c hc=>?_⟩
  rw [List.getD_eq_getElem?_getD,addToL_get,List.getElem?_eq_getElem (by omega),Option.map_some,Option.getD_some,hsl,if_pos ⟨by omega,by omega⟩,Nat.sub_zero]
  have hs:(seg full (j * l) l).getD c 0 = full.getD (j * l + c) 0:=by
   rw [List.getD_eq_getElem?_getD,seg_get,if_pos hc,List.getD_eq_getElem?_getD]
  rw [hs,toF_xorB,toF_mulF (bytesL_get hg _) (bytesL_get hf _),fsum,← h3 c hc,List.getD_eq_getElem?_getD (l:=pieceN g full k l i j),List.getElem?_eq_getElem (by omega),Option.getD_some]
  rfl
theorem full_facts {data:List Int} {n:Nat} (hb:bytesL data) (hn:data.length ≤ n):(fullL data n).length = n∧bytesL (fullL data n):=by
 refine ⟨by simp [fullL]; omega,fun x hx=>?_⟩
 rcases List.mem_append.1 hx with hx | hx
 ·exact hb x hx
 ·rw [List.eq_of_mem_replicate hx]; exact ⟨by omega,by omega⟩
theorem full_get {data:List Int} {n i:Nat}:(fullL data n).getD i 0 = data.getD i 0:=by
 rw [List.getD_eq_getElem?_getD,List.getD_eq_getElem?_getD,fullL]
 by_cases h:i < data.length
 ·rw [List.getElem?_append_left h]
 ·rw [List.getElem?_append_right (by omega),List.getElem?_eq_none (l:=data) (by omega),List.getElem?_replicate]
  split <;> rfl
theorem enc_facts {k total:Nat} {data:List Int} (h1:1 ≤ k) (hk:k ≤ total) (ht:total ≤ 255) (hb:bytesL data) (i:Nat):(encP k total data i).length = pieceLen k data.length∧bytesL (encP k total data i) ∧
  ∀ c,c < pieceLen k data.length→toF ((encP k total data i).getD c 0) = fsum (fun m=>fmul (matL k (genL k total) i m) (toF (data.getD (m * pieceLen k data.length + c) 0))) k:=by
 obtain ⟨g1,g2,_,_⟩:=gen_facts h1 hk ht
 obtain ⟨f1,f2⟩:=full_facts hb (n:=k * pieceLen k data.length) (pieceLen_ge' (by omega))
 obtain ⟨p1,p2,p3⟩:=pieceN_facts (i:=i) g2 f2 f1 k (Nat.le_refl _)
 refine ⟨p1,p2,fun c hc=>?_⟩
 rw [encP,p3 c hc]
 exact fsum_congr fun m _=>by rw [full_get]
end Go.Proofs

set_option linter.unusedSimpArgs false
set_option linter.unusedVariables false
namespace Go.Eng
open Go
end Go.Eng
namespace Go.Proofs
open Go Go.Eng
theorem list_ext_getD {a b:List Int} (hl:a.length = b.length) (h:∀ i,i < a.length→a.getD i 0 = b.getD i 0):a = b:=by
 apply List.ext_getElem hl
 intro i h1 h2
 have:=h i h1
 rwa [List.getD_eq_getElem?_getD,List.getElem?_eq_getElem h1,List.getD_eq_getElem?_getD,List.getElem?_eq_getElem h2] at this
end Go.Proofs

set_option linter.unusedSimpArgs false
set_option linter.unusedVariables false
namespace Go.Eng
open Go Go.Proofs

def selL (m:List Int) (cols:Nat) (rs:List Int):List Int:=rs.flatMap fun r=>seg m (r.toNat * cols) cols
def wgtL (xs:List Int) (x:Int):List Int:=(List.range xs.length).map fun i=>ofF (lagF xs.length (fun m=>toF (xs.getD m 0)) (toF x) i)
end Go.Eng

set_option linter.unusedSimpArgs false
set_option linter.unusedVariables false
set_option maxRecDepth 100000
namespace Go.Proofs
open Go Go.Eng

end Go.Proofs

set_option linter.unusedSimpArgs false
set_option linter.unusedVariables false
namespace Go.Proofs
open Go Go.Eng

end Go.Proofs

set_option linter.unusedSimpArgs false
set_option linter.unusedVariables false
namespace Go.Proofs
open Go Go.Eng
theorem selL_len {m:List Int} {c r:Nat} (hm:r * c ≤ m.length):∀ {rs:List Int},(∀ x ∈ rs,0 ≤ x∧x < (r:Int))→(selL m c rs).length = rs.length * c
 | [],_=>by simp [selL]
 | x :: rs,h=>by
  have ih:=selL_len hm (rs:=rs) fun y hy=>h y (List.mem_cons_of_mem _ hy)
  have hx:=h x (List.mem_cons_self ..)
  have:=row_le (ca:=c) (show x.toNat < r by omega)
  rw [selL,List.flatMap_cons,List.length_append,seg_len (by omega),show (rs.flatMap fun r=>seg m (r.toNat * c) c) = selL m c rs from rfl,ih,List.length_cons,Nat.add_mul]; omega
theorem getD_mem {l:List Int} {n:Nat} (h:n < l.length):l.getD n 0 ∈ l:=by
 rw [List.getD_eq_getElem?_getD,List.getElem?_eq_getElem h]; exact List.getElem_mem h
end Go.Proofs

set_option linter.unusedSimpArgs false
set_option linter.unusedVariables false
namespace Go.Eng
open Go Go.Proofs
def chooseOk (k total:Nat) (rs:List Int):Prop:=rs.length = k∧rs.Nodup∧∀ x ∈ rs,0 ≤ x∧x < (total:Int)
end Go.Eng
namespace Go.Proofs
open Go Go.Eng

theorem del_symm {i j:Nat}:del i j = del j i:=by
 unfold del
 by_cases hij:i = j
 ·rw [if_pos hij,if_pos hij.symm]
 ·rw [if_neg hij,if_neg (Ne.symm hij)]
theorem sel_get {m:List Int} {k R:Nat} (hm:m.length = R * k):∀ {rs:List Int},(∀ x ∈ rs,0 ≤ x∧x < (R:Int))→∀ {i j:Nat},i < rs.length→j < k→(selL m k rs).getD (i * k + j) 0 = m.getD ((rs.getD i 0).toNat * k + j) 0
 | [],_,i,j,hi,_=>by simp at hi
 | x :: rs,h,i,j,hi,hj=>by
  have hx:=h x (List.mem_cons_self ..)
  have hxk:x.toNat * k + k ≤ R * k:=by
   have h1:x.toNat + 1 ≤ R:=by omega
   have:=Nat.mul_le_mul_right k h1
   rw [Nat.add_mul] at this; omega
  have hsl:(seg m (x.toNat * k) k).length = k:=by rw [seg,List.length_take,List.length_drop]; omega
  rw [selL,List.flatMap_cons]
  cases i with
  | zero =>
   rw [Nat.zero_mul,Nat.zero_add,List.getD_eq_getElem?_getD,List.getElem?_append_left (by rw [hsl]; exact hj),seg,List.getElem?_take,if_pos hj,List.getElem?_drop,← List.getD_eq_getElem?_getD]
   rfl
  | succ i =>
   have ih:=sel_get hm (rs:=rs) (fun y hy=>h y (List.mem_cons_of_mem _ hy)) (i:=i) (j:=j) (by simpa using hi) hj
   rw [List.getD_eq_getElem?_getD,List.getElem?_append_right (by rw [hsl,Nat.add_mul]; omega),hsl,show (i + 1) * k + j - k = i * k + j by rw [Nat.add_mul]; omega,← List.getD_eq_getElem?_getD]
   exact ih
theorem sel_bytes {m:List Int} {k:Nat} {rs:List Int} (h:bytesL m):bytesL (selL m k rs):=fun x hx=>by
 rw [selL,List.mem_flatMap] at hx
 obtain ⟨r,_,hx⟩:=hx
 exact h x (List.mem_of_mem_drop (List.mem_of_mem_take hx))
theorem chosen_distinct {k total:Nat} {rs:List Int} (h:chooseOk k total rs) (ht:total ≤ 255):distinct k fun i=>xsF (rs.getD i 0).toNat:=by
 obtain ⟨h1,h2,h3⟩:=h
 intro i j hi hj he
 have gi:rs.getD i 0 = rs[i]'(by omega):=by rw [List.getD_eq_getElem?_getD,List.getElem?_eq_getElem (by omega)]; rfl
 have gj:rs.getD j 0 = rs[j]'(by omega):=by rw [List.getD_eq_getElem?_getD,List.getElem?_eq_getElem (by omega)]; rfl
 have mi:=h3 _ (List.getElem_mem (l:=rs) (n:=i) (by omega))
 have mj:=h3 _ (List.getElem_mem (l:=rs) (n:=j) (by omega))
 simp only [gi,gj] at he
 have:=xs_distinct (n:=256) (Nat.le_refl _) _ _ (by omega) (by omega) he
 exact (List.getElem_inj (h₀:=by omega) (h₁:=by omega) h2).1 (by omega)
theorem sel_len' {m:List Int} {k total:Nat} {rs:List Int} (h:chooseOk k total rs) (hm:m.length = total * k):(selL m k rs).length = k * k:=by
 rw [selL_len (r:=total) (by omega) h.2.2,h.1]
theorem gen_inj {k total:Nat} {rs:List Int} (h:chooseOk k total rs) (h1:1 ≤ k) (hk:k ≤ total) (ht:total ≤ 255) {y:Nat→F}
  (hy:∀ i,i < k→fsum (fun j=>fmul (matL k (genL k total) (rs.getD i 0).toNat j) (y j)) k = 0):∀ j,j < k→y j = 0:=by
 obtain ⟨g1,g2,g3,_⟩:=gen_facts h1 hk ht
 obtain ⟨t2,he⟩:=top_ech hk ht
 obtain ⟨_,m2⟩:=inv_mul he
 have hz:∀ l,l < k→fsum (fun j=>fmul (matL k (topE k total).2.1 l j) (y j)) k = 0:=vander_inj (chosen_distinct h ht) fun i hi=>by
  rw [← hy i hi]
  have hx:=h.2.2 (rs.getD i 0) (by rw [List.getD_eq_getElem?_getD,List.getElem?_eq_getElem (by rw [h.1]; exact hi)]; exact List.getElem_mem _)
  have e2:fsum (fun j=>fmul (matL k (genL k total) (rs.getD i 0).toNat j) (y j)) k = fsum (fun j=>fsum (fun l=>fmul (fmul (fpow (xsF (rs.getD i 0).toNat) l) (matL k (topE k total).2.1 l j)) (y j)) k) k:=fsum_congr fun j hj=>by rw [g3 _ j (by omega) hj,fsum_mul']
  rw [e2,fsum_swap]
  refine fsum_congr fun l hl=>?_
  rw [← fsum_mul]
  exact fsum_congr fun j hj=>by rw [fmul_assoc]
 intro j hj
 have e1:y j = fsum (fun i=>fmul (y i) (del i j)) k:=(fsum_del' (f:=y) hj).symm
 rw [e1,fsum_congr (g:=fun i=>fsum (fun l=>fmul (matL k ((vanderL total k).take (k * k)) j l) (fmul (matL k (topE k total).2.1 l i) (y i))) k) fun i hi=>?_,fsum_swap]
 ·refine fsum_zero fun l hl=>?_
  rw [fsum_mul,hz l hl,fmul_zero]
 ·have:=m2 j i hj hi
  rw [show del i j = del j i from del_symm,← this,fmul_comm,← fsum_mul']
  exact fsum_congr fun l hl=>by rw [fmul_assoc]
theorem rows_gen {k total:Nat} {rs:List Int} (h:chooseOk k total rs) (h1:1 ≤ k) (hk:k ≤ total) (ht:total ≤ 255):(invE (selL (genL k total) k rs) k).2.2 = k:=by
 obtain ⟨g1,g2,_,_⟩:=gen_facts h1 hk ht
 refine inv_rank (sel_len' h g1) (sel_bytes g2) fun y hy=>gen_inj h h1 hk ht fun i hi=>?_
 rw [← hy i hi]
 refine fsum_congr fun j hj=>?_
 rw [matL,matL,sel_get g1 h.2.2 (by rw [h.1]; exact hi) hj]

end Go.Proofs

set_option linter.unusedSimpArgs false
set_option linter.unusedVariables false
namespace Go.Eng
open Go Go.Proofs
end Go.Eng
namespace Go.Proofs
open Go Go.Eng
theorem enc_pc {h:Hp} {D:Rows'} {n:Nat} {f:Nat→List Int} (he:encAt h D n f):pcOk h D n∧∀ j,j < n→pcI D j = j∧pcD h D j = f j:=by
 refine ⟨fun j hj=>?_,fun j hj=>?_⟩
 ·obtain ⟨v,d,e,hr,_,hb⟩:=he j hj
  exact ⟨_,v,d,e,hr,hb⟩
 ·obtain ⟨v,d,e,hr,hf,hb⟩:=he j hj
  refine ⟨by simp [pcI,cellI,cellV,e,vInt],?_⟩
  rw [pcD,show cellV D (j:Int) 1 = v by simp [cellV,e],rdL_eq hr,hf]
end Go.Proofs

set_option linter.unusedSimpArgs false
set_option linter.unusedVariables false
namespace Go.Eng
open Go Go.Proofs

def rangeI (n:Nat):List Int:=(List.range n).map fun (m:Nat)=>(m:Int)
end Go.Eng

set_option linter.unusedSimpArgs false
set_option linter.unusedVariables false
namespace Go.Eng
open Go Go.Proofs

def mixN (f:Nat→List Int) (w:List Int) (l:Nat):Nat→List Int
 | 0=>List.replicate l 0
 | j + 1=>addToL (mixN f w l j) 0 (seg (f j) 0 l) (w.getD j 0)
end Go.Eng

set_option linter.unusedSimpArgs false
set_option linter.unusedVariables false
namespace Go.Eng
open Go Go.Proofs
end Go.Eng

set_option linter.unusedSimpArgs false
set_option linter.unusedVariables false
set_option maxRecDepth 100000
namespace Go.Proofs
open Go Go.Eng

end Go.Proofs

set_option linter.unusedSimpArgs false
set_option linter.unusedVariables false
namespace Go.Eng
open Go Go.Proofs

end Go.Eng

set_option linter.unusedSimpArgs false
set_option linter.unusedVariables false
namespace Go.Proofs
open Go Go.Eng

theorem mixN_len {f:Nat→List Int} {w:List Int} {l:Nat}:∀ j,(mixN f w l j).length = l
 | 0=>by simp [mixN]
 | j + 1=>by rw [mixN,addToL_len,mixN_len j]
end Go.Proofs

set_option linter.unusedSimpArgs false
set_option linter.unusedVariables false
set_option maxRecDepth 100000
namespace Go.Proofs
open Go Go.Eng

end Go.Proofs

set_option linter.unusedSimpArgs false
set_option linter.unusedVariables false
namespace Go.Proofs
open Go Go.Eng
theorem range_nodup {n:Nat}:(rangeI n).Nodup:=List.pairwise_map.2 (List.nodup_range.imp fun h e=>h (by omega))
theorem range_mem {n:Nat} {x:Int} (h:x ∈ rangeI n):0 ≤ x∧x < n:=by
 obtain ⟨m,hm,rfl⟩:=List.mem_map.1 h
 have:=List.mem_range.1 hm
 omega
theorem chosen {o l:List Int} {n k:Nat} (h:(o ++ l).Perm (rangeI n)) (hk:o.length = k):o.length = k∧o.Nodup∧∀ x ∈ o,0 ≤ x∧x < (n:Int) :=
 ⟨hk,(List.nodup_append.1 (h.nodup_iff.2 range_nodup)).1,fun x hx=>range_mem (h.mem_iff.1 (List.mem_append_left _ hx))⟩
end Go.Proofs

set_option linter.unusedSimpArgs false
set_option linter.unusedVariables false
namespace Go.Proofs
open Go Go.Eng
end Go.Proofs

set_option linter.unusedSimpArgs false
set_option linter.unusedVariables false
namespace Go.Proofs
open Go Go.Eng
set_option maxRecDepth 20000
end Go.Proofs

set_option linter.unusedSimpArgs false
set_option linter.unusedVariables false
namespace Go.Eng
open Go Go.Proofs
def blk:Value→Option Nat
 | .slice (some a) _ _=>some a.block
 | _=>none
def tabV (h:Hp) (vs:Nat→Value) (n:Nat) (M:Nat→List Int):Prop :=
 (∀ j,j < n→∃ d,Rd h kB (vs j) d∧bI d = M j∧allB d)∧∀ i j,i < n→j < n→i ≠ j→M i ≠ []→M j ≠ []→blk (vs i) ≠ blk (vs j)
end Go.Eng
namespace Go.Proofs
open Go Go.Eng
theorem tab_at {h:Hp} {vs:Nat→Value} {n j:Nat} {M:Nat→List Int} (ht:tabV h vs n M) (hj:j < n):∃ d,Rd h kB (vs j) d∧bI d = M j∧allB d:=ht.1 j hj
end Go.Proofs

set_option linter.unusedSimpArgs false
set_option linter.unusedVariables false
namespace Go.Eng
open Go Go.Proofs
def tvs (D:Rows'):Nat→Value:=fun j=>cellV D j 0
end Go.Eng

set_option linter.unusedSimpArgs false
set_option linter.unusedVariables false
namespace Go.Eng
open Go Go.Proofs
noncomputable def pcN (h:Hp) (D:Rows') (j:Nat):Nat:=(pcD h D j).length
def rdB (h:Hp) (v:Value):Prop:=∃ d,Rd h kB v d∧allB d
noncomputable def idxL (D:Rows') (k:Nat):List Int:=(List.range k).map (pcI D)
noncomputable def colF (h:Hp) (D:Rows'):Nat→List Int:=fun j=>rdL h (tvs D j)
noncomputable def valLr (h:Hp) (D:Rows') (k:Nat) (x:Int):List Int:=mixN (pcD h D) (wgtL (idxL D k) x) (pcN h D 0) k
def invL (total k:Nat) (rs:List Int):List Int:=(invE (selL (genL k total) k rs) k).2.1
noncomputable def solM (h:Hp) (D:Rows') (total k:Nat) (i:Nat):List Int:=mixN (pcD h D) (seg (invL total k (idxL D k)) (i * k) k) (pcN h D 0) k
def solPre (h:Hp) (D:Rows') (k total n:Int):Prop:=sizesB k total = true∧k ≤ n∧n ≤ 17592186043904∧pcOk h D n.toNat∧chooseOk k.toNat total.toNat (idxL D k.toNat)∧pcN h D 0 ≤ 8192∧∀ j,j < k.toNat→pcN h D j = pcN h D 0
end Go.Eng

set_option linter.unusedSimpArgs false
set_option linter.unusedVariables false
namespace Go.Eng
open Go Go.Proofs
end Go.Eng

set_option linter.unusedSimpArgs false
set_option linter.unusedVariables false
namespace Go.Eng
open Go Go.Proofs
noncomputable def plI (k size:Int):Int:=(pieceLen k.toNat size.toNat:Int)
end Go.Eng

set_option linter.unusedSimpArgs false
set_option linter.unusedVariables false
namespace Go.Eng
open Go Go.Proofs
def manAt (r:Nat):SV:=.agg (manT r (r + 1) (r + 2) (r + 3) (r + 4) (r + 5) (r + 6) (r + 7))
end Go.Eng

set_option linter.unusedSimpArgs false
set_option linter.unusedVariables false
namespace Go.Proofs
open Go Go.Eng
section
variable {M:Bool} {C:Int→Prop} {x t:Int} {D O:List Int}
end
end Go.Proofs

set_option linter.unusedSimpArgs false
set_option linter.unusedVariables false
namespace Go.Proofs
open Go Go.Eng
variable {rows wide c rank:Nat} {T0:Mat} {M:Nat→List Int}
end Go.Proofs

set_option linter.unusedSimpArgs false
set_option linter.unusedVariables false
namespace Go.Proofs
open Go Go.Eng
end Go.Proofs

set_option linter.unusedSimpArgs false
set_option linter.unusedVariables false
set_option maxRecDepth 100000
namespace Go.Proofs
open Go Go.Eng

end Go.Proofs

set_option linter.unusedSimpArgs false
set_option linter.unusedVariables false
namespace Go.Proofs
open Go Go.Eng
variable {k total len e e':Int} {n i:Nat} {I I':Nat→Int} {L L':Nat→Nat}
end Go.Proofs

set_option linter.unusedSimpArgs false
set_option linter.unusedVariables false
namespace Go.Proofs
open Go Go.Eng
set_option maxRecDepth 100000
end Go.Proofs

set_option linter.unusedSimpArgs false
set_option linter.unusedVariables false
namespace Go.Proofs
open Go Go.Eng
def byF (r:F) (y:Nat→F):Nat→F:=fun l=>(if l = 0 then 0 else y (l - 1)) ^^^ fmul r (y l)
theorem pval_one {y:Nat→F} {x:F}:pval 1 y x = y 0:=by
 show (0:F) ^^^ fmul (y 0) (fpow x 0) = y 0
 rw [zero_xor',show fpow x 0 = 1 from rfl,fmul_one]
theorem byF_val' {r x:F} {y:Nat→F}:∀ n,pval (n + 1) (byF r y) x = fmul (x ^^^ r) (pval n y x) ^^^ fmul (fmul r (y n)) (fpow x n)
 | 0=>by rw [pval_one,byF,if_pos rfl,zero_xor',show pval 0 y x = 0 from rfl,fmul_zero,zero_xor',show fpow x 0 = 1 from rfl,fmul_one]
 | n + 1=>by
  have ih:=byF_val' (r:=r) (x:=x) (y:=y) n
  have h1:pval (n + 2) (byF r y) x = pval (n + 1) (byF r y) x ^^^ fmul (byF r y (n + 1)) (fpow x (n + 1)):=rfl
  have h2:pval (n + 1) y x = pval n y x ^^^ fmul (y n) (fpow x n):=rfl
  rw [h1,ih,h2,byF,if_neg (by omega),Nat.add_sub_cancel,xor_fmul,fmul_xor (x:=y n)]
  have h3:fmul (x ^^^ r) (fmul (y n) (fpow x n)) = fmul (y n) (fpow x (n + 1)) ^^^ fmul (fmul r (y n)) (fpow x n):=by
   rw [fmul_xor,fpow]
   congr 1
   ·rw [← fmul_assoc,fmul_comm (x:=x),fmul_assoc]
    try rw [fmul_comm (x:=x)]
   ·rw [fmul_assoc]
  rw [h3]
  generalize fmul (x ^^^ r) (pval n y x) = a
  generalize fmul (fmul r (y n)) (fpow x n) = b
  generalize fmul (y n) (fpow x (n + 1)) = c
  generalize fmul (fmul r (y (n + 1))) (fpow x (n + 1)) = d
  rw [BitVec.xor_assoc,BitVec.xor_assoc,BitVec.xor_assoc]
  congr 1
  rw [← BitVec.xor_assoc,← BitVec.xor_assoc,BitVec.xor_comm b c]
theorem byF_val {r x:F} {y:Nat→F} {n:Nat} (h:y n = 0):pval (n + 1) (byF r y) x = fmul (x ^^^ r) (pval n y x):=by
 rw [byF_val',h,fmul_zero,zero_fmul,xor_zero']
theorem pval_more {y:Nat→F} {x:F} {n:Nat} (h:∀ l,n ≤ l→y l = 0):∀ m,pval (n + m) y x = pval n y x
 | 0=>rfl
 | m + 1=>by
  show pval (n + m) y x ^^^ fmul (y (n + m)) (fpow x (n + m)) = _
  rw [pval_more h m,h _ (by omega),zero_fmul,xor_zero']
theorem pval_xor {y z:Nat→F} {x:F} {n:Nat}:pval n (fun l=>y l ^^^ z l) x = pval n y x ^^^ pval n z x:=by
 simp only [pval]
 rw [← fsum_xor]
 exact fsum_congr fun j _=>fmul_xor
theorem pval_mul {y:Nat→F} {x c:F} {n:Nat}:pval n (fun l=>fmul c (y l)) x = fmul c (pval n y x):=by
 simp only [pval]
 rw [← fsum_mul]
 exact fsum_congr fun j _=>fmul_assoc
def ddF (xs ys:Nat→F):Nat→Nat→F
 | s,0=>ys s
 | s,j + 1=>fmul (ddF xs ys (s + 1) j ^^^ ddF xs ys s j) (finv (xs (s + j + 1) ^^^ xs s))
theorem newton_top {n:Nat} {xs ys:Nat→F} (hd:distinct n xs):∀ j s,s + j < n→∃ y:Nat→F,(∀ l,j < l→y l = 0)∧(∀ i,i ≤ j→pval (j + 1) y (xs (s + i)) = ys (s + i))∧y j = ddF xs ys s j
 | 0,s,hs=>⟨fun l=>if l = 0 then ys s else 0,fun l hl=>if_neg (by omega),fun i hi=>by
   obtain rfl:i = 0:=by omega
   rw [pval_one,if_pos rfl,Nat.add_zero],rfl⟩
 | j + 1,s,hs=>by
  obtain ⟨y1,a1,b1,c1⟩:=newton_top (ys:=ys) hd j (s + 1) (by omega)
  obtain ⟨y0,a0,b0,c0⟩:=newton_top (ys:=ys) hd j s (by omega)
  have hne:xs (s + j + 1) ^^^ xs s ≠ 0:=fun h=>by have:=hd _ _ (by omega) (by omega) (xor_eq_zero.1 h); omega
  let w:F:=finv (xs (s + j + 1) ^^^ xs s)
  have hv:∀ x,pval (j + 2) (fun l=>fmul w (byF (xs s) y1 l ^^^ byF (xs (s + j + 1)) y0 l)) x = fmul w (fmul (x ^^^ xs s) (pval (j + 1) y1 x) ^^^ fmul (x ^^^ xs (s + j + 1)) (pval (j + 1) y0 x)):=fun x=>by
   rw [pval_mul,pval_xor,byF_val (a1 _ (by omega)),byF_val (a0 _ (by omega))]
  refine ⟨fun l=>fmul w (byF (xs s) y1 l ^^^ byF (xs (s + j + 1)) y0 l),fun l hl=>?_,fun i hi=>?_,?_⟩
  ·simp only [byF]
   rw [if_neg (by omega),if_neg (by omega),a1 l (by omega),a0 l (by omega),a1 (l - 1) (by omega),a0 (l - 1) (by omega),fmul_zero,fmul_zero,xor_self',fmul_zero]
  ·rw [hv]
   have hw:∀ z,fmul w (fmul (xs (s + j + 1) ^^^ xs s) z) = z:=fun z=>by
    rw [← fmul_assoc,fmul_comm (x:=w),fmul_finv hne,one_fmul]
   by_cases h0:i = 0
   ·subst h0
    have hb0:=b0 0 (by omega)
    simp only [Nat.add_zero] at hb0
    rw [Nat.add_zero,xor_self',zero_fmul,zero_xor',hb0,BitVec.xor_comm,hw]
   ·by_cases h1:i = j + 1
    ·subst h1
     have:=b1 j (Nat.le_refl _)
     rw [show s + 1 + j = s + (j + 1) by omega] at this
     rw [this,← Nat.add_assoc,xor_self',zero_fmul,xor_zero',hw]
    ·have h2:=b1 (i - 1) (by omega)
     rw [show s + 1 + (i - 1) = s + i by omega] at h2
     rw [h2,b0 i (by omega),← fmul_xor,xor_swap,xor_self',zero_xor',BitVec.xor_comm,hw]
  ·simp only [byF]
   rw [if_neg (by omega),if_neg (by omega),a1 (j + 1) (by omega),a0 (j + 1) (by omega),fmul_zero,fmul_zero,xor_zero',xor_zero',Nat.add_sub_cancel,c1,c0,fmul_comm]
   rfl
def monF (xs:Nat→F):Nat→Nat→F
 | 0=>fun l=>if l = 0 then 1 else 0
 | m + 1=>byF (xs m) (monF xs m)
theorem mon_facts {xs:Nat→F}:∀ m,(∀ l,m < l→monF xs m l = 0)∧monF xs m m = 1∧∀ x,pval (m + 1) (monF xs m) x = fprod (fun u=>x ^^^ xs u) m
 | 0=>⟨fun l hl=>if_neg (by omega),rfl,fun x=>by rw [pval_one]; rfl⟩
 | m + 1=>by
  obtain ⟨h1,h2,h3⟩:=mon_facts (xs:=xs) m
  refine ⟨fun l hl=>?_,?_,fun x=>?_⟩
  ·simp only [monF,byF]
   rw [if_neg (by omega),h1 (l - 1) (by omega),h1 l (by omega),fmul_zero,xor_zero']
  ·simp only [monF,byF]
   rw [if_neg (by omega),Nat.add_sub_cancel,h2,h1 (m + 1) (by omega),fmul_zero,xor_zero']
  ·rw [monF,byF_val (h1 _ (by omega)),h3,fprod,fmul_comm]
def newtF (xs ys:Nat→F) (x:F) (m:Nat):F:=fsum (fun t=>fmul (ddF xs ys 0 t) (fprod (fun u=>x ^^^ xs u) t)) m
theorem newton_at {n:Nat} {xs ys:Nat→F} (hd:distinct n xs):∀ m,m < n→∃ y:Nat→F,(∀ l,m < l→y l = 0)∧(∀ i,i ≤ m→pval (m + 1) y (xs i) = ys i)∧∀ x,pval (m + 1) y x = newtF xs ys x (m + 1)
 | 0,hm=>by
  obtain ⟨y,a,b,c⟩:=newton_top (ys:=ys) hd 0 0 (by omega)
  refine ⟨y,a,fun i hi=>by have:=b i hi; simp only [Nat.zero_add] at this ⊢; exact this,fun x=>?_⟩
  rw [pval_one,c]
  show ys 0 = (0:F) ^^^ fmul (ys 0) 1
  rw [zero_xor',fmul_one]
 | m + 1,hm=>by
  obtain ⟨y0,a0,b0,c0⟩:=newton_at (ys:=ys) hd m (by omega)
  obtain ⟨y,a,b,c⟩:=newton_top (ys:=ys) hd (m + 1) 0 (by omega)
  obtain ⟨p1,p2,p3⟩:=mon_facts (xs:=xs) (m + 1)
  refine ⟨y,a,fun i hi=>by have:=b i hi; rwa [Nat.zero_add] at this,fun x=>?_⟩
  let R:Nat→F:=fun l=>(y l ^^^ y0 l) ^^^ fmul (ddF xs ys 0 (m + 1)) (monF xs (m + 1) l)
  have hRv:∀ x,pval (m + 2) R x = (pval (m + 2) y x ^^^ pval (m + 1) y0 x) ^^^ fmul (ddF xs ys 0 (m + 1)) (fprod (fun u=>x ^^^ xs u) (m + 1)):=fun x=>by
   rw [← p3,← pval_mul,← pval_more (y:=y0) (n:=m + 1) (fun l hl=>a0 l (by omega)) 1,← pval_xor,← pval_xor]
  have hRt:R (m + 1) = 0:=by
   simp only [R]
   rw [c,a0 (m + 1) (by omega),p2,fmul_one,xor_zero',xor_self']
  have hRe:∀ x,pval (m + 1) R x = pval (m + 2) R x:=fun x=>by
   show _ = pval (m + 1) R x ^^^ fmul (R (m + 1)) (fpow x (m + 1))
   rw [hRt,zero_fmul,xor_zero']
  have h0:=pval_roots (n:=m + 1) (y:=R) (xs:=xs) (fun i j hi hj=>hd i j (by omega) (by omega)) fun i hi=>by
   rw [hRe,hRv,b0 i (by omega)]
   have:=b i (by omega)
   rw [Nat.zero_add] at this
   rw [this,xor_self',zero_xor',fprod_zero (k:=i) hi xor_self',fmul_zero]
  have hz:pval (m + 1) R x = 0:=fsum_zero fun l hl=>by rw [h0 l hl,zero_fmul]
  rw [hRe,hRv] at hz
  have h1:newtF xs ys x (m + 2) = newtF xs ys x (m + 1) ^^^ fmul (ddF xs ys 0 (m + 1)) (fprod (fun u=>x ^^^ xs u) (m + 1)):=rfl
  rw [h1,← c0 x]
  have h2:=xor_eq_zero.1 hz
  rw [← h2,← BitVec.xor_assoc,BitVec.xor_comm,← BitVec.xor_assoc,xor_self',zero_xor']
end Go.Proofs

set_option linter.unusedSimpArgs false
set_option linter.unusedVariables false
namespace Go.Proofs
open Go Go.Eng
theorem mixN_facts {f:Nat→List Int} {w:List Int} {l:Nat} (hw:bytesL w):∀ k,(∀ j,j < k→(f j).length = l∧bytesL (f j))→(mixN f w l k).length = l∧bytesL (mixN f w l k)∧∀ c,c < l→toF ((mixN f w l k).getD c 0) = fsum (fun m=>fmul (toF (w.getD m 0)) (toF ((f m).getD c 0))) k
 | 0,_=>⟨by simp [mixN],fun x hx=>by rw [mixN] at hx; rw [List.eq_of_mem_replicate hx]; exact ⟨by omega,by omega⟩,fun c hc=>by
   rw [mixN,List.getD_eq_getElem?_getD,List.getElem?_replicate,if_pos hc]; rfl⟩
 | k + 1,h=>by
  obtain ⟨h1,h2,h3⟩:=mixN_facts hw k fun j hj=>h j (by omega)
  obtain ⟨f1,f2⟩:=h k (by omega)
  have hsl:seg (f k) 0 l = f k:=by rw [← f1]; simp [seg]
  rw [mixN,hsl]
  refine ⟨by rw [addToL_len,h1],addToL_bytes h2,fun c hc=>?_⟩
  rw [List.getD_eq_getElem?_getD,addToL_get,List.getElem?_eq_getElem (by omega),Option.map_some,Option.getD_some,if_pos ⟨by omega,by omega⟩,Nat.sub_zero,toF_xorB,toF_mulF (bytesL_get hw _) (bytesL_get f2 _),fsum,← h3 c hc,List.getD_eq_getElem?_getD (l:=mixN f w l k),List.getElem?_eq_getElem (by omega),Option.getD_some]
theorem mix_eq {f g:Nat→List Int} {w v:List Int} {l k:Nat} (hw:bytesL w) (hv:bytesL v) (hf:∀ j,j < k→(f j).length = l∧bytesL (f j)) (hg:∀ j,j < k→(g j).length = l∧bytesL (g j))
  (h:∀ c,c < l→fsum (fun m=>fmul (toF (w.getD m 0)) (toF ((f m).getD c 0))) k = fsum (fun m=>fmul (toF (v.getD m 0)) (toF ((g m).getD c 0))) k):mixN f w l k = mixN g v l k:=by
 obtain ⟨a1,a2,a3⟩:=mixN_facts hw k hf
 obtain ⟨b1,b2,b3⟩:=mixN_facts hv k hg
 refine list_ext_getD (by omega) fun c hc=>toF_inj (bytesL_get a2 c) (bytesL_get b2 c) ?_
 rw [a3 c (by omega),b3 c (by omega),h c (by omega)]
theorem wgt_at {rs:List Int} {x:Int} {j:Nat} (hj:j < rs.length):toF ((wgtL rs x).getD j 0) = lagF rs.length (fun m=>toF (rs.getD m 0)) (toF x) j:=by
 unfold wgtL
 rw [List.getD_eq_getElem?_getD,List.getElem?_map,List.getElem?_range hj,Option.map_some,Option.getD_some,toF_ofF]
theorem wgt_byte {xs:List Int} {x:Int}:bytesL (wgtL xs x):=fun y hy=>by
 obtain ⟨m,_,rfl⟩:=List.mem_map.1 hy
 exact ofF_isB
variable {k total:Nat} {rs:List Int}
theorem chosen_xs (hc:chooseOk k total rs) {j:Nat} (hj:j < k):toF (rs.getD j 0) = xsF (rs.getD j 0).toNat:=by
 have h1:=hc.1
 have h2:=hc.2.2 (rs.getD j 0) (getD_mem (by omega))
 unfold xsF
 rw [Int.toNat_of_nonneg h2.1]
theorem chosen_dist (hc:chooseOk k total rs) (ht:total ≤ 255):distinct k fun m=>toF (rs.getD m 0):=fun i j hi hj he=>by
 refine chosen_distinct hc ht i j hi hj ?_
 simp only [chosen_xs hc hi,chosen_xs hc hj] at he
 exact he
theorem poly_thru {xs v:Nat→F} (h1:1 ≤ k) (hd:distinct k xs):∃ y:Nat→F,(∀ i,i < k→pval k y (xs i) = v i)∧∀ x,pval k y x = fsum (fun j=>fmul (lagF k xs x j) (v j)) k:=by
 obtain ⟨y,_,hy,_⟩:=newton_at (ys:=v) hd (k - 1) (by omega)
 rw [show k - 1 + 1 = k by omega] at hy
 refine ⟨y,fun i hi=>hy i (by omega),fun x=>?_⟩
 rw [lagrange hd]
 exact fsum_congr fun j hj=>by rw [hy j (by omega)]
theorem inv_apply (hc:chooseOk k total rs) (h1:1 ≤ k) (hk:k ≤ total) (ht:total ≤ 255) (v:Nat→F) {i:Nat} (hi:i < k) :
    fsum (fun j=>fmul (matL k (invL total k rs) i j) (v j)) k = fsum (fun j=>fmul (lagF k (fun m=>toF (rs.getD m 0)) (xsF i) j) (v j)) k:=by
  obtain ⟨y,hy,hL⟩:=poly_thru (v:=v) h1 (chosen_dist hc ht)
  obtain ⟨g1,g2,_,g4⟩:=gen_facts h1 hk ht
  have hlen:=sel_len' hc g1
  have hr:=rows_gen hc h1 hk ht
  obtain ⟨t2,he⟩:=inv_ech hlen (sel_bytes g2)
  rw [hr] at he
  obtain ⟨m1,_⟩:=inv_mul he
  have hS:∀ j,j < k→∀ m,m < k→matL k (selL (genL k total) k rs) j m = lagF k xsF (toF (rs.getD j 0)) m:=fun j hj m hm=>by
    have hrj:=hc.2.2 (rs.getD j 0) (getD_mem (by rw [hc.1]; exact hj))
    unfold matL
    rw [sel_get g1 hc.2.2 (by rw [hc.1]; exact hj) hm,chosen_xs hc hj,← g4 (rs.getD j 0).toNat m (by omega) hm]
    rfl
  have hx:distinct k xsF:=xs_distinct (by omega)
  rw [← hL]
  calc fsum (fun j=>fmul (matL k (invL total k rs) i j) (v j)) k
      = fsum (fun j=>fsum (fun m=>fmul (fmul (matL k (invL total k rs) i j) (matL k (selL (genL k total) k rs) j m)) (pval k y (xsF m))) k) k:=by
        refine fsum_congr fun j hj=>?_
        rw [← hy j hj,lagrange hx (x:=toF (rs.getD j 0)),← fsum_mul]
        exact fsum_congr fun m hm=>by rw [hS j hj m hm,fmul_assoc]
    _ = fsum (fun m=>fmul (del m i) (pval k y (xsF m))) k:=by
        rw [fsum_swap]
        refine fsum_congr fun m hm=>?_
        rw [fsum_mul',del_symm]
        congr 1
        exact m1 i m hi hm
    _ = pval k y (xsF i):=fsum_del (f:=fun m=>pval k y (xsF m)) hi
theorem seg_row {m:List Int} {i j:Nat} (hj:j < k):toF ((seg m (i * k) k).getD j 0) = matL k m i j:=by
 unfold matL seg
 rw [List.getD_eq_getElem?_getD,List.getElem?_take,if_pos hj,List.getElem?_drop,List.getD_eq_getElem?_getD]
theorem inv_bytes (hc:chooseOk k total rs) (h1:1 ≤ k) (hk:k ≤ total) (ht:total ≤ 255):(invL total k rs).length = k * k∧bytesL (invL total k rs):=by
 obtain ⟨g1,g2,_,_⟩:=gen_facts h1 hk ht
 obtain ⟨t2,_⟩:=inv_ech (sel_len' hc g1) (sel_bytes g2)
 exact ⟨t2.lb,t2.bb⟩
theorem seg_byte {l:List Int} {o n:Nat} (h:bytesL l):bytesL (seg l o n):=fun x hx=>h x (List.mem_of_mem_drop (List.mem_of_mem_take hx))
theorem col_val (hc:chooseOk k total rs) (h1:1 ≤ k) (hk:k ≤ total) (ht:total ≤ 255) {f:Nat→List Int} {l i:Nat} (hf:∀ j,j < k→(f j).length = l∧bytesL (f j)) (hi:i < k) :
  mixN f (seg (invL total k rs) (i * k) k) l k = mixN f (wgtL rs (i:Int)) l k:=by
 refine mix_eq (seg_byte (inv_bytes hc h1 hk ht).2) wgt_byte hf hf fun c hcl=>?_
 rw [fsum_congr fun m hm=>by rw [seg_row hm],inv_apply hc h1 hk ht _ hi]
 exact fsum_congr fun m hm=>by rw [wgt_at (by rw [hc.1]; exact hm),hc.1]; rfl
theorem comb_val (hc:chooseOk k total rs) (h1:1 ≤ k) (hk:k ≤ total) (ht:total ≤ 255) {f:Nat→List Int} {l r:Nat} (hf:∀ j,j < k→(f j).length = l∧bytesL (f j)) (hr:r < total) {g:Nat→List Int} (hg:∀ i,i < k→g i = mixN f (wgtL rs (i:Int)) l k) :
  mixN g (seg (genL k total) (r * k) k) l k = mixN f (wgtL rs (r:Int)) l k:=by
 obtain ⟨g1,g2,_,g4⟩:=gen_facts h1 hk ht
 have hgf:∀ i,i < k→(g i).length = l∧bytesL (g i):=fun i hi=>by
  obtain ⟨a,b,_⟩:=mixN_facts (wgt_byte (xs:=rs) (x:=(i:Int))) k hf
  rw [hg i hi]; exact ⟨a,b⟩
 refine mix_eq (seg_byte g2) wgt_byte hgf hf fun c hcl=>?_
 obtain ⟨y,hy,hL⟩:=poly_thru (v:=fun j=>toF ((f j).getD c 0)) h1 (chosen_dist hc ht)
 have hx:distinct k xsF:=xs_distinct (by omega)
 have hv:∀ x:Int,fsum (fun m=>fmul (toF ((wgtL rs x).getD m 0)) (toF ((f m).getD c 0))) k = pval k y (toF x):=fun x=>by
  rw [hL]
  exact fsum_congr fun m hm=>by rw [wgt_at (by rw [hc.1]; exact hm),hc.1]
 rw [hv,show toF ((r:Nat):Int) = xsF r from rfl,lagrange hx]
 refine fsum_congr fun m hm=>?_
 rw [seg_row hm,g4 r m hr hm,hg m hm,(mixN_facts wgt_byte k hf).2.2 c hcl,hv]
 rfl
end Go.Proofs

set_option linter.unusedSimpArgs false
set_option linter.unusedVariables false
namespace Go.Proofs
open Go Go.Eng
set_option maxRecDepth 100000
end Go.Proofs

set_option linter.unusedSimpArgs false
set_option linter.unusedVariables false
namespace Go.Proofs
open Go Go.Eng
set_option maxRecDepth 100000
end Go.Proofs

set_option linter.unusedSimpArgs false
set_option linter.unusedVariables false
set_option maxRecDepth 100000
namespace Go.Proofs
open Go Go.Eng

end Go.Proofs

set_option linter.unusedSimpArgs false
set_option linter.unusedVariables false
namespace Go.Proofs
open Go Go.Eng
set_option maxRecDepth 100000
structure PcIn (h:Hp) (D:Rows') (k total n:Int):Prop where
 k1:1 ≤ k
 k2:k ≤ total
 k3:total ≤ 255
 kn:k ≤ n
 sol:solPre h D k total n
 idx:∀ j,j < n.toNat→0 ≤ pcI D j∧pcI D j < total
 len:∀ j,j < n.toNat→pcN h D j = pcN h D 0
 fs:∀ j,j < n.toNat→(pcD h D j).length = pcN h D 0∧bytesL (pcD h D j)
variable {h:Hp} {D:Rows'} {k total n:Int}
theorem PcIn.f (p:PcIn h D k total n):∀ j,j < k.toNat→(pcD h D j).length = pcN h D 0∧bytesL (pcD h D j):=fun j hj=>p.fs j (by have:=p.kn; omega)
theorem PcIn.cols (p:PcIn h D k total n) {hc:Hp} {C:Rows'} (ht:tabV hc (tvs C) k.toNat (solM h D total.toNat k.toNat)) :
  (∀ j,j < k.toNat→rdB hc (tvs C j)∧(colF hc C j).length = (colF hc C 0).length)∧(colF hc C 0).length = pcN h D 0∧∀ r:Int,0 ≤ r→r < total→mixN (colF hc C) (seg (genL k.toNat total.toNat) (r.toNat * k.toNat) k.toNat) (colF hc C 0).length k.toNat = valLr h D k.toNat r:=by
 have h1:=p.k1
 have h2:=p.k2
 have h3:=p.k3
 have hch:=p.sol.2.2.2.2.1
 have hcol:∀ j,j < k.toNat→rdB hc (tvs C j)∧colF hc C j = solM h D total.toNat k.toNat j:=fun j hj=>by
  obtain ⟨d,hr,hd,hB⟩:=tab_at ht hj
  exact ⟨⟨d,hr,hB⟩,by rw [colF,rdL_eq hr,hd]⟩
 have hl:∀ j,j < k.toNat→(colF hc C j).length = pcN h D 0:=fun j hj=>by
  rw [(hcol j hj).2,solM,mixN_len]
 refine ⟨fun j hj=>⟨(hcol j hj).1,by rw [hl j hj,hl 0 (by omega)]⟩,hl 0 (by omega),fun r r0 r1=>?_⟩
 rw [hl 0 (by omega),comb_val hch (by omega) (by omega) (by omega) (f:=pcD h D) p.f (by omega) (r:=r.toNat) (fun i hi=>by
  rw [(hcol i hi).2,solM,col_val hch (by omega) (by omega) (by omega) p.f hi]),Int.toNat_of_nonneg r0]
 rfl
theorem PcIn.value (p:PcIn h D k total n):(∀ j:Nat,(j:Int) < k→0 ≤ pcI D j∧pcI D j < 256)∧(idxL D k.toNat).Nodup∧pcN h D 0 ≤ 9000∧(∀ j:Nat,(j:Int) < k→pcN h D j = pcN h D 0)∧pcOk h D k.toNat:=by
 have h1:=p.k1
 have h2:=p.k2
 have h3:=p.k3
 have h4:=p.kn
 have h5:=p.sol.2.2.2.2.2.1
 refine ⟨fun j hj=>?_,p.sol.2.2.2.2.1.2.1,by omega,fun j hj=>p.len j (by omega),fun j hj=>p.sol.2.2.2.1 j (by omega)⟩
 have:=p.idx j (by omega)
 omega
end Go.Proofs

set_option linter.unusedSimpArgs false
set_option linter.unusedVariables false
namespace Go.Proofs
open Go Go.Eng
set_option maxRecDepth 100000
variable {h h':Hp} {D D':Rows'} {k total n index len e e':Int} {b b':Bool}
end Go.Proofs

set_option linter.unusedSimpArgs false
set_option linter.unusedVariables false
namespace Go.Proofs
open Go Go.Eng
end Go.Proofs

set_option linter.unusedSimpArgs false
set_option linter.unusedVariables false
namespace Go.Proofs
open Go Go.Eng
theorem chkE_zero {k n t s l i:Int} {D:List (List Int)} {m:List Int} (h:chkE k n t s l D i m = 0):manOk k n t s l = true∧0 ≤ i∧i < t∧(m.length:Int) = plenI k s∧sha (pieceIn i ++ m) = D.getD i.toNat []:=by
 unfold chkE at h
 by_cases h1:manOk k n t s l = false
 ·rw [if_pos h1] at h; omega
 rw [if_neg h1] at h
 by_cases h2:i < 0∨t ≤ i
 ·rw [if_pos h2] at h; omega
 rw [if_neg h2] at h
 by_cases h3:(m.length:Int) ≠ plenI k s
 ·rw [if_pos h3] at h; omega
 rw [if_neg h3] at h
 by_cases h4:sha (pieceIn i ++ m) ≠ D.getD i.toNat []
 ·rw [if_pos h4] at h; omega
 exact ⟨by simpa using h1,by omega,by omega,by omega,by simpa using h4⟩
theorem manOk_iff {k n t s l:Int}:manOk k n t s l = true↔1 ≤ k∧k ≤ n∧n ≤ t∧t ≤ 255∧0 ≤ s∧s ≤ 8192∧l = t:=by
 simp [manOk,sizes3,and_assoc]
theorem plenI_eq {k s:Int} (hk:1 ≤ k) (hs:0 ≤ s):plenI k s = plI k s:=by
 obtain ⟨k,rfl⟩:=Int.eq_ofNat_of_zero_le (show 0 ≤ k by omega)
 obtain ⟨s,rfl⟩:=Int.eq_ofNat_of_zero_le hs
 have e:((s:Int) + (k:Int) - 1) = ((s + k - 1:Nat):Int):=by omega
 unfold plenI plI pieceLen
 rw [e,Int.ofNat_tdiv]
 simp
end Go.Proofs

set_option linter.unusedSimpArgs false
set_option linter.unusedVariables false
set_option maxRecDepth 100000
namespace Go.Proofs
open Go Go.Eng

end Go.Proofs

set_option linter.unusedSimpArgs false
set_option linter.unusedVariables false
set_option maxRecDepth 100000
namespace Go.Proofs
open Go Go.Eng

end Go.Proofs

set_option linter.unusedSimpArgs false
set_option linter.unusedVariables false
namespace Go.Proofs
open Go Go.Eng
set_option maxRecDepth 100000
end Go.Proofs

set_option linter.unusedSimpArgs false
set_option linter.unusedVariables false
namespace Go.Proofs
open Go Go.Eng
set_option maxRecDepth 20000
end Go.Proofs
