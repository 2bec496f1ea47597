/- Texts BQ, BR, BS, DP, ZC, ZT, ZP, ZO, ZN, ZQ, ZR, ZD, ZH, ZI, ZK, ZM, ZS, ZV, ZW, ZX, DS, DT, BT, BU, BV, BW, BX, BY, CA, CB, CC, CD, CE, CF, CG, CH, CI, CK, YA, CL. -/
import Derived.Test.YtelcnkclppkicaaGreatDoorG5
import Derived.Test.YtelcnkclppkicaaGreatDoorG1
import Derived.Test.YtelcnkclppkicaaGreatDoorProg
import Derived.Test.YtelcnkclppkicaaGreatDoorG4
import Derived.Tactics
import Derived.Tactics2
import Derived.Defers
import Derived.Laws.Pointers
import Derived.Laws.LoneSync
import Derived.RegionTactic
import Derived.RegionCalls
import Derived.ChangeAlike
set_option linter.unusedSimpArgs false
set_option linter.unusedVariables false
namespace Go.Proofs
open Go Go.Eng
set_option maxRecDepth 20000
theorem qzS {l:List Int} {o:Nat}:qa5 ((l.drop o).take 64) 0 = qa5 l o:=by
 unfold qa5;refine jbw fun t ht=>?_
 have ht:=jb1.1 ht;have e:∀ j,j < 64->((l.drop o).take 64).getD j 0 = l.getD (o + j) 0:=fun j hj=>by
  rw [jab,jab,jbb,jah hj,jbc]
 unfold qk6;rw [e _ (by omega),e _ (by omega),e _ (by omega),e _ (by omega),show o + (0 + 4 * t) = o + 4 * t by omega,show o + (0 + 4 * t + 1) = o + 4 * t + 1 by omega,show o + (0 + 4 * t + 2) = o + 4 * t + 2 by omega,show o + (0 + 4 * t + 3) = o + 4 * t + 3 by omega]
theorem q8Z {d:qe} (h:qd9 d) {k:Nat} (hk:k < 8):(stL (qbi (qf d 8))).getD k 0 = qa d k:=by
 have h8:stL (qbi (qf d 8)) = [ofW (toW (qa d 0)),ofW (toW (qa d 1)),ofW (toW (qa d 2)),ofW (toW (qa d 3)),ofW (toW (qa d 4)),ofW (toW (qa d 5)),ofW (toW (qa d 6)),ofW (toW (qa d 7))]:=rfl;rw [h8,qb0 (h 0 (by omega)),qb0 (h 1 (by omega)),qb0 (h 2 (by omega)),qb0 (h 3 (by omega)),qb0 (h 4 (by omega)),qb0 (h 5 (by omega)),qb0 (h 6 (by omega)),qb0 (h 7 (by omega))]
 match k,hk with
 | 0,_=>rfl
 | 1,_=>rfl
 | 2,_=>rfl
 | 3,_=>rfl
 | 4,_=>rfl
 | 5,_=>rfl
 | 6,_=>rfl
 | 7,_=>rfl
theorem qzL {d:qe} (h:qd9 d) {t:Nat} (ht:t < 32):(qeo (qbi (qf d 8)))[t]?.getD 0 = ((qa d (t / 4)).fdiv (2 ^ (24 - 8 * (t % 4)))) % 256:=by
 rw [<- q8Z h (by omega)];simp [qeo,ht]
theorem qEQ {x:Nat} (h:x <= 24):qc .sub .u64 24 (x:Int) = ((24 - x:Nat):Int):=by
 show IntKind.u64.wrap (24 - (x:Int)) = _
 rw [qog]; omega
theorem q4h {x:Nat} (h:x < 18446744073709551616):IntKind.u64.wrap (x:Int) = (x:Int):=by rw [qog]; omega
theorem qDY {x:Nat} (h:x < 1000000000000000):qc .mul .u64 8 (x:Int) = ((8 * x:Nat):Int):=qDB (x:=8) (by omega)
theorem qCN:qrQ.ok Tryz.prog:=qCV (by simp [qA2]) fun Z hg hp=>by
 obtain ⟨hl,hle,hB,hw64,hw8⟩:=hp;simp (config:={ maxSteps:=2000000 }) [q64,qrQ,qAW,qBl,qBk,qAQ,qqQ,qnO];have hbl:(bI (Z 3).d).length = (Z 3).d.length:=bI_len;refine ⟨by omega,by omega,by omega,by omega,by omega,⟨⟨fun j hj=>qcm (f:=qa (Z 5).d) (n:=64) hj,⟨_,rfl,rfl⟩,⟨_,rfl,rfl⟩,by omega,?_⟩,fun j hj=>qcm (f:=qa (Z 6).d) (n:=8) hj,0,by omega,?_⟩,fun k _ h _ n _ m _ hk hk1 hh hn hmB hh2 z hz hm=>⟨by omega,fun hne=>?_,fun heq=>?_⟩⟩
 ·refine qee (qCL hB) fun r hr=>?_
  obtain rfl:=jak.1 hr
  decide
 ·rw [qgf,jap (by omega)]; rfl
 ·have hml:m.d.length = (Z 3).d.length + 1 + z:=by
   have:=congrArg List.length hm;rw [bI_len,jaj,hbl,jba,jaz] at this; omega
  rw [hn,qqF] at hne;have hzlt:z < qjn (Z 3).d.length:=by unfold qjn at hz ⊢; omega
  refine ⟨hn,by unfold qjn at hz; omega,⟨⟨hk,hk1,hh,hn,qee hmB fun r hr=>?_⟩,hh2,z + 1,hzlt,?_⟩,by omega⟩
  ·obtain rfl:=jak.1 hr
   decide
  ·rw [qgf,hm,List.replicate_succ',<- jd1,<- jbr]; rfl
 ·have hml:m.d.length = (Z 3).d.length + 1 + z:=by
   have:=congrArg List.length hm;rw [bI_len,jaj,hbl,jba,jaz] at this; omega
  rw [hn,qqF] at heq;have hzz:z = qjn (Z 3).d.length:=by unfold qjn at hz ⊢; omega
  rw [hzz] at hm;refine ⟨⟨⟨hk,hk1,hh,hn,hmB⟩,hh2,?_,hm⟩,fun k2 _ h2 _ n2 _ m2 _ i _ q _ hk2 hk3 hh3 hn2 hmB2 hh4 i0 i1 hq hm2=>⟨fun hi=>?_,fun hi=>⟨⟨⟨hk2,hk3,hh3,hn2,hmB2⟩,?_,?_,0,rfl,by omega,?_⟩,fun k4 _ h4 _ n4 _ c4 _ m4 _ t _ hk4 hk5 hh5 hn4 hmB4 hw4 hm4 x hx hxl hst=>?_⟩⟩⟩
  ·rw [hl,q4h (by omega)]
   exact (qDB (x:=(Z 3).d.length) (y:=8) (by omega)).trans (by omega)
  ·obtain ⟨I,hI⟩:∃ I:Nat,i.i = I:=⟨i.i.toNat,by omega⟩
   have m1:qc .sub .i64 i.i 1 = i.i - 1:=by rw [Go.Proofs.sub64 (by omega) (by omega)]
   have hml2:m2.d.length <= (Z 3).d.length + 1 + qjn (Z 3).d.length + 8:=by
    have:=congrArg List.length hm2;rw [bI_len,jaj,hbl,jba,jaj,jaz,jbe,qax] at this; omega
   have hp64:qjn (Z 3).d.length <= 63:=by unfold qjn; omega
   rw [m1,hI,q4h (by omega),qDY (by omega),qsT (by omega),qc6,hq];rw [hI] at hm2;refine ⟨by omega,hn2,by omega,⟨⟨hk2,hk3,hh3,hn2,qee hmB2 fun r hr=>?_⟩,hh4,by omega,by omega,rfl,?_⟩,by omega⟩
   ·obtain rfl:=jak.1 hr
    show 0 <= _ % 256/\_ % 256 < 256
    omega
   ·have hg:=qsJ (v:=(Z 1).i * 8) (n:=8) (j:=7 - I) (by omega)
    rw [show 8 - 1 - (7 - I) = I by omega] at hg;rw [show (7 - ((I:Int) - 1)).toNat = (7 - I) + 1 by omega,jee,jac (by rw [qax]; omega)];rw [jac (by rw [qax]; omega)] at hg;rw [qgf,hm2,show (7 - (I:Int)).toNat = 7 - I by omega,<- hg];simp [bI,qbp,qX]
  ·exact fun j hj=>by rw [hh4 j hj]; exact hw8 j hj
  ·have h8:(7 - i.i).toNat = 8:=by omega
   rw [hm2,h8,jap (by rw [qax]; omega),qd4,hbl,hl];rfl
  ·exact congrArg qbi (qeC hh4)
  ·have hpl:=q81 (m:=bI (Z 3).d)
   have hml4:m4.d.length = (qd4 (bI (Z 3).d)).length:=by rw [<- hm4,bI_len]
   refine ⟨by omega,fun hlt=>⟨by rw [qx hh5]; decide,by rw [qx hk5]; decide,fun hcap=>?_⟩,fun hge=>⟨⟨hh5,hw4,?_,⟨_,rfl,rfl⟩,fun j hj=>absurd hj (by omega)⟩,fun h6 _ d6 _ t6 _ hh6 hw6 hst6 hd6 s0 s1 hc6=>⟨fun hlt=>?_,fun hge2=>⟨by rw [qx hd6]; decide,?_⟩⟩⟩⟩
   ·have m1:qc .add .i64 t.i 64 = t.i + 64:=by rw [Go.Proofs.add64 (by omega) (by omega)]
    have h9:64 * x + 64 <= m4.d.length:=by omega
    rw [jaf (by omega),m1];refine ⟨by omega,by omega,by omega,by omega,⟨fun j hj=>?_,fun j hj=>?_,by omega,by omega,by omega,hmB4⟩,fun g _ hgw hgs=>?_⟩
    ·have:qa [qag (qb h4.d 0) 8] j = qa h4.d j:=(qcm hj).trans qbA
     exact (congrArg isW this).mpr (hw4 j hj)
    ·have:qa [qag (qb k4.d 0) 64] j = qa (Z 5).d j:=((qcm hj).trans qbA).trans (hk4 j hj)
     exact (congrArg isW this).mpr (hw64 j hj)
    ·rw [q0J hh5 rfl]
     have hgs':qbi (qf g.d 8) = qfh (kW [qag (qb k4.d 0) 64]) (qbi (qf [qag (qb h4.d 0) 8] 8)) (qa5 (qaB m4.d t.i 64) 0):=hgs;have e1:kW [qag (qb k4.d 0) 64] = kW (Z 5).d:=by
      unfold kW; rw [qfd]; exact congrArg qel (qeC hk4)
     have e2:qa5 (qaB m4.d t.i 64) 0 = qa5 (qd4 (bI (Z 3).d)) (64 * x):=by
      rw [qaB,hm4,hx,show ((64:Int) * (x:Int)).toNat = 64 * x by omega];exact qzS
     rw [e1,e2,qfd,hst] at hgs';refine ⟨⟨⟨hk4,hk5,⟨_,rfl,rfl⟩,hn4,hmB4⟩,fun j hj=>?_,hm4,x + 1,by omega,by omega,?_⟩,by omega⟩
     ·have:qa [qag (qa g.d) 8] j = qa g.d j:=qcm hj
      exact (congrArg isW this).mpr (hgw j hj)
     ·have e3:qbi (qf [qag (qa g.d) 8] 8) = qgM (kW (Z 5).d) (qbi (qf (Z 6).d 8)) (qd4 (bI (Z 3).d)) (x + 1):=by
       rw [qlA,hgs',qgM]
      exact e3
   ·rw [hst]
    refine congrArg _ ?_;omega
   ·obtain ⟨T,hT⟩:∃ T:Nat,t6.i = T:=⟨t6.i.toNat,by omega⟩
    have m3:qc .add .i64 t6.i 1 = ((T + 1:Nat):Int):=by rw [Go.Proofs.add64 (by omega) (by omega)]; omega
    have m1:qc .sub .u64 24 (qc .mul .u64 8 (IntKind.u64.wrap (qc .rem .i64 t6.i 4))) = ((24 - 8 * (T % 4):Nat):Int):=by
     rw [hT,qEa,q4h (by omega),qDY (by omega),qEQ (by omega)]
    rw [m1,m3,hT,qEv (by omega),q0B (by omega),qc6];rw [hT] at hc6;simp only [jal];refine ⟨by omega,by omega,by rw [qx hh6]; decide,by omega,by omega,by rw [qx hd6]; decide,⟨hh6,hw6,hst6,qcR hd6,by omega,by omega,fun j hj=>?_⟩,by omega⟩;by_cases ej:j = T
    ·rw [ej,qcJ hd6 (by omega),qzL hw6 (by omega)]
    ·rw [qaD ej,hc6 j (by omega)]
   ·have e:qf [qdL (qb d6.d 0)] 32 = qeo (qbi (qf h6.d 8)):=qsC qmr fun j hj=>by
     rw [qfb hj,qbA]; exact hc6 j (by omega)
    rw [hst6] at e;exact e
theorem qqI:∀ x ∈ qQ,isW x:=by unfold isW; decide
theorem q5x:∀ x ∈ qom,isW x:=by unfold isW; decide
theorem q9F {d:qe} (h:qf d 64 = qQ):kW d = qel qQ:=by rw [kW,h]
theorem q3K {d:qe} (h:qf d 64 = qQ):qsK d:=fun j hj=>by
 rw [<- qe6 hj,h];refine qqI _ ?_;rw [jab,jac (by rw [qgr]; exact hj)];exact jbv _
theorem q8d {d:qe} (h:qf d 8 = qom):qd9 d:=fun j hj=>by
 rw [<- qe6 hj,h];refine q5x _ ?_;rw [jab,jac (by show j < 8; exact hj)];exact jbv _
theorem qAf {d:qe} (h:d = [qQ.map (Value.int .u32)]):qf d 64 = qQ:=qsC qgr fun j hj=>by
 rw [h,qur hj,jab]
theorem qok:qdX.ok Tryz.prog:=qCi (by simp [qCN]) fun Z hg hp=>by
 obtain ⟨hl,hle,hB,hGr,hGd⟩:=hp;simp (config:={ maxSteps:=2000000 }) [q6z,qdX,qrQ,gOk];have ek:qf [qag (qb (Z 6).d 0) 64] 64 = qQ:=qfd.trans (qAf hGd);refine ⟨hGr,by rw [hGd]; decide,⟨hl,hle,hB,q3K ek,q8d rfl⟩,fun d _ hd=>?_⟩;have hd':qf d.d 32 = q9q (kW [qag (qb (Z 6).d 0) 64]) (qbi qom) (bI (Z 3).d):=hd;rw [q9F ek] at hd';exact hd'
set_option maxRecDepth 100000
def qwW:Out:=(.br (.cmp .leq (tl 1) (tv 0))
 (.br (.cmp .leq (tv 0) (tv 1))
 (.br (.cmp .leq (tv 1) (tv 2))
 (.ret 0 (sg 3 [bt 3 (.cmp .leq (tv 2) (tl 255))]))
 (.ret 0 (sg 3 [bt 3 (.bl false)])))
 (.ret 0 (sg 3 [bt 3 (.bl false)])))
 (.ret 0 (sg 3 [bt 3 (.bl false)])))
theorem q75:qj Tryz.prog qgV [] [] qwW:=qg Tryz.func86 Tryz.call86 (by kernel_rfl)
def qy7:Out:=(.fresh 10 (.pre 0 (sg 0 [bv 2 2,bv 1 1,bv 0 0]) (tb (.fresh 11 (.post 0 0 (sg 0 [bv 2 2,bv 1 1,bv 0 0]) 11 (.br (.not (tv 11))
 (.ret 0 (sg 10 [bt 10 (tl 2)]))
 (.br (.cmp .lss (tv 3) (tl 0))
 (.ret 0 (sg 10 [bt 10 (tl 2)]))
 (.br (.cmp .gtr (tv 3) (tl 8192))
 (.ret 0 (sg 10 [bt 10 (tl 2)]))
 (tn (tl 0) (tv 6) (.br (.cmp .neq (tv 6) (tv 2))
 (.ret 0 (sg 10 [bt 10 (tl 2)]))
 (.ret 0 (sg 10 [bt 10 (tl 0)]))))))))))))
theorem q5t:qj Tryz.prog qdd [qgV] [] qy7:=qg Tryz.func74 Tryz.call74 (by kernel_rfl)
@[simp] def qpk:Sg:=sg 0 [bv 9 8,bt 7 (tl 2),bt 6 (.dapp (.rcons (tu (.conv .u8 (.arith .shr .i64 (tv 0) (tl 8)))) .rnil) (.rcons (tu (.conv .u8 (tv 0))) .rnil)),bv 1 11,bt 5 (tl 2),bt 4 (tl 2),bt 3 (tl 0),bg 2 12,bg 0 10,bg 8 7]
def qt6:Out:=(.fresh 9 (.pre 0 (sg 0 []) (tb (fr 10 2 (.post 0 0 (sg 0 []) 10 (.fresh 12 (.pre 1 qpk (tb (.fresh 13 (.post 1 0 qpk 13 (.pre 1 (sg 0 [bv 9 8,bv 7 6,bv 6 5,bv 1 13,bv 5 4,bv 4 3,bv 3 2,bg 2 1,bg 0 10,bg 8 7]) (tb (.fresh 14 (.post 1 0 (sg 0 [bv 9 8,bv 7 6,bv 6 5,bv 1 13,bv 5 4,bv 4 3,bv 3 2,bg 2 1,bg 0 10,bg 8 7]) 14 (.pre 2 (sg 0 [bv 3 8,bv 1 14,bg 0 10,bg 2 7]) (tb (.fresh 15 (.post 2 0 (sg 0 [bv 3 8,bv 1 14,bg 0 10,bg 2 7]) 15 (.ret 0 (sg 9 [bt 9 (r8 15)]))))))))))))))))))))
theorem q3W:qj Tryz.prog qd8 [qfx,qiZ,qpA] [] qt6:=qg Tryz.func88 Tryz.call88 (by kernel_rfl)
@[simp] def qlu:Sg:=sg 0 [bv 6 52,bv 5 51,bv 4 50,bg 3 49,bv 2 48,bv 1 47,bg 0 46]
@[simp] def qqk:Sg:=sg 0 [bt 6 .dnil,bt 5 (tl 0),bt 4 (tl 0),(3,.nil),bt 2 (.bl false),bv 1 13,bt 7 (tl 19713),bg 0 12]
@[simp] def qsk:Sg:=sg 0 [bt 8 (.rcons (i8 8 53 0) (.rcons (i8 8 53 1) (.rcons (i8 8 53 2) (.rcons (i8 8 53 3) (.rcons (i8 8 53 4) (.rcons (i8 8 53 5) (.rcons (i8 8 53 6) (.rcons (i8 8 53 7) (.rcons (i8 8 53 8) (.rcons (i8 8 53 9) (.rcons (i8 8 53 10) (.rcons (i8 8 53 11) (.rcons (i8 8 53 12) (.rcons (i8 8 53 13) (.rcons (i8 8 53 14) (.rcons (i8 8 53 15) (.rcons (i8 8 53 16) (.rcons (i8 8 53 17) (.rcons (i8 8 53 18) (.rcons (i8 8 53 19) (.rcons (i8 8 53 20) (.rcons (i8 8 53 21) (.rcons (i8 8 53 22) (.rcons (i8 8 53 23) (.rcons (i8 8 53 24) (.rcons (i8 8 53 25) (.rcons (i8 8 53 26) (.rcons (i8 8 53 27) (.rcons (i8 8 53 28) (.rcons (i8 8 53 29) (.rcons (i8 8 53 30) (.rcons (i8 8 53 31) .rnil)))))))))))))))))))))))))))))))),bv 6 52,bv 5 51,bv 4 50,bg 3 49,bv 2 48,bv 1 47,bg 7 54,bg 0 46]
@[simp] def qrw:Sg:=sg 0 [bt 8 (.rcons (ti (tv 0)) (.rcons (ti (tv 1)) (.rcons (ti (tv 2)) (.rcons (ti (tv 3)) (.rcons (x8 0 4) (.rcons (x8 1 4) (.rcons (x8 2 4) (.rcons (x8 3 4) (.rcons (x8 4 4) (.rcons (x8 5 4) (.rcons (x8 6 4) (.rcons (x8 7 4) (.rcons (x8 8 4) (.rcons (x8 9 4) (.rcons (x8 10 4) (.rcons (x8 11 4) (.rcons (x8 12 4) (.rcons (x8 13 4) (.rcons (x8 14 4) (.rcons (x8 15 4) (.rcons (x8 16 4) (.rcons (x8 17 4) (.rcons (x8 18 4) (.rcons (x8 19 4) (.rcons (x8 20 4) (.rcons (x8 21 4) (.rcons (x8 22 4) (.rcons (x8 23 4) (.rcons (x8 24 4) (.rcons (x8 25 4) (.rcons (x8 26 4) (.rcons (x8 27 4) (.rcons (x8 28 4) (.rcons (x8 29 4) (.rcons (x8 30 4) (.rcons (x8 31 4) (.rcons (.vslice 5 (tl 0) (tv 6) (tv 7) 32) .rnil))))))))))))))))))))))))))))))))))))),bv 6 40,bv 5 39,bv 4 38,bg 3 37,bv 2 36,bv 1 13,bg 7 10,bg 0 12]
def qxu:Out:=(.fresh 10 (.pre 0 (sg 0 [bv 9 9,bv 8 8,bv 7 7,bv 6 6,bg 5 5,bv 3 3,bv 2 2,bv 1 1,bv 0 0,bt 4 (r8 4)]) (tb (.fresh 11 (.post 0 0 (sg 0 [bv 9 9,bv 8 8,bv 7 7,bv 6 6,bg 5 5,bv 3 3,bv 2 2,bv 1 1,bv 0 0,bt 4 (r8 4)]) 11 (.br (.cmp .neq (tv 11) (tl 0))
 (.need (.cmp .eql (tl 2) (tv 11)) (.ret 0 (sg 10 [])))
 (.pre 1 (sg 0 [bt 0 (.arith .add .i64 (tl 39) (.arith .mul .i64 (tl 32) (tv 2)))]) (tb (fr 12 4 (.post 1 0 (sg 0 [bt 0 (.arith .add .i64 (tl 39) (.arith .mul .i64 (tl 32) (tv 2)))]) 12 (.pre 3 qqk (tb (fr 16 5 (.post 3 0 qqk 16 (.pre 2 (sg 0 [bv 6 20,bv 5 19,bv 4 18,bg 3 17,bv 2 16,bv 1 13,bt 7 (.conv .u8 (tv 0)),bg 0 12]) (tb (fr 21 5 (.post 2 0 (sg 0 [bv 6 20,bv 5 19,bv 4 18,bg 3 17,bv 2 16,bv 1 13,bt 7 (.conv .u8 (tv 0)),bg 0 12]) 21 (.pre 2 (sg 0 [bv 6 25,bv 5 24,bv 4 23,bg 3 22,bv 2 21,bv 1 13,bt 7 (.conv .u8 (tv 1)),bg 0 12]) (tb (fr 26 5 (.post 2 0 (sg 0 [bv 6 25,bv 5 24,bv 4 23,bg 3 22,bv 2 21,bv 1 13,bt 7 (.conv .u8 (tv 1)),bg 0 12]) 26 (.pre 2 (sg 0 [bv 6 30,bv 5 29,bv 4 28,bg 3 27,bv 2 26,bv 1 13,bt 7 (.conv .u8 (tv 2)),bg 0 12]) (tb (fr 31 5 (.post 2 0 (sg 0 [bv 6 30,bv 5 29,bv 4 28,bg 3 27,bv 2 26,bv 1 13,bt 7 (.conv .u8 (tv 2)),bg 0 12]) 31 (.pre 3 (sg 0 [bv 6 35,bv 5 34,bv 4 33,bg 3 32,bv 2 31,bv 1 13,bt 7 (.conv .u16 (tv 3)),bg 0 12]) (tb (fr 36 5 (.post 3 0 (sg 0 [bv 6 35,bv 5 34,bv 4 33,bg 3 32,bv 2 31,bv 1 13,bt 7 (.conv .u16 (tv 3)),bg 0 12]) 36 (.pre 4 qrw (tb (fr 41 5 (.post 4 0 qrw 41 (tn (tl 0) (tv 6) (.inv 0 46 (sg 1000 [bv 1006 45,bv 1005 44,bv 1004 43,bg 1003 42,bv 1002 41,bv 1001 13,bt 1007 (tl 0),bg 1000 12]) (fr 46 8 (.hyp 0 46 (.br (.cmp .lss (tv 53) (tv 6))
 (tn (tl 0) (tv 53) (ts (tv 53) (.dlen (tv 8)) (.fresh 54 (.pre 5 qsk (tb (fr 55 5 (.post 5 0 qsk 55 (.back 0 46 (sg 1000 [bv 1006 59,bv 1005 58,bv 1004 57,bg 1003 56,bv 1002 55,bv 1001 47,bt 1007 (.arith .add .i64 (tv 53) (tl 1)),bg 1000 46])))))))))
 (.pre 6 qlu (.both (.post 6 0 qlu 54 (.stuck 7 0 0)) (tb (fr 54 4 (.post 6 1 qlu 54 (.ret 1 (sg 10 [bv 13 56,bv 12 55,bv 11 50,bg 10 54]))))))))))))))))))))))))))))))))))))))))))))))
theorem q6Z:qj Tryz.prog qfI [qdd,qgj,u8C,qyt,qrP,qnr,qmE] [q1F] qxu:=qg Tryz.func73 Tryz.call73 (by kernel_rfl)
@[simp] def qp4:Sg:=sg 0 [bv 8 9,bv 7 8,bv 1 1,bv 6 7,bv 5 6,bg 4 5,bv 3 4,bv 2 2,bg 0 0]
@[simp] def qml:Sg:=sg 0 [bv 7 11,bv 5 9,bv 4 8,bv 3 7,bv 2 6,bt 1 (tl 0),bg 0 5,bg 6 10]
@[simp] def qwp:Sg:=sg 0 [bv 8 11,bv 6 35,bv 5 36,bv 4 35,bt 3 (.dlen (tv 36)),bt 2 (tl 0),bg 1 34,bt 0 (.icell (tv 29) (tv 26) 0),bg 7 10]
@[simp] def qwM:Sg:=sg 0 [bv 8 11,bv 6 33,bv 5 34,bv 4 33,bt 3 (.dlen (tv 34)),bt 2 (tl 0),bg 1 32,bt 0 (.icell (tv 27) (tv 24) 0),bg 7 10]
def q6G:Out:=(.fresh 12 (.br (.and (.cmp .eql (.dlen (tv 1)) (tl 0)) (.isnil 0))
 (.ret 0 (sg 12 [bv 13 1,bt 12 (tl 1)]))
 (.pre 0 (sg 0 [bv 2 4,bv 1 3,bv 0 2]) (tb (.fresh 13 (.post 0 0 (sg 0 [bv 2 4,bv 1 3,bv 0 2]) 13 (.br (.not (tv 13))
 (.ret 0 (sg 12 [bv 13 1,bt 12 (tl 2)]))
 (.pre 1 qp4 (.both (fr 14 2 (.post 1 0 qp4 14 (.br (.cmp .neq (tv 14) (tl 0))
 (.ret 0 (sg 12 [bv 13 15,bv 12 14]))
 (tn (tl 0) (tv 6) (.pre 2 qml (tb (.fresh 16 (.post 2 0 qml 16 (.fresh 17 (.pack [] 18 (.need (.cmp .eql (tv 4) (tl 0)) (.inv 0 19 (sg 1000 [bg 1011 18,bt 1008 .dnil,bt 1007 .dnil,bt 1006 (tl 0),(1004,.nil),bt 1003 (r8 16),bv 1010 15,bt 1005 (tl 0),bg 1002 17,bt 1009 (tl 0),(1001,.nil),bg 1000 12]) (fr 19 12 (.hyp 0 19 (.br (.cmp .lss (tv 24) (tv 4))
 (tn (tl 0) (tv 24) (ts (tv 24) (.dlen (tv 27)) (.fresh 31 (tb (.viewL (.vcell (tv 27) (tv 24) 1) [CK.int .u8] [30] 32 (.pre 3 qwM (tb (.fresh 35 (.post 3 0 qwM 35 (tb (.fresh 36 (tb (.need (.cmp .eql (tv 24) (.dlen (tv 26))) (tn (.tims (tl 32) (.plus (tv 24) (tl 1))) (tl 140737488355328) (fr 37 2 (tb (tb (.pack [.cells 36 24 [(x8 0 35),(x8 1 35),(x8 2 35),(x8 3 35),(x8 4 35),(x8 5 35),(x8 6 35),(x8 7 35),(x8 8 35),(x8 9 35),(x8 10 35),(x8 11 35),(x8 12 35),(x8 13 35),(x8 14 35),(x8 15 35),(x8 16 35),(x8 17 35),(x8 18 35),(x8 19 35),(x8 20 35),(x8 21 35),(x8 22 35),(x8 23 35),(x8 24 35),(x8 25 35),(x8 26 35),(x8 27 35),(x8 28 35),(x8 29 35),(x8 30 35),(x8 31 35)],.cells 31 86 [(ti (.icell (tv 27) (tv 24) 0)),(.vcell (tv 27) (tv 24) 1)],.abs 30 2] 39 (.need (.cmp .eql (.arith .add .i64 (tv 24) (tl 1)) (.plus (tv 24) (tl 1))) (.back 0 19 (sg 1000 [bg 1011 39,bv 1008 27,bt 1007 (.dapp (tv 26) (r8 35)),bv 1006 38,bg 1004 37,bt 1003 (r8 22),bv 1010 29,bt 1005 (.arith .add .i64 (tv 24) (tl 1)),bg 1002 21,bv 1009 28,bg 1001 20,bg 1000 19])))))))))))))))))))))
 (.pack [.cells 19 27 [(ti (tv 2)),(ti (tv 3)),(ti (tv 4)),(ti (tv 6)),(x8 0 22),(x8 1 22),(x8 2 22),(x8 3 22),(x8 4 22),(x8 5 22),(x8 6 22),(x8 7 22),(x8 8 22),(x8 9 22),(x8 10 22),(x8 11 22),(x8 12 22),(x8 13 22),(x8 14 22),(x8 15 22),(x8 16 22),(x8 17 22),(x8 18 22),(x8 19 22),(x8 20 22),(x8 21 22),(x8 22 22),(x8 23 22),(x8 24 22),(x8 25 22),(x8 26 22),(x8 27 22),(x8 28 22),(x8 29 22),(x8 30 22),(x8 31 22),(.vslice 23 (tl 0) (tv 24) (tv 25) 32)],.cells 21 27 [(ti (tv 2)),(ti (tv 3)),(ti (tv 4)),(ti (tv 6)),(x8 0 22),(x8 1 22),(x8 2 22),(x8 3 22),(x8 4 22),(x8 5 22),(x8 6 22),(x8 7 22),(x8 8 22),(x8 9 22),(x8 10 22),(x8 11 22),(x8 12 22),(x8 13 22),(x8 14 22),(x8 15 22),(x8 16 22),(x8 17 22),(x8 18 22),(x8 19 22),(x8 20 22),(x8 21 22),(x8 22 22),(x8 23 22),(x8 24 22),(x8 25 22),(x8 26 22),(x8 27 22),(x8 28 22),(x8 29 22),(x8 30 22),(x8 31 22),(.vslice 23 (tl 0) (tv 24) (tv 25) 32)],.abs 30 2] 31 (.need (.cmp .eql (tv 4) (tv 24)) (.ret 1 (sg 12 [bg 20 31,bv 19 27,bv 18 26,bv 17 29,bv 16 28,bg 15 20,bv 14 25,bg 13 23,bt 12 (r8 22)]))))))))))))))))))) (tb (fr 14 5 (.post 1 1 qp4 14 (tn (tl 0) (tv 6) (.pre 2 qml (tb (.fresh 19 (.post 2 0 qml 19 (.fresh 20 (tn (tl 0) (tv 4) (.inv 0 21 (sg 1000 [bg 1011 18,bv 1008 17,bt 1007 .dnil,bt 1006 (tl 0),(1004,.nil),bt 1003 (r8 19),bv 1010 16,bt 1005 (tl 0),bg 1002 20,bv 1009 15,bg 1001 14,bg 1000 12]) (fr 21 12 (.hyp 0 21 (.br (.cmp .lss (tv 26) (tv 4))
 (tn (tl 0) (tv 26) (ts (tv 26) (.dlen (tv 29)) (.fresh 33 (tb (.viewL (.vcell (tv 29) (tv 26) 1) [CK.int .u8] [32] 34 (.pre 3 qwp (tb (.fresh 37 (.post 3 0 qwp 37 (tb (.fresh 38 (tb (.need (.cmp .eql (tv 26) (.dlen (tv 28))) (tn (.tims (tl 32) (.plus (tv 26) (tl 1))) (tl 140737488355328) (fr 39 2 (tb (tb (.pack [.cells 38 24 [(x8 0 37),(x8 1 37),(x8 2 37),(x8 3 37),(x8 4 37),(x8 5 37),(x8 6 37),(x8 7 37),(x8 8 37),(x8 9 37),(x8 10 37),(x8 11 37),(x8 12 37),(x8 13 37),(x8 14 37),(x8 15 37),(x8 16 37),(x8 17 37),(x8 18 37),(x8 19 37),(x8 20 37),(x8 21 37),(x8 22 37),(x8 23 37),(x8 24 37),(x8 25 37),(x8 26 37),(x8 27 37),(x8 28 37),(x8 29 37),(x8 30 37),(x8 31 37)],.cells 33 86 [(ti (.icell (tv 29) (tv 26) 0)),(.vcell (tv 29) (tv 26) 1)],.abs 32 2] 41 (.need (.cmp .eql (.arith .add .i64 (tv 26) (tl 1)) (.plus (tv 26) (tl 1))) (.back 0 21 (sg 1000 [bg 1011 41,bv 1008 29,bt 1007 (.dapp (tv 28) (r8 37)),bv 1006 40,bg 1004 39,bt 1003 (r8 24),bv 1010 31,bt 1005 (.arith .add .i64 (tv 26) (tl 1)),bg 1002 23,bv 1009 30,bg 1001 22,bg 1000 21])))))))))))))))))))))
 (.pack [.cells 21 27 [(ti (tv 2)),(ti (tv 3)),(ti (tv 4)),(ti (tv 6)),(x8 0 24),(x8 1 24),(x8 2 24),(x8 3 24),(x8 4 24),(x8 5 24),(x8 6 24),(x8 7 24),(x8 8 24),(x8 9 24),(x8 10 24),(x8 11 24),(x8 12 24),(x8 13 24),(x8 14 24),(x8 15 24),(x8 16 24),(x8 17 24),(x8 18 24),(x8 19 24),(x8 20 24),(x8 21 24),(x8 22 24),(x8 23 24),(x8 24 24),(x8 25 24),(x8 26 24),(x8 27 24),(x8 28 24),(x8 29 24),(x8 30 24),(x8 31 24),(.vslice 25 (tl 0) (tv 26) (tv 27) 32)],.cells 23 27 [(ti (tv 2)),(ti (tv 3)),(ti (tv 4)),(ti (tv 6)),(x8 0 24),(x8 1 24),(x8 2 24),(x8 3 24),(x8 4 24),(x8 5 24),(x8 6 24),(x8 7 24),(x8 8 24),(x8 9 24),(x8 10 24),(x8 11 24),(x8 12 24),(x8 13 24),(x8 14 24),(x8 15 24),(x8 16 24),(x8 17 24),(x8 18 24),(x8 19 24),(x8 20 24),(x8 21 24),(x8 22 24),(x8 23 24),(x8 24 24),(x8 25 24),(x8 26 24),(x8 27 24),(x8 28 24),(x8 29 24),(x8 30 24),(x8 31 24),(.vslice 25 (tl 0) (tv 26) (tv 27) 32)],.abs 32 2] 33 (.need (.cmp .eql (tv 4) (tv 26)) (.ret 1 (sg 12 [bg 20 33,bv 19 29,bv 18 28,bv 17 31,bv 16 30,bg 15 22,bv 14 27,bg 13 25,bt 12 (r8 24)])))))))))))))))))))))))))))
theorem qsF:qj Tryz.prog qlP [qgV,qhM,qdb,qd8] [qBd] q6G:=qg Tryz.func43 Tryz.call43 (by kernel_rfl)
def qvc:Out:=(.br (.cmp .leq (tl 1) (tv 0))
 (.br (.cmp .leq (tv 0) (tv 1))
 (.ret 0 (sg 2 [bt 2 (.cmp .leq (tv 1) (tl 255))]))
 (.ret 0 (sg 2 [bt 2 (.bl false)])))
 (.ret 0 (sg 2 [bt 2 (.bl false)])))
theorem q4l:qj Tryz.prog qbv [] [] qvc:=qg Tryz.func109 Tryz.call109 (by kernel_rfl)
def qt7:Out:=(.br (.cmp .lss (tv 0) (tl 1))
 (.ret 0 (sg 2 [bt 3 (tl 2),bt 2 (tl 0)]))
 (.br (.cmp .gtr (tv 0) (tl 255))
 (.ret 0 (sg 2 [bt 3 (tl 2),bt 2 (tl 0)]))
 (.br (.cmp .lss (tv 1) (tl 0))
 (.ret 0 (sg 2 [bt 3 (tl 2),bt 2 (tl 0)]))
 (.br (.cmp .gtr (tv 1) (tl 8192))
 (.ret 0 (sg 2 [bt 3 (tl 2),bt 2 (tl 0)]))
 (.need (.cmp .neq (tv 0) (tl 0)) (.ret 0 (sg 2 [bt 3 (tl 0),bt 2 (.arith .quo .i64 (.arith .sub .i64 (.arith .add .i64 (tv 1) (tv 0)) (tl 1)) (tv 0))])))))))
theorem q4q:qj Tryz.prog qbH [] [] qt7:=qg Tryz.func99 Tryz.call99 (by kernel_rfl)
def qxg:Out:=(.fresh 2 (tn (tl 0) (.arith .mul .i64 (tv 0) (tv 1)) (tn (.tims (tl 1) (.arith .mul .i64 (tv 0) (tv 1))) (tl 281474976710656) (.fresh 3 (.ret 0 (sg 2 [bt 5 (.drep (.arith .mul .i64 (tv 0) (tv 1)) (.rcons (tu (tl 0)) .rnil)),bt 4 (.arith .mul .i64 (tv 0) (tv 1)),bt 3 (.arith .mul .i64 (tv 0) (tv 1)),bg 2 3]))))))
theorem q5P:qj Tryz.prog qdc [] [] qxg:=qg Tryz.func165 Tryz.call165 (by kernel_rfl)
def q1R:Out:=(.fresh 8 (tn (tl 0) (tv 3) (tn (tl 0) (tv 4) (tn (tl 0) (.arith .mul .i64 (tv 7) (tv 1)) (tn (.arith .mul .i64 (tv 7) (tv 1)) (.arith .mul .i64 (.arith .add .i64 (tv 7) (tl 1)) (tv 1)) (tn (.arith .mul .i64 (.arith .add .i64 (tv 7) (tl 1)) (tv 1)) (tv 4) (.ret 0 (sg 8 [bt 10 (.minus (.arith .mul .i64 (.arith .add .i64 (tv 7) (tl 1)) (tv 1)) (.arith .mul .i64 (tv 7) (tv 1))),bt 9 (.minus (.arith .mul .i64 (.arith .add .i64 (tv 7) (tl 1)) (tv 1)) (.arith .mul .i64 (tv 7) (tv 1))),bt 8 (.ife (.arith .mul .i64 (.arith .add .i64 (tv 7) (tl 1)) (tv 1)) (.arith .mul .i64 (tv 7) (tv 1)) (tl 0) (.arith .mul .i64 (tv 7) (tv 1)))]))))))))
theorem q8L:qj Tryz.prog qcs [] [] q1R:=qg Tryz.func123 Tryz.call123 (by kernel_rfl)
def quT:Out:=(.fresh 7 (.br (.cmp .geq (tv 0) (tl 1))
 (.br (.cmp .leq (tv 0) (tl 255))
 (.br (.cmp .geq (tv 1) (tl 1))
 (.br (.cmp .leq (tv 1) (tl 255))
 (tn (tl 0) (tv 3) (.ret 0 (sg 7 [bt 7 (.cmp .eql (tv 3) (.arith .mul .i64 (tv 0) (tv 1)))])))
 (.ret 0 (sg 7 [bt 7 (.bl false)])))
 (.ret 0 (sg 7 [bt 7 (.bl false)])))
 (.ret 0 (sg 7 [bt 7 (.bl false)])))
 (.ret 0 (sg 7 [bt 7 (.bl false)]))))
theorem q3d:qj Tryz.prog qdx [] [] quT:=qg Tryz.func164 Tryz.call164 (by kernel_rfl)
def quv:Out:=(fr 7 2 (tb (.fresh 9 (tb (tn (tl 0) (tv 3) (tn (tv 3) (.dlen (tv 5)) (tn (.tims (tl 1) (tv 3)) (tl 140737488355328) (fr 10 2 (tb (tb (.ret 0 (sg 7 [bt 9 (.dtake (tv 5) (tv 3)),bv 8 11,bg 7 10]))))))))))))
theorem q4o:qj Tryz.prog qiN [] [] quv:=qg Tryz.func168 Tryz.call168 (by kernel_rfl)
def q03:Out:=(.br (.cmp .eql (tv 14) (tl 0))
 (.ret 0 (sg 15 [bv 16 6,bv 15 1]))
 (tn (tl 0) (tv 10) (.inv 0 15 (sg 1000 [bv 1002 6,bv 1001 1,bt 1000 (tl 0)]) (fr 15 3 (.hyp 0 15 (.br (.cmp .lss (tv 15) (tv 10))
 (tn (tl 0) (tv 15) (tn (tl 0) (tv 9) (tn (tl 0) (.plus (tv 9) (tv 15)) (ts (.plus (tv 9) (tv 15)) (.dlen (tv 12)) (ts (tv 15) (tv 4) (tn (tl 0) (tv 3) (tn (tl 0) (.plus (tv 3) (tv 15)) (ts (.plus (tv 3) (tv 15)) (.dlen (tv 17)) (tb (.pre 0 (sg 0 [bv 1 16,bt 3 (.icell (tv 12) (.plus (tv 9) (tv 15)) 0),bv 2 14,bg 0 0]) (tb (fr 18 2 (.post 0 0 (sg 0 [bv 1 16,bt 3 (.icell (tv 12) (.plus (tv 9) (tv 15)) 0),bv 2 14,bg 0 0]) 18 (tb (.back 0 15 (sg 1000 [bt 1002 (.dput (tv 17) (.plus (tv 3) (tv 15)) 0 (.rcons (tu (.arith .xor .u8 (.icell (tv 17) (.plus (tv 3) (tv 15)) 0) (tv 18))) .rnil)),bv 1001 19,bt 1000 (.arith .add .i64 (tv 15) (tl 1))]))))))))))))))))
 (.ret 0 (sg 15 [bv 16 17,bv 15 16]))))))))
theorem q89:qj Tryz.prog qeh [qjc] [q5C] q03:=qg Tryz.func124 Tryz.call124 (by kernel_rfl)
def qpe:Out:=(.br (.cmp .eql (tv 11) (tl 0))
 (.ret 0 (sg 12 [bv 13 6,bv 12 1]))
 (tn (tl 0) (tv 9) (.inv 0 12 (sg 1000 [bv 1002 6,bv 1001 1,bt 1000 (tl 0)]) (fr 12 3 (.hyp 0 12 (.br (.cmp .lss (tv 12) (tv 9))
 (tn (tl 0) (tv 12) (tn (tl 0) (tv 8) (tn (tl 0) (.plus (tv 8) (tv 12)) (ts (.plus (tv 8) (tv 12)) (.dlen (tv 14)) (ts (tv 12) (tv 4) (tn (tl 0) (tv 3) (tn (tl 0) (.plus (tv 3) (tv 12)) (ts (.plus (tv 3) (tv 12)) (.dlen (tv 14)) (tb (.pre 0 (sg 0 [bv 1 13,bt 3 (.icell (tv 14) (.plus (tv 8) (tv 12)) 0),bv 2 11,bg 0 0]) (tb (fr 15 2 (.post 0 0 (sg 0 [bv 1 13,bt 3 (.icell (tv 14) (.plus (tv 8) (tv 12)) 0),bv 2 11,bg 0 0]) 15 (tb (.back 0 12 (sg 1000 [bt 1002 (.dput (tv 14) (.plus (tv 3) (tv 12)) 0 (.rcons (tu (.arith .xor .u8 (.icell (tv 14) (.plus (tv 3) (tv 12)) 0) (tv 15))) .rnil)),bv 1001 16,bt 1000 (.arith .add .i64 (tv 12) (tl 1))]))))))))))))))))
 (.ret 0 (sg 12 [bv 13 14,bv 12 13]))))))))
theorem qy9:qj Tryz.prog qnb [qjc] [q1r] qpe:=qg Tryz.func124 Tryz.call124 (by kernel_rfl)
def q1L:Out:=(tn (tl 0) (tv 4) (.inv 0 9 (sg 1000 [bv 1002 6,bv 1001 1,bt 1000 (tl 0)]) (fr 9 3 (.hyp 0 9 (.br (.cmp .lss (tv 9) (tv 4))
 (tn (tl 0) (tv 9) (tn (tl 0) (tv 3) (tn (tl 0) (.plus (tv 3) (tv 9)) (ts (.plus (tv 3) (tv 9)) (.dlen (tv 11)) (.pre 0 (sg 0 [bv 1 10,bv 3 8,bt 2 (.icell (tv 11) (.plus (tv 3) (tv 9)) 0),bg 0 0]) (tb (fr 12 2 (.post 0 0 (sg 0 [bv 1 10,bv 3 8,bt 2 (.icell (tv 11) (.plus (tv 3) (tv 9)) 0),bg 0 0]) 12 (.back 0 9 (sg 1000 [bt 1002 (.dput (tv 11) (.plus (tv 3) (tv 9)) 0 (.rcons (tu (tv 12)) .rnil)),bv 1001 13,bt 1000 (.arith .add .i64 (tv 9) (tl 1))]))))))))))
 (.ret 0 (sg 9 [bv 10 11,bv 9 10])))))))
theorem q8z:qj Tryz.prog qnJ [qjc] [q5V] q1L:=qg Tryz.func185 Tryz.call185 (by kernel_rfl)
def q2u:Out:=(.br (.and (.cmp .eql (.dlen (tv 1)) (tl 0)) (.isnil 0))
 (.ret 0 (sg 3 [bv 5 1,bt 4 (tl 1),bt 3 (tl 0)]))
 (.br (.cmp .eql (tv 2) (tl 0))
 (.ret 0 (sg 3 [bv 5 1,bt 4 (tl 2),bt 3 (tl 0)]))
 (ts (tl 0) (.dlen (tv 1)) (.pre 0 (sg 0 [bv 1 1,bg 0 0]) (tb (.fresh 3 (.post 0 0 (sg 0 [bv 1 1,bg 0 0]) 3 (ts (tl 0) (.dlen (tv 3)) (tn (tl 0) (tv 2) (ts (tv 2) (tl 256) (tn (tl 0) (.arith .sub .i64 (tl 255) (.c2 (.xint 513) (tv 3) (tv 2))) (ts (.arith .sub .i64 (tl 255) (.c2 (.xint 513) (tv 3) (tv 2))) (tl 510) (.ret 0 (sg 3 [bv 5 3,bt 4 (tl 0),bt 3 (.c2 (.xint 3) (tv 3) (.arith .sub .i64 (tl 255) (.c2 (.xint 513) (tv 3) (tv 2))))]))))))))))))))
theorem q9v:qj Tryz.prog qnt [qeK] [] q2u:=qg Tryz.func184 Tryz.call184 (by kernel_rfl)
@[simp] def qnk:T:=.arith .rem .i64 (.arith .mul .i64 (.c2 (.xint 513) (tv 4) (tv 2)) (.arith .rem .i64 (tv 3) (tl 255))) (tl 255)
def q2z:Out:=(.br (.and (.cmp .eql (.dlen (tv 1)) (tl 0)) (.isnil 0))
 (.ret 0 (sg 4 [bv 5 1,bt 4 (tl 0)]))
 (.br (.cmp .leq (tv 3) (tl 0))
 (.ret 0 (sg 4 [bv 5 1,bt 4 (tl 1)]))
 (.br (.cmp .eql (tv 2) (tl 0))
 (.ret 0 (sg 4 [bv 5 1,bt 4 (tl 0)]))
 (ts (tl 0) (.dlen (tv 1)) (.pre 0 (sg 0 [bv 1 1,bg 0 0]) (tb (.fresh 4 (.post 0 0 (sg 0 [bv 1 1,bg 0 0]) 4 (ts (tl 0) (.dlen (tv 4)) (tn (tl 0) (tv 2) (ts (tv 2) (tl 256) (tn (tl 0) qnk (ts qnk (tl 510) (.ret 0 (sg 4 [bv 5 4,bt 4 (.c2 (.xint 3) (tv 4) qnk)])))))))))))))))
theorem qAi:qj Tryz.prog qnI [qeK] [] q2z:=qg Tryz.func177 Tryz.call177 (by kernel_rfl)
def qr3:Out:=(.fresh 0 (.ret 0 (sg 0 [bt 1 (.rcons (tw (tl 0)) (.rcons (.vint .i32 (tl 0)) (.rcons (tw (tl 0)) (rr 510 (tu (tl 0)) (rr 256 (ti (tl 0)) .rnil))))),bg 0 0])))
theorem qz0:qj Tryz.prog qc9 [] [] qr3:=qg Tryz.func20 Tryz.call20 (by kernel_rfl)
@[simp] def qtD:T:=.c3 (.xput 513) (.c3 (.xput 3) (.c3 (.xput 3) (tv 4) (tv 3) (tu (.conv .u8 (tv 2)))) (.arith .add .i64 (tv 3) (tl 255)) (tu (.conv .u8 (tv 2)))) (tv 2) (ti (tv 3))
def q1x:Out:=(.inv 0 2 (sg 1000 [bv 1002 1,bt 1001 (tl 0),bt 1000 (tl 1)]) (fr 2 3 (.hyp 0 2 (.br (.cmp .lss (tv 3) (tl 255))
 (ts (tl 0) (.dlen (tv 4)) (tn (tl 0) (tv 3) (ts (tv 3) (tl 510) (tn (tl 0) (.arith .add .i64 (tv 3) (tl 255)) (ts (.arith .add .i64 (tv 3) (tl 255)) (tl 510) (tn (tl 0) (tv 2) (ts (tv 2) (tl 256) (.br (.cmp .geq (.arith .shl .i64 (tv 2) (tl 1)) (tl 256))
 (.back 0 2 (sg 1000 [bt 1002 qtD,bt 1001 (.arith .add .i64 (tv 3) (tl 1)),bt 1000 (.arith .xor .i64 (.arith .shl .i64 (tv 2) (tl 1)) (tl 285))]))
 (.back 0 2 (sg 1000 [bt 1002 qtD,bt 1001 (.arith .add .i64 (tv 3) (tl 1)),bt 1000 (.arith .shl .i64 (tv 2) (tl 1))]))))))))))
 (.ret 0 (sg 2 [bv 2 4]))))))
theorem q82:qj Tryz.prog qxb [] [q8g] q1x:=qg Tryz.func179 Tryz.call179 (by kernel_rfl)
@[simp] def qty:T:=.arith .add .i64 (.c2 (.xint 513) (tv 4) (tv 2)) (.c2 (.xint 513) (tv 4) (tv 3))
def qAX:Out:=(.br (.and (.cmp .eql (.dlen (tv 1)) (tl 0)) (.isnil 0))
 (.ret 0 (sg 4 [bv 5 1,bt 4 (tl 0)]))
 (.br (.cmp .eql (tv 2) (tl 0))
 (.ret 0 (sg 4 [bv 5 1,bt 4 (tl 0)]))
 (.br (.cmp .eql (tv 3) (tl 0))
 (.ret 0 (sg 4 [bv 5 1,bt 4 (tl 0)]))
 (ts (tl 0) (.dlen (tv 1)) (.pre 0 (sg 0 [bv 1 1,bg 0 0]) (tb (.fresh 4 (.post 0 0 (sg 0 [bv 1 1,bg 0 0]) 4 (ts (tl 0) (.dlen (tv 4)) (tn (tl 0) (tv 2) (ts (tv 2) (tl 256) (tn (tl 0) (tv 3) (ts (tv 3) (tl 256) (tn (tl 0) qty (ts qty (tl 510) (.ret 0 (sg 4 [bv 5 4,bt 4 (.c2 (.xint 3) (tv 4) qty)])))))))))))))))))
theorem qD1:qj Tryz.prog qjc [qeK] [] qAX:=qg Tryz.func152 Tryz.call152 (by kernel_rfl)
set_option maxRecDepth 100000 in
theorem qpv:qc9.ok Tryz.prog:=qz0 (by simp) fun Z hg hp=>by
 simp [qr3,qc9]
 kernel_rfl
theorem qv8:∀ x:Fin 256,0 <= qjJ (x.val:Int)/\qjJ (x.val:Int) < 256:=by decide +kernel
theorem qzZ {x:Int} (h0:0 <= x) (h1:x < 256):0 <= qjJ x/\qjJ x < 256:=by
 have:=qv8 ⟨x.toNat,by omega⟩;simp only [jay h0] at this;exact this
theorem qjd (d:qe):∀ n,0 <= (qbV d n).2/\(qbV d n).2 < 256
 | 0=>by simp [qbV]
 | n + 1=>qzZ (qjd d n).1 (qjd d n).2
theorem q9p {d:qe} {i:Nat} {v:Value}:(qa0 d i v).length = d.length:=by cases d <;> simp [qa0]
theorem ql1 (d:qe):∀ n,(qbV d n).1.length = d.length
 | 0=>rfl
 | n + 1=>by simp only [qbV,qnD,q9p,ql1 d n]
theorem q86:qxb.ok Tryz.prog:=q82 (by simp) fun Z hg hp=>by
 have hl:(Z 1).d.length = 1:=hp;simp [q1x,qxb,q8g];refine ⟨rfl,fun x _ i _ d _ i0 i1 hd=>⟨fun hi=>?_,fun hi=>?_⟩⟩
 ·obtain ⟨x0,x1⟩:=qjd (Z 1).d i.i.toNat
  have hlen:=ql1 (Z 1).d i.i.toNat;rw [<- hd] at x0 x1 hlen;simp only at x0 x1 hlen;have w1:qc .add .i64 i.i 255 = i.i + 255:=by simp [qc,IntKind.wrap,IntKind.bits,IntKind.signed]; omega
  have w2:qc .add .i64 i.i 1 = i.i + 1:=by simp [qc,IntKind.wrap,IntKind.bits,IntKind.signed]; omega
  have w3:qc .shl .i64 x.i 1 = 2 * x.i:=by simp [qc,IntKind.wrap,IntKind.bits,IntKind.signed]; omega
  have w4:IntKind.u8.wrap x.i = x.i:=by simp [IntKind.wrap,IntKind.bits,IntKind.signed]; omega
  have hstep:∀ y,y = qjJ x.i->(qa0 (qa0 (qa0 d.d (i.i.toNat + 3) (.int .u8 x.i)) ((i.i + 255).toNat + 3) (.int .u8 x.i)) (x.i.toNat + 513) (.int .i64 i.i),y) = qbV (Z 1).d (i.i + 1).toNat:=fun y hy=>by
   rw [show (i.i + 1).toNat = i.i.toNat + 1 by omega,qbV,<- hd,qnD,hy];simp only;rw [show (i.i + 255).toNat = i.i.toNat + 255 by omega,jay i0]
  rw [w1,w2,w3,w4];refine ⟨by omega,i0,by omega,by omega,by omega,x0,x1,fun h=>⟨⟨by omega,by omega,hstep _ ?_⟩,by omega⟩,fun h=>⟨⟨by omega,by omega,hstep _ ?_⟩,by omega⟩⟩
  ·rw [qjJ,jah h]
  ·rw [qjJ,jaf (by omega)]
 ·have:i.i.toNat = 255:=by omega
  rw [this] at hd;rw [<- hd]
theorem qn6 (w:World):(callFunc 198 #[]).run Tryz.prog w = .ok (.value (.tuple #[])) w:=run_call_mark0 Tryz.func198 (by kernel_rfl) (by kernel_rfl) (by kernel_rfl) .disable (by kernel_rfl) w
theorem qoK (w:World):(callFunc 200 #[]).run Tryz.prog w = .ok (.value (.tuple #[])) w:=run_call_mark0 Tryz.func200 (by kernel_rfl) (by kernel_rfl) (by kernel_rfl) .enable (by kernel_rfl) w
theorem qw6 (a:Addr) (w:World):(callFunc 201 #[.pointer (some a)]).run Tryz.prog w = .ok (.value (.tuple #[])) w:=run_call_marked Tryz.func201 (by kernel_rfl) (by kernel_rfl) (by kernel_rfl) .acquire (by kernel_rfl) a w
theorem qwf (a:Addr) (w:World):(callFunc 203 #[.pointer (some a)]).run Tryz.prog w = .ok (.value (.tuple #[])) w:=run_call_marked Tryz.func203 (by kernel_rfl) (by kernel_rfl) (by kernel_rfl) .releaseMerge (by kernel_rfl) a w
theorem q3L (a:Addr) (x:Value) (u:FrameMode) (w:World) (hc:w.cell? a = some x) (hz:w.frozen? a = false) :
  CallsD Tryz.prog 193 #[.pointer (some a),.bool true] u w fun e u' w'=>u' = u/\(e = .returned (.tuple #[])/\w' = w.drew.setCell a (.int .u32 1)):=by
 have hc':w.drew.cell? a = some x:=by go_simp
 have hz':w.drew.frozen? a = false:=by go_simp
 have hst:=run_call_store (P:=Tryz.prog) Tryz.func196 (by kernel_rfl) (by kernel_rfl) (by kernel_rfl) (by kernel_rfl) (k:=.u32) (y:=1) hc' hz'
 go_enter_d Tryz.func193,Tryz.ntmps193
 go_wp2
 go_region_calls
 all_goals (go_end0; exact ⟨rfl,rfl⟩)
set_option maxRecDepth 100000 in
set_option maxHeartbeats 1600000 in
theorem qww (a:Addr) (w:World) (hc:w.cell? a = some (.int .i32 0)) (hz:w.frozen? a = false) :
  Calls Tryz.prog 194 #[.pointer (some a)] w fun e w'=>e = .returned (.tuple #[])/\w' = w.setCell a (.int .i32 1):=by
 have hd:=qn6;have he:=qoK;have ha:=qw6;have hcas:=run_call_cas_hit (P:=Tryz.prog) Tryz.func199 (by kernel_rfl) (by kernel_rfl) (by kernel_rfl) .i32 (by kernel_rfl) (y:=1) hc hz;have hc':(w.setCell a (.int .i32 1)).cell? a = some (.int .i32 1):=World.cell?_setCell_same w a _ hc;have hcv:=run_convert_to_unsafe (P:=Tryz.prog) (src:=283) (dst := 287) Tryz.underlying283 Tryz.underlying287 (by kernel_rfl) hc'
 go_enter Tryz.func194,Tryz.ntmps194
 go_wp2
 first | go_end0 | (simp only [Exit.inBlock,Exit.then]; refine bodyPost_ret (results_none rfl _ _ _) rfl ?_) | refine bodyPost_ret (results_none rfl _ _ _) rfl ?_
 go_wp2
 all_goals (go_end0; exact ⟨rfl,rfl⟩)
set_option maxRecDepth 100000 in
set_option maxHeartbeats 1600000 in
theorem qsv (a:Addr) (w:World) (hc:w.cell? a = some (.int .i32 1)) (hz:w.frozen? a = false) :
  Calls Tryz.prog 195 #[.pointer (some a)] w fun e w'=>e = .returned (.tuple #[])/\w' = w.setCell a (.int .i32 0):=by
 have hd:=qn6;have he:=qoK;have hr:=qwf;have hadd:=run_call_add (P:=Tryz.prog) Tryz.func204 (by kernel_rfl) (by kernel_rfl) (by kernel_rfl) .i32 (by kernel_rfl) (y:=-1) (s:=0) hc hz (by simp [go_sem]; rfl);have hcv:=run_convert_to_unsafe (P:=Tryz.prog) (src:=283) (dst := 287) Tryz.underlying283 Tryz.underlying287 (by kernel_rfl) hc
 go_enter Tryz.func195,Tryz.ntmps195
 go_wp2
 all_goals (try go_end0)
 all_goals (try go_wp2)
 all_goals (try go_end0)
 all_goals (exact ⟨rfl,rfl⟩)
set_option maxRecDepth 100000 in
theorem q6V (b off:Nat) (w:World) (hc:w.cell? ⟨b,off,none⟩ = some (.int .i32 0)) (hz:w.frozen? ⟨b,off,none⟩ = false) :
  Calls Tryz.prog 191 #[.pointer (some ⟨b,off,none⟩)] w fun e w'=>e = .returned (.tuple #[])/\w' = w.setCell ⟨b,off,none⟩ (.int .i32 1):=by
 go_enter Tryz.func191,Tryz.ntmps191
 go_wp2_with (go_at_call 194; refine (qww ⟨b,off,none⟩ _ (by go_simp) (by go_simp)).mono ?_; rintro e w' ⟨rfl,rfl⟩)
 all_goals (go_end0; exact ⟨rfl,rfl⟩)
set_option maxRecDepth 100000 in
theorem qzC (b off:Nat) (u:FrameMode) (w:World) (hc:w.cell? ⟨b,off,none⟩ = some (.int .i32 1)) (hz:w.frozen? ⟨b,off,none⟩ = false) :
  CallsD Tryz.prog 192 #[.pointer (some ⟨b,off,none⟩)] u w fun e u' w'=>u' = u/\(e = .returned (.tuple #[])/\w' = w.setCell ⟨b,off,none⟩ (.int .i32 0)):=by
 go_enter_d Tryz.func192,Tryz.ntmps192
 go_wp2_with (go_at_call 195; refine (qsv ⟨b,off,none⟩ _ (by go_simp) (by go_simp)).mono ?_; rintro e w' ⟨rfl,rfl⟩)
 all_goals (go_end0; exact ⟨rfl,rfl⟩)
theorem qql {k:CK} {v:Value} (h:CK.fits k v = true):v.oneCell' = true:=by
 cases k <;> cases v <;> simp_all [CK.fits,Value.oneCell']
def At (w:World) (b:Nat) (c:Array Value):Prop:=w.heap[b]? = some (.cells c 151 (0,0))
structure Else (w w':World) (b:Nat):Prop where
 blk:∀ b',b' ≠ b->∀ o,w.heap[b']? = some o->w'.heap[b']? = some o
 os:w'.os = w.os
 out:w'.output = w.output
theorem Else.trans {w1 w2 w3:World} {b:Nat} (h:Else w1 w2 b) (h':Else w2 w3 b):Else w1 w3 b :=
 ⟨fun b' hb o ho=>h'.blk b' hb o (h.blk b' hb o ho),h'.os.trans h.os,h'.out.trans h.out⟩
theorem At.set {w:World} {b:Nat} {c:Array Value} (h:At w b c) (k:Nat) (v:Value):At (w.setCell ⟨b,k,none⟩ v) b (c.setIfInBounds k v)/\Else w (w.setCell ⟨b,k,none⟩ v) b:=by
 refine ⟨?_,fun b' hb o ho=>?_,rfl,rfl⟩
 ·have h:w.heap[b]? = some (.cells c 151 (0,0)):=h
  simp only [At,World.setCell,jb9,jbz,h,ja0];simp
 ·simp only [World.setCell,jb9]
  rw [jaf (fun h=>hb h.symm)]; exact ho
theorem At.drew {w:World} {b:Nat} {c:Array Value} (h:At w b c):At w.drew b c/\Else w w.drew b:=⟨h,fun _ _ _ ho=>ho,rfl,rfl⟩
theorem At.cell {w:World} {b:Nat} {c:Array Value} (h:At w b c) {k:Nat} {v:Value} (hv:c[k]? = some v):w.cell? ⟨b,k,none⟩ = some v:=by rw [qbl h,hv]
theorem At.frozen {w:World} {b:Nat} {c:Array Value} (h:At w b c) (k:Nat):w.frozen? ⟨b,k,none⟩ = false:=by
 have h:w.heap[b]? = some (.cells c 151 (0,0)):=h;simp [World.frozen?,h]
theorem qlE {c:Array Value} {k:Nat} {v:Value}:(c.setIfInBounds k v).toList = c.toList.set k v:=by simp
theorem qd3:qgm.length = 769:=by simp only [qgm,jaj,jaz,jba,jct]
set_option maxRecDepth 100000 in
theorem qz5 {w:World} {b:Nat} {c:Array Value} (hb:At w b c) (hf:qv qgm c.toList) :
  Calls Tryz.prog 179 #[.pointer (some ⟨b,0,none⟩)] w fun e w'=>e = .returned (.tuple #[])/\∃ c',At w' b c'/\[c'.toList] = (qbV [c.toList] 255).1/\Else w w' b:=by
 let us:List U:=[{ r:=some ⟨b,0,none⟩ },{ d:=[c.toList] }]
 have hgood:Env.good fun n=>us.getD n {}:=fun n=>by
  match n with
  | 0=>simp [us,U.good,Value.oneCell']
  | 1 =>
   refine ⟨rfl,fun row hr v hv=>?_⟩;simp only [us,jfl,jfk,jak] at hr;subst hr;obtain ⟨k,hk⟩:=jbi hv;have hlt:k < qgm.length:=by rw [<- hf.1]; exact (jan.1 hk).1
   exact qql (hf.2 k _ v (jac hlt) hk)
  | n + 2=>simp [us,U.good,Value.oneCell']
 have hsz:c.size = 769:=by have:=hf.1; rw [qd3] at this; simpa using this
 have h:=q86.2 (fun n=>us.getD n {}) w ⟨fun b'=>if b' = b then none else w.heap[b']?,w.os,w.output⟩ (Hp.one b (.cells c 151 (0,0))) hgood
  (fun y=>by by_cases hy:y = b <;> simp [hy,Hp.one])
  ⟨fun y o hy=>by
   by_cases hyb:y = b
   ·subst hyb
    simp [Hp.union,Hp.one] at hy;rw [<- hy]; exact hb
   ·simpa [Hp.union,Hp.one,hyb] using hy,rfl,rfl⟩
  ⟨Hp.one b (.cells c 151 (0,0)),Hp.emp,Hp.disj_emp _,by funext y; simp [Hp.union,Hp.emp],.inr ⟨b,c,rfl,by simp [Hp.one],by rw [qd3,hsz]; simp [T.den,O0.den],by simp [us,T.den,O0.den],fun i row hi=>by
   match i with
   | 0 =>
    simp only [T.den,us,jfl,jfk,jav,jaa] at hi;subst hi;exact ⟨hf,fun k v hv=>by simpa using hv⟩
   | i + 1=>simp [T.den,us] at hi⟩,trivial⟩
  (fun x hx=>by cases hx) (show ([c.toList]:qe).length = 1 from rfl)
 refine h.mono fun e w' hq=>?_
 obtain ⟨ai,al,Z',hal,hg',hag,he,hpost,hO',hd',hst',hsub',hwi'⟩:=hq
 match ai,hal with
 | 0,hal =>
  obtain rfl:=jax hal;refine ⟨he,?_⟩;obtain ⟨h1,h2,hdj,hu,hden,_⟩:=hst';have r0:(Z' 0).r = some ⟨b,0,none⟩:=by rw [hag 0 (by decide)]; rfl
  have d1:(Z' 1).d = [c.toList]:=by rw [hag 1 (by decide)]; rfl
  have hp2:(Z' 2).d = (qbV (Z' 1).d 255).1:=hpost;rw [d1] at hp2;have hl2:(Z' 2).d.length = 1:=by rw [hp2,ql1]; rfl
  rcases hden with ⟨hn,_,_⟩ | ⟨b',c',g1,g2,g3,g4,g5⟩
  ·rw [r0] at hn; cases hn
  ·rw [r0] at g1
   simp only [jaa,Addr.mk.injEq] at g1;obtain ⟨rfl,_⟩:=g1;obtain ⟨row,hrow⟩:∃ row,(Z' 2).d = [row]:=jed.1 hl2;obtain ⟨f1,f2⟩:=g5 0 row (by simp only [T.den]; rw [hrow]; rfl);have hs':c'.size = 769:=by rw [g3,qd3]; simp [T.den,O0.den]
   have hlr:row.length = 769:=by rw [f1.1,qd3]
   have hcl:c'.toList = row:=by
    apply jbs;intro k;by_cases hk:k < row.length
    ·have:=f2 k _ (jac hk)
     rw [jca,jac hk];simpa using this
    ·rw [jat (by simp; omega),jat (by omega)]
   refine ⟨c',hsub' b _ ?_,by rw [hcl,<- hrow,hp2],fun y hy o ho=>hsub' y o ?_,hwi'.1,hwi'.2⟩
   ·have:hO' b = some (.cells c' 151 (0,0)):=by rw [hu]; simp [Hp.union,g2]
    simp [Hp.union,this]
   ·simp [Hp.union,hy,ho]
 | n + 1,hal=>cases hal
theorem qpZ:∀ (x:Bool) (w:World),(Op.unary .not (.bool x)).run Tryz.prog w = .ok (.bool (!x)) w:=fun _ _=>rfl
set_option maxRecDepth 100000 in
theorem qmZ (b:Nat) (x:Int) (w:World) (hc:w.cell? ⟨b,0,none⟩ = some (.int .u32 x)) :
  Calls Tryz.prog 187 #[.pointer (some ⟨b,0,none⟩)] w fun e w'=>e = .returned (.bool (x != 0))/\w' = w:=by
 have hl:=run_call_load (P:=Tryz.prog) Tryz.func190 (by kernel_rfl) (by kernel_rfl) (by kernel_rfl) .u32 (by kernel_rfl) hc
 go_enter Tryz.func187,Tryz.ntmps187
 go_wp2
 go_ret
 exact ⟨rfl,rfl⟩
set_option maxRecDepth 100000 in
theorem q7w (b:Nat) (d:Int) (hd:¬ d = 0) (fv:Value) (w:World) (h0:w.cell? ⟨b,0,none⟩ = some (.int .u32 d)) :
  Calls Tryz.prog 178 #[.pointer (some ⟨b,0,none⟩),fv] w fun e w'=>e = .returned (.tuple #[])/\w' = w:=by
 have hnot:=qpZ;have hd':(d != 0) = true:=by simp [hd]
 go_enter Tryz.func178,Tryz.ntmps178
 go_wp2_with (go_at_call 187; refine (qmZ b d _ h0).mono ?_; rintro e w' ⟨rfl,rfl⟩)
 all_goals (try go_end0)
 all_goals (exact ⟨rfl,rfl⟩)
def qqz:List CK->List Value->Bool
 | [],[]=>true
 | k :: ks,v :: vs=>CK.fits k v && qqz ks vs
 | _,_=>false
theorem qhL:∀ {ks:List CK} {vs:List Value},qqz ks vs = true->qv ks vs
 | [],[],_=>⟨rfl,fun c k v hk=>by simp at hk⟩
 | k :: ks,v :: vs,h=>by
  simp only [qqz,jag] at h;obtain ⟨h1,h2⟩:=qhL h.2;refine ⟨by simp [h1],fun c k' v' hk hv=>?_⟩;cases c with
  | zero=>simp at hk hv; subst hk; subst hv; exact h.1
  | succ c=>exact h2 c k' v' (by simpa using hk) (by simpa using hv)
 | [],_ :: _,h=>by simp [qqz] at h
 | _ :: _,[],h=>by simp [qqz] at h
theorem q2E:qv qgm (qbD.set 1 (.int .i32 1)):=qhL (by kernel_rfl)
theorem q5g:[(((qbV [qbD.set 1 (.int .i32 1)] 255).1.headD []).set 0 (.int .u32 1)).set 1 (.int .i32 0)] = qba:=by kernel_rfl
theorem qCF:((qbV [qbD.set 1 (.int .i32 1)] 255).1.headD [])[1]? = some (.int .i32 1):=by kernel_rfl
theorem qCg:((qbV [qbD.set 1 (.int .i32 1)] 255).1.headD [])[0]? = some (.int .u32 0):=by kernel_rfl
set_option maxRecDepth 100000 in
set_option maxHeartbeats 1600000 in
theorem q6K (b:Nat) (c:Array Value) (w:World) (hb:At w b c) (hc:c.toList = qbD) :
  Calls Tryz.prog 188 #[.pointer (some ⟨b,0,none⟩),.func (.func 179) #[.pointer (some ⟨b,0,none⟩)] #[]] w fun e w'=>e = .returned (.tuple #[])/\∃ c',At w' b c'/\[c'.toList] = qba/\Else w w' b:=by
 have hnot:=qpZ;have hget:∀ k:Nat,c[k]? = qbD[k]?:=fun k=>by rw [<- hc]; simp
 have h1:w.cell? ⟨b,1,none⟩ = some (.int .i32 0):=hb.cell (by rw [hget]; rfl);have f1:w.frozen? ⟨b,1,none⟩ = false:=hb.frozen 1;obtain ⟨a1,e1⟩:=hb.set 1 (.int .i32 1);have l1:(c.setIfInBounds 1 (.int .i32 1)).toList = qbD.set 1 (.int .i32 1):=by rw [qlE,hc]
 have h0:(w.setCell ⟨b,1,none⟩ (.int .i32 1)).cell? ⟨b,0,none⟩ = some (.int .u32 0):=a1.cell (by rw [<- jca,l1]; rfl);have hbuild:=qz5 a1 (by rw [l1]; exact q2E);rw [l1] at hbuild
 go_enter_defers Tryz.func188,Tryz.ntmps188
 go_wp2_with (first | (go_at_call 191; refine (q6V b 1 _ h1 f1).mono ?_; rintro e w' ⟨rfl,rfl⟩) | (go_at_call 187; refine (qmZ b 0 _ h0).mono ?_; rintro e w' ⟨rfl,rfl⟩) | (go_at_call 179; refine hbuild.mono ?_; rintro e w' ⟨rfl,c2,a2,l2,e2⟩))
 have hrow:c2.toList = (qbV [qbD.set 1 (.int .i32 1)] 255).1.headD []:=by rw [<- l2]; rfl
 have k0:c2[0]? = some (.int .u32 0):=by rw [<- jca,hrow]; exact qCg
 have k1:c2[1]? = some (.int .i32 1):=by rw [<- jca,hrow]; exact qCF
 obtain ⟨a3,e3⟩:=a2.drew;obtain ⟨a4,e4⟩:=a3.set 0 (.int .u32 1);obtain ⟨a5,e5⟩:=a4.set 1 (.int .i32 0);refine leaves_cons (f := 193) (args:=#[.pointer (some ⟨b,0,none⟩),.bool true]) (by simp) (by simp [go_sem]) ?_;refine (q3L ⟨b,0,none⟩ (.int .u32 0) .returning _ (a2.cell k0) (a2.frozen 0)).mono ?_
 rintro e u' w'' ⟨rfl,rfl,rfl⟩
 refine leaves_cons (f := 192) (args:=#[.pointer (some ⟨b,1,none⟩)]) (by simp [settle]) (by simp [go_sem]) ?_;refine (qzC b 1 _ _ (a4.cell (by simp [k1])) (a4.frozen 1)).mono ?_
 rintro e u' w'' ⟨rfl,rfl,rfl⟩
 have hfin:[((c2.setIfInBounds 0 (.int .u32 1)).setIfInBounds 1 (.int .i32 0)).toList] = qba:=by
  rw [qlE,qlE,hrow]; exact q5g
 simp [Leaves,settle,results,Tryz.results188];exact ⟨_,a5,hfin,e1.trans (e2.trans (e3.trans (e4.trans e5)))⟩
set_option maxRecDepth 100000 in
theorem q2U (b:Nat) (c:Array Value) (w:World) (hb:At w b c) (hc:c.toList = qbD) :
  Calls Tryz.prog 178 #[.pointer (some ⟨b,0,none⟩),.func (.func 179) #[.pointer (some ⟨b,0,none⟩)] #[]] w fun e w'=>e = .returned (.tuple #[])/\∃ c',At w' b c'/\[c'.toList] = qba/\Else w w' b:=by
 have hnot:=qpZ;have h0:w.cell? ⟨b,0,none⟩ = some (.int .u32 0):=hb.cell (by rw [<- jca,hc]; rfl);have hslow:=q6K b c w hb hc
 go_enter Tryz.func178,Tryz.ntmps178
 go_wp2_with (first | (go_at_call 187; refine (qmZ b 0 _ h0).mono ?_; rintro e w' ⟨rfl,rfl⟩) | (go_at_call 188; refine hslow.mono ?_; rintro e w' ⟨rfl,c2,a2,l2,e2⟩))
 all_goals (try go_end0)
 exact ⟨rfl,c2,a2,l2,e2⟩
theorem qDn:(qba.headD [])[0]? = some (.int .u32 1):=by kernel_rfl
theorem qlK:qba.length = 1:=by kernel_rfl
theorem qmJ:qv qgm (qba.headD []):=qhL (by kernel_rfl)
set_option maxRecDepth 100000 in
theorem qsP:qeK.ok Tryz.prog:=by
 refine ⟨fun args w=>Tryz.call178 args w,fun Z w hF hO hg hd hsub hst hro hpre=>?_⟩;obtain ⟨h1,h2,hdj,hu,hden,_⟩:=hst;have hlen:(Z 1).d.length = 1:=by
  rcases hpre with h | h
  ·rw [h]; rfl
  ·rw [h]; exact qlK
 rcases hden with ⟨hn,hnil,_⟩ | ⟨b,c,g1,g2,g3,g4,g5⟩
 ·have:(Z 1).d = []:=hnil
  rw [this] at hlen; cases hlen
 obtain ⟨row,hrow⟩:∃ row,(Z 1).d = [row]:=jed.1 hlen;obtain ⟨f1,f2⟩:=g5 0 row (by simp only [T.den]; rw [hrow]; rfl);have hs':c.size = 769:=by rw [g3,qd3]; simp [T.den,O0.den]
 have hlr:row.length = 769:=by rw [f1.1,qd3]
 have hcl:c.toList = row:=by
  apply jbs;intro k;by_cases hk:k < row.length
  ·have:=f2 k _ (jac hk)
   rw [jca,jac hk];simpa using this
  ·rw [jat (by simp; omega),jat (by omega)]
 have hOb:hO b = some (.cells c 151 (0,0)):=by rw [hu]; simp [Hp.union,g2]
 have hFb:hF b = none:=(hd b).resolve_right (by rw [hOb]; simp);have hb:At w b c:=hsub.1 b _ (by simp [Hp.union,hFb,hOb]);have fin:∀ w',(∃ c',At w' b c'/\[c'.toList] = qba/\Else w w' b)->∃ (ai:Nat) (al:Alt) (Z':Env),qeK.alts[ai]? = some al/\Z'.good/\(∀ n,n < qeK.nv->Z' n = Z n)/\(Ending.returned (.tuple #[]):Ending) = .returned (al.ret.den Z')/\al.post (Z'.upto (qeK.nv + al.k))/\qs Z' hF al.heap w':=fun w' ⟨c',a',hl',he'⟩=>by
  have hgd:({ d:=qba }:U).good:=by
   refine ⟨rfl,fun r hr v hv=>?_⟩;have hr:r ∈ qba:=hr;rw [<- hl',jak] at hr;subst hr;have hh:qba.headD [] = c'.toList:=by rw [<- hl']; rfl
   obtain ⟨k,hk⟩:=jbi hv;have hfit:=qmJ;rw [hh] at hfit;have hlt:k < qgm.length:=by rw [<- hfit.1]; exact (jan.1 hk).1
   exact qql (hfit.2 k _ v (jac hlt) hk)
  refine ⟨0,_,Z.set 2 { d:=qba },rfl,fun n=>?_,fun n hn=>Env.set_ne Z _ (by have:qeK.nv = 2:=rfl; omega),rfl,?_,Hp.upd hO b (.cells c' 151 (0,0)),?_,?_,?_,he'.os.trans hsub.2.1,he'.out.trans hsub.2.2⟩
  ·by_cases hn:n = 2
   ·subst hn; rw [Env.set_same]; exact hgd
   ·rw [Env.set_ne Z _ hn]; exact hg n
  ·show ((Z.set 2 { d:=qba }).upto 3 2).d = qba
   simp [Env.upto,Env.set_same]
  ·intro y
   by_cases hy:y = b
   ·subst hy; exact .inl hFb
   ·rcases hd y with h | h
    ·exact .inl h
    ·exact .inr (by simp [Hp.upd,hy,h])
  ·refine ⟨Hp.upd hO b (.cells c' 151 (0,0)),Hp.emp,Hp.disj_emp _,by funext y; simp [Hp.union,Hp.emp],.inr ⟨b,c',?_,by simp [Hp.upd],?_,?_,?_⟩,trivial⟩
   ·rw [Env.set_ne Z _ (by omega)]; exact g1
   ·have hfit:=qmJ
    have hh:qba.headD [] = c'.toList:=by rw [<- hl']; rfl
    rw [hh] at hfit;have:=hfit.1;rw [qd3] at this ⊢;simp [T.den,O0.den] at this ⊢; omega
   ·simp only [T.den,Env.set_same,O0.den]; rw [qlK]; decide
   ·intro i r hi
    simp only [T.den,Env.set_same] at hi;rw [<- hl'] at hi
    match i with
    | 0 =>
     simp only [jav,jaa] at hi;subst hi;have hfit:=qmJ;have hh:qba.headD [] = c'.toList:=by rw [<- hl']; rfl
     rw [hh] at hfit;exact ⟨hfit,fun k v hv=>by simpa using hv⟩
    | i + 1=>simp at hi
  ·intro y o ho
   by_cases hy:y = b
   ·subst hy
    simp [Hp.union,hFb,Hp.upd] at ho;rw [<- ho]; exact a'
   ·refine he'.blk y hy o (hsub.1 y o ?_)
    simpa [Hp.union,Hp.upd,hy] using ho
 have hargs:(qeK.args.map (SV.den Z)).toArray = #[.pointer (some ⟨b,0,none⟩),.func (.func 179) #[.pointer (some ⟨b,0,none⟩)] #[]]:=by
  simp [qeK,qaK,SV.den,T.den,O0.den,O1.den,g1,qn,qd]
 rw [hargs];rcases hpre with h | h
 ·refine (q2U b c w hb ?_).mono fun e w' ⟨he,hh⟩=>?_
  ·rw [hcl]
   have:[row] = [qbD]:=hrow.symm.trans h;exact (List.cons.inj this).1
  ·rw [he]; exact fin w' hh
 ·have hh:[row] = qba:=hrow.symm.trans h
  have hr0:qba.headD [] = row:=by rw [<- hh]; rfl
  have h0:=qDn;rw [hr0] at h0;refine (q7w b 1 (by decide) _ w (hb.cell (by rw [<- jca,hcl]; exact h0))).mono fun e w' ⟨he,hw⟩=>?_
  rw [he,hw];exact fin w ⟨c,hb,by rw [hcl]; exact hh,fun _ _ _ ho=>ho,rfl,rfl⟩
theorem qse:qjc.ok Tryz.prog:=qD1 (by simp [qsP]) fun Z hg hp=>by
 obtain ⟨h1,a0,a1,b0,b1⟩:=hp;simp [qAX,qjc,qeK];obtain ⟨l0,l1⟩:=qcF a0 a1;obtain ⟨m0,m1⟩:=qcF b0 b1;have hz:∀ h:(Z 2).i = 0∨(Z 3).i = 0,0 = qbC (Z 2).i (Z 3).i:=fun h=>by rw [qbC,jah h]
 have hne:¬ (Z 1).d = []:=fun h=>by
  have hl:=qlK;rcases h1 with h' | h' <;> rw [h'] at h
  ·cases h
  ·rw [h] at hl; cases hl
 refine ⟨fun h=>(hne h).elim,fun _=>⟨fun h=>⟨h1,hz (.inl h)⟩,fun n2=>⟨fun h=>⟨h1,hz (.inr h)⟩,fun n3=>⟨jfm.2 hne,h1,fun u _ hu=>?_⟩⟩⟩⟩;rw [hu];have e1:qa qba ((Z 2).i.toNat + 513) = qb3 (Z 2).i.toNat:=rfl;have e2:qa qba ((Z 3).i.toNat + 513) = qb3 (Z 3).i.toNat:=rfl;rw [e1,e2];have w:qc .add .i64 (qb3 (Z 2).i.toNat) (qb3 (Z 3).i.toNat) = qb3 (Z 2).i.toNat + qb3 (Z 3).i.toNat:=by
  simp [qc,IntKind.wrap,IntKind.bits,IntKind.signed]; omega
 rw [w];refine ⟨by rw [qlK]; decide,a0,a1,b0,b1,by omega,by omega,.inr rfl,?_⟩;rw [qbC,jaf (by omega)]; rfl
theorem qim:qbv.ok Tryz.prog:=q4l (by simp) fun Z hg hp=>by
 simp [qvc,qbv];refine ⟨fun h1=>⟨fun h2=>?_,fun h2=>?_⟩,fun h1=>?_⟩
 ·simp [qM,h1,h2,qJ]
 ·simp [qM]; omega
 ·simp [qM]; omega
theorem ql8:qbH.ok Tryz.prog:=q4q (by simp) fun Z hg hp=>by
 simp [qt7,qbH];unfold qcr;refine ⟨fun h=>by omega,fun h1=>⟨fun h=>by omega,fun h2=>⟨fun h=>by omega,fun h3=>⟨fun h=>by omega,fun h4=>⟨by omega,by omega,fun _=>?_⟩⟩⟩⟩⟩;rw [add64 (by omega) (by omega),sub64 (by omega) (by omega)];have hq:0 <= ((Z 1).i + (Z 0).i - 1).tdiv (Z 0).i/\((Z 1).i + (Z 0).i - 1).tdiv (Z 0).i <= 10000:=by
  rw [jdy (by omega)];refine ⟨Int.ediv_nonneg (by omega) (by omega),?_⟩;have:=Int.ediv_le_self (a:=(Z 1).i + (Z 0).i - 1) (Z 0).i (by omega);omega
 exact wrap64 (by omega) (by omega)
theorem qjX:qdc.ok Tryz.prog:=q5P (by simp) fun Z hg hp=>by
 obtain ⟨h1,h2,h3,h4⟩:=hp;simp [qxg,qdc];have hb:=qL h1 h2 h3 h4;rw [qbY (by omega) (by omega)];omega
theorem qgK:qcs.ok Tryz.prog:=q8L (by simp) fun Z hg hp=>by
 obtain ⟨r0,r1,a0,a1,c0,c1,hl,hc,hd,hB⟩:=hp;simp [q1R,qcs];have hb:=qL (x:=(Z 7).i) (y:=(Z 1).i) r0 (show (Z 7).i <= 255 by omega) c0 c1;have hb2:=qL (x:=(Z 7).i + 1) (y:=(Z 1).i) (by omega) (show (Z 7).i + 1 <= 255 by omega) c0 c1;have he:((Z 7).i + 1) * (Z 1).i = (Z 7).i * (Z 1).i + (Z 1).i:=by rw [jcb,jcc]
 have hle:((Z 7).i + 1) * (Z 1).i <= (Z 0).i * (Z 1).i:=ja1 (by omega) c0;rw [add64 (by omega) (by omega),qbY (by omega) (by omega),qbY (by omega) (by omega)];refine ⟨by omega,by omega,hb.1,by omega,by omega,?_,by omega⟩;split
 ·have:(Z 1).i = 0:=by omega
  rw [this,Int.mul_zero]
 ·rfl
theorem qmp:qdx.ok Tryz.prog:=q3d (by simp) fun Z hg hp=>by
 have hp:0 <= (Z 3).i:=hp;simp [quT,qdx];refine ⟨fun h1=>⟨fun h2=>⟨fun h3=>⟨fun h4=>⟨by omega,?_⟩,fun _=>by omega⟩,fun _=>by omega⟩,fun _=>by omega⟩,fun _=>by omega⟩;have hb:=qL (x:=(Z 0).i) (y:=(Z 1).i) (by omega) h2 (by omega) h4;rw [qbY (by omega) (by omega)];omega
theorem qsd:qiN.ok Tryz.prog:=q4o (by simp) fun Z hg hp=>by
 obtain ⟨h0,h1,h2⟩:=hp;simp [quv,qiN];unfold Go.Eng.big at h2;exact ⟨by omega,by omega,by omega⟩
theorem qma:qeh.ok Tryz.prog:=q89 (by simp [qse]) fun Z hg hp=>by
 obtain ⟨hf,⟨o0,o1,o2,o3⟩,⟨s0,s1,s2,s3⟩,hle,hB,hB2,c0,c1⟩:=hp;unfold Go.Eng.big at o3 s3;simp [q03,qeh,q5C,qjc];refine ⟨fun hc=>⟨hf,hB,?_⟩,fun hc=>⟨s1,⟨s1,hf,hB,?_⟩,fun i _ fd _ dd _ i0 i1 hfd hl hBd hd=>⟨fun hi=>?_,fun hi=>?_⟩⟩⟩
 ·rw [hc,qh0 (allB_list hB)]
 ·rw [show seg (bI (Z 12).d) (Z 9).i.toNat 0 = [] by simp [seg],qih]
 ·have hcell:=qbs hB2 (i:=(Z 9).i + i.i) (by omega) (by omega)
  refine ⟨i0,s0,by omega,by omega,by omega,o0,by omega,by omega,⟨hfd,c0,c1,hcell⟩,fun m _ fd2 _ hf2 hm=>?_⟩;rw [add64 (by omega) (by omega)];have hy:=qcw (d:=(Z 12).d) (i:=(Z 9).i + i.i) (by omega) (by omega);rw [show ((Z 9).i + i.i).toNat = (Z 9).i.toNat + i.i.toNat by omega] at hy;have hz:=qcw (d:=dd.d) (i:=(Z 3).i + i.i) (by omega) (by omega);rw [show ((Z 3).i + i.i).toNat = (Z 3).i.toNat + i.i.toNat by omega,hd,qgp (by right; rw [qdF (by rw [bI_len]; omega)]; omega)] at hz;refine ⟨⟨by omega,by omega,hf2,by rw [qaU,hl],qew hBd qb6.1 qb6.2,?_⟩,by omega⟩;rw [qfX,hd,hm,show (i.i + 1).toNat = i.i.toNat + 1 by omega,qhs hz hy,show ((Z 3).i + i.i).toNat = (Z 3).i.toNat + i.i.toNat by omega];rfl
 ·have:i.i = (Z 10).i:=by omega
  rw [this] at hd;exact ⟨hfd,hl,hBd,hd⟩
theorem q62:qnb.ok Tryz.prog:=qy9 (by simp [qse]) fun Z hg hp=>by
 obtain ⟨hf,⟨o0,o1,o2,o3⟩,⟨s0,s1,s2,s3⟩,hle,hdis,hB,c0,c1⟩:=hp;unfold Go.Eng.big at o3 s3;simp [qpe,qnb,q1r,qjc];refine ⟨fun hc=>⟨hf,hB,?_⟩,fun hc=>⟨s1,⟨s1,hf,hB,?_⟩,fun i _ fd _ dd _ i0 i1 hfd hl hBd hd=>⟨fun hi=>?_,fun hi=>?_⟩⟩⟩
 ·rw [hc,qh0 (allB_list hB)]
 ·rw [show seg (bI (Z 6).d) (Z 8).i.toNat 0 = [] by simp [seg],qih]
 ·have hcell:=qbs hBd (i:=(Z 8).i + i.i) (by omega) (by omega)
  have hsl:(seg (bI (Z 6).d) (Z 8).i.toNat i.i.toNat).length = i.i.toNat:=qdF (by rw [bI_len]; omega);have hy:=qcw (d:=dd.d) (i:=(Z 8).i + i.i) (by omega) (by omega);rw [show ((Z 8).i + i.i).toNat = (Z 8).i.toNat + i.i.toNat by omega,hd,qgp (by rw [hsl]; omega)] at hy;have hz:=qcw (d:=dd.d) (i:=(Z 3).i + i.i) (by omega) (by omega);rw [show ((Z 3).i + i.i).toNat = (Z 3).i.toNat + i.i.toNat by omega,hd,qgp (by rw [hsl]; omega)] at hz;refine ⟨i0,s0,by omega,by omega,by omega,o0,by omega,by omega,⟨hfd,c0,c1,hcell⟩,fun m _ fd2 _ hf2 hm=>?_⟩;rw [add64 (by omega) (by omega)];refine ⟨⟨by omega,by omega,hf2,by rw [qaU,hl],qew hBd qb6.1 qb6.2,?_⟩,by omega⟩;rw [qfX,hd,hm,show (i.i + 1).toNat = i.i.toNat + 1 by omega,qhs hz hy,show ((Z 3).i + i.i).toNat = (Z 3).i.toNat + i.i.toNat by omega];rfl
 ·have:i.i = (Z 9).i:=by omega
  rw [this] at hd;exact ⟨hfd,hl,hBd,hd⟩
theorem q95:qnJ.ok Tryz.prog:=q8z (by simp [qse]) fun Z hg hp=>by
 obtain ⟨hf,⟨o0,o1,o2,o3⟩,hB,c0,c1⟩:=hp;unfold Go.Eng.big at o3;simp [q1L,qnJ,q5V,qjc];refine ⟨o1,⟨o1,hf,hB,?_⟩,fun i _ fd _ dd _ i0 i1 hfd hl hBd hd=>⟨fun hi=>?_,fun hi=>?_⟩⟩
 ·rw [q0s]
 ·have hcell:=qbs hBd (i:=(Z 3).i + i.i) (by omega) (by omega)
  refine ⟨i0,o0,by omega,by omega,⟨hfd,hcell.1,hcell.2,c0,c1⟩,fun m _ fd2 _ hf2 hm=>?_⟩;rw [add64 (by omega) (by omega)];have hz:=qcw (d:=dd.d) (i:=(Z 3).i + i.i) (by omega) (by omega);rw [show ((Z 3).i + i.i).toNat = (Z 3).i.toNat + i.i.toNat by omega,hd,q39 (by omega)] at hz;have hmr:=q3x hcell.1 hcell.2 c0 c1;refine ⟨⟨by omega,by omega,hf2,by rw [qaU,hl],qew hBd (by rw [hm]; exact hmr.1) (by rw [hm]; exact hmr.2),?_⟩,by omega⟩;rw [qfX,hd,hm,show (i.i + 1).toNat = i.i.toNat + 1 by omega,qzR hz,show ((Z 3).i + i.i).toNat = (Z 3).i.toNat + i.i.toNat by omega]
 ·have:i.i = (Z 4).i:=by omega
  rw [this] at hd;exact ⟨hfd,hl,hBd,hd⟩
theorem q8Q:qnt.ok Tryz.prog:=q9v (by simp [qsP]) fun Z hg hp=>by
 obtain ⟨hf,a0,a1⟩:=hp;obtain ⟨hne,hpos⟩:=qbT hf;simp [q2u,qnt,qeK];refine ⟨fun h=>(hne h).elim,fun _=>⟨fun h=>⟨hf,by rw [qdU,jah h],h⟩,fun h=>⟨hpos,hf,fun u _ hu=>?_⟩⟩⟩;rw [hu];obtain ⟨l0,l1⟩:=qcF a0 a1;have e1:qa qba ((Z 2).i.toNat + 513) = qb3 (Z 2).i.toNat:=rfl;rw [e1,sub64 (by omega) (by omega)];exact ⟨(qbT (.inr rfl)).2,a0,a1,by omega,by omega,.inr rfl,by rw [qdU,jaf h]; rfl,h⟩
theorem q8K:qnI.ok Tryz.prog:=qAi (by simp [qsP]) fun Z hg hp=>by
 obtain ⟨hf,a0,a1,e1⟩:=hp;obtain ⟨hne,hpos⟩:=qbT hf;simp [q2z,qnI,qeK];refine ⟨fun h=>(hne h).elim,fun _=>⟨fun h=>⟨hf,by rw [qhR,jah h]⟩,fun he=>⟨fun h=>⟨hf,by rw [qhR,jaf (by omega),jah h]⟩,fun h=>⟨hpos,hf,fun u _ hu=>?_⟩⟩⟩⟩;rw [hu];obtain ⟨l0,l1⟩:=qcF a0 a1;have e1:qa qba ((Z 2).i.toNat + 513) = qb3 (Z 2).i.toNat:=rfl;have hr:qc .rem .i64 (Z 3).i 255 = (Z 3).i.tmod 255:=rfl;have hr0:0 <= (Z 3).i.tmod 255:=jfi _ (by omega);have hr1:(Z 3).i.tmod 255 < 255:=jfs _ (by omega);have hb:=qL l0 (show qb3 (Z 2).i.toNat <= 255 by omega) hr0 (show (Z 3).i.tmod 255 <= 255 by omega);rw [e1,hr,qbY (by omega) (by omega)];have hr2:qc .rem .i64 (qb3 (Z 2).i.toNat * (Z 3).i.tmod 255) 255 = (qb3 (Z 2).i.toNat * (Z 3).i.tmod 255).tmod 255:=rfl;have hr3:0 <= (qb3 (Z 2).i.toNat * (Z 3).i.tmod 255).tmod 255:=jfi _ hb.1;have hr4:(qb3 (Z 2).i.toNat * (Z 3).i.tmod 255).tmod 255 < 255:=jfs _ (by omega);rw [hr2];refine ⟨(qbT (.inr rfl)).2,a0,a1,hr3,by omega,.inr rfl,?_⟩;rw [qhR,jaf (by omega),jaf h]; rfl
def qtH:Out:=(.fresh 1 (.br (.cmp .lss (tv 0) (tl 1))
 (.ret 0 (sg 1 []))
 (.br (.cmp .gtr (tv 0) (tl 255))
 (.ret 0 (sg 1 []))
 (.pre 0 (sg 0 [bv 1 0,bv 0 0]) (tb (fr 2 4 (.post 0 0 (sg 0 [bv 1 0,bv 0 0]) 2 (.fresh 6 (.inv 0 7 (sg 1000 [bv 1004 5,bv 1003 4,bv 1002 3,bg 1001 2,bt 1000 (tl 0),bg 1005 6,bg 1006 1]) (fr 7 7 (.hyp 0 7 (.br (.cmp .lss (tv 7) (tv 0))
 (tn (tl 0) (.arith .add .i64 (.arith .mul .i64 (tv 7) (tv 0)) (tv 7)) (ts (.arith .add .i64 (.arith .mul .i64 (tv 7) (tv 0)) (tv 7)) (tv 9) (ts (.arith .add .i64 (.arith .mul .i64 (tv 7) (tv 0)) (tv 7)) (.dlen (tv 11)) (.back 0 7 (sg 1000 [bt 1004 (.dput (tv 11) (.arith .add .i64 (.arith .mul .i64 (tv 7) (tv 0)) (tv 7)) 0 (.rcons (tu (tl 1)) .rnil)),bv 1003 10,bv 1002 9,bg 1001 8,bt 1000 (.arith .add .i64 (tv 7) (tl 1)),bg 1005 12,bg 1006 13])))))
 (.ret 1 (sg 1 [bv 4 11,bv 3 10,bv 2 9,bg 1 8]))))))))))))))
theorem q2H:qj Tryz.prog qgN [qdc] [qyA] qtH:=qg Tryz.func166 Tryz.call166 (by kernel_rfl)
def qrh:Out:=(.fresh 4 (.br (.and (.cmp .eql (.dlen (tv 1)) (tl 0)) (.isnil 0))
 (.stuck 7 0 0)
 (.br (.cmp .lss (tv 2) (tl 1))
 (.ret 0 (sg 4 [bv 4 1]))
 (.br (.cmp .gtr (tv 2) (tl 255))
 (.ret 0 (sg 4 [bv 4 1]))
 (.br (.cmp .lss (tv 3) (tl 1))
 (.ret 0 (sg 4 [bv 4 1]))
 (.br (.cmp .gtr (tv 3) (tl 255))
 (.ret 0 (sg 4 [bv 4 1]))
 (.pre 0 (sg 0 [bv 1 3,bv 0 2]) (tb (fr 5 4 (.post 0 0 (sg 0 [bv 1 3,bv 0 2]) 5 (.fresh 9 (.inv 0 10 (sg 1000 [bv 1004 8,bv 1003 7,bv 1002 6,bg 1001 5,bv 1006 1,bt 1000 (tl 0),bg 1005 9,bg 1007 4]) (fr 10 8 (.hyp 0 10 (.br (.cmp .lss (tv 10) (tv 2))
 (.inv 1 18 (sg 1000 [bv 1004 14,bv 1003 13,bv 1002 12,bg 1001 11,bv 1006 16,bt 1008 (tl 0),bv 1000 10,bg 1005 15,bg 1007 17]) (fr 18 9 (.hyp 1 18 (.br (.cmp .lss (tv 26) (tv 3))
 (tb (.pre 1 (sg 0 [bv 1 24,bv 3 26,bt 2 (.conv .u8 (tv 18)),bg 0 0]) (tb (fr 27 2 (.post 1 0 (sg 0 [bv 1 24,bv 3 26,bt 2 (.conv .u8 (tv 18)),bg 0 0]) 27 (tn (tl 0) (.arith .add .i64 (.arith .mul .i64 (tv 18) (tv 3)) (tv 26)) (ts (.arith .add .i64 (.arith .mul .i64 (tv 18) (tv 3)) (tv 26)) (tv 20) (ts (.arith .add .i64 (.arith .mul .i64 (tv 18) (tv 3)) (tv 26)) (.dlen (tv 22)) (tb (.back 1 18 (sg 1000 [bt 1004 (.dput (tv 22) (.arith .add .i64 (.arith .mul .i64 (tv 18) (tv 3)) (tv 26)) 0 (.rcons (tu (tv 27)) .rnil)),bv 1003 21,bv 1002 20,bg 1001 19,bv 1006 28,bt 1008 (.arith .add .i64 (tv 26) (tl 1)),bv 1000 18,bg 1005 23,bg 1007 25])))))))))))
 (.back 0 10 (sg 1000 [bv 1004 22,bv 1003 21,bv 1002 20,bg 1001 19,bv 1006 24,bt 1000 (.arith .add .i64 (tv 18) (tl 1)),bg 1005 23,bg 1007 25]))))))
 (.ret 1 (sg 4 [bv 8 14,bv 7 16,bv 6 13,bv 5 12,bg 4 11])))))))))))))))))
theorem q0v:qj Tryz.prog qfH [qdc,qnI] [qtJ,quY] qrh:=qg Tryz.func150 Tryz.call150 (by kernel_rfl)
@[simp] def qqA:Sg:=sg 0 [bv 13 15,bv 12 14,bv 7 42,bv 6 43,bv 1 45,bt 14 (.icell (tv 7) (.plus (tv 50) (tv 49)) 0),bv 11 58,bv 10 57,bv 9 56,bg 8 11,bv 5 55,bv 4 54,bv 3 53,bg 2 40,bg 0 0]
def qyV:Out:=(fr 16 3 (.br (.and (.cmp .eql (.dlen (tv 1)) (tl 0)) (.isnil 0))
 (.stuck 7 0 0)
 (.pre 0 (sg 0 [bv 6 8,bv 5 7,bv 4 6,bv 3 5,bg 2 4,bv 1 3,bv 0 2]) (tb (.fresh 19 (.post 0 0 (sg 0 [bv 6 8,bv 5 7,bv 4 6,bv 3 5,bg 2 4,bv 1 3,bv 0 2]) 19 (.br (.not (tv 19))
 (.ret 0 (sg 16 [bv 16 1]))
 (.pre 0 (sg 0 [bv 6 15,bv 5 14,bv 4 13,bv 3 12,bg 2 11,bv 1 10,bv 0 9]) (tb (.fresh 20 (.post 0 0 (sg 0 [bv 6 15,bv 5 14,bv 4 13,bv 3 12,bg 2 11,bv 1 10,bv 0 9]) 20 (.br (.not (tv 20))
 (.ret 0 (sg 16 [bv 16 1]))
 (.br (.cmp .neq (tv 3) (tv 9))
 (.ret 1 (sg 16 [bv 16 1]))
 (.pre 1 (sg 0 [bv 1 10,bv 0 2]) (tb (fr 21 4 (.post 1 0 (sg 0 [bv 1 10,bv 0 2]) 21 (.fresh 25 (.inv 0 26 (sg 1000 [bv 1004 24,bv 1003 23,bv 1002 22,bg 1001 21,bv 1006 1,bt 1000 (tl 0),bg 1005 25,bg 1008 17,bg 1007 16,bg 1009 18]) (fr 26 10 (.hyp 0 26 (.br (.cmp .lss (tv 26) (tv 2))
 (.pre 2 (sg 0 [bv 6 8,bv 5 7,bv 7 26,bv 4 6,bv 3 5,bg 2 4,bv 1 3,bv 0 2]) (tb (fr 36 3 (.post 2 0 (sg 0 [bv 6 8,bv 5 7,bv 7 26,bv 4 6,bv 3 5,bg 2 4,bv 1 3,bv 0 2]) 36 (tn (tl 0) (tv 37) (.inv 1 39 (sg 1000 [bv 1004 30,bv 1003 29,bv 1002 28,bg 1001 27,bv 1006 32,bt 1010 (tl 0),bv 1013 38,bv 1012 37,bv 1011 36,bv 1000 26,bg 1005 31,bg 1008 34,bg 1007 33,bg 1009 35]) (fr 39 14 (.hyp 1 39 (.br (.cmp .lss (tv 49) (tv 51))
 (tn (tl 0) (tv 49) (tn (tl 0) (tv 50) (tn (tl 0) (.plus (tv 50) (tv 49)) (ts (.plus (tv 50) (tv 49)) (.dlen (tv 7)) (tb (.pre 2 (sg 0 [bv 6 42,bv 5 43,bv 7 39,bv 4 42,bv 3 41,bg 2 40,bv 1 10,bv 0 2]) (tb (fr 53 3 (.post 2 0 (sg 0 [bv 6 42,bv 5 43,bv 7 39,bv 4 42,bv 3 41,bg 2 40,bv 1 10,bv 0 2]) 53 (tb (.pre 2 (sg 0 [bv 6 15,bv 5 14,bv 7 49,bv 4 13,bv 3 12,bg 2 11,bv 1 10,bv 0 9]) (tb (fr 56 3 (.post 2 0 (sg 0 [bv 6 15,bv 5 14,bv 7 49,bv 4 13,bv 3 12,bg 2 11,bv 1 10,bv 0 9]) 56 (tb (.pre 3 qqA (tb (fr 59 2 (.post 3 0 qqA 59 (.back 1 39 (sg 1000 [bv 1004 60,bv 1003 42,bv 1002 41,bg 1001 40,bv 1006 59,bt 1010 (.arith .add .i64 (tv 49) (tl 1)),bv 1013 52,bv 1012 51,bv 1011 50,bv 1000 39,bg 1005 44,bg 1008 47,bg 1007 46,bg 1009 48])))))))))))))))))))))
 (.back 0 26 (sg 1000 [bv 1004 43,bv 1003 42,bv 1002 41,bg 1001 40,bv 1006 45,bt 1000 (.arith .add .i64 (tv 39) (tl 1)),bg 1005 44,bg 1008 47,bg 1007 46,bg 1009 48])))))))))))
 (.ret 2 (sg 16 [bv 20 30,bv 19 32,bv 18 29,bv 17 28,bg 16 27]))))))))))))))))))))))))
theorem q7K:qj Tryz.prog qk2 [qdx,qdc,qcs,qeh] [q2w,q1m] qyV:=qg Tryz.func151 Tryz.call151 (by kernel_rfl)
theorem qso {f:Nat->Int} {len n:Nat}:(qb5 f len n).length = len:=by simp [qb5]
theorem qpm {f:Nat->Int} {len:Nat}:qb5 f len 0 = List.replicate len 0:=by
 apply jbs;intro j;by_cases hj:j < len
 ·simp [qb5,jbf,hj]
 ·simp [qb5,jbf,hj]
theorem qoF {f:Nat->Int} {len n:Nat} (h:n < len):qb5 f len (n + 1) = (qb5 f len n).set n (f n):=by
 apply jbs;intro j;rw [jby];by_cases hj:j < len
 ·by_cases hn:n = j
  ·subst hn; rw [jah rfl,jah (by rw [qso]; exact h)]; simp [qb5,h]
  ·rw [jaf hn]
   simp only [qb5,jaq,jbp hj,ja0,jaa];by_cases h1:j < n
   ·rw [jah (by omega),jah h1]
   ·rw [jaf (by omega),jaf h1]
 ·by_cases hn:n = j
  ·omega
  ·rw [jaf hn]; simp [qb5,hj]
theorem qyE {n:Nat}:qaG n 0 = List.replicate (n * n) 0:=by
 apply jbs;intro j;by_cases hj:j < n * n
 ·simp [qaG,jbf,hj]
 ·simp [qaG,jbf,hj]
theorem qsA {i n l:Nat} (h:l < n):(i * n + l) / n = i/\(i * n + l) % n = l:=by
 have hn:0 < n:=by omega
 refine ⟨?_,?_⟩
 ·rw [jce,jfg hn,jfb h,jci]
 ·rw [jce,jfh,jdm h]
theorem qDz {i r n l:Nat} (hi:i < r) (hl:l < n):i * n + l < r * n:=by
 have:=jbq n (show i + 1 <= r by omega);rw [jbt] at this; omega
theorem qxO {n m:Nat} (h:m < n):qaG n (m + 1) = (qaG n m).set (m * n + m) 1:=by
 have hlt:=qDz h h;obtain ⟨hd,hm⟩:=qsA (i:=m) h;apply jbs;intro j;rw [jby];by_cases hj:j < n * n
 ·simp only [qaG,jaq,jbp hj,ja0,ja7,List.length_range]
  by_cases hn:m * n + m = j
  ·subst hn
   rw [jah rfl,jah hlt,hd,hm,jah ⟨rfl,by omega⟩]
  ·rw [jaf hn]
   congr 1
   by_cases h1:j / n = j % n/\j / n < m
   ·rw [jah h1,jah ⟨h1.1,by omega⟩]
   ·rw [jaf h1,jaf]
    rintro ⟨e1,e2⟩
    have:j / n = m:=by
     rcases jbu (j / n) m with h | h
     ·exact (h1 ⟨e1,h⟩).elim
     ·omega
    have hdm:=jdf j n;rw [<- e1,this,jce] at hdm;exact hn hdm
 ·rw [jaf (by omega)]; simp [qaG,hj]
theorem q84 {l:List Int} {L o n:Nat} (h:o + n <= L):seg (l.take L) o n = seg l o n:=by
 apply jbs;intro j;rw [qf5,qf5];by_cases hj:j < n
 ·rw [jah hj,jah hj,jbb,jah (by omega)]
 ·rw [jaf hj,jaf hj]
theorem q3k {a b:List Int} {ra ca cb i l:Nat} (h:l < ca):qcz a b ra ca cb (i * ca + l + 1) = qE (qcz a b ra ca cb (i * ca + l)) (i * cb) (seg b (l * cb) cb) (a.getD (i * ca + l) 0):=by
 obtain ⟨hd,hm⟩:=qsA (i:=i) h;rw [qcz,hd,hm]
theorem quW {r c l cap:Int} {d:qe} {e:Int} {k:IntKind} {z:Int} (h:qdY r c l cap d) (h0:0 <= z) (h1:z < 256):qdY r c l cap (qaQ d e 0 [.int k z]):=by
 obtain ⟨a1,a2,a3,a4,a5,a6,a7,a8⟩:=h;exact ⟨a1,a2,a3,a4,a5,a6,by rw [qaU]; exact a7,qew a8 h0 h1⟩
theorem q40 {a e:Int} (a0:0 <= a) (a1:a < 256):0 <= qhR a e/\qhR a e < 256:=by
 unfold qhR;split
 ·omega
 ·split
  ·omega
  ·obtain ⟨l0,l1⟩:=qcF a0 a1
   have hr0:0 <= e.tmod 255:=jfi _ (by omega);have hb:0 <= qb3 a.toNat * e.tmod 255:=jfn l0 hr0;have h3:0 <= (qb3 a.toNat * e.tmod 255).tmod 255:=jfi _ hb;have h4:(qb3 a.toNat * e.tmod 255).tmod 255 < 255:=jfs _ (by omega);have:=ql2 (i:=((qb3 a.toNat * e.tmod 255).tmod 255).toNat) (by omega);omega
theorem q3l:qgN.ok Tryz.prog:=q2H (by simp [qjX]) fun Z hg hp=>by
 simp [qtH,qgN,qyA,qdc];refine ⟨fun h=>.inl h,fun h1=>⟨fun h=>.inr h,fun h2=>⟨⟨by omega,h2,by omega,h2⟩,fun l _ cp _ d _ hl hc hd=>⟨⟨h1,h2,by omega,?_⟩,fun i _ l' _ c' _ d' _ _ _ i0 i1 hM hL hB=>⟨fun hi=>?_,fun hi=>?_⟩⟩⟩⟩⟩
 ·have hb:=qL (x:=(Z 0).i) (y:=(Z 0).i) (by omega) h2 (by omega) h2
  refine ⟨⟨by omega,h2,by omega,h2,hl,by omega,by rw [hd,jaz]; omega,by rw [hd]; exact qcN⟩,by rw [hd,jaz]; omega,?_⟩;rw [hd,qeY,qyE,hl,jb0 (by omega) (by omega)]
 ·have hM':=hM
  obtain ⟨a1,a2,a3,a4,a5,a6,a7,a8⟩:=hM;have hb:=qL (x:=i.i) (y:=(Z 0).i) i0 (show i.i <= 255 by omega) (by omega) h2;have hlt:i.i * (Z 0).i + i.i < (Z 0).i * (Z 0).i:=by
   have:=ja1 (show i.i + 1 <= (Z 0).i by omega) (show 0 <= (Z 0).i by omega);rw [jcb,jcc] at this; omega
  rw [qbY (by omega) (by omega),add64 (by omega) (by omega),add64 (by omega) (by omega)];refine ⟨by omega,by omega,by omega,⟨h1,h2,by omega,by omega,quW hM' (by decide) (by decide),by rw [qaU]; exact hL,?_⟩,by omega⟩;rw [qfX,hB,show (i.i + 1).toNat = i.i.toNat + 1 by omega,qxO (by omega)]
  congr 1
  rw [jd4 hb.1 i0,jb0 i0 (by omega)]
 ·have:i.i = (Z 0).i:=by omega
  rw [this] at hB;exact ⟨h1,h2,hM,hL,hB⟩
theorem qz3:qfH.ok Tryz.prog:=q0v (by simp [qjX,q8K]) fun Z hg hp=>by
 have hf:ql (Z 1).d:=hp;simp [qrh,qfH,qtJ,quY,qte,qdc,qnI];have hne:=(qbT hf).1;refine ⟨fun h=>(hne h).elim,fun _=>⟨fun h=>⟨hf,.inl h⟩,fun r1=>⟨fun h=>⟨hf,.inr (.inl h)⟩,fun r2=>⟨fun h=>⟨hf,.inr (.inr (.inl h))⟩,fun c1=>⟨fun h=>⟨hf,.inr (.inr (.inr h))⟩,fun c2=>?_⟩⟩⟩⟩⟩;have hnb:¬ qcG (Z 2).i (Z 3).i:=by unfold qcG; omega
 have hb:=qL (x:=(Z 2).i) (y:=(Z 3).i) (by omega) r2 (by omega) c2;refine ⟨⟨by omega,r2,by omega,c2⟩,fun l _ cp _ d _ hl hc hd=>⟨⟨by omega,hnb,hf,?_⟩,fun i _ l' _ c' _ d' _ fd _ i0 i1 _ hfd hM hL hB=>⟨fun hi=>⟨⟨i0,hi,by omega,hnb,hfd,hM,hL,hB⟩,fun i' _ l2 _ cp2 _ d2 _ fd2 _ j _ i0' i1' j0 j1 _ hfd2 hM2 hL2 hB2 hii=>⟨fun hj=>?_,fun hj=>?_⟩⟩,fun hi=>?_⟩⟩⟩
 ·refine ⟨⟨by omega,r2,by omega,c2,hl,by omega,by rw [hd,jaz]; omega,by rw [hd]; exact qcN⟩,by rw [hd,jaz]; omega,?_⟩
  rw [hd,qeY,qpm,hl,jb0 (by omega) (by omega)]
 ·have hw:IntKind.u8.wrap i'.i = i'.i:=by simp [IntKind.wrap,IntKind.bits,IntKind.signed]; omega
  rw [hw];have hM2':=hM2;obtain ⟨a1,a2,a3,a4,a5,a6,a7,a8⟩:=hM2;have hb2:=qL (x:=i'.i) (y:=(Z 3).i) i0' (show i'.i <= 255 by omega) (by omega) c2;have hlt:i'.i * (Z 3).i + j.i < (Z 2).i * (Z 3).i:=by
   have:=ja1 (show i'.i + 1 <= (Z 2).i by omega) (show 0 <= (Z 3).i by omega);rw [jcb,jcc] at this; omega
  refine ⟨⟨hfd2,i0',by omega,by omega⟩,fun p _ fd3 _ hf3 hpw=>?_⟩;rw [qbY (by omega) (by omega),add64 (by omega) (by omega),add64 (by omega) (by omega)];have hpr:=q40 (e:=j.i) i0' (show i'.i < 256 by omega);refine ⟨by omega,by omega,by omega,⟨i0',i1',by omega,by omega,⟨hnb,hf3,quW hM2' (by rw [hpw]; exact hpr.1) (by rw [hpw]; exact hpr.2),by rw [qaU]; exact hL2,?_⟩,hii⟩,by omega⟩;have ht:(i'.i * (Z 3).i + j.i).toNat = i'.i.toNat * (Z 3).i.toNat + j.i.toNat:=by rw [jd4 hb2.1 j0,jb0 i0' (by omega)]
  rw [qfX,hB2,show (i'.i * (Z 3).i + (j.i + 1)).toNat = (i'.i * (Z 3).i + j.i).toNat + 1 by omega,qoF (by rw [<- jb0 (by omega) (by omega)]; omega)]
  congr 1
  obtain ⟨e1,e2⟩:=qsA (i:=i'.i.toNat) (n:=(Z 3).i.toNat) (l:=j.i.toNat) (by omega);rw [ht,qo6,e1,e2,hpw,jay i0',jay j0]
 ·have hj':j.i = (Z 3).i:=by omega
  rw [add64 (by omega) (by omega)];rw [hj',show i'.i * (Z 3).i + (Z 3).i = (i'.i + 1) * (Z 3).i by rw [jcb,jcc]] at hB2;exact ⟨⟨by omega,by omega,hnb,hfd2,hM2,hL2,hB2⟩,by omega⟩
 ·have:i.i = (Z 2).i:=by omega
  rw [this,jb0 (by omega) (by omega)] at hB;exact ⟨hfd,hnb,hM,hL,hB⟩
theorem q5X:qk2.ok Tryz.prog:=q7K (by simp [qmp,qjX,qgK,qma]) fun Z hg hp=>by
 obtain ⟨hf,la0,la1,la2,hBa,lb0,lb1,lb2,hBb⟩:=hp;have hne:=(qbT hf).1;simp [qyV,qk2,q2w,q1m,qtn,qdx,qdc,qcs,qeh];refine ⟨fun h=>(hne h).elim,fun _=>⟨la0,fun v1 _ hv1=>⟨fun hb=>⟨hf,fun h=>?_⟩,fun hb=>⟨lb0,fun v2 _ hv2=>⟨fun hb2=>⟨hf,fun _ h=>?_⟩,fun hb2=>?_⟩⟩⟩⟩⟩
 ·have:=hv1.2 h
  rw [hb] at this; cases this
 ·have:=hv2.2 h
  rw [hb2] at this; cases this
 have vA:qaN (Z 2).i (Z 3).i (Z 5).i:=hv1.1 hb;have vB:qaN (Z 9).i (Z 10).i (Z 12).i:=hv2.1 hb2;refine ⟨fun h=>⟨hf,vA,vB,h⟩,fun hcr=>?_⟩;obtain ⟨ra1,ra2,ca1,ca2,hla⟩:=vA;obtain ⟨rb1,rb2,cb1,cb2,hlb⟩:=vB;have mA:qdY (Z 2).i (Z 3).i (Z 5).i (Z 6).i (Z 7).d:=⟨by omega,ra2,by omega,ca2,hla,la1,la2,hBa⟩;have mB:qdY (Z 9).i (Z 10).i (Z 12).i (Z 13).i (Z 14).d:=⟨by omega,rb2,by omega,cb2,hlb,lb1,lb2,hBb⟩;have hbA:=qL (x:=(Z 2).i) (y:=(Z 3).i) (by omega) ra2 (by omega) ca2;have hbP:=qL (x:=(Z 2).i) (y:=(Z 10).i) (by omega) ra2 (by omega) cb2;refine ⟨⟨by omega,ra2,by omega,cb2⟩,fun l _ cp _ d _ hl hc hd=>⟨⟨by omega,hv1.1 hb,hv2.1 hb2,hcr,hf,?_⟩,fun i _ l' _ c' _ d' _ fd _ i0 i1 _ _ _ hfd hM hL hB=>⟨fun hi=>⟨⟨i0,hi,mA⟩,fun o1 _ n1 _ k1 _ ho1 hn1 hk1=>⟨by omega,⟨i0,hi,by omega,ho1,hn1,hv1.1 hb,hv2.1 hb2,hcr,hfd,hM,hL,hB⟩,?_⟩⟩,fun hi=>?_⟩⟩⟩
 ·refine ⟨⟨by omega,ra2,by omega,cb2,hl,by omega,by rw [hd,jaz]; omega,by rw [hd]; exact qcN⟩,by rw [hd,jaz]; omega,?_⟩
  rw [hd,qeY,qcz,hl,jb0 (by omega) (by omega)]
 ·intro i' _ l2 _ cp2 _ d2 _ fd2 _ j _ o2 _ n2 _ i0' i1' j0 j1 ho2 hn2 _ _ _ hfd2 hM2 hL2 hB2 hii
  refine ⟨fun hj=>?_,fun hj=>?_⟩
  ·have hjc:j.i < (Z 3).i:=by omega
   have hbi:=qL (x:=i'.i) (y:=(Z 3).i) i0' (show i'.i <= 255 by omega) (by omega) ca2;have hbo:=qL (x:=i'.i) (y:=(Z 10).i) i0' (show i'.i <= 255 by omega) (by omega) cb2;have hbj:=qL (x:=j.i) (y:=(Z 10).i) j0 (show j.i <= 255 by omega) (by omega) cb2;have hltA:i'.i * (Z 3).i + j.i < (Z 2).i * (Z 3).i:=by
    have:=ja1 (show i'.i + 1 <= (Z 2).i by omega) (show 0 <= (Z 3).i by omega);rw [jcb,jcc] at this; omega
   have hltP:i'.i * (Z 10).i + (Z 10).i <= (Z 2).i * (Z 10).i:=by
    have:=ja1 (show i'.i + 1 <= (Z 2).i by omega) (show 0 <= (Z 10).i by omega);rw [jcb,jcc] at this; omega
   have hltB:j.i * (Z 10).i + (Z 10).i <= (Z 9).i * (Z 10).i:=by
    have:=ja1 (show j.i + 1 <= (Z 9).i by omega) (show 0 <= (Z 10).i by omega);rw [jcb,jcc] at this; omega
   have hM2':=hM2;obtain ⟨a1,a2,a3,a4,a5,a6,a7,a8⟩:=hM2;have hcell:=qbs hBa (i:=i'.i * (Z 3).i + j.i) (by omega) (by omega);rw [ho2];refine ⟨j0,by omega,by omega,by omega,⟨i0',i1',hM2'⟩,fun o3 _ n3 _ k3 _ ho3 hn3 hk3=>⟨⟨j0,by omega,mB⟩,fun o4 _ n4 _ k4 _ ho4 hn4 hk4=>⟨⟨hfd2,⟨by omega,by omega,by omega,by unfold Go.Eng.big; omega⟩,⟨by omega,by omega,by omega,by unfold Go.Eng.big; omega⟩,by omega,a8,hBb,hcell⟩,fun fd5 _ d5 _ hf5 hl5 hB5 he5=>?_⟩⟩⟩;rw [add64 (by omega) (by omega)];refine ⟨⟨i0',i1',by omega,by omega,rfl,hn2,⟨hv1.1 hb,hv2.1 hb2,hcr,hf5,⟨a1,a2,a3,a4,a5,a6,by omega,hB5⟩,by omega,?_⟩,hii⟩,by omega⟩;have ht:(i'.i * (Z 3).i + j.i).toNat = i'.i.toNat * (Z 3).i.toNat + j.i.toNat:=by rw [jd4 hbi.1 j0,jb0 i0' (by omega)]
   have hget:=qcw (d:=(Z 7).d) (i:=i'.i * (Z 3).i + j.i) (by omega) (by omega);rw [he5,hB2,show (i'.i * (Z 3).i + (j.i + 1)).toNat = (i'.i * (Z 3).i + j.i).toNat + 1 by omega,ht,q3k (by omega)];have e1:o3.i.toNat = i'.i.toNat * (Z 10).i.toNat:=by rw [ho3,jb0 i0' (by omega)]
   have e2:o4.i.toNat = j.i.toNat * (Z 10).i.toNat:=by rw [ho4,jb0 j0 (by omega)]
   have e3:((bI (Z 7).d).take (Z 5).i.toNat).getD (i'.i.toNat * (Z 3).i.toNat + j.i.toNat) 0 = qb (Z 7).d (i'.i * (Z 3).i + j.i) 0:=by
    rw [jab,jbb,jah (by rw [<- ht]; omega),<- ht,hget]; rfl
   rw [e3,e1,e2,hn4,q84 (by rw [<- e2]; omega)]
  ·have hj':j.i = (Z 3).i:=by omega
   rw [add64 (by omega) (by omega)];rw [hj',show i'.i * (Z 3).i + (Z 3).i = (i'.i + 1) * (Z 3).i by rw [jcb,jcc]] at hB2;exact ⟨⟨by omega,by omega,hv1.1 hb,hv2.1 hb2,hcr,hfd2,hM2,hL2,hB2⟩,by omega⟩
 ·have:i.i = (Z 2).i:=by omega
  rw [this,jb0 (by omega) (by omega)] at hB;exact ⟨hfd,hv1.1 hb,hv2.1 hb2,hcr,hM,hL,hB⟩
@[simp] def qhi:Sg:=sg 0 [bv 6 8,bv 5 30,bv 7 25,bv 4 6,bv 3 5,bg 2 4,bv 1 3,bv 0 2]
@[simp] def qhx:Sg:=sg 0 [bv 6 15,bv 5 31,bv 7 25,bv 4 13,bv 3 12,bg 2 11,bv 1 10,bv 0 9]
@[simp] def qrT:Sg:=sg 0 [bv 1 27,bt 2 (.icell (tv 30) (.arith .add .i64 (.arith .mul .i64 (tv 25) (tv 3)) (tv 26)) 0),bg 0 0]
@[simp] def qqh:Sg:=sg 0 [bv 1 47,bt 2 (.icell (tv 40) (.arith .add .i64 (.arith .mul .i64 (tv 25) (tv 3)) (tv 26)) 0),bg 0 0]
@[simp] def qsa:Sg:=sg 0 [bv 7 8,bv 6 30,bv 1 27,bt 11 (tl 1),bv 10 38,bv 9 37,bv 8 36,bv 5 35,bv 4 34,bv 3 33,bg 2 4,bg 0 0]
@[simp] def qro:Sg:=sg 0 [bv 7 15,bv 6 31,bv 1 39,bt 11 (tl 1),bv 10 46,bv 9 45,bv 8 44,bv 5 43,bv 4 42,bv 3 41,bg 2 11,bg 0 0]
@[simp] def qrC:Sg:=sg 0 [bv 7 8,bv 6 51,bv 1 48,bt 11 (.icell (tv 51) (.arith .add .i64 (.arith .mul .i64 (tv 53) (tv 3)) (tv 47)) 0),bv 10 59,bv 9 58,bv 8 57,bv 5 56,bv 4 55,bv 3 54,bg 2 4,bg 0 0]
@[simp] def qqT:Sg:=sg 0 [bv 7 8,bv 6 67,bv 1 64,bt 11 (.icell (tv 67) (.arith .add .i64 (.arith .mul .i64 (tv 69) (tv 3)) (tv 63)) 0),bv 10 75,bv 9 74,bv 8 73,bv 5 72,bv 4 71,bv 3 70,bg 2 4,bg 0 0]
@[simp] def qqj:Sg:=sg 0 [bv 7 15,bv 6 52,bv 1 60,bt 11 (.icell (tv 51) (.arith .add .i64 (.arith .mul .i64 (tv 53) (tv 3)) (tv 47)) 0),bv 10 67,bv 9 66,bv 8 65,bv 5 64,bv 4 63,bv 3 62,bg 2 11,bg 0 0]
@[simp] def qre:Sg:=sg 0 [bv 7 15,bv 6 68,bv 1 76,bt 11 (.icell (tv 67) (.arith .add .i64 (.arith .mul .i64 (tv 69) (tv 3)) (tv 63)) 0),bv 10 83,bv 9 82,bv 8 81,bv 5 80,bv 4 79,bv 3 78,bg 2 11,bg 0 0]
@[simp] def qr4:Out:=.br (.cmp .eql (tv 32) (tv 2))
 (.back 0 18 (sg 1000 [bv 1006 31,bv 1005 30,bv 1002 27,bt 1001 (.arith .add .i64 (tv 26) (tl 1)),bv 1000 25,bg 1004 29,bg 1003 28]))
 (.br (.cmp .neq (tv 32) (tv 25))
 (tb (.pre 0 qhi (tb (fr 33 3 (.post 0 0 qhi 33 (tb (.pre 0 (sg 0 [bv 6 8,bv 5 30,bv 7 32,bv 4 6,bv 3 5,bg 2 4,bv 1 3,bv 0 2]) (tb (fr 36 3 (.post 0 0 (sg 0 [bv 6 8,bv 5 30,bv 7 32,bv 4 6,bv 3 5,bg 2 4,bv 1 3,bv 0 2]) 36 (tb (.pre 2 qsa (tb (fr 39 2 (.post 2 0 qsa 39 (tb (.pre 0 qhx (tb (fr 41 3 (.post 0 0 qhx 41 (tb (.pre 0 (sg 0 [bv 6 15,bv 5 31,bv 7 32,bv 4 13,bv 3 12,bg 2 11,bv 1 10,bv 0 9]) (tb (fr 44 3 (.post 0 0 (sg 0 [bv 6 15,bv 5 31,bv 7 32,bv 4 13,bv 3 12,bg 2 11,bv 1 10,bv 0 9]) 44 (tb (.pre 2 qro (tb (fr 47 2 (.post 2 0 qro 47 (tn (tl 0) (.arith .add .i64 (.arith .mul .i64 (tv 25) (tv 3)) (tv 26)) (ts (.arith .add .i64 (.arith .mul .i64 (tv 25) (tv 3)) (tv 26)) (tv 5) (ts (.arith .add .i64 (.arith .mul .i64 (tv 25) (tv 3)) (tv 26)) (.dlen (tv 40)) (.pre 3 qqh (tb (fr 49 3 (.post 3 0 qqh 49 (.pre 0 (sg 0 [bv 6 8,bv 5 40,bv 7 25,bv 4 6,bv 3 5,bg 2 4,bv 1 3,bv 0 2]) (tb (fr 52 3 (.post 0 0 (sg 0 [bv 6 8,bv 5 40,bv 7 25,bv 4 6,bv 3 5,bg 2 4,bv 1 3,bv 0 2]) 52 (.pre 4 (sg 0 [bv 7 8,bv 6 40,bv 1 51,bv 8 49,bv 5 54,bv 4 53,bv 3 52,bg 2 4,bg 0 0]) (tb (fr 55 2 (.post 4 0 (sg 0 [bv 7 8,bv 6 40,bv 1 51,bv 8 49,bv 5 54,bv 4 53,bv 3 52,bg 2 4,bg 0 0]) 55 (.pre 0 (sg 0 [bv 6 15,bv 5 48,bv 7 25,bv 4 13,bv 3 12,bg 2 11,bv 1 10,bv 0 9]) (tb (fr 57 3 (.post 0 0 (sg 0 [bv 6 15,bv 5 48,bv 7 25,bv 4 13,bv 3 12,bg 2 11,bv 1 10,bv 0 9]) 57 (.pre 4 (sg 0 [bv 7 15,bv 6 48,bv 1 55,bv 8 49,bv 5 59,bv 4 58,bv 3 57,bg 2 11,bg 0 0]) (tb (fr 60 2 (.post 4 0 (sg 0 [bv 7 15,bv 6 48,bv 1 55,bv 8 49,bv 5 59,bv 4 58,bv 3 57,bg 2 11,bg 0 0]) 60 (.inv 2 62 (sg 1000 [bv 1006 61,bv 1005 56,bv 1002 60,bt 1007 (tl 0),bv 1001 26,bv 1000 25,bg 1004 29,bg 1003 28]) (fr 62 8 (.hyp 2 62 (.br (.cmp .lss (tv 69) (tv 2))
 (tn (tl 0) (.arith .add .i64 (.arith .mul .i64 (tv 69) (tv 3)) (tv 63)) (ts (.arith .add .i64 (.arith .mul .i64 (tv 69) (tv 3)) (tv 63)) (tv 5) (ts (.arith .add .i64 (.arith .mul .i64 (tv 69) (tv 3)) (tv 63)) (.dlen (tv 67)) (.br (.cmp .neq (tv 69) (tv 62))
 (tb (.pre 0 (sg 0 [bv 6 8,bv 5 67,bv 7 69,bv 4 6,bv 3 5,bg 2 4,bv 1 3,bv 0 2]) (tb (fr 70 3 (.post 0 0 (sg 0 [bv 6 8,bv 5 67,bv 7 69,bv 4 6,bv 3 5,bg 2 4,bv 1 3,bv 0 2]) 70 (tb (.pre 0 (sg 0 [bv 6 8,bv 5 67,bv 7 62,bv 4 6,bv 3 5,bg 2 4,bv 1 3,bv 0 2]) (tb (fr 73 3 (.post 0 0 (sg 0 [bv 6 8,bv 5 67,bv 7 62,bv 4 6,bv 3 5,bg 2 4,bv 1 3,bv 0 2]) 73 (tb (.pre 2 qqT (tb (fr 76 2 (.post 2 0 qqT 76 (tb (.pre 0 (sg 0 [bv 6 15,bv 5 68,bv 7 69,bv 4 13,bv 3 12,bg 2 11,bv 1 10,bv 0 9]) (tb (fr 78 3 (.post 0 0 (sg 0 [bv 6 15,bv 5 68,bv 7 69,bv 4 13,bv 3 12,bg 2 11,bv 1 10,bv 0 9]) 78 (tb (.pre 0 (sg 0 [bv 6 15,bv 5 68,bv 7 62,bv 4 13,bv 3 12,bg 2 11,bv 1 10,bv 0 9]) (tb (fr 81 3 (.post 0 0 (sg 0 [bv 6 15,bv 5 68,bv 7 62,bv 4 13,bv 3 12,bg 2 11,bv 1 10,bv 0 9]) 81 (tb (.pre 2 qre (tb (fr 84 2 (.post 2 0 qre 84 (.back 2 62 (sg 1000 [bv 1006 85,bv 1005 77,bv 1002 84,bt 1007 (.arith .add .i64 (tv 69) (tl 1)),bv 1001 63,bv 1000 62,bg 1004 66,bg 1003 65]))))))))))))))))))))))))))))))))
 (.back 2 62 (sg 1000 [bv 1006 68,bv 1005 67,bv 1002 64,bt 1007 (.arith .add .i64 (tv 69) (tl 1)),bv 1001 63,bv 1000 62,bg 1004 66,bg 1003 65]))))))
 (.back 0 18 (sg 1000 [bv 1006 68,bv 1005 67,bv 1002 64,bt 1001 (.arith .add .i64 (tv 63) (tl 1)),bt 1000 (.arith .add .i64 (tv 62) (tl 1)),bg 1004 66,bg 1003 65])))))))))))))))))))))))))))))))))))))))))))))))))))))))))))
 (tn (tl 0) (.arith .add .i64 (.arith .mul .i64 (tv 25) (tv 3)) (tv 26)) (ts (.arith .add .i64 (.arith .mul .i64 (tv 25) (tv 3)) (tv 26)) (tv 5) (ts (.arith .add .i64 (.arith .mul .i64 (tv 25) (tv 3)) (tv 26)) (.dlen (tv 30)) (.pre 3 qrT (tb (fr 33 3 (.post 3 0 qrT 33 (.pre 0 qhi (tb (fr 36 3 (.post 0 0 qhi 36 (.pre 4 (sg 0 [bv 7 8,bv 6 30,bv 1 35,bv 8 33,bv 5 38,bv 4 37,bv 3 36,bg 2 4,bg 0 0]) (tb (fr 39 2 (.post 4 0 (sg 0 [bv 7 8,bv 6 30,bv 1 35,bv 8 33,bv 5 38,bv 4 37,bv 3 36,bg 2 4,bg 0 0]) 39 (.pre 0 qhx (tb (fr 41 3 (.post 0 0 qhx 41 (.pre 4 (sg 0 [bv 7 15,bv 6 31,bv 1 39,bv 8 33,bv 5 43,bv 4 42,bv 3 41,bg 2 11,bg 0 0]) (tb (fr 44 2 (.post 4 0 (sg 0 [bv 7 15,bv 6 31,bv 1 39,bv 8 33,bv 5 43,bv 4 42,bv 3 41,bg 2 11,bg 0 0]) 44 (.inv 2 46 (sg 1000 [bv 1006 45,bv 1005 40,bv 1002 44,bt 1007 (tl 0),bv 1001 26,bv 1000 25,bg 1004 29,bg 1003 28]) (fr 46 8 (.hyp 2 46 (.br (.cmp .lss (tv 53) (tv 2))
 (tn (tl 0) (.arith .add .i64 (.arith .mul .i64 (tv 53) (tv 3)) (tv 47)) (ts (.arith .add .i64 (.arith .mul .i64 (tv 53) (tv 3)) (tv 47)) (tv 5) (ts (.arith .add .i64 (.arith .mul .i64 (tv 53) (tv 3)) (tv 47)) (.dlen (tv 51)) (.br (.cmp .neq (tv 53) (tv 46))
 (tb (.pre 0 (sg 0 [bv 6 8,bv 5 51,bv 7 53,bv 4 6,bv 3 5,bg 2 4,bv 1 3,bv 0 2]) (tb (fr 54 3 (.post 0 0 (sg 0 [bv 6 8,bv 5 51,bv 7 53,bv 4 6,bv 3 5,bg 2 4,bv 1 3,bv 0 2]) 54 (tb (.pre 0 (sg 0 [bv 6 8,bv 5 51,bv 7 46,bv 4 6,bv 3 5,bg 2 4,bv 1 3,bv 0 2]) (tb (fr 57 3 (.post 0 0 (sg 0 [bv 6 8,bv 5 51,bv 7 46,bv 4 6,bv 3 5,bg 2 4,bv 1 3,bv 0 2]) 57 (tb (.pre 2 qrC (tb (fr 60 2 (.post 2 0 qrC 60 (tb (.pre 0 (sg 0 [bv 6 15,bv 5 52,bv 7 53,bv 4 13,bv 3 12,bg 2 11,bv 1 10,bv 0 9]) (tb (fr 62 3 (.post 0 0 (sg 0 [bv 6 15,bv 5 52,bv 7 53,bv 4 13,bv 3 12,bg 2 11,bv 1 10,bv 0 9]) 62 (tb (.pre 0 (sg 0 [bv 6 15,bv 5 52,bv 7 46,bv 4 13,bv 3 12,bg 2 11,bv 1 10,bv 0 9]) (tb (fr 65 3 (.post 0 0 (sg 0 [bv 6 15,bv 5 52,bv 7 46,bv 4 13,bv 3 12,bg 2 11,bv 1 10,bv 0 9]) 65 (tb (.pre 2 qqj (tb (fr 68 2 (.post 2 0 qqj 68 (.back 2 46 (sg 1000 [bv 1006 69,bv 1005 61,bv 1002 68,bt 1007 (.arith .add .i64 (tv 53) (tl 1)),bv 1001 47,bv 1000 46,bg 1004 50,bg 1003 49]))))))))))))))))))))))))))))))))
 (.back 2 46 (sg 1000 [bv 1006 52,bv 1005 51,bv 1002 48,bt 1007 (.arith .add .i64 (tv 53) (tl 1)),bv 1001 47,bv 1000 46,bg 1004 50,bg 1003 49]))))))
 (.back 0 18 (sg 1000 [bv 1006 52,bv 1005 51,bv 1002 48,bt 1001 (.arith .add .i64 (tv 47) (tl 1)),bt 1000 (.arith .add .i64 (tv 46) (tl 1)),bg 1004 50,bg 1003 49]))))))))))))))))))))))))))))))
def qwQ:Out:=(fr 16 2 (.inv 0 18 (sg 1000 [bv 1006 14,bv 1005 7,bv 1002 1,bt 1001 (tl 0),bt 1000 (tl 0),bg 1004 17,bg 1003 16]) (fr 18 7 (.hyp 0 18 (.br (.cmp .lss (tv 19) (tv 3))
 (.br (.cmp .lss (tv 18) (tv 2))
 (.inv 1 25 (sg 1000 [bv 1006 24,bv 1005 23,bv 1002 20,bv 1007 18,bv 1001 19,bv 1000 18,bg 1004 22,bg 1003 21]) (fr 25 8 (.hyp 1 25 (.br (.cmp .lss (tv 32) (tv 2))
 (tn (tl 0) (.arith .add .i64 (.arith .mul .i64 (tv 32) (tv 3)) (tv 26)) (ts (.arith .add .i64 (.arith .mul .i64 (tv 32) (tv 3)) (tv 26)) (tv 5) (ts (.arith .add .i64 (.arith .mul .i64 (tv 32) (tv 3)) (tv 26)) (.dlen (tv 30)) (.br (.cmp .eql (.icell (tv 30) (.arith .add .i64 (.arith .mul .i64 (tv 32) (tv 3)) (tv 26)) 0) (tl 0))
 (.back 1 25 (sg 1000 [bv 1006 31,bv 1005 30,bv 1002 27,bt 1007 (.arith .add .i64 (tv 32) (tl 1)),bv 1001 26,bv 1000 25,bg 1004 29,bg 1003 28]))
 qr4))))
 qr4))))
 (.ret 0 (sg 16 [bv 19 24,bv 18 23,bv 17 20,bv 16 18])))
 (.ret 0 (sg 16 [bv 19 24,bv 18 23,bv 17 20,bv 16 18])))))))
theorem q67:qj Tryz.prog qkG [qcs,qeh,qnb,qnt,qnJ] [q0E,q2q,q08] qwQ:=qg Tryz.func167 Tryz.call167 (by kernel_rfl)
@[simp] def qm3:Sg:=sg 0 [bv 15 14,bv 14 15,bv 8 18,bv 7 19,bv 1 1,bv 13 14,bv 12 13,bg 11 12,bv 10 2,bv 9 2,bv 6 18,bv 5 5,bg 4 17,bv 3 3,bv 2 2,bg 0 0]
def qoA:Out:=(fr 9 2 (.br (.and (.cmp .eql (.dlen (tv 1)) (tl 0)) (.isnil 0))
 (.ret 0 (sg 9 [bv 10 1,bt 9 (tl 1)]))
 (.pre 0 (sg 0 [bv 6 8,bv 5 7,bv 4 6,bv 3 5,bg 2 4,bv 1 3,bv 0 2]) (tb (.fresh 11 (.post 0 0 (sg 0 [bv 6 8,bv 5 7,bv 4 6,bv 3 5,bg 2 4,bv 1 3,bv 0 2]) 11 (.br (.not (tv 11))
 (.ret 0 (sg 9 [bv 10 1,bt 9 (tl 2)]))
 (.br (.cmp .neq (tv 2) (tv 3))
 (.ret 0 (sg 9 [bv 10 1,bt 9 (tl 10)]))
 (.pre 1 (sg 0 [bv 0 2]) (tb (fr 12 4 (.post 1 0 (sg 0 [bv 0 2]) 12 (.fresh 16 (tb (.pre 2 (sg 0 [bv 6 8,bv 5 7,bv 4 6,bv 3 5,bg 2 4,bv 1 3,bv 0 2]) (tb (fr 17 3 (.post 2 0 (sg 0 [bv 6 8,bv 5 7,bv 4 6,bv 3 5,bg 2 4,bv 1 3,bv 0 2]) 17 (tb (.pre 3 qm3 (tb (fr 20 4 (.post 3 0 qm3 20 (.br (.cmp .lss (tv 20) (tv 2))
 (.ret 0 (sg 9 [bv 10 21,bt 9 (tl 11)]))
 (.ret 1 (sg 9 [bv 13 23,bv 12 21,bv 11 14,bv 10 13,bg 9 12]))))))))))))))))))))))))))
theorem qy0:qj Tryz.prog qbQ [qdx,qsx,qs9,qkG] [] qoA:=qg Tryz.func134 Tryz.call134 (by kernel_rfl)
@[simp] def qmB:Sg:=sg 0 [bv 8 8,bv 7 10,bv 1 9,bv 6 8,bt 5 (.arith .mul .i64 (tv 2) (tv 2)),bg 4 6,bv 3 2,bv 2 2,bg 0 0]
@[simp] def qj1:Sg:=sg 0 [bv 15 15,bv 14 17,bv 8 8,bv 7 10,bv 1 16,bv 13 15,bv 12 14,bg 11 13,bv 10 2,bv 9 2,bv 6 8,bv 5 7,bg 4 6,bv 3 2,bv 2 3,bg 0 0]
@[simp] def qj2:Sg:=sg 0 [bt 15 (tl 0),bt 14 .dnil,bv 8 8,bv 7 10,bv 1 14,bt 13 (tl 0),bt 12 (tl 0),(11,.nil),bt 10 (tl 0),bt 9 (tl 0),bv 6 8,bv 5 7,bg 4 6,bv 3 2,bv 2 3,bg 0 0]
def q06:Out:=(.fresh 4 (.br (.and (.cmp .eql (.dlen (tv 1)) (tl 0)) (.isnil 0))
 (.stuck 7 0 0)
 (.pre 0 (sg 0 [bv 1 3,bv 0 2]) (tb (.fresh 5 (.post 0 0 (sg 0 [bv 1 3,bv 0 2]) 5 (.br (.not (tv 5))
 (.ret 0 (sg 4 [bv 4 1]))
 (.pre 1 (sg 0 [bv 1 1,bv 3 2,bv 2 3,bg 0 0]) (tb (fr 6 5 (.post 1 0 (sg 0 [bv 1 1,bv 3 2,bv 2 3,bg 0 0]) 6 (.fresh 11 (.know (.cmp .leq (.dlen (tv 10)) (tv 8)) (tn (tl 0) (tv 7) (tn (tl 0) (tv 8) (tn (tl 0) (.arith .mul .i64 (tv 2) (tv 2)) (tn (.arith .mul .i64 (tv 2) (tv 2)) (tv 8) (.fresh 12 (.pre 2 qmB (.both (fr 13 2 (.post 2 0 qmB 13 (.fresh 15 (.pre 3 qj2 (.both (.fresh 16 (.post 3 0 qj2 16 (.ret 0 (sg 4 [bv 4 16])))) (.both (.fresh 16 (.post 3 1 qj2 16 (.stuck 7 0 0))) (tb (fr 16 5 (.post 3 2 qj2 16 (.pack [.cells 15 200 [(ti (tl 0)),(ti (tl 0)),.vnils],.cells 12 200 [(ti (tv 2)),(ti (tv 2)),(.vslice 6 (tl 0) (.arith .mul .i64 (tv 2) (tv 2)) (tv 8) 1)],.cells 11 200 [(ti (tv 3)),(ti (tv 2)),(.vslice 6 (tl 0) (tv 7) (tv 8) 1)],.arr 6 5 [CK.int .u8] (tv 10) (tv 8),.cells 4 200 [(ti (tv 3)),(ti (tl 0)),(.vslice 16 (tl 0) (tv 17) (tv 18) 1)]] 21 (.need (.cmp .eql (tv 2) (tl 0)) (.ret 1 (sg 4 [bg 9 21,bv 8 20,bv 7 19,bv 6 18,bv 5 17,bg 4 16]))))))))))))) (tb (fr 13 5 (.post 2 1 qmB 13 (.fresh 18 (.pre 3 qj1 (.both (.fresh 19 (.post 3 0 qj1 19 (.ret 0 (sg 4 [bv 4 19])))) (.both (.fresh 19 (.post 3 1 qj1 19 (.stuck 7 0 0))) (tb (fr 19 5 (.post 3 2 qj1 19 (.pack [.cells 18 200 [(ti (tv 2)),(ti (tv 2)),(.vslice 13 (tl 0) (tv 14) (tv 15) 1)],.arr 13 5 [CK.int .u8] (tv 17) (tv 15),.cells 12 200 [(ti (tv 2)),(ti (tv 2)),(.vslice 6 (tl 0) (.arith .mul .i64 (tv 2) (tv 2)) (tv 8) 1)],.cells 11 200 [(ti (tv 3)),(ti (tv 2)),(.vslice 6 (tl 0) (tv 7) (tv 8) 1)],.arr 6 5 [CK.int .u8] (tv 10) (tv 8),.cells 4 200 [(ti (tv 3)),(ti (tv 2)),(.vslice 19 (tl 0) (tv 20) (tv 21) 1)]] 24 (.ret 1 (sg 4 [bg 9 24,bv 8 23,bv 7 22,bv 6 21,bv 5 20,bg 4 19])))))))))))))))))))))))))))))))))
theorem qA4:qj Tryz.prog qgs [qbv,qpH,qbQ,qk2] [] q06:=qg Tryz.func122 Tryz.call122 (by kernel_rfl)
theorem idx {r n i c:Int} (hr:r <= 255) (hn:n <= 255) (i0:0 <= i) (i1:i < r) (c0:0 <= c) (c1:c < n) :
  qc .add .i64 (qc .mul .i64 i n) c = i * n + c/\0 <= i * n + c/\i * n + c < r * n/\(i * n + c).toNat = i.toNat * n.toNat + c.toNat:=by
 have hb:=qL (x:=i) (y:=n) i0 (show i <= 255 by omega) (by omega) hn;have hlt:i * n + n <= r * n:=by
  have:=ja1 (show i + 1 <= r by omega) (show 0 <= n by omega);rw [jcb,jcc] at this; omega
 refine ⟨by rw [qbY (by omega) (by omega),add64 (by omega) (by omega)],by omega,by omega,?_⟩;rw [jd4 hb.1 c0,jb0 i0 (by omega)]
theorem qgt {r n i:Int} (i0:0 <= i) (i1:i < r) (n0:0 <= n):0 <= i * n/\i * n + n <= r * n/\(i * n).toNat = i.toNat * n.toNat:=by
 have hlt:i * n + n <= r * n:=by
  have:=ja1 (show i + 1 <= r by omega) n0;rw [jcb,jcc] at this; omega
 exact ⟨jfn i0 n0,hlt,jb0 i0 n0⟩
theorem qkR {n i j:Int} (h:¬ i = j) (n0:0 <= n):j * n + n <= i * n∨i * n + n <= j * n:=by
 rcases Int.lt_or_gt_of_ne h with h | h
 ·right
  have:=ja1 (show i + 1 <= j by omega) n0;rw [jcb,jcc] at this; omega
 ·left
  have:=ja1 (show j + 1 <= i by omega) n0;rw [jcb,jcc] at this; omega
theorem qef {d:qe} {e:Int} (h0:0 <= e) (h1:e < d.length):(bI d).getD e.toNat 0 = qb d e 0:=by
 rw [jab,qcw h0 h1]; rfl
theorem qS.seg {r c l cap:Int} {d:qe} (h:qS r c l cap d) {i o n:Int} (i0:0 <= i) (i1:i < r) (ho:o = i * c) (hn:n = c):qon d o n:=by
 obtain ⟨⟨a1,a2,a3,a4,a5,a6,a7,a8⟩,a9⟩:=h;obtain ⟨b1,b2,_⟩:=qgt i0 i1 a3;exact ⟨by omega,by omega,by omega,by unfold Go.Eng.big; omega⟩
theorem qS.next {r c l cap:Int} {d d':qe} (h:qS r c l cap d) (hl:d'.length = d.length) (hB:qk d'):qS r c l cap d':=by
 obtain ⟨⟨a1,a2,a3,a4,a5,a6,a7,a8⟩,a9⟩:=h;exact ⟨⟨a1,a2,a3,a4,a5,a6,by omega,hB⟩,by omega⟩
theorem qqv {rows ca cb:Nat} {a b:List Int} {c:Nat} (h:rows <= (qcj rows ca cb a b c).2.2):∀ k,qcj rows ca cb a b (c + k) = qcj rows ca cb a b c
 | 0=>rfl
 | k + 1=>by
  rw [<- jcq,qcj,qqv h k,qcV,jah h]
theorem q6L {a:List Int} {ca c p n:Nat} (h:¬ a.getD (p * ca + c) 0 = 0):qde a ca c p n = p:=by
 cases n with
 | zero=>rfl
 | succ n=>rw [qde,jaf h]
section
variable {r ca cb l1 c1 l2 c2 rank c p i:Int} {f da db a0 b0:qe}
theorem qcB.start (hf:ql f) (hA:qS r ca l1 c1 da) (hB:qS r cb l2 c2 db):qcB r ca cb l1 c1 l2 c2 0 0 f da db da db :=
 ⟨⟨hf,hA,hB,by omega,hA.1.1,by omega,hA.1.2.2.1⟩,rfl⟩
theorem qeL.start (h:qcB r ca cb l1 c1 l2 c2 rank c f da db a0 b0) (hr:rank < r) (hc:c < ca):qeL r ca cb l1 c1 l2 c2 rank c rank f da db a0 b0 :=
 ⟨h,hr,hc,by omega,by omega,rfl⟩
theorem qeL.next (h:qeL r ca cb l1 c1 l2 c2 rank c p f da db a0 b0) (hp:p < r) (hz:qb da (p * ca + c) 0 = 0):qeL r ca cb l1 c1 l2 c2 rank c (p + 1) f da db a0 b0:=by
 obtain ⟨h1,h2,h3,h4,h5,h6⟩:=h;refine ⟨h1,h2,h3,by omega,by omega,?_⟩;obtain ⟨⟨_,hA,hB,w1,w2,w3,w4⟩,_⟩:=h1;obtain ⟨⟨a1,a2,a3,a4,a5,a6,a7,a8⟩,a9⟩:=hA;obtain ⟨_,e1,e2,e3⟩:=idx (i:=p) a2 a4 (by omega) hp w3 h3;have hg:=qef (d:=da) e1 (by omega);rw [e3] at hg;rw [<- h6,show r.toNat - p.toNat = (r.toNat - (p + 1).toNat) + 1 by omega,qde,jah (by rw [hg]; exact hz),show (p + 1).toNat = p.toNat + 1 by omega]
theorem qcB.skip (h:qeL r ca cb l1 c1 l2 c2 rank c p f da db a0 b0) (hp:p = r):qcB r ca cb l1 c1 l2 c2 rank (c + 1) f da db a0 b0:=by
 obtain ⟨⟨⟨hf,hA,hB,w1,w2,w3,w4⟩,he⟩,h2,h3,h4,h5,h6⟩:=h;refine ⟨⟨hf,hA,hB,w1,w2,by omega,by omega⟩,?_⟩;rw [show (c + 1).toNat = c.toNat + 1 by omega,qcj,<- he,qcV];simp only;rw [jaf (by omega),jah];rw [<- h6,hp,jds,qde]
theorem qeL.piv (h:qeL r ca cb l1 c1 l2 c2 rank c p f da db a0 b0) (hp:p < r) (hz:¬ qb da (p * ca + c) 0 = 0):qde (bI da) ca.toNat c.toNat rank.toNat (r.toNat - rank.toNat) = p.toNat:=by
 obtain ⟨⟨⟨hf,hA,hB,w1,w2,w3,w4⟩,he⟩,h2,h3,h4,h5,h6⟩:=h;obtain ⟨⟨a1,a2,a3,a4,a5,a6,a7,a8⟩,a9⟩:=hA;obtain ⟨_,e1,e2,e3⟩:=idx (i:=p) a2 a4 (by omega) hp w3 h3;have hg:=qef (d:=da) e1 (by omega);rw [e3] at hg;rw [<- h6,q6L (by rw [hg]; exact hz)]
theorem qcW.start {da1 db1 da2 db2 f2:qe} {o1 n1 o2 n2 x:Int} (h:qeL r ca cb l1 c1 l2 c2 rank c p f da db a0 b0) (hp:p < r) (hz:¬ qb da (p * ca + c) 0 = 0)
  (hs:(bI da1,bI db1) = qbM ca.toNat cb.toNat rank.toNat p.toNat (bI da) (bI db)) (hl1:da1.length = da.length) (hl2:db1.length = db.length)
  (hx:x = qdU (qb da1 (rank * ca + c) 0)) (hA2:bI da2 = qbw (bI da1) o1.toNat n1.toNat x) (hB2:bI db2 = qbw (bI db1) o2.toNat n2.toNat x) (ho1:o1 = rank * ca) (hn1:n1 = ca) (ho2:o2 = rank * cb) (hn2:n2 = cb)
  (hl3:da2.length = da1.length) (hl4:db2.length = db1.length) (hb1:qk da2) (hb2:qk db2) (hf2:ql f2):qcW r ca cb l1 c1 l2 c2 rank c 0 f2 da2 db2 a0 b0:=by
 have hpiv:=qeL.piv h hp hz;obtain ⟨⟨⟨hf,hA,hB,w1,w2,w3,w4⟩,he⟩,h2,h3,h4,h5,h6⟩:=h;refine ⟨⟨hf2,qS.next hA (by omega) hb1,qS.next hB (by omega) hb2,w1,w2,w3,w4⟩,h2,h3,by omega,by omega,_,he,rfl,by simp only; rw [hpiv]; omega,?_⟩;obtain ⟨⟨a1,a2,a3,a4,a5,a6,a7,a8⟩,a9⟩:=hA;obtain ⟨⟨d1,d2,d3,d4,d5,d6,d7,d8⟩,d9⟩:=hB;obtain ⟨_,e1,e2,e3⟩:=idx (i:=rank) a2 a4 w1 h2 w3 h3;have hg:=qef (d:=da1) e1 (by omega);rw [e3] at hg;have hr1:=(qgt (n:=ca) w1 h2 a3).2.2;have hr2:=(qgt (n:=cb) w1 h2 d3).2.2;simp only [qg5,jdk,qaL];rw [hpiv,<- hs];simp only [qhF];rw [hg,<- hx,hA2,hB2,ho1,ho2,hn1,hn2,hr1,hr2]
theorem qcW.same (h:qcW r ca cb l1 c1 l2 c2 rank c i f da db a0 b0) (hi:i < r) (he:i = rank):qcW r ca cb l1 c1 l2 c2 rank c (i + 1) f da db a0 b0:=by
 obtain ⟨hw,h2,h3,h4,h5,s,hs,hs2,hs3,hs4⟩:=h;refine ⟨hw,h2,h3,by omega,by omega,s,hs,hs2,hs3,?_⟩;rw [show (i + 1).toNat = i.toNat + 1 by omega,qaL];rw [jah (by omega)]; exact hs4
theorem qcW.next {da2 db2 f2:qe} {o1 o2 p1 m1 p2 m2:Int} (h:qcW r ca cb l1 c1 l2 c2 rank c i f da db a0 b0) (hi:i < r) (hne:¬ i = rank)
  (hA2:bI da2 = qE (bI da) o1.toNat (seg (bI da) p1.toNat m1.toNat) (qb da (i * ca + c) 0)) (hB2:bI db2 = qE (bI db) o2.toNat (seg (bI db) p2.toNat m2.toNat) (qb da (i * ca + c) 0))
  (ho1:o1 = i * ca) (hp1:p1 = rank * ca) (hm1:m1 = ca) (ho2:o2 = i * cb) (hp2:p2 = rank * cb) (hm2:m2 = cb)
  (hl3:da2.length = da.length) (hl4:db2.length = db.length) (hb1:qk da2) (hb2:qk db2) (hf2:ql f2):qcW r ca cb l1 c1 l2 c2 rank c (i + 1) f2 da2 db2 a0 b0:=by
 obtain ⟨⟨hf,hA,hB,w1,w2,w3,w4⟩,h2,h3,h4,h5,s,hs,hs2,hs3,hs4⟩:=h;refine ⟨⟨hf2,qS.next hA hl3 hb1,qS.next hB hl4 hb2,w1,w2,w3,w4⟩,h2,h3,by omega,by omega,s,hs,hs2,hs3,?_⟩;obtain ⟨⟨a1,a2,a3,a4,a5,a6,a7,a8⟩,a9⟩:=hA;obtain ⟨⟨d1,d2,d3,d4,d5,d6,d7,d8⟩,d9⟩:=hB;obtain ⟨_,e1,e2,e3⟩:=idx (i:=i) a2 a4 h4 hi w3 h3;have hg:=qef (d:=da) e1 (by omega);rw [e3] at hg;rw [show (i + 1).toNat = i.toNat + 1 by omega,qaL];rw [jaf (by omega),<- hs4];simp only;rw [hg,hA2,hB2,ho1,ho2,hp1,hp2,hm1,hm2,(qgt (n:=ca) h4 hi a3).2.2,(qgt (n:=cb) h4 hi d3).2.2,(qgt (n:=ca) w1 h2 a3).2.2,(qgt (n:=cb) w1 h2 d3).2.2]
theorem qcB.after (h:qcW r ca cb l1 c1 l2 c2 rank c i f da db a0 b0) (hi:i = r):qcB r ca cb l1 c1 l2 c2 (rank + 1) (c + 1) f da db a0 b0:=by
 obtain ⟨⟨hf,hA,hB,w1,w2,w3,w4⟩,h2,h3,h4,h5,s,hs,hs2,hs3,hs4⟩:=h;refine ⟨⟨hf,hA,hB,by omega,by omega,by omega,by omega⟩,?_⟩;rw [show (c + 1).toNat = c.toNat + 1 by omega,qcj,<- hs,qcV,hs2,jaf (by omega),jaf hs3];simp only;rw [hi] at hs4;rw [<- hs4];simp only;rw [show (rank + 1).toNat = rank.toNat + 1 by omega]
theorem qcB.fin (h:qcB r ca cb l1 c1 l2 c2 rank c f da db a0 b0) (hd:r <= rank∨ca <= c):(bI da,bI db,rank.toNat) = qcj r.toNat ca.toNat cb.toNat (bI a0) (bI b0) ca.toNat:=by
 obtain ⟨⟨hf,hA,hB,w1,w2,w3,w4⟩,he⟩:=h;rcases hd with hd | hd
 ·have:=qqv (rows:=r.toNat) (ca:=ca.toNat) (cb:=cb.toNat) (a:=bI a0) (b:=bI b0) (c:=c.toNat) (by rw [<- he]; simp only; omega) (ca.toNat - c.toNat)
  rw [show c.toNat + (ca.toNat - c.toNat) = ca.toNat by omega] at this;rw [this,he]
 ·rw [he,show c.toNat = ca.toNat by omega]
end
theorem q8v {ca cb rank p:Nat} {a b:List Int} (h:¬ p = rank):qbM ca cb rank p a b = (qE a (rank * ca) (seg a (p * ca) ca) 1,qE b (rank * cb) (seg b (p * cb) cb) 1):=by rw [qbM,jaf h]
set_option maxRecDepth 100000 in
set_option maxHeartbeats 4000000 in
theorem q6h:qkG.ok Tryz.prog:=q67 (by simp [qgK,qma,q62,q8Q,q95]) fun Z hg hp=>by
 obtain ⟨hf,hA,hB,hr⟩:=hp;simp (config:={ maxSteps:=4000000 }) [qwQ,qkG,q0E,q2q,q08,qcs,qeh,qnb,qnt,qnJ];have hA':=hA;have hB':=hB;obtain ⟨⟨a1,a2,a3,a4,a5,a6,a7,a8⟩,a9⟩:=hA';rw [hr] at hB;have hB2:=hB;obtain ⟨⟨d1,d2,d3,d4,d5,d6,d7,d8⟩,d9⟩:=hB2;rw [hr];refine ⟨qcB.start hf hA hB,fun rk _ c _ f _ da _ db _ hO=>⟨fun hc=>⟨fun hrk=>⟨qeL.start hO hrk hc,?_⟩,fun hrk=>?_⟩,fun hc=>?_⟩⟩
 rotate_left
 ·have hfin:=qcB.fin hO (.inl hrk)
  obtain ⟨⟨h1,h2,h3,h4,h5,h6,h7⟩,he⟩:=hO;exact ⟨h1,h2,h3,h4,h5,hfin⟩
 ·have hfin:=qcB.fin hO (.inr hc)
  obtain ⟨⟨h1,h2,h3,h4,h5,h6,h7⟩,he⟩:=hO;exact ⟨h1,h2,h3,h4,h5,hfin⟩
 intro rk _ c' _ f _ da _ db _ p _ hP hcc;have hP':=hP;obtain ⟨⟨⟨hfd,hAd,hBd,w1,w2,w3,w4⟩,hE⟩,hrk,hcc',hp0,hp1,hpv⟩:=hP;have hlA:=hAd.2;refine ⟨fun hp=>?_,fun hp=>⟨fun he=>?_,fun hne=>by omega⟩⟩
 ·obtain ⟨x0,x1,x2,x3⟩:=idx (i:=p.i) a2 a4 (by omega) hp w3 hcc'
  rw [x0,add64 (x:=p.i) (by omega) (by omega)];refine ⟨x1,by omega,by omega,fun hz=>⟨⟨qeL.next hP' hp hz,hcc⟩,by omega⟩,fun hz=>⟨fun he=>by omega,fun _=>⟨fun hpr=>?_,fun hpr=>?_⟩⟩⟩
  ·refine ⟨⟨w1,hrk,hAd.1⟩,fun o1 _ n1 _ k1 _ ho1 hn1 hk1=>⟨⟨by omega,hp,hAd.1⟩,fun o2 _ n2 _ k2 _ ho2 hn2 hk2=>⟨⟨hfd,qS.seg hAd w1 hrk ho1 hn1,qS.seg hAd (by omega) hp ho2 hn2,by omega,by rw [ho1,hn1,ho2,hn2]; exact qkR (fun h=>hpr h.symm) a3,hAd.1.2.2.2.2.2.2.2⟩,fun f1 _ da1 _ hf1 hl1 hb1 hA1=>⟨⟨w1,hrk,hBd.1⟩,fun o3 _ n3 _ k3 _ ho3 hn3 hk3=>⟨⟨by omega,hp,hBd.1⟩,fun o4 _ n4 _ k4 _ ho4 hn4 hk4=>⟨⟨hf1,qS.seg hBd w1 hrk ho3 hn3,qS.seg hBd (by omega) hp ho4 hn4,by omega,by rw [ho3,hn3,ho4,hn4]; exact qkR (fun h=>hpr h.symm) d3,hBd.1.2.2.2.2.2.2.2⟩,fun f2 _ db1 _ hf2 hl2 hb2 hB1=>?_⟩⟩⟩⟩⟩⟩
   have hsw:(bI da1.d,bI db1.d) = qbM (Z 3).i.toNat (Z 10).i.toNat rk.i.toNat p.i.toNat (bI da.d) (bI db.d):=by
    rw [q8v (by omega),hA1,hB1,ho1,ho2,ho3,ho4,hn2,hn4,(qgt (n:=(Z 3).i) w1 hrk a3).2.2,(qgt (n:=(Z 3).i) (by omega) hp a3).2.2,(qgt (n:=(Z 10).i) w1 hrk d3).2.2,(qgt (n:=(Z 10).i) (by omega) hp d3).2.2]
   have fA1:qS (Z 2).i (Z 3).i (Z 5).i (Z 6).i da1.d:=qS.next hAd hl1 hb1;have fB1:qS (Z 2).i (Z 10).i (Z 12).i (Z 13).i db1.d:=qS.next hBd hl2 hb2;obtain ⟨y0,y1,y2,y3⟩:=idx (i:=rk.i) a2 a4 w1 hrk w3 hcc';rw [y0];have hcell:=qbs fA1.1.2.2.2.2.2.2.2 (i:=rk.i * (Z 3).i + c'.i) y1 (by have:=fA1.2; omega);have hlA:=fA1.2;refine ⟨y1,by omega,by omega,⟨hf2,hcell⟩,fun x _ er _ f3 _ hf3 hx _=>⟨⟨w1,hrk,fA1.1⟩,fun o5 _ n5 _ k5 _ ho5 hn5 hk5=>⟨⟨hf3,qS.seg fA1 w1 hrk ho5 hn5,fA1.1.2.2.2.2.2.2.2,by rw [hx]; exact (qcK hcell.1 hcell.2).1,by rw [hx]; exact (qcK hcell.1 hcell.2).2⟩,fun f4 _ da2 _ hf4 hl4 hb4 hA4=>⟨⟨w1,hrk,fB1.1⟩,fun o6 _ n6 _ k6 _ ho6 hn6 hk6=>⟨⟨hf4,qS.seg fB1 w1 hrk ho6 hn6,fB1.1.2.2.2.2.2.2.2,by rw [hx]; exact (qcK hcell.1 hcell.2).1,by rw [hx]; exact (qcK hcell.1 hcell.2).2⟩,fun f5 _ db2 _ hf5 hl5 hb5 hB5=>⟨⟨qcW.start hP' hp hz hsw hl1 hl2 hx hA4 hB5 ho5 hn5 ho6 hn6 hl4 hl5 hb4 hb5 hf5,hcc⟩,?_⟩⟩⟩⟩⟩⟩;intro rk2 _ c2 _ f6 _ da3 _ db3 _ i _ hQ hc2;refine ⟨fun hi=>?_,fun hi=>?_⟩
   ·have hQ':=hQ
    obtain ⟨⟨hfq,hAq,hBq,v1,v2,v3,v4⟩,q1,q2,q3,q4,_⟩:=hQ';have hlq:=hAq.2;obtain ⟨z0,z1,z2,z3⟩:=idx (i:=i.i) a2 a4 q3 hi v3 q2;rw [z0,add64 (by omega) (by omega)];have hcq:=qbs hAq.1.2.2.2.2.2.2.2 (i:=i.i * (Z 3).i + c2.i) z1 (by omega);refine ⟨z1,by omega,by omega,fun hne=>⟨⟨q3,hi,hAq.1⟩,fun r1 _ r2 _ r3 _ hr1 hr2 hr3=>⟨⟨v1,q1,hAq.1⟩,fun t1 _ t2 _ t3 _ ht1 ht2 ht3=>⟨⟨hfq,qS.seg hAq q3 hi hr1 hr2,qS.seg hAq v1 q1 ht1 ht2,by omega,by rw [hr1,hr2,ht1,ht2]; exact qkR hne a3,hAq.1.2.2.2.2.2.2.2,hcq⟩,fun f7 _ da4 _ hf7 hl7 hb7 hA7=>⟨⟨q3,hi,hBq.1⟩,fun r4 _ r5 _ r6 _ hr4 hr5 hr6=>⟨⟨v1,q1,hBq.1⟩,fun t4 _ t5 _ t6 _ ht4 ht5 ht6=>⟨⟨hf7,qS.seg hBq q3 hi hr4 hr5,qS.seg hBq v1 q1 ht4 ht5,by omega,by rw [hr4,hr5,ht4,ht5]; exact qkR hne d3,hBq.1.2.2.2.2.2.2.2,hcq⟩,fun f8 _ db4 _ hf8 hl8 hb8 hB8=>⟨⟨qcW.next hQ hi hne hA7 hB8 hr1 ht1 ht2 hr4 ht4 ht5 hl7 hl8 hb7 hb8 hf8,hc2⟩,by omega⟩⟩⟩⟩⟩⟩⟩,fun hieq=>⟨⟨qcW.same hQ hi hieq,hc2⟩,by omega⟩⟩
   ·have hQ':=hQ
    obtain ⟨⟨hfq,hAq,hBq,v1,v2,v3,v4⟩,q1,q2,q3,q4,_⟩:=hQ';rw [add64 (by omega) (by omega),add64 (by omega) (by omega)];exact ⟨qcB.after hQ (by omega),by omega⟩
  ·have hsw:(bI da.d,bI db.d) = qbM (Z 3).i.toNat (Z 10).i.toNat rk.i.toNat p.i.toNat (bI da.d) (bI db.d):=by
    rw [qbM,jah (by omega)]
   have fA1:qS (Z 2).i (Z 3).i (Z 5).i (Z 6).i da.d:=hAd;have fB1:qS (Z 2).i (Z 10).i (Z 12).i (Z 13).i db.d:=hBd;obtain ⟨y0,y1,y2,y3⟩:=idx (i:=rk.i) a2 a4 w1 hrk w3 hcc';rw [y0];have hcell:=qbs fA1.1.2.2.2.2.2.2.2 (i:=rk.i * (Z 3).i + c'.i) y1 (by have:=fA1.2; omega);have hlA:=fA1.2;refine ⟨y1,by omega,by omega,⟨hfd,hcell⟩,fun x _ er _ f3 _ hf3 hx _=>⟨⟨w1,hrk,fA1.1⟩,fun o5 _ n5 _ k5 _ ho5 hn5 hk5=>⟨⟨hf3,qS.seg fA1 w1 hrk ho5 hn5,fA1.1.2.2.2.2.2.2.2,by rw [hx]; exact (qcK hcell.1 hcell.2).1,by rw [hx]; exact (qcK hcell.1 hcell.2).2⟩,fun f4 _ da2 _ hf4 hl4 hb4 hA4=>⟨⟨w1,hrk,fB1.1⟩,fun o6 _ n6 _ k6 _ ho6 hn6 hk6=>⟨⟨hf4,qS.seg fB1 w1 hrk ho6 hn6,fB1.1.2.2.2.2.2.2.2,by rw [hx]; exact (qcK hcell.1 hcell.2).1,by rw [hx]; exact (qcK hcell.1 hcell.2).2⟩,fun f5 _ db2 _ hf5 hl5 hb5 hB5=>⟨⟨qcW.start hP' hp hz hsw rfl rfl hx hA4 hB5 ho5 hn5 ho6 hn6 hl4 hl5 hb4 hb5 hf5,hcc⟩,?_⟩⟩⟩⟩⟩⟩;intro rk2 _ c2 _ f6 _ da3 _ db3 _ i _ hQ hc2;refine ⟨fun hi=>?_,fun hi=>?_⟩
   ·have hQ':=hQ
    obtain ⟨⟨hfq,hAq,hBq,v1,v2,v3,v4⟩,q1,q2,q3,q4,_⟩:=hQ';have hlq:=hAq.2;obtain ⟨z0,z1,z2,z3⟩:=idx (i:=i.i) a2 a4 q3 hi v3 q2;rw [z0,add64 (by omega) (by omega)];have hcq:=qbs hAq.1.2.2.2.2.2.2.2 (i:=i.i * (Z 3).i + c2.i) z1 (by omega);refine ⟨z1,by omega,by omega,fun hne=>⟨⟨q3,hi,hAq.1⟩,fun r1 _ r2 _ r3 _ hr1 hr2 hr3=>⟨⟨v1,q1,hAq.1⟩,fun t1 _ t2 _ t3 _ ht1 ht2 ht3=>⟨⟨hfq,qS.seg hAq q3 hi hr1 hr2,qS.seg hAq v1 q1 ht1 ht2,by omega,by rw [hr1,hr2,ht1,ht2]; exact qkR hne a3,hAq.1.2.2.2.2.2.2.2,hcq⟩,fun f7 _ da4 _ hf7 hl7 hb7 hA7=>⟨⟨q3,hi,hBq.1⟩,fun r4 _ r5 _ r6 _ hr4 hr5 hr6=>⟨⟨v1,q1,hBq.1⟩,fun t4 _ t5 _ t6 _ ht4 ht5 ht6=>⟨⟨hf7,qS.seg hBq q3 hi hr4 hr5,qS.seg hBq v1 q1 ht4 ht5,by omega,by rw [hr4,hr5,ht4,ht5]; exact qkR hne d3,hBq.1.2.2.2.2.2.2.2,hcq⟩,fun f8 _ db4 _ hf8 hl8 hb8 hB8=>⟨⟨qcW.next hQ hi hne hA7 hB8 hr1 ht1 ht2 hr4 ht4 ht5 hl7 hl8 hb7 hb8 hf8,hc2⟩,by omega⟩⟩⟩⟩⟩⟩⟩,fun hieq=>⟨⟨qcW.same hQ hi hieq,hc2⟩,by omega⟩⟩
   ·have hQ':=hQ
    obtain ⟨⟨hfq,hAq,hBq,v1,v2,v3,v4⟩,q1,q2,q3,q4,_⟩:=hQ';rw [add64 (by omega) (by omega),add64 (by omega) (by omega)];exact ⟨qcB.after hQ (by omega),by omega⟩
 ·rw [add64 (by omega) (by omega)]
  exact ⟨qcB.skip hP' he,by omega⟩
theorem q7c:qsx.ok Tryz.prog:=Ctr.ok_less q3l rfl rfl rfl rfl rfl (fun _ _=>trivial) fun Z Z' ai al hp hag hal hpost=>by
 match ai,hal with
 | 0,hal =>
  exfalso;obtain rfl:=jax hal;have h2:((Z'.upto 1) 0).i < 1∨255 < ((Z'.upto 1) 0).i:=hpost;have e:(Z'.upto 1) 0 = Z 0:=by rw [Env.upto,jah (by omega)]; exact hag 0 (by decide)
  rw [e] at h2;have h3:1 <= (Z 0).i/\(Z 0).i <= 255:=hp;omega
 | 1,hal=>exact ⟨0,hal⟩
 | n + 2,hal=>cases hal
theorem q4L:qpH.ok Tryz.prog:=Ctr.ok_less qz3 rfl rfl rfl rfl rfl (fun _ h=>h.1) fun Z Z' ai al hp hag hal hpost=>by
 match ai,hal with
 | 0,hal =>
  exfalso;obtain rfl:=jax hal;have h2:qcG ((Z'.upto 5) 2).i ((Z'.upto 5) 3).i:=hpost.2;have e2:(Z'.upto 5) 2 = Z 2:=by rw [Env.upto,jah (by omega)]; exact hag 2 (by decide)
  have e3:(Z'.upto 5) 3 = Z 3:=by rw [Env.upto,jah (by omega)]; exact hag 3 (by decide)
  rw [e2,e3] at h2;exact hp.2 h2
 | 1,hal=>exact ⟨0,hal⟩
 | n + 2,hal=>cases hal
theorem q5m:qs9.ok Tryz.prog:=by
 refine ⟨qsd.1,fun Z w hF hO hg hd hsub hst hro hpre=>(qsd.2 Z w hF hO hg hd hsub hst hro hpre).mono fun e w' hq=>?_⟩;obtain ⟨ai,al,Z',hal,hg',hag,he,hpost,hheap⟩:=hq
 match ai,hal with
 | 0,hal =>
  obtain rfl:=jax hal;refine ⟨0,_,Z',rfl,hg',hag,he,⟨hpost,?_⟩,hheap⟩;obtain ⟨hO',hd',⟨h1,h2,hdj,hu,hden,_⟩,hsub',hwi'⟩:=hheap
  show (((Z'.upto 10) 9).d.length:Int) <= ((Z'.upto 10) 8).i
  rw [show (Z'.upto 10) 9 = Z' 9 from rfl,show (Z'.upto 10) 8 = Z' 8 from rfl];rcases hden with ⟨_,hn,hc⟩ | ⟨b,c,g1,g2,g3,g4,g5⟩
  ·have hn:(Z' 9).d = []:=hn
   have hc:(Z' 8).i = 0:=hc;rw [hn,hc]; simp
  ·exact g4
 | n + 1,hal=>cases hal
theorem qjF {d:qe} {n:Nat} (h:qk d):qk (d.take n):=fun r hr=>h r (jbx hr)
theorem qgQ {d:qe} {n:Nat}:bI (d.take n) = (bI d).take n:=by simp [bI,jc4]
theorem qmA:qbQ.ok Tryz.prog:=qy0 (by simp [qmp,q7c,q5m,q6h]) fun Z hg hp=>by
 obtain ⟨hf,l0,l1,l2,hB⟩:=hp;have hne:=(qbT hf).1;simp [qoA,qbQ,qdx,qsx,qgN,qs9,qiN,qkG];refine ⟨fun h=>(hne h).elim,fun _=>⟨l0,fun v _ hv=>⟨fun hb=>⟨hf,fun h=>?_⟩,fun hb=>⟨fun h=>⟨hf,hv.1 hb,h⟩,fun hrc=>?_⟩⟩⟩⟩
 ·have:=hv.2 h
  rw [hb] at this; cases this
 obtain ⟨r1,r2,c1,c2,hl⟩:=hv.1 hb;have vA:qaN (Z 2).i (Z 3).i (Z 5).i:=hv.1 hb;have hbd:=qL (x:=(Z 2).i) (y:=(Z 3).i) (by omega) r2 (by omega) c2;refine ⟨⟨r1,r2⟩,fun l _ cp _ d _ _ _ hM hL hI=>⟨⟨l0,l2,by unfold Go.Eng.big; omega⟩,fun cc _ dd _ hdd hcap=>?_⟩⟩;have hlen:dd.d.length = (Z 5).i.toNat:=by rw [hdd,jbe]; omega
 refine ⟨⟨hf,⟨⟨by omega,r2,by omega,c2,hl,by omega,by omega,by rw [hdd]; exact qjF hB⟩,by omega⟩,hM,hL⟩,fun rk _ f2 _ d2 _ b2 _ hf2 hA2 hB2 k0 k1 he=>?_⟩;have hE:qcj (Z 2).i.toNat (Z 3).i.toNat (Z 2).i.toNat (bI dd.d) (bI d.d) (Z 3).i.toNat = qez ((bI (Z 7).d).take (Z 5).i.toNat) (Z 2).i.toNat:=by
  rw [qez,hdd,qgQ,hI,hrc]
 rw [hE] at he;rw [<- he];exact ⟨fun h=>⟨hf2,vA,hrc,by simp only; omega⟩,fun h=>⟨hf2,vA,hrc,hB2,by simp only; omega,rfl⟩⟩
theorem qbn {k t:Int}:qM k t = true↔1 <= k/\k <= t/\t <= 255:=by simp [qM,and_assoc]
theorem qwr:qgs.ok Tryz.prog:=qA4 (by simp [qim,q4L,qmA,q5X]) fun Z hg hp=>by
 have hf:ql (Z 1).d:=hp;have hne:=(qbT hf).1;simp [q06,qgs,qbv,qpH,qfH,qbQ,qk2];intro u0 _;refine ⟨fun h=>(hne h).elim,fun _ u1 _ hs=>⟨fun hb=>⟨hf,fun h=>?_⟩,fun hb=>?_⟩⟩
 ·rw [h] at hs; rw [hb] at hs; cases hs
 have hsz:qM (Z 2).i (Z 3).i = true:=by rw [<- hs]; exact hb
 obtain ⟨k1,k2,k3⟩:=qbn.1 hsz;have hvb:¬ qcG (Z 3).i (Z 2).i:=by unfold qcG; omega
 have hkk:=qL (x:=(Z 2).i) (y:=(Z 2).i) (by omega) (show (Z 2).i <= 255 by omega) (by omega) (show (Z 2).i <= 255 by omega);have hlek:(Z 2).i * (Z 2).i <= (Z 3).i * (Z 2).i:=ja1 k2 (by omega);refine ⟨⟨hf,hvb⟩,fun u2 _ l _ cp _ f1 _ d _ hf1 _ hM hL hV u7 _ hcap=>?_⟩;obtain ⟨a1,a2,a3,a4,a5,a6,a7,a8⟩:=hM;have vV:qaN (Z 3).i (Z 2).i l.i:=⟨by omega,by omega,by omega,by omega,a5⟩;rw [qbY (by omega) (by omega)];have hkn:((Z 2).i * (Z 2).i).toNat = (Z 2).i.toNat * (Z 2).i.toNat:=jb0 (by omega) (by omega);have hTop:qez ((bI d.d).take ((Z 2).i * (Z 2).i).toNat) (Z 2).i.toNat = qck (Z 2).i.toNat (Z 3).i.toNat:=by rw [qck,hV,hkn]
 rw [hTop];have vT:qaN (Z 2).i (Z 2).i ((Z 2).i * (Z 2).i):=⟨by omega,by omega,by omega,by omega,rfl⟩;have hno:¬ qaN 0 0 0:=by unfold qaN; omega
 refine ⟨by omega,by omega,hkk.1,by omega,fun u8 _=>⟨⟨hf1,hkk.1,by omega,by omega,a8⟩,fun e _ f2 _ hf2 hor u11 _=>⟨⟨hf2,by omega,by omega,by omega,a8,fun r hr=>by cases hr⟩,fun f3 _ hf3 _=>⟨hf3,fun _=>?_⟩,fun _ _ _ _ h=>(hno h).elim,?_⟩,?_⟩⟩
 ·rcases hor with ⟨h,_⟩ | ⟨_,h,_⟩
  ·exact (h vT).elim
  ·exact h
 ·intro _ _ _ _ _ _ _ _ _ _ _ _ h
  exact (hno h).elim
 ·intro u9 _ li _ ci _ f4 _ di _ hf4 _ hMi hrk hInv u14 _
  obtain ⟨⟨b1,b2,b3,b4,b5,b6,b7,b8⟩,b9⟩:=hMi;have vI:qaN (Z 2).i (Z 2).i li.i:=⟨by omega,by omega,by omega,by omega,b5⟩;refine ⟨⟨hf4,by omega,by omega,by omega,a8,by omega,b6,by omega,b8⟩,fun f5 _ hf5 h=>(h vV vI).elim,?_⟩;intro u15 _ lp _ cq _ f6 _ dp _ hf6 _ _ hMp hLp hP u20 _ _;refine ⟨hf6,hsz,⟨hMp,hLp⟩,hrk,?_⟩;rw [hP,hInv,qc1,hV,jap (by rw [qb9,qso,a5,jb0 (by omega) (by omega)]; exact ja4 _),jap (by rw [<- hInv,bI_len]; omega)]
@[simp] def qn4:Sg:=sg 0 [bv 13 45,bv 12 55,bv 7 59,bv 6 60,bv 1 50,bt 14 (.icell (tv 54) (.plus (tv 61) (tv 64)) 0),bt 11 (.minus (tv 45) (.arith .mul .i64 (tv 64) (tv 42))),bt 10 (.minus (.arith .mul .i64 (.arith .add .i64 (tv 64) (tl 1)) (tv 42)) (.arith .mul .i64 (tv 64) (tv 42))),bt 9 (.ife (tv 45) (.arith .mul .i64 (tv 64) (tv 42)) (tl 0) (.arith .mul .i64 (tv 64) (tv 42))),bg 8 43,bv 5 59,bv 4 42,bt 3 (tl 0),bg 2 58,bg 0 0]
def qqq:Out:=(.br (.and (.cmp .eql (.dlen (tv 1)) (tl 0)) (.isnil 0))
 (.ret 0 (sg 9 [bv 10 1,bt 9 (tl 1)]))
 (.pre 0 (sg 0 [bv 1 3,bv 0 2]) (tb (.fresh 9 (.post 0 0 (sg 0 [bv 1 3,bv 0 2]) 9 (.br (.not (tv 9))
 (.ret 0 (sg 9 [bv 10 1,bt 9 (tl 2)]))
 (tn (tl 0) (tv 5) (.br (.cmp .gtr (tv 5) (tl 8192))
 (.ret 0 (sg 9 [bv 10 1,bt 9 (tl 3)]))
 (.pre 1 (sg 0 [bv 1 5,bv 0 2]) (tb (fr 10 2 (.post 1 0 (sg 0 [bv 1 5,bv 0 2]) 10 (tn (tl 0) (.arith .mul .i64 (tv 2) (tv 10)) (tn (.tims (tl 1) (.arith .mul .i64 (tv 2) (tv 10))) (tl 281474976710656) (.fresh 12 (tn (.arith .mul .i64 (tv 2) (tv 10)) (.dlen (.drep (.arith .mul .i64 (tv 2) (tv 10)) (.rcons (tu (tl 0)) .rnil))) (tn (tv 5) (.dlen (tv 7)) (.fresh 13 (.pre 2 (sg 0 [bv 1 1,bv 3 3,bv 2 2,bg 0 0]) (tb (fr 14 6 (.post 2 0 (sg 0 [bv 1 1,bv 3 3,bv 2 2,bg 0 0]) 14 (.fresh 20 (tn (tl 0) (tv 3) (tn (.tims (tl 32) (tv 3)) (tl 281474976710656) (.fresh 21 (.inv 0 22 (sg 1000 [bg 1015 19,bt 1014 (.drep (tv 3) (.rcons (ti (tl 0)) (.rcons .vnils .rnil))),bt 1013 (.c3 .dsplice (.drep (.arith .mul .i64 (tv 2) (tv 10)) (.rcons (tu (tl 0)) .rnil)) (tl 0) (.dtake (.dtake (tv 7) (tv 5)) (.imin (.arith .mul .i64 (tv 2) (tv 10)) (tv 5)))),bv 1012 18,bv 1011 16,bv 1010 15,bg 1009 14,bv 1008 17,bt 1007 (tl 0),bv 1006 3,bg 1005 21,bg 1004 20,bt 1003 (.arith .mul .i64 (tv 2) (tv 10)),bt 1002 (.arith .mul .i64 (tv 2) (tv 10)),bg 1001 12,bv 1000 10]) (fr 22 16 (.hyp 0 22 (.br (.cmp .lss (tv 29) (tv 3))
 (tn (tl 0) (tv 22) (tn (.tims (tl 1) (tv 22)) (tl 281474976710656) (.fresh 38 (.pre 3 (sg 0 [bv 6 33,bv 5 34,bv 7 29,bv 4 33,bv 3 32,bg 2 31,bv 1 2,bv 0 3]) (tb (fr 39 3 (.post 3 0 (sg 0 [bv 6 33,bv 5 34,bv 7 29,bv 4 33,bv 3 32,bg 2 31,bv 1 2,bv 0 3]) 39 (tn (tl 0) (tv 40) (.inv 1 42 (sg 1000 [bg 1015 37,bt 1018 (.drep (tv 22) (.rcons (tu (tl 0)) .rnil)),bv 1014 36,bv 1013 35,bv 1012 34,bv 1011 33,bv 1010 32,bv 1008 30,bt 1022 (tl 0),bv 1021 41,bv 1020 40,bv 1019 39,bg 1009 31,bv 1017 22,bg 1016 38,bv 1007 29,bv 1006 28,bg 1005 27,bg 1004 26,bv 1003 25,bv 1002 24,bg 1001 23,bv 1000 22]) (fr 42 23 (.hyp 1 42 (.br (.cmp .lss (tv 64) (tv 62))
 (tn (tl 0) (tv 64) (tn (tl 0) (tv 61) (tn (tl 0) (.plus (tv 61) (tv 64)) (ts (.plus (tv 61) (tv 64)) (.dlen (tv 54)) (.know (.cmp .leq (.dlen (tv 55)) (tv 45)) (tn (tl 0) (tv 44) (tn (tl 0) (tv 45) (tn (tl 0) (.arith .mul .i64 (tv 64) (tv 42)) (tn (.arith .mul .i64 (tv 64) (tv 42)) (.arith .mul .i64 (.arith .add .i64 (tv 64) (tl 1)) (tv 42)) (tn (.arith .mul .i64 (.arith .add .i64 (tv 64) (tl 1)) (tv 42)) (tv 45) (.pre 4 qn4 (tb (fr 65 2 (.post 4 0 qn4 65 (.back 1 42 (sg 1000 [bg 1015 57,bv 1018 66,bv 1014 56,bv 1013 55,bv 1012 54,bv 1011 53,bv 1010 52,bv 1008 65,bt 1022 (.arith .add .i64 (tv 64) (tl 1)),bv 1021 63,bv 1020 62,bv 1019 61,bg 1009 51,bv 1017 59,bg 1016 58,bv 1007 49,bv 1006 48,bg 1005 47,bg 1004 46,bv 1003 45,bv 1002 44,bg 1001 43,bv 1000 42]))))))))))))))))
 (tn (tl 0) (tv 49) (ts (tv 49) (tv 3) (ts (tv 49) (.dlen (tv 56)) (.pack [.arr 58 5 [CK.int .u8] (tv 60) (tv 59),.abs 57 2] 65 (.back 0 22 (sg 1000 [bg 1015 65,bt 1014 (.dput (tv 56) (tv 49) 0 (.rcons (ti (tv 49)) (.rcons (.vslice 58 (tl 0) (tv 42) (tv 59) 1) .rnil))),bv 1013 55,bv 1012 54,bv 1011 53,bv 1010 52,bg 1009 51,bv 1008 50,bt 1007 (.arith .add .i64 (tv 49) (tl 1)),bv 1006 48,bg 1005 47,bg 1004 46,bv 1003 45,bv 1002 44,bg 1001 43,bv 1000 42]))))))))))))))))))
 (.pack [.cells 26 200 [(ti (tv 3)),(ti (tv 2)),(.vslice 31 (tl 0) (tv 32) (tv 33) 1)],.arr 31 5 [CK.int .u8] (tv 34) (tv 33),.arr 23 5 [CK.int .u8] (tv 35) (tv 25),.abs 37 2] 38 (.ret 1 (sg 9 [bg 13 38,bv 12 36,bv 11 30,bv 10 28,bg 9 27])))))))))))))))))))))))))))))))))
theorem qzG:qj Tryz.prog qhM [qbv,qbH,q5c,qcs,qeh] [qtA,quX] qqq:=qg Tryz.func87 Tryz.call87 (by kernel_rfl)
theorem qCf:q5c.ok Tryz.prog:=Ctr.ok_less qwr rfl rfl rfl rfl rfl (fun _ h=>h.1) fun Z Z' ai al hp hag hal hpost=>by
 match ai,hal with
 | 0,hal =>
  exfalso;obtain rfl:=jax hal;obtain ⟨_,h2⟩:_/\(qM ((Z'.upto 5) 2).i ((Z'.upto 5) 3).i = true->(qck ((Z'.upto 5) 2).i.toNat ((Z'.upto 5) 3).i.toNat).2.2 < ((Z'.upto 5) 2).i.toNat):=hpost;have e2:(Z'.upto 5) 2 = Z 2:=by rw [Env.upto,jah (by omega)]; exact hag 2 (by decide)
  have e3:(Z'.upto 5) 3 = Z 3:=by rw [Env.upto,jah (by omega)]; exact hag 3 (by decide)
  rw [e2,e3] at h2;obtain ⟨_,p2,p3⟩:=hp;have:=h2 p2;omega
 | 1,hal=>exact ⟨0,hal⟩
 | n + 2,hal=>cases hal
theorem qkj {k n:Nat} (hk:0 < k):n <= k * qF k n:=by
 unfold qF;have h1:=jdf (n + k - 1) k;have h2:=jd8 (n + k - 1) hk;omega
theorem qoQ {k n:Nat} (hk:0 < k):k * qF k n < n + k:=by
 unfold qF;have h1:=jdf (n + k - 1) k;omega
theorem qhu {k n:Nat} (hk:0 < k):qF k n <= n:=by
 have h:=qoQ (n:=n) hk;by_cases h2:qF k n <= n
 ·exact h2
 ·have h3:k * (n + 1) <= k * qF k n:=jeo k (by omega)
  rw [Nat.mul_add,je5] at h3;have h4:n * 1 <= k * n:=by rw [jce k n]; exact jeo n hk
  omega
theorem qm1 {k:Int} {n:Nat} (hk:1 <= k):((n:Int) + k - 1).tdiv k = (qF k.toNat n:Nat):=by
 rw [jdy (by omega),qF,Int.natCast_ediv]
 congr 1 <;> omega
theorem q79 {d x:qe} (h:x.length <= d.length):bI (qaZ d 0 x) = bI x ++ (bI d).drop x.length:=by
 simp [qaZ,bI,jd3]
theorem q0j {d x:qe} (hd:qk d) (hx:qk x):qk (qaZ d 0 x):=fun r hr=>by
 unfold qaZ at hr;rcases jaw.1 hr with hr | hr
 ·rcases jaw.1 hr with hr | hr
  ·simp at hr
  ·exact hx r hr
 ·exact hd r (jb7 hr)
theorem q5J {k total len lg cg:Int} {f dg data D:qe} (hf:ql f) (hs:qM k total = true) (h1:len <= 8192) (h2:len = data.length) (hB:qk data) (hM:qS total k lg cg dg) (hG:bI dg = qc1 k.toNat total.toNat) (hD:D = List.replicate total.toNat [.int .i64 0,.slice none 0 0]) :
  qpy k total len (qF k.toNat data.length:Nat) (k * (qF k.toNat data.length:Nat)) (k * (qF k.toNat data.length:Nat)) lg cg 0 f dg (qaZ (List.replicate (k * (qF k.toNat data.length:Nat)).toNat [.int .u8 0]) 0 data) D data:=by
 obtain ⟨k1,k2,k3⟩:=qbn.1 hs;have hge:=qkj (k:=k.toNat) (n:=data.length) (by omega);have hle:=qhu (k:=k.toNat) (n:=data.length) (by omega);have hc:(k * (qF k.toNat data.length:Nat)).toNat = k.toNat * qF k.toNat data.length:=by rw [jb0 (by omega) (by omega)]; simp
 have hc0:0 <= k * (qF k.toNat data.length:Nat):=jfn (by omega) (by omega);refine ⟨hf,hs,h1,h2,hB,rfl,by omega,rfl,?_,q0j qcN hB,?_,hM,hG,by rw [hD,jaz],fun row hr=>by rw [hD] at hr; rw [jc3 hr]; rfl,by omega,by omega⟩
 ·rw [qhg (by rw [jaz]; omega),jaz]; omega
 ·rw [q79 (by rw [jaz]; omega),qeY,hc,qjM,bI_len,List.drop_replicate]; simp
theorem q6H {k total len l lf cf lg cg i:Int} {f dg df D data:qe} {v w:Value} (h:qpy k total len l lf cf lg cg i f dg df D data) (hi:i < total):qpy k total len l lf cf lg cg (i + 1) f dg df (qaQ D i 0 [v,w]) data:=by
 obtain ⟨a1,a2,a3,a4,a5,a6,a7,a8,a9,a10,a11,a12,a13,a14,a17,a15,a16⟩:=h;refine ⟨a1,a2,a3,a4,a5,a6,a7,a8,a9,a10,a11,a12,a13,by rw [qaU]; exact a14,fun row hr=>?_,by omega,by omega⟩;unfold qaQ at hr;rcases jc0 hr with hr | rfl
 ·exact a17 row hr
 ·have hl:i.toNat < D.length:=by omega
  have:=a17 _ (jbv hl);rw [jac hl,ja2,qm0 (by rw [this]; simp),this]
theorem qD0 {k total len l lf cf lg cg i:Int} {f f' dg df D data:qe} (h:qpy k total len l lf cf lg cg i f dg df D data) (hf:ql f'):qpy k total len l lf cf lg cg i f' dg df D data:=⟨hf,h.2⟩
theorem qmn {h h':Hp} {D:qe} {n:Nat} {f:Nat->List Int} (he:qgi h D n f) (hl:Hp.le h h'):qgi h' D n f:=fun j hj=>by
 obtain ⟨v,d,e1,e2,e3⟩:=he j hj;exact ⟨v,d,e1,qf6 e2 hl,e3⟩
theorem q4r {h h':Hp} {D:qe} {i:Int} {f:Nat->List Int} {v:Value} {d:qe} (he:qgi h D i.toNat f) (hl:Hp.le h h') (h0:0 <= i) (hi:i.toNat < D.length) (hc:(D[i.toNat]?.getD []).length = 2) (hr:Rd h' kB v d) (hd:bI d = f i.toNat) (hB:qk d) :
  qgi h' (qaQ D i 0 [.int .i64 i,v]) (i.toNat + 1) f:=fun j hj=>by
 by_cases hji:j = i.toNat
 ·subst hji
  refine ⟨v,d,?_,hr,hd,hB⟩;have hs:qas (D[i.toNat]?.getD []) 0 [.int .i64 i,v] = [.int .i64 i,v]:=by
   simp only [qas,jf4,jdd];rw [jec (by rw [hc]; exact ja4 _),jc6]
  rw [qaQ,List.getElem?_set_self hi,hs,jay h0]
 ·obtain ⟨v',d',e1,e2,e3⟩:=he j (by omega)
  exact ⟨v',d',by rw [qaQ,List.getElem?_set_ne (by omega)]; exact e1,qf6 e2 hl,e3⟩
set_option maxRecDepth 20000 in
set_option pp.deepTerms true in
set_option pp.maxSteps 1000000 in
theorem q0t:qhM.ok Tryz.prog:=qzG (by simp [qim,ql8,qCf,qgK,qma]) fun Z hg hp=>by
 obtain ⟨hf,hl,hB,hrk⟩:=hp;have hne:=(qbT hf).1;simp (config:={ maxSteps:=4000000 }) [qqq,qhM,qtA,quX,qbv,qbH,q5c,qgs,qcs,qeh];refine ⟨fun h=>(hne h).elim,fun _ v _ hv=>⟨fun hb=>⟨hf,by rw [<- hv]; exact hb⟩,fun hb=>?_⟩⟩;have hsz:qM (Z 2).i (Z 3).i = true:=by rw [<- hv]; exact hb
 obtain ⟨k1,k2,k3⟩:=qbn.1 hsz;refine ⟨by omega,fun h=>⟨hf,hsz,h⟩,fun hle l _ e _ _ hpl=>?_⟩;have hnb:¬ qcr (Z 2).i (Z 5).i:=by unfold qcr; omega
 obtain ⟨hpl1,_⟩:=hpl hnb;rw [hl,qm1 k1] at hpl1;have hge:=qkj (k:=(Z 2).i.toNat) (n:=(Z 7).d.length) (by omega);have hlt:=qoQ (k:=(Z 2).i.toNat) (n:=(Z 7).d.length) (by omega);have hkl:(Z 2).i * l.i = (((Z 2).i.toNat * qF (Z 2).i.toNat (Z 7).d.length:Nat):Int):=by rw [hpl1,jdt,jay (by omega)]
 rw [qbY (by omega) (by omega)];have hmax:max ((Z 2).i * l.i) 0 = (Z 2).i * l.i:=by omega
 refine ⟨by omega,by omega,fun u3 _=>⟨by omega,by omega,fun u4 _=>⟨⟨hf,hsz,hrk hsz⟩,fun u5 _ lg _ cg _ f1 _ dg _ ab _ hf1 _ hM _ hG u11 _=>⟨by omega,by omega,fun u12 _=>⟨⟨?_,fun j hj=>by omega⟩,?_⟩⟩⟩⟩⟩
 ·have htake:(((Z 7).d.take (Z 5).i.toNat).take (if (Z 5).i < (Z 2).i * l.i then (Z 5).i else (Z 2).i * l.i).toNat) = (Z 7).d:=by
   rw [jap (l:=(Z 7).d) (by omega),jap (by split <;> omega)]
  rw [htake,hpl1];exact q5J hf1 hsz hle hl hB hM hG rfl
 intro l2 _ u14 _ lf _ cf _ u17 _ u18 _ u19 _ i _ f2 _ u22 _ lg2 _ cg2 _ dg2 _ df2 _ D2 _ ab2 _ hW hE;refine ⟨fun hi=>?_,fun hi u29 _ hst=>?_⟩
 ·have hW':=hW
  obtain ⟨a1,a2,a3,a4,a5,a6,a7,a8,a9,a10,a11,a12,a13,a14,a17,a15,a16⟩:=hW';refine ⟨by omega,by omega,fun u29 _=>⟨⟨a15,hi,a12.1⟩,fun o _ n _ c _ ho hn hc=>⟨by omega,⟨hW,hE,hi,ho,hn,by omega,qcN,?_⟩,?_⟩⟩⟩
  ·rw [qeY]; rfl
  intro l3 _ u34 _ lf3 _ cf3 _ u37 _ u38 _ u39 _ i3 _ f3 _ u42 _ lg3 _ cg3 _ dg3 _ df3 _ D3 _ ab3 _ rp _ cp _ pd _ o3 _ n3 _ c3 _ j _ hW3 hE3 hii hi3 ho3 hn3 j0 j1 hpl hpB hp3;have hW3':=hW3;obtain ⟨b1,b2,b3,b4,b5,b6,b7,b8,b9,b10,b11,b12,b13,b14,b17,b15,b16⟩:=hW3';obtain ⟨⟨m1,m2,m3,m4,m5,m6,m7,m8⟩,m9⟩:=b12;have hl0:0 <= l3.i:=by omega
  refine ⟨fun hj=>?_,fun hj=>?_⟩
  ·have hjk:j.i < (Z 2).i:=by omega
   have hbo:=qL (x:=i3.i) (y:=(Z 2).i) b15 (show i3.i <= 255 by omega) (by omega) (show (Z 2).i <= 255 by omega);have hbj:=qL (x:=j.i) (y:=l3.i) j0 (show j.i <= 255 by omega) hl0 b7;have hltG:i3.i * (Z 2).i + j.i < (Z 3).i * (Z 2).i:=by
    have:=ja1 (show i3.i + 1 <= (Z 3).i by omega) (show 0 <= (Z 2).i by omega);rw [jcb,jcc] at this; omega
   have he:(j.i + 1) * l3.i = j.i * l3.i + l3.i:=by rw [jcb,jcc]
   have hltF:j.i * l3.i + l3.i <= (Z 2).i * l3.i:=by
    have:=ja1 (show j.i + 1 <= (Z 2).i by omega) hl0;omega
   have hcell:=qbs m8 (i:=o3.i + j.i) (by omega) (by omega);rw [add64 (by omega) (by omega),qbY (by omega) (by omega),qbY (by omega) (by omega),he];refine ⟨j0,by omega,by omega,by omega,fun hcap=>⟨by omega,by omega,hbj.1,by omega,by omega,⟨b1,⟨by omega,hl0,by omega,by unfold Go.Eng.big; omega⟩,⟨by split <;> omega,by omega,by split <;> omega,by unfold Go.Eng.big; omega⟩,by omega,hpB,b10,hcell⟩,fun f4 _ d4 _ hf4 hl4 hB4 he4=>?_⟩⟩;refine ⟨⟨qD0 hW3 hf4,hE3,hii,hi3,ho3,hn3,by omega,by omega,by omega,hB4,?_⟩,by omega⟩;have hsg:seg (bI df3.d) (if cf3.i = j.i * l3.i then 0 else j.i * l3.i).toNat (j.i * l3.i + l3.i - j.i * l3.i).toNat = seg (bI df3.d) (j.i.toNat * l3.i.toNat) l3.i.toNat:=by
    rw [show j.i * l3.i + l3.i - j.i * l3.i = l3.i by omega];split
    ·have:l3.i.toNat = 0:=by omega
     rw [this]; simp [seg]
    ·rw [jb0 j0 hl0]
   have hgd:(bI dg3.d).getD (i3.i.toNat * (Z 2).i.toNat + j.i.toNat) 0 = qb dg3.d (o3.i + j.i) 0:=by
    have:=qcw (d:=dg3.d) (i:=o3.i + j.i) (by omega) (by omega);rw [show (o3.i + j.i).toNat = i3.i.toNat * (Z 2).i.toNat + j.i.toNat by rw [ho3,jd4 hbo.1 j0,jb0 b15 (by omega)]] at this;rw [jab,this]; rfl
   rw [he4,hp3,hsg,show (j.i + 1).toNat = j.i.toNat + 1 by omega,qcu,hgd]
  ·have hjk:j.i = (Z 2).i:=by omega
   refine ⟨b15,hi3,by omega,fun u56 _ hst=>?_⟩;rw [add64 (by omega) (by omega)];refine ⟨⟨q6H hW3 hi3,?_⟩,by omega⟩;obtain ⟨ha,la,da⟩:=qja hst (jae ..);obtain ⟨hb,lb,db⟩:=qbR hst (n:=57) (t:=2) (by simp);have hr:=qvV (n:=l3.i.toNat) (k:=cp.i.toNat) da la (by simp; omega) (by simp);have hr:Rd u56.h kB (.slice (qn rp.r 0) l3.i.toNat cp.i.toNat) pd.d:=by simpa [kB] using hr
   have hdl:i3.i.toNat < D3.d.length:=by omega
   rw [show (i3.i + 1).toNat = i3.i.toNat + 1 by omega];refine q4r hE3 (Hp.le_trans (by simpa using db) lb) b15 hdl (by rw [jac hdl]; exact b17 _ (jbv hdl)) hr ?_ hpB;rw [hp3,qdR,hjk,b13,b11,bI_len];rw [show l3.i.toNat = qF (Z 2).i.toNat (Z 7).d.length by omega]
 ·obtain ⟨a1,a2,a3,a4,a5,a6,a7,a8,a9,a10,a11,a12,a13,a14,a17,a15,a16⟩:=hW
  obtain ⟨hb,lb,db⟩:=qbR hst (n:=37) (t:=2) (by simp);refine ⟨a1,hsz,hle,a14,?_⟩;rw [show i.i.toNat = (Z 3).i.toNat by omega] at hE;exact qmn hE (Hp.le_trans (by simpa using db) lb)
theorem que:qgV.ok Tryz.prog:=q75 (by simp) fun Z hg hp=>by
 simp [qwW,qgV];refine ⟨fun h1=>⟨fun h2=>⟨fun h3=>?_,fun h3=>?_⟩,fun h2=>?_⟩,fun h1=>?_⟩
 ·simp [qam,h1,h2,h3,qJ]
 ·simp [qam]; omega
 ·simp [qam]; omega
 ·simp [qam]; omega
set_option maxRecDepth 20000 in
theorem qj6:qdd.ok Tryz.prog:=q5t (by simp [que]) fun Z hg hp=>by
 have hp:0 <= (Z 6).i:=hp;simp [qy7,qdd,qgV,qy,qbS,qbe,qN];refine fun u _ hu=>⟨fun h hs=>by (rw [hu,hs] at h; cases h),fun h=>⟨fun a _ b=>by omega,fun a=>⟨fun b _ _ c=>by omega,fun b=>⟨hp,fun c _ _ _=>c,fun c=>⟨by rw [<- hu,h],a,b,c⟩⟩⟩⟩⟩
theorem q9t {x:Int}:qc .shr .i64 x 8 = x.fdiv 256:=rfl
set_option maxRecDepth 20000 in
theorem qmv:qd8.ok Tryz.prog:=q3W (by simp [qqP,qxd,q78]) fun Z hg hp=>by
 obtain ⟨o0,l0,lc,l1,hle,hB,hGr,hGd⟩:=hp;simp (config:={ maxSteps:=2000000 }) [qt6,qd8,qfx,qiZ,qpA,gOk];have hseg:qaB [[.int .u8 (IntKind.u8.wrap (qc .shr .i64 (Z 0).i 8))],[.int .u8 (IntKind.u8.wrap (Z 0).i)]] 0 2 = qbb (Z 0).i:=by
  rw [q9t,qc6,qc6]; rfl
 refine fun h _ hh=>⟨⟨⟨[],hh,by decide⟩,?_,hGr,hGd⟩,fun g _ hg1=>?_⟩
 ·intro row hr
  simp at hr;rcases hr with rfl | rfl
  ·simp [qbp,qX,qc6]; omega
  ·simp [qbp,qX,qc6]; omega
 ·rw [hseg] at hg1
  have h1:=hg1 [] hh;refine ⟨⟨⟨_,h1,by simp [qbb]⟩,o0,l0,lc,by omega,hle,hB,hGr,hGd⟩,fun k _ hk=>⟨⟨⟨_,hk _ h1,?_⟩,hGr,hGd⟩,fun d _ hd=>?_⟩⟩
  ·have:(qaB (Z 5).d (Z 2).i (Z 3).i).length <= (Z 3).i.toNat:=by simp [qaB]; omega
   simp [qbb]; omega
  ·exact (show qf _ 32 = qf d.d 32 from rfl).trans (hd _ (hk _ h1))
theorem qfy {lim:Int} {b:Bool} {x m s:List Int} (h:(b,x) = qgk lim false m s) (hf:(m.length:Int) + s.length <= lim):b = false/\x = m ++ s:=by
 rw [qlG (by simp [qhh]; omega)] at h;simpa using h
theorem qEw {x:Int}:IntKind.u16.wrap x = x % 65536:=by simp [IntKind.wrap,IntKind.bits,IntKind.signed]
theorem qoo {d:qe} {i:Nat} (h:i < d.length):qf [qdL (qb d i)] 32 = qeV d[i]:=by
 refine jbw fun j hj=>?_
 rw [qfb (jb1.1 hj)];simp [qb,qC,qbp,h]
theorem qpx {d:qe} {i:Nat} (h:i < d.length):((dgs d).take (i + 1)).flatten = ((dgs d).take i).flatten ++ qeV d[i]:=by
 rw [jee,jac (by simpa [dgs] using h)];simp [dgs]
set_option maxRecDepth 20000 in
set_option maxHeartbeats 800000 in
theorem q65:qfI.ok Tryz.prog:=q6Z (by simp [qj6,qxA,qEV,qEx,qCe,q9c,q9Y]) fun Z hg hp=>by
 obtain ⟨l0,hl,ho,hd⟩:=hp;simp (config:={ maxSteps:=2000000 }) [qxu,qfI,q1F,qdd,qgj,u8C,qyt,qsl,qrP,qnr,qmE,qch,qag,qhn];refine ⟨l0,fun e _ he=>⟨fun hne=>?_,fun hz lim _ hlim=>?_⟩⟩
 ·by_cases h:qy (Z 0).i (Z 1).i (Z 2).i (Z 3).i (Z 6).i = true
  ·rw [jah h] at he; exact absurd he hne
  ·rw [jaf h] at he; exact ⟨he.symm,by simpa using h⟩
 ·have hok:qy (Z 0).i (Z 1).i (Z 2).i (Z 3).i (Z 6).i = true:=by
   by_cases h:qy (Z 0).i (Z 1).i (Z 2).i (Z 3).i (Z 6).i = true
   ·exact h
   ·rw [jaf h] at he; omega
  have hb:=hok;simp [qy,qam] at hb;obtain ⟨⟨b1,b2,b3,b4⟩,b5,b6,b7⟩:=hb;have hl2:lim.i = 39 + 32 * (Z 2).i:=by
   rw [hlim,qbY (by omega) (by omega),add64 (by omega) (by omega)]; omega
  clear hlim;simp only [qc6,qEw];have hman:List.drop 4 (qf [([.int .i64 (Z 0).i,.int .i64 (Z 1).i,.int .i64 (Z 2).i,.int .i64 (Z 3).i] ++ (qdL (qa (Z 4).d) ++ [.slice (qn (Z 5).r 0) (Z 6).i.toNat (Z 7).i.toNat]):List Value)] 36) = qf (Z 4).d 32:=rfl;have hone:qG [([.int .i64 (Z 0).i,.int .i64 (Z 1).i,.int .i64 (Z 2).i,.int .i64 (Z 3).i] ++ (qdL (qa (Z 4).d) ++ [.slice (qn (Z 5).r 0) (Z 6).i.toNat (Z 7).i.toNat]):List Value)] 37:=⟨_,rfl,by simp [qdL]⟩;have hlen:∀ {l n c:Int} {d:qe},wOk l n c d->n = ((bI d).length:Int):=fun h=>by rw [bI_len]; exact h.2.2.1
  refine ⟨⟨by omega,by omega,rfl,by omega,by intro r hr; cases hr⟩,fun f1 _ n1 _ c1 _ d1 _ w1 g1=>?_⟩;obtain ⟨y1,x1⟩:=qfy g1 (by rw [hl2]; simp [bI,qax]; omega);have L1:(bI d1.d).length = 2:=by rw [x1]; simp [bI,qax]
  have q1:=hlen w1;refine ⟨⟨w1,by omega,by omega,by omega⟩,fun f2 _ n2 _ c2 _ d2 _ w2 g2=>?_⟩;rw [y1] at g2;obtain ⟨y2,x2⟩:=qfy g2 (by rw [hl2,L1,qax]; omega);have L2:(bI d2.d).length = 3:=by rw [x2,jaj,L1,qax]
  have q2:=hlen w2;refine ⟨⟨w2,by omega,by omega,by omega⟩,fun f3 _ n3 _ c3 _ d3 _ w3 g3=>?_⟩;rw [y2] at g3;obtain ⟨y3,x3⟩:=qfy g3 (by rw [hl2,L2,qax]; omega);have L3:(bI d3.d).length = 4:=by rw [x3,jaj,L2,qax]
  have q3:=hlen w3;refine ⟨⟨w3,by omega,by omega,by omega⟩,fun f4 _ n4 _ c4 _ d4 _ w4 g4=>?_⟩;rw [y3] at g4;obtain ⟨y4,x4⟩:=qfy g4 (by rw [hl2,L3,qax]; omega);have L4:(bI d4.d).length = 5:=by rw [x4,jaj,L3,qax]
  have q4:=hlen w4;refine ⟨⟨w4,by omega,by omega,by omega⟩,fun f5 _ n5 _ c5 _ d5 _ w5 g5=>?_⟩;rw [y4] at g5;obtain ⟨y5,x5⟩:=qfy g5 (by rw [hl2,L4,qax]; omega);have L5:(bI d5.d).length = 7:=by rw [x5,jaj,L4,qax]
  have q5:=hlen w5;refine ⟨⟨w5,by omega,hone,?_⟩,fun f6 _ n6 _ c6 _ d6 _ w6 g6=>?_⟩
  ·have:=hman
   exact this ▸ ho
  have g6':(f6.b,bI d6.d) = qgk lim.i f5.b (bI d5.d) (qf (Z 4).d 32):=g6;rw [y5] at g6';obtain ⟨y6,x6⟩:=qfy g6' (by rw [hl2,L5,qcq]; omega);have hhead:bI d6.d = qan (Z 0).i (Z 1).i (Z 2).i (Z 3).i (qf (Z 4).d 32):=by
   rw [x6,x5,x4,x3,x2,x1];simp [qan,bI,jbr]
  refine ⟨l0,⟨hok,l0,hl2,y6,w6,hhead⟩,fun lim2 _ f _ n _ c _ d _ t _ _ t0 t1 z1 z2 z3 z4=>⟨fun hlt=>?_,fun hge=>?_⟩⟩
  ·obtain ⟨T,hT⟩:∃ T:Nat,t.i = T:=⟨t.i.toNat,by omega⟩
   have m1:qc .add .i64 t.i 1 = ((T + 1:Nat):Int):=by rw [add64 (by omega) (by omega)]; omega
   have hTl:T < (Z 8).d.length:=by omega
   have hrow:=qoo hTl;have hnl:n.i = 39 + 32 * t.i:=by
    have h1:=hlen z3;rw [z4,jaj] at h1;have h2:∀ (k:Nat),k <= (Z 8).d.length->((dgs (Z 8).d).take k).flatten.length = 32 * k:=fun k=>by
     induction k with
     | zero=>intro _; simp
     | succ k ih=>intro hk; rw [qpx (by omega),jaj,ih (by omega)]; simp [qeV]; omega
    rw [h2 _ (by omega)] at h1;have h3:(qan (Z 0).i (Z 1).i (Z 2).i (Z 3).i (qf (Z 4).d 32)).length = 39:=by simp [qan,qax,qcq]
    omega
   rw [hT] at z4 hnl ⊢;rw [<- hT,m1,hT];refine ⟨by omega,by omega,⟨z3,by omega,⟨_,rfl,rfl⟩,?_⟩,fun f7 _ n7 _ c7 _ d7 _ w7 g7=>?_⟩
   ·have h1:qH (qeV (Z 8).d[T]):=(hd _ (jbv hTl)).2
    rw [<- hrow] at h1;exact h1
   ·have g7':(f7.b,bI d7.d) = qgk lim2.i f.b (bI d.d) (qf [qdL (qb (Z 8).d T)] 32):=g7
    rw [z2,hrow] at g7';have hbl:(qeV (Z 8).d[T]).length = 32:=by simp [qeV]
    obtain ⟨y7,x7⟩:=qfy g7' (by rw [<- hlen z3,hbl]; omega);refine ⟨⟨hok,by omega,by omega,z1,y7,w7,?_⟩,by omega⟩;rw [x7,z4];simp only [jal];rw [qpx hTl,jbr]
  ·have ht:t.i.toNat = (Z 8).d.length:=by omega
   rw [ht] at z4;rw [jap (by simp [dgs])] at z4;refine ⟨⟨z3,?_⟩,z2,fun e _ _ he=>⟨hok,by rw [he]; exact z3.2.2.1,by rw [he]; exact z3.2.2.2.2,by rw [he]; exact z4⟩⟩;have:=z3.2.2.2.1;omega
theorem qgI (m:List Int):qH (sha m):=fun x hx=>by
 obtain ⟨j,_,rfl⟩:=jbk.1 hx;omega
theorem q3w {f:Nat->List Int} {n:Nat}:(qdC f n).length = n:=by simp [qdC]
theorem qsr {g full:List Int} {k l i:Nat}:∀ j,(qcu g full k l i j).length = l
 | 0=>by simp [qcu]
 | j + 1=>by rw [qcu,qbK,qsr j]
theorem qA8 {k total:Nat} {data:List Int} {i:Nat}:(qdR k total data i).length = qF k data.length:=qsr k
theorem q9X {d:qe} {r:List Value}:dgs (d ++ [r]) = dgs d ++ [qeV r]:=by simp [dgs]
theorem q0f {f:Nat->List Int} {n:Nat}:qdC f (n + 1) = qdC f n ++ [sha (qbb n ++ f n)]:=by simp [qdC,jd5]
theorem qCb {d:qe}:qeV (qdL (qa d)) = qf d 32:=rfl
set_option maxRecDepth 20000 in
set_option maxHeartbeats 1600000 in
theorem q1c:qlP.ok Tryz.prog:=qsF (by simp [que,q0t,qj8,qmv]) fun Z hg hp=>by
 obtain ⟨hf,hl,hlc,hB,⟨hGr,hGd⟩,htop⟩:=hp;simp (config:={ maxSteps:=2000000 }) [q6G,qlP,qBd,qgV,qhM,qdb,qd8,gOk,qkB];have hnn:=qbT hf;refine fun u _=>⟨fun h=>absurd h hnn.1,fun _ b _ hb=>⟨fun hz=>⟨hf,by rw [<- hb]; exact hz⟩,fun hz=>?_⟩⟩
 rw [hz] at hb;have hs3:=hb.symm;have hs3':=hs3;simp [qam] at hs3';obtain ⟨b1,b2,b3,b4⟩:=hs3';have hsB:qM (Z 2).i (Z 4).i = true:=by simp [qM]; omega
 have hsz:qM (Z 2).i (Z 4).i = false->False:=fun h=>by rw [hsB] at h; cases h
 refine ⟨⟨hf,hl,hB,htop⟩,fun e _ f _ hf2 he=>⟨fun hne=>⟨hf2,?_⟩,fun hz2=>?_⟩,fun _ _ _ _ f _ P _ ab _ hf2 _ hle hPl hE=>⟨by omega,⟨⟨by omega,hlc,by omega,by omega,hB⟩,hGr,hGd⟩,fun o _ ho _ _=>⟨by omega,⟨hf2,hs3,hle,by omega,hPl,hE,?_,?_,?_⟩,fun _ _ _ _ _ _ o2 _ _ _ t _ _ _ Ds _ P2 _ _ _ f2 _ ab2 _ hf3 _ _ t0 t1 hPl2 hE2 ho2 hDl hDo hDm=>⟨fun hlt=>?_,fun hge=>?_⟩⟩⟩⟩
 ·rcases he with ⟨h,_⟩ | ⟨_,h1,h2⟩
  ·exact (hsz h).elim
  ·exact .inr ⟨hs3,h1,h2⟩
 ·rcases he with ⟨h,_⟩ | ⟨_,h1,h2⟩
  ·exact (hsz h).elim
  ·omega
 ·rw [qjr hl] at ho
  exact ho
 ·intro r hr; cases hr
 ·rfl
 ·obtain ⟨T,hT⟩:∃ T:Nat,t.i = T:=⟨t.i.toNat,by omega⟩
  have m1:qc .add .i64 t.i 1 = ((T + 1:Nat):Int):=by rw [add64 (by omega) (by omega)]; omega
  obtain ⟨v,d,e1,e2,e3,e4⟩:=hE2 T (by omega);have hcv:qC P2.d t.i 1 = v:=by rw [hT]; simp [qC,e1]
  have hci:qb P2.d t.i 0 = (T:Int):=by rw [hT]; simp [qb,qC,e1,qX]
  rw [m1,hcv,hci];have hdl:d.length <= (Z 8).d.length:=by
   have h1:=congrArg List.length e3;rw [bI_len,qA8,bI_len] at h1;have:=qhu (k:=(Z 2).i.toNat) (n:=(Z 8).d.length) (by omega);omega
  refine ⟨by omega,by omega,fun _ _=>⟨d,e2,fun r0 _ c1 _ hv hcl=>⟨⟨hcl,by omega,e4,hGr,hGd⟩,fun g _ hg2 _ _=>⟨by omega,by omega,fun _ _ _ _ ab3 _ hst=>⟨by omega,⟨hf3,hs3,hle,by omega,by omega,hPl2,?_,ho2,by omega,?_,?_⟩,by omega⟩⟩⟩⟩⟩
  ·obtain ⟨hb2,lb,db⟩:=qbR hst (n:=32) (t:=2) (by simp)
   exact qmn hE2 (Hp.le_trans (by simpa using db) lb)
  ·intro r hr
   rcases jaw.1 hr with hr | hr
   ·exact hDo r hr
   ·obtain rfl:=jak.1 hr
    refine ⟨rfl,?_⟩;have:qH (qf g.d 32):=by rw [hg2]; exact qgI _
    exact this
  ·have hh:dgs (Ds.d ++ [qdL (qa g.d)]) = qdC (qdR (Z 2).i.toNat (Z 4).i.toNat (bI (Z 8).d)) (T + 1):=by
    rw [q9X,qCb,hg2,qjr rfl,e3,hDm,hT,jal,q0f]
   exact hh
 ·have ht:t.i = (Z 4).i:=by omega
  refine fun ab3 _ hst=>⟨by omega,hf3,hs3,hle,hPl2,?_,ho2,hDo,by rw [hDm,ht]⟩
  obtain ⟨hb2,lb,db⟩:=qbR hst (n:=32) (t:=2) (by simp);exact qmn hE2 (Hp.le_trans (by simpa using db) lb)
end Go.Proofs
set_option maxRecDepth 100000
namespace Go.Eng
open Go Go.Proofs
def qkM:Ctr:={ fn := 70,nv:=3,args:=[iv .i64 (.var 0),iv .i64 (.var 1),iv .i64 (.var 2)],heap:=[],ro:=[],pre:=fun _=>True,alts:=[
 { k:=1,ret:=.one (.vbool (.var 3)),heap:=[],post:=fun Z=>(Z 3).b = qam (Z 0).i (Z 1).i (Z 2).i }] }
def qo4:Ctr:={ fn := 54,nv:=20,args:=[qbS,.agg (qbe 8 9 10 11 12 13 14 15)],heap:=[],ro:=[qaC 5 16 17,qaC 13 18 19],pre:=fun Z=>(Z 6).i = (Z 16).d.length/\(Z 14).i = (Z 18).d.length/\(Z 6).i <= 4503599627370496,alts:=[
 { k:=1,ret:=.one (.vbool (.var 20)),heap:=[],post:=fun Z=>(Z 0).i = (Z 8).i->(Z 1).i = (Z 9).i->(Z 2).i = (Z 10).i->(Z 3).i = (Z 11).i->qf (Z 4).d 32 = qf (Z 12).d 32->dgs (Z 16).d = dgs (Z 18).d->(Z 20).b = true }] }
def qBb:Inv:={ key:=4,nv:=3,env:=[(2,.one (.vptr 1000 (.lit 0) 37 0)),(3,.one (.vptr 1001 (.lit 0) 37 0)),(5,iv .i64 (.var 1002))],heap:=[.cells 1000 27 (qbe 0 1 2 3 4 5 6 7),.cells 1001 27 (qbe 8 9 10 11 12 13 14 15)],inv:=(fun Z=>(Z 6).i = (Z 14).i/\0 <= (Z 1002).i/\(Z 1002).i <= (Z 6).i),mu:=(fun Z=>((Z 6).i - (Z 1002).i).toNat) }
end Go.Eng
namespace Go.Proofs
open Go Go.Eng
def qyi:Out:=(.br (.cmp .leq (tl 1) (tv 0))
 (.br (.cmp .leq (tv 0) (tv 1))
 (.br (.cmp .leq (tv 1) (tv 2))
 (.ret 0 (sg 3 [bt 3 (.cmp .leq (tv 2) (tl 255))]))
 (.ret 0 (sg 3 [bt 3 (.bl false)])))
 (.ret 0 (sg 3 [bt 3 (.bl false)])))
 (.ret 0 (sg 3 [bt 3 (.bl false)])))
theorem q7h:qj Tryz.prog qkM [] [] qyi:=qg Tryz.func70 Tryz.call70 (by kernel_rfl)
def q6l:Out:=(fr 20 2 (.br (.cmp .neq (tv 0) (tv 8))
 (.ret 0 (sg 20 [bt 20 (.bl false)]))
 (.br (.cmp .neq (tv 1) (tv 9))
 (.ret 0 (sg 20 [bt 20 (.bl false)]))
 (.br (.cmp .neq (tv 2) (tv 10))
 (.ret 0 (sg 20 [bt 20 (.bl false)]))
 (.br (.cmp .neq (tv 3) (tv 11))
 (.ret 0 (sg 20 [bt 20 (.bl false)]))
 (.br (.not (.c2 .req (r8 4) (r8 12)))
 (.ret 0 (sg 20 [bt 20 (.bl false)]))
 (tn (tl 0) (tv 6) (tn (tl 0) (tv 14) (.br (.cmp .neq (tv 6) (tv 14))
 (.ret 0 (sg 20 [bt 20 (.bl false)]))
 (.inv 0 22 (sg 1000 [bt 1002 (tl 0),bg 1001 21,bg 1000 20]) (fr 22 3 (.hyp 0 22 (.br (.cmp .lss (tv 24) (tv 6))
 (tn (tl 0) (tv 24) (ts (tv 24) (.dlen (tv 16)) (ts (tv 24) (tv 14) (ts (tv 24) (.dlen (tv 18)) (.br (.not (.c2 .req (.rcons (i8 16 24 0) (.rcons (i8 16 24 1) (.rcons (i8 16 24 2) (.rcons (i8 16 24 3) (.rcons (i8 16 24 4) (.rcons (i8 16 24 5) (.rcons (i8 16 24 6) (.rcons (i8 16 24 7) (.rcons (i8 16 24 8) (.rcons (i8 16 24 9) (.rcons (i8 16 24 10) (.rcons (i8 16 24 11) (.rcons (i8 16 24 12) (.rcons (i8 16 24 13) (.rcons (i8 16 24 14) (.rcons (i8 16 24 15) (.rcons (i8 16 24 16) (.rcons (i8 16 24 17) (.rcons (i8 16 24 18) (.rcons (i8 16 24 19) (.rcons (i8 16 24 20) (.rcons (i8 16 24 21) (.rcons (i8 16 24 22) (.rcons (i8 16 24 23) (.rcons (i8 16 24 24) (.rcons (i8 16 24 25) (.rcons (i8 16 24 26) (.rcons (i8 16 24 27) (.rcons (i8 16 24 28) (.rcons (i8 16 24 29) (.rcons (i8 16 24 30) (.rcons (i8 16 24 31) .rnil)))))))))))))))))))))))))))))))) (.rcons (i8 18 24 0) (.rcons (i8 18 24 1) (.rcons (i8 18 24 2) (.rcons (i8 18 24 3) (.rcons (i8 18 24 4) (.rcons (i8 18 24 5) (.rcons (i8 18 24 6) (.rcons (i8 18 24 7) (.rcons (i8 18 24 8) (.rcons (i8 18 24 9) (.rcons (i8 18 24 10) (.rcons (i8 18 24 11) (.rcons (i8 18 24 12) (.rcons (i8 18 24 13) (.rcons (i8 18 24 14) (.rcons (i8 18 24 15) (.rcons (i8 18 24 16) (.rcons (i8 18 24 17) (.rcons (i8 18 24 18) (.rcons (i8 18 24 19) (.rcons (i8 18 24 20) (.rcons (i8 18 24 21) (.rcons (i8 18 24 22) (.rcons (i8 18 24 23) (.rcons (i8 18 24 24) (.rcons (i8 18 24 25) (.rcons (i8 18 24 26) (.rcons (i8 18 24 27) (.rcons (i8 18 24 28) (.rcons (i8 18 24 29) (.rcons (i8 18 24 30) (.rcons (i8 18 24 31) .rnil))))))))))))))))))))))))))))))))))
 (.ret 0 (sg 20 [bt 20 (.bl false)]))
 (.back 0 22 (sg 1000 [bt 1002 (.arith .add .i64 (tv 24) (tl 1)),bg 1001 23,bg 1000 22])))))))
 (.ret 0 (sg 20 [bt 20 (.bl true)])))))))))))))))
theorem qCQ:qj Tryz.prog qo4 [] [qBb] q6l:=qg Tryz.func54 Tryz.call54 (by kernel_rfl)
set_option maxRecDepth 20000
theorem q7O:qkM.ok Tryz.prog:=q7h (by simp) fun Z hg hp=>by
 simp [qyi,qkM];refine ⟨fun h1=>⟨fun h2=>⟨fun h3=>?_,fun h3=>?_⟩,fun h2=>?_⟩,fun h1=>?_⟩
 ·simp [qam,h1,h2,h3,qJ]
 ·simp [qam]; omega
 ·simp [qam]; omega
 ·simp [qam]; omega
theorem qfC {D:qe}:(dgs D).length = D.length:=by simp [dgs]
theorem qAG {D D':qe} (h:dgs D = dgs D') {i:Nat} (h1:i < D.length) (h2:i < D'.length) {j:Nat} (hj:j < 32):qb D i j = qb D' i j:=by
 have e:qeV D[i] = qeV D'[i]:=by
  have:=congrArg (fun l=>l[i]?) h;simpa [dgs,h1,h2] using this
 rw [<- qoo h1,<- qoo h2] at e;have:=qu0 e j hj
 rwa [qfb hj,qfb hj] at this
theorem qBR:qo4.ok Tryz.prog:=qCQ (by simp) fun Z hg hp=>by
 obtain ⟨h6,h14,h7⟩:=hp;simp (config:={ maxSteps:=2000000 }) [q6l,qo4,qBb,qbS,qbe,qN];refine ⟨fun h e=>absurd e h,fun _=>⟨fun h _ e=>absurd e h,fun _=>⟨fun h _ _ e=>absurd e h,fun _=>⟨fun h _ _ _ e=>absurd e h,fun _=>⟨fun hor _ _ _ _ hr=>?_,?_⟩⟩⟩⟩⟩
 ·have hc:=qu0 hr
  simp [hc] at hor
 ·intros
  refine ⟨by omega,by omega,fun h _ _ _ _ _ hd=>?_,fun hll=>⟨⟨hll,by omega⟩,fun u _ _ u0 u1 hlt=>⟨u0,by omega,by omega,by omega,fun hor _ _ _ _ _ hd=>?_,?_⟩⟩⟩
  ·have:=congrArg List.length hd
   rw [qfC,qfC] at this;omega
  ·obtain ⟨I,hI⟩:∃ I:Nat,u.i = I:=⟨u.i.toNat,by omega⟩
   have hc:∀ j,j < 32->qb (Z 16).d I j = qb (Z 18).d I j:=fun j hj=>qAG hd (by omega) (by omega) hj
   rw [hI] at hor;simp [hc] at hor
  ·intros
   have m2:qc .add .i64 u.i 1 = u.i + 1:=by rw [Go.Proofs.add64 (by omega) (by omega)]
   rw [m2];exact ⟨⟨hll,by omega,by omega⟩,by omega⟩
end Go.Proofs
namespace Go.Eng
open Go Go.Proofs
def qgw (Z:Env) (r:Nat):Prop:=qa8 (Z r).i/\qa8 (Z (r + 1)).i/\qa8 (Z (r + 2)).i/\qa8 (Z (r + 3)).i/\qH (qf (Z (r + 4)).d 32)/\(Z (r + 6)).i = (Z (r + 8)).d.length/\(Z (r + 6)).i <= 4398046510976/\qbJ (Z (r + 8)).d
def qsR (Z:Env):List Int:=qan (Z 0).i (Z 1).i (Z 2).i (Z 3).i (qf (Z 4).d 32) ++ (dgs (Z 8).d).flatten
def qgc (Z:Env):Bool:=qy (Z 0).i (Z 1).i (Z 2).i (Z 3).i (Z 6).i
def qe3:Ctr:={ fn := 17,nv:=10,args:=[qbS],heap:=[],ro:=[qaC 5 8 9],pre:=fun Z=>0 <= (Z 6).i,alts:=[
 { k:=1,ret:=.one (.vbool (.var 10)),heap:=[],post:=fun Z=>(Z 10).b = qgc Z }] }
def qhH:Ctr:={ qfI with fn := 126 }
def quw:Inv:={ key:=6,nv:=6,env:=[(1,.one (.vptr 1000 (.lit 0) 37 0)),(4,.one (.vslice 1001 (.lit 0) (.var 1002) (.var 1003) 1)),(5,iv .i64 (.var 1005))],heap:=[.cells 1000 27 (qbe 0 1 2 3 4 5 6 7),bHp 1001 1004 1003],inv:=(fun Z=>qgc Z = true/\0 <= (Z 1005).i/\(Z 1005).i <= (Z 6).i/\(Z 1002).i = (Z 1004).d.length/\qk (Z 1004).d/\bI (Z 1004).d = qan (Z 0).i (Z 1).i (Z 2).i (Z 3).i (qf (Z 4).d 32) ++ ((dgs (Z 8).d).take (Z 1005).i.toNat).flatten),mu:=(fun Z=>((Z 6).i - (Z 1005).i).toNat) }
def qqK (Z:Env):Prop:=(Z 6).i = (Z 8).d.length/\qH (qf (Z 4).d 32)/\qbJ (Z 8).d
def qjg:List Alt:=[
 { k:=2,ret:=.tup [(true,qN .u8 12 32),qa7 (.var 13)],heap:=[],post:=fun Z=>(qgc Z = false/\(Z 13).i = 2/\qf (Z 12).d 32 = List.replicate 32 0)∨(qgc Z = true/\(Z 13).i = 0/\qf (Z 12).d 32 = sha (qsR Z)) }]
def idC:Ctr:={ fn := 44,nv:=12,ip:=[gIp 10,(1005,9)],args:=[qbS],heap:=[],ro:=[qaC 5 8 9,gHp 10 11],pre:=fun Z=>qqK Z/\gOk Z 10 11 gR,alts:=qjg }
def qmY:Ctr:={ fn := 93,nv:=12,ip:=[gIs 10],args:=[qbS],heap:=[],ro:=[qaC 5 8 9,gHp 10 11],pre:=fun Z=>qqK Z/\gOk Z 10 11 gS,alts:=qjg }
end Go.Eng
namespace Go.Proofs
open Go Go.Eng
def q1t:Out:=(.fresh 10 (.pre 0 (sg 0 [bv 2 2,bv 1 1,bv 0 0]) (tb (.fresh 11 (.post 0 0 (sg 0 [bv 2 2,bv 1 1,bv 0 0]) 11 (.br (tv 11)
 (.br (.cmp .geq (tv 3) (tl 0))
 (.br (.cmp .leq (tv 3) (tl 8192))
 (tn (tl 0) (tv 6) (.ret 0 (sg 10 [bt 10 (.cmp .eql (tv 6) (tv 2))])))
 (.ret 0 (sg 10 [bt 10 (.bl false)])))
 (.ret 0 (sg 10 [bt 10 (.bl false)])))
 (.ret 0 (sg 10 [bt 10 (.bl false)]))))))))
theorem q9V:qj Tryz.prog qe3 [qkM] [] q1t:=qg Tryz.func17 Tryz.call17 (by kernel_rfl)
set_option maxRecDepth 20000
theorem qop {v:Int}:beL v 1 = [v % 256]:=by simp [beL]
theorem q09 {v:Int} (h:0 <= v):beL v 2 = [v / 256 % 256,v % 256]:=by rw [qAE h,qop]; rfl
theorem q18 {k n t s:Int} {o:List Int} (hk:0 <= k/\k < 256) (hn:0 <= n/\n < 256) (ht:0 <= t/\t < 256) (hs:0 <= s/\s < 65536):qan k n t s o = 77 :: 1 :: k :: n :: t :: (s / 256) :: (s % 256) :: o:=by
 rw [qan,q09 (v:=19713) (by decide),qop,qop,qop,q09 (v:=s % 65536) (by omega),jcd hk.1 hk.2,jcd hn.1 hn.2,jcd ht.1 ht.2,jcd hs.1 hs.2,jcd hk.1 hk.2,jcd hn.1 hn.2,jcd ht.1 ht.2,jcd (show 0 <= s / 256 by omega) (by omega)];rfl
theorem qcf {l:List (List Int)} (h:∀ x ∈ l,x.length = 32):l.flatten.length = 32 * l.length:=by
 induction l with
 | nil=>rfl
 | cons x r ih =>
  rw [jdg,jaj,h x (jae ..),ih (fun y hy=>h y (jad _ hy)),jba]; omega
theorem q07 {l:List (List Int)} (h:∀ x ∈ l,x.length = 32):∀ {j:Nat} (hj:j < l.length),(l.flatten.drop (32 * j)).take 32 = l[j]:=by
 induction l with
 | nil=>intro j hj; simp at hj
 | cons x r ih =>
  intro j hj;have hx:=h x (jae ..);cases j with
  | zero=>simp [List.take_left' hx]
  | succ j =>
   rw [jdg,show 32 * (j + 1) = x.length + 32 * j by omega,List.drop_length_add_append];exact ih (fun y hy=>h y (jad _ hy)) (by simpa using hj)
theorem qwN {D:qe}:∀ x ∈ dgs D,x.length = 32:=fun x hx=>by
 obtain ⟨r,_,rfl⟩:=jbk.1 hx;simp [qeV]
theorem qmq:qe3.ok Tryz.prog:=q9V (by simp [q7O]) fun Z hg hp=>by
 have hp:0 <= (Z 6).i:=hp;simp (config:={ maxSteps:=2000000 }) [q1t,qe3,qkM,qbS,qbe,qN,qgc,qy];refine fun u _ hu=>⟨fun ht=>⟨fun h0=>⟨fun h8=>⟨hp,?_⟩,fun h8 _ _ h=>by exfalso; omega⟩,fun h0 _ h=>by exfalso; omega⟩,fun hf h=>?_⟩
 ·rw [<- hu,ht]
  simp [qJ,h0,h8];rfl
 ·rw [<- hu,hf] at h; cases h
set_option maxRecDepth 100000
def qj0 (d:qe) (i:Int):List Int:=(List.range 32).map fun k=>qb d i k
@[simp high] theorem qF3 (d:qe):qf [[.int .u8 (qa d 0),.int .u8 (qa d 1),.int .u8 (qa d 2),.int .u8 (qa d 3),.int .u8 (qa d 4),.int .u8 (qa d 5),.int .u8 (qa d 6),.int .u8 (qa d 7),.int .u8 (qa d 8),.int .u8 (qa d 9),.int .u8 (qa d 10),.int .u8 (qa d 11),.int .u8 (qa d 12),.int .u8 (qa d 13),.int .u8 (qa d 14),.int .u8 (qa d 15),.int .u8 (qa d 16),.int .u8 (qa d 17),.int .u8 (qa d 18),.int .u8 (qa d 19),.int .u8 (qa d 20),.int .u8 (qa d 21),.int .u8 (qa d 22),.int .u8 (qa d 23),.int .u8 (qa d 24),.int .u8 (qa d 25),.int .u8 (qa d 26),.int .u8 (qa d 27),.int .u8 (qa d 28),.int .u8 (qa d 29),.int .u8 (qa d 30),.int .u8 (qa d 31)]] 32 = qf d 32:=rfl
@[simp high] theorem qF5 (d:qe) (i:Int):qf [[.int .u8 (qb d i 0),.int .u8 (qb d i 1),.int .u8 (qb d i 2),.int .u8 (qb d i 3),.int .u8 (qb d i 4),.int .u8 (qb d i 5),.int .u8 (qb d i 6),.int .u8 (qb d i 7),.int .u8 (qb d i 8),.int .u8 (qb d i 9),.int .u8 (qb d i 10),.int .u8 (qb d i 11),.int .u8 (qb d i 12),.int .u8 (qb d i 13),.int .u8 (qb d i 14),.int .u8 (qb d i 15),.int .u8 (qb d i 16),.int .u8 (qb d i 17),.int .u8 (qb d i 18),.int .u8 (qb d i 19),.int .u8 (qb d i 20),.int .u8 (qb d i 21),.int .u8 (qb d i 22),.int .u8 (qb d i 23),.int .u8 (qb d i 24),.int .u8 (qb d i 25),.int .u8 (qb d i 26),.int .u8 (qb d i 27),.int .u8 (qb d i 28),.int .u8 (qb d i 29),.int .u8 (qb d i 30),.int .u8 (qb d i 31)]] 32 = qj0 d i:=rfl
@[simp high] theorem qF8 (d:qe):([.int .u8 (qa d 0),.int .u8 (qa d 1),.int .u8 (qa d 2),.int .u8 (qa d 3),.int .u8 (qa d 4),.int .u8 (qa d 5),.int .u8 (qa d 6),.int .u8 (qa d 7),.int .u8 (qa d 8),.int .u8 (qa d 9),.int .u8 (qa d 10),.int .u8 (qa d 11),.int .u8 (qa d 12),.int .u8 (qa d 13),.int .u8 (qa d 14),.int .u8 (qa d 15),.int .u8 (qa d 16),.int .u8 (qa d 17),.int .u8 (qa d 18),.int .u8 (qa d 19),.int .u8 (qa d 20),.int .u8 (qa d 21),.int .u8 (qa d 22),.int .u8 (qa d 23),.int .u8 (qa d 24),.int .u8 (qa d 25),.int .u8 (qa d 26),.int .u8 (qa d 27),.int .u8 (qa d 28),.int .u8 (qa d 29),.int .u8 (qa d 30),.int .u8 (qa d 31)]:List Value).map qX = qf d 32:=rfl
@[simp high] theorem qF4 (d:qe) (i:Int):([.int .u8 (qb d i 0),.int .u8 (qb d i 1),.int .u8 (qb d i 2),.int .u8 (qb d i 3),.int .u8 (qb d i 4),.int .u8 (qb d i 5),.int .u8 (qb d i 6),.int .u8 (qb d i 7),.int .u8 (qb d i 8),.int .u8 (qb d i 9),.int .u8 (qb d i 10),.int .u8 (qb d i 11),.int .u8 (qb d i 12),.int .u8 (qb d i 13),.int .u8 (qb d i 14),.int .u8 (qb d i 15),.int .u8 (qb d i 16),.int .u8 (qb d i 17),.int .u8 (qb d i 18),.int .u8 (qb d i 19),.int .u8 (qb d i 20),.int .u8 (qb d i 21),.int .u8 (qb d i 22),.int .u8 (qb d i 23),.int .u8 (qb d i 24),.int .u8 (qb d i 25),.int .u8 (qb d i 26),.int .u8 (qb d i 27),.int .u8 (qb d i 28),.int .u8 (qb d i 29),.int .u8 (qb d i 30),.int .u8 (qb d i 31)]:List Value).map qX = qj0 d i:=rfl
@[simp high] theorem qF7:qf [[.int .u8 0,.int .u8 0,.int .u8 0,.int .u8 0,.int .u8 0,.int .u8 0,.int .u8 0,.int .u8 0,.int .u8 0,.int .u8 0,.int .u8 0,.int .u8 0,.int .u8 0,.int .u8 0,.int .u8 0,.int .u8 0,.int .u8 0,.int .u8 0,.int .u8 0,.int .u8 0,.int .u8 0,.int .u8 0,.int .u8 0,.int .u8 0,.int .u8 0,.int .u8 0,.int .u8 0,.int .u8 0,.int .u8 0,.int .u8 0,.int .u8 0,.int .u8 0]] 32 = List.replicate 32 0:=rfl
@[simp high] theorem qF6:([.int .u8 0,.int .u8 0,.int .u8 0,.int .u8 0,.int .u8 0,.int .u8 0,.int .u8 0,.int .u8 0,.int .u8 0,.int .u8 0,.int .u8 0,.int .u8 0,.int .u8 0,.int .u8 0,.int .u8 0,.int .u8 0,.int .u8 0,.int .u8 0,.int .u8 0,.int .u8 0,.int .u8 0,.int .u8 0,.int .u8 0,.int .u8 0,.int .u8 0,.int .u8 0,.int .u8 0,.int .u8 0,.int .u8 0,.int .u8 0,.int .u8 0,.int .u8 0]:List Value).map qX = List.replicate 32 0:=rfl
theorem qjV {d:qe} {i:Int} (h0:0 <= i) (h1:i < d.length):qj0 d i = (dgs d).getD i.toNat []:=by
 have hl:i.toNat < d.length:=by omega
 have h2:(dgs d).getD i.toNat [] = qeV d[i.toNat]:=by simp [dgs,hl]
 rw [h2];refine jbw fun k hk=>?_
 simp [qb,qC,qbp,hl]
end Go.Proofs
namespace Go.Eng
open Go
def qhf (x:Int):Prop:=0 <= x/\x < 256
def qiQ:Ctr:={ qbH with fn := 114 }
def q7A:Inv:={ key:=4,nv:=1,env:=[(0,iv .i64 (.var 0)),(1,iv .i64 (.var 1)),(6,iv .i64 (.var 1000))],heap:=[],inv:=(fun Z=>¬ qcr (Z 0).i (Z 1).i/\0 <= (Z 1000).i/\(Z 1000).i <= (Z 1).i/\((Z 1000).i = 0∨(Z 0).i * ((Z 1000).i - 1) < (Z 1).i)),mu:=(fun Z=>((Z 1).i - (Z 1000).i).toNat) }
def qnd (b:Int) (i:Nat) (s:Int × Int):Int × Int :=
 (if qc .and .u8 s.1 128 = 0 then qc .shl .u8 s.1 1 else qc .xor .u8 (qc .shl .u8 s.1 1) 29,
  if qc .and .u8 b (qc .shl .u8 1 i) = 0 then s.2 else qc .xor .u8 s.2 s.1)
def qje (a b:Int):Nat->Int × Int
 | 0=>(a,0)
 | i + 1=>qnd b i (qje a b i)
def qd2:Ctr:={ fn := 169,nv:=2,args:=[iv .u8 (.var 0),iv .u8 (.var 1)],heap:=[],ro:=[],pre:=fun Z=>qhf (Z 0).i/\qhf (Z 1).i,alts:=[{ k:=1,ret:=iv .u8 (.var 2),heap:=[],post:=fun Z=>(Z 2).i = qbC (Z 0).i (Z 1).i }] }
def qzt:Inv:={ key:=3,nv:=3,env:=[(0,iv .u8 (.var 1000)),(1,iv .u8 (.var 1)),(5,iv .u8 (.var 1001)),(6,iv .i64 (.var 1002))],heap:=[],inv:=(fun Z=>0 <= (Z 1002).i/\(Z 1002).i <= 8/\((Z 1000).i,(Z 1001).i) = qje (Z 0).i (Z 1).i (Z 1002).i.toNat),mu:=(fun Z=>(8 - (Z 1002).i).toNat) }
def qkJ:Ctr:={ fn := 170,nv:=1,args:=[iv .u8 (.var 0)],heap:=[],ro:=[],pre:=fun Z=>qhf (Z 0).i,alts:=[{ k:=1,ret:=iv .u8 (.var 1),heap:=[],post:=fun Z=>(Z 1).i = qdU (Z 0).i }] }
def q1H:Inv:={ key:=2,nv:=1,env:=[(0,iv .u8 (.var 0)),(3,iv .i64 (.var 1000))],heap:=[],inv:=(fun Z=>1 <= (Z 1000).i/\(Z 1000).i <= 256/\∀ j:Int,1 <= j->j < (Z 1000).i->qbC (Z 0).i j ≠ 1),mu:=(fun Z=>(256 - (Z 1000).i).toNat) }
end Go.Eng
namespace Go.Eng
open Go Go.Proofs
def qd6 (r:Nat):SV:=.agg [.vint .i64 (.var r),.vslice (r + 1) (.lit 0) (.var (r + 2)) (.var (r + 3)) 1]
def qkU (r:Nat):SH:=bHp (r + 1) (r + 4) (r + 5)
def qcI (Z:Env) (r:Nat):Prop:=(Z (r + 2)).i = (Z (r + 4)).d.length/\(Z (r + 2)).i <= (Z (r + 3)).i/\(Z (r + 2)).i <= 100000000/\qk (Z (r + 4)).d
def qcD (k s:Int):Int:=(s + k - 1).tdiv k
def qft:Ctr:={ fn := 127,nv:=8,ip:=[gIs 6],args:=[iv .i64 (.var 0),bS 1],heap:=[],ro:=[qwz 1,gHp 6 7],pre:=fun Z=>(Z 2).i = (Z 4).d.length/\(Z 2).i <= 100000000/\qk (Z 4).d/\gOk Z 6 7 gS,alts:=[
 { k:=1,ret:=dgV 8,heap:=[],post:=fun Z=>qf (Z 8).d 32 = sha (qbb (Z 0).i ++ bI (Z 4).d) }] }
def qci (k n t s l:Int) (D:List (List Int)) (i:Int) (m:List Int):Int:=if qy k n t s l = false then 2 else if i < 0∨t <= i then 2 else if (m.length:Int) ≠ qcD k s then 10 else if sha (qbb i ++ m) ≠ D.getD i.toNat [] then 20 else 0
def qlc (Z:Env):Prop:=qa8 (Z 0).i/\qa8 (Z 3).i/\(Z 6).i = (Z 8).d.length/\qbJ (Z 8).d/\qcI Z 10
def qfE:List Alt:=[{ k:=1,ret:=iv .i64 (.var 18),heap:=[],post:=fun Z=>(Z 18).i = qci (Z 0).i (Z 1).i (Z 2).i (Z 3).i (Z 6).i (dgs (Z 8).d) (Z 10).i (bI (Z 14).d) }]
def qhc:Ctr:={ fn := 60,nv:=18,ip:=[gIp 16],args:=[qbS,qd6 10],heap:=[],ro:=[qaC 5 8 9,qkU 10,gHp 16 17],pre:=fun Z=>qlc Z/\gOk Z 16 17 gR,alts:=qfE }
def qgC:Ctr:={ fn := 94,nv:=18,ip:=[gIs 16],args:=[qbS,qd6 10],heap:=[],ro:=[qaC 5 8 9,qkU 10,gHp 16 17],pre:=fun Z=>qlc Z/\gOk Z 16 17 gS,alts:=qfE }
end Go.Eng
