/- Texts BO, BQ, BR, BS, DP, ZC, ZT, ZP, ZO, ZN, ZQ, ZR, ZD, ZH, ZI, ZK, ZM, ZS, ZV. -/
import Derived.Test.YtelcnkclppkicaaGreatDoorG5
import Derived.Test.YtelcnkclppkicaaGreatDoorG1
import Derived.Test.YtelcnkclppkicaaGreatDoorProg
import Derived.Test.YtelcnkclppkicaaGreatDoorG4
import Derived.Tactics
import Derived.Tactics2
import Derived.Defers
import Derived.Laws.Pointers
import Derived.Laws.LoneSync
import Derived.RegionTactic
import Derived.RegionCalls
import Derived.ChangeAlike
set_option linter.unusedSimpArgs false
set_option linter.unusedVariables false
namespace Go.Proofs
open Go Go.Eng
set_option maxRecDepth 20000
theorem qhn {d:qf} {o:Int} {j:Nat} (h0:0 <= o) (hl:o + 64 <= d.length) (hj:j < 64):(qaG d o 64).getD j 0 = qb d (o + j) 0:=by
 have hg:=qfu (d:=d) (i:=o + j) (by omega) (by omega)
 unfold qaG
 rw [jad,jbh,jah (show j < (64:Int).toNat from hj),jbd,show o.toNat + j = (o + j).toNat by omega,hg]
 rfl
theorem qn6 {m:List Int} {o:Nat}:(qau m o).length = 16:=by simp [qau]
theorem qwm {m:List Int} {o t:Nat} (h:t < 16):(qau m o).getD t 0 = qja m (o + 4 * t):=by
 simp [qau,jad,h]
theorem q7X {d:qf} {t:Nat} (h:t < 64):(kW d).getD t 0 = toW (qa d t):=by
 simp [kW,qd2,qd,jad,h]
theorem q97 {x:Int}:qe .xor .u32 4294967295 x = ofW (~~~ toW x):=by
 rw [qoB]
 refine congrArg ofW ?_
 apply jev
 intro j hj
 have h1:∀ i:Nat,i < 32->(toW 4294967295).getLsbD i = true:=by decide
 rw [jfl,BitVec.getLsbD_not,h1 j hj]
 simp [hj]
theorem qlU {d:qf}:qaT (qd d 8) = ⟨toW (qa d 0),toW (qa d 1),toW (qa d 2),toW (qa d 3),toW (qa d 4),toW (qa d 5),toW (qa d 6),toW (qa d 7)⟩:=rfl
theorem qxK {d:qf} {n:Nat} {vs:List Value} (h:qC d n) (hv:vs.length = n):qbK d 0 0 vs = [vs]:=by
 obtain ⟨row,rfl,hl⟩:=h
 simp [qbK,qa3]
 omega
theorem qvj {d e:List (List Value)} (h:qd d 8 = qd e 8):∀ j,j < 8->qa d j = qa e j:=fun j hj=>by
 have:=qfQ (d:=d) hj
 rw [h,qfQ hj] at this
 exact this.symm
theorem q1c {d e:List (List Value)} (h:qd d 64 = qd e 64):∀ j,j < 64->qa d j = qa e j:=fun j hj=>by
 have:=qfQ (d:=d) hj
 rw [h,qfQ hj] at this
 exact this.symm
theorem qoE {f:Nat->Int} {n:Nat}:qC [qae f n] n:=⟨_,rfl,by simp [qae]⟩
theorem qjY {d:qf} {n:Nat}:qd [qae (qa d) n] n = qd d n:=qdW fun j hj=>qbQ hj
theorem qet {d:qf} {n:Nat}:qd [qae (qb d 0) n] n = qd d n:=qdW fun j hj=>(qbQ hj).trans qbs
theorem q4d:qme.ok Tryz.prog:=q4P (by simp [q7a]) fun Z hg hp=>by
 obtain ⟨hw8,hw64,ho,h64,hol,hB⟩:=hp
 simp (config:={ maxSteps:=2000000 }) [qxz,qme,q0I,q3j,q21,qq8,quP,qpp]
 have c64:qC [qae (qa (Z 1).d) 64] 64/\qd [qae (qa (Z 1).d) 64] 64 = qd (Z 1).d 64:=⟨qoE,qjY⟩
 have c8:qC [qae (qa (Z 0).d) 8] 8/\qd [qae (qa (Z 0).d) 8] 8 = qd (Z 0).d 8:=⟨qoE,qjY⟩
 refine ⟨⟨c64,c8.1,c8.2,⟨_,rfl,rfl⟩,fun j hj=>absurd hj (by omega)⟩,fun h _ k _ w _ t _ hk hk2 hh hh2 t0 t1 hA=>⟨fun hlt=>⟨fun h16=>?_,fun h16=>?_⟩,fun hge=>⟨by rw [qw hh]; decide,⟨⟨hk,hk2⟩,hh,hh2,?_,⟨_,rfl,rfl⟩,?_,?_⟩,fun h2 _ k2 _ w2 _ t2 _ v _ hk3 hk4 hh3 hh4 u0 u1 hW hv hvw hR=>⟨fun hlt=>?_,fun hge2=>⟨⟨hh3,hv,hvw,?_,fun j hj=>?_⟩,fun h5 _ t5 _ v5 _ hh5 s0 s1 hv5 hvw5 hR5 hc5=>⟨fun hlt=>?_,fun hge5=>⟨by rw [qw hh5]; decide,?_,?_⟩⟩⟩⟩⟩⟩⟩
 ·obtain ⟨T,hT⟩:∃ T:Nat,t.i = T:=⟨t.i.toNat,by omega⟩
  have m0:qe .mul .i64 4 t.i = ((4 * T:Nat):Int):=by rw [qch (by omega) (by omega)]; omega
  have m1:qe .add .i64 (qe .mul .i64 4 t.i) 1 = ((4 * T + 1:Nat):Int):=by rw [m0,add64 (by omega) (by omega)]; omega
  have m2:qe .add .i64 (qe .mul .i64 4 t.i) 2 = ((4 * T + 2:Nat):Int):=by rw [m0,add64 (by omega) (by omega)]; omega
  have m3:qe .add .i64 (qe .mul .i64 4 t.i) 3 = ((4 * T + 3:Nat):Int):=by rw [m0,add64 (by omega) (by omega)]; omega
  have m5:qe .add .i64 t.i 1 = ((T + 1:Nat):Int):=by rw [add64 (by omega) (by omega)]; omega
  rw [m1,m2,m3,m0,m5]
  rw [hT,jar] at hA
  rw [hT]
  simp only [jar]
  have e2:=qw hA.1
  refine ⟨by omega,by omega,ho,by omega,by omega,by omega,by omega,by omega,by omega,by omega,by omega,by omega,by omega,by omega,by omega,by omega,by omega,by omega,by omega,⟨⟨hk,hk2⟩,hh,hh2,by omega,by omega,qgU hA (by omega) ?_⟩,by omega⟩
  rw [qu2,qoF (by rw [qn6]; omega),qwm (by omega),qja,jbp,qhn ho hol (by omega),qhn ho hol (by omega),qhn ho hol (by omega),qhn ho hol (by omega)]
 ·obtain ⟨T,hT⟩:∃ T:Nat,t.i = ((16 + T:Nat):Int):=⟨t.i.toNat - 16,by omega⟩
  have m15:qe .sub .i64 t.i 15 = ((1 + T:Nat):Int):=by rw [sub64 (by omega) (by omega)]; omega
  have m2:qe .sub .i64 t.i 2 = ((14 + T:Nat):Int):=by rw [sub64 (by omega) (by omega)]; omega
  have m16:qe .sub .i64 t.i 16 = (T:Int):=by rw [sub64 (by omega) (by omega)]; omega
  have m7:qe .sub .i64 t.i 7 = ((9 + T:Nat):Int):=by rw [sub64 (by omega) (by omega)]; omega
  have m5:qe .add .i64 t.i 1 = ((16 + T + 1:Nat):Int):=by rw [add64 (by omega) (by omega)]; omega
  rw [m15,m2,m16,m7,m5]
  rw [hT,jar] at hA
  rw [hT]
  simp only [jar]
  have e2:=qw hA.1
  refine ⟨by omega,by omega,by omega,qaW hA (by omega),fun r1 _ g1=>⟨qaW hA (by omega),fun r2 _ g2=>⟨by omega,by omega,qaW hA (by omega),fun r3 _ g3=>⟨qaW hA (by omega),fun r4 _ g4=>⟨by omega,by omega,by omega,by omega,by omega,⟨⟨hk,hk2⟩,hh,hh2,by omega,by omega,qgU hA (by omega) ?_⟩,by omega⟩⟩⟩⟩⟩
  rw [g1,g2,g3,g4]
  rw [q9f (qaW hA (by omega)),q5Z (qaW hA (by omega))]
  simp only [qfl,qoB,qbI]
  rw [qc9 hA (by omega:1 + T < 16 + T),qc9 hA (by omega:14 + T < 16 + T),qc9 hA (by omega:T < 16 + T),qc9 hA (by omega:9 + T < 16 + T),qny qn6 (by omega)]
  generalize (qaj (qau (qaG (Z 6).d (Z 3).i 64) 0) 48).getD (1 + T) 0 = p1
  generalize (qaj (qau (qaG (Z 6).d (Z 3).i 64) 0) 48).getD (14 + T) 0 = p14
  generalize (qaj (qau (qaG (Z 6).d (Z 3).i 64) 0) 48).getD (9 + T) 0 = p9
  generalize (qaj (qau (qaG (Z 6).d (Z 3).i 64) 0) 48).getD T 0 = p0
  refine congrArg ofW ?_
  simp only [sg0,sg1]
 ·have:t.i = 64:=by omega
  rw [this] at hA; exact hA
 ·have e:qde [qae (qb h.d 0) 8]:=fun j hj=>by
   rw [qbQ hj,qbs,qvj hh2 j hj]; exact hw8 j hj
  exact e
 ·have e:qaT (qd [qae (qb h.d 0) 8] 8) = qaT (qd (Z 0).d 8):=by rw [qet,hh2]
  exact e
 ·obtain ⟨T,hT⟩:∃ T:Nat,t2.i = T:=⟨t2.i.toNat,by omega⟩
  have m5:qe .add .i64 t2.i 1 = ((T + 1:Nat):Int):=by rw [add64 (by omega) (by omega)]; omega
  rw [m5]
  rw [hT,jar] at hR
  rw [hT]
  simp only [jar,qbs]
  refine ⟨by rw [qw hv]; decide,by omega,by rw [qw hk3]; decide,by rw [qw hW.1]; decide,hvw 4 (by omega),fun r1 _ g1=>⟨hvw 4 (by omega),fun r2 _ g2=>⟨hvw 4 (by omega),fun r3 _ g3=>⟨hvw 0 (by omega),fun r4 _ g4=>⟨hvw 0 (by omega),fun r5 _ g5=>⟨hvw 0 (by omega),fun r6 _ g6=>?_⟩⟩⟩⟩⟩⟩
  rw [qxK hv rfl,g1,g2,g3,g4,g5,g6]
  refine ⟨⟨⟨hk3,hk4⟩,hh3,hh4,by omega,by omega,hW,⟨_,rfl,rfl⟩,fun j hj=>?_,?_⟩,by omega⟩
  ·match j,hj with
   | 0,_=>show isW (qe .add .u32 _ _); rw [qfl]; exact qge
   | 1,_=>exact hvw 0 (by omega)
   | 2,_=>exact hvw 1 (by omega)
   | 3,_=>exact hvw 2 (by omega)
   | 4,_=>show isW (qe .add .u32 _ _); rw [qfl]; exact qge
   | 5,_=>exact hvw 4 (by omega)
   | 6,_=>exact hvw 5 (by omega)
   | 7,_=>exact hvw 6 (by omega)
  ·rw [qmz,<- hR,q7X (by omega),<- q1c hk4 T (by omega),<- qc9 hW (by omega:T < 64)]
   simp only [qfl,qoB,q6u,q97,qbI]
   rw [qlU,qlU]
   simp only [qrO,jat,ja5,ja2,qS,qbI]
   rfl
 ·have:t2.i = 64:=by omega
  rw [this] at hR; exact hR
 ·rw [jaf (by omega)]; exact qvj hh4 j hj
 ·obtain ⟨T,hT⟩:∃ T:Nat,t5.i = T:=⟨t5.i.toNat,by omega⟩
  have m5:qe .add .i64 t5.i 1 = ((T + 1:Nat):Int):=by rw [add64 (by omega) (by omega)]; omega
  rw [m5]
  rw [hT] at hc5
  rw [hT]
  simp only [jar]
  refine ⟨by omega,by rw [qw hh5]; decide,by rw [qw hv5]; decide,⟨qc2 hh5,by omega,by omega,hv5,hvw5,hR5,fun j hj=>?_⟩,by omega⟩
  by_cases e:j = T
  ·rw [e,qcy hh5 (by omega),hc5 T (by omega),jaf (by omega),jah (by omega),qfl]
  ·rw [qa2 e,hc5 j hj]
   by_cases e2:j < T
   ·rw [jah (by omega),jah (by omega)]
   ·rw [jaf (by omega),jaf (by omega)]
 ·have e:qde [qae (qb h5.d 0) 8]:=fun j hj=>by
   rw [qbQ hj,qbs,hc5 j hj,jah (by omega)]; exact qge
  exact e
 ·have e:qaT (qd [qae (qb h5.d 0) 8] 8) = qen (kW (Z 1).d) (qaT (qd (Z 0).d 8)) (qau (qaG (Z 6).d (Z 3).i 64) 0):=by
   rw [qet,qen,<- hR5,qlU,qlU,qlU]
   have hc:∀ j,j < 8->qa h5.d j = ofW (toW (qa (Z 0).d j) + toW (qa v5.d j)):=fun j hj=>by rw [hc5 j hj,jah (by omega)]
   rw [hc 0 (by omega),hc 1 (by omega),hc 2 (by omega),hc 3 (by omega),hc 4 (by omega),hc 5 (by omega),hc 6 (by omega),hc 7 (by omega)]
   simp only [qbI,q39]
  exact e
theorem qw9 {l:List Int} {o:Nat}:qau ((l.drop o).take 64) 0 = qau l o:=by
 unfold qau
 refine jbt fun t ht=>?_
 have ht:=jb5.1 ht
 have e:∀ j,j < 64->((l.drop o).take 64).getD j 0 = l.getD (o + j) 0:=fun j hj=>by
  rw [jad,jad,jbh,jah hj,jbd]
 unfold qja
 rw [e _ (by omega),e _ (by omega),e _ (by omega),e _ (by omega),show o + (0 + 4 * t) = o + 4 * t by omega,show o + (0 + 4 * t + 1) = o + 4 * t + 1 by omega,show o + (0 + 4 * t + 2) = o + 4 * t + 2 by omega,show o + (0 + 4 * t + 3) = o + 4 * t + 3 by omega]
theorem q55 {d:qf} (h:qde d) {k:Nat} (hk:k < 8):(stL (qaT (qd d 8))).getD k 0 = qa d k:=by
 have h8:stL (qaT (qd d 8)) = [ofW (toW (qa d 0)),ofW (toW (qa d 1)),ofW (toW (qa d 2)),ofW (toW (qa d 3)),ofW (toW (qa d 4)),ofW (toW (qa d 5)),ofW (toW (qa d 6)),ofW (toW (qa d 7))]:=rfl
 rw [h8,qbf (h 0 (by omega)),qbf (h 1 (by omega)),qbf (h 2 (by omega)),qbf (h 3 (by omega)),qbf (h 4 (by omega)),qbf (h 5 (by omega)),qbf (h 6 (by omega)),qbf (h 7 (by omega))]
 match k,hk with
 | 0,_=>rfl
 | 1,_=>rfl
 | 2,_=>rfl
 | 3,_=>rfl
 | 4,_=>rfl
 | 5,_=>rfl
 | 6,_=>rfl
 | 7,_=>rfl
theorem qwr {d:qf} (h:qde d) {t:Nat} (ht:t < 32):(qd3 (qaT (qd d 8)))[t]?.getD 0 = ((qa d (t / 4)).fdiv (2 ^ (24 - 8 * (t % 4)))) % 256:=by
 rw [<- q55 h (by omega)]
 simp [qd3,ht]
theorem q95 {x:Nat} (h:x <= 24):qe .sub .u64 24 (x:Int) = ((24 - x:Nat):Int):=by
 show IntKind.u64.wrap (24 - (x:Int)) = _
 rw [qj4]; omega
theorem qz7 {x:Nat} (h:x < 18446744073709551616):IntKind.u64.wrap (x:Int) = (x:Int):=by rw [qj4]; omega
theorem q84 {x:Nat} (h:x < 1000000000000000):qe .mul .u64 8 (x:Int) = ((8 * x:Nat):Int):=q8a (x:=8) (by omega)
theorem q7O:qpS.ok Tryz.prog:=q7z (by simp [q4d]) fun Z hg hp=>by
 obtain ⟨hl,hle,hB,hw64,hw8⟩:=hp
 simp (config:={ maxSteps:=2000000 }) [q1z,qpS,q6v,q6c,q6q,q6j,qpD,qme]
 have hbl:(bI (Z 3).d).length = (Z 3).d.length:=bI_len
 refine ⟨by omega,by omega,by omega,by omega,by omega,⟨⟨fun j hj=>qbQ (f:=qa (Z 5).d) (n:=64) hj,⟨_,rfl,rfl⟩,⟨_,rfl,rfl⟩,by omega,?_⟩,fun j hj=>qbQ (f:=qa (Z 6).d) (n:=8) hj,0,by omega,?_⟩,fun k _ h _ n _ m _ hk hk1 hh hn hmB hh2 z hz hm=>⟨by omega,fun hne=>?_,fun heq=>?_⟩⟩
 ·refine qhK (q7e hB) fun r hr=>?_
  obtain rfl:=jaj.1 hr
  decide
 ·rw [qj2,ja3 (by omega)]; rfl
 ·have hml:m.d.length = (Z 3).d.length + 1 + z:=by
   have:=congrArg List.length hm
   rw [bI_len,jal,hbl,jba,ja4] at this; omega
  rw [hn,qqw] at hne
  have hzlt:z < qhJ (Z 3).d.length:=by unfold qhJ at hz ⊢; omega
  refine ⟨hn,by unfold qhJ at hz; omega,⟨⟨hk,hk1,hh,hn,qhK hmB fun r hr=>?_⟩,hh2,z + 1,hzlt,?_⟩,by omega⟩
  ·obtain rfl:=jaj.1 hr
   decide
  ·rw [qj2,hm,List.replicate_succ',<- jd0,<- jbu]; rfl
 ·have hml:m.d.length = (Z 3).d.length + 1 + z:=by
   have:=congrArg List.length hm
   rw [bI_len,jal,hbl,jba,ja4] at this; omega
  rw [hn,qqw] at heq
  have hzz:z = qhJ (Z 3).d.length:=by unfold qhJ at hz ⊢; omega
  rw [hzz] at hm
  refine ⟨⟨⟨hk,hk1,hh,hn,hmB⟩,hh2,?_,hm⟩,fun k2 _ h2 _ n2 _ m2 _ i _ q _ hk2 hk3 hh3 hn2 hmB2 hh4 i0 i1 hq hm2=>⟨fun hi=>?_,fun hi=>⟨⟨⟨hk2,hk3,hh3,hn2,hmB2⟩,?_,?_,0,rfl,by omega,?_⟩,fun k4 _ h4 _ n4 _ c4 _ m4 _ t _ hk4 hk5 hh5 hn4 hmB4 hw4 hm4 x hx hxl hst=>?_⟩⟩⟩
  ·rw [hl,qz7 (by omega)]
   exact (q8a (x:=(Z 3).d.length) (y:=8) (by omega)).trans (by omega)
  ·obtain ⟨I,hI⟩:∃ I:Nat,i.i = I:=⟨i.i.toNat,by omega⟩
   have m1:qe .sub .i64 i.i 1 = i.i - 1:=by rw [Go.Proofs.sub64 (by omega) (by omega)]
   have hml2:m2.d.length <= (Z 3).d.length + 1 + qhJ (Z 3).d.length + 8:=by
    have:=congrArg List.length hm2
    rw [bI_len,jal,hbl,jba,jal,ja4,jbm,qaq] at this; omega
   have hp64:qhJ (Z 3).d.length <= 63:=by unfold qhJ; omega
   rw [m1,hI,qz7 (by omega),q84 (by omega),qrv (by omega),qgv,hq]
   rw [hI] at hm2
   refine ⟨by omega,hn2,by omega,⟨⟨hk2,hk3,hh3,hn2,qhK hmB2 fun r hr=>?_⟩,hh4,by omega,by omega,rfl,?_⟩,by omega⟩
   ·obtain rfl:=jaj.1 hr
    show 0 <= _ % 256/\_ % 256 < 256
    omega
   ·have hg:=qqA (v:=(Z 1).i * 8) (n:=8) (j:=7 - I) (by omega)
    rw [show 8 - 1 - (7 - I) = I by omega] at hg
    rw [show (7 - ((I:Int) - 1)).toNat = (7 - I) + 1 by omega,jd9,jac (by rw [qaq]; omega)]
    rw [jac (by rw [qaq]; omega)] at hg
    rw [qj2,hm2,show (7 - (I:Int)).toNat = 7 - I by omega,<- hg]
    simp [bI,qaJ,qS]
  ·exact fun j hj=>by rw [hh4 j hj]; exact hw8 j hj
  ·have h8:(7 - i.i).toNat = 8:=by omega
   rw [hm2,h8,ja3 (by rw [qaq]; omega),qcN,hbl,hl]
   rfl
  ·exact congrArg qaT (qdW hh4)
  ·have hpl:=q58 (m:=bI (Z 3).d)
   have hml4:m4.d.length = (qcN (bI (Z 3).d)).length:=by rw [<- hm4,bI_len]
   refine ⟨by omega,fun hlt=>⟨by rw [qw hh5]; decide,by rw [qw hk5]; decide,fun hcap=>?_⟩,fun hge=>⟨⟨hh5,hw4,?_,⟨_,rfl,rfl⟩,fun j hj=>absurd hj (by omega)⟩,fun h6 _ d6 _ t6 _ hh6 hw6 hst6 hd6 s0 s1 hc6=>⟨fun hlt=>?_,fun hge2=>⟨by rw [qw hd6]; decide,?_⟩⟩⟩⟩
   ·have m1:qe .add .i64 t.i 64 = t.i + 64:=by rw [Go.Proofs.add64 (by omega) (by omega)]
    have h9:64 * x + 64 <= m4.d.length:=by omega
    rw [jaf (by omega),m1]
    refine ⟨by omega,by omega,by omega,by omega,⟨fun j hj=>?_,fun j hj=>?_,by omega,by omega,by omega,hmB4⟩,fun g _ hgw hgs=>?_⟩
    ·have:qa [qae (qb h4.d 0) 8] j = qa h4.d j:=(qbQ hj).trans qbs
     exact (congrArg isW this).mpr (hw4 j hj)
    ·have:qa [qae (qb k4.d 0) 64] j = qa (Z 5).d j:=((qbQ hj).trans qbs).trans (hk4 j hj)
     exact (congrArg isW this).mpr (hw64 j hj)
    ·rw [qxK hh5 rfl]
     have hgs':qaT (qd g.d 8) = qen (kW [qae (qb k4.d 0) 64]) (qaT (qd [qae (qb h4.d 0) 8] 8)) (qau (qaG m4.d t.i 64) 0):=hgs
     have e1:kW [qae (qb k4.d 0) 64] = kW (Z 5).d:=by
      unfold kW; rw [qet]; exact congrArg qd2 (qdW hk4)
     have e2:qau (qaG m4.d t.i 64) 0 = qau (qcN (bI (Z 3).d)) (64 * x):=by
      rw [qaG,hm4,hx,show ((64:Int) * (x:Int)).toNat = 64 * x by omega]
      exact qw9
     rw [e1,e2,qet,hst] at hgs'
     refine ⟨⟨⟨hk4,hk5,⟨_,rfl,rfl⟩,hn4,hmB4⟩,fun j hj=>?_,hm4,x + 1,by omega,by omega,?_⟩,by omega⟩
     ·have:qa [qae (qa g.d) 8] j = qa g.d j:=qbQ hj
      exact (congrArg isW this).mpr (hgw j hj)
     ·have e3:qaT (qd [qae (qa g.d) 8] 8) = qfV (kW (Z 5).d) (qaT (qd (Z 6).d 8)) (qcN (bI (Z 3).d)) (x + 1):=by
       rw [qjY,hgs',qfV]
      exact e3
   ·rw [hst]
    refine congrArg _ ?_
    omega
   ·obtain ⟨T,hT⟩:∃ T:Nat,t6.i = T:=⟨t6.i.toNat,by omega⟩
    have m3:qe .add .i64 t6.i 1 = ((T + 1:Nat):Int):=by rw [Go.Proofs.add64 (by omega) (by omega)]; omega
    have m1:qe .sub .u64 24 (qe .mul .u64 8 (IntKind.u64.wrap (qe .rem .i64 t6.i 4))) = ((24 - 8 * (T % 4):Nat):Int):=by
     rw [hT,q8E,qz7 (by omega),q84 (by omega),q95 (by omega)]
    rw [m1,m3,hT,q8X (by omega),qx9 (by omega),qgv]
    rw [hT] at hc6
    simp only [jar]
    refine ⟨by omega,by omega,by rw [qw hh6]; decide,by omega,by omega,by rw [qw hd6]; decide,⟨hh6,hw6,hst6,qc2 hd6,by omega,by omega,fun j hj=>?_⟩,by omega⟩
    by_cases ej:j = T
    ·rw [ej,qcy hd6 (by omega),qwr hw6 (by omega)]
    ·rw [qa2 ej,hc6 j (by omega)]
   ·have e:qd [qdk (qb d6.d 0)] 32 = qd3 (qaT (qd h6.d 8)):=qq4 qjN fun j hj=>by
     rw [qiD hj,qbs]; exact hc6 j (by omega)
    rw [hst6] at e
    exact e
theorem qo5:∀ x ∈ qM,isW x:=by unfold isW; decide
theorem q23:∀ x ∈ qmL,isW x:=by unfold isW; decide
theorem q4p {d:qf} (h:qd d 64 = qM):kW d = qd2 qM:=by rw [kW,h]
theorem qyO {d:qf} (h:qd d 64 = qM):qrl d:=fun j hj=>by
 rw [<- qfQ hj,h]
 refine qo5 _ ?_
 rw [jad,jac (by rw [qfe]; exact hj)]
 exact jbz _
theorem q17 {d:qf} (h:qd d 8 = qmL):qde d:=fun j hj=>by
 rw [<- qfQ hj,h]
 refine q23 _ ?_
 rw [jad,jac (by show j < 8; exact hj)]
 exact jbz _
theorem q4A {d:qf} (h:d = [qM.map (Value.int .u32)]):qd d 64 = qM:=qq4 qfe fun j hj=>by
 rw [h,qrT hj,jad]
theorem q6Y:qpU.ok Tryz.prog:=q7g (by simp [q7O]) fun Z hg hp=>by
 obtain ⟨hl,hle,hB,hGr,hGd⟩:=hp
 simp (config:={ maxSteps:=2000000 }) [q1k,qpU,qpS,gOk]
 have ek:qd [qae (qb (Z 6).d 0) 64] 64 = qM:=qet.trans (q4A hGd)
 refine ⟨hGr,by rw [hGd]; decide,⟨hl,hle,hB,qyO ek,q17 rfl⟩,fun d _ hd=>?_⟩
 have hd':qd d.d 32 = q4q (kW [qae (qb (Z 6).d 0) 64]) (qaT qmL) (bI (Z 3).d):=hd
 rw [q4p ek] at hd'
 exact hd'
set_option maxRecDepth 100000
def qvN:Out:=(.br (.cmp .leq (tl 1) (tv 0))
 (.br (.cmp .leq (tv 0) (tv 1))
 (.br (.cmp .leq (tv 1) (tv 2))
 (.ret 0 (sg 3 [bt 3 (.cmp .leq (tv 2) (tl 255))]))
 (.ret 0 (sg 3 [bt 3 (.bl false)])))
 (.ret 0 (sg 3 [bt 3 (.bl false)])))
 (.ret 0 (sg 3 [bt 3 (.bl false)])))
theorem q1Q:qn Tryz.prog qfM [] [] qvN:=qh Tryz.func86 Tryz.call86 (by kernel_rfl)
def quH:Out:=(.fresh 10 (.pre 0 (sg 0 [bv 2 2,bv 1 1,bv 0 0]) (.both (.fresh 11 (.post 0 0 (sg 0 [bv 2 2,bv 1 1,bv 0 0]) 11 (.br (.not (tv 11))
 (.ret 0 (sg 10 [bt 10 (tl 2)]))
 (.br (.cmp .lss (tv 3) (tl 0))
 (.ret 0 (sg 10 [bt 10 (tl 2)]))
 (.br (.cmp .gtr (tv 3) (tl 8192))
 (.ret 0 (sg 10 [bt 10 (tl 2)]))
 (.need (.cmp .leq (tl 0) (tv 6)) (.br (.cmp .neq (tv 6) (tv 2))
 (.ret 0 (sg 10 [bt 10 (tl 2)]))
 (.ret 0 (sg 10 [bt 10 (tl 0)]))))))))) .top)))
theorem q1r:qn Tryz.prog qfF [qfM] [] quH:=qh Tryz.func74 Tryz.call74 (by kernel_rfl)
@[simp] def qnn:Sg:=sg 0 [bv 9 8,bt 7 (tl 2),bt 6 (.dapp (.rcons (.vint .u8 (.conv .u8 (.arith .shr .i64 (tv 0) (tl 8)))) .rnil) (.rcons (.vint .u8 (.conv .u8 (tv 0))) .rnil)),bv 1 11,bt 5 (tl 2),bt 4 (tl 2),bt 3 (tl 0),bg 2 12,bg 0 10,bg 8 7]
def qrG:Out:=(.fresh 9 (.pre 0 (sg 0 []) (.both (fr 10 2 (.post 0 0 (sg 0 []) 10 (.fresh 12 (.pre 1 qnn (.both (.fresh 13 (.post 1 0 qnn 13 (.pre 1 (sg 0 [bv 9 8,bv 7 6,bv 6 5,bv 1 13,bv 5 4,bv 4 3,bv 3 2,bg 2 1,bg 0 10,bg 8 7]) (.both (.fresh 14 (.post 1 0 (sg 0 [bv 9 8,bv 7 6,bv 6 5,bv 1 13,bv 5 4,bv 4 3,bv 3 2,bg 2 1,bg 0 10,bg 8 7]) 14 (.pre 2 (sg 0 [bv 3 8,bv 1 14,bg 0 10,bg 2 7]) (.both (.fresh 15 (.post 2 0 (sg 0 [bv 3 8,bv 1 14,bg 0 10,bg 2 7]) 15 (.ret 0 (sg 9 [bt 9 (r8 15)])))) .top)))) .top)))) .top))))) .top)))
theorem q0D:qn Tryz.prog qeC [qe3,qh6,qnP] [] qrG:=qh Tryz.func88 Tryz.call88 (by kernel_rfl)
@[simp] def qkq:Sg:=sg 0 [bv 6 52,bv 5 51,bv 4 50,bg 3 49,bv 2 48,bv 1 47,bg 0 46]
@[simp] def qoG:Sg:=sg 0 [bt 6 .dnil,bt 5 (tl 0),bt 4 (tl 0),(3,.nil),bt 2 (.bl false),bv 1 13,bt 7 (tl 19713),bg 0 12]
@[simp] def qoX:Sg:=sg 0 [bt 8 (.rcons (i8 8 53 0) (.rcons (i8 8 53 1) (.rcons (i8 8 53 2) (.rcons (i8 8 53 3) (.rcons (i8 8 53 4) (.rcons (i8 8 53 5) (.rcons (i8 8 53 6) (.rcons (i8 8 53 7) (.rcons (i8 8 53 8) (.rcons (i8 8 53 9) (.rcons (i8 8 53 10) (.rcons (i8 8 53 11) (.rcons (i8 8 53 12) (.rcons (i8 8 53 13) (.rcons (i8 8 53 14) (.rcons (i8 8 53 15) (.rcons (i8 8 53 16) (.rcons (i8 8 53 17) (.rcons (i8 8 53 18) (.rcons (i8 8 53 19) (.rcons (i8 8 53 20) (.rcons (i8 8 53 21) (.rcons (i8 8 53 22) (.rcons (i8 8 53 23) (.rcons (i8 8 53 24) (.rcons (i8 8 53 25) (.rcons (i8 8 53 26) (.rcons (i8 8 53 27) (.rcons (i8 8 53 28) (.rcons (i8 8 53 29) (.rcons (i8 8 53 30) (.rcons (i8 8 53 31) .rnil)))))))))))))))))))))))))))))))),bv 6 52,bv 5 51,bv 4 50,bg 3 49,bv 2 48,bv 1 47,bg 7 54,bg 0 46]
@[simp] def qpo:Sg:=sg 0 [bt 8 (.rcons (.vint .i64 (tv 0)) (.rcons (.vint .i64 (tv 1)) (.rcons (.vint .i64 (tv 2)) (.rcons (.vint .i64 (tv 3)) (.rcons (x8 0 4) (.rcons (x8 1 4) (.rcons (x8 2 4) (.rcons (x8 3 4) (.rcons (x8 4 4) (.rcons (x8 5 4) (.rcons (x8 6 4) (.rcons (x8 7 4) (.rcons (x8 8 4) (.rcons (x8 9 4) (.rcons (x8 10 4) (.rcons (x8 11 4) (.rcons (x8 12 4) (.rcons (x8 13 4) (.rcons (x8 14 4) (.rcons (x8 15 4) (.rcons (x8 16 4) (.rcons (x8 17 4) (.rcons (x8 18 4) (.rcons (x8 19 4) (.rcons (x8 20 4) (.rcons (x8 21 4) (.rcons (x8 22 4) (.rcons (x8 23 4) (.rcons (x8 24 4) (.rcons (x8 25 4) (.rcons (x8 26 4) (.rcons (x8 27 4) (.rcons (x8 28 4) (.rcons (x8 29 4) (.rcons (x8 30 4) (.rcons (x8 31 4) (.rcons (.vslice 5 (tl 0) (tv 6) (tv 7) 32) .rnil))))))))))))))))))))))))))))))))))))),bv 6 40,bv 5 39,bv 4 38,bg 3 37,bv 2 36,bv 1 13,bg 7 10,bg 0 12]
def qv4:Out:=(.fresh 10 (.pre 0 (sg 0 [bv 9 9,bv 8 8,bv 7 7,bv 6 6,bg 5 5,bv 3 3,bv 2 2,bv 1 1,bv 0 0,bt 4 (r8 4)]) (.both (.fresh 11 (.post 0 0 (sg 0 [bv 9 9,bv 8 8,bv 7 7,bv 6 6,bg 5 5,bv 3 3,bv 2 2,bv 1 1,bv 0 0,bt 4 (r8 4)]) 11 (.br (.cmp .neq (tv 11) (tl 0))
 (.need (.cmp .eql (tl 2) (tv 11)) (.ret 0 (sg 10 [])))
 (.pre 1 (sg 0 [bt 0 (.arith .add .i64 (tl 39) (.arith .mul .i64 (tl 32) (tv 2)))]) (.both (fr 12 4 (.post 1 0 (sg 0 [bt 0 (.arith .add .i64 (tl 39) (.arith .mul .i64 (tl 32) (tv 2)))]) 12 (.pre 3 qoG (.both (fr 16 5 (.post 3 0 qoG 16 (.pre 2 (sg 0 [bv 6 20,bv 5 19,bv 4 18,bg 3 17,bv 2 16,bv 1 13,bt 7 (.conv .u8 (tv 0)),bg 0 12]) (.both (fr 21 5 (.post 2 0 (sg 0 [bv 6 20,bv 5 19,bv 4 18,bg 3 17,bv 2 16,bv 1 13,bt 7 (.conv .u8 (tv 0)),bg 0 12]) 21 (.pre 2 (sg 0 [bv 6 25,bv 5 24,bv 4 23,bg 3 22,bv 2 21,bv 1 13,bt 7 (.conv .u8 (tv 1)),bg 0 12]) (.both (fr 26 5 (.post 2 0 (sg 0 [bv 6 25,bv 5 24,bv 4 23,bg 3 22,bv 2 21,bv 1 13,bt 7 (.conv .u8 (tv 1)),bg 0 12]) 26 (.pre 2 (sg 0 [bv 6 30,bv 5 29,bv 4 28,bg 3 27,bv 2 26,bv 1 13,bt 7 (.conv .u8 (tv 2)),bg 0 12]) (.both (fr 31 5 (.post 2 0 (sg 0 [bv 6 30,bv 5 29,bv 4 28,bg 3 27,bv 2 26,bv 1 13,bt 7 (.conv .u8 (tv 2)),bg 0 12]) 31 (.pre 3 (sg 0 [bv 6 35,bv 5 34,bv 4 33,bg 3 32,bv 2 31,bv 1 13,bt 7 (.conv .u16 (tv 3)),bg 0 12]) (.both (fr 36 5 (.post 3 0 (sg 0 [bv 6 35,bv 5 34,bv 4 33,bg 3 32,bv 2 31,bv 1 13,bt 7 (.conv .u16 (tv 3)),bg 0 12]) 36 (.pre 4 qpo (.both (fr 41 5 (.post 4 0 qpo 41 (.need (.cmp .leq (tl 0) (tv 6)) (.inv 0 46 (sg 1000 [bv 1006 45,bv 1005 44,bv 1004 43,bg 1003 42,bv 1002 41,bv 1001 13,bt 1007 (tl 0),bg 1000 12]) (fr 46 8 (.hyp 0 46 (.br (.cmp .lss (tv 53) (tv 6))
 (.need (.cmp .leq (tl 0) (tv 53)) (.need (.cmp .lss (tv 53) (.dlen (tv 8))) (.fresh 54 (.pre 5 qoX (.both (fr 55 5 (.post 5 0 qoX 55 (.back 0 46 (sg 1000 [bv 1006 59,bv 1005 58,bv 1004 57,bg 1003 56,bv 1002 55,bv 1001 47,bt 1007 (.arith .add .i64 (tv 53) (tl 1)),bg 1000 46])))) .top)))))
 (.pre 6 qkq (.both (.post 6 0 qkq 54 (.stuck 7 0 0)) (.both (fr 54 4 (.post 6 1 qkq 54 (.ret 1 (sg 10 [bv 13 56,bv 12 55,bv 11 50,bg 10 54])))) .top)))))))))) .top)))) .top)))) .top)))) .top)))) .top)))) .top)))) .top))))) .top)))
theorem q1D:qn Tryz.prog qj5 [qfF,qfj,u8C,qv0,qoI,qlT,qlr] [qy0] qv4:=qh Tryz.func73 Tryz.call73 (by kernel_rfl)
@[simp] def qnM:Sg:=sg 0 [bv 8 9,bv 7 8,bv 1 1,bv 6 7,bv 5 6,bg 4 5,bv 3 4,bv 2 2,bg 0 0]
@[simp] def qkg:Sg:=sg 0 [bv 7 11,bv 5 9,bv 4 8,bv 3 7,bv 2 6,bt 1 (tl 0),bg 0 5,bg 6 10]
@[simp] def qwa:Sg:=sg 0 [bv 8 11,bv 6 35,bv 5 36,bv 4 35,bt 3 (.dlen (tv 36)),bt 2 (tl 0),bg 1 34,bt 0 (.icell (tv 29) (tv 26) 0),bg 7 10]
@[simp] def qun:Sg:=sg 0 [bv 8 11,bv 6 33,bv 5 34,bv 4 33,bt 3 (.dlen (tv 34)),bt 2 (tl 0),bg 1 32,bt 0 (.icell (tv 27) (tv 24) 0),bg 7 10]
def q2R:Out:=(.fresh 12 (.br (.and (.cmp .eql (.dlen (tv 1)) (tl 0)) (.isnil 0))
 (.ret 0 (sg 12 [bv 13 1,bt 12 (tl 1)]))
 (.pre 0 (sg 0 [bv 2 4,bv 1 3,bv 0 2]) (.both (.fresh 13 (.post 0 0 (sg 0 [bv 2 4,bv 1 3,bv 0 2]) 13 (.br (.not (tv 13))
 (.ret 0 (sg 12 [bv 13 1,bt 12 (tl 2)]))
 (.pre 1 qnM (.both (fr 14 2 (.post 1 0 qnM 14 (.br (.cmp .neq (tv 14) (tl 0))
 (.ret 0 (sg 12 [bv 13 15,bv 12 14]))
 (.need (.cmp .leq (tl 0) (tv 6)) (.pre 2 qkg (.both (.fresh 16 (.post 2 0 qkg 16 (.fresh 17 (.pack [] 18 (.need (.cmp .eql (tv 4) (tl 0)) (.inv 0 19 (sg 1000 [bg 1011 18,bt 1008 .dnil,bt 1007 .dnil,bt 1006 (tl 0),(1004,.nil),bt 1003 (r8 16),bv 1010 15,bt 1005 (tl 0),bg 1002 17,bt 1009 (tl 0),(1001,.nil),bg 1000 12]) (fr 19 12 (.hyp 0 19 (.br (.cmp .lss (tv 24) (tv 4))
 (.need (.cmp .leq (tl 0) (tv 24)) (.need (.cmp .lss (tv 24) (.dlen (tv 27))) (.fresh 31 (.both (.viewL (.vcell (tv 27) (tv 24) 1) [CK.int .u8] [30] 32 (.pre 3 qun (.both (.fresh 35 (.post 3 0 qun 35 (.both (.fresh 36 (.both (.need (.cmp .eql (tv 24) (.dlen (tv 26))) (.need (.cmp .leq (.tims (tl 32) (.plus (tv 24) (tl 1))) (tl 140737488355328)) (fr 37 2 (.both (.both (.pack [.cells 36 24 [(x8 0 35),(x8 1 35),(x8 2 35),(x8 3 35),(x8 4 35),(x8 5 35),(x8 6 35),(x8 7 35),(x8 8 35),(x8 9 35),(x8 10 35),(x8 11 35),(x8 12 35),(x8 13 35),(x8 14 35),(x8 15 35),(x8 16 35),(x8 17 35),(x8 18 35),(x8 19 35),(x8 20 35),(x8 21 35),(x8 22 35),(x8 23 35),(x8 24 35),(x8 25 35),(x8 26 35),(x8 27 35),(x8 28 35),(x8 29 35),(x8 30 35),(x8 31 35)],.cells 31 86 [(.vint .i64 (.icell (tv 27) (tv 24) 0)),(.vcell (tv 27) (tv 24) 1)],.abs 30 2] 39 (.need (.cmp .eql (.arith .add .i64 (tv 24) (tl 1)) (.plus (tv 24) (tl 1))) (.back 0 19 (sg 1000 [bg 1011 39,bv 1008 27,bt 1007 (.dapp (tv 26) (r8 35)),bv 1006 38,bg 1004 37,bt 1003 (r8 22),bv 1010 29,bt 1005 (.arith .add .i64 (tv 24) (tl 1)),bg 1002 21,bv 1009 28,bg 1001 20,bg 1000 19])))) .top) .top)))) .top)) .top))) .top))) .top))))
 (.pack [.cells 19 27 [(.vint .i64 (tv 2)),(.vint .i64 (tv 3)),(.vint .i64 (tv 4)),(.vint .i64 (tv 6)),(x8 0 22),(x8 1 22),(x8 2 22),(x8 3 22),(x8 4 22),(x8 5 22),(x8 6 22),(x8 7 22),(x8 8 22),(x8 9 22),(x8 10 22),(x8 11 22),(x8 12 22),(x8 13 22),(x8 14 22),(x8 15 22),(x8 16 22),(x8 17 22),(x8 18 22),(x8 19 22),(x8 20 22),(x8 21 22),(x8 22 22),(x8 23 22),(x8 24 22),(x8 25 22),(x8 26 22),(x8 27 22),(x8 28 22),(x8 29 22),(x8 30 22),(x8 31 22),(.vslice 23 (tl 0) (tv 24) (tv 25) 32)],.cells 21 27 [(.vint .i64 (tv 2)),(.vint .i64 (tv 3)),(.vint .i64 (tv 4)),(.vint .i64 (tv 6)),(x8 0 22),(x8 1 22),(x8 2 22),(x8 3 22),(x8 4 22),(x8 5 22),(x8 6 22),(x8 7 22),(x8 8 22),(x8 9 22),(x8 10 22),(x8 11 22),(x8 12 22),(x8 13 22),(x8 14 22),(x8 15 22),(x8 16 22),(x8 17 22),(x8 18 22),(x8 19 22),(x8 20 22),(x8 21 22),(x8 22 22),(x8 23 22),(x8 24 22),(x8 25 22),(x8 26 22),(x8 27 22),(x8 28 22),(x8 29 22),(x8 30 22),(x8 31 22),(.vslice 23 (tl 0) (tv 24) (tv 25) 32)],.abs 30 2] 31 (.need (.cmp .eql (tv 4) (tv 24)) (.ret 1 (sg 12 [bg 20 31,bv 19 27,bv 18 26,bv 17 29,bv 16 28,bg 15 20,bv 14 25,bg 13 23,bt 12 (r8 22)]))))))))))))) .top)))))) (.both (fr 14 5 (.post 1 1 qnM 14 (.need (.cmp .leq (tl 0) (tv 6)) (.pre 2 qkg (.both (.fresh 19 (.post 2 0 qkg 19 (.fresh 20 (.need (.cmp .leq (tl 0) (tv 4)) (.inv 0 21 (sg 1000 [bg 1011 18,bv 1008 17,bt 1007 .dnil,bt 1006 (tl 0),(1004,.nil),bt 1003 (r8 19),bv 1010 16,bt 1005 (tl 0),bg 1002 20,bv 1009 15,bg 1001 14,bg 1000 12]) (fr 21 12 (.hyp 0 21 (.br (.cmp .lss (tv 26) (tv 4))
 (.need (.cmp .leq (tl 0) (tv 26)) (.need (.cmp .lss (tv 26) (.dlen (tv 29))) (.fresh 33 (.both (.viewL (.vcell (tv 29) (tv 26) 1) [CK.int .u8] [32] 34 (.pre 3 qwa (.both (.fresh 37 (.post 3 0 qwa 37 (.both (.fresh 38 (.both (.need (.cmp .eql (tv 26) (.dlen (tv 28))) (.need (.cmp .leq (.tims (tl 32) (.plus (tv 26) (tl 1))) (tl 140737488355328)) (fr 39 2 (.both (.both (.pack [.cells 38 24 [(x8 0 37),(x8 1 37),(x8 2 37),(x8 3 37),(x8 4 37),(x8 5 37),(x8 6 37),(x8 7 37),(x8 8 37),(x8 9 37),(x8 10 37),(x8 11 37),(x8 12 37),(x8 13 37),(x8 14 37),(x8 15 37),(x8 16 37),(x8 17 37),(x8 18 37),(x8 19 37),(x8 20 37),(x8 21 37),(x8 22 37),(x8 23 37),(x8 24 37),(x8 25 37),(x8 26 37),(x8 27 37),(x8 28 37),(x8 29 37),(x8 30 37),(x8 31 37)],.cells 33 86 [(.vint .i64 (.icell (tv 29) (tv 26) 0)),(.vcell (tv 29) (tv 26) 1)],.abs 32 2] 41 (.need (.cmp .eql (.arith .add .i64 (tv 26) (tl 1)) (.plus (tv 26) (tl 1))) (.back 0 21 (sg 1000 [bg 1011 41,bv 1008 29,bt 1007 (.dapp (tv 28) (r8 37)),bv 1006 40,bg 1004 39,bt 1003 (r8 24),bv 1010 31,bt 1005 (.arith .add .i64 (tv 26) (tl 1)),bg 1002 23,bv 1009 30,bg 1001 22,bg 1000 21])))) .top) .top)))) .top)) .top))) .top))) .top))))
 (.pack [.cells 21 27 [(.vint .i64 (tv 2)),(.vint .i64 (tv 3)),(.vint .i64 (tv 4)),(.vint .i64 (tv 6)),(x8 0 24),(x8 1 24),(x8 2 24),(x8 3 24),(x8 4 24),(x8 5 24),(x8 6 24),(x8 7 24),(x8 8 24),(x8 9 24),(x8 10 24),(x8 11 24),(x8 12 24),(x8 13 24),(x8 14 24),(x8 15 24),(x8 16 24),(x8 17 24),(x8 18 24),(x8 19 24),(x8 20 24),(x8 21 24),(x8 22 24),(x8 23 24),(x8 24 24),(x8 25 24),(x8 26 24),(x8 27 24),(x8 28 24),(x8 29 24),(x8 30 24),(x8 31 24),(.vslice 25 (tl 0) (tv 26) (tv 27) 32)],.cells 23 27 [(.vint .i64 (tv 2)),(.vint .i64 (tv 3)),(.vint .i64 (tv 4)),(.vint .i64 (tv 6)),(x8 0 24),(x8 1 24),(x8 2 24),(x8 3 24),(x8 4 24),(x8 5 24),(x8 6 24),(x8 7 24),(x8 8 24),(x8 9 24),(x8 10 24),(x8 11 24),(x8 12 24),(x8 13 24),(x8 14 24),(x8 15 24),(x8 16 24),(x8 17 24),(x8 18 24),(x8 19 24),(x8 20 24),(x8 21 24),(x8 22 24),(x8 23 24),(x8 24 24),(x8 25 24),(x8 26 24),(x8 27 24),(x8 28 24),(x8 29 24),(x8 30 24),(x8 31 24),(.vslice 25 (tl 0) (tv 26) (tv 27) 32)],.abs 32 2] 33 (.need (.cmp .eql (tv 4) (tv 26)) (.ret 1 (sg 12 [bg 20 33,bv 19 29,bv 18 28,bv 17 31,bv 16 30,bg 15 22,bv 14 27,bg 13 25,bt 12 (r8 24)])))))))))))) .top))))) .top)))))) .top))))
theorem qqM:qn Tryz.prog qjS [qfM,qgB,qdO,qeC] [q6x] q2R:=qh Tryz.func43 Tryz.call43 (by kernel_rfl)
def qsx:Out:=(.br (.cmp .leq (tl 1) (tv 0))
 (.br (.cmp .leq (tv 0) (tv 1))
 (.ret 0 (sg 2 [bt 2 (.cmp .leq (tv 1) (tl 255))]))
 (.ret 0 (sg 2 [bt 2 (.bl false)])))
 (.ret 0 (sg 2 [bt 2 (.bl false)])))
theorem q08:qn Tryz.prog qe9 [] [] qsx:=qh Tryz.func109 Tryz.call109 (by kernel_rfl)
def qs9:Out:=(.br (.cmp .lss (tv 0) (tl 1))
 (.ret 0 (sg 2 [bt 3 (tl 2),bt 2 (tl 0)]))
 (.br (.cmp .gtr (tv 0) (tl 255))
 (.ret 0 (sg 2 [bt 3 (tl 2),bt 2 (tl 0)]))
 (.br (.cmp .lss (tv 1) (tl 0))
 (.ret 0 (sg 2 [bt 3 (tl 2),bt 2 (tl 0)]))
 (.br (.cmp .gtr (tv 1) (tl 8192))
 (.ret 0 (sg 2 [bt 3 (tl 2),bt 2 (tl 0)]))
 (.need (.cmp .neq (tv 0) (tl 0)) (.ret 0 (sg 2 [bt 3 (tl 0),bt 2 (.arith .quo .i64 (.arith .sub .i64 (.arith .add .i64 (tv 1) (tv 0)) (tl 1)) (tv 0))])))))))
theorem qzR:qn Tryz.prog qe7 [] [] qs9:=qh Tryz.func99 Tryz.call99 (by kernel_rfl)
def qtQ:Out:=(.fresh 2 (.need (.cmp .leq (tl 0) (.arith .mul .i64 (tv 0) (tv 1))) (.need (.cmp .leq (.tims (tl 1) (.arith .mul .i64 (tv 0) (tv 1))) (tl 281474976710656)) (.fresh 3 (.ret 0 (sg 2 [bt 5 (.drep (.arith .mul .i64 (tv 0) (tv 1)) (.rcons (.vint .u8 (tl 0)) .rnil)),bt 4 (.arith .mul .i64 (tv 0) (tv 1)),bt 3 (.arith .mul .i64 (tv 0) (tv 1)),bg 2 3]))))))
theorem q1R:qn Tryz.prog qdV [] [] qtQ:=qh Tryz.func165 Tryz.call165 (by kernel_rfl)
def qyo:Out:=(.fresh 8 (.need (.cmp .leq (tl 0) (tv 3)) (.need (.cmp .leq (tl 0) (tv 4)) (.need (.cmp .leq (tl 0) (.arith .mul .i64 (tv 7) (tv 1))) (.need (.cmp .leq (.arith .mul .i64 (tv 7) (tv 1)) (.arith .mul .i64 (.arith .add .i64 (tv 7) (tl 1)) (tv 1))) (.need (.cmp .leq (.arith .mul .i64 (.arith .add .i64 (tv 7) (tl 1)) (tv 1)) (tv 4)) (.ret 0 (sg 8 [bt 10 (.minus (.arith .mul .i64 (.arith .add .i64 (tv 7) (tl 1)) (tv 1)) (.arith .mul .i64 (tv 7) (tv 1))),bt 9 (.minus (.arith .mul .i64 (.arith .add .i64 (tv 7) (tl 1)) (tv 1)) (.arith .mul .i64 (tv 7) (tv 1))),bt 8 (.ife (.arith .mul .i64 (.arith .add .i64 (tv 7) (tl 1)) (tv 1)) (.arith .mul .i64 (tv 7) (tv 1)) (tl 0) (.arith .mul .i64 (tv 7) (tv 1)))]))))))))
theorem q5n:qn Tryz.prog qfA [] [] qyo:=qh Tryz.func123 Tryz.call123 (by kernel_rfl)
def qrJ:Out:=(.fresh 7 (.br (.cmp .geq (tv 0) (tl 1))
 (.br (.cmp .leq (tv 0) (tl 255))
 (.br (.cmp .geq (tv 1) (tl 1))
 (.br (.cmp .leq (tv 1) (tl 255))
 (.need (.cmp .leq (tl 0) (tv 3)) (.ret 0 (sg 7 [bt 7 (.cmp .eql (tv 3) (.arith .mul .i64 (tv 0) (tv 1)))])))
 (.ret 0 (sg 7 [bt 7 (.bl false)])))
 (.ret 0 (sg 7 [bt 7 (.bl false)])))
 (.ret 0 (sg 7 [bt 7 (.bl false)])))
 (.ret 0 (sg 7 [bt 7 (.bl false)]))))
theorem qzr:qn Tryz.prog qeE [] [] qrJ:=qh Tryz.func164 Tryz.call164 (by kernel_rfl)
def qs7:Out:=(fr 7 2 (.both (.fresh 9 (.both (.need (.cmp .leq (tl 0) (tv 3)) (.need (.cmp .leq (tv 3) (.dlen (tv 5))) (.need (.cmp .leq (.tims (tl 1) (tv 3)) (tl 140737488355328)) (fr 10 2 (.both (.both (.ret 0 (sg 7 [bt 9 (.dtake (tv 5) (tv 3)),bv 8 11,bg 7 10])) .top) .top))))) .top)) .top))
theorem qzo:qn Tryz.prog qhN [] [] qs7:=qh Tryz.func168 Tryz.call168 (by kernel_rfl)
def qy8:Out:=(.br (.cmp .eql (tv 14) (tl 0))
 (.ret 0 (sg 15 [bv 16 6,bv 15 1]))
 (.need (.cmp .leq (tl 0) (tv 10)) (.inv 0 15 (sg 1000 [bv 1002 6,bv 1001 1,bt 1000 (tl 0)]) (fr 15 3 (.hyp 0 15 (.br (.cmp .lss (tv 15) (tv 10))
 (.need (.cmp .leq (tl 0) (tv 15)) (.need (.cmp .leq (tl 0) (tv 9)) (.need (.cmp .leq (tl 0) (.plus (tv 9) (tv 15))) (.need (.cmp .lss (.plus (tv 9) (tv 15)) (.dlen (tv 12))) (.need (.cmp .lss (tv 15) (tv 4)) (.need (.cmp .leq (tl 0) (tv 3)) (.need (.cmp .leq (tl 0) (.plus (tv 3) (tv 15))) (.need (.cmp .lss (.plus (tv 3) (tv 15)) (.dlen (tv 17))) (.both (.pre 0 (sg 0 [bv 1 16,bt 3 (.icell (tv 12) (.plus (tv 9) (tv 15)) 0),bv 2 14,bg 0 0]) (.both (fr 18 2 (.post 0 0 (sg 0 [bv 1 16,bt 3 (.icell (tv 12) (.plus (tv 9) (tv 15)) 0),bv 2 14,bg 0 0]) 18 (.both (.back 0 15 (sg 1000 [bt 1002 (.dput (tv 17) (.plus (tv 3) (tv 15)) 0 (.rcons (.vint .u8 (.arith .xor .u8 (.icell (tv 17) (.plus (tv 3) (tv 15)) 0) (tv 18))) .rnil)),bv 1001 19,bt 1000 (.arith .add .i64 (tv 15) (tl 1))])) .top))) .top)) .top)))))))))
 (.ret 0 (sg 15 [bv 16 17,bv 15 16]))))))))
theorem q4g:qn Tryz.prog qeZ [qkH] [q0H] qy8:=qh Tryz.func124 Tryz.call124 (by kernel_rfl)
def qn9:Out:=(.br (.cmp .eql (tv 11) (tl 0))
 (.ret 0 (sg 12 [bv 13 6,bv 12 1]))
 (.need (.cmp .leq (tl 0) (tv 9)) (.inv 0 12 (sg 1000 [bv 1002 6,bv 1001 1,bt 1000 (tl 0)]) (fr 12 3 (.hyp 0 12 (.br (.cmp .lss (tv 12) (tv 9))
 (.need (.cmp .leq (tl 0) (tv 12)) (.need (.cmp .leq (tl 0) (tv 8)) (.need (.cmp .leq (tl 0) (.plus (tv 8) (tv 12))) (.need (.cmp .lss (.plus (tv 8) (tv 12)) (.dlen (tv 14))) (.need (.cmp .lss (tv 12) (tv 4)) (.need (.cmp .leq (tl 0) (tv 3)) (.need (.cmp .leq (tl 0) (.plus (tv 3) (tv 12))) (.need (.cmp .lss (.plus (tv 3) (tv 12)) (.dlen (tv 14))) (.both (.pre 0 (sg 0 [bv 1 13,bt 3 (.icell (tv 14) (.plus (tv 8) (tv 12)) 0),bv 2 11,bg 0 0]) (.both (fr 15 2 (.post 0 0 (sg 0 [bv 1 13,bt 3 (.icell (tv 14) (.plus (tv 8) (tv 12)) 0),bv 2 11,bg 0 0]) 15 (.both (.back 0 12 (sg 1000 [bt 1002 (.dput (tv 14) (.plus (tv 3) (tv 12)) 0 (.rcons (.vint .u8 (.arith .xor .u8 (.icell (tv 14) (.plus (tv 3) (tv 12)) 0) (tv 15))) .rnil)),bv 1001 16,bt 1000 (.arith .add .i64 (tv 12) (tl 1))])) .top))) .top)) .top)))))))))
 (.ret 0 (sg 12 [bv 13 14,bv 12 13]))))))))
theorem qt9:qn Tryz.prog qm0 [qkH] [qxS] qn9:=qh Tryz.func124 Tryz.call124 (by kernel_rfl)
def qxZ:Out:=(.need (.cmp .leq (tl 0) (tv 4)) (.inv 0 9 (sg 1000 [bv 1002 6,bv 1001 1,bt 1000 (tl 0)]) (fr 9 3 (.hyp 0 9 (.br (.cmp .lss (tv 9) (tv 4))
 (.need (.cmp .leq (tl 0) (tv 9)) (.need (.cmp .leq (tl 0) (tv 3)) (.need (.cmp .leq (tl 0) (.plus (tv 3) (tv 9))) (.need (.cmp .lss (.plus (tv 3) (tv 9)) (.dlen (tv 11))) (.pre 0 (sg 0 [bv 1 10,bv 3 8,bt 2 (.icell (tv 11) (.plus (tv 3) (tv 9)) 0),bg 0 0]) (.both (fr 12 2 (.post 0 0 (sg 0 [bv 1 10,bv 3 8,bt 2 (.icell (tv 11) (.plus (tv 3) (tv 9)) 0),bg 0 0]) 12 (.back 0 9 (sg 1000 [bt 1002 (.dput (tv 11) (.plus (tv 3) (tv 9)) 0 (.rcons (.vint .u8 (tv 12)) .rnil)),bv 1001 13,bt 1000 (.arith .add .i64 (tv 9) (tl 1))])))) .top))))))
 (.ret 0 (sg 9 [bv 10 11,bv 9 10])))))))
theorem q38:qn Tryz.prog qmt [qkH] [q1H] qxZ:=qh Tryz.func185 Tryz.call185 (by kernel_rfl)
def qxp:Out:=(.br (.and (.cmp .eql (.dlen (tv 1)) (tl 0)) (.isnil 0))
 (.ret 0 (sg 3 [bv 5 1,bt 4 (tl 1),bt 3 (tl 0)]))
 (.br (.cmp .eql (tv 2) (tl 0))
 (.ret 0 (sg 3 [bv 5 1,bt 4 (tl 2),bt 3 (tl 0)]))
 (.need (.cmp .lss (tl 0) (.dlen (tv 1))) (.pre 0 (sg 0 [bv 1 1,bg 0 0]) (.both (.fresh 3 (.post 0 0 (sg 0 [bv 1 1,bg 0 0]) 3 (.need (.cmp .lss (tl 0) (.dlen (tv 3))) (.need (.cmp .leq (tl 0) (tv 2)) (.need (.cmp .lss (tv 2) (tl 256)) (.need (.cmp .leq (tl 0) (.arith .sub .i64 (tl 255) (.c2 (.xint 513) (tv 3) (tv 2)))) (.need (.cmp .lss (.arith .sub .i64 (tl 255) (.c2 (.xint 513) (tv 3) (tv 2))) (tl 510)) (.ret 0 (sg 3 [bv 5 3,bt 4 (tl 0),bt 3 (.c2 (.xint 3) (tv 3) (.arith .sub .i64 (tl 255) (.c2 (.xint 513) (tv 3) (tv 2))))]))))))))) .top)))))
theorem q4i:qn Tryz.prog qmm [qdY] [] qxp:=qh Tryz.func184 Tryz.call184 (by kernel_rfl)
@[simp] def qlD:T:=.arith .rem .i64 (.arith .mul .i64 (.c2 (.xint 513) (tv 4) (tv 2)) (.arith .rem .i64 (tv 3) (tl 255))) (tl 255)
def qxT:Out:=(.br (.and (.cmp .eql (.dlen (tv 1)) (tl 0)) (.isnil 0))
 (.ret 0 (sg 4 [bv 5 1,bt 4 (tl 0)]))
 (.br (.cmp .leq (tv 3) (tl 0))
 (.ret 0 (sg 4 [bv 5 1,bt 4 (tl 1)]))
 (.br (.cmp .eql (tv 2) (tl 0))
 (.ret 0 (sg 4 [bv 5 1,bt 4 (tl 0)]))
 (.need (.cmp .lss (tl 0) (.dlen (tv 1))) (.pre 0 (sg 0 [bv 1 1,bg 0 0]) (.both (.fresh 4 (.post 0 0 (sg 0 [bv 1 1,bg 0 0]) 4 (.need (.cmp .lss (tl 0) (.dlen (tv 4))) (.need (.cmp .leq (tl 0) (tv 2)) (.need (.cmp .lss (tv 2) (tl 256)) (.need (.cmp .leq (tl 0) qlD) (.need (.cmp .lss qlD (tl 510)) (.ret 0 (sg 4 [bv 5 4,bt 4 (.c2 (.xint 3) (tv 4) qlD)]))))))))) .top))))))
theorem q44:qn Tryz.prog qla [qdY] [] qxT:=qh Tryz.func177 Tryz.call177 (by kernel_rfl)
def qo9:Out:=(.fresh 0 (.ret 0 (sg 0 [bt 1 (.rcons (.vint .u32 (tl 0)) (.rcons (.vint .i32 (tl 0)) (.rcons (.vint .u32 (tl 0)) (.rcons (.vint .u8 (tl 0)) (.rcons (.vint .u8 (tl 0)) (.rcons (.vint .u8 (tl 0)) (.rcons (.vint .u8 (tl 0)) (.rcons (.vint .u8 (tl 0)) (.rcons (.vint .u8 (tl 0)) (.rcons (.vint .u8 (tl 0)) (.rcons (.vint .u8 (tl 0)) (.rcons (.vint .u8 (tl 0)) (.rcons (.vint .u8 (tl 0)) (.rcons (.vint .u8 (tl 0)) (.rcons (.vint .u8 (tl 0)) (.rcons (.vint .u8 (tl 0)) (.rcons (.vint .u8 (tl 0)) (.rcons (.vint .u8 (tl 0)) (.rcons (.vint .u8 (tl 0)) (.rcons (.vint .u8 (tl 0)) (.rcons (.vint .u8 (tl 0)) (.rcons (.vint .u8 (tl 0)) (.rcons (.vint .u8 (tl 0)) (.rcons (.vint .u8 (tl 0)) (.rcons (.vint .u8 (tl 0)) (.rcons (.vint .u8 (tl 0)) (.rcons (.vint .u8 (tl 0)) (.rcons (.vint .u8 (tl 0)) (.rcons (.vint .u8 (tl 0)) (.rcons (.vint .u8 (tl 0)) (.rcons (.vint .u8 (tl 0)) (.rcons (.vint .u8 (tl 0)) (.rcons (.vint .u8 (tl 0)) (.rcons (.vint .u8 (tl 0)) (.rcons (.vint .u8 (tl 0)) (.rcons (.vint .u8 (tl 0)) (.rcons (.vint .u8 (tl 0)) (.rcons (.vint .u8 (tl 0)) (.rcons (.vint .u8 (tl 0)) (.rcons (.vint .u8 (tl 0)) (.rcons (.vint .u8 (tl 0)) (.rcons (.vint .u8 (tl 0)) (.rcons (.vint .u8 (tl 0)) (.rcons (.vint .u8 (tl 0)) (.rcons (.vint .u8 (tl 0)) (.rcons (.vint .u8 (tl 0)) (.rcons (.vint .u8 (tl 0)) (.rcons (.vint .u8 (tl 0)) (.rcons (.vint .u8 (tl 0)) (.rcons (.vint .u8 (tl 0)) (.rcons (.vint .u8 (tl 0)) (.rcons (.vint .u8 (tl 0)) (.rcons (.vint .u8 (tl 0)) (.rcons (.vint .u8 (tl 0)) (.rcons (.vint .u8 (tl 0)) (.rcons (.vint .u8 (tl 0)) (.rcons (.vint .u8 (tl 0)) (.rcons (.vint .u8 (tl 0)) (.rcons (.vint .u8 (tl 0)) (.rcons (.vint .u8 (tl 0)) (.rcons (.vint .u8 (tl 0)) (.rcons (.vint .u8 (tl 0)) (.rcons (.vint .u8 (tl 0)) (.rcons (.vint .u8 (tl 0)) (.rcons (.vint .u8 (tl 0)) (.rcons (.vint .u8 (tl 0)) (.rcons (.vint .u8 (tl 0)) (.rcons (.vint .u8 (tl 0)) (.rcons (.vint .u8 (tl 0)) (.rcons (.vint .u8 (tl 0)) (.rcons (.vint .u8 (tl 0)) (.rcons (.vint .u8 (tl 0)) (.rcons (.vint .u8 (tl 0)) (.rcons (.vint .u8 (tl 0)) (.rcons (.vint .u8 (tl 0)) (.rcons (.vint .u8 (tl 0)) (.rcons (.vint .u8 (tl 0)) (.rcons (.vint .u8 (tl 0)) (.rcons (.vint .u8 (tl 0)) (.rcons (.vint .u8 (tl 0)) (.rcons (.vint .u8 (tl 0)) (.rcons (.vint .u8 (tl 0)) (.rcons (.vint .u8 (tl 0)) (.rcons (.vint .u8 (tl 0)) (.rcons (.vint .u8 (tl 0)) (.rcons (.vint .u8 (tl 0)) (.rcons (.vint .u8 (tl 0)) (.rcons (.vint .u8 (tl 0)) (.rcons (.vint .u8 (tl 0)) (.rcons (.vint .u8 (tl 0)) (.rcons (.vint .u8 (tl 0)) (.rcons (.vint .u8 (tl 0)) (.rcons (.vint .u8 (tl 0)) (.rcons (.vint .u8 (tl 0)) (.rcons (.vint .u8 (tl 0)) (.rcons (.vint .u8 (tl 0)) (.rcons (.vint .u8 (tl 0)) (.rcons (.vint .u8 (tl 0)) (.rcons (.vint .u8 (tl 0)) (.rcons (.vint .u8 (tl 0)) (.rcons (.vint .u8 (tl 0)) (.rcons (.vint .u8 (tl 0)) (.rcons (.vint .u8 (tl 0)) (.rcons (.vint .u8 (tl 0)) (.rcons (.vint .u8 (tl 0)) (.rcons (.vint .u8 (tl 0)) (.rcons (.vint .u8 (tl 0)) (.rcons (.vint .u8 (tl 0)) (.rcons (.vint .u8 (tl 0)) (.rcons (.vint .u8 (tl 0)) (.rcons (.vint .u8 (tl 0)) (.rcons (.vint .u8 (tl 0)) (.rcons (.vint .u8 (tl 0)) (.rcons (.vint .u8 (tl 0)) (.rcons (.vint .u8 (tl 0)) (.rcons (.vint .u8 (tl 0)) (.rcons (.vint .u8 (tl 0)) (.rcons (.vint .u8 (tl 0)) (.rcons (.vint .u8 (tl 0)) (.rcons (.vint .u8 (tl 0)) (.rcons (.vint .u8 (tl 0)) (.rcons (.vint .u8 (tl 0)) (.rcons (.vint .u8 (tl 0)) (.rcons (.vint .u8 (tl 0)) (.rcons (.vint .u8 (tl 0)) (.rcons (.vint .u8 (tl 0)) (.rcons (.vint .u8 (tl 0)) (.rcons (.vint .u8 (tl 0)) (.rcons (.vint .u8 (tl 0)) (.rcons (.vint .u8 (tl 0)) (.rcons (.vint .u8 (tl 0)) (.rcons (.vint .u8 (tl 0)) (.rcons (.vint .u8 (tl 0)) (.rcons (.vint .u8 (tl 0)) (.rcons (.vint .u8 (tl 0)) (.rcons (.vint .u8 (tl 0)) (.rcons (.vint .u8 (tl 0)) (.rcons (.vint .u8 (tl 0)) (.rcons (.vint .u8 (tl 0)) (.rcons (.vint .u8 (tl 0)) (.rcons (.vint .u8 (tl 0)) (.rcons (.vint .u8 (tl 0)) (.rcons (.vint .u8 (tl 0)) (.rcons (.vint .u8 (tl 0)) (.rcons (.vint .u8 (tl 0)) (.rcons (.vint .u8 (tl 0)) (.rcons (.vint .u8 (tl 0)) (.rcons (.vint .u8 (tl 0)) (.rcons (.vint .u8 (tl 0)) (.rcons (.vint .u8 (tl 0)) (.rcons (.vint .u8 (tl 0)) (.rcons (.vint .u8 (tl 0)) (.rcons (.vint .u8 (tl 0)) (.rcons (.vint .u8 (tl 0)) (.rcons (.vint .u8 (tl 0)) (.rcons (.vint .u8 (tl 0)) (.rcons (.vint .u8 (tl 0)) (.rcons (.vint .u8 (tl 0)) (.rcons (.vint .u8 (tl 0)) (.rcons (.vint .u8 (tl 0)) (.rcons (.vint .u8 (tl 0)) (.rcons (.vint .u8 (tl 0)) (.rcons (.vint .u8 (tl 0)) (.rcons (.vint .u8 (tl 0)) (.rcons (.vint .u8 (tl 0)) (.rcons (.vint .u8 (tl 0)) (.rcons (.vint .u8 (tl 0)) (.rcons (.vint .u8 (tl 0)) (.rcons (.vint .u8 (tl 0)) (.rcons (.vint .u8 (tl 0)) (.rcons (.vint .u8 (tl 0)) (.rcons (.vint .u8 (tl 0)) (.rcons (.vint .u8 (tl 0)) (.rcons (.vint .u8 (tl 0)) (.rcons (.vint .u8 (tl 0)) (.rcons (.vint .u8 (tl 0)) (.rcons (.vint .u8 (tl 0)) (.rcons (.vint .u8 (tl 0)) (.rcons (.vint .u8 (tl 0)) (.rcons (.vint .u8 (tl 0)) (.rcons (.vint .u8 (tl 0)) (.rcons (.vint .u8 (tl 0)) (.rcons (.vint .u8 (tl 0)) (.rcons (.vint .u8 (tl 0)) (.rcons (.vint .u8 (tl 0)) (.rcons (.vint .u8 (tl 0)) (.rcons (.vint .u8 (tl 0)) (.rcons (.vint .u8 (tl 0)) (.rcons (.vint .u8 (tl 0)) (.rcons (.vint .u8 (tl 0)) (.rcons (.vint .u8 (tl 0)) (.rcons (.vint .u8 (tl 0)) (.rcons (.vint .u8 (tl 0)) (.rcons (.vint .u8 (tl 0)) (.rcons (.vint .u8 (tl 0)) (.rcons (.vint .u8 (tl 0)) (.rcons (.vint .u8 (tl 0)) (.rcons (.vint .u8 (tl 0)) (.rcons (.vint .u8 (tl 0)) (.rcons (.vint .u8 (tl 0)) (.rcons (.vint .u8 (tl 0)) (.rcons (.vint .u8 (tl 0)) (.rcons (.vint .u8 (tl 0)) (.rcons (.vint .u8 (tl 0)) (.rcons (.vint .u8 (tl 0)) (.rcons (.vint .u8 (tl 0)) (.rcons (.vint .u8 (tl 0)) (.rcons (.vint .u8 (tl 0)) (.rcons (.vint .u8 (tl 0)) (.rcons (.vint .u8 (tl 0)) (.rcons (.vint .u8 (tl 0)) (.rcons (.vint .u8 (tl 0)) (.rcons (.vint .u8 (tl 0)) (.rcons (.vint .u8 (tl 0)) (.rcons (.vint .u8 (tl 0)) (.rcons (.vint .u8 (tl 0)) (.rcons (.vint .u8 (tl 0)) (.rcons (.vint .u8 (tl 0)) (.rcons (.vint .u8 (tl 0)) (.rcons (.vint .u8 (tl 0)) (.rcons (.vint .u8 (tl 0)) (.rcons (.vint .u8 (tl 0)) (.rcons (.vint .u8 (tl 0)) (.rcons (.vint .u8 (tl 0)) (.rcons (.vint .u8 (tl 0)) (.rcons (.vint .u8 (tl 0)) (.rcons (.vint .u8 (tl 0)) (.rcons (.vint .u8 (tl 0)) (.rcons (.vint .u8 (tl 0)) (.rcons (.vint .u8 (tl 0)) (.rcons (.vint .u8 (tl 0)) (.rcons (.vint .u8 (tl 0)) (.rcons (.vint .u8 (tl 0)) (.rcons (.vint .u8 (tl 0)) (.rcons (.vint .u8 (tl 0)) (.rcons (.vint .u8 (tl 0)) (.rcons (.vint .u8 (tl 0)) (.rcons (.vint .u8 (tl 0)) (.rcons (.vint .u8 (tl 0)) (.rcons (.vint .u8 (tl 0)) (.rcons (.vint .u8 (tl 0)) (.rcons (.vint .u8 (tl 0)) (.rcons (.vint .u8 (tl 0)) (.rcons (.vint .u8 (tl 0)) (.rcons (.vint .u8 (tl 0)) (.rcons (.vint .u8 (tl 0)) (.rcons (.vint .u8 (tl 0)) (.rcons (.vint .u8 (tl 0)) (.rcons (.vint .u8 (tl 0)) (.rcons (.vint .u8 (tl 0)) (.rcons (.vint .u8 (tl 0)) (.rcons (.vint .u8 (tl 0)) (.rcons (.vint .u8 (tl 0)) (.rcons (.vint .u8 (tl 0)) (.rcons (.vint .u8 (tl 0)) (.rcons (.vint .u8 (tl 0)) (.rcons (.vint .u8 (tl 0)) (.rcons (.vint .u8 (tl 0)) (.rcons (.vint .u8 (tl 0)) (.rcons (.vint .u8 (tl 0)) (.rcons (.vint .u8 (tl 0)) (.rcons (.vint .u8 (tl 0)) (.rcons (.vint .u8 (tl 0)) (.rcons (.vint .u8 (tl 0)) (.rcons (.vint .u8 (tl 0)) (.rcons (.vint .u8 (tl 0)) (.rcons (.vint .u8 (tl 0)) (.rcons (.vint .u8 (tl 0)) (.rcons (.vint .u8 (tl 0)) (.rcons (.vint .u8 (tl 0)) (.rcons (.vint .u8 (tl 0)) (.rcons (.vint .u8 (tl 0)) (.rcons (.vint .u8 (tl 0)) (.rcons (.vint .u8 (tl 0)) (.rcons (.vint .u8 (tl 0)) (.rcons (.vint .u8 (tl 0)) (.rcons (.vint .u8 (tl 0)) (.rcons (.vint .u8 (tl 0)) (.rcons (.vint .u8 (tl 0)) (.rcons (.vint .u8 (tl 0)) (.rcons (.vint .u8 (tl 0)) (.rcons (.vint .u8 (tl 0)) (.rcons (.vint .u8 (tl 0)) (.rcons (.vint .u8 (tl 0)) (.rcons (.vint .u8 (tl 0)) (.rcons (.vint .u8 (tl 0)) (.rcons (.vint .u8 (tl 0)) (.rcons (.vint .u8 (tl 0)) (.rcons (.vint .u8 (tl 0)) (.rcons (.vint .u8 (tl 0)) (.rcons (.vint .u8 (tl 0)) (.rcons (.vint .u8 (tl 0)) (.rcons (.vint .u8 (tl 0)) (.rcons (.vint .u8 (tl 0)) (.rcons (.vint .u8 (tl 0)) (.rcons (.vint .u8 (tl 0)) (.rcons (.vint .u8 (tl 0)) (.rcons (.vint .u8 (tl 0)) (.rcons (.vint .u8 (tl 0)) (.rcons (.vint .u8 (tl 0)) (.rcons (.vint .u8 (tl 0)) (.rcons (.vint .u8 (tl 0)) (.rcons (.vint .u8 (tl 0)) (.rcons (.vint .u8 (tl 0)) (.rcons (.vint .u8 (tl 0)) (.rcons (.vint .u8 (tl 0)) (.rcons (.vint .u8 (tl 0)) (.rcons (.vint .u8 (tl 0)) (.rcons (.vint .u8 (tl 0)) (.rcons (.vint .u8 (tl 0)) (.rcons (.vint .u8 (tl 0)) (.rcons (.vint .u8 (tl 0)) (.rcons (.vint .u8 (tl 0)) (.rcons (.vint .u8 (tl 0)) (.rcons (.vint .u8 (tl 0)) (.rcons (.vint .u8 (tl 0)) (.rcons (.vint .u8 (tl 0)) (.rcons (.vint .u8 (tl 0)) (.rcons (.vint .u8 (tl 0)) (.rcons (.vint .u8 (tl 0)) (.rcons (.vint .u8 (tl 0)) (.rcons (.vint .u8 (tl 0)) (.rcons (.vint .u8 (tl 0)) (.rcons (.vint .u8 (tl 0)) (.rcons (.vint .u8 (tl 0)) (.rcons (.vint .u8 (tl 0)) (.rcons (.vint .u8 (tl 0)) (.rcons (.vint .u8 (tl 0)) (.rcons (.vint .u8 (tl 0)) (.rcons (.vint .u8 (tl 0)) (.rcons (.vint .u8 (tl 0)) (.rcons (.vint .u8 (tl 0)) (.rcons (.vint .u8 (tl 0)) (.rcons (.vint .u8 (tl 0)) (.rcons (.vint .u8 (tl 0)) (.rcons (.vint .u8 (tl 0)) (.rcons (.vint .u8 (tl 0)) (.rcons (.vint .u8 (tl 0)) (.rcons (.vint .u8 (tl 0)) (.rcons (.vint .u8 (tl 0)) (.rcons (.vint .u8 (tl 0)) (.rcons (.vint .u8 (tl 0)) (.rcons (.vint .u8 (tl 0)) (.rcons (.vint .u8 (tl 0)) (.rcons (.vint .u8 (tl 0)) (.rcons (.vint .u8 (tl 0)) (.rcons (.vint .u8 (tl 0)) (.rcons (.vint .u8 (tl 0)) (.rcons (.vint .u8 (tl 0)) (.rcons (.vint .u8 (tl 0)) (.rcons (.vint .u8 (tl 0)) (.rcons (.vint .u8 (tl 0)) (.rcons (.vint .u8 (tl 0)) (.rcons (.vint .u8 (tl 0)) (.rcons (.vint .u8 (tl 0)) (.rcons (.vint .u8 (tl 0)) (.rcons (.vint .u8 (tl 0)) (.rcons (.vint .u8 (tl 0)) (.rcons (.vint .u8 (tl 0)) (.rcons (.vint .u8 (tl 0)) (.rcons (.vint .u8 (tl 0)) (.rcons (.vint .u8 (tl 0)) (.rcons (.vint .u8 (tl 0)) (.rcons (.vint .u8 (tl 0)) (.rcons (.vint .u8 (tl 0)) (.rcons (.vint .u8 (tl 0)) (.rcons (.vint .u8 (tl 0)) (.rcons (.vint .u8 (tl 0)) (.rcons (.vint .u8 (tl 0)) (.rcons (.vint .u8 (tl 0)) (.rcons (.vint .u8 (tl 0)) (.rcons (.vint .u8 (tl 0)) (.rcons (.vint .u8 (tl 0)) (.rcons (.vint .u8 (tl 0)) (.rcons (.vint .u8 (tl 0)) (.rcons (.vint .u8 (tl 0)) (.rcons (.vint .u8 (tl 0)) (.rcons (.vint .u8 (tl 0)) (.rcons (.vint .u8 (tl 0)) (.rcons (.vint .u8 (tl 0)) (.rcons (.vint .u8 (tl 0)) (.rcons (.vint .u8 (tl 0)) (.rcons (.vint .u8 (tl 0)) (.rcons (.vint .u8 (tl 0)) (.rcons (.vint .u8 (tl 0)) (.rcons (.vint .u8 (tl 0)) (.rcons (.vint .u8 (tl 0)) (.rcons (.vint .u8 (tl 0)) (.rcons (.vint .u8 (tl 0)) (.rcons (.vint .u8 (tl 0)) (.rcons (.vint .u8 (tl 0)) (.rcons (.vint .u8 (tl 0)) (.rcons (.vint .u8 (tl 0)) (.rcons (.vint .u8 (tl 0)) (.rcons (.vint .u8 (tl 0)) (.rcons (.vint .u8 (tl 0)) (.rcons (.vint .u8 (tl 0)) (.rcons (.vint .u8 (tl 0)) (.rcons (.vint .u8 (tl 0)) (.rcons (.vint .u8 (tl 0)) (.rcons (.vint .u8 (tl 0)) (.rcons (.vint .u8 (tl 0)) (.rcons (.vint .u8 (tl 0)) (.rcons (.vint .u8 (tl 0)) (.rcons (.vint .u8 (tl 0)) (.rcons (.vint .u8 (tl 0)) (.rcons (.vint .u8 (tl 0)) (.rcons (.vint .u8 (tl 0)) (.rcons (.vint .u8 (tl 0)) (.rcons (.vint .u8 (tl 0)) (.rcons (.vint .u8 (tl 0)) (.rcons (.vint .u8 (tl 0)) (.rcons (.vint .u8 (tl 0)) (.rcons (.vint .u8 (tl 0)) (.rcons (.vint .u8 (tl 0)) (.rcons (.vint .u8 (tl 0)) (.rcons (.vint .u8 (tl 0)) (.rcons (.vint .u8 (tl 0)) (.rcons (.vint .u8 (tl 0)) (.rcons (.vint .u8 (tl 0)) (.rcons (.vint .u8 (tl 0)) (.rcons (.vint .u8 (tl 0)) (.rcons (.vint .u8 (tl 0)) (.rcons (.vint .u8 (tl 0)) (.rcons (.vint .u8 (tl 0)) (.rcons (.vint .u8 (tl 0)) (.rcons (.vint .u8 (tl 0)) (.rcons (.vint .u8 (tl 0)) (.rcons (.vint .u8 (tl 0)) (.rcons (.vint .u8 (tl 0)) (.rcons (.vint .u8 (tl 0)) (.rcons (.vint .u8 (tl 0)) (.rcons (.vint .u8 (tl 0)) (.rcons (.vint .u8 (tl 0)) (.rcons (.vint .u8 (tl 0)) (.rcons (.vint .u8 (tl 0)) (.rcons (.vint .u8 (tl 0)) (.rcons (.vint .u8 (tl 0)) (.rcons (.vint .u8 (tl 0)) (.rcons (.vint .u8 (tl 0)) (.rcons (.vint .u8 (tl 0)) (.rcons (.vint .u8 (tl 0)) (.rcons (.vint .u8 (tl 0)) (.rcons (.vint .u8 (tl 0)) (.rcons (.vint .u8 (tl 0)) (.rcons (.vint .u8 (tl 0)) (.rcons (.vint .u8 (tl 0)) (.rcons (.vint .u8 (tl 0)) (.rcons (.vint .u8 (tl 0)) (.rcons (.vint .u8 (tl 0)) (.rcons (.vint .u8 (tl 0)) (.rcons (.vint .u8 (tl 0)) (.rcons (.vint .u8 (tl 0)) (.rcons (.vint .u8 (tl 0)) (.rcons (.vint .u8 (tl 0)) (.rcons (.vint .u8 (tl 0)) (.rcons (.vint .u8 (tl 0)) (.rcons (.vint .u8 (tl 0)) (.rcons (.vint .u8 (tl 0)) (.rcons (.vint .u8 (tl 0)) (.rcons (.vint .u8 (tl 0)) (.rcons (.vint .u8 (tl 0)) (.rcons (.vint .u8 (tl 0)) (.rcons (.vint .u8 (tl 0)) (.rcons (.vint .u8 (tl 0)) (.rcons (.vint .u8 (tl 0)) (.rcons (.vint .u8 (tl 0)) (.rcons (.vint .u8 (tl 0)) (.rcons (.vint .u8 (tl 0)) (.rcons (.vint .u8 (tl 0)) (.rcons (.vint .u8 (tl 0)) (.rcons (.vint .u8 (tl 0)) (.rcons (.vint .u8 (tl 0)) (.rcons (.vint .u8 (tl 0)) (.rcons (.vint .u8 (tl 0)) (.rcons (.vint .u8 (tl 0)) (.rcons (.vint .u8 (tl 0)) (.rcons (.vint .u8 (tl 0)) (.rcons (.vint .u8 (tl 0)) (.rcons (.vint .u8 (tl 0)) (.rcons (.vint .u8 (tl 0)) (.rcons (.vint .u8 (tl 0)) (.rcons (.vint .u8 (tl 0)) (.rcons (.vint .u8 (tl 0)) (.rcons (.vint .u8 (tl 0)) (.rcons (.vint .u8 (tl 0)) (.rcons (.vint .u8 (tl 0)) (.rcons (.vint .u8 (tl 0)) (.rcons (.vint .u8 (tl 0)) (.rcons (.vint .u8 (tl 0)) (.rcons (.vint .u8 (tl 0)) (.rcons (.vint .u8 (tl 0)) (.rcons (.vint .u8 (tl 0)) (.rcons (.vint .u8 (tl 0)) (.rcons (.vint .u8 (tl 0)) (.rcons (.vint .u8 (tl 0)) (.rcons (.vint .u8 (tl 0)) (.rcons (.vint .u8 (tl 0)) (.rcons (.vint .u8 (tl 0)) (.rcons (.vint .u8 (tl 0)) (.rcons (.vint .u8 (tl 0)) (.rcons (.vint .u8 (tl 0)) (.rcons (.vint .u8 (tl 0)) (.rcons (.vint .u8 (tl 0)) (.rcons (.vint .u8 (tl 0)) (.rcons (.vint .u8 (tl 0)) (.rcons (.vint .u8 (tl 0)) (.rcons (.vint .u8 (tl 0)) (.rcons (.vint .u8 (tl 0)) (.rcons (.vint .u8 (tl 0)) (.rcons (.vint .u8 (tl 0)) (.rcons (.vint .u8 (tl 0)) (.rcons (.vint .u8 (tl 0)) (.rcons (.vint .i64 (tl 0)) (.rcons (.vint .i64 (tl 0)) (.rcons (.vint .i64 (tl 0)) (.rcons (.vint .i64 (tl 0)) (.rcons (.vint .i64 (tl 0)) (.rcons (.vint .i64 (tl 0)) (.rcons (.vint .i64 (tl 0)) (.rcons (.vint .i64 (tl 0)) (.rcons (.vint .i64 (tl 0)) (.rcons (.vint .i64 (tl 0)) (.rcons (.vint .i64 (tl 0)) (.rcons (.vint .i64 (tl 0)) (.rcons (.vint .i64 (tl 0)) (.rcons (.vint .i64 (tl 0)) (.rcons (.vint .i64 (tl 0)) (.rcons (.vint .i64 (tl 0)) (.rcons (.vint .i64 (tl 0)) (.rcons (.vint .i64 (tl 0)) (.rcons (.vint .i64 (tl 0)) (.rcons (.vint .i64 (tl 0)) (.rcons (.vint .i64 (tl 0)) (.rcons (.vint .i64 (tl 0)) (.rcons (.vint .i64 (tl 0)) (.rcons (.vint .i64 (tl 0)) (.rcons (.vint .i64 (tl 0)) (.rcons (.vint .i64 (tl 0)) (.rcons (.vint .i64 (tl 0)) (.rcons (.vint .i64 (tl 0)) (.rcons (.vint .i64 (tl 0)) (.rcons (.vint .i64 (tl 0)) (.rcons (.vint .i64 (tl 0)) (.rcons (.vint .i64 (tl 0)) (.rcons (.vint .i64 (tl 0)) (.rcons (.vint .i64 (tl 0)) (.rcons (.vint .i64 (tl 0)) (.rcons (.vint .i64 (tl 0)) (.rcons (.vint .i64 (tl 0)) (.rcons (.vint .i64 (tl 0)) (.rcons (.vint .i64 (tl 0)) (.rcons (.vint .i64 (tl 0)) (.rcons (.vint .i64 (tl 0)) (.rcons (.vint .i64 (tl 0)) (.rcons (.vint .i64 (tl 0)) (.rcons (.vint .i64 (tl 0)) (.rcons (.vint .i64 (tl 0)) (.rcons (.vint .i64 (tl 0)) (.rcons (.vint .i64 (tl 0)) (.rcons (.vint .i64 (tl 0)) (.rcons (.vint .i64 (tl 0)) (.rcons (.vint .i64 (tl 0)) (.rcons (.vint .i64 (tl 0)) (.rcons (.vint .i64 (tl 0)) (.rcons (.vint .i64 (tl 0)) (.rcons (.vint .i64 (tl 0)) (.rcons (.vint .i64 (tl 0)) (.rcons (.vint .i64 (tl 0)) (.rcons (.vint .i64 (tl 0)) (.rcons (.vint .i64 (tl 0)) (.rcons (.vint .i64 (tl 0)) (.rcons (.vint .i64 (tl 0)) (.rcons (.vint .i64 (tl 0)) (.rcons (.vint .i64 (tl 0)) (.rcons (.vint .i64 (tl 0)) (.rcons (.vint .i64 (tl 0)) (.rcons (.vint .i64 (tl 0)) (.rcons (.vint .i64 (tl 0)) (.rcons (.vint .i64 (tl 0)) (.rcons (.vint .i64 (tl 0)) (.rcons (.vint .i64 (tl 0)) (.rcons (.vint .i64 (tl 0)) (.rcons (.vint .i64 (tl 0)) (.rcons (.vint .i64 (tl 0)) (.rcons (.vint .i64 (tl 0)) (.rcons (.vint .i64 (tl 0)) (.rcons (.vint .i64 (tl 0)) (.rcons (.vint .i64 (tl 0)) (.rcons (.vint .i64 (tl 0)) (.rcons (.vint .i64 (tl 0)) (.rcons (.vint .i64 (tl 0)) (.rcons (.vint .i64 (tl 0)) (.rcons (.vint .i64 (tl 0)) (.rcons (.vint .i64 (tl 0)) (.rcons (.vint .i64 (tl 0)) (.rcons (.vint .i64 (tl 0)) (.rcons (.vint .i64 (tl 0)) (.rcons (.vint .i64 (tl 0)) (.rcons (.vint .i64 (tl 0)) (.rcons (.vint .i64 (tl 0)) (.rcons (.vint .i64 (tl 0)) (.rcons (.vint .i64 (tl 0)) (.rcons (.vint .i64 (tl 0)) (.rcons (.vint .i64 (tl 0)) (.rcons (.vint .i64 (tl 0)) (.rcons (.vint .i64 (tl 0)) (.rcons (.vint .i64 (tl 0)) (.rcons (.vint .i64 (tl 0)) (.rcons (.vint .i64 (tl 0)) (.rcons (.vint .i64 (tl 0)) (.rcons (.vint .i64 (tl 0)) (.rcons (.vint .i64 (tl 0)) (.rcons (.vint .i64 (tl 0)) (.rcons (.vint .i64 (tl 0)) (.rcons (.vint .i64 (tl 0)) (.rcons (.vint .i64 (tl 0)) (.rcons (.vint .i64 (tl 0)) (.rcons (.vint .i64 (tl 0)) (.rcons (.vint .i64 (tl 0)) (.rcons (.vint .i64 (tl 0)) (.rcons (.vint .i64 (tl 0)) (.rcons (.vint .i64 (tl 0)) (.rcons (.vint .i64 (tl 0)) (.rcons (.vint .i64 (tl 0)) (.rcons (.vint .i64 (tl 0)) (.rcons (.vint .i64 (tl 0)) (.rcons (.vint .i64 (tl 0)) (.rcons (.vint .i64 (tl 0)) (.rcons (.vint .i64 (tl 0)) (.rcons (.vint .i64 (tl 0)) (.rcons (.vint .i64 (tl 0)) (.rcons (.vint .i64 (tl 0)) (.rcons (.vint .i64 (tl 0)) (.rcons (.vint .i64 (tl 0)) (.rcons (.vint .i64 (tl 0)) (.rcons (.vint .i64 (tl 0)) (.rcons (.vint .i64 (tl 0)) (.rcons (.vint .i64 (tl 0)) (.rcons (.vint .i64 (tl 0)) (.rcons (.vint .i64 (tl 0)) (.rcons (.vint .i64 (tl 0)) (.rcons (.vint .i64 (tl 0)) (.rcons (.vint .i64 (tl 0)) (.rcons (.vint .i64 (tl 0)) (.rcons (.vint .i64 (tl 0)) (.rcons (.vint .i64 (tl 0)) (.rcons (.vint .i64 (tl 0)) (.rcons (.vint .i64 (tl 0)) (.rcons (.vint .i64 (tl 0)) (.rcons (.vint .i64 (tl 0)) (.rcons (.vint .i64 (tl 0)) (.rcons (.vint .i64 (tl 0)) (.rcons (.vint .i64 (tl 0)) (.rcons (.vint .i64 (tl 0)) (.rcons (.vint .i64 (tl 0)) (.rcons (.vint .i64 (tl 0)) (.rcons (.vint .i64 (tl 0)) (.rcons (.vint .i64 (tl 0)) (.rcons (.vint .i64 (tl 0)) (.rcons (.vint .i64 (tl 0)) (.rcons (.vint .i64 (tl 0)) (.rcons (.vint .i64 (tl 0)) (.rcons (.vint .i64 (tl 0)) (.rcons (.vint .i64 (tl 0)) (.rcons (.vint .i64 (tl 0)) (.rcons (.vint .i64 (tl 0)) (.rcons (.vint .i64 (tl 0)) (.rcons (.vint .i64 (tl 0)) (.rcons (.vint .i64 (tl 0)) (.rcons (.vint .i64 (tl 0)) (.rcons (.vint .i64 (tl 0)) (.rcons (.vint .i64 (tl 0)) (.rcons (.vint .i64 (tl 0)) (.rcons (.vint .i64 (tl 0)) (.rcons (.vint .i64 (tl 0)) (.rcons (.vint .i64 (tl 0)) (.rcons (.vint .i64 (tl 0)) (.rcons (.vint .i64 (tl 0)) (.rcons (.vint .i64 (tl 0)) (.rcons (.vint .i64 (tl 0)) (.rcons (.vint .i64 (tl 0)) (.rcons (.vint .i64 (tl 0)) (.rcons (.vint .i64 (tl 0)) (.rcons (.vint .i64 (tl 0)) (.rcons (.vint .i64 (tl 0)) (.rcons (.vint .i64 (tl 0)) (.rcons (.vint .i64 (tl 0)) (.rcons (.vint .i64 (tl 0)) (.rcons (.vint .i64 (tl 0)) (.rcons (.vint .i64 (tl 0)) (.rcons (.vint .i64 (tl 0)) (.rcons (.vint .i64 (tl 0)) (.rcons (.vint .i64 (tl 0)) (.rcons (.vint .i64 (tl 0)) (.rcons (.vint .i64 (tl 0)) (.rcons (.vint .i64 (tl 0)) (.rcons (.vint .i64 (tl 0)) (.rcons (.vint .i64 (tl 0)) (.rcons (.vint .i64 (tl 0)) (.rcons (.vint .i64 (tl 0)) (.rcons (.vint .i64 (tl 0)) (.rcons (.vint .i64 (tl 0)) (.rcons (.vint .i64 (tl 0)) (.rcons (.vint .i64 (tl 0)) (.rcons (.vint .i64 (tl 0)) (.rcons (.vint .i64 (tl 0)) (.rcons (.vint .i64 (tl 0)) (.rcons (.vint .i64 (tl 0)) (.rcons (.vint .i64 (tl 0)) (.rcons (.vint .i64 (tl 0)) (.rcons (.vint .i64 (tl 0)) (.rcons (.vint .i64 (tl 0)) (.rcons (.vint .i64 (tl 0)) (.rcons (.vint .i64 (tl 0)) (.rcons (.vint .i64 (tl 0)) (.rcons (.vint .i64 (tl 0)) (.rcons (.vint .i64 (tl 0)) (.rcons (.vint .i64 (tl 0)) (.rcons (.vint .i64 (tl 0)) (.rcons (.vint .i64 (tl 0)) (.rcons (.vint .i64 (tl 0)) (.rcons (.vint .i64 (tl 0)) (.rcons (.vint .i64 (tl 0)) (.rcons (.vint .i64 (tl 0)) (.rcons (.vint .i64 (tl 0)) (.rcons (.vint .i64 (tl 0)) (.rcons (.vint .i64 (tl 0)) (.rcons (.vint .i64 (tl 0)) (.rcons (.vint .i64 (tl 0)) (.rcons (.vint .i64 (tl 0)) (.rcons (.vint .i64 (tl 0)) (.rcons (.vint .i64 (tl 0)) (.rcons (.vint .i64 (tl 0)) (.rcons (.vint .i64 (tl 0)) (.rcons (.vint .i64 (tl 0)) (.rcons (.vint .i64 (tl 0)) (.rcons (.vint .i64 (tl 0)) (.rcons (.vint .i64 (tl 0)) (.rcons (.vint .i64 (tl 0)) (.rcons (.vint .i64 (tl 0)) (.rcons (.vint .i64 (tl 0)) (.rcons (.vint .i64 (tl 0)) (.rcons (.vint .i64 (tl 0)) (.rcons (.vint .i64 (tl 0)) (.rcons (.vint .i64 (tl 0)) (.rcons (.vint .i64 (tl 0)) (.rcons (.vint .i64 (tl 0)) (.rcons (.vint .i64 (tl 0)) (.rcons (.vint .i64 (tl 0)) (.rcons (.vint .i64 (tl 0)) (.rcons (.vint .i64 (tl 0)) (.rcons (.vint .i64 (tl 0)) (.rcons (.vint .i64 (tl 0)) (.rcons (.vint .i64 (tl 0)) (.rcons (.vint .i64 (tl 0)) (.rcons (.vint .i64 (tl 0)) (.rcons (.vint .i64 (tl 0)) (.rcons (.vint .i64 (tl 0)) (.rcons (.vint .i64 (tl 0)) (.rcons (.vint .i64 (tl 0)) (.rcons (.vint .i64 (tl 0)) (.rcons (.vint .i64 (tl 0)) (.rcons (.vint .i64 (tl 0)) (.rcons (.vint .i64 (tl 0)) (.rcons (.vint .i64 (tl 0)) (.rcons (.vint .i64 (tl 0)) (.rcons (.vint .i64 (tl 0)) (.rcons (.vint .i64 (tl 0)) .rnil))))))))))))))))))))))))))))))))))))))))))))))))))))))))))))))))))))))))))))))))))))))))))))))))))))))))))))))))))))))))))))))))))))))))))))))))))))))))))))))))))))))))))))))))))))))))))))))))))))))))))))))))))))))))))))))))))))))))))))))))))))))))))))))))))))))))))))))))))))))))))))))))))))))))))))))))))))))))))))))))))))))))))))))))))))))))))))))))))))))))))))))))))))))))))))))))))))))))))))))))))))))))))))))))))))))))))))))))))))))))))))))))))))))))))))))))))))))))))))))))))))))))))))))))))))))))))))))))))))))))))))))))))))))))))))))))))))))))))))))))))))))))))))))))))))))))))))))))))))))))))))))))))))))))))))))))))))))))))))))))))))))))))))))))))))))))))))))))))))))))))))))))))))))))))))))))))))))))))))))))))))))))))))))))))))))))))))))))))))))))))))))))),bg 0 0])))
theorem qwK:qn Tryz.prog qeJ [] [] qo9:=qh Tryz.func20 Tryz.call20 (by kernel_rfl)
@[simp] def qrC:T:=.c3 (.xput 513) (.c3 (.xput 3) (.c3 (.xput 3) (tv 4) (tv 3) (.vint .u8 (.conv .u8 (tv 2)))) (.arith .add .i64 (tv 3) (tl 255)) (.vint .u8 (.conv .u8 (tv 2)))) (tv 2) (.vint .i64 (tv 3))
def qyz:Out:=(.inv 0 2 (sg 1000 [bv 1002 1,bt 1001 (tl 0),bt 1000 (tl 1)]) (fr 2 3 (.hyp 0 2 (.br (.cmp .lss (tv 3) (tl 255))
 (.need (.cmp .lss (tl 0) (.dlen (tv 4))) (.need (.cmp .leq (tl 0) (tv 3)) (.need (.cmp .lss (tv 3) (tl 510)) (.need (.cmp .leq (tl 0) (.arith .add .i64 (tv 3) (tl 255))) (.need (.cmp .lss (.arith .add .i64 (tv 3) (tl 255)) (tl 510)) (.need (.cmp .leq (tl 0) (tv 2)) (.need (.cmp .lss (tv 2) (tl 256)) (.br (.cmp .geq (.arith .shl .i64 (tv 2) (tl 1)) (tl 256))
 (.back 0 2 (sg 1000 [bt 1002 qrC,bt 1001 (.arith .add .i64 (tv 3) (tl 1)),bt 1000 (.arith .xor .i64 (.arith .shl .i64 (tv 2) (tl 1)) (tl 285))]))
 (.back 0 2 (sg 1000 [bt 1002 qrC,bt 1001 (.arith .add .i64 (tv 3) (tl 1)),bt 1000 (.arith .shl .i64 (tv 2) (tl 1))]))))))))))
 (.ret 0 (sg 2 [bv 2 4]))))))
theorem q4u:qn Tryz.prog qv1 [] [q2E] qyz:=qh Tryz.func179 Tryz.call179 (by kernel_rfl)
@[simp] def qrj:T:=.arith .add .i64 (.c2 (.xint 513) (tv 4) (tv 2)) (.c2 (.xint 513) (tv 4) (tv 3))
def q6b:Out:=(.br (.and (.cmp .eql (.dlen (tv 1)) (tl 0)) (.isnil 0))
 (.ret 0 (sg 4 [bv 5 1,bt 4 (tl 0)]))
 (.br (.cmp .eql (tv 2) (tl 0))
 (.ret 0 (sg 4 [bv 5 1,bt 4 (tl 0)]))
 (.br (.cmp .eql (tv 3) (tl 0))
 (.ret 0 (sg 4 [bv 5 1,bt 4 (tl 0)]))
 (.need (.cmp .lss (tl 0) (.dlen (tv 1))) (.pre 0 (sg 0 [bv 1 1,bg 0 0]) (.both (.fresh 4 (.post 0 0 (sg 0 [bv 1 1,bg 0 0]) 4 (.need (.cmp .lss (tl 0) (.dlen (tv 4))) (.need (.cmp .leq (tl 0) (tv 2)) (.need (.cmp .lss (tv 2) (tl 256)) (.need (.cmp .leq (tl 0) (tv 3)) (.need (.cmp .lss (tv 3) (tl 256)) (.need (.cmp .leq (tl 0) qrj) (.need (.cmp .lss qrj (tl 510)) (.ret 0 (sg 4 [bv 5 4,bt 4 (.c2 (.xint 3) (tv 4) qrj)]))))))))))) .top))))))
theorem q8c:qn Tryz.prog qkH [qdY] [] q6b:=qh Tryz.func152 Tryz.call152 (by kernel_rfl)
set_option maxRecDepth 100000 in
theorem qw5:qeJ.ok Tryz.prog:=qwK (by simp) fun Z hg hp=>by
 simp [qo9,qeJ]
 kernel_rfl
theorem qtB:∀ x:Fin 256,0 <= qiv (x.val:Int)/\qiv (x.val:Int) < 256:=by decide +kernel
theorem qxo {x:Int} (h0:0 <= x) (h1:x < 256):0 <= qiv x/\qiv x < 256:=by
 have:=qtB ⟨x.toNat,by omega⟩
 simp only [ja6 h0] at this
 exact this
theorem qhU (d:qf):∀ n,0 <= (qbF d n).2/\(qbF d n).2 < 256
 | 0=>by simp [qbF]
 | n + 1=>qxo (qhU d n).1 (qhU d n).2
theorem q3T {d:qf} {i:Nat} {v:Value}:(qa1 d i v).length = d.length:=by cases d <;> simp [qa1]
theorem qjR (d:qf):∀ n,(qbF d n).1.length = d.length
 | 0=>rfl
 | n + 1=>by simp only [qbF,qli,q3T,qjR d n]
theorem q4O:qv1.ok Tryz.prog:=q4u (by simp) fun Z hg hp=>by
 have hl:(Z 1).d.length = 1:=hp
 simp [qyz,qv1,q2E]
 refine ⟨rfl,fun x _ i _ d _ i0 i1 hd=>⟨fun hi=>?_,fun hi=>?_⟩⟩
 ·obtain ⟨x0,x1⟩:=qhU (Z 1).d i.i.toNat
  have hlen:=qjR (Z 1).d i.i.toNat
  rw [<- hd] at x0 x1 hlen
  simp only at x0 x1 hlen
  have w1:qe .add .i64 i.i 255 = i.i + 255:=by simp [qe,IntKind.wrap,IntKind.bits,IntKind.signed]; omega
  have w2:qe .add .i64 i.i 1 = i.i + 1:=by simp [qe,IntKind.wrap,IntKind.bits,IntKind.signed]; omega
  have w3:qe .shl .i64 x.i 1 = 2 * x.i:=by simp [qe,IntKind.wrap,IntKind.bits,IntKind.signed]; omega
  have w4:IntKind.u8.wrap x.i = x.i:=by simp [IntKind.wrap,IntKind.bits,IntKind.signed]; omega
  have hstep:∀ y,y = qiv x.i->(qa1 (qa1 (qa1 d.d (i.i.toNat + 3) (.int .u8 x.i)) ((i.i + 255).toNat + 3) (.int .u8 x.i)) (x.i.toNat + 513) (.int .i64 i.i),y) = qbF (Z 1).d (i.i + 1).toNat:=fun y hy=>by
   rw [show (i.i + 1).toNat = i.i.toNat + 1 by omega,qbF,<- hd,qli,hy]
   simp only
   rw [show (i.i + 255).toNat = i.i.toNat + 255 by omega,ja6 i0]
  rw [w1,w2,w3,w4]
  refine ⟨by omega,i0,by omega,by omega,by omega,x0,x1,fun h=>⟨⟨by omega,by omega,hstep _ ?_⟩,by omega⟩,fun h=>⟨⟨by omega,by omega,hstep _ ?_⟩,by omega⟩⟩
  ·rw [qiv,jah h]
  ·rw [qiv,jaf (by omega)]
 ·have:i.i.toNat = 255:=by omega
  rw [this] at hd
  rw [<- hd]
theorem qm4 (w:World):(callFunc 198 #[]).run Tryz.prog w = .ok (.value (.tuple #[])) w:=run_call_mark0 Tryz.func198 (by kernel_rfl) (by kernel_rfl) (by kernel_rfl) .disable (by kernel_rfl) w
theorem qn4 (w:World):(callFunc 200 #[]).run Tryz.prog w = .ok (.value (.tuple #[])) w:=run_call_mark0 Tryz.func200 (by kernel_rfl) (by kernel_rfl) (by kernel_rfl) .enable (by kernel_rfl) w
theorem qvE (a:Addr) (w:World):(callFunc 201 #[.pointer (some a)]).run Tryz.prog w = .ok (.value (.tuple #[])) w:=run_call_marked Tryz.func201 (by kernel_rfl) (by kernel_rfl) (by kernel_rfl) .acquire (by kernel_rfl) a w
theorem qvp (a:Addr) (w:World):(callFunc 203 #[.pointer (some a)]).run Tryz.prog w = .ok (.value (.tuple #[])) w:=run_call_marked Tryz.func203 (by kernel_rfl) (by kernel_rfl) (by kernel_rfl) .releaseMerge (by kernel_rfl) a w
theorem qzz (a:Addr) (x:Value) (u:FrameMode) (w:World) (hc:w.cell? a = some x) (hz:w.frozen? a = false) :
  CallsD Tryz.prog 193 #[.pointer (some a),.bool true] u w fun e u' w'=>u' = u/\(e = .returned (.tuple #[])/\w' = w.drew.setCell a (.int .u32 1)):=by
 have hc':w.drew.cell? a = some x:=by go_simp
 have hz':w.drew.frozen? a = false:=by go_simp
 have hst:=run_call_store (P:=Tryz.prog) Tryz.func196 (by kernel_rfl) (by kernel_rfl) (by kernel_rfl) (by kernel_rfl) (k:=.u32) (y:=1) hc' hz'
 go_enter_d Tryz.func193,Tryz.ntmps193
 go_wp2
 go_region_calls
 all_goals (go_end0; exact ⟨rfl,rfl⟩)
set_option maxRecDepth 100000 in
set_option maxHeartbeats 1600000 in
theorem quA (a:Addr) (w:World) (hc:w.cell? a = some (.int .i32 0)) (hz:w.frozen? a = false) :
  Calls Tryz.prog 194 #[.pointer (some a)] w fun e w'=>e = .returned (.tuple #[])/\w' = w.setCell a (.int .i32 1):=by
 have hd:=qm4
 have he:=qn4
 have ha:=qvE
 have hcas:=run_call_cas_hit (P:=Tryz.prog) Tryz.func199 (by kernel_rfl) (by kernel_rfl) (by kernel_rfl) .i32 (by kernel_rfl) (y:=1) hc hz
 have hc':(w.setCell a (.int .i32 1)).cell? a = some (.int .i32 1):=World.cell?_setCell_same w a _ hc
 have hcv:=run_convert_to_unsafe (P:=Tryz.prog) (src:=283) (dst := 287) Tryz.underlying283 Tryz.underlying287 (by kernel_rfl) hc'
 go_enter Tryz.func194,Tryz.ntmps194
 go_wp2
 first | go_end0 | (simp only [Exit.inBlock,Exit.then]; refine bodyPost_ret (results_none rfl _ _ _) rfl ?_) | refine bodyPost_ret (results_none rfl _ _ _) rfl ?_
 go_wp2
 all_goals (go_end0; exact ⟨rfl,rfl⟩)
set_option maxRecDepth 100000 in
set_option maxHeartbeats 1600000 in
theorem qri (a:Addr) (w:World) (hc:w.cell? a = some (.int .i32 1)) (hz:w.frozen? a = false) :
  Calls Tryz.prog 195 #[.pointer (some a)] w fun e w'=>e = .returned (.tuple #[])/\w' = w.setCell a (.int .i32 0):=by
 have hd:=qm4
 have he:=qn4
 have hr:=qvp
 have hadd:=run_call_add (P:=Tryz.prog) Tryz.func204 (by kernel_rfl) (by kernel_rfl) (by kernel_rfl) .i32 (by kernel_rfl) (y:=-1) (s:=0) hc hz (by simp [go_sem]; rfl)
 have hcv:=run_convert_to_unsafe (P:=Tryz.prog) (src:=283) (dst := 287) Tryz.underlying283 Tryz.underlying287 (by kernel_rfl) hc
 go_enter Tryz.func195,Tryz.ntmps195
 go_wp2
 all_goals (try go_end0)
 all_goals (try go_wp2)
 all_goals (try go_end0)
 all_goals (exact ⟨rfl,rfl⟩)
set_option maxRecDepth 100000 in
theorem q3a (b off:Nat) (w:World) (hc:w.cell? ⟨b,off,none⟩ = some (.int .i32 0)) (hz:w.frozen? ⟨b,off,none⟩ = false) :
  Calls Tryz.prog 191 #[.pointer (some ⟨b,off,none⟩)] w fun e w'=>e = .returned (.tuple #[])/\w' = w.setCell ⟨b,off,none⟩ (.int .i32 1):=by
 go_enter Tryz.func191,Tryz.ntmps191
 go_wp2_with (go_at_call 194; refine (quA ⟨b,off,none⟩ _ (by go_simp) (by go_simp)).mono ?_; rintro e w' ⟨rfl,rfl⟩)
 all_goals (go_end0; exact ⟨rfl,rfl⟩)
set_option maxRecDepth 100000 in
theorem qwo (b off:Nat) (u:FrameMode) (w:World) (hc:w.cell? ⟨b,off,none⟩ = some (.int .i32 1)) (hz:w.frozen? ⟨b,off,none⟩ = false) :
  CallsD Tryz.prog 192 #[.pointer (some ⟨b,off,none⟩)] u w fun e u' w'=>u' = u/\(e = .returned (.tuple #[])/\w' = w.setCell ⟨b,off,none⟩ (.int .i32 0)):=by
 go_enter_d Tryz.func192,Tryz.ntmps192
 go_wp2_with (go_at_call 195; refine (qri ⟨b,off,none⟩ _ (by go_simp) (by go_simp)).mono ?_; rintro e w' ⟨rfl,rfl⟩)
 all_goals (go_end0; exact ⟨rfl,rfl⟩)
theorem qp3 {k:CK} {v:Value} (h:CK.fits k v = true):v.oneCell' = true:=by
 cases k <;> cases v <;> simp_all [CK.fits,Value.oneCell']
def At (w:World) (b:Nat) (c:Array Value):Prop:=w.heap[b]? = some (.cells c 151 (0,0))
structure Else (w w':World) (b:Nat):Prop where
 blk:∀ b',b' ≠ b->∀ o,w.heap[b']? = some o->w'.heap[b']? = some o
 os:w'.os = w.os
 out:w'.output = w.output
theorem Else.trans {w1 w2 w3:World} {b:Nat} (h:Else w1 w2 b) (h':Else w2 w3 b):Else w1 w3 b :=
 ⟨fun b' hb o ho=>h'.blk b' hb o (h.blk b' hb o ho),h'.os.trans h.os,h'.out.trans h.out⟩
theorem At.set {w:World} {b:Nat} {c:Array Value} (h:At w b c) (k:Nat) (v:Value):At (w.setCell ⟨b,k,none⟩ v) b (c.setIfInBounds k v)/\Else w (w.setCell ⟨b,k,none⟩ v) b:=by
 refine ⟨?_,fun b' hb o ho=>?_,rfl,rfl⟩
 ·have h:w.heap[b]? = some (.cells c 151 (0,0)):=h
  simp only [At,World.setCell,jb0,jbw,h,jav]
  simp
 ·simp only [World.setCell,jb0]
  rw [jaf (fun h=>hb h.symm)]; exact ho
theorem At.drew {w:World} {b:Nat} {c:Array Value} (h:At w b c):At w.drew b c/\Else w w.drew b:=⟨h,fun _ _ _ ho=>ho,rfl,rfl⟩
theorem At.cell {w:World} {b:Nat} {c:Array Value} (h:At w b c) {k:Nat} {v:Value} (hv:c[k]? = some v):w.cell? ⟨b,k,none⟩ = some v:=by rw [qaU h,hv]
theorem At.frozen {w:World} {b:Nat} {c:Array Value} (h:At w b c) (k:Nat):w.frozen? ⟨b,k,none⟩ = false:=by
 have h:w.heap[b]? = some (.cells c 151 (0,0)):=h
 simp [World.frozen?,h]
theorem qjC {c:Array Value} {k:Nat} {v:Value}:(c.setIfInBounds k v).toList = c.toList.set k v:=by simp
theorem qcL:qgD.length = 769:=by simp only [qgD,jal,ja4,jba,jcq]
set_option maxRecDepth 100000 in
theorem qwX {w:World} {b:Nat} {c:Array Value} (hb:At w b c) (hf:qt qgD c.toList) :
  Calls Tryz.prog 179 #[.pointer (some ⟨b,0,none⟩)] w fun e w'=>e = .returned (.tuple #[])/\∃ c',At w' b c'/\[c'.toList] = (qbF [c.toList] 255).1/\Else w w' b:=by
 let us:List U:=[{ r:=some ⟨b,0,none⟩ },{ d:=[c.toList] }]
 have hgood:Env.good fun n=>us.getD n {}:=fun n=>by
  match n with
  | 0=>simp [us,U.good,Value.oneCell']
  | 1 =>
   refine ⟨rfl,fun row hr v hv=>?_⟩
   simp only [us,jfh,jfg,jaj] at hr
   subst hr
   obtain ⟨k,hk⟩:=ja8 hv
   have hlt:k < qgD.length:=by rw [<- hf.1]; exact (jam.1 hk).1
   exact qp3 (hf.2 k _ v (jac hlt) hk)
  | n + 2=>simp [us,U.good,Value.oneCell']
 have hsz:c.size = 769:=by have:=hf.1; rw [qcL] at this; simpa using this
 have h:=q4O.2 (fun n=>us.getD n {}) w ⟨fun b'=>if b' = b then none else w.heap[b']?,w.os,w.output⟩ (Hp.one b (.cells c 151 (0,0))) hgood
  (fun y=>by by_cases hy:y = b <;> simp [hy,Hp.one])
  ⟨fun y o hy=>by
   by_cases hyb:y = b
   ·subst hyb
    simp [Hp.union,Hp.one] at hy
    rw [<- hy]; exact hb
   ·simpa [Hp.union,Hp.one,hyb] using hy,rfl,rfl⟩
  ⟨Hp.one b (.cells c 151 (0,0)),Hp.emp,Hp.disj_emp _,by funext y; simp [Hp.union,Hp.emp],.inr ⟨b,c,rfl,by simp [Hp.one],by rw [qcL,hsz]; simp [T.den,O0.den],by simp [us,T.den,O0.den],fun i row hi=>by
   match i with
   | 0 =>
    simp only [T.den,us,jfh,jfg,jat,jaa] at hi
    subst hi
    exact ⟨hf,fun k v hv=>by simpa using hv⟩
   | i + 1=>simp [T.den,us] at hi⟩,trivial⟩
  (fun x hx=>by cases hx) (show ([c.toList]:qf).length = 1 from rfl)
 refine h.mono fun e w' hq=>?_
 obtain ⟨ai,al,Z',hal,hg',hag,he,hpost,hO',hd',hst',hsub',hwi'⟩:=hq
 match ai,hal with
 | 0,hal =>
  obtain rfl:=jaz hal
  refine ⟨he,?_⟩
  obtain ⟨h1,h2,hdj,hu,hden,_⟩:=hst'
  have r0:(Z' 0).r = some ⟨b,0,none⟩:=by rw [hag 0 (by decide)]; rfl
  have d1:(Z' 1).d = [c.toList]:=by rw [hag 1 (by decide)]; rfl
  have hp2:(Z' 2).d = (qbF (Z' 1).d 255).1:=hpost
  rw [d1] at hp2
  have hl2:(Z' 2).d.length = 1:=by rw [hp2,qjR]; rfl
  rcases hden with ⟨hn,_,_⟩ | ⟨b',c',g1,g2,g3,g4,g5⟩
  ·rw [r0] at hn; cases hn
  ·rw [r0] at g1
   simp only [jaa,Addr.mk.injEq] at g1
   obtain ⟨rfl,_⟩:=g1
   obtain ⟨row,hrow⟩:∃ row,(Z' 2).d = [row]:=jd7.1 hl2
   obtain ⟨f1,f2⟩:=g5 0 row (by simp only [T.den]; rw [hrow]; rfl)
   have hs':c'.size = 769:=by rw [g3,qcL]; simp [T.den,O0.den]
   have hlr:row.length = 769:=by rw [f1.1,qcL]
   have hcl:c'.toList = row:=by
    apply jbv
    intro k
    by_cases hk:k < row.length
    ·have:=f2 k _ (jac hk)
     rw [jca,jac hk]
     simpa using this
    ·rw [jaw (by simp; omega),jaw (by omega)]
   refine ⟨c',hsub' b _ ?_,by rw [hcl,<- hrow,hp2],fun y hy o ho=>hsub' y o ?_,hwi'.1,hwi'.2⟩
   ·have:hO' b = some (.cells c' 151 (0,0)):=by rw [hu]; simp [Hp.union,g2]
    simp [Hp.union,this]
   ·simp [Hp.union,hy,ho]
 | n + 1,hal=>cases hal
theorem qnT:∀ (x:Bool) (w:World),(Op.unary .not (.bool x)).run Tryz.prog w = .ok (.bool (!x)) w:=fun _ _=>rfl
set_option maxRecDepth 100000 in
theorem qml (b:Nat) (x:Int) (w:World) (hc:w.cell? ⟨b,0,none⟩ = some (.int .u32 x)) :
  Calls Tryz.prog 187 #[.pointer (some ⟨b,0,none⟩)] w fun e w'=>e = .returned (.bool (x != 0))/\w' = w:=by
 have hl:=run_call_load (P:=Tryz.prog) Tryz.func190 (by kernel_rfl) (by kernel_rfl) (by kernel_rfl) .u32 (by kernel_rfl) hc
 go_enter Tryz.func187,Tryz.ntmps187
 go_wp2
 go_ret
 exact ⟨rfl,rfl⟩
set_option maxRecDepth 100000 in
theorem q2b (b:Nat) (d:Int) (hd:¬ d = 0) (fv:Value) (w:World) (h0:w.cell? ⟨b,0,none⟩ = some (.int .u32 d)) :
  Calls Tryz.prog 178 #[.pointer (some ⟨b,0,none⟩),fv] w fun e w'=>e = .returned (.tuple #[])/\w' = w:=by
 have hnot:=qnT
 have hd':(d != 0) = true:=by simp [hd]
 go_enter Tryz.func178,Tryz.ntmps178
 go_wp2_with (go_at_call 187; refine (qml b d _ h0).mono ?_; rintro e w' ⟨rfl,rfl⟩)
 all_goals (try go_end0)
 all_goals (exact ⟨rfl,rfl⟩)
def qoY:List CK->List Value->Bool
 | [],[]=>true
 | k :: ks,v :: vs=>CK.fits k v && qoY ks vs
 | _,_=>false
theorem qg2:∀ {ks:List CK} {vs:List Value},qoY ks vs = true->qt ks vs
 | [],[],_=>⟨rfl,fun c k v hk=>by simp at hk⟩
 | k :: ks,v :: vs,h=>by
  simp only [qoY,jag] at h
  obtain ⟨h1,h2⟩:=qg2 h.2
  refine ⟨by simp [h1],fun c k' v' hk hv=>?_⟩
  cases c with
  | zero=>simp at hk hv; subst hk; subst hv; exact h.1
  | succ c=>exact h2 c k' v' (by simpa using hk) (by simpa using hv)
 | [],_ :: _,h=>by simp [qoY] at h
 | _ :: _,[],h=>by simp [qoY] at h
theorem q0l:qt qgD (qb4.set 1 (.int .i32 1)):=qg2 (by kernel_rfl)
theorem q0o:[(((qbF [qb4.set 1 (.int .i32 1)] 255).1.headD []).set 0 (.int .u32 1)).set 1 (.int .i32 0)] = qaI:=by kernel_rfl
theorem q7j:((qbF [qb4.set 1 (.int .i32 1)] 255).1.headD [])[1]? = some (.int .i32 1):=by kernel_rfl
theorem q7G:((qbF [qb4.set 1 (.int .i32 1)] 255).1.headD [])[0]? = some (.int .u32 0):=by kernel_rfl
set_option maxRecDepth 100000 in
set_option maxHeartbeats 1600000 in
theorem q1x (b:Nat) (c:Array Value) (w:World) (hb:At w b c) (hc:c.toList = qb4) :
  Calls Tryz.prog 188 #[.pointer (some ⟨b,0,none⟩),.func (.func 179) #[.pointer (some ⟨b,0,none⟩)] #[]] w fun e w'=>e = .returned (.tuple #[])/\∃ c',At w' b c'/\[c'.toList] = qaI/\Else w w' b:=by
 have hnot:=qnT
 have hget:∀ k:Nat,c[k]? = qb4[k]?:=fun k=>by rw [<- hc]; simp
 have h1:w.cell? ⟨b,1,none⟩ = some (.int .i32 0):=hb.cell (by rw [hget]; rfl)
 have f1:w.frozen? ⟨b,1,none⟩ = false:=hb.frozen 1
 obtain ⟨a1,e1⟩:=hb.set 1 (.int .i32 1)
 have l1:(c.setIfInBounds 1 (.int .i32 1)).toList = qb4.set 1 (.int .i32 1):=by rw [qjC,hc]
 have h0:(w.setCell ⟨b,1,none⟩ (.int .i32 1)).cell? ⟨b,0,none⟩ = some (.int .u32 0):=a1.cell (by rw [<- jca,l1]; rfl)
 have hbuild:=qwX a1 (by rw [l1]; exact q0l)
 rw [l1] at hbuild
 go_enter_defers Tryz.func188,Tryz.ntmps188
 go_wp2_with (first | (go_at_call 191; refine (q3a b 1 _ h1 f1).mono ?_; rintro e w' ⟨rfl,rfl⟩) | (go_at_call 187; refine (qml b 0 _ h0).mono ?_; rintro e w' ⟨rfl,rfl⟩) | (go_at_call 179; refine hbuild.mono ?_; rintro e w' ⟨rfl,c2,a2,l2,e2⟩))
 have hrow:c2.toList = (qbF [qb4.set 1 (.int .i32 1)] 255).1.headD []:=by rw [<- l2]; rfl
 have k0:c2[0]? = some (.int .u32 0):=by rw [<- jca,hrow]; exact q7G
 have k1:c2[1]? = some (.int .i32 1):=by rw [<- jca,hrow]; exact q7j
 obtain ⟨a3,e3⟩:=a2.drew
 obtain ⟨a4,e4⟩:=a3.set 0 (.int .u32 1)
 obtain ⟨a5,e5⟩:=a4.set 1 (.int .i32 0)
 refine leaves_cons (f := 193) (args:=#[.pointer (some ⟨b,0,none⟩),.bool true]) (by simp) (by simp [go_sem]) ?_
 refine (qzz ⟨b,0,none⟩ (.int .u32 0) .returning _ (a2.cell k0) (a2.frozen 0)).mono ?_
 rintro e u' w'' ⟨rfl,rfl,rfl⟩
 refine leaves_cons (f := 192) (args:=#[.pointer (some ⟨b,1,none⟩)]) (by simp [settle]) (by simp [go_sem]) ?_
 refine (qwo b 1 _ _ (a4.cell (by simp [k1])) (a4.frozen 1)).mono ?_
 rintro e u' w'' ⟨rfl,rfl,rfl⟩
 have hfin:[((c2.setIfInBounds 0 (.int .u32 1)).setIfInBounds 1 (.int .i32 0)).toList] = qaI:=by
  rw [qjC,qjC,hrow]; exact q0o
 simp [Leaves,settle,results,Tryz.results188]
 exact ⟨_,a5,hfin,e1.trans (e2.trans (e3.trans (e4.trans e5)))⟩
set_option maxRecDepth 100000 in
theorem qzh (b:Nat) (c:Array Value) (w:World) (hb:At w b c) (hc:c.toList = qb4) :
  Calls Tryz.prog 178 #[.pointer (some ⟨b,0,none⟩),.func (.func 179) #[.pointer (some ⟨b,0,none⟩)] #[]] w fun e w'=>e = .returned (.tuple #[])/\∃ c',At w' b c'/\[c'.toList] = qaI/\Else w w' b:=by
 have hnot:=qnT
 have h0:w.cell? ⟨b,0,none⟩ = some (.int .u32 0):=hb.cell (by rw [<- jca,hc]; rfl)
 have hslow:=q1x b c w hb hc
 go_enter Tryz.func178,Tryz.ntmps178
 go_wp2_with (first | (go_at_call 187; refine (qml b 0 _ h0).mono ?_; rintro e w' ⟨rfl,rfl⟩) | (go_at_call 188; refine hslow.mono ?_; rintro e w' ⟨rfl,c2,a2,l2,e2⟩))
 all_goals (try go_end0)
 exact ⟨rfl,c2,a2,l2,e2⟩
theorem q8T:(qaI.headD [])[0]? = some (.int .u32 1):=by kernel_rfl
theorem qkz:qaI.length = 1:=by kernel_rfl
theorem ql9:qt qgD (qaI.headD []):=qg2 (by kernel_rfl)
set_option maxRecDepth 100000 in
theorem qro:qdY.ok Tryz.prog:=by
 refine ⟨fun args w=>Tryz.call178 args w,fun Z w hF hO hg hd hsub hst hro hpre=>?_⟩
 obtain ⟨h1,h2,hdj,hu,hden,_⟩:=hst
 have hlen:(Z 1).d.length = 1:=by
  rcases hpre with h | h
  ·rw [h]; rfl
  ·rw [h]; exact qkz
 rcases hden with ⟨hn,hnil,_⟩ | ⟨b,c,g1,g2,g3,g4,g5⟩
 ·have:(Z 1).d = []:=hnil
  rw [this] at hlen; cases hlen
 obtain ⟨row,hrow⟩:∃ row,(Z 1).d = [row]:=jd7.1 hlen
 obtain ⟨f1,f2⟩:=g5 0 row (by simp only [T.den]; rw [hrow]; rfl)
 have hs':c.size = 769:=by rw [g3,qcL]; simp [T.den,O0.den]
 have hlr:row.length = 769:=by rw [f1.1,qcL]
 have hcl:c.toList = row:=by
  apply jbv
  intro k
  by_cases hk:k < row.length
  ·have:=f2 k _ (jac hk)
   rw [jca,jac hk]
   simpa using this
  ·rw [jaw (by simp; omega),jaw (by omega)]
 have hOb:hO b = some (.cells c 151 (0,0)):=by rw [hu]; simp [Hp.union,g2]
 have hFb:hF b = none:=(hd b).resolve_right (by rw [hOb]; simp)
 have hb:At w b c:=hsub.1 b _ (by simp [Hp.union,hFb,hOb])
 have fin:∀ w',(∃ c',At w' b c'/\[c'.toList] = qaI/\Else w w' b)->∃ (ai:Nat) (al:Alt) (Z':Env),qdY.alts[ai]? = some al/\Z'.good/\(∀ n,n < qdY.nv->Z' n = Z n)/\(Ending.returned (.tuple #[]):Ending) = .returned (al.ret.den Z')/\al.post (Z'.upto (qdY.nv + al.k))/\qs Z' hF al.heap w':=fun w' ⟨c',a',hl',he'⟩=>by
  have hgd:({ d:=qaI }:U).good:=by
   refine ⟨rfl,fun r hr v hv=>?_⟩
   have hr:r ∈ qaI:=hr
   rw [<- hl',jaj] at hr
   subst hr
   have hh:qaI.headD [] = c'.toList:=by rw [<- hl']; rfl
   obtain ⟨k,hk⟩:=ja8 hv
   have hfit:=ql9
   rw [hh] at hfit
   have hlt:k < qgD.length:=by rw [<- hfit.1]; exact (jam.1 hk).1
   exact qp3 (hfit.2 k _ v (jac hlt) hk)
  refine ⟨0,_,Z.set 2 { d:=qaI },rfl,fun n=>?_,fun n hn=>Env.set_ne Z _ (by have:qdY.nv = 2:=rfl; omega),rfl,?_,Hp.upd hO b (.cells c' 151 (0,0)),?_,?_,?_,he'.os.trans hsub.2.1,he'.out.trans hsub.2.2⟩
  ·by_cases hn:n = 2
   ·subst hn; rw [Env.set_same]; exact hgd
   ·rw [Env.set_ne Z _ hn]; exact hg n
  ·show ((Z.set 2 { d:=qaI }).upto 3 2).d = qaI
   simp [Env.upto,Env.set_same]
  ·intro y
   by_cases hy:y = b
   ·subst hy; exact .inl hFb
   ·rcases hd y with h | h
    ·exact .inl h
    ·exact .inr (by simp [Hp.upd,hy,h])
  ·refine ⟨Hp.upd hO b (.cells c' 151 (0,0)),Hp.emp,Hp.disj_emp _,by funext y; simp [Hp.union,Hp.emp],.inr ⟨b,c',?_,by simp [Hp.upd],?_,?_,?_⟩,trivial⟩
   ·rw [Env.set_ne Z _ (by omega)]; exact g1
   ·have hfit:=ql9
    have hh:qaI.headD [] = c'.toList:=by rw [<- hl']; rfl
    rw [hh] at hfit
    have:=hfit.1
    rw [qcL] at this ⊢
    simp [T.den,O0.den] at this ⊢; omega
   ·simp only [T.den,Env.set_same,O0.den]; rw [qkz]; decide
   ·intro i r hi
    simp only [T.den,Env.set_same] at hi
    rw [<- hl'] at hi
    match i with
    | 0 =>
     simp only [jat,jaa] at hi
     subst hi
     have hfit:=ql9
     have hh:qaI.headD [] = c'.toList:=by rw [<- hl']; rfl
     rw [hh] at hfit
     exact ⟨hfit,fun k v hv=>by simpa using hv⟩
    | i + 1=>simp at hi
  ·intro y o ho
   by_cases hy:y = b
   ·subst hy
    simp [Hp.union,hFb,Hp.upd] at ho
    rw [<- ho]; exact a'
   ·refine he'.blk y hy o (hsub.1 y o ?_)
    simpa [Hp.union,Hp.upd,hy] using ho
 have hargs:(qdY.args.map (SV.den Z)).toArray = #[.pointer (some ⟨b,0,none⟩),.func (.func 179) #[.pointer (some ⟨b,0,none⟩)] #[]]:=by
  simp [qdY,qbw,SV.den,T.den,O0.den,O1.den,g1,qm,qc]
 rw [hargs]
 rcases hpre with h | h
 ·refine (qzh b c w hb ?_).mono fun e w' ⟨he,hh⟩=>?_
  ·rw [hcl]
   have:[row] = [qb4]:=hrow.symm.trans h
   exact (List.cons.inj this).1
  ·rw [he]; exact fin w' hh
 ·have hh:[row] = qaI:=hrow.symm.trans h
  have hr0:qaI.headD [] = row:=by rw [<- hh]; rfl
  have h0:=q8T
  rw [hr0] at h0
  refine (q2b b 1 (by decide) _ w (hb.cell (by rw [<- jca,hcl]; exact h0))).mono fun e w' ⟨he,hw⟩=>?_
  rw [he,hw]
  exact fin w ⟨c,hb,by rw [hcl]; exact hh,fun _ _ _ ho=>ho,rfl,rfl⟩
theorem qtM:qkH.ok Tryz.prog:=q8c (by simp [qro]) fun Z hg hp=>by
 obtain ⟨h1,a0,a1,b0,b1⟩:=hp
 simp [q6b,qkH,qdY]
 obtain ⟨l0,l1⟩:=qcr a0 a1
 obtain ⟨m0,m1⟩:=qcr b0 b1
 have hz:∀ h:(Z 2).i = 0∨(Z 3).i = 0,0 = qdb (Z 2).i (Z 3).i:=fun h=>by rw [qdb,jah h]
 have hne:¬ (Z 1).d = []:=fun h=>by
  have hl:=qkz
  rcases h1 with h' | h' <;> rw [h'] at h
  ·cases h
  ·rw [h] at hl; cases hl
 refine ⟨fun h=>(hne h).elim,fun _=>⟨fun h=>⟨h1,hz (.inl h)⟩,fun n2=>⟨fun h=>⟨h1,hz (.inr h)⟩,fun n3=>⟨List.length_pos_iff.2 hne,h1,fun u _ hu=>?_⟩⟩⟩⟩
 rw [hu]
 have e1:qa qaI ((Z 2).i.toNat + 513) = qbn (Z 2).i.toNat:=rfl
 have e2:qa qaI ((Z 3).i.toNat + 513) = qbn (Z 3).i.toNat:=rfl
 rw [e1,e2]
 have w:qe .add .i64 (qbn (Z 2).i.toNat) (qbn (Z 3).i.toNat) = qbn (Z 2).i.toNat + qbn (Z 3).i.toNat:=by
  simp [qe,IntKind.wrap,IntKind.bits,IntKind.signed]; omega
 rw [w]
 refine ⟨by rw [qkz]; decide,a0,a1,b0,b1,by omega,by omega,.inr rfl,?_⟩
 rw [qdb,jaf (by omega)]; rfl
theorem qpB:qe9.ok Tryz.prog:=q08 (by simp) fun Z hg hp=>by
 simp [qsx,qe9]
 refine ⟨fun h1=>⟨fun h2=>?_,fun h2=>?_⟩,fun h1=>?_⟩
 ·simp [qaD,h1,h2,qL]
 ·simp [qaD]; omega
 ·simp [qaD]; omega
theorem qpY:qe7.ok Tryz.prog:=qzR (by simp) fun Z hg hp=>by
 simp [qs9,qe7]
 unfold qe4
 refine ⟨fun h=>by omega,fun h1=>⟨fun h=>by omega,fun h2=>⟨fun h=>by omega,fun h3=>⟨fun h=>by omega,fun h4=>⟨by omega,by omega,fun _=>?_⟩⟩⟩⟩⟩
 rw [add64 (by omega) (by omega),sub64 (by omega) (by omega)]
 have hq:0 <= ((Z 1).i + (Z 0).i - 1).tdiv (Z 0).i/\((Z 1).i + (Z 0).i - 1).tdiv (Z 0).i <= 10000:=by
  rw [jeh (by omega)]
  refine ⟨Int.ediv_nonneg (by omega) (by omega),?_⟩
  have:=Int.ediv_le_self (a:=(Z 1).i + (Z 0).i - 1) (Z 0).i (by omega)
  omega
 exact wrap64 (by omega) (by omega)
theorem qlm:qdV.ok Tryz.prog:=q1R (by simp) fun Z hg hp=>by
 obtain ⟨h1,h2,h3,h4⟩:=hp
 simp [qtQ,qdV]
 have hb:=qap h1 h2 h3 h4
 rw [qch (by omega) (by omega)]
 omega
theorem qnV:qfA.ok Tryz.prog:=q5n (by simp) fun Z hg hp=>by
 obtain ⟨r0,r1,a0,a1,c0,c1,hl,hc,hd,hB⟩:=hp
 simp [qyo,qfA]
 have hb:=qap (x:=(Z 7).i) (y:=(Z 1).i) r0 (show (Z 7).i <= 255 by omega) c0 c1
 have hb2:=qap (x:=(Z 7).i + 1) (y:=(Z 1).i) (by omega) (show (Z 7).i + 1 <= 255 by omega) c0 c1
 have he:((Z 7).i + 1) * (Z 1).i = (Z 7).i * (Z 1).i + (Z 1).i:=by rw [jct,jcu]
 have hle:((Z 7).i + 1) * (Z 1).i <= (Z 0).i * (Z 1).i:=ja9 (by omega) c0
 rw [add64 (by omega) (by omega),qch (by omega) (by omega),qch (by omega) (by omega)]
 refine ⟨by omega,by omega,hb.1,by omega,by omega,?_,by omega⟩
 split
 ·have:(Z 1).i = 0:=by omega
  rw [this,Int.mul_zero]
 ·rfl
theorem qpi:qeE.ok Tryz.prog:=qzr (by simp) fun Z hg hp=>by
 have hp:0 <= (Z 3).i:=hp
 simp [qrJ,qeE]
 refine ⟨fun h1=>⟨fun h2=>⟨fun h3=>⟨fun h4=>⟨by omega,?_⟩,fun _=>by omega⟩,fun _=>by omega⟩,fun _=>by omega⟩,fun _=>by omega⟩
 have hb:=qap (x:=(Z 0).i) (y:=(Z 1).i) (by omega) h2 (by omega) h4
 rw [qch (by omega) (by omega)]
 omega
theorem qoT:qhN.ok Tryz.prog:=qzo (by simp) fun Z hg hp=>by
 obtain ⟨h0,h1,h2⟩:=hp
 simp [qs7,qhN]
 unfold Go.Eng.big at h2
 exact ⟨by omega,by omega,by omega⟩
theorem qoo:qeZ.ok Tryz.prog:=q4g (by simp [qtM]) fun Z hg hp=>by
 obtain ⟨hf,⟨o0,o1,o2,o3⟩,⟨s0,s1,s2,s3⟩,hle,hB,hB2,c0,c1⟩:=hp
 unfold Go.Eng.big at o3 s3
 simp [qy8,qeZ,q0H,qkH]
 refine ⟨fun hc=>⟨hf,hB,?_⟩,fun hc=>⟨s1,⟨s1,hf,hB,?_⟩,fun i _ fd _ dd _ i0 i1 hfd hl hBd hd=>⟨fun hi=>?_,fun hi=>?_⟩⟩⟩
 ·rw [hc,qmW (allB_list hB)]
 ·rw [show seg (bI (Z 12).d) (Z 9).i.toNat 0 = [] by simp [seg],qpP]
 ·have hcell:=qcP hB2 (i:=(Z 9).i + i.i) (by omega) (by omega)
  refine ⟨i0,s0,by omega,by omega,by omega,o0,by omega,by omega,⟨hfd,c0,c1,hcell⟩,fun m _ fd2 _ hf2 hm=>?_⟩
  rw [add64 (by omega) (by omega)]
  have hy:=qfu (d:=(Z 12).d) (i:=(Z 9).i + i.i) (by omega) (by omega)
  rw [show ((Z 9).i + i.i).toNat = (Z 9).i.toNat + i.i.toNat by omega] at hy
  have hz:=qfu (d:=dd.d) (i:=(Z 3).i + i.i) (by omega) (by omega)
  rw [show ((Z 3).i + i.i).toNat = (Z 3).i.toNat + i.i.toNat by omega,hd,qkk (by right; rw [qeQ (by rw [bI_len]; omega)]; omega)] at hz
  refine ⟨⟨by omega,by omega,hf2,by rw [qeB,hl],qkj hBd qgT.1 qgT.2,?_⟩,by omega⟩
  rw [qmi,hd,hm,show (i.i + 1).toNat = i.i.toNat + 1 by omega,qnD hz hy,show ((Z 3).i + i.i).toNat = (Z 3).i.toNat + i.i.toNat by omega]
  rfl
 ·have:i.i = (Z 10).i:=by omega
  rw [this] at hd
  exact ⟨hfd,hl,hBd,hd⟩
theorem q2l:qm0.ok Tryz.prog:=qt9 (by simp [qtM]) fun Z hg hp=>by
 obtain ⟨hf,⟨o0,o1,o2,o3⟩,⟨s0,s1,s2,s3⟩,hle,hdis,hB,c0,c1⟩:=hp
 unfold Go.Eng.big at o3 s3
 simp [qn9,qm0,qxS,qkH]
 refine ⟨fun hc=>⟨hf,hB,?_⟩,fun hc=>⟨s1,⟨s1,hf,hB,?_⟩,fun i _ fd _ dd _ i0 i1 hfd hl hBd hd=>⟨fun hi=>?_,fun hi=>?_⟩⟩⟩
 ·rw [hc,qmW (allB_list hB)]
 ·rw [show seg (bI (Z 6).d) (Z 8).i.toNat 0 = [] by simp [seg],qpP]
 ·have hcell:=qcP hBd (i:=(Z 8).i + i.i) (by omega) (by omega)
  have hsl:(seg (bI (Z 6).d) (Z 8).i.toNat i.i.toNat).length = i.i.toNat:=qeQ (by rw [bI_len]; omega)
  have hy:=qfu (d:=dd.d) (i:=(Z 8).i + i.i) (by omega) (by omega)
  rw [show ((Z 8).i + i.i).toNat = (Z 8).i.toNat + i.i.toNat by omega,hd,qkk (by rw [hsl]; omega)] at hy
  have hz:=qfu (d:=dd.d) (i:=(Z 3).i + i.i) (by omega) (by omega)
  rw [show ((Z 3).i + i.i).toNat = (Z 3).i.toNat + i.i.toNat by omega,hd,qkk (by rw [hsl]; omega)] at hz
  refine ⟨i0,s0,by omega,by omega,by omega,o0,by omega,by omega,⟨hfd,c0,c1,hcell⟩,fun m _ fd2 _ hf2 hm=>?_⟩
  rw [add64 (by omega) (by omega)]
  refine ⟨⟨by omega,by omega,hf2,by rw [qeB,hl],qkj hBd qgT.1 qgT.2,?_⟩,by omega⟩
  rw [qmi,hd,hm,show (i.i + 1).toNat = i.i.toNat + 1 by omega,qnD hz hy,show ((Z 3).i + i.i).toNat = (Z 3).i.toNat + i.i.toNat by omega]
  rfl
 ·have:i.i = (Z 9).i:=by omega
  rw [this] at hd
  exact ⟨hfd,hl,hBd,hd⟩
theorem q5h:qmt.ok Tryz.prog:=q38 (by simp [qtM]) fun Z hg hp=>by
 obtain ⟨hf,⟨o0,o1,o2,o3⟩,hB,c0,c1⟩:=hp
 unfold Go.Eng.big at o3
 simp [qxZ,qmt,q1H,qkH]
 refine ⟨o1,⟨o1,hf,hB,?_⟩,fun i _ fd _ dd _ i0 i1 hfd hl hBd hd=>⟨fun hi=>?_,fun hi=>?_⟩⟩
 ·rw [qwF]
 ·have hcell:=qcP hBd (i:=(Z 3).i + i.i) (by omega) (by omega)
  refine ⟨i0,o0,by omega,by omega,⟨hfd,hcell.1,hcell.2,c0,c1⟩,fun m _ fd2 _ hf2 hm=>?_⟩
  rw [add64 (by omega) (by omega)]
  have hz:=qfu (d:=dd.d) (i:=(Z 3).i + i.i) (by omega) (by omega)
  rw [show ((Z 3).i + i.i).toNat = (Z 3).i.toNat + i.i.toNat by omega,hd,q07 (by omega)] at hz
  have hmr:=qzN hcell.1 hcell.2 c0 c1
  refine ⟨⟨by omega,by omega,hf2,by rw [qeB,hl],qkj hBd (by rw [hm]; exact hmr.1) (by rw [hm]; exact hmr.2),?_⟩,by omega⟩
  rw [qmi,hd,hm,show (i.i + 1).toNat = i.i.toNat + 1 by omega,qxc hz,show ((Z 3).i + i.i).toNat = (Z 3).i.toNat + i.i.toNat by omega]
 ·have:i.i = (Z 4).i:=by omega
  rw [this] at hd
  exact ⟨hfd,hl,hBd,hd⟩
theorem q5P:qmm.ok Tryz.prog:=q4i (by simp [qro]) fun Z hg hp=>by
 obtain ⟨hf,a0,a1⟩:=hp
 obtain ⟨hne,hpos⟩:=qbR hf
 simp [qxp,qmm,qdY]
 refine ⟨fun h=>(hne h).elim,fun _=>⟨fun h=>⟨hf,by rw [qfy,jah h],h⟩,fun h=>⟨hpos,hf,fun u _ hu=>?_⟩⟩⟩
 rw [hu]
 obtain ⟨l0,l1⟩:=qcr a0 a1
 have e1:qa qaI ((Z 2).i.toNat + 513) = qbn (Z 2).i.toNat:=rfl
 rw [e1,sub64 (by omega) (by omega)]
 exact ⟨(qbR (.inr rfl)).2,a0,a1,by omega,by omega,.inr rfl,by rw [qfy,jaf h]; rfl,h⟩
theorem q4h:qla.ok Tryz.prog:=q44 (by simp [qro]) fun Z hg hp=>by
 obtain ⟨hf,a0,a1,e1⟩:=hp
 obtain ⟨hne,hpos⟩:=qbR hf
 simp [qxT,qla,qdY]
 refine ⟨fun h=>(hne h).elim,fun _=>⟨fun h=>⟨hf,by rw [qgM,jah h]⟩,fun he=>⟨fun h=>⟨hf,by rw [qgM,jaf (by omega),jah h]⟩,fun h=>⟨hpos,hf,fun u _ hu=>?_⟩⟩⟩⟩
 rw [hu]
 obtain ⟨l0,l1⟩:=qcr a0 a1
 have e1:qa qaI ((Z 2).i.toNat + 513) = qbn (Z 2).i.toNat:=rfl
 have hr:qe .rem .i64 (Z 3).i 255 = (Z 3).i.tmod 255:=rfl
 have hr0:0 <= (Z 3).i.tmod 255:=jfe _ (by omega)
 have hr1:(Z 3).i.tmod 255 < 255:=jfo _ (by omega)
 have hb:=qap l0 (show qbn (Z 2).i.toNat <= 255 by omega) hr0 (show (Z 3).i.tmod 255 <= 255 by omega)
 rw [e1,hr,qch (by omega) (by omega)]
 have hr2:qe .rem .i64 (qbn (Z 2).i.toNat * (Z 3).i.tmod 255) 255 = (qbn (Z 2).i.toNat * (Z 3).i.tmod 255).tmod 255:=rfl
 have hr3:0 <= (qbn (Z 2).i.toNat * (Z 3).i.tmod 255).tmod 255:=jfe _ hb.1
 have hr4:(qbn (Z 2).i.toNat * (Z 3).i.tmod 255).tmod 255 < 255:=jfo _ (by omega)
 rw [hr2]
 refine ⟨(qbR (.inr rfl)).2,a0,a1,hr3,by omega,.inr rfl,?_⟩
 rw [qgM,jaf (by omega),jaf h]; rfl
def qr6:Out:=(.fresh 1 (.br (.cmp .lss (tv 0) (tl 1))
 (.ret 0 (sg 1 []))
 (.br (.cmp .gtr (tv 0) (tl 255))
 (.ret 0 (sg 1 []))
 (.pre 0 (sg 0 [bv 1 0,bv 0 0]) (.both (fr 2 4 (.post 0 0 (sg 0 [bv 1 0,bv 0 0]) 2 (.fresh 6 (.inv 0 7 (sg 1000 [bv 1004 5,bv 1003 4,bv 1002 3,bg 1001 2,bt 1000 (tl 0),bg 1005 6,bg 1006 1]) (fr 7 7 (.hyp 0 7 (.br (.cmp .lss (tv 7) (tv 0))
 (.need (.cmp .leq (tl 0) (.arith .add .i64 (.arith .mul .i64 (tv 7) (tv 0)) (tv 7))) (.need (.cmp .lss (.arith .add .i64 (.arith .mul .i64 (tv 7) (tv 0)) (tv 7)) (tv 9)) (.need (.cmp .lss (.arith .add .i64 (.arith .mul .i64 (tv 7) (tv 0)) (tv 7)) (.dlen (tv 11))) (.back 0 7 (sg 1000 [bt 1004 (.dput (tv 11) (.arith .add .i64 (.arith .mul .i64 (tv 7) (tv 0)) (tv 7)) 0 (.rcons (.vint .u8 (tl 1)) .rnil)),bv 1003 10,bv 1002 9,bg 1001 8,bt 1000 (.arith .add .i64 (tv 7) (tl 1)),bg 1005 12,bg 1006 13])))))
 (.ret 1 (sg 1 [bv 4 11,bv 3 10,bv 2 9,bg 1 8]))))))))) .top)))))
theorem qzQ:qn Tryz.prog qfE [qdV] [qvl] qr6:=qh Tryz.func166 Tryz.call166 (by kernel_rfl)
def qoM:Out:=(.fresh 4 (.br (.and (.cmp .eql (.dlen (tv 1)) (tl 0)) (.isnil 0))
 (.stuck 7 0 0)
 (.br (.cmp .lss (tv 2) (tl 1))
 (.ret 0 (sg 4 [bv 4 1]))
 (.br (.cmp .gtr (tv 2) (tl 255))
 (.ret 0 (sg 4 [bv 4 1]))
 (.br (.cmp .lss (tv 3) (tl 1))
 (.ret 0 (sg 4 [bv 4 1]))
 (.br (.cmp .gtr (tv 3) (tl 255))
 (.ret 0 (sg 4 [bv 4 1]))
 (.pre 0 (sg 0 [bv 1 3,bv 0 2]) (.both (fr 5 4 (.post 0 0 (sg 0 [bv 1 3,bv 0 2]) 5 (.fresh 9 (.inv 0 10 (sg 1000 [bv 1004 8,bv 1003 7,bv 1002 6,bg 1001 5,bv 1006 1,bt 1000 (tl 0),bg 1005 9,bg 1007 4]) (fr 10 8 (.hyp 0 10 (.br (.cmp .lss (tv 10) (tv 2))
 (.inv 1 18 (sg 1000 [bv 1004 14,bv 1003 13,bv 1002 12,bg 1001 11,bv 1006 16,bt 1008 (tl 0),bv 1000 10,bg 1005 15,bg 1007 17]) (fr 18 9 (.hyp 1 18 (.br (.cmp .lss (tv 26) (tv 3))
 (.both (.pre 1 (sg 0 [bv 1 24,bv 3 26,bt 2 (.conv .u8 (tv 18)),bg 0 0]) (.both (fr 27 2 (.post 1 0 (sg 0 [bv 1 24,bv 3 26,bt 2 (.conv .u8 (tv 18)),bg 0 0]) 27 (.need (.cmp .leq (tl 0) (.arith .add .i64 (.arith .mul .i64 (tv 18) (tv 3)) (tv 26))) (.need (.cmp .lss (.arith .add .i64 (.arith .mul .i64 (tv 18) (tv 3)) (tv 26)) (tv 20)) (.need (.cmp .lss (.arith .add .i64 (.arith .mul .i64 (tv 18) (tv 3)) (tv 26)) (.dlen (tv 22))) (.both (.back 1 18 (sg 1000 [bt 1004 (.dput (tv 22) (.arith .add .i64 (.arith .mul .i64 (tv 18) (tv 3)) (tv 26)) 0 (.rcons (.vint .u8 (tv 27)) .rnil)),bv 1003 21,bv 1002 20,bg 1001 19,bv 1006 28,bt 1008 (.arith .add .i64 (tv 26) (tl 1)),bv 1000 18,bg 1005 23,bg 1007 25])) .top)))))) .top)) .top)
 (.back 0 10 (sg 1000 [bv 1004 22,bv 1003 21,bv 1002 20,bg 1001 19,bv 1006 24,bt 1000 (.arith .add .i64 (tv 18) (tl 1)),bg 1005 23,bg 1007 25]))))))
 (.ret 1 (sg 4 [bv 8 14,bv 7 16,bv 6 13,bv 5 12,bg 4 11]))))))))) .top))))))))
theorem qwI:qn Tryz.prog qeI [qdV,qla] [qsc,qrS] qoM:=qh Tryz.func150 Tryz.call150 (by kernel_rfl)
@[simp] def qpt:Sg:=sg 0 [bv 13 15,bv 12 14,bv 7 42,bv 6 43,bv 1 45,bt 14 (.icell (tv 7) (.plus (tv 50) (tv 49)) 0),bv 11 58,bv 10 57,bv 9 56,bg 8 11,bv 5 55,bv 4 54,bv 3 53,bg 2 40,bg 0 0]
def quI:Out:=(fr 16 3 (.br (.and (.cmp .eql (.dlen (tv 1)) (tl 0)) (.isnil 0))
 (.stuck 7 0 0)
 (.pre 0 (sg 0 [bv 6 8,bv 5 7,bv 4 6,bv 3 5,bg 2 4,bv 1 3,bv 0 2]) (.both (.fresh 19 (.post 0 0 (sg 0 [bv 6 8,bv 5 7,bv 4 6,bv 3 5,bg 2 4,bv 1 3,bv 0 2]) 19 (.br (.not (tv 19))
 (.ret 0 (sg 16 [bv 16 1]))
 (.pre 0 (sg 0 [bv 6 15,bv 5 14,bv 4 13,bv 3 12,bg 2 11,bv 1 10,bv 0 9]) (.both (.fresh 20 (.post 0 0 (sg 0 [bv 6 15,bv 5 14,bv 4 13,bv 3 12,bg 2 11,bv 1 10,bv 0 9]) 20 (.br (.not (tv 20))
 (.ret 0 (sg 16 [bv 16 1]))
 (.br (.cmp .neq (tv 3) (tv 9))
 (.ret 1 (sg 16 [bv 16 1]))
 (.pre 1 (sg 0 [bv 1 10,bv 0 2]) (.both (fr 21 4 (.post 1 0 (sg 0 [bv 1 10,bv 0 2]) 21 (.fresh 25 (.inv 0 26 (sg 1000 [bv 1004 24,bv 1003 23,bv 1002 22,bg 1001 21,bv 1006 1,bt 1000 (tl 0),bg 1005 25,bg 1008 17,bg 1007 16,bg 1009 18]) (fr 26 10 (.hyp 0 26 (.br (.cmp .lss (tv 26) (tv 2))
 (.pre 2 (sg 0 [bv 6 8,bv 5 7,bv 7 26,bv 4 6,bv 3 5,bg 2 4,bv 1 3,bv 0 2]) (.both (fr 36 3 (.post 2 0 (sg 0 [bv 6 8,bv 5 7,bv 7 26,bv 4 6,bv 3 5,bg 2 4,bv 1 3,bv 0 2]) 36 (.need (.cmp .leq (tl 0) (tv 37)) (.inv 1 39 (sg 1000 [bv 1004 30,bv 1003 29,bv 1002 28,bg 1001 27,bv 1006 32,bt 1010 (tl 0),bv 1013 38,bv 1012 37,bv 1011 36,bv 1000 26,bg 1005 31,bg 1008 34,bg 1007 33,bg 1009 35]) (fr 39 14 (.hyp 1 39 (.br (.cmp .lss (tv 49) (tv 51))
 (.need (.cmp .leq (tl 0) (tv 49)) (.need (.cmp .leq (tl 0) (tv 50)) (.need (.cmp .leq (tl 0) (.plus (tv 50) (tv 49))) (.need (.cmp .lss (.plus (tv 50) (tv 49)) (.dlen (tv 7))) (.both (.pre 2 (sg 0 [bv 6 42,bv 5 43,bv 7 39,bv 4 42,bv 3 41,bg 2 40,bv 1 10,bv 0 2]) (.both (fr 53 3 (.post 2 0 (sg 0 [bv 6 42,bv 5 43,bv 7 39,bv 4 42,bv 3 41,bg 2 40,bv 1 10,bv 0 2]) 53 (.both (.pre 2 (sg 0 [bv 6 15,bv 5 14,bv 7 49,bv 4 13,bv 3 12,bg 2 11,bv 1 10,bv 0 9]) (.both (fr 56 3 (.post 2 0 (sg 0 [bv 6 15,bv 5 14,bv 7 49,bv 4 13,bv 3 12,bg 2 11,bv 1 10,bv 0 9]) 56 (.both (.pre 3 qpt (.both (fr 59 2 (.post 3 0 qpt 59 (.back 1 39 (sg 1000 [bv 1004 60,bv 1003 42,bv 1002 41,bg 1001 40,bv 1006 59,bt 1010 (.arith .add .i64 (tv 49) (tl 1)),bv 1013 52,bv 1012 51,bv 1011 50,bv 1000 39,bg 1005 44,bg 1008 47,bg 1007 46,bg 1009 48])))) .top)) .top))) .top)) .top))) .top)) .top)))))
 (.back 0 26 (sg 1000 [bv 1004 43,bv 1003 42,bv 1002 41,bg 1001 40,bv 1006 45,bt 1000 (.arith .add .i64 (tv 39) (tl 1)),bg 1005 44,bg 1008 47,bg 1007 46,bg 1009 48]))))))))) .top))
 (.ret 2 (sg 16 [bv 20 30,bv 19 32,bv 18 29,bv 17 28,bg 16 27]))))))))) .top)))))) .top))))) .top))))
theorem q1N:qn Tryz.prog qiZ [qeE,qdV,qfA,qeZ] [qxP,qxV] quI:=qh Tryz.func151 Tryz.call151 (by kernel_rfl)
theorem qpO {f:Nat->Int} {len n:Nat}:(qca f len n).length = len:=by simp [qca]
theorem qwZ {f:Nat->Int} {len:Nat}:qca f len 0 = List.replicate len 0:=by
 apply jbv
 intro j
 by_cases hj:j < len
 ·simp [qca,jbj,hj]
 ·simp [qca,jbj,hj]
theorem qw0 {f:Nat->Int} {len n:Nat} (h:n < len):qca f len (n + 1) = (qca f len n).set n (f n):=by
 apply jbv
 intro j
 rw [jce]
 by_cases hj:j < len
 ·by_cases hn:n = j
  ·subst hn; rw [jah rfl,jah (by rw [qpO]; exact h)]; simp [qca,h]
  ·rw [jaf hn]
   simp only [qca,jan,jbx hj,jav,jaa]
   by_cases h1:j < n
   ·rw [jah (by omega),jah h1]
   ·rw [jaf (by omega),jaf h1]
 ·by_cases hn:n = j
  ·omega
  ·rw [jaf hn]; simp [qca,hj]
theorem quc {n:Nat}:qa7 n 0 = List.replicate (n * n) 0:=by
 apply jbv
 intro j
 by_cases hj:j < n * n
 ·simp [qa7,jbj,hj]
 ·simp [qa7,jbj,hj]
theorem qqE {i n l:Nat} (h:l < n):(i * n + l) / n = i/\(i * n + l) % n = l:=by
 have hn:0 < n:=by omega
 refine ⟨?_,?_⟩
 ·rw [jcf,jfa hn,je6 h,jcj]
 ·rw [jcf,jfb,jdn h]
theorem q8k {i r n l:Nat} (hi:i < r) (hl:l < n):i * n + l < r * n:=by
 have:=jbl n (show i + 1 <= r by omega)
 rw [jbr] at this; omega
theorem quM {n m:Nat} (h:m < n):qa7 n (m + 1) = (qa7 n m).set (m * n + m) 1:=by
 have hlt:=q8k h h
 obtain ⟨hd,hm⟩:=qqE (i:=m) h
 apply jbv
 intro j
 rw [jce]
 by_cases hj:j < n * n
 ·simp only [qa7,jan,jbx hj,jav,ja0,List.length_range]
  by_cases hn:m * n + m = j
  ·subst hn
   rw [jah rfl,jah hlt,hd,hm,jah ⟨rfl,by omega⟩]
  ·rw [jaf hn]
   congr 1
   by_cases h1:j / n = j % n/\j / n < m
   ·rw [jah h1,jah ⟨h1.1,by omega⟩]
   ·rw [jaf h1,jaf]
    rintro ⟨e1,e2⟩
    have:j / n = m:=by
     rcases jbs (j / n) m with h | h
     ·exact (h1 ⟨e1,h⟩).elim
     ·omega
    have hdm:=jdg j n
    rw [<- e1,this,jcf] at hdm
    exact hn hdm
 ·rw [jaf (by omega)]; simp [qa7,hj]
theorem q4K {l:List Int} {L o n:Nat} (h:o + n <= L):seg (l.take L) o n = seg l o n:=by
 apply jbv
 intro j
 rw [qeX,qeX]
 by_cases hj:j < n
 ·rw [jah hj,jah hj,jbh,jah (by omega)]
 ·rw [jaf hj,jaf hj]
theorem qzt {a b:List Int} {ra ca cb i l:Nat} (h:l < ca):qcg a b ra ca cb (i * ca + l + 1) = qag (qcg a b ra ca cb (i * ca + l)) (i * cb) (seg b (l * cb) cb) (a.getD (i * ca + l) 0):=by
 obtain ⟨hd,hm⟩:=qqE (i:=i) h
 rw [qcg,hd,hm]
theorem qrR {r c l cap:Int} {d:qf} {e:Int} {k:IntKind} {z:Int} (h:qe0 r c l cap d) (h0:0 <= z) (h1:z < 256):qe0 r c l cap (qbK d e 0 [.int k z]):=by
 obtain ⟨a1,a2,a3,a4,a5,a6,a7,a8⟩:=h
 exact ⟨a1,a2,a3,a4,a5,a6,by rw [qeB]; exact a7,qkj a8 h0 h1⟩
theorem qze {a e:Int} (a0:0 <= a) (a1:a < 256):0 <= qgM a e/\qgM a e < 256:=by
 unfold qgM
 split
 ·omega
 ·split
  ·omega
  ·obtain ⟨l0,l1⟩:=qcr a0 a1
   have hr0:0 <= e.tmod 255:=jfe _ (by omega)
   have hb:0 <= qbn a.toNat * e.tmod 255:=jfk l0 hr0
   have h3:0 <= (qbn a.toNat * e.tmod 255).tmod 255:=jfe _ hb
   have h4:(qbn a.toNat * e.tmod 255).tmod 255 < 255:=jfo _ (by omega)
   have:=qkA (i:=((qbn a.toNat * e.tmod 255).tmod 255).toNat) (by omega)
   omega
theorem qyE:qfE.ok Tryz.prog:=qzQ (by simp [qlm]) fun Z hg hp=>by
 simp [qr6,qfE,qvl,qdV]
 refine ⟨fun h=>.inl h,fun h1=>⟨fun h=>.inr h,fun h2=>⟨⟨by omega,h2,by omega,h2⟩,fun l _ cp _ d _ hl hc hd=>⟨⟨h1,h2,by omega,?_⟩,fun i _ l' _ c' _ d' _ _ _ i0 i1 hM hL hB=>⟨fun hi=>?_,fun hi=>?_⟩⟩⟩⟩⟩
 ·have hb:=qap (x:=(Z 0).i) (y:=(Z 0).i) (by omega) h2 (by omega) h2
  refine ⟨⟨by omega,h2,by omega,h2,hl,by omega,by rw [hd,ja4]; omega,by rw [hd]; exact qhG⟩,by rw [hd,ja4]; omega,?_⟩
  rw [hd,qlS,quc,hl,jb8 (by omega) (by omega)]
 ·have hM':=hM
  obtain ⟨a1,a2,a3,a4,a5,a6,a7,a8⟩:=hM
  have hb:=qap (x:=i.i) (y:=(Z 0).i) i0 (show i.i <= 255 by omega) (by omega) h2
  have hlt:i.i * (Z 0).i + i.i < (Z 0).i * (Z 0).i:=by
   have:=ja9 (show i.i + 1 <= (Z 0).i by omega) (show 0 <= (Z 0).i by omega)
   rw [jct,jcu] at this; omega
  rw [qch (by omega) (by omega),add64 (by omega) (by omega),add64 (by omega) (by omega)]
  refine ⟨by omega,by omega,by omega,⟨h1,h2,by omega,by omega,qrR hM' (by decide) (by decide),by rw [qeB]; exact hL,?_⟩,by omega⟩
  rw [qmi,hB,show (i.i + 1).toNat = i.i.toNat + 1 by omega,quM (by omega)]
  congr 1
  rw [je2 hb.1 i0,jb8 i0 (by omega)]
 ·have:i.i = (Z 0).i:=by omega
  rw [this] at hB
  exact ⟨h1,h2,hM,hL,hB⟩
theorem qwv:qeI.ok Tryz.prog:=qwI (by simp [qlm,q4h]) fun Z hg hp=>by
 have hf:qx (Z 1).d:=hp
 simp [qoM,qeI,qsc,qrS,qrc,qdV,qla]
 have hne:=(qbR hf).1
 refine ⟨fun h=>(hne h).elim,fun _=>⟨fun h=>⟨hf,.inl h⟩,fun r1=>⟨fun h=>⟨hf,.inr (.inl h)⟩,fun r2=>⟨fun h=>⟨hf,.inr (.inr (.inl h))⟩,fun c1=>⟨fun h=>⟨hf,.inr (.inr (.inr h))⟩,fun c2=>?_⟩⟩⟩⟩⟩
 have hnb:¬ qco (Z 2).i (Z 3).i:=by unfold qco; omega
 have hb:=qap (x:=(Z 2).i) (y:=(Z 3).i) (by omega) r2 (by omega) c2
 refine ⟨⟨by omega,r2,by omega,c2⟩,fun l _ cp _ d _ hl hc hd=>⟨⟨by omega,hnb,hf,?_⟩,fun i _ l' _ c' _ d' _ fd _ i0 i1 _ hfd hM hL hB=>⟨fun hi=>⟨⟨i0,hi,by omega,hnb,hfd,hM,hL,hB⟩,fun i' _ l2 _ cp2 _ d2 _ fd2 _ j _ i0' i1' j0 j1 _ hfd2 hM2 hL2 hB2 hii=>⟨fun hj=>?_,fun hj=>?_⟩⟩,fun hi=>?_⟩⟩⟩
 ·refine ⟨⟨by omega,r2,by omega,c2,hl,by omega,by rw [hd,ja4]; omega,by rw [hd]; exact qhG⟩,by rw [hd,ja4]; omega,?_⟩
  rw [hd,qlS,qwZ,hl,jb8 (by omega) (by omega)]
 ·have hw:IntKind.u8.wrap i'.i = i'.i:=by simp [IntKind.wrap,IntKind.bits,IntKind.signed]; omega
  rw [hw]
  have hM2':=hM2
  obtain ⟨a1,a2,a3,a4,a5,a6,a7,a8⟩:=hM2
  have hb2:=qap (x:=i'.i) (y:=(Z 3).i) i0' (show i'.i <= 255 by omega) (by omega) c2
  have hlt:i'.i * (Z 3).i + j.i < (Z 2).i * (Z 3).i:=by
   have:=ja9 (show i'.i + 1 <= (Z 2).i by omega) (show 0 <= (Z 3).i by omega)
   rw [jct,jcu] at this; omega
  refine ⟨⟨hfd2,i0',by omega,by omega⟩,fun p _ fd3 _ hf3 hpw=>?_⟩
  rw [qch (by omega) (by omega),add64 (by omega) (by omega),add64 (by omega) (by omega)]
  have hpr:=qze (e:=j.i) i0' (show i'.i < 256 by omega)
  refine ⟨by omega,by omega,by omega,⟨i0',i1',by omega,by omega,⟨hnb,hf3,qrR hM2' (by rw [hpw]; exact hpr.1) (by rw [hpw]; exact hpr.2),by rw [qeB]; exact hL2,?_⟩,hii⟩,by omega⟩
  have ht:(i'.i * (Z 3).i + j.i).toNat = i'.i.toNat * (Z 3).i.toNat + j.i.toNat:=by rw [je2 hb2.1 j0,jb8 i0' (by omega)]
  rw [qmi,hB2,show (i'.i * (Z 3).i + (j.i + 1)).toNat = (i'.i * (Z 3).i + j.i).toNat + 1 by omega,qw0 (by rw [<- jb8 (by omega) (by omega)]; omega)]
  congr 1
  obtain ⟨e1,e2⟩:=qqE (i:=i'.i.toNat) (n:=(Z 3).i.toNat) (l:=j.i.toNat) (by omega)
  rw [ht,qmE,e1,e2,hpw,ja6 i0',ja6 j0]
 ·have hj':j.i = (Z 3).i:=by omega
  rw [add64 (by omega) (by omega)]
  rw [hj',show i'.i * (Z 3).i + (Z 3).i = (i'.i + 1) * (Z 3).i by rw [jct,jcu]] at hB2
  exact ⟨⟨by omega,by omega,hnb,hfd2,hM2,hL2,hB2⟩,by omega⟩
 ·have:i.i = (Z 2).i:=by omega
  rw [this,jb8 (by omega) (by omega)] at hB
  exact ⟨hfd,hnb,hM,hL,hB⟩
theorem q31:qiZ.ok Tryz.prog:=q1N (by simp [qpi,qlm,qnV,qoo]) fun Z hg hp=>by
 obtain ⟨hf,la0,la1,la2,hBa,lb0,lb1,lb2,hBb⟩:=hp
 have hne:=(qbR hf).1
 simp [quI,qiZ,qxP,qxV,qqU,qeE,qdV,qfA,qeZ]
 refine ⟨fun h=>(hne h).elim,fun _=>⟨la0,fun v1 _ hv1=>⟨fun hb=>⟨hf,fun h=>?_⟩,fun hb=>⟨lb0,fun v2 _ hv2=>⟨fun hb2=>⟨hf,fun _ h=>?_⟩,fun hb2=>?_⟩⟩⟩⟩⟩
 ·have:=hv1.2 h
  rw [hb] at this; cases this
 ·have:=hv2.2 h
  rw [hb2] at this; cases this
 have vA:qbe (Z 2).i (Z 3).i (Z 5).i:=hv1.1 hb
 have vB:qbe (Z 9).i (Z 10).i (Z 12).i:=hv2.1 hb2
 refine ⟨fun h=>⟨hf,vA,vB,h⟩,fun hcr=>?_⟩
 obtain ⟨ra1,ra2,ca1,ca2,hla⟩:=vA
 obtain ⟨rb1,rb2,cb1,cb2,hlb⟩:=vB
 have mA:qe0 (Z 2).i (Z 3).i (Z 5).i (Z 6).i (Z 7).d:=⟨by omega,ra2,by omega,ca2,hla,la1,la2,hBa⟩
 have mB:qe0 (Z 9).i (Z 10).i (Z 12).i (Z 13).i (Z 14).d:=⟨by omega,rb2,by omega,cb2,hlb,lb1,lb2,hBb⟩
 have hbA:=qap (x:=(Z 2).i) (y:=(Z 3).i) (by omega) ra2 (by omega) ca2
 have hbP:=qap (x:=(Z 2).i) (y:=(Z 10).i) (by omega) ra2 (by omega) cb2
 refine ⟨⟨by omega,ra2,by omega,cb2⟩,fun l _ cp _ d _ hl hc hd=>⟨⟨by omega,hv1.1 hb,hv2.1 hb2,hcr,hf,?_⟩,fun i _ l' _ c' _ d' _ fd _ i0 i1 _ _ _ hfd hM hL hB=>⟨fun hi=>⟨⟨i0,hi,mA⟩,fun o1 _ n1 _ k1 _ ho1 hn1 hk1=>⟨by omega,⟨i0,hi,by omega,ho1,hn1,hv1.1 hb,hv2.1 hb2,hcr,hfd,hM,hL,hB⟩,?_⟩⟩,fun hi=>?_⟩⟩⟩
 ·refine ⟨⟨by omega,ra2,by omega,cb2,hl,by omega,by rw [hd,ja4]; omega,by rw [hd]; exact qhG⟩,by rw [hd,ja4]; omega,?_⟩
  rw [hd,qlS,qcg,hl,jb8 (by omega) (by omega)]
 ·intro i' _ l2 _ cp2 _ d2 _ fd2 _ j _ o2 _ n2 _ i0' i1' j0 j1 ho2 hn2 _ _ _ hfd2 hM2 hL2 hB2 hii
  refine ⟨fun hj=>?_,fun hj=>?_⟩
  ·have hjc:j.i < (Z 3).i:=by omega
   have hbi:=qap (x:=i'.i) (y:=(Z 3).i) i0' (show i'.i <= 255 by omega) (by omega) ca2
   have hbo:=qap (x:=i'.i) (y:=(Z 10).i) i0' (show i'.i <= 255 by omega) (by omega) cb2
   have hbj:=qap (x:=j.i) (y:=(Z 10).i) j0 (show j.i <= 255 by omega) (by omega) cb2
   have hltA:i'.i * (Z 3).i + j.i < (Z 2).i * (Z 3).i:=by
    have:=ja9 (show i'.i + 1 <= (Z 2).i by omega) (show 0 <= (Z 3).i by omega)
    rw [jct,jcu] at this; omega
   have hltP:i'.i * (Z 10).i + (Z 10).i <= (Z 2).i * (Z 10).i:=by
    have:=ja9 (show i'.i + 1 <= (Z 2).i by omega) (show 0 <= (Z 10).i by omega)
    rw [jct,jcu] at this; omega
   have hltB:j.i * (Z 10).i + (Z 10).i <= (Z 9).i * (Z 10).i:=by
    have:=ja9 (show j.i + 1 <= (Z 9).i by omega) (show 0 <= (Z 10).i by omega)
    rw [jct,jcu] at this; omega
   have hM2':=hM2
   obtain ⟨a1,a2,a3,a4,a5,a6,a7,a8⟩:=hM2
   have hcell:=qcP hBa (i:=i'.i * (Z 3).i + j.i) (by omega) (by omega)
   rw [ho2]
   refine ⟨j0,by omega,by omega,by omega,⟨i0',i1',hM2'⟩,fun o3 _ n3 _ k3 _ ho3 hn3 hk3=>⟨⟨j0,by omega,mB⟩,fun o4 _ n4 _ k4 _ ho4 hn4 hk4=>⟨⟨hfd2,⟨by omega,by omega,by omega,by unfold Go.Eng.big; omega⟩,⟨by omega,by omega,by omega,by unfold Go.Eng.big; omega⟩,by omega,a8,hBb,hcell⟩,fun fd5 _ d5 _ hf5 hl5 hB5 he5=>?_⟩⟩⟩
   rw [add64 (by omega) (by omega)]
   refine ⟨⟨i0',i1',by omega,by omega,rfl,hn2,⟨hv1.1 hb,hv2.1 hb2,hcr,hf5,⟨a1,a2,a3,a4,a5,a6,by omega,hB5⟩,by omega,?_⟩,hii⟩,by omega⟩
   have ht:(i'.i * (Z 3).i + j.i).toNat = i'.i.toNat * (Z 3).i.toNat + j.i.toNat:=by rw [je2 hbi.1 j0,jb8 i0' (by omega)]
   have hget:=qfu (d:=(Z 7).d) (i:=i'.i * (Z 3).i + j.i) (by omega) (by omega)
   rw [he5,hB2,show (i'.i * (Z 3).i + (j.i + 1)).toNat = (i'.i * (Z 3).i + j.i).toNat + 1 by omega,ht,qzt (by omega)]
   have e1:o3.i.toNat = i'.i.toNat * (Z 10).i.toNat:=by rw [ho3,jb8 i0' (by omega)]
   have e2:o4.i.toNat = j.i.toNat * (Z 10).i.toNat:=by rw [ho4,jb8 j0 (by omega)]
   have e3:((bI (Z 7).d).take (Z 5).i.toNat).getD (i'.i.toNat * (Z 3).i.toNat + j.i.toNat) 0 = qb (Z 7).d (i'.i * (Z 3).i + j.i) 0:=by
    rw [jad,jbh,jah (by rw [<- ht]; omega),<- ht,hget]; rfl
   rw [e3,e1,e2,hn4,q4K (by rw [<- e2]; omega)]
  ·have hj':j.i = (Z 3).i:=by omega
   rw [add64 (by omega) (by omega)]
   rw [hj',show i'.i * (Z 3).i + (Z 3).i = (i'.i + 1) * (Z 3).i by rw [jct,jcu]] at hB2
   exact ⟨⟨by omega,by omega,hv1.1 hb,hv2.1 hb2,hcr,hfd2,hM2,hL2,hB2⟩,by omega⟩
 ·have:i.i = (Z 2).i:=by omega
  rw [this,jb8 (by omega) (by omega)] at hB
  exact ⟨hfd,hv1.1 hb,hv2.1 hb2,hcr,hM,hL,hB⟩
@[simp] def qgj:Sg:=sg 0 [bv 6 8,bv 5 30,bv 7 25,bv 4 6,bv 3 5,bg 2 4,bv 1 3,bv 0 2]
@[simp] def qgw:Sg:=sg 0 [bv 6 15,bv 5 31,bv 7 25,bv 4 13,bv 3 12,bg 2 11,bv 1 10,bv 0 9]
@[simp] def qoA:Sg:=sg 0 [bv 1 27,bt 2 (.icell (tv 30) (.arith .add .i64 (.arith .mul .i64 (tv 25) (tv 3)) (tv 26)) 0),bg 0 0]
@[simp] def qp9:Sg:=sg 0 [bv 1 47,bt 2 (.icell (tv 40) (.arith .add .i64 (.arith .mul .i64 (tv 25) (tv 3)) (tv 26)) 0),bg 0 0]
@[simp] def qpz:Sg:=sg 0 [bv 7 8,bv 6 30,bv 1 27,bt 11 (tl 1),bv 10 38,bv 9 37,bv 8 36,bv 5 35,bv 4 34,bv 3 33,bg 2 4,bg 0 0]
@[simp] def qp6:Sg:=sg 0 [bv 7 15,bv 6 31,bv 1 39,bt 11 (tl 1),bv 10 46,bv 9 45,bv 8 44,bv 5 43,bv 4 42,bv 3 41,bg 2 11,bg 0 0]
@[simp] def qpV:Sg:=sg 0 [bv 7 8,bv 6 51,bv 1 48,bt 11 (.icell (tv 51) (.arith .add .i64 (.arith .mul .i64 (tv 53) (tv 3)) (tv 47)) 0),bv 10 59,bv 9 58,bv 8 57,bv 5 56,bv 4 55,bv 3 54,bg 2 4,bg 0 0]
@[simp] def qoQ:Sg:=sg 0 [bv 7 8,bv 6 67,bv 1 64,bt 11 (.icell (tv 67) (.arith .add .i64 (.arith .mul .i64 (tv 69) (tv 3)) (tv 63)) 0),bv 10 75,bv 9 74,bv 8 73,bv 5 72,bv 4 71,bv 3 70,bg 2 4,bg 0 0]
@[simp] def qqq:Sg:=sg 0 [bv 7 15,bv 6 52,bv 1 60,bt 11 (.icell (tv 51) (.arith .add .i64 (.arith .mul .i64 (tv 53) (tv 3)) (tv 47)) 0),bv 10 67,bv 9 66,bv 8 65,bv 5 64,bv 4 63,bv 3 62,bg 2 11,bg 0 0]
@[simp] def qqu:Sg:=sg 0 [bv 7 15,bv 6 68,bv 1 76,bt 11 (.icell (tv 67) (.arith .add .i64 (.arith .mul .i64 (tv 69) (tv 3)) (tv 63)) 0),bv 10 83,bv 9 82,bv 8 81,bv 5 80,bv 4 79,bv 3 78,bg 2 11,bg 0 0]
@[simp] def qpN:Out:=.br (.cmp .eql (tv 32) (tv 2))
 (.back 0 18 (sg 1000 [bv 1006 31,bv 1005 30,bv 1002 27,bt 1001 (.arith .add .i64 (tv 26) (tl 1)),bv 1000 25,bg 1004 29,bg 1003 28]))
 (.br (.cmp .neq (tv 32) (tv 25))
 (.both (.pre 0 qgj (.both (fr 33 3 (.post 0 0 qgj 33 (.both (.pre 0 (sg 0 [bv 6 8,bv 5 30,bv 7 32,bv 4 6,bv 3 5,bg 2 4,bv 1 3,bv 0 2]) (.both (fr 36 3 (.post 0 0 (sg 0 [bv 6 8,bv 5 30,bv 7 32,bv 4 6,bv 3 5,bg 2 4,bv 1 3,bv 0 2]) 36 (.both (.pre 2 qpz (.both (fr 39 2 (.post 2 0 qpz 39 (.both (.pre 0 qgw (.both (fr 41 3 (.post 0 0 qgw 41 (.both (.pre 0 (sg 0 [bv 6 15,bv 5 31,bv 7 32,bv 4 13,bv 3 12,bg 2 11,bv 1 10,bv 0 9]) (.both (fr 44 3 (.post 0 0 (sg 0 [bv 6 15,bv 5 31,bv 7 32,bv 4 13,bv 3 12,bg 2 11,bv 1 10,bv 0 9]) 44 (.both (.pre 2 qp6 (.both (fr 47 2 (.post 2 0 qp6 47 (.need (.cmp .leq (tl 0) (.arith .add .i64 (.arith .mul .i64 (tv 25) (tv 3)) (tv 26))) (.need (.cmp .lss (.arith .add .i64 (.arith .mul .i64 (tv 25) (tv 3)) (tv 26)) (tv 5)) (.need (.cmp .lss (.arith .add .i64 (.arith .mul .i64 (tv 25) (tv 3)) (tv 26)) (.dlen (tv 40))) (.pre 3 qp9 (.both (fr 49 3 (.post 3 0 qp9 49 (.pre 0 (sg 0 [bv 6 8,bv 5 40,bv 7 25,bv 4 6,bv 3 5,bg 2 4,bv 1 3,bv 0 2]) (.both (fr 52 3 (.post 0 0 (sg 0 [bv 6 8,bv 5 40,bv 7 25,bv 4 6,bv 3 5,bg 2 4,bv 1 3,bv 0 2]) 52 (.pre 4 (sg 0 [bv 7 8,bv 6 40,bv 1 51,bv 8 49,bv 5 54,bv 4 53,bv 3 52,bg 2 4,bg 0 0]) (.both (fr 55 2 (.post 4 0 (sg 0 [bv 7 8,bv 6 40,bv 1 51,bv 8 49,bv 5 54,bv 4 53,bv 3 52,bg 2 4,bg 0 0]) 55 (.pre 0 (sg 0 [bv 6 15,bv 5 48,bv 7 25,bv 4 13,bv 3 12,bg 2 11,bv 1 10,bv 0 9]) (.both (fr 57 3 (.post 0 0 (sg 0 [bv 6 15,bv 5 48,bv 7 25,bv 4 13,bv 3 12,bg 2 11,bv 1 10,bv 0 9]) 57 (.pre 4 (sg 0 [bv 7 15,bv 6 48,bv 1 55,bv 8 49,bv 5 59,bv 4 58,bv 3 57,bg 2 11,bg 0 0]) (.both (fr 60 2 (.post 4 0 (sg 0 [bv 7 15,bv 6 48,bv 1 55,bv 8 49,bv 5 59,bv 4 58,bv 3 57,bg 2 11,bg 0 0]) 60 (.inv 2 62 (sg 1000 [bv 1006 61,bv 1005 56,bv 1002 60,bt 1007 (tl 0),bv 1001 26,bv 1000 25,bg 1004 29,bg 1003 28]) (fr 62 8 (.hyp 2 62 (.br (.cmp .lss (tv 69) (tv 2))
 (.need (.cmp .leq (tl 0) (.arith .add .i64 (.arith .mul .i64 (tv 69) (tv 3)) (tv 63))) (.need (.cmp .lss (.arith .add .i64 (.arith .mul .i64 (tv 69) (tv 3)) (tv 63)) (tv 5)) (.need (.cmp .lss (.arith .add .i64 (.arith .mul .i64 (tv 69) (tv 3)) (tv 63)) (.dlen (tv 67))) (.br (.cmp .neq (tv 69) (tv 62))
 (.both (.pre 0 (sg 0 [bv 6 8,bv 5 67,bv 7 69,bv 4 6,bv 3 5,bg 2 4,bv 1 3,bv 0 2]) (.both (fr 70 3 (.post 0 0 (sg 0 [bv 6 8,bv 5 67,bv 7 69,bv 4 6,bv 3 5,bg 2 4,bv 1 3,bv 0 2]) 70 (.both (.pre 0 (sg 0 [bv 6 8,bv 5 67,bv 7 62,bv 4 6,bv 3 5,bg 2 4,bv 1 3,bv 0 2]) (.both (fr 73 3 (.post 0 0 (sg 0 [bv 6 8,bv 5 67,bv 7 62,bv 4 6,bv 3 5,bg 2 4,bv 1 3,bv 0 2]) 73 (.both (.pre 2 qoQ (.both (fr 76 2 (.post 2 0 qoQ 76 (.both (.pre 0 (sg 0 [bv 6 15,bv 5 68,bv 7 69,bv 4 13,bv 3 12,bg 2 11,bv 1 10,bv 0 9]) (.both (fr 78 3 (.post 0 0 (sg 0 [bv 6 15,bv 5 68,bv 7 69,bv 4 13,bv 3 12,bg 2 11,bv 1 10,bv 0 9]) 78 (.both (.pre 0 (sg 0 [bv 6 15,bv 5 68,bv 7 62,bv 4 13,bv 3 12,bg 2 11,bv 1 10,bv 0 9]) (.both (fr 81 3 (.post 0 0 (sg 0 [bv 6 15,bv 5 68,bv 7 62,bv 4 13,bv 3 12,bg 2 11,bv 1 10,bv 0 9]) 81 (.both (.pre 2 qqu (.both (fr 84 2 (.post 2 0 qqu 84 (.back 2 62 (sg 1000 [bv 1006 85,bv 1005 77,bv 1002 84,bt 1007 (.arith .add .i64 (tv 69) (tl 1)),bv 1001 63,bv 1000 62,bg 1004 66,bg 1003 65])))) .top)) .top))) .top)) .top))) .top)) .top))) .top)) .top))) .top)) .top))) .top)) .top)
 (.back 2 62 (sg 1000 [bv 1006 68,bv 1005 67,bv 1002 64,bt 1007 (.arith .add .i64 (tv 69) (tl 1)),bv 1001 63,bv 1000 62,bg 1004 66,bg 1003 65]))))))
 (.back 0 18 (sg 1000 [bv 1006 68,bv 1005 67,bv 1002 64,bt 1001 (.arith .add .i64 (tv 63) (tl 1)),bt 1000 (.arith .add .i64 (tv 62) (tl 1)),bg 1004 66,bg 1003 65])))))))) .top)))) .top)))) .top)))) .top)))) .top))))))) .top)) .top))) .top)) .top))) .top)) .top))) .top)) .top))) .top)) .top))) .top)) .top)
 (.need (.cmp .leq (tl 0) (.arith .add .i64 (.arith .mul .i64 (tv 25) (tv 3)) (tv 26))) (.need (.cmp .lss (.arith .add .i64 (.arith .mul .i64 (tv 25) (tv 3)) (tv 26)) (tv 5)) (.need (.cmp .lss (.arith .add .i64 (.arith .mul .i64 (tv 25) (tv 3)) (tv 26)) (.dlen (tv 30))) (.pre 3 qoA (.both (fr 33 3 (.post 3 0 qoA 33 (.pre 0 qgj (.both (fr 36 3 (.post 0 0 qgj 36 (.pre 4 (sg 0 [bv 7 8,bv 6 30,bv 1 35,bv 8 33,bv 5 38,bv 4 37,bv 3 36,bg 2 4,bg 0 0]) (.both (fr 39 2 (.post 4 0 (sg 0 [bv 7 8,bv 6 30,bv 1 35,bv 8 33,bv 5 38,bv 4 37,bv 3 36,bg 2 4,bg 0 0]) 39 (.pre 0 qgw (.both (fr 41 3 (.post 0 0 qgw 41 (.pre 4 (sg 0 [bv 7 15,bv 6 31,bv 1 39,bv 8 33,bv 5 43,bv 4 42,bv 3 41,bg 2 11,bg 0 0]) (.both (fr 44 2 (.post 4 0 (sg 0 [bv 7 15,bv 6 31,bv 1 39,bv 8 33,bv 5 43,bv 4 42,bv 3 41,bg 2 11,bg 0 0]) 44 (.inv 2 46 (sg 1000 [bv 1006 45,bv 1005 40,bv 1002 44,bt 1007 (tl 0),bv 1001 26,bv 1000 25,bg 1004 29,bg 1003 28]) (fr 46 8 (.hyp 2 46 (.br (.cmp .lss (tv 53) (tv 2))
 (.need (.cmp .leq (tl 0) (.arith .add .i64 (.arith .mul .i64 (tv 53) (tv 3)) (tv 47))) (.need (.cmp .lss (.arith .add .i64 (.arith .mul .i64 (tv 53) (tv 3)) (tv 47)) (tv 5)) (.need (.cmp .lss (.arith .add .i64 (.arith .mul .i64 (tv 53) (tv 3)) (tv 47)) (.dlen (tv 51))) (.br (.cmp .neq (tv 53) (tv 46))
 (.both (.pre 0 (sg 0 [bv 6 8,bv 5 51,bv 7 53,bv 4 6,bv 3 5,bg 2 4,bv 1 3,bv 0 2]) (.both (fr 54 3 (.post 0 0 (sg 0 [bv 6 8,bv 5 51,bv 7 53,bv 4 6,bv 3 5,bg 2 4,bv 1 3,bv 0 2]) 54 (.both (.pre 0 (sg 0 [bv 6 8,bv 5 51,bv 7 46,bv 4 6,bv 3 5,bg 2 4,bv 1 3,bv 0 2]) (.both (fr 57 3 (.post 0 0 (sg 0 [bv 6 8,bv 5 51,bv 7 46,bv 4 6,bv 3 5,bg 2 4,bv 1 3,bv 0 2]) 57 (.both (.pre 2 qpV (.both (fr 60 2 (.post 2 0 qpV 60 (.both (.pre 0 (sg 0 [bv 6 15,bv 5 52,bv 7 53,bv 4 13,bv 3 12,bg 2 11,bv 1 10,bv 0 9]) (.both (fr 62 3 (.post 0 0 (sg 0 [bv 6 15,bv 5 52,bv 7 53,bv 4 13,bv 3 12,bg 2 11,bv 1 10,bv 0 9]) 62 (.both (.pre 0 (sg 0 [bv 6 15,bv 5 52,bv 7 46,bv 4 13,bv 3 12,bg 2 11,bv 1 10,bv 0 9]) (.both (fr 65 3 (.post 0 0 (sg 0 [bv 6 15,bv 5 52,bv 7 46,bv 4 13,bv 3 12,bg 2 11,bv 1 10,bv 0 9]) 65 (.both (.pre 2 qqq (.both (fr 68 2 (.post 2 0 qqq 68 (.back 2 46 (sg 1000 [bv 1006 69,bv 1005 61,bv 1002 68,bt 1007 (.arith .add .i64 (tv 53) (tl 1)),bv 1001 47,bv 1000 46,bg 1004 50,bg 1003 49])))) .top)) .top))) .top)) .top))) .top)) .top))) .top)) .top))) .top)) .top))) .top)) .top)
 (.back 2 46 (sg 1000 [bv 1006 52,bv 1005 51,bv 1002 48,bt 1007 (.arith .add .i64 (tv 53) (tl 1)),bv 1001 47,bv 1000 46,bg 1004 50,bg 1003 49]))))))
 (.back 0 18 (sg 1000 [bv 1006 52,bv 1005 51,bv 1002 48,bt 1001 (.arith .add .i64 (tv 47) (tl 1)),bt 1000 (.arith .add .i64 (tv 46) (tl 1)),bg 1004 50,bg 1003 49])))))))) .top)))) .top)))) .top)))) .top)))) .top))))))
def qtA:Out:=(fr 16 2 (.inv 0 18 (sg 1000 [bv 1006 14,bv 1005 7,bv 1002 1,bt 1001 (tl 0),bt 1000 (tl 0),bg 1004 17,bg 1003 16]) (fr 18 7 (.hyp 0 18 (.br (.cmp .lss (tv 19) (tv 3))
 (.br (.cmp .lss (tv 18) (tv 2))
 (.inv 1 25 (sg 1000 [bv 1006 24,bv 1005 23,bv 1002 20,bv 1007 18,bv 1001 19,bv 1000 18,bg 1004 22,bg 1003 21]) (fr 25 8 (.hyp 1 25 (.br (.cmp .lss (tv 32) (tv 2))
 (.need (.cmp .leq (tl 0) (.arith .add .i64 (.arith .mul .i64 (tv 32) (tv 3)) (tv 26))) (.need (.cmp .lss (.arith .add .i64 (.arith .mul .i64 (tv 32) (tv 3)) (tv 26)) (tv 5)) (.need (.cmp .lss (.arith .add .i64 (.arith .mul .i64 (tv 32) (tv 3)) (tv 26)) (.dlen (tv 30))) (.br (.cmp .eql (.icell (tv 30) (.arith .add .i64 (.arith .mul .i64 (tv 32) (tv 3)) (tv 26)) 0) (tl 0))
 (.back 1 25 (sg 1000 [bv 1006 31,bv 1005 30,bv 1002 27,bt 1007 (.arith .add .i64 (tv 32) (tl 1)),bv 1001 26,bv 1000 25,bg 1004 29,bg 1003 28]))
 qpN))))
 qpN))))
 (.ret 0 (sg 16 [bv 19 24,bv 18 23,bv 17 20,bv 16 18])))
 (.ret 0 (sg 16 [bv 19 24,bv 18 23,bv 17 20,bv 16 18])))))))
theorem q1t:qn Tryz.prog qjx [qfA,qeZ,qm0,qmm,qmt] [qx3,qxq,qyh] qtA:=qh Tryz.func167 Tryz.call167 (by kernel_rfl)
@[simp] def qkN:Sg:=sg 0 [bv 15 14,bv 14 15,bv 8 18,bv 7 19,bv 1 1,bv 13 14,bv 12 13,bg 11 12,bv 10 2,bv 9 2,bv 6 18,bv 5 5,bg 4 17,bv 3 3,bv 2 2,bg 0 0]
def qnB:Out:=(fr 9 2 (.br (.and (.cmp .eql (.dlen (tv 1)) (tl 0)) (.isnil 0))
 (.ret 0 (sg 9 [bv 10 1,bt 9 (tl 1)]))
 (.pre 0 (sg 0 [bv 6 8,bv 5 7,bv 4 6,bv 3 5,bg 2 4,bv 1 3,bv 0 2]) (.both (.fresh 11 (.post 0 0 (sg 0 [bv 6 8,bv 5 7,bv 4 6,bv 3 5,bg 2 4,bv 1 3,bv 0 2]) 11 (.br (.not (tv 11))
 (.ret 0 (sg 9 [bv 10 1,bt 9 (tl 2)]))
 (.br (.cmp .neq (tv 2) (tv 3))
 (.ret 0 (sg 9 [bv 10 1,bt 9 (tl 10)]))
 (.pre 1 (sg 0 [bv 0 2]) (.both (fr 12 4 (.post 1 0 (sg 0 [bv 0 2]) 12 (.fresh 16 (.both (.pre 2 (sg 0 [bv 6 8,bv 5 7,bv 4 6,bv 3 5,bg 2 4,bv 1 3,bv 0 2]) (.both (fr 17 3 (.post 2 0 (sg 0 [bv 6 8,bv 5 7,bv 4 6,bv 3 5,bg 2 4,bv 1 3,bv 0 2]) 17 (.both (.pre 3 qkN (.both (fr 20 4 (.post 3 0 qkN 20 (.br (.cmp .lss (tv 20) (tv 2))
 (.ret 0 (sg 9 [bv 10 21,bt 9 (tl 11)]))
 (.ret 1 (sg 9 [bv 13 23,bv 12 21,bv 11 14,bv 10 13,bg 9 12]))))) .top)) .top))) .top)) .top)))) .top)))))) .top))))
theorem qvn:qn Tryz.prog qf5 [qeE,qqW,qq1,qjx] [] qnB:=qh Tryz.func134 Tryz.call134 (by kernel_rfl)
@[simp] def qlK:Sg:=sg 0 [bv 8 8,bv 7 10,bv 1 9,bv 6 8,bt 5 (.arith .mul .i64 (tv 2) (tv 2)),bg 4 6,bv 3 2,bv 2 2,bg 0 0]
@[simp] def qia:Sg:=sg 0 [bv 15 15,bv 14 17,bv 8 8,bv 7 10,bv 1 16,bv 13 15,bv 12 14,bg 11 13,bv 10 2,bv 9 2,bv 6 8,bv 5 7,bg 4 6,bv 3 2,bv 2 3,bg 0 0]
@[simp] def qis:Sg:=sg 0 [bt 15 (tl 0),bt 14 .dnil,bv 8 8,bv 7 10,bv 1 14,bt 13 (tl 0),bt 12 (tl 0),(11,.nil),bt 10 (tl 0),bt 9 (tl 0),bv 6 8,bv 5 7,bg 4 6,bv 3 2,bv 2 3,bg 0 0]
def qyA:Out:=(.fresh 4 (.br (.and (.cmp .eql (.dlen (tv 1)) (tl 0)) (.isnil 0))
 (.stuck 7 0 0)
 (.pre 0 (sg 0 [bv 1 3,bv 0 2]) (.both (.fresh 5 (.post 0 0 (sg 0 [bv 1 3,bv 0 2]) 5 (.br (.not (tv 5))
 (.ret 0 (sg 4 [bv 4 1]))
 (.pre 1 (sg 0 [bv 1 1,bv 3 2,bv 2 3,bg 0 0]) (.both (fr 6 5 (.post 1 0 (sg 0 [bv 1 1,bv 3 2,bv 2 3,bg 0 0]) 6 (.fresh 11 (.know (.cmp .leq (.dlen (tv 10)) (tv 8)) (.need (.cmp .leq (tl 0) (tv 7)) (.need (.cmp .leq (tl 0) (tv 8)) (.need (.cmp .leq (tl 0) (.arith .mul .i64 (tv 2) (tv 2))) (.need (.cmp .leq (.arith .mul .i64 (tv 2) (tv 2)) (tv 8)) (.fresh 12 (.pre 2 qlK (.both (fr 13 2 (.post 2 0 qlK 13 (.fresh 15 (.pre 3 qis (.both (.fresh 16 (.post 3 0 qis 16 (.ret 0 (sg 4 [bv 4 16])))) (.both (.fresh 16 (.post 3 1 qis 16 (.stuck 7 0 0))) (.both (fr 16 5 (.post 3 2 qis 16 (.pack [.cells 15 200 [(.vint .i64 (tl 0)),(.vint .i64 (tl 0)),.vnils],.cells 12 200 [(.vint .i64 (tv 2)),(.vint .i64 (tv 2)),(.vslice 6 (tl 0) (.arith .mul .i64 (tv 2) (tv 2)) (tv 8) 1)],.cells 11 200 [(.vint .i64 (tv 3)),(.vint .i64 (tv 2)),(.vslice 6 (tl 0) (tv 7) (tv 8) 1)],.arr 6 5 [CK.int .u8] (tv 10) (tv 8),.cells 4 200 [(.vint .i64 (tv 3)),(.vint .i64 (tl 0)),(.vslice 16 (tl 0) (tv 17) (tv 18) 1)]] 21 (.need (.cmp .eql (tv 2) (tl 0)) (.ret 1 (sg 4 [bg 9 21,bv 8 20,bv 7 19,bv 6 18,bv 5 17,bg 4 16])))))) .top))))))) (.both (fr 13 5 (.post 2 1 qlK 13 (.fresh 18 (.pre 3 qia (.both (.fresh 19 (.post 3 0 qia 19 (.ret 0 (sg 4 [bv 4 19])))) (.both (.fresh 19 (.post 3 1 qia 19 (.stuck 7 0 0))) (.both (fr 19 5 (.post 3 2 qia 19 (.pack [.cells 18 200 [(.vint .i64 (tv 2)),(.vint .i64 (tv 2)),(.vslice 13 (tl 0) (tv 14) (tv 15) 1)],.arr 13 5 [CK.int .u8] (tv 17) (tv 15),.cells 12 200 [(.vint .i64 (tv 2)),(.vint .i64 (tv 2)),(.vslice 6 (tl 0) (.arith .mul .i64 (tv 2) (tv 2)) (tv 8) 1)],.cells 11 200 [(.vint .i64 (tv 3)),(.vint .i64 (tv 2)),(.vslice 6 (tl 0) (tv 7) (tv 8) 1)],.arr 6 5 [CK.int .u8] (tv 10) (tv 8),.cells 4 200 [(.vint .i64 (tv 3)),(.vint .i64 (tv 2)),(.vslice 19 (tl 0) (tv 20) (tv 21) 1)]] 24 (.ret 1 (sg 4 [bg 9 24,bv 8 23,bv 7 22,bv 6 21,bv 5 20,bg 4 19]))))) .top))))))) .top)))))))))))) .top))))) .top))))
theorem q4z:qn Tryz.prog qje [qe9,qnJ,qf5,qiZ] [] qyA:=qh Tryz.func122 Tryz.call122 (by kernel_rfl)
theorem idx {r n i c:Int} (hr:r <= 255) (hn:n <= 255) (i0:0 <= i) (i1:i < r) (c0:0 <= c) (c1:c < n) :
  qe .add .i64 (qe .mul .i64 i n) c = i * n + c/\0 <= i * n + c/\i * n + c < r * n/\(i * n + c).toNat = i.toNat * n.toNat + c.toNat:=by
 have hb:=qap (x:=i) (y:=n) i0 (show i <= 255 by omega) (by omega) hn
 have hlt:i * n + n <= r * n:=by
  have:=ja9 (show i + 1 <= r by omega) (show 0 <= n by omega)
  rw [jct,jcu] at this; omega
 refine ⟨by rw [qch (by omega) (by omega),add64 (by omega) (by omega)],by omega,by omega,?_⟩
 rw [je2 hb.1 c0,jb8 i0 (by omega)]
theorem qfm {r n i:Int} (i0:0 <= i) (i1:i < r) (n0:0 <= n):0 <= i * n/\i * n + n <= r * n/\(i * n).toNat = i.toNat * n.toNat:=by
 have hlt:i * n + n <= r * n:=by
  have:=ja9 (show i + 1 <= r by omega) n0
  rw [jct,jcu] at this; omega
 exact ⟨jfk i0 n0,hlt,jb8 i0 n0⟩
theorem qjg {n i j:Int} (h:¬ i = j) (n0:0 <= n):j * n + n <= i * n∨i * n + n <= j * n:=by
 rcases Int.lt_or_gt_of_ne h with h | h
 ·right
  have:=ja9 (show i + 1 <= j by omega) n0
  rw [jct,jcu] at this; omega
 ·left
  have:=ja9 (show j + 1 <= i by omega) n0
  rw [jct,jcu] at this; omega
theorem qim {d:qf} {e:Int} (h0:0 <= e) (h1:e < d.length):(bI d).getD e.toNat 0 = qb d e 0:=by
 rw [jad,qfu h0 h1]; rfl
theorem qV.seg {r c l cap:Int} {d:qf} (h:qV r c l cap d) {i o n:Int} (i0:0 <= i) (i1:i < r) (ho:o = i * c) (hn:n = c):qmH d o n:=by
 obtain ⟨⟨a1,a2,a3,a4,a5,a6,a7,a8⟩,a9⟩:=h
 obtain ⟨b1,b2,_⟩:=qfm i0 i1 a3
 exact ⟨by omega,by omega,by omega,by unfold Go.Eng.big; omega⟩
theorem qV.next {r c l cap:Int} {d d':qf} (h:qV r c l cap d) (hl:d'.length = d.length) (hB:q6 d'):qV r c l cap d':=by
 obtain ⟨⟨a1,a2,a3,a4,a5,a6,a7,a8⟩,a9⟩:=h
 exact ⟨⟨a1,a2,a3,a4,a5,a6,by omega,hB⟩,by omega⟩
theorem qoV {rows ca cb:Nat} {a b:List Int} {c:Nat} (h:rows <= (qbP rows ca cb a b c).2.2):∀ k,qbP rows ca cb a b (c + k) = qbP rows ca cb a b c
 | 0=>rfl
 | k + 1=>by
  rw [<- jco,qbP,qoV h k,qc8,jah h]
theorem q1W {a:List Int} {ca c p n:Nat} (h:¬ a.getD (p * ca + c) 0 = 0):qcH a ca c p n = p:=by
 cases n with
 | zero=>rfl
 | succ n=>rw [qcH,jaf h]
section
variable {r ca cb l1 c1 l2 c2 rank c p i:Int} {f da db a0 b0:qf}
theorem qcz.start (hf:qx f) (hA:qV r ca l1 c1 da) (hB:qV r cb l2 c2 db):qcz r ca cb l1 c1 l2 c2 0 0 f da db da db :=
 ⟨⟨hf,hA,hB,by omega,hA.1.1,by omega,hA.1.2.2.1⟩,rfl⟩
theorem qdP.start (h:qcz r ca cb l1 c1 l2 c2 rank c f da db a0 b0) (hr:rank < r) (hc:c < ca):qdP r ca cb l1 c1 l2 c2 rank c rank f da db a0 b0 :=
 ⟨h,hr,hc,by omega,by omega,rfl⟩
theorem qdP.next (h:qdP r ca cb l1 c1 l2 c2 rank c p f da db a0 b0) (hp:p < r) (hz:qb da (p * ca + c) 0 = 0):qdP r ca cb l1 c1 l2 c2 rank c (p + 1) f da db a0 b0:=by
 obtain ⟨h1,h2,h3,h4,h5,h6⟩:=h
 refine ⟨h1,h2,h3,by omega,by omega,?_⟩
 obtain ⟨⟨_,hA,hB,w1,w2,w3,w4⟩,_⟩:=h1
 obtain ⟨⟨a1,a2,a3,a4,a5,a6,a7,a8⟩,a9⟩:=hA
 obtain ⟨_,e1,e2,e3⟩:=idx (i:=p) a2 a4 (by omega) hp w3 h3
 have hg:=qim (d:=da) e1 (by omega)
 rw [e3] at hg
 rw [<- h6,show r.toNat - p.toNat = (r.toNat - (p + 1).toNat) + 1 by omega,qcH,jah (by rw [hg]; exact hz),show (p + 1).toNat = p.toNat + 1 by omega]
theorem qcz.skip (h:qdP r ca cb l1 c1 l2 c2 rank c p f da db a0 b0) (hp:p = r):qcz r ca cb l1 c1 l2 c2 rank (c + 1) f da db a0 b0:=by
 obtain ⟨⟨⟨hf,hA,hB,w1,w2,w3,w4⟩,he⟩,h2,h3,h4,h5,h6⟩:=h
 refine ⟨⟨hf,hA,hB,w1,w2,by omega,by omega⟩,?_⟩
 rw [show (c + 1).toNat = c.toNat + 1 by omega,qbP,<- he,qc8]
 simp only
 rw [jaf (by omega),jah]
 rw [<- h6,hp,jfd,qcH]
theorem qdP.piv (h:qdP r ca cb l1 c1 l2 c2 rank c p f da db a0 b0) (hp:p < r) (hz:¬ qb da (p * ca + c) 0 = 0):qcH (bI da) ca.toNat c.toNat rank.toNat (r.toNat - rank.toNat) = p.toNat:=by
 obtain ⟨⟨⟨hf,hA,hB,w1,w2,w3,w4⟩,he⟩,h2,h3,h4,h5,h6⟩:=h
 obtain ⟨⟨a1,a2,a3,a4,a5,a6,a7,a8⟩,a9⟩:=hA
 obtain ⟨_,e1,e2,e3⟩:=idx (i:=p) a2 a4 (by omega) hp w3 h3
 have hg:=qim (d:=da) e1 (by omega)
 rw [e3] at hg
 rw [<- h6,q1W (by rw [hg]; exact hz)]
theorem qcE.start {da1 db1 da2 db2 f2:qf} {o1 n1 o2 n2 x:Int} (h:qdP r ca cb l1 c1 l2 c2 rank c p f da db a0 b0) (hp:p < r) (hz:¬ qb da (p * ca + c) 0 = 0)
  (hs:(bI da1,bI db1) = qbA ca.toNat cb.toNat rank.toNat p.toNat (bI da) (bI db)) (hl1:da1.length = da.length) (hl2:db1.length = db.length)
  (hx:x = qfy (qb da1 (rank * ca + c) 0)) (hA2:bI da2 = qbc (bI da1) o1.toNat n1.toNat x) (hB2:bI db2 = qbc (bI db1) o2.toNat n2.toNat x) (ho1:o1 = rank * ca) (hn1:n1 = ca) (ho2:o2 = rank * cb) (hn2:n2 = cb)
  (hl3:da2.length = da1.length) (hl4:db2.length = db1.length) (hb1:q6 da2) (hb2:q6 db2) (hf2:qx f2):qcE r ca cb l1 c1 l2 c2 rank c 0 f2 da2 db2 a0 b0:=by
 have hpiv:=qdP.piv h hp hz
 obtain ⟨⟨⟨hf,hA,hB,w1,w2,w3,w4⟩,he⟩,h2,h3,h4,h5,h6⟩:=h
 refine ⟨⟨hf2,qV.next hA (by omega) hb1,qV.next hB (by omega) hb2,w1,w2,w3,w4⟩,h2,h3,by omega,by omega,_,he,rfl,by simp only; rw [hpiv]; omega,?_⟩
 obtain ⟨⟨a1,a2,a3,a4,a5,a6,a7,a8⟩,a9⟩:=hA
 obtain ⟨⟨d1,d2,d3,d4,d5,d6,d7,d8⟩,d9⟩:=hB
 obtain ⟨_,e1,e2,e3⟩:=idx (i:=rank) a2 a4 w1 h2 w3 h3
 have hg:=qim (d:=da1) e1 (by omega)
 rw [e3] at hg
 have hr1:=(qfm (n:=ca) w1 h2 a3).2.2
 have hr2:=(qfm (n:=cb) w1 h2 d3).2.2
 simp only [qfS,jdm,qaA]
 rw [hpiv,<- hs]
 simp only [qgJ]
 rw [hg,<- hx,hA2,hB2,ho1,ho2,hn1,hn2,hr1,hr2]
theorem qcE.same (h:qcE r ca cb l1 c1 l2 c2 rank c i f da db a0 b0) (hi:i < r) (he:i = rank):qcE r ca cb l1 c1 l2 c2 rank c (i + 1) f da db a0 b0:=by
 obtain ⟨hw,h2,h3,h4,h5,s,hs,hs2,hs3,hs4⟩:=h
 refine ⟨hw,h2,h3,by omega,by omega,s,hs,hs2,hs3,?_⟩
 rw [show (i + 1).toNat = i.toNat + 1 by omega,qaA]
 rw [jah (by omega)]; exact hs4
theorem qcE.next {da2 db2 f2:qf} {o1 o2 p1 m1 p2 m2:Int} (h:qcE r ca cb l1 c1 l2 c2 rank c i f da db a0 b0) (hi:i < r) (hne:¬ i = rank)
  (hA2:bI da2 = qag (bI da) o1.toNat (seg (bI da) p1.toNat m1.toNat) (qb da (i * ca + c) 0)) (hB2:bI db2 = qag (bI db) o2.toNat (seg (bI db) p2.toNat m2.toNat) (qb da (i * ca + c) 0))
  (ho1:o1 = i * ca) (hp1:p1 = rank * ca) (hm1:m1 = ca) (ho2:o2 = i * cb) (hp2:p2 = rank * cb) (hm2:m2 = cb)
  (hl3:da2.length = da.length) (hl4:db2.length = db.length) (hb1:q6 da2) (hb2:q6 db2) (hf2:qx f2):qcE r ca cb l1 c1 l2 c2 rank c (i + 1) f2 da2 db2 a0 b0:=by
 obtain ⟨⟨hf,hA,hB,w1,w2,w3,w4⟩,h2,h3,h4,h5,s,hs,hs2,hs3,hs4⟩:=h
 refine ⟨⟨hf2,qV.next hA hl3 hb1,qV.next hB hl4 hb2,w1,w2,w3,w4⟩,h2,h3,by omega,by omega,s,hs,hs2,hs3,?_⟩
 obtain ⟨⟨a1,a2,a3,a4,a5,a6,a7,a8⟩,a9⟩:=hA
 obtain ⟨⟨d1,d2,d3,d4,d5,d6,d7,d8⟩,d9⟩:=hB
 obtain ⟨_,e1,e2,e3⟩:=idx (i:=i) a2 a4 h4 hi w3 h3
 have hg:=qim (d:=da) e1 (by omega)
 rw [e3] at hg
 rw [show (i + 1).toNat = i.toNat + 1 by omega,qaA]
 rw [jaf (by omega),<- hs4]
 simp only
 rw [hg,hA2,hB2,ho1,ho2,hp1,hp2,hm1,hm2,(qfm (n:=ca) h4 hi a3).2.2,(qfm (n:=cb) h4 hi d3).2.2,(qfm (n:=ca) w1 h2 a3).2.2,(qfm (n:=cb) w1 h2 d3).2.2]
theorem qcz.after (h:qcE r ca cb l1 c1 l2 c2 rank c i f da db a0 b0) (hi:i = r):qcz r ca cb l1 c1 l2 c2 (rank + 1) (c + 1) f da db a0 b0:=by
 obtain ⟨⟨hf,hA,hB,w1,w2,w3,w4⟩,h2,h3,h4,h5,s,hs,hs2,hs3,hs4⟩:=h
 refine ⟨⟨hf,hA,hB,by omega,by omega,by omega,by omega⟩,?_⟩
 rw [show (c + 1).toNat = c.toNat + 1 by omega,qbP,<- hs,qc8,hs2,jaf (by omega),jaf hs3]
 simp only
 rw [hi] at hs4
 rw [<- hs4]
 simp only
 rw [show (rank + 1).toNat = rank.toNat + 1 by omega]
theorem qcz.fin (h:qcz r ca cb l1 c1 l2 c2 rank c f da db a0 b0) (hd:r <= rank∨ca <= c):(bI da,bI db,rank.toNat) = qbP r.toNat ca.toNat cb.toNat (bI a0) (bI b0) ca.toNat:=by
 obtain ⟨⟨hf,hA,hB,w1,w2,w3,w4⟩,he⟩:=h
 rcases hd with hd | hd
 ·have:=qoV (rows:=r.toNat) (ca:=ca.toNat) (cb:=cb.toNat) (a:=bI a0) (b:=bI b0) (c:=c.toNat) (by rw [<- he]; simp only; omega) (ca.toNat - c.toNat)
  rw [show c.toNat + (ca.toNat - c.toNat) = ca.toNat by omega] at this
  rw [this,he]
 ·rw [he,show c.toNat = ca.toNat by omega]
end
theorem q5k {ca cb rank p:Nat} {a b:List Int} (h:¬ p = rank):qbA ca cb rank p a b = (qag a (rank * ca) (seg a (p * ca) ca) 1,qag b (rank * cb) (seg b (p * cb) cb) 1):=by rw [qbA,jaf h]
set_option maxRecDepth 100000 in
set_option maxHeartbeats 4000000 in
theorem q2T:qjx.ok Tryz.prog:=q1t (by simp [qnV,qoo,q2l,q5P,q5h]) fun Z hg hp=>by
 obtain ⟨hf,hA,hB,hr⟩:=hp
 simp (config:={ maxSteps:=4000000 }) [qtA,qjx,qx3,qxq,qyh,qfA,qeZ,qm0,qmm,qmt]
 have hA':=hA
 have hB':=hB
 obtain ⟨⟨a1,a2,a3,a4,a5,a6,a7,a8⟩,a9⟩:=hA'
 rw [hr] at hB
 have hB2:=hB
 obtain ⟨⟨d1,d2,d3,d4,d5,d6,d7,d8⟩,d9⟩:=hB2
 rw [hr]
 refine ⟨qcz.start hf hA hB,fun rk _ c _ f _ da _ db _ hO=>⟨fun hc=>⟨fun hrk=>⟨qdP.start hO hrk hc,?_⟩,fun hrk=>?_⟩,fun hc=>?_⟩⟩
 rotate_left
 ·have hfin:=qcz.fin hO (.inl hrk)
  obtain ⟨⟨h1,h2,h3,h4,h5,h6,h7⟩,he⟩:=hO
  exact ⟨h1,h2,h3,h4,h5,hfin⟩
 ·have hfin:=qcz.fin hO (.inr hc)
  obtain ⟨⟨h1,h2,h3,h4,h5,h6,h7⟩,he⟩:=hO
  exact ⟨h1,h2,h3,h4,h5,hfin⟩
 intro rk _ c' _ f _ da _ db _ p _ hP hcc
 have hP':=hP
 obtain ⟨⟨⟨hfd,hAd,hBd,w1,w2,w3,w4⟩,hE⟩,hrk,hcc',hp0,hp1,hpv⟩:=hP
 have hlA:=hAd.2
 refine ⟨fun hp=>?_,fun hp=>⟨fun he=>?_,fun hne=>by omega⟩⟩
 ·obtain ⟨x0,x1,x2,x3⟩:=idx (i:=p.i) a2 a4 (by omega) hp w3 hcc'
  rw [x0,add64 (x:=p.i) (by omega) (by omega)]
  refine ⟨x1,by omega,by omega,fun hz=>⟨⟨qdP.next hP' hp hz,hcc⟩,by omega⟩,fun hz=>⟨fun he=>by omega,fun _=>⟨fun hpr=>?_,fun hpr=>?_⟩⟩⟩
  ·refine ⟨⟨w1,hrk,hAd.1⟩,fun o1 _ n1 _ k1 _ ho1 hn1 hk1=>⟨⟨by omega,hp,hAd.1⟩,fun o2 _ n2 _ k2 _ ho2 hn2 hk2=>⟨⟨hfd,qV.seg hAd w1 hrk ho1 hn1,qV.seg hAd (by omega) hp ho2 hn2,by omega,by rw [ho1,hn1,ho2,hn2]; exact qjg (fun h=>hpr h.symm) a3,hAd.1.2.2.2.2.2.2.2⟩,fun f1 _ da1 _ hf1 hl1 hb1 hA1=>⟨⟨w1,hrk,hBd.1⟩,fun o3 _ n3 _ k3 _ ho3 hn3 hk3=>⟨⟨by omega,hp,hBd.1⟩,fun o4 _ n4 _ k4 _ ho4 hn4 hk4=>⟨⟨hf1,qV.seg hBd w1 hrk ho3 hn3,qV.seg hBd (by omega) hp ho4 hn4,by omega,by rw [ho3,hn3,ho4,hn4]; exact qjg (fun h=>hpr h.symm) d3,hBd.1.2.2.2.2.2.2.2⟩,fun f2 _ db1 _ hf2 hl2 hb2 hB1=>?_⟩⟩⟩⟩⟩⟩
   have hsw:(bI da1.d,bI db1.d) = qbA (Z 3).i.toNat (Z 10).i.toNat rk.i.toNat p.i.toNat (bI da.d) (bI db.d):=by
    rw [q5k (by omega),hA1,hB1,ho1,ho2,ho3,ho4,hn2,hn4,(qfm (n:=(Z 3).i) w1 hrk a3).2.2,(qfm (n:=(Z 3).i) (by omega) hp a3).2.2,(qfm (n:=(Z 10).i) w1 hrk d3).2.2,(qfm (n:=(Z 10).i) (by omega) hp d3).2.2]
   have fA1:qV (Z 2).i (Z 3).i (Z 5).i (Z 6).i da1.d:=qV.next hAd hl1 hb1
   have fB1:qV (Z 2).i (Z 10).i (Z 12).i (Z 13).i db1.d:=qV.next hBd hl2 hb2
   obtain ⟨y0,y1,y2,y3⟩:=idx (i:=rk.i) a2 a4 w1 hrk w3 hcc'
   rw [y0]
   have hcell:=qcP fA1.1.2.2.2.2.2.2.2 (i:=rk.i * (Z 3).i + c'.i) y1 (by have:=fA1.2; omega)
   have hlA:=fA1.2
   refine ⟨y1,by omega,by omega,⟨hf2,hcell⟩,fun x _ er _ f3 _ hf3 hx _=>⟨⟨w1,hrk,fA1.1⟩,fun o5 _ n5 _ k5 _ ho5 hn5 hk5=>⟨⟨hf3,qV.seg fA1 w1 hrk ho5 hn5,fA1.1.2.2.2.2.2.2.2,by rw [hx]; exact (qc0 hcell.1 hcell.2).1,by rw [hx]; exact (qc0 hcell.1 hcell.2).2⟩,fun f4 _ da2 _ hf4 hl4 hb4 hA4=>⟨⟨w1,hrk,fB1.1⟩,fun o6 _ n6 _ k6 _ ho6 hn6 hk6=>⟨⟨hf4,qV.seg fB1 w1 hrk ho6 hn6,fB1.1.2.2.2.2.2.2.2,by rw [hx]; exact (qc0 hcell.1 hcell.2).1,by rw [hx]; exact (qc0 hcell.1 hcell.2).2⟩,fun f5 _ db2 _ hf5 hl5 hb5 hB5=>⟨⟨qcE.start hP' hp hz hsw hl1 hl2 hx hA4 hB5 ho5 hn5 ho6 hn6 hl4 hl5 hb4 hb5 hf5,hcc⟩,?_⟩⟩⟩⟩⟩⟩
   intro rk2 _ c2 _ f6 _ da3 _ db3 _ i _ hQ hc2
   refine ⟨fun hi=>?_,fun hi=>?_⟩
   ·have hQ':=hQ
    obtain ⟨⟨hfq,hAq,hBq,v1,v2,v3,v4⟩,q1,q2,q3,q4,_⟩:=hQ'
    have hlq:=hAq.2
    obtain ⟨z0,z1,z2,z3⟩:=idx (i:=i.i) a2 a4 q3 hi v3 q2
    rw [z0,add64 (by omega) (by omega)]
    have hcq:=qcP hAq.1.2.2.2.2.2.2.2 (i:=i.i * (Z 3).i + c2.i) z1 (by omega)
    refine ⟨z1,by omega,by omega,fun hne=>⟨⟨q3,hi,hAq.1⟩,fun r1 _ r2 _ r3 _ hr1 hr2 hr3=>⟨⟨v1,q1,hAq.1⟩,fun t1 _ t2 _ t3 _ ht1 ht2 ht3=>⟨⟨hfq,qV.seg hAq q3 hi hr1 hr2,qV.seg hAq v1 q1 ht1 ht2,by omega,by rw [hr1,hr2,ht1,ht2]; exact qjg hne a3,hAq.1.2.2.2.2.2.2.2,hcq⟩,fun f7 _ da4 _ hf7 hl7 hb7 hA7=>⟨⟨q3,hi,hBq.1⟩,fun r4 _ r5 _ r6 _ hr4 hr5 hr6=>⟨⟨v1,q1,hBq.1⟩,fun t4 _ t5 _ t6 _ ht4 ht5 ht6=>⟨⟨hf7,qV.seg hBq q3 hi hr4 hr5,qV.seg hBq v1 q1 ht4 ht5,by omega,by rw [hr4,hr5,ht4,ht5]; exact qjg hne d3,hBq.1.2.2.2.2.2.2.2,hcq⟩,fun f8 _ db4 _ hf8 hl8 hb8 hB8=>⟨⟨qcE.next hQ hi hne hA7 hB8 hr1 ht1 ht2 hr4 ht4 ht5 hl7 hl8 hb7 hb8 hf8,hc2⟩,by omega⟩⟩⟩⟩⟩⟩⟩,fun hieq=>⟨⟨qcE.same hQ hi hieq,hc2⟩,by omega⟩⟩
   ·have hQ':=hQ
    obtain ⟨⟨hfq,hAq,hBq,v1,v2,v3,v4⟩,q1,q2,q3,q4,_⟩:=hQ'
    rw [add64 (by omega) (by omega),add64 (by omega) (by omega)]
    exact ⟨qcz.after hQ (by omega),by omega⟩
  ·have hsw:(bI da.d,bI db.d) = qbA (Z 3).i.toNat (Z 10).i.toNat rk.i.toNat p.i.toNat (bI da.d) (bI db.d):=by
    rw [qbA,jah (by omega)]
   have fA1:qV (Z 2).i (Z 3).i (Z 5).i (Z 6).i da.d:=hAd
   have fB1:qV (Z 2).i (Z 10).i (Z 12).i (Z 13).i db.d:=hBd
   obtain ⟨y0,y1,y2,y3⟩:=idx (i:=rk.i) a2 a4 w1 hrk w3 hcc'
   rw [y0]
   have hcell:=qcP fA1.1.2.2.2.2.2.2.2 (i:=rk.i * (Z 3).i + c'.i) y1 (by have:=fA1.2; omega)
   have hlA:=fA1.2
   refine ⟨y1,by omega,by omega,⟨hfd,hcell⟩,fun x _ er _ f3 _ hf3 hx _=>⟨⟨w1,hrk,fA1.1⟩,fun o5 _ n5 _ k5 _ ho5 hn5 hk5=>⟨⟨hf3,qV.seg fA1 w1 hrk ho5 hn5,fA1.1.2.2.2.2.2.2.2,by rw [hx]; exact (qc0 hcell.1 hcell.2).1,by rw [hx]; exact (qc0 hcell.1 hcell.2).2⟩,fun f4 _ da2 _ hf4 hl4 hb4 hA4=>⟨⟨w1,hrk,fB1.1⟩,fun o6 _ n6 _ k6 _ ho6 hn6 hk6=>⟨⟨hf4,qV.seg fB1 w1 hrk ho6 hn6,fB1.1.2.2.2.2.2.2.2,by rw [hx]; exact (qc0 hcell.1 hcell.2).1,by rw [hx]; exact (qc0 hcell.1 hcell.2).2⟩,fun f5 _ db2 _ hf5 hl5 hb5 hB5=>⟨⟨qcE.start hP' hp hz hsw rfl rfl hx hA4 hB5 ho5 hn5 ho6 hn6 hl4 hl5 hb4 hb5 hf5,hcc⟩,?_⟩⟩⟩⟩⟩⟩
   intro rk2 _ c2 _ f6 _ da3 _ db3 _ i _ hQ hc2
   refine ⟨fun hi=>?_,fun hi=>?_⟩
   ·have hQ':=hQ
    obtain ⟨⟨hfq,hAq,hBq,v1,v2,v3,v4⟩,q1,q2,q3,q4,_⟩:=hQ'
    have hlq:=hAq.2
    obtain ⟨z0,z1,z2,z3⟩:=idx (i:=i.i) a2 a4 q3 hi v3 q2
    rw [z0,add64 (by omega) (by omega)]
    have hcq:=qcP hAq.1.2.2.2.2.2.2.2 (i:=i.i * (Z 3).i + c2.i) z1 (by omega)
    refine ⟨z1,by omega,by omega,fun hne=>⟨⟨q3,hi,hAq.1⟩,fun r1 _ r2 _ r3 _ hr1 hr2 hr3=>⟨⟨v1,q1,hAq.1⟩,fun t1 _ t2 _ t3 _ ht1 ht2 ht3=>⟨⟨hfq,qV.seg hAq q3 hi hr1 hr2,qV.seg hAq v1 q1 ht1 ht2,by omega,by rw [hr1,hr2,ht1,ht2]; exact qjg hne a3,hAq.1.2.2.2.2.2.2.2,hcq⟩,fun f7 _ da4 _ hf7 hl7 hb7 hA7=>⟨⟨q3,hi,hBq.1⟩,fun r4 _ r5 _ r6 _ hr4 hr5 hr6=>⟨⟨v1,q1,hBq.1⟩,fun t4 _ t5 _ t6 _ ht4 ht5 ht6=>⟨⟨hf7,qV.seg hBq q3 hi hr4 hr5,qV.seg hBq v1 q1 ht4 ht5,by omega,by rw [hr4,hr5,ht4,ht5]; exact qjg hne d3,hBq.1.2.2.2.2.2.2.2,hcq⟩,fun f8 _ db4 _ hf8 hl8 hb8 hB8=>⟨⟨qcE.next hQ hi hne hA7 hB8 hr1 ht1 ht2 hr4 ht4 ht5 hl7 hl8 hb7 hb8 hf8,hc2⟩,by omega⟩⟩⟩⟩⟩⟩⟩,fun hieq=>⟨⟨qcE.same hQ hi hieq,hc2⟩,by omega⟩⟩
   ·have hQ':=hQ
    obtain ⟨⟨hfq,hAq,hBq,v1,v2,v3,v4⟩,q1,q2,q3,q4,_⟩:=hQ'
    rw [add64 (by omega) (by omega),add64 (by omega) (by omega)]
    exact ⟨qcz.after hQ (by omega),by omega⟩
 ·rw [add64 (by omega) (by omega)]
  exact ⟨qcz.skip hP' he,by omega⟩
theorem q1E:qqW.ok Tryz.prog:=Ctr.ok_less qyE rfl rfl rfl rfl rfl (fun _ _=>trivial) fun Z Z' ai al hp hag hal hpost=>by
 match ai,hal with
 | 0,hal =>
  exfalso
  obtain rfl:=jaz hal
  have h2:((Z'.upto 1) 0).i < 1∨255 < ((Z'.upto 1) 0).i:=hpost
  have e:(Z'.upto 1) 0 = Z 0:=by rw [Env.upto,jah (by omega)]; exact hag 0 (by decide)
  rw [e] at h2
  have h3:1 <= (Z 0).i/\(Z 0).i <= 255:=hp
  omega
 | 1,hal=>exact ⟨0,hal⟩
 | n + 2,hal=>cases hal
theorem qzm:qnJ.ok Tryz.prog:=Ctr.ok_less qwv rfl rfl rfl rfl rfl (fun _ h=>h.1) fun Z Z' ai al hp hag hal hpost=>by
 match ai,hal with
 | 0,hal =>
  exfalso
  obtain rfl:=jaz hal
  have h2:qco ((Z'.upto 5) 2).i ((Z'.upto 5) 3).i:=hpost.2
  have e2:(Z'.upto 5) 2 = Z 2:=by rw [Env.upto,jah (by omega)]; exact hag 2 (by decide)
  have e3:(Z'.upto 5) 3 = Z 3:=by rw [Env.upto,jah (by omega)]; exact hag 3 (by decide)
  rw [e2,e3] at h2
  exact hp.2 h2
 | 1,hal=>exact ⟨0,hal⟩
 | n + 2,hal=>cases hal
theorem q1i:qq1.ok Tryz.prog:=by
 refine ⟨qoT.1,fun Z w hF hO hg hd hsub hst hro hpre=>(qoT.2 Z w hF hO hg hd hsub hst hro hpre).mono fun e w' hq=>?_⟩
 obtain ⟨ai,al,Z',hal,hg',hag,he,hpost,hheap⟩:=hq
 match ai,hal with
 | 0,hal =>
  obtain rfl:=jaz hal
  refine ⟨0,_,Z',rfl,hg',hag,he,⟨hpost,?_⟩,hheap⟩
  obtain ⟨hO',hd',⟨h1,h2,hdj,hu,hden,_⟩,hsub',hwi'⟩:=hheap
  show (((Z'.upto 10) 9).d.length:Int) <= ((Z'.upto 10) 8).i
  rw [show (Z'.upto 10) 9 = Z' 9 from rfl,show (Z'.upto 10) 8 = Z' 8 from rfl]
  rcases hden with ⟨_,hn,hc⟩ | ⟨b,c,g1,g2,g3,g4,g5⟩
  ·have hn:(Z' 9).d = []:=hn
   have hc:(Z' 8).i = 0:=hc
   rw [hn,hc]; simp
  ·exact g4
 | n + 1,hal=>cases hal
theorem q3d {d:qf} {n:Nat} (h:q6 d):q6 (d.take n):=fun r hr=>h r (jb3 hr)
theorem q7F {d:qf} {n:Nat}:bI (d.take n) = (bI d).take n:=by simp [bI,jc3]
theorem qwc:qf5.ok Tryz.prog:=qvn (by simp [qpi,q1E,q1i,q2T]) fun Z hg hp=>by
 obtain ⟨hf,l0,l1,l2,hB⟩:=hp
 have hne:=(qbR hf).1
 simp [qnB,qf5,qeE,qqW,qfE,qq1,qhN,qjx]
 refine ⟨fun h=>(hne h).elim,fun _=>⟨l0,fun v _ hv=>⟨fun hb=>⟨hf,fun h=>?_⟩,fun hb=>⟨fun h=>⟨hf,hv.1 hb,h⟩,fun hrc=>?_⟩⟩⟩⟩
 ·have:=hv.2 h
  rw [hb] at this; cases this
 obtain ⟨r1,r2,c1,c2,hl⟩:=hv.1 hb
 have vA:qbe (Z 2).i (Z 3).i (Z 5).i:=hv.1 hb
 have hbd:=qap (x:=(Z 2).i) (y:=(Z 3).i) (by omega) r2 (by omega) c2
 refine ⟨⟨r1,r2⟩,fun l _ cp _ d _ _ _ hM hL hI=>⟨⟨l0,l2,by unfold Go.Eng.big; omega⟩,fun cc _ dd _ hdd hcap=>?_⟩⟩
 have hlen:dd.d.length = (Z 5).i.toNat:=by rw [hdd,jbm]; omega
 refine ⟨⟨hf,⟨⟨by omega,r2,by omega,c2,hl,by omega,by omega,by rw [hdd]; exact q3d hB⟩,by omega⟩,hM,hL⟩,fun rk _ f2 _ d2 _ b2 _ hf2 hA2 hB2 k0 k1 he=>?_⟩
 have hE:qbP (Z 2).i.toNat (Z 3).i.toNat (Z 2).i.toNat (bI dd.d) (bI d.d) (Z 3).i.toNat = qeg ((bI (Z 7).d).take (Z 5).i.toNat) (Z 2).i.toNat:=by
  rw [qeg,hdd,q7F,hI,hrc]
 rw [hE] at he
 rw [<- he]
 exact ⟨fun h=>⟨hf2,vA,hrc,by simp only; omega⟩,fun h=>⟨hf2,vA,hrc,hB2,by simp only; omega,rfl⟩⟩
theorem qjE {k t:Int}:qaD k t = true↔1 <= k/\k <= t/\t <= 255:=by simp [qaD,and_assoc]
theorem q5O:qje.ok Tryz.prog:=q4z (by simp [qpB,qzm,qwc,q31]) fun Z hg hp=>by
 have hf:qx (Z 1).d:=hp
 have hne:=(qbR hf).1
 simp [qyA,qje,qe9,qnJ,qeI,qf5,qiZ]
 intro u0 _
 refine ⟨fun h=>(hne h).elim,fun _ u1 _ hs=>⟨fun hb=>⟨hf,fun h=>?_⟩,fun hb=>?_⟩⟩
 ·rw [h] at hs; rw [hb] at hs; cases hs
 have hsz:qaD (Z 2).i (Z 3).i = true:=by rw [<- hs]; exact hb
 obtain ⟨k1,k2,k3⟩:=qjE.1 hsz
 have hvb:¬ qco (Z 3).i (Z 2).i:=by unfold qco; omega
 have hkk:=qap (x:=(Z 2).i) (y:=(Z 2).i) (by omega) (show (Z 2).i <= 255 by omega) (by omega) (show (Z 2).i <= 255 by omega)
 have hlek:(Z 2).i * (Z 2).i <= (Z 3).i * (Z 2).i:=ja9 k2 (by omega)
 refine ⟨⟨hf,hvb⟩,fun u2 _ l _ cp _ f1 _ d _ hf1 _ hM hL hV u7 _ hcap=>?_⟩
 obtain ⟨a1,a2,a3,a4,a5,a6,a7,a8⟩:=hM
 have vV:qbe (Z 3).i (Z 2).i l.i:=⟨by omega,by omega,by omega,by omega,a5⟩
 rw [qch (by omega) (by omega)]
 have hkn:((Z 2).i * (Z 2).i).toNat = (Z 2).i.toNat * (Z 2).i.toNat:=jb8 (by omega) (by omega)
 have hTop:qeg ((bI d.d).take ((Z 2).i * (Z 2).i).toNat) (Z 2).i.toNat = qbX (Z 2).i.toNat (Z 3).i.toNat:=by rw [qbX,hV,hkn]
 rw [hTop]
 have vT:qbe (Z 2).i (Z 2).i ((Z 2).i * (Z 2).i):=⟨by omega,by omega,by omega,by omega,rfl⟩
 have hno:¬ qbe 0 0 0:=by unfold qbe; omega
 refine ⟨by omega,by omega,hkk.1,by omega,fun u8 _=>⟨⟨hf1,hkk.1,by omega,by omega,a8⟩,fun e _ f2 _ hf2 hor u11 _=>⟨⟨hf2,by omega,by omega,by omega,a8,fun r hr=>by cases hr⟩,fun f3 _ hf3 _=>⟨hf3,fun _=>?_⟩,fun _ _ _ _ h=>(hno h).elim,?_⟩,?_⟩⟩
 ·rcases hor with ⟨h,_⟩ | ⟨_,h,_⟩
  ·exact (h vT).elim
  ·exact h
 ·intro _ _ _ _ _ _ _ _ _ _ _ _ h
  exact (hno h).elim
 ·intro u9 _ li _ ci _ f4 _ di _ hf4 _ hMi hrk hInv u14 _
  obtain ⟨⟨b1,b2,b3,b4,b5,b6,b7,b8⟩,b9⟩:=hMi
  have vI:qbe (Z 2).i (Z 2).i li.i:=⟨by omega,by omega,by omega,by omega,b5⟩
  refine ⟨⟨hf4,by omega,by omega,by omega,a8,by omega,b6,by omega,b8⟩,fun f5 _ hf5 h=>(h vV vI).elim,?_⟩
  intro u15 _ lp _ cq _ f6 _ dp _ hf6 _ _ hMp hLp hP u20 _ _
  refine ⟨hf6,hsz,⟨hMp,hLp⟩,hrk,?_⟩
  rw [hP,hInv,qcG,hV,ja3 (by rw [qbq,qpO,a5,jb8 (by omega) (by omega)]; exact ja1 _),ja3 (by rw [<- hInv,bI_len]; omega)]
@[simp] def ql3:Sg:=sg 0 [bv 13 45,bv 12 55,bv 7 59,bv 6 60,bv 1 50,bt 14 (.icell (tv 54) (.plus (tv 61) (tv 64)) 0),bt 11 (.minus (tv 45) (.arith .mul .i64 (tv 64) (tv 42))),bt 10 (.minus (.arith .mul .i64 (.arith .add .i64 (tv 64) (tl 1)) (tv 42)) (.arith .mul .i64 (tv 64) (tv 42))),bt 9 (.ife (tv 45) (.arith .mul .i64 (tv 64) (tv 42)) (tl 0) (.arith .mul .i64 (tv 64) (tv 42))),bg 8 43,bv 5 59,bv 4 42,bt 3 (tl 0),bg 2 58,bg 0 0]
def qoW:Out:=(.br (.and (.cmp .eql (.dlen (tv 1)) (tl 0)) (.isnil 0))
 (.ret 0 (sg 9 [bv 10 1,bt 9 (tl 1)]))
 (.pre 0 (sg 0 [bv 1 3,bv 0 2]) (.both (.fresh 9 (.post 0 0 (sg 0 [bv 1 3,bv 0 2]) 9 (.br (.not (tv 9))
 (.ret 0 (sg 9 [bv 10 1,bt 9 (tl 2)]))
 (.need (.cmp .leq (tl 0) (tv 5)) (.br (.cmp .gtr (tv 5) (tl 8192))
 (.ret 0 (sg 9 [bv 10 1,bt 9 (tl 3)]))
 (.pre 1 (sg 0 [bv 1 5,bv 0 2]) (.both (fr 10 2 (.post 1 0 (sg 0 [bv 1 5,bv 0 2]) 10 (.need (.cmp .leq (tl 0) (.arith .mul .i64 (tv 2) (tv 10))) (.need (.cmp .leq (.tims (tl 1) (.arith .mul .i64 (tv 2) (tv 10))) (tl 281474976710656)) (.fresh 12 (.need (.cmp .leq (.arith .mul .i64 (tv 2) (tv 10)) (.dlen (.drep (.arith .mul .i64 (tv 2) (tv 10)) (.rcons (.vint .u8 (tl 0)) .rnil)))) (.need (.cmp .leq (tv 5) (.dlen (tv 7))) (.fresh 13 (.pre 2 (sg 0 [bv 1 1,bv 3 3,bv 2 2,bg 0 0]) (.both (fr 14 6 (.post 2 0 (sg 0 [bv 1 1,bv 3 3,bv 2 2,bg 0 0]) 14 (.fresh 20 (.need (.cmp .leq (tl 0) (tv 3)) (.need (.cmp .leq (.tims (tl 32) (tv 3)) (tl 281474976710656)) (.fresh 21 (.inv 0 22 (sg 1000 [bg 1015 19,bt 1014 (.drep (tv 3) (.rcons (.vint .i64 (tl 0)) (.rcons .vnils .rnil))),bt 1013 (.c3 .dsplice (.drep (.arith .mul .i64 (tv 2) (tv 10)) (.rcons (.vint .u8 (tl 0)) .rnil)) (tl 0) (.dtake (.dtake (tv 7) (tv 5)) (.imin (.arith .mul .i64 (tv 2) (tv 10)) (tv 5)))),bv 1012 18,bv 1011 16,bv 1010 15,bg 1009 14,bv 1008 17,bt 1007 (tl 0),bv 1006 3,bg 1005 21,bg 1004 20,bt 1003 (.arith .mul .i64 (tv 2) (tv 10)),bt 1002 (.arith .mul .i64 (tv 2) (tv 10)),bg 1001 12,bv 1000 10]) (fr 22 16 (.hyp 0 22 (.br (.cmp .lss (tv 29) (tv 3))
 (.need (.cmp .leq (tl 0) (tv 22)) (.need (.cmp .leq (.tims (tl 1) (tv 22)) (tl 281474976710656)) (.fresh 38 (.pre 3 (sg 0 [bv 6 33,bv 5 34,bv 7 29,bv 4 33,bv 3 32,bg 2 31,bv 1 2,bv 0 3]) (.both (fr 39 3 (.post 3 0 (sg 0 [bv 6 33,bv 5 34,bv 7 29,bv 4 33,bv 3 32,bg 2 31,bv 1 2,bv 0 3]) 39 (.need (.cmp .leq (tl 0) (tv 40)) (.inv 1 42 (sg 1000 [bg 1015 37,bt 1018 (.drep (tv 22) (.rcons (.vint .u8 (tl 0)) .rnil)),bv 1014 36,bv 1013 35,bv 1012 34,bv 1011 33,bv 1010 32,bv 1008 30,bt 1022 (tl 0),bv 1021 41,bv 1020 40,bv 1019 39,bg 1009 31,bv 1017 22,bg 1016 38,bv 1007 29,bv 1006 28,bg 1005 27,bg 1004 26,bv 1003 25,bv 1002 24,bg 1001 23,bv 1000 22]) (fr 42 23 (.hyp 1 42 (.br (.cmp .lss (tv 64) (tv 62))
 (.need (.cmp .leq (tl 0) (tv 64)) (.need (.cmp .leq (tl 0) (tv 61)) (.need (.cmp .leq (tl 0) (.plus (tv 61) (tv 64))) (.need (.cmp .lss (.plus (tv 61) (tv 64)) (.dlen (tv 54))) (.know (.cmp .leq (.dlen (tv 55)) (tv 45)) (.need (.cmp .leq (tl 0) (tv 44)) (.need (.cmp .leq (tl 0) (tv 45)) (.need (.cmp .leq (tl 0) (.arith .mul .i64 (tv 64) (tv 42))) (.need (.cmp .leq (.arith .mul .i64 (tv 64) (tv 42)) (.arith .mul .i64 (.arith .add .i64 (tv 64) (tl 1)) (tv 42))) (.need (.cmp .leq (.arith .mul .i64 (.arith .add .i64 (tv 64) (tl 1)) (tv 42)) (tv 45)) (.pre 4 ql3 (.both (fr 65 2 (.post 4 0 ql3 65 (.back 1 42 (sg 1000 [bg 1015 57,bv 1018 66,bv 1014 56,bv 1013 55,bv 1012 54,bv 1011 53,bv 1010 52,bv 1008 65,bt 1022 (.arith .add .i64 (tv 64) (tl 1)),bv 1021 63,bv 1020 62,bv 1019 61,bg 1009 51,bv 1017 59,bg 1016 58,bv 1007 49,bv 1006 48,bg 1005 47,bg 1004 46,bv 1003 45,bv 1002 44,bg 1001 43,bv 1000 42])))) .top))))))))))))
 (.need (.cmp .leq (tl 0) (tv 49)) (.need (.cmp .lss (tv 49) (tv 3)) (.need (.cmp .lss (tv 49) (.dlen (tv 56))) (.pack [.arr 58 5 [CK.int .u8] (tv 60) (tv 59),.abs 57 2] 65 (.back 0 22 (sg 1000 [bg 1015 65,bt 1014 (.dput (tv 56) (tv 49) 0 (.rcons (.vint .i64 (tv 49)) (.rcons (.vslice 58 (tl 0) (tv 42) (tv 59) 1) .rnil))),bv 1013 55,bv 1012 54,bv 1011 53,bv 1010 52,bg 1009 51,bv 1008 50,bt 1007 (.arith .add .i64 (tv 49) (tl 1)),bv 1006 48,bg 1005 47,bg 1004 46,bv 1003 45,bv 1002 44,bg 1001 43,bv 1000 42]))))))))))))) .top)))))
 (.pack [.cells 26 200 [(.vint .i64 (tv 3)),(.vint .i64 (tv 2)),(.vslice 31 (tl 0) (tv 32) (tv 33) 1)],.arr 31 5 [CK.int .u8] (tv 34) (tv 33),.arr 23 5 [CK.int .u8] (tv 35) (tv 25),.abs 37 2] 38 (.ret 1 (sg 9 [bg 13 38,bv 12 36,bv 11 30,bv 10 28,bg 9 27]))))))))))))) .top)))))))))) .top))))))) .top)))
theorem qwT:qn Tryz.prog qgB [qe9,qe7,qzA,qfA,qeZ] [qsE,qrX] qoW:=qh Tryz.func87 Tryz.call87 (by kernel_rfl)
end Go.Proofs
