/- Texts ZI, ZK, ZM, ZS, ZV, ZW, ZX, DS, DT, BT, BU, BV, BW, BX, BY, CA, CB, CC, CD, CE, CF, CG, CH, CI, CK, YA, CL, CM, ZLq, YF, W1, W2, W3, WD, CN, CO, YB, ZSq, YC, CP, W4, WC, YD, YE, YG, YK. -/
import Derived.Test.YtelcnkclppkicaaGreatDoorG6
import Derived.Test.YtelcnkclppkicaaGreatDoorG5
import Derived.Test.YtelcnkclppkicaaGreatDoorProg
import Derived.Test.YtelcnkclppkicaaGreatDoorG4
set_option linter.unusedSimpArgs false
set_option linter.unusedVariables false
namespace Go.Proofs
open Go Go.Eng

theorem qpm {f:Nat->Int} {len n:Nat}:(qcw f len n).length = len:=by simp [qcw]
theorem qxk {f:Nat->Int} {len:Nat}:qcw f len 0 = List.replicate len 0:=by
 apply List.ext_getElem?
 intro j
 by_cases hj:j < len
 ·simp [qcw,List.getElem?_replicate,hj]
 ·simp [qcw,List.getElem?_replicate,hj]
theorem qwY {f:Nat->Int} {len n:Nat} (h:n < len):qcw f len (n + 1) = (qcw f len n).set n (f n):=by
 apply List.ext_getElem?
 intro j
 rw [List.getElem?_set]
 by_cases hj:j < len
 ·by_cases hn:n = j
  ·subst hn; rw [if_pos rfl,if_pos (by rw [qpm]; exact h)]; simp [qcw,h]
  ·rw [if_neg hn]
   simp only [qcw,List.getElem?_map,List.getElem?_range hj,Option.map_some,Option.some.injEq]
   by_cases h1:j < n
   ·rw [if_pos (by omega),if_pos h1]
   ·rw [if_neg (by omega),if_neg h1]
 ·by_cases hn:n = j
  ·omega
  ·rw [if_neg hn]; simp [qcw,hj]
theorem qvs {n:Nat}:qa8 n 0 = List.replicate (n * n) 0:=by
 apply List.ext_getElem?
 intro j
 by_cases hj:j < n * n
 ·simp [qa8,List.getElem?_replicate,hj]
 ·simp [qa8,List.getElem?_replicate,hj]
theorem qrA {i n l:Nat} (h:l < n):(i * n + l) / n = i/\(i * n + l) % n = l:=by
 have hn:0 < n:=by omega
 refine ⟨?_,?_⟩
 ·rw [Nat.mul_comm,Nat.mul_add_div hn,Nat.div_eq_of_lt h,Nat.add_zero]
 ·rw [Nat.mul_comm,Nat.mul_add_mod,Nat.mod_eq_of_lt h]
theorem q8u {i r n l:Nat} (hi:i < r) (hl:l < n):i * n + l < r * n:=by
 have:=Nat.mul_le_mul_right n (show i + 1 <= r by omega)
 rw [Nat.add_mul] at this; omega
theorem qtL {n m:Nat} (h:m < n):qa8 n (m + 1) = (qa8 n m).set (m * n + m) 1:=by
 have hlt:=q8u h h
 obtain ⟨hd,hm⟩:=qrA (i:=m) h
 apply List.ext_getElem?
 intro j
 rw [List.getElem?_set]
 by_cases hj:j < n * n
 ·simp only [qa8,List.getElem?_map,List.getElem?_range hj,Option.map_some,List.length_map,List.length_range]
  by_cases hn:m * n + m = j
  ·subst hn
   rw [if_pos rfl,if_pos hlt,hd,hm,if_pos ⟨rfl,by omega⟩]
  ·rw [if_neg hn]
   congr 1
   by_cases h1:j / n = j % n/\j / n < m
   ·rw [if_pos h1,if_pos ⟨h1.1,by omega⟩]
   ·rw [if_neg h1,if_neg]
    rintro ⟨e1,e2⟩
    have:j / n = m:=by
     rcases Nat.lt_or_ge (j / n) m with h | h
     ·exact (h1 ⟨e1,h⟩).elim
     ·omega
    have hdm:=Nat.div_add_mod j n
    rw [<- e1,this,Nat.mul_comm] at hdm
    exact hn hdm
 ·rw [if_neg (by omega)]; simp [qa8,hj]
theorem q4k {l:List Int} {L o n:Nat} (h:o + n <= L):seg (l.take L) o n = seg l o n:=by
 apply List.ext_getElem?
 intro j
 rw [qf3,qf3]
 by_cases hj:j < n
 ·rw [if_pos hj,if_pos hj,List.getElem?_take,if_pos (by omega)]
 ·rw [if_neg hj,if_neg hj]
theorem qzd {a b:List Int} {ra ca cb i l:Nat} (h:l < ca):qc3 a b ra ca cb (i * ca + l + 1) = qae (qc3 a b ra ca cb (i * ca + l)) (i * cb) (seg b (l * cb) cb) (a.getD (i * ca + l) 0):=by
 obtain ⟨hd,hm⟩:=qrA (i:=i) h
 rw [qc3,hd,hm]
theorem qsm {r c l cap:Int} {d:qe} {e:Int} {k:IntKind} {z:Int} (h:qfi r c l cap d) (h0:0 <= z) (h1:z < 256):qfi r c l cap (qcd d e 0 [.int k z]):=by
 obtain ⟨a1,a2,a3,a4,a5,a6,a7,a8⟩:=h
 exact ⟨a1,a2,a3,a4,a5,a6,by rw [qfl]; exact a7,qjU a8 h0 h1⟩
theorem qzH {a e:Int} (a0:0 <= a) (a1:a < 256):0 <= qhv a e/\qhv a e < 256:=by
 unfold qhv
 split
 ·omega
 ·split
  ·omega
  ·obtain ⟨l0,l1⟩:=qcE a0 a1
   have hr0:0 <= e.tmod 255:=Int.tmod_nonneg _ (by omega)
   have hb:0 <= qbw a.toNat * e.tmod 255:=Int.mul_nonneg l0 hr0
   have h3:0 <= (qbw a.toNat * e.tmod 255).tmod 255:=Int.tmod_nonneg _ hb
   have h4:(qbw a.toNat * e.tmod 255).tmod 255 < 255:=Int.tmod_lt_of_pos _ (by omega)
   have:=qku (i:=((qbw a.toNat * e.tmod 255).tmod 255).toNat) (by omega)
   omega
theorem qzM:qd2.ok Tryz.prog:=qzq (by simp [qlO]) fun ρ hg hp=>by
 simp [qlk,qd2,qnU,qaU]
 refine ⟨fun h=>.inl h,fun h1=>⟨fun h=>.inr h,fun h2=>⟨⟨by omega,h2,by omega,h2⟩,fun l _ cp _ d _ hl hc hd=>⟨⟨h1,h2,by omega,?_⟩,fun i _ l' _ c' _ d' _ _ _ i0 i1 hM hL hB=>⟨fun hi=>?_,fun hi=>?_⟩⟩⟩⟩⟩
 ·have hb:=qap (x:=(ρ 0).i) (y:=(ρ 0).i) (by omega) h2 (by omega) h2
  refine ⟨⟨by omega,h2,by omega,h2,hl,by omega,by rw [hd,List.length_replicate]; omega,by rw [hd]; exact qia⟩,by rw [hd,List.length_replicate]; omega,?_⟩
  rw [hd,qlj,qvs,hl,Int.toNat_mul (by omega) (by omega)]
 ·have hM':=hM
  obtain ⟨a1,a2,a3,a4,a5,a6,a7,a8⟩:=hM
  have hb:=qap (x:=i.i) (y:=(ρ 0).i) i0 (show i.i <= 255 by omega) (by omega) h2
  have hlt:i.i * (ρ 0).i + i.i < (ρ 0).i * (ρ 0).i:=by
   have:=Int.mul_le_mul_of_nonneg_right (show i.i + 1 <= (ρ 0).i by omega) (show 0 <= (ρ 0).i by omega)
   rw [Int.add_mul,Int.one_mul] at this; omega
  rw [qc4 (by omega) (by omega),add64 (by omega) (by omega),add64 (by omega) (by omega)]
  refine ⟨by omega,by omega,by omega,⟨h1,h2,by omega,by omega,qsm hM' (by decide) (by decide),by rw [qfl]; exact hL,?_⟩,by omega⟩
  rw [qlY,hB,show (i.i + 1).toNat = i.i.toNat + 1 by omega,qtL (by omega)]
  congr 1
  rw [Int.toNat_add hb.1 i0,Int.toNat_mul i0 (by omega)]
 ·have:i.i = (ρ 0).i:=by omega
  rw [this] at hB
  exact ⟨h1,h2,hM,hL,hB⟩
theorem qxI:qcK.ok Tryz.prog:=qxb (by simp [qlO,q5a]) fun ρ hg hp=>by
 have hf:qw (ρ 1).d:=hp
 simp [qjZ,qcK,qlc,qm5,qrM,qaU,qfe]
 have hne:=(qck hf).1
 refine ⟨fun h=>(hne h).elim,fun _=>⟨fun h=>⟨hf,.inl h⟩,fun r1=>⟨fun h=>⟨hf,.inr (.inl h)⟩,fun r2=>⟨fun h=>⟨hf,.inr (.inr (.inl h))⟩,fun c1=>⟨fun h=>⟨hf,.inr (.inr (.inr h))⟩,fun c2=>?_⟩⟩⟩⟩⟩
 have hnb:¬ qcQ (ρ 2).i (ρ 3).i:=by unfold qcQ; omega
 have hb:=qap (x:=(ρ 2).i) (y:=(ρ 3).i) (by omega) r2 (by omega) c2
 refine ⟨⟨by omega,r2,by omega,c2⟩,fun l _ cp _ d _ hl hc hd=>⟨⟨by omega,hnb,hf,?_⟩,fun i _ l' _ c' _ d' _ fd _ i0 i1 _ hfd hM hL hB=>⟨fun hi=>⟨⟨i0,hi,by omega,hnb,hfd,hM,hL,hB⟩,fun i' _ l2 _ cp2 _ d2 _ fd2 _ j _ i0' i1' j0 j1 _ hfd2 hM2 hL2 hB2 hii=>⟨fun hj=>?_,fun hj=>?_⟩⟩,fun hi=>?_⟩⟩⟩
 ·refine ⟨⟨by omega,r2,by omega,c2,hl,by omega,by rw [hd,List.length_replicate]; omega,by rw [hd]; exact qia⟩,by rw [hd,List.length_replicate]; omega,?_⟩
  rw [hd,qlj,qxk,hl,Int.toNat_mul (by omega) (by omega)]
 ·have hw:IntKind.u8.wrap i'.i = i'.i:=by simp [IntKind.wrap,IntKind.bits,IntKind.signed]; omega
  rw [hw]
  have hM2':=hM2
  obtain ⟨a1,a2,a3,a4,a5,a6,a7,a8⟩:=hM2
  have hb2:=qap (x:=i'.i) (y:=(ρ 3).i) i0' (show i'.i <= 255 by omega) (by omega) c2
  have hlt:i'.i * (ρ 3).i + j.i < (ρ 2).i * (ρ 3).i:=by
   have:=Int.mul_le_mul_of_nonneg_right (show i'.i + 1 <= (ρ 2).i by omega) (show 0 <= (ρ 3).i by omega)
   rw [Int.add_mul,Int.one_mul] at this; omega
  refine ⟨⟨hfd2,i0',by omega,by omega⟩,fun p _ fd3 _ hf3 hpw=>?_⟩
  rw [qc4 (by omega) (by omega),add64 (by omega) (by omega),add64 (by omega) (by omega)]
  have hpr:=qzH (e:=j.i) i0' (show i'.i < 256 by omega)
  refine ⟨by omega,by omega,by omega,⟨i0',i1',by omega,by omega,⟨hnb,hf3,qsm hM2' (by rw [hpw]; exact hpr.1) (by rw [hpw]; exact hpr.2),by rw [qfl]; exact hL2,?_⟩,hii⟩,by omega⟩
  have ht:(i'.i * (ρ 3).i + j.i).toNat = i'.i.toNat * (ρ 3).i.toNat + j.i.toNat:=by rw [Int.toNat_add hb2.1 j0,Int.toNat_mul i0' (by omega)]
  rw [qlY,hB2,show (i'.i * (ρ 3).i + (j.i + 1)).toNat = (i'.i * (ρ 3).i + j.i).toNat + 1 by omega,qwY (by rw [<- Int.toNat_mul (by omega) (by omega)]; omega)]
  congr 1
  obtain ⟨e1,e2⟩:=qrA (i:=i'.i.toNat) (n:=(ρ 3).i.toNat) (l:=j.i.toNat) (by omega)
  rw [ht,qmK,e1,e2,hpw,Int.toNat_of_nonneg i0',Int.toNat_of_nonneg j0]
 ·have hj':j.i = (ρ 3).i:=by omega
  rw [add64 (by omega) (by omega)]
  rw [hj',show i'.i * (ρ 3).i + (ρ 3).i = (i'.i + 1) * (ρ 3).i by rw [Int.add_mul,Int.one_mul]] at hB2
  exact ⟨⟨by omega,by omega,hnb,hfd2,hM2,hL2,hB2⟩,by omega⟩
 ·have:i.i = (ρ 2).i:=by omega
  rw [this,Int.toNat_mul (by omega) (by omega)] at hB
  exact ⟨hfd,hnb,hM,hL,hB⟩
theorem q3j:qdF.ok Tryz.prog:=q2a (by simp [qpC,qlO,qo8,qos]) fun ρ hg hp=>by
 obtain ⟨hf,la0,la1,la2,hBa,lb0,lb1,lb2,hBb⟩:=hp
 have hne:=(qck hf).1
 simp [qod,qdF,qrg,qrK,qqX,qbu,qaU,qb5,qb4]
 refine ⟨fun h=>(hne h).elim,fun _=>⟨la0,fun v1 _ hv1=>⟨fun hb=>⟨hf,fun h=>?_⟩,fun hb=>⟨lb0,fun v2 _ hv2=>⟨fun hb2=>⟨hf,fun _ h=>?_⟩,fun hb2=>?_⟩⟩⟩⟩⟩
 ·have:=hv1.2 h
  rw [hb] at this; cases this
 ·have:=hv2.2 h
  rw [hb2] at this; cases this
 have vA:qbm (ρ 2).i (ρ 3).i (ρ 5).i:=hv1.1 hb
 have vB:qbm (ρ 9).i (ρ 10).i (ρ 12).i:=hv2.1 hb2
 refine ⟨fun h=>⟨hf,vA,vB,h⟩,fun hcr=>?_⟩
 obtain ⟨ra1,ra2,ca1,ca2,hla⟩:=vA
 obtain ⟨rb1,rb2,cb1,cb2,hlb⟩:=vB
 have mA:qfi (ρ 2).i (ρ 3).i (ρ 5).i (ρ 6).i (ρ 7).d:=⟨by omega,ra2,by omega,ca2,hla,la1,la2,hBa⟩
 have mB:qfi (ρ 9).i (ρ 10).i (ρ 12).i (ρ 13).i (ρ 14).d:=⟨by omega,rb2,by omega,cb2,hlb,lb1,lb2,hBb⟩
 have hbA:=qap (x:=(ρ 2).i) (y:=(ρ 3).i) (by omega) ra2 (by omega) ca2
 have hbP:=qap (x:=(ρ 2).i) (y:=(ρ 10).i) (by omega) ra2 (by omega) cb2
 refine ⟨⟨by omega,ra2,by omega,cb2⟩,fun l _ cp _ d _ hl hc hd=>⟨⟨by omega,hv1.1 hb,hv2.1 hb2,hcr,hf,?_⟩,fun i _ l' _ c' _ d' _ fd _ i0 i1 _ _ _ hfd hM hL hB=>⟨fun hi=>⟨⟨i0,hi,mA⟩,fun o1 _ n1 _ k1 _ ho1 hn1 hk1=>⟨by omega,⟨i0,hi,by omega,ho1,hn1,hv1.1 hb,hv2.1 hb2,hcr,hfd,hM,hL,hB⟩,?_⟩⟩,fun hi=>?_⟩⟩⟩
 ·refine ⟨⟨by omega,ra2,by omega,cb2,hl,by omega,by rw [hd,List.length_replicate]; omega,by rw [hd]; exact qia⟩,by rw [hd,List.length_replicate]; omega,?_⟩
  rw [hd,qlj,qc3,hl,Int.toNat_mul (by omega) (by omega)]
 ·intro i' _ l2 _ cp2 _ d2 _ fd2 _ j _ o2 _ n2 _ i0' i1' j0 j1 ho2 hn2 _ _ _ hfd2 hM2 hL2 hB2 hii
  refine ⟨fun hj=>?_,fun hj=>?_⟩
  ·have hjc:j.i < (ρ 3).i:=by omega
   have hbi:=qap (x:=i'.i) (y:=(ρ 3).i) i0' (show i'.i <= 255 by omega) (by omega) ca2
   have hbo:=qap (x:=i'.i) (y:=(ρ 10).i) i0' (show i'.i <= 255 by omega) (by omega) cb2
   have hbj:=qap (x:=j.i) (y:=(ρ 10).i) j0 (show j.i <= 255 by omega) (by omega) cb2
   have hltA:i'.i * (ρ 3).i + j.i < (ρ 2).i * (ρ 3).i:=by
    have:=Int.mul_le_mul_of_nonneg_right (show i'.i + 1 <= (ρ 2).i by omega) (show 0 <= (ρ 3).i by omega)
    rw [Int.add_mul,Int.one_mul] at this; omega
   have hltP:i'.i * (ρ 10).i + (ρ 10).i <= (ρ 2).i * (ρ 10).i:=by
    have:=Int.mul_le_mul_of_nonneg_right (show i'.i + 1 <= (ρ 2).i by omega) (show 0 <= (ρ 10).i by omega)
    rw [Int.add_mul,Int.one_mul] at this; omega
   have hltB:j.i * (ρ 10).i + (ρ 10).i <= (ρ 9).i * (ρ 10).i:=by
    have:=Int.mul_le_mul_of_nonneg_right (show j.i + 1 <= (ρ 9).i by omega) (show 0 <= (ρ 10).i by omega)
    rw [Int.add_mul,Int.one_mul] at this; omega
   have hM2':=hM2
   obtain ⟨a1,a2,a3,a4,a5,a6,a7,a8⟩:=hM2
   have hcell:=qd8 hBa (i:=i'.i * (ρ 3).i + j.i) (by omega) (by omega)
   rw [ho2]
   refine ⟨j0,by omega,by omega,by omega,⟨i0',i1',hM2'⟩,fun o3 _ n3 _ k3 _ ho3 hn3 hk3=>⟨⟨j0,by omega,mB⟩,fun o4 _ n4 _ k4 _ ho4 hn4 hk4=>⟨⟨hfd2,⟨by omega,by omega,by omega,by unfold Go.Eng.big; omega⟩,⟨by omega,by omega,by omega,by unfold Go.Eng.big; omega⟩,by omega,a8,hBb,hcell⟩,fun fd5 _ d5 _ hf5 hl5 hB5 he5=>?_⟩⟩⟩
   rw [add64 (by omega) (by omega)]
   refine ⟨⟨i0',i1',by omega,by omega,rfl,hn2,⟨hv1.1 hb,hv2.1 hb2,hcr,hf5,⟨a1,a2,a3,a4,a5,a6,by omega,hB5⟩,by omega,?_⟩,hii⟩,by omega⟩
   have ht:(i'.i * (ρ 3).i + j.i).toNat = i'.i.toNat * (ρ 3).i.toNat + j.i.toNat:=by rw [Int.toNat_add hbi.1 j0,Int.toNat_mul i0' (by omega)]
   have hget:=qfH (d:=(ρ 7).d) (i:=i'.i * (ρ 3).i + j.i) (by omega) (by omega)
   rw [he5,hB2,show (i'.i * (ρ 3).i + (j.i + 1)).toNat = (i'.i * (ρ 3).i + j.i).toNat + 1 by omega,ht,qzd (by omega)]
   have e1:o3.i.toNat = i'.i.toNat * (ρ 10).i.toNat:=by rw [ho3,Int.toNat_mul i0' (by omega)]
   have e2:o4.i.toNat = j.i.toNat * (ρ 10).i.toNat:=by rw [ho4,Int.toNat_mul j0 (by omega)]
   have e3:((bI (ρ 7).d).take (ρ 5).i.toNat).getD (i'.i.toNat * (ρ 3).i.toNat + j.i.toNat) 0 = qg (ρ 7).d (i'.i * (ρ 3).i + j.i) 0:=by
    rw [List.getD_eq_getElem?_getD,List.getElem?_take,if_pos (by rw [<- ht]; omega),<- ht,hget]; rfl
   rw [e3,e1,e2,hn4,q4k (by rw [<- e2]; omega)]
  ·have hj':j.i = (ρ 3).i:=by omega
   rw [add64 (by omega) (by omega)]
   rw [hj',show i'.i * (ρ 3).i + (ρ 3).i = (i'.i + 1) * (ρ 3).i by rw [Int.add_mul,Int.one_mul]] at hB2
   exact ⟨⟨by omega,by omega,hv1.1 hb,hv2.1 hb2,hcr,hfd2,hM2,hL2,hB2⟩,by omega⟩
 ·have:i.i = (ρ 2).i:=by omega
  rw [this,Int.toNat_mul (by omega) (by omega)] at hB
  exact ⟨hfd,hv1.1 hb,hv2.1 hb2,hcr,hM,hL,hB⟩
end Go.Proofs

set_option linter.unusedSimpArgs false
set_option linter.unusedVariables false
set_option maxRecDepth 100000
namespace Go.Proofs
open Go Go.Eng

@[simp] def qg9:Sg:=sg 0 [bv 6 8,bv 5 30,bv 7 25,bv 4 6,bv 3 5,bg 2 4,bv 1 3,bv 0 2]
@[simp] def qgH:Sg:=sg 0 [bv 6 15,bv 5 31,bv 7 25,bv 4 13,bv 3 12,bg 2 11,bv 1 10,bv 0 9]
@[simp] def qpt:Sg:=sg 0 [bv 1 27,bt 2 (.icell (.var 30) (.arith .add .i64 (.arith .mul .i64 (.var 25) (.var 3)) (.var 26)) 0),bg 0 0]
@[simp] def qpI:Sg:=sg 0 [bv 1 47,bt 2 (.icell (.var 40) (.arith .add .i64 (.arith .mul .i64 (.var 25) (.var 3)) (.var 26)) 0),bg 0 0]
@[simp] def qqs:Sg:=sg 0 [bv 7 8,bv 6 30,bv 1 27,bt 11 (.lit 1),bv 10 38,bv 9 37,bv 8 36,bv 5 35,bv 4 34,bv 3 33,bg 2 4,bg 0 0]
@[simp] def qoZ:Sg:=sg 0 [bv 7 15,bv 6 31,bv 1 39,bt 11 (.lit 1),bv 10 46,bv 9 45,bv 8 44,bv 5 43,bv 4 42,bv 3 41,bg 2 11,bg 0 0]
@[simp] def qoG:Sg:=sg 0 [bv 7 8,bv 6 51,bv 1 48,bt 11 (.icell (.var 51) (.arith .add .i64 (.arith .mul .i64 (.var 53) (.var 3)) (.var 47)) 0),bv 10 59,bv 9 58,bv 8 57,bv 5 56,bv 4 55,bv 3 54,bg 2 4,bg 0 0]
@[simp] def qqd:Sg:=sg 0 [bv 7 8,bv 6 67,bv 1 64,bt 11 (.icell (.var 67) (.arith .add .i64 (.arith .mul .i64 (.var 69) (.var 3)) (.var 63)) 0),bv 10 75,bv 9 74,bv 8 73,bv 5 72,bv 4 71,bv 3 70,bg 2 4,bg 0 0]
@[simp] def qqq:Sg:=sg 0 [bv 7 15,bv 6 52,bv 1 60,bt 11 (.icell (.var 51) (.arith .add .i64 (.arith .mul .i64 (.var 53) (.var 3)) (.var 47)) 0),bv 10 67,bv 9 66,bv 8 65,bv 5 64,bv 4 63,bv 3 62,bg 2 11,bg 0 0]
@[simp] def qpD:Sg:=sg 0 [bv 7 15,bv 6 68,bv 1 76,bt 11 (.icell (.var 67) (.arith .add .i64 (.arith .mul .i64 (.var 69) (.var 3)) (.var 63)) 0),bv 10 83,bv 9 82,bv 8 81,bv 5 80,bv 4 79,bv 3 78,bg 2 11,bg 0 0]
@[simp] def qpT:Out:=.br (.cmp .eql (.var 32) (.var 2))
 (.back 0 18 (sg 1000 [bv 1006 31,bv 1005 30,bv 1002 27,bt 1001 (.arith .add .i64 (.var 26) (.lit 1)),bv 1000 25,bg 1004 29,bg 1003 28]))
 (.br (.cmp .neq (.var 32) (.var 25))
 (.both (.pre 0 qg9 (.both (.fresh 33 (.fresh 34 (.fresh 35 (.post 0 0 qg9 33 (.both (.pre 0 (sg 0 [bv 6 8,bv 5 30,bv 7 32,bv 4 6,bv 3 5,bg 2 4,bv 1 3,bv 0 2]) (.both (.fresh 36 (.fresh 37 (.fresh 38 (.post 0 0 (sg 0 [bv 6 8,bv 5 30,bv 7 32,bv 4 6,bv 3 5,bg 2 4,bv 1 3,bv 0 2]) 36 (.both (.pre 2 qqs (.both (.fresh 39 (.fresh 40 (.post 2 0 qqs 39 (.both (.pre 0 qgH (.both (.fresh 41 (.fresh 42 (.fresh 43 (.post 0 0 qgH 41 (.both (.pre 0 (sg 0 [bv 6 15,bv 5 31,bv 7 32,bv 4 13,bv 3 12,bg 2 11,bv 1 10,bv 0 9]) (.both (.fresh 44 (.fresh 45 (.fresh 46 (.post 0 0 (sg 0 [bv 6 15,bv 5 31,bv 7 32,bv 4 13,bv 3 12,bg 2 11,bv 1 10,bv 0 9]) 44 (.both (.pre 2 qoZ (.both (.fresh 47 (.fresh 48 (.post 2 0 qoZ 47 (.need (.cmp .leq (.lit 0) (.arith .add .i64 (.arith .mul .i64 (.var 25) (.var 3)) (.var 26))) (.need (.cmp .lss (.arith .add .i64 (.arith .mul .i64 (.var 25) (.var 3)) (.var 26)) (.var 5)) (.need (.cmp .lss (.arith .add .i64 (.arith .mul .i64 (.var 25) (.var 3)) (.var 26)) (.dlen (.var 40))) (.pre 3 qpI (.both (.fresh 49 (.fresh 50 (.fresh 51 (.post 3 0 qpI 49 (.pre 0 (sg 0 [bv 6 8,bv 5 40,bv 7 25,bv 4 6,bv 3 5,bg 2 4,bv 1 3,bv 0 2]) (.both (.fresh 52 (.fresh 53 (.fresh 54 (.post 0 0 (sg 0 [bv 6 8,bv 5 40,bv 7 25,bv 4 6,bv 3 5,bg 2 4,bv 1 3,bv 0 2]) 52 (.pre 4 (sg 0 [bv 7 8,bv 6 40,bv 1 51,bv 8 49,bv 5 54,bv 4 53,bv 3 52,bg 2 4,bg 0 0]) (.both (.fresh 55 (.fresh 56 (.post 4 0 (sg 0 [bv 7 8,bv 6 40,bv 1 51,bv 8 49,bv 5 54,bv 4 53,bv 3 52,bg 2 4,bg 0 0]) 55 (.pre 0 (sg 0 [bv 6 15,bv 5 48,bv 7 25,bv 4 13,bv 3 12,bg 2 11,bv 1 10,bv 0 9]) (.both (.fresh 57 (.fresh 58 (.fresh 59 (.post 0 0 (sg 0 [bv 6 15,bv 5 48,bv 7 25,bv 4 13,bv 3 12,bg 2 11,bv 1 10,bv 0 9]) 57 (.pre 4 (sg 0 [bv 7 15,bv 6 48,bv 1 55,bv 8 49,bv 5 59,bv 4 58,bv 3 57,bg 2 11,bg 0 0]) (.both (.fresh 60 (.fresh 61 (.post 4 0 (sg 0 [bv 7 15,bv 6 48,bv 1 55,bv 8 49,bv 5 59,bv 4 58,bv 3 57,bg 2 11,bg 0 0]) 60 (.inv 2 62 (sg 1000 [bv 1006 61,bv 1005 56,bv 1002 60,bt 1007 (.lit 0),bv 1001 26,bv 1000 25,bg 1004 29,bg 1003 28]) (.fresh 62 (.fresh 63 (.fresh 64 (.fresh 65 (.fresh 66 (.fresh 67 (.fresh 68 (.fresh 69 (.hyp 2 62 (.br (.cmp .lss (.var 69) (.var 2))
 (.need (.cmp .leq (.lit 0) (.arith .add .i64 (.arith .mul .i64 (.var 69) (.var 3)) (.var 63))) (.need (.cmp .lss (.arith .add .i64 (.arith .mul .i64 (.var 69) (.var 3)) (.var 63)) (.var 5)) (.need (.cmp .lss (.arith .add .i64 (.arith .mul .i64 (.var 69) (.var 3)) (.var 63)) (.dlen (.var 67))) (.br (.cmp .neq (.var 69) (.var 62))
 (.both (.pre 0 (sg 0 [bv 6 8,bv 5 67,bv 7 69,bv 4 6,bv 3 5,bg 2 4,bv 1 3,bv 0 2]) (.both (.fresh 70 (.fresh 71 (.fresh 72 (.post 0 0 (sg 0 [bv 6 8,bv 5 67,bv 7 69,bv 4 6,bv 3 5,bg 2 4,bv 1 3,bv 0 2]) 70 (.both (.pre 0 (sg 0 [bv 6 8,bv 5 67,bv 7 62,bv 4 6,bv 3 5,bg 2 4,bv 1 3,bv 0 2]) (.both (.fresh 73 (.fresh 74 (.fresh 75 (.post 0 0 (sg 0 [bv 6 8,bv 5 67,bv 7 62,bv 4 6,bv 3 5,bg 2 4,bv 1 3,bv 0 2]) 73 (.both (.pre 2 qqd (.both (.fresh 76 (.fresh 77 (.post 2 0 qqd 76 (.both (.pre 0 (sg 0 [bv 6 15,bv 5 68,bv 7 69,bv 4 13,bv 3 12,bg 2 11,bv 1 10,bv 0 9]) (.both (.fresh 78 (.fresh 79 (.fresh 80 (.post 0 0 (sg 0 [bv 6 15,bv 5 68,bv 7 69,bv 4 13,bv 3 12,bg 2 11,bv 1 10,bv 0 9]) 78 (.both (.pre 0 (sg 0 [bv 6 15,bv 5 68,bv 7 62,bv 4 13,bv 3 12,bg 2 11,bv 1 10,bv 0 9]) (.both (.fresh 81 (.fresh 82 (.fresh 83 (.post 0 0 (sg 0 [bv 6 15,bv 5 68,bv 7 62,bv 4 13,bv 3 12,bg 2 11,bv 1 10,bv 0 9]) 81 (.both (.pre 2 qpD (.both (.fresh 84 (.fresh 85 (.post 2 0 qpD 84 (.back 2 62 (sg 1000 [bv 1006 85,bv 1005 77,bv 1002 84,bt 1007 (.arith .add .i64 (.var 69) (.lit 1)),bv 1001 63,bv 1000 62,bg 1004 66,bg 1003 65]))))) .top)) .top))))) .top)) .top))))) .top)) .top)))) .top)) .top))))) .top)) .top))))) .top)) .top)
 (.back 2 62 (sg 1000 [bv 1006 68,bv 1005 67,bv 1002 64,bt 1007 (.arith .add .i64 (.var 69) (.lit 1)),bv 1001 63,bv 1000 62,bg 1004 66,bg 1003 65]))))))
 (.back 0 18 (sg 1000 [bv 1006 68,bv 1005 67,bv 1002 64,bt 1001 (.arith .add .i64 (.var 63) (.lit 1)),bt 1000 (.arith .add .i64 (.var 62) (.lit 1)),bg 1004 66,bg 1003 65])))))))))))))))) .top)))))) .top))))) .top)))))) .top)))))) .top)))))))) .top)) .top))))) .top)) .top))))) .top)) .top)))) .top)) .top))))) .top)) .top))))) .top)) .top)
 (.need (.cmp .leq (.lit 0) (.arith .add .i64 (.arith .mul .i64 (.var 25) (.var 3)) (.var 26))) (.need (.cmp .lss (.arith .add .i64 (.arith .mul .i64 (.var 25) (.var 3)) (.var 26)) (.var 5)) (.need (.cmp .lss (.arith .add .i64 (.arith .mul .i64 (.var 25) (.var 3)) (.var 26)) (.dlen (.var 30))) (.pre 3 qpt (.both (.fresh 33 (.fresh 34 (.fresh 35 (.post 3 0 qpt 33 (.pre 0 qg9 (.both (.fresh 36 (.fresh 37 (.fresh 38 (.post 0 0 qg9 36 (.pre 4 (sg 0 [bv 7 8,bv 6 30,bv 1 35,bv 8 33,bv 5 38,bv 4 37,bv 3 36,bg 2 4,bg 0 0]) (.both (.fresh 39 (.fresh 40 (.post 4 0 (sg 0 [bv 7 8,bv 6 30,bv 1 35,bv 8 33,bv 5 38,bv 4 37,bv 3 36,bg 2 4,bg 0 0]) 39 (.pre 0 qgH (.both (.fresh 41 (.fresh 42 (.fresh 43 (.post 0 0 qgH 41 (.pre 4 (sg 0 [bv 7 15,bv 6 31,bv 1 39,bv 8 33,bv 5 43,bv 4 42,bv 3 41,bg 2 11,bg 0 0]) (.both (.fresh 44 (.fresh 45 (.post 4 0 (sg 0 [bv 7 15,bv 6 31,bv 1 39,bv 8 33,bv 5 43,bv 4 42,bv 3 41,bg 2 11,bg 0 0]) 44 (.inv 2 46 (sg 1000 [bv 1006 45,bv 1005 40,bv 1002 44,bt 1007 (.lit 0),bv 1001 26,bv 1000 25,bg 1004 29,bg 1003 28]) (.fresh 46 (.fresh 47 (.fresh 48 (.fresh 49 (.fresh 50 (.fresh 51 (.fresh 52 (.fresh 53 (.hyp 2 46 (.br (.cmp .lss (.var 53) (.var 2))
 (.need (.cmp .leq (.lit 0) (.arith .add .i64 (.arith .mul .i64 (.var 53) (.var 3)) (.var 47))) (.need (.cmp .lss (.arith .add .i64 (.arith .mul .i64 (.var 53) (.var 3)) (.var 47)) (.var 5)) (.need (.cmp .lss (.arith .add .i64 (.arith .mul .i64 (.var 53) (.var 3)) (.var 47)) (.dlen (.var 51))) (.br (.cmp .neq (.var 53) (.var 46))
 (.both (.pre 0 (sg 0 [bv 6 8,bv 5 51,bv 7 53,bv 4 6,bv 3 5,bg 2 4,bv 1 3,bv 0 2]) (.both (.fresh 54 (.fresh 55 (.fresh 56 (.post 0 0 (sg 0 [bv 6 8,bv 5 51,bv 7 53,bv 4 6,bv 3 5,bg 2 4,bv 1 3,bv 0 2]) 54 (.both (.pre 0 (sg 0 [bv 6 8,bv 5 51,bv 7 46,bv 4 6,bv 3 5,bg 2 4,bv 1 3,bv 0 2]) (.both (.fresh 57 (.fresh 58 (.fresh 59 (.post 0 0 (sg 0 [bv 6 8,bv 5 51,bv 7 46,bv 4 6,bv 3 5,bg 2 4,bv 1 3,bv 0 2]) 57 (.both (.pre 2 qoG (.both (.fresh 60 (.fresh 61 (.post 2 0 qoG 60 (.both (.pre 0 (sg 0 [bv 6 15,bv 5 52,bv 7 53,bv 4 13,bv 3 12,bg 2 11,bv 1 10,bv 0 9]) (.both (.fresh 62 (.fresh 63 (.fresh 64 (.post 0 0 (sg 0 [bv 6 15,bv 5 52,bv 7 53,bv 4 13,bv 3 12,bg 2 11,bv 1 10,bv 0 9]) 62 (.both (.pre 0 (sg 0 [bv 6 15,bv 5 52,bv 7 46,bv 4 13,bv 3 12,bg 2 11,bv 1 10,bv 0 9]) (.both (.fresh 65 (.fresh 66 (.fresh 67 (.post 0 0 (sg 0 [bv 6 15,bv 5 52,bv 7 46,bv 4 13,bv 3 12,bg 2 11,bv 1 10,bv 0 9]) 65 (.both (.pre 2 qqq (.both (.fresh 68 (.fresh 69 (.post 2 0 qqq 68 (.back 2 46 (sg 1000 [bv 1006 69,bv 1005 61,bv 1002 68,bt 1007 (.arith .add .i64 (.var 53) (.lit 1)),bv 1001 47,bv 1000 46,bg 1004 50,bg 1003 49]))))) .top)) .top))))) .top)) .top))))) .top)) .top)))) .top)) .top))))) .top)) .top))))) .top)) .top)
 (.back 2 46 (sg 1000 [bv 1006 52,bv 1005 51,bv 1002 48,bt 1007 (.arith .add .i64 (.var 53) (.lit 1)),bv 1001 47,bv 1000 46,bg 1004 50,bg 1003 49]))))))
 (.back 0 18 (sg 1000 [bv 1006 52,bv 1005 51,bv 1002 48,bt 1001 (.arith .add .i64 (.var 47) (.lit 1)),bt 1000 (.arith .add .i64 (.var 46) (.lit 1)),bg 1004 50,bg 1003 49])))))))))))))))) .top)))))) .top))))) .top)))))) .top)))))) .top))))))
def qnM:Out:=(.fresh 16 (.fresh 17 (.inv 0 18 (sg 1000 [bv 1006 14,bv 1005 7,bv 1002 1,bt 1001 (.lit 0),bt 1000 (.lit 0),bg 1004 17,bg 1003 16]) (.fresh 18 (.fresh 19 (.fresh 20 (.fresh 21 (.fresh 22 (.fresh 23 (.fresh 24 (.hyp 0 18 (.br (.cmp .lss (.var 19) (.var 3))
 (.br (.cmp .lss (.var 18) (.var 2))
 (.inv 1 25 (sg 1000 [bv 1006 24,bv 1005 23,bv 1002 20,bv 1007 18,bv 1001 19,bv 1000 18,bg 1004 22,bg 1003 21]) (.fresh 25 (.fresh 26 (.fresh 27 (.fresh 28 (.fresh 29 (.fresh 30 (.fresh 31 (.fresh 32 (.hyp 1 25 (.br (.cmp .lss (.var 32) (.var 2))
 (.need (.cmp .leq (.lit 0) (.arith .add .i64 (.arith .mul .i64 (.var 32) (.var 3)) (.var 26))) (.need (.cmp .lss (.arith .add .i64 (.arith .mul .i64 (.var 32) (.var 3)) (.var 26)) (.var 5)) (.need (.cmp .lss (.arith .add .i64 (.arith .mul .i64 (.var 32) (.var 3)) (.var 26)) (.dlen (.var 30))) (.br (.cmp .eql (.icell (.var 30) (.arith .add .i64 (.arith .mul .i64 (.var 32) (.var 3)) (.var 26)) 0) (.lit 0))
 (.back 1 25 (sg 1000 [bv 1006 31,bv 1005 30,bv 1002 27,bt 1007 (.arith .add .i64 (.var 32) (.lit 1)),bv 1001 26,bv 1000 25,bg 1004 29,bg 1003 28]))
 qpT))))
 qpT)))))))))))
 (.ret 0 (sg 16 [bv 19 24,bv 18 23,bv 17 20,bv 16 18])))
 (.ret 0 (sg 16 [bv 19 24,bv 18 23,bv 17 20,bv 16 18]))))))))))))))
theorem qxp:qk ⟨Tryz.prog,qdJ,[qb5,qb4,qeS,qeT,qeU],[qrl,qrR,qr8]⟩ 100000 Tryz.f167 = qnM:=by kernel_rfl
theorem q23 (hd:∀ c ∈ ([qb5,qb4,qeS,qeT,qeU]:List Ctr),c.ok Tryz.prog) (h:∀ ρ:Env,ρ.good->(qdJ).pre ρ->qnM.den ⟨Tryz.prog,qdJ,[qb5,qb4,qeS,qeT,qeU],[qrl,qrR,qr8]⟩ ρ):(qdJ).ok Tryz.prog :=
 qf Tryz.func167 (fun a w=>Tryz.call167 a w) hd 100000 (fun ρ hg hp=>by rw [qxp]; exact h ρ hg hp)
@[simp] def qkU:Sg:=sg 0 [bv 15 14,bv 14 15,bv 8 18,bv 7 19,bv 1 1,bv 13 14,bv 12 13,bg 11 12,bv 10 2,bv 9 2,bv 6 18,bv 5 5,bg 4 17,bv 3 3,bv 2 2,bg 0 0]
def qjn:Out:=(.fresh 9 (.fresh 10 (.br (.and (.cmp .eql (.dlen (.var 1)) (.lit 0)) (.isnil 0))
 (.ret 0 (sg 9 [bv 10 1,bt 9 (.lit 1)]))
 (.pre 0 (sg 0 [bv 6 8,bv 5 7,bv 4 6,bv 3 5,bg 2 4,bv 1 3,bv 0 2]) (.both (.fresh 11 (.post 0 0 (sg 0 [bv 6 8,bv 5 7,bv 4 6,bv 3 5,bg 2 4,bv 1 3,bv 0 2]) 11 (.br (.not (.var 11))
 (.ret 0 (sg 9 [bv 10 1,bt 9 (.lit 2)]))
 (.br (.cmp .neq (.var 2) (.var 3))
 (.ret 0 (sg 9 [bv 10 1,bt 9 (.lit 10)]))
 (.pre 1 (sg 0 [bv 0 2]) (.both (.fresh 12 (.fresh 13 (.fresh 14 (.fresh 15 (.post 1 0 (sg 0 [bv 0 2]) 12 (.fresh 16 (.both (.pre 2 (sg 0 [bv 6 8,bv 5 7,bv 4 6,bv 3 5,bg 2 4,bv 1 3,bv 0 2]) (.both (.fresh 17 (.fresh 18 (.fresh 19 (.post 2 0 (sg 0 [bv 6 8,bv 5 7,bv 4 6,bv 3 5,bg 2 4,bv 1 3,bv 0 2]) 17 (.both (.pre 3 qkU (.both (.fresh 20 (.fresh 21 (.fresh 22 (.fresh 23 (.post 3 0 qkU 20 (.br (.cmp .lss (.var 20) (.var 2))
 (.ret 0 (sg 9 [bv 10 21,bt 9 (.lit 11)]))
 (.ret 1 (sg 9 [bv 13 23,bv 12 21,bv 11 14,bv 10 13,bg 9 12])))))))) .top)) .top))))) .top)) .top))))))) .top)))))) .top)))))
theorem qrH:qk ⟨Tryz.prog,qbM,[qbu,qjD,qj6,qdJ],[]⟩ 100000 Tryz.f134 = qjn:=by kernel_rfl
theorem qvD (hd:∀ c ∈ ([qbu,qjD,qj6,qdJ]:List Ctr),c.ok Tryz.prog) (h:∀ ρ:Env,ρ.good->(qbM).pre ρ->qjn.den ⟨Tryz.prog,qbM,[qbu,qjD,qj6,qdJ],[]⟩ ρ):(qbM).ok Tryz.prog :=
 qf Tryz.func134 (fun a w=>Tryz.call134 a w) hd 100000 (fun ρ hg hp=>by rw [qrH]; exact h ρ hg hp)
@[simp] def qlL:Sg:=sg 0 [bv 8 8,bv 7 10,bv 1 9,bv 6 8,bt 5 (.arith .mul .i64 (.var 2) (.var 2)),bg 4 6,bv 3 2,bv 2 2,bg 0 0]
@[simp] def qiP:Sg:=sg 0 [bv 15 15,bv 14 17,bv 8 8,bv 7 10,bv 1 16,bv 13 15,bv 12 14,bg 11 13,bv 10 2,bv 9 2,bv 6 8,bv 5 7,bg 4 6,bv 3 2,bv 2 3,bg 0 0]
@[simp] def qiF:Sg:=sg 0 [bt 15 (.lit 0),bt 14 .dnil,bv 8 8,bv 7 10,bv 1 14,bt 13 (.lit 0),bt 12 (.lit 0),(11,.nil),bt 10 (.lit 0),bt 9 (.lit 0),bv 6 8,bv 5 7,bg 4 6,bv 3 2,bv 2 3,bg 0 0]
def qr6:Out:=(.fresh 4 (.br (.and (.cmp .eql (.dlen (.var 1)) (.lit 0)) (.isnil 0))
 (.stuck 7 0 0)
 (.pre 0 (sg 0 [bv 1 3,bv 0 2]) (.both (.fresh 5 (.post 0 0 (sg 0 [bv 1 3,bv 0 2]) 5 (.br (.not (.var 5))
 (.ret 0 (sg 4 [bv 4 1]))
 (.pre 1 (sg 0 [bv 1 1,bv 3 2,bv 2 3,bg 0 0]) (.both (.fresh 6 (.fresh 7 (.fresh 8 (.fresh 9 (.fresh 10 (.post 1 0 (sg 0 [bv 1 1,bv 3 2,bv 2 3,bg 0 0]) 6 (.fresh 11 (.know (.cmp .leq (.dlen (.var 10)) (.var 8)) (.need (.cmp .leq (.lit 0) (.var 7)) (.need (.cmp .leq (.lit 0) (.var 8)) (.need (.cmp .leq (.lit 0) (.arith .mul .i64 (.var 2) (.var 2))) (.need (.cmp .leq (.arith .mul .i64 (.var 2) (.var 2)) (.var 8)) (.fresh 12 (.pre 2 qlL (.both (.fresh 13 (.fresh 14 (.post 2 0 qlL 13 (.fresh 15 (.pre 3 qiF (.both (.fresh 16 (.post 3 0 qiF 16 (.ret 0 (sg 4 [bv 4 16])))) (.both (.fresh 16 (.post 3 1 qiF 16 (.stuck 7 0 0))) (.both (.fresh 16 (.fresh 17 (.fresh 18 (.fresh 19 (.fresh 20 (.post 3 2 qiF 16 (.pack [.cells 15 200 [(.vint .i64 (.lit 0)),(.vint .i64 (.lit 0)),.vnils],.cells 12 200 [(.vint .i64 (.var 2)),(.vint .i64 (.var 2)),(.vslice 6 (.lit 0) (.arith .mul .i64 (.var 2) (.var 2)) (.var 8) 1)],.cells 11 200 [(.vint .i64 (.var 3)),(.vint .i64 (.var 2)),(.vslice 6 (.lit 0) (.var 7) (.var 8) 1)],.arr 6 5 [CK.int .u8] (.var 10) (.var 8),.cells 4 200 [(.vint .i64 (.var 3)),(.vint .i64 (.lit 0)),(.vslice 16 (.lit 0) (.var 17) (.var 18) 1)]] 21 (.need (.cmp .eql (.var 2) (.lit 0)) (.ret 1 (sg 4 [bg 9 21,bv 8 20,bv 7 19,bv 6 18,bv 5 17,bg 4 16])))))))))) .top)))))))) (.both (.fresh 13 (.fresh 14 (.fresh 15 (.fresh 16 (.fresh 17 (.post 2 1 qlL 13 (.fresh 18 (.pre 3 qiP (.both (.fresh 19 (.post 3 0 qiP 19 (.ret 0 (sg 4 [bv 4 19])))) (.both (.fresh 19 (.post 3 1 qiP 19 (.stuck 7 0 0))) (.both (.fresh 19 (.fresh 20 (.fresh 21 (.fresh 22 (.fresh 23 (.post 3 2 qiP 19 (.pack [.cells 18 200 [(.vint .i64 (.var 2)),(.vint .i64 (.var 2)),(.vslice 13 (.lit 0) (.var 14) (.var 15) 1)],.arr 13 5 [CK.int .u8] (.var 17) (.var 15),.cells 12 200 [(.vint .i64 (.var 2)),(.vint .i64 (.var 2)),(.vslice 6 (.lit 0) (.arith .mul .i64 (.var 2) (.var 2)) (.var 8) 1)],.cells 11 200 [(.vint .i64 (.var 3)),(.vint .i64 (.var 2)),(.vslice 6 (.lit 0) (.var 7) (.var 8) 1)],.arr 6 5 [CK.int .u8] (.var 10) (.var 8),.cells 4 200 [(.vint .i64 (.var 3)),(.vint .i64 (.var 2)),(.vslice 19 (.lit 0) (.var 20) (.var 21) 1)]] 24 (.ret 1 (sg 4 [bg 9 24,bv 8 23,bv 7 22,bv 6 21,bv 5 20,bg 4 19]))))))))) .top))))))))))) .top)))))))))))))))) .top))))) .top))))
theorem q0Q:qk ⟨Tryz.prog,qfX,[qbq,qig,qbM,qdF],[]⟩ 100000 Tryz.f122 = qr6:=by kernel_rfl
theorem q4E (hd:∀ c ∈ ([qbq,qig,qbM,qdF]:List Ctr),c.ok Tryz.prog) (h:∀ ρ:Env,ρ.good->(qfX).pre ρ->qr6.den ⟨Tryz.prog,qfX,[qbq,qig,qbM,qdF],[]⟩ ρ):(qfX).ok Tryz.prog :=
 qf Tryz.func122 (fun a w=>Tryz.call122 a w) hd 100000 (fun ρ hg hp=>by rw [q0Q]; exact h ρ hg hp)
end Go.Proofs

set_option linter.unusedSimpArgs false
set_option linter.unusedVariables false
namespace Go.Proofs
open Go Go.Eng

theorem idx {r n i c:Int} (hr:r <= 255) (hn:n <= 255) (i0:0 <= i) (i1:i < r) (c0:0 <= c) (c1:c < n) :
  qc .add .i64 (qc .mul .i64 i n) c = i * n + c/\0 <= i * n + c/\i * n + c < r * n/\(i * n + c).toNat = i.toNat * n.toNat + c.toNat:=by
 have hb:=qap (x:=i) (y:=n) i0 (show i <= 255 by omega) (by omega) hn
 have hlt:i * n + n <= r * n:=by
  have:=Int.mul_le_mul_of_nonneg_right (show i + 1 <= r by omega) (show 0 <= n by omega)
  rw [Int.add_mul,Int.one_mul] at this; omega
 refine ⟨by rw [qc4 (by omega) (by omega),add64 (by omega) (by omega)],by omega,by omega,?_⟩
 rw [Int.toNat_add hb.1 c0,Int.toNat_mul i0 (by omega)]
theorem qfE {r n i:Int} (i0:0 <= i) (i1:i < r) (n0:0 <= n):0 <= i * n/\i * n + n <= r * n/\(i * n).toNat = i.toNat * n.toNat:=by
 have hlt:i * n + n <= r * n:=by
  have:=Int.mul_le_mul_of_nonneg_right (show i + 1 <= r by omega) n0
  rw [Int.add_mul,Int.one_mul] at this; omega
 exact ⟨Int.mul_nonneg i0 n0,hlt,Int.toNat_mul i0 n0⟩
theorem qjK {n i j:Int} (h:¬ i = j) (n0:0 <= n):j * n + n <= i * n∨i * n + n <= j * n:=by
 rcases Int.lt_or_gt_of_ne h with h | h
 ·right
  have:=Int.mul_le_mul_of_nonneg_right (show i + 1 <= j by omega) n0
  rw [Int.add_mul,Int.one_mul] at this; omega
 ·left
  have:=Int.mul_le_mul_of_nonneg_right (show j + 1 <= i by omega) n0
  rw [Int.add_mul,Int.one_mul] at this; omega
theorem qiD {d:qe} {e:Int} (h0:0 <= e) (h1:e < d.length):(bI d).getD e.toNat 0 = qg d e 0:=by
 rw [List.getD_eq_getElem?_getD,qfH h0 h1]; rfl
theorem qR.seg {r c l cap:Int} {d:qe} (h:qR r c l cap d) {i o n:Int} (i0:0 <= i) (i1:i < r) (ho:o = i * c) (hn:n = c):qmE d o n:=by
 obtain ⟨⟨a1,a2,a3,a4,a5,a6,a7,a8⟩,a9⟩:=h
 obtain ⟨b1,b2,_⟩:=qfE i0 i1 a3
 exact ⟨by omega,by omega,by omega,by unfold Go.Eng.big; omega⟩
theorem qR.next {r c l cap:Int} {d d':qe} (h:qR r c l cap d) (hl:d'.length = d.length) (hB:qz d'):qR r c l cap d':=by
 obtain ⟨⟨a1,a2,a3,a4,a5,a6,a7,a8⟩,a9⟩:=h
 exact ⟨⟨a1,a2,a3,a4,a5,a6,by omega,hB⟩,by omega⟩
theorem qoN {rows ca cb:Nat} {a b:List Int} {c:Nat} (h:rows <= (qch rows ca cb a b c).2.2):∀ k,qch rows ca cb a b (c + k) = qch rows ca cb a b c
 | 0=>rfl
 | k + 1=>by
  rw [<- Nat.add_assoc,qch,qoN h k,qcT,if_pos h]
theorem q3t {a:List Int} {ca c p n:Nat} (h:¬ a.getD (p * ca + c) 0 = 0):qdl a ca c p n = p:=by
 cases n with
 | zero=>rfl
 | succ n=>rw [qdl,if_neg h]
section
variable {r ca cb l1 c1 l2 c2 rank c p i:Int} {f da db a0 b0:qe}
theorem qcF.start (hf:qw f) (hA:qR r ca l1 c1 da) (hB:qR r cb l2 c2 db):qcF r ca cb l1 c1 l2 c2 0 0 f da db da db :=
 ⟨⟨hf,hA,hB,by omega,hA.1.1,by omega,hA.1.2.2.1⟩,rfl⟩
theorem qeD.start (h:qcF r ca cb l1 c1 l2 c2 rank c f da db a0 b0) (hr:rank < r) (hc:c < ca):qeD r ca cb l1 c1 l2 c2 rank c rank f da db a0 b0 :=
 ⟨h,hr,hc,by omega,by omega,rfl⟩
theorem qeD.next (h:qeD r ca cb l1 c1 l2 c2 rank c p f da db a0 b0) (hp:p < r) (hz:qg da (p * ca + c) 0 = 0):qeD r ca cb l1 c1 l2 c2 rank c (p + 1) f da db a0 b0:=by
 obtain ⟨h1,h2,h3,h4,h5,h6⟩:=h
 refine ⟨h1,h2,h3,by omega,by omega,?_⟩
 obtain ⟨⟨_,hA,hB,w1,w2,w3,w4⟩,_⟩:=h1
 obtain ⟨⟨a1,a2,a3,a4,a5,a6,a7,a8⟩,a9⟩:=hA
 obtain ⟨_,e1,e2,e3⟩:=idx (i:=p) a2 a4 (by omega) hp w3 h3
 have hg:=qiD (d:=da) e1 (by omega)
 rw [e3] at hg
 rw [<- h6,show r.toNat - p.toNat = (r.toNat - (p + 1).toNat) + 1 by omega,qdl,if_pos (by rw [hg]; exact hz),show (p + 1).toNat = p.toNat + 1 by omega]
theorem qcF.skip (h:qeD r ca cb l1 c1 l2 c2 rank c p f da db a0 b0) (hp:p = r):qcF r ca cb l1 c1 l2 c2 rank (c + 1) f da db a0 b0:=by
 obtain ⟨⟨⟨hf,hA,hB,w1,w2,w3,w4⟩,he⟩,h2,h3,h4,h5,h6⟩:=h
 refine ⟨⟨hf,hA,hB,w1,w2,by omega,by omega⟩,?_⟩
 rw [show (c + 1).toNat = c.toNat + 1 by omega,qch,<- he,qcT]
 simp only
 rw [if_neg (by omega),if_pos]
 rw [<- h6,hp,Nat.sub_self,qdl]
theorem qeD.piv (h:qeD r ca cb l1 c1 l2 c2 rank c p f da db a0 b0) (hp:p < r) (hz:¬ qg da (p * ca + c) 0 = 0):qdl (bI da) ca.toNat c.toNat rank.toNat (r.toNat - rank.toNat) = p.toNat:=by
 obtain ⟨⟨⟨hf,hA,hB,w1,w2,w3,w4⟩,he⟩,h2,h3,h4,h5,h6⟩:=h
 obtain ⟨⟨a1,a2,a3,a4,a5,a6,a7,a8⟩,a9⟩:=hA
 obtain ⟨_,e1,e2,e3⟩:=idx (i:=p) a2 a4 (by omega) hp w3 h3
 have hg:=qiD (d:=da) e1 (by omega)
 rw [e3] at hg
 rw [<- h6,q3t (by rw [hg]; exact hz)]
theorem qdc.start {da1 db1 da2 db2 f2:qe} {o1 n1 o2 n2 x:Int} (h:qeD r ca cb l1 c1 l2 c2 rank c p f da db a0 b0) (hp:p < r) (hz:¬ qg da (p * ca + c) 0 = 0)
  (hs:(bI da1,bI db1) = qbH ca.toNat cb.toNat rank.toNat p.toNat (bI da) (bI db)) (hl1:da1.length = da.length) (hl2:db1.length = db.length)
  (hx:x = qfN (qg da1 (rank * ca + c) 0)) (hA2:bI da2 = qbk (bI da1) o1.toNat n1.toNat x) (hB2:bI db2 = qbk (bI db1) o2.toNat n2.toNat x) (ho1:o1 = rank * ca) (hn1:n1 = ca) (ho2:o2 = rank * cb) (hn2:n2 = cb)
  (hl3:da2.length = da1.length) (hl4:db2.length = db1.length) (hb1:qz da2) (hb2:qz db2) (hf2:qw f2):qdc r ca cb l1 c1 l2 c2 rank c 0 f2 da2 db2 a0 b0:=by
 have hpiv:=qeD.piv h hp hz
 obtain ⟨⟨⟨hf,hA,hB,w1,w2,w3,w4⟩,he⟩,h2,h3,h4,h5,h6⟩:=h
 refine ⟨⟨hf2,qR.next hA (by omega) hb1,qR.next hB (by omega) hb2,w1,w2,w3,w4⟩,h2,h3,by omega,by omega,_,he,rfl,by simp only; rw [hpiv]; omega,?_⟩
 obtain ⟨⟨a1,a2,a3,a4,a5,a6,a7,a8⟩,a9⟩:=hA
 obtain ⟨⟨d1,d2,d3,d4,d5,d6,d7,d8⟩,d9⟩:=hB
 obtain ⟨_,e1,e2,e3⟩:=idx (i:=rank) a2 a4 w1 h2 w3 h3
 have hg:=qiD (d:=da1) e1 (by omega)
 rw [e3] at hg
 have hr1:=(qfE (n:=ca) w1 h2 a3).2.2
 have hr2:=(qfE (n:=cb) w1 h2 d3).2.2
 simp only [qgk,Int.toNat_zero,qaC]
 rw [hpiv,<- hs]
 simp only [qhf]
 rw [hg,<- hx,hA2,hB2,ho1,ho2,hn1,hn2,hr1,hr2]
theorem qdc.same (h:qdc r ca cb l1 c1 l2 c2 rank c i f da db a0 b0) (hi:i < r) (he:i = rank):qdc r ca cb l1 c1 l2 c2 rank c (i + 1) f da db a0 b0:=by
 obtain ⟨hw,h2,h3,h4,h5,s,hs,hs2,hs3,hs4⟩:=h
 refine ⟨hw,h2,h3,by omega,by omega,s,hs,hs2,hs3,?_⟩
 rw [show (i + 1).toNat = i.toNat + 1 by omega,qaC]
 rw [if_pos (by omega)]; exact hs4
theorem qdc.next {da2 db2 f2:qe} {o1 o2 p1 m1 p2 m2:Int} (h:qdc r ca cb l1 c1 l2 c2 rank c i f da db a0 b0) (hi:i < r) (hne:¬ i = rank)
  (hA2:bI da2 = qae (bI da) o1.toNat (seg (bI da) p1.toNat m1.toNat) (qg da (i * ca + c) 0)) (hB2:bI db2 = qae (bI db) o2.toNat (seg (bI db) p2.toNat m2.toNat) (qg da (i * ca + c) 0))
  (ho1:o1 = i * ca) (hp1:p1 = rank * ca) (hm1:m1 = ca) (ho2:o2 = i * cb) (hp2:p2 = rank * cb) (hm2:m2 = cb)
  (hl3:da2.length = da.length) (hl4:db2.length = db.length) (hb1:qz da2) (hb2:qz db2) (hf2:qw f2):qdc r ca cb l1 c1 l2 c2 rank c (i + 1) f2 da2 db2 a0 b0:=by
 obtain ⟨⟨hf,hA,hB,w1,w2,w3,w4⟩,h2,h3,h4,h5,s,hs,hs2,hs3,hs4⟩:=h
 refine ⟨⟨hf2,qR.next hA hl3 hb1,qR.next hB hl4 hb2,w1,w2,w3,w4⟩,h2,h3,by omega,by omega,s,hs,hs2,hs3,?_⟩
 obtain ⟨⟨a1,a2,a3,a4,a5,a6,a7,a8⟩,a9⟩:=hA
 obtain ⟨⟨d1,d2,d3,d4,d5,d6,d7,d8⟩,d9⟩:=hB
 obtain ⟨_,e1,e2,e3⟩:=idx (i:=i) a2 a4 h4 hi w3 h3
 have hg:=qiD (d:=da) e1 (by omega)
 rw [e3] at hg
 rw [show (i + 1).toNat = i.toNat + 1 by omega,qaC]
 rw [if_neg (by omega),<- hs4]
 simp only
 rw [hg,hA2,hB2,ho1,ho2,hp1,hp2,hm1,hm2,(qfE (n:=ca) h4 hi a3).2.2,(qfE (n:=cb) h4 hi d3).2.2,(qfE (n:=ca) w1 h2 a3).2.2,(qfE (n:=cb) w1 h2 d3).2.2]
theorem qcF.after (h:qdc r ca cb l1 c1 l2 c2 rank c i f da db a0 b0) (hi:i = r):qcF r ca cb l1 c1 l2 c2 (rank + 1) (c + 1) f da db a0 b0:=by
 obtain ⟨⟨hf,hA,hB,w1,w2,w3,w4⟩,h2,h3,h4,h5,s,hs,hs2,hs3,hs4⟩:=h
 refine ⟨⟨hf,hA,hB,by omega,by omega,by omega,by omega⟩,?_⟩
 rw [show (c + 1).toNat = c.toNat + 1 by omega,qch,<- hs,qcT,hs2,if_neg (by omega),if_neg hs3]
 simp only
 rw [hi] at hs4
 rw [<- hs4]
 simp only
 rw [show (rank + 1).toNat = rank.toNat + 1 by omega]
theorem qcF.fin (h:qcF r ca cb l1 c1 l2 c2 rank c f da db a0 b0) (hd:r <= rank∨ca <= c):(bI da,bI db,rank.toNat) = qch r.toNat ca.toNat cb.toNat (bI a0) (bI b0) ca.toNat:=by
 obtain ⟨⟨hf,hA,hB,w1,w2,w3,w4⟩,he⟩:=h
 rcases hd with hd | hd
 ·have:=qoN (rows:=r.toNat) (ca:=ca.toNat) (cb:=cb.toNat) (a:=bI a0) (b:=bI b0) (c:=c.toNat) (by rw [<- he]; simp only; omega) (ca.toNat - c.toNat)
  rw [show c.toNat + (ca.toNat - c.toNat) = ca.toNat by omega] at this
  rw [this,he]
 ·rw [he,show c.toNat = ca.toNat by omega]
end
theorem q5F {ca cb rank p:Nat} {a b:List Int} (h:¬ p = rank):qbH ca cb rank p a b = (qae a (rank * ca) (seg a (p * ca) ca) 1,qae b (rank * cb) (seg b (p * cb) cb) 1):=by rw [qbH,if_neg h]
set_option maxRecDepth 100000 in
set_option maxHeartbeats 4000000 in
theorem q1H:qdJ.ok Tryz.prog:=q23 (by simp [qo8,qos,q2H,q51,q5l]) fun ρ hg hp=>by
 obtain ⟨hf,hA,hB,hr⟩:=hp
 simp (config:={ maxSteps:=4000000 }) [qnM,qdJ,qrl,qrR,qr8,qb5,qb4,qeS,qeT,qeU]
 have hA':=hA
 have hB':=hB
 obtain ⟨⟨a1,a2,a3,a4,a5,a6,a7,a8⟩,a9⟩:=hA'
 rw [hr] at hB
 have hB2:=hB
 obtain ⟨⟨d1,d2,d3,d4,d5,d6,d7,d8⟩,d9⟩:=hB2
 rw [hr]
 refine ⟨qcF.start hf hA hB,fun rk _ c _ f _ da _ db _ hO=>⟨fun hc=>⟨fun hrk=>⟨qeD.start hO hrk hc,?_⟩,fun hrk=>?_⟩,fun hc=>?_⟩⟩
 rotate_left
 ·have hfin:=qcF.fin hO (.inl hrk)
  obtain ⟨⟨h1,h2,h3,h4,h5,h6,h7⟩,he⟩:=hO
  exact ⟨h1,h2,h3,h4,h5,hfin⟩
 ·have hfin:=qcF.fin hO (.inr hc)
  obtain ⟨⟨h1,h2,h3,h4,h5,h6,h7⟩,he⟩:=hO
  exact ⟨h1,h2,h3,h4,h5,hfin⟩
 intro rk _ c' _ f _ da _ db _ p _ hP hcc
 have hP':=hP
 obtain ⟨⟨⟨hfd,hAd,hBd,w1,w2,w3,w4⟩,hE⟩,hrk,hcc',hp0,hp1,hpv⟩:=hP
 have hlA:=hAd.2
 refine ⟨fun hp=>?_,fun hp=>⟨fun he=>?_,fun hne=>by omega⟩⟩
 ·obtain ⟨x0,x1,x2,x3⟩:=idx (i:=p.i) a2 a4 (by omega) hp w3 hcc'
  rw [x0,add64 (x:=p.i) (by omega) (by omega)]
  refine ⟨x1,by omega,by omega,fun hz=>⟨⟨qeD.next hP' hp hz,hcc⟩,by omega⟩,fun hz=>⟨fun he=>by omega,fun _=>⟨fun hpr=>?_,fun hpr=>?_⟩⟩⟩
  ·refine ⟨⟨w1,hrk,hAd.1⟩,fun o1 _ n1 _ k1 _ ho1 hn1 hk1=>⟨⟨by omega,hp,hAd.1⟩,fun o2 _ n2 _ k2 _ ho2 hn2 hk2=>⟨⟨hfd,qR.seg hAd w1 hrk ho1 hn1,qR.seg hAd (by omega) hp ho2 hn2,by omega,by rw [ho1,hn1,ho2,hn2]; exact qjK (fun h=>hpr h.symm) a3,hAd.1.2.2.2.2.2.2.2⟩,fun f1 _ da1 _ hf1 hl1 hb1 hA1=>⟨⟨w1,hrk,hBd.1⟩,fun o3 _ n3 _ k3 _ ho3 hn3 hk3=>⟨⟨by omega,hp,hBd.1⟩,fun o4 _ n4 _ k4 _ ho4 hn4 hk4=>⟨⟨hf1,qR.seg hBd w1 hrk ho3 hn3,qR.seg hBd (by omega) hp ho4 hn4,by omega,by rw [ho3,hn3,ho4,hn4]; exact qjK (fun h=>hpr h.symm) d3,hBd.1.2.2.2.2.2.2.2⟩,fun f2 _ db1 _ hf2 hl2 hb2 hB1=>?_⟩⟩⟩⟩⟩⟩
   have hsw:(bI da1.d,bI db1.d) = qbH (ρ 3).i.toNat (ρ 10).i.toNat rk.i.toNat p.i.toNat (bI da.d) (bI db.d):=by
    rw [q5F (by omega),hA1,hB1,ho1,ho2,ho3,ho4,hn2,hn4,(qfE (n:=(ρ 3).i) w1 hrk a3).2.2,(qfE (n:=(ρ 3).i) (by omega) hp a3).2.2,(qfE (n:=(ρ 10).i) w1 hrk d3).2.2,(qfE (n:=(ρ 10).i) (by omega) hp d3).2.2]
   have fA1:qR (ρ 2).i (ρ 3).i (ρ 5).i (ρ 6).i da1.d:=qR.next hAd hl1 hb1
   have fB1:qR (ρ 2).i (ρ 10).i (ρ 12).i (ρ 13).i db1.d:=qR.next hBd hl2 hb2
   obtain ⟨y0,y1,y2,y3⟩:=idx (i:=rk.i) a2 a4 w1 hrk w3 hcc'
   rw [y0]
   have hcell:=qd8 fA1.1.2.2.2.2.2.2.2 (i:=rk.i * (ρ 3).i + c'.i) y1 (by have:=fA1.2; omega)
   have hlA:=fA1.2
   refine ⟨y1,by omega,by omega,⟨hf2,hcell⟩,fun x _ er _ f3 _ hf3 hx _=>⟨⟨w1,hrk,fA1.1⟩,fun o5 _ n5 _ k5 _ ho5 hn5 hk5=>⟨⟨hf3,qR.seg fA1 w1 hrk ho5 hn5,fA1.1.2.2.2.2.2.2.2,by rw [hx]; exact (qcM hcell.1 hcell.2).1,by rw [hx]; exact (qcM hcell.1 hcell.2).2⟩,fun f4 _ da2 _ hf4 hl4 hb4 hA4=>⟨⟨w1,hrk,fB1.1⟩,fun o6 _ n6 _ k6 _ ho6 hn6 hk6=>⟨⟨hf4,qR.seg fB1 w1 hrk ho6 hn6,fB1.1.2.2.2.2.2.2.2,by rw [hx]; exact (qcM hcell.1 hcell.2).1,by rw [hx]; exact (qcM hcell.1 hcell.2).2⟩,fun f5 _ db2 _ hf5 hl5 hb5 hB5=>⟨⟨qdc.start hP' hp hz hsw hl1 hl2 hx hA4 hB5 ho5 hn5 ho6 hn6 hl4 hl5 hb4 hb5 hf5,hcc⟩,?_⟩⟩⟩⟩⟩⟩
   intro rk2 _ c2 _ f6 _ da3 _ db3 _ i _ hQ hc2
   refine ⟨fun hi=>?_,fun hi=>?_⟩
   ·have hQ':=hQ
    obtain ⟨⟨hfq,hAq,hBq,v1,v2,v3,v4⟩,q1,q2,q3,q4,_⟩:=hQ'
    have hlq:=hAq.2
    obtain ⟨z0,z1,z2,z3⟩:=idx (i:=i.i) a2 a4 q3 hi v3 q2
    rw [z0,add64 (by omega) (by omega)]
    have hcq:=qd8 hAq.1.2.2.2.2.2.2.2 (i:=i.i * (ρ 3).i + c2.i) z1 (by omega)
    refine ⟨z1,by omega,by omega,fun hne=>⟨⟨q3,hi,hAq.1⟩,fun r1 _ r2 _ r3 _ hr1 hr2 hr3=>⟨⟨v1,q1,hAq.1⟩,fun t1 _ t2 _ t3 _ ht1 ht2 ht3=>⟨⟨hfq,qR.seg hAq q3 hi hr1 hr2,qR.seg hAq v1 q1 ht1 ht2,by omega,by rw [hr1,hr2,ht1,ht2]; exact qjK hne a3,hAq.1.2.2.2.2.2.2.2,hcq⟩,fun f7 _ da4 _ hf7 hl7 hb7 hA7=>⟨⟨q3,hi,hBq.1⟩,fun r4 _ r5 _ r6 _ hr4 hr5 hr6=>⟨⟨v1,q1,hBq.1⟩,fun t4 _ t5 _ t6 _ ht4 ht5 ht6=>⟨⟨hf7,qR.seg hBq q3 hi hr4 hr5,qR.seg hBq v1 q1 ht4 ht5,by omega,by rw [hr4,hr5,ht4,ht5]; exact qjK hne d3,hBq.1.2.2.2.2.2.2.2,hcq⟩,fun f8 _ db4 _ hf8 hl8 hb8 hB8=>⟨⟨qdc.next hQ hi hne hA7 hB8 hr1 ht1 ht2 hr4 ht4 ht5 hl7 hl8 hb7 hb8 hf8,hc2⟩,by omega⟩⟩⟩⟩⟩⟩⟩,fun hieq=>⟨⟨qdc.same hQ hi hieq,hc2⟩,by omega⟩⟩
   ·have hQ':=hQ
    obtain ⟨⟨hfq,hAq,hBq,v1,v2,v3,v4⟩,q1,q2,q3,q4,_⟩:=hQ'
    rw [add64 (by omega) (by omega),add64 (by omega) (by omega)]
    exact ⟨qcF.after hQ (by omega),by omega⟩
  ·have hsw:(bI da.d,bI db.d) = qbH (ρ 3).i.toNat (ρ 10).i.toNat rk.i.toNat p.i.toNat (bI da.d) (bI db.d):=by
    rw [qbH,if_pos (by omega)]
   have fA1:qR (ρ 2).i (ρ 3).i (ρ 5).i (ρ 6).i da.d:=hAd
   have fB1:qR (ρ 2).i (ρ 10).i (ρ 12).i (ρ 13).i db.d:=hBd
   obtain ⟨y0,y1,y2,y3⟩:=idx (i:=rk.i) a2 a4 w1 hrk w3 hcc'
   rw [y0]
   have hcell:=qd8 fA1.1.2.2.2.2.2.2.2 (i:=rk.i * (ρ 3).i + c'.i) y1 (by have:=fA1.2; omega)
   have hlA:=fA1.2
   refine ⟨y1,by omega,by omega,⟨hfd,hcell⟩,fun x _ er _ f3 _ hf3 hx _=>⟨⟨w1,hrk,fA1.1⟩,fun o5 _ n5 _ k5 _ ho5 hn5 hk5=>⟨⟨hf3,qR.seg fA1 w1 hrk ho5 hn5,fA1.1.2.2.2.2.2.2.2,by rw [hx]; exact (qcM hcell.1 hcell.2).1,by rw [hx]; exact (qcM hcell.1 hcell.2).2⟩,fun f4 _ da2 _ hf4 hl4 hb4 hA4=>⟨⟨w1,hrk,fB1.1⟩,fun o6 _ n6 _ k6 _ ho6 hn6 hk6=>⟨⟨hf4,qR.seg fB1 w1 hrk ho6 hn6,fB1.1.2.2.2.2.2.2.2,by rw [hx]; exact (qcM hcell.1 hcell.2).1,by rw [hx]; exact (qcM hcell.1 hcell.2).2⟩,fun f5 _ db2 _ hf5 hl5 hb5 hB5=>⟨⟨qdc.start hP' hp hz hsw rfl rfl hx hA4 hB5 ho5 hn5 ho6 hn6 hl4 hl5 hb4 hb5 hf5,hcc⟩,?_⟩⟩⟩⟩⟩⟩
   intro rk2 _ c2 _ f6 _ da3 _ db3 _ i _ hQ hc2
   refine ⟨fun hi=>?_,fun hi=>?_⟩
   ·have hQ':=hQ
    obtain ⟨⟨hfq,hAq,hBq,v1,v2,v3,v4⟩,q1,q2,q3,q4,_⟩:=hQ'
    have hlq:=hAq.2
    obtain ⟨z0,z1,z2,z3⟩:=idx (i:=i.i) a2 a4 q3 hi v3 q2
    rw [z0,add64 (by omega) (by omega)]
    have hcq:=qd8 hAq.1.2.2.2.2.2.2.2 (i:=i.i * (ρ 3).i + c2.i) z1 (by omega)
    refine ⟨z1,by omega,by omega,fun hne=>⟨⟨q3,hi,hAq.1⟩,fun r1 _ r2 _ r3 _ hr1 hr2 hr3=>⟨⟨v1,q1,hAq.1⟩,fun t1 _ t2 _ t3 _ ht1 ht2 ht3=>⟨⟨hfq,qR.seg hAq q3 hi hr1 hr2,qR.seg hAq v1 q1 ht1 ht2,by omega,by rw [hr1,hr2,ht1,ht2]; exact qjK hne a3,hAq.1.2.2.2.2.2.2.2,hcq⟩,fun f7 _ da4 _ hf7 hl7 hb7 hA7=>⟨⟨q3,hi,hBq.1⟩,fun r4 _ r5 _ r6 _ hr4 hr5 hr6=>⟨⟨v1,q1,hBq.1⟩,fun t4 _ t5 _ t6 _ ht4 ht5 ht6=>⟨⟨hf7,qR.seg hBq q3 hi hr4 hr5,qR.seg hBq v1 q1 ht4 ht5,by omega,by rw [hr4,hr5,ht4,ht5]; exact qjK hne d3,hBq.1.2.2.2.2.2.2.2,hcq⟩,fun f8 _ db4 _ hf8 hl8 hb8 hB8=>⟨⟨qdc.next hQ hi hne hA7 hB8 hr1 ht1 ht2 hr4 ht4 ht5 hl7 hl8 hb7 hb8 hf8,hc2⟩,by omega⟩⟩⟩⟩⟩⟩⟩,fun hieq=>⟨⟨qdc.same hQ hi hieq,hc2⟩,by omega⟩⟩
   ·have hQ':=hQ
    obtain ⟨⟨hfq,hAq,hBq,v1,v2,v3,v4⟩,q1,q2,q3,q4,_⟩:=hQ'
    rw [add64 (by omega) (by omega),add64 (by omega) (by omega)]
    exact ⟨qcF.after hQ (by omega),by omega⟩
 ·rw [add64 (by omega) (by omega)]
  exact ⟨qcF.skip hP' he,by omega⟩
end Go.Proofs

set_option linter.unusedSimpArgs false
set_option linter.unusedVariables false
namespace Go.Proofs
open Go Go.Eng
theorem q3e:qjD.ok Tryz.prog:=Ctr.ok_less qzM rfl rfl rfl rfl rfl (fun _ _=>trivial) fun ρ ρ' ai al hp hag hal hpost=>by
 match ai,hal with
 | 0,hal =>
  exfalso
  obtain rfl:=Option.some.inj hal
  have h2:((ρ'.upto 1) 0).i < 1∨255 < ((ρ'.upto 1) 0).i:=hpost
  have e:(ρ'.upto 1) 0 = ρ 0:=by rw [Env.upto,if_pos (by omega)]; exact hag 0 (by decide)
  rw [e] at h2
  have h3:1 <= (ρ 0).i/\(ρ 0).i <= 255:=hp
  omega
 | 1,hal=>exact ⟨0,hal⟩
 | n + 2,hal=>cases hal
theorem qyD:qig.ok Tryz.prog:=Ctr.ok_less qxI rfl rfl rfl rfl rfl (fun _ h=>h.1) fun ρ ρ' ai al hp hag hal hpost=>by
 match ai,hal with
 | 0,hal =>
  exfalso
  obtain rfl:=Option.some.inj hal
  have h2:qcQ ((ρ'.upto 5) 2).i ((ρ'.upto 5) 3).i:=hpost.2
  have e2:(ρ'.upto 5) 2 = ρ 2:=by rw [Env.upto,if_pos (by omega)]; exact hag 2 (by decide)
  have e3:(ρ'.upto 5) 3 = ρ 3:=by rw [Env.upto,if_pos (by omega)]; exact hag 3 (by decide)
  rw [e2,e3] at h2
  exact hp.2 h2
 | 1,hal=>exact ⟨0,hal⟩
 | n + 2,hal=>cases hal
theorem q24:qj6.ok Tryz.prog:=by
 refine ⟨qp0.1,fun ρ w hF hO hg hd hsub hst hro hpre=>(qp0.2 ρ w hF hO hg hd hsub hst hro hpre).mono fun e w' hq=>?_⟩
 obtain ⟨ai,al,ρ',hal,hg',hag,he,hpost,hheap⟩:=hq
 match ai,hal with
 | 0,hal =>
  obtain rfl:=Option.some.inj hal
  refine ⟨0,_,ρ',rfl,hg',hag,he,⟨hpost,?_⟩,hheap⟩
  obtain ⟨hO',hd',⟨h1,h2,hdj,hu,hden,_⟩,hsub',hwi'⟩:=hheap
  show (((ρ'.upto 10) 9).d.length:Int) <= ((ρ'.upto 10) 8).i
  rw [show (ρ'.upto 10) 9 = ρ' 9 from rfl,show (ρ'.upto 10) 8 = ρ' 8 from rfl]
  rcases hden with ⟨_,hn,hc⟩ | ⟨b,c,g1,g2,g3,g4,g5⟩
  ·have hn:(ρ' 9).d = []:=hn
   have hc:(ρ' 8).i = 0:=hc
   rw [hn,hc]; simp
  ·exact g4
 | n + 1,hal=>cases hal
theorem q1X {d:qe} {n:Nat} (h:qz d):qz (d.take n):=fun r hr=>h r (List.mem_of_mem_take hr)
theorem q7a {d:qe} {n:Nat}:bI (d.take n) = (bI d).take n:=by simp [bI,List.map_take]
theorem qtW:qbM.ok Tryz.prog:=qvD (by simp [qpC,q3e,q24,q1H]) fun ρ hg hp=>by
 obtain ⟨hf,l0,l1,l2,hB⟩:=hp
 have hne:=(qck hf).1
 simp [qjn,qbM,qbu,qjD,qd2,qj6,qeq,qdJ]
 refine ⟨fun h=>(hne h).elim,fun _=>⟨l0,fun v _ hv=>⟨fun hb=>⟨hf,fun h=>?_⟩,fun hb=>⟨fun h=>⟨hf,hv.1 hb,h⟩,fun hrc=>?_⟩⟩⟩⟩
 ·have:=hv.2 h
  rw [hb] at this; cases this
 obtain ⟨r1,r2,c1,c2,hl⟩:=hv.1 hb
 have vA:qbm (ρ 2).i (ρ 3).i (ρ 5).i:=hv.1 hb
 have hbd:=qap (x:=(ρ 2).i) (y:=(ρ 3).i) (by omega) r2 (by omega) c2
 refine ⟨⟨r1,r2⟩,fun l _ cp _ d _ _ _ hM hL hI=>⟨⟨l0,l2,by unfold Go.Eng.big; omega⟩,fun cc _ dd _ hdd hcap=>?_⟩⟩
 have hlen:dd.d.length = (ρ 5).i.toNat:=by rw [hdd,List.length_take]; omega
 refine ⟨⟨hf,⟨⟨by omega,r2,by omega,c2,hl,by omega,by omega,by rw [hdd]; exact q1X hB⟩,by omega⟩,hM,hL⟩,fun rk _ f2 _ d2 _ b2 _ hf2 hA2 hB2 k0 k1 he=>?_⟩
 have hE:qch (ρ 2).i.toNat (ρ 3).i.toNat (ρ 2).i.toNat (bI dd.d) (bI d.d) (ρ 3).i.toNat = qeE ((bI (ρ 7).d).take (ρ 5).i.toNat) (ρ 2).i.toNat:=by
  rw [qeE,hdd,q7a,hI,hrc]
 rw [hE] at he
 rw [<- he]
 exact ⟨fun h=>⟨hf2,vA,hrc,by simp only; omega⟩,fun h=>⟨hf2,vA,hrc,hB2,by simp only; omega,rfl⟩⟩
theorem qky {k t:Int}:qaF k t = true↔1 <= k/\k <= t/\t <= 255:=by simp [qaF,and_assoc]
theorem q57:qfX.ok Tryz.prog:=q4E (by simp [qp8,qyD,qtW,q3j]) fun ρ hg hp=>by
 have hf:qw (ρ 1).d:=hp
 have hne:=(qck hf).1
 simp [qr6,qfX,qbq,qig,qcK,qbM,qdF]
 intro u0 _
 refine ⟨fun h=>(hne h).elim,fun _ u1 _ hs=>⟨fun hb=>⟨hf,fun h=>?_⟩,fun hb=>?_⟩⟩
 ·rw [h] at hs; rw [hb] at hs; cases hs
 have hsz:qaF (ρ 2).i (ρ 3).i = true:=by rw [<- hs]; exact hb
 obtain ⟨k1,k2,k3⟩:=qky.1 hsz
 have hvb:¬ qcQ (ρ 3).i (ρ 2).i:=by unfold qcQ; omega
 have hkk:=qap (x:=(ρ 2).i) (y:=(ρ 2).i) (by omega) (show (ρ 2).i <= 255 by omega) (by omega) (show (ρ 2).i <= 255 by omega)
 have hlek:(ρ 2).i * (ρ 2).i <= (ρ 3).i * (ρ 2).i:=Int.mul_le_mul_of_nonneg_right k2 (by omega)
 refine ⟨⟨hf,hvb⟩,fun u2 _ l _ cp _ f1 _ d _ hf1 _ hM hL hV u7 _ hcap=>?_⟩
 obtain ⟨a1,a2,a3,a4,a5,a6,a7,a8⟩:=hM
 have vV:qbm (ρ 3).i (ρ 2).i l.i:=⟨by omega,by omega,by omega,by omega,a5⟩
 rw [qc4 (by omega) (by omega)]
 have hkn:((ρ 2).i * (ρ 2).i).toNat = (ρ 2).i.toNat * (ρ 2).i.toNat:=Int.toNat_mul (by omega) (by omega)
 have hTop:qeE ((bI d.d).take ((ρ 2).i * (ρ 2).i).toNat) (ρ 2).i.toNat = qcq (ρ 2).i.toNat (ρ 3).i.toNat:=by rw [qcq,hV,hkn]
 rw [hTop]
 have vT:qbm (ρ 2).i (ρ 2).i ((ρ 2).i * (ρ 2).i):=⟨by omega,by omega,by omega,by omega,rfl⟩
 have hno:¬ qbm 0 0 0:=by unfold qbm; omega
 refine ⟨by omega,by omega,hkk.1,by omega,fun u8 _=>⟨⟨hf1,hkk.1,by omega,by omega,a8⟩,fun e _ f2 _ hf2 hor u11 _=>⟨⟨hf2,by omega,by omega,by omega,a8,fun r hr=>by cases hr⟩,fun f3 _ hf3 _=>⟨hf3,fun _=>?_⟩,fun _ _ _ _ h=>(hno h).elim,?_⟩,?_⟩⟩
 ·rcases hor with ⟨h,_⟩ | ⟨_,h,_⟩
  ·exact (h vT).elim
  ·exact h
 ·intro _ _ _ _ _ _ _ _ _ _ _ _ h
  exact (hno h).elim
 ·intro u9 _ li _ ci _ f4 _ di _ hf4 _ hMi hrk hInv u14 _
  obtain ⟨⟨b1,b2,b3,b4,b5,b6,b7,b8⟩,b9⟩:=hMi
  have vI:qbm (ρ 2).i (ρ 2).i li.i:=⟨by omega,by omega,by omega,by omega,b5⟩
  refine ⟨⟨hf4,by omega,by omega,by omega,a8,by omega,b6,by omega,b8⟩,fun f5 _ hf5 h=>(h vV vI).elim,?_⟩
  intro u15 _ lp _ cq _ f6 _ dp _ hf6 _ _ hMp hLp hP u20 _ _
  refine ⟨hf6,hsz,⟨hMp,hLp⟩,hrk,?_⟩
  rw [hP,hInv,qdk,hV,List.take_of_length_le (by rw [qb0,qpm,a5,Int.toNat_mul (by omega) (by omega)]; exact Nat.le_refl _),List.take_of_length_le (by rw [<- hInv,bI_len]; omega)]
end Go.Proofs

set_option linter.unusedSimpArgs false
set_option linter.unusedVariables false
set_option maxRecDepth 100000
namespace Go.Proofs
open Go Go.Eng

@[simp] def qmi:Sg:=sg 0 [bv 13 45,bv 12 55,bv 7 59,bv 6 60,bv 1 50,bt 14 (.icell (.var 54) (.plus (.var 61) (.var 64)) 0),bt 11 (.minus (.var 45) (.arith .mul .i64 (.var 64) (.var 42))),bt 10 (.minus (.arith .mul .i64 (.arith .add .i64 (.var 64) (.lit 1)) (.var 42)) (.arith .mul .i64 (.var 64) (.var 42))),bt 9 (.ife (.var 45) (.arith .mul .i64 (.var 64) (.var 42)) (.lit 0) (.arith .mul .i64 (.var 64) (.var 42))),bg 8 43,bv 5 59,bv 4 42,bt 3 (.lit 0),bg 2 58,bg 0 0]
def qkG:Out:=(.br (.and (.cmp .eql (.dlen (.var 1)) (.lit 0)) (.isnil 0))
 (.ret 0 (sg 9 [bv 10 1,bt 9 (.lit 1)]))
 (.pre 0 (sg 0 [bv 1 3,bv 0 2]) (.both (.fresh 9 (.post 0 0 (sg 0 [bv 1 3,bv 0 2]) 9 (.br (.not (.var 9))
 (.ret 0 (sg 9 [bv 10 1,bt 9 (.lit 2)]))
 (.need (.cmp .leq (.lit 0) (.var 5)) (.br (.cmp .gtr (.var 5) (.lit 8192))
 (.ret 0 (sg 9 [bv 10 1,bt 9 (.lit 3)]))
 (.pre 1 (sg 0 [bv 1 5,bv 0 2]) (.both (.fresh 10 (.fresh 11 (.post 1 0 (sg 0 [bv 1 5,bv 0 2]) 10 (.need (.cmp .leq (.lit 0) (.arith .mul .i64 (.var 2) (.var 10))) (.need (.cmp .leq (.tims (.lit 1) (.arith .mul .i64 (.var 2) (.var 10))) (.lit 281474976710656)) (.fresh 12 (.need (.cmp .leq (.arith .mul .i64 (.var 2) (.var 10)) (.dlen (.drep (.arith .mul .i64 (.var 2) (.var 10)) (.rcons (.vint .u8 (.lit 0)) .rnil)))) (.need (.cmp .leq (.var 5) (.dlen (.var 7))) (.fresh 13 (.pre 2 (sg 0 [bv 1 1,bv 3 3,bv 2 2,bg 0 0]) (.both (.fresh 14 (.fresh 15 (.fresh 16 (.fresh 17 (.fresh 18 (.fresh 19 (.post 2 0 (sg 0 [bv 1 1,bv 3 3,bv 2 2,bg 0 0]) 14 (.fresh 20 (.need (.cmp .leq (.lit 0) (.var 3)) (.need (.cmp .leq (.tims (.lit 32) (.var 3)) (.lit 281474976710656)) (.fresh 21 (.inv 0 22 (sg 1000 [bg 1015 19,bt 1014 (.drep (.var 3) (.rcons (.vint .i64 (.lit 0)) (.rcons .vnils .rnil))),bt 1013 (.c3 .dsplice (.drep (.arith .mul .i64 (.var 2) (.var 10)) (.rcons (.vint .u8 (.lit 0)) .rnil)) (.lit 0) (.dtake (.dtake (.var 7) (.var 5)) (.imin (.arith .mul .i64 (.var 2) (.var 10)) (.var 5)))),bv 1012 18,bv 1011 16,bv 1010 15,bg 1009 14,bv 1008 17,bt 1007 (.lit 0),bv 1006 3,bg 1005 21,bg 1004 20,bt 1003 (.arith .mul .i64 (.var 2) (.var 10)),bt 1002 (.arith .mul .i64 (.var 2) (.var 10)),bg 1001 12,bv 1000 10]) (.fresh 22 (.fresh 23 (.fresh 24 (.fresh 25 (.fresh 26 (.fresh 27 (.fresh 28 (.fresh 29 (.fresh 30 (.fresh 31 (.fresh 32 (.fresh 33 (.fresh 34 (.fresh 35 (.fresh 36 (.fresh 37 (.hyp 0 22 (.br (.cmp .lss (.var 29) (.var 3))
 (.need (.cmp .leq (.lit 0) (.var 22)) (.need (.cmp .leq (.tims (.lit 1) (.var 22)) (.lit 281474976710656)) (.fresh 38 (.pre 3 (sg 0 [bv 6 33,bv 5 34,bv 7 29,bv 4 33,bv 3 32,bg 2 31,bv 1 2,bv 0 3]) (.both (.fresh 39 (.fresh 40 (.fresh 41 (.post 3 0 (sg 0 [bv 6 33,bv 5 34,bv 7 29,bv 4 33,bv 3 32,bg 2 31,bv 1 2,bv 0 3]) 39 (.need (.cmp .leq (.lit 0) (.var 40)) (.inv 1 42 (sg 1000 [bg 1015 37,bt 1018 (.drep (.var 22) (.rcons (.vint .u8 (.lit 0)) .rnil)),bv 1014 36,bv 1013 35,bv 1012 34,bv 1011 33,bv 1010 32,bv 1008 30,bt 1022 (.lit 0),bv 1021 41,bv 1020 40,bv 1019 39,bg 1009 31,bv 1017 22,bg 1016 38,bv 1007 29,bv 1006 28,bg 1005 27,bg 1004 26,bv 1003 25,bv 1002 24,bg 1001 23,bv 1000 22]) (.fresh 42 (.fresh 43 (.fresh 44 (.fresh 45 (.fresh 46 (.fresh 47 (.fresh 48 (.fresh 49 (.fresh 50 (.fresh 51 (.fresh 52 (.fresh 53 (.fresh 54 (.fresh 55 (.fresh 56 (.fresh 57 (.fresh 58 (.fresh 59 (.fresh 60 (.fresh 61 (.fresh 62 (.fresh 63 (.fresh 64 (.hyp 1 42 (.br (.cmp .lss (.var 64) (.var 62))
 (.need (.cmp .leq (.lit 0) (.var 64)) (.need (.cmp .leq (.lit 0) (.var 61)) (.need (.cmp .leq (.lit 0) (.plus (.var 61) (.var 64))) (.need (.cmp .lss (.plus (.var 61) (.var 64)) (.dlen (.var 54))) (.know (.cmp .leq (.dlen (.var 55)) (.var 45)) (.need (.cmp .leq (.lit 0) (.var 44)) (.need (.cmp .leq (.lit 0) (.var 45)) (.need (.cmp .leq (.lit 0) (.arith .mul .i64 (.var 64) (.var 42))) (.need (.cmp .leq (.arith .mul .i64 (.var 64) (.var 42)) (.arith .mul .i64 (.arith .add .i64 (.var 64) (.lit 1)) (.var 42))) (.need (.cmp .leq (.arith .mul .i64 (.arith .add .i64 (.var 64) (.lit 1)) (.var 42)) (.var 45)) (.pre 4 qmi (.both (.fresh 65 (.fresh 66 (.post 4 0 qmi 65 (.back 1 42 (sg 1000 [bg 1015 57,bv 1018 66,bv 1014 56,bv 1013 55,bv 1012 54,bv 1011 53,bv 1010 52,bv 1008 65,bt 1022 (.arith .add .i64 (.var 64) (.lit 1)),bv 1021 63,bv 1020 62,bv 1019 61,bg 1009 51,bv 1017 59,bg 1016 58,bv 1007 49,bv 1006 48,bg 1005 47,bg 1004 46,bv 1003 45,bv 1002 44,bg 1001 43,bv 1000 42]))))) .top))))))))))))
 (.need (.cmp .leq (.lit 0) (.var 49)) (.need (.cmp .lss (.var 49) (.var 3)) (.need (.cmp .lss (.var 49) (.dlen (.var 56))) (.pack [.arr 58 5 [CK.int .u8] (.var 60) (.var 59),.abs 57 2] 65 (.back 0 22 (sg 1000 [bg 1015 65,bt 1014 (.dput (.var 56) (.var 49) 0 (.rcons (.vint .i64 (.var 49)) (.rcons (.vslice 58 (.lit 0) (.var 42) (.var 59) 1) .rnil))),bv 1013 55,bv 1012 54,bv 1011 53,bv 1010 52,bg 1009 51,bv 1008 50,bt 1007 (.arith .add .i64 (.var 49) (.lit 1)),bv 1006 48,bg 1005 47,bg 1004 46,bv 1003 45,bv 1002 44,bg 1001 43,bv 1000 42]))))))))))))))))))))))))))))))))))))) .top)))))
 (.pack [.cells 26 200 [(.vint .i64 (.var 3)),(.vint .i64 (.var 2)),(.vslice 31 (.lit 0) (.var 32) (.var 33) 1)],.arr 31 5 [CK.int .u8] (.var 34) (.var 33),.arr 23 5 [CK.int .u8] (.var 35) (.var 25),.abs 37 2] 38 (.ret 1 (sg 9 [bg 13 38,bv 12 36,bv 11 30,bv 10 28,bg 9 27]))))))))))))))))))))))))))))))))) .top))))))))))) .top))))))) .top)))
theorem qtk:qk ⟨Tryz.prog,qcj,[qbq,qby,qpX,qb5,qb4],[qlP,qmm]⟩ 100000 Tryz.f87 = qkG:=by kernel_rfl
theorem qxu (hd:∀ c ∈ ([qbq,qby,qpX,qb5,qb4]:List Ctr),c.ok Tryz.prog) (h:∀ ρ:Env,ρ.good->(qcj).pre ρ->qkG.den ⟨Tryz.prog,qcj,[qbq,qby,qpX,qb5,qb4],[qlP,qmm]⟩ ρ):(qcj).ok Tryz.prog :=
 qf Tryz.func87 (fun a w=>Tryz.call87 a w) hd 100000 (fun ρ hg hp=>by rw [qtk]; exact h ρ hg hp)
end Go.Proofs

set_option linter.unusedSimpArgs false
set_option linter.unusedVariables false
namespace Go.Proofs
open Go Go.Eng

theorem q6U:qpX.ok Tryz.prog:=Ctr.ok_less q57 rfl rfl rfl rfl rfl (fun _ h=>h.1) fun ρ ρ' ai al hp hag hal hpost=>by
 match ai,hal with
 | 0,hal =>
  exfalso
  obtain rfl:=Option.some.inj hal
  obtain ⟨_,h2⟩:_/\(qaF ((ρ'.upto 5) 2).i ((ρ'.upto 5) 3).i = true->(qcq ((ρ'.upto 5) 2).i.toNat ((ρ'.upto 5) 3).i.toNat).2.2 < ((ρ'.upto 5) 2).i.toNat):=hpost
  have e2:(ρ'.upto 5) 2 = ρ 2:=by rw [Env.upto,if_pos (by omega)]; exact hag 2 (by decide)
  have e3:(ρ'.upto 5) 3 = ρ 3:=by rw [Env.upto,if_pos (by omega)]; exact hag 3 (by decide)
  rw [e2,e3] at h2
  obtain ⟨_,p2,p3⟩:=hp
  have:=h2 p2
  omega
 | 1,hal=>exact ⟨0,hal⟩
 | n + 2,hal=>cases hal
theorem qnk {k n:Nat} (hk:0 < k):n <= k * qG k n:=by
 unfold qG
 have h1:=Nat.div_add_mod (n + k - 1) k
 have h2:=Nat.mod_lt (n + k - 1) hk
 omega
theorem qmY {k n:Nat} (hk:0 < k):k * qG k n < n + k:=by
 unfold qG
 have h1:=Nat.div_add_mod (n + k - 1) k
 omega
theorem qn4 {k n:Nat} (hk:0 < k):qG k n <= n:=by
 have h:=qmY (n:=n) hk
 by_cases h2:qG k n <= n
 ·exact h2
 ·have h3:k * (n + 1) <= k * qG k n:=Nat.mul_le_mul_left k (by omega)
  rw [Nat.mul_add,Nat.mul_one] at h3
  have h4:n * 1 <= k * n:=by rw [Nat.mul_comm k n]; exact Nat.mul_le_mul_left n hk
  omega
theorem qtf {k:Int} {n:Nat} (hk:1 <= k):((n:Int) + k - 1).tdiv k = (qG k.toNat n:Nat):=by
 rw [Int.tdiv_eq_ediv_of_nonneg (by omega),qG,Int.natCast_ediv]
 congr 1 <;> omega
theorem q2u {d x:qe} (h:x.length <= d.length):bI (qbA d 0 x) = bI x ++ (bI d).drop x.length:=by
 simp [qbA,bI,List.map_drop]
theorem qxa {d x:qe} (hd:qz d) (hx:qz x):qz (qbA d 0 x):=fun r hr=>by
 unfold qbA at hr
 rcases List.mem_append.1 hr with hr | hr
 ·rcases List.mem_append.1 hr with hr | hr
  ·simp at hr
  ·exact hx r hr
 ·exact hd r (List.mem_of_mem_drop hr)
theorem q2J {k total len lg cg:Int} {f dg data D:qe} (hf:qw f) (hs:qaF k total = true) (h1:len <= 8192) (h2:len = data.length) (hB:qz data) (hM:qR total k lg cg dg) (hG:bI dg = qdk k.toNat total.toNat) (hD:D = List.replicate total.toNat [.int .i64 0,.slice none 0 0]) :
  qnO k total len (qG k.toNat data.length:Nat) (k * (qG k.toNat data.length:Nat)) (k * (qG k.toNat data.length:Nat)) lg cg 0 f dg (qbA (List.replicate (k * (qG k.toNat data.length:Nat)).toNat [.int .u8 0]) 0 data) D data:=by
 obtain ⟨k1,k2,k3⟩:=qky.1 hs
 have hge:=qnk (k:=k.toNat) (n:=data.length) (by omega)
 have hle:=qn4 (k:=k.toNat) (n:=data.length) (by omega)
 have hc:(k * (qG k.toNat data.length:Nat)).toNat = k.toNat * qG k.toNat data.length:=by rw [Int.toNat_mul (by omega) (by omega)]; simp
 have hc0:0 <= k * (qG k.toNat data.length:Nat):=Int.mul_nonneg (by omega) (by omega)
 refine ⟨hf,hs,h1,h2,hB,rfl,by omega,rfl,?_,qxa qia hB,?_,hM,hG,by rw [hD,List.length_replicate],fun row hr=>by rw [hD] at hr; rw [List.eq_of_mem_replicate hr]; rfl,by omega,by omega⟩
 ·rw [qn8 (by rw [List.length_replicate]; omega),List.length_replicate]; omega
 ·rw [q2u (by rw [List.length_replicate]; omega),qlj,hc,qi9,bI_len,List.drop_replicate]; simp
theorem q15 {k total len l lf cf lg cg i:Int} {f dg df D data:qe} {v w:Value} (h:qnO k total len l lf cf lg cg i f dg df D data) (hi:i < total):qnO k total len l lf cf lg cg (i + 1) f dg df (qcd D i 0 [v,w]) data:=by
 obtain ⟨a1,a2,a3,a4,a5,a6,a7,a8,a9,a10,a11,a12,a13,a14,a17,a15,a16⟩:=h
 refine ⟨a1,a2,a3,a4,a5,a6,a7,a8,a9,a10,a11,a12,a13,by rw [qfl]; exact a14,fun row hr=>?_,by omega,by omega⟩
 unfold qcd at hr
 rcases List.mem_or_eq_of_mem_set hr with hr | rfl
 ·exact a17 row hr
 ·have hl:i.toNat < D.length:=by omega
  have:=a17 _ (List.getElem_mem hl)
  rw [List.getElem?_eq_getElem hl,Option.getD_some,qkW (by rw [this]; simp),this]
theorem q8h {k total len l lf cf lg cg i:Int} {f f' dg df D data:qe} (h:qnO k total len l lf cf lg cg i f dg df D data) (hf:qw f'):qnO k total len l lf cf lg cg i f' dg df D data:=⟨hf,h.2⟩
theorem qk4 {h h':Hp} {D:qe} {n:Nat} {f:Nat->List Int} (he:qgc h D n f) (hl:Hp.le h h'):qgc h' D n f:=fun j hj=>by
 obtain ⟨v,d,e1,e2,e3⟩:=he j hj
 exact ⟨v,d,e1,qjG e2 hl,e3⟩
theorem q0S {h h':Hp} {D:qe} {i:Int} {f:Nat->List Int} {v:Value} {d:qe} (he:qgc h D i.toNat f) (hl:Hp.le h h') (h0:0 <= i) (hi:i.toNat < D.length) (hc:(D[i.toNat]?.getD []).length = 2) (hr:Rd h' kB v d) (hd:bI d = f i.toNat) (hB:qz d) :
  qgc h' (qcd D i 0 [.int .i64 i,v]) (i.toNat + 1) f:=fun j hj=>by
 by_cases hji:j = i.toNat
 ·subst hji
  refine ⟨v,d,?_,hr,hd,hB⟩
  have hs:qa5 (D[i.toNat]?.getD []) 0 [.int .i64 i,v] = [.int .i64 i,v]:=by
   simp only [qa5,List.take_zero,List.nil_append]
   rw [List.drop_eq_nil_of_le (by rw [hc]; exact Nat.le_refl _),List.append_nil]
  rw [qcd,List.getElem?_set_self hi,hs,Int.toNat_of_nonneg h0]
 ·obtain ⟨v',d',e1,e2,e3⟩:=he j (by omega)
  exact ⟨v',d',by rw [qcd,List.getElem?_set_ne (by omega)]; exact e1,qjG e2 hl,e3⟩
set_option maxRecDepth 20000 in
set_option pp.deepTerms true in
set_option pp.maxSteps 1000000 in
theorem qwK:qcj.ok Tryz.prog:=qxu (by simp [qp8,qoT,q6U,qo8,qos]) fun ρ hg hp=>by
 obtain ⟨hf,hl,hB,hrk⟩:=hp
 have hne:=(qck hf).1
 simp (config:={ maxSteps:=4000000 }) [qkG,qcj,qlP,qmm,qbq,qby,qpX,qfX,qb5,qb4]
 refine ⟨fun h=>(hne h).elim,fun _ v _ hv=>⟨fun hb=>⟨hf,by rw [<- hv]; exact hb⟩,fun hb=>?_⟩⟩
 have hsz:qaF (ρ 2).i (ρ 3).i = true:=by rw [<- hv]; exact hb
 obtain ⟨k1,k2,k3⟩:=qky.1 hsz
 refine ⟨by omega,fun h=>⟨hf,hsz,h⟩,fun hle l _ e _ _ hpl=>?_⟩
 have hnb:¬ qfm (ρ 2).i (ρ 5).i:=by unfold qfm; omega
 obtain ⟨hpl1,_⟩:=hpl hnb
 rw [hl,qtf k1] at hpl1
 have hge:=qnk (k:=(ρ 2).i.toNat) (n:=(ρ 7).d.length) (by omega)
 have hlt:=qmY (k:=(ρ 2).i.toNat) (n:=(ρ 7).d.length) (by omega)
 have hkl:(ρ 2).i * l.i = (((ρ 2).i.toNat * qG (ρ 2).i.toNat (ρ 7).d.length:Nat):Int):=by rw [hpl1,Int.natCast_mul,Int.toNat_of_nonneg (by omega)]
 rw [qc4 (by omega) (by omega)]
 have hmax:max ((ρ 2).i * l.i) 0 = (ρ 2).i * l.i:=by omega
 refine ⟨by omega,by omega,fun u3 _=>⟨by omega,by omega,fun u4 _=>⟨⟨hf,hsz,hrk hsz⟩,fun u5 _ lg _ cg _ f1 _ dg _ ab _ hf1 _ hM _ hG u11 _=>⟨by omega,by omega,fun u12 _=>⟨⟨?_,fun j hj=>by omega⟩,?_⟩⟩⟩⟩⟩
 ·have htake:(((ρ 7).d.take (ρ 5).i.toNat).take (if (ρ 5).i < (ρ 2).i * l.i then (ρ 5).i else (ρ 2).i * l.i).toNat) = (ρ 7).d:=by
   rw [List.take_of_length_le (l:=(ρ 7).d) (by omega),List.take_of_length_le (by split <;> omega)]
  rw [htake,hpl1]
  exact q2J hf1 hsz hle hl hB hM hG rfl
 intro l2 _ u14 _ lf _ cf _ u17 _ u18 _ u19 _ i _ f2 _ u22 _ lg2 _ cg2 _ dg2 _ df2 _ D2 _ ab2 _ hW hE
 refine ⟨fun hi=>?_,fun hi u29 _ hst=>?_⟩
 ·have hW':=hW
  obtain ⟨a1,a2,a3,a4,a5,a6,a7,a8,a9,a10,a11,a12,a13,a14,a17,a15,a16⟩:=hW'
  refine ⟨by omega,by omega,fun u29 _=>⟨⟨a15,hi,a12.1⟩,fun o _ n _ c _ ho hn hc=>⟨by omega,⟨hW,hE,hi,ho,hn,by omega,qia,?_⟩,?_⟩⟩⟩
  ·rw [qlj]; rfl
  intro l3 _ u34 _ lf3 _ cf3 _ u37 _ u38 _ u39 _ i3 _ f3 _ u42 _ lg3 _ cg3 _ dg3 _ df3 _ D3 _ ab3 _ rp _ cp _ pd _ o3 _ n3 _ c3 _ j _ hW3 hE3 hii hi3 ho3 hn3 j0 j1 hpl hpB hp3
  have hW3':=hW3
  obtain ⟨b1,b2,b3,b4,b5,b6,b7,b8,b9,b10,b11,b12,b13,b14,b17,b15,b16⟩:=hW3'
  obtain ⟨⟨m1,m2,m3,m4,m5,m6,m7,m8⟩,m9⟩:=b12
  have hl0:0 <= l3.i:=by omega
  refine ⟨fun hj=>?_,fun hj=>?_⟩
  ·have hjk:j.i < (ρ 2).i:=by omega
   have hbo:=qap (x:=i3.i) (y:=(ρ 2).i) b15 (show i3.i <= 255 by omega) (by omega) (show (ρ 2).i <= 255 by omega)
   have hbj:=qap (x:=j.i) (y:=l3.i) j0 (show j.i <= 255 by omega) hl0 b7
   have hltG:i3.i * (ρ 2).i + j.i < (ρ 3).i * (ρ 2).i:=by
    have:=Int.mul_le_mul_of_nonneg_right (show i3.i + 1 <= (ρ 3).i by omega) (show 0 <= (ρ 2).i by omega)
    rw [Int.add_mul,Int.one_mul] at this; omega
   have he:(j.i + 1) * l3.i = j.i * l3.i + l3.i:=by rw [Int.add_mul,Int.one_mul]
   have hltF:j.i * l3.i + l3.i <= (ρ 2).i * l3.i:=by
    have:=Int.mul_le_mul_of_nonneg_right (show j.i + 1 <= (ρ 2).i by omega) hl0
    omega
   have hcell:=qd8 m8 (i:=o3.i + j.i) (by omega) (by omega)
   rw [add64 (by omega) (by omega),qc4 (by omega) (by omega),qc4 (by omega) (by omega),he]
   refine ⟨j0,by omega,by omega,by omega,fun hcap=>⟨by omega,by omega,hbj.1,by omega,by omega,⟨b1,⟨by omega,hl0,by omega,by unfold Go.Eng.big; omega⟩,⟨by split <;> omega,by omega,by split <;> omega,by unfold Go.Eng.big; omega⟩,by omega,hpB,b10,hcell⟩,fun f4 _ d4 _ hf4 hl4 hB4 he4=>?_⟩⟩
   refine ⟨⟨q8h hW3 hf4,hE3,hii,hi3,ho3,hn3,by omega,by omega,by omega,hB4,?_⟩,by omega⟩
   have hsg:seg (bI df3.d) (if cf3.i = j.i * l3.i then 0 else j.i * l3.i).toNat (j.i * l3.i + l3.i - j.i * l3.i).toNat = seg (bI df3.d) (j.i.toNat * l3.i.toNat) l3.i.toNat:=by
    rw [show j.i * l3.i + l3.i - j.i * l3.i = l3.i by omega]
    split
    ·have:l3.i.toNat = 0:=by omega
     rw [this]; simp [seg]
    ·rw [Int.toNat_mul j0 hl0]
   have hgd:(bI dg3.d).getD (i3.i.toNat * (ρ 2).i.toNat + j.i.toNat) 0 = qg dg3.d (o3.i + j.i) 0:=by
    have:=qfH (d:=dg3.d) (i:=o3.i + j.i) (by omega) (by omega)
    rw [show (o3.i + j.i).toNat = i3.i.toNat * (ρ 2).i.toNat + j.i.toNat by rw [ho3,Int.toNat_add hbo.1 j0,Int.toNat_mul b15 (by omega)]] at this
    rw [List.getD_eq_getElem?_getD,this]; rfl
   rw [he4,hp3,hsg,show (j.i + 1).toNat = j.i.toNat + 1 by omega,qcy,hgd]
  ·have hjk:j.i = (ρ 2).i:=by omega
   refine ⟨b15,hi3,by omega,fun u56 _ hst=>?_⟩
   rw [add64 (by omega) (by omega)]
   refine ⟨⟨q15 hW3 hi3,?_⟩,by omega⟩
   obtain ⟨ha,la,da⟩:=qkJ hst (List.mem_cons_self ..)
   obtain ⟨hb,lb,db⟩:=qcu hst (n:=57) (t:=2) (by simp)
   have hr:=q3p (n:=l3.i.toNat) (k:=cp.i.toNat) da la (by simp; omega) (by simp)
   have hr:Rd u56.h kB (.slice (qm rp.r 0) l3.i.toNat cp.i.toNat) pd.d:=by simpa [kB] using hr
   have hdl:i3.i.toNat < D3.d.length:=by omega
   rw [show (i3.i + 1).toNat = i3.i.toNat + 1 by omega]
   refine q0S hE3 (Hp.le_trans (by simpa using db) lb) b15 hdl (by rw [List.getElem?_eq_getElem hdl]; exact b17 _ (List.getElem_mem hdl)) hr ?_ hpB
   rw [hp3,qdS,hjk,b13,b11,bI_len]
   rw [show l3.i.toNat = qG (ρ 2).i.toNat (ρ 7).d.length by omega]
 ·obtain ⟨a1,a2,a3,a4,a5,a6,a7,a8,a9,a10,a11,a12,a13,a14,a17,a15,a16⟩:=hW
  obtain ⟨hb,lb,db⟩:=qcu hst (n:=37) (t:=2) (by simp)
  refine ⟨a1,hsz,hle,a14,?_⟩
  rw [show i.i.toNat = (ρ 3).i.toNat by omega] at hE
  exact qk4 hE (Hp.le_trans (by simpa using db) lb)
end Go.Proofs

set_option linter.unusedSimpArgs false
set_option linter.unusedVariables false
namespace Go.Proofs
open Go Go.Eng

end Go.Proofs

set_option linter.unusedSimpArgs false
set_option linter.unusedVariables false
namespace Go.Proofs
open Go Go.Eng
theorem qsl:qca.ok Tryz.prog:=q2P (by simp) fun ρ hg hp=>by
 simp [qnT,qca]
 refine ⟨fun h1=>⟨fun h2=>⟨fun h3=>?_,fun h3=>?_⟩,fun h2=>?_⟩,fun h1=>?_⟩
 ·simp [qbv,h1,h2,h3,qK]
 ·simp [qbv]; omega
 ·simp [qbv]; omega
 ·simp [qbv]; omega
set_option maxRecDepth 20000 in
theorem qs1:qbX.ok Tryz.prog:=q3l (by simp [qsl]) fun ρ hg hp=>by
 have hp:0 <= (ρ 6).i:=hp
 simp [qnZ,qbX,qca,qJ,qok,qjo,qaz]
 refine fun u _ hu=>⟨fun h hs=>by (rw [hu,hs] at h; cases h),fun h=>⟨fun a _ b=>by omega,fun a=>⟨fun b _ _ c=>by omega,fun b=>⟨hp,fun c _ _ _=>c,fun c=>⟨by rw [<- hu,h],a,b,c⟩⟩⟩⟩⟩
theorem q9Q {x:Int}:qc .shr .i64 x 8 = x.fdiv 256:=rfl
set_option maxRecDepth 20000 in
theorem qqm:qbp.ok Tryz.prog:=qyX (by simp [qoS,qt8,q33]) fun ρ hg hp=>by
 obtain ⟨o0,l0,lc,l1,hle,hB,hGr,hGd⟩:=hp
 simp (config:={ maxSteps:=2000000 }) [qlH,qbp,qbt,qc8,qgb,gOk]
 have hseg:qaH [[.int .u8 (IntKind.u8.wrap (qc .shr .i64 (ρ 0).i 8))],[.int .u8 (IntKind.u8.wrap (ρ 0).i)]] 0 2 = qcn (ρ 0).i:=by
  rw [q9Q,qgW,qgW]; rfl
 refine fun h _ hh=>⟨⟨⟨[],hh,by decide⟩,?_,hGr,hGd⟩,fun g _ hg1=>?_⟩
 ·intro row hr
  simp at hr
  rcases hr with rfl | rfl
  ·simp [qb6,qV,qgW]; omega
  ·simp [qb6,qV,qgW]; omega
 ·rw [hseg] at hg1
  have h1:=hg1 [] hh
  refine ⟨⟨⟨_,h1,by simp [qcn]⟩,o0,l0,lc,by omega,hle,hB,hGr,hGd⟩,fun k _ hk=>⟨⟨⟨_,hk _ h1,?_⟩,hGr,hGd⟩,fun d _ hd=>?_⟩⟩
  ·have:(qaH (ρ 5).d (ρ 2).i (ρ 3).i).length <= (ρ 3).i.toNat:=by simp [qaH]; omega
   simp [qcn]; omega
  ·exact (show qd _ 32 = qd d.d 32 from rfl).trans (hd _ (hk _ h1))
theorem qfn {lim:Int} {b:Bool} {x m s:List Int} (h:(b,x) = qfI lim false m s) (hf:(m.length:Int) + s.length <= lim):b = false/\x = m ++ s:=by
 rw [qkF (by simp [qgC]; omega)] at h
 simpa using h
theorem q8t {x:Int}:IntKind.u16.wrap x = x % 65536:=by simp [IntKind.wrap,IntKind.bits,IntKind.signed]
theorem q7b {d:qe} {i:Nat} (h:i < d.length):qd [qdM (qg d i)] 32 = qhw d[i]:=by
 refine List.map_congr_left fun j hj=>?_
 rw [qiR (List.mem_range.1 hj)]
 simp [qg,qar,qb6,h]
theorem qtK {d:qe} {i:Nat} (h:i < d.length):((dgs d).take (i + 1)).flatten = ((dgs d).take i).flatten ++ qhw d[i]:=by
 rw [List.take_add_one,List.getElem?_eq_getElem (by simpa [dgs] using h)]
 simp [dgs]
set_option maxRecDepth 20000 in
set_option maxHeartbeats 800000 in
theorem q3k:qdG.ok Tryz.prog:=q27 (by simp [qs1,qtF,q94,q8D,q7L,q5r,q5j]) fun ρ hg hp=>by
 obtain ⟨l0,hl,ho,hd⟩:=hp
 simp (config:={ maxSteps:=2000000 }) [qo1,qdG,qrm,qbX,qbF,u8C,qjb,qpk,qg8,qeR,qfd,qcf,qZ,qgA]
 refine ⟨l0,fun e _ he=>⟨fun hne=>?_,fun hz lim _ hlim=>?_⟩⟩
 ·by_cases h:qJ (ρ 0).i (ρ 1).i (ρ 2).i (ρ 3).i (ρ 6).i = true
  ·rw [if_pos h] at he; exact absurd he hne
  ·rw [if_neg h] at he; exact ⟨he.symm,by simpa using h⟩
 ·have hok:qJ (ρ 0).i (ρ 1).i (ρ 2).i (ρ 3).i (ρ 6).i = true:=by
   by_cases h:qJ (ρ 0).i (ρ 1).i (ρ 2).i (ρ 3).i (ρ 6).i = true
   ·exact h
   ·rw [if_neg h] at he; omega
  have hb:=hok
  simp [qJ,qbv] at hb
  obtain ⟨⟨b1,b2,b3,b4⟩,b5,b6,b7⟩:=hb
  have hl2:lim.i = 39 + 32 * (ρ 2).i:=by
   rw [hlim,qc4 (by omega) (by omega),add64 (by omega) (by omega)]; omega
  clear hlim
  simp only [qgW,q8t]
  have hman:List.drop 4 (qd [([.int .i64 (ρ 0).i,.int .i64 (ρ 1).i,.int .i64 (ρ 2).i,.int .i64 (ρ 3).i] ++ (qdM (qa (ρ 4).d) ++ [.slice (qm (ρ 5).r 0) (ρ 6).i.toNat (ρ 7).i.toNat]):List Value)] 36) = qd (ρ 4).d 32:=rfl
  have hone:qD [([.int .i64 (ρ 0).i,.int .i64 (ρ 1).i,.int .i64 (ρ 2).i,.int .i64 (ρ 3).i] ++ (qdM (qa (ρ 4).d) ++ [.slice (qm (ρ 5).r 0) (ρ 6).i.toNat (ρ 7).i.toNat]):List Value)] 37:=⟨_,rfl,by simp [qdM]⟩
  have hlen:∀ {l n c:Int} {d:qe},wOk l n c d->n = ((bI d).length:Int):=fun h=>by rw [bI_len]; exact h.2.2.1
  refine ⟨⟨by omega,by omega,rfl,by omega,by intro r hr; cases hr⟩,fun f1 _ n1 _ c1 _ d1 _ w1 g1=>?_⟩
  obtain ⟨y1,x1⟩:=qfn g1 (by rw [hl2]; simp [bI,qas]; omega)
  have L1:(bI d1.d).length = 2:=by rw [x1]; simp [bI,qas]
  have q1:=hlen w1
  refine ⟨⟨w1,by omega,by omega,by omega⟩,fun f2 _ n2 _ c2 _ d2 _ w2 g2=>?_⟩
  rw [y1] at g2
  obtain ⟨y2,x2⟩:=qfn g2 (by rw [hl2,L1,qas]; omega)
  have L2:(bI d2.d).length = 3:=by rw [x2,List.length_append,L1,qas]
  have q2:=hlen w2
  refine ⟨⟨w2,by omega,by omega,by omega⟩,fun f3 _ n3 _ c3 _ d3 _ w3 g3=>?_⟩
  rw [y2] at g3
  obtain ⟨y3,x3⟩:=qfn g3 (by rw [hl2,L2,qas]; omega)
  have L3:(bI d3.d).length = 4:=by rw [x3,List.length_append,L2,qas]
  have q3:=hlen w3
  refine ⟨⟨w3,by omega,by omega,by omega⟩,fun f4 _ n4 _ c4 _ d4 _ w4 g4=>?_⟩
  rw [y3] at g4
  obtain ⟨y4,x4⟩:=qfn g4 (by rw [hl2,L3,qas]; omega)
  have L4:(bI d4.d).length = 5:=by rw [x4,List.length_append,L3,qas]
  have q4:=hlen w4
  refine ⟨⟨w4,by omega,by omega,by omega⟩,fun f5 _ n5 _ c5 _ d5 _ w5 g5=>?_⟩
  rw [y4] at g5
  obtain ⟨y5,x5⟩:=qfn g5 (by rw [hl2,L4,qas]; omega)
  have L5:(bI d5.d).length = 7:=by rw [x5,List.length_append,L4,qas]
  have q5:=hlen w5
  refine ⟨⟨w5,by omega,hone,?_⟩,fun f6 _ n6 _ c6 _ d6 _ w6 g6=>?_⟩
  ·have:=hman
   exact this ▸ ho
  have g6':(f6.b,bI d6.d) = qfI lim.i f5.b (bI d5.d) (qd (ρ 4).d 32):=g6
  rw [y5] at g6'
  obtain ⟨y6,x6⟩:=qfn g6' (by rw [hl2,L5,qdv]; omega)
  have hhead:bI d6.d = qaO (ρ 0).i (ρ 1).i (ρ 2).i (ρ 3).i (qd (ρ 4).d 32):=by
   rw [x6,x5,x4,x3,x2,x1]
   simp [qaO,bI,List.append_assoc]
  refine ⟨l0,⟨hok,l0,hl2,y6,w6,hhead⟩,fun lim2 _ f _ n _ c _ d _ t _ _ t0 t1 z1 z2 z3 z4=>⟨fun hlt=>?_,fun hge=>?_⟩⟩
  ·obtain ⟨T,hT⟩:∃ T:Nat,t.i = T:=⟨t.i.toNat,by omega⟩
   have m1:qc .add .i64 t.i 1 = ((T + 1:Nat):Int):=by rw [add64 (by omega) (by omega)]; omega
   have hTl:T < (ρ 8).d.length:=by omega
   have hrow:=q7b hTl
   have hnl:n.i = 39 + 32 * t.i:=by
    have h1:=hlen z3
    rw [z4,List.length_append] at h1
    have h2:∀ (k:Nat),k <= (ρ 8).d.length->((dgs (ρ 8).d).take k).flatten.length = 32 * k:=fun k=>by
     induction k with
     | zero=>intro _; simp
     | succ k ih=>intro hk; rw [qtK (by omega),List.length_append,ih (by omega)]; simp [qhw]; omega
    rw [h2 _ (by omega)] at h1
    have h3:(qaO (ρ 0).i (ρ 1).i (ρ 2).i (ρ 3).i (qd (ρ 4).d 32)).length = 39:=by simp [qaO,qas,qdv]
    omega
   rw [hT] at z4 hnl ⊢
   rw [<- hT,m1,hT]
   refine ⟨by omega,by omega,⟨z3,by omega,⟨_,rfl,rfl⟩,?_⟩,fun f7 _ n7 _ c7 _ d7 _ w7 g7=>?_⟩
   ·have h1:qM (qhw (ρ 8).d[T]):=(hd _ (List.getElem_mem hTl)).2
    rw [<- hrow] at h1
    exact h1
   ·have g7':(f7.b,bI d7.d) = qfI lim2.i f.b (bI d.d) (qd [qdM (qg (ρ 8).d T)] 32):=g7
    rw [z2,hrow] at g7'
    have hbl:(qhw (ρ 8).d[T]).length = 32:=by simp [qhw]
    obtain ⟨y7,x7⟩:=qfn g7' (by rw [<- hlen z3,hbl]; omega)
    refine ⟨⟨hok,by omega,by omega,z1,y7,w7,?_⟩,by omega⟩
    rw [x7,z4]
    simp only [Int.toNat_natCast]
    rw [qtK hTl,List.append_assoc]
  ·have ht:t.i.toNat = (ρ 8).d.length:=by omega
   rw [ht] at z4
   rw [List.take_of_length_le (by simp [dgs])] at z4
   refine ⟨⟨z3,?_⟩,z2,fun e _ _ he=>⟨hok,by rw [he]; exact z3.2.2.1,by rw [he]; exact z3.2.2.2.2,by rw [he]; exact z4⟩⟩
   have:=z3.2.2.2.1
   omega
end Go.Proofs

set_option linter.unusedSimpArgs false
set_option linter.unusedVariables false
namespace Go.Proofs
open Go Go.Eng
theorem qed (m:List Int):qM (sha m):=fun x hx=>by
 obtain ⟨j,_,rfl⟩:=List.mem_map.1 hx
 omega
theorem qyP {f:Nat->List Int} {n:Nat}:(qdB f n).length = n:=by simp [qdB]
theorem qoM {g full:List Int} {k l i:Nat}:∀ j,(qcy g full k l i j).length = l
 | 0=>by simp [qcy]
 | j + 1=>by rw [qcy,qcA,qoM j]
theorem q3K {k total:Nat} {data:List Int} {i:Nat}:(qdS k total data i).length = qG k data.length:=qoM k
theorem q3M {d:qe} {r:List Value}:dgs (d ++ [r]) = dgs d ++ [qhw r]:=by simp [dgs]
theorem qwL {f:Nat->List Int} {n:Nat}:qdB f (n + 1) = qdB f n ++ [sha (qcn n ++ f n)]:=by simp [qdB,List.range_succ]
theorem q75 {d:qe}:qhw (qdM (qa d)) = qd d 32:=rfl
set_option maxRecDepth 20000 in
set_option maxHeartbeats 1600000 in
theorem qxQ:qgG.ok Tryz.prog:=qru (by simp [qsl,qwK,qlp,qqm]) fun ρ hg hp=>by
 obtain ⟨hf,hl,hlc,hB,⟨hGr,hGd⟩,htop⟩:=hp
 simp (config:={ maxSteps:=2000000 }) [quk,qgG,qzF,qca,qcj,qaT,qbp,gOk,qmC]
 have hnn:=qck hf
 refine fun u _=>⟨fun h=>absurd h hnn.1,fun _ b _ hb=>⟨fun hz=>⟨hf,by rw [<- hb]; exact hz⟩,fun hz=>?_⟩⟩
 rw [hz] at hb
 have hs3:=hb.symm
 have hs3':=hs3
 simp [qbv] at hs3'
 obtain ⟨b1,b2,b3,b4⟩:=hs3'
 have hsB:qaF (ρ 2).i (ρ 4).i = true:=by simp [qaF]; omega
 have hsz:qaF (ρ 2).i (ρ 4).i = false->False:=fun h=>by rw [hsB] at h; cases h
 refine ⟨⟨hf,hl,hB,htop⟩,fun e _ f _ hf2 he=>⟨fun hne=>⟨hf2,?_⟩,fun hz2=>?_⟩,fun _ _ _ _ f _ P _ ab _ hf2 _ hle hPl hE=>⟨by omega,⟨⟨by omega,hlc,by omega,by omega,hB⟩,hGr,hGd⟩,fun o _ ho _ _=>⟨by omega,⟨hf2,hs3,hle,by omega,hPl,hE,?_,?_,?_⟩,fun _ _ _ _ _ _ o2 _ _ _ t _ _ _ Ds _ P2 _ _ _ f2 _ ab2 _ hf3 _ _ t0 t1 hPl2 hE2 ho2 hDl hDo hDm=>⟨fun hlt=>?_,fun hge=>?_⟩⟩⟩⟩
 ·rcases he with ⟨h,_⟩ | ⟨_,h1,h2⟩
  ·exact (hsz h).elim
  ·exact .inr ⟨hs3,h1,h2⟩
 ·rcases he with ⟨h,_⟩ | ⟨_,h1,h2⟩
  ·exact (hsz h).elim
  ·omega
 ·rw [qkx hl] at ho
  exact ho
 ·intro r hr; cases hr
 ·rfl
 ·obtain ⟨T,hT⟩:∃ T:Nat,t.i = T:=⟨t.i.toNat,by omega⟩
  have m1:qc .add .i64 t.i 1 = ((T + 1:Nat):Int):=by rw [add64 (by omega) (by omega)]; omega
  obtain ⟨v,d,e1,e2,e3,e4⟩:=hE2 T (by omega)
  have hcv:qar P2.d t.i 1 = v:=by rw [hT]; simp [qar,e1]
  have hci:qg P2.d t.i 0 = (T:Int):=by rw [hT]; simp [qg,qar,e1,qV]
  rw [m1,hcv,hci]
  have hdl:d.length <= (ρ 8).d.length:=by
   have h1:=congrArg List.length e3
   rw [bI_len,q3K,bI_len] at h1
   have:=qn4 (k:=(ρ 2).i.toNat) (n:=(ρ 8).d.length) (by omega)
   omega
  refine ⟨by omega,by omega,fun _ _=>⟨d,e2,fun r0 _ c1 _ hv hcl=>⟨⟨hcl,by omega,e4,hGr,hGd⟩,fun g _ hg2 _ _=>⟨by omega,by omega,fun _ _ _ _ ab3 _ hst=>⟨by omega,⟨hf3,hs3,hle,by omega,by omega,hPl2,?_,ho2,by omega,?_,?_⟩,by omega⟩⟩⟩⟩⟩
  ·obtain ⟨hb2,lb,db⟩:=qcu hst (n:=32) (t:=2) (by simp)
   exact qk4 hE2 (Hp.le_trans (by simpa using db) lb)
  ·intro r hr
   rcases List.mem_append.1 hr with hr | hr
   ·exact hDo r hr
   ·obtain rfl:=List.mem_singleton.1 hr
    refine ⟨rfl,?_⟩
    have:qM (qd g.d 32):=by rw [hg2]; exact qed _
    exact this
  ·have hh:dgs (Ds.d ++ [qdM (qa g.d)]) = qdB (qdS (ρ 2).i.toNat (ρ 4).i.toNat (bI (ρ 8).d)) (T + 1):=by
    rw [q3M,q75,hg2,qkx rfl,e3,hDm,hT,Int.toNat_natCast,qwL]
   exact hh
 ·have ht:t.i = (ρ 4).i:=by omega
  refine fun ab3 _ hst=>⟨by omega,hf3,hs3,hle,hPl2,?_,ho2,hDo,by rw [hDm,ht]⟩
  obtain ⟨hb2,lb,db⟩:=qcu hst (n:=32) (t:=2) (by simp)
  exact qk4 hE2 (Hp.le_trans (by simpa using db) lb)
end Go.Proofs

set_option linter.unusedSimpArgs false
set_option linter.unusedVariables false
namespace Go.Proofs
open Go Go.Eng
set_option maxRecDepth 20000
end Go.Proofs

set_option linter.unusedSimpArgs false
set_option linter.unusedVariables false
namespace Go.Eng
open Go Go.Proofs
end Go.Eng

set_option linter.unusedSimpArgs false
set_option linter.unusedVariables false
set_option maxRecDepth 100000
namespace Go.Proofs
open Go Go.Eng

end Go.Proofs

set_option linter.unusedSimpArgs false
set_option linter.unusedVariables false
namespace Go.Proofs
open Go Go.Eng
set_option maxRecDepth 20000
end Go.Proofs

set_option linter.unusedSimpArgs false
set_option linter.unusedVariables false
namespace Go.Proofs
open Go Go.Eng
set_option maxRecDepth 20000
end Go.Proofs

set_option linter.unusedSimpArgs false
set_option linter.unusedVariables false
namespace Go.Eng
open Go Go.Proofs
end Go.Eng

set_option linter.unusedSimpArgs false
set_option linter.unusedVariables false
set_option maxRecDepth 100000
namespace Go.Proofs
open Go Go.Eng

end Go.Proofs

set_option linter.unusedSimpArgs false
set_option linter.unusedVariables false
namespace Go.Proofs
open Go Go.Eng
set_option maxRecDepth 20000
end Go.Proofs

set_option linter.unusedSimpArgs false
set_option linter.unusedVariables false
namespace Go.Eng
open Go Go.Proofs
end Go.Eng

set_option linter.unusedSimpArgs false
set_option linter.unusedVariables false
set_option maxRecDepth 100000
namespace Go.Proofs
open Go Go.Eng

end Go.Proofs

set_option linter.unusedSimpArgs false
set_option linter.unusedVariables false
namespace Go.Proofs
open Go Go.Eng
set_option maxRecDepth 20000
theorem q6E {D:qe}:(dgs D).length = D.length:=by simp [dgs]
end Go.Proofs

set_option linter.unusedSimpArgs false
set_option linter.unusedVariables false
namespace Go.Proofs
open Go Go.Eng
set_option maxRecDepth 20000
end Go.Proofs

set_option linter.unusedSimpArgs false
set_option linter.unusedVariables false
namespace Go.Eng
open Go Go.Proofs
def q67 (ρ:Env) (r:Nat):Prop:=qjp (ρ r).i/\qjp (ρ (r + 1)).i/\qjp (ρ (r + 2)).i/\qjp (ρ (r + 3)).i/\qM (qd (ρ (r + 4)).d 32)/\(ρ (r + 6)).i = (ρ (r + 8)).d.length/\(ρ (r + 6)).i <= 4398046510976/\qfD (ρ (r + 8)).d
def q0b (ρ:Env):List Int:=qaO (ρ 0).i (ρ 1).i (ρ 2).i (ρ 3).i (qd (ρ 4).d 32) ++ (dgs (ρ 8).d).flatten
def qvz (ρ:Env):Bool:=qJ (ρ 0).i (ρ 1).i (ρ 2).i (ρ 3).i (ρ 6).i
def qzR (ρ:Env):Prop:=(ρ 6).i = (ρ 8).d.length/\qM (qd (ρ 4).d 32)/\qfD (ρ 8).d
def qqa:List Alt:=[
 { k:=2,ret:=.tup [(true,qaz .u8 12 32),qcV (.var 13)],heap:=[],post:=fun ρ=>(qvz ρ = false/\(ρ 13).i = 2/\qd (ρ 12).d 32 = List.replicate 32 0)∨(qvz ρ = true/\(ρ 13).i = 0/\qd (ρ 12).d 32 = sha (q0b ρ)) }]
def idC:Ctr:={ fn := 44,nv:=12,ip:=[gIp 10,(1005,9)],args:=[qok],heap:=[],ro:=[qfV 5 8 9,gHp 10 11],pre:=fun ρ=>qzR ρ/\gOk ρ 10 11 gR,alts:=qqa }
end Go.Eng

set_option linter.unusedSimpArgs false
set_option linter.unusedVariables false
set_option maxRecDepth 100000
namespace Go.Proofs
open Go Go.Eng

end Go.Proofs

set_option linter.unusedSimpArgs false
set_option linter.unusedVariables false
namespace Go.Proofs
open Go Go.Eng
set_option maxRecDepth 20000
theorem qcW {l:List (List Int)} (h:∀ x ∈ l,x.length = 32):l.flatten.length = 32 * l.length:=by
 induction l with
 | nil=>rfl
 | cons x r ih =>
  rw [List.flatten_cons,List.length_append,h x (List.mem_cons_self ..),ih (fun y hy=>h y (List.mem_cons_of_mem _ hy)),List.length_cons]; omega
theorem qxR {l:List (List Int)} (h:∀ x ∈ l,x.length = 32):∀ {j:Nat} (hj:j < l.length),(l.flatten.drop (32 * j)).take 32 = l[j]:=by
 induction l with
 | nil=>intro j hj; simp at hj
 | cons x r ih =>
  intro j hj
  have hx:=h x (List.mem_cons_self ..)
  cases j with
  | zero=>simp [List.take_left' hx]
  | succ j =>
   rw [List.flatten_cons,show 32 * (j + 1) = x.length + 32 * j by omega,List.drop_length_add_append]
   exact ih (fun y hy=>h y (List.mem_cons_of_mem _ hy)) (by simpa using hj)
theorem q8o {D:qe}:∀ x ∈ dgs D,x.length = 32:=fun x hx=>by
 obtain ⟨r,_,rfl⟩:=List.mem_map.1 hx
 simp [qhw]
end Go.Proofs

set_option linter.unusedSimpArgs false
set_option linter.unusedVariables false
namespace Go.Proofs
open Go Go.Eng
def qts (d:qe) (i:Int):List Int:=(List.range 32).map fun k=>qg d i k
@[simp high] theorem qAb (d:qe):qd [[.int .u8 (qa d 0),.int .u8 (qa d 1),.int .u8 (qa d 2),.int .u8 (qa d 3),.int .u8 (qa d 4),.int .u8 (qa d 5),.int .u8 (qa d 6),.int .u8 (qa d 7),.int .u8 (qa d 8),.int .u8 (qa d 9),.int .u8 (qa d 10),.int .u8 (qa d 11),.int .u8 (qa d 12),.int .u8 (qa d 13),.int .u8 (qa d 14),.int .u8 (qa d 15),.int .u8 (qa d 16),.int .u8 (qa d 17),.int .u8 (qa d 18),.int .u8 (qa d 19),.int .u8 (qa d 20),.int .u8 (qa d 21),.int .u8 (qa d 22),.int .u8 (qa d 23),.int .u8 (qa d 24),.int .u8 (qa d 25),.int .u8 (qa d 26),.int .u8 (qa d 27),.int .u8 (qa d 28),.int .u8 (qa d 29),.int .u8 (qa d 30),.int .u8 (qa d 31)]] 32 = qd d 32:=rfl
@[simp high] theorem q9Z (d:qe) (i:Int):qd [[.int .u8 (qg d i 0),.int .u8 (qg d i 1),.int .u8 (qg d i 2),.int .u8 (qg d i 3),.int .u8 (qg d i 4),.int .u8 (qg d i 5),.int .u8 (qg d i 6),.int .u8 (qg d i 7),.int .u8 (qg d i 8),.int .u8 (qg d i 9),.int .u8 (qg d i 10),.int .u8 (qg d i 11),.int .u8 (qg d i 12),.int .u8 (qg d i 13),.int .u8 (qg d i 14),.int .u8 (qg d i 15),.int .u8 (qg d i 16),.int .u8 (qg d i 17),.int .u8 (qg d i 18),.int .u8 (qg d i 19),.int .u8 (qg d i 20),.int .u8 (qg d i 21),.int .u8 (qg d i 22),.int .u8 (qg d i 23),.int .u8 (qg d i 24),.int .u8 (qg d i 25),.int .u8 (qg d i 26),.int .u8 (qg d i 27),.int .u8 (qg d i 28),.int .u8 (qg d i 29),.int .u8 (qg d i 30),.int .u8 (qg d i 31)]] 32 = qts d i:=rfl
@[simp high] theorem qAc (d:qe):([.int .u8 (qa d 0),.int .u8 (qa d 1),.int .u8 (qa d 2),.int .u8 (qa d 3),.int .u8 (qa d 4),.int .u8 (qa d 5),.int .u8 (qa d 6),.int .u8 (qa d 7),.int .u8 (qa d 8),.int .u8 (qa d 9),.int .u8 (qa d 10),.int .u8 (qa d 11),.int .u8 (qa d 12),.int .u8 (qa d 13),.int .u8 (qa d 14),.int .u8 (qa d 15),.int .u8 (qa d 16),.int .u8 (qa d 17),.int .u8 (qa d 18),.int .u8 (qa d 19),.int .u8 (qa d 20),.int .u8 (qa d 21),.int .u8 (qa d 22),.int .u8 (qa d 23),.int .u8 (qa d 24),.int .u8 (qa d 25),.int .u8 (qa d 26),.int .u8 (qa d 27),.int .u8 (qa d 28),.int .u8 (qa d 29),.int .u8 (qa d 30),.int .u8 (qa d 31)]:List Value).map qV = qd d 32:=rfl
@[simp high] theorem qAd (d:qe) (i:Int):([.int .u8 (qg d i 0),.int .u8 (qg d i 1),.int .u8 (qg d i 2),.int .u8 (qg d i 3),.int .u8 (qg d i 4),.int .u8 (qg d i 5),.int .u8 (qg d i 6),.int .u8 (qg d i 7),.int .u8 (qg d i 8),.int .u8 (qg d i 9),.int .u8 (qg d i 10),.int .u8 (qg d i 11),.int .u8 (qg d i 12),.int .u8 (qg d i 13),.int .u8 (qg d i 14),.int .u8 (qg d i 15),.int .u8 (qg d i 16),.int .u8 (qg d i 17),.int .u8 (qg d i 18),.int .u8 (qg d i 19),.int .u8 (qg d i 20),.int .u8 (qg d i 21),.int .u8 (qg d i 22),.int .u8 (qg d i 23),.int .u8 (qg d i 24),.int .u8 (qg d i 25),.int .u8 (qg d i 26),.int .u8 (qg d i 27),.int .u8 (qg d i 28),.int .u8 (qg d i 29),.int .u8 (qg d i 30),.int .u8 (qg d i 31)]:List Value).map qV = qts d i:=rfl
@[simp high] theorem qAe:qd [[.int .u8 0,.int .u8 0,.int .u8 0,.int .u8 0,.int .u8 0,.int .u8 0,.int .u8 0,.int .u8 0,.int .u8 0,.int .u8 0,.int .u8 0,.int .u8 0,.int .u8 0,.int .u8 0,.int .u8 0,.int .u8 0,.int .u8 0,.int .u8 0,.int .u8 0,.int .u8 0,.int .u8 0,.int .u8 0,.int .u8 0,.int .u8 0,.int .u8 0,.int .u8 0,.int .u8 0,.int .u8 0,.int .u8 0,.int .u8 0,.int .u8 0,.int .u8 0]] 32 = List.replicate 32 0:=rfl
@[simp high] theorem qAa:([.int .u8 0,.int .u8 0,.int .u8 0,.int .u8 0,.int .u8 0,.int .u8 0,.int .u8 0,.int .u8 0,.int .u8 0,.int .u8 0,.int .u8 0,.int .u8 0,.int .u8 0,.int .u8 0,.int .u8 0,.int .u8 0,.int .u8 0,.int .u8 0,.int .u8 0,.int .u8 0,.int .u8 0,.int .u8 0,.int .u8 0,.int .u8 0,.int .u8 0,.int .u8 0,.int .u8 0,.int .u8 0,.int .u8 0,.int .u8 0,.int .u8 0,.int .u8 0]:List Value).map qV = List.replicate 32 0:=rfl
theorem q1C {d:qe} {i:Int} (h0:0 <= i) (h1:i < d.length):qts d i = (dgs d).getD i.toNat []:=by
 have hl:i.toNat < d.length:=by omega
 have h2:(dgs d).getD i.toNat [] = qhw d[i.toNat]:=by simp [dgs,hl]
 rw [h2]
 refine List.map_congr_left fun k hk=>?_
 simp [qg,qar,qb6,hl]
end Go.Proofs

set_option linter.unusedSimpArgs false
set_option linter.unusedVariables false
namespace Go.Eng
open Go

end Go.Eng

set_option linter.unusedSimpArgs false
set_option linter.unusedVariables false
namespace Go.Eng
open Go Go.Proofs
def qkr (r:Nat):SV:=.agg [.vint .i64 (.var r),.vslice (r + 1) (.lit 0) (.var (r + 2)) (.var (r + 3)) 1]
def qrq (r:Nat):SH:=bHp (r + 1) (r + 4) (r + 5)
def qhC (ρ:Env) (r:Nat):Prop:=(ρ (r + 2)).i = (ρ (r + 4)).d.length/\(ρ (r + 2)).i <= (ρ (r + 3)).i/\(ρ (r + 2)).i <= 100000000/\qz (ρ (r + 4)).d
def qe2 (k s:Int):Int:=(s + k - 1).tdiv k
def qct (k n t s l:Int) (D:List (List Int)) (i:Int) (m:List Int):Int:=if qJ k n t s l = false then 2 else if i < 0∨t <= i then 2 else if (m.length:Int) ≠ qe2 k s then 10 else if sha (qcn i ++ m) ≠ D.getD i.toNat [] then 20 else 0
def q3v (ρ:Env):Prop:=qjp (ρ 0).i/\qjp (ρ 3).i/\(ρ 6).i = (ρ 8).d.length/\qfD (ρ 8).d/\qhC ρ 10
def qr5:List Alt:=[{ k:=1,ret:=iv .i64 (.var 18),heap:=[],post:=fun ρ=>(ρ 18).i = qct (ρ 0).i (ρ 1).i (ρ 2).i (ρ 3).i (ρ 6).i (dgs (ρ 8).d) (ρ 10).i (bI (ρ 14).d) }]
def qdN:Ctr:={ fn := 60,nv:=18,ip:=[gIp 16],args:=[qok,qkr 10],heap:=[],ro:=[qfV 5 8 9,qrq 10,gHp 16 17],pre:=fun ρ=>q3v ρ/\gOk ρ 16 17 gR,alts:=qr5 }
end Go.Eng

set_option linter.unusedSimpArgs false
set_option linter.unusedVariables false
set_option maxRecDepth 100000
namespace Go.Proofs
open Go Go.Eng

@[simp] def quN:Sg:=sg 0 [bv 9 9,bv 8 8,bv 7 7,bv 6 6,bg 5 5,bv 3 3,bv 2 2,bv 1 1,bv 0 0,bt 4 (r8 4)]
def q5S:Out:=(.fresh 12 (.fresh 13 (.pre 0 quN (.both (.post 0 0 quN 14 (.ret 0 (sg 12 [bt 13 (.lit 2),bt 12 z8]))) (.both (.fresh 14 (.fresh 15 (.fresh 16 (.fresh 17 (.post 0 1 quN 14 (.know (.cmp .leq (.dlen (.var 17)) (.var 16)) (.pre 1 (sg 0 [bv 7 11,bv 5 16,bv 4 17,bv 3 16,bv 2 15,bt 1 (.lit 0),bg 0 14,bg 6 10]) (.both (.fresh 18 (.post 1 0 (sg 0 [bv 7 11,bv 5 16,bv 4 17,bv 3 16,bv 2 15,bt 1 (.lit 0),bg 0 14,bg 6 10]) 18 (.ret 0 (sg 12 [bt 13 (.lit 0),bt 12 (r8 18)])))) .top)))))))) .top)))))
theorem q6S:qk ⟨Tryz.prog,idC,[qdG,qaT],[]⟩ 100000 Tryz.f44 = q5S:=by kernel_rfl
theorem q9N (hd:∀ c ∈ ([qdG,qaT]:List Ctr),c.ok Tryz.prog) (h:∀ ρ:Env,ρ.good->(idC).pre ρ->q5S.den ⟨Tryz.prog,idC,[qdG,qaT],[]⟩ ρ):(idC).ok Tryz.prog :=
 qf Tryz.func44 (fun a w=>Tryz.call44 a w) hd 100000 (fun ρ hg hp=>by rw [q6S]; exact h ρ hg hp)
end Go.Proofs

set_option linter.unusedSimpArgs false
set_option linter.unusedVariables false
set_option maxRecDepth 100000
namespace Go.Proofs
open Go Go.Eng
theorem q74:∀ i:Fin 255,qmj.getD (qie.getD i.val 0).toNat 0 = i.val:=by decide +kernel
theorem q7p:∀ a:Fin 256,a.val ≠ 0->qie.getD (qmj.getD a.val 0).toNat 0 = a.val:=by decide +kernel
theorem q7U:∀ i:Fin 255,qie.getD (i.val + 255) 0 = qie.getD i.val 0:=by decide +kernel
end Go.Proofs

set_option linter.unusedSimpArgs false
set_option linter.unusedVariables false
namespace Go.Proofs
open Go Go.Eng

abbrev F:=BitVec 8
def toF (x:Int):F:=BitVec.ofInt 8 x
def ofF (x:F):Int:=(x.toNat:Nat)
def isB (x:Int):Prop:=0 <= x/\x < 256
theorem qjJ {x:F}:isB (ofF x):=⟨Int.natCast_nonneg _,by have:=x.isLt; unfold ofF; omega⟩
theorem qj9 {x:F}:toF (ofF x) = x:=by
 unfold toF ofF
 apply BitVec.eq_of_toNat_eq
 rw [BitVec.toNat_ofInt]
 have:=x.isLt
 omega
theorem qsa {x:Int} (h:isB x):(toF x).toNat = x.toNat:=by
 obtain ⟨h0,h1⟩:=h
 unfold toF
 rw [BitVec.toNat_ofInt]
 omega
theorem qxT {x:Int} (h:isB x):ofF (toF x) = x:=by
 unfold ofF
 rw [qsa h]
 obtain ⟨h0,h1⟩:=h
 omega
theorem qr7 {x y:Int} (hx:isB x) (hy:isB y) (h:toF x = toF y):x = y:=by rw [<- qxT hx,<- qxT hy,h]
theorem qu1:toF 0 = 0:=rfl
theorem qeN {x:Int} (h:isB x):toF x = 0↔x = 0:=⟨fun e=>qr7 h ⟨by omega,by omega⟩ e,fun e=>by rw [e]; rfl⟩
theorem q3h {x y:Int}:qic x y = ofF (toF x ^^^ toF y):=by
 have h:(BitVec.ofInt 8 x ^^^ BitVec.ofInt 8 y).toNat < 256:=(BitVec.ofInt 8 x ^^^ BitVec.ofInt 8 y).isLt
 unfold qic qc ofF toF
 show IntKind.u8.wrap _ = _
 have hb:IntKind.u8.bits = 8:=rfl
 rw [hb]
 generalize (BitVec.ofInt 8 x ^^^ BitVec.ofInt 8 y).toNat = z at h ⊢
 simp only [IntKind.wrap,IntKind.bits,IntKind.signed]
 simp
 omega
theorem qkI {x y:Int}:toF (qic x y) = toF x ^^^ toF y:=by rw [q3h,qj9]

def qbD (n:Nat):F:=BitVec.ofNat 8 (qie.getD (n % 255) 0).toNat
def qeG (x:F):Nat:=(qmj.getD x.toNat 0).toNat
def qi (x y:F):F:=if x = 0∨y = 0 then 0 else qbD (qeG x + qeG y)
def qeH (x:F):F:=if x = 0 then 0 else qbD (255 - qeG x)
theorem qu2 {n:Nat}:qbD (n % 255) = qbD n:=by unfold qbD; rw [Nat.mod_mod]
theorem qjY {n m:Nat} (h:n % 255 = m % 255):qbD n = qbD m:=by rw [<- qu2,h,qu2]
theorem qh5 {n:Nat}:(qbD n).toNat = (qie.getD (n % 255) 0).toNat:=by
 have h:=qfS ⟨n % 255,by omega⟩
 simp only at h
 unfold qbD
 rw [BitVec.toNat_ofNat]
 omega
theorem qmL {n:Nat}:qbD n ≠ 0:=fun h=>by
 have h1:=congrArg BitVec.toNat h
 rw [qh5] at h1
 have h2:=qfS ⟨n % 255,by omega⟩
 simp only at h2
 rw [show (0:F).toNat = 0 by rfl] at h1
 omega
theorem qgy {x:F}:qeG x < 255:=by
 have:=qkj ⟨x.toNat,x.isLt⟩
 simp only at this
 unfold qeG
 omega
theorem qit {x:F} (h:x ≠ 0):qbD (qeG x) = x:=by
 apply BitVec.eq_of_toNat_eq
 have h0:x.toNat ≠ 0:=fun e=>h (BitVec.eq_of_toNat_eq (by rw [e]; rfl))
 have h1:=q7p ⟨x.toNat,x.isLt⟩ h0
 simp only at h1
 rw [qh5,Nat.mod_eq_of_lt qgy,qeG,h1]
 omega
theorem quF {n:Nat}:qeG (qbD n) = n % 255:=by
 have h:=q74 ⟨n % 255,by omega⟩
 simp only at h
 unfold qeG
 rw [qh5,h]
 omega
theorem qiz:qbD 0 = 1:=by decide
theorem qah {x y:F}:qi x y = qi y x:=by
 unfold qi
 by_cases hx:x = 0
 ·simp [hx]
 ·by_cases hy:y = 0
  ·simp [hy]
  ·rw [if_neg (not_or.2 ⟨hx,hy⟩),if_neg (not_or.2 ⟨hy,hx⟩),Nat.add_comm]
theorem q7 {x:F}:qi x 0 = 0:=by simp [qi]
theorem qC {x:F}:qi 0 x = 0:=by simp [qi]
theorem qyb {x y:F} (hx:x ≠ 0) (hy:y ≠ 0):qi x y = qbD (qeG x + qeG y):=by rw [qi,if_neg (not_or.2 ⟨hx,hy⟩)]
theorem qlD {x y:F} (hx:x ≠ 0) (hy:y ≠ 0):qi x y ≠ 0:=by rw [qyb hx hy]; exact qmL
theorem qtZ {x y:F}:qi x y = 0↔x = 0∨y = 0:=⟨fun h=>by
 by_cases hx:x = 0
 ·exact .inl hx
 ·by_cases hy:y = 0
  ·exact .inr hy
  ·exact (qlD hx hy h).elim,fun h=>by rcases h with rfl | rfl; exact qC; exact q7⟩
theorem qek {n m:Nat}:qi (qbD n) (qbD m) = qbD (n + m):=by
 rw [qyb qmL qmL,quF,quF]
 exact qjY (by omega)
theorem qbh {x:F}:qi x 1 = x:=by
 by_cases h:x = 0
 ·rw [h,qC]
 ·rw [<- qiz]; conv=>lhs; arg 1; rw [<- qit h]
  rw [qek,Nat.add_zero,qit h]
theorem qhX {x:F}:qi 1 x = x:=by rw [qah,qbh]
theorem qhA {x:F} (h:x ≠ 0):∃ n,n < 255/\x = qbD n:=⟨qeG x,qgy,(qit h).symm⟩
theorem qQ {x y z:F}:qi (qi x y) z = qi x (qi y z):=by
 by_cases hx:x = 0
 ·rw [hx,qC,qC,qC]
 by_cases hy:y = 0
 ·rw [hy,q7,qC,q7]
 by_cases hz:z = 0
 ·rw [hz,q7,q7,q7]
 obtain ⟨a,_,rfl⟩:=qhA hx
 obtain ⟨b,_,rfl⟩:=qhA hy
 obtain ⟨c,_,rfl⟩:=qhA hz
 rw [qek,qek,qek,qek,Nat.add_assoc]
theorem q7S {x:F} (h:x ≠ 0):qeH x ≠ 0:=by rw [qeH,if_neg h]; exact qmL
theorem qiE {x:F} (h:x ≠ 0):qi x (qeH x) = 1:=by
 rw [qeH,if_neg h]
 conv=>lhs; arg 1; rw [<- qit h]
 have:=qgy (x:=x)
 rw [qek,<- qiz]
 exact qjY (by omega)
def xt (x:F):F:=x <<< 1 ^^^ (if x.msb then 29#8 else 0#8)
theorem q34:∀ i:Fin 256,qi (BitVec.ofFin i) 2 = xt (BitVec.ofFin i):=by decide +kernel
theorem qof {x:F}:qi x 2 = xt x:=q34 x.toFin
theorem q8g {x y:F}:xt (x ^^^ y) = xt x ^^^ xt y:=by
 unfold xt
 rw [BitVec.shiftLeft_xor_distrib,BitVec.msb_xor]
 have h1:∀ a b c:F,a ^^^ b ^^^ c = a ^^^ c ^^^ b:=fun a b c=>by rw [BitVec.xor_assoc,BitVec.xor_comm b c,<- BitVec.xor_assoc]
 cases x.msb <;> cases y.msb
 ·simp
 ·simp [BitVec.xor_assoc]
 ·simp [h1 (x <<< 1) (29#8) (y <<< 1)]
 ·simp only [bne_self_eq_false,Bool.false_eq_true,if_true,if_false,BitVec.xor_zero]
  rw [h1 (x <<< 1) (29#8),BitVec.xor_assoc (x <<< 1),BitVec.xor_assoc (y <<< 1),BitVec.xor_self,BitVec.xor_zero]
theorem qlA {x y:F}:∀ n:Nat,qi (x ^^^ y) (qbD n) = qi x (qbD n) ^^^ qi y (qbD n)
 | 0=>by rw [qiz,qbh,qbh,qbh]
 | n + 1=>by
  have he:qbD (n + 1) = qi (qbD n) 2:=by
   have:(2:F) = qbD 1:=by decide
   rw [this,qek]
  rw [he,<- qQ,<- qQ,<- qQ,qlA n,qof,qof,qof,q8g]
theorem qcp {x y z:F}:qi (x ^^^ y) z = qi x z ^^^ qi y z:=by
 by_cases hz:z = 0
 ·rw [hz,q7,q7,q7]; rfl
 ·obtain ⟨n,_,rfl⟩:=qhA hz
  exact qlA n
theorem qiw {x y z:F}:qi z (x ^^^ y) = qi z x ^^^ qi z y:=by rw [qah,qcp,qah,qah (x:=y)]

theorem qvT {i:Nat} (h:i < 510):qmu i = ofF (qbD i):=by
 rw [qyp h,ofF,qh5]
 by_cases hi:i < 255
 ·rw [Nat.mod_eq_of_lt hi]
  have:=qfS ⟨i,h⟩
  simp only at this
  omega
 ·have h1:=q7U ⟨i - 255,by omega⟩
  have h2:=qfS ⟨i,h⟩
  simp only at h1 h2
  rw [show i - 255 + 255 = i by omega] at h1
  rw [show i % 255 = i - 255 by omega,<- h1]
  omega
theorem qp6 {a:Int} (h:isB a):qbw a.toNat = (qeG (toF a):Nat):=by
 obtain ⟨h0,h1⟩:=h
 rw [qy6 (by omega),qeG,qsa ⟨h0,h1⟩]
 have:=qkj ⟨a.toNat,by omega⟩
 simp only at this
 omega
theorem q2n {a b:Int} (ha:isB a) (hb:isB b):qd5 a b = ofF (qi (toF a) (toF b)):=by
 unfold qd5 qi
 simp only [qeN ha,qeN hb]
 split
 ·rfl
 ·have h1:=qgy (x:=toF a)
  have h2:=qgy (x:=toF b)
  rw [qp6 ha,qp6 hb,qvT (by omega)]
  congr 2
theorem q2F {a:Int} (ha:isB a):qfN a = ofF (qeH (toF a)):=by
 unfold qfN qeH
 simp only [qeN ha]
 split
 ·rfl
 ·have h1:=qgy (x:=toF a)
  rw [qp6 ha,qvT (by omega)]
  congr 2
  omega
theorem q5M {a b:Int} (ha:isB a) (hb:isB b):isB (qd5 a b):=by rw [q2n ha hb]; exact qjJ
theorem qhQ {a b:Int} (ha:isB a) (hb:isB b):toF (qd5 a b) = qi (toF a) (toF b):=by rw [q2n ha hb,qj9]
theorem q43 {a:Int} (ha:isB a):isB (qfN a):=by rw [q2F ha]; exact qjJ
theorem q5b {a:Int} (ha:isB a):toF (qfN a) = qeH (toF a):=by rw [q2F ha,qj9]
theorem q4Y {a b:Int}:isB (qic a b):=by rw [q3h]; exact qjJ
def qaM (x:F):Nat->F
 | 0=>1
 | n + 1=>qi (qaM x n) x
theorem qvZ {n:Nat}:∀ m,qaM (qbD n) m = qbD (n * m)
 | 0=>by rw [Nat.mul_zero]; exact qiz.symm
 | m + 1=>by rw [qaM,qvZ m,qek,Nat.mul_succ]
theorem qz8 {m:Nat} (h:0 < m):qaM 0 m = 0:=by
 cases m with
 | zero=>omega
 | succ m=>rw [qaM,q7]
theorem q3r {a e:Int} (ha:isB a) (he:e < 9223372036854775808):qhv a e = ofF (qaM (toF a) e.toNat):=by
 unfold qhv
 by_cases h0:e <= 0
 ·rw [if_pos h0,show e.toNat = 0 by omega]; rfl
 rw [if_neg h0]
 by_cases h1:a = 0
 ·rw [if_pos h1,h1,qu1,qz8 (by omega)]; rfl
 rw [if_neg h1]
 have hx:toF a ≠ 0:=fun h=>h1 ((qeN ha).1 h)
 have hl:=qgy (x:=toF a)
 rw [qp6 ha]
 have e1:e.tmod 255 = ((e.toNat % 255:Nat):Int):=by
  rw [Int.tmod_eq_emod_of_nonneg (by omega)]; omega
 rw [e1,<- Int.natCast_mul,Int.tmod_eq_emod_of_nonneg (by omega),qvT (by omega)]
 congr 1
 conv=>rhs; rw [<- qit hx,qvZ]
 refine qjY ?_
 have:((qeG (toF a) * (e.toNat % 255):Nat):Int) % 255 = ((qeG (toF a) * (e.toNat % 255) % 255:Nat):Int):=by omega
 rw [this,Int.toNat_natCast,Nat.mod_mod,Nat.mul_mod,Nat.mod_mod,<- Nat.mul_mod]
theorem q6i {a e:Int} (ha:isB a) (he:e < 9223372036854775808):isB (qhv a e):=by rw [q3r ha he]; exact qjJ
end Go.Proofs

set_option linter.unusedSimpArgs false
set_option linter.unusedVariables false
namespace Go.Proofs
open Go Go.Eng

theorem qte (a b c:F):a ^^^ (b ^^^ c) = b ^^^ (a ^^^ c):=by rw [<- BitVec.xor_assoc,BitVec.xor_comm a b,BitVec.xor_assoc]
theorem qo3 (a b c d:F):(a ^^^ b) ^^^ (c ^^^ d) = (a ^^^ c) ^^^ (b ^^^ d):=by rw [BitVec.xor_assoc,BitVec.xor_assoc,qte b c d]
theorem qfa {a b:F}:a ^^^ b = 0↔a = b:=⟨fun h=>by
 have:a ^^^ b ^^^ b = b:=by rw [h]; simp
 rwa [BitVec.xor_assoc,BitVec.xor_self,BitVec.xor_zero] at this,fun h=>by rw [h]; exact BitVec.xor_self⟩
theorem qaf {a:F}:a ^^^ 0 = a:=BitVec.xor_zero
theorem qav {a:F}:0 ^^^ a = a:=BitVec.zero_xor
theorem qaA {a:F}:a ^^^ a = 0:=BitVec.xor_self
theorem qnu {a b:F}:a ^^^ b ^^^ b = a:=by rw [BitVec.xor_assoc,BitVec.xor_self,BitVec.xor_zero]
def qx (f:Nat->F):Nat->F
 | 0=>0
 | n + 1=>qx f n ^^^ f n
theorem ql {f g:Nat->F} {n:Nat} (h:∀ i,i < n->f i = g i):qx f n = qx g n:=by
 induction n with
 | zero=>rfl
 | succ n ih=>rw [qx,qx,ih fun i hi=>h i (by omega),h n (by omega)]
theorem qcD {f:Nat->F} {n:Nat} (h:∀ i,i < n->f i = 0):qx f n = 0:=by
 induction n with
 | zero=>rfl
 | succ n ih=>rw [qx,ih fun i hi=>h i (by omega),h n (by omega),qaf]
theorem qg2 {f g:Nat->F} {n:Nat}:qx (fun i=>f i ^^^ g i) n = qx f n ^^^ qx g n:=by
 induction n with
 | zero=>exact qaf.symm
 | succ n ih=>rw [qx,qx,qx,ih,qo3]
theorem qdx {f:Nat->F} {c:F} {n:Nat}:qx (fun i=>qi c (f i)) n = qi c (qx f n):=by
 induction n with
 | zero=>exact q7.symm
 | succ n ih=>rw [qx,qx,ih,qiw]
theorem qeb {f:Nat->F} {c:F} {n:Nat}:qx (fun i=>qi (f i) c) n = qi (qx f n) c:=by
 rw [qah,<- qdx]
 exact ql fun i _=>qah
theorem qil {f:Nat->F} {n k:Nat} (hk:k < n) (h:∀ i,i < n->i ≠ k->f i = 0):qx f n = f k:=by
 induction n with
 | zero=>omega
 | succ n ih =>
  rw [qx]
  by_cases hkn:k = n
  ·rw [qcD fun i hi=>h i (by omega) (by omega),hkn,qav]
  ·rw [ih (by omega) fun i hi=>h i (by omega),h n (by omega) (by omega),qaf]
theorem qf9 {f:Nat->Nat->F} {n m:Nat}:qx (fun i=>qx (fun j=>f i j) m) n = qx (fun j=>qx (fun i=>f i j) n) m:=by
 induction n with
 | zero=>exact (qcD fun _ _=>rfl).symm
 | succ n ih =>
  rw [qx,ih,<- qg2]
  rfl
def del (i j:Nat):F:=if i = j then 1 else 0
theorem qoe {f:Nat->F} {n k:Nat} (hk:k < n):qx (fun i=>qi (del i k) (f i)) n = f k:=by
 rw [qil hk fun i hi hik=>by rw [del,if_neg hik,qC],del,if_pos rfl,qhX]
theorem qhj {f:Nat->F} {n k:Nat} (hk:k < n):qx (fun i=>qi (f i) (del i k)) n = f k:=by
 rw [qil hk fun i hi hik=>by rw [del,if_neg hik,q7],del,if_pos rfl,qbh]

abbrev Mat:=Nat->Nat->F
def spans (r w:Nat) (T:Mat) (v:Nat->F):Prop:=∃ x:Nat->F,∀ j,j < w->v j = qx (fun i=>qi (x i) (T i j)) r
theorem qbi {r w:Nat} {T:Mat} {i:Nat} (hi:i < r):spans r w T (T i):=⟨fun a=>del a i,fun j _=>(qoe (f:=fun a=>T a j) hi).symm⟩
theorem qcm {r w:Nat} {T:Mat} {v v':Nat->F} (h:spans r w T v) (he:∀ j,j < w->v' j = v j):spans r w T v':=by
 obtain ⟨x,hx⟩:=h
 exact ⟨x,fun j hj=>by rw [he j hj,hx j hj]⟩
theorem qsD {r w:Nat} {T:Mat} {v v':Nat->F} (h:spans r w T v) (h':spans r w T v'):spans r w T (fun j=>v j ^^^ v' j):=by
 obtain ⟨x,hx⟩:=h
 obtain ⟨y,hy⟩:=h'
 refine ⟨fun i=>x i ^^^ y i,fun j hj=>?_⟩
 show v j ^^^ v' j = _
 rw [hx j hj,hy j hj,<- qg2]
 exact ql fun i _=>qcp.symm
theorem qiA {r w:Nat} {T:Mat} {v:Nat->F} {c:F} (h:spans r w T v):spans r w T (fun j=>qi c (v j)):=by
 obtain ⟨x,hx⟩:=h
 refine ⟨fun i=>qi c (x i),fun j hj=>?_⟩
 show qi c (v j) = _
 rw [hx j hj,<- qdx]
 exact ql fun i _=>qQ.symm
theorem qgM {r w:Nat} {T T':Mat} {v:Nat->F} (h:spans r w T' v) (hr:∀ i,i < r->spans r w T (T' i)):spans r w T v:=by
 obtain ⟨x,hx⟩:=h
 let y:Nat->Nat->F:=fun i=>if h:i < r then (hr i h).choose else fun _=>0
 have hy:∀ i,i < r->∀ j,j < w->T' i j = qx (fun a=>qi (y i a) (T a j)) r:=fun i hi j hj=>by
  simp only [y,dif_pos hi]
  exact (hr i hi).choose_spec j hj
 refine ⟨fun a=>qx (fun i=>qi (x i) (y i a)) r,fun j hj=>?_⟩
 rw [hx j hj,ql fun i hi=>by rw [hy i hi j hj,<- qdx],qf9]
 refine ql fun a _=>?_
 rw [<- qeb]
 exact ql fun i _=>qQ.symm
structure Same (r w:Nat) (T T':Mat):Prop where
 to:∀ i,i < r->spans r w T (T' i)
 back:∀ i,i < r->spans r w T' (T i)
theorem Same.refl {r w:Nat} {T:Mat}:Same r w T T:=⟨fun i hi=>qbi hi,fun i hi=>qbi hi⟩
theorem Same.trans {r w:Nat} {T T' T'':Mat} (h:Same r w T T') (h':Same r w T' T''):Same r w T T'' :=
 ⟨fun i hi=>qgM (h'.to i hi) h.to,fun i hi=>qgM (h.back i hi) h'.back⟩
theorem Same.symm {r w:Nat} {T T':Mat} (h:Same r w T T'):Same r w T' T:=⟨h.back,h.to⟩
theorem Same.spans {r w:Nat} {T T':Mat} (h:Same r w T T') {v:Nat->F}:spans r w T v↔Go.Proofs.spans r w T' v:=⟨fun hv=>qgM hv h.back,fun hv=>qgM hv h.to⟩
theorem qwb {r w:Nat} {T T':Mat} {i p:Nat} {g:F} (hi:i < r) (hp:p < r) (hip:i ≠ p) (h1:∀ j,j < w->T' i j = T i j ^^^ qi g (T p j)) (h2:∀ a,a < r->a ≠ i->∀ j,j < w->T' a j = T a j):Same r w T T':=by
 refine ⟨fun a ha=>?_,fun a ha=>?_⟩
 ·by_cases hai:a = i
  ·subst hai
   exact qcm (qsD (qbi ha) (qiA (c:=g) (qbi hp))) h1
  ·exact qcm (qbi ha) (h2 a ha hai)
 ·by_cases hai:a = i
  ·subst hai
   refine qcm (qsD (qbi ha) (qiA (c:=g) (qbi hp))) fun j hj=>?_
   rw [h1 j hj,h2 p hp (Ne.symm hip) j hj,qnu]
  ·exact qcm (qbi ha) fun j hj=>(h2 a ha hai j hj).symm
theorem q44 {r w:Nat} {T T':Mat} {i:Nat} {g:F} (hi:i < r) (hg:g ≠ 0) (h1:∀ j,j < w->T' i j = qi (T i j) g) (h2:∀ a,a < r->a ≠ i->∀ j,j < w->T' a j = T a j):Same r w T T':=by
 refine ⟨fun a ha=>?_,fun a ha=>?_⟩
 ·by_cases hai:a = i
  ·subst hai
   exact qcm (qiA (c:=g) (qbi ha)) fun j hj=>by rw [h1 j hj,qah]
  ·exact qcm (qbi ha) (h2 a ha hai)
 ·by_cases hai:a = i
  ·subst hai
   refine qcm (qiA (c:=qeH g) (qbi ha)) fun j hj=>?_
   rw [h1 j hj,qah,qQ,qiE hg,qbh]
  ·exact qcm (qbi ha) fun j hj=>(h2 a ha hai j hj).symm
def lead (r w:Nat) (T:Mat) (c:Nat):Prop:=∃ v,spans r w T v/\(∀ j,j < c->v j = 0)/\v c ≠ 0
open Classical in
noncomputable def cnt (r w:Nat) (T:Mat):Nat->Nat
 | 0=>0
 | c + 1=>cnt r w T c + if lead r w T c then 1 else 0
theorem Same.lead {r w:Nat} {T T':Mat} (h:Same r w T T') {c:Nat}:lead r w T c↔Go.Proofs.lead r w T' c:=by
 unfold Go.Proofs.lead
 simp only [h.spans]
theorem q18 {r w:Nat} {T:Mat}:∀ c,cnt r w T c <= c
 | 0=>Nat.le_refl _
 | c + 1=>by
  have:=q18 (r:=r) (w:=w) (T:=T) c
  unfold cnt; split <;> omega
theorem qvn {r w:Nat} {T:Mat} {c:Nat}:∀ d,cnt r w T c <= cnt r w T (c + d)
 | 0=>Nat.le_refl _
 | d + 1=>by
  have:=qvn (r:=r) (w:=w) (T:=T) (c:=c) d
  rw [<- Nat.add_assoc]
  conv=>rhs; unfold cnt
  omega
theorem qhY {r w:Nat} {T:Mat} {c:Nat} (h:lead r w T c):cnt r w T (c + 1) = cnt r w T c + 1:=by rw [cnt,if_pos h]
theorem qrE {r w:Nat} {T:Mat} {c:Nat} (h:¬ lead r w T c):cnt r w T (c + 1) = cnt r w T c:=by rw [cnt,if_neg h]; rfl
theorem quv {r w:Nat} {T:Mat} {c c':Nat} (h:lead r w T c) (hlt:c < c'):cnt r w T c < cnt r w T c':=by
 have:=qvn (r:=r) (w:=w) (T:=T) (c:=c + 1) (c' - (c + 1))
 rw [show c + 1 + (c' - (c + 1)) = c' by omega,qhY h] at this
 omega
theorem q7A {r w:Nat} {T:Mat} {c c':Nat} (h:lead r w T c) (h':lead r w T c') (he:cnt r w T c = cnt r w T c'):c = c':=by
 rcases Nat.lt_trichotomy c c' with h1 | h1 | h1
 ·have:=quv h h1; omega
 ·exact h1
 ·have:=quv h' h1; omega
theorem qk0 {r w:Nat} {T:Mat}:∀ {c i:Nat},i < cnt r w T c->∃ c',c' < c/\lead r w T c'/\cnt r w T c' = i
 | 0,i,h=>by simp [cnt] at h
 | c + 1,i,h=>by
  by_cases hl:lead r w T c
  ·rw [qhY hl] at h
   by_cases hi:i = cnt r w T c
   ·exact ⟨c,by omega,hl,hi.symm⟩
   ·obtain ⟨c',h1,h2,h3⟩:=qk0 (r:=r) (w:=w) (T:=T) (c:=c) (i:=i) (by omega)
    exact ⟨c',by omega,h2,h3⟩
  ·rw [qrE hl] at h
   obtain ⟨c',h1,h2,h3⟩:=qk0 (c:=c) h
   exact ⟨c',by omega,h2,h3⟩
structure Ech (r w:Nat) (T0 T:Mat) (c rank:Nat):Prop where
 same:Same r w T0 T
 num:rank = cnt r w T0 c
 le:rank <= r
 col:∀ c',c' < c->lead r w T0 c'->∀ i,i < r->T i c' = del i (cnt r w T0 c')
 low:∀ i,rank <= i->i < r->∀ c',c' < c->T i c' = 0
theorem q3z {r w:Nat} {T:Mat}:Ech r w T T 0 0:=⟨Same.refl,rfl,Nat.zero_le _,fun c' h=>by omega,fun i _ _ c' h=>by omega⟩
theorem q7F {r w:Nat} {T0 T:Mat} {c rank:Nat} (h:Ech r w T0 T c rank) (hc:c <= w) {v:Nat->F} (hv:spans r w T0 v) (h0:∀ j,j < c->v j = 0) :
  ∃ x:Nat->F,(∀ i,i < rank->x i = 0)/\∀ j,j < w->v j = qx (fun i=>qi (x i) (T i j)) r:=by
 obtain ⟨x,hx⟩:=h.same.spans.1 hv
 refine ⟨x,fun i hi=>?_,hx⟩
 rw [h.num] at hi
 obtain ⟨c',h1,h2,h3⟩:=qk0 hi
 have hle:=h.le
 have h4:=hx c' (by omega)
 rw [h0 c' h1,ql fun a ha=>by rw [h.col c' h1 h2 a ha,h3]] at h4
 rw [qhj (f:=x) (by have:=h.num; omega)] at h4
 exact h4.symm
theorem qvk {r w:Nat} {T0 T:Mat} {c rank:Nat} (h:Ech r w T0 T c rank) (hc:c < w) (hz:∀ i,rank <= i->i < r->T i c = 0):Ech r w T0 T (c + 1) rank:=by
 have hn:¬ lead r w T0 c:=fun ⟨v,h1,h2,h3⟩=>by
  obtain ⟨x,hx,he⟩:=q7F h (by omega) h1 h2
  apply h3
  rw [he c hc]
  refine qcD fun i hi=>?_
  by_cases hir:i < rank
  ·rw [hx i hir,qC]
  ·rw [hz i (by omega) hi,q7]
 refine ⟨h.same,by rw [qrE hn]; exact h.num,h.le,fun c' hc' hl i hi=>?_,fun i h1 h2 c' hc'=>?_⟩
 ·by_cases he:c' = c
  ·rw [he] at hl; exact (hn hl).elim
  ·exact h.col c' (by omega) hl i hi
 ·by_cases he:c' = c
  ·rw [he]; exact hz i h1 h2
  ·exact h.low i h1 h2 c' (by omega)
theorem q3O {r w:Nat} {T0 T T':Mat} {c rank:Nat} (h:Ech r w T0 T c rank) (hc:c < w) (hr:rank < r) (hs:Same r w T T') (hcol:∀ i,i < r->T' i c = del i rank)
  (hold:∀ c',c' < c->∀ i,i < r->T' i c' = T i c'):Ech r w T0 T' (c + 1) (rank + 1):=by
 have hl:lead r w T0 c:=by
  refine ⟨T' rank,(h.same.trans hs).spans.2 (qbi hr),fun j hj=>?_,?_⟩
  ·rw [hold j hj rank hr]; exact h.low rank (Nat.le_refl _) hr j hj
  ·rw [hcol rank hr,del,if_pos rfl]; decide
 refine ⟨h.same.trans hs,by rw [qhY hl,<- h.num],hr,fun c' hc' hl' i hi=>?_,fun i h1 h2 c' hc'=>?_⟩
 ·by_cases he:c' = c
  ·rw [he,hcol i hi,h.num]
  ·rw [hold c' (by omega) i hi]; exact h.col c' (by omega) hl' i hi
 ·by_cases he:c' = c
  ·rw [he,hcol i h2,del,if_neg (by omega)]
  ·rw [hold c' (by omega) i h2]; exact h.low i (by omega) h2 c' (by omega)
theorem qup {r w:Nat} {T:Mat}:∀ {n:Nat},cnt r w T n = n->∀ c,c < n->lead r w T c/\cnt r w T c = c
 | 0,_,c,h=>by omega
 | n + 1,he,c,h=>by
  by_cases hl:lead r w T n
  ·rw [qhY hl] at he
   by_cases hc:c = n
   ·exact ⟨by rw [hc]; exact hl,by rw [hc]; omega⟩
   ·exact qup (n:=n) (by omega) c (by omega)
  ·rw [qrE hl] at he
   have:=q18 (r:=r) (w:=w) (T:=T) n
   omega
theorem qv8 {r w:Nat} {T0 T:Mat} {n:Nat} (h:Ech r w T0 T n n):∀ i,i < r->∀ c,c < n->T i c = del i c:=fun i hi c hc=>by
 obtain ⟨h1,h2⟩:=qup h.num.symm c hc
 rw [h.col c hc h1 i hi,h2]
theorem q4S {r w:Nat} {T0 T:Mat} {n rank:Nat} (h:Ech r w T0 T n rank) (hn:n <= w) (hlt:rank < n):∃ y:Nat->F,(∃ c,c < n/\y c ≠ 0)/\∀ i,i < r->qx (fun j=>qi (T0 i j) (y j)) n = 0:=by
 have hex:∃ c,c < n/\¬ lead r w T0 c:=by
  refine Classical.byContradiction fun hno=>?_
  have hall:∀ c,c < n->lead r w T0 c:=fun c hc=>Classical.byContradiction fun hl=>hno ⟨c,hc,hl⟩
  have:∀ c,c <= n->cnt r w T0 c = c:=fun c=>by
   induction c with
   | zero=>intro _; rfl
   | succ c ih=>intro hc; rw [qhY (hall c (by omega)),ih (by omega)]
  have:=this n (Nat.le_refl _)
  have:=h.num
  omega
 obtain ⟨c,hc,hnl⟩:=hex
 let y:Nat->F:=fun j=>open Classical in if j = c then 1 else if lead r w T0 j then T (cnt r w T0 j) c else 0
 have hyc:y c = 1:=by simp [y]
 have hT:∀ i,i < r->qx (fun j=>qi (T i j) (y j)) n = 0:=fun i hi=>by
  have hsplit:qx (fun j=>qi (T i j) (y j)) n = qx (fun j=>qi (if j = c then T i c else 0) 1) n ^^^ qx (fun j=>open Classical in if j ≠ c/\lead r w T0 j then qi (del i (cnt r w T0 j)) (T (cnt r w T0 j) c) else 0) n:=by
   rw [<- qg2]
   refine ql fun j hj=>?_
   by_cases hjc:j = c
   ·subst hjc
    simp only [hyc,qbh,if_true,ne_eq,not_true,false_and,if_false,qaf]
   ·simp only [if_neg hjc,qC,qav]
    by_cases hl:lead r w T0 j
    ·rw [if_pos ⟨hjc,hl⟩,h.col j hj hl i hi]; simp only [y,if_neg hjc,if_pos hl]
    ·rw [if_neg fun hh=>hl hh.2]; simp only [y,if_neg hjc,if_neg hl,q7]
  rw [hsplit,qil hc fun j _ hj=>by rw [if_neg hj,qC],if_pos rfl,qbh]
  by_cases hir:i < rank
  ·rw [h.num] at hir
   obtain ⟨c',h1,h2,h3⟩:=qk0 hir
   have hcc:c' ≠ c:=fun e=>hnl (e ▸ h2)
   rw [qil (k:=c') h1 fun j hj hjc=>?_,if_pos ⟨hcc,h2⟩,h3,del,if_pos rfl,qhX,qaA]
   split
   ·rename_i hh
    rw [del,if_neg,qC]
    intro e
    exact hjc (q7A hh.2 h2 (by rw [h3,e]))
   ·rfl
  ·rw [h.low i (by omega) hi c hc,qav]
   refine qcD fun j hj=>?_
   split
   ·rename_i hh
    rw [del,if_neg,qC]
    have:=quv hh.2 hj
    have:=h.num
    omega
   ·rfl
 refine ⟨y,⟨c,hc,by rw [hyc]; decide⟩,fun i hi=>?_⟩
 obtain ⟨x,hx⟩:=h.same.back i hi
 rw [ql fun j hj=>by rw [hx j (by omega),<- qeb],qf9]
 refine qcD fun a ha=>?_
 rw [ql (g:=fun j=>qi (x a) (qi (T a j) (y j))) fun j _=>qQ,qdx,hT a ha,q7]
end Go.Proofs

set_option linter.unusedSimpArgs false
set_option linter.unusedVariables false
namespace Go.Proofs
open Go Go.Eng

def qa1 (x:F):List F->F
 | []=>0
 | c :: l=>qi (qa1 x l) x ^^^ c
theorem qgt {x:F}:qa1 x [] = 0:=rfl
theorem qhZ {x c:F}:qa1 x [c] = c:=by rw [qa1,qgt,qC,qav]
def qiW (r:F):List F->List F
 | []=>[]
 | [_]=>[]
 | _ :: c' :: l=>qa1 r (c' :: l) :: qiW r (c' :: l)
theorem qve {r:F}:∀ {l:List F},(qiW r l).length = l.length - 1
 | []=>rfl
 | [_]=>rfl
 | _ :: c' :: l=>by simp only [qiW,List.length_cons,qve (l:=c' :: l)]; omega
theorem qu9 {x r:F}:∀ {l:List F},qa1 x l ^^^ qa1 r l = qi (x ^^^ r) (qa1 x (qiW r l))
 | []=>by rw [qiW,qgt,qgt,qaA,q7]
 | [c]=>by rw [qiW,qhZ,qhZ,qgt,qaA,q7]
 | c :: c' :: l=>by
  have ih:=qu9 (x:=x) (r:=r) (l:=c' :: l)
  rw [qiW,show qa1 x (c :: c' :: l) = qi (qa1 x (c' :: l)) x ^^^ c from rfl,show qa1 r (c :: c' :: l) = qi (qa1 r (c' :: l)) r ^^^ c from rfl]
  conv=>rhs; rw [qa1]
  have h1:∀ a b d:F,a ^^^ b = qi (x ^^^ r) d->qi a x ^^^ c ^^^ (qi b r ^^^ c) = qi (x ^^^ r) (qi d x ^^^ b):=fun a b d h=>by
   rw [qo3,qaA,qaf,qiw (z:=x ^^^ r),<- qQ,<- h,qcp,qah (x:=x ^^^ r),qiw,<- BitVec.xor_assoc,qnu]
  exact h1 _ _ _ ih
theorem qtP {r:F}:∀ {l:List F} {c:F},(∀ y ∈ qiW r (c :: l),y = 0)->∀ y ∈ l,y = 0
 | [],_,_=>by simp
 | c' :: l,c,h=>by
  simp only [qiW,List.mem_cons,forall_eq_or_imp] at h
  have ht:=qtP (l:=l) (c:=c') h.2
  have hh:qa1 r l = 0:=by
   clear h
   induction l with
   | nil=>rfl
   | cons a l ih=>rw [qa1,ih fun y hy=>ht y (List.mem_cons_of_mem _ hy),qC,ht a (List.mem_cons_self ..),qaf]
  have h1:=h.1
  rw [qa1,hh,qC,qav] at h1
  intro y hy
  rcases List.mem_cons.1 hy with rfl | hy
  ·exact h1
  ·exact ht y hy
theorem qsv {x:F}:∀ {l:List F},(∀ y ∈ l,y = 0)->qa1 x l = 0
 | [],_=>rfl
 | a :: l,h=>by rw [qa1,qsv fun y hy=>h y (List.mem_cons_of_mem _ hy),qC,h a (List.mem_cons_self ..),qaf]
def qbC (n:Nat) (xs:Nat->F):Prop:=∀ i j,i < n->j < n->xs i = xs j->i = j
theorem qqh {xs:Nat->F}:∀ {n:Nat} {l:List F},l.length <= n->qbC n xs->(∀ i,i < n->qa1 (xs i) l = 0)->∀ y ∈ l,y = 0
 | 0,l,hl,_,_=>by
  have:l = []:=List.eq_nil_of_length_eq_zero (by omega)
  rw [this]; simp
 | n + 1,[],_,_,_=>by simp
 | n + 1,c :: t,hl,hd,hr=>by
  simp only [List.length_cons] at hl
  have hq:=qqh (n:=n) (l:=qiW (xs n) (c :: t)) (by rw [qve,List.length_cons]; omega) (fun i j hi hj=>hd i j (by omega) (by omega)) fun i hi=>by
   have h:=qu9 (x:=xs i) (r:=xs n) (l:=c :: t)
   rw [hr i (by omega),hr n (by omega),qaA] at h
   rcases qtZ.1 h.symm with h1 | h1
   ·have:=hd i n (by omega) (by omega) (qfa.1 h1); omega
   ·exact h1
  have ht:=qtP hq
  have h1:=hr n (by omega)
  rw [qa1,qsv ht,qC,qav] at h1
  intro y hy
  rcases List.mem_cons.1 hy with rfl | hy
  ·exact h1
  ·exact ht y hy
def q9 (n:Nat) (y:Nat->F) (x:F):F:=qx (fun j=>qi (y j) (qaM x j)) n
theorem qsi {x c:F}:∀ {l:List F},qa1 x (l ++ [c]) = qa1 x l ^^^ qi c (qaM x l.length)
 | []=>by rw [List.nil_append,qhZ,qgt,qav,List.length_nil,qaM,qbh]
 | a :: l=>by
  rw [List.cons_append,qa1,qsi (l:=l),qa1,qcp,List.length_cons,qaM,BitVec.xor_assoc,BitVec.xor_assoc,qQ,BitVec.xor_comm a]
theorem ql1 {y:Nat->F} {x:F}:∀ n,qa1 x ((List.range n).map y) = q9 n y x
 | 0=>rfl
 | n + 1=>by
  rw [List.range_succ,List.map_append,List.map_cons,List.map_nil,qsi,ql1 n]
  simp [q9,qx]
theorem qk5 {n:Nat} {y:Nat->F} {xs:Nat->F} (hd:qbC n xs) (h:∀ i,i < n->q9 n y (xs i) = 0):∀ j,j < n->y j = 0:=fun j hj=>by
 have:=qqh (l:=(List.range n).map y) (by simp) hd (fun i hi=>by rw [ql1]; exact h i hi) (y j)
 exact this (List.mem_map.2 ⟨j,List.mem_range.2 hj,rfl⟩)
theorem q2G {x:F} {l:List F} {n:Nat} (hl:l.length <= n):qa1 x l = q9 n (fun j=>l.getD j 0) x:=by
 have h1:∀ m,q9 (l.length + m) (fun j=>l.getD j 0) x = q9 l.length (fun j=>l.getD j 0) x:=fun m=>by
  induction m with
  | zero=>rfl
  | succ m ih =>
   rw [<- Nat.add_assoc,q9,qx]
   rw [show qx (fun j=>qi (l.getD j 0) (qaM x j)) (l.length + m) = q9 (l.length + m) (fun j=>l.getD j 0) x from rfl,ih]
   rw [show l.getD (l.length + m) 0 = 0 by rw [List.getD_eq_getElem?_getD,List.getElem?_eq_none (by omega)]; rfl,qC,qaf]
 rw [show n = l.length + (n - l.length) by omega,h1,<- ql1]
 congr 1
 apply List.ext_getElem?
 intro j
 by_cases hj:j < l.length
 ·simp [List.getElem?_range hj,List.getD_eq_getElem?_getD,List.getElem?_eq_getElem hj]
 ·simp [hj]

def qdf (f:Nat->F):Nat->F
 | 0=>1
 | n + 1=>qi (qdf f n) (f n)
theorem q4Z {f:Nat->F} {n:Nat} (h:∀ i,i < n->f i ≠ 0):qdf f n ≠ 0:=by
 induction n with
 | zero=>exact (by decide:(1:F) ≠ 0)
 | succ n ih=>exact qlD (ih fun i hi=>h i (by omega)) (h n (by omega))
theorem qps {f:Nat->F} {n k:Nat} (hk:k < n) (h:f k = 0):qdf f n = 0:=by
 induction n with
 | zero=>omega
 | succ n ih =>
  rw [qdf]
  by_cases hkn:k = n
  ·rw [<- hkn,h,q7]
  ·rw [ih (by omega),qC]
def qot (r:F):F->List F->List F
 | p,[]=>[p]
 | p,c :: l=>(p ^^^ qi r c) :: qot r c l
theorem quA {r:F}:∀ {p:F} {l:List F},(qot r p l).length = l.length + 1
 | _,[]=>rfl
 | _,c :: l=>by simp [qot,quA]
theorem qso {r x:F}:∀ {p:F} {l:List F},qa1 x (qot r p l) = p ^^^ qi (x ^^^ r) (qa1 x l)
 | p,[]=>by rw [qot,qhZ,qgt,q7,qaf]
 | p,c :: l=>by
  rw [qot,qa1,qso,qa1,qcp,qiw,BitVec.xor_comm _ (p ^^^ qi r c),BitVec.xor_assoc,qcp (x:=x) (y:=r) (z:=c),<- qQ]
  congr 1
  rw [qah (x:=c) (y:=x),<- BitVec.xor_assoc,BitVec.xor_comm (qi r c),BitVec.xor_comm]
theorem qs0 (xs:Nat->F) (i:Nat):∀ n,∃ l:List F,l.length = (if i < n then n else n + 1)/\∀ x,qa1 x l = qdf (fun m=>if m = i then 1 else x ^^^ xs m) n
 | 0=>⟨[1],by simp,fun x=>by rw [qhZ,qdf]⟩
 | n + 1=>by
  obtain ⟨l,h1,h2⟩:=qs0 xs i n
  by_cases hn:n = i
  ·subst hn
   refine ⟨l,by rw [h1]; simp,fun x=>by rw [h2,qdf,if_pos rfl,qbh]⟩
  ·refine ⟨qot (xs n) 0 l,?_,fun x=>?_⟩
   ·rw [quA,h1]; split <;> split <;> omega
   ·rw [qso,h2,qdf,if_neg hn,qav,qah]
def qfT (n:Nat) (xs:Nat->F) (x:F) (i:Nat):F:=qi (qdf (fun m=>if m = i then 1 else x ^^^ xs m) n) (qeH (qdf (fun m=>if m = i then 1 else xs i ^^^ xs m) n))
theorem q6Q {n:Nat} {xs:Nat->F} (hd:qbC n xs) {i k:Nat} (hi:i < n) (hk:k < n):qfT n xs (xs k) i = del i k:=by
 unfold qfT del
 by_cases hik:i = k
 ·subst hik
  rw [if_pos rfl,qiE]
  refine q4Z fun m hm=>?_
  split
  ·decide
  ·rename_i hmi
   exact fun h=>hmi (hd i m hi hm (qfa.1 h)).symm
 ·rw [if_neg hik,qps (k:=k) hk (by rw [if_neg (Ne.symm hik)]; exact qaA),qC]
theorem qjV {n:Nat} {xs:Nat->F} (hd:qbC n xs) {y:Nat->F} {x:F}:q9 n y x = qx (fun i=>qi (qfT n xs x i) (q9 n y (xs i))) n:=by
 have hex:∀ i,∃ l:Nat->F,i < n->∀ x,q9 n l x = qfT n xs x i:=fun i=>by
  obtain ⟨l,h1,h2⟩:=qs0 xs i n
  refine ⟨fun j=>qi (l.getD j 0) (qeH (qdf (fun m=>if m = i then 1 else xs i ^^^ xs m) n)),fun hi x=>?_⟩
  rw [qfT,<- h2 x,q2G (n:=n) (by rw [h1,if_pos hi]; exact Nat.le_refl _),q9,q9,<- qeb]
  refine ql fun j _=>?_
  rw [qQ,qah (x:=qeH _),<- qQ]
 let lc:Nat->Nat->F:=fun i=>(hex i).choose
 have hlc:∀ i,i < n->∀ x,q9 n (lc i) x = qfT n xs x i:=fun i hi=>(hex i).choose_spec hi
 let S:Nat->F:=fun j=>y j ^^^ qx (fun i=>qi (q9 n y (xs i)) (lc i j)) n
 have hS:∀ x,q9 n S x = q9 n y x ^^^ qx (fun i=>qi (qfT n xs x i) (q9 n y (xs i))) n:=fun x=>by
  have h1:q9 n S x = q9 n y x ^^^ qx (fun j=>qx (fun i=>qi (q9 n y (xs i)) (qi (lc i j) (qaM x j))) n) n:=by
   simp only [q9]
   rw [<- qg2]
   refine ql fun j _=>?_
   simp only [S]
   rw [qcp]
   congr 1
   rw [<- qeb]
   exact ql fun i _=>qQ
  rw [h1,qf9]
  congr 1
  refine ql fun i hi=>?_
  rw [qdx,<- hlc i hi x,qah]
  rfl
 have h0:=qk5 (y:=S) hd fun k hk=>by
  rw [hS,ql fun i hi=>by rw [q6Q hd hi hk],qoe (f:=fun i=>q9 n y (xs i)) hk,qaA]
 have:=hS x
 rw [show q9 n S x = 0 from qcD fun j hj=>by rw [h0 j hj,qC]] at this
 exact qfa.1 this.symm
theorem qqt {n:Nat} {xs:Nat->F} (hd:qbC n xs) {y:Nat->F} (h:∀ i,i < n->qx (fun j=>qi (qaM (xs i) j) (y j)) n = 0):∀ j,j < n->y j = 0 :=
 qk5 hd fun i hi=>by
  rw [q9,<- h i hi]
  exact ql fun j _=>qah
end Go.Proofs

set_option linter.unusedSimpArgs false
set_option linter.unusedVariables false
namespace Go.Proofs
open Go Go.Eng

def qy (l:List Int):Prop:=∀ x ∈ l,isB x
theorem qaL {l:List Int} (h:qy l) (i:Nat):isB (l.getD i 0):=by
 rw [List.getD_eq_getElem?_getD]
 by_cases hi:i < l.length
 ·rw [List.getElem?_eq_getElem hi]; exact h _ (List.getElem_mem hi)
 ·rw [List.getElem?_eq_none (by omega)]; exact ⟨by simp,by simp⟩
def q6 (ca:Nat) (l:List Int):Mat:=fun i j=>toF (l.getD (i * ca + j) 0)
def qaa (ca cb:Nat) (a b:List Int):Mat:=fun i j=>if j < ca then q6 ca a i j else q6 cb b i (j - ca)
theorem qun {i i' ca j:Nat} (hj:j < ca):(i * ca <= i' * ca + j/\i' * ca + j < i * ca + ca)↔i' = i:=by
 constructor
 ·intro ⟨h1,h2⟩
  rcases Nat.lt_trichotomy i' i with h | h | h
  ·have:=Nat.mul_le_mul_right ca (show i' + 1 <= i by omega)
   rw [Nat.add_mul,Nat.one_mul] at this; omega
  ·exact h
  ·have:=Nat.mul_le_mul_right ca (show i + 1 <= i' by omega)
   rw [Nat.add_mul,Nat.one_mul] at this; omega
 ·rintro rfl; omega
theorem qf8 {i r ca j:Nat} (hi:i < r) (hj:j < ca):i * ca + j < r * ca:=by
 have:=Nat.mul_le_mul_right ca (show i + 1 <= r by omega)
 rw [Nat.add_mul,Nat.one_mul] at this; omega
theorem qoI {i r ca:Nat} (hi:i < r):i * ca + ca <= r * ca:=by
 have:=Nat.mul_le_mul_right ca (show i + 1 <= r by omega)
 rwa [Nat.add_mul,Nat.one_mul] at this
theorem qeh {l s:List Int} {off:Nat} {c:Int} (h:qy l):qy (qae l off s c):=fun x hx=>by
 obtain ⟨i,hi⟩:=List.getElem?_of_mem hx
 rw [qbK] at hi
 obtain ⟨y,hy,rfl⟩:=Option.map_eq_some_iff.1 hi
 split
 ·exact q4Y
 ·exact h y (List.mem_of_getElem? hy)
theorem ql5 {l:List Int} {off n:Nat} {c:Int} (h:qy l) (hc:isB c):qy (qbk l off n c):=fun x hx=>by
 obtain ⟨i,hi⟩:=List.getElem?_of_mem hx
 rw [qe8] at hi
 obtain ⟨y,hy,rfl⟩:=Option.map_eq_some_iff.1 hi
 have:=h y (List.mem_of_getElem? hy)
 split
 ·exact q5M this hc
 ·exact this
theorem qvb {ca r i p:Nat} {a:List Int} {g:Int} (ha:a.length = r * ca) (hb:qy a) (hg:isB g) (hi:i < r) (hp:p < r) {i' j:Nat} (hi':i' < r) (hj:j < ca) :
  q6 ca (qae a (i * ca) (seg a (p * ca) ca) g) i' j = if i' = i then q6 ca a i j ^^^ qi (toF g) (q6 ca a p j) else q6 ca a i' j:=by
 have hlt:=qf8 hi' hj
 have hsl:(seg a (p * ca) ca).length = ca:=qf2 (by rw [ha]; exact qoI hp)
 unfold q6
 rw [List.getD_eq_getElem?_getD,qbK,List.getElem?_eq_getElem (by omega),Option.map_some,Option.getD_some,hsl]
 by_cases he:i' = i
 ·subst he
  rw [if_pos ⟨by omega,by omega⟩,if_pos rfl,show i' * ca + j - i' * ca = j by omega]
  have hs:(seg a (p * ca) ca).getD j 0 = a.getD (p * ca + j) 0:=by
   rw [List.getD_eq_getElem?_getD,qf3,if_pos hj,List.getD_eq_getElem?_getD]
  rw [hs,qkI,qhQ hg (qaL hb _),List.getD_eq_getElem?_getD (l:=a) (i:=i' * ca + j),List.getElem?_eq_getElem (by omega),Option.getD_some]
 ·rw [if_neg (fun h=>he ((qun hj).1 h)),if_neg he,List.getD_eq_getElem?_getD,List.getElem?_eq_getElem (by omega),Option.getD_some]
theorem qoU {ca r i:Nat} {a:List Int} {g:Int} (ha:a.length = r * ca) (hb:qy a) (hg:isB g) (hi:i < r) {i' j:Nat} (hi':i' < r) (hj:j < ca) :
  q6 ca (qbk a (i * ca) ca g) i' j = if i' = i then qi (q6 ca a i j) (toF g) else q6 ca a i' j:=by
 have hlt:=qf8 hi' hj
 unfold q6
 rw [List.getD_eq_getElem?_getD,qe8,List.getElem?_eq_getElem (by omega),Option.map_some,Option.getD_some]
 by_cases he:i' = i
 ·subst he
  rw [if_pos ⟨by omega,by omega⟩,if_pos rfl,List.getD_eq_getElem?_getD,List.getElem?_eq_getElem (by omega),Option.getD_some,qhQ (hb _ (List.getElem_mem _)) hg]
 ·rw [if_neg (fun h=>he ((qun hj).1 h)),if_neg he,List.getD_eq_getElem?_getD,List.getElem?_eq_getElem (by omega),Option.getD_some]
structure Two (r ca cb:Nat) (a b:List Int):Prop where
 la:a.length = r * ca
 lb:b.length = r * cb
 ba:qy a
 bb:qy b
variable {r ca cb:Nat} {a b:List Int}
theorem Two.add (h:Two r ca cb a b) {i p:Nat} {g:Int}:Two r ca cb (qae a (i * ca) (seg a (p * ca) ca) g) (qae b (i * cb) (seg b (p * cb) cb) g) :=
 ⟨by rw [qcA,h.la],by rw [qcA,h.lb],qeh h.ba,qeh h.bb⟩
theorem Two.scale (h:Two r ca cb a b) {i:Nat} {g:Int} (hg:isB g):Two r ca cb (qbk a (i * ca) ca g) (qbk b (i * cb) cb g) :=
 ⟨by rw [qkM,h.la],by rw [qkM,h.lb],ql5 h.ba hg,ql5 h.bb hg⟩
theorem qxO (h:Two r ca cb a b) {i p:Nat} {g:Int} (hg:isB g) (hi:i < r) (hp:p < r) {i' j:Nat} (hi':i' < r) (hj:j < ca + cb) :
  qaa ca cb (qae a (i * ca) (seg a (p * ca) ca) g) (qae b (i * cb) (seg b (p * cb) cb) g) i' j = if i' = i then qaa ca cb a b i j ^^^ qi (toF g) (qaa ca cb a b p j) else qaa ca cb a b i' j:=by
 unfold qaa
 by_cases hjc:j < ca
 ·simp only [if_pos hjc]; exact qvb h.la h.ba hg hi hp hi' hjc
 ·simp only [if_neg hjc]; exact qvb h.lb h.bb hg hi hp hi' (by omega)
theorem q2E (h:Two r ca cb a b) {i:Nat} {g:Int} (hg:isB g) (hi:i < r) {i' j:Nat} (hi':i' < r) (hj:j < ca + cb) :
  qaa ca cb (qbk a (i * ca) ca g) (qbk b (i * cb) cb g) i' j = if i' = i then qi (qaa ca cb a b i j) (toF g) else qaa ca cb a b i' j:=by
 unfold qaa
 by_cases hjc:j < ca
 ·simp only [if_pos hjc]; exact qoU h.la h.ba hg hi hi' hjc
 ·simp only [if_neg hjc]; exact qoU h.lb h.bb hg hi hi' (by omega)
theorem qeo {c i:Nat} (hc:c < ca):qaa ca cb a b i c = toF (a.getD (i * ca + c) 0):=by rw [qaa,if_pos hc,q6]
theorem qsp (a:List Int) (ca c:Nat):∀ n p,p <= qdl a ca c p n/\qdl a ca c p n <= p + n/\(qdl a ca c p n < p + n->a.getD (qdl a ca c p n * ca + c) 0 ≠ 0)/\∀ i,p <= i->i < qdl a ca c p n->a.getD (i * ca + c) 0 = 0
 | 0,p=>by simp only [qdl]; exact ⟨Nat.le_refl _,Nat.le_refl _,fun h=>by omega,fun i h1 h2=>by omega⟩
 | n + 1,p=>by
  obtain ⟨h1,h2,h3,h4⟩:=qsp a ca c n (p + 1)
  simp only [qdl]
  split
  ·rename_i hz
   refine ⟨by omega,by omega,fun h=>h3 (by omega),fun i hi1 hi2=>?_⟩
   by_cases hip:i = p
   ·rw [hip]; exact hz
   ·exact h4 i (by omega) hi2
  ·rename_i hz
   exact ⟨Nat.le_refl _,by omega,fun _=>hz,fun i h1 h2=>by omega⟩
theorem Two.rows (h:Two r ca cb a b) {rank c:Nat}:∀ i,Two r ca cb (qaC ca cb rank c a b i).1 (qaC ca cb rank c a b i).2
 | 0=>h
 | i + 1=>by
  have ih:=Two.rows h (rank:=rank) (c:=c) i
  simp only [qaC]
  split
  ·exact ih
  ·exact ih.add
theorem qvi (h:Two r ca cb a b) {rank c:Nat} (hr:rank < r) (hc:c < ca):∀ i,i <= r ->
  (∀ i' j,i' < r->j < ca + cb->qaa ca cb (qaC ca cb rank c a b i).1 (qaC ca cb rank c a b i).2 i' j = if i' < i/\i' ≠ rank then qaa ca cb a b i' j ^^^ qi (qaa ca cb a b i' c) (qaa ca cb a b rank j) else qaa ca cb a b i' j) /\
  Same r (ca + cb) (qaa ca cb a b) (qaa ca cb (qaC ca cb rank c a b i).1 (qaC ca cb rank c a b i).2)
 | 0,_=>⟨fun i' j _ _=>by rw [if_neg (by omega)]; rfl,Same.refl⟩
 | i + 1,hi=>by
  obtain ⟨ih,ihs⟩:=qvi h hr hc i (by omega)
  have hT:=h.rows (rank:=rank) (c:=c) i
  simp only [qaC]
  by_cases hir:i = rank
  ·rw [if_pos hir]
   refine ⟨fun i' j hi' hj=>?_,ihs⟩
   rw [ih i' j hi' hj]
   by_cases h1:i' < i/\i' ≠ rank
   ·rw [if_pos h1,if_pos ⟨by omega,h1.2⟩]
   ·rw [if_neg h1,if_neg (by omega)]
  ·rw [if_neg hir]
   simp only
   have hg:=qaL hT.ba (i * ca + c)
   have hgv:toF ((qaC ca cb rank c a b i).1.getD (i * ca + c) 0) = qaa ca cb a b i c:=by
    rw [<- qeo (cb:=cb) (b:=(qaC ca cb rank c a b i).2) hc,ih i c (by omega) (by omega),if_neg (by omega)]
   have hstep:=fun i' j (hi':i' < r) (hj:j < ca + cb)=>qxO hT (g:=(qaC ca cb rank c a b i).1.getD (i * ca + c) 0) hg (show i < r by omega) hr hi' hj
   refine ⟨fun i' j hi' hj=>?_,ihs.trans (qwb (i:=i) (p:=rank) (g:=toF ((qaC ca cb rank c a b i).1.getD (i * ca + c) 0)) (by omega) hr hir (fun j hj=>by rw [hstep i j (by omega) hj,if_pos rfl]) fun a' ha' hne j hj=>by rw [hstep a' j ha' hj,if_neg hne])⟩
   rw [hstep i' j hi' hj]
   by_cases he:i' = i
   ·subst he
    rw [if_pos rfl,hgv,ih i' j hi' hj,if_neg (by omega),ih rank j hr hj,if_neg (by omega),if_pos ⟨by omega,hir⟩]
   ·rw [if_neg he,ih i' j hi' hj]
    by_cases h1:i' < i/\i' ≠ rank
    ·rw [if_pos h1,if_pos ⟨by omega,h1.2⟩]
    ·rw [if_neg h1,if_neg (by omega)]
theorem q2i {T0:Mat} {c rank:Nat} (h2:Two r ca cb a b) (h:Ech r (ca + cb) T0 (qaa ca cb a b) c rank) (hc:c < ca) :
  Two r ca cb (qcT r ca cb c (a,b,rank)).1 (qcT r ca cb c (a,b,rank)).2.1/\Ech r (ca + cb) T0 (qaa ca cb (qcT r ca cb c (a,b,rank)).1 (qcT r ca cb c (a,b,rank)).2.1) (c + 1) (qcT r ca cb c (a,b,rank)).2.2:=by
 unfold qcT
 simp only
 by_cases hr:r <= rank
 ·rw [if_pos hr]
  exact ⟨h2,qvk h (by omega) fun i (h1:rank <= i) h3=>by omega⟩
 rw [if_neg hr]
 obtain ⟨p1,p2,p3,p4⟩:=qsp a ca c (r - rank) rank
 by_cases hp:qdl a ca c rank (r - rank) = r
 ·rw [if_pos hp]
  refine ⟨h2,qvk h (by omega) fun i (h1:rank <= i) h3=>?_⟩
  rw [qeo hc,p4 i h1 (by omega)]; rfl
 rw [if_neg hp]
 simp only
 generalize hpv:qdl a ca c rank (r - rank) = p at p1 p2 p3 p4 hp
 have hpr:p < r:=by omega
 have hnz:=p3 (by omega)
 have hmid:qgk r ca cb c (a,b,rank) = qhf ca cb rank c (qbH ca cb rank p a b).1 (qbH ca cb rank p a b).2:=by
  unfold qgk; simp only [hpv]
 -- the pivot's row is added
 have h1:Two r ca cb (qbH ca cb rank p a b).1 (qbH ca cb rank p a b).2/\Same r (ca + cb) (qaa ca cb a b) (qaa ca cb (qbH ca cb rank p a b).1 (qbH ca cb rank p a b).2) /\
   qaa ca cb (qbH ca cb rank p a b).1 (qbH ca cb rank p a b).2 rank c ≠ 0/\(∀ i j,i < r->j < ca + cb->i ≠ rank->qaa ca cb (qbH ca cb rank p a b).1 (qbH ca cb rank p a b).2 i j = qaa ca cb a b i j) /\
   ∀ c',c' < c->qaa ca cb (qbH ca cb rank p a b).1 (qbH ca cb rank p a b).2 rank c' = 0:=by
  have hpc:qaa ca cb a b p c ≠ 0:=by
   rw [qeo hc]
   intro h0
   exact hnz ((qeN (qaL h2.ba _)).1 h0)
  unfold qbH
  by_cases hpe:p = rank
  ·rw [if_pos hpe]
   exact ⟨h2,Same.refl,by rw [<- hpe]; exact hpc,fun _ _ _ _ _=>rfl,fun c' hc'=>h.low rank (Nat.le_refl _) (by omega) c' hc'⟩
  ·rw [if_neg hpe]
   have hst:=fun i' j (hi':i' < r) (hj:j < ca + cb)=>qxO h2 (g:=1) ⟨by omega,by omega⟩ (show rank < r by omega) hpr hi' hj
   have h1:toF 1 = 1:=rfl
   refine ⟨h2.add,qwb (i:=rank) (p:=p) (g:=toF 1) (by omega) hpr (Ne.symm hpe) (fun j hj=>by simp only; rw [hst rank j (by omega) hj,if_pos rfl]) (fun a' ha' hne j hj=>by simp only; rw [hst a' j ha' hj,if_neg hne]),?_,fun i j hi hj hne=>by simp only; rw [hst i j hi hj,if_neg hne],fun c' hc'=>?_⟩
   ·simp only
    rw [hst rank c (by omega) (by omega),if_pos rfl,h1,qhX]
    rw [qeo hc (i:=rank),p4 rank (Nat.le_refl _) (by omega),qu1,qav]
    exact hpc
   ·simp only
    rw [hst rank c' (by omega) (by omega),if_pos rfl,h1,qhX,h.low rank (Nat.le_refl _) (by omega) c' hc',h.low p (by omega) hpr c' hc',qaf]
 rw [hmid]
 generalize qbH ca cb rank p a b = s1 at h1
 obtain ⟨t1,same1,nz1,oth1,low1⟩:=h1
 -- it is scaled
 have hgB:=q43 (qaL t1.ba (rank * ca + c))
 have hgv:toF (qfN (s1.1.getD (rank * ca + c) 0)) = qeH (qaa ca cb s1.1 s1.2 rank c):=by rw [q5b (qaL t1.ba _),qeo hc]
 have t2:Two r ca cb (qhf ca cb rank c s1.1 s1.2).1 (qhf ca cb rank c s1.1 s1.2).2:=t1.scale hgB
 have hsc:∀ i j,i < r->j < ca + cb->qaa ca cb (qhf ca cb rank c s1.1 s1.2).1 (qhf ca cb rank c s1.1 s1.2).2 i j = if i = rank then qi (qaa ca cb s1.1 s1.2 rank j) (qeH (qaa ca cb s1.1 s1.2 rank c)) else qaa ca cb s1.1 s1.2 i j:=fun i j hi hj=>by
  rw [<- hgv]
  exact q2E t1 hgB (by omega) hi hj
 generalize qhf ca cb rank c s1.1 s1.2 = s2 at t2 hsc
 have same2:Same r (ca + cb) (qaa ca cb s1.1 s1.2) (qaa ca cb s2.1 s2.2):=q44 (i:=rank) (g:=qeH (qaa ca cb s1.1 s1.2 rank c)) (by omega) (q7S nz1) (fun j hj=>by rw [hsc rank j (by omega) hj,if_pos rfl]) fun a' ha' hne j hj=>by rw [hsc a' j ha' hj,if_neg hne]
 have one2:qaa ca cb s2.1 s2.2 rank c = 1:=by rw [hsc rank c (by omega) (by omega),if_pos rfl,qiE nz1]
 have low2:∀ c',c' < c->qaa ca cb s2.1 s2.2 rank c' = 0:=fun c' hc'=>by rw [hsc rank c' (by omega) (by omega),if_pos rfl,low1 c' hc',qC]
 have oth2:∀ i j,i < r->j < ca + cb->i ≠ rank->qaa ca cb s2.1 s2.2 i j = qaa ca cb a b i j:=fun i j hi hj hne=>by rw [hsc i j hi hj,if_neg hne,oth1 i j hi hj hne]
 -- the others are cleared
 obtain ⟨r3,same3⟩:=qvi t2 (rank:=rank) (c:=c) (by omega) hc r (Nat.le_refl _)
 refine ⟨t2.rows r,q3O h (by omega) (by omega) ((same1.trans same2).trans same3) (fun i hi=>?_) fun c' hc' i hi=>?_⟩
 ·rw [r3 i c hi (by omega),one2,qbh]
  by_cases hir:i = rank
  ·rw [if_neg (by omega),hir,one2,del,if_pos rfl]
  ·rw [if_pos ⟨hi,hir⟩,qaA,del,if_neg hir]
 ·rw [r3 i c' hi (by omega),low2 c' hc',q7,qaf]
  by_cases hir:i = rank
  ·rw [if_neg (by omega),hir,low2 c' hc',h.low rank (Nat.le_refl _) (by omega) c' hc']
  ·rw [if_pos ⟨hi,hir⟩,oth2 i c' hi (by omega) hir]
theorem qvE (h:Two r ca cb a b):∀ c,c <= ca->Two r ca cb (qch r ca cb a b c).1 (qch r ca cb a b c).2.1/\Ech r (ca + cb) (qaa ca cb a b) (qaa ca cb (qch r ca cb a b c).1 (qch r ca cb a b c).2.1) c (qch r ca cb a b c).2.2
 | 0,_=>⟨h,q3z⟩
 | c + 1,hc=>by
  obtain ⟨h1,h2⟩:=qvE h c (by omega)
  rw [qch]
  exact q2i h1 h2 (by omega)
end Go.Proofs

set_option linter.unusedSimpArgs false
set_option linter.unusedVariables false
namespace Go.Proofs
open Go Go.Eng
theorem q7e {d:qe} (h:qy (bI d)):qz d:=fun row hr=>h (qb6 row 0) (List.mem_map.2 ⟨row,hr,rfl⟩)
theorem qpK {d:qe}:bytesOf d = (bI d).map fun x=>UInt8.ofNat x.toNat:=by
 simp only [bytesOf,bI,List.map_map]
 exact List.map_congr_left fun r hr=>rfl
end Go.Proofs

set_option linter.unusedSimpArgs false
set_option linter.unusedVariables false
namespace Go.Proofs
open Go Go.Eng
set_option maxRecDepth 20000
theorem qwI {k n t s:Int} {o:List Int} (h:o.length = 32):(qaO k n t s o).length = 39:=by simp [qaO,qas,h]
theorem q61:idC.ok Tryz.prog:=q9N (by simp [q3k,qlp]) fun ρ hg hp=>by
 obtain ⟨⟨hl,hO,hD⟩,hGr,hGd⟩:=hp
 simp (config:={ maxSteps:=2000000 }) [q5S,idC,qqa,qdG,qaT,qok,qjo,qaz,gOk,qvz,q0b,qmC]
 refine ⟨⟨by omega,hl,hO,hD⟩,fun l _ c _ d _ hok hl2 hB hd=>?_⟩
 have hd:bI d.d = qaO (ρ 0).i (ρ 1).i (ρ 2).i (ρ 3).i (qd (ρ 4).d 32) ++ (dgs (ρ 8).d).flatten:=hd
 have hb:=hok
 simp [qJ,qbv] at hb
 have hlen:=congrArg List.length hd
 rw [List.length_append,qcW q8o,q6E,bI_len,qwI qdv] at hlen
 refine fun hc=>⟨⟨⟨by omega,by omega,by omega,by omega,hB⟩,hGr,hGd⟩,fun x _ hx=>⟨hok,?_⟩⟩
 have hx:qd x.d 32 = sha (qaO (ρ 0).i (ρ 1).i (ρ 2).i (ρ 3).i (qd (ρ 4).d 32) ++ (dgs (ρ 8).d).flatten):=by
  rw [hx,qaH,hd.symm]
  simp only [Int.toNat_zero,List.drop_zero]
  rw [List.take_of_length_le (by rw [bI_len]; omega)]
 exact hx
end Go.Proofs

set_option linter.unusedSimpArgs false
set_option linter.unusedVariables false
set_option maxRecDepth 100000
namespace Go.Proofs
open Go Go.Eng

def qoc:Out:=(.fresh 18 (.fresh 19 (.pre 0 (sg 0 [bv 9 9,bv 8 8,bv 7 7,bv 6 6,bg 5 5,bv 3 3,bv 2 2,bv 1 1,bv 0 0,bt 4 (r8 4)]) (.both (.fresh 20 (.post 0 0 (sg 0 [bv 9 9,bv 8 8,bv 7 7,bv 6 6,bg 5 5,bv 3 3,bv 2 2,bv 1 1,bv 0 0,bt 4 (r8 4)]) 20 (.br (.cmp .neq (.var 20) (.lit 0))
 (.ret 0 (sg 18 [bv 18 20]))
 (.br (.cmp .lss (.var 10) (.lit 0))
 (.ret 0 (sg 18 [bt 18 (.lit 2)]))
 (.br (.cmp .geq (.var 10) (.var 2))
 (.ret 0 (sg 18 [bt 18 (.lit 2)]))
 (.pre 1 (sg 0 [bv 1 3,bv 0 0]) (.both (.fresh 21 (.fresh 22 (.post 1 0 (sg 0 [bv 1 3,bv 0 0]) 21 (.need (.cmp .leq (.lit 0) (.var 12)) (.br (.cmp .neq (.var 12) (.var 21))
 (.ret 0 (sg 18 [bt 18 (.lit 10)]))
 (.need (.cmp .leq (.lit 0) (.var 10)) (.need (.cmp .lss (.var 10) (.var 6)) (.need (.cmp .lss (.var 10) (.dlen (.var 8))) (.both (.pre 2 (sg 0 [bv 8 17,bv 6 15,bv 5 14,bv 4 13,bv 3 12,bt 2 (.lit 0),bg 1 11,bv 0 10,bg 7 16]) (.both (.fresh 23 (.post 2 0 (sg 0 [bv 8 17,bv 6 15,bv 5 14,bv 4 13,bv 3 12,bt 2 (.lit 0),bg 1 11,bv 0 10,bg 7 16]) 23 (.br (.not (.c2 .req (r8 23) (.rcons (i8 8 10 0) (.rcons (i8 8 10 1) (.rcons (i8 8 10 2) (.rcons (i8 8 10 3) (.rcons (i8 8 10 4) (.rcons (i8 8 10 5) (.rcons (i8 8 10 6) (.rcons (i8 8 10 7) (.rcons (i8 8 10 8) (.rcons (i8 8 10 9) (.rcons (i8 8 10 10) (.rcons (i8 8 10 11) (.rcons (i8 8 10 12) (.rcons (i8 8 10 13) (.rcons (i8 8 10 14) (.rcons (i8 8 10 15) (.rcons (i8 8 10 16) (.rcons (i8 8 10 17) (.rcons (i8 8 10 18) (.rcons (i8 8 10 19) (.rcons (i8 8 10 20) (.rcons (i8 8 10 21) (.rcons (i8 8 10 22) (.rcons (i8 8 10 23) (.rcons (i8 8 10 24) (.rcons (i8 8 10 25) (.rcons (i8 8 10 26) (.rcons (i8 8 10 27) (.rcons (i8 8 10 28) (.rcons (i8 8 10 29) (.rcons (i8 8 10 30) (.rcons (i8 8 10 31) .rnil))))))))))))))))))))))))))))))))))
 (.ret 0 (sg 18 [bt 18 (.lit 20)]))
 (.ret 0 (sg 18 [bt 18 (.lit 0)]))))) .top)) .top))))))))) .top))))))) .top))))
theorem qxl:qk ⟨Tryz.prog,qdN,[qbX,qby,qbp],[]⟩ 100000 Tryz.f60 = qoc:=by kernel_rfl
theorem q2t (hd:∀ c ∈ ([qbX,qby,qbp]:List Ctr),c.ok Tryz.prog) (h:∀ ρ:Env,ρ.good->(qdN).pre ρ->qoc.den ⟨Tryz.prog,qdN,[qbX,qby,qbp],[]⟩ ρ):(qdN).ok Tryz.prog :=
 qf Tryz.func60 (fun a w=>Tryz.call60 a w) hd 100000 (fun ρ hg hp=>by rw [qxl]; exact h ρ hg hp)
end Go.Proofs

set_option linter.unusedSimpArgs false
set_option linter.unusedVariables false
set_option maxRecDepth 100000
namespace Go.Proofs
open Go Go.Eng

end Go.Proofs

set_option linter.unusedSimpArgs false
set_option linter.unusedVariables false
namespace Go.Proofs
open Go Go.Eng
end Go.Proofs

set_option linter.unusedSimpArgs false
set_option linter.unusedVariables false
namespace Go.Proofs
open Go Go.Eng

end Go.Proofs

set_option linter.unusedSimpArgs false
set_option linter.unusedVariables false
namespace Go.Proofs
open Go Go.Eng
set_option maxRecDepth 20000
theorem q6b {k n t s l i:Int} {D:List (List Int)} {m:List Int} (h:qJ k n t s l = false):2 = qct k n t s l D i m:=by rw [qct,if_pos h]
theorem qwq {k n t s l i:Int} {D:List (List Int)} {m:List Int} (h:qJ k n t s l = true) (hi:i < 0∨t <= i):2 = qct k n t s l D i m:=by rw [qct,if_neg (by rw [h]; decide),if_pos hi]
theorem q4R {k n t s l i:Int} {D:List (List Int)} {m:List Int} (h:qJ k n t s l = true) (h0:0 <= i) (h1:i < t) (hl:(m.length:Int) ≠ qe2 k s):10 = qct k n t s l D i m:=by rw [qct,if_neg (by rw [h]; decide),if_neg (by omega),if_pos hl]
theorem q4W {k n t s l i:Int} {D:List (List Int)} {m:List Int} (h:qJ k n t s l = true) (h0:0 <= i) (h1:i < t) (hl:(m.length:Int) = qe2 k s) (hs:sha (qcn i ++ m) ≠ D.getD i.toNat []):20 = qct k n t s l D i m:=by rw [qct,if_neg (by rw [h]; decide),if_neg (by omega),if_neg (fun h=>h hl),if_pos hs]
theorem q7t {k n t s l i:Int} {D:List (List Int)} {m:List Int} (h:qJ k n t s l = true) (h0:0 <= i) (h1:i < t) (hl:(m.length:Int) = qe2 k s) (hs:sha (qcn i ++ m) = D.getD i.toNat []):0 = qct k n t s l D i m:=by rw [qct,if_neg (by rw [h]; decide),if_neg (by omega),if_neg (fun h=>h hl),if_neg (fun h=>h hs)]
theorem qzU {k n t s l:Int} (h:qJ k n t s l = true):¬ qfm k s:=by
 simp [qJ,qbv] at h
 unfold qfm; omega
set_option maxHeartbeats 1000000 in
theorem q1J:qdN.ok Tryz.prog:=q2t (by simp [qs1,qoT,qqm]) fun ρ hg hp=>by
 obtain ⟨⟨i0,i3,hl,hD,hpl,hpc,hp1,hB⟩,hGr,hGd⟩:=hp
 simp only [Nat.reduceAdd] at hpl hpc hp1 hB
 simp (config:={ maxSteps:=4000000,contextual:=true }) [qoc,qdN,qr5,qbX,qby,qbp,qok,qjo,qaz,gOk,hGr,hGd,hB,hD,hl,hpl]
 refine fun u _ hu=>⟨q6b,fun hok=>⟨fun h0=>qwq hok (.inl h0),fun h0=>⟨fun ht=>qwq hok (.inr ht),fun ht l _ e _ _ hgood=>?_⟩⟩⟩
 have hlen:=(hgood (qzU hok)).1
 have hml:(bI (ρ 14).d).length = (ρ 14).d.length:=bI_len
 have htl:(ρ 2).i = (ρ 8).d.length:=by simp [qJ] at hok; omega
 have hrow:qts (ρ 8).d (ρ 10).i = (dgs (ρ 8).d).getD (ρ 10).i.toNat []:=q1C h0 (by omega)
 refine ⟨fun hne=>q4R hok h0 ht (by rw [hml,qe2,<- hlen]; exact hne),fun heq=>⟨by omega,⟨by omega,by omega,by omega⟩,fun x _ hx=>?_⟩⟩
 rw [qkx heq.symm,hrow]
 exact ⟨fun hn=>q4W hok h0 ht (by rw [hml,qe2,<- hlen]; exact heq) hn,fun he=>q7t hok h0 ht (by rw [hml,qe2,<- hlen]; exact heq) he⟩
end Go.Proofs

set_option linter.unusedSimpArgs false
set_option linter.unusedVariables false
namespace Go.Proofs
open Go Go.Eng

theorem qvf {k n:Nat} (hk:0 < k):n <= k * qG k n:=by
 unfold qG
 have h1:=Nat.div_add_mod (n + k - 1) k
 have h2:=Nat.mod_lt (n + k - 1) hk
 omega
theorem q1F {n:Nat}:(qa8 n n).length = n * n:=by simp [qa8]
theorem q1Z {n i:Nat} (hi:i < n * n):(qa8 n n).getD i 0 = if i / n = i % n then 1 else 0:=by
 have hn:0 < n:=by
  cases n with
  | zero=>simp at hi
  | succ n=>omega
 rw [List.getD_eq_getElem?_getD,qa8,List.getElem?_map,List.getElem?_range hi]
 simp only [Option.map_some,Option.getD_some]
 have:i / n < n:=Nat.div_lt_of_lt_mul hi
 by_cases h:i / n = i % n
 ·rw [if_pos ⟨h,this⟩,if_pos h]
 ·rw [if_neg (fun hh=>h hh.1),if_neg h]
theorem qjg {i n j:Nat} (hj:j < n):(i * n + j) / n = i/\(i * n + j) % n = j:=by
 have hn:0 < n:=by omega
 constructor
 ·rw [Nat.mul_comm,Nat.mul_add_div hn,Nat.div_eq_of_lt hj,Nat.add_zero]
 ·rw [Nat.mul_comm,Nat.mul_add_mod,Nat.mod_eq_of_lt hj]
theorem qxx {n:Nat}:qy (qa8 n n):=fun x hx=>by
 simp only [qa8,List.mem_map] at hx
 obtain ⟨i,_,rfl⟩:=hx
 split <;> exact ⟨by omega,by omega⟩
theorem qs9 {n i j:Nat} (hi:i < n) (hj:j < n):q6 n (qa8 n n) i j = del i j:=by
 obtain ⟨h1,h2⟩:=qjg (i:=i) hj
 rw [q6,q1Z (qf8 hi hj),h1,h2,del]
 split <;> rfl
theorem qzc {r c:Nat}:(qb0 r c).length = r * c:=by simp [qb0,qcw]
theorem qzj {r c i j:Nat} (hi:i < r) (hj:j < c):(qb0 r c).getD (i * c + j) 0 = qhv (i:Int) (j:Int):=by
 obtain ⟨h1,h2⟩:=qjg (i:=i) hj
 have hlt:=qf8 hi hj
 rw [List.getD_eq_getElem?_getD,qb0,qcw,List.getElem?_map,List.getElem?_range hlt]
 simp only [Option.map_some,Option.getD_some]
 rw [if_pos hlt,qmK,h1,h2]
def xsF (m:Nat):F:=toF (m:Int)
theorem qoX {r c i j:Nat} (hr:r <= 256) (hi:i < r) (hj:j < c) (hc:c < 9223372036854775808):q6 c (qb0 r c) i j = qaM (xsF i) j:=by
 rw [q6,qzj hi hj,q3r ⟨by omega,by omega⟩ (by omega),qj9,Int.toNat_natCast]; rfl
theorem qma {r c:Nat} (hr:r <= 256) (hc:c < 9223372036854775808):qy (qb0 r c):=fun x hx=>by
 simp only [qb0,qcw,List.mem_map,List.mem_range] at hx
 obtain ⟨i,hi,rfl⟩:=hx
 rw [if_pos hi]
 have hc0:0 < c:=by
  cases c with
  | zero=>simp at hi
  | succ c=>omega
 have h1:i / c < r:=Nat.div_lt_of_lt_mul (by rwa [Nat.mul_comm] at hi)
 have h2:=Nat.mod_lt i hc0
 have h3:((i / c:Nat):Int) < 256:=by omega
 exact q6i ⟨Int.natCast_nonneg _,h3⟩ (by omega)
theorem qfb {n:Nat} (hn:n <= 256):qbC n xsF:=fun i j hi hj h=>by
 have:=qr7 (x:=(i:Int)) (y:=(j:Int)) ⟨by omega,by omega⟩ ⟨by omega,by omega⟩ h
 omega
theorem qz3 {l:List Int} {n:Nat} (h:qy l):qy (l.take n):=fun x hx=>h x (List.mem_of_mem_take hx)
theorem q6c {l:List Int} {n c i j:Nat} (hi:i < n) (hj:j < c):q6 c (l.take (n * c)) i j = q6 c l i j:=by
 have hlt:=qf8 hi hj
 rw [q6,q6,List.getD_eq_getElem?_getD,List.getD_eq_getElem?_getD,List.getElem?_take,if_pos hlt]

theorem qi5 {ca cb:Nat} {a b:List Int} {i j:Nat}:qaa ca cb a b i (ca + j) = q6 cb b i j:=by
 rw [qaa,if_neg (by omega),show ca + j - ca = j by omega]
theorem qqO {n:Nat} {a A B:List Int} (h:Ech n (n + n) (qaa n n a (qa8 n n)) (qaa n n A B) n n) :
  (∀ i j,i < n->j < n->qx (fun l=>qi (q6 n B i l) (q6 n a l j)) n = del i j)/\∀ i j,i < n->j < n->qx (fun l=>qi (q6 n a i l) (q6 n B l j)) n = del i j:=by
 refine ⟨fun i j hi hj=>?_,fun i j hi hj=>?_⟩
 ·obtain ⟨x,hx⟩:=h.same.to i hi
  have hxB:∀ l,l < n->x l = q6 n B i l:=fun l hl=>by
   have h1:=hx (n + l) (by omega)
   rw [qi5,ql fun m hm=>by rw [qi5,qs9 hm hl],qhj (f:=x) hl] at h1
   exact h1.symm
  have h2:=hx j (by omega)
  rw [qv8 h i hi j hj,ql fun m hm=>by rw [hxB m hm,qeo hj]] at h2
  exact h2.symm
 ·obtain ⟨x,hx⟩:=h.same.back i hi
  have hxa:∀ l,l < n->x l = q6 n a i l:=fun l hl=>by
   have h1:=hx l (by omega)
   rw [qeo hl,ql fun m hm=>by rw [qv8 h m hm l hl],qhj (f:=x) hl] at h1
   exact h1.symm
  have h2:=hx (n + j) (by omega)
  rw [qi5,qs9 hi hj,ql fun m hm=>by rw [hxa m hm,qi5]] at h2
  exact h2.symm
theorem q2R {n:Nat} {m:List Int} (hl:m.length = n * n) (hb:qy m):Two n n n m (qa8 n n):=⟨hl,q1F,hb,qxx⟩
theorem qmS {n:Nat} {m:List Int} (hl:m.length = n * n) (hb:qy m):Two n n n (qeE m n).1 (qeE m n).2.1/\Ech n (n + n) (qaa n n m (qa8 n n)) (qaa n n (qeE m n).1 (qeE m n).2.1) n (qeE m n).2.2 :=
 qvE (q2R hl hb) n (Nat.le_refl _)
theorem qwu {n:Nat} {m:List Int} (hl:m.length = n * n) (hb:qy m) (h:∀ y:Nat->F,(∀ i,i < n->qx (fun j=>qi (q6 n m i j) (y j)) n = 0)->∀ j,j < n->y j = 0):(qeE m n).2.2 = n:=by
 obtain ⟨_,he⟩:=qmS hl hb
 refine Classical.byContradiction fun hne=>?_
 have hlt:(qeE m n).2.2 < n:=by have:=he.le; omega
 obtain ⟨y,⟨c,hc,hyc⟩,hy⟩:=q4S he (by omega) hlt
 exact hyc (h y (fun i hi=>by rw [<- hy i hi]; exact ql fun j hj=>by rw [qeo hj]; rfl) c hc)

theorem qyo {k total:Nat} (h:k <= total):((qb0 total k).take (k * k)).length = k * k:=by
 rw [List.length_take,qzc]
 exact Nat.min_eq_left (Nat.mul_le_mul_right k h)
theorem qyg {k total i j:Nat} (hk:k <= total) (ht:total <= 255) (hi:i < k) (hj:j < k):q6 k ((qb0 total k).take (k * k)) i j = qaM (xsF i) j:=by
 rw [q6c hi hj,qoX (by omega) (by omega) hj (by omega)]
theorem qsj {k total:Nat} (hk:k <= total) (ht:total <= 255):qy ((qb0 total k).take (k * k)):=qz3 (qma (by omega) (by omega))
theorem q3Q {k total:Nat} (hk:k <= total) (ht:total <= 255):(qcq k total).2.2 = k :=
 qwu (qyo hk) (qsj hk ht) fun y hy=>qqt (qfb (by omega)) fun i hi=>by
  rw [<- hy i hi]
  exact ql fun j hj=>by rw [qyg hk ht hi hj]
theorem qyx {k total:Nat} (hk:k <= total) (ht:total <= 255):Two k k k (qcq k total).1 (qcq k total).2.1/\Ech k (k + k) (qaa k k ((qb0 total k).take (k * k)) (qa8 k k)) (qaa k k (qcq k total).1 (qcq k total).2.1) k k:=by
 have h:=qmS (qyo hk) (qsj hk ht)
 have hr:=q3Q hk ht
 unfold qcq at hr ⊢
 rw [hr] at h
 exact h

theorem qmW {a b:List Int} {ra ca cb:Nat} (hb:b.length = ca * cb) (ha:qy a) (hbb:qy b) (hca:0 < ca):∀ t,t <= ra * ca->(qc3 a b ra ca cb t).length = ra * cb/\qy (qc3 a b ra ca cb t) /\
  ∀ i j,i < ra->j < cb->q6 cb (qc3 a b ra ca cb t) i j = qx (fun l=>if i * ca + l < t then qi (q6 ca a i l) (q6 cb b l j) else 0) ca
 | 0,_=>⟨by simp [qc3],fun x hx=>by rw [qc3] at hx; rw [List.eq_of_mem_replicate hx]; exact ⟨by omega,by omega⟩,fun i j hi hj=>by
   rw [qcD fun l _=>if_neg (by omega),q6,qc3,List.getD_eq_getElem?_getD,List.getElem?_replicate,if_pos (qf8 hi hj)]; rfl⟩
 | t + 1,ht=>by
  obtain ⟨h1,h2,h3⟩:=qmW (ra:=ra) hb ha hbb hca t (by omega)
  have hti:t / ca < ra:=Nat.div_lt_of_lt_mul (by rw [Nat.mul_comm]; omega)
  have htl:=Nat.mod_lt t hca
  have htd:=Nat.div_add_mod t ca
  rw [qc3]
  refine ⟨by rw [qcA,h1],qeh h2,fun i j hi hj=>?_⟩
  have hlt:=qf8 hi hj
  have hsl:(seg b (t % ca * cb) cb).length = cb:=qf2 (by rw [hb]; exact qoI htl)
  have hL:q6 cb (qae (qc3 a b ra ca cb t) (t / ca * cb) (seg b (t % ca * cb) cb) (a.getD t 0)) i j = if i = t / ca then q6 cb (qc3 a b ra ca cb t) i j ^^^ qi (toF (a.getD t 0)) (q6 cb b (t % ca) j) else q6 cb (qc3 a b ra ca cb t) i j:=by
   unfold q6
   rw [List.getD_eq_getElem?_getD,qbK,List.getElem?_eq_getElem (by omega),Option.map_some,Option.getD_some,hsl]
   by_cases he:i = t / ca
   ·subst he
    rw [if_pos ⟨by omega,by omega⟩,if_pos rfl,show t / ca * cb + j - t / ca * cb = j by omega]
    have hs:(seg b (t % ca * cb) cb).getD j 0 = b.getD (t % ca * cb + j) 0:=by
     rw [List.getD_eq_getElem?_getD,qf3,if_pos hj,List.getD_eq_getElem?_getD]
    rw [hs,qkI,qhQ (qaL ha _) (qaL hbb _),List.getD_eq_getElem?_getD (l:=qc3 a b ra ca cb t),List.getElem?_eq_getElem (by omega),Option.getD_some]
   ·rw [if_neg (fun h=>he ((qun hj).1 h)),if_neg he,List.getD_eq_getElem?_getD,List.getElem?_eq_getElem (by omega),Option.getD_some]
  rw [hL,h3 i j hi hj]
  by_cases he:i = t / ca
  ·have hit:i * ca + t % ca = t:=by rw [he,Nat.mul_comm]; exact htd
   rw [if_pos he]
   have hat:toF (a.getD t 0) = q6 ca a i (t % ca):=by rw [q6,hit]
   have h4:qi (toF (a.getD t 0)) (q6 cb b (t % ca) j) = qx (fun l=>if l = t % ca then qi (q6 ca a i l) (q6 cb b l j) else 0) ca:=by
    rw [qil htl fun l _ hl=>if_neg hl,if_pos rfl,hat]
   rw [h4,<- qg2]
   refine ql fun l hl=>?_
   by_cases hlt:l = t % ca
   ·subst hlt; rw [if_neg (by omega),if_pos rfl,if_pos (by omega),qav]
   ·rw [if_neg hlt,qaf]
    by_cases h5:i * ca + l < t
    ·rw [if_pos h5,if_pos (by omega)]
    ·rw [if_neg h5,if_neg (by omega)]
  ·rw [if_neg he]
   refine ql fun l hl=>?_
   have hne:i * ca + l ≠ t:=fun h=>he (by rw [<- h]; exact (qjg hl).1.symm)
   by_cases h5:i * ca + l < t
   ·rw [if_pos h5,if_pos (by omega)]
   ·rw [if_neg h5,if_neg (by omega)]
theorem qyL {a b:List Int} {ra ca cb:Nat} (hb:b.length = ca * cb) (ha:qy a) (hbb:qy b) (hca:0 < ca):(qmP a b ra ca cb).length = ra * cb/\qy (qmP a b ra ca cb) /\
  ∀ i j,i < ra->j < cb->q6 cb (qmP a b ra ca cb) i j = qx (fun l=>qi (q6 ca a i l) (q6 cb b l j)) ca:=by
 obtain ⟨h1,h2,h3⟩:=qmW (ra:=ra) hb ha hbb hca (ra * ca) (Nat.le_refl _)
 refine ⟨h1,h2,fun i j hi hj=>?_⟩
 rw [qmP,h3 i j hi hj]
 exact ql fun l hl=>if_pos (qf8 hi hl)

theorem qf0 {k total:Nat} (h1:1 <= k) (hk:k <= total) (ht:total <= 255):(qdk k total).length = total * k/\qy (qdk k total) /\
  (∀ i j,i < total->j < k->q6 k (qdk k total) i j = qx (fun l=>qi (qaM (xsF i) l) (q6 k (qcq k total).2.1 l j)) k) /\
  ∀ i j,i < total->j < k->q6 k (qdk k total) i j = qfT k xsF (xsF i) j:=by
 obtain ⟨t2,he⟩:=qyx hk ht
 obtain ⟨p1,p2,p3⟩:=qyL (ra:=total) t2.lb (qma (r:=total) (c:=k) (by omega) (by omega)) t2.bb (by omega)
 have hg:∀ i j,i < total->j < k->q6 k (qdk k total) i j = qx (fun l=>qi (qaM (xsF i) l) (q6 k (qcq k total).2.1 l j)) k:=fun i j hi hj=>by
  rw [qdk,p3 i j hi hj]
  exact ql fun l hl=>by rw [qoX (by omega) hi hl (by omega)]
 refine ⟨p1,p2,hg,fun i j hi hj=>?_⟩
 obtain ⟨_,m2⟩:=qqO he
 have hp:∀ x,q9 k (fun l=>q6 k (qcq k total).2.1 l j) x = qx (fun l=>qi (qaM x l) (q6 k (qcq k total).2.1 l j)) k:=fun x=>ql fun l _=>qah
 rw [hg i j hi hj,<- hp,qjV (qfb (n:=k) (by omega))]
 rw [ql (g:=fun m=>qi (qfT k xsF (xsF i) m) (del m j)) fun m hm=>?_,qhj hj]
 rw [hp,<- m2 m j hm hj]
 congr 1
 exact ql fun l hl=>by rw [qyg hk ht hm hl]
theorem qlt {g full:List Int} {k l i:Nat} (hg:qy g) (hf:qy full) (hl:full.length = k * l):∀ j,j <= k->(qcy g full k l i j).length = l/\qy (qcy g full k l i j) /\
  ∀ c,c < l->toF ((qcy g full k l i j).getD c 0) = qx (fun m=>qi (q6 k g i m) (toF (full.getD (m * l + c) 0))) j
 | 0,_=>⟨by simp [qcy],fun x hx=>by rw [qcy] at hx; rw [List.eq_of_mem_replicate hx]; exact ⟨by omega,by omega⟩,fun c hc=>by
   rw [qcy,List.getD_eq_getElem?_getD,List.getElem?_replicate,if_pos hc]; rfl⟩
 | j + 1,hj=>by
  obtain ⟨h1,h2,h3⟩:=qlt hg hf hl (i:=i) j (by omega)
  have hsl:(seg full (j * l) l).length = l:=qf2 (by rw [hl]; exact qoI (by omega))
  rw [qcy]
  refine ⟨by rw [qcA,h1],qeh h2,fun c hc=>?_⟩
  rw [List.getD_eq_getElem?_getD,qbK,List.getElem?_eq_getElem (by omega),Option.map_some,Option.getD_some,hsl,if_pos ⟨by omega,by omega⟩,Nat.sub_zero]
  have hs:(seg full (j * l) l).getD c 0 = full.getD (j * l + c) 0:=by
   rw [List.getD_eq_getElem?_getD,qf3,if_pos hc,List.getD_eq_getElem?_getD]
  rw [hs,qkI,qhQ (qaL hg _) (qaL hf _),qx,<- h3 c hc,List.getD_eq_getElem?_getD (l:=qcy g full k l i j),List.getElem?_eq_getElem (by omega),Option.getD_some]
  rfl
theorem q0u {data:List Int} {n:Nat} (hb:qy data) (hn:data.length <= n):(qi9 data n).length = n/\qy (qi9 data n):=by
 refine ⟨by simp [qi9]; omega,fun x hx=>?_⟩
 rcases List.mem_append.1 hx with hx | hx
 ·exact hb x hx
 ·rw [List.eq_of_mem_replicate hx]; exact ⟨by omega,by omega⟩
theorem q5T {data:List Int} {n i:Nat}:(qi9 data n).getD i 0 = data.getD i 0:=by
 rw [List.getD_eq_getElem?_getD,List.getD_eq_getElem?_getD,qi9]
 by_cases h:i < data.length
 ·rw [List.getElem?_append_left h]
 ·rw [List.getElem?_append_right (by omega),List.getElem?_eq_none (l:=data) (by omega),List.getElem?_replicate]
  split <;> rfl
theorem q1M {k total:Nat} {data:List Int} (h1:1 <= k) (hk:k <= total) (ht:total <= 255) (hb:qy data) (i:Nat):(qdS k total data i).length = qG k data.length/\qy (qdS k total data i) /\
  ∀ c,c < qG k data.length->toF ((qdS k total data i).getD c 0) = qx (fun m=>qi (q6 k (qdk k total) i m) (toF (data.getD (m * qG k data.length + c) 0))) k:=by
 obtain ⟨g1,g2,_,_⟩:=qf0 h1 hk ht
 obtain ⟨f1,f2⟩:=q0u hb (n:=k * qG k data.length) (qvf (by omega))
 obtain ⟨p1,p2,p3⟩:=qlt (i:=i) g2 f2 f1 k (Nat.le_refl _)
 refine ⟨p1,p2,fun c hc=>?_⟩
 rw [qdS,p3 c hc]
 exact ql fun m _=>by rw [q5T]
end Go.Proofs

set_option linter.unusedSimpArgs false
set_option linter.unusedVariables false
namespace Go.Eng
open Go
end Go.Eng
namespace Go.Proofs
open Go Go.Eng
theorem qsT {a b:List Int} (hl:a.length = b.length) (h:∀ i,i < a.length->a.getD i 0 = b.getD i 0):a = b:=by
 apply List.ext_getElem hl
 intro i h1 h2
 have:=h i h1
 rwa [List.getD_eq_getElem?_getD,List.getElem?_eq_getElem h1,List.getD_eq_getElem?_getD,List.getElem?_eq_getElem h2] at this
end Go.Proofs

set_option linter.unusedSimpArgs false
set_option linter.unusedVariables false
namespace Go.Eng
open Go Go.Proofs

def qg0 (m:List Int) (cols:Nat) (rs:List Int):List Int:=rs.flatMap fun r=>seg m (r.toNat * cols) cols
def qlv (xs:List Int) (x:Int):List Int:=(List.range xs.length).map fun i=>ofF (qfT xs.length (fun m=>toF (xs.getD m 0)) (toF x) i)
end Go.Eng

set_option linter.unusedSimpArgs false
set_option linter.unusedVariables false
set_option maxRecDepth 100000
namespace Go.Proofs
open Go Go.Eng

end Go.Proofs

set_option linter.unusedSimpArgs false
set_option linter.unusedVariables false
namespace Go.Proofs
open Go Go.Eng

end Go.Proofs

set_option linter.unusedSimpArgs false
set_option linter.unusedVariables false
namespace Go.Proofs
open Go Go.Eng
theorem quQ {m:List Int} {c r:Nat} (hm:r * c <= m.length):∀ {rs:List Int},(∀ x ∈ rs,0 <= x/\x < (r:Int))->(qg0 m c rs).length = rs.length * c
 | [],_=>by simp [qg0]
 | x :: rs,h=>by
  have ih:=quQ hm (rs:=rs) fun y hy=>h y (List.mem_cons_of_mem _ hy)
  have hx:=h x (List.mem_cons_self ..)
  have:=qoI (ca:=c) (show x.toNat < r by omega)
  rw [qg0,List.flatMap_cons,List.length_append,qf2 (by omega),show (rs.flatMap fun r=>seg m (r.toNat * c) c) = qg0 m c rs from rfl,ih,List.length_cons,Nat.add_mul]; omega
theorem qug {l:List Int} {n:Nat} (h:n < l.length):l.getD n 0 ∈ l:=by
 rw [List.getD_eq_getElem?_getD,List.getElem?_eq_getElem h]; exact List.getElem_mem h
end Go.Proofs
