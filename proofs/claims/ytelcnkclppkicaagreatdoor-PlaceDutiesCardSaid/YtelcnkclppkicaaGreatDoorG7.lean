/- Texts ZI, ZK, ZM, ZS, ZV, ZW, ZX, DS, DT, BT, BU, BV, BW, BX, BY, CA, CB, CC, CD, CE, CF, CG, CH, CI, CK, YA, CL, CM, ZLq, YF, W1, W2, W3, WD, CN, CO, YB, ZSq, YC, CP, W4, WC, YD, YE, YG, YK. -/
import Derived.Test.YtelcnkclppkicaaGreatDoorG6
import Derived.Test.YtelcnkclppkicaaGreatDoorG5
import Derived.Test.YtelcnkclppkicaaGreatDoorProg
import Derived.Test.YtelcnkclppkicaaGreatDoorG4
set_option linter.unusedSimpArgs false
set_option linter.unusedVariables false
namespace Go.Proofs
open Go Go.Eng

theorem qqa {f:Nat->Int} {len n:Nat}:(qcu f len n).length = len:=by simp [qcu]
theorem qxL {f:Nat->Int} {len:Nat}:qcu f len 0 = List.replicate len 0:=by
 apply List.ext_getElem?
 intro j
 by_cases hj:j < len
 ·simp [qcu,List.getElem?_replicate,hj]
 ·simp [qcu,List.getElem?_replicate,hj]
theorem qxo {f:Nat->Int} {len n:Nat} (h:n < len):qcu f len (n + 1) = (qcu f len n).set n (f n):=by
 apply List.ext_getElem?
 intro j
 rw [List.getElem?_set]
 by_cases hj:j < len
 ·by_cases hn:n = j
  ·subst hn; rw [if_pos rfl,if_pos (by rw [qqa]; exact h)]; simp [qcu,h]
  ·rw [if_neg hn]
   simp only [qcu,List.getElem?_map,List.getElem?_range hj,Option.map_some,Option.some.injEq]
   by_cases h1:j < n
   ·rw [if_pos (by omega),if_pos h1]
   ·rw [if_neg (by omega),if_neg h1]
 ·by_cases hn:n = j
  ·omega
  ·rw [if_neg hn]; simp [qcu,hj]
theorem qwi {n:Nat}:qa9 n 0 = List.replicate (n * n) 0:=by
 apply List.ext_getElem?
 intro j
 by_cases hj:j < n * n
 ·simp [qa9,List.getElem?_replicate,hj]
 ·simp [qa9,List.getElem?_replicate,hj]
theorem qrb {i n l:Nat} (h:l < n):(i * n + l) / n = i/\(i * n + l) % n = l:=by
 have hn:0 < n:=by omega
 refine ⟨?_,?_⟩
 ·rw [Nat.mul_comm,Nat.mul_add_div hn,Nat.div_eq_of_lt h,Nat.add_zero]
 ·rw [Nat.mul_comm,Nat.mul_add_mod,Nat.mod_eq_of_lt h]
theorem q8s {i r n l:Nat} (hi:i < r) (hl:l < n):i * n + l < r * n:=by
 have:=Nat.mul_le_mul_right n (show i + 1 <= r by omega)
 rw [Nat.add_mul] at this; omega
theorem qv3 {n m:Nat} (h:m < n):qa9 n (m + 1) = (qa9 n m).set (m * n + m) 1:=by
 have hlt:=q8s h h
 obtain ⟨hd,hm⟩:=qrb (i:=m) h
 apply List.ext_getElem?
 intro j
 rw [List.getElem?_set]
 by_cases hj:j < n * n
 ·simp only [qa9,List.getElem?_map,List.getElem?_range hj,Option.map_some,List.length_map,List.length_range]
  by_cases hn:m * n + m = j
  ·subst hn
   rw [if_pos rfl,if_pos hlt,hd,hm,if_pos ⟨rfl,by omega⟩]
  ·rw [if_neg hn]
   congr 1
   by_cases h1:j / n = j % n/\j / n < m
   ·rw [if_pos h1,if_pos ⟨h1.1,by omega⟩]
   ·rw [if_neg h1,if_neg]
    rintro ⟨e1,e2⟩
    have:j / n = m:=by
     rcases Nat.lt_or_ge (j / n) m with h | h
     ·exact (h1 ⟨e1,h⟩).elim
     ·omega
    have hdm:=Nat.div_add_mod j n
    rw [<- e1,this,Nat.mul_comm] at hdm
    exact hn hdm
 ·rw [if_neg (by omega)]; simp [qa9,hj]
theorem q5v {l:List Int} {L o n:Nat} (h:o + n <= L):seg (l.take L) o n = seg l o n:=by
 apply List.ext_getElem?
 intro j
 rw [qfx,qfx]
 by_cases hj:j < n
 ·rw [if_pos hj,if_pos hj,List.getElem?_take,if_pos (by omega)]
 ·rw [if_neg hj,if_neg hj]
theorem q1f {a b:List Int} {ra ca cb i l:Nat} (h:l < ca):qc5 a b ra ca cb (i * ca + l + 1) = qag (qc5 a b ra ca cb (i * ca + l)) (i * cb) (seg b (l * cb) cb) (a.getD (i * ca + l) 0):=by
 obtain ⟨hd,hm⟩:=qrb (i:=i) h
 rw [qc5,hd,hm]
theorem qsn {r c l cap:Int} {d:qe} {e:Int} {k:IntKind} {z:Int} (h:qfg r c l cap d) (h0:0 <= z) (h1:z < 256):qfg r c l cap (qcc d e 0 [.int k z]):=by
 obtain ⟨a1,a2,a3,a4,a5,a6,a7,a8⟩:=h
 exact ⟨a1,a2,a3,a4,a5,a6,by rw [qfp]; exact a7,qkg a8 h0 h1⟩
theorem qyE {a e:Int} (a0:0 <= a) (a1:a < 256):0 <= qhu a e/\qhu a e < 256:=by
 unfold qhu
 split
 ·omega
 ·split
  ·omega
  ·obtain ⟨l0,l1⟩:=qcL a0 a1
   have hr0:0 <= e.tmod 255:=Int.tmod_nonneg _ (by omega)
   have hb:0 <= qbu a.toNat * e.tmod 255:=Int.mul_nonneg l0 hr0
   have h3:0 <= (qbu a.toNat * e.tmod 255).tmod 255:=Int.tmod_nonneg _ hb
   have h4:(qbu a.toNat * e.tmod 255).tmod 255 < 255:=Int.tmod_lt_of_pos _ (by omega)
   have:=qkB (i:=((qbu a.toNat * e.tmod 255).tmod 255).toNat) (by omega)
   omega
theorem qyO:qdy.ok Tryz.prog:=qyK (by simp [qlD]) fun ρ hg hp=>by
 simp [ql4,qdy,qnM,qaT]
 refine ⟨fun h=>.inl h,fun h1=>⟨fun h=>.inr h,fun h2=>⟨⟨by omega,h2,by omega,h2⟩,fun l _ cp _ d _ hl hc hd=>⟨⟨h1,h2,by omega,?_⟩,fun i _ l' _ c' _ d' _ _ _ i0 i1 hM hL hB=>⟨fun hi=>?_,fun hi=>?_⟩⟩⟩⟩⟩
 ·have hb:=qao (x:=(ρ 0).i) (y:=(ρ 0).i) (by omega) h2 (by omega) h2
  refine ⟨⟨by omega,h2,by omega,h2,hl,by omega,by rw [hd,List.length_replicate]; omega,by rw [hd]; exact qim⟩,by rw [hd,List.length_replicate]; omega,?_⟩
  rw [hd,qlu,qwi,hl,Int.toNat_mul (by omega) (by omega)]
 ·have hM':=hM
  obtain ⟨a1,a2,a3,a4,a5,a6,a7,a8⟩:=hM
  have hb:=qao (x:=i.i) (y:=(ρ 0).i) i0 (show i.i <= 255 by omega) (by omega) h2
  have hlt:i.i * (ρ 0).i + i.i < (ρ 0).i * (ρ 0).i:=by
   have:=Int.mul_le_mul_of_nonneg_right (show i.i + 1 <= (ρ 0).i by omega) (show 0 <= (ρ 0).i by omega)
   rw [Int.add_mul,Int.one_mul] at this; omega
  rw [qc2 (by omega) (by omega),add64 (by omega) (by omega),add64 (by omega) (by omega)]
  refine ⟨by omega,by omega,by omega,⟨h1,h2,by omega,by omega,qsn hM' (by decide) (by decide),by rw [qfp]; exact hL,?_⟩,by omega⟩
  rw [qlp,hB,show (i.i + 1).toNat = i.i.toNat + 1 by omega,qv3 (by omega)]
  congr 1
  rw [Int.toNat_add hb.1 i0,Int.toNat_mul i0 (by omega)]
 ·have:i.i = (ρ 0).i:=by omega
  rw [this] at hB
  exact ⟨h1,h2,hM,hL,hB⟩
theorem qwC:qcO.ok Tryz.prog:=qxs (by simp [qlD,q6d]) fun ρ hg hp=>by
 have hf:qw (ρ 1).d:=hp
 simp [qkS,qcO,ql2,qmx,qqX,qaT,qeO]
 have hne:=(qcm hf).1
 refine ⟨fun h=>(hne h).elim,fun _=>⟨fun h=>⟨hf,.inl h⟩,fun r1=>⟨fun h=>⟨hf,.inr (.inl h)⟩,fun r2=>⟨fun h=>⟨hf,.inr (.inr (.inl h))⟩,fun c1=>⟨fun h=>⟨hf,.inr (.inr (.inr h))⟩,fun c2=>?_⟩⟩⟩⟩⟩
 have hnb:¬ qcH (ρ 2).i (ρ 3).i:=by unfold qcH; omega
 have hb:=qao (x:=(ρ 2).i) (y:=(ρ 3).i) (by omega) r2 (by omega) c2
 refine ⟨⟨by omega,r2,by omega,c2⟩,fun l _ cp _ d _ hl hc hd=>⟨⟨by omega,hnb,hf,?_⟩,fun i _ l' _ c' _ d' _ fd _ i0 i1 _ hfd hM hL hB=>⟨fun hi=>⟨⟨i0,hi,by omega,hnb,hfd,hM,hL,hB⟩,fun i' _ l2 _ cp2 _ d2 _ fd2 _ j _ i0' i1' j0 j1 _ hfd2 hM2 hL2 hB2 hii=>⟨fun hj=>?_,fun hj=>?_⟩⟩,fun hi=>?_⟩⟩⟩
 ·refine ⟨⟨by omega,r2,by omega,c2,hl,by omega,by rw [hd,List.length_replicate]; omega,by rw [hd]; exact qim⟩,by rw [hd,List.length_replicate]; omega,?_⟩
  rw [hd,qlu,qxL,hl,Int.toNat_mul (by omega) (by omega)]
 ·have hw:IntKind.u8.wrap i'.i = i'.i:=by simp [IntKind.wrap,IntKind.bits,IntKind.signed]; omega
  rw [hw]
  have hM2':=hM2
  obtain ⟨a1,a2,a3,a4,a5,a6,a7,a8⟩:=hM2
  have hb2:=qao (x:=i'.i) (y:=(ρ 3).i) i0' (show i'.i <= 255 by omega) (by omega) c2
  have hlt:i'.i * (ρ 3).i + j.i < (ρ 2).i * (ρ 3).i:=by
   have:=Int.mul_le_mul_of_nonneg_right (show i'.i + 1 <= (ρ 2).i by omega) (show 0 <= (ρ 3).i by omega)
   rw [Int.add_mul,Int.one_mul] at this; omega
  refine ⟨⟨hfd2,i0',by omega,by omega⟩,fun p _ fd3 _ hf3 hpw=>?_⟩
  rw [qc2 (by omega) (by omega),add64 (by omega) (by omega),add64 (by omega) (by omega)]
  have hpr:=qyE (e:=j.i) i0' (show i'.i < 256 by omega)
  refine ⟨by omega,by omega,by omega,⟨i0',i1',by omega,by omega,⟨hnb,hf3,qsn hM2' (by rw [hpw]; exact hpr.1) (by rw [hpw]; exact hpr.2),by rw [qfp]; exact hL2,?_⟩,hii⟩,by omega⟩
  have ht:(i'.i * (ρ 3).i + j.i).toNat = i'.i.toNat * (ρ 3).i.toNat + j.i.toNat:=by rw [Int.toNat_add hb2.1 j0,Int.toNat_mul i0' (by omega)]
  rw [qlp,hB2,show (i'.i * (ρ 3).i + (j.i + 1)).toNat = (i'.i * (ρ 3).i + j.i).toNat + 1 by omega,qxo (by rw [<- Int.toNat_mul (by omega) (by omega)]; omega)]
  congr 1
  obtain ⟨e1,e2⟩:=qrb (i:=i'.i.toNat) (n:=(ρ 3).i.toNat) (l:=j.i.toNat) (by omega)
  rw [ht,qmC,e1,e2,hpw,Int.toNat_of_nonneg i0',Int.toNat_of_nonneg j0]
 ·have hj':j.i = (ρ 3).i:=by omega
  rw [add64 (by omega) (by omega)]
  rw [hj',show i'.i * (ρ 3).i + (ρ 3).i = (i'.i + 1) * (ρ 3).i by rw [Int.add_mul,Int.one_mul]] at hB2
  exact ⟨⟨by omega,by omega,hnb,hfd2,hM2,hL2,hB2⟩,by omega⟩
 ·have:i.i = (ρ 2).i:=by omega
  rw [this,Int.toNat_mul (by omega) (by omega)] at hB
  exact ⟨hfd,hnb,hM,hL,hB⟩
theorem q2O:qdD.ok Tryz.prog:=q3B (by simp [qp9,qlD,qok,qo3]) fun ρ hg hp=>by
 obtain ⟨hf,la0,la1,la2,hBa,lb0,lb1,lb2,hBb⟩:=hp
 have hne:=(qcm hf).1
 simp [qnZ,qdD,qrS,qqE,qrD,qbx,qaT,qb4,qb5]
 refine ⟨fun h=>(hne h).elim,fun _=>⟨la0,fun v1 _ hv1=>⟨fun hb=>⟨hf,fun h=>?_⟩,fun hb=>⟨lb0,fun v2 _ hv2=>⟨fun hb2=>⟨hf,fun _ h=>?_⟩,fun hb2=>?_⟩⟩⟩⟩⟩
 ·have:=hv1.2 h
  rw [hb] at this; cases this
 ·have:=hv2.2 h
  rw [hb2] at this; cases this
 have vA:qbm (ρ 2).i (ρ 3).i (ρ 5).i:=hv1.1 hb
 have vB:qbm (ρ 9).i (ρ 10).i (ρ 12).i:=hv2.1 hb2
 refine ⟨fun h=>⟨hf,vA,vB,h⟩,fun hcr=>?_⟩
 obtain ⟨ra1,ra2,ca1,ca2,hla⟩:=vA
 obtain ⟨rb1,rb2,cb1,cb2,hlb⟩:=vB
 have mA:qfg (ρ 2).i (ρ 3).i (ρ 5).i (ρ 6).i (ρ 7).d:=⟨by omega,ra2,by omega,ca2,hla,la1,la2,hBa⟩
 have mB:qfg (ρ 9).i (ρ 10).i (ρ 12).i (ρ 13).i (ρ 14).d:=⟨by omega,rb2,by omega,cb2,hlb,lb1,lb2,hBb⟩
 have hbA:=qao (x:=(ρ 2).i) (y:=(ρ 3).i) (by omega) ra2 (by omega) ca2
 have hbP:=qao (x:=(ρ 2).i) (y:=(ρ 10).i) (by omega) ra2 (by omega) cb2
 refine ⟨⟨by omega,ra2,by omega,cb2⟩,fun l _ cp _ d _ hl hc hd=>⟨⟨by omega,hv1.1 hb,hv2.1 hb2,hcr,hf,?_⟩,fun i _ l' _ c' _ d' _ fd _ i0 i1 _ _ _ hfd hM hL hB=>⟨fun hi=>⟨⟨i0,hi,mA⟩,fun o1 _ n1 _ k1 _ ho1 hn1 hk1=>⟨by omega,⟨i0,hi,by omega,ho1,hn1,hv1.1 hb,hv2.1 hb2,hcr,hfd,hM,hL,hB⟩,?_⟩⟩,fun hi=>?_⟩⟩⟩
 ·refine ⟨⟨by omega,ra2,by omega,cb2,hl,by omega,by rw [hd,List.length_replicate]; omega,by rw [hd]; exact qim⟩,by rw [hd,List.length_replicate]; omega,?_⟩
  rw [hd,qlu,qc5,hl,Int.toNat_mul (by omega) (by omega)]
 ·intro i' _ l2 _ cp2 _ d2 _ fd2 _ j _ o2 _ n2 _ i0' i1' j0 j1 ho2 hn2 _ _ _ hfd2 hM2 hL2 hB2 hii
  refine ⟨fun hj=>?_,fun hj=>?_⟩
  ·have hjc:j.i < (ρ 3).i:=by omega
   have hbi:=qao (x:=i'.i) (y:=(ρ 3).i) i0' (show i'.i <= 255 by omega) (by omega) ca2
   have hbo:=qao (x:=i'.i) (y:=(ρ 10).i) i0' (show i'.i <= 255 by omega) (by omega) cb2
   have hbj:=qao (x:=j.i) (y:=(ρ 10).i) j0 (show j.i <= 255 by omega) (by omega) cb2
   have hltA:i'.i * (ρ 3).i + j.i < (ρ 2).i * (ρ 3).i:=by
    have:=Int.mul_le_mul_of_nonneg_right (show i'.i + 1 <= (ρ 2).i by omega) (show 0 <= (ρ 3).i by omega)
    rw [Int.add_mul,Int.one_mul] at this; omega
   have hltP:i'.i * (ρ 10).i + (ρ 10).i <= (ρ 2).i * (ρ 10).i:=by
    have:=Int.mul_le_mul_of_nonneg_right (show i'.i + 1 <= (ρ 2).i by omega) (show 0 <= (ρ 10).i by omega)
    rw [Int.add_mul,Int.one_mul] at this; omega
   have hltB:j.i * (ρ 10).i + (ρ 10).i <= (ρ 9).i * (ρ 10).i:=by
    have:=Int.mul_le_mul_of_nonneg_right (show j.i + 1 <= (ρ 9).i by omega) (show 0 <= (ρ 10).i by omega)
    rw [Int.add_mul,Int.one_mul] at this; omega
   have hM2':=hM2
   obtain ⟨a1,a2,a3,a4,a5,a6,a7,a8⟩:=hM2
   have hcell:=qdp hBa (i:=i'.i * (ρ 3).i + j.i) (by omega) (by omega)
   rw [ho2]
   refine ⟨j0,by omega,by omega,by omega,⟨i0',i1',hM2'⟩,fun o3 _ n3 _ k3 _ ho3 hn3 hk3=>⟨⟨j0,by omega,mB⟩,fun o4 _ n4 _ k4 _ ho4 hn4 hk4=>⟨⟨hfd2,⟨by omega,by omega,by omega,by unfold Go.Eng.big; omega⟩,⟨by omega,by omega,by omega,by unfold Go.Eng.big; omega⟩,by omega,a8,hBb,hcell⟩,fun fd5 _ d5 _ hf5 hl5 hB5 he5=>?_⟩⟩⟩
   rw [add64 (by omega) (by omega)]
   refine ⟨⟨i0',i1',by omega,by omega,rfl,hn2,⟨hv1.1 hb,hv2.1 hb2,hcr,hf5,⟨a1,a2,a3,a4,a5,a6,by omega,hB5⟩,by omega,?_⟩,hii⟩,by omega⟩
   have ht:(i'.i * (ρ 3).i + j.i).toNat = i'.i.toNat * (ρ 3).i.toNat + j.i.toNat:=by rw [Int.toNat_add hbi.1 j0,Int.toNat_mul i0' (by omega)]
   have hget:=qgf (d:=(ρ 7).d) (i:=i'.i * (ρ 3).i + j.i) (by omega) (by omega)
   rw [he5,hB2,show (i'.i * (ρ 3).i + (j.i + 1)).toNat = (i'.i * (ρ 3).i + j.i).toNat + 1 by omega,ht,q1f (by omega)]
   have e1:o3.i.toNat = i'.i.toNat * (ρ 10).i.toNat:=by rw [ho3,Int.toNat_mul i0' (by omega)]
   have e2:o4.i.toNat = j.i.toNat * (ρ 10).i.toNat:=by rw [ho4,Int.toNat_mul j0 (by omega)]
   have e3:((bI (ρ 7).d).take (ρ 5).i.toNat).getD (i'.i.toNat * (ρ 3).i.toNat + j.i.toNat) 0 = qg (ρ 7).d (i'.i * (ρ 3).i + j.i) 0:=by
    rw [List.getD_eq_getElem?_getD,List.getElem?_take,if_pos (by rw [<- ht]; omega),<- ht,hget]; rfl
   rw [e3,e1,e2,hn4,q5v (by rw [<- e2]; omega)]
  ·have hj':j.i = (ρ 3).i:=by omega
   rw [add64 (by omega) (by omega)]
   rw [hj',show i'.i * (ρ 3).i + (ρ 3).i = (i'.i + 1) * (ρ 3).i by rw [Int.add_mul,Int.one_mul]] at hB2
   exact ⟨⟨by omega,by omega,hv1.1 hb,hv2.1 hb2,hcr,hfd2,hM2,hL2,hB2⟩,by omega⟩
 ·have:i.i = (ρ 2).i:=by omega
  rw [this,Int.toNat_mul (by omega) (by omega)] at hB
  exact ⟨hfd,hv1.1 hb,hv2.1 hb2,hcr,hM,hL,hB⟩
end Go.Proofs

set_option linter.unusedSimpArgs false
set_option linter.unusedVariables false
set_option maxRecDepth 100000
namespace Go.Proofs
open Go Go.Eng

@[simp] def qgT:Sg:=sg 0 [bv 6 8,bv 5 30,bv 7 25,bv 4 6,bv 3 5,bg 2 4,bv 1 3,bv 0 2]
@[simp] def qgM:Sg:=sg 0 [bv 6 15,bv 5 31,bv 7 25,bv 4 13,bv 3 12,bg 2 11,bv 1 10,bv 0 9]
@[simp] def qpC:Sg:=sg 0 [bv 1 27,bt 2 (.icell (.var 30) (.arith .add .i64 (.arith .mul .i64 (.var 25) (.var 3)) (.var 26)) 0),bg 0 0]
@[simp] def qoV:Sg:=sg 0 [bv 1 47,bt 2 (.icell (.var 40) (.arith .add .i64 (.arith .mul .i64 (.var 25) (.var 3)) (.var 26)) 0),bg 0 0]
@[simp] def qoR:Sg:=sg 0 [bv 7 8,bv 6 30,bv 1 27,bt 11 (.lit 1),bv 10 38,bv 9 37,bv 8 36,bv 5 35,bv 4 34,bv 3 33,bg 2 4,bg 0 0]
@[simp] def qoS:Sg:=sg 0 [bv 7 15,bv 6 31,bv 1 39,bt 11 (.lit 1),bv 10 46,bv 9 45,bv 8 44,bv 5 43,bv 4 42,bv 3 41,bg 2 11,bg 0 0]
@[simp] def qoG:Sg:=sg 0 [bv 7 8,bv 6 51,bv 1 48,bt 11 (.icell (.var 51) (.arith .add .i64 (.arith .mul .i64 (.var 53) (.var 3)) (.var 47)) 0),bv 10 59,bv 9 58,bv 8 57,bv 5 56,bv 4 55,bv 3 54,bg 2 4,bg 0 0]
@[simp] def qqf:Sg:=sg 0 [bv 7 8,bv 6 67,bv 1 64,bt 11 (.icell (.var 67) (.arith .add .i64 (.arith .mul .i64 (.var 69) (.var 3)) (.var 63)) 0),bv 10 75,bv 9 74,bv 8 73,bv 5 72,bv 4 71,bv 3 70,bg 2 4,bg 0 0]
@[simp] def qpK:Sg:=sg 0 [bv 7 15,bv 6 52,bv 1 60,bt 11 (.icell (.var 51) (.arith .add .i64 (.arith .mul .i64 (.var 53) (.var 3)) (.var 47)) 0),bv 10 67,bv 9 66,bv 8 65,bv 5 64,bv 4 63,bv 3 62,bg 2 11,bg 0 0]
@[simp] def qoN:Sg:=sg 0 [bv 7 15,bv 6 68,bv 1 76,bt 11 (.icell (.var 67) (.arith .add .i64 (.arith .mul .i64 (.var 69) (.var 3)) (.var 63)) 0),bv 10 83,bv 9 82,bv 8 81,bv 5 80,bv 4 79,bv 3 78,bg 2 11,bg 0 0]
@[simp] def qoO:Out:=.br (.cmp .eql (.var 32) (.var 2))
 (.back 0 18 (sg 1000 [bv 1006 31,bv 1005 30,bv 1002 27,bt 1001 (.arith .add .i64 (.var 26) (.lit 1)),bv 1000 25,bg 1004 29,bg 1003 28]))
 (.br (.cmp .neq (.var 32) (.var 25))
 (.both (.pre 0 qgT (.both (.fresh 33 (.fresh 34 (.fresh 35 (.post 0 0 qgT 33 (.both (.pre 0 (sg 0 [bv 6 8,bv 5 30,bv 7 32,bv 4 6,bv 3 5,bg 2 4,bv 1 3,bv 0 2]) (.both (.fresh 36 (.fresh 37 (.fresh 38 (.post 0 0 (sg 0 [bv 6 8,bv 5 30,bv 7 32,bv 4 6,bv 3 5,bg 2 4,bv 1 3,bv 0 2]) 36 (.both (.pre 2 qoR (.both (.fresh 39 (.fresh 40 (.post 2 0 qoR 39 (.both (.pre 0 qgM (.both (.fresh 41 (.fresh 42 (.fresh 43 (.post 0 0 qgM 41 (.both (.pre 0 (sg 0 [bv 6 15,bv 5 31,bv 7 32,bv 4 13,bv 3 12,bg 2 11,bv 1 10,bv 0 9]) (.both (.fresh 44 (.fresh 45 (.fresh 46 (.post 0 0 (sg 0 [bv 6 15,bv 5 31,bv 7 32,bv 4 13,bv 3 12,bg 2 11,bv 1 10,bv 0 9]) 44 (.both (.pre 2 qoS (.both (.fresh 47 (.fresh 48 (.post 2 0 qoS 47 (.need (.cmp .leq (.lit 0) (.arith .add .i64 (.arith .mul .i64 (.var 25) (.var 3)) (.var 26))) (.need (.cmp .lss (.arith .add .i64 (.arith .mul .i64 (.var 25) (.var 3)) (.var 26)) (.var 5)) (.need (.cmp .lss (.arith .add .i64 (.arith .mul .i64 (.var 25) (.var 3)) (.var 26)) (.dlen (.var 40))) (.pre 3 qoV (.both (.fresh 49 (.fresh 50 (.fresh 51 (.post 3 0 qoV 49 (.pre 0 (sg 0 [bv 6 8,bv 5 40,bv 7 25,bv 4 6,bv 3 5,bg 2 4,bv 1 3,bv 0 2]) (.both (.fresh 52 (.fresh 53 (.fresh 54 (.post 0 0 (sg 0 [bv 6 8,bv 5 40,bv 7 25,bv 4 6,bv 3 5,bg 2 4,bv 1 3,bv 0 2]) 52 (.pre 4 (sg 0 [bv 7 8,bv 6 40,bv 1 51,bv 8 49,bv 5 54,bv 4 53,bv 3 52,bg 2 4,bg 0 0]) (.both (.fresh 55 (.fresh 56 (.post 4 0 (sg 0 [bv 7 8,bv 6 40,bv 1 51,bv 8 49,bv 5 54,bv 4 53,bv 3 52,bg 2 4,bg 0 0]) 55 (.pre 0 (sg 0 [bv 6 15,bv 5 48,bv 7 25,bv 4 13,bv 3 12,bg 2 11,bv 1 10,bv 0 9]) (.both (.fresh 57 (.fresh 58 (.fresh 59 (.post 0 0 (sg 0 [bv 6 15,bv 5 48,bv 7 25,bv 4 13,bv 3 12,bg 2 11,bv 1 10,bv 0 9]) 57 (.pre 4 (sg 0 [bv 7 15,bv 6 48,bv 1 55,bv 8 49,bv 5 59,bv 4 58,bv 3 57,bg 2 11,bg 0 0]) (.both (.fresh 60 (.fresh 61 (.post 4 0 (sg 0 [bv 7 15,bv 6 48,bv 1 55,bv 8 49,bv 5 59,bv 4 58,bv 3 57,bg 2 11,bg 0 0]) 60 (.inv 2 62 (sg 1000 [bv 1006 61,bv 1005 56,bv 1002 60,bt 1007 (.lit 0),bv 1001 26,bv 1000 25,bg 1004 29,bg 1003 28]) (.fresh 62 (.fresh 63 (.fresh 64 (.fresh 65 (.fresh 66 (.fresh 67 (.fresh 68 (.fresh 69 (.hyp 2 62 (.br (.cmp .lss (.var 69) (.var 2))
 (.need (.cmp .leq (.lit 0) (.arith .add .i64 (.arith .mul .i64 (.var 69) (.var 3)) (.var 63))) (.need (.cmp .lss (.arith .add .i64 (.arith .mul .i64 (.var 69) (.var 3)) (.var 63)) (.var 5)) (.need (.cmp .lss (.arith .add .i64 (.arith .mul .i64 (.var 69) (.var 3)) (.var 63)) (.dlen (.var 67))) (.br (.cmp .neq (.var 69) (.var 62))
 (.both (.pre 0 (sg 0 [bv 6 8,bv 5 67,bv 7 69,bv 4 6,bv 3 5,bg 2 4,bv 1 3,bv 0 2]) (.both (.fresh 70 (.fresh 71 (.fresh 72 (.post 0 0 (sg 0 [bv 6 8,bv 5 67,bv 7 69,bv 4 6,bv 3 5,bg 2 4,bv 1 3,bv 0 2]) 70 (.both (.pre 0 (sg 0 [bv 6 8,bv 5 67,bv 7 62,bv 4 6,bv 3 5,bg 2 4,bv 1 3,bv 0 2]) (.both (.fresh 73 (.fresh 74 (.fresh 75 (.post 0 0 (sg 0 [bv 6 8,bv 5 67,bv 7 62,bv 4 6,bv 3 5,bg 2 4,bv 1 3,bv 0 2]) 73 (.both (.pre 2 qqf (.both (.fresh 76 (.fresh 77 (.post 2 0 qqf 76 (.both (.pre 0 (sg 0 [bv 6 15,bv 5 68,bv 7 69,bv 4 13,bv 3 12,bg 2 11,bv 1 10,bv 0 9]) (.both (.fresh 78 (.fresh 79 (.fresh 80 (.post 0 0 (sg 0 [bv 6 15,bv 5 68,bv 7 69,bv 4 13,bv 3 12,bg 2 11,bv 1 10,bv 0 9]) 78 (.both (.pre 0 (sg 0 [bv 6 15,bv 5 68,bv 7 62,bv 4 13,bv 3 12,bg 2 11,bv 1 10,bv 0 9]) (.both (.fresh 81 (.fresh 82 (.fresh 83 (.post 0 0 (sg 0 [bv 6 15,bv 5 68,bv 7 62,bv 4 13,bv 3 12,bg 2 11,bv 1 10,bv 0 9]) 81 (.both (.pre 2 qoN (.both (.fresh 84 (.fresh 85 (.post 2 0 qoN 84 (.back 2 62 (sg 1000 [bv 1006 85,bv 1005 77,bv 1002 84,bt 1007 (.arith .add .i64 (.var 69) (.lit 1)),bv 1001 63,bv 1000 62,bg 1004 66,bg 1003 65]))))) .top)) .top))))) .top)) .top))))) .top)) .top)))) .top)) .top))))) .top)) .top))))) .top)) .top)
 (.back 2 62 (sg 1000 [bv 1006 68,bv 1005 67,bv 1002 64,bt 1007 (.arith .add .i64 (.var 69) (.lit 1)),bv 1001 63,bv 1000 62,bg 1004 66,bg 1003 65]))))))
 (.back 0 18 (sg 1000 [bv 1006 68,bv 1005 67,bv 1002 64,bt 1001 (.arith .add .i64 (.var 63) (.lit 1)),bt 1000 (.arith .add .i64 (.var 62) (.lit 1)),bg 1004 66,bg 1003 65])))))))))))))))) .top)))))) .top))))) .top)))))) .top)))))) .top)))))))) .top)) .top))))) .top)) .top))))) .top)) .top)))) .top)) .top))))) .top)) .top))))) .top)) .top)
 (.need (.cmp .leq (.lit 0) (.arith .add .i64 (.arith .mul .i64 (.var 25) (.var 3)) (.var 26))) (.need (.cmp .lss (.arith .add .i64 (.arith .mul .i64 (.var 25) (.var 3)) (.var 26)) (.var 5)) (.need (.cmp .lss (.arith .add .i64 (.arith .mul .i64 (.var 25) (.var 3)) (.var 26)) (.dlen (.var 30))) (.pre 3 qpC (.both (.fresh 33 (.fresh 34 (.fresh 35 (.post 3 0 qpC 33 (.pre 0 qgT (.both (.fresh 36 (.fresh 37 (.fresh 38 (.post 0 0 qgT 36 (.pre 4 (sg 0 [bv 7 8,bv 6 30,bv 1 35,bv 8 33,bv 5 38,bv 4 37,bv 3 36,bg 2 4,bg 0 0]) (.both (.fresh 39 (.fresh 40 (.post 4 0 (sg 0 [bv 7 8,bv 6 30,bv 1 35,bv 8 33,bv 5 38,bv 4 37,bv 3 36,bg 2 4,bg 0 0]) 39 (.pre 0 qgM (.both (.fresh 41 (.fresh 42 (.fresh 43 (.post 0 0 qgM 41 (.pre 4 (sg 0 [bv 7 15,bv 6 31,bv 1 39,bv 8 33,bv 5 43,bv 4 42,bv 3 41,bg 2 11,bg 0 0]) (.both (.fresh 44 (.fresh 45 (.post 4 0 (sg 0 [bv 7 15,bv 6 31,bv 1 39,bv 8 33,bv 5 43,bv 4 42,bv 3 41,bg 2 11,bg 0 0]) 44 (.inv 2 46 (sg 1000 [bv 1006 45,bv 1005 40,bv 1002 44,bt 1007 (.lit 0),bv 1001 26,bv 1000 25,bg 1004 29,bg 1003 28]) (.fresh 46 (.fresh 47 (.fresh 48 (.fresh 49 (.fresh 50 (.fresh 51 (.fresh 52 (.fresh 53 (.hyp 2 46 (.br (.cmp .lss (.var 53) (.var 2))
 (.need (.cmp .leq (.lit 0) (.arith .add .i64 (.arith .mul .i64 (.var 53) (.var 3)) (.var 47))) (.need (.cmp .lss (.arith .add .i64 (.arith .mul .i64 (.var 53) (.var 3)) (.var 47)) (.var 5)) (.need (.cmp .lss (.arith .add .i64 (.arith .mul .i64 (.var 53) (.var 3)) (.var 47)) (.dlen (.var 51))) (.br (.cmp .neq (.var 53) (.var 46))
 (.both (.pre 0 (sg 0 [bv 6 8,bv 5 51,bv 7 53,bv 4 6,bv 3 5,bg 2 4,bv 1 3,bv 0 2]) (.both (.fresh 54 (.fresh 55 (.fresh 56 (.post 0 0 (sg 0 [bv 6 8,bv 5 51,bv 7 53,bv 4 6,bv 3 5,bg 2 4,bv 1 3,bv 0 2]) 54 (.both (.pre 0 (sg 0 [bv 6 8,bv 5 51,bv 7 46,bv 4 6,bv 3 5,bg 2 4,bv 1 3,bv 0 2]) (.both (.fresh 57 (.fresh 58 (.fresh 59 (.post 0 0 (sg 0 [bv 6 8,bv 5 51,bv 7 46,bv 4 6,bv 3 5,bg 2 4,bv 1 3,bv 0 2]) 57 (.both (.pre 2 qoG (.both (.fresh 60 (.fresh 61 (.post 2 0 qoG 60 (.both (.pre 0 (sg 0 [bv 6 15,bv 5 52,bv 7 53,bv 4 13,bv 3 12,bg 2 11,bv 1 10,bv 0 9]) (.both (.fresh 62 (.fresh 63 (.fresh 64 (.post 0 0 (sg 0 [bv 6 15,bv 5 52,bv 7 53,bv 4 13,bv 3 12,bg 2 11,bv 1 10,bv 0 9]) 62 (.both (.pre 0 (sg 0 [bv 6 15,bv 5 52,bv 7 46,bv 4 13,bv 3 12,bg 2 11,bv 1 10,bv 0 9]) (.both (.fresh 65 (.fresh 66 (.fresh 67 (.post 0 0 (sg 0 [bv 6 15,bv 5 52,bv 7 46,bv 4 13,bv 3 12,bg 2 11,bv 1 10,bv 0 9]) 65 (.both (.pre 2 qpK (.both (.fresh 68 (.fresh 69 (.post 2 0 qpK 68 (.back 2 46 (sg 1000 [bv 1006 69,bv 1005 61,bv 1002 68,bt 1007 (.arith .add .i64 (.var 53) (.lit 1)),bv 1001 47,bv 1000 46,bg 1004 50,bg 1003 49]))))) .top)) .top))))) .top)) .top))))) .top)) .top)))) .top)) .top))))) .top)) .top))))) .top)) .top)
 (.back 2 46 (sg 1000 [bv 1006 52,bv 1005 51,bv 1002 48,bt 1007 (.arith .add .i64 (.var 53) (.lit 1)),bv 1001 47,bv 1000 46,bg 1004 50,bg 1003 49]))))))
 (.back 0 18 (sg 1000 [bv 1006 52,bv 1005 51,bv 1002 48,bt 1001 (.arith .add .i64 (.var 47) (.lit 1)),bt 1000 (.arith .add .i64 (.var 46) (.lit 1)),bg 1004 50,bg 1003 49])))))))))))))))) .top)))))) .top))))) .top)))))) .top)))))) .top))))))
def qnJ:Out:=(.fresh 16 (.fresh 17 (.inv 0 18 (sg 1000 [bv 1006 14,bv 1005 7,bv 1002 1,bt 1001 (.lit 0),bt 1000 (.lit 0),bg 1004 17,bg 1003 16]) (.fresh 18 (.fresh 19 (.fresh 20 (.fresh 21 (.fresh 22 (.fresh 23 (.fresh 24 (.hyp 0 18 (.br (.cmp .lss (.var 19) (.var 3))
 (.br (.cmp .lss (.var 18) (.var 2))
 (.inv 1 25 (sg 1000 [bv 1006 24,bv 1005 23,bv 1002 20,bv 1007 18,bv 1001 19,bv 1000 18,bg 1004 22,bg 1003 21]) (.fresh 25 (.fresh 26 (.fresh 27 (.fresh 28 (.fresh 29 (.fresh 30 (.fresh 31 (.fresh 32 (.hyp 1 25 (.br (.cmp .lss (.var 32) (.var 2))
 (.need (.cmp .leq (.lit 0) (.arith .add .i64 (.arith .mul .i64 (.var 32) (.var 3)) (.var 26))) (.need (.cmp .lss (.arith .add .i64 (.arith .mul .i64 (.var 32) (.var 3)) (.var 26)) (.var 5)) (.need (.cmp .lss (.arith .add .i64 (.arith .mul .i64 (.var 32) (.var 3)) (.var 26)) (.dlen (.var 30))) (.br (.cmp .eql (.icell (.var 30) (.arith .add .i64 (.arith .mul .i64 (.var 32) (.var 3)) (.var 26)) 0) (.lit 0))
 (.back 1 25 (sg 1000 [bv 1006 31,bv 1005 30,bv 1002 27,bt 1007 (.arith .add .i64 (.var 32) (.lit 1)),bv 1001 26,bv 1000 25,bg 1004 29,bg 1003 28]))
 qoO))))
 qoO)))))))))))
 (.ret 0 (sg 16 [bv 19 24,bv 18 23,bv 17 20,bv 16 18])))
 (.ret 0 (sg 16 [bv 19 24,bv 18 23,bv 17 20,bv 16 18]))))))))))))))
theorem qwU:qk ⟨Tryz.prog,qdJ,[qb4,qb5,qeL,qeP,qfe],[qqZ,qrs,qrL]⟩ 100000 Tryz.f167 = qnJ:=by kernel_rfl
theorem q1P (hd:∀ c ∈ ([qb4,qb5,qeL,qeP,qfe]:List Ctr),c.ok Tryz.prog) (h:∀ ρ:Env,ρ.good->(qdJ).pre ρ->qnJ.den ⟨Tryz.prog,qdJ,[qb4,qb5,qeL,qeP,qfe],[qqZ,qrs,qrL]⟩ ρ):(qdJ).ok Tryz.prog :=
 qf Tryz.func167 (fun a w=>Tryz.call167 a w) hd 100000 (fun ρ hg hp=>by rw [qwU]; exact h ρ hg hp)
@[simp] def qkY:Sg:=sg 0 [bv 15 14,bv 14 15,bv 8 18,bv 7 19,bv 1 1,bv 13 14,bv 12 13,bg 11 12,bv 10 2,bv 9 2,bv 6 18,bv 5 5,bg 4 17,bv 3 3,bv 2 2,bg 0 0]
def qjq:Out:=(.fresh 9 (.fresh 10 (.br (.and (.cmp .eql (.dlen (.var 1)) (.lit 0)) (.isnil 0))
 (.ret 0 (sg 9 [bv 10 1,bt 9 (.lit 1)]))
 (.pre 0 (sg 0 [bv 6 8,bv 5 7,bv 4 6,bv 3 5,bg 2 4,bv 1 3,bv 0 2]) (.both (.fresh 11 (.post 0 0 (sg 0 [bv 6 8,bv 5 7,bv 4 6,bv 3 5,bg 2 4,bv 1 3,bv 0 2]) 11 (.br (.not (.var 11))
 (.ret 0 (sg 9 [bv 10 1,bt 9 (.lit 2)]))
 (.br (.cmp .neq (.var 2) (.var 3))
 (.ret 0 (sg 9 [bv 10 1,bt 9 (.lit 10)]))
 (.pre 1 (sg 0 [bv 0 2]) (.both (.fresh 12 (.fresh 13 (.fresh 14 (.fresh 15 (.post 1 0 (sg 0 [bv 0 2]) 12 (.fresh 16 (.both (.pre 2 (sg 0 [bv 6 8,bv 5 7,bv 4 6,bv 3 5,bg 2 4,bv 1 3,bv 0 2]) (.both (.fresh 17 (.fresh 18 (.fresh 19 (.post 2 0 (sg 0 [bv 6 8,bv 5 7,bv 4 6,bv 3 5,bg 2 4,bv 1 3,bv 0 2]) 17 (.both (.pre 3 qkY (.both (.fresh 20 (.fresh 21 (.fresh 22 (.fresh 23 (.post 3 0 qkY 20 (.br (.cmp .lss (.var 20) (.var 2))
 (.ret 0 (sg 9 [bv 10 21,bt 9 (.lit 11)]))
 (.ret 1 (sg 9 [bv 13 23,bv 12 21,bv 11 14,bv 10 13,bg 9 12])))))))) .top)) .top))))) .top)) .top))))))) .top)))))) .top)))))
theorem qqQ:qk ⟨Tryz.prog,qbI,[qbx,qjy,qj6,qdJ],[]⟩ 100000 Tryz.f134 = qjq:=by kernel_rfl
theorem qui (hd:∀ c ∈ ([qbx,qjy,qj6,qdJ]:List Ctr),c.ok Tryz.prog) (h:∀ ρ:Env,ρ.good->(qbI).pre ρ->qjq.den ⟨Tryz.prog,qbI,[qbx,qjy,qj6,qdJ],[]⟩ ρ):(qbI).ok Tryz.prog :=
 qf Tryz.func134 (fun a w=>Tryz.call134 a w) hd 100000 (fun ρ hg hp=>by rw [qqQ]; exact h ρ hg hp)
@[simp] def qmz:Sg:=sg 0 [bv 8 8,bv 7 10,bv 1 9,bv 6 8,bt 5 (.arith .mul .i64 (.var 2) (.var 2)),bg 4 6,bv 3 2,bv 2 2,bg 0 0]
@[simp] def qiL:Sg:=sg 0 [bv 15 15,bv 14 17,bv 8 8,bv 7 10,bv 1 16,bv 13 15,bv 12 14,bg 11 13,bv 10 2,bv 9 2,bv 6 8,bv 5 7,bg 4 6,bv 3 2,bv 2 3,bg 0 0]
@[simp] def qiH:Sg:=sg 0 [bt 15 (.lit 0),bt 14 .dnil,bv 8 8,bv 7 10,bv 1 14,bt 13 (.lit 0),bt 12 (.lit 0),(11,.nil),bt 10 (.lit 0),bt 9 (.lit 0),bv 6 8,bv 5 7,bg 4 6,bv 3 2,bv 2 3,bg 0 0]
def qrg:Out:=(.fresh 4 (.br (.and (.cmp .eql (.dlen (.var 1)) (.lit 0)) (.isnil 0))
 (.stuck 7 0 0)
 (.pre 0 (sg 0 [bv 1 3,bv 0 2]) (.both (.fresh 5 (.post 0 0 (sg 0 [bv 1 3,bv 0 2]) 5 (.br (.not (.var 5))
 (.ret 0 (sg 4 [bv 4 1]))
 (.pre 1 (sg 0 [bv 1 1,bv 3 2,bv 2 3,bg 0 0]) (.both (.fresh 6 (.fresh 7 (.fresh 8 (.fresh 9 (.fresh 10 (.post 1 0 (sg 0 [bv 1 1,bv 3 2,bv 2 3,bg 0 0]) 6 (.fresh 11 (.know (.cmp .leq (.dlen (.var 10)) (.var 8)) (.need (.cmp .leq (.lit 0) (.var 7)) (.need (.cmp .leq (.lit 0) (.var 8)) (.need (.cmp .leq (.lit 0) (.arith .mul .i64 (.var 2) (.var 2))) (.need (.cmp .leq (.arith .mul .i64 (.var 2) (.var 2)) (.var 8)) (.fresh 12 (.pre 2 qmz (.both (.fresh 13 (.fresh 14 (.post 2 0 qmz 13 (.fresh 15 (.pre 3 qiH (.both (.fresh 16 (.post 3 0 qiH 16 (.ret 0 (sg 4 [bv 4 16])))) (.both (.fresh 16 (.post 3 1 qiH 16 (.stuck 7 0 0))) (.both (.fresh 16 (.fresh 17 (.fresh 18 (.fresh 19 (.fresh 20 (.post 3 2 qiH 16 (.pack [.cells 15 200 [(.vint .i64 (.lit 0)),(.vint .i64 (.lit 0)),.vnils],.cells 12 200 [(.vint .i64 (.var 2)),(.vint .i64 (.var 2)),(.vslice 6 (.lit 0) (.arith .mul .i64 (.var 2) (.var 2)) (.var 8) 1)],.cells 11 200 [(.vint .i64 (.var 3)),(.vint .i64 (.var 2)),(.vslice 6 (.lit 0) (.var 7) (.var 8) 1)],.arr 6 5 [CK.int .u8] (.var 10) (.var 8),.cells 4 200 [(.vint .i64 (.var 3)),(.vint .i64 (.lit 0)),(.vslice 16 (.lit 0) (.var 17) (.var 18) 1)]] 21 (.need (.cmp .eql (.var 2) (.lit 0)) (.ret 1 (sg 4 [bg 9 21,bv 8 20,bv 7 19,bv 6 18,bv 5 17,bg 4 16])))))))))) .top)))))))) (.both (.fresh 13 (.fresh 14 (.fresh 15 (.fresh 16 (.fresh 17 (.post 2 1 qmz 13 (.fresh 18 (.pre 3 qiL (.both (.fresh 19 (.post 3 0 qiL 19 (.ret 0 (sg 4 [bv 4 19])))) (.both (.fresh 19 (.post 3 1 qiL 19 (.stuck 7 0 0))) (.both (.fresh 19 (.fresh 20 (.fresh 21 (.fresh 22 (.fresh 23 (.post 3 2 qiL 19 (.pack [.cells 18 200 [(.vint .i64 (.var 2)),(.vint .i64 (.var 2)),(.vslice 13 (.lit 0) (.var 14) (.var 15) 1)],.arr 13 5 [CK.int .u8] (.var 17) (.var 15),.cells 12 200 [(.vint .i64 (.var 2)),(.vint .i64 (.var 2)),(.vslice 6 (.lit 0) (.arith .mul .i64 (.var 2) (.var 2)) (.var 8) 1)],.cells 11 200 [(.vint .i64 (.var 3)),(.vint .i64 (.var 2)),(.vslice 6 (.lit 0) (.var 7) (.var 8) 1)],.arr 6 5 [CK.int .u8] (.var 10) (.var 8),.cells 4 200 [(.vint .i64 (.var 3)),(.vint .i64 (.var 2)),(.vslice 19 (.lit 0) (.var 20) (.var 21) 1)]] 24 (.ret 1 (sg 4 [bg 9 24,bv 8 23,bv 7 22,bv 6 21,bv 5 20,bg 4 19]))))))))) .top))))))))))) .top)))))))))))))))) .top))))) .top))))
theorem q0m:qk ⟨Tryz.prog,qfM,[qbv,qhW,qbI,qdD],[]⟩ 100000 Tryz.f122 = qrg:=by kernel_rfl
theorem q5L (hd:∀ c ∈ ([qbv,qhW,qbI,qdD]:List Ctr),c.ok Tryz.prog) (h:∀ ρ:Env,ρ.good->(qfM).pre ρ->qrg.den ⟨Tryz.prog,qfM,[qbv,qhW,qbI,qdD],[]⟩ ρ):(qfM).ok Tryz.prog :=
 qf Tryz.func122 (fun a w=>Tryz.call122 a w) hd 100000 (fun ρ hg hp=>by rw [q0m]; exact h ρ hg hp)
end Go.Proofs

set_option linter.unusedSimpArgs false
set_option linter.unusedVariables false
namespace Go.Proofs
open Go Go.Eng

theorem idx {r n i c:Int} (hr:r <= 255) (hn:n <= 255) (i0:0 <= i) (i1:i < r) (c0:0 <= c) (c1:c < n) :
  qc .add .i64 (qc .mul .i64 i n) c = i * n + c/\0 <= i * n + c/\i * n + c < r * n/\(i * n + c).toNat = i.toNat * n.toNat + c.toNat:=by
 have hb:=qao (x:=i) (y:=n) i0 (show i <= 255 by omega) (by omega) hn
 have hlt:i * n + n <= r * n:=by
  have:=Int.mul_le_mul_of_nonneg_right (show i + 1 <= r by omega) (show 0 <= n by omega)
  rw [Int.add_mul,Int.one_mul] at this; omega
 refine ⟨by rw [qc2 (by omega) (by omega),add64 (by omega) (by omega)],by omega,by omega,?_⟩
 rw [Int.toNat_add hb.1 c0,Int.toNat_mul i0 (by omega)]
theorem qfH {r n i:Int} (i0:0 <= i) (i1:i < r) (n0:0 <= n):0 <= i * n/\i * n + n <= r * n/\(i * n).toNat = i.toNat * n.toNat:=by
 have hlt:i * n + n <= r * n:=by
  have:=Int.mul_le_mul_of_nonneg_right (show i + 1 <= r by omega) n0
  rw [Int.add_mul,Int.one_mul] at this; omega
 exact ⟨Int.mul_nonneg i0 n0,hlt,Int.toNat_mul i0 n0⟩
theorem qjH {n i j:Int} (h:¬ i = j) (n0:0 <= n):j * n + n <= i * n∨i * n + n <= j * n:=by
 rcases Int.lt_or_gt_of_ne h with h | h
 ·right
  have:=Int.mul_le_mul_of_nonneg_right (show i + 1 <= j by omega) n0
  rw [Int.add_mul,Int.one_mul] at this; omega
 ·left
  have:=Int.mul_le_mul_of_nonneg_right (show j + 1 <= i by omega) n0
  rw [Int.add_mul,Int.one_mul] at this; omega
theorem qiI {d:qe} {e:Int} (h0:0 <= e) (h1:e < d.length):(bI d).getD e.toNat 0 = qg d e 0:=by
 rw [List.getD_eq_getElem?_getD,qgf h0 h1]; rfl
theorem qQ.seg {r c l cap:Int} {d:qe} (h:qQ r c l cap d) {i o n:Int} (i0:0 <= i) (i1:i < r) (ho:o = i * c) (hn:n = c):qmR d o n:=by
 obtain ⟨⟨a1,a2,a3,a4,a5,a6,a7,a8⟩,a9⟩:=h
 obtain ⟨b1,b2,_⟩:=qfH i0 i1 a3
 exact ⟨by omega,by omega,by omega,by unfold Go.Eng.big; omega⟩
theorem qQ.next {r c l cap:Int} {d d':qe} (h:qQ r c l cap d) (hl:d'.length = d.length) (hB:qz d'):qQ r c l cap d':=by
 obtain ⟨⟨a1,a2,a3,a4,a5,a6,a7,a8⟩,a9⟩:=h
 exact ⟨⟨a1,a2,a3,a4,a5,a6,by omega,hB⟩,by omega⟩
theorem qpN {rows ca cb:Nat} {a b:List Int} {c:Nat} (h:rows <= (qcf rows ca cb a b c).2.2):∀ k,qcf rows ca cb a b (c + k) = qcf rows ca cb a b c
 | 0=>rfl
 | k + 1=>by
  rw [<- Nat.add_assoc,qcf,qpN h k,qcR,if_pos h]
theorem q2K {a:List Int} {ca c p n:Nat} (h:¬ a.getD (p * ca + c) 0 = 0):qdh a ca c p n = p:=by
 cases n with
 | zero=>rfl
 | succ n=>rw [qdh,if_neg h]
section
variable {r ca cb l1 c1 l2 c2 rank c p i:Int} {f da db a0 b0:qe}
theorem qcC.start (hf:qw f) (hA:qQ r ca l1 c1 da) (hB:qQ r cb l2 c2 db):qcC r ca cb l1 c1 l2 c2 0 0 f da db da db :=
 ⟨⟨hf,hA,hB,by omega,hA.1.1,by omega,hA.1.2.2.1⟩,rfl⟩
theorem qeA.start (h:qcC r ca cb l1 c1 l2 c2 rank c f da db a0 b0) (hr:rank < r) (hc:c < ca):qeA r ca cb l1 c1 l2 c2 rank c rank f da db a0 b0 :=
 ⟨h,hr,hc,by omega,by omega,rfl⟩
theorem qeA.next (h:qeA r ca cb l1 c1 l2 c2 rank c p f da db a0 b0) (hp:p < r) (hz:qg da (p * ca + c) 0 = 0):qeA r ca cb l1 c1 l2 c2 rank c (p + 1) f da db a0 b0:=by
 obtain ⟨h1,h2,h3,h4,h5,h6⟩:=h
 refine ⟨h1,h2,h3,by omega,by omega,?_⟩
 obtain ⟨⟨_,hA,hB,w1,w2,w3,w4⟩,_⟩:=h1
 obtain ⟨⟨a1,a2,a3,a4,a5,a6,a7,a8⟩,a9⟩:=hA
 obtain ⟨_,e1,e2,e3⟩:=idx (i:=p) a2 a4 (by omega) hp w3 h3
 have hg:=qiI (d:=da) e1 (by omega)
 rw [e3] at hg
 rw [<- h6,show r.toNat - p.toNat = (r.toNat - (p + 1).toNat) + 1 by omega,qdh,if_pos (by rw [hg]; exact hz),show (p + 1).toNat = p.toNat + 1 by omega]
theorem qcC.skip (h:qeA r ca cb l1 c1 l2 c2 rank c p f da db a0 b0) (hp:p = r):qcC r ca cb l1 c1 l2 c2 rank (c + 1) f da db a0 b0:=by
 obtain ⟨⟨⟨hf,hA,hB,w1,w2,w3,w4⟩,he⟩,h2,h3,h4,h5,h6⟩:=h
 refine ⟨⟨hf,hA,hB,w1,w2,by omega,by omega⟩,?_⟩
 rw [show (c + 1).toNat = c.toNat + 1 by omega,qcf,<- he,qcR]
 simp only
 rw [if_neg (by omega),if_pos]
 rw [<- h6,hp,Nat.sub_self,qdh]
theorem qeA.piv (h:qeA r ca cb l1 c1 l2 c2 rank c p f da db a0 b0) (hp:p < r) (hz:¬ qg da (p * ca + c) 0 = 0):qdh (bI da) ca.toNat c.toNat rank.toNat (r.toNat - rank.toNat) = p.toNat:=by
 obtain ⟨⟨⟨hf,hA,hB,w1,w2,w3,w4⟩,he⟩,h2,h3,h4,h5,h6⟩:=h
 obtain ⟨⟨a1,a2,a3,a4,a5,a6,a7,a8⟩,a9⟩:=hA
 obtain ⟨_,e1,e2,e3⟩:=idx (i:=p) a2 a4 (by omega) hp w3 h3
 have hg:=qiI (d:=da) e1 (by omega)
 rw [e3] at hg
 rw [<- h6,q2K (by rw [hg]; exact hz)]
theorem qdd.start {da1 db1 da2 db2 f2:qe} {o1 n1 o2 n2 x:Int} (h:qeA r ca cb l1 c1 l2 c2 rank c p f da db a0 b0) (hp:p < r) (hz:¬ qg da (p * ca + c) 0 = 0)
  (hs:(bI da1,bI db1) = qbF ca.toNat cb.toNat rank.toNat p.toNat (bI da) (bI db)) (hl1:da1.length = da.length) (hl2:db1.length = db.length)
  (hx:x = qfW (qg da1 (rank * ca + c) 0)) (hA2:bI da2 = qbi (bI da1) o1.toNat n1.toNat x) (hB2:bI db2 = qbi (bI db1) o2.toNat n2.toNat x) (ho1:o1 = rank * ca) (hn1:n1 = ca) (ho2:o2 = rank * cb) (hn2:n2 = cb)
  (hl3:da2.length = da1.length) (hl4:db2.length = db1.length) (hb1:qz da2) (hb2:qz db2) (hf2:qw f2):qdd r ca cb l1 c1 l2 c2 rank c 0 f2 da2 db2 a0 b0:=by
 have hpiv:=qeA.piv h hp hz
 obtain ⟨⟨⟨hf,hA,hB,w1,w2,w3,w4⟩,he⟩,h2,h3,h4,h5,h6⟩:=h
 refine ⟨⟨hf2,qQ.next hA (by omega) hb1,qQ.next hB (by omega) hb2,w1,w2,w3,w4⟩,h2,h3,by omega,by omega,_,he,rfl,by simp only; rw [hpiv]; omega,?_⟩
 obtain ⟨⟨a1,a2,a3,a4,a5,a6,a7,a8⟩,a9⟩:=hA
 obtain ⟨⟨d1,d2,d3,d4,d5,d6,d7,d8⟩,d9⟩:=hB
 obtain ⟨_,e1,e2,e3⟩:=idx (i:=rank) a2 a4 w1 h2 w3 h3
 have hg:=qiI (d:=da1) e1 (by omega)
 rw [e3] at hg
 have hr1:=(qfH (n:=ca) w1 h2 a3).2.2
 have hr2:=(qfH (n:=cb) w1 h2 d3).2.2
 simp only [qgt,Int.toNat_zero,qaC]
 rw [hpiv,<- hs]
 simp only [qhe]
 rw [hg,<- hx,hA2,hB2,ho1,ho2,hn1,hn2,hr1,hr2]
theorem qdd.same (h:qdd r ca cb l1 c1 l2 c2 rank c i f da db a0 b0) (hi:i < r) (he:i = rank):qdd r ca cb l1 c1 l2 c2 rank c (i + 1) f da db a0 b0:=by
 obtain ⟨hw,h2,h3,h4,h5,s,hs,hs2,hs3,hs4⟩:=h
 refine ⟨hw,h2,h3,by omega,by omega,s,hs,hs2,hs3,?_⟩
 rw [show (i + 1).toNat = i.toNat + 1 by omega,qaC]
 rw [if_pos (by omega)]; exact hs4
theorem qdd.next {da2 db2 f2:qe} {o1 o2 p1 m1 p2 m2:Int} (h:qdd r ca cb l1 c1 l2 c2 rank c i f da db a0 b0) (hi:i < r) (hne:¬ i = rank)
  (hA2:bI da2 = qag (bI da) o1.toNat (seg (bI da) p1.toNat m1.toNat) (qg da (i * ca + c) 0)) (hB2:bI db2 = qag (bI db) o2.toNat (seg (bI db) p2.toNat m2.toNat) (qg da (i * ca + c) 0))
  (ho1:o1 = i * ca) (hp1:p1 = rank * ca) (hm1:m1 = ca) (ho2:o2 = i * cb) (hp2:p2 = rank * cb) (hm2:m2 = cb)
  (hl3:da2.length = da.length) (hl4:db2.length = db.length) (hb1:qz da2) (hb2:qz db2) (hf2:qw f2):qdd r ca cb l1 c1 l2 c2 rank c (i + 1) f2 da2 db2 a0 b0:=by
 obtain ⟨⟨hf,hA,hB,w1,w2,w3,w4⟩,h2,h3,h4,h5,s,hs,hs2,hs3,hs4⟩:=h
 refine ⟨⟨hf2,qQ.next hA hl3 hb1,qQ.next hB hl4 hb2,w1,w2,w3,w4⟩,h2,h3,by omega,by omega,s,hs,hs2,hs3,?_⟩
 obtain ⟨⟨a1,a2,a3,a4,a5,a6,a7,a8⟩,a9⟩:=hA
 obtain ⟨⟨d1,d2,d3,d4,d5,d6,d7,d8⟩,d9⟩:=hB
 obtain ⟨_,e1,e2,e3⟩:=idx (i:=i) a2 a4 h4 hi w3 h3
 have hg:=qiI (d:=da) e1 (by omega)
 rw [e3] at hg
 rw [show (i + 1).toNat = i.toNat + 1 by omega,qaC]
 rw [if_neg (by omega),<- hs4]
 simp only
 rw [hg,hA2,hB2,ho1,ho2,hp1,hp2,hm1,hm2,(qfH (n:=ca) h4 hi a3).2.2,(qfH (n:=cb) h4 hi d3).2.2,(qfH (n:=ca) w1 h2 a3).2.2,(qfH (n:=cb) w1 h2 d3).2.2]
theorem qcC.after (h:qdd r ca cb l1 c1 l2 c2 rank c i f da db a0 b0) (hi:i = r):qcC r ca cb l1 c1 l2 c2 (rank + 1) (c + 1) f da db a0 b0:=by
 obtain ⟨⟨hf,hA,hB,w1,w2,w3,w4⟩,h2,h3,h4,h5,s,hs,hs2,hs3,hs4⟩:=h
 refine ⟨⟨hf,hA,hB,by omega,by omega,by omega,by omega⟩,?_⟩
 rw [show (c + 1).toNat = c.toNat + 1 by omega,qcf,<- hs,qcR,hs2,if_neg (by omega),if_neg hs3]
 simp only
 rw [hi] at hs4
 rw [<- hs4]
 simp only
 rw [show (rank + 1).toNat = rank.toNat + 1 by omega]
theorem qcC.fin (h:qcC r ca cb l1 c1 l2 c2 rank c f da db a0 b0) (hd:r <= rank∨ca <= c):(bI da,bI db,rank.toNat) = qcf r.toNat ca.toNat cb.toNat (bI a0) (bI b0) ca.toNat:=by
 obtain ⟨⟨hf,hA,hB,w1,w2,w3,w4⟩,he⟩:=h
 rcases hd with hd | hd
 ·have:=qpN (rows:=r.toNat) (ca:=ca.toNat) (cb:=cb.toNat) (a:=bI a0) (b:=bI b0) (c:=c.toNat) (by rw [<- he]; simp only; omega) (ca.toNat - c.toNat)
  rw [show c.toNat + (ca.toNat - c.toNat) = ca.toNat by omega] at this
  rw [this,he]
 ·rw [he,show c.toNat = ca.toNat by omega]
end
theorem q5o {ca cb rank p:Nat} {a b:List Int} (h:¬ p = rank):qbF ca cb rank p a b = (qag a (rank * ca) (seg a (p * ca) ca) 1,qag b (rank * cb) (seg b (p * cb) cb) 1):=by rw [qbF,if_neg h]
set_option maxRecDepth 100000 in
set_option maxHeartbeats 4000000 in
theorem q21:qdJ.ok Tryz.prog:=q1P (by simp [qok,qo3,q30,q4G,q5f]) fun ρ hg hp=>by
 obtain ⟨hf,hA,hB,hr⟩:=hp
 simp (config:={ maxSteps:=4000000 }) [qnJ,qdJ,qqZ,qrs,qrL,qb4,qb5,qeL,qeP,qfe]
 have hA':=hA
 have hB':=hB
 obtain ⟨⟨a1,a2,a3,a4,a5,a6,a7,a8⟩,a9⟩:=hA'
 rw [hr] at hB
 have hB2:=hB
 obtain ⟨⟨d1,d2,d3,d4,d5,d6,d7,d8⟩,d9⟩:=hB2
 rw [hr]
 refine ⟨qcC.start hf hA hB,fun rk _ c _ f _ da _ db _ hO=>⟨fun hc=>⟨fun hrk=>⟨qeA.start hO hrk hc,?_⟩,fun hrk=>?_⟩,fun hc=>?_⟩⟩
 rotate_left
 ·have hfin:=qcC.fin hO (.inl hrk)
  obtain ⟨⟨h1,h2,h3,h4,h5,h6,h7⟩,he⟩:=hO
  exact ⟨h1,h2,h3,h4,h5,hfin⟩
 ·have hfin:=qcC.fin hO (.inr hc)
  obtain ⟨⟨h1,h2,h3,h4,h5,h6,h7⟩,he⟩:=hO
  exact ⟨h1,h2,h3,h4,h5,hfin⟩
 intro rk _ c' _ f _ da _ db _ p _ hP hcc
 have hP':=hP
 obtain ⟨⟨⟨hfd,hAd,hBd,w1,w2,w3,w4⟩,hE⟩,hrk,hcc',hp0,hp1,hpv⟩:=hP
 have hlA:=hAd.2
 refine ⟨fun hp=>?_,fun hp=>⟨fun he=>?_,fun hne=>by omega⟩⟩
 ·obtain ⟨x0,x1,x2,x3⟩:=idx (i:=p.i) a2 a4 (by omega) hp w3 hcc'
  rw [x0,add64 (x:=p.i) (by omega) (by omega)]
  refine ⟨x1,by omega,by omega,fun hz=>⟨⟨qeA.next hP' hp hz,hcc⟩,by omega⟩,fun hz=>⟨fun he=>by omega,fun _=>⟨fun hpr=>?_,fun hpr=>?_⟩⟩⟩
  ·refine ⟨⟨w1,hrk,hAd.1⟩,fun o1 _ n1 _ k1 _ ho1 hn1 hk1=>⟨⟨by omega,hp,hAd.1⟩,fun o2 _ n2 _ k2 _ ho2 hn2 hk2=>⟨⟨hfd,qQ.seg hAd w1 hrk ho1 hn1,qQ.seg hAd (by omega) hp ho2 hn2,by omega,by rw [ho1,hn1,ho2,hn2]; exact qjH (fun h=>hpr h.symm) a3,hAd.1.2.2.2.2.2.2.2⟩,fun f1 _ da1 _ hf1 hl1 hb1 hA1=>⟨⟨w1,hrk,hBd.1⟩,fun o3 _ n3 _ k3 _ ho3 hn3 hk3=>⟨⟨by omega,hp,hBd.1⟩,fun o4 _ n4 _ k4 _ ho4 hn4 hk4=>⟨⟨hf1,qQ.seg hBd w1 hrk ho3 hn3,qQ.seg hBd (by omega) hp ho4 hn4,by omega,by rw [ho3,hn3,ho4,hn4]; exact qjH (fun h=>hpr h.symm) d3,hBd.1.2.2.2.2.2.2.2⟩,fun f2 _ db1 _ hf2 hl2 hb2 hB1=>?_⟩⟩⟩⟩⟩⟩
   have hsw:(bI da1.d,bI db1.d) = qbF (ρ 3).i.toNat (ρ 10).i.toNat rk.i.toNat p.i.toNat (bI da.d) (bI db.d):=by
    rw [q5o (by omega),hA1,hB1,ho1,ho2,ho3,ho4,hn2,hn4,(qfH (n:=(ρ 3).i) w1 hrk a3).2.2,(qfH (n:=(ρ 3).i) (by omega) hp a3).2.2,(qfH (n:=(ρ 10).i) w1 hrk d3).2.2,(qfH (n:=(ρ 10).i) (by omega) hp d3).2.2]
   have fA1:qQ (ρ 2).i (ρ 3).i (ρ 5).i (ρ 6).i da1.d:=qQ.next hAd hl1 hb1
   have fB1:qQ (ρ 2).i (ρ 10).i (ρ 12).i (ρ 13).i db1.d:=qQ.next hBd hl2 hb2
   obtain ⟨y0,y1,y2,y3⟩:=idx (i:=rk.i) a2 a4 w1 hrk w3 hcc'
   rw [y0]
   have hcell:=qdp fA1.1.2.2.2.2.2.2.2 (i:=rk.i * (ρ 3).i + c'.i) y1 (by have:=fA1.2; omega)
   have hlA:=fA1.2
   refine ⟨y1,by omega,by omega,⟨hf2,hcell⟩,fun x _ er _ f3 _ hf3 hx _=>⟨⟨w1,hrk,fA1.1⟩,fun o5 _ n5 _ k5 _ ho5 hn5 hk5=>⟨⟨hf3,qQ.seg fA1 w1 hrk ho5 hn5,fA1.1.2.2.2.2.2.2.2,by rw [hx]; exact (qcB hcell.1 hcell.2).1,by rw [hx]; exact (qcB hcell.1 hcell.2).2⟩,fun f4 _ da2 _ hf4 hl4 hb4 hA4=>⟨⟨w1,hrk,fB1.1⟩,fun o6 _ n6 _ k6 _ ho6 hn6 hk6=>⟨⟨hf4,qQ.seg fB1 w1 hrk ho6 hn6,fB1.1.2.2.2.2.2.2.2,by rw [hx]; exact (qcB hcell.1 hcell.2).1,by rw [hx]; exact (qcB hcell.1 hcell.2).2⟩,fun f5 _ db2 _ hf5 hl5 hb5 hB5=>⟨⟨qdd.start hP' hp hz hsw hl1 hl2 hx hA4 hB5 ho5 hn5 ho6 hn6 hl4 hl5 hb4 hb5 hf5,hcc⟩,?_⟩⟩⟩⟩⟩⟩
   intro rk2 _ c2 _ f6 _ da3 _ db3 _ i _ hQ hc2
   refine ⟨fun hi=>?_,fun hi=>?_⟩
   ·have hQ':=hQ
    obtain ⟨⟨hfq,hAq,hBq,v1,v2,v3,v4⟩,q1,q2,q3,q4,_⟩:=hQ'
    have hlq:=hAq.2
    obtain ⟨z0,z1,z2,z3⟩:=idx (i:=i.i) a2 a4 q3 hi v3 q2
    rw [z0,add64 (by omega) (by omega)]
    have hcq:=qdp hAq.1.2.2.2.2.2.2.2 (i:=i.i * (ρ 3).i + c2.i) z1 (by omega)
    refine ⟨z1,by omega,by omega,fun hne=>⟨⟨q3,hi,hAq.1⟩,fun r1 _ r2 _ r3 _ hr1 hr2 hr3=>⟨⟨v1,q1,hAq.1⟩,fun t1 _ t2 _ t3 _ ht1 ht2 ht3=>⟨⟨hfq,qQ.seg hAq q3 hi hr1 hr2,qQ.seg hAq v1 q1 ht1 ht2,by omega,by rw [hr1,hr2,ht1,ht2]; exact qjH hne a3,hAq.1.2.2.2.2.2.2.2,hcq⟩,fun f7 _ da4 _ hf7 hl7 hb7 hA7=>⟨⟨q3,hi,hBq.1⟩,fun r4 _ r5 _ r6 _ hr4 hr5 hr6=>⟨⟨v1,q1,hBq.1⟩,fun t4 _ t5 _ t6 _ ht4 ht5 ht6=>⟨⟨hf7,qQ.seg hBq q3 hi hr4 hr5,qQ.seg hBq v1 q1 ht4 ht5,by omega,by rw [hr4,hr5,ht4,ht5]; exact qjH hne d3,hBq.1.2.2.2.2.2.2.2,hcq⟩,fun f8 _ db4 _ hf8 hl8 hb8 hB8=>⟨⟨qdd.next hQ hi hne hA7 hB8 hr1 ht1 ht2 hr4 ht4 ht5 hl7 hl8 hb7 hb8 hf8,hc2⟩,by omega⟩⟩⟩⟩⟩⟩⟩,fun hieq=>⟨⟨qdd.same hQ hi hieq,hc2⟩,by omega⟩⟩
   ·have hQ':=hQ
    obtain ⟨⟨hfq,hAq,hBq,v1,v2,v3,v4⟩,q1,q2,q3,q4,_⟩:=hQ'
    rw [add64 (by omega) (by omega),add64 (by omega) (by omega)]
    exact ⟨qcC.after hQ (by omega),by omega⟩
  ·have hsw:(bI da.d,bI db.d) = qbF (ρ 3).i.toNat (ρ 10).i.toNat rk.i.toNat p.i.toNat (bI da.d) (bI db.d):=by
    rw [qbF,if_pos (by omega)]
   have fA1:qQ (ρ 2).i (ρ 3).i (ρ 5).i (ρ 6).i da.d:=hAd
   have fB1:qQ (ρ 2).i (ρ 10).i (ρ 12).i (ρ 13).i db.d:=hBd
   obtain ⟨y0,y1,y2,y3⟩:=idx (i:=rk.i) a2 a4 w1 hrk w3 hcc'
   rw [y0]
   have hcell:=qdp fA1.1.2.2.2.2.2.2.2 (i:=rk.i * (ρ 3).i + c'.i) y1 (by have:=fA1.2; omega)
   have hlA:=fA1.2
   refine ⟨y1,by omega,by omega,⟨hfd,hcell⟩,fun x _ er _ f3 _ hf3 hx _=>⟨⟨w1,hrk,fA1.1⟩,fun o5 _ n5 _ k5 _ ho5 hn5 hk5=>⟨⟨hf3,qQ.seg fA1 w1 hrk ho5 hn5,fA1.1.2.2.2.2.2.2.2,by rw [hx]; exact (qcB hcell.1 hcell.2).1,by rw [hx]; exact (qcB hcell.1 hcell.2).2⟩,fun f4 _ da2 _ hf4 hl4 hb4 hA4=>⟨⟨w1,hrk,fB1.1⟩,fun o6 _ n6 _ k6 _ ho6 hn6 hk6=>⟨⟨hf4,qQ.seg fB1 w1 hrk ho6 hn6,fB1.1.2.2.2.2.2.2.2,by rw [hx]; exact (qcB hcell.1 hcell.2).1,by rw [hx]; exact (qcB hcell.1 hcell.2).2⟩,fun f5 _ db2 _ hf5 hl5 hb5 hB5=>⟨⟨qdd.start hP' hp hz hsw rfl rfl hx hA4 hB5 ho5 hn5 ho6 hn6 hl4 hl5 hb4 hb5 hf5,hcc⟩,?_⟩⟩⟩⟩⟩⟩
   intro rk2 _ c2 _ f6 _ da3 _ db3 _ i _ hQ hc2
   refine ⟨fun hi=>?_,fun hi=>?_⟩
   ·have hQ':=hQ
    obtain ⟨⟨hfq,hAq,hBq,v1,v2,v3,v4⟩,q1,q2,q3,q4,_⟩:=hQ'
    have hlq:=hAq.2
    obtain ⟨z0,z1,z2,z3⟩:=idx (i:=i.i) a2 a4 q3 hi v3 q2
    rw [z0,add64 (by omega) (by omega)]
    have hcq:=qdp hAq.1.2.2.2.2.2.2.2 (i:=i.i * (ρ 3).i + c2.i) z1 (by omega)
    refine ⟨z1,by omega,by omega,fun hne=>⟨⟨q3,hi,hAq.1⟩,fun r1 _ r2 _ r3 _ hr1 hr2 hr3=>⟨⟨v1,q1,hAq.1⟩,fun t1 _ t2 _ t3 _ ht1 ht2 ht3=>⟨⟨hfq,qQ.seg hAq q3 hi hr1 hr2,qQ.seg hAq v1 q1 ht1 ht2,by omega,by rw [hr1,hr2,ht1,ht2]; exact qjH hne a3,hAq.1.2.2.2.2.2.2.2,hcq⟩,fun f7 _ da4 _ hf7 hl7 hb7 hA7=>⟨⟨q3,hi,hBq.1⟩,fun r4 _ r5 _ r6 _ hr4 hr5 hr6=>⟨⟨v1,q1,hBq.1⟩,fun t4 _ t5 _ t6 _ ht4 ht5 ht6=>⟨⟨hf7,qQ.seg hBq q3 hi hr4 hr5,qQ.seg hBq v1 q1 ht4 ht5,by omega,by rw [hr4,hr5,ht4,ht5]; exact qjH hne d3,hBq.1.2.2.2.2.2.2.2,hcq⟩,fun f8 _ db4 _ hf8 hl8 hb8 hB8=>⟨⟨qdd.next hQ hi hne hA7 hB8 hr1 ht1 ht2 hr4 ht4 ht5 hl7 hl8 hb7 hb8 hf8,hc2⟩,by omega⟩⟩⟩⟩⟩⟩⟩,fun hieq=>⟨⟨qdd.same hQ hi hieq,hc2⟩,by omega⟩⟩
   ·have hQ':=hQ
    obtain ⟨⟨hfq,hAq,hBq,v1,v2,v3,v4⟩,q1,q2,q3,q4,_⟩:=hQ'
    rw [add64 (by omega) (by omega),add64 (by omega) (by omega)]
    exact ⟨qcC.after hQ (by omega),by omega⟩
 ·rw [add64 (by omega) (by omega)]
  exact ⟨qcC.skip hP' he,by omega⟩
end Go.Proofs

set_option linter.unusedSimpArgs false
set_option linter.unusedVariables false
namespace Go.Proofs
open Go Go.Eng
theorem q25:qjy.ok Tryz.prog:=Ctr.ok_less qyO rfl rfl rfl rfl rfl (fun _ _=>trivial) fun ρ ρ' ai al hp hag hal hpost=>by
 match ai,hal with
 | 0,hal =>
  exfalso
  obtain rfl:=Option.some.inj hal
  have h2:((ρ'.upto 1) 0).i < 1∨255 < ((ρ'.upto 1) 0).i:=hpost
  have e:(ρ'.upto 1) 0 = ρ 0:=by rw [Env.upto,if_pos (by omega)]; exact hag 0 (by decide)
  rw [e] at h2
  have h3:1 <= (ρ 0).i/\(ρ 0).i <= 255:=hp
  omega
 | 1,hal=>exact ⟨0,hal⟩
 | n + 2,hal=>cases hal
theorem q0c:qhW.ok Tryz.prog:=Ctr.ok_less qwC rfl rfl rfl rfl rfl (fun _ h=>h.1) fun ρ ρ' ai al hp hag hal hpost=>by
 match ai,hal with
 | 0,hal =>
  exfalso
  obtain rfl:=Option.some.inj hal
  have h2:qcH ((ρ'.upto 5) 2).i ((ρ'.upto 5) 3).i:=hpost.2
  have e2:(ρ'.upto 5) 2 = ρ 2:=by rw [Env.upto,if_pos (by omega)]; exact hag 2 (by decide)
  have e3:(ρ'.upto 5) 3 = ρ 3:=by rw [Env.upto,if_pos (by omega)]; exact hag 3 (by decide)
  rw [e2,e3] at h2
  exact hp.2 h2
 | 1,hal=>exact ⟨0,hal⟩
 | n + 2,hal=>cases hal
theorem q1B:qj6.ok Tryz.prog:=by
 refine ⟨qp3.1,fun ρ w hF hO hg hd hsub hst hro hpre=>(qp3.2 ρ w hF hO hg hd hsub hst hro hpre).mono fun e w' hq=>?_⟩
 obtain ⟨ai,al,ρ',hal,hg',hag,he,hpost,hheap⟩:=hq
 match ai,hal with
 | 0,hal =>
  obtain rfl:=Option.some.inj hal
  refine ⟨0,_,ρ',rfl,hg',hag,he,⟨hpost,?_⟩,hheap⟩
  obtain ⟨hO',hd',⟨h1,h2,hdj,hu,hden,_⟩,hsub',hwi'⟩:=hheap
  show (((ρ'.upto 10) 9).d.length:Int) <= ((ρ'.upto 10) 8).i
  rw [show (ρ'.upto 10) 9 = ρ' 9 from rfl,show (ρ'.upto 10) 8 = ρ' 8 from rfl]
  rcases hden with ⟨_,hn,hc⟩ | ⟨b,c,g1,g2,g3,g4,g5⟩
  ·have hn:(ρ' 9).d = []:=hn
   have hc:(ρ' 8).i = 0:=hc
   rw [hn,hc]; simp
  ·exact g4
 | n + 1,hal=>cases hal
theorem q26 {d:qe} {n:Nat} (h:qz d):qz (d.take n):=fun r hr=>h r (List.mem_of_mem_take hr)
theorem q6E {d:qe} {n:Nat}:bI (d.take n) = (bI d).take n:=by simp [bI,List.map_take]
theorem qwb:qbI.ok Tryz.prog:=qui (by simp [qp9,q25,q1B,q21]) fun ρ hg hp=>by
 obtain ⟨hf,l0,l1,l2,hB⟩:=hp
 have hne:=(qcm hf).1
 simp [qjq,qbI,qbx,qjy,qdy,qj6,qet,qdJ]
 refine ⟨fun h=>(hne h).elim,fun _=>⟨l0,fun v _ hv=>⟨fun hb=>⟨hf,fun h=>?_⟩,fun hb=>⟨fun h=>⟨hf,hv.1 hb,h⟩,fun hrc=>?_⟩⟩⟩⟩
 ·have:=hv.2 h
  rw [hb] at this; cases this
 obtain ⟨r1,r2,c1,c2,hl⟩:=hv.1 hb
 have vA:qbm (ρ 2).i (ρ 3).i (ρ 5).i:=hv.1 hb
 have hbd:=qao (x:=(ρ 2).i) (y:=(ρ 3).i) (by omega) r2 (by omega) c2
 refine ⟨⟨r1,r2⟩,fun l _ cp _ d _ _ _ hM hL hI=>⟨⟨l0,l2,by unfold Go.Eng.big; omega⟩,fun cc _ dd _ hdd hcap=>?_⟩⟩
 have hlen:dd.d.length = (ρ 5).i.toNat:=by rw [hdd,List.length_take]; omega
 refine ⟨⟨hf,⟨⟨by omega,r2,by omega,c2,hl,by omega,by omega,by rw [hdd]; exact q26 hB⟩,by omega⟩,hM,hL⟩,fun rk _ f2 _ d2 _ b2 _ hf2 hA2 hB2 k0 k1 he=>?_⟩
 have hE:qcf (ρ 2).i.toNat (ρ 3).i.toNat (ρ 2).i.toNat (bI dd.d) (bI d.d) (ρ 3).i.toNat = qeG ((bI (ρ 7).d).take (ρ 5).i.toNat) (ρ 2).i.toNat:=by
  rw [qeG,hdd,q6E,hI,hrc]
 rw [hE] at he
 rw [<- he]
 exact ⟨fun h=>⟨hf2,vA,hrc,by simp only; omega⟩,fun h=>⟨hf2,vA,hrc,hB2,by simp only; omega,rfl⟩⟩
theorem qk8 {k t:Int}:qaG k t = true↔1 <= k/\k <= t/\t <= 255:=by simp [qaG,and_assoc]
theorem q5B:qfM.ok Tryz.prog:=q5L (by simp [qpk,q0c,qwb,q2O]) fun ρ hg hp=>by
 have hf:qw (ρ 1).d:=hp
 have hne:=(qcm hf).1
 simp [qrg,qfM,qbv,qhW,qcO,qbI,qdD]
 intro u0 _
 refine ⟨fun h=>(hne h).elim,fun _ u1 _ hs=>⟨fun hb=>⟨hf,fun h=>?_⟩,fun hb=>?_⟩⟩
 ·rw [h] at hs; rw [hb] at hs; cases hs
 have hsz:qaG (ρ 2).i (ρ 3).i = true:=by rw [<- hs]; exact hb
 obtain ⟨k1,k2,k3⟩:=qk8.1 hsz
 have hvb:¬ qcH (ρ 3).i (ρ 2).i:=by unfold qcH; omega
 have hkk:=qao (x:=(ρ 2).i) (y:=(ρ 2).i) (by omega) (show (ρ 2).i <= 255 by omega) (by omega) (show (ρ 2).i <= 255 by omega)
 have hlek:(ρ 2).i * (ρ 2).i <= (ρ 3).i * (ρ 2).i:=Int.mul_le_mul_of_nonneg_right k2 (by omega)
 refine ⟨⟨hf,hvb⟩,fun u2 _ l _ cp _ f1 _ d _ hf1 _ hM hL hV u7 _ hcap=>?_⟩
 obtain ⟨a1,a2,a3,a4,a5,a6,a7,a8⟩:=hM
 have vV:qbm (ρ 3).i (ρ 2).i l.i:=⟨by omega,by omega,by omega,by omega,a5⟩
 rw [qc2 (by omega) (by omega)]
 have hkn:((ρ 2).i * (ρ 2).i).toNat = (ρ 2).i.toNat * (ρ 2).i.toNat:=Int.toNat_mul (by omega) (by omega)
 have hTop:qeG ((bI d.d).take ((ρ 2).i * (ρ 2).i).toNat) (ρ 2).i.toNat = qcz (ρ 2).i.toNat (ρ 3).i.toNat:=by rw [qcz,hV,hkn]
 rw [hTop]
 have vT:qbm (ρ 2).i (ρ 2).i ((ρ 2).i * (ρ 2).i):=⟨by omega,by omega,by omega,by omega,rfl⟩
 have hno:¬ qbm 0 0 0:=by unfold qbm; omega
 refine ⟨by omega,by omega,hkk.1,by omega,fun u8 _=>⟨⟨hf1,hkk.1,by omega,by omega,a8⟩,fun e _ f2 _ hf2 hor u11 _=>⟨⟨hf2,by omega,by omega,by omega,a8,fun r hr=>by cases hr⟩,fun f3 _ hf3 _=>⟨hf3,fun _=>?_⟩,fun _ _ _ _ h=>(hno h).elim,?_⟩,?_⟩⟩
 ·rcases hor with ⟨h,_⟩ | ⟨_,h,_⟩
  ·exact (h vT).elim
  ·exact h
 ·intro _ _ _ _ _ _ _ _ _ _ _ _ h
  exact (hno h).elim
 ·intro u9 _ li _ ci _ f4 _ di _ hf4 _ hMi hrk hInv u14 _
  obtain ⟨⟨b1,b2,b3,b4,b5,b6,b7,b8⟩,b9⟩:=hMi
  have vI:qbm (ρ 2).i (ρ 2).i li.i:=⟨by omega,by omega,by omega,by omega,b5⟩
  refine ⟨⟨hf4,by omega,by omega,by omega,a8,by omega,b6,by omega,b8⟩,fun f5 _ hf5 h=>(h vV vI).elim,?_⟩
  intro u15 _ lp _ cq _ f6 _ dp _ hf6 _ _ hMp hLp hP u20 _ _
  refine ⟨hf6,hsz,⟨hMp,hLp⟩,hrk,?_⟩
  rw [hP,hInv,qdi,hV,List.take_of_length_le (by rw [qb1,qqa,a5,Int.toNat_mul (by omega) (by omega)]; exact Nat.le_refl _),List.take_of_length_le (by rw [<- hInv,bI_len]; omega)]
end Go.Proofs

set_option linter.unusedSimpArgs false
set_option linter.unusedVariables false
set_option maxRecDepth 100000
namespace Go.Proofs
open Go Go.Eng

@[simp] def qlV:Sg:=sg 0 [bv 13 45,bv 12 55,bv 7 59,bv 6 60,bv 1 50,bt 14 (.icell (.var 54) (.plus (.var 61) (.var 64)) 0),bt 11 (.minus (.var 45) (.arith .mul .i64 (.var 64) (.var 42))),bt 10 (.minus (.arith .mul .i64 (.arith .add .i64 (.var 64) (.lit 1)) (.var 42)) (.arith .mul .i64 (.var 64) (.var 42))),bt 9 (.ife (.var 45) (.arith .mul .i64 (.var 64) (.var 42)) (.lit 0) (.arith .mul .i64 (.var 64) (.var 42))),bg 8 43,bv 5 59,bv 4 42,bt 3 (.lit 0),bg 2 58,bg 0 0]
def qkq:Out:=(.br (.and (.cmp .eql (.dlen (.var 1)) (.lit 0)) (.isnil 0))
 (.ret 0 (sg 9 [bv 10 1,bt 9 (.lit 1)]))
 (.pre 0 (sg 0 [bv 1 3,bv 0 2]) (.both (.fresh 9 (.post 0 0 (sg 0 [bv 1 3,bv 0 2]) 9 (.br (.not (.var 9))
 (.ret 0 (sg 9 [bv 10 1,bt 9 (.lit 2)]))
 (.need (.cmp .leq (.lit 0) (.var 5)) (.br (.cmp .gtr (.var 5) (.lit 8192))
 (.ret 0 (sg 9 [bv 10 1,bt 9 (.lit 3)]))
 (.pre 1 (sg 0 [bv 1 5,bv 0 2]) (.both (.fresh 10 (.fresh 11 (.post 1 0 (sg 0 [bv 1 5,bv 0 2]) 10 (.need (.cmp .leq (.lit 0) (.arith .mul .i64 (.var 2) (.var 10))) (.need (.cmp .leq (.tims (.lit 1) (.arith .mul .i64 (.var 2) (.var 10))) (.lit 281474976710656)) (.fresh 12 (.need (.cmp .leq (.arith .mul .i64 (.var 2) (.var 10)) (.dlen (.drep (.arith .mul .i64 (.var 2) (.var 10)) (.rcons (.vint .u8 (.lit 0)) .rnil)))) (.need (.cmp .leq (.var 5) (.dlen (.var 7))) (.fresh 13 (.pre 2 (sg 0 [bv 1 1,bv 3 3,bv 2 2,bg 0 0]) (.both (.fresh 14 (.fresh 15 (.fresh 16 (.fresh 17 (.fresh 18 (.fresh 19 (.post 2 0 (sg 0 [bv 1 1,bv 3 3,bv 2 2,bg 0 0]) 14 (.fresh 20 (.need (.cmp .leq (.lit 0) (.var 3)) (.need (.cmp .leq (.tims (.lit 32) (.var 3)) (.lit 281474976710656)) (.fresh 21 (.inv 0 22 (sg 1000 [bg 1015 19,bt 1014 (.drep (.var 3) (.rcons (.vint .i64 (.lit 0)) (.rcons .vnils .rnil))),bt 1013 (.c3 .dsplice (.drep (.arith .mul .i64 (.var 2) (.var 10)) (.rcons (.vint .u8 (.lit 0)) .rnil)) (.lit 0) (.dtake (.dtake (.var 7) (.var 5)) (.imin (.arith .mul .i64 (.var 2) (.var 10)) (.var 5)))),bv 1012 18,bv 1011 16,bv 1010 15,bg 1009 14,bv 1008 17,bt 1007 (.lit 0),bv 1006 3,bg 1005 21,bg 1004 20,bt 1003 (.arith .mul .i64 (.var 2) (.var 10)),bt 1002 (.arith .mul .i64 (.var 2) (.var 10)),bg 1001 12,bv 1000 10]) (.fresh 22 (.fresh 23 (.fresh 24 (.fresh 25 (.fresh 26 (.fresh 27 (.fresh 28 (.fresh 29 (.fresh 30 (.fresh 31 (.fresh 32 (.fresh 33 (.fresh 34 (.fresh 35 (.fresh 36 (.fresh 37 (.hyp 0 22 (.br (.cmp .lss (.var 29) (.var 3))
 (.need (.cmp .leq (.lit 0) (.var 22)) (.need (.cmp .leq (.tims (.lit 1) (.var 22)) (.lit 281474976710656)) (.fresh 38 (.pre 3 (sg 0 [bv 6 33,bv 5 34,bv 7 29,bv 4 33,bv 3 32,bg 2 31,bv 1 2,bv 0 3]) (.both (.fresh 39 (.fresh 40 (.fresh 41 (.post 3 0 (sg 0 [bv 6 33,bv 5 34,bv 7 29,bv 4 33,bv 3 32,bg 2 31,bv 1 2,bv 0 3]) 39 (.need (.cmp .leq (.lit 0) (.var 40)) (.inv 1 42 (sg 1000 [bg 1015 37,bt 1018 (.drep (.var 22) (.rcons (.vint .u8 (.lit 0)) .rnil)),bv 1014 36,bv 1013 35,bv 1012 34,bv 1011 33,bv 1010 32,bv 1008 30,bt 1022 (.lit 0),bv 1021 41,bv 1020 40,bv 1019 39,bg 1009 31,bv 1017 22,bg 1016 38,bv 1007 29,bv 1006 28,bg 1005 27,bg 1004 26,bv 1003 25,bv 1002 24,bg 1001 23,bv 1000 22]) (.fresh 42 (.fresh 43 (.fresh 44 (.fresh 45 (.fresh 46 (.fresh 47 (.fresh 48 (.fresh 49 (.fresh 50 (.fresh 51 (.fresh 52 (.fresh 53 (.fresh 54 (.fresh 55 (.fresh 56 (.fresh 57 (.fresh 58 (.fresh 59 (.fresh 60 (.fresh 61 (.fresh 62 (.fresh 63 (.fresh 64 (.hyp 1 42 (.br (.cmp .lss (.var 64) (.var 62))
 (.need (.cmp .leq (.lit 0) (.var 64)) (.need (.cmp .leq (.lit 0) (.var 61)) (.need (.cmp .leq (.lit 0) (.plus (.var 61) (.var 64))) (.need (.cmp .lss (.plus (.var 61) (.var 64)) (.dlen (.var 54))) (.know (.cmp .leq (.dlen (.var 55)) (.var 45)) (.need (.cmp .leq (.lit 0) (.var 44)) (.need (.cmp .leq (.lit 0) (.var 45)) (.need (.cmp .leq (.lit 0) (.arith .mul .i64 (.var 64) (.var 42))) (.need (.cmp .leq (.arith .mul .i64 (.var 64) (.var 42)) (.arith .mul .i64 (.arith .add .i64 (.var 64) (.lit 1)) (.var 42))) (.need (.cmp .leq (.arith .mul .i64 (.arith .add .i64 (.var 64) (.lit 1)) (.var 42)) (.var 45)) (.pre 4 qlV (.both (.fresh 65 (.fresh 66 (.post 4 0 qlV 65 (.back 1 42 (sg 1000 [bg 1015 57,bv 1018 66,bv 1014 56,bv 1013 55,bv 1012 54,bv 1011 53,bv 1010 52,bv 1008 65,bt 1022 (.arith .add .i64 (.var 64) (.lit 1)),bv 1021 63,bv 1020 62,bv 1019 61,bg 1009 51,bv 1017 59,bg 1016 58,bv 1007 49,bv 1006 48,bg 1005 47,bg 1004 46,bv 1003 45,bv 1002 44,bg 1001 43,bv 1000 42]))))) .top))))))))))))
 (.need (.cmp .leq (.lit 0) (.var 49)) (.need (.cmp .lss (.var 49) (.var 3)) (.need (.cmp .lss (.var 49) (.dlen (.var 56))) (.pack [.arr 58 5 [CK.int .u8] (.var 60) (.var 59),.abs 57 2] 65 (.back 0 22 (sg 1000 [bg 1015 65,bt 1014 (.dput (.var 56) (.var 49) 0 (.rcons (.vint .i64 (.var 49)) (.rcons (.vslice 58 (.lit 0) (.var 42) (.var 59) 1) .rnil))),bv 1013 55,bv 1012 54,bv 1011 53,bv 1010 52,bg 1009 51,bv 1008 50,bt 1007 (.arith .add .i64 (.var 49) (.lit 1)),bv 1006 48,bg 1005 47,bg 1004 46,bv 1003 45,bv 1002 44,bg 1001 43,bv 1000 42]))))))))))))))))))))))))))))))))))))) .top)))))
 (.pack [.cells 26 200 [(.vint .i64 (.var 3)),(.vint .i64 (.var 2)),(.vslice 31 (.lit 0) (.var 32) (.var 33) 1)],.arr 31 5 [CK.int .u8] (.var 34) (.var 33),.arr 23 5 [CK.int .u8] (.var 35) (.var 25),.abs 37 2] 38 (.ret 1 (sg 9 [bg 13 38,bv 12 36,bv 11 30,bv 10 28,bg 9 27]))))))))))))))))))))))))))))))))) .top))))))))))) .top))))))) .top)))
theorem qtl:qk ⟨Tryz.prog,qcj,[qbv,qbr,qp1,qb4,qb5],[qlc,qmu]⟩ 100000 Tryz.f87 = qkq:=by kernel_rfl
theorem qxf (hd:∀ c ∈ ([qbv,qbr,qp1,qb4,qb5]:List Ctr),c.ok Tryz.prog) (h:∀ ρ:Env,ρ.good->(qcj).pre ρ->qkq.den ⟨Tryz.prog,qcj,[qbv,qbr,qp1,qb4,qb5],[qlc,qmu]⟩ ρ):(qcj).ok Tryz.prog :=
 qf Tryz.func87 (fun a w=>Tryz.call87 a w) hd 100000 (fun ρ hg hp=>by rw [qtl]; exact h ρ hg hp)
end Go.Proofs

set_option linter.unusedSimpArgs false
set_option linter.unusedVariables false
namespace Go.Proofs
open Go Go.Eng

theorem q79:qp1.ok Tryz.prog:=Ctr.ok_less q5B rfl rfl rfl rfl rfl (fun _ h=>h.1) fun ρ ρ' ai al hp hag hal hpost=>by
 match ai,hal with
 | 0,hal =>
  exfalso
  obtain rfl:=Option.some.inj hal
  obtain ⟨_,h2⟩:_/\(qaG ((ρ'.upto 5) 2).i ((ρ'.upto 5) 3).i = true->(qcz ((ρ'.upto 5) 2).i.toNat ((ρ'.upto 5) 3).i.toNat).2.2 < ((ρ'.upto 5) 2).i.toNat):=hpost
  have e2:(ρ'.upto 5) 2 = ρ 2:=by rw [Env.upto,if_pos (by omega)]; exact hag 2 (by decide)
  have e3:(ρ'.upto 5) 3 = ρ 3:=by rw [Env.upto,if_pos (by omega)]; exact hag 3 (by decide)
  rw [e2,e3] at h2
  obtain ⟨_,p2,p3⟩:=hp
  have:=h2 p2
  omega
 | 1,hal=>exact ⟨0,hal⟩
 | n + 2,hal=>cases hal
theorem qnf {k n:Nat} (hk:0 < k):n <= k * qF k n:=by
 unfold qF
 have h1:=Nat.div_add_mod (n + k - 1) k
 have h2:=Nat.mod_lt (n + k - 1) hk
 omega
theorem qn6 {k n:Nat} (hk:0 < k):k * qF k n < n + k:=by
 unfold qF
 have h1:=Nat.div_add_mod (n + k - 1) k
 omega
theorem qno {k n:Nat} (hk:0 < k):qF k n <= n:=by
 have h:=qn6 (n:=n) hk
 by_cases h2:qF k n <= n
 ·exact h2
 ·have h3:k * (n + 1) <= k * qF k n:=Nat.mul_le_mul_left k (by omega)
  rw [Nat.mul_add,Nat.mul_one] at h3
  have h4:n * 1 <= k * n:=by rw [Nat.mul_comm k n]; exact Nat.mul_le_mul_left n hk
  omega
theorem qtq {k:Int} {n:Nat} (hk:1 <= k):((n:Int) + k - 1).tdiv k = (qF k.toNat n:Nat):=by
 rw [Int.tdiv_eq_ediv_of_nonneg (by omega),qF,Int.natCast_ediv]
 congr 1 <;> omega
theorem q2Q {d x:qe} (h:x.length <= d.length):bI (qbC d 0 x) = bI x ++ (bI d).drop x.length:=by
 simp [qbC,bI,List.map_drop]
theorem qxc {d x:qe} (hd:qz d) (hx:qz x):qz (qbC d 0 x):=fun r hr=>by
 unfold qbC at hr
 rcases List.mem_append.1 hr with hr | hr
 ·rcases List.mem_append.1 hr with hr | hr
  ·simp at hr
  ·exact hx r hr
 ·exact hd r (List.mem_of_mem_drop hr)
theorem q3d {k total len lg cg:Int} {f dg data D:qe} (hf:qw f) (hs:qaG k total = true) (h1:len <= 8192) (h2:len = data.length) (hB:qz data) (hM:qQ total k lg cg dg) (hG:bI dg = qdi k.toNat total.toNat) (hD:D = List.replicate total.toNat [.int .i64 0,.slice none 0 0]) :
  qol k total len (qF k.toNat data.length:Nat) (k * (qF k.toNat data.length:Nat)) (k * (qF k.toNat data.length:Nat)) lg cg 0 f dg (qbC (List.replicate (k * (qF k.toNat data.length:Nat)).toNat [.int .u8 0]) 0 data) D data:=by
 obtain ⟨k1,k2,k3⟩:=qk8.1 hs
 have hge:=qnf (k:=k.toNat) (n:=data.length) (by omega)
 have hle:=qno (k:=k.toNat) (n:=data.length) (by omega)
 have hc:(k * (qF k.toNat data.length:Nat)).toNat = k.toNat * qF k.toNat data.length:=by rw [Int.toNat_mul (by omega) (by omega)]; simp
 have hc0:0 <= k * (qF k.toNat data.length:Nat):=Int.mul_nonneg (by omega) (by omega)
 refine ⟨hf,hs,h1,h2,hB,rfl,by omega,rfl,?_,qxc qim hB,?_,hM,hG,by rw [hD,List.length_replicate],fun row hr=>by rw [hD] at hr; rw [List.eq_of_mem_replicate hr]; rfl,by omega,by omega⟩
 ·rw [qnn (by rw [List.length_replicate]; omega),List.length_replicate]; omega
 ·rw [q2Q (by rw [List.length_replicate]; omega),qlu,hc,qiK,bI_len,List.drop_replicate]; simp
theorem q3h {k total len l lf cf lg cg i:Int} {f dg df D data:qe} {v w:Value} (h:qol k total len l lf cf lg cg i f dg df D data) (hi:i < total):qol k total len l lf cf lg cg (i + 1) f dg df (qcc D i 0 [v,w]) data:=by
 obtain ⟨a1,a2,a3,a4,a5,a6,a7,a8,a9,a10,a11,a12,a13,a14,a17,a15,a16⟩:=h
 refine ⟨a1,a2,a3,a4,a5,a6,a7,a8,a9,a10,a11,a12,a13,by rw [qfp]; exact a14,fun row hr=>?_,by omega,by omega⟩
 unfold qcc at hr
 rcases List.mem_or_eq_of_mem_set hr with hr | rfl
 ·exact a17 row hr
 ·have hl:i.toNat < D.length:=by omega
  have:=a17 _ (List.getElem_mem hl)
  rw [List.getElem?_eq_getElem hl,Option.getD_some,qkX (by rw [this]; simp),this]
theorem q8a {k total len l lf cf lg cg i:Int} {f f' dg df D data:qe} (h:qol k total len l lf cf lg cg i f dg df D data) (hf:qw f'):qol k total len l lf cf lg cg i f' dg df D data:=⟨hf,h.2⟩
theorem qko {h h':Hp} {D:qe} {n:Nat} {f:Nat->List Int} (he:qgb h D n f) (hl:Hp.le h h'):qgb h' D n f:=fun j hj=>by
 obtain ⟨v,d,e1,e2,e3⟩:=he j hj
 exact ⟨v,d,e1,qj5 e2 hl,e3⟩
theorem q0B {h h':Hp} {D:qe} {i:Int} {f:Nat->List Int} {v:Value} {d:qe} (he:qgb h D i.toNat f) (hl:Hp.le h h') (h0:0 <= i) (hi:i.toNat < D.length) (hc:(D[i.toNat]?.getD []).length = 2) (hr:Rd h' kB v d) (hd:bI d = f i.toNat) (hB:qz d) :
  qgb h' (qcc D i 0 [.int .i64 i,v]) (i.toNat + 1) f:=fun j hj=>by
 by_cases hji:j = i.toNat
 ·subst hji
  refine ⟨v,d,?_,hr,hd,hB⟩
  have hs:qa6 (D[i.toNat]?.getD []) 0 [.int .i64 i,v] = [.int .i64 i,v]:=by
   simp only [qa6,List.take_zero,List.nil_append]
   rw [List.drop_eq_nil_of_le (by rw [hc]; exact Nat.le_refl _),List.append_nil]
  rw [qcc,List.getElem?_set_self hi,hs,Int.toNat_of_nonneg h0]
 ·obtain ⟨v',d',e1,e2,e3⟩:=he j (by omega)
  exact ⟨v',d',by rw [qcc,List.getElem?_set_ne (by omega)]; exact e1,qj5 e2 hl,e3⟩
set_option maxRecDepth 20000 in
set_option pp.deepTerms true in
set_option pp.maxSteps 1000000 in
theorem qxD:qcj.ok Tryz.prog:=qxf (by simp [qpk,qpq,q79,qok,qo3]) fun ρ hg hp=>by
 obtain ⟨hf,hl,hB,hrk⟩:=hp
 have hne:=(qcm hf).1
 simp (config:={ maxSteps:=4000000 }) [qkq,qcj,qlc,qmu,qbv,qbr,qp1,qfM,qb4,qb5]
 refine ⟨fun h=>(hne h).elim,fun _ v _ hv=>⟨fun hb=>⟨hf,by rw [<- hv]; exact hb⟩,fun hb=>?_⟩⟩
 have hsz:qaG (ρ 2).i (ρ 3).i = true:=by rw [<- hv]; exact hb
 obtain ⟨k1,k2,k3⟩:=qk8.1 hsz
 refine ⟨by omega,fun h=>⟨hf,hsz,h⟩,fun hle l _ e _ _ hpl=>?_⟩
 have hnb:¬ qfs (ρ 2).i (ρ 5).i:=by unfold qfs; omega
 obtain ⟨hpl1,_⟩:=hpl hnb
 rw [hl,qtq k1] at hpl1
 have hge:=qnf (k:=(ρ 2).i.toNat) (n:=(ρ 7).d.length) (by omega)
 have hlt:=qn6 (k:=(ρ 2).i.toNat) (n:=(ρ 7).d.length) (by omega)
 have hkl:(ρ 2).i * l.i = (((ρ 2).i.toNat * qF (ρ 2).i.toNat (ρ 7).d.length:Nat):Int):=by rw [hpl1,Int.natCast_mul,Int.toNat_of_nonneg (by omega)]
 rw [qc2 (by omega) (by omega)]
 have hmax:max ((ρ 2).i * l.i) 0 = (ρ 2).i * l.i:=by omega
 refine ⟨by omega,by omega,fun u3 _=>⟨by omega,by omega,fun u4 _=>⟨⟨hf,hsz,hrk hsz⟩,fun u5 _ lg _ cg _ f1 _ dg _ ab _ hf1 _ hM _ hG u11 _=>⟨by omega,by omega,fun u12 _=>⟨⟨?_,fun j hj=>by omega⟩,?_⟩⟩⟩⟩⟩
 ·have htake:(((ρ 7).d.take (ρ 5).i.toNat).take (if (ρ 5).i < (ρ 2).i * l.i then (ρ 5).i else (ρ 2).i * l.i).toNat) = (ρ 7).d:=by
   rw [List.take_of_length_le (l:=(ρ 7).d) (by omega),List.take_of_length_le (by split <;> omega)]
  rw [htake,hpl1]
  exact q3d hf1 hsz hle hl hB hM hG rfl
 intro l2 _ u14 _ lf _ cf _ u17 _ u18 _ u19 _ i _ f2 _ u22 _ lg2 _ cg2 _ dg2 _ df2 _ D2 _ ab2 _ hW hE
 refine ⟨fun hi=>?_,fun hi u29 _ hst=>?_⟩
 ·have hW':=hW
  obtain ⟨a1,a2,a3,a4,a5,a6,a7,a8,a9,a10,a11,a12,a13,a14,a17,a15,a16⟩:=hW'
  refine ⟨by omega,by omega,fun u29 _=>⟨⟨a15,hi,a12.1⟩,fun o _ n _ c _ ho hn hc=>⟨by omega,⟨hW,hE,hi,ho,hn,by omega,qim,?_⟩,?_⟩⟩⟩
  ·rw [qlu]; rfl
  intro l3 _ u34 _ lf3 _ cf3 _ u37 _ u38 _ u39 _ i3 _ f3 _ u42 _ lg3 _ cg3 _ dg3 _ df3 _ D3 _ ab3 _ rp _ cp _ pd _ o3 _ n3 _ c3 _ j _ hW3 hE3 hii hi3 ho3 hn3 j0 j1 hpl hpB hp3
  have hW3':=hW3
  obtain ⟨b1,b2,b3,b4,b5,b6,b7,b8,b9,b10,b11,b12,b13,b14,b17,b15,b16⟩:=hW3'
  obtain ⟨⟨m1,m2,m3,m4,m5,m6,m7,m8⟩,m9⟩:=b12
  have hl0:0 <= l3.i:=by omega
  refine ⟨fun hj=>?_,fun hj=>?_⟩
  ·have hjk:j.i < (ρ 2).i:=by omega
   have hbo:=qao (x:=i3.i) (y:=(ρ 2).i) b15 (show i3.i <= 255 by omega) (by omega) (show (ρ 2).i <= 255 by omega)
   have hbj:=qao (x:=j.i) (y:=l3.i) j0 (show j.i <= 255 by omega) hl0 b7
   have hltG:i3.i * (ρ 2).i + j.i < (ρ 3).i * (ρ 2).i:=by
    have:=Int.mul_le_mul_of_nonneg_right (show i3.i + 1 <= (ρ 3).i by omega) (show 0 <= (ρ 2).i by omega)
    rw [Int.add_mul,Int.one_mul] at this; omega
   have he:(j.i + 1) * l3.i = j.i * l3.i + l3.i:=by rw [Int.add_mul,Int.one_mul]
   have hltF:j.i * l3.i + l3.i <= (ρ 2).i * l3.i:=by
    have:=Int.mul_le_mul_of_nonneg_right (show j.i + 1 <= (ρ 2).i by omega) hl0
    omega
   have hcell:=qdp m8 (i:=o3.i + j.i) (by omega) (by omega)
   rw [add64 (by omega) (by omega),qc2 (by omega) (by omega),qc2 (by omega) (by omega),he]
   refine ⟨j0,by omega,by omega,by omega,fun hcap=>⟨by omega,by omega,hbj.1,by omega,by omega,⟨b1,⟨by omega,hl0,by omega,by unfold Go.Eng.big; omega⟩,⟨by split <;> omega,by omega,by split <;> omega,by unfold Go.Eng.big; omega⟩,by omega,hpB,b10,hcell⟩,fun f4 _ d4 _ hf4 hl4 hB4 he4=>?_⟩⟩
   refine ⟨⟨q8a hW3 hf4,hE3,hii,hi3,ho3,hn3,by omega,by omega,by omega,hB4,?_⟩,by omega⟩
   have hsg:seg (bI df3.d) (if cf3.i = j.i * l3.i then 0 else j.i * l3.i).toNat (j.i * l3.i + l3.i - j.i * l3.i).toNat = seg (bI df3.d) (j.i.toNat * l3.i.toNat) l3.i.toNat:=by
    rw [show j.i * l3.i + l3.i - j.i * l3.i = l3.i by omega]
    split
    ·have:l3.i.toNat = 0:=by omega
     rw [this]; simp [seg]
    ·rw [Int.toNat_mul j0 hl0]
   have hgd:(bI dg3.d).getD (i3.i.toNat * (ρ 2).i.toNat + j.i.toNat) 0 = qg dg3.d (o3.i + j.i) 0:=by
    have:=qgf (d:=dg3.d) (i:=o3.i + j.i) (by omega) (by omega)
    rw [show (o3.i + j.i).toNat = i3.i.toNat * (ρ 2).i.toNat + j.i.toNat by rw [ho3,Int.toNat_add hbo.1 j0,Int.toNat_mul b15 (by omega)]] at this
    rw [List.getD_eq_getElem?_getD,this]; rfl
   rw [he4,hp3,hsg,show (j.i + 1).toNat = j.i.toNat + 1 by omega,qcq,hgd]
  ·have hjk:j.i = (ρ 2).i:=by omega
   refine ⟨b15,hi3,by omega,fun u56 _ hst=>?_⟩
   rw [add64 (by omega) (by omega)]
   refine ⟨⟨q3h hW3 hi3,?_⟩,by omega⟩
   obtain ⟨ha,la,da⟩:=qkF hst (List.mem_cons_self ..)
   obtain ⟨hb,lb,db⟩:=qcy hst (n:=57) (t:=2) (by simp)
   have hr:=q2y (n:=l3.i.toNat) (k:=cp.i.toNat) da la (by simp; omega) (by simp)
   have hr:Rd u56.h kB (.slice (qm rp.r 0) l3.i.toNat cp.i.toNat) pd.d:=by simpa [kB] using hr
   have hdl:i3.i.toNat < D3.d.length:=by omega
   rw [show (i3.i + 1).toNat = i3.i.toNat + 1 by omega]
   refine q0B hE3 (Hp.le_trans (by simpa using db) lb) b15 hdl (by rw [List.getElem?_eq_getElem hdl]; exact b17 _ (List.getElem_mem hdl)) hr ?_ hpB
   rw [hp3,qdT,hjk,b13,b11,bI_len]
   rw [show l3.i.toNat = qF (ρ 2).i.toNat (ρ 7).d.length by omega]
 ·obtain ⟨a1,a2,a3,a4,a5,a6,a7,a8,a9,a10,a11,a12,a13,a14,a17,a15,a16⟩:=hW
  obtain ⟨hb,lb,db⟩:=qcy hst (n:=37) (t:=2) (by simp)
  refine ⟨a1,hsz,hle,a14,?_⟩
  rw [show i.i.toNat = (ρ 3).i.toNat by omega] at hE
  exact qko hE (Hp.le_trans (by simpa using db) lb)
end Go.Proofs

set_option linter.unusedSimpArgs false
set_option linter.unusedVariables false
namespace Go.Proofs
open Go Go.Eng

end Go.Proofs

set_option linter.unusedSimpArgs false
set_option linter.unusedVariables false
namespace Go.Proofs
open Go Go.Eng
theorem qs1:qbV.ok Tryz.prog:=q2h (by simp) fun ρ hg hp=>by
 simp [qnQ,qbV]
 refine ⟨fun h1=>⟨fun h2=>⟨fun h3=>?_,fun h3=>?_⟩,fun h2=>?_⟩,fun h1=>?_⟩
 ·simp [qbq,h1,h2,h3,qJ]
 ·simp [qbq]; omega
 ·simp [qbq]; omega
 ·simp [qbq]; omega
set_option maxRecDepth 20000 in
theorem qsF:qca.ok Tryz.prog:=q3g (by simp [qs1]) fun ρ hg hp=>by
 have hp:0 <= (ρ 6).i:=hp
 simp [qo7,qca,qbV,qI,qo2,qjb,qaz]
 refine fun u _ hu=>⟨fun h hs=>by (rw [hu,hs] at h; cases h),fun h=>⟨fun a _ b=>by omega,fun a=>⟨fun b _ _ c=>by omega,fun b=>⟨hp,fun c _ _ _=>c,fun c=>⟨by rw [<- hu,h],a,b,c⟩⟩⟩⟩⟩
theorem q9X {x:Int}:qc .shr .i64 x 8 = x.fdiv 256:=rfl
set_option maxRecDepth 20000 in
theorem qoZ:qbt.ok Tryz.prog:=q0j (by simp [qqu,quS,q1Z]) fun ρ hg hp=>by
 obtain ⟨o0,l0,lc,l1,hle,hB,hGr,hGd⟩:=hp
 simp (config:={ maxSteps:=2000000 }) [qmw,qbt,qbp,qcA,qfQ,gOk]
 have hseg:qaF [[.int .u8 (IntKind.u8.wrap (qc .shr .i64 (ρ 0).i 8))],[.int .u8 (IntKind.u8.wrap (ρ 0).i)]] 0 2 = qcn (ρ 0).i:=by
  rw [q9X,qgZ,qgZ]; rfl
 refine fun h _ hh=>⟨⟨⟨[],hh,by decide⟩,?_,hGr,hGd⟩,fun g _ hg1=>?_⟩
 ·intro row hr
  simp at hr
  rcases hr with rfl | rfl
  ·simp [qb7,qW,qgZ]; omega
  ·simp [qb7,qW,qgZ]; omega
 ·rw [hseg] at hg1
  have h1:=hg1 [] hh
  refine ⟨⟨⟨_,h1,by simp [qcn]⟩,o0,l0,lc,by omega,hle,hB,hGr,hGd⟩,fun k _ hk=>⟨⟨⟨_,hk _ h1,?_⟩,hGr,hGd⟩,fun d _ hd=>?_⟩⟩
  ·have:(qaF (ρ 5).d (ρ 2).i (ρ 3).i).length <= (ρ 3).i.toNat:=by simp [qaF]; omega
   simp [qcn]; omega
  ·exact (show qd _ 32 = qd d.d 32 from rfl).trans (hd _ (hk _ h1))
theorem qft {lim:Int} {b:Bool} {x m s:List Int} (h:(b,x) = qgh lim false m s) (hf:(m.length:Int) + s.length <= lim):b = false/\x = m ++ s:=by
 rw [qkD (by simp [qgI]; omega)] at h
 simpa using h
theorem q80 {x:Int}:IntKind.u16.wrap x = x % 65536:=by simp [IntKind.wrap,IntKind.bits,IntKind.signed]
theorem q7M {d:qe} {i:Nat} (h:i < d.length):qd [qdH (qg d i)] 32 = qhs d[i]:=by
 refine List.map_congr_left fun j hj=>?_
 rw [qjx (List.mem_range.1 hj)]
 simp [qg,qas,qb7,h]
theorem quT {d:qe} {i:Nat} (h:i < d.length):((dgs d).take (i + 1)).flatten = ((dgs d).take i).flatten ++ qhs d[i]:=by
 rw [List.take_add_one,List.getElem?_eq_getElem (by simpa [dgs] using h)]
 simp [dgs]
set_option maxRecDepth 20000 in
set_option maxHeartbeats 800000 in
theorem q3b:qdK.ok Tryz.prog:=q1s (by simp [qsF,quq,q9F,q8D,q7Q,q4s,q4m]) fun ρ hg hp=>by
 obtain ⟨l0,hl,ho,hd⟩:=hp
 simp (config:={ maxSteps:=2000000 }) [qos,qdK,qrp,qca,qbG,u8C,qjk,qpR,qgW,qeR,qeK,qci,qab,qgC]
 refine ⟨l0,fun e _ he=>⟨fun hne=>?_,fun hz lim _ hlim=>?_⟩⟩
 ·by_cases h:qI (ρ 0).i (ρ 1).i (ρ 2).i (ρ 3).i (ρ 6).i = true
  ·rw [if_pos h] at he; exact absurd he hne
  ·rw [if_neg h] at he; exact ⟨he.symm,by simpa using h⟩
 ·have hok:qI (ρ 0).i (ρ 1).i (ρ 2).i (ρ 3).i (ρ 6).i = true:=by
   by_cases h:qI (ρ 0).i (ρ 1).i (ρ 2).i (ρ 3).i (ρ 6).i = true
   ·exact h
   ·rw [if_neg h] at he; omega
  have hb:=hok
  simp [qI,qbq] at hb
  obtain ⟨⟨b1,b2,b3,b4⟩,b5,b6,b7⟩:=hb
  have hl2:lim.i = 39 + 32 * (ρ 2).i:=by
   rw [hlim,qc2 (by omega) (by omega),add64 (by omega) (by omega)]; omega
  clear hlim
  simp only [qgZ,q80]
  have hman:List.drop 4 (qd [([.int .i64 (ρ 0).i,.int .i64 (ρ 1).i,.int .i64 (ρ 2).i,.int .i64 (ρ 3).i] ++ (qdH (qa (ρ 4).d) ++ [.slice (qm (ρ 5).r 0) (ρ 6).i.toNat (ρ 7).i.toNat]):List Value)] 36) = qd (ρ 4).d 32:=rfl
  have hone:qC [([.int .i64 (ρ 0).i,.int .i64 (ρ 1).i,.int .i64 (ρ 2).i,.int .i64 (ρ 3).i] ++ (qdH (qa (ρ 4).d) ++ [.slice (qm (ρ 5).r 0) (ρ 6).i.toNat (ρ 7).i.toNat]):List Value)] 37:=⟨_,rfl,by simp [qdH]⟩
  have hlen:∀ {l n c:Int} {d:qe},wOk l n c d->n = ((bI d).length:Int):=fun h=>by rw [bI_len]; exact h.2.2.1
  refine ⟨⟨by omega,by omega,rfl,by omega,by intro r hr; cases hr⟩,fun f1 _ n1 _ c1 _ d1 _ w1 g1=>?_⟩
  obtain ⟨y1,x1⟩:=qft g1 (by rw [hl2]; simp [bI,qar]; omega)
  have L1:(bI d1.d).length = 2:=by rw [x1]; simp [bI,qar]
  have q1:=hlen w1
  refine ⟨⟨w1,by omega,by omega,by omega⟩,fun f2 _ n2 _ c2 _ d2 _ w2 g2=>?_⟩
  rw [y1] at g2
  obtain ⟨y2,x2⟩:=qft g2 (by rw [hl2,L1,qar]; omega)
  have L2:(bI d2.d).length = 3:=by rw [x2,List.length_append,L1,qar]
  have q2:=hlen w2
  refine ⟨⟨w2,by omega,by omega,by omega⟩,fun f3 _ n3 _ c3 _ d3 _ w3 g3=>?_⟩
  rw [y2] at g3
  obtain ⟨y3,x3⟩:=qft g3 (by rw [hl2,L2,qar]; omega)
  have L3:(bI d3.d).length = 4:=by rw [x3,List.length_append,L2,qar]
  have q3:=hlen w3
  refine ⟨⟨w3,by omega,by omega,by omega⟩,fun f4 _ n4 _ c4 _ d4 _ w4 g4=>?_⟩
  rw [y3] at g4
  obtain ⟨y4,x4⟩:=qft g4 (by rw [hl2,L3,qar]; omega)
  have L4:(bI d4.d).length = 5:=by rw [x4,List.length_append,L3,qar]
  have q4:=hlen w4
  refine ⟨⟨w4,by omega,by omega,by omega⟩,fun f5 _ n5 _ c5 _ d5 _ w5 g5=>?_⟩
  rw [y4] at g5
  obtain ⟨y5,x5⟩:=qft g5 (by rw [hl2,L4,qar]; omega)
  have L5:(bI d5.d).length = 7:=by rw [x5,List.length_append,L4,qar]
  have q5:=hlen w5
  refine ⟨⟨w5,by omega,hone,?_⟩,fun f6 _ n6 _ c6 _ d6 _ w6 g6=>?_⟩
  ·have:=hman
   exact this ▸ ho
  have g6':(f6.b,bI d6.d) = qgh lim.i f5.b (bI d5.d) (qd (ρ 4).d 32):=g6
  rw [y5] at g6'
  obtain ⟨y6,x6⟩:=qft g6' (by rw [hl2,L5,qdt]; omega)
  have hhead:bI d6.d = qaN (ρ 0).i (ρ 1).i (ρ 2).i (ρ 3).i (qd (ρ 4).d 32):=by
   rw [x6,x5,x4,x3,x2,x1]
   simp [qaN,bI,List.append_assoc]
  refine ⟨l0,⟨hok,l0,hl2,y6,w6,hhead⟩,fun lim2 _ f _ n _ c _ d _ t _ _ t0 t1 z1 z2 z3 z4=>⟨fun hlt=>?_,fun hge=>?_⟩⟩
  ·obtain ⟨T,hT⟩:∃ T:Nat,t.i = T:=⟨t.i.toNat,by omega⟩
   have m1:qc .add .i64 t.i 1 = ((T + 1:Nat):Int):=by rw [add64 (by omega) (by omega)]; omega
   have hTl:T < (ρ 8).d.length:=by omega
   have hrow:=q7M hTl
   have hnl:n.i = 39 + 32 * t.i:=by
    have h1:=hlen z3
    rw [z4,List.length_append] at h1
    have h2:∀ (k:Nat),k <= (ρ 8).d.length->((dgs (ρ 8).d).take k).flatten.length = 32 * k:=fun k=>by
     induction k with
     | zero=>intro _; simp
     | succ k ih=>intro hk; rw [quT (by omega),List.length_append,ih (by omega)]; simp [qhs]; omega
    rw [h2 _ (by omega)] at h1
    have h3:(qaN (ρ 0).i (ρ 1).i (ρ 2).i (ρ 3).i (qd (ρ 4).d 32)).length = 39:=by simp [qaN,qar,qdt]
    omega
   rw [hT] at z4 hnl ⊢
   rw [<- hT,m1,hT]
   refine ⟨by omega,by omega,⟨z3,by omega,⟨_,rfl,rfl⟩,?_⟩,fun f7 _ n7 _ c7 _ d7 _ w7 g7=>?_⟩
   ·have h1:qM (qhs (ρ 8).d[T]):=(hd _ (List.getElem_mem hTl)).2
    rw [<- hrow] at h1
    exact h1
   ·have g7':(f7.b,bI d7.d) = qgh lim2.i f.b (bI d.d) (qd [qdH (qg (ρ 8).d T)] 32):=g7
    rw [z2,hrow] at g7'
    have hbl:(qhs (ρ 8).d[T]).length = 32:=by simp [qhs]
    obtain ⟨y7,x7⟩:=qft g7' (by rw [<- hlen z3,hbl]; omega)
    refine ⟨⟨hok,by omega,by omega,z1,y7,w7,?_⟩,by omega⟩
    rw [x7,z4]
    simp only [Int.toNat_natCast]
    rw [quT hTl,List.append_assoc]
  ·have ht:t.i.toNat = (ρ 8).d.length:=by omega
   rw [ht] at z4
   rw [List.take_of_length_le (by simp [dgs])] at z4
   refine ⟨⟨z3,?_⟩,z2,fun e _ _ he=>⟨hok,by rw [he]; exact z3.2.2.1,by rw [he]; exact z3.2.2.2.2,by rw [he]; exact z4⟩⟩
   have:=z3.2.2.2.1
   omega
end Go.Proofs

set_option linter.unusedSimpArgs false
set_option linter.unusedVariables false
namespace Go.Proofs
open Go Go.Eng
theorem qec (m:List Int):qM (sha m):=fun x hx=>by
 obtain ⟨j,_,rfl⟩:=List.mem_map.1 hx
 omega
theorem qyA {f:Nat->List Int} {n:Nat}:(qdC f n).length = n:=by simp [qdC]
theorem qpL {g full:List Int} {k l i:Nat}:∀ j,(qcq g full k l i j).length = l
 | 0=>by simp [qcq]
 | j + 1=>by rw [qcq,qcD,qpL j]
theorem q4K {k total:Nat} {data:List Int} {i:Nat}:(qdT k total data i).length = qF k data.length:=qpL k
theorem q4D {d:qe} {r:List Value}:dgs (d ++ [r]) = dgs d ++ [qhs r]:=by simp [dgs]
theorem qwN {f:Nat->List Int} {n:Nat}:qdC f (n + 1) = qdC f n ++ [sha (qcn n ++ f n)]:=by simp [qdC,List.range_succ]
theorem q6B {d:qe}:qhs (qdH (qa d)) = qd d 32:=rfl
set_option maxRecDepth 20000 in
set_option maxHeartbeats 1600000 in
theorem qyu:qgK.ok Tryz.prog:=qqC (by simp [qs1,qxD,qmf,qoZ]) fun ρ hg hp=>by
 obtain ⟨hf,hl,hlc,hB,⟨hGr,hGd⟩,htop⟩:=hp
 simp (config:={ maxSteps:=2000000 }) [qvZ,qgK,qzR,qbV,qcj,qaU,qbt,gOk,qmP]
 have hnn:=qcm hf
 refine fun u _=>⟨fun h=>absurd h hnn.1,fun _ b _ hb=>⟨fun hz=>⟨hf,by rw [<- hb]; exact hz⟩,fun hz=>?_⟩⟩
 rw [hz] at hb
 have hs3:=hb.symm
 have hs3':=hs3
 simp [qbq] at hs3'
 obtain ⟨b1,b2,b3,b4⟩:=hs3'
 have hsB:qaG (ρ 2).i (ρ 4).i = true:=by simp [qaG]; omega
 have hsz:qaG (ρ 2).i (ρ 4).i = false->False:=fun h=>by rw [hsB] at h; cases h
 refine ⟨⟨hf,hl,hB,htop⟩,fun e _ f _ hf2 he=>⟨fun hne=>⟨hf2,?_⟩,fun hz2=>?_⟩,fun _ _ _ _ f _ P _ ab _ hf2 _ hle hPl hE=>⟨by omega,⟨⟨by omega,hlc,by omega,by omega,hB⟩,hGr,hGd⟩,fun o _ ho _ _=>⟨by omega,⟨hf2,hs3,hle,by omega,hPl,hE,?_,?_,?_⟩,fun _ _ _ _ _ _ o2 _ _ _ t _ _ _ Ds _ P2 _ _ _ f2 _ ab2 _ hf3 _ _ t0 t1 hPl2 hE2 ho2 hDl hDo hDm=>⟨fun hlt=>?_,fun hge=>?_⟩⟩⟩⟩
 ·rcases he with ⟨h,_⟩ | ⟨_,h1,h2⟩
  ·exact (hsz h).elim
  ·exact .inr ⟨hs3,h1,h2⟩
 ·rcases he with ⟨h,_⟩ | ⟨_,h1,h2⟩
  ·exact (hsz h).elim
  ·omega
 ·rw [qjX hl] at ho
  exact ho
 ·intro r hr; cases hr
 ·rfl
 ·obtain ⟨T,hT⟩:∃ T:Nat,t.i = T:=⟨t.i.toNat,by omega⟩
  have m1:qc .add .i64 t.i 1 = ((T + 1:Nat):Int):=by rw [add64 (by omega) (by omega)]; omega
  obtain ⟨v,d,e1,e2,e3,e4⟩:=hE2 T (by omega)
  have hcv:qas P2.d t.i 1 = v:=by rw [hT]; simp [qas,e1]
  have hci:qg P2.d t.i 0 = (T:Int):=by rw [hT]; simp [qg,qas,e1,qW]
  rw [m1,hcv,hci]
  have hdl:d.length <= (ρ 8).d.length:=by
   have h1:=congrArg List.length e3
   rw [bI_len,q4K,bI_len] at h1
   have:=qno (k:=(ρ 2).i.toNat) (n:=(ρ 8).d.length) (by omega)
   omega
  refine ⟨by omega,by omega,fun _ _=>⟨d,e2,fun r0 _ c1 _ hv hcl=>⟨⟨hcl,by omega,e4,hGr,hGd⟩,fun g _ hg2 _ _=>⟨by omega,by omega,fun _ _ _ _ ab3 _ hst=>⟨by omega,⟨hf3,hs3,hle,by omega,by omega,hPl2,?_,ho2,by omega,?_,?_⟩,by omega⟩⟩⟩⟩⟩
  ·obtain ⟨hb2,lb,db⟩:=qcy hst (n:=32) (t:=2) (by simp)
   exact qko hE2 (Hp.le_trans (by simpa using db) lb)
  ·intro r hr
   rcases List.mem_append.1 hr with hr | hr
   ·exact hDo r hr
   ·obtain rfl:=List.mem_singleton.1 hr
    refine ⟨rfl,?_⟩
    have:qM (qd g.d 32):=by rw [hg2]; exact qec _
    exact this
  ·have hh:dgs (Ds.d ++ [qdH (qa g.d)]) = qdC (qdT (ρ 2).i.toNat (ρ 4).i.toNat (bI (ρ 8).d)) (T + 1):=by
    rw [q4D,q6B,hg2,qjX rfl,e3,hDm,hT,Int.toNat_natCast,qwN]
   exact hh
 ·have ht:t.i = (ρ 4).i:=by omega
  refine fun ab3 _ hst=>⟨by omega,hf3,hs3,hle,hPl2,?_,ho2,hDo,by rw [hDm,ht]⟩
  obtain ⟨hb2,lb,db⟩:=qcy hst (n:=32) (t:=2) (by simp)
  exact qko hE2 (Hp.le_trans (by simpa using db) lb)
end Go.Proofs

set_option linter.unusedSimpArgs false
set_option linter.unusedVariables false
namespace Go.Proofs
open Go Go.Eng
set_option maxRecDepth 20000
end Go.Proofs

set_option linter.unusedSimpArgs false
set_option linter.unusedVariables false
namespace Go.Eng
open Go Go.Proofs
end Go.Eng

set_option linter.unusedSimpArgs false
set_option linter.unusedVariables false
set_option maxRecDepth 100000
namespace Go.Proofs
open Go Go.Eng

end Go.Proofs

set_option linter.unusedSimpArgs false
set_option linter.unusedVariables false
namespace Go.Proofs
open Go Go.Eng
set_option maxRecDepth 20000
end Go.Proofs

set_option linter.unusedSimpArgs false
set_option linter.unusedVariables false
namespace Go.Proofs
open Go Go.Eng
set_option maxRecDepth 20000
end Go.Proofs

set_option linter.unusedSimpArgs false
set_option linter.unusedVariables false
namespace Go.Eng
open Go Go.Proofs
end Go.Eng

set_option linter.unusedSimpArgs false
set_option linter.unusedVariables false
set_option maxRecDepth 100000
namespace Go.Proofs
open Go Go.Eng

end Go.Proofs

set_option linter.unusedSimpArgs false
set_option linter.unusedVariables false
namespace Go.Proofs
open Go Go.Eng
set_option maxRecDepth 20000
end Go.Proofs

set_option linter.unusedSimpArgs false
set_option linter.unusedVariables false
namespace Go.Eng
open Go Go.Proofs
end Go.Eng

set_option linter.unusedSimpArgs false
set_option linter.unusedVariables false
set_option maxRecDepth 100000
namespace Go.Proofs
open Go Go.Eng

end Go.Proofs

set_option linter.unusedSimpArgs false
set_option linter.unusedVariables false
namespace Go.Proofs
open Go Go.Eng
set_option maxRecDepth 20000
theorem q7w {D:qe}:(dgs D).length = D.length:=by simp [dgs]
end Go.Proofs

set_option linter.unusedSimpArgs false
set_option linter.unusedVariables false
namespace Go.Proofs
open Go Go.Eng
set_option maxRecDepth 20000
end Go.Proofs

set_option linter.unusedSimpArgs false
set_option linter.unusedVariables false
namespace Go.Eng
open Go Go.Proofs
def q6l (ρ:Env) (r:Nat):Prop:=qjh (ρ r).i/\qjh (ρ (r + 1)).i/\qjh (ρ (r + 2)).i/\qjh (ρ (r + 3)).i/\qM (qd (ρ (r + 4)).d 32)/\(ρ (r + 6)).i = (ρ (r + 8)).d.length/\(ρ (r + 6)).i <= 4398046510976/\qfV (ρ (r + 8)).d
def q0Z (ρ:Env):List Int:=qaN (ρ 0).i (ρ 1).i (ρ 2).i (ρ 3).i (qd (ρ 4).d 32) ++ (dgs (ρ 8).d).flatten
def qvh (ρ:Env):Bool:=qI (ρ 0).i (ρ 1).i (ρ 2).i (ρ 3).i (ρ 6).i
def qzD (ρ:Env):Prop:=(ρ 6).i = (ρ 8).d.length/\qM (qd (ρ 4).d 32)/\qfV (ρ 8).d
def qp2:List Alt:=[
 { k:=2,ret:=.tup [(true,qaz .u8 12 32),qcY (.var 13)],heap:=[],post:=fun ρ=>(qvh ρ = false/\(ρ 13).i = 2/\qd (ρ 12).d 32 = List.replicate 32 0)∨(qvh ρ = true/\(ρ 13).i = 0/\qd (ρ 12).d 32 = sha (q0Z ρ)) }]
def idC:Ctr:={ fn := 44,nv:=12,ip:=[gIp 10,(1005,9)],args:=[qo2],heap:=[],ro:=[qfY 5 8 9,gHp 10 11],pre:=fun ρ=>qzD ρ/\gOk ρ 10 11 gR,alts:=qp2 }
end Go.Eng

set_option linter.unusedSimpArgs false
set_option linter.unusedVariables false
set_option maxRecDepth 100000
namespace Go.Proofs
open Go Go.Eng

end Go.Proofs

set_option linter.unusedSimpArgs false
set_option linter.unusedVariables false
namespace Go.Proofs
open Go Go.Eng
set_option maxRecDepth 20000
theorem qcZ {l:List (List Int)} (h:∀ x ∈ l,x.length = 32):l.flatten.length = 32 * l.length:=by
 induction l with
 | nil=>rfl
 | cons x r ih =>
  rw [List.flatten_cons,List.length_append,h x (List.mem_cons_self ..),ih (fun y hy=>h y (List.mem_cons_of_mem _ hy)),List.length_cons]; omega
theorem qxR {l:List (List Int)} (h:∀ x ∈ l,x.length = 32):∀ {j:Nat} (hj:j < l.length),(l.flatten.drop (32 * j)).take 32 = l[j]:=by
 induction l with
 | nil=>intro j hj; simp at hj
 | cons x r ih =>
  intro j hj
  have hx:=h x (List.mem_cons_self ..)
  cases j with
  | zero=>simp [List.take_left' hx]
  | succ j =>
   rw [List.flatten_cons,show 32 * (j + 1) = x.length + 32 * j by omega,List.drop_length_add_append]
   exact ih (fun y hy=>h y (List.mem_cons_of_mem _ hy)) (by simpa using hj)
theorem q8Q {D:qe}:∀ x ∈ dgs D,x.length = 32:=fun x hx=>by
 obtain ⟨r,_,rfl⟩:=List.mem_map.1 hx
 simp [qhs]
end Go.Proofs

set_option linter.unusedSimpArgs false
set_option linter.unusedVariables false
namespace Go.Proofs
open Go Go.Eng
def qt4 (d:qe) (i:Int):List Int:=(List.range 32).map fun k=>qg d i k
@[simp high] theorem qAc (d:qe):qd [[.int .u8 (qa d 0),.int .u8 (qa d 1),.int .u8 (qa d 2),.int .u8 (qa d 3),.int .u8 (qa d 4),.int .u8 (qa d 5),.int .u8 (qa d 6),.int .u8 (qa d 7),.int .u8 (qa d 8),.int .u8 (qa d 9),.int .u8 (qa d 10),.int .u8 (qa d 11),.int .u8 (qa d 12),.int .u8 (qa d 13),.int .u8 (qa d 14),.int .u8 (qa d 15),.int .u8 (qa d 16),.int .u8 (qa d 17),.int .u8 (qa d 18),.int .u8 (qa d 19),.int .u8 (qa d 20),.int .u8 (qa d 21),.int .u8 (qa d 22),.int .u8 (qa d 23),.int .u8 (qa d 24),.int .u8 (qa d 25),.int .u8 (qa d 26),.int .u8 (qa d 27),.int .u8 (qa d 28),.int .u8 (qa d 29),.int .u8 (qa d 30),.int .u8 (qa d 31)]] 32 = qd d 32:=rfl
@[simp high] theorem q9Z (d:qe) (i:Int):qd [[.int .u8 (qg d i 0),.int .u8 (qg d i 1),.int .u8 (qg d i 2),.int .u8 (qg d i 3),.int .u8 (qg d i 4),.int .u8 (qg d i 5),.int .u8 (qg d i 6),.int .u8 (qg d i 7),.int .u8 (qg d i 8),.int .u8 (qg d i 9),.int .u8 (qg d i 10),.int .u8 (qg d i 11),.int .u8 (qg d i 12),.int .u8 (qg d i 13),.int .u8 (qg d i 14),.int .u8 (qg d i 15),.int .u8 (qg d i 16),.int .u8 (qg d i 17),.int .u8 (qg d i 18),.int .u8 (qg d i 19),.int .u8 (qg d i 20),.int .u8 (qg d i 21),.int .u8 (qg d i 22),.int .u8 (qg d i 23),.int .u8 (qg d i 24),.int .u8 (qg d i 25),.int .u8 (qg d i 26),.int .u8 (qg d i 27),.int .u8 (qg d i 28),.int .u8 (qg d i 29),.int .u8 (qg d i 30),.int .u8 (qg d i 31)]] 32 = qt4 d i:=rfl
@[simp high] theorem qAb (d:qe):([.int .u8 (qa d 0),.int .u8 (qa d 1),.int .u8 (qa d 2),.int .u8 (qa d 3),.int .u8 (qa d 4),.int .u8 (qa d 5),.int .u8 (qa d 6),.int .u8 (qa d 7),.int .u8 (qa d 8),.int .u8 (qa d 9),.int .u8 (qa d 10),.int .u8 (qa d 11),.int .u8 (qa d 12),.int .u8 (qa d 13),.int .u8 (qa d 14),.int .u8 (qa d 15),.int .u8 (qa d 16),.int .u8 (qa d 17),.int .u8 (qa d 18),.int .u8 (qa d 19),.int .u8 (qa d 20),.int .u8 (qa d 21),.int .u8 (qa d 22),.int .u8 (qa d 23),.int .u8 (qa d 24),.int .u8 (qa d 25),.int .u8 (qa d 26),.int .u8 (qa d 27),.int .u8 (qa d 28),.int .u8 (qa d 29),.int .u8 (qa d 30),.int .u8 (qa d 31)]:List Value).map qW = qd d 32:=rfl
@[simp high] theorem qAa (d:qe) (i:Int):([.int .u8 (qg d i 0),.int .u8 (qg d i 1),.int .u8 (qg d i 2),.int .u8 (qg d i 3),.int .u8 (qg d i 4),.int .u8 (qg d i 5),.int .u8 (qg d i 6),.int .u8 (qg d i 7),.int .u8 (qg d i 8),.int .u8 (qg d i 9),.int .u8 (qg d i 10),.int .u8 (qg d i 11),.int .u8 (qg d i 12),.int .u8 (qg d i 13),.int .u8 (qg d i 14),.int .u8 (qg d i 15),.int .u8 (qg d i 16),.int .u8 (qg d i 17),.int .u8 (qg d i 18),.int .u8 (qg d i 19),.int .u8 (qg d i 20),.int .u8 (qg d i 21),.int .u8 (qg d i 22),.int .u8 (qg d i 23),.int .u8 (qg d i 24),.int .u8 (qg d i 25),.int .u8 (qg d i 26),.int .u8 (qg d i 27),.int .u8 (qg d i 28),.int .u8 (qg d i 29),.int .u8 (qg d i 30),.int .u8 (qg d i 31)]:List Value).map qW = qt4 d i:=rfl
@[simp high] theorem q9Y:qd [[.int .u8 0,.int .u8 0,.int .u8 0,.int .u8 0,.int .u8 0,.int .u8 0,.int .u8 0,.int .u8 0,.int .u8 0,.int .u8 0,.int .u8 0,.int .u8 0,.int .u8 0,.int .u8 0,.int .u8 0,.int .u8 0,.int .u8 0,.int .u8 0,.int .u8 0,.int .u8 0,.int .u8 0,.int .u8 0,.int .u8 0,.int .u8 0,.int .u8 0,.int .u8 0,.int .u8 0,.int .u8 0,.int .u8 0,.int .u8 0,.int .u8 0,.int .u8 0]] 32 = List.replicate 32 0:=rfl
@[simp high] theorem qAd:([.int .u8 0,.int .u8 0,.int .u8 0,.int .u8 0,.int .u8 0,.int .u8 0,.int .u8 0,.int .u8 0,.int .u8 0,.int .u8 0,.int .u8 0,.int .u8 0,.int .u8 0,.int .u8 0,.int .u8 0,.int .u8 0,.int .u8 0,.int .u8 0,.int .u8 0,.int .u8 0,.int .u8 0,.int .u8 0,.int .u8 0,.int .u8 0,.int .u8 0,.int .u8 0,.int .u8 0,.int .u8 0,.int .u8 0,.int .u8 0,.int .u8 0,.int .u8 0]:List Value).map qW = List.replicate 32 0:=rfl
theorem q1N {d:qe} {i:Int} (h0:0 <= i) (h1:i < d.length):qt4 d i = (dgs d).getD i.toNat []:=by
 have hl:i.toNat < d.length:=by omega
 have h2:(dgs d).getD i.toNat [] = qhs d[i.toNat]:=by simp [dgs,hl]
 rw [h2]
 refine List.map_congr_left fun k hk=>?_
 simp [qg,qas,qb7,hl]
end Go.Proofs

set_option linter.unusedSimpArgs false
set_option linter.unusedVariables false
namespace Go.Eng
open Go

end Go.Eng

set_option linter.unusedSimpArgs false
set_option linter.unusedVariables false
namespace Go.Eng
open Go Go.Proofs
def qk4 (r:Nat):SV:=.agg [.vint .i64 (.var r),.vslice (r + 1) (.lit 0) (.var (r + 2)) (.var (r + 3)) 1]
def qqI (r:Nat):SH:=bHp (r + 1) (r + 4) (r + 5)
def qh0 (ρ:Env) (r:Nat):Prop:=(ρ (r + 2)).i = (ρ (r + 4)).d.length/\(ρ (r + 2)).i <= (ρ (r + 3)).i/\(ρ (r + 2)).i <= 100000000/\qz (ρ (r + 4)).d
def qe2 (k s:Int):Int:=(s + k - 1).tdiv k
def qc0 (k n t s l:Int) (D:List (List Int)) (i:Int) (m:List Int):Int:=if qI k n t s l = false then 2 else if i < 0∨t <= i then 2 else if (m.length:Int) ≠ qe2 k s then 10 else if sha (qcn i ++ m) ≠ D.getD i.toNat [] then 20 else 0
def q2N (ρ:Env):Prop:=qjh (ρ 0).i/\qjh (ρ 3).i/\(ρ 6).i = (ρ 8).d.length/\qfV (ρ 8).d/\qh0 ρ 10
def qqN:List Alt:=[{ k:=1,ret:=iv .i64 (.var 18),heap:=[],post:=fun ρ=>(ρ 18).i = qc0 (ρ 0).i (ρ 1).i (ρ 2).i (ρ 3).i (ρ 6).i (dgs (ρ 8).d) (ρ 10).i (bI (ρ 14).d) }]
def qdE:Ctr:={ fn := 60,nv:=18,ip:=[gIp 16],args:=[qo2,qk4 10],heap:=[],ro:=[qfY 5 8 9,qqI 10,gHp 16 17],pre:=fun ρ=>q2N ρ/\gOk ρ 16 17 gR,alts:=qqN }
end Go.Eng

set_option linter.unusedSimpArgs false
set_option linter.unusedVariables false
set_option maxRecDepth 100000
namespace Go.Proofs
open Go Go.Eng

@[simp] def qul:Sg:=sg 0 [bv 9 9,bv 8 8,bv 7 7,bv 6 6,bg 5 5,bv 3 3,bv 2 2,bv 1 1,bv 0 0,bt 4 (r8 4)]
def q53:Out:=(.fresh 12 (.fresh 13 (.pre 0 qul (.both (.post 0 0 qul 14 (.ret 0 (sg 12 [bt 13 (.lit 2),bt 12 z8]))) (.both (.fresh 14 (.fresh 15 (.fresh 16 (.fresh 17 (.post 0 1 qul 14 (.know (.cmp .leq (.dlen (.var 17)) (.var 16)) (.pre 1 (sg 0 [bv 7 11,bv 5 16,bv 4 17,bv 3 16,bv 2 15,bt 1 (.lit 0),bg 0 14,bg 6 10]) (.both (.fresh 18 (.post 1 0 (sg 0 [bv 7 11,bv 5 16,bv 4 17,bv 3 16,bv 2 15,bt 1 (.lit 0),bg 0 14,bg 6 10]) 18 (.ret 0 (sg 12 [bt 13 (.lit 0),bt 12 (r8 18)])))) .top)))))))) .top)))))
theorem q7I:qk ⟨Tryz.prog,idC,[qdK,qaU],[]⟩ 100000 Tryz.f44 = q53:=by kernel_rfl
theorem q9O (hd:∀ c ∈ ([qdK,qaU]:List Ctr),c.ok Tryz.prog) (h:∀ ρ:Env,ρ.good->(idC).pre ρ->q53.den ⟨Tryz.prog,idC,[qdK,qaU],[]⟩ ρ):(idC).ok Tryz.prog :=
 qf Tryz.func44 (fun a w=>Tryz.call44 a w) hd 100000 (fun ρ hg hp=>by rw [q7I]; exact h ρ hg hp)
end Go.Proofs

set_option linter.unusedSimpArgs false
set_option linter.unusedVariables false
set_option maxRecDepth 100000
namespace Go.Proofs
open Go Go.Eng
theorem q7b:∀ i:Fin 255,qmp.getD (qia.getD i.val 0).toNat 0 = i.val:=by decide +kernel
theorem q7q:∀ a:Fin 256,a.val ≠ 0->qia.getD (qmp.getD a.val 0).toNat 0 = a.val:=by decide +kernel
theorem q7y:∀ i:Fin 255,qia.getD (i.val + 255) 0 = qia.getD i.val 0:=by decide +kernel
end Go.Proofs

set_option linter.unusedSimpArgs false
set_option linter.unusedVariables false
namespace Go.Proofs
open Go Go.Eng

abbrev F:=BitVec 8
def toF (x:Int):F:=BitVec.ofInt 8 x
def ofF (x:F):Int:=(x.toNat:Nat)
def isB (x:Int):Prop:=0 <= x/\x < 256
theorem qjI {x:F}:isB (ofF x):=⟨Int.natCast_nonneg _,by have:=x.isLt; unfold ofF; omega⟩
theorem qjC {x:F}:toF (ofF x) = x:=by
 unfold toF ofF
 apply BitVec.eq_of_toNat_eq
 rw [BitVec.toNat_ofInt]
 have:=x.isLt
 omega
theorem qsb {x:Int} (h:isB x):(toF x).toNat = x.toNat:=by
 obtain ⟨h0,h1⟩:=h
 unfold toF
 rw [BitVec.toNat_ofInt]
 omega
theorem qxX {x:Int} (h:isB x):ofF (toF x) = x:=by
 unfold ofF
 rw [qsb h]
 obtain ⟨h0,h1⟩:=h
 omega
theorem qqU {x y:Int} (hx:isB x) (hy:isB y) (h:toF x = toF y):x = y:=by rw [<- qxX hx,<- qxX hy,h]
theorem qw6:toF 0 = 0:=rfl
theorem qeJ {x:Int} (h:isB x):toF x = 0↔x = 0:=⟨fun e=>qqU h ⟨by omega,by omega⟩ e,fun e=>by rw [e]; rfl⟩
theorem q24 {x y:Int}:qik x y = ofF (toF x ^^^ toF y):=by
 have h:(BitVec.ofInt 8 x ^^^ BitVec.ofInt 8 y).toNat < 256:=(BitVec.ofInt 8 x ^^^ BitVec.ofInt 8 y).isLt
 unfold qik qc ofF toF
 show IntKind.u8.wrap _ = _
 have hb:IntKind.u8.bits = 8:=rfl
 rw [hb]
 generalize (BitVec.ofInt 8 x ^^^ BitVec.ofInt 8 y).toNat = z at h ⊢
 simp only [IntKind.wrap,IntKind.bits,IntKind.signed]
 simp
 omega
theorem qk1 {x y:Int}:toF (qik x y) = toF x ^^^ toF y:=by rw [q24,qjC]

def qbD (n:Nat):F:=BitVec.ofNat 8 (qia.getD (n % 255) 0).toNat
def qeH (x:F):Nat:=(qmp.getD x.toNat 0).toNat
def qi (x y:F):F:=if x = 0∨y = 0 then 0 else qbD (qeH x + qeH y)
def qeE (x:F):F:=if x = 0 then 0 else qbD (255 - qeH x)
theorem quJ {n:Nat}:qbD (n % 255) = qbD n:=by unfold qbD; rw [Nat.mod_mod]
theorem qkO {n m:Nat} (h:n % 255 = m % 255):qbD n = qbD m:=by rw [<- quJ,h,quJ]
theorem qhG {n:Nat}:(qbD n).toNat = (qia.getD (n % 255) 0).toNat:=by
 have h:=qfO ⟨n % 255,by omega⟩
 simp only at h
 unfold qbD
 rw [BitVec.toNat_ofNat]
 omega
theorem qmM {n:Nat}:qbD n ≠ 0:=fun h=>by
 have h1:=congrArg BitVec.toNat h
 rw [qhG] at h1
 have h2:=qfO ⟨n % 255,by omega⟩
 simp only at h2
 rw [show (0:F).toNat = 0 by rfl] at h1
 omega
theorem qgu {x:F}:qeH x < 255:=by
 have:=qkR ⟨x.toNat,x.isLt⟩
 simp only at this
 unfold qeH
 omega
theorem qhT {x:F} (h:x ≠ 0):qbD (qeH x) = x:=by
 apply BitVec.eq_of_toNat_eq
 have h0:x.toNat ≠ 0:=fun e=>h (BitVec.eq_of_toNat_eq (by rw [e]; rfl))
 have h1:=q7q ⟨x.toNat,x.isLt⟩ h0
 simp only at h1
 rw [qhG,Nat.mod_eq_of_lt qgu,qeH,h1]
 omega
theorem qvv {n:Nat}:qeH (qbD n) = n % 255:=by
 have h:=q7b ⟨n % 255,by omega⟩
 simp only at h
 unfold qeH
 rw [qhG,h]
 omega
theorem qiJ:qbD 0 = 1:=by decide
theorem qaf {x y:F}:qi x y = qi y x:=by
 unfold qi
 by_cases hx:x = 0
 ·simp [hx]
 ·by_cases hy:y = 0
  ·simp [hy]
  ·rw [if_neg (not_or.2 ⟨hx,hy⟩),if_neg (not_or.2 ⟨hy,hx⟩),Nat.add_comm]
theorem q7 {x:F}:qi x 0 = 0:=by simp [qi]
theorem qB {x:F}:qi 0 x = 0:=by simp [qi]
theorem qyl {x y:F} (hx:x ≠ 0) (hy:y ≠ 0):qi x y = qbD (qeH x + qeH y):=by rw [qi,if_neg (not_or.2 ⟨hx,hy⟩)]
theorem qmi {x y:F} (hx:x ≠ 0) (hy:y ≠ 0):qi x y ≠ 0:=by rw [qyl hx hy]; exact qmM
theorem qw4 {x y:F}:qi x y = 0↔x = 0∨y = 0:=⟨fun h=>by
 by_cases hx:x = 0
 ·exact .inl hx
 ·by_cases hy:y = 0
  ·exact .inr hy
  ·exact (qmi hx hy h).elim,fun h=>by rcases h with rfl | rfl; exact qB; exact q7⟩
theorem qev {n m:Nat}:qi (qbD n) (qbD m) = qbD (n + m):=by
 rw [qyl qmM qmM,qvv,qvv]
 exact qkO (by omega)
theorem qbg {x:F}:qi x 1 = x:=by
 by_cases h:x = 0
 ·rw [h,qB]
 ·rw [<- qiJ]; conv=>lhs; arg 1; rw [<- qhT h]
  rw [qev,Nat.add_zero,qhT h]
theorem qhP {x:F}:qi 1 x = x:=by rw [qaf,qbg]
theorem qh7 {x:F} (h:x ≠ 0):∃ n,n < 255/\x = qbD n:=⟨qeH x,qgu,(qhT h).symm⟩
theorem qR {x y z:F}:qi (qi x y) z = qi x (qi y z):=by
 by_cases hx:x = 0
 ·rw [hx,qB,qB,qB]
 by_cases hy:y = 0
 ·rw [hy,q7,qB,q7]
 by_cases hz:z = 0
 ·rw [hz,q7,q7,q7]
 obtain ⟨a,_,rfl⟩:=qh7 hx
 obtain ⟨b,_,rfl⟩:=qh7 hy
 obtain ⟨c,_,rfl⟩:=qh7 hz
 rw [qev,qev,qev,qev,Nat.add_assoc]
theorem q7X {x:F} (h:x ≠ 0):qeE x ≠ 0:=by rw [qeE,if_neg h]; exact qmM
theorem qiB {x:F} (h:x ≠ 0):qi x (qeE x) = 1:=by
 rw [qeE,if_neg h]
 conv=>lhs; arg 1; rw [<- qhT h]
 have:=qgu (x:=x)
 rw [qev,<- qiJ]
 exact qkO (by omega)
def xt (x:F):F:=x <<< 1 ^^^ (if x.msb then 29#8 else 0#8)
theorem q2t:∀ i:Fin 256,qi (BitVec.ofFin i) 2 = xt (BitVec.ofFin i):=by decide +kernel
theorem qnW {x:F}:qi x 2 = xt x:=q2t x.toFin
theorem q8i {x y:F}:xt (x ^^^ y) = xt x ^^^ xt y:=by
 unfold xt
 rw [BitVec.shiftLeft_xor_distrib,BitVec.msb_xor]
 have h1:∀ a b c:F,a ^^^ b ^^^ c = a ^^^ c ^^^ b:=fun a b c=>by rw [BitVec.xor_assoc,BitVec.xor_comm b c,<- BitVec.xor_assoc]
 cases x.msb <;> cases y.msb
 ·simp
 ·simp [BitVec.xor_assoc]
 ·simp [h1 (x <<< 1) (29#8) (y <<< 1)]
 ·simp only [bne_self_eq_false,Bool.false_eq_true,if_true,if_false,BitVec.xor_zero]
  rw [h1 (x <<< 1) (29#8),BitVec.xor_assoc (x <<< 1),BitVec.xor_assoc (y <<< 1),BitVec.xor_self,BitVec.xor_zero]
theorem qlH {x y:F}:∀ n:Nat,qi (x ^^^ y) (qbD n) = qi x (qbD n) ^^^ qi y (qbD n)
 | 0=>by rw [qiJ,qbg,qbg,qbg]
 | n + 1=>by
  have he:qbD (n + 1) = qi (qbD n) 2:=by
   have:(2:F) = qbD 1:=by decide
   rw [this,qev]
  rw [he,<- qR,<- qR,<- qR,qlH n,qnW,qnW,qnW,q8i]
theorem qcw {x y z:F}:qi (x ^^^ y) z = qi x z ^^^ qi y z:=by
 by_cases hz:z = 0
 ·rw [hz,q7,q7,q7]; rfl
 ·obtain ⟨n,_,rfl⟩:=qh7 hz
  exact qlH n
theorem qiq {x y z:F}:qi z (x ^^^ y) = qi z x ^^^ qi z y:=by rw [qaf,qcw,qaf,qaf (x:=y)]

theorem qvM {i:Nat} (h:i < 510):qms i = ofF (qbD i):=by
 rw [qxO h,ofF,qhG]
 by_cases hi:i < 255
 ·rw [Nat.mod_eq_of_lt hi]
  have:=qfO ⟨i,h⟩
  simp only at this
  omega
 ·have h1:=q7y ⟨i - 255,by omega⟩
  have h2:=qfO ⟨i,h⟩
  simp only at h1 h2
  rw [show i - 255 + 255 = i by omega] at h1
  rw [show i % 255 = i - 255 by omega,<- h1]
  omega
theorem qpD {a:Int} (h:isB a):qbu a.toNat = (qeH (toF a):Nat):=by
 obtain ⟨h0,h1⟩:=h
 rw [qye (by omega),qeH,qsb ⟨h0,h1⟩]
 have:=qkR ⟨a.toNat,by omega⟩
 simp only at this
 omega
theorem q3t {a b:Int} (ha:isB a) (hb:isB b):qd5 a b = ofF (qi (toF a) (toF b)):=by
 unfold qd5 qi
 simp only [qeJ ha,qeJ hb]
 split
 ·rfl
 ·have h1:=qgu (x:=toF a)
  have h2:=qgu (x:=toF b)
  rw [qpD ha,qpD hb,qvM (by omega)]
  congr 2
theorem q2B {a:Int} (ha:isB a):qfW a = ofF (qeE (toF a)):=by
 unfold qfW qeE
 simp only [qeJ ha]
 split
 ·rfl
 ·have h1:=qgu (x:=toF a)
  rw [qpD ha,qvM (by omega)]
  congr 2
  omega
theorem q42 {a b:Int} (ha:isB a) (hb:isB b):isB (qd5 a b):=by rw [q3t ha hb]; exact qjI
theorem qhR {a b:Int} (ha:isB a) (hb:isB b):toF (qd5 a b) = qi (toF a) (toF b):=by rw [q3t ha hb,qjC]
theorem q3U {a:Int} (ha:isB a):isB (qfW a):=by rw [q2B ha]; exact qjI
theorem q6g {a:Int} (ha:isB a):toF (qfW a) = qeE (toF a):=by rw [q2B ha,qjC]
theorem q3J {a b:Int}:isB (qik a b):=by rw [q24]; exact qjI
def qaI (x:F):Nat->F
 | 0=>1
 | n + 1=>qi (qaI x n) x
theorem quF {n:Nat}:∀ m,qaI (qbD n) m = qbD (n * m)
 | 0=>by rw [Nat.mul_zero]; exact qiJ.symm
 | m + 1=>by rw [qaI,quF m,qev,Nat.mul_succ]
theorem qzp {m:Nat} (h:0 < m):qaI 0 m = 0:=by
 cases m with
 | zero=>omega
 | succ m=>rw [qaI,q7]
theorem q1L {a e:Int} (ha:isB a) (he:e < 9223372036854775808):qhu a e = ofF (qaI (toF a) e.toNat):=by
 unfold qhu
 by_cases h0:e <= 0
 ·rw [if_pos h0,show e.toNat = 0 by omega]; rfl
 rw [if_neg h0]
 by_cases h1:a = 0
 ·rw [if_pos h1,h1,qw6,qzp (by omega)]; rfl
 rw [if_neg h1]
 have hx:toF a ≠ 0:=fun h=>h1 ((qeJ ha).1 h)
 have hl:=qgu (x:=toF a)
 rw [qpD ha]
 have e1:e.tmod 255 = ((e.toNat % 255:Nat):Int):=by
  rw [Int.tmod_eq_emod_of_nonneg (by omega)]; omega
 rw [e1,<- Int.natCast_mul,Int.tmod_eq_emod_of_nonneg (by omega),qvM (by omega)]
 congr 1
 conv=>rhs; rw [<- qhT hx,quF]
 refine qkO ?_
 have:((qeH (toF a) * (e.toNat % 255):Nat):Int) % 255 = ((qeH (toF a) * (e.toNat % 255) % 255:Nat):Int):=by omega
 rw [this,Int.toNat_natCast,Nat.mod_mod,Nat.mul_mod,Nat.mod_mod,<- Nat.mul_mod]
theorem q5A {a e:Int} (ha:isB a) (he:e < 9223372036854775808):isB (qhu a e):=by rw [q1L ha he]; exact qjI
end Go.Proofs

set_option linter.unusedSimpArgs false
set_option linter.unusedVariables false
namespace Go.Proofs
open Go Go.Eng

theorem qti (a b c:F):a ^^^ (b ^^^ c) = b ^^^ (a ^^^ c):=by rw [<- BitVec.xor_assoc,BitVec.xor_comm a b,BitVec.xor_assoc]
theorem qoa (a b c d:F):(a ^^^ b) ^^^ (c ^^^ d) = (a ^^^ c) ^^^ (b ^^^ d):=by rw [BitVec.xor_assoc,BitVec.xor_assoc,qti b c d]
theorem qfb {a b:F}:a ^^^ b = 0↔a = b:=⟨fun h=>by
 have:a ^^^ b ^^^ b = b:=by rw [h]; simp
 rwa [BitVec.xor_assoc,BitVec.xor_self,BitVec.xor_zero] at this,fun h=>by rw [h]; exact BitVec.xor_self⟩
theorem qae {a:F}:a ^^^ 0 = a:=BitVec.xor_zero
theorem qav {a:F}:0 ^^^ a = a:=BitVec.zero_xor
theorem qaB {a:F}:a ^^^ a = 0:=BitVec.xor_self
theorem qnu {a b:F}:a ^^^ b ^^^ b = a:=by rw [BitVec.xor_assoc,BitVec.xor_self,BitVec.xor_zero]
def qx (f:Nat->F):Nat->F
 | 0=>0
 | n + 1=>qx f n ^^^ f n
theorem ql {f g:Nat->F} {n:Nat} (h:∀ i,i < n->f i = g i):qx f n = qx g n:=by
 induction n with
 | zero=>rfl
 | succ n ih=>rw [qx,qx,ih fun i hi=>h i (by omega),h n (by omega)]
theorem qcI {f:Nat->F} {n:Nat} (h:∀ i,i < n->f i = 0):qx f n = 0:=by
 induction n with
 | zero=>rfl
 | succ n ih=>rw [qx,ih fun i hi=>h i (by omega),h n (by omega),qae]
theorem qg5 {f g:Nat->F} {n:Nat}:qx (fun i=>f i ^^^ g i) n = qx f n ^^^ qx g n:=by
 induction n with
 | zero=>exact qae.symm
 | succ n ih=>rw [qx,qx,qx,ih,qoa]
theorem qdw {f:Nat->F} {c:F} {n:Nat}:qx (fun i=>qi c (f i)) n = qi c (qx f n):=by
 induction n with
 | zero=>exact q7.symm
 | succ n ih=>rw [qx,qx,ih,qiq]
theorem qeb {f:Nat->F} {c:F} {n:Nat}:qx (fun i=>qi (f i) c) n = qi (qx f n) c:=by
 rw [qaf,<- qdw]
 exact ql fun i _=>qaf
theorem qie {f:Nat->F} {n k:Nat} (hk:k < n) (h:∀ i,i < n->i ≠ k->f i = 0):qx f n = f k:=by
 induction n with
 | zero=>omega
 | succ n ih =>
  rw [qx]
  by_cases hkn:k = n
  ·rw [qcI fun i hi=>h i (by omega) (by omega),hkn,qav]
  ·rw [ih (by omega) fun i hi=>h i (by omega),h n (by omega) (by omega),qae]
theorem qfA {f:Nat->Nat->F} {n m:Nat}:qx (fun i=>qx (fun j=>f i j) m) n = qx (fun j=>qx (fun i=>f i j) n) m:=by
 induction n with
 | zero=>exact (qcI fun _ _=>rfl).symm
 | succ n ih =>
  rw [qx,ih,<- qg5]
  rfl
def del (i j:Nat):F:=if i = j then 1 else 0
theorem qov {f:Nat->F} {n k:Nat} (hk:k < n):qx (fun i=>qi (del i k) (f i)) n = f k:=by
 rw [qie hk fun i hi hik=>by rw [del,if_neg hik,qB],del,if_pos rfl,qhP]
theorem qhc {f:Nat->F} {n k:Nat} (hk:k < n):qx (fun i=>qi (f i) (del i k)) n = f k:=by
 rw [qie hk fun i hi hik=>by rw [del,if_neg hik,q7],del,if_pos rfl,qbg]

abbrev Mat:=Nat->Nat->F
def spans (r w:Nat) (T:Mat) (v:Nat->F):Prop:=∃ x:Nat->F,∀ j,j < w->v j = qx (fun i=>qi (x i) (T i j)) r
theorem qbn {r w:Nat} {T:Mat} {i:Nat} (hi:i < r):spans r w T (T i):=⟨fun a=>del a i,fun j _=>(qov (f:=fun a=>T a j) hi).symm⟩
theorem qcl {r w:Nat} {T:Mat} {v v':Nat->F} (h:spans r w T v) (he:∀ j,j < w->v' j = v j):spans r w T v':=by
 obtain ⟨x,hx⟩:=h
 exact ⟨x,fun j hj=>by rw [he j hj,hx j hj]⟩
theorem qsH {r w:Nat} {T:Mat} {v v':Nat->F} (h:spans r w T v) (h':spans r w T v'):spans r w T (fun j=>v j ^^^ v' j):=by
 obtain ⟨x,hx⟩:=h
 obtain ⟨y,hy⟩:=h'
 refine ⟨fun i=>x i ^^^ y i,fun j hj=>?_⟩
 show v j ^^^ v' j = _
 rw [hx j hj,hy j hj,<- qg5]
 exact ql fun i _=>qcw.symm
theorem qiy {r w:Nat} {T:Mat} {v:Nat->F} {c:F} (h:spans r w T v):spans r w T (fun j=>qi c (v j)):=by
 obtain ⟨x,hx⟩:=h
 refine ⟨fun i=>qi c (x i),fun j hj=>?_⟩
 show qi c (v j) = _
 rw [hx j hj,<- qdw]
 exact ql fun i _=>qR.symm
theorem qgV {r w:Nat} {T T':Mat} {v:Nat->F} (h:spans r w T' v) (hr:∀ i,i < r->spans r w T (T' i)):spans r w T v:=by
 obtain ⟨x,hx⟩:=h
 let y:Nat->Nat->F:=fun i=>if h:i < r then (hr i h).choose else fun _=>0
 have hy:∀ i,i < r->∀ j,j < w->T' i j = qx (fun a=>qi (y i a) (T a j)) r:=fun i hi j hj=>by
  simp only [y,dif_pos hi]
  exact (hr i hi).choose_spec j hj
 refine ⟨fun a=>qx (fun i=>qi (x i) (y i a)) r,fun j hj=>?_⟩
 rw [hx j hj,ql fun i hi=>by rw [hy i hi j hj,<- qdw],qfA]
 refine ql fun a _=>?_
 rw [<- qeb]
 exact ql fun i _=>qR.symm
structure Same (r w:Nat) (T T':Mat):Prop where
 to:∀ i,i < r->spans r w T (T' i)
 back:∀ i,i < r->spans r w T' (T i)
theorem Same.refl {r w:Nat} {T:Mat}:Same r w T T:=⟨fun i hi=>qbn hi,fun i hi=>qbn hi⟩
theorem Same.trans {r w:Nat} {T T' T'':Mat} (h:Same r w T T') (h':Same r w T' T''):Same r w T T'' :=
 ⟨fun i hi=>qgV (h'.to i hi) h.to,fun i hi=>qgV (h.back i hi) h'.back⟩
theorem Same.symm {r w:Nat} {T T':Mat} (h:Same r w T T'):Same r w T' T:=⟨h.back,h.to⟩
theorem Same.spans {r w:Nat} {T T':Mat} (h:Same r w T T') {v:Nat->F}:spans r w T v↔Go.Proofs.spans r w T' v:=⟨fun hv=>qgV hv h.back,fun hv=>qgV hv h.to⟩
theorem quG {r w:Nat} {T T':Mat} {i p:Nat} {g:F} (hi:i < r) (hp:p < r) (hip:i ≠ p) (h1:∀ j,j < w->T' i j = T i j ^^^ qi g (T p j)) (h2:∀ a,a < r->a ≠ i->∀ j,j < w->T' a j = T a j):Same r w T T':=by
 refine ⟨fun a ha=>?_,fun a ha=>?_⟩
 ·by_cases hai:a = i
  ·subst hai
   exact qcl (qsH (qbn ha) (qiy (c:=g) (qbn hp))) h1
  ·exact qcl (qbn ha) (h2 a ha hai)
 ·by_cases hai:a = i
  ·subst hai
   refine qcl (qsH (qbn ha) (qiy (c:=g) (qbn hp))) fun j hj=>?_
   rw [h1 j hj,h2 p hp (Ne.symm hip) j hj,qnu]
  ·exact qcl (qbn ha) fun j hj=>(h2 a ha hai j hj).symm
theorem q5q {r w:Nat} {T T':Mat} {i:Nat} {g:F} (hi:i < r) (hg:g ≠ 0) (h1:∀ j,j < w->T' i j = qi (T i j) g) (h2:∀ a,a < r->a ≠ i->∀ j,j < w->T' a j = T a j):Same r w T T':=by
 refine ⟨fun a ha=>?_,fun a ha=>?_⟩
 ·by_cases hai:a = i
  ·subst hai
   exact qcl (qiy (c:=g) (qbn ha)) fun j hj=>by rw [h1 j hj,qaf]
  ·exact qcl (qbn ha) (h2 a ha hai)
 ·by_cases hai:a = i
  ·subst hai
   refine qcl (qiy (c:=qeE g) (qbn ha)) fun j hj=>?_
   rw [h1 j hj,qaf,qR,qiB hg,qbg]
  ·exact qcl (qbn ha) fun j hj=>(h2 a ha hai j hj).symm
def lead (r w:Nat) (T:Mat) (c:Nat):Prop:=∃ v,spans r w T v/\(∀ j,j < c->v j = 0)/\v c ≠ 0
open Classical in
noncomputable def cnt (r w:Nat) (T:Mat):Nat->Nat
 | 0=>0
 | c + 1=>cnt r w T c + if lead r w T c then 1 else 0
theorem Same.lead {r w:Nat} {T T':Mat} (h:Same r w T T') {c:Nat}:lead r w T c↔Go.Proofs.lead r w T' c:=by
 unfold Go.Proofs.lead
 simp only [h.spans]
theorem q1v {r w:Nat} {T:Mat}:∀ c,cnt r w T c <= c
 | 0=>Nat.le_refl _
 | c + 1=>by
  have:=q1v (r:=r) (w:=w) (T:=T) c
  unfold cnt; split <;> omega
theorem qvP {r w:Nat} {T:Mat} {c:Nat}:∀ d,cnt r w T c <= cnt r w T (c + d)
 | 0=>Nat.le_refl _
 | d + 1=>by
  have:=qvP (r:=r) (w:=w) (T:=T) (c:=c) d
  rw [<- Nat.add_assoc]
  conv=>rhs; unfold cnt
  omega
theorem qir {r w:Nat} {T:Mat} {c:Nat} (h:lead r w T c):cnt r w T (c + 1) = cnt r w T c + 1:=by rw [cnt,if_pos h]
theorem qrl {r w:Nat} {T:Mat} {c:Nat} (h:¬ lead r w T c):cnt r w T (c + 1) = cnt r w T c:=by rw [cnt,if_neg h]; rfl
theorem qvf {r w:Nat} {T:Mat} {c c':Nat} (h:lead r w T c) (hlt:c < c'):cnt r w T c < cnt r w T c':=by
 have:=qvP (r:=r) (w:=w) (T:=T) (c:=c + 1) (c' - (c + 1))
 rw [show c + 1 + (c' - (c + 1)) = c' by omega,qir h] at this
 omega
theorem q6D {r w:Nat} {T:Mat} {c c':Nat} (h:lead r w T c) (h':lead r w T c') (he:cnt r w T c = cnt r w T c'):c = c':=by
 rcases Nat.lt_trichotomy c c' with h1 | h1 | h1
 ·have:=qvf h h1; omega
 ·exact h1
 ·have:=qvf h' h1; omega
theorem qk7 {r w:Nat} {T:Mat}:∀ {c i:Nat},i < cnt r w T c->∃ c',c' < c/\lead r w T c'/\cnt r w T c' = i
 | 0,i,h=>by simp [cnt] at h
 | c + 1,i,h=>by
  by_cases hl:lead r w T c
  ·rw [qir hl] at h
   by_cases hi:i = cnt r w T c
   ·exact ⟨c,by omega,hl,hi.symm⟩
   ·obtain ⟨c',h1,h2,h3⟩:=qk7 (r:=r) (w:=w) (T:=T) (c:=c) (i:=i) (by omega)
    exact ⟨c',by omega,h2,h3⟩
  ·rw [qrl hl] at h
   obtain ⟨c',h1,h2,h3⟩:=qk7 (c:=c) h
   exact ⟨c',by omega,h2,h3⟩
structure Ech (r w:Nat) (T0 T:Mat) (c rank:Nat):Prop where
 same:Same r w T0 T
 num:rank = cnt r w T0 c
 le:rank <= r
 col:∀ c',c' < c->lead r w T0 c'->∀ i,i < r->T i c' = del i (cnt r w T0 c')
 low:∀ i,rank <= i->i < r->∀ c',c' < c->T i c' = 0
theorem q29 {r w:Nat} {T:Mat}:Ech r w T T 0 0:=⟨Same.refl,rfl,Nat.zero_le _,fun c' h=>by omega,fun i _ _ c' h=>by omega⟩
theorem q6M {r w:Nat} {T0 T:Mat} {c rank:Nat} (h:Ech r w T0 T c rank) (hc:c <= w) {v:Nat->F} (hv:spans r w T0 v) (h0:∀ j,j < c->v j = 0) :
  ∃ x:Nat->F,(∀ i,i < rank->x i = 0)/\∀ j,j < w->v j = qx (fun i=>qi (x i) (T i j)) r:=by
 obtain ⟨x,hx⟩:=h.same.spans.1 hv
 refine ⟨x,fun i hi=>?_,hx⟩
 rw [h.num] at hi
 obtain ⟨c',h1,h2,h3⟩:=qk7 hi
 have hle:=h.le
 have h4:=hx c' (by omega)
 rw [h0 c' h1,ql fun a ha=>by rw [h.col c' h1 h2 a ha,h3]] at h4
 rw [qhc (f:=x) (by have:=h.num; omega)] at h4
 exact h4.symm
theorem quM {r w:Nat} {T0 T:Mat} {c rank:Nat} (h:Ech r w T0 T c rank) (hc:c < w) (hz:∀ i,rank <= i->i < r->T i c = 0):Ech r w T0 T (c + 1) rank:=by
 have hn:¬ lead r w T0 c:=fun ⟨v,h1,h2,h3⟩=>by
  obtain ⟨x,hx,he⟩:=q6M h (by omega) h1 h2
  apply h3
  rw [he c hc]
  refine qcI fun i hi=>?_
  by_cases hir:i < rank
  ·rw [hx i hir,qB]
  ·rw [hz i (by omega) hi,q7]
 refine ⟨h.same,by rw [qrl hn]; exact h.num,h.le,fun c' hc' hl i hi=>?_,fun i h1 h2 c' hc'=>?_⟩
 ·by_cases he:c' = c
  ·rw [he] at hl; exact (hn hl).elim
  ·exact h.col c' (by omega) hl i hi
 ·by_cases he:c' = c
  ·rw [he]; exact hz i h1 h2
  ·exact h.low i h1 h2 c' (by omega)
theorem q5s {r w:Nat} {T0 T T':Mat} {c rank:Nat} (h:Ech r w T0 T c rank) (hc:c < w) (hr:rank < r) (hs:Same r w T T') (hcol:∀ i,i < r->T' i c = del i rank)
  (hold:∀ c',c' < c->∀ i,i < r->T' i c' = T i c'):Ech r w T0 T' (c + 1) (rank + 1):=by
 have hl:lead r w T0 c:=by
  refine ⟨T' rank,(h.same.trans hs).spans.2 (qbn hr),fun j hj=>?_,?_⟩
  ·rw [hold j hj rank hr]; exact h.low rank (Nat.le_refl _) hr j hj
  ·rw [hcol rank hr,del,if_pos rfl]; decide
 refine ⟨h.same.trans hs,by rw [qir hl,<- h.num],hr,fun c' hc' hl' i hi=>?_,fun i h1 h2 c' hc'=>?_⟩
 ·by_cases he:c' = c
  ·rw [he,hcol i hi,h.num]
  ·rw [hold c' (by omega) i hi]; exact h.col c' (by omega) hl' i hi
 ·by_cases he:c' = c
  ·rw [he,hcol i h2,del,if_neg (by omega)]
  ·rw [hold c' (by omega) i h2]; exact h.low i (by omega) h2 c' (by omega)
theorem qtV {r w:Nat} {T:Mat}:∀ {n:Nat},cnt r w T n = n->∀ c,c < n->lead r w T c/\cnt r w T c = c
 | 0,_,c,h=>by omega
 | n + 1,he,c,h=>by
  by_cases hl:lead r w T n
  ·rw [qir hl] at he
   by_cases hc:c = n
   ·exact ⟨by rw [hc]; exact hl,by rw [hc]; omega⟩
   ·exact qtV (n:=n) (by omega) c (by omega)
  ·rw [qrl hl] at he
   have:=q1v (r:=r) (w:=w) (T:=T) n
   omega
theorem qv5 {r w:Nat} {T0 T:Mat} {n:Nat} (h:Ech r w T0 T n n):∀ i,i < r->∀ c,c < n->T i c = del i c:=fun i hi c hc=>by
 obtain ⟨h1,h2⟩:=qtV h.num.symm c hc
 rw [h.col c hc h1 i hi,h2]
theorem q58 {r w:Nat} {T0 T:Mat} {n rank:Nat} (h:Ech r w T0 T n rank) (hn:n <= w) (hlt:rank < n):∃ y:Nat->F,(∃ c,c < n/\y c ≠ 0)/\∀ i,i < r->qx (fun j=>qi (T0 i j) (y j)) n = 0:=by
 have hex:∃ c,c < n/\¬ lead r w T0 c:=by
  refine Classical.byContradiction fun hno=>?_
  have hall:∀ c,c < n->lead r w T0 c:=fun c hc=>Classical.byContradiction fun hl=>hno ⟨c,hc,hl⟩
  have:∀ c,c <= n->cnt r w T0 c = c:=fun c=>by
   induction c with
   | zero=>intro _; rfl
   | succ c ih=>intro hc; rw [qir (hall c (by omega)),ih (by omega)]
  have:=this n (Nat.le_refl _)
  have:=h.num
  omega
 obtain ⟨c,hc,hnl⟩:=hex
 let y:Nat->F:=fun j=>open Classical in if j = c then 1 else if lead r w T0 j then T (cnt r w T0 j) c else 0
 have hyc:y c = 1:=by simp [y]
 have hT:∀ i,i < r->qx (fun j=>qi (T i j) (y j)) n = 0:=fun i hi=>by
  have hsplit:qx (fun j=>qi (T i j) (y j)) n = qx (fun j=>qi (if j = c then T i c else 0) 1) n ^^^ qx (fun j=>open Classical in if j ≠ c/\lead r w T0 j then qi (del i (cnt r w T0 j)) (T (cnt r w T0 j) c) else 0) n:=by
   rw [<- qg5]
   refine ql fun j hj=>?_
   by_cases hjc:j = c
   ·subst hjc
    simp only [hyc,qbg,if_true,ne_eq,not_true,false_and,if_false,qae]
   ·simp only [if_neg hjc,qB,qav]
    by_cases hl:lead r w T0 j
    ·rw [if_pos ⟨hjc,hl⟩,h.col j hj hl i hi]; simp only [y,if_neg hjc,if_pos hl]
    ·rw [if_neg fun hh=>hl hh.2]; simp only [y,if_neg hjc,if_neg hl,q7]
  rw [hsplit,qie hc fun j _ hj=>by rw [if_neg hj,qB],if_pos rfl,qbg]
  by_cases hir:i < rank
  ·rw [h.num] at hir
   obtain ⟨c',h1,h2,h3⟩:=qk7 hir
   have hcc:c' ≠ c:=fun e=>hnl (e ▸ h2)
   rw [qie (k:=c') h1 fun j hj hjc=>?_,if_pos ⟨hcc,h2⟩,h3,del,if_pos rfl,qhP,qaB]
   split
   ·rename_i hh
    rw [del,if_neg,qB]
    intro e
    exact hjc (q6D hh.2 h2 (by rw [h3,e]))
   ·rfl
  ·rw [h.low i (by omega) hi c hc,qav]
   refine qcI fun j hj=>?_
   split
   ·rename_i hh
    rw [del,if_neg,qB]
    have:=qvf hh.2 hj
    have:=h.num
    omega
   ·rfl
 refine ⟨y,⟨c,hc,by rw [hyc]; decide⟩,fun i hi=>?_⟩
 obtain ⟨x,hx⟩:=h.same.back i hi
 rw [ql fun j hj=>by rw [hx j (by omega),<- qeb],qfA]
 refine qcI fun a ha=>?_
 rw [ql (g:=fun j=>qi (x a) (qi (T a j) (y j))) fun j _=>qR,qdw,hT a ha,q7]
end Go.Proofs

set_option linter.unusedSimpArgs false
set_option linter.unusedVariables false
namespace Go.Proofs
open Go Go.Eng

def qa1 (x:F):List F->F
 | []=>0
 | c :: l=>qi (qa1 x l) x ^^^ c
theorem qgr {x:F}:qa1 x [] = 0:=rfl
theorem qhV {x c:F}:qa1 x [c] = c:=by rw [qa1,qgr,qB,qav]
def qiX (r:F):List F->List F
 | []=>[]
 | [_]=>[]
 | _ :: c' :: l=>qa1 r (c' :: l) :: qiX r (c' :: l)
theorem qv9 {r:F}:∀ {l:List F},(qiX r l).length = l.length - 1
 | []=>rfl
 | [_]=>rfl
 | _ :: c' :: l=>by simp only [qiX,List.length_cons,qv9 (l:=c' :: l)]; omega
theorem qvG {x r:F}:∀ {l:List F},qa1 x l ^^^ qa1 r l = qi (x ^^^ r) (qa1 x (qiX r l))
 | []=>by rw [qiX,qgr,qgr,qaB,q7]
 | [c]=>by rw [qiX,qhV,qhV,qgr,qaB,q7]
 | c :: c' :: l=>by
  have ih:=qvG (x:=x) (r:=r) (l:=c' :: l)
  rw [qiX,show qa1 x (c :: c' :: l) = qi (qa1 x (c' :: l)) x ^^^ c from rfl,show qa1 r (c :: c' :: l) = qi (qa1 r (c' :: l)) r ^^^ c from rfl]
  conv=>rhs; rw [qa1]
  have h1:∀ a b d:F,a ^^^ b = qi (x ^^^ r) d->qi a x ^^^ c ^^^ (qi b r ^^^ c) = qi (x ^^^ r) (qi d x ^^^ b):=fun a b d h=>by
   rw [qoa,qaB,qae,qiq (z:=x ^^^ r),<- qR,<- h,qcw,qaf (x:=x ^^^ r),qiq,<- BitVec.xor_assoc,qnu]
  exact h1 _ _ _ ih
theorem qvr {r:F}:∀ {l:List F} {c:F},(∀ y ∈ qiX r (c :: l),y = 0)->∀ y ∈ l,y = 0
 | [],_,_=>by simp
 | c' :: l,c,h=>by
  simp only [qiX,List.mem_cons,forall_eq_or_imp] at h
  have ht:=qvr (l:=l) (c:=c') h.2
  have hh:qa1 r l = 0:=by
   clear h
   induction l with
   | nil=>rfl
   | cons a l ih=>rw [qa1,ih fun y hy=>ht y (List.mem_cons_of_mem _ hy),qB,ht a (List.mem_cons_self ..),qae]
  have h1:=h.1
  rw [qa1,hh,qB,qav] at h1
  intro y hy
  rcases List.mem_cons.1 hy with rfl | hy
  ·exact h1
  ·exact ht y hy
theorem qsu {x:F}:∀ {l:List F},(∀ y ∈ l,y = 0)->qa1 x l = 0
 | [],_=>rfl
 | a :: l,h=>by rw [qa1,qsu fun y hy=>h y (List.mem_cons_of_mem _ hy),qB,h a (List.mem_cons_self ..),qae]
def qb9 (n:Nat) (xs:Nat->F):Prop:=∀ i j,i < n->j < n->xs i = xs j->i = j
theorem qoJ {xs:Nat->F}:∀ {n:Nat} {l:List F},l.length <= n->qb9 n xs->(∀ i,i < n->qa1 (xs i) l = 0)->∀ y ∈ l,y = 0
 | 0,l,hl,_,_=>by
  have:l = []:=List.eq_nil_of_length_eq_zero (by omega)
  rw [this]; simp
 | n + 1,[],_,_,_=>by simp
 | n + 1,c :: t,hl,hd,hr=>by
  simp only [List.length_cons] at hl
  have hq:=qoJ (n:=n) (l:=qiX (xs n) (c :: t)) (by rw [qv9,List.length_cons]; omega) (fun i j hi hj=>hd i j (by omega) (by omega)) fun i hi=>by
   have h:=qvG (x:=xs i) (r:=xs n) (l:=c :: t)
   rw [hr i (by omega),hr n (by omega),qaB] at h
   rcases qw4.1 h.symm with h1 | h1
   ·have:=hd i n (by omega) (by omega) (qfb.1 h1); omega
   ·exact h1
  have ht:=qvr hq
  have h1:=hr n (by omega)
  rw [qa1,qsu ht,qB,qav] at h1
  intro y hy
  rcases List.mem_cons.1 hy with rfl | hy
  ·exact h1
  ·exact ht y hy
def q9 (n:Nat) (y:Nat->F) (x:F):F:=qx (fun j=>qi (y j) (qaI x j)) n
theorem qsd {x c:F}:∀ {l:List F},qa1 x (l ++ [c]) = qa1 x l ^^^ qi c (qaI x l.length)
 | []=>by rw [List.nil_append,qhV,qgr,qav,List.length_nil,qaI,qbg]
 | a :: l=>by
  rw [List.cons_append,qa1,qsd (l:=l),qa1,qcw,List.length_cons,qaI,BitVec.xor_assoc,BitVec.xor_assoc,qR,BitVec.xor_comm a]
theorem qlQ {y:Nat->F} {x:F}:∀ n,qa1 x ((List.range n).map y) = q9 n y x
 | 0=>rfl
 | n + 1=>by
  rw [List.range_succ,List.map_append,List.map_cons,List.map_nil,qsd,qlQ n]
  simp [q9,qx]
theorem qjW {n:Nat} {y:Nat->F} {xs:Nat->F} (hd:qb9 n xs) (h:∀ i,i < n->q9 n y (xs i) = 0):∀ j,j < n->y j = 0:=fun j hj=>by
 have:=qoJ (l:=(List.range n).map y) (by simp) hd (fun i hi=>by rw [qlQ]; exact h i hi) (y j)
 exact this (List.mem_map.2 ⟨j,List.mem_range.2 hj,rfl⟩)
theorem q2d {x:F} {l:List F} {n:Nat} (hl:l.length <= n):qa1 x l = q9 n (fun j=>l.getD j 0) x:=by
 have h1:∀ m,q9 (l.length + m) (fun j=>l.getD j 0) x = q9 l.length (fun j=>l.getD j 0) x:=fun m=>by
  induction m with
  | zero=>rfl
  | succ m ih =>
   rw [<- Nat.add_assoc,q9,qx]
   rw [show qx (fun j=>qi (l.getD j 0) (qaI x j)) (l.length + m) = q9 (l.length + m) (fun j=>l.getD j 0) x from rfl,ih]
   rw [show l.getD (l.length + m) 0 = 0 by rw [List.getD_eq_getElem?_getD,List.getElem?_eq_none (by omega)]; rfl,qB,qae]
 rw [show n = l.length + (n - l.length) by omega,h1,<- qlQ]
 congr 1
 apply List.ext_getElem?
 intro j
 by_cases hj:j < l.length
 ·simp [List.getElem?_range hj,List.getD_eq_getElem?_getD,List.getElem?_eq_getElem hj]
 ·simp [hj]

def qdf (f:Nat->F):Nat->F
 | 0=>1
 | n + 1=>qi (qdf f n) (f n)
theorem q5j {f:Nat->F} {n:Nat} (h:∀ i,i < n->f i ≠ 0):qdf f n ≠ 0:=by
 induction n with
 | zero=>exact (by decide:(1:F) ≠ 0)
 | succ n ih=>exact qmi (ih fun i hi=>h i (by omega)) (h n (by omega))
theorem qpI {f:Nat->F} {n k:Nat} (hk:k < n) (h:f k = 0):qdf f n = 0:=by
 induction n with
 | zero=>omega
 | succ n ih =>
  rw [qdf]
  by_cases hkn:k = n
  ·rw [<- hkn,h,q7]
  ·rw [ih (by omega),qB]
def qo5 (r:F):F->List F->List F
 | p,[]=>[p]
 | p,c :: l=>(p ^^^ qi r c) :: qo5 r c l
theorem qvO {r:F}:∀ {p:F} {l:List F},(qo5 r p l).length = l.length + 1
 | _,[]=>rfl
 | _,c :: l=>by simp [qo5,qvO]
theorem qsj {r x:F}:∀ {p:F} {l:List F},qa1 x (qo5 r p l) = p ^^^ qi (x ^^^ r) (qa1 x l)
 | p,[]=>by rw [qo5,qhV,qgr,q7,qae]
 | p,c :: l=>by
  rw [qo5,qa1,qsj,qa1,qcw,qiq,BitVec.xor_comm _ (p ^^^ qi r c),BitVec.xor_assoc,qcw (x:=x) (y:=r) (z:=c),<- qR]
  congr 1
  rw [qaf (x:=c) (y:=x),<- BitVec.xor_assoc,BitVec.xor_comm (qi r c),BitVec.xor_comm]
theorem qsm (xs:Nat->F) (i:Nat):∀ n,∃ l:List F,l.length = (if i < n then n else n + 1)/\∀ x,qa1 x l = qdf (fun m=>if m = i then 1 else x ^^^ xs m) n
 | 0=>⟨[1],by simp,fun x=>by rw [qhV,qdf]⟩
 | n + 1=>by
  obtain ⟨l,h1,h2⟩:=qsm xs i n
  by_cases hn:n = i
  ·subst hn
   refine ⟨l,by rw [h1]; simp,fun x=>by rw [h2,qdf,if_pos rfl,qbg]⟩
  ·refine ⟨qo5 (xs n) 0 l,?_,fun x=>?_⟩
   ·rw [qvO,h1]; split <;> split <;> omega
   ·rw [qsj,h2,qdf,if_neg hn,qav,qaf]
def qgj (n:Nat) (xs:Nat->F) (x:F) (i:Nat):F:=qi (qdf (fun m=>if m = i then 1 else x ^^^ xs m) n) (qeE (qdf (fun m=>if m = i then 1 else xs i ^^^ xs m) n))
theorem q6Q {n:Nat} {xs:Nat->F} (hd:qb9 n xs) {i k:Nat} (hi:i < n) (hk:k < n):qgj n xs (xs k) i = del i k:=by
 unfold qgj del
 by_cases hik:i = k
 ·subst hik
  rw [if_pos rfl,qiB]
  refine q5j fun m hm=>?_
  split
  ·decide
  ·rename_i hmi
   exact fun h=>hmi (hd i m hi hm (qfb.1 h)).symm
 ·rw [if_neg hik,qpI (k:=k) hk (by rw [if_neg (Ne.symm hik)]; exact qaB),qB]
theorem qkI {n:Nat} {xs:Nat->F} (hd:qb9 n xs) {y:Nat->F} {x:F}:q9 n y x = qx (fun i=>qi (qgj n xs x i) (q9 n y (xs i))) n:=by
 have hex:∀ i,∃ l:Nat->F,i < n->∀ x,q9 n l x = qgj n xs x i:=fun i=>by
  obtain ⟨l,h1,h2⟩:=qsm xs i n
  refine ⟨fun j=>qi (l.getD j 0) (qeE (qdf (fun m=>if m = i then 1 else xs i ^^^ xs m) n)),fun hi x=>?_⟩
  rw [qgj,<- h2 x,q2d (n:=n) (by rw [h1,if_pos hi]; exact Nat.le_refl _),q9,q9,<- qeb]
  refine ql fun j _=>?_
  rw [qR,qaf (x:=qeE _),<- qR]
 let lc:Nat->Nat->F:=fun i=>(hex i).choose
 have hlc:∀ i,i < n->∀ x,q9 n (lc i) x = qgj n xs x i:=fun i hi=>(hex i).choose_spec hi
 let S:Nat->F:=fun j=>y j ^^^ qx (fun i=>qi (q9 n y (xs i)) (lc i j)) n
 have hS:∀ x,q9 n S x = q9 n y x ^^^ qx (fun i=>qi (qgj n xs x i) (q9 n y (xs i))) n:=fun x=>by
  have h1:q9 n S x = q9 n y x ^^^ qx (fun j=>qx (fun i=>qi (q9 n y (xs i)) (qi (lc i j) (qaI x j))) n) n:=by
   simp only [q9]
   rw [<- qg5]
   refine ql fun j _=>?_
   simp only [S]
   rw [qcw]
   congr 1
   rw [<- qeb]
   exact ql fun i _=>qR
  rw [h1,qfA]
  congr 1
  refine ql fun i hi=>?_
  rw [qdw,<- hlc i hi x,qaf]
  rfl
 have h0:=qjW (y:=S) hd fun k hk=>by
  rw [hS,ql fun i hi=>by rw [q6Q hd hi hk],qov (f:=fun i=>q9 n y (xs i)) hk,qaB]
 have:=hS x
 rw [show q9 n S x = 0 from qcI fun j hj=>by rw [h0 j hj,qB]] at this
 exact qfb.1 this.symm
theorem qqb {n:Nat} {xs:Nat->F} (hd:qb9 n xs) {y:Nat->F} (h:∀ i,i < n->qx (fun j=>qi (qaI (xs i) j) (y j)) n = 0):∀ j,j < n->y j = 0 :=
 qjW hd fun i hi=>by
  rw [q9,<- h i hi]
  exact ql fun j _=>qaf
end Go.Proofs

set_option linter.unusedSimpArgs false
set_option linter.unusedVariables false
namespace Go.Proofs
open Go Go.Eng

def qy (l:List Int):Prop:=∀ x ∈ l,isB x
theorem qaL {l:List Int} (h:qy l) (i:Nat):isB (l.getD i 0):=by
 rw [List.getD_eq_getElem?_getD]
 by_cases hi:i < l.length
 ·rw [List.getElem?_eq_getElem hi]; exact h _ (List.getElem_mem hi)
 ·rw [List.getElem?_eq_none (by omega)]; exact ⟨by simp,by simp⟩
def q6 (ca:Nat) (l:List Int):Mat:=fun i j=>toF (l.getD (i * ca + j) 0)
def qZ (ca cb:Nat) (a b:List Int):Mat:=fun i j=>if j < ca then q6 ca a i j else q6 cb b i (j - ca)
theorem qvI {i i' ca j:Nat} (hj:j < ca):(i * ca <= i' * ca + j/\i' * ca + j < i * ca + ca)↔i' = i:=by
 constructor
 ·intro ⟨h1,h2⟩
  rcases Nat.lt_trichotomy i' i with h | h | h
  ·have:=Nat.mul_le_mul_right ca (show i' + 1 <= i by omega)
   rw [Nat.add_mul,Nat.one_mul] at this; omega
  ·exact h
  ·have:=Nat.mul_le_mul_right ca (show i + 1 <= i' by omega)
   rw [Nat.add_mul,Nat.one_mul] at this; omega
 ·rintro rfl; omega
theorem qf4 {i r ca j:Nat} (hi:i < r) (hj:j < ca):i * ca + j < r * ca:=by
 have:=Nat.mul_le_mul_right ca (show i + 1 <= r by omega)
 rw [Nat.add_mul,Nat.one_mul] at this; omega
theorem qpd {i r ca:Nat} (hi:i < r):i * ca + ca <= r * ca:=by
 have:=Nat.mul_le_mul_right ca (show i + 1 <= r by omega)
 rwa [Nat.add_mul,Nat.one_mul] at this
theorem qey {l s:List Int} {off:Nat} {c:Int} (h:qy l):qy (qag l off s c):=fun x hx=>by
 obtain ⟨i,hi⟩:=List.getElem?_of_mem hx
 rw [qbH] at hi
 obtain ⟨y,hy,rfl⟩:=Option.map_eq_some_iff.1 hi
 split
 ·exact q3J
 ·exact h y (List.mem_of_getElem? hy)
theorem qmj {l:List Int} {off n:Nat} {c:Int} (h:qy l) (hc:isB c):qy (qbi l off n c):=fun x hx=>by
 obtain ⟨i,hi⟩:=List.getElem?_of_mem hx
 rw [qe9] at hi
 obtain ⟨y,hy,rfl⟩:=Option.map_eq_some_iff.1 hi
 have:=h y (List.mem_of_getElem? hy)
 split
 ·exact q42 this hc
 ·exact this
theorem qva {ca r i p:Nat} {a:List Int} {g:Int} (ha:a.length = r * ca) (hb:qy a) (hg:isB g) (hi:i < r) (hp:p < r) {i' j:Nat} (hi':i' < r) (hj:j < ca) :
  q6 ca (qag a (i * ca) (seg a (p * ca) ca) g) i' j = if i' = i then q6 ca a i j ^^^ qi (toF g) (q6 ca a p j) else q6 ca a i' j:=by
 have hlt:=qf4 hi' hj
 have hsl:(seg a (p * ca) ca).length = ca:=qf8 (by rw [ha]; exact qpd hp)
 unfold q6
 rw [List.getD_eq_getElem?_getD,qbH,List.getElem?_eq_getElem (by omega),Option.map_some,Option.getD_some,hsl]
 by_cases he:i' = i
 ·subst he
  rw [if_pos ⟨by omega,by omega⟩,if_pos rfl,show i' * ca + j - i' * ca = j by omega]
  have hs:(seg a (p * ca) ca).getD j 0 = a.getD (p * ca + j) 0:=by
   rw [List.getD_eq_getElem?_getD,qfx,if_pos hj,List.getD_eq_getElem?_getD]
  rw [hs,qk1,qhR hg (qaL hb _),List.getD_eq_getElem?_getD (l:=a) (i:=i' * ca + j),List.getElem?_eq_getElem (by omega),Option.getD_some]
 ·rw [if_neg (fun h=>he ((qvI hj).1 h)),if_neg he,List.getD_eq_getElem?_getD,List.getElem?_eq_getElem (by omega),Option.getD_some]
theorem qpQ {ca r i:Nat} {a:List Int} {g:Int} (ha:a.length = r * ca) (hb:qy a) (hg:isB g) (hi:i < r) {i' j:Nat} (hi':i' < r) (hj:j < ca) :
  q6 ca (qbi a (i * ca) ca g) i' j = if i' = i then qi (q6 ca a i j) (toF g) else q6 ca a i' j:=by
 have hlt:=qf4 hi' hj
 unfold q6
 rw [List.getD_eq_getElem?_getD,qe9,List.getElem?_eq_getElem (by omega),Option.map_some,Option.getD_some]
 by_cases he:i' = i
 ·subst he
  rw [if_pos ⟨by omega,by omega⟩,if_pos rfl,List.getD_eq_getElem?_getD,List.getElem?_eq_getElem (by omega),Option.getD_some,qhR (hb _ (List.getElem_mem _)) hg]
 ·rw [if_neg (fun h=>he ((qvI hj).1 h)),if_neg he,List.getD_eq_getElem?_getD,List.getElem?_eq_getElem (by omega),Option.getD_some]
structure Two (r ca cb:Nat) (a b:List Int):Prop where
 la:a.length = r * ca
 lb:b.length = r * cb
 ba:qy a
 bb:qy b
variable {r ca cb:Nat} {a b:List Int}
theorem Two.add (h:Two r ca cb a b) {i p:Nat} {g:Int}:Two r ca cb (qag a (i * ca) (seg a (p * ca) ca) g) (qag b (i * cb) (seg b (p * cb) cb) g) :=
 ⟨by rw [qcD,h.la],by rw [qcD,h.lb],qey h.ba,qey h.bb⟩
theorem Two.scale (h:Two r ca cb a b) {i:Nat} {g:Int} (hg:isB g):Two r ca cb (qbi a (i * ca) ca g) (qbi b (i * cb) cb g) :=
 ⟨by rw [qjZ,h.la],by rw [qjZ,h.lb],qmj h.ba hg,qmj h.bb hg⟩
theorem qxY (h:Two r ca cb a b) {i p:Nat} {g:Int} (hg:isB g) (hi:i < r) (hp:p < r) {i' j:Nat} (hi':i' < r) (hj:j < ca + cb) :
  qZ ca cb (qag a (i * ca) (seg a (p * ca) ca) g) (qag b (i * cb) (seg b (p * cb) cb) g) i' j = if i' = i then qZ ca cb a b i j ^^^ qi (toF g) (qZ ca cb a b p j) else qZ ca cb a b i' j:=by
 unfold qZ
 by_cases hjc:j < ca
 ·simp only [if_pos hjc]; exact qva h.la h.ba hg hi hp hi' hjc
 ·simp only [if_neg hjc]; exact qva h.lb h.bb hg hi hp hi' (by omega)
theorem q2T (h:Two r ca cb a b) {i:Nat} {g:Int} (hg:isB g) (hi:i < r) {i' j:Nat} (hi':i' < r) (hj:j < ca + cb) :
  qZ ca cb (qbi a (i * ca) ca g) (qbi b (i * cb) cb g) i' j = if i' = i then qi (qZ ca cb a b i j) (toF g) else qZ ca cb a b i' j:=by
 unfold qZ
 by_cases hjc:j < ca
 ·simp only [if_pos hjc]; exact qpQ h.la h.ba hg hi hi' hjc
 ·simp only [if_neg hjc]; exact qpQ h.lb h.bb hg hi hi' (by omega)
theorem qee {c i:Nat} (hc:c < ca):qZ ca cb a b i c = toF (a.getD (i * ca + c) 0):=by rw [qZ,if_pos hc,q6]
theorem qse (a:List Int) (ca c:Nat):∀ n p,p <= qdh a ca c p n/\qdh a ca c p n <= p + n/\(qdh a ca c p n < p + n->a.getD (qdh a ca c p n * ca + c) 0 ≠ 0)/\∀ i,p <= i->i < qdh a ca c p n->a.getD (i * ca + c) 0 = 0
 | 0,p=>by simp only [qdh]; exact ⟨Nat.le_refl _,Nat.le_refl _,fun h=>by omega,fun i h1 h2=>by omega⟩
 | n + 1,p=>by
  obtain ⟨h1,h2,h3,h4⟩:=qse a ca c n (p + 1)
  simp only [qdh]
  split
  ·rename_i hz
   refine ⟨by omega,by omega,fun h=>h3 (by omega),fun i hi1 hi2=>?_⟩
   by_cases hip:i = p
   ·rw [hip]; exact hz
   ·exact h4 i (by omega) hi2
  ·rename_i hz
   exact ⟨Nat.le_refl _,by omega,fun _=>hz,fun i h1 h2=>by omega⟩
theorem Two.rows (h:Two r ca cb a b) {rank c:Nat}:∀ i,Two r ca cb (qaC ca cb rank c a b i).1 (qaC ca cb rank c a b i).2
 | 0=>h
 | i + 1=>by
  have ih:=Two.rows h (rank:=rank) (c:=c) i
  simp only [qaC]
  split
  ·exact ih
  ·exact ih.add
theorem qwc (h:Two r ca cb a b) {rank c:Nat} (hr:rank < r) (hc:c < ca):∀ i,i <= r ->
  (∀ i' j,i' < r->j < ca + cb->qZ ca cb (qaC ca cb rank c a b i).1 (qaC ca cb rank c a b i).2 i' j = if i' < i/\i' ≠ rank then qZ ca cb a b i' j ^^^ qi (qZ ca cb a b i' c) (qZ ca cb a b rank j) else qZ ca cb a b i' j) /\
  Same r (ca + cb) (qZ ca cb a b) (qZ ca cb (qaC ca cb rank c a b i).1 (qaC ca cb rank c a b i).2)
 | 0,_=>⟨fun i' j _ _=>by rw [if_neg (by omega)]; rfl,Same.refl⟩
 | i + 1,hi=>by
  obtain ⟨ih,ihs⟩:=qwc h hr hc i (by omega)
  have hT:=h.rows (rank:=rank) (c:=c) i
  simp only [qaC]
  by_cases hir:i = rank
  ·rw [if_pos hir]
   refine ⟨fun i' j hi' hj=>?_,ihs⟩
   rw [ih i' j hi' hj]
   by_cases h1:i' < i/\i' ≠ rank
   ·rw [if_pos h1,if_pos ⟨by omega,h1.2⟩]
   ·rw [if_neg h1,if_neg (by omega)]
  ·rw [if_neg hir]
   simp only
   have hg:=qaL hT.ba (i * ca + c)
   have hgv:toF ((qaC ca cb rank c a b i).1.getD (i * ca + c) 0) = qZ ca cb a b i c:=by
    rw [<- qee (cb:=cb) (b:=(qaC ca cb rank c a b i).2) hc,ih i c (by omega) (by omega),if_neg (by omega)]
   have hstep:=fun i' j (hi':i' < r) (hj:j < ca + cb)=>qxY hT (g:=(qaC ca cb rank c a b i).1.getD (i * ca + c) 0) hg (show i < r by omega) hr hi' hj
   refine ⟨fun i' j hi' hj=>?_,ihs.trans (quG (i:=i) (p:=rank) (g:=toF ((qaC ca cb rank c a b i).1.getD (i * ca + c) 0)) (by omega) hr hir (fun j hj=>by rw [hstep i j (by omega) hj,if_pos rfl]) fun a' ha' hne j hj=>by rw [hstep a' j ha' hj,if_neg hne])⟩
   rw [hstep i' j hi' hj]
   by_cases he:i' = i
   ·subst he
    rw [if_pos rfl,hgv,ih i' j hi' hj,if_neg (by omega),ih rank j hr hj,if_neg (by omega),if_pos ⟨by omega,hir⟩]
   ·rw [if_neg he,ih i' j hi' hj]
    by_cases h1:i' < i/\i' ≠ rank
    ·rw [if_pos h1,if_pos ⟨by omega,h1.2⟩]
    ·rw [if_neg h1,if_neg (by omega)]
theorem q2p {T0:Mat} {c rank:Nat} (h2:Two r ca cb a b) (h:Ech r (ca + cb) T0 (qZ ca cb a b) c rank) (hc:c < ca) :
  Two r ca cb (qcR r ca cb c (a,b,rank)).1 (qcR r ca cb c (a,b,rank)).2.1/\Ech r (ca + cb) T0 (qZ ca cb (qcR r ca cb c (a,b,rank)).1 (qcR r ca cb c (a,b,rank)).2.1) (c + 1) (qcR r ca cb c (a,b,rank)).2.2:=by
 unfold qcR
 simp only
 by_cases hr:r <= rank
 ·rw [if_pos hr]
  exact ⟨h2,quM h (by omega) fun i (h1:rank <= i) h3=>by omega⟩
 rw [if_neg hr]
 obtain ⟨p1,p2,p3,p4⟩:=qse a ca c (r - rank) rank
 by_cases hp:qdh a ca c rank (r - rank) = r
 ·rw [if_pos hp]
  refine ⟨h2,quM h (by omega) fun i (h1:rank <= i) h3=>?_⟩
  rw [qee hc,p4 i h1 (by omega)]; rfl
 rw [if_neg hp]
 simp only
 generalize hpv:qdh a ca c rank (r - rank) = p at p1 p2 p3 p4 hp
 have hpr:p < r:=by omega
 have hnz:=p3 (by omega)
 have hmid:qgt r ca cb c (a,b,rank) = qhe ca cb rank c (qbF ca cb rank p a b).1 (qbF ca cb rank p a b).2:=by
  unfold qgt; simp only [hpv]
 -- the pivot's row is added
 have h1:Two r ca cb (qbF ca cb rank p a b).1 (qbF ca cb rank p a b).2/\Same r (ca + cb) (qZ ca cb a b) (qZ ca cb (qbF ca cb rank p a b).1 (qbF ca cb rank p a b).2) /\
   qZ ca cb (qbF ca cb rank p a b).1 (qbF ca cb rank p a b).2 rank c ≠ 0/\(∀ i j,i < r->j < ca + cb->i ≠ rank->qZ ca cb (qbF ca cb rank p a b).1 (qbF ca cb rank p a b).2 i j = qZ ca cb a b i j) /\
   ∀ c',c' < c->qZ ca cb (qbF ca cb rank p a b).1 (qbF ca cb rank p a b).2 rank c' = 0:=by
  have hpc:qZ ca cb a b p c ≠ 0:=by
   rw [qee hc]
   intro h0
   exact hnz ((qeJ (qaL h2.ba _)).1 h0)
  unfold qbF
  by_cases hpe:p = rank
  ·rw [if_pos hpe]
   exact ⟨h2,Same.refl,by rw [<- hpe]; exact hpc,fun _ _ _ _ _=>rfl,fun c' hc'=>h.low rank (Nat.le_refl _) (by omega) c' hc'⟩
  ·rw [if_neg hpe]
   have hst:=fun i' j (hi':i' < r) (hj:j < ca + cb)=>qxY h2 (g:=1) ⟨by omega,by omega⟩ (show rank < r by omega) hpr hi' hj
   have h1:toF 1 = 1:=rfl
   refine ⟨h2.add,quG (i:=rank) (p:=p) (g:=toF 1) (by omega) hpr (Ne.symm hpe) (fun j hj=>by simp only; rw [hst rank j (by omega) hj,if_pos rfl]) (fun a' ha' hne j hj=>by simp only; rw [hst a' j ha' hj,if_neg hne]),?_,fun i j hi hj hne=>by simp only; rw [hst i j hi hj,if_neg hne],fun c' hc'=>?_⟩
   ·simp only
    rw [hst rank c (by omega) (by omega),if_pos rfl,h1,qhP]
    rw [qee hc (i:=rank),p4 rank (Nat.le_refl _) (by omega),qw6,qav]
    exact hpc
   ·simp only
    rw [hst rank c' (by omega) (by omega),if_pos rfl,h1,qhP,h.low rank (Nat.le_refl _) (by omega) c' hc',h.low p (by omega) hpr c' hc',qae]
 rw [hmid]
 generalize qbF ca cb rank p a b = s1 at h1
 obtain ⟨t1,same1,nz1,oth1,low1⟩:=h1
 -- it is scaled
 have hgB:=q3U (qaL t1.ba (rank * ca + c))
 have hgv:toF (qfW (s1.1.getD (rank * ca + c) 0)) = qeE (qZ ca cb s1.1 s1.2 rank c):=by rw [q6g (qaL t1.ba _),qee hc]
 have t2:Two r ca cb (qhe ca cb rank c s1.1 s1.2).1 (qhe ca cb rank c s1.1 s1.2).2:=t1.scale hgB
 have hsc:∀ i j,i < r->j < ca + cb->qZ ca cb (qhe ca cb rank c s1.1 s1.2).1 (qhe ca cb rank c s1.1 s1.2).2 i j = if i = rank then qi (qZ ca cb s1.1 s1.2 rank j) (qeE (qZ ca cb s1.1 s1.2 rank c)) else qZ ca cb s1.1 s1.2 i j:=fun i j hi hj=>by
  rw [<- hgv]
  exact q2T t1 hgB (by omega) hi hj
 generalize qhe ca cb rank c s1.1 s1.2 = s2 at t2 hsc
 have same2:Same r (ca + cb) (qZ ca cb s1.1 s1.2) (qZ ca cb s2.1 s2.2):=q5q (i:=rank) (g:=qeE (qZ ca cb s1.1 s1.2 rank c)) (by omega) (q7X nz1) (fun j hj=>by rw [hsc rank j (by omega) hj,if_pos rfl]) fun a' ha' hne j hj=>by rw [hsc a' j ha' hj,if_neg hne]
 have one2:qZ ca cb s2.1 s2.2 rank c = 1:=by rw [hsc rank c (by omega) (by omega),if_pos rfl,qiB nz1]
 have low2:∀ c',c' < c->qZ ca cb s2.1 s2.2 rank c' = 0:=fun c' hc'=>by rw [hsc rank c' (by omega) (by omega),if_pos rfl,low1 c' hc',qB]
 have oth2:∀ i j,i < r->j < ca + cb->i ≠ rank->qZ ca cb s2.1 s2.2 i j = qZ ca cb a b i j:=fun i j hi hj hne=>by rw [hsc i j hi hj,if_neg hne,oth1 i j hi hj hne]
 -- the others are cleared
 obtain ⟨r3,same3⟩:=qwc t2 (rank:=rank) (c:=c) (by omega) hc r (Nat.le_refl _)
 refine ⟨t2.rows r,q5s h (by omega) (by omega) ((same1.trans same2).trans same3) (fun i hi=>?_) fun c' hc' i hi=>?_⟩
 ·rw [r3 i c hi (by omega),one2,qbg]
  by_cases hir:i = rank
  ·rw [if_neg (by omega),hir,one2,del,if_pos rfl]
  ·rw [if_pos ⟨hi,hir⟩,qaB,del,if_neg hir]
 ·rw [r3 i c' hi (by omega),low2 c' hc',q7,qae]
  by_cases hir:i = rank
  ·rw [if_neg (by omega),hir,low2 c' hc',h.low rank (Nat.le_refl _) (by omega) c' hc']
  ·rw [if_pos ⟨hi,hir⟩,oth2 i c' hi (by omega) hir]
theorem qvE (h:Two r ca cb a b):∀ c,c <= ca->Two r ca cb (qcf r ca cb a b c).1 (qcf r ca cb a b c).2.1/\Ech r (ca + cb) (qZ ca cb a b) (qZ ca cb (qcf r ca cb a b c).1 (qcf r ca cb a b c).2.1) c (qcf r ca cb a b c).2.2
 | 0,_=>⟨h,q29⟩
 | c + 1,hc=>by
  obtain ⟨h1,h2⟩:=qvE h c (by omega)
  rw [qcf]
  exact q2p h1 h2 (by omega)
end Go.Proofs

set_option linter.unusedSimpArgs false
set_option linter.unusedVariables false
namespace Go.Proofs
open Go Go.Eng
theorem q7S {d:qe} (h:qy (bI d)):qz d:=fun row hr=>h (qb7 row 0) (List.mem_map.2 ⟨row,hr,rfl⟩)
theorem qqi {d:qe}:bytesOf d = (bI d).map fun x=>UInt8.ofNat x.toNat:=by
 simp only [bytesOf,bI,List.map_map]
 exact List.map_congr_left fun r hr=>rfl
end Go.Proofs

set_option linter.unusedSimpArgs false
set_option linter.unusedVariables false
namespace Go.Proofs
open Go Go.Eng
set_option maxRecDepth 20000
theorem qwQ {k n t s:Int} {o:List Int} (h:o.length = 32):(qaN k n t s o).length = 39:=by simp [qaN,qar,h]
theorem q66:idC.ok Tryz.prog:=q9O (by simp [q3b,qmf]) fun ρ hg hp=>by
 obtain ⟨⟨hl,hO,hD⟩,hGr,hGd⟩:=hp
 simp (config:={ maxSteps:=2000000 }) [q53,idC,qp2,qdK,qaU,qo2,qjb,qaz,gOk,qvh,q0Z,qmP]
 refine ⟨⟨by omega,hl,hO,hD⟩,fun l _ c _ d _ hok hl2 hB hd=>?_⟩
 have hd:bI d.d = qaN (ρ 0).i (ρ 1).i (ρ 2).i (ρ 3).i (qd (ρ 4).d 32) ++ (dgs (ρ 8).d).flatten:=hd
 have hb:=hok
 simp [qI,qbq] at hb
 have hlen:=congrArg List.length hd
 rw [List.length_append,qcZ q8Q,q7w,bI_len,qwQ qdt] at hlen
 refine fun hc=>⟨⟨⟨by omega,by omega,by omega,by omega,hB⟩,hGr,hGd⟩,fun x _ hx=>⟨hok,?_⟩⟩
 have hx:qd x.d 32 = sha (qaN (ρ 0).i (ρ 1).i (ρ 2).i (ρ 3).i (qd (ρ 4).d 32) ++ (dgs (ρ 8).d).flatten):=by
  rw [hx,qaF,hd.symm]
  simp only [Int.toNat_zero,List.drop_zero]
  rw [List.take_of_length_le (by rw [bI_len]; omega)]
 exact hx
end Go.Proofs

set_option linter.unusedSimpArgs false
set_option linter.unusedVariables false
set_option maxRecDepth 100000
namespace Go.Proofs
open Go Go.Eng

def qnV:Out:=(.fresh 18 (.fresh 19 (.pre 0 (sg 0 [bv 9 9,bv 8 8,bv 7 7,bv 6 6,bg 5 5,bv 3 3,bv 2 2,bv 1 1,bv 0 0,bt 4 (r8 4)]) (.both (.fresh 20 (.post 0 0 (sg 0 [bv 9 9,bv 8 8,bv 7 7,bv 6 6,bg 5 5,bv 3 3,bv 2 2,bv 1 1,bv 0 0,bt 4 (r8 4)]) 20 (.br (.cmp .neq (.var 20) (.lit 0))
 (.ret 0 (sg 18 [bv 18 20]))
 (.br (.cmp .lss (.var 10) (.lit 0))
 (.ret 0 (sg 18 [bt 18 (.lit 2)]))
 (.br (.cmp .geq (.var 10) (.var 2))
 (.ret 0 (sg 18 [bt 18 (.lit 2)]))
 (.pre 1 (sg 0 [bv 1 3,bv 0 0]) (.both (.fresh 21 (.fresh 22 (.post 1 0 (sg 0 [bv 1 3,bv 0 0]) 21 (.need (.cmp .leq (.lit 0) (.var 12)) (.br (.cmp .neq (.var 12) (.var 21))
 (.ret 0 (sg 18 [bt 18 (.lit 10)]))
 (.need (.cmp .leq (.lit 0) (.var 10)) (.need (.cmp .lss (.var 10) (.var 6)) (.need (.cmp .lss (.var 10) (.dlen (.var 8))) (.both (.pre 2 (sg 0 [bv 8 17,bv 6 15,bv 5 14,bv 4 13,bv 3 12,bt 2 (.lit 0),bg 1 11,bv 0 10,bg 7 16]) (.both (.fresh 23 (.post 2 0 (sg 0 [bv 8 17,bv 6 15,bv 5 14,bv 4 13,bv 3 12,bt 2 (.lit 0),bg 1 11,bv 0 10,bg 7 16]) 23 (.br (.not (.c2 .req (r8 23) (.rcons (i8 8 10 0) (.rcons (i8 8 10 1) (.rcons (i8 8 10 2) (.rcons (i8 8 10 3) (.rcons (i8 8 10 4) (.rcons (i8 8 10 5) (.rcons (i8 8 10 6) (.rcons (i8 8 10 7) (.rcons (i8 8 10 8) (.rcons (i8 8 10 9) (.rcons (i8 8 10 10) (.rcons (i8 8 10 11) (.rcons (i8 8 10 12) (.rcons (i8 8 10 13) (.rcons (i8 8 10 14) (.rcons (i8 8 10 15) (.rcons (i8 8 10 16) (.rcons (i8 8 10 17) (.rcons (i8 8 10 18) (.rcons (i8 8 10 19) (.rcons (i8 8 10 20) (.rcons (i8 8 10 21) (.rcons (i8 8 10 22) (.rcons (i8 8 10 23) (.rcons (i8 8 10 24) (.rcons (i8 8 10 25) (.rcons (i8 8 10 26) (.rcons (i8 8 10 27) (.rcons (i8 8 10 28) (.rcons (i8 8 10 29) (.rcons (i8 8 10 30) (.rcons (i8 8 10 31) .rnil))))))))))))))))))))))))))))))))))
 (.ret 0 (sg 18 [bt 18 (.lit 20)]))
 (.ret 0 (sg 18 [bt 18 (.lit 0)]))))) .top)) .top))))))))) .top))))))) .top))))
theorem qx3:qk ⟨Tryz.prog,qdE,[qca,qbr,qbt],[]⟩ 100000 Tryz.f60 = qnV:=by kernel_rfl
theorem q2L (hd:∀ c ∈ ([qca,qbr,qbt]:List Ctr),c.ok Tryz.prog) (h:∀ ρ:Env,ρ.good->(qdE).pre ρ->qnV.den ⟨Tryz.prog,qdE,[qca,qbr,qbt],[]⟩ ρ):(qdE).ok Tryz.prog :=
 qf Tryz.func60 (fun a w=>Tryz.call60 a w) hd 100000 (fun ρ hg hp=>by rw [qx3]; exact h ρ hg hp)
end Go.Proofs

set_option linter.unusedSimpArgs false
set_option linter.unusedVariables false
set_option maxRecDepth 100000
namespace Go.Proofs
open Go Go.Eng

end Go.Proofs

set_option linter.unusedSimpArgs false
set_option linter.unusedVariables false
namespace Go.Proofs
open Go Go.Eng
end Go.Proofs

set_option linter.unusedSimpArgs false
set_option linter.unusedVariables false
namespace Go.Proofs
open Go Go.Eng

end Go.Proofs

set_option linter.unusedSimpArgs false
set_option linter.unusedVariables false
namespace Go.Proofs
open Go Go.Eng
set_option maxRecDepth 20000
theorem q5I {k n t s l i:Int} {D:List (List Int)} {m:List Int} (h:qI k n t s l = false):2 = qc0 k n t s l D i m:=by rw [qc0,if_pos h]
theorem qw1 {k n t s l i:Int} {D:List (List Int)} {m:List Int} (h:qI k n t s l = true) (hi:i < 0∨t <= i):2 = qc0 k n t s l D i m:=by rw [qc0,if_neg (by rw [h]; decide),if_pos hi]
theorem q5n {k n t s l i:Int} {D:List (List Int)} {m:List Int} (h:qI k n t s l = true) (h0:0 <= i) (h1:i < t) (hl:(m.length:Int) ≠ qe2 k s):10 = qc0 k n t s l D i m:=by rw [qc0,if_neg (by rw [h]; decide),if_neg (by omega),if_pos hl]
theorem q51 {k n t s l i:Int} {D:List (List Int)} {m:List Int} (h:qI k n t s l = true) (h0:0 <= i) (h1:i < t) (hl:(m.length:Int) = qe2 k s) (hs:sha (qcn i ++ m) ≠ D.getD i.toNat []):20 = qc0 k n t s l D i m:=by rw [qc0,if_neg (by rw [h]; decide),if_neg (by omega),if_neg (fun h=>h hl),if_pos hs]
theorem q6C {k n t s l i:Int} {D:List (List Int)} {m:List Int} (h:qI k n t s l = true) (h0:0 <= i) (h1:i < t) (hl:(m.length:Int) = qe2 k s) (hs:sha (qcn i ++ m) = D.getD i.toNat []):0 = qc0 k n t s l D i m:=by rw [qc0,if_neg (by rw [h]; decide),if_neg (by omega),if_neg (fun h=>h hl),if_neg (fun h=>h hs)]
theorem q0r {k n t s l:Int} (h:qI k n t s l = true):¬ qfs k s:=by
 simp [qI,qbq] at h
 unfold qfs; omega
set_option maxHeartbeats 1000000 in
theorem q1Q:qdE.ok Tryz.prog:=q2L (by simp [qsF,qpq,qoZ]) fun ρ hg hp=>by
 obtain ⟨⟨i0,i3,hl,hD,hpl,hpc,hp1,hB⟩,hGr,hGd⟩:=hp
 simp only [Nat.reduceAdd] at hpl hpc hp1 hB
 simp (config:={ maxSteps:=4000000,contextual:=true }) [qnV,qdE,qqN,qca,qbr,qbt,qo2,qjb,qaz,gOk,hGr,hGd,hB,hD,hl,hpl]
 refine fun u _ hu=>⟨q5I,fun hok=>⟨fun h0=>qw1 hok (.inl h0),fun h0=>⟨fun ht=>qw1 hok (.inr ht),fun ht l _ e _ _ hgood=>?_⟩⟩⟩
 have hlen:=(hgood (q0r hok)).1
 have hml:(bI (ρ 14).d).length = (ρ 14).d.length:=bI_len
 have htl:(ρ 2).i = (ρ 8).d.length:=by simp [qI] at hok; omega
 have hrow:qt4 (ρ 8).d (ρ 10).i = (dgs (ρ 8).d).getD (ρ 10).i.toNat []:=q1N h0 (by omega)
 refine ⟨fun hne=>q5n hok h0 ht (by rw [hml,qe2,<- hlen]; exact hne),fun heq=>⟨by omega,⟨by omega,by omega,by omega⟩,fun x _ hx=>?_⟩⟩
 rw [qjX heq.symm,hrow]
 exact ⟨fun hn=>q51 hok h0 ht (by rw [hml,qe2,<- hlen]; exact heq) hn,fun he=>q6C hok h0 ht (by rw [hml,qe2,<- hlen]; exact heq) he⟩
end Go.Proofs

set_option linter.unusedSimpArgs false
set_option linter.unusedVariables false
namespace Go.Proofs
open Go Go.Eng

theorem qt6 {k n:Nat} (hk:0 < k):n <= k * qF k n:=by
 unfold qF
 have h1:=Nat.div_add_mod (n + k - 1) k
 have h2:=Nat.mod_lt (n + k - 1) hk
 omega
theorem q2e {n:Nat}:(qa9 n n).length = n * n:=by simp [qa9]
theorem q2Y {n i:Nat} (hi:i < n * n):(qa9 n n).getD i 0 = if i / n = i % n then 1 else 0:=by
 have hn:0 < n:=by
  cases n with
  | zero=>simp at hi
  | succ n=>omega
 rw [List.getD_eq_getElem?_getD,qa9,List.getElem?_map,List.getElem?_range hi]
 simp only [Option.map_some,Option.getD_some]
 have:i / n < n:=Nat.div_lt_of_lt_mul hi
 by_cases h:i / n = i % n
 ·rw [if_pos ⟨h,this⟩,if_pos h]
 ·rw [if_neg (fun hh=>h hh.1),if_neg h]
theorem qjc {i n j:Nat} (hj:j < n):(i * n + j) / n = i/\(i * n + j) % n = j:=by
 have hn:0 < n:=by omega
 constructor
 ·rw [Nat.mul_comm,Nat.mul_add_div hn,Nat.div_eq_of_lt hj,Nat.add_zero]
 ·rw [Nat.mul_comm,Nat.mul_add_mod,Nat.mod_eq_of_lt hj]
theorem qwK {n:Nat}:qy (qa9 n n):=fun x hx=>by
 simp only [qa9,List.mem_map] at hx
 obtain ⟨i,_,rfl⟩:=hx
 split <;> exact ⟨by omega,by omega⟩
theorem qs4 {n i j:Nat} (hi:i < n) (hj:j < n):q6 n (qa9 n n) i j = del i j:=by
 obtain ⟨h1,h2⟩:=qjc (i:=i) hj
 rw [q6,q2Y (qf4 hi hj),h1,h2,del]
 split <;> rfl
theorem qyL {r c:Nat}:(qb1 r c).length = r * c:=by simp [qb1,qcu]
theorem qz4 {r c i j:Nat} (hi:i < r) (hj:j < c):(qb1 r c).getD (i * c + j) 0 = qhu (i:Int) (j:Int):=by
 obtain ⟨h1,h2⟩:=qjc (i:=i) hj
 have hlt:=qf4 hi hj
 rw [List.getD_eq_getElem?_getD,qb1,qcu,List.getElem?_map,List.getElem?_range hlt]
 simp only [Option.map_some,Option.getD_some]
 rw [if_pos hlt,qmC,h1,h2]
def xsF (m:Nat):F:=toF (m:Int)
theorem qpX {r c i j:Nat} (hr:r <= 256) (hi:i < r) (hj:j < c) (hc:c < 9223372036854775808):q6 c (qb1 r c) i j = qaI (xsF i) j:=by
 rw [q6,qz4 hi hj,q1L ⟨by omega,by omega⟩ (by omega),qjC,Int.toNat_natCast]; rfl
theorem qmr {r c:Nat} (hr:r <= 256) (hc:c < 9223372036854775808):qy (qb1 r c):=fun x hx=>by
 simp only [qb1,qcu,List.mem_map,List.mem_range] at hx
 obtain ⟨i,hi,rfl⟩:=hx
 rw [if_pos hi]
 have hc0:0 < c:=by
  cases c with
  | zero=>simp at hi
  | succ c=>omega
 have h1:i / c < r:=Nat.div_lt_of_lt_mul (by rwa [Nat.mul_comm] at hi)
 have h2:=Nat.mod_lt i hc0
 have h3:((i / c:Nat):Int) < 256:=by omega
 exact q5A ⟨Int.natCast_nonneg _,h3⟩ (by omega)
theorem qeS {n:Nat} (hn:n <= 256):qb9 n xsF:=fun i j hi hj h=>by
 have:=qqU (x:=(i:Int)) (y:=(j:Int)) ⟨by omega,by omega⟩ ⟨by omega,by omega⟩ h
 omega
theorem qzd {l:List Int} {n:Nat} (h:qy l):qy (l.take n):=fun x hx=>h x (List.mem_of_mem_take hx)
theorem q4c {l:List Int} {n c i j:Nat} (hi:i < n) (hj:j < c):q6 c (l.take (n * c)) i j = q6 c l i j:=by
 have hlt:=qf4 hi hj
 rw [q6,q6,List.getD_eq_getElem?_getD,List.getD_eq_getElem?_getD,List.getElem?_take,if_pos hlt]

theorem qi3 {ca cb:Nat} {a b:List Int} {i j:Nat}:qZ ca cb a b i (ca + j) = q6 cb b i j:=by
 rw [qZ,if_neg (by omega),show ca + j - ca = j by omega]
theorem qrz {n:Nat} {a A B:List Int} (h:Ech n (n + n) (qZ n n a (qa9 n n)) (qZ n n A B) n n) :
  (∀ i j,i < n->j < n->qx (fun l=>qi (q6 n B i l) (q6 n a l j)) n = del i j)/\∀ i j,i < n->j < n->qx (fun l=>qi (q6 n a i l) (q6 n B l j)) n = del i j:=by
 refine ⟨fun i j hi hj=>?_,fun i j hi hj=>?_⟩
 ·obtain ⟨x,hx⟩:=h.same.to i hi
  have hxB:∀ l,l < n->x l = q6 n B i l:=fun l hl=>by
   have h1:=hx (n + l) (by omega)
   rw [qi3,ql fun m hm=>by rw [qi3,qs4 hm hl],qhc (f:=x) hl] at h1
   exact h1.symm
  have h2:=hx j (by omega)
  rw [qv5 h i hi j hj,ql fun m hm=>by rw [hxB m hm,qee hj]] at h2
  exact h2.symm
 ·obtain ⟨x,hx⟩:=h.same.back i hi
  have hxa:∀ l,l < n->x l = q6 n a i l:=fun l hl=>by
   have h1:=hx l (by omega)
   rw [qee hl,ql fun m hm=>by rw [qv5 h m hm l hl],qhc (f:=x) hl] at h1
   exact h1.symm
  have h2:=hx (n + j) (by omega)
  rw [qi3,qs4 hi hj,ql fun m hm=>by rw [hxa m hm,qi3]] at h2
  exact h2.symm
theorem q1u {n:Nat} {m:List Int} (hl:m.length = n * n) (hb:qy m):Two n n n m (qa9 n n):=⟨hl,q2e,hb,qwK⟩
theorem qmE {n:Nat} {m:List Int} (hl:m.length = n * n) (hb:qy m):Two n n n (qeG m n).1 (qeG m n).2.1/\Ech n (n + n) (qZ n n m (qa9 n n)) (qZ n n (qeG m n).1 (qeG m n).2.1) n (qeG m n).2.2 :=
 qvE (q1u hl hb) n (Nat.le_refl _)
theorem qvb {n:Nat} {m:List Int} (hl:m.length = n * n) (hb:qy m) (h:∀ y:Nat->F,(∀ i,i < n->qx (fun j=>qi (q6 n m i j) (y j)) n = 0)->∀ j,j < n->y j = 0):(qeG m n).2.2 = n:=by
 obtain ⟨_,he⟩:=qmE hl hb
 refine Classical.byContradiction fun hne=>?_
 have hlt:(qeG m n).2.2 < n:=by have:=he.le; omega
 obtain ⟨y,⟨c,hc,hyc⟩,hy⟩:=q58 he (by omega) hlt
 exact hyc (h y (fun i hi=>by rw [<- hy i hi]; exact ql fun j hj=>by rw [qee hj]; rfl) c hc)

theorem qys {k total:Nat} (h:k <= total):((qb1 total k).take (k * k)).length = k * k:=by
 rw [List.length_take,qyL]
 exact Nat.min_eq_left (Nat.mul_le_mul_right k h)
theorem qxT {k total i j:Nat} (hk:k <= total) (ht:total <= 255) (hi:i < k) (hj:j < k):q6 k ((qb1 total k).take (k * k)) i j = qaI (xsF i) j:=by
 rw [q4c hi hj,qpX (by omega) (by omega) hj (by omega)]
theorem qrX {k total:Nat} (hk:k <= total) (ht:total <= 255):qy ((qb1 total k).take (k * k)):=qzd (qmr (by omega) (by omega))
theorem q5h {k total:Nat} (hk:k <= total) (ht:total <= 255):(qcz k total).2.2 = k :=
 qvb (qys hk) (qrX hk ht) fun y hy=>qqb (qeS (by omega)) fun i hi=>by
  rw [<- hy i hi]
  exact ql fun j hj=>by rw [qxT hk ht hi hj]
theorem qyy {k total:Nat} (hk:k <= total) (ht:total <= 255):Two k k k (qcz k total).1 (qcz k total).2.1/\Ech k (k + k) (qZ k k ((qb1 total k).take (k * k)) (qa9 k k)) (qZ k k (qcz k total).1 (qcz k total).2.1) k k:=by
 have h:=qmE (qys hk) (qrX hk ht)
 have hr:=q5h hk ht
 unfold qcz at hr ⊢
 rw [hr] at h
 exact h

theorem qnc {a b:List Int} {ra ca cb:Nat} (hb:b.length = ca * cb) (ha:qy a) (hbb:qy b) (hca:0 < ca):∀ t,t <= ra * ca->(qc5 a b ra ca cb t).length = ra * cb/\qy (qc5 a b ra ca cb t) /\
  ∀ i j,i < ra->j < cb->q6 cb (qc5 a b ra ca cb t) i j = qx (fun l=>if i * ca + l < t then qi (q6 ca a i l) (q6 cb b l j) else 0) ca
 | 0,_=>⟨by simp [qc5],fun x hx=>by rw [qc5] at hx; rw [List.eq_of_mem_replicate hx]; exact ⟨by omega,by omega⟩,fun i j hi hj=>by
   rw [qcI fun l _=>if_neg (by omega),q6,qc5,List.getD_eq_getElem?_getD,List.getElem?_replicate,if_pos (qf4 hi hj)]; rfl⟩
 | t + 1,ht=>by
  obtain ⟨h1,h2,h3⟩:=qnc (ra:=ra) hb ha hbb hca t (by omega)
  have hti:t / ca < ra:=Nat.div_lt_of_lt_mul (by rw [Nat.mul_comm]; omega)
  have htl:=Nat.mod_lt t hca
  have htd:=Nat.div_add_mod t ca
  rw [qc5]
  refine ⟨by rw [qcD,h1],qey h2,fun i j hi hj=>?_⟩
  have hlt:=qf4 hi hj
  have hsl:(seg b (t % ca * cb) cb).length = cb:=qf8 (by rw [hb]; exact qpd htl)
  have hL:q6 cb (qag (qc5 a b ra ca cb t) (t / ca * cb) (seg b (t % ca * cb) cb) (a.getD t 0)) i j = if i = t / ca then q6 cb (qc5 a b ra ca cb t) i j ^^^ qi (toF (a.getD t 0)) (q6 cb b (t % ca) j) else q6 cb (qc5 a b ra ca cb t) i j:=by
   unfold q6
   rw [List.getD_eq_getElem?_getD,qbH,List.getElem?_eq_getElem (by omega),Option.map_some,Option.getD_some,hsl]
   by_cases he:i = t / ca
   ·subst he
    rw [if_pos ⟨by omega,by omega⟩,if_pos rfl,show t / ca * cb + j - t / ca * cb = j by omega]
    have hs:(seg b (t % ca * cb) cb).getD j 0 = b.getD (t % ca * cb + j) 0:=by
     rw [List.getD_eq_getElem?_getD,qfx,if_pos hj,List.getD_eq_getElem?_getD]
    rw [hs,qk1,qhR (qaL ha _) (qaL hbb _),List.getD_eq_getElem?_getD (l:=qc5 a b ra ca cb t),List.getElem?_eq_getElem (by omega),Option.getD_some]
   ·rw [if_neg (fun h=>he ((qvI hj).1 h)),if_neg he,List.getD_eq_getElem?_getD,List.getElem?_eq_getElem (by omega),Option.getD_some]
  rw [hL,h3 i j hi hj]
  by_cases he:i = t / ca
  ·have hit:i * ca + t % ca = t:=by rw [he,Nat.mul_comm]; exact htd
   rw [if_pos he]
   have hat:toF (a.getD t 0) = q6 ca a i (t % ca):=by rw [q6,hit]
   have h4:qi (toF (a.getD t 0)) (q6 cb b (t % ca) j) = qx (fun l=>if l = t % ca then qi (q6 ca a i l) (q6 cb b l j) else 0) ca:=by
    rw [qie htl fun l _ hl=>if_neg hl,if_pos rfl,hat]
   rw [h4,<- qg5]
   refine ql fun l hl=>?_
   by_cases hlt:l = t % ca
   ·subst hlt; rw [if_neg (by omega),if_pos rfl,if_pos (by omega),qav]
   ·rw [if_neg hlt,qae]
    by_cases h5:i * ca + l < t
    ·rw [if_pos h5,if_pos (by omega)]
    ·rw [if_neg h5,if_neg (by omega)]
  ·rw [if_neg he]
   refine ql fun l hl=>?_
   have hne:i * ca + l ≠ t:=fun h=>he (by rw [<- h]; exact (qjc hl).1.symm)
   by_cases h5:i * ca + l < t
   ·rw [if_pos h5,if_pos (by omega)]
   ·rw [if_neg h5,if_neg (by omega)]
theorem qzx {a b:List Int} {ra ca cb:Nat} (hb:b.length = ca * cb) (ha:qy a) (hbb:qy b) (hca:0 < ca):(qmJ a b ra ca cb).length = ra * cb/\qy (qmJ a b ra ca cb) /\
  ∀ i j,i < ra->j < cb->q6 cb (qmJ a b ra ca cb) i j = qx (fun l=>qi (q6 ca a i l) (q6 cb b l j)) ca:=by
 obtain ⟨h1,h2,h3⟩:=qnc (ra:=ra) hb ha hbb hca (ra * ca) (Nat.le_refl _)
 refine ⟨h1,h2,fun i j hi hj=>?_⟩
 rw [qmJ,h3 i j hi hj]
 exact ql fun l hl=>if_pos (qf4 hi hl)

theorem qfC {k total:Nat} (h1:1 <= k) (hk:k <= total) (ht:total <= 255):(qdi k total).length = total * k/\qy (qdi k total) /\
  (∀ i j,i < total->j < k->q6 k (qdi k total) i j = qx (fun l=>qi (qaI (xsF i) l) (q6 k (qcz k total).2.1 l j)) k) /\
  ∀ i j,i < total->j < k->q6 k (qdi k total) i j = qgj k xsF (xsF i) j:=by
 obtain ⟨t2,he⟩:=qyy hk ht
 obtain ⟨p1,p2,p3⟩:=qzx (ra:=total) t2.lb (qmr (r:=total) (c:=k) (by omega) (by omega)) t2.bb (by omega)
 have hg:∀ i j,i < total->j < k->q6 k (qdi k total) i j = qx (fun l=>qi (qaI (xsF i) l) (q6 k (qcz k total).2.1 l j)) k:=fun i j hi hj=>by
  rw [qdi,p3 i j hi hj]
  exact ql fun l hl=>by rw [qpX (by omega) hi hl (by omega)]
 refine ⟨p1,p2,hg,fun i j hi hj=>?_⟩
 obtain ⟨_,m2⟩:=qrz he
 have hp:∀ x,q9 k (fun l=>q6 k (qcz k total).2.1 l j) x = qx (fun l=>qi (qaI x l) (q6 k (qcz k total).2.1 l j)) k:=fun x=>ql fun l _=>qaf
 rw [hg i j hi hj,<- hp,qkI (qeS (n:=k) (by omega))]
 rw [ql (g:=fun m=>qi (qgj k xsF (xsF i) m) (del m j)) fun m hm=>?_,qhc hj]
 rw [hp,<- m2 m j hm hj]
 congr 1
 exact ql fun l hl=>by rw [qxT hk ht hm hl]
theorem qmm {g full:List Int} {k l i:Nat} (hg:qy g) (hf:qy full) (hl:full.length = k * l):∀ j,j <= k->(qcq g full k l i j).length = l/\qy (qcq g full k l i j) /\
  ∀ c,c < l->toF ((qcq g full k l i j).getD c 0) = qx (fun m=>qi (q6 k g i m) (toF (full.getD (m * l + c) 0))) j
 | 0,_=>⟨by simp [qcq],fun x hx=>by rw [qcq] at hx; rw [List.eq_of_mem_replicate hx]; exact ⟨by omega,by omega⟩,fun c hc=>by
   rw [qcq,List.getD_eq_getElem?_getD,List.getElem?_replicate,if_pos hc]; rfl⟩
 | j + 1,hj=>by
  obtain ⟨h1,h2,h3⟩:=qmm hg hf hl (i:=i) j (by omega)
  have hsl:(seg full (j * l) l).length = l:=qf8 (by rw [hl]; exact qpd (by omega))
  rw [qcq]
  refine ⟨by rw [qcD,h1],qey h2,fun c hc=>?_⟩
  rw [List.getD_eq_getElem?_getD,qbH,List.getElem?_eq_getElem (by omega),Option.map_some,Option.getD_some,hsl,if_pos ⟨by omega,by omega⟩,Nat.sub_zero]
  have hs:(seg full (j * l) l).getD c 0 = full.getD (j * l + c) 0:=by
   rw [List.getD_eq_getElem?_getD,qfx,if_pos hc,List.getD_eq_getElem?_getD]
  rw [hs,qk1,qhR (qaL hg _) (qaL hf _),qx,<- h3 c hc,List.getD_eq_getElem?_getD (l:=qcq g full k l i j),List.getElem?_eq_getElem (by omega),Option.getD_some]
  rfl
theorem q0X {data:List Int} {n:Nat} (hb:qy data) (hn:data.length <= n):(qiK data n).length = n/\qy (qiK data n):=by
 refine ⟨by simp [qiK]; omega,fun x hx=>?_⟩
 rcases List.mem_append.1 hx with hx | hx
 ·exact hb x hx
 ·rw [List.eq_of_mem_replicate hx]; exact ⟨by omega,by omega⟩
theorem q4M {data:List Int} {n i:Nat}:(qiK data n).getD i 0 = data.getD i 0:=by
 rw [List.getD_eq_getElem?_getD,List.getD_eq_getElem?_getD,qiK]
 by_cases h:i < data.length
 ·rw [List.getElem?_append_left h]
 ·rw [List.getElem?_append_right (by omega),List.getElem?_eq_none (l:=data) (by omega),List.getElem?_replicate]
  split <;> rfl
theorem q2M {k total:Nat} {data:List Int} (h1:1 <= k) (hk:k <= total) (ht:total <= 255) (hb:qy data) (i:Nat):(qdT k total data i).length = qF k data.length/\qy (qdT k total data i) /\
  ∀ c,c < qF k data.length->toF ((qdT k total data i).getD c 0) = qx (fun m=>qi (q6 k (qdi k total) i m) (toF (data.getD (m * qF k data.length + c) 0))) k:=by
 obtain ⟨g1,g2,_,_⟩:=qfC h1 hk ht
 obtain ⟨f1,f2⟩:=q0X hb (n:=k * qF k data.length) (qt6 (by omega))
 obtain ⟨p1,p2,p3⟩:=qmm (i:=i) g2 f2 f1 k (Nat.le_refl _)
 refine ⟨p1,p2,fun c hc=>?_⟩
 rw [qdT,p3 c hc]
 exact ql fun m _=>by rw [q4M]
end Go.Proofs

set_option linter.unusedSimpArgs false
set_option linter.unusedVariables false
namespace Go.Eng
open Go
end Go.Eng
namespace Go.Proofs
open Go Go.Eng
theorem qtp {a b:List Int} (hl:a.length = b.length) (h:∀ i,i < a.length->a.getD i 0 = b.getD i 0):a = b:=by
 apply List.ext_getElem hl
 intro i h1 h2
 have:=h i h1
 rwa [List.getD_eq_getElem?_getD,List.getElem?_eq_getElem h1,List.getD_eq_getElem?_getD,List.getElem?_eq_getElem h2] at this
end Go.Proofs

set_option linter.unusedSimpArgs false
set_option linter.unusedVariables false
namespace Go.Eng
open Go Go.Proofs

def qgm (m:List Int) (cols:Nat) (rs:List Int):List Int:=rs.flatMap fun r=>seg m (r.toNat * cols) cols
def qlB (xs:List Int) (x:Int):List Int:=(List.range xs.length).map fun i=>ofF (qgj xs.length (fun m=>toF (xs.getD m 0)) (toF x) i)
end Go.Eng

set_option linter.unusedSimpArgs false
set_option linter.unusedVariables false
set_option maxRecDepth 100000
namespace Go.Proofs
open Go Go.Eng

end Go.Proofs

set_option linter.unusedSimpArgs false
set_option linter.unusedVariables false
namespace Go.Proofs
open Go Go.Eng

end Go.Proofs

set_option linter.unusedSimpArgs false
set_option linter.unusedVariables false
namespace Go.Proofs
open Go Go.Eng
theorem qtA {m:List Int} {c r:Nat} (hm:r * c <= m.length):∀ {rs:List Int},(∀ x ∈ rs,0 <= x/\x < (r:Int))->(qgm m c rs).length = rs.length * c
 | [],_=>by simp [qgm]
 | x :: rs,h=>by
  have ih:=qtA hm (rs:=rs) fun y hy=>h y (List.mem_cons_of_mem _ hy)
  have hx:=h x (List.mem_cons_self ..)
  have:=qpd (ca:=c) (show x.toNat < r by omega)
  rw [qgm,List.flatMap_cons,List.length_append,qf8 (by omega),show (rs.flatMap fun r=>seg m (r.toNat * c) c) = qgm m c rs from rfl,ih,List.length_cons,Nat.add_mul]; omega
theorem qv6 {l:List Int} {n:Nat} (h:n < l.length):l.getD n 0 ∈ l:=by
 rw [List.getD_eq_getElem?_getD,List.getElem?_eq_getElem h]; exact List.getElem_mem h
end Go.Proofs
