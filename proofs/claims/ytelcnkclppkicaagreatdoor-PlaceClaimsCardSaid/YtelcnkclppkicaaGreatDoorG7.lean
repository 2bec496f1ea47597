/- Texts ZW, ZX, DS, DT, BT, BU, BV, BW, BX, BY, CA, CB, CC, CD, CE, CF, CG, CH, CI, CK, YA, CL, CM, ZLq, YF, W1, W2, W3, WD, CN, CO, YB, ZSq, YC, CP, W4, WC, YD, YE, YG, YK, W5, W6, YM, YR, CQ, CR, YS, W7, YU, YV, YW, CS, W9, V3, VT, VZ, VW, CT, CW, V4, VM, VU, WF, VV, WA, WE, VX, VY, WG, WH, WI, WN, CV, CX, WO, WQ, CY, E13, E14, FD, FE, FF, FG, FH, FI, FJ, PF, PH, PL. -/
import Derived.Test.YtelcnkclppkicaaGreatDoorG6
import Derived.Test.YtelcnkclppkicaaGreatDoorG4
import Derived.Test.YtelcnkclppkicaaGreatDoorG1
import Derived.Test.YtelcnkclppkicaaGreatDoorG5
import Derived.Test.YtelcnkclppkicaaGreatDoorProg
import Derived.WalkKit
import Derived.ProofKit
import Derived.OpenShut
import Derived.Carry
import Derived.SizedLaws
set_option linter.unusedSimpArgs false
set_option linter.unusedVariables false
namespace Go.Proofs
open Go Go.Eng
theorem q7C:qzA.ok Tryz.prog:=Ctr.ok_less q5O rfl rfl rfl rfl rfl (fun _ h=>h.1) fun Z Z' ai al hp hag hal hpost=>by
 match ai,hal with
 | 0,hal =>
  exfalso
  obtain rfl:=jaz hal
  obtain ⟨_,h2⟩:_/\(qaD ((Z'.upto 5) 2).i ((Z'.upto 5) 3).i = true->(qbX ((Z'.upto 5) 2).i.toNat ((Z'.upto 5) 3).i.toNat).2.2 < ((Z'.upto 5) 2).i.toNat):=hpost
  have e2:(Z'.upto 5) 2 = Z 2:=by rw [Env.upto,jah (by omega)]; exact hag 2 (by decide)
  have e3:(Z'.upto 5) 3 = Z 3:=by rw [Env.upto,jah (by omega)]; exact hag 3 (by decide)
  rw [e2,e3] at h2
  obtain ⟨_,p2,p3⟩:=hp
  have:=h2 p2
  omega
 | 1,hal=>exact ⟨0,hal⟩
 | n + 2,hal=>cases hal
theorem qn5 {k n:Nat} (hk:0 < k):n <= k * qF k n:=by
 unfold qF
 have h1:=jdg (n + k - 1) k
 have h2:=jd6 (n + k - 1) hk
 omega
theorem qnh {k n:Nat} (hk:0 < k):k * qF k n < n + k:=by
 unfold qF
 have h1:=jdg (n + k - 1) k
 omega
theorem qmZ {k n:Nat} (hk:0 < k):qF k n <= n:=by
 have h:=qnh (n:=n) hk
 by_cases h2:qF k n <= n
 ·exact h2
 ·have h3:k * (n + 1) <= k * qF k n:=jek k (by omega)
  rw [Nat.mul_add,je0] at h3
  have h4:n * 1 <= k * n:=by rw [jcf k n]; exact jek n hk
  omega
theorem qsV {k:Int} {n:Nat} (hk:1 <= k):((n:Int) + k - 1).tdiv k = (qF k.toNat n:Nat):=by
 rw [jeh (by omega),qF,Int.natCast_ediv]
 congr 1 <;> omega
theorem q1p {d x:qf} (h:x.length <= d.length):bI (qb0 d 0 x) = bI x ++ (bI d).drop x.length:=by
 simp [qb0,bI,jeg]
theorem qwj {d x:qf} (hd:q6 d) (hx:q6 x):q6 (qb0 d 0 x):=fun r hr=>by
 unfold qb0 at hr
 rcases jas.1 hr with hr | hr
 ·rcases jas.1 hr with hr | hr
  ·simp at hr
  ·exact hx r hr
 ·exact hd r (jcm hr)
theorem q3p {k total len lg cg:Int} {f dg data D:qf} (hf:qx f) (hs:qaD k total = true) (h1:len <= 8192) (h2:len = data.length) (hB:q6 data) (hM:qV total k lg cg dg) (hG:bI dg = qcG k.toNat total.toNat) (hD:D = List.replicate total.toNat [.int .i64 0,.slice none 0 0]) :
  qog k total len (qF k.toNat data.length:Nat) (k * (qF k.toNat data.length:Nat)) (k * (qF k.toNat data.length:Nat)) lg cg 0 f dg (qb0 (List.replicate (k * (qF k.toNat data.length:Nat)).toNat [.int .u8 0]) 0 data) D data:=by
 obtain ⟨k1,k2,k3⟩:=qjE.1 hs
 have hge:=qn5 (k:=k.toNat) (n:=data.length) (by omega)
 have hle:=qmZ (k:=k.toNat) (n:=data.length) (by omega)
 have hc:(k * (qF k.toNat data.length:Nat)).toNat = k.toNat * qF k.toNat data.length:=by rw [jb8 (by omega) (by omega)]; simp
 have hc0:0 <= k * (qF k.toNat data.length:Nat):=jfk (by omega) (by omega)
 refine ⟨hf,hs,h1,h2,hB,rfl,by omega,rfl,?_,qwj qhG hB,?_,hM,hG,by rw [hD,ja4],fun row hr=>by rw [hD] at hr; rw [jc1 hr]; rfl,by omega,by omega⟩
 ·rw [qnp (by rw [ja4]; omega),ja4]; omega
 ·rw [q1p (by rw [ja4]; omega),qlS,hc,qio,bI_len,List.drop_replicate]; simp
theorem q0K {k total len l lf cf lg cg i:Int} {f dg df D data:qf} {v w:Value} (h:qog k total len l lf cf lg cg i f dg df D data) (hi:i < total):qog k total len l lf cf lg cg (i + 1) f dg df (qbK D i 0 [v,w]) data:=by
 obtain ⟨a1,a2,a3,a4,a5,a6,a7,a8,a9,a10,a11,a12,a13,a14,a17,a15,a16⟩:=h
 refine ⟨a1,a2,a3,a4,a5,a6,a7,a8,a9,a10,a11,a12,a13,by rw [qeB]; exact a14,fun row hr=>?_,by omega,by omega⟩
 unfold qbK at hr
 rcases jdb hr with hr | rfl
 ·exact a17 row hr
 ·have hl:i.toNat < D.length:=by omega
  have:=a17 _ (jbz hl)
  rw [jac hl,ja2,qkV (by rw [this]; simp),this]
theorem q8h {k total len l lf cf lg cg i:Int} {f f' dg df D data:qf} (h:qog k total len l lf cf lg cg i f dg df D data) (hf:qx f'):qog k total len l lf cf lg cg i f' dg df D data:=⟨hf,h.2⟩
theorem qkd {h h':Hp} {D:qf} {n:Nat} {f:Nat->List Int} (he:qff h D n f) (hl:Hp.le h h'):qff h' D n f:=fun j hj=>by
 obtain ⟨v,d,e1,e2,e3⟩:=he j hj
 exact ⟨v,d,e1,qiY e2 hl,e3⟩
theorem qzS {h h':Hp} {D:qf} {i:Int} {f:Nat->List Int} {v:Value} {d:qf} (he:qff h D i.toNat f) (hl:Hp.le h h') (h0:0 <= i) (hi:i.toNat < D.length) (hc:(D[i.toNat]?.getD []).length = 2) (hr:Rd h' kB v d) (hd:bI d = f i.toNat) (hB:q6 d) :
  qff h' (qbK D i 0 [.int .i64 i,v]) (i.toNat + 1) f:=fun j hj=>by
 by_cases hji:j = i.toNat
 ·subst hji
  refine ⟨v,d,?_,hr,hd,hB⟩
  have hs:qa3 (D[i.toNat]?.getD []) 0 [.int .i64 i,v] = [.int .i64 i,v]:=by
   simp only [qa3,List.take_zero,jdv]
   rw [jez (by rw [hc]; exact ja1 _),jcl]
  rw [qbK,List.getElem?_set_self hi,hs,ja6 h0]
 ·obtain ⟨v',d',e1,e2,e3⟩:=he j (by omega)
  exact ⟨v',d',by rw [qbK,List.getElem?_set_ne (by omega)]; exact e1,qiY e2 hl,e3⟩
set_option maxRecDepth 20000 in
set_option pp.deepTerms true in
set_option pp.maxSteps 1000000 in
theorem qxi:qgB.ok Tryz.prog:=qwT (by simp [qpB,qpY,q7C,qnV,qoo]) fun Z hg hp=>by
 obtain ⟨hf,hl,hB,hrk⟩:=hp
 have hne:=(qbR hf).1
 simp (config:={ maxSteps:=4000000 }) [qoW,qgB,qsE,qrX,qe9,qe7,qzA,qje,qfA,qeZ]
 refine ⟨fun h=>(hne h).elim,fun _ v _ hv=>⟨fun hb=>⟨hf,by rw [<- hv]; exact hb⟩,fun hb=>?_⟩⟩
 have hsz:qaD (Z 2).i (Z 3).i = true:=by rw [<- hv]; exact hb
 obtain ⟨k1,k2,k3⟩:=qjE.1 hsz
 refine ⟨by omega,fun h=>⟨hf,hsz,h⟩,fun hle l _ e _ _ hpl=>?_⟩
 have hnb:¬ qe4 (Z 2).i (Z 5).i:=by unfold qe4; omega
 obtain ⟨hpl1,_⟩:=hpl hnb
 rw [hl,qsV k1] at hpl1
 have hge:=qn5 (k:=(Z 2).i.toNat) (n:=(Z 7).d.length) (by omega)
 have hlt:=qnh (k:=(Z 2).i.toNat) (n:=(Z 7).d.length) (by omega)
 have hkl:(Z 2).i * l.i = (((Z 2).i.toNat * qF (Z 2).i.toNat (Z 7).d.length:Nat):Int):=by rw [hpl1,jdt,ja6 (by omega)]
 rw [qch (by omega) (by omega)]
 have hmax:max ((Z 2).i * l.i) 0 = (Z 2).i * l.i:=by omega
 refine ⟨by omega,by omega,fun u3 _=>⟨by omega,by omega,fun u4 _=>⟨⟨hf,hsz,hrk hsz⟩,fun u5 _ lg _ cg _ f1 _ dg _ ab _ hf1 _ hM _ hG u11 _=>⟨by omega,by omega,fun u12 _=>⟨⟨?_,fun j hj=>by omega⟩,?_⟩⟩⟩⟩⟩
 ·have htake:(((Z 7).d.take (Z 5).i.toNat).take (if (Z 5).i < (Z 2).i * l.i then (Z 5).i else (Z 2).i * l.i).toNat) = (Z 7).d:=by
   rw [ja3 (l:=(Z 7).d) (by omega),ja3 (by split <;> omega)]
  rw [htake,hpl1]
  exact q3p hf1 hsz hle hl hB hM hG rfl
 intro l2 _ u14 _ lf _ cf _ u17 _ u18 _ u19 _ i _ f2 _ u22 _ lg2 _ cg2 _ dg2 _ df2 _ D2 _ ab2 _ hW hE
 refine ⟨fun hi=>?_,fun hi u29 _ hst=>?_⟩
 ·have hW':=hW
  obtain ⟨a1,a2,a3,a4,a5,a6,a7,a8,a9,a10,a11,a12,a13,a14,a17,a15,a16⟩:=hW'
  refine ⟨by omega,by omega,fun u29 _=>⟨⟨a15,hi,a12.1⟩,fun o _ n _ c _ ho hn hc=>⟨by omega,⟨hW,hE,hi,ho,hn,by omega,qhG,?_⟩,?_⟩⟩⟩
  ·rw [qlS]; rfl
  intro l3 _ u34 _ lf3 _ cf3 _ u37 _ u38 _ u39 _ i3 _ f3 _ u42 _ lg3 _ cg3 _ dg3 _ df3 _ D3 _ ab3 _ rp _ cp _ pd _ o3 _ n3 _ c3 _ j _ hW3 hE3 hii hi3 ho3 hn3 j0 j1 hpl hpB hp3
  have hW3':=hW3
  obtain ⟨b1,b2,b3,b4,b5,b6,b7,b8,b9,b10,b11,b12,b13,b14,b17,b15,b16⟩:=hW3'
  obtain ⟨⟨m1,m2,m3,m4,m5,m6,m7,m8⟩,m9⟩:=b12
  have hl0:0 <= l3.i:=by omega
  refine ⟨fun hj=>?_,fun hj=>?_⟩
  ·have hjk:j.i < (Z 2).i:=by omega
   have hbo:=qap (x:=i3.i) (y:=(Z 2).i) b15 (show i3.i <= 255 by omega) (by omega) (show (Z 2).i <= 255 by omega)
   have hbj:=qap (x:=j.i) (y:=l3.i) j0 (show j.i <= 255 by omega) hl0 b7
   have hltG:i3.i * (Z 2).i + j.i < (Z 3).i * (Z 2).i:=by
    have:=ja9 (show i3.i + 1 <= (Z 3).i by omega) (show 0 <= (Z 2).i by omega)
    rw [jct,jcu] at this; omega
   have he:(j.i + 1) * l3.i = j.i * l3.i + l3.i:=by rw [jct,jcu]
   have hltF:j.i * l3.i + l3.i <= (Z 2).i * l3.i:=by
    have:=ja9 (show j.i + 1 <= (Z 2).i by omega) hl0
    omega
   have hcell:=qcP m8 (i:=o3.i + j.i) (by omega) (by omega)
   rw [add64 (by omega) (by omega),qch (by omega) (by omega),qch (by omega) (by omega),he]
   refine ⟨j0,by omega,by omega,by omega,fun hcap=>⟨by omega,by omega,hbj.1,by omega,by omega,⟨b1,⟨by omega,hl0,by omega,by unfold Go.Eng.big; omega⟩,⟨by split <;> omega,by omega,by split <;> omega,by unfold Go.Eng.big; omega⟩,by omega,hpB,b10,hcell⟩,fun f4 _ d4 _ hf4 hl4 hB4 he4=>?_⟩⟩
   refine ⟨⟨q8h hW3 hf4,hE3,hii,hi3,ho3,hn3,by omega,by omega,by omega,hB4,?_⟩,by omega⟩
   have hsg:seg (bI df3.d) (if cf3.i = j.i * l3.i then 0 else j.i * l3.i).toNat (j.i * l3.i + l3.i - j.i * l3.i).toNat = seg (bI df3.d) (j.i.toNat * l3.i.toNat) l3.i.toNat:=by
    rw [show j.i * l3.i + l3.i - j.i * l3.i = l3.i by omega]
    split
    ·have:l3.i.toNat = 0:=by omega
     rw [this]; simp [seg]
    ·rw [jb8 j0 hl0]
   have hgd:(bI dg3.d).getD (i3.i.toNat * (Z 2).i.toNat + j.i.toNat) 0 = qb dg3.d (o3.i + j.i) 0:=by
    have:=qfu (d:=dg3.d) (i:=o3.i + j.i) (by omega) (by omega)
    rw [show (o3.i + j.i).toNat = i3.i.toNat * (Z 2).i.toNat + j.i.toNat by rw [ho3,je2 hbo.1 j0,jb8 b15 (by omega)]] at this
    rw [jad,this]; rfl
   rw [he4,hp3,hsg,show (j.i + 1).toNat = j.i.toNat + 1 by omega,qcb,hgd]
  ·have hjk:j.i = (Z 2).i:=by omega
   refine ⟨b15,hi3,by omega,fun u56 _ hst=>?_⟩
   rw [add64 (by omega) (by omega)]
   refine ⟨⟨q0K hW3 hi3,?_⟩,by omega⟩
   obtain ⟨ha,la,da⟩:=qkt hst (jae ..)
   obtain ⟨hb,lb,db⟩:=qcf hst (n:=57) (t:=2) (by simp)
   have hr:=q1U (n:=l3.i.toNat) (k:=cp.i.toNat) da la (by simp; omega) (by simp)
   have hr:Rd u56.h kB (.slice (qm rp.r 0) l3.i.toNat cp.i.toNat) pd.d:=by simpa [kB] using hr
   have hdl:i3.i.toNat < D3.d.length:=by omega
   rw [show (i3.i + 1).toNat = i3.i.toNat + 1 by omega]
   refine qzS hE3 (Hp.le_trans (by simpa using db) lb) b15 hdl (by rw [jac hdl]; exact b17 _ (jbz hdl)) hr ?_ hpB
   rw [hp3,qdt,hjk,b13,b11,bI_len]
   rw [show l3.i.toNat = qF (Z 2).i.toNat (Z 7).d.length by omega]
 ·obtain ⟨a1,a2,a3,a4,a5,a6,a7,a8,a9,a10,a11,a12,a13,a14,a17,a15,a16⟩:=hW
  obtain ⟨hb,lb,db⟩:=qcf hst (n:=37) (t:=2) (by simp)
  refine ⟨a1,hsz,hle,a14,?_⟩
  rw [show i.i.toNat = (Z 3).i.toNat by omega] at hE
  exact qkd hE (Hp.le_trans (by simpa using db) lb)
theorem qss:qfM.ok Tryz.prog:=q1Q (by simp) fun Z hg hp=>by
 simp [qvN,qfM]
 refine ⟨fun h1=>⟨fun h2=>⟨fun h3=>?_,fun h3=>?_⟩,fun h2=>?_⟩,fun h1=>?_⟩
 ·simp [qbm,h1,h2,h3,qL]
 ·simp [qbm]; omega
 ·simp [qbm]; omega
 ·simp [qbm]; omega
set_option maxRecDepth 20000 in
theorem qrM:qfF.ok Tryz.prog:=q1r (by simp [qss]) fun Z hg hp=>by
 have hp:0 <= (Z 6).i:=hp
 simp [quH,qfF,qfM,qJ,qod,qiH,qaF]
 refine fun u _ hu=>⟨fun h hs=>by (rw [hu,hs] at h; cases h),fun h=>⟨fun a _ b=>by omega,fun a=>⟨fun b _ _ c=>by omega,fun b=>⟨hp,fun c _ _ _=>c,fun c=>⟨by rw [<- hu,h],a,b,c⟩⟩⟩⟩⟩
theorem qAb {x:Int}:qe .shr .i64 x 8 = x.fdiv 256:=rfl
set_option maxRecDepth 20000 in
theorem qpC:qeC.ok Tryz.prog:=q0D (by simp [qpa,qv7,q1K]) fun Z hg hp=>by
 obtain ⟨o0,l0,lc,l1,hle,hB,hGr,hGd⟩:=hp
 simp (config:={ maxSteps:=2000000 }) [qrG,qeC,qe3,qh6,qnP,gOk]
 have hseg:qaG [[.int .u8 (IntKind.u8.wrap (qe .shr .i64 (Z 0).i 8))],[.int .u8 (IntKind.u8.wrap (Z 0).i)]] 0 2 = qbV (Z 0).i:=by
  rw [qAb,qgv,qgv]; rfl
 refine fun h _ hh=>⟨⟨⟨[],hh,by decide⟩,?_,hGr,hGd⟩,fun g _ hg1=>?_⟩
 ·intro row hr
  simp at hr
  rcases hr with rfl | rfl
  ·simp [qaJ,qS,qgv]; omega
  ·simp [qaJ,qS,qgv]; omega
 ·rw [hseg] at hg1
  have h1:=hg1 [] hh
  refine ⟨⟨⟨_,h1,by simp [qbV]⟩,o0,l0,lc,by omega,hle,hB,hGr,hGd⟩,fun k _ hk=>⟨⟨⟨_,hk _ h1,?_⟩,hGr,hGd⟩,fun d _ hd=>?_⟩⟩
  ·have:(qaG (Z 5).d (Z 2).i (Z 3).i).length <= (Z 3).i.toNat:=by simp [qaG]; omega
   simp [qbV]; omega
  ·exact (show qd _ 32 = qd d.d 32 from rfl).trans (hd _ (hk _ h1))
theorem qeF {lim:Int} {b:Bool} {x m s:List Int} (h:(b,x) = qf0 lim false m s) (hf:(m.length:Int) + s.length <= lim):b = false/\x = m ++ s:=by
 rw [qjW (by simp [qgh]; omega)] at h
 simpa using h
theorem q8V {x:Int}:IntKind.u16.wrap x = x % 65536:=by simp [IntKind.wrap,IntKind.bits,IntKind.signed]
theorem q7T {d:qf} {i:Nat} (h:i < d.length):qd [qdk (qb d i)] 32 = qgN d[i]:=by
 refine jbt fun j hj=>?_
 rw [qiD (jb5.1 hj)]
 simp [qb,qG,qaJ,h]
theorem quu {d:qf} {i:Nat} (h:i < d.length):((dgs d).take (i + 1)).flatten = ((dgs d).take i).flatten ++ qgN d[i]:=by
 rw [jd9,jac (by simpa [dgs] using h)]
 simp [dgs]
set_option maxRecDepth 20000 in
set_option maxHeartbeats 800000 in
theorem q0Q:qj5.ok Tryz.prog:=q1D (by simp [qrM,quG,q9E,q7Y,q7B,q5t,q5o]) fun Z hg hp=>by
 obtain ⟨l0,hl,ho,hd⟩:=hp
 simp (config:={ maxSteps:=2000000 }) [qv4,qj5,qy0,qfF,qfj,u8C,qv0,qqv,qoI,qlT,qlr,qbO,qae,qgo]
 refine ⟨l0,fun e _ he=>⟨fun hne=>?_,fun hz lim _ hlim=>?_⟩⟩
 ·by_cases h:qJ (Z 0).i (Z 1).i (Z 2).i (Z 3).i (Z 6).i = true
  ·rw [jah h] at he; exact absurd he hne
  ·rw [jaf h] at he; exact ⟨he.symm,by simpa using h⟩
 ·have hok:qJ (Z 0).i (Z 1).i (Z 2).i (Z 3).i (Z 6).i = true:=by
   by_cases h:qJ (Z 0).i (Z 1).i (Z 2).i (Z 3).i (Z 6).i = true
   ·exact h
   ·rw [jaf h] at he; omega
  have hb:=hok
  simp [qJ,qbm] at hb
  obtain ⟨⟨b1,b2,b3,b4⟩,b5,b6,b7⟩:=hb
  have hl2:lim.i = 39 + 32 * (Z 2).i:=by
   rw [hlim,qch (by omega) (by omega),add64 (by omega) (by omega)]; omega
  clear hlim
  simp only [qgv,q8V]
  have hman:List.drop 4 (qd [([.int .i64 (Z 0).i,.int .i64 (Z 1).i,.int .i64 (Z 2).i,.int .i64 (Z 3).i] ++ (qdk (qa (Z 4).d) ++ [.slice (qm (Z 5).r 0) (Z 6).i.toNat (Z 7).i.toNat]):List Value)] 36) = qd (Z 4).d 32:=rfl
  have hone:qC [([.int .i64 (Z 0).i,.int .i64 (Z 1).i,.int .i64 (Z 2).i,.int .i64 (Z 3).i] ++ (qdk (qa (Z 4).d) ++ [.slice (qm (Z 5).r 0) (Z 6).i.toNat (Z 7).i.toNat]):List Value)] 37:=⟨_,rfl,by simp [qdk]⟩
  have hlen:∀ {l n c:Int} {d:qf},wOk l n c d->n = ((bI d).length:Int):=fun h=>by rw [bI_len]; exact h.2.2.1
  refine ⟨⟨by omega,by omega,rfl,by omega,by intro r hr; cases hr⟩,fun f1 _ n1 _ c1 _ d1 _ w1 g1=>?_⟩
  obtain ⟨y1,x1⟩:=qeF g1 (by rw [hl2]; simp [bI,qaq]; omega)
  have L1:(bI d1.d).length = 2:=by rw [x1]; simp [bI,qaq]
  have q1:=hlen w1
  refine ⟨⟨w1,by omega,by omega,by omega⟩,fun f2 _ n2 _ c2 _ d2 _ w2 g2=>?_⟩
  rw [y1] at g2
  obtain ⟨y2,x2⟩:=qeF g2 (by rw [hl2,L1,qaq]; omega)
  have L2:(bI d2.d).length = 3:=by rw [x2,jal,L1,qaq]
  have q2:=hlen w2
  refine ⟨⟨w2,by omega,by omega,by omega⟩,fun f3 _ n3 _ c3 _ d3 _ w3 g3=>?_⟩
  rw [y2] at g3
  obtain ⟨y3,x3⟩:=qeF g3 (by rw [hl2,L2,qaq]; omega)
  have L3:(bI d3.d).length = 4:=by rw [x3,jal,L2,qaq]
  have q3:=hlen w3
  refine ⟨⟨w3,by omega,by omega,by omega⟩,fun f4 _ n4 _ c4 _ d4 _ w4 g4=>?_⟩
  rw [y3] at g4
  obtain ⟨y4,x4⟩:=qeF g4 (by rw [hl2,L3,qaq]; omega)
  have L4:(bI d4.d).length = 5:=by rw [x4,jal,L3,qaq]
  have q4:=hlen w4
  refine ⟨⟨w4,by omega,by omega,by omega⟩,fun f5 _ n5 _ c5 _ d5 _ w5 g5=>?_⟩
  rw [y4] at g5
  obtain ⟨y5,x5⟩:=qeF g5 (by rw [hl2,L4,qaq]; omega)
  have L5:(bI d5.d).length = 7:=by rw [x5,jal,L4,qaq]
  have q5:=hlen w5
  refine ⟨⟨w5,by omega,hone,?_⟩,fun f6 _ n6 _ c6 _ d6 _ w6 g6=>?_⟩
  ·have:=hman
   exact this ▸ ho
  have g6':(f6.b,bI d6.d) = qf0 lim.i f5.b (bI d5.d) (qd (Z 4).d 32):=g6
  rw [y5] at g6'
  obtain ⟨y6,x6⟩:=qeF g6' (by rw [hl2,L5,qcZ]; omega)
  have hhead:bI d6.d = qaM (Z 0).i (Z 1).i (Z 2).i (Z 3).i (qd (Z 4).d 32):=by
   rw [x6,x5,x4,x3,x2,x1]
   simp [qaM,bI,jbu]
  refine ⟨l0,⟨hok,l0,hl2,y6,w6,hhead⟩,fun lim2 _ f _ n _ c _ d _ t _ _ t0 t1 z1 z2 z3 z4=>⟨fun hlt=>?_,fun hge=>?_⟩⟩
  ·obtain ⟨T,hT⟩:∃ T:Nat,t.i = T:=⟨t.i.toNat,by omega⟩
   have m1:qe .add .i64 t.i 1 = ((T + 1:Nat):Int):=by rw [add64 (by omega) (by omega)]; omega
   have hTl:T < (Z 8).d.length:=by omega
   have hrow:=q7T hTl
   have hnl:n.i = 39 + 32 * t.i:=by
    have h1:=hlen z3
    rw [z4,jal] at h1
    have h2:∀ (k:Nat),k <= (Z 8).d.length->((dgs (Z 8).d).take k).flatten.length = 32 * k:=fun k=>by
     induction k with
     | zero=>intro _; simp
     | succ k ih=>intro hk; rw [quu (by omega),jal,ih (by omega)]; simp [qgN]; omega
    rw [h2 _ (by omega)] at h1
    have h3:(qaM (Z 0).i (Z 1).i (Z 2).i (Z 3).i (qd (Z 4).d 32)).length = 39:=by simp [qaM,qaq,qcZ]
    omega
   rw [hT] at z4 hnl ⊢
   rw [<- hT,m1,hT]
   refine ⟨by omega,by omega,⟨z3,by omega,⟨_,rfl,rfl⟩,?_⟩,fun f7 _ n7 _ c7 _ d7 _ w7 g7=>?_⟩
   ·have h1:qH (qgN (Z 8).d[T]):=(hd _ (jbz hTl)).2
    rw [<- hrow] at h1
    exact h1
   ·have g7':(f7.b,bI d7.d) = qf0 lim2.i f.b (bI d.d) (qd [qdk (qb (Z 8).d T)] 32):=g7
    rw [z2,hrow] at g7'
    have hbl:(qgN (Z 8).d[T]).length = 32:=by simp [qgN]
    obtain ⟨y7,x7⟩:=qeF g7' (by rw [<- hlen z3,hbl]; omega)
    refine ⟨⟨hok,by omega,by omega,z1,y7,w7,?_⟩,by omega⟩
    rw [x7,z4]
    simp only [jar]
    rw [quu hTl,jbu]
  ·have ht:t.i.toNat = (Z 8).d.length:=by omega
   rw [ht] at z4
   rw [ja3 (by simp [dgs])] at z4
   refine ⟨⟨z3,?_⟩,z2,fun e _ _ he=>⟨hok,by rw [he]; exact z3.2.2.1,by rw [he]; exact z3.2.2.2.2,by rw [he]; exact z4⟩⟩
   have:=z3.2.2.2.1
   omega
theorem qd7 (m:List Int):qH (sha m):=fun x hx=>by
 obtain ⟨j,_,rfl⟩:=jbb.1 hx
 omega
theorem qzZ {f:Nat->List Int} {n:Nat}:(qdj f n).length = n:=by simp [qdj]
theorem qpH {g full:List Int} {k l i:Nat}:∀ j,(qcb g full k l i j).length = l
 | 0=>by simp [qcb]
 | j + 1=>by rw [qcb,qcw,qpH j]
theorem q5F {k total:Nat} {data:List Int} {i:Nat}:(qdt k total data i).length = qF k data.length:=qpH k
theorem q4r {d:qf} {r:List Value}:dgs (d ++ [r]) = dgs d ++ [qgN r]:=by simp [dgs]
theorem qww {f:Nat->List Int} {n:Nat}:qdj f (n + 1) = qdj f n ++ [sha (qbV n ++ f n)]:=by simp [qdj,jel]
theorem q7U {d:qf}:qgN (qdk (qa d)) = qd d 32:=rfl
set_option maxRecDepth 20000 in
set_option maxHeartbeats 1600000 in
theorem qxG:qjS.ok Tryz.prog:=qqM (by simp [qss,qxi,qkY,qpC]) fun Z hg hp=>by
 obtain ⟨hf,hl,hlc,hB,⟨hGr,hGd⟩,htop⟩:=hp
 simp (config:={ maxSteps:=2000000 }) [q2R,qjS,q6x,qfM,qgB,qdO,qeC,gOk,qmD]
 have hnn:=qbR hf
 refine fun u _=>⟨fun h=>absurd h hnn.1,fun _ b _ hb=>⟨fun hz=>⟨hf,by rw [<- hb]; exact hz⟩,fun hz=>?_⟩⟩
 rw [hz] at hb
 have hs3:=hb.symm
 have hs3':=hs3
 simp [qbm] at hs3'
 obtain ⟨b1,b2,b3,b4⟩:=hs3'
 have hsB:qaD (Z 2).i (Z 4).i = true:=by simp [qaD]; omega
 have hsz:qaD (Z 2).i (Z 4).i = false->False:=fun h=>by rw [hsB] at h; cases h
 refine ⟨⟨hf,hl,hB,htop⟩,fun e _ f _ hf2 he=>⟨fun hne=>⟨hf2,?_⟩,fun hz2=>?_⟩,fun _ _ _ _ f _ P _ ab _ hf2 _ hle hPl hE=>⟨by omega,⟨⟨by omega,hlc,by omega,by omega,hB⟩,hGr,hGd⟩,fun o _ ho _ _=>⟨by omega,⟨hf2,hs3,hle,by omega,hPl,hE,?_,?_,?_⟩,fun _ _ _ _ _ _ o2 _ _ _ t _ _ _ Ds _ P2 _ _ _ f2 _ ab2 _ hf3 _ _ t0 t1 hPl2 hE2 ho2 hDl hDo hDm=>⟨fun hlt=>?_,fun hge=>?_⟩⟩⟩⟩
 ·rcases he with ⟨h,_⟩ | ⟨_,h1,h2⟩
  ·exact (hsz h).elim
  ·exact .inr ⟨hs3,h1,h2⟩
 ·rcases he with ⟨h,_⟩ | ⟨_,h1,h2⟩
  ·exact (hsz h).elim
  ·omega
 ·rw [qkB hl] at ho
  exact ho
 ·intro r hr; cases hr
 ·rfl
 ·obtain ⟨T,hT⟩:∃ T:Nat,t.i = T:=⟨t.i.toNat,by omega⟩
  have m1:qe .add .i64 t.i 1 = ((T + 1:Nat):Int):=by rw [add64 (by omega) (by omega)]; omega
  obtain ⟨v,d,e1,e2,e3,e4⟩:=hE2 T (by omega)
  have hcv:qG P2.d t.i 1 = v:=by rw [hT]; simp [qG,e1]
  have hci:qb P2.d t.i 0 = (T:Int):=by rw [hT]; simp [qb,qG,e1,qS]
  rw [m1,hcv,hci]
  have hdl:d.length <= (Z 8).d.length:=by
   have h1:=congrArg List.length e3
   rw [bI_len,q5F,bI_len] at h1
   have:=qmZ (k:=(Z 2).i.toNat) (n:=(Z 8).d.length) (by omega)
   omega
  refine ⟨by omega,by omega,fun _ _=>⟨d,e2,fun r0 _ c1 _ hv hcl=>⟨⟨hcl,by omega,e4,hGr,hGd⟩,fun g _ hg2 _ _=>⟨by omega,by omega,fun _ _ _ _ ab3 _ hst=>⟨by omega,⟨hf3,hs3,hle,by omega,by omega,hPl2,?_,ho2,by omega,?_,?_⟩,by omega⟩⟩⟩⟩⟩
  ·obtain ⟨hb2,lb,db⟩:=qcf hst (n:=32) (t:=2) (by simp)
   exact qkd hE2 (Hp.le_trans (by simpa using db) lb)
  ·intro r hr
   rcases jas.1 hr with hr | hr
   ·exact hDo r hr
   ·obtain rfl:=jaj.1 hr
    refine ⟨rfl,?_⟩
    have:qH (qd g.d 32):=by rw [hg2]; exact qd7 _
    exact this
  ·have hh:dgs (Ds.d ++ [qdk (qa g.d)]) = qdj (qdt (Z 2).i.toNat (Z 4).i.toNat (bI (Z 8).d)) (T + 1):=by
    rw [q4r,q7U,hg2,qkB rfl,e3,hDm,hT,jar,qww]
   exact hh
 ·have ht:t.i = (Z 4).i:=by omega
  refine fun ab3 _ hst=>⟨by omega,hf3,hs3,hle,hPl2,?_,ho2,hDo,by rw [hDm,ht]⟩
  obtain ⟨hb2,lb,db⟩:=qcf hst (n:=32) (t:=2) (by simp)
  exact qkd hE2 (Hp.le_trans (by simpa using db) lb)
end Go.Proofs
set_option maxRecDepth 100000
namespace Go.Proofs
open Go Go.Eng
set_option maxRecDepth 20000
theorem q7P {D:qf}:(dgs D).length = D.length:=by simp [dgs]
end Go.Proofs
namespace Go.Eng
open Go Go.Proofs
def q6t (Z:Env) (r:Nat):Prop:=qmo (Z r).i/\qmo (Z (r + 1)).i/\qmo (Z (r + 2)).i/\qmo (Z (r + 3)).i/\qH (qd (Z (r + 4)).d 32)/\(Z (r + 6)).i = (Z (r + 8)).d.length/\(Z (r + 6)).i <= 4398046510976/\qft (Z (r + 8)).d
def qzF (Z:Env):List Int:=qaM (Z 0).i (Z 1).i (Z 2).i (Z 3).i (qd (Z 4).d 32) ++ (dgs (Z 8).d).flatten
def qvq (Z:Env):Bool:=qJ (Z 0).i (Z 1).i (Z 2).i (Z 3).i (Z 6).i
def qzb (Z:Env):Prop:=(Z 6).i = (Z 8).d.length/\qH (qd (Z 4).d 32)/\qft (Z 8).d
def qqg:List Alt:=[
 { k:=2,ret:=.tup [(true,qaF .u8 12 32),qc3 (.var 13)],heap:=[],post:=fun Z=>(qvq Z = false/\(Z 13).i = 2/\qd (Z 12).d 32 = List.replicate 32 0)∨(qvq Z = true/\(Z 13).i = 0/\qd (Z 12).d 32 = sha (qzF Z)) }]
def idC:Ctr:={ fn := 44,nv:=12,ip:=[gIp 10,(1005,9)],args:=[qod],heap:=[],ro:=[qfn 5 8 9,gHp 10 11],pre:=fun Z=>qzb Z/\gOk Z 10 11 gR,alts:=qqg }
end Go.Eng
namespace Go.Proofs
open Go Go.Eng
set_option maxRecDepth 20000
theorem qcA {l:List (List Int)} (h:∀ x ∈ l,x.length = 32):l.flatten.length = 32 * l.length:=by
 induction l with
 | nil=>rfl
 | cons x r ih =>
  rw [jdh,jal,h x (jae ..),ih (fun y hy=>h y (jab _ hy)),jba]; omega
theorem qyc {l:List (List Int)} (h:∀ x ∈ l,x.length = 32):∀ {j:Nat} (hj:j < l.length),(l.flatten.drop (32 * j)).take 32 = l[j]:=by
 induction l with
 | nil=>intro j hj; simp at hj
 | cons x r ih =>
  intro j hj
  have hx:=h x (jae ..)
  cases j with
  | zero=>simp [List.take_left' hx]
  | succ j =>
   rw [jdh,show 32 * (j + 1) = x.length + 32 * j by omega,List.drop_length_add_append]
   exact ih (fun y hy=>h y (jab _ hy)) (by simpa using hj)
theorem q7Z {D:qf}:∀ x ∈ dgs D,x.length = 32:=fun x hx=>by
 obtain ⟨r,_,rfl⟩:=jbb.1 hx
 simp [qgN]
set_option maxRecDepth 100000
def qb8 (d:qf) (i:Int):List Int:=(List.range 32).map fun k=>qb d i k
@[simp high] theorem qAg (d:qf):qd [[.int .u8 (qa d 0),.int .u8 (qa d 1),.int .u8 (qa d 2),.int .u8 (qa d 3),.int .u8 (qa d 4),.int .u8 (qa d 5),.int .u8 (qa d 6),.int .u8 (qa d 7),.int .u8 (qa d 8),.int .u8 (qa d 9),.int .u8 (qa d 10),.int .u8 (qa d 11),.int .u8 (qa d 12),.int .u8 (qa d 13),.int .u8 (qa d 14),.int .u8 (qa d 15),.int .u8 (qa d 16),.int .u8 (qa d 17),.int .u8 (qa d 18),.int .u8 (qa d 19),.int .u8 (qa d 20),.int .u8 (qa d 21),.int .u8 (qa d 22),.int .u8 (qa d 23),.int .u8 (qa d 24),.int .u8 (qa d 25),.int .u8 (qa d 26),.int .u8 (qa d 27),.int .u8 (qa d 28),.int .u8 (qa d 29),.int .u8 (qa d 30),.int .u8 (qa d 31)]] 32 = qd d 32:=rfl
@[simp high] theorem qAi (d:qf) (i:Int):qd [[.int .u8 (qb d i 0),.int .u8 (qb d i 1),.int .u8 (qb d i 2),.int .u8 (qb d i 3),.int .u8 (qb d i 4),.int .u8 (qb d i 5),.int .u8 (qb d i 6),.int .u8 (qb d i 7),.int .u8 (qb d i 8),.int .u8 (qb d i 9),.int .u8 (qb d i 10),.int .u8 (qb d i 11),.int .u8 (qb d i 12),.int .u8 (qb d i 13),.int .u8 (qb d i 14),.int .u8 (qb d i 15),.int .u8 (qb d i 16),.int .u8 (qb d i 17),.int .u8 (qb d i 18),.int .u8 (qb d i 19),.int .u8 (qb d i 20),.int .u8 (qb d i 21),.int .u8 (qb d i 22),.int .u8 (qb d i 23),.int .u8 (qb d i 24),.int .u8 (qb d i 25),.int .u8 (qb d i 26),.int .u8 (qb d i 27),.int .u8 (qb d i 28),.int .u8 (qb d i 29),.int .u8 (qb d i 30),.int .u8 (qb d i 31)]] 32 = qb8 d i:=rfl
@[simp high] theorem qAf (d:qf):([.int .u8 (qa d 0),.int .u8 (qa d 1),.int .u8 (qa d 2),.int .u8 (qa d 3),.int .u8 (qa d 4),.int .u8 (qa d 5),.int .u8 (qa d 6),.int .u8 (qa d 7),.int .u8 (qa d 8),.int .u8 (qa d 9),.int .u8 (qa d 10),.int .u8 (qa d 11),.int .u8 (qa d 12),.int .u8 (qa d 13),.int .u8 (qa d 14),.int .u8 (qa d 15),.int .u8 (qa d 16),.int .u8 (qa d 17),.int .u8 (qa d 18),.int .u8 (qa d 19),.int .u8 (qa d 20),.int .u8 (qa d 21),.int .u8 (qa d 22),.int .u8 (qa d 23),.int .u8 (qa d 24),.int .u8 (qa d 25),.int .u8 (qa d 26),.int .u8 (qa d 27),.int .u8 (qa d 28),.int .u8 (qa d 29),.int .u8 (qa d 30),.int .u8 (qa d 31)]:List Value).map qS = qd d 32:=rfl
@[simp high] theorem qAe (d:qf) (i:Int):([.int .u8 (qb d i 0),.int .u8 (qb d i 1),.int .u8 (qb d i 2),.int .u8 (qb d i 3),.int .u8 (qb d i 4),.int .u8 (qb d i 5),.int .u8 (qb d i 6),.int .u8 (qb d i 7),.int .u8 (qb d i 8),.int .u8 (qb d i 9),.int .u8 (qb d i 10),.int .u8 (qb d i 11),.int .u8 (qb d i 12),.int .u8 (qb d i 13),.int .u8 (qb d i 14),.int .u8 (qb d i 15),.int .u8 (qb d i 16),.int .u8 (qb d i 17),.int .u8 (qb d i 18),.int .u8 (qb d i 19),.int .u8 (qb d i 20),.int .u8 (qb d i 21),.int .u8 (qb d i 22),.int .u8 (qb d i 23),.int .u8 (qb d i 24),.int .u8 (qb d i 25),.int .u8 (qb d i 26),.int .u8 (qb d i 27),.int .u8 (qb d i 28),.int .u8 (qb d i 29),.int .u8 (qb d i 30),.int .u8 (qb d i 31)]:List Value).map qS = qb8 d i:=rfl
@[simp high] theorem qAh:qd [[.int .u8 0,.int .u8 0,.int .u8 0,.int .u8 0,.int .u8 0,.int .u8 0,.int .u8 0,.int .u8 0,.int .u8 0,.int .u8 0,.int .u8 0,.int .u8 0,.int .u8 0,.int .u8 0,.int .u8 0,.int .u8 0,.int .u8 0,.int .u8 0,.int .u8 0,.int .u8 0,.int .u8 0,.int .u8 0,.int .u8 0,.int .u8 0,.int .u8 0,.int .u8 0,.int .u8 0,.int .u8 0,.int .u8 0,.int .u8 0,.int .u8 0,.int .u8 0]] 32 = List.replicate 32 0:=rfl
@[simp high] theorem qAj:([.int .u8 0,.int .u8 0,.int .u8 0,.int .u8 0,.int .u8 0,.int .u8 0,.int .u8 0,.int .u8 0,.int .u8 0,.int .u8 0,.int .u8 0,.int .u8 0,.int .u8 0,.int .u8 0,.int .u8 0,.int .u8 0,.int .u8 0,.int .u8 0,.int .u8 0,.int .u8 0,.int .u8 0,.int .u8 0,.int .u8 0,.int .u8 0,.int .u8 0,.int .u8 0,.int .u8 0,.int .u8 0,.int .u8 0,.int .u8 0,.int .u8 0,.int .u8 0]:List Value).map qS = List.replicate 32 0:=rfl
theorem q3n {d:qf} {i:Int} (h0:0 <= i) (h1:i < d.length):qb8 d i = (dgs d).getD i.toNat []:=by
 have hl:i.toNat < d.length:=by omega
 have h2:(dgs d).getD i.toNat [] = qgN d[i.toNat]:=by simp [dgs,hl]
 rw [h2]
 refine jbt fun k hk=>?_
 simp [qb,qG,qaJ,hl]
end Go.Proofs
namespace Go.Eng
open Go Go.Proofs
def qki (r:Nat):SV:=.agg [.vint .i64 (.var r),.vslice (r + 1) (.lit 0) (.var (r + 2)) (.var (r + 3)) 1]
def qq7 (r:Nat):SH:=bHp (r + 1) (r + 4) (r + 5)
def qha (Z:Env) (r:Nat):Prop:=(Z (r + 2)).i = (Z (r + 4)).d.length/\(Z (r + 2)).i <= (Z (r + 3)).i/\(Z (r + 2)).i <= 100000000/\q6 (Z (r + 4)).d
def qea (k s:Int):Int:=(s + k - 1).tdiv k
def qce (k n t s l:Int) (D:List (List Int)) (i:Int) (m:List Int):Int:=if qJ k n t s l = false then 2 else if i < 0∨t <= i then 2 else if (m.length:Int) ≠ qea k s then 10 else if sha (qbV i ++ m) ≠ D.getD i.toNat [] then 20 else 0
def q2w (Z:Env):Prop:=qmo (Z 0).i/\qmo (Z 3).i/\(Z 6).i = (Z 8).d.length/\qft (Z 8).d/\qha Z 10
def qqV:List Alt:=[{ k:=1,ret:=iv .i64 (.var 18),heap:=[],post:=fun Z=>(Z 18).i = qce (Z 0).i (Z 1).i (Z 2).i (Z 3).i (Z 6).i (dgs (Z 8).d) (Z 10).i (bI (Z 14).d) }]
def qjf:Ctr:={ fn := 60,nv:=18,ip:=[gIp 16],args:=[qod,qki 10],heap:=[],ro:=[qfn 5 8 9,qq7 10,gHp 16 17],pre:=fun Z=>q2w Z/\gOk Z 16 17 gR,alts:=qqV }
end Go.Eng
namespace Go.Proofs
open Go Go.Eng
@[simp] def qvw:Sg:=sg 0 [bv 9 9,bv 8 8,bv 7 7,bv 6 6,bg 5 5,bv 3 3,bv 2 2,bv 1 1,bv 0 0,bt 4 (r8 4)]
def q8d:Out:=(fr 12 2 (.pre 0 qvw (.both (.post 0 0 qvw 14 (.ret 0 (sg 12 [bt 13 (tl 2),bt 12 z8]))) (.both (fr 14 4 (.post 0 1 qvw 14 (.know (.cmp .leq (.dlen (tv 17)) (tv 16)) (.pre 1 (sg 0 [bv 7 11,bv 5 16,bv 4 17,bv 3 16,bv 2 15,bt 1 (tl 0),bg 0 14,bg 6 10]) (.both (.fresh 18 (.post 1 0 (sg 0 [bv 7 11,bv 5 16,bv 4 17,bv 3 16,bv 2 15,bt 1 (tl 0),bg 0 14,bg 6 10]) 18 (.ret 0 (sg 12 [bt 13 (tl 0),bt 12 (r8 18)])))) .top))))) .top))))
theorem q9S:qn Tryz.prog idC [qj5,qdO] [] q8d:=qh Tryz.func44 Tryz.call44 (by kernel_rfl)
theorem q7J:∀ i:Fin 255,qmf.getD (qh5.getD i.val 0).toNat 0 = i.val:=by decide +kernel
theorem q6B:∀ a:Fin 256,a.val ≠ 0->qh5.getD (qmf.getD a.val 0).toNat 0 = a.val:=by decide +kernel
theorem q6H:∀ i:Fin 255,qh5.getD (i.val + 255) 0 = qh5.getD i.val 0:=by decide +kernel
abbrev F:=BitVec 8
def toF (x:Int):F:=BitVec.ofInt 8 x
def ofF (x:F):Int:=(x.toNat:Nat)
def isB (x:Int):Prop:=0 <= x/\x < 256
theorem qjk {x:F}:isB (ofF x):=⟨Int.natCast_nonneg _,by have:=x.isLt; unfold ofF; omega⟩
theorem qjb {x:F}:toF (ofF x) = x:=by
 unfold toF ofF
 apply jdu
 rw [jdp]
 have:=x.isLt
 omega
theorem qsr {x:Int} (h:isB x):(toF x).toNat = x.toNat:=by
 obtain ⟨h0,h1⟩:=h
 unfold toF
 rw [jdp]
 omega
theorem qy9 {x:Int} (h:isB x):ofF (toF x) = x:=by
 unfold ofF
 rw [qsr h]
 obtain ⟨h0,h1⟩:=h
 omega
theorem qr0 {x y:Int} (hx:isB x) (hy:isB y) (h:toF x = toF y):x = y:=by rw [<- qy9 hx,<- qy9 hy,h]
theorem qvf:toF 0 = 0:=rfl
theorem qew {x:Int} (h:isB x):toF x = 0↔x = 0:=⟨fun e=>qr0 h ⟨by omega,by omega⟩ e,fun e=>by rw [e]; rfl⟩
theorem q34 {x y:Int}:qh8 x y = ofF (toF x ^^^ toF y):=by
 have h:(BitVec.ofInt 8 x ^^^ BitVec.ofInt 8 y).toNat < 256:=(BitVec.ofInt 8 x ^^^ BitVec.ofInt 8 y).isLt
 unfold qh8 qe ofF toF
 show IntKind.u8.wrap _ = _
 have hb:IntKind.u8.bits = 8:=rfl
 rw [hb]
 generalize (BitVec.ofInt 8 x ^^^ BitVec.ofInt 8 y).toNat = z at h ⊢
 simp only [IntKind.wrap,IntKind.bits,IntKind.signed]
 simp
 omega
theorem qk6 {x y:Int}:toF (qh8 x y) = toF x ^^^ toF y:=by rw [q34,qjb]
def qb1 (n:Nat):F:=BitVec.ofNat 8 (qh5.getD (n % 255) 0).toNat
def qef (x:F):Nat:=(qmf.getD x.toNat 0).toNat
def qg (x y:F):F:=if x = 0∨y = 0 then 0 else qb1 (qef x + qef y)
def qed (x:F):F:=if x = 0 then 0 else qb1 (255 - qef x)
theorem qwd {n:Nat}:qb1 (n % 255) = qb1 n:=by unfold qb1; rw [Nat.mod_mod]
theorem qjH {n m:Nat} (h:n % 255 = m % 255):qb1 n = qb1 m:=by rw [<- qwd,h,qwd]
theorem qhl {n:Nat}:(qb1 n).toNat = (qh5.getD (n % 255) 0).toNat:=by
 have h:=qfg ⟨n % 255,by omega⟩
 simp only at h
 unfold qb1
 rw [BitVec.toNat_ofNat]
 omega
theorem qm8 {n:Nat}:qb1 n ≠ 0:=fun h=>by
 have h1:=congrArg BitVec.toNat h
 rw [qhl] at h1
 have h2:=qfg ⟨n % 255,by omega⟩
 simp only at h2
 rw [show (0:F).toNat = 0 by rfl] at h1
 omega
theorem qfH {x:F}:qef x < 255:=by
 have:=qkr ⟨x.toNat,x.isLt⟩
 simp only at this
 unfold qef
 omega
theorem qhS {x:F} (h:x ≠ 0):qb1 (qef x) = x:=by
 apply jdu
 have h0:x.toNat ≠ 0:=fun e=>h (jdu (by rw [e]; rfl))
 have h1:=q6B ⟨x.toNat,x.isLt⟩ h0
 simp only at h1
 rw [qhl,jdn qfH,qef,h1]
 omega
theorem quU {n:Nat}:qef (qb1 n) = n % 255:=by
 have h:=q7J ⟨n % 255,by omega⟩
 simp only at h
 unfold qef
 rw [qhl,h]
 omega
theorem qiy:qb1 0 = 1:=by decide
theorem qah {x y:F}:qg x y = qg y x:=by
 unfold qg
 by_cases hx:x = 0
 ·simp [hx]
 ·by_cases hy:y = 0
  ·simp [hy]
  ·rw [jaf (not_or.2 ⟨hx,hy⟩),jaf (not_or.2 ⟨hy,hx⟩),jdd]
theorem q7 {x:F}:qg x 0 = 0:=by simp [qg]
theorem qB {x:F}:qg 0 x = 0:=by simp [qg]
theorem qyu {x y:F} (hx:x ≠ 0) (hy:y ≠ 0):qg x y = qb1 (qef x + qef y):=by rw [qg,jaf (not_or.2 ⟨hx,hy⟩)]
theorem qlJ {x y:F} (hx:x ≠ 0) (hy:y ≠ 0):qg x y ≠ 0:=by rw [qyu hx hy]; exact qm8
theorem qtK {x y:F}:qg x y = 0↔x = 0∨y = 0:=⟨fun h=>by
 by_cases hx:x = 0
 ·exact .inl hx
 ·by_cases hy:y = 0
  ·exact .inr hy
  ·exact (qlJ hx hy h).elim,fun h=>by rcases h with rfl | rfl; exact qB; exact q7⟩
theorem qd9 {n m:Nat}:qg (qb1 n) (qb1 m) = qb1 (n + m):=by
 rw [qyu qm8 qm8,quU,quU]
 exact qjH (by omega)
theorem qaY {x:F}:qg x 1 = x:=by
 by_cases h:x = 0
 ·rw [h,qB]
 ·rw [<- qiy]; conv=>lhs; arg 1; rw [<- qhS h]
  rw [qd9,jcj,qhS h]
theorem qhA {x:F}:qg 1 x = x:=by rw [qah,qaY]
theorem qhg {x:F} (h:x ≠ 0):∃ n,n < 255/\x = qb1 n:=⟨qef x,qfH,(qhS h).symm⟩
theorem qU {x y z:F}:qg (qg x y) z = qg x (qg y z):=by
 by_cases hx:x = 0
 ·rw [hx,qB,qB,qB]
 by_cases hy:y = 0
 ·rw [hy,q7,qB,q7]
 by_cases hz:z = 0
 ·rw [hz,q7,q7,q7]
 obtain ⟨a,_,rfl⟩:=qhg hx
 obtain ⟨b,_,rfl⟩:=qhg hy
 obtain ⟨c,_,rfl⟩:=qhg hz
 rw [qd9,qd9,qd9,qd9,jco]
theorem q6D {x:F} (h:x ≠ 0):qed x ≠ 0:=by rw [qed,jaf h]; exact qm8
theorem qin {x:F} (h:x ≠ 0):qg x (qed x) = 1:=by
 rw [qed,jaf h]
 conv=>lhs; arg 1; rw [<- qhS h]
 have:=qfH (x:=x)
 rw [qd9,<- qiy]
 exact qjH (by omega)
def xt (x:F):F:=x <<< 1 ^^^ (if x.msb then 29#8 else 0#8)
theorem q1I:∀ i:Fin 256,qg (BitVec.ofFin i) 2 = xt (BitVec.ofFin i):=by decide +kernel
theorem qnY {x:F}:qg x 2 = xt x:=q1I x.toFin
theorem q8K {x y:F}:xt (x ^^^ y) = xt x ^^^ xt y:=by
 unfold xt
 rw [BitVec.shiftLeft_xor_distrib,BitVec.msb_xor]
 have h1:∀ a b c:F,a ^^^ b ^^^ c = a ^^^ c ^^^ b:=fun a b c=>by rw [jbk,jcy b c,<- jbk]
 cases x.msb <;> cases y.msb
 ·simp
 ·simp [jbk]
 ·simp [h1 (x <<< 1) (29#8) (y <<< 1)]
 ·simp only [bne_self_eq_false,jaq,jbw,ja7,jeq]
  rw [h1 (x <<< 1) (29#8),jbk (x <<< 1),jbk (y <<< 1),jep,jeq]
theorem qmb {x y:F}:∀ n:Nat,qg (x ^^^ y) (qb1 n) = qg x (qb1 n) ^^^ qg y (qb1 n)
 | 0=>by rw [qiy,qaY,qaY,qaY]
 | n + 1=>by
  have he:qb1 (n + 1) = qg (qb1 n) 2:=by
   have:(2:F) = qb1 1:=by decide
   rw [this,qd9]
  rw [he,<- qU,<- qU,<- qU,qmb n,qnY,qnY,qnY,q8K]
theorem qcc {x y z:F}:qg (x ^^^ y) z = qg x z ^^^ qg y z:=by
 by_cases hz:z = 0
 ·rw [hz,q7,q7,q7]; rfl
 ·obtain ⟨n,_,rfl⟩:=qhg hz
  exact qmb n
theorem qhX {x y z:F}:qg z (x ^^^ y) = qg z x ^^^ qg z y:=by rw [qah,qcc,qah,qah (x:=y)]
theorem quj {i:Nat} (h:i < 510):ql1 i = ofF (qb1 i):=by
 rw [qx4 h,ofF,qhl]
 by_cases hi:i < 255
 ·rw [jdn hi]
  have:=qfg ⟨i,h⟩
  simp only at this
  omega
 ·have h1:=q6H ⟨i - 255,by omega⟩
  have h2:=qfg ⟨i,h⟩
  simp only at h1 h2
  rw [show i - 255 + 255 = i by omega] at h1
  rw [show i % 255 = i - 255 by omega,<- h1]
  omega
theorem qpd {a:Int} (h:isB a):qbn a.toNat = (qef (toF a):Nat):=by
 obtain ⟨h0,h1⟩:=h
 rw [qyq (by omega),qef,qsr ⟨h0,h1⟩]
 have:=qkr ⟨a.toNat,by omega⟩
 simp only at this
 omega
theorem q13 {a b:Int} (ha:isB a) (hb:isB b):qdb a b = ofF (qg (toF a) (toF b)):=by
 unfold qdb qg
 simp only [qew ha,qew hb]
 split
 ·rfl
 ·have h1:=qfH (x:=toF a)
  have h2:=qfH (x:=toF b)
  rw [qpd ha,qpd hb,quj (by omega)]
  congr 2
theorem q1V {a:Int} (ha:isB a):qfy a = ofF (qed (toF a)):=by
 unfold qfy qed
 simp only [qew ha]
 split
 ·rfl
 ·have h1:=qfH (x:=toF a)
  rw [qpd ha,quj (by omega)]
  congr 2
  omega
theorem q4s {a b:Int} (ha:isB a) (hb:isB b):isB (qdb a b):=by rw [q13 ha hb]; exact qjk
theorem qhT {a b:Int} (ha:isB a) (hb:isB b):toF (qdb a b) = qg (toF a) (toF b):=by rw [q13 ha hb,qjb]
theorem q4c {a:Int} (ha:isB a):isB (qfy a):=by rw [q1V ha]; exact qjk
theorem q4j {a:Int} (ha:isB a):toF (qfy a) = qed (toF a):=by rw [q1V ha,qjb]
theorem q4B {a b:Int}:isB (qh8 a b):=by rw [q34]; exact qjk
def qaK (x:F):Nat->F
 | 0=>1
 | n + 1=>qg (qaK x n) x
theorem qus {n:Nat}:∀ m,qaK (qb1 n) m = qb1 (n * m)
 | 0=>by rw [Nat.mul_zero]; exact qiy.symm
 | m + 1=>by rw [qaK,qus m,qd9,Nat.mul_succ]
theorem qzV {m:Nat} (h:0 < m):qaK 0 m = 0:=by
 cases m with
 | zero=>omega
 | succ m=>rw [qaK,q7]
theorem q2g {a e:Int} (ha:isB a) (he:e < 9223372036854775808):qgM a e = ofF (qaK (toF a) e.toNat):=by
 unfold qgM
 by_cases h0:e <= 0
 ·rw [jah h0,show e.toNat = 0 by omega]; rfl
 rw [jaf h0]
 by_cases h1:a = 0
 ·rw [jah h1,h1,qvf,qzV (by omega)]; rfl
 rw [jaf h1]
 have hx:toF a ≠ 0:=fun h=>h1 ((qew ha).1 h)
 have hl:=qfH (x:=toF a)
 rw [qpd ha]
 have e1:e.tmod 255 = ((e.toNat % 255:Nat):Int):=by
  rw [jdx (by omega)]; omega
 rw [e1,<- jdt,jdx (by omega),quj (by omega)]
 congr 1
 conv=>rhs; rw [<- qhS hx,qus]
 refine qjH ?_
 have:((qef (toF a) * (e.toNat % 255):Nat):Int) % 255 = ((qef (toF a) * (e.toNat % 255) % 255:Nat):Int):=by omega
 rw [this,jar,Nat.mod_mod,Nat.mul_mod,Nat.mod_mod,<- Nat.mul_mod]
theorem q4M {a e:Int} (ha:isB a) (he:e < 9223372036854775808):isB (qgM a e):=by rw [q2g ha he]; exact qjk
theorem qsI (a b c:F):a ^^^ (b ^^^ c) = b ^^^ (a ^^^ c):=by rw [<- jbk,jcy a b,jbk]
theorem qnS (a b c d:F):(a ^^^ b) ^^^ (c ^^^ d) = (a ^^^ c) ^^^ (b ^^^ d):=by rw [jbk,jbk,qsI b c d]
theorem qes {a b:F}:a ^^^ b = 0↔a = b:=⟨fun h=>by
 have:a ^^^ b ^^^ b = b:=by rw [h]; simp
 rwa [jbk,jep,jeq] at this,fun h=>by rw [h]; exact jep⟩
theorem qak {a:F}:a ^^^ 0 = a:=jeq
theorem qas {a:F}:0 ^^^ a = a:=BitVec.zero_xor
theorem qa9 {a:F}:a ^^^ a = 0:=jep
theorem qnb {a b:F}:a ^^^ b ^^^ b = a:=by rw [jbk,jep,jeq]
def qy (f:Nat->F):Nat->F
 | 0=>0
 | n + 1=>qy f n ^^^ f n
theorem ql {f g:Nat->F} {n:Nat} (h:∀ i,i < n->f i = g i):qy f n = qy g n:=by
 induction n with
 | zero=>rfl
 | succ n ih=>rw [qy,qy,ih fun i hi=>h i (by omega),h n (by omega)]
theorem qc1 {f:Nat->F} {n:Nat} (h:∀ i,i < n->f i = 0):qy f n = 0:=by
 induction n with
 | zero=>rfl
 | succ n ih=>rw [qy,ih fun i hi=>h i (by omega),h n (by omega),qak]
theorem qfD {f g:Nat->F} {n:Nat}:qy (fun i=>f i ^^^ g i) n = qy f n ^^^ qy g n:=by
 induction n with
 | zero=>exact qak.symm
 | succ n ih=>rw [qy,qy,qy,ih,qnS]
theorem qdd {f:Nat->F} {c:F} {n:Nat}:qy (fun i=>qg c (f i)) n = qg c (qy f n):=by
 induction n with
 | zero=>exact q7.symm
 | succ n ih=>rw [qy,qy,ih,qhX]
theorem qdH {f:Nat->F} {c:F} {n:Nat}:qy (fun i=>qg (f i) c) n = qg (qy f n) c:=by
 rw [qah,<- qdd]
 exact ql fun i _=>qah
theorem qh0 {f:Nat->F} {n k:Nat} (hk:k < n) (h:∀ i,i < n->i ≠ k->f i = 0):qy f n = f k:=by
 induction n with
 | zero=>omega
 | succ n ih =>
  rw [qy]
  by_cases hkn:k = n
  ·rw [qc1 fun i hi=>h i (by omega) (by omega),hkn,qas]
  ·rw [ih (by omega) fun i hi=>h i (by omega),h n (by omega) (by omega),qak]
theorem qeV {f:Nat->Nat->F} {n m:Nat}:qy (fun i=>qy (fun j=>f i j) m) n = qy (fun j=>qy (fun i=>f i j) n) m:=by
 induction n with
 | zero=>exact (qc1 fun _ _=>rfl).symm
 | succ n ih =>
  rw [qy,ih,<- qfD]
  rfl
def del (i j:Nat):F:=if i = j then 1 else 0
theorem qnR {f:Nat->F} {n k:Nat} (hk:k < n):qy (fun i=>qg (del i k) (f i)) n = f k:=by
 rw [qh0 hk fun i hi hik=>by rw [del,jaf hik,qB],del,jah rfl,qhA]
theorem qgH {f:Nat->F} {n k:Nat} (hk:k < n):qy (fun i=>qg (f i) (del i k)) n = f k:=by
 rw [qh0 hk fun i hi hik=>by rw [del,jaf hik,q7],del,jah rfl,qaY]
abbrev Mat:=Nat->Nat->F
def spans (r w:Nat) (T:Mat) (v:Nat->F):Prop:=∃ x:Nat->F,∀ j,j < w->v j = qy (fun i=>qg (x i) (T i j)) r
theorem qbd {r w:Nat} {T:Mat} {i:Nat} (hi:i < r):spans r w T (T i):=⟨fun a=>del a i,fun j _=>(qnR (f:=fun a=>T a j) hi).symm⟩
theorem qbT {r w:Nat} {T:Mat} {v v':Nat->F} (h:spans r w T v) (he:∀ j,j < w->v' j = v j):spans r w T v':=by
 obtain ⟨x,hx⟩:=h
 exact ⟨x,fun j hj=>by rw [he j hj,hx j hj]⟩
theorem qrQ {r w:Nat} {T:Mat} {v v':Nat->F} (h:spans r w T v) (h':spans r w T v'):spans r w T (fun j=>v j ^^^ v' j):=by
 obtain ⟨x,hx⟩:=h
 obtain ⟨y,hy⟩:=h'
 refine ⟨fun i=>x i ^^^ y i,fun j hj=>?_⟩
 show v j ^^^ v' j = _
 rw [hx j hj,hy j hj,<- qfD]
 exact ql fun i _=>qcc.symm
theorem qip {r w:Nat} {T:Mat} {v:Nat->F} {c:F} (h:spans r w T v):spans r w T (fun j=>qg c (v j)):=by
 obtain ⟨x,hx⟩:=h
 refine ⟨fun i=>qg c (x i),fun j hj=>?_⟩
 show qg c (v j) = _
 rw [hx j hj,<- qdd]
 exact ql fun i _=>qU.symm
theorem qgp {r w:Nat} {T T':Mat} {v:Nat->F} (h:spans r w T' v) (hr:∀ i,i < r->spans r w T (T' i)):spans r w T v:=by
 obtain ⟨x,hx⟩:=h
 let y:Nat->Nat->F:=fun i=>if h:i < r then (hr i h).choose else fun _=>0
 have hy:∀ i,i < r->∀ j,j < w->T' i j = qy (fun a=>qg (y i a) (T a j)) r:=fun i hi j hj=>by
  simp only [y,dif_pos hi]
  exact (hr i hi).choose_spec j hj
 refine ⟨fun a=>qy (fun i=>qg (x i) (y i a)) r,fun j hj=>?_⟩
 rw [hx j hj,ql fun i hi=>by rw [hy i hi j hj,<- qdd],qeV]
 refine ql fun a _=>?_
 rw [<- qdH]
 exact ql fun i _=>qU.symm
structure Same (r w:Nat) (T T':Mat):Prop where
 to:∀ i,i < r->spans r w T (T' i)
 back:∀ i,i < r->spans r w T' (T i)
theorem Same.refl {r w:Nat} {T:Mat}:Same r w T T:=⟨fun i hi=>qbd hi,fun i hi=>qbd hi⟩
theorem Same.trans {r w:Nat} {T T' T'':Mat} (h:Same r w T T') (h':Same r w T' T''):Same r w T T'' :=
 ⟨fun i hi=>qgp (h'.to i hi) h.to,fun i hi=>qgp (h.back i hi) h'.back⟩
theorem Same.symm {r w:Nat} {T T':Mat} (h:Same r w T T'):Same r w T' T:=⟨h.back,h.to⟩
theorem Same.spans {r w:Nat} {T T':Mat} (h:Same r w T T') {v:Nat->F}:spans r w T v↔Go.Proofs.spans r w T' v:=⟨fun hv=>qgp hv h.back,fun hv=>qgp hv h.to⟩
theorem qtL {r w:Nat} {T T':Mat} {i p:Nat} {g:F} (hi:i < r) (hp:p < r) (hip:i ≠ p) (h1:∀ j,j < w->T' i j = T i j ^^^ qg g (T p j)) (h2:∀ a,a < r->a ≠ i->∀ j,j < w->T' a j = T a j):Same r w T T':=by
 refine ⟨fun a ha=>?_,fun a ha=>?_⟩
 ·by_cases hai:a = i
  ·subst hai
   exact qbT (qrQ (qbd ha) (qip (c:=g) (qbd hp))) h1
  ·exact qbT (qbd ha) (h2 a ha hai)
 ·by_cases hai:a = i
  ·subst hai
   refine qbT (qrQ (qbd ha) (qip (c:=g) (qbd hp))) fun j hj=>?_
   rw [h1 j hj,h2 p hp (Ne.symm hip) j hj,qnb]
  ·exact qbT (qbd ha) fun j hj=>(h2 a ha hai j hj).symm
theorem q3B {r w:Nat} {T T':Mat} {i:Nat} {g:F} (hi:i < r) (hg:g ≠ 0) (h1:∀ j,j < w->T' i j = qg (T i j) g) (h2:∀ a,a < r->a ≠ i->∀ j,j < w->T' a j = T a j):Same r w T T':=by
 refine ⟨fun a ha=>?_,fun a ha=>?_⟩
 ·by_cases hai:a = i
  ·subst hai
   exact qbT (qip (c:=g) (qbd ha)) fun j hj=>by rw [h1 j hj,qah]
  ·exact qbT (qbd ha) (h2 a ha hai)
 ·by_cases hai:a = i
  ·subst hai
   refine qbT (qip (c:=qed g) (qbd ha)) fun j hj=>?_
   rw [h1 j hj,qah,qU,qin hg,qaY]
  ·exact qbT (qbd ha) fun j hj=>(h2 a ha hai j hj).symm
def lead (r w:Nat) (T:Mat) (c:Nat):Prop:=∃ v,spans r w T v/\(∀ j,j < c->v j = 0)/\v c ≠ 0
open Classical in
noncomputable def cnt (r w:Nat) (T:Mat):Nat->Nat
 | 0=>0
 | c + 1=>cnt r w T c + if lead r w T c then 1 else 0
theorem Same.lead {r w:Nat} {T T':Mat} (h:Same r w T T') {c:Nat}:lead r w T c↔Go.Proofs.lead r w T' c:=by
 unfold Go.Proofs.lead
 simp only [h.spans]
theorem q2q {r w:Nat} {T:Mat}:∀ c,cnt r w T c <= c
 | 0=>ja1 _
 | c + 1=>by
  have:=q2q (r:=r) (w:=w) (T:=T) c
  unfold cnt; split <;> omega
theorem qvD {r w:Nat} {T:Mat} {c:Nat}:∀ d,cnt r w T c <= cnt r w T (c + d)
 | 0=>ja1 _
 | d + 1=>by
  have:=qvD (r:=r) (w:=w) (T:=T) (c:=c) d
  rw [<- jco]
  conv=>rhs; unfold cnt
  omega
theorem qhR {r w:Nat} {T:Mat} {c:Nat} (h:lead r w T c):cnt r w T (c + 1) = cnt r w T c + 1:=by rw [cnt,jah h]
theorem qrx {r w:Nat} {T:Mat} {c:Nat} (h:¬ lead r w T c):cnt r w T (c + 1) = cnt r w T c:=by rw [cnt,jaf h]; rfl
theorem qub {r w:Nat} {T:Mat} {c c':Nat} (h:lead r w T c) (hlt:c < c'):cnt r w T c < cnt r w T c':=by
 have:=qvD (r:=r) (w:=w) (T:=T) (c:=c + 1) (c' - (c + 1))
 rw [show c + 1 + (c' - (c + 1)) = c' by omega,qhR h] at this
 omega
theorem q7K {r w:Nat} {T:Mat} {c c':Nat} (h:lead r w T c) (h':lead r w T c') (he:cnt r w T c = cnt r w T c'):c = c':=by
 rcases jea c c' with h1 | h1 | h1
 ·have:=qub h h1; omega
 ·exact h1
 ·have:=qub h' h1; omega
theorem qkx {r w:Nat} {T:Mat}:∀ {c i:Nat},i < cnt r w T c->∃ c',c' < c/\lead r w T c'/\cnt r w T c' = i
 | 0,i,h=>by simp [cnt] at h
 | c + 1,i,h=>by
  by_cases hl:lead r w T c
  ·rw [qhR hl] at h
   by_cases hi:i = cnt r w T c
   ·exact ⟨c,by omega,hl,hi.symm⟩
   ·obtain ⟨c',h1,h2,h3⟩:=qkx (r:=r) (w:=w) (T:=T) (c:=c) (i:=i) (by omega)
    exact ⟨c',by omega,h2,h3⟩
  ·rw [qrx hl] at h
   obtain ⟨c',h1,h2,h3⟩:=qkx (c:=c) h
   exact ⟨c',by omega,h2,h3⟩
structure Ech (r w:Nat) (T0 T:Mat) (c rank:Nat):Prop where
 same:Same r w T0 T
 num:rank = cnt r w T0 c
 le:rank <= r
 col:∀ c',c' < c->lead r w T0 c'->∀ i,i < r->T i c' = del i (cnt r w T0 c')
 low:∀ i,rank <= i->i < r->∀ c',c' < c->T i c' = 0
theorem q2B {r w:Nat} {T:Mat}:Ech r w T T 0 0:=⟨Same.refl,rfl,Nat.zero_le _,fun c' h=>by omega,fun i _ _ c' h=>by omega⟩
theorem q70 {r w:Nat} {T0 T:Mat} {c rank:Nat} (h:Ech r w T0 T c rank) (hc:c <= w) {v:Nat->F} (hv:spans r w T0 v) (h0:∀ j,j < c->v j = 0) :
  ∃ x:Nat->F,(∀ i,i < rank->x i = 0)/\∀ j,j < w->v j = qy (fun i=>qg (x i) (T i j)) r:=by
 obtain ⟨x,hx⟩:=h.same.spans.1 hv
 refine ⟨x,fun i hi=>?_,hx⟩
 rw [h.num] at hi
 obtain ⟨c',h1,h2,h3⟩:=qkx hi
 have hle:=h.le
 have h4:=hx c' (by omega)
 rw [h0 c' h1,ql fun a ha=>by rw [h.col c' h1 h2 a ha,h3]] at h4
 rw [qgH (f:=x) (by have:=h.num; omega)] at h4
 exact h4.symm
theorem quz {r w:Nat} {T0 T:Mat} {c rank:Nat} (h:Ech r w T0 T c rank) (hc:c < w) (hz:∀ i,rank <= i->i < r->T i c = 0):Ech r w T0 T (c + 1) rank:=by
 have hn:¬ lead r w T0 c:=fun ⟨v,h1,h2,h3⟩=>by
  obtain ⟨x,hx,he⟩:=q70 h (by omega) h1 h2
  apply h3
  rw [he c hc]
  refine qc1 fun i hi=>?_
  by_cases hir:i < rank
  ·rw [hx i hir,qB]
  ·rw [hz i (by omega) hi,q7]
 refine ⟨h.same,by rw [qrx hn]; exact h.num,h.le,fun c' hc' hl i hi=>?_,fun i h1 h2 c' hc'=>?_⟩
 ·by_cases he:c' = c
  ·rw [he] at hl; exact (hn hl).elim
  ·exact h.col c' (by omega) hl i hi
 ·by_cases he:c' = c
  ·rw [he]; exact hz i h1 h2
  ·exact h.low i h1 h2 c' (by omega)
theorem q4J {r w:Nat} {T0 T T':Mat} {c rank:Nat} (h:Ech r w T0 T c rank) (hc:c < w) (hr:rank < r) (hs:Same r w T T') (hcol:∀ i,i < r->T' i c = del i rank)
  (hold:∀ c',c' < c->∀ i,i < r->T' i c' = T i c'):Ech r w T0 T' (c + 1) (rank + 1):=by
 have hl:lead r w T0 c:=by
  refine ⟨T' rank,(h.same.trans hs).spans.2 (qbd hr),fun j hj=>?_,?_⟩
  ·rw [hold j hj rank hr]; exact h.low rank (ja1 _) hr j hj
  ·rw [hcol rank hr,del,jah rfl]; decide
 refine ⟨h.same.trans hs,by rw [qhR hl,<- h.num],hr,fun c' hc' hl' i hi=>?_,fun i h1 h2 c' hc'=>?_⟩
 ·by_cases he:c' = c
  ·rw [he,hcol i hi,h.num]
  ·rw [hold c' (by omega) i hi]; exact h.col c' (by omega) hl' i hi
 ·by_cases he:c' = c
  ·rw [he,hcol i h2,del,jaf (by omega)]
  ·rw [hold c' (by omega) i h2]; exact h.low i (by omega) h2 c' (by omega)
theorem qtG {r w:Nat} {T:Mat}:∀ {n:Nat},cnt r w T n = n->∀ c,c < n->lead r w T c/\cnt r w T c = c
 | 0,_,c,h=>by omega
 | n + 1,he,c,h=>by
  by_cases hl:lead r w T n
  ·rw [qhR hl] at he
   by_cases hc:c = n
   ·exact ⟨by rw [hc]; exact hl,by rw [hc]; omega⟩
   ·exact qtG (n:=n) (by omega) c (by omega)
  ·rw [qrx hl] at he
   have:=q2q (r:=r) (w:=w) (T:=T) n
   omega
theorem quh {r w:Nat} {T0 T:Mat} {n:Nat} (h:Ech r w T0 T n n):∀ i,i < r->∀ c,c < n->T i c = del i c:=fun i hi c hc=>by
 obtain ⟨h1,h2⟩:=qtG h.num.symm c hc
 rw [h.col c hc h1 i hi,h2]
theorem q4R {r w:Nat} {T0 T:Mat} {n rank:Nat} (h:Ech r w T0 T n rank) (hn:n <= w) (hlt:rank < n):∃ y:Nat->F,(∃ c,c < n/\y c ≠ 0)/\∀ i,i < r->qy (fun j=>qg (T0 i j) (y j)) n = 0:=by
 have hex:∃ c,c < n/\¬ lead r w T0 c:=by
  refine Classical.byContradiction fun hno=>?_
  have hall:∀ c,c < n->lead r w T0 c:=fun c hc=>Classical.byContradiction fun hl=>hno ⟨c,hc,hl⟩
  have:∀ c,c <= n->cnt r w T0 c = c:=fun c=>by
   induction c with
   | zero=>intro _; rfl
   | succ c ih=>intro hc; rw [qhR (hall c (by omega)),ih (by omega)]
  have:=this n (ja1 _)
  have:=h.num
  omega
 obtain ⟨c,hc,hnl⟩:=hex
 let y:Nat->F:=fun j=>open Classical in if j = c then 1 else if lead r w T0 j then T (cnt r w T0 j) c else 0
 have hyc:y c = 1:=by simp [y]
 have hT:∀ i,i < r->qy (fun j=>qg (T i j) (y j)) n = 0:=fun i hi=>by
  have hsplit:qy (fun j=>qg (T i j) (y j)) n = qy (fun j=>qg (if j = c then T i c else 0) 1) n ^^^ qy (fun j=>open Classical in if j ≠ c/\lead r w T0 j then qg (del i (cnt r w T0 j)) (T (cnt r w T0 j) c) else 0) n:=by
   rw [<- qfD]
   refine ql fun j hj=>?_
   by_cases hjc:j = c
   ·subst hjc
    simp only [hyc,qaY,jbw,ne_eq,not_true,false_and,ja7,qak]
   ·simp only [jaf hjc,qB,qas]
    by_cases hl:lead r w T0 j
    ·rw [jah ⟨hjc,hl⟩,h.col j hj hl i hi]; simp only [y,jaf hjc,jah hl]
    ·rw [jaf fun hh=>hl hh.2]; simp only [y,jaf hjc,jaf hl,q7]
  rw [hsplit,qh0 hc fun j _ hj=>by rw [jaf hj,qB],jah rfl,qaY]
  by_cases hir:i < rank
  ·rw [h.num] at hir
   obtain ⟨c',h1,h2,h3⟩:=qkx hir
   have hcc:c' ≠ c:=fun e=>hnl (e ▸ h2)
   rw [qh0 (k:=c') h1 fun j hj hjc=>?_,jah ⟨hcc,h2⟩,h3,del,jah rfl,qhA,qa9]
   split
   ·rename_i hh
    rw [del,jaf,qB]
    intro e
    exact hjc (q7K hh.2 h2 (by rw [h3,e]))
   ·rfl
  ·rw [h.low i (by omega) hi c hc,qas]
   refine qc1 fun j hj=>?_
   split
   ·rename_i hh
    rw [del,jaf,qB]
    have:=qub hh.2 hj
    have:=h.num
    omega
   ·rfl
 refine ⟨y,⟨c,hc,by rw [hyc]; decide⟩,fun i hi=>?_⟩
 obtain ⟨x,hx⟩:=h.same.back i hi
 rw [ql fun j hj=>by rw [hx j (by omega),<- qdH],qeV]
 refine qc1 fun a ha=>?_
 rw [ql (g:=fun j=>qg (x a) (qg (T a j) (y j))) fun j _=>qU,qdd,hT a ha,q7]
def qaz (x:F):List F->F
 | []=>0
 | c :: l=>qg (qaz x l) x ^^^ c
theorem qgc {x:F}:qaz x [] = 0:=rfl
theorem qhx {x c:F}:qaz x [c] = c:=by rw [qaz,qgc,qB,qas]
def qiO (r:F):List F->List F
 | []=>[]
 | [_]=>[]
 | _ :: c' :: l=>qaz r (c' :: l) :: qiO r (c' :: l)
theorem qtV {r:F}:∀ {l:List F},(qiO r l).length = l.length - 1
 | []=>rfl
 | [_]=>rfl
 | _ :: c' :: l=>by simp only [qiO,jba,qtV (l:=c' :: l)]; omega
theorem qvv {x r:F}:∀ {l:List F},qaz x l ^^^ qaz r l = qg (x ^^^ r) (qaz x (qiO r l))
 | []=>by rw [qiO,qgc,qgc,qa9,q7]
 | [c]=>by rw [qiO,qhx,qhx,qgc,qa9,q7]
 | c :: c' :: l=>by
  have ih:=qvv (x:=x) (r:=r) (l:=c' :: l)
  rw [qiO,show qaz x (c :: c' :: l) = qg (qaz x (c' :: l)) x ^^^ c from rfl,show qaz r (c :: c' :: l) = qg (qaz r (c' :: l)) r ^^^ c from rfl]
  conv=>rhs; rw [qaz]
  have h1:∀ a b d:F,a ^^^ b = qg (x ^^^ r) d->qg a x ^^^ c ^^^ (qg b r ^^^ c) = qg (x ^^^ r) (qg d x ^^^ b):=fun a b d h=>by
   rw [qnS,qa9,qak,qhX (z:=x ^^^ r),<- qU,<- h,qcc,qah (x:=x ^^^ r),qhX,<- jbk,qnb]
  exact h1 _ _ _ ih
theorem qwf {r:F}:∀ {l:List F} {c:F},(∀ y ∈ qiO r (c :: l),y = 0)->∀ y ∈ l,y = 0
 | [],_,_=>by simp
 | c' :: l,c,h=>by
  simp only [qiO,jbo,forall_eq_or_imp] at h
  have ht:=qwf (l:=l) (c:=c') h.2
  have hh:qaz r l = 0:=by
   clear h
   induction l with
   | nil=>rfl
   | cons a l ih=>rw [qaz,ih fun y hy=>ht y (jab _ hy),qB,ht a (jae ..),qak]
  have h1:=h.1
  rw [qaz,hh,qB,qas] at h1
  intro y hy
  rcases jbo.1 hy with rfl | hy
  ·exact h1
  ·exact ht y hy
theorem qsB {x:F}:∀ {l:List F},(∀ y ∈ l,y = 0)->qaz x l = 0
 | [],_=>rfl
 | a :: l,h=>by rw [qaz,qsB fun y hy=>h y (jab _ hy),qB,h a (jae ..),qak]
def qbx (n:Nat) (xs:Nat->F):Prop:=∀ i j,i < n->j < n->xs i = xs j->i = j
theorem qoU {xs:Nat->F}:∀ {n:Nat} {l:List F},l.length <= n->qbx n xs->(∀ i,i < n->qaz (xs i) l = 0)->∀ y ∈ l,y = 0
 | 0,l,hl,_,_=>by
  have:l = []:=jdj (by omega)
  rw [this]; simp
 | n + 1,[],_,_,_=>by simp
 | n + 1,c :: t,hl,hd,hr=>by
  simp only [jba] at hl
  have hq:=qoU (n:=n) (l:=qiO (xs n) (c :: t)) (by rw [qtV,jba]; omega) (fun i j hi hj=>hd i j (by omega) (by omega)) fun i hi=>by
   have h:=qvv (x:=xs i) (r:=xs n) (l:=c :: t)
   rw [hr i (by omega),hr n (by omega),qa9] at h
   rcases qtK.1 h.symm with h1 | h1
   ·have:=hd i n (by omega) (by omega) (qes.1 h1); omega
   ·exact h1
  have ht:=qwf hq
  have h1:=hr n (by omega)
  rw [qaz,qsB ht,qB,qas] at h1
  intro y hy
  rcases jbo.1 hy with rfl | hy
  ·exact h1
  ·exact ht y hy
def qA (n:Nat) (y:Nat->F) (x:F):F:=qy (fun j=>qg (y j) (qaK x j)) n
theorem qsH {x c:F}:∀ {l:List F},qaz x (l ++ [c]) = qaz x l ^^^ qg c (qaK x l.length)
 | []=>by rw [jdv,qhx,qgc,qas,jcq,qaK,qaY]
 | a :: l=>by
  rw [jd0,qaz,qsH (l:=l),qaz,qcc,jba,qaK,jbk,jbk,qU,jcy a]
theorem ql0 {y:Nat->F} {x:F}:∀ n,qaz x ((List.range n).map y) = qA n y x
 | 0=>rfl
 | n + 1=>by
  rw [jel,jci,jay,jb9,qsH,ql0 n]
  simp [qA,qy]
theorem qkh {n:Nat} {y:Nat->F} {xs:Nat->F} (hd:qbx n xs) (h:∀ i,i < n->qA n y (xs i) = 0):∀ j,j < n->y j = 0:=fun j hj=>by
 have:=qoU (l:=(List.range n).map y) (by simp) hd (fun i hi=>by rw [ql0]; exact h i hi) (y j)
 exact this (jbb.2 ⟨j,jb5.2 hj,rfl⟩)
theorem q2V {x:F} {l:List F} {n:Nat} (hl:l.length <= n):qaz x l = qA n (fun j=>l.getD j 0) x:=by
 have h1:∀ m,qA (l.length + m) (fun j=>l.getD j 0) x = qA l.length (fun j=>l.getD j 0) x:=fun m=>by
  induction m with
  | zero=>rfl
  | succ m ih =>
   rw [<- jco,qA,qy]
   rw [show qy (fun j=>qg (l.getD j 0) (qaK x j)) (l.length + m) = qA (l.length + m) (fun j=>l.getD j 0) x from rfl,ih]
   rw [show l.getD (l.length + m) 0 = 0 by rw [jad,jaw (by omega)]; rfl,qB,qak]
 rw [show n = l.length + (n - l.length) by omega,h1,<- ql0]
 congr 1
 apply jbv
 intro j
 by_cases hj:j < l.length
 ·simp [jbx hj,jad,jac hj]
 ·simp [hj]
def qcB (f:Nat->F):Nat->F
 | 0=>1
 | n + 1=>qg (qcB f n) (f n)
theorem q5s {f:Nat->F} {n:Nat} (h:∀ i,i < n->f i ≠ 0):qcB f n ≠ 0:=by
 induction n with
 | zero=>exact (by decide:(1:F) ≠ 0)
 | succ n ih=>exact qlJ (ih fun i hi=>h i (by omega)) (h n (by omega))
theorem qoD {f:Nat->F} {n k:Nat} (hk:k < n) (h:f k = 0):qcB f n = 0:=by
 induction n with
 | zero=>omega
 | succ n ih =>
  rw [qcB]
  by_cases hkn:k = n
  ·rw [<- hkn,h,q7]
  ·rw [ih (by omega),qB]
def qom (r:F):F->List F->List F
 | p,[]=>[p]
 | p,c :: l=>(p ^^^ qg r c) :: qom r c l
theorem qtX {r:F}:∀ {p:F} {l:List F},(qom r p l).length = l.length + 1
 | _,[]=>rfl
 | _,c :: l=>by simp [qom,qtX]
theorem qse {r x:F}:∀ {p:F} {l:List F},qaz x (qom r p l) = p ^^^ qg (x ^^^ r) (qaz x l)
 | p,[]=>by rw [qom,qhx,qgc,q7,qak]
 | p,c :: l=>by
  rw [qom,qaz,qse,qaz,qcc,qhX,jcy _ (p ^^^ qg r c),jbk,qcc (x:=x) (y:=r) (z:=c),<- qU]
  congr 1
  rw [qah (x:=c) (y:=x),<- jbk,jcy (qg r c),jcy]
theorem qsv (xs:Nat->F) (i:Nat):∀ n,∃ l:List F,l.length = (if i < n then n else n + 1)/\∀ x,qaz x l = qcB (fun m=>if m = i then 1 else x ^^^ xs m) n
 | 0=>⟨[1],by simp,fun x=>by rw [qhx,qcB]⟩
 | n + 1=>by
  obtain ⟨l,h1,h2⟩:=qsv xs i n
  by_cases hn:n = i
  ·subst hn
   refine ⟨l,by rw [h1]; simp,fun x=>by rw [h2,qcB,jah rfl,qaY]⟩
  ·refine ⟨qom (xs n) 0 l,?_,fun x=>?_⟩
   ·rw [qtX,h1]; split <;> split <;> omega
   ·rw [qse,h2,qcB,jaf hn,qas,qah]
def qf6 (n:Nat) (xs:Nat->F) (x:F) (i:Nat):F:=qg (qcB (fun m=>if m = i then 1 else x ^^^ xs m) n) (qed (qcB (fun m=>if m = i then 1 else xs i ^^^ xs m) n))
theorem q7x {n:Nat} {xs:Nat->F} (hd:qbx n xs) {i k:Nat} (hi:i < n) (hk:k < n):qf6 n xs (xs k) i = del i k:=by
 unfold qf6 del
 by_cases hik:i = k
 ·subst hik
  rw [jah rfl,qin]
  refine q5s fun m hm=>?_
  split
  ·decide
  ·rename_i hmi
   exact fun h=>hmi (hd i m hi hm (qes.1 h)).symm
 ·rw [jaf hik,qoD (k:=k) hk (by rw [jaf (Ne.symm hik)]; exact qa9),qB]
theorem qkF {n:Nat} {xs:Nat->F} (hd:qbx n xs) {y:Nat->F} {x:F}:qA n y x = qy (fun i=>qg (qf6 n xs x i) (qA n y (xs i))) n:=by
 have hex:∀ i,∃ l:Nat->F,i < n->∀ x,qA n l x = qf6 n xs x i:=fun i=>by
  obtain ⟨l,h1,h2⟩:=qsv xs i n
  refine ⟨fun j=>qg (l.getD j 0) (qed (qcB (fun m=>if m = i then 1 else xs i ^^^ xs m) n)),fun hi x=>?_⟩
  rw [qf6,<- h2 x,q2V (n:=n) (by rw [h1,jah hi]; exact ja1 _),qA,qA,<- qdH]
  refine ql fun j _=>?_
  rw [qU,qah (x:=qed _),<- qU]
 let lc:Nat->Nat->F:=fun i=>(hex i).choose
 have hlc:∀ i,i < n->∀ x,qA n (lc i) x = qf6 n xs x i:=fun i hi=>(hex i).choose_spec hi
 let S:Nat->F:=fun j=>y j ^^^ qy (fun i=>qg (qA n y (xs i)) (lc i j)) n
 have hS:∀ x,qA n S x = qA n y x ^^^ qy (fun i=>qg (qf6 n xs x i) (qA n y (xs i))) n:=fun x=>by
  have h1:qA n S x = qA n y x ^^^ qy (fun j=>qy (fun i=>qg (qA n y (xs i)) (qg (lc i j) (qaK x j))) n) n:=by
   simp only [qA]
   rw [<- qfD]
   refine ql fun j _=>?_
   simp only [S]
   rw [qcc]
   congr 1
   rw [<- qdH]
   exact ql fun i _=>qU
  rw [h1,qeV]
  congr 1
  refine ql fun i hi=>?_
  rw [qdd,<- hlc i hi x,qah]
  rfl
 have h0:=qkh (y:=S) hd fun k hk=>by
  rw [hS,ql fun i hi=>by rw [q7x hd hi hk],qnR (f:=fun i=>qA n y (xs i)) hk,qa9]
 have:=hS x
 rw [show qA n S x = 0 from qc1 fun j hj=>by rw [h0 j hj,qB]] at this
 exact qes.1 this.symm
theorem qpL {n:Nat} {xs:Nat->F} (hd:qbx n xs) {y:Nat->F} (h:∀ i,i < n->qy (fun j=>qg (qaK (xs i) j) (y j)) n = 0):∀ j,j < n->y j = 0 :=
 qkh hd fun i hi=>by
  rw [qA,<- h i hi]
  exact ql fun j _=>qah
def qz (l:List Int):Prop:=∀ x ∈ l,isB x
theorem qaN {l:List Int} (h:qz l) (i:Nat):isB (l.getD i 0):=by
 rw [jad]
 by_cases hi:i < l.length
 ·rw [jac hi]; exact h _ (jbz hi)
 ·rw [jaw (by omega)]; exact ⟨by simp,by simp⟩
def q9 (ca:Nat) (l:List Int):Mat:=fun i j=>toF (l.getD (i * ca + j) 0)
def qad (ca cb:Nat) (a b:List Int):Mat:=fun i j=>if j < ca then q9 ca a i j else q9 cb b i (j - ca)
theorem qtR {i i' ca j:Nat} (hj:j < ca):(i * ca <= i' * ca + j/\i' * ca + j < i * ca + ca)↔i' = i:=by
 constructor
 ·intro ⟨h1,h2⟩
  rcases jea i' i with h | h | h
  ·have:=jbl ca (show i' + 1 <= i by omega)
   rw [jbr,jei] at this; omega
  ·exact h
  ·have:=jbl ca (show i + 1 <= i' by omega)
   rw [jbr,jei] at this; omega
 ·rintro rfl; omega
theorem qeU {i r ca j:Nat} (hi:i < r) (hj:j < ca):i * ca + j < r * ca:=by
 have:=jbl ca (show i + 1 <= r by omega)
 rw [jbr,jei] at this; omega
theorem qqd {i r ca:Nat} (hi:i < r):i * ca + ca <= r * ca:=by
 have:=jbl ca (show i + 1 <= r by omega)
 rwa [jbr,jei] at this
theorem qdG {l s:List Int} {off:Nat} {c:Int} (h:qz l):qz (qag l off s c):=fun x hx=>by
 obtain ⟨i,hi⟩:=ja8 hx
 rw [qb9] at hi
 obtain ⟨y,hy,rfl⟩:=jai.1 hi
 split
 ·exact q4B
 ·exact h y (jbg hy)
theorem qlN {l:List Int} {off n:Nat} {c:Int} (h:qz l) (hc:isB c):qz (qbc l off n c):=fun x hx=>by
 obtain ⟨i,hi⟩:=ja8 hx
 rw [qeb] at hi
 obtain ⟨y,hy,rfl⟩:=jai.1 hi
 have:=h y (jbg hy)
 split
 ·exact q4s this hc
 ·exact this
theorem qvZ {ca r i p:Nat} {a:List Int} {g:Int} (ha:a.length = r * ca) (hb:qz a) (hg:isB g) (hi:i < r) (hp:p < r) {i' j:Nat} (hi':i' < r) (hj:j < ca) :
  q9 ca (qag a (i * ca) (seg a (p * ca) ca) g) i' j = if i' = i then q9 ca a i j ^^^ qg (toF g) (q9 ca a p j) else q9 ca a i' j:=by
 have hlt:=qeU hi' hj
 have hsl:(seg a (p * ca) ca).length = ca:=qeQ (by rw [ha]; exact qqd hp)
 unfold q9
 rw [jad,qb9,jac (by omega),jav,ja2,hsl]
 by_cases he:i' = i
 ·subst he
  rw [jah ⟨by omega,by omega⟩,jah rfl,show i' * ca + j - i' * ca = j by omega]
  have hs:(seg a (p * ca) ca).getD j 0 = a.getD (p * ca + j) 0:=by
   rw [jad,qeX,jah hj,jad]
  rw [hs,qk6,qhT hg (qaN hb _),jad (l:=a) (i:=i' * ca + j),jac (by omega),ja2]
 ·rw [jaf (fun h=>he ((qtR hj).1 h)),jaf he,jad,jac (by omega),ja2]
theorem qoS {ca r i:Nat} {a:List Int} {g:Int} (ha:a.length = r * ca) (hb:qz a) (hg:isB g) (hi:i < r) {i' j:Nat} (hi':i' < r) (hj:j < ca) :
  q9 ca (qbc a (i * ca) ca g) i' j = if i' = i then qg (q9 ca a i j) (toF g) else q9 ca a i' j:=by
 have hlt:=qeU hi' hj
 unfold q9
 rw [jad,qeb,jac (by omega),jav,ja2]
 by_cases he:i' = i
 ·subst he
  rw [jah ⟨by omega,by omega⟩,jah rfl,jad,jac (by omega),ja2,qhT (hb _ (jbz _)) hg]
 ·rw [jaf (fun h=>he ((qtR hj).1 h)),jaf he,jad,jac (by omega),ja2]
structure Two (r ca cb:Nat) (a b:List Int):Prop where
 la:a.length = r * ca
 lb:b.length = r * cb
 ba:qz a
 bb:qz b
variable {r ca cb:Nat} {a b:List Int}
theorem Two.add (h:Two r ca cb a b) {i p:Nat} {g:Int}:Two r ca cb (qag a (i * ca) (seg a (p * ca) ca) g) (qag b (i * cb) (seg b (p * cb) cb) g) :=
 ⟨by rw [qcw,h.la],by rw [qcw,h.lb],qdG h.ba,qdG h.bb⟩
theorem Two.scale (h:Two r ca cb a b) {i:Nat} {g:Int} (hg:isB g):Two r ca cb (qbc a (i * ca) ca g) (qbc b (i * cb) cb g) :=
 ⟨by rw [qjT,h.la],by rw [qjT,h.lb],qlN h.ba hg,qlN h.bb hg⟩
theorem qxX (h:Two r ca cb a b) {i p:Nat} {g:Int} (hg:isB g) (hi:i < r) (hp:p < r) {i' j:Nat} (hi':i' < r) (hj:j < ca + cb) :
  qad ca cb (qag a (i * ca) (seg a (p * ca) ca) g) (qag b (i * cb) (seg b (p * cb) cb) g) i' j = if i' = i then qad ca cb a b i j ^^^ qg (toF g) (qad ca cb a b p j) else qad ca cb a b i' j:=by
 unfold qad
 by_cases hjc:j < ca
 ·simp only [jah hjc]; exact qvZ h.la h.ba hg hi hp hi' hjc
 ·simp only [jaf hjc]; exact qvZ h.lb h.bb hg hi hp hi' (by omega)
theorem q3f (h:Two r ca cb a b) {i:Nat} {g:Int} (hg:isB g) (hi:i < r) {i' j:Nat} (hi':i' < r) (hj:j < ca + cb) :
  qad ca cb (qbc a (i * ca) ca g) (qbc b (i * cb) cb g) i' j = if i' = i then qg (qad ca cb a b i j) (toF g) else qad ca cb a b i' j:=by
 unfold qad
 by_cases hjc:j < ca
 ·simp only [jah hjc]; exact qoS h.la h.ba hg hi hi' hjc
 ·simp only [jaf hjc]; exact qoS h.lb h.bb hg hi hi' (by omega)
theorem qdA {c i:Nat} (hc:c < ca):qad ca cb a b i c = toF (a.getD (i * ca + c) 0):=by rw [qad,jah hc,q9]
theorem qrE (a:List Int) (ca c:Nat):∀ n p,p <= qcH a ca c p n/\qcH a ca c p n <= p + n/\(qcH a ca c p n < p + n->a.getD (qcH a ca c p n * ca + c) 0 ≠ 0)/\∀ i,p <= i->i < qcH a ca c p n->a.getD (i * ca + c) 0 = 0
 | 0,p=>by simp only [qcH]; exact ⟨ja1 _,ja1 _,fun h=>by omega,fun i h1 h2=>by omega⟩
 | n + 1,p=>by
  obtain ⟨h1,h2,h3,h4⟩:=qrE a ca c n (p + 1)
  simp only [qcH]
  split
  ·rename_i hz
   refine ⟨by omega,by omega,fun h=>h3 (by omega),fun i hi1 hi2=>?_⟩
   by_cases hip:i = p
   ·rw [hip]; exact hz
   ·exact h4 i (by omega) hi2
  ·rename_i hz
   exact ⟨ja1 _,by omega,fun _=>hz,fun i h1 h2=>by omega⟩
theorem Two.rows (h:Two r ca cb a b) {rank c:Nat}:∀ i,Two r ca cb (qaA ca cb rank c a b i).1 (qaA ca cb rank c a b i).2
 | 0=>h
 | i + 1=>by
  have ih:=Two.rows h (rank:=rank) (c:=c) i
  simp only [qaA]
  split
  ·exact ih
  ·exact ih.add
theorem qtC (h:Two r ca cb a b) {rank c:Nat} (hr:rank < r) (hc:c < ca):∀ i,i <= r ->
  (∀ i' j,i' < r->j < ca + cb->qad ca cb (qaA ca cb rank c a b i).1 (qaA ca cb rank c a b i).2 i' j = if i' < i/\i' ≠ rank then qad ca cb a b i' j ^^^ qg (qad ca cb a b i' c) (qad ca cb a b rank j) else qad ca cb a b i' j) /\
  Same r (ca + cb) (qad ca cb a b) (qad ca cb (qaA ca cb rank c a b i).1 (qaA ca cb rank c a b i).2)
 | 0,_=>⟨fun i' j _ _=>by rw [jaf (by omega)]; rfl,Same.refl⟩
 | i + 1,hi=>by
  obtain ⟨ih,ihs⟩:=qtC h hr hc i (by omega)
  have hT:=h.rows (rank:=rank) (c:=c) i
  simp only [qaA]
  by_cases hir:i = rank
  ·rw [jah hir]
   refine ⟨fun i' j hi' hj=>?_,ihs⟩
   rw [ih i' j hi' hj]
   by_cases h1:i' < i/\i' ≠ rank
   ·rw [jah h1,jah ⟨by omega,h1.2⟩]
   ·rw [jaf h1,jaf (by omega)]
  ·rw [jaf hir]
   simp only
   have hg:=qaN hT.ba (i * ca + c)
   have hgv:toF ((qaA ca cb rank c a b i).1.getD (i * ca + c) 0) = qad ca cb a b i c:=by
    rw [<- qdA (cb:=cb) (b:=(qaA ca cb rank c a b i).2) hc,ih i c (by omega) (by omega),jaf (by omega)]
   have hstep:=fun i' j (hi':i' < r) (hj:j < ca + cb)=>qxX hT (g:=(qaA ca cb rank c a b i).1.getD (i * ca + c) 0) hg (show i < r by omega) hr hi' hj
   refine ⟨fun i' j hi' hj=>?_,ihs.trans (qtL (i:=i) (p:=rank) (g:=toF ((qaA ca cb rank c a b i).1.getD (i * ca + c) 0)) (by omega) hr hir (fun j hj=>by rw [hstep i j (by omega) hj,jah rfl]) fun a' ha' hne j hj=>by rw [hstep a' j ha' hj,jaf hne])⟩
   rw [hstep i' j hi' hj]
   by_cases he:i' = i
   ·subst he
    rw [jah rfl,hgv,ih i' j hi' hj,jaf (by omega),ih rank j hr hj,jaf (by omega),jah ⟨by omega,hir⟩]
   ·rw [jaf he,ih i' j hi' hj]
    by_cases h1:i' < i/\i' ≠ rank
    ·rw [jah h1,jah ⟨by omega,h1.2⟩]
    ·rw [jaf h1,jaf (by omega)]
theorem q0M {T0:Mat} {c rank:Nat} (h2:Two r ca cb a b) (h:Ech r (ca + cb) T0 (qad ca cb a b) c rank) (hc:c < ca) :
  Two r ca cb (qc8 r ca cb c (a,b,rank)).1 (qc8 r ca cb c (a,b,rank)).2.1/\Ech r (ca + cb) T0 (qad ca cb (qc8 r ca cb c (a,b,rank)).1 (qc8 r ca cb c (a,b,rank)).2.1) (c + 1) (qc8 r ca cb c (a,b,rank)).2.2:=by
 unfold qc8
 simp only
 by_cases hr:r <= rank
 ·rw [jah hr]
  exact ⟨h2,quz h (by omega) fun i (h1:rank <= i) h3=>by omega⟩
 rw [jaf hr]
 obtain ⟨p1,p2,p3,p4⟩:=qrE a ca c (r - rank) rank
 by_cases hp:qcH a ca c rank (r - rank) = r
 ·rw [jah hp]
  refine ⟨h2,quz h (by omega) fun i (h1:rank <= i) h3=>?_⟩
  rw [qdA hc,p4 i h1 (by omega)]; rfl
 rw [jaf hp]
 simp only
 generalize hpv:qcH a ca c rank (r - rank) = p at p1 p2 p3 p4 hp
 have hpr:p < r:=by omega
 have hnz:=p3 (by omega)
 have hmid:qfS r ca cb c (a,b,rank) = qgJ ca cb rank c (qbA ca cb rank p a b).1 (qbA ca cb rank p a b).2:=by
  unfold qfS; simp only [hpv]
 -- the pivot's row is added
 have h1:Two r ca cb (qbA ca cb rank p a b).1 (qbA ca cb rank p a b).2/\Same r (ca + cb) (qad ca cb a b) (qad ca cb (qbA ca cb rank p a b).1 (qbA ca cb rank p a b).2) /\
   qad ca cb (qbA ca cb rank p a b).1 (qbA ca cb rank p a b).2 rank c ≠ 0/\(∀ i j,i < r->j < ca + cb->i ≠ rank->qad ca cb (qbA ca cb rank p a b).1 (qbA ca cb rank p a b).2 i j = qad ca cb a b i j) /\
   ∀ c',c' < c->qad ca cb (qbA ca cb rank p a b).1 (qbA ca cb rank p a b).2 rank c' = 0:=by
  have hpc:qad ca cb a b p c ≠ 0:=by
   rw [qdA hc]
   intro h0
   exact hnz ((qew (qaN h2.ba _)).1 h0)
  unfold qbA
  by_cases hpe:p = rank
  ·rw [jah hpe]
   exact ⟨h2,Same.refl,by rw [<- hpe]; exact hpc,fun _ _ _ _ _=>rfl,fun c' hc'=>h.low rank (ja1 _) (by omega) c' hc'⟩
  ·rw [jaf hpe]
   have hst:=fun i' j (hi':i' < r) (hj:j < ca + cb)=>qxX h2 (g:=1) ⟨by omega,by omega⟩ (show rank < r by omega) hpr hi' hj
   have h1:toF 1 = 1:=rfl
   refine ⟨h2.add,qtL (i:=rank) (p:=p) (g:=toF 1) (by omega) hpr (Ne.symm hpe) (fun j hj=>by simp only; rw [hst rank j (by omega) hj,jah rfl]) (fun a' ha' hne j hj=>by simp only; rw [hst a' j ha' hj,jaf hne]),?_,fun i j hi hj hne=>by simp only; rw [hst i j hi hj,jaf hne],fun c' hc'=>?_⟩
   ·simp only
    rw [hst rank c (by omega) (by omega),jah rfl,h1,qhA]
    rw [qdA hc (i:=rank),p4 rank (ja1 _) (by omega),qvf,qas]
    exact hpc
   ·simp only
    rw [hst rank c' (by omega) (by omega),jah rfl,h1,qhA,h.low rank (ja1 _) (by omega) c' hc',h.low p (by omega) hpr c' hc',qak]
 rw [hmid]
 generalize qbA ca cb rank p a b = s1 at h1
 obtain ⟨t1,same1,nz1,oth1,low1⟩:=h1
 -- it is scaled
 have hgB:=q4c (qaN t1.ba (rank * ca + c))
 have hgv:toF (qfy (s1.1.getD (rank * ca + c) 0)) = qed (qad ca cb s1.1 s1.2 rank c):=by rw [q4j (qaN t1.ba _),qdA hc]
 have t2:Two r ca cb (qgJ ca cb rank c s1.1 s1.2).1 (qgJ ca cb rank c s1.1 s1.2).2:=t1.scale hgB
 have hsc:∀ i j,i < r->j < ca + cb->qad ca cb (qgJ ca cb rank c s1.1 s1.2).1 (qgJ ca cb rank c s1.1 s1.2).2 i j = if i = rank then qg (qad ca cb s1.1 s1.2 rank j) (qed (qad ca cb s1.1 s1.2 rank c)) else qad ca cb s1.1 s1.2 i j:=fun i j hi hj=>by
  rw [<- hgv]
  exact q3f t1 hgB (by omega) hi hj
 generalize qgJ ca cb rank c s1.1 s1.2 = s2 at t2 hsc
 have same2:Same r (ca + cb) (qad ca cb s1.1 s1.2) (qad ca cb s2.1 s2.2):=q3B (i:=rank) (g:=qed (qad ca cb s1.1 s1.2 rank c)) (by omega) (q6D nz1) (fun j hj=>by rw [hsc rank j (by omega) hj,jah rfl]) fun a' ha' hne j hj=>by rw [hsc a' j ha' hj,jaf hne]
 have one2:qad ca cb s2.1 s2.2 rank c = 1:=by rw [hsc rank c (by omega) (by omega),jah rfl,qin nz1]
 have low2:∀ c',c' < c->qad ca cb s2.1 s2.2 rank c' = 0:=fun c' hc'=>by rw [hsc rank c' (by omega) (by omega),jah rfl,low1 c' hc',qB]
 have oth2:∀ i j,i < r->j < ca + cb->i ≠ rank->qad ca cb s2.1 s2.2 i j = qad ca cb a b i j:=fun i j hi hj hne=>by rw [hsc i j hi hj,jaf hne,oth1 i j hi hj hne]
 -- the others are cleared
 obtain ⟨r3,same3⟩:=qtC t2 (rank:=rank) (c:=c) (by omega) hc r (ja1 _)
 refine ⟨t2.rows r,q4J h (by omega) (by omega) ((same1.trans same2).trans same3) (fun i hi=>?_) fun c' hc' i hi=>?_⟩
 ·rw [r3 i c hi (by omega),one2,qaY]
  by_cases hir:i = rank
  ·rw [jaf (by omega),hir,one2,del,jah rfl]
  ·rw [jah ⟨hi,hir⟩,qa9,del,jaf hir]
 ·rw [r3 i c' hi (by omega),low2 c' hc',q7,qak]
  by_cases hir:i = rank
  ·rw [jaf (by omega),hir,low2 c' hc',h.low rank (ja1 _) (by omega) c' hc']
  ·rw [jah ⟨hi,hir⟩,oth2 i c' hi (by omega) hir]
theorem qvT (h:Two r ca cb a b):∀ c,c <= ca->Two r ca cb (qbP r ca cb a b c).1 (qbP r ca cb a b c).2.1/\Ech r (ca + cb) (qad ca cb a b) (qad ca cb (qbP r ca cb a b c).1 (qbP r ca cb a b c).2.1) c (qbP r ca cb a b c).2.2
 | 0,_=>⟨h,q2B⟩
 | c + 1,hc=>by
  obtain ⟨h1,h2⟩:=qvT h c (by omega)
  rw [qbP]
  exact q0M h1 h2 (by omega)
end Go.Proofs
namespace Go.Proofs
open Go Go.Eng
theorem q7n {d:qf} (h:qz (bI d)):q6 d:=fun row hr=>h (qaJ row 0) (jbb.2 ⟨row,hr,rfl⟩)
theorem qo0 {d:qf}:bytesOf d = (bI d).map fun x=>UInt8.ofNat x.toNat:=by
 simp only [bytesOf,bI,jdq]
 exact jbt fun r hr=>rfl
set_option maxRecDepth 20000
theorem qwt {k n t s:Int} {o:List Int} (h:o.length = 32):(qaM k n t s o).length = 39:=by simp [qaM,qaq,h]
theorem q6a:idC.ok Tryz.prog:=q9S (by simp [q0Q,qkY]) fun Z hg hp=>by
 obtain ⟨⟨hl,hO,hD⟩,hGr,hGd⟩:=hp
 simp (config:={ maxSteps:=2000000 }) [q8d,idC,qqg,qj5,qdO,qod,qiH,qaF,gOk,qvq,qzF,qmD]
 refine ⟨⟨by omega,hl,hO,hD⟩,fun l _ c _ d _ hok hl2 hB hd=>?_⟩
 have hd:bI d.d = qaM (Z 0).i (Z 1).i (Z 2).i (Z 3).i (qd (Z 4).d 32) ++ (dgs (Z 8).d).flatten:=hd
 have hb:=hok
 simp [qJ,qbm] at hb
 have hlen:=congrArg List.length hd
 rw [jal,qcA q7Z,q7P,bI_len,qwt qcZ] at hlen
 refine fun hc=>⟨⟨⟨by omega,by omega,by omega,by omega,hB⟩,hGr,hGd⟩,fun x _ hx=>⟨hok,?_⟩⟩
 have hx:qd x.d 32 = sha (qaM (Z 0).i (Z 1).i (Z 2).i (Z 3).i (qd (Z 4).d 32) ++ (dgs (Z 8).d).flatten):=by
  rw [hx,qaG,hd.symm]
  simp only [jdm,jeb]
  rw [ja3 (by rw [bI_len]; omega)]
 exact hx
set_option maxRecDepth 100000
def qvA:Out:=(fr 18 2 (.pre 0 (sg 0 [bv 9 9,bv 8 8,bv 7 7,bv 6 6,bg 5 5,bv 3 3,bv 2 2,bv 1 1,bv 0 0,bt 4 (r8 4)]) (.both (.fresh 20 (.post 0 0 (sg 0 [bv 9 9,bv 8 8,bv 7 7,bv 6 6,bg 5 5,bv 3 3,bv 2 2,bv 1 1,bv 0 0,bt 4 (r8 4)]) 20 (.br (.cmp .neq (tv 20) (tl 0))
 (.ret 0 (sg 18 [bv 18 20]))
 (.br (.cmp .lss (tv 10) (tl 0))
 (.ret 0 (sg 18 [bt 18 (tl 2)]))
 (.br (.cmp .geq (tv 10) (tv 2))
 (.ret 0 (sg 18 [bt 18 (tl 2)]))
 (.pre 1 (sg 0 [bv 1 3,bv 0 0]) (.both (fr 21 2 (.post 1 0 (sg 0 [bv 1 3,bv 0 0]) 21 (.need (.cmp .leq (tl 0) (tv 12)) (.br (.cmp .neq (tv 12) (tv 21))
 (.ret 0 (sg 18 [bt 18 (tl 10)]))
 (.need (.cmp .leq (tl 0) (tv 10)) (.need (.cmp .lss (tv 10) (tv 6)) (.need (.cmp .lss (tv 10) (.dlen (tv 8))) (.both (.pre 2 (sg 0 [bv 8 17,bv 6 15,bv 5 14,bv 4 13,bv 3 12,bt 2 (tl 0),bg 1 11,bv 0 10,bg 7 16]) (.both (.fresh 23 (.post 2 0 (sg 0 [bv 8 17,bv 6 15,bv 5 14,bv 4 13,bv 3 12,bt 2 (tl 0),bg 1 11,bv 0 10,bg 7 16]) 23 (.br (.not (.c2 .req (r8 23) (.rcons (i8 8 10 0) (.rcons (i8 8 10 1) (.rcons (i8 8 10 2) (.rcons (i8 8 10 3) (.rcons (i8 8 10 4) (.rcons (i8 8 10 5) (.rcons (i8 8 10 6) (.rcons (i8 8 10 7) (.rcons (i8 8 10 8) (.rcons (i8 8 10 9) (.rcons (i8 8 10 10) (.rcons (i8 8 10 11) (.rcons (i8 8 10 12) (.rcons (i8 8 10 13) (.rcons (i8 8 10 14) (.rcons (i8 8 10 15) (.rcons (i8 8 10 16) (.rcons (i8 8 10 17) (.rcons (i8 8 10 18) (.rcons (i8 8 10 19) (.rcons (i8 8 10 20) (.rcons (i8 8 10 21) (.rcons (i8 8 10 22) (.rcons (i8 8 10 23) (.rcons (i8 8 10 24) (.rcons (i8 8 10 25) (.rcons (i8 8 10 26) (.rcons (i8 8 10 27) (.rcons (i8 8 10 28) (.rcons (i8 8 10 29) (.rcons (i8 8 10 30) (.rcons (i8 8 10 31) .rnil))))))))))))))))))))))))))))))))))
 (.ret 0 (sg 18 [bt 18 (tl 20)]))
 (.ret 0 (sg 18 [bt 18 (tl 0)]))))) .top)) .top)))))))) .top))))))) .top)))
theorem q1u:qn Tryz.prog qjf [qfF,qe7,qeC] [] qvA:=qh Tryz.func60 Tryz.call60 (by kernel_rfl)
set_option maxRecDepth 20000
theorem q4D {k n t s l i:Int} {D:List (List Int)} {m:List Int} (h:qJ k n t s l = false):2 = qce k n t s l D i m:=by rw [qce,jah h]
theorem quq {k n t s l i:Int} {D:List (List Int)} {m:List Int} (h:qJ k n t s l = true) (hi:i < 0∨t <= i):2 = qce k n t s l D i m:=by rw [qce,jaf (by rw [h]; decide),jah hi]
theorem q5N {k n t s l i:Int} {D:List (List Int)} {m:List Int} (h:qJ k n t s l = true) (h0:0 <= i) (h1:i < t) (hl:(m.length:Int) ≠ qea k s):10 = qce k n t s l D i m:=by rw [qce,jaf (by rw [h]; decide),jaf (by omega),jah hl]
theorem q5g {k n t s l i:Int} {D:List (List Int)} {m:List Int} (h:qJ k n t s l = true) (h0:0 <= i) (h1:i < t) (hl:(m.length:Int) = qea k s) (hs:sha (qbV i ++ m) ≠ D.getD i.toNat []):20 = qce k n t s l D i m:=by rw [qce,jaf (by rw [h]; decide),jaf (by omega),jaf (fun h=>h hl),jah hs]
theorem q65 {k n t s l i:Int} {D:List (List Int)} {m:List Int} (h:qJ k n t s l = true) (h0:0 <= i) (h1:i < t) (hl:(m.length:Int) = qea k s) (hs:sha (qbV i ++ m) = D.getD i.toNat []):0 = qce k n t s l D i m:=by rw [qce,jaf (by rw [h]; decide),jaf (by omega),jaf (fun h=>h hl),jaf (fun h=>h hs)]
theorem qzC {k n t s l:Int} (h:qJ k n t s l = true):¬ qe4 k s:=by
 simp [qJ,qbm] at h
 unfold qe4; omega
set_option maxHeartbeats 1000000 in
theorem q19:qjf.ok Tryz.prog:=q1u (by simp [qrM,qpY,qpC]) fun Z hg hp=>by
 obtain ⟨⟨i0,i3,hl,hD,hpl,hpc,hp1,hB⟩,hGr,hGd⟩:=hp
 simp only [Nat.reduceAdd] at hpl hpc hp1 hB
 simp (config:={ maxSteps:=4000000,contextual:=true }) [qvA,qjf,qqV,qfF,qe7,qeC,qod,qiH,qaF,gOk,hGr,hGd,hB,hD,hl,hpl]
 refine fun u _ hu=>⟨q4D,fun hok=>⟨fun h0=>quq hok (.inl h0),fun h0=>⟨fun ht=>quq hok (.inr ht),fun ht l _ e _ _ hgood=>?_⟩⟩⟩
 have hlen:=(hgood (qzC hok)).1
 have hml:(bI (Z 14).d).length = (Z 14).d.length:=bI_len
 have htl:(Z 2).i = (Z 8).d.length:=by simp [qJ] at hok; omega
 have hrow:qb8 (Z 8).d (Z 10).i = (dgs (Z 8).d).getD (Z 10).i.toNat []:=q3n h0 (by omega)
 refine ⟨fun hne=>q5N hok h0 ht (by rw [hml,qea,<- hlen]; exact hne),fun heq=>⟨by omega,⟨by omega,by omega,by omega⟩,fun x _ hx=>?_⟩⟩
 rw [qkB heq.symm,hrow]
 exact ⟨fun hn=>q5g hok h0 ht (by rw [hml,qea,<- hlen]; exact heq) hn,fun he=>q65 hok h0 ht (by rw [hml,qea,<- hlen]; exact heq) he⟩
set_option maxRecDepth 100000
theorem quK {k n:Nat} (hk:0 < k):n <= k * qF k n:=by
 unfold qF
 have h1:=jdg (n + k - 1) k
 have h2:=jd6 (n + k - 1) hk
 omega
theorem q0U {n:Nat}:(qa7 n n).length = n * n:=by simp [qa7]
theorem q2c {n i:Nat} (hi:i < n * n):(qa7 n n).getD i 0 = if i / n = i % n then 1 else 0:=by
 have hn:0 < n:=by
  cases n with
  | zero=>simp at hi
  | succ n=>omega
 rw [jad,qa7,jan,jbx hi]
 simp only [jav,ja2]
 have:i / n < n:=jed hi
 by_cases h:i / n = i % n
 ·rw [jah ⟨h,this⟩,jah h]
 ·rw [jaf (fun hh=>h hh.1),jaf h]
theorem qiT {i n j:Nat} (hj:j < n):(i * n + j) / n = i/\(i * n + j) % n = j:=by
 have hn:0 < n:=by omega
 constructor
 ·rw [jcf,jfa hn,je6 hj,jcj]
 ·rw [jcf,jfb,jdn hj]
theorem qwW {n:Nat}:qz (qa7 n n):=fun x hx=>by
 simp only [qa7,jbb] at hx
 obtain ⟨i,_,rfl⟩:=hx
 split <;> exact ⟨by omega,by omega⟩
theorem qsu {n i j:Nat} (hi:i < n) (hj:j < n):q9 n (qa7 n n) i j = del i j:=by
 obtain ⟨h1,h2⟩:=qiT (i:=i) hj
 rw [q9,q2c (qeU hi hj),h1,h2,del]
 split <;> rfl
theorem q00 {r c:Nat}:(qbq r c).length = r * c:=by simp [qbq,qca]
theorem q0E {r c i j:Nat} (hi:i < r) (hj:j < c):(qbq r c).getD (i * c + j) 0 = qgM (i:Int) (j:Int):=by
 obtain ⟨h1,h2⟩:=qiT (i:=i) hj
 have hlt:=qeU hi hj
 rw [jad,qbq,qca,jan,jbx hlt]
 simp only [jav,ja2]
 rw [jah hlt,qmE,h1,h2]
def xsF (m:Nat):F:=toF (m:Int)
theorem qqb {r c i j:Nat} (hr:r <= 256) (hi:i < r) (hj:j < c) (hc:c < 9223372036854775808):q9 c (qbq r c) i j = qaK (xsF i) j:=by
 rw [q9,q0E hi hj,q2g ⟨by omega,by omega⟩ (by omega),qjb,jar]; rfl
theorem qmv {r c:Nat} (hr:r <= 256) (hc:c < 9223372036854775808):qz (qbq r c):=fun x hx=>by
 simp only [qbq,qca,jbb,jb5] at hx
 obtain ⟨i,hi,rfl⟩:=hx
 rw [jah hi]
 have hc0:0 < c:=by
  cases c with
  | zero=>simp at hi
  | succ c=>omega
 have h1:i / c < r:=jed (by rwa [jcf] at hi)
 have h2:=jd6 i hc0
 have h3:((i / c:Nat):Int) < 256:=by omega
 exact q4M ⟨Int.natCast_nonneg _,h3⟩ (by omega)
theorem qei {n:Nat} (hn:n <= 256):qbx n xsF:=fun i j hi hj h=>by
 have:=qr0 (x:=(i:Int)) (y:=(j:Int)) ⟨by omega,by omega⟩ ⟨by omega,by omega⟩ h
 omega
theorem qz1 {l:List Int} {n:Nat} (h:qz l):qz (l.take n):=fun x hx=>h x (jb3 hx)
theorem q4W {l:List Int} {n c i j:Nat} (hi:i < n) (hj:j < c):q9 c (l.take (n * c)) i j = q9 c l i j:=by
 have hlt:=qeU hi hj
 rw [q9,q9,jad,jad,jbh,jah hlt]
theorem qiw {ca cb:Nat} {a b:List Int} {i j:Nat}:qad ca cb a b i (ca + j) = q9 cb b i j:=by
 rw [qad,jaf (by omega),show ca + j - ca = j by omega]
theorem qrs {n:Nat} {a A B:List Int} (h:Ech n (n + n) (qad n n a (qa7 n n)) (qad n n A B) n n) :
  (∀ i j,i < n->j < n->qy (fun l=>qg (q9 n B i l) (q9 n a l j)) n = del i j)/\∀ i j,i < n->j < n->qy (fun l=>qg (q9 n a i l) (q9 n B l j)) n = del i j:=by
 refine ⟨fun i j hi hj=>?_,fun i j hi hj=>?_⟩
 ·obtain ⟨x,hx⟩:=h.same.to i hi
  have hxB:∀ l,l < n->x l = q9 n B i l:=fun l hl=>by
   have h1:=hx (n + l) (by omega)
   rw [qiw,ql fun m hm=>by rw [qiw,qsu hm hl],qgH (f:=x) hl] at h1
   exact h1.symm
  have h2:=hx j (by omega)
  rw [quh h i hi j hj,ql fun m hm=>by rw [hxB m hm,qdA hj]] at h2
  exact h2.symm
 ·obtain ⟨x,hx⟩:=h.same.back i hi
  have hxa:∀ l,l < n->x l = q9 n a i l:=fun l hl=>by
   have h1:=hx l (by omega)
   rw [qdA hl,ql fun m hm=>by rw [quh h m hm l hl],qgH (f:=x) hl] at h1
   exact h1.symm
  have h2:=hx (n + j) (by omega)
  rw [qiw,qsu hi hj,ql fun m hm=>by rw [hxa m hm,qiw]] at h2
  exact h2.symm
theorem q1b {n:Nat} {m:List Int} (hl:m.length = n * n) (hb:qz m):Two n n n m (qa7 n n):=⟨hl,q0U,hb,qwW⟩
theorem qmB {n:Nat} {m:List Int} (hl:m.length = n * n) (hb:qz m):Two n n n (qeg m n).1 (qeg m n).2.1/\Ech n (n + n) (qad n n m (qa7 n n)) (qad n n (qeg m n).1 (qeg m n).2.1) n (qeg m n).2.2 :=
 qvT (q1b hl hb) n (ja1 _)
theorem qtZ {n:Nat} {m:List Int} (hl:m.length = n * n) (hb:qz m) (h:∀ y:Nat->F,(∀ i,i < n->qy (fun j=>qg (q9 n m i j) (y j)) n = 0)->∀ j,j < n->y j = 0):(qeg m n).2.2 = n:=by
 obtain ⟨_,he⟩:=qmB hl hb
 refine Classical.byContradiction fun hne=>?_
 have hlt:(qeg m n).2.2 < n:=by have:=he.le; omega
 obtain ⟨y,⟨c,hc,hyc⟩,hy⟩:=q4R he (by omega) hlt
 exact hyc (h y (fun i hi=>by rw [<- hy i hi]; exact ql fun j hj=>by rw [qdA hj]; rfl) c hc)
theorem qxU {k total:Nat} (h:k <= total):((qbq total k).take (k * k)).length = k * k:=by
 rw [jbm,q00]
 exact jcv (jbl k h)
theorem qyp {k total i j:Nat} (hk:k <= total) (ht:total <= 255) (hi:i < k) (hj:j < k):q9 k ((qbq total k).take (k * k)) i j = qaK (xsF i) j:=by
 rw [q4W hi hj,qqb (by omega) (by omega) hj (by omega)]
theorem qsg {k total:Nat} (hk:k <= total) (ht:total <= 255):qz ((qbq total k).take (k * k)):=qz1 (qmv (by omega) (by omega))
theorem q52 {k total:Nat} (hk:k <= total) (ht:total <= 255):(qbX k total).2.2 = k :=
 qtZ (qxU hk) (qsg hk ht) fun y hy=>qpL (qei (by omega)) fun i hi=>by
  rw [<- hy i hi]
  exact ql fun j hj=>by rw [qyp hk ht hi hj]
theorem qxs {k total:Nat} (hk:k <= total) (ht:total <= 255):Two k k k (qbX k total).1 (qbX k total).2.1/\Ech k (k + k) (qad k k ((qbq total k).take (k * k)) (qa7 k k)) (qad k k (qbX k total).1 (qbX k total).2.1) k k:=by
 have h:=qmB (qxU hk) (qsg hk ht)
 have hr:=q52 hk ht
 unfold qbX at hr ⊢
 rw [hr] at h
 exact h
theorem qmT {a b:List Int} {ra ca cb:Nat} (hb:b.length = ca * cb) (ha:qz a) (hbb:qz b) (hca:0 < ca):∀ t,t <= ra * ca->(qcg a b ra ca cb t).length = ra * cb/\qz (qcg a b ra ca cb t) /\
  ∀ i j,i < ra->j < cb->q9 cb (qcg a b ra ca cb t) i j = qy (fun l=>if i * ca + l < t then qg (q9 ca a i l) (q9 cb b l j) else 0) ca
 | 0,_=>⟨by simp [qcg],fun x hx=>by rw [qcg] at hx; rw [jc1 hx]; exact ⟨by omega,by omega⟩,fun i j hi hj=>by
   rw [qc1 fun l _=>jaf (by omega),q9,qcg,jad,jbj,jah (qeU hi hj)]; rfl⟩
 | t + 1,ht=>by
  obtain ⟨h1,h2,h3⟩:=qmT (ra:=ra) hb ha hbb hca t (by omega)
  have hti:t / ca < ra:=jed (by rw [jcf]; omega)
  have htl:=jd6 t hca
  have htd:=jdg t ca
  rw [qcg]
  refine ⟨by rw [qcw,h1],qdG h2,fun i j hi hj=>?_⟩
  have hlt:=qeU hi hj
  have hsl:(seg b (t % ca * cb) cb).length = cb:=qeQ (by rw [hb]; exact qqd htl)
  have hL:q9 cb (qag (qcg a b ra ca cb t) (t / ca * cb) (seg b (t % ca * cb) cb) (a.getD t 0)) i j = if i = t / ca then q9 cb (qcg a b ra ca cb t) i j ^^^ qg (toF (a.getD t 0)) (q9 cb b (t % ca) j) else q9 cb (qcg a b ra ca cb t) i j:=by
   unfold q9
   rw [jad,qb9,jac (by omega),jav,ja2,hsl]
   by_cases he:i = t / ca
   ·subst he
    rw [jah ⟨by omega,by omega⟩,jah rfl,show t / ca * cb + j - t / ca * cb = j by omega]
    have hs:(seg b (t % ca * cb) cb).getD j 0 = b.getD (t % ca * cb + j) 0:=by
     rw [jad,qeX,jah hj,jad]
    rw [hs,qk6,qhT (qaN ha _) (qaN hbb _),jad (l:=qcg a b ra ca cb t),jac (by omega),ja2]
   ·rw [jaf (fun h=>he ((qtR hj).1 h)),jaf he,jad,jac (by omega),ja2]
  rw [hL,h3 i j hi hj]
  by_cases he:i = t / ca
  ·have hit:i * ca + t % ca = t:=by rw [he,jcf]; exact htd
   rw [jah he]
   have hat:toF (a.getD t 0) = q9 ca a i (t % ca):=by rw [q9,hit]
   have h4:qg (toF (a.getD t 0)) (q9 cb b (t % ca) j) = qy (fun l=>if l = t % ca then qg (q9 ca a i l) (q9 cb b l j) else 0) ca:=by
    rw [qh0 htl fun l _ hl=>jaf hl,jah rfl,hat]
   rw [h4,<- qfD]
   refine ql fun l hl=>?_
   by_cases hlt:l = t % ca
   ·subst hlt; rw [jaf (by omega),jah rfl,jah (by omega),qas]
   ·rw [jaf hlt,qak]
    by_cases h5:i * ca + l < t
    ·rw [jah h5,jah (by omega)]
    ·rw [jaf h5,jaf (by omega)]
  ·rw [jaf he]
   refine ql fun l hl=>?_
   have hne:i * ca + l ≠ t:=fun h=>he (by rw [<- h]; exact (qiT hl).1.symm)
   by_cases h5:i * ca + l < t
   ·rw [jah h5,jah (by omega)]
   ·rw [jaf h5,jaf (by omega)]
theorem q0q {a b:List Int} {ra ca cb:Nat} (hb:b.length = ca * cb) (ha:qz a) (hbb:qz b) (hca:0 < ca):(qmF a b ra ca cb).length = ra * cb/\qz (qmF a b ra ca cb) /\
  ∀ i j,i < ra->j < cb->q9 cb (qmF a b ra ca cb) i j = qy (fun l=>qg (q9 ca a i l) (q9 cb b l j)) ca:=by
 obtain ⟨h1,h2,h3⟩:=qmT (ra:=ra) hb ha hbb hca (ra * ca) (ja1 _)
 refine ⟨h1,h2,fun i j hi hj=>?_⟩
 rw [qmF,h3 i j hi hj]
 exact ql fun l hl=>jah (qeU hi hl)
theorem qeN {k total:Nat} (h1:1 <= k) (hk:k <= total) (ht:total <= 255):(qcG k total).length = total * k/\qz (qcG k total) /\
  (∀ i j,i < total->j < k->q9 k (qcG k total) i j = qy (fun l=>qg (qaK (xsF i) l) (q9 k (qbX k total).2.1 l j)) k) /\
  ∀ i j,i < total->j < k->q9 k (qcG k total) i j = qf6 k xsF (xsF i) j:=by
 obtain ⟨t2,he⟩:=qxs hk ht
 obtain ⟨p1,p2,p3⟩:=q0q (ra:=total) t2.lb (qmv (r:=total) (c:=k) (by omega) (by omega)) t2.bb (by omega)
 have hg:∀ i j,i < total->j < k->q9 k (qcG k total) i j = qy (fun l=>qg (qaK (xsF i) l) (q9 k (qbX k total).2.1 l j)) k:=fun i j hi hj=>by
  rw [qcG,p3 i j hi hj]
  exact ql fun l hl=>by rw [qqb (by omega) hi hl (by omega)]
 refine ⟨p1,p2,hg,fun i j hi hj=>?_⟩
 obtain ⟨_,m2⟩:=qrs he
 have hp:∀ x,qA k (fun l=>q9 k (qbX k total).2.1 l j) x = qy (fun l=>qg (qaK x l) (q9 k (qbX k total).2.1 l j)) k:=fun x=>ql fun l _=>qah
 rw [hg i j hi hj,<- hp,qkF (qei (n:=k) (by omega))]
 rw [ql (g:=fun m=>qg (qf6 k xsF (xsF i) m) (del m j)) fun m hm=>?_,qgH hj]
 rw [hp,<- m2 m j hm hj]
 congr 1
 exact ql fun l hl=>by rw [qyp hk ht hm hl]
theorem qma {g full:List Int} {k l i:Nat} (hg:qz g) (hf:qz full) (hl:full.length = k * l):∀ j,j <= k->(qcb g full k l i j).length = l/\qz (qcb g full k l i j) /\
  ∀ c,c < l->toF ((qcb g full k l i j).getD c 0) = qy (fun m=>qg (q9 k g i m) (toF (full.getD (m * l + c) 0))) j
 | 0,_=>⟨by simp [qcb],fun x hx=>by rw [qcb] at hx; rw [jc1 hx]; exact ⟨by omega,by omega⟩,fun c hc=>by
   rw [qcb,jad,jbj,jah hc]; rfl⟩
 | j + 1,hj=>by
  obtain ⟨h1,h2,h3⟩:=qma hg hf hl (i:=i) j (by omega)
  have hsl:(seg full (j * l) l).length = l:=qeQ (by rw [hl]; exact qqd (by omega))
  rw [qcb]
  refine ⟨by rw [qcw,h1],qdG h2,fun c hc=>?_⟩
  rw [jad,qb9,jac (by omega),jav,ja2,hsl,jah ⟨by omega,by omega⟩,jd1]
  have hs:(seg full (j * l) l).getD c 0 = full.getD (j * l + c) 0:=by
   rw [jad,qeX,jah hc,jad]
  rw [hs,qk6,qhT (qaN hg _) (qaN hf _),qy,<- h3 c hc,jad (l:=qcb g full k l i j),jac (by omega),ja2]
  rfl
theorem q0j {data:List Int} {n:Nat} (hb:qz data) (hn:data.length <= n):(qio data n).length = n/\qz (qio data n):=by
 refine ⟨by simp [qio]; omega,fun x hx=>?_⟩
 rcases jas.1 hx with hx | hx
 ·exact hb x hx
 ·rw [jc1 hx]; exact ⟨by omega,by omega⟩
theorem q4U {data:List Int} {n i:Nat}:(qio data n).getD i 0 = data.getD i 0:=by
 rw [jad,jad,qio]
 by_cases h:i < data.length
 ·rw [jau h]
 ·rw [jap (by omega),jaw (l:=data) (by omega),jbj]
  split <;> rfl
theorem q0J {k total:Nat} {data:List Int} (h1:1 <= k) (hk:k <= total) (ht:total <= 255) (hb:qz data) (i:Nat):(qdt k total data i).length = qF k data.length/\qz (qdt k total data i) /\
  ∀ c,c < qF k data.length->toF ((qdt k total data i).getD c 0) = qy (fun m=>qg (q9 k (qcG k total) i m) (toF (data.getD (m * qF k data.length + c) 0))) k:=by
 obtain ⟨g1,g2,_,_⟩:=qeN h1 hk ht
 obtain ⟨f1,f2⟩:=q0j hb (n:=k * qF k data.length) (quK (by omega))
 obtain ⟨p1,p2,p3⟩:=qma (i:=i) g2 f2 f1 k (ja1 _)
 refine ⟨p1,p2,fun c hc=>?_⟩
 rw [qdt,p3 c hc]
 exact ql fun m _=>by rw [q4U]
end Go.Proofs
namespace Go.Proofs
open Go Go.Eng
theorem qtg {a b:List Int} (hl:a.length = b.length) (h:∀ i,i < a.length->a.getD i 0 = b.getD i 0):a = b:=by
 apply jdz hl
 intro i h1 h2
 have:=h i h1
 rwa [jad,jac h1,jad,jac h2] at this
end Go.Proofs
namespace Go.Eng
open Go Go.Proofs
def qgd (m:List Int) (cols:Nat) (rs:List Int):List Int:=rs.flatMap fun r=>seg m (r.toNat * cols) cols
def qlu (xs:List Int) (x:Int):List Int:=(List.range xs.length).map fun i=>ofF (qf6 xs.length (fun m=>toF (xs.getD m 0)) (toF x) i)
end Go.Eng
namespace Go.Proofs
open Go Go.Eng
theorem quW {m:List Int} {c r:Nat} (hm:r * c <= m.length):∀ {rs:List Int},(∀ x ∈ rs,0 <= x/\x < (r:Int))->(qgd m c rs).length = rs.length * c
 | [],_=>by simp [qgd]
 | x :: rs,h=>by
  have ih:=quW hm (rs:=rs) fun y hy=>h y (jab _ hy)
  have hx:=h x (jae ..)
  have:=qqd (ca:=c) (show x.toNat < r by omega)
  rw [qgd,List.flatMap_cons,jal,qeQ (by omega),show (rs.flatMap fun r=>seg m (r.toNat * c) c) = qgd m c rs from rfl,ih,jba,jbr]; omega
theorem qtE {l:List Int} {n:Nat} (h:n < l.length):l.getD n 0 ∈ l:=by
 rw [jad,jac h]; exact jbz h
end Go.Proofs
namespace Go.Eng
open Go Go.Proofs
def qbZ (k total:Nat) (rs:List Int):Prop:=rs.length = k/\rs.Nodup/\∀ x ∈ rs,0 <= x/\x < (total:Int)
end Go.Eng
namespace Go.Proofs
open Go Go.Eng
theorem qtD {i j:Nat}:del i j = del j i:=by
 unfold del
 by_cases hij:i = j
 ·rw [jah hij,jah hij.symm]
 ·rw [jaf hij,jaf (Ne.symm hij)]
theorem qqN {m:List Int} {k R:Nat} (hm:m.length = R * k):∀ {rs:List Int},(∀ x ∈ rs,0 <= x/\x < (R:Int))->∀ {i j:Nat},i < rs.length->j < k->(qgd m k rs).getD (i * k + j) 0 = m.getD ((rs.getD i 0).toNat * k + j) 0
 | [],_,i,j,hi,_=>by simp at hi
 | x :: rs,h,i,j,hi,hj=>by
  have hx:=h x (jae ..)
  have hxk:x.toNat * k + k <= R * k:=by
   have h1:x.toNat + 1 <= R:=by omega
   have:=jbl k h1
   rw [jbr] at this; omega
  have hsl:(seg m (x.toNat * k) k).length = k:=by rw [seg,jbm,jc4]; omega
  rw [qgd,List.flatMap_cons]
  cases i with
  | zero =>
   rw [je9,jbp,jad,jau (by rw [hsl]; exact hj),seg,jbh,jah hj,jbd,<- jad]
   rfl
  | succ i =>
   have ih:=qqN hm (rs:=rs) (fun y hy=>h y (jab _ hy)) (i:=i) (j:=j) (by simpa using hi) hj
   rw [jad,jap (by rw [hsl,jbr]; omega),hsl,show (i + 1) * k + j - k = i * k + j by rw [jbr]; omega,<- jad]
   exact ih
theorem qmg {m:List Int} {k:Nat} {rs:List Int} (h:qz m):qz (qgd m k rs):=fun x hx=>by
 rw [qgd,List.mem_flatMap] at hx
 obtain ⟨r,_,hx⟩:=hx
 exact h x (jcm (jb3 hx))
theorem qid {k total:Nat} {rs:List Int} (h:qbZ k total rs) (ht:total <= 255):qbx k fun i=>xsF (rs.getD i 0).toNat:=by
 obtain ⟨h1,h2,h3⟩:=h
 intro i j hi hj he
 have gi:rs.getD i 0 = rs[i]'(by omega):=by rw [jad,jac (by omega)]; rfl
 have gj:rs.getD j 0 = rs[j]'(by omega):=by rw [jad,jac (by omega)]; rfl
 have mi:=h3 _ (jbz (l:=rs) (n:=i) (by omega))
 have mj:=h3 _ (jbz (l:=rs) (n:=j) (by omega))
 simp only [gi,gj] at he
 have:=qei (n:=256) (ja1 _) _ _ (by omega) (by omega) he
 exact (List.getElem_inj (h₀:=by omega) (h₁:=by omega) h2).1 (by omega)
theorem qnO {m:List Int} {k total:Nat} {rs:List Int} (h:qbZ k total rs) (hm:m.length = total * k):(qgd m k rs).length = k * k:=by
 rw [quW (r:=total) (by omega) h.2.2,h.1]
theorem q7H {k total:Nat} {rs:List Int} (h:qbZ k total rs) (h1:1 <= k) (hk:k <= total) (ht:total <= 255) {y:Nat->F}
  (hy:∀ i,i < k->qy (fun j=>qg (q9 k (qcG k total) (rs.getD i 0).toNat j) (y j)) k = 0):∀ j,j < k->y j = 0:=by
 obtain ⟨g1,g2,g3,_⟩:=qeN h1 hk ht
 obtain ⟨t2,he⟩:=qxs hk ht
 obtain ⟨_,m2⟩:=qrs he
 have hz:∀ l,l < k->qy (fun j=>qg (q9 k (qbX k total).2.1 l j) (y j)) k = 0:=qpL (qid h ht) fun i hi=>by
  rw [<- hy i hi]
  have hx:=h.2.2 (rs.getD i 0) (by rw [jad,jac (by rw [h.1]; exact hi)]; exact jbz _)
  have e2:qy (fun j=>qg (q9 k (qcG k total) (rs.getD i 0).toNat j) (y j)) k = qy (fun j=>qy (fun l=>qg (qg (qaK (xsF (rs.getD i 0).toNat) l) (q9 k (qbX k total).2.1 l j)) (y j)) k) k:=ql fun j hj=>by rw [g3 _ j (by omega) hj,qdH]
  rw [e2,qeV]
  refine ql fun l hl=>?_
  rw [<- qdd]
  exact ql fun j hj=>by rw [qU]
 intro j hj
 have e1:y j = qy (fun i=>qg (y i) (del i j)) k:=(qgH (f:=y) hj).symm
 rw [e1,ql (g:=fun i=>qy (fun l=>qg (q9 k ((qbq total k).take (k * k)) j l) (qg (q9 k (qbX k total).2.1 l i) (y i))) k) fun i hi=>?_,qeV]
 ·refine qc1 fun l hl=>?_
  rw [qdd,hz l hl,q7]
 ·have:=m2 j i hj hi
  rw [show del i j = del j i from qtD,<- this,qah,<- qdH]
  exact ql fun l hl=>by rw [qU]
theorem q5v {k total:Nat} {rs:List Int} (h:qbZ k total rs) (h1:1 <= k) (hk:k <= total) (ht:total <= 255):(qeg (qgd (qcG k total) k rs) k).2.2 = k:=by
 obtain ⟨g1,g2,_,_⟩:=qeN h1 hk ht
 refine qtZ (qnO h g1) (qmg g2) fun y hy=>q7H h h1 hk ht fun i hi=>?_
 rw [<- hy i hi]
 refine ql fun j hj=>?_
 rw [q9,q9,qqN g1 h.2.2 (by rw [h.1]; exact hi) hj]
end Go.Proofs
namespace Go.Proofs
open Go Go.Eng
theorem q8o {h:Hp} {D:qf} {n:Nat} {f:Nat->List Int} (he:qff h D n f):qqL h D n/\∀ j,j < n->pcI D j = j/\pcD h D j = f j:=by
 refine ⟨fun j hj=>?_,fun j hj=>?_⟩
 ·obtain ⟨v,d,e,hr,_,hb⟩:=he j hj
  exact ⟨_,v,d,e,hr,hb⟩
 ·obtain ⟨v,d,e,hr,hf,hb⟩:=he j hj
  refine ⟨by simp [pcI,qb,qG,e,qS],?_⟩
  rw [pcD,show qG D (j:Int) 1 = v by simp [qG,e],qjp hr,hf]
end Go.Proofs
namespace Go.Eng
open Go Go.Proofs
def qvu (n:Nat):List Int:=(List.range n).map fun (m:Nat)=>(m:Int)
def qcj (f:Nat->List Int) (w:List Int) (l:Nat):Nat->List Int
 | 0=>List.replicate l 0
 | j + 1=>qag (qcj f w l j) 0 (seg (f j) 0 l) (w.getD j 0)
end Go.Eng
namespace Go.Proofs
open Go Go.Eng
theorem qvB {f:Nat->List Int} {w:List Int} {l:Nat}:∀ j,(qcj f w l j).length = l
 | 0=>by simp [qcj]
 | j + 1=>by rw [qcj,qcw,qvB j]
theorem qwA {n:Nat}:(qvu n).Nodup:=jfr.2 (List.nodup_range.imp fun h e=>h (by omega))
theorem q1j {n:Nat} {x:Int} (h:x ∈ qvu n):0 <= x/\x < n:=by
 obtain ⟨m,hm,rfl⟩:=jbb.1 h
 have:=jb5.1 hm
 omega
theorem qh1 {o l:List Int} {n k:Nat} (h:(o ++ l).Perm (qvu n)) (hk:o.length = k):o.length = k/\o.Nodup/\∀ x ∈ o,0 <= x/\x < (n:Int) :=
 ⟨hk,(List.nodup_append.1 (h.nodup_iff.2 qwA)).1,fun x hx=>q1j (h.mem_iff.1 (jbn _ hx))⟩
end Go.Proofs
namespace Go.Eng
open Go Go.Proofs
def blk:Value->Option Nat
 | .slice (some a) _ _=>some a.block
 | _=>none
def q8N (h:Hp) (vs:Nat->Value) (n:Nat) (M:Nat->List Int):Prop :=
 (∀ j,j < n->∃ d,Rd h kB (vs j) d/\bI d = M j/\q6 d)/\∀ i j,i < n->j < n->i ≠ j->M i ≠ []->M j ≠ []->blk (vs i) ≠ blk (vs j)
end Go.Eng
namespace Go.Proofs
open Go Go.Eng
theorem q8J {h:Hp} {vs:Nat->Value} {n j:Nat} {M:Nat->List Int} (ht:q8N h vs n M) (hj:j < n):∃ d,Rd h kB (vs j) d/\bI d = M j/\q6 d:=ht.1 j hj
end Go.Proofs
namespace Go.Eng
open Go Go.Proofs
def tvs (D:qf):Nat->Value:=fun j=>qG D j 0
noncomputable def pcN (h:Hp) (D:qf) (j:Nat):Nat:=(pcD h D j).length
def rdB (h:Hp) (v:Value):Prop:=∃ d,Rd h kB v d/\q6 d
noncomputable def qgQ (D:qf) (k:Nat):List Int:=(List.range k).map (pcI D)
noncomputable def qlp (h:Hp) (D:qf):Nat->List Int:=fun j=>rdL h (tvs D j)
noncomputable def q9J (h:Hp) (D:qf) (k:Nat) (x:Int):List Int:=qcj (pcD h D) (qlu (qgQ D k) x) (pcN h D 0) k
def qoh (total k:Nat) (rs:List Int):List Int:=(qeg (qgd (qcG k total) k rs) k).2.1
noncomputable def qyU (h:Hp) (D:qf) (total k:Nat) (i:Nat):List Int:=qcj (pcD h D) (seg (qoh total k (qgQ D k)) (i * k) k) (pcN h D 0) k
def q9a (h:Hp) (D:qf) (k total n:Int):Prop:=qaD k total = true/\k <= n/\n <= 17592186043904/\qqL h D n.toNat/\qbZ k.toNat total.toNat (qgQ D k.toNat)/\pcN h D 0 <= 8192/\∀ j,j < k.toNat->pcN h D j = pcN h D 0
noncomputable def plI (k size:Int):Int:=(qF k.toNat size.toNat:Int)
def q61 (r:Nat):SV:=.agg (qiH r (r + 1) (r + 2) (r + 3) (r + 4) (r + 5) (r + 6) (r + 7))
end Go.Eng
namespace Go.Proofs
open Go Go.Eng
section
variable {M:Bool} {C:Int->Prop} {x t:Int} {D O:List Int}
end
variable {rows wide c rank:Nat} {T0:Mat} {M:Nat->List Int}
end Go.Proofs
namespace Go.Proofs
open Go Go.Eng
variable {k total len e e':Int} {n i:Nat} {I I':Nat->Int} {L L':Nat->Nat}
end Go.Proofs
namespace Go.Proofs
open Go Go.Eng
def byF (r:F) (y:Nat->F):Nat->F:=fun l=>(if l = 0 then 0 else y (l - 1)) ^^^ qg r (y l)
theorem qka {y:Nat->F} {x:F}:qA 1 y x = y 0:=by
 show (0:F) ^^^ qg (y 0) (qaK x 0) = y 0
 rw [qas,show qaK x 0 = 1 from rfl,qaY]
theorem quN {r x:F} {y:Nat->F}:∀ n,qA (n + 1) (byF r y) x = qg (x ^^^ r) (qA n y x) ^^^ qg (qg r (y n)) (qaK x n)
 | 0=>by rw [qka,byF,jah rfl,qas,show qA 0 y x = 0 from rfl,q7,qas,show qaK x 0 = 1 from rfl,qaY]
 | n + 1=>by
  have ih:=quN (r:=r) (x:=x) (y:=y) n
  have h1:qA (n + 2) (byF r y) x = qA (n + 1) (byF r y) x ^^^ qg (byF r y (n + 1)) (qaK x (n + 1)):=rfl
  have h2:qA (n + 1) y x = qA n y x ^^^ qg (y n) (qaK x n):=rfl
  rw [h1,ih,h2,byF,jaf (by omega),jc8,qhX,qcc (x:=y n)]
  have h3:qg (x ^^^ r) (qg (y n) (qaK x n)) = qg (y n) (qaK x (n + 1)) ^^^ qg (qg r (y n)) (qaK x n):=by
   rw [qcc,qaK]
   congr 1
   ·rw [<- qU,qah (x:=x),qU]
    try rw [qah (x:=x)]
   ·rw [qU]
  rw [h3]
  generalize qg (x ^^^ r) (qA n y x) = a
  generalize qg (qg r (y n)) (qaK x n) = b
  generalize qg (y n) (qaK x (n + 1)) = c
  generalize qg (qg r (y (n + 1))) (qaK x (n + 1)) = d
  rw [jbk,jbk,jbk]
  congr 1
  rw [<- jbk,<- jbk,jcy b c]
theorem qr1 {r x:F} {y:Nat->F} {n:Nat} (h:y n = 0):qA (n + 1) (byF r y) x = qg (x ^^^ r) (qA n y x):=by
 rw [quN,h,q7,qB,qak]
theorem qrV {y:Nat->F} {x:F} {n:Nat} (h:∀ l,n <= l->y l = 0):∀ m,qA (n + m) y x = qA n y x
 | 0=>rfl
 | m + 1=>by
  show qA (n + m) y x ^^^ qg (y (n + m)) (qaK x (n + m)) = _
  rw [qrV h m,h _ (by omega),qB,qak]
theorem qop {y z:Nat->F} {x:F} {n:Nat}:qA n (fun l=>y l ^^^ z l) x = qA n y x ^^^ qA n z x:=by
 simp only [qA]
 rw [<- qfD]
 exact ql fun j _=>qcc
theorem quB {y:Nat->F} {x c:F} {n:Nat}:qA n (fun l=>qg c (y l)) x = qg c (qA n y x):=by
 simp only [qA]
 rw [<- qdd]
 exact ql fun j _=>qU
def ddF (xs ys:Nat->F):Nat->Nat->F
 | s,0=>ys s
 | s,j + 1=>qg (ddF xs ys (s + 1) j ^^^ ddF xs ys s j) (qed (xs (s + j + 1) ^^^ xs s))
theorem qhj {n:Nat} {xs ys:Nat->F} (hd:qbx n xs):∀ j s,s + j < n->∃ y:Nat->F,(∀ l,j < l->y l = 0)/\(∀ i,i <= j->qA (j + 1) y (xs (s + i)) = ys (s + i))/\y j = ddF xs ys s j
 | 0,s,hs=>⟨fun l=>if l = 0 then ys s else 0,fun l hl=>jaf (by omega),fun i hi=>by
   obtain rfl:i = 0:=by omega
   rw [qka,jah rfl,jcj],rfl⟩
 | j + 1,s,hs=>by
  obtain ⟨y1,a1,b1,c1⟩:=qhj (ys:=ys) hd j (s + 1) (by omega)
  obtain ⟨y0,a0,b0,c0⟩:=qhj (ys:=ys) hd j s (by omega)
  have hne:xs (s + j + 1) ^^^ xs s ≠ 0:=fun h=>by have:=hd _ _ (by omega) (by omega) (qes.1 h); omega
  let w:F:=qed (xs (s + j + 1) ^^^ xs s)
  have hv:∀ x,qA (j + 2) (fun l=>qg w (byF (xs s) y1 l ^^^ byF (xs (s + j + 1)) y0 l)) x = qg w (qg (x ^^^ xs s) (qA (j + 1) y1 x) ^^^ qg (x ^^^ xs (s + j + 1)) (qA (j + 1) y0 x)):=fun x=>by
   rw [quB,qop,qr1 (a1 _ (by omega)),qr1 (a0 _ (by omega))]
  refine ⟨fun l=>qg w (byF (xs s) y1 l ^^^ byF (xs (s + j + 1)) y0 l),fun l hl=>?_,fun i hi=>?_,?_⟩
  ·simp only [byF]
   rw [jaf (by omega),jaf (by omega),a1 l (by omega),a0 l (by omega),a1 (l - 1) (by omega),a0 (l - 1) (by omega),q7,q7,qa9,q7]
  ·rw [hv]
   have hw:∀ z,qg w (qg (xs (s + j + 1) ^^^ xs s) z) = z:=fun z=>by
    rw [<- qU,qah (x:=w),qin hne,qhA]
   by_cases h0:i = 0
   ·subst h0
    have hb0:=b0 0 (by omega)
    simp only [jcj] at hb0
    rw [jcj,qa9,qB,qas,hb0,jcy,hw]
   ·by_cases h1:i = j + 1
    ·subst h1
     have:=b1 j (ja1 _)
     rw [show s + 1 + j = s + (j + 1) by omega] at this
     rw [this,<- jco,qa9,qB,qak,hw]
    ·have h2:=b1 (i - 1) (by omega)
     rw [show s + 1 + (i - 1) = s + i by omega] at h2
     rw [h2,b0 i (by omega),<- qcc,qnS,qa9,qas,jcy,hw]
  ·simp only [byF]
   rw [jaf (by omega),jaf (by omega),a1 (j + 1) (by omega),a0 (j + 1) (by omega),q7,q7,qak,qak,jc8,c1,c0,qah]
   rfl
def ql4 (xs:Nat->F):Nat->Nat->F
 | 0=>fun l=>if l = 0 then 1 else 0
 | m + 1=>byF (xs m) (ql4 xs m)
theorem qsf {xs:Nat->F}:∀ m,(∀ l,m < l->ql4 xs m l = 0)/\ql4 xs m m = 1/\∀ x,qA (m + 1) (ql4 xs m) x = qcB (fun u=>x ^^^ xs u) m
 | 0=>⟨fun l hl=>jaf (by omega),rfl,fun x=>by rw [qka]; rfl⟩
 | m + 1=>by
  obtain ⟨h1,h2,h3⟩:=qsf (xs:=xs) m
  refine ⟨fun l hl=>?_,?_,fun x=>?_⟩
  ·simp only [ql4,byF]
   rw [jaf (by omega),h1 (l - 1) (by omega),h1 l (by omega),q7,qak]
  ·simp only [ql4,byF]
   rw [jaf (by omega),jc8,h2,h1 (m + 1) (by omega),q7,qak]
  ·rw [ql4,qr1 (h1 _ (by omega)),h3,qcB,qah]
def qyM (xs ys:Nat->F) (x:F) (m:Nat):F:=qy (fun t=>qg (ddF xs ys 0 t) (qcB (fun u=>x ^^^ xs u) t)) m
theorem qrL {n:Nat} {xs ys:Nat->F} (hd:qbx n xs):∀ m,m < n->∃ y:Nat->F,(∀ l,m < l->y l = 0)/\(∀ i,i <= m->qA (m + 1) y (xs i) = ys i)/\∀ x,qA (m + 1) y x = qyM xs ys x (m + 1)
 | 0,hm=>by
  obtain ⟨y,a,b,c⟩:=qhj (ys:=ys) hd 0 0 (by omega)
  refine ⟨y,a,fun i hi=>by have:=b i hi; simp only [jbp] at this ⊢; exact this,fun x=>?_⟩
  rw [qka,c]
  show ys 0 = (0:F) ^^^ qg (ys 0) 1
  rw [qas,qaY]
 | m + 1,hm=>by
  obtain ⟨y0,a0,b0,c0⟩:=qrL (ys:=ys) hd m (by omega)
  obtain ⟨y,a,b,c⟩:=qhj (ys:=ys) hd (m + 1) 0 (by omega)
  obtain ⟨p1,p2,p3⟩:=qsf (xs:=xs) (m + 1)
  refine ⟨y,a,fun i hi=>by have:=b i hi; rwa [jbp] at this,fun x=>?_⟩
  let R:Nat->F:=fun l=>(y l ^^^ y0 l) ^^^ qg (ddF xs ys 0 (m + 1)) (ql4 xs (m + 1) l)
  have hRv:∀ x,qA (m + 2) R x = (qA (m + 2) y x ^^^ qA (m + 1) y0 x) ^^^ qg (ddF xs ys 0 (m + 1)) (qcB (fun u=>x ^^^ xs u) (m + 1)):=fun x=>by
   rw [<- p3,<- quB,<- qrV (y:=y0) (n:=m + 1) (fun l hl=>a0 l (by omega)) 1,<- qop,<- qop]
  have hRt:R (m + 1) = 0:=by
   simp only [R]
   rw [c,a0 (m + 1) (by omega),p2,qaY,qak,qa9]
  have hRe:∀ x,qA (m + 1) R x = qA (m + 2) R x:=fun x=>by
   show _ = qA (m + 1) R x ^^^ qg (R (m + 1)) (qaK x (m + 1))
   rw [hRt,qB,qak]
  have h0:=qkh (n:=m + 1) (y:=R) (xs:=xs) (fun i j hi hj=>hd i j (by omega) (by omega)) fun i hi=>by
   rw [hRe,hRv,b0 i (by omega)]
   have:=b i (by omega)
   rw [jbp] at this
   rw [this,qa9,qas,qoD (k:=i) hi qa9,q7]
  have hz:qA (m + 1) R x = 0:=qc1 fun l hl=>by rw [h0 l hl,qB]
  rw [hRe,hRv] at hz
  have h1:qyM xs ys x (m + 2) = qyM xs ys x (m + 1) ^^^ qg (ddF xs ys 0 (m + 1)) (qcB (fun u=>x ^^^ xs u) (m + 1)):=rfl
  rw [h1,<- c0 x]
  have h2:=qes.1 hz
  rw [<- h2,<- jbk,jcy,<- jbk,qa9,qas]
theorem qfq {f:Nat->List Int} {w:List Int} {l:Nat} (hw:qz w):∀ k,(∀ j,j < k->(f j).length = l/\qz (f j))->(qcj f w l k).length = l/\qz (qcj f w l k)/\∀ c,c < l->toF ((qcj f w l k).getD c 0) = qy (fun m=>qg (toF (w.getD m 0)) (toF ((f m).getD c 0))) k
 | 0,_=>⟨by simp [qcj],fun x hx=>by rw [qcj] at hx; rw [jc1 hx]; exact ⟨by omega,by omega⟩,fun c hc=>by
   rw [qcj,jad,jbj,jah hc]; rfl⟩
 | k + 1,h=>by
  obtain ⟨h1,h2,h3⟩:=qfq hw k fun j hj=>h j (by omega)
  obtain ⟨f1,f2⟩:=h k (by omega)
  have hsl:seg (f k) 0 l = f k:=by rw [<- f1]; simp [seg]
  rw [qcj,hsl]
  refine ⟨by rw [qcw,h1],qdG h2,fun c hc=>?_⟩
  rw [jad,qb9,jac (by omega),jav,ja2,jah ⟨by omega,by omega⟩,jd1,qk6,qhT (qaN hw _) (qaN f2 _),qy,<- h3 c hc,jad (l:=qcj f w l k),jac (by omega),ja2]
theorem q2i {f g:Nat->List Int} {w v:List Int} {l k:Nat} (hw:qz w) (hv:qz v) (hf:∀ j,j < k->(f j).length = l/\qz (f j)) (hg:∀ j,j < k->(g j).length = l/\qz (g j))
  (h:∀ c,c < l->qy (fun m=>qg (toF (w.getD m 0)) (toF ((f m).getD c 0))) k = qy (fun m=>qg (toF (v.getD m 0)) (toF ((g m).getD c 0))) k):qcj f w l k = qcj g v l k:=by
 obtain ⟨a1,a2,a3⟩:=qfq hw k hf
 obtain ⟨b1,b2,b3⟩:=qfq hv k hg
 refine qtg (by omega) fun c hc=>qr0 (qaN a2 c) (qaN b2 c) ?_
 rw [a3 c (by omega),b3 c (by omega),h c (by omega)]
theorem q2p {rs:List Int} {x:Int} {j:Nat} (hj:j < rs.length):toF ((qlu rs x).getD j 0) = qf6 rs.length (fun m=>toF (rs.getD m 0)) (toF x) j:=by
 unfold qlu
 rw [jad,jan,jbx hj,jav,ja2,qjb]
theorem qkp {xs:List Int} {x:Int}:qz (qlu xs x):=fun y hy=>by
 obtain ⟨m,_,rfl⟩:=jbb.1 hy
 exact qjk
variable {k total:Nat} {rs:List Int}
theorem qkX (hc:qbZ k total rs) {j:Nat} (hj:j < k):toF (rs.getD j 0) = xsF (rs.getD j 0).toNat:=by
 have h1:=hc.1
 have h2:=hc.2.2 (rs.getD j 0) (qtE (by omega))
 unfold xsF
 rw [ja6 h2.1]
theorem qnq (hc:qbZ k total rs) (ht:total <= 255):qbx k fun m=>toF (rs.getD m 0):=fun i j hi hj he=>by
 refine qid hc ht i j hi hj ?_
 simp only [qkX hc hi,qkX hc hj] at he
 exact he
theorem qsm {xs v:Nat->F} (h1:1 <= k) (hd:qbx k xs):∃ y:Nat->F,(∀ i,i < k->qA k y (xs i) = v i)/\∀ x,qA k y x = qy (fun j=>qg (qf6 k xs x j) (v j)) k:=by
 obtain ⟨y,_,hy,_⟩:=qrL (ys:=v) hd (k - 1) (by omega)
 rw [show k - 1 + 1 = k by omega] at hy
 refine ⟨y,fun i hi=>hy i (by omega),fun x=>?_⟩
 rw [qkF hd]
 exact ql fun j hj=>by rw [hy j (by omega)]
theorem q1s (hc:qbZ k total rs) (h1:1 <= k) (hk:k <= total) (ht:total <= 255) (v:Nat->F) {i:Nat} (hi:i < k) :
    qy (fun j=>qg (q9 k (qoh total k rs) i j) (v j)) k = qy (fun j=>qg (qf6 k (fun m=>toF (rs.getD m 0)) (xsF i) j) (v j)) k:=by
  obtain ⟨y,hy,hL⟩:=qsm (v:=v) h1 (qnq hc ht)
  obtain ⟨g1,g2,_,g4⟩:=qeN h1 hk ht
  have hlen:=qnO hc g1
  have hr:=q5v hc h1 hk ht
  obtain ⟨t2,he⟩:=qmB hlen (qmg g2)
  rw [hr] at he
  obtain ⟨m1,_⟩:=qrs he
  have hS:∀ j,j < k->∀ m,m < k->q9 k (qgd (qcG k total) k rs) j m = qf6 k xsF (toF (rs.getD j 0)) m:=fun j hj m hm=>by
    have hrj:=hc.2.2 (rs.getD j 0) (qtE (by rw [hc.1]; exact hj))
    unfold q9
    rw [qqN g1 hc.2.2 (by rw [hc.1]; exact hj) hm,qkX hc hj,<- g4 (rs.getD j 0).toNat m (by omega) hm]
    rfl
  have hx:qbx k xsF:=qei (by omega)
  rw [<- hL]
  calc qy (fun j=>qg (q9 k (qoh total k rs) i j) (v j)) k
      = qy (fun j=>qy (fun m=>qg (qg (q9 k (qoh total k rs) i j) (q9 k (qgd (qcG k total) k rs) j m)) (qA k y (xsF m))) k) k:=by
        refine ql fun j hj=>?_
        rw [<- hy j hj,qkF hx (x:=toF (rs.getD j 0)),<- qdd]
        exact ql fun m hm=>by rw [hS j hj m hm,qU]
    _ = qy (fun m=>qg (del m i) (qA k y (xsF m))) k:=by
        rw [qeV]
        refine ql fun m hm=>?_
        rw [qdH,qtD]
        congr 1
        exact m1 i m hi hm
    _ = qA k y (xsF i):=qnR (f:=fun m=>qA k y (xsF m)) hi
theorem qyt {m:List Int} {i j:Nat} (hj:j < k):toF ((seg m (i * k) k).getD j 0) = q9 k m i j:=by
 unfold q9 seg
 rw [jad,jbh,jah hj,jbd,jad]
theorem q1a (hc:qbZ k total rs) (h1:1 <= k) (hk:k <= total) (ht:total <= 255):(qoh total k rs).length = k * k/\qz (qoh total k rs):=by
 obtain ⟨g1,g2,_,_⟩:=qeN h1 hk ht
 obtain ⟨t2,_⟩:=qmB (qnO hc g1) (qmg g2)
 exact ⟨t2.lb,t2.bb⟩
theorem qt6 {l:List Int} {o n:Nat} (h:qz l):qz (seg l o n):=fun x hx=>h x (jcm (jb3 hx))
theorem q7N (hc:qbZ k total rs) (h1:1 <= k) (hk:k <= total) (ht:total <= 255) {f:Nat->List Int} {l i:Nat} (hf:∀ j,j < k->(f j).length = l/\qz (f j)) (hi:i < k) :
  qcj f (seg (qoh total k rs) (i * k) k) l k = qcj f (qlu rs (i:Int)) l k:=by
 refine q2i (qt6 (q1a hc h1 hk ht).2) qkp hf hf fun c hcl=>?_
 rw [ql fun m hm=>by rw [qyt hm],q1s hc h1 hk ht _ hi]
 exact ql fun m hm=>by rw [q2p (by rw [hc.1]; exact hm),hc.1]; rfl
theorem q5r (hc:qbZ k total rs) (h1:1 <= k) (hk:k <= total) (ht:total <= 255) {f:Nat->List Int} {l r:Nat} (hf:∀ j,j < k->(f j).length = l/\qz (f j)) (hr:r < total) {g:Nat->List Int} (hg:∀ i,i < k->g i = qcj f (qlu rs (i:Int)) l k) :
  qcj g (seg (qcG k total) (r * k) k) l k = qcj f (qlu rs (r:Int)) l k:=by
 obtain ⟨g1,g2,_,g4⟩:=qeN h1 hk ht
 have hgf:∀ i,i < k->(g i).length = l/\qz (g i):=fun i hi=>by
  obtain ⟨a,b,_⟩:=qfq (qkp (xs:=rs) (x:=(i:Int))) k hf
  rw [hg i hi]; exact ⟨a,b⟩
 refine q2i (qt6 g2) qkp hgf hf fun c hcl=>?_
 obtain ⟨y,hy,hL⟩:=qsm (v:=fun j=>toF ((f j).getD c 0)) h1 (qnq hc ht)
 have hx:qbx k xsF:=qei (by omega)
 have hv:∀ x:Int,qy (fun m=>qg (toF ((qlu rs x).getD m 0)) (toF ((f m).getD c 0))) k = qA k y (toF x):=fun x=>by
  rw [hL]
  exact ql fun m hm=>by rw [q2p (by rw [hc.1]; exact hm),hc.1]
 rw [hv,show toF ((r:Nat):Int) = xsF r from rfl,qkF hx]
 refine ql fun m hm=>?_
 rw [qyt hm,g4 r m hr hm,hg m hm,(qfq qkp k hf).2.2 c hcl,hv]
 rfl
end Go.Proofs
namespace Go.Proofs
open Go Go.Eng
structure PcIn (h:Hp) (D:qf) (k total n:Int):Prop where
 k1:1 <= k
 k2:k <= total
 k3:total <= 255
 kn:k <= n
 sol:q9a h D k total n
 idx:∀ j,j < n.toNat->0 <= pcI D j/\pcI D j < total
 len:∀ j,j < n.toNat->pcN h D j = pcN h D 0
 fs:∀ j,j < n.toNat->(pcD h D j).length = pcN h D 0/\qz (pcD h D j)
variable {h:Hp} {D:qf} {k total n:Int}
theorem PcIn.f (p:PcIn h D k total n):∀ j,j < k.toNat->(pcD h D j).length = pcN h D 0/\qz (pcD h D j):=fun j hj=>p.fs j (by have:=p.kn; omega)
theorem PcIn.cols (p:PcIn h D k total n) {hc:Hp} {C:qf} (ht:q8N hc (tvs C) k.toNat (qyU h D total.toNat k.toNat)) :
  (∀ j,j < k.toNat->rdB hc (tvs C j)/\(qlp hc C j).length = (qlp hc C 0).length)/\(qlp hc C 0).length = pcN h D 0/\∀ r:Int,0 <= r->r < total->qcj (qlp hc C) (seg (qcG k.toNat total.toNat) (r.toNat * k.toNat) k.toNat) (qlp hc C 0).length k.toNat = q9J h D k.toNat r:=by
 have h1:=p.k1
 have h2:=p.k2
 have h3:=p.k3
 have hch:=p.sol.2.2.2.2.1
 have hcol:∀ j,j < k.toNat->rdB hc (tvs C j)/\qlp hc C j = qyU h D total.toNat k.toNat j:=fun j hj=>by
  obtain ⟨d,hr,hd,hB⟩:=q8J ht hj
  exact ⟨⟨d,hr,hB⟩,by rw [qlp,qjp hr,hd]⟩
 have hl:∀ j,j < k.toNat->(qlp hc C j).length = pcN h D 0:=fun j hj=>by
  rw [(hcol j hj).2,qyU,qvB]
 refine ⟨fun j hj=>⟨(hcol j hj).1,by rw [hl j hj,hl 0 (by omega)]⟩,hl 0 (by omega),fun r r0 r1=>?_⟩
 rw [hl 0 (by omega),q5r hch (by omega) (by omega) (by omega) (f:=pcD h D) p.f (by omega) (r:=r.toNat) (fun i hi=>by
  rw [(hcol i hi).2,qyU,q7N hch (by omega) (by omega) (by omega) p.f hi]),ja6 r0]
 rfl
theorem PcIn.value (p:PcIn h D k total n):(∀ j:Nat,(j:Int) < k->0 <= pcI D j/\pcI D j < 256)/\(qgQ D k.toNat).Nodup/\pcN h D 0 <= 9000/\(∀ j:Nat,(j:Int) < k->pcN h D j = pcN h D 0)/\qqL h D k.toNat:=by
 have h1:=p.k1
 have h2:=p.k2
 have h3:=p.k3
 have h4:=p.kn
 have h5:=p.sol.2.2.2.2.2.1
 refine ⟨fun j hj=>?_,p.sol.2.2.2.2.1.2.1,by omega,fun j hj=>p.len j (by omega),fun j hj=>p.sol.2.2.2.1 j (by omega)⟩
 have:=p.idx j (by omega)
 omega
end Go.Proofs
namespace Go.Proofs
open Go Go.Eng
variable {h h':Hp} {D D':qf} {k total n index len e e':Int} {b b':Bool}
end Go.Proofs
namespace Go.Proofs
open Go Go.Eng
theorem q2u {k n t s l i:Int} {D:List (List Int)} {m:List Int} (h:qce k n t s l D i m = 0):qJ k n t s l = true/\0 <= i/\i < t/\(m.length:Int) = qea k s/\sha (qbV i ++ m) = D.getD i.toNat []:=by
 unfold qce at h
 by_cases h1:qJ k n t s l = false
 ·rw [jah h1] at h; omega
 rw [jaf h1] at h
 by_cases h2:i < 0∨t <= i
 ·rw [jah h2] at h; omega
 rw [jaf h2] at h
 by_cases h3:(m.length:Int) ≠ qea k s
 ·rw [jah h3] at h; omega
 rw [jaf h3] at h
 by_cases h4:sha (qbV i ++ m) ≠ D.getD i.toNat []
 ·rw [jah h4] at h; omega
 exact ⟨by simpa using h1,by omega,by omega,by omega,by simpa using h4⟩
theorem q3v {k n t s l:Int}:qJ k n t s l = true↔1 <= k/\k <= n/\n <= t/\t <= 255/\0 <= s/\s <= 8192/\l = t:=by
 simp [qJ,qbm,and_assoc]
theorem q5e {k s:Int} (hk:1 <= k) (hs:0 <= s):qea k s = plI k s:=by
 obtain ⟨k,rfl⟩:=Int.eq_ofNat_of_zero_le (show 0 <= k by omega)
 obtain ⟨s,rfl⟩:=Int.eq_ofNat_of_zero_le hs
 have e:((s:Int) + (k:Int) - 1) = ((s + k - 1:Nat):Int):=by omega
 unfold qea plI qF
 rw [e,Int.ofNat_tdiv]
 simp
end Go.Proofs
namespace Go.Eng
open Go Go.ChangeShapes Go.WideShapes Go.ChangeAt Go.RowKit
structure Grew (W w':World):Prop where
 os:w'.os = W.os
 out:w'.output = W.output
 blk:∀ (b:Nat) (o:Obj),W.heap[b]? = some o->w'.heap[b]? = some o
theorem Grew.block {W w':World} (h:Grew W w') {i:Nat} (hi:i < W.heap.size):w'.heap[i]? = W.heap[i]?:=by
 rw [jch hi]; exact h.blk i _ (jch hi)
theorem Grew.kept {W w':World} (h:Grew W w') (may:MemPlace->Prop):W.keptBut w' may:=by
 refine ⟨h.os,h.out,fun i hi=>?_⟩
 rw [h.block hi,jch hi]
 cases W.heap[i] <;> simp
theorem Grew.trodAll {H:Type} {enc:TypeId × Value->H} {P:Program} {W W':World} (hg:Grew W W') (hl:laidOutB P = true) {sp:Nat->Bool}:∀ {ts:List TypeId} {vs:List Value} {ds:List (DataW H)} {ps:List MemPlace},
  (∀ t ∈ ts,P.readableRec t = true/\t < P.types.size)->DataW.TrodAll enc P W 0 (fun _=>true) true ts vs ds ps->(∀ p ∈ ps,p.block < W.heap.size)->(∀ p ∈ ps,sp p.block = true) ->
  DataW.TrodAll enc P W' 0 sp true ts vs ds ps
 | [],[],[],_,_,h,_,_=>h
 | _ :: _,_ :: _,_ :: _,_,hT,⟨p,q,h1,h2,e⟩,hlt,hs=>by
  subst e
  refine ⟨p,q,?_,Grew.trodAll hg hl (fun t ht=>hT t (jab _ ht)) h2 (fun x hx=>hlt x (jck _ hx)) (fun x hx=>hs x (jck _ hx)),rfl⟩
  have hr:=hT _ (jae ..)
  refine WideElems.Trod_stays hl hr.1 hr.2 h1 (fun x hx=>?_) (fun x hx=>hs x (jbn _ hx))
  have hb:=hg.block (hlt x (jbn _ hx))
  cases x with
  | cell b o=>exact World.cell?_of_block (w:=W) hb
  | map b=>exact hb
theorem q3c {P:Program} {c:Ctr} (hok:c.ok P) (hheap:c.heap = []) (halts:∀ al ∈ c.alts,al.ret = .one (.vbool (.bl true))) {Z:Env} (hg:Z.good) (W:World)
  (hro:∀ x ∈ c.ro,x.roden Z (fun b=>W.heap[b]?)) (hpre:c.pre Z) :
  Calls P c.fn (c.args.map (SV.den Z)).toArray W fun e W'=>e = .returned (.bool true)/\Grew W W':=by
 have h:=hok.2 Z W ⟨fun b=>W.heap[b]?,W.os,W.output⟩ Hp.emp hg (Hp.disj_emp _)
  ⟨fun b o hb=>by simpa [Hp.union,Hp.emp] using hb,rfl,rfl⟩ (by rw [hheap]; trivial) hro hpre
 refine h.mono fun e w' hq=>?_
 obtain ⟨ai,al,Z',hal,_,_,rfl,_,hO,_,_,hsub,hwi⟩:=hq
 refine ⟨by rw [halts al (jbg hal)]; rfl,⟨hwi.1,hwi.2,fun b o hb=>hsub b o ?_⟩⟩
 simp [Hp.union,hb]
theorem q5G {H:Type} {enc:TypeId × Value->H} {P:Program} {f:Func} {s:ChangeSpec} {W W':World} {args:Array Value} {ds gs:List (DataW H)} {before:List MemPlace} {bt:TypeId}
  (hl:laidOutB P = true) (hT:∀ t ∈ f.params.toList,P.readableRec t = true/\t < P.types.size) (hvars:s.vars = []) (hrt:f.resultTypes = #[bt]) (hbt:P.underlying bt = some .bool)
  (hfn:∀ ds':List (DataW H),ds'.length = f.params.size->s.fn H ds' = { results:=[.lit (.bool true)],args:=ds' })
  (hW:DataW.Whole enc P f.params.toList s.vars false W args.toList ds gs before) (hg:Grew W W'):s.post enc P f false true false false W args (.bool true) W':=by
 have hlt:=hW.lt
 have hW0:=hW
 obtain ⟨p,q,hA,hV,hpq,hz,hn⟩:=hW
 rw [hvars] at hV
 obtain ⟨rfl,rfl⟩:=trodVars_none hV
 have hlen:ds.length = f.params.size:=by
  have:∀ {ts:List TypeId} {vs:List Value} {ds:List (DataW H)} {ps:List MemPlace},DataW.TrodAll enc P W 0 (fun _=>true) true ts vs ds ps->ds.length = ts.length:=by
   intro ts
   induction ts with
   | nil=>intro vs ds ps h; cases vs <;> cases ds <;> simp_all [DataW.TrodAll]
   | cons t ts ih =>
    intro vs ds ps h
    cases vs <;> cases ds <;> simp_all [DataW.TrodAll]
    obtain ⟨p,q,_,h2,_⟩:=h
    exact ih h2
  simpa using this hA
 have hlt':∀ x ∈ p,x.block < W.heap.size:=fun x hx=>hlt x (by rw [hpq]; exact jbn _ hx)
 refine ⟨ds,[],before,[],p,[],hW0,?_,?_,?_,hg.kept _,fun h=>by cases h⟩
 ·rw [jcl,hfn ds hlen,hrt]
  exact ⟨[],[],⟨1,by simp [DataW.trod,hbt,Value.cells]⟩,rfl,rfl⟩
 ·rw [jcl,hfn ds hlen]
  exact hg.trodAll hl hT hA hlt' (fun x hx=>by simpa using hlt' x hx)
 ·rw [jcl,hfn ds hlen,hvars]
  rfl
theorem q5m {H:Type} {enc:TypeId × Value->H} {P:Program} {f:Func} {s:ChangeSpec} {c:Ctr} {W:World} {args:Array Value} {ds gs:List (DataW H)} {before:List MemPlace} {bt:TypeId} {Z:Env}
  (hok:c.ok P) (hheap:c.heap = []) (halts:∀ al ∈ c.alts,al.ret = .one (.vbool (.bl true)))
  (hl:laidOutB P = true) (hT:∀ t ∈ f.params.toList,P.readableRec t = true/\t < P.types.size) (hvars:s.vars = []) (hrt:f.resultTypes = #[bt]) (hbt:P.underlying bt = some .bool)
  (hfn:∀ ds':List (DataW H),ds'.length = f.params.size->s.fn H ds' = { results:=[.lit (.bool true)],args:=ds' })
  (hW:DataW.Whole enc P f.params.toList s.vars false W args.toList ds gs before)
  (hg:Z.good) (hargs:args = (c.args.map (SV.den Z)).toArray) (hro:∀ x ∈ c.ro,x.roden Z (fun b=>W.heap[b]?)) (hpre:c.pre Z) :
  Calls P c.fn args W fun e W'=>∃ v,e = .returned v/\s.post enc P f false true false false W args v W':=by
 rw [hargs]
 refine (q3c hok hheap halts hg W hro hpre).mono fun e W' ⟨he,hgr⟩=>⟨_,he,?_⟩
 rw [<- hargs]
 exact q5G hl hT hvars hrt hbt hfn hW hgr
def qpW (P:Program) (f:TypeId->Option (List CK)):List Field->Nat->Option (List CK)
 | [],_=>some []
 | x :: fs,off =>
  if Nat.beq x.offset off then
   match f x.type with
   | some p=>if Nat.beq p.length (P.cellsOf x.type) then (qpW P f fs (off + p.length)).map (p ++ ·) else none
   | none=>none
  else none
def qlR (p:List CK):Nat->List CK
 | 0=>[]
 | n + 1=>p ++ qlR p n
def qiB (P:Program):Nat->TypeId->Option (List CK)
 | 0,_=>none
 | n + 1,t =>
  match P.underlying t with
  | some (.int k)=>some [.int k]
  | some .bool=>some [.bool]
  | some .string=>some [.any]
  | some (.slice _)=>some [.any]
  | some (.pointer _)=>some [.any]
  | some (.struct fs)=>match qpW P (qiB P n) fs.toList 0 with
   | some p=>if Nat.beq p.length (P.cellsOf t) then some p else none
   | none=>none
  | some (.array m e)=>match qiB P n e with
   | some p=>if Nat.beq p.length (P.cellsOf e) && Nat.beq (P.cellsOf t) (m * P.cellsOf e) then some (qlR p m) else none
   | none=>none
  | _=>none
theorem qjv {p q:List CK} {cs:List Value} (h1:qt p (cs.take p.length)) (h2:qt q (cs.drop p.length)):qt (p ++ q) cs:=by
 obtain ⟨a1,a2⟩:=h1
 obtain ⟨b1,b2⟩:=h2
 have hle:p.length <= cs.length:=by simp at a1; omega
 refine ⟨by simp at a1 b1 ⊢; omega,fun c k v hk hv=>?_⟩
 by_cases hc:c < p.length
 ·rw [jau hc] at hk
  exact a2 c k v hk (by rw [jbh,jah hc]; exact hv)
 ·rw [jap (by omega)] at hk
  exact b2 (c - p.length) k v hk (by rw [jbd,show p.length + (c - p.length) = c by omega]; exact hv)
section
variable {H:Type} {enc:TypeId × Value->H} {P:Program} {w:World} {base:Nat} {spare:Nat->Bool} {held:Bool}
theorem qfi {v:Value} (h:v.oneCell' = true):qt [.any] [v]:=⟨rfl,fun c k v' hk hv=>by
 cases c with
 | zero=>simp at hk hv; subst hk; subst hv; exact h
 | succ c=>simp at hk⟩
theorem qo7 {f:TypeId->Option (List CK)} {cs:List Value} (hf:∀ t p,f t = some p->∀ cs',(∃ fuel x,DataW.trod enc P w base spare held fuel t cs' = some x)->qt p cs') :
  ∀ {fs:List Field} {off:Nat} {p:List CK},qpW P f fs off = some p->(∀ x ∈ fs,∃ fuel y,DataW.trod enc P w base spare held fuel x.type ((cs.drop x.offset).take (P.cellsOf x.type)) = some y)->off + p.length = cs.length->qt p (cs.drop off)
 | [],off,p,h,_,hl=>by
  simp only [qpW,jaa] at h; subst h
  simp at hl
  refine ⟨by simp; omega,fun c k v hk=>by simp at hk⟩
 | x :: fs,off,p,h,ht,hl=>by
  simp only [qpW] at h
  split at h
  ·rename_i ho
   have ho:=Nat.eq_of_beq_eq_true ho
   split at h
   ·rename_i p1 hp1
    split at h
    ·rename_i hc
     have hc:=Nat.eq_of_beq_eq_true hc
     simp only [jai] at h
     obtain ⟨p2,hp2,rfl⟩:=h
     simp only [jal] at hl
     have h1:=hf x.type p1 hp1 _ (ht x (jae ..))
     rw [ho,<- hc] at h1
     have h2:=qo7 hf hp2 (fun y hy=>ht y (jab _ hy)) (by omega)
     exact qjv h1 (by rw [jfw]; exact h2)
    ·simp at h
   ·simp at h
  ·simp at h
theorem qng {p:List CK}:∀ {m:Nat} {cs:List Value},cs.length = m * p.length->(∀ i,i < m->qt p ((cs.drop (i * p.length)).take p.length))->qt (qlR p m) cs
 | 0,cs,hl,_=>by
  simp at hl; subst hl
  exact ⟨rfl,fun c k v hk=>by simp [qlR] at hk⟩
 | m + 1,cs,hl,h=>by
  simp only [qlR]
  refine qjv (by simpa using h 0 (by omega)) (qng (by rw [jc4,hl,jbr]; omega) fun i hi=>?_)
  rw [jfw,show p.length + i * p.length = (i + 1) * p.length by rw [jbr]; omega]
  exact h (i + 1) (by omega)
theorem qlY:∀ (n:Nat) {t:TypeId} {pat:List CK},qiB P n t = some pat->∀ cs,(∃ fuel x,DataW.trod enc P w base spare held fuel t cs = some x)->qt pat cs
 | 0,t,pat,h,_,_=>by simp [qiB] at h
 | n + 1,t,pat,h,cs,⟨fuel,x,hx⟩=>by
  simp only [qiB] at h
  split at h
  ·rename_i k hu
   simp only [jaa] at h; subst h
   obtain ⟨z,rfl,_,_⟩:=DataW.trod_int hu hx
   refine ⟨rfl,fun c k' v hk hv=>?_⟩
   cases c with
   | zero=>simp at hk hv; subst hk; subst hv; simp [CK.fits]
   | succ c=>simp at hk
  ·rename_i hu
   simp only [jaa] at h; subst h
   cases fuel with
   | zero=>simp [DataW.trod] at hx
   | succ m =>
    unfold DataW.trod at hx
    rw [hu] at hx
    split at hx <;> simp_all
    refine ⟨rfl,fun c k' v hk hv=>?_⟩
    cases c with
    | zero=>simp at hk hv; subst hk; subst hv; simp [CK.fits]
    | succ c=>simp at hk
  ·rename_i hu
   simp only [jaa] at h; subst h
   cases fuel with
   | zero=>simp [DataW.trod] at hx
   | succ m =>
    unfold DataW.trod at hx
    rw [hu] at hx
    split at hx <;> simp_all
    exact qfi rfl
  ·rename_i e hu
   simp only [jaa] at h; subst h
   rcases DataW.trod_slice hu hx with ⟨rfl,_⟩ | ⟨a,len,cap,elems,rest,m,_,rfl,_⟩
   ·exact qfi rfl
   ·exact qfi rfl
  ·rename_i e hu
   simp only [jaa] at h; subst h
   cases fuel with
   | zero=>simp [DataW.trod] at hx
   | succ m =>
    unfold DataW.trod at hx
    rw [hu] at hx
    split at hx <;> simp_all
    all_goals exact qfi rfl
  ·rename_i fs hu
   split at h
   ·rename_i p hp
    split at h
    ·rename_i hc
     have hc:=Nat.eq_of_beq_eq_true hc
     simp only [jaa] at h; subst h
     obtain ⟨xs,m,_,_,hl,hxl,hall⟩:=DataW.trod_struct hu hx
     have:=qo7 (cs:=cs) (f:=qiB P n) (fun t p hp cs' hh=>qlY n hp cs' hh) hp (fun y hy=>by
      obtain ⟨i,hi⟩:=ja8 hy
      have hi':fs[i]? = some y:=by simpa using hi
      have h1:=hall i y hi'
      have hlt:i < xs.length:=by
       rw [hxl]; exact (jb7.1 hi').1
      exact ⟨m,xs[i],by rw [h1]; simp [hlt]⟩) (by omega)
     simpa using this
    ·simp at h
   ·simp at h
  ·rename_i m e hu
   split at h
   ·rename_i p hp
    split at h
    ·rename_i hc
     simp only [jag] at hc
     have hc1:=Nat.eq_of_beq_eq_true hc.1
     have hc2:=Nat.eq_of_beq_eq_true hc.2
     simp only [jaa] at h; subst h
     obtain ⟨xs,k,_,_,hl,hxl,hall⟩:=DataW.trod_array hu hx
     refine qng (by rw [hl,hc2,hc1]) fun i hi=>?_
     have h1:=hall i hi
     rw [<- hc1] at h1
     exact qlY n hp _ ⟨k,xs[i]'(by omega),by rw [h1]; simp [hxl,hi]⟩
    ·simp at h
   ·simp at h
  ·simp at h
theorem qpe {a:Addr} {n:Nat} {cs:List Value} (h:w.cells? base a n = some cs):cs.length = n/\∀ i,i < n->w.cell? (a.add i) = cs[i]?:=by
 unfold World.cells? at h
 split at h
 ·exact ⟨by simpa using mapM_some_length h,fun i hi=>by simpa using mapM_some_get h i i (by simp [hi])⟩
 ·simp at h
theorem qsi {t e:TypeId} {pat:List CK} {n:Nat} {v:Value} {d:DataW H} {ps:List MemPlace} (ht:P.underlying t = some (.slice e)) (hpat:qiB P n e = some pat) (hce:P.cellsOf e = pat.length) (hpos:0 < pat.length)
  {fuel:Nat} (hsp:∀ b,spare b = true) (hf:DataW.trod enc P w base spare held fuel t [v] = some (d,ps)) :
  ∃ rows:List (List Value),Rd (fun b=>w.heap[b]?) pat v rows/\(∀ row ∈ rows,∃ fuel x,DataW.trod enc P w base spare held fuel e row = some x) /\
   ((d = .nil/\rows = [])∨∃ elems sp,d = .slice elems sp/\elems.length = rows.length/\∀ (i:Nat) (row:List Value),rows[i]? = some row->∃ fuel x,DataW.trod enc P w base spare held fuel e row = some x/\elems[i]? = some x.1):=by
 rcases DataW.trod_slice ht hf with ⟨h1,h2⟩ | ⟨a,len,cap,elems,rest,m,_,h1,h2,hb,hlc,hcm,hel,hall,hrest,_⟩
 ·simp at h1 h2
  exact ⟨[],.inl ⟨_,h1,rfl⟩,by simp,.inl ⟨h2.1,rfl⟩⟩
 ·simp at h1 h2
  subst h1
  have hrow:∀ i,i < len->∃ cs x,w.cells? base (a.add (i * P.cellsOf e)) (P.cellsOf e) = some cs/\DataW.trod enc P w base spare held m e cs = some x/\elems[i]? = some x:=fun i hi=>by
   have:=hall i hi
   rw [jac (by omega)] at this
   obtain ⟨cs,g1,g2⟩:=jak.1 this
   exact ⟨cs,_,g1,g2,jac _⟩
  let rows:List (List Value):=(List.range len).map fun i=>((w.cells? base (a.add (i * P.cellsOf e)) (P.cellsOf e)).getD [])
  have hget:∀ i row,rows[i]? = some row->i < len/\w.cells? base (a.add (i * P.cellsOf e)) (P.cellsOf e) = some row:=fun i row hr=>by
   simp only [rows,jan,jai] at hr
   obtain ⟨j,hj,rfl⟩:=hr
   have hlt:i < len:=by
    have:=(jam.1 hj).1; simpa using this
   rw [jbx hlt] at hj
   simp only [jaa] at hj; subst hj
   obtain ⟨cs,x,g1,_,_⟩:=hrow i hlt
   exact ⟨hlt,by rw [g1]; rfl⟩
  have hrl:rows.length = len:=by simp [rows]
  have htr:∀ row ∈ rows,∃ fuel x,DataW.trod enc P w base spare held fuel e row = some x:=fun row hr=>by
   obtain ⟨i,hi⟩:=ja8 hr
   obtain ⟨hlt,hc⟩:=hget i row hi
   obtain ⟨cs,x,g1,g2,_⟩:=hrow i hlt
   rw [hc] at g1
   simp only [jaa] at g1; subst g1
   exact ⟨m,x,g2⟩
  refine ⟨rows,?_,htr,.inr ⟨_,_,h2.1,by simp [hel,hrl],fun i row hi=>?_⟩⟩
  rotate_left
  ·obtain ⟨hlt,hc⟩:=hget i row hi
   obtain ⟨cs,x,g1,g2,g3⟩:=hrow i hlt
   rw [hc] at g1
   simp only [jaa] at g1; subst g1
   exact ⟨m,x,g2,by simp [g3]⟩
  by_cases hcap:cap = 0
  ·have hl0:len = 0:=by omega
   have:rows = []:=by apply jdj; omega
   exact .inl ⟨some a,by rw [hl0,hcap],this⟩
  have hfirst:∃ cs,w.cells? base (a.add 0) (P.cellsOf e) = some cs:=by
   by_cases hl:0 < len
   ·obtain ⟨cs,_,g1,_,_⟩:=hrow 0 hl
    rw [je9] at g1
    exact ⟨cs,g1⟩
   ·obtain ⟨r1,r2⟩:=hrest (hsp _)
    have:=r2 0 (by omega)
    rw [show (len + 0) * P.cellsOf e = 0 by rw [show len + 0 = 0 by omega]; simp,jac (by omega)] at this
    obtain ⟨cs,g1,_⟩:=jak.1 this
    exact ⟨cs,g1⟩
  obtain ⟨cs0,hc0⟩:=hfirst
  obtain ⟨hl0,hg0⟩:=qpe hc0
  have h00:=hg0 0 (by omega)
  rw [show (a.add 0).add 0 = a from rfl,jac (by omega)] at h00
  obtain ⟨ab,ao,asp⟩:=a
  have hblk0:=h00
  unfold World.cell? at hblk0
  split at hblk0
  ·rename_i c ty fr hblk
   simp only at hblk
   have hsp0:asp = none:=by
    cases asp with
    | none=>rfl
    | some s=>simp at hblk0
   subst hsp0
   refine .inr ⟨ab,ao,cap,c,ty,fr,by rw [hrl],by omega,hblk,fun i row hi=>?_⟩
   obtain ⟨hlt,hc⟩:=hget i row hi
   refine ⟨qlY n hpat row (htr row (jbg hi)),fun k x hk=>?_⟩
   obtain ⟨hl1,hg⟩:=qpe hc
   have hkl:k < P.cellsOf e:=by
    rw [<- hl1]; exact (jam.1 hk).1
   have:=hg k hkl
   rw [hk,hce] at this
   rw [Go.Eng.addr_add,Go.Eng.addr_add,qaU hblk] at this
   exact this
  ·simp at hblk0
end
theorem okWide_slice {P:Program} {w:World} {r:Go.Reach} {b:Nat} {t e:TypeId} {v:Value} (ht:P.underlying t = some (.slice e)) (h:Value.okWide P w r b t v) :
  v.cells = #[v]/\∀ a len cap,v = .slice (some a) len cap->a.spot = none/\(w.shape? a.block).isSome = true:=by
 simp only [Value.okWide,ht,Cell.okWide,Cell.ok] at h
 cases v <;> simp_all [Value.cells]
 rename_i a len cap
 intro a' ha
 subst ha
 obtain ⟨_,_,_,h1,row,cells,h2,_⟩:=h
 exact ⟨h1,by rw [h2]; rfl⟩
end Go.Eng
namespace Go.Eng
open Go Go.Proofs
def qp7:Ctr:={ qjS with pre:=fun Z=>qjS.pre Z/\qbm (Z 2).i (Z 3).i (Z 4).i = true/\(Z 6).i <= 8192,alts:=[{ k:=9,ret:=.tup [(true,qiH 2 3 4 6 12 13 4 14),(false,[.vslice 15 (.lit 0) (.var 4) (.var 16) 2]),qc3 (.lit 0)],heap:=[fHp 17,qfn 13 18 14,.arr 15 86 qj1 (.var 19) (.var 16),.abs 20 10],post:=fun Z=>qx (Z 17).d/\qbm (Z 2).i (Z 3).i (Z 4).i = true/\(Z 6).i <= 8192/\(Z 19).d.length = (Z 4).i.toNat/\qff (Z 20).h (Z 19).d (Z 4).i.toNat (qdt (Z 2).i.toNat (Z 4).i.toNat (bI (Z 8).d))/\qd (Z 12).d 32 = sha (bI (Z 8).d)/\qft (Z 18).d/\dgs (Z 18).d = qdj (qdt (Z 2).i.toNat (Z 4).i.toNat (bI (Z 8).d)) (Z 4).i.toNat }] }
end Go.Eng
namespace Go.Proofs
open Go Go.Eng
section
variable {k total:Nat} {data:List Int}
end
section
variable {h:Hp} {P:qf} {k n t s l:Int} {data:List Int} {G:qf}
theorem q5M {f:Nat->List Int} {m:Nat} {x:Int} (x0:0 <= x) (x1:x < m):(qdj f m).getD x.toNat [] = sha (qbV x ++ f x.toNat):=by
 unfold qdj
 rw [jad,jan,jbx (by omega)]
 simp only [jav,ja2]
 rw [ja6 x0]
theorem q3E {x:Int} {m:List Int} (hM:qJ k n t s l = true) (hb:qz data) (hsz:s = data.length) (hG:dgs G = qdj (qdt k.toNat t.toNat data) t.toNat) (x0:0 <= x) (x1:x < t) (hm:m = qdt k.toNat t.toNat data x.toNat):qce k n t s l (dgs G) x m = 0:=by
 obtain ⟨k1,k2,k3,k4,s0,s1,htl⟩:=q3v.1 hM
 have hl:(m.length:Int) = qea k s:=by
  rw [hm,(q0J (by omega) (by omega) (by omega) hb _).1,q5e k1 s0,hsz]
  unfold plI
  simp
 have hS:sha (qbV x ++ m) = (dgs G).getD x.toNat []:=by rw [hm,hG,q5M x0 (by omega)]
 rw [qce,jaf (by rw [hM]; decide),jaf (by omega),jaf (fun h=>h hl),jaf (fun h=>h hS)]
end
section
variable {h h':Hp} {D S L:qf} {n i:Nat} {t:Int} {f:Nat->List Int}
end
section
variable {h h0:Hp} {P P0 G R:qf} {k n t s l x e y m:Int} {data O:List Int} {N N':Nat}
end
section
variable {h h':Hp} {S L:qf} {i n j i':Int} {t:Int} {f:Nat->List Int}
end
section
variable {h h0:Hp} {D D0 G:qf} {T:Nat} {t:Int} {f:Nat->List Int} {N N' M:Nat}
end
theorem q57:qp7.ok Tryz.prog:=by
 refine ⟨qxG.1,fun Z w hF hO hg hd hw hs hro hp=>?_⟩
 obtain ⟨hp,hs3,h8⟩:=hp
 refine (qxG.2 Z w hF hO hg hd hw hs hro hp).mono fun e w' h=>?_
 obtain ⟨ai,al,Z',h1,h2,hZ,h4,hpost,h6⟩:=h
 match ai,h1 with
 | 0,h1 =>
  obtain rfl:=(jaz h1).symm
  exfalso
  have e2:=hZ 2 (by decide)
  have e3:=hZ 3 (by decide)
  have e4:=hZ 4 (by decide)
  have e6:=hZ 6 (by decide)
  obtain ⟨_,⟨h1,_⟩ | ⟨_,h1,_⟩⟩:=hpost
  ·change qbm (Z' 2).i (Z' 3).i (Z' 4).i = false at h1
   rw [e2,e3,e4,hs3] at h1; cases h1
  ·change 8192 < (Z' 6).i at h1
   rw [e6] at h1; omega
 | 1,h1 =>
  obtain rfl:=(jaz h1).symm
  exact ⟨0,_,Z',rfl,h2,hZ,h4,hpost,h6⟩
 | ai + 2,h1=>simp [qjS] at h1
end Go.Proofs
namespace Go.Eng
open Go Go.Proofs
def qk (d:qf):List Int:=d.map fun row=>qaJ row 0
def qqT:List CK:=List.replicate 16 .bool
def b16 (n:Nat):SV:=.agg ((List.range 16).map fun i=>.c1 .vbool (.var (n + i)))
def qpk (x:Int):Bool:=decide (0 <= x/\x < 16)
def qfh:Ctr:={ fn := 100,nv:=1,args:=[iv .i64 (.var 0)],heap:=[],ro:=[],pre:=fun _=>True,alts:=[{ k:=1,ret:=.one (.vbool (.var 1)),heap:=[],post:=fun Z=>(Z 1).b = qpk (Z 0).i }] }
def qbL (r:Nat):SH:=iHp r (r + 3) (r + 4)
def qay (Z:Env) (r:Nat):Prop:=(Z (r + 1)).i = (Z (r + 3)).d.length/\(Z (r + 1)).i <= 1000000000000/\∀ row ∈ (Z (r + 3)).d,row.length = 1
def qeq (l:List Bool) (L:List Int):Prop:=l.length = 16/\∀ j:Nat,j < 16->(l.getD j false = true↔(j:Int) ∈ L)
def qi8:Ctr:={ fn := 82,nv:=5,args:=[bS 0],heap:=[],ro:=[qbL 0],pre:=fun Z=>qay Z 0,alts:=[
 { k:=16,ret:=b16 5,heap:=[],post:=fun Z=>qeq [(Z 5).b,(Z 6).b,(Z 7).b,(Z 8).b,(Z 9).b,(Z 10).b,(Z 11).b,(Z 12).b,(Z 13).b,(Z 14).b,(Z 15).b,(Z 16).b,(Z 17).b,(Z 18).b,(Z 19).b,(Z 20).b] (qk (Z 3).d) }] }
def qdh (s:qf) (l:List Int) (n:Nat):Prop:=(∃ row,s = [row]/\row.length = 16)/\∀ x:Int,0 <= x->x < 16->(qaV s x.toNat = true↔x ∈ l.take n)
def qty:Inv:={ key:=2,nv:=3,env:=[(2,.one (.vptr 1000 (.lit 0) 16 0)),(5,bS 0),(6,iv .i64 (.var 1)),(7,iv .i64 (.var 1002))],heap:=[.arr 1000 157 qqT (.var 1001) (.lit 1)],inv:=(fun Z=>0 <= (Z 1002).i/\(Z 1002).i <= (Z 1).i/\qdh (Z 1001).d (qk (Z 3).d) (Z 1002).i.toNat),mu:=(fun Z=>((Z 1).i - (Z 1002).i).toNat) }
def qP (o:List Int) (p:Int):List Int:=sha (o ++ [p % 256])
def qg7:Ctr:={ fn := 24,nv:=4,ip:=[gIp 2,(1005,9)],args:=[dgV 0,iv .i64 (.var 1)],heap:=[],ro:=[gHp 2 3],pre:=fun Z=>qH (qd (Z 0).d 32)/\gOk Z 2 3 gR,alts:=[
 { k:=1,ret:=dgV 4,heap:=[],post:=fun Z=>qd (Z 4).d 32 = qP (qd (Z 0).d 32) (Z 1).i }] }
def qjd:Ctr:={ fn := 25,nv:=4,ip:=[gIs 2],args:=[dgV 0,iv .i64 (.var 1)],heap:=[],ro:=[gHp 2 3],pre:=fun Z=>qH (qd (Z 0).d 32)/\gOk Z 2 3 gS,alts:=[
 { k:=1,ret:=dgV 4,heap:=[],post:=fun Z=>qd (Z 4).d 32 = qP (qd (Z 0).d 32) (Z 1).i }] }
def rkV (p d:Nat):SV:=.agg (.vint .i64 (.var p) :: qaF .u8 d 32)
def qjK:Ctr:={ fn := 80,nv:=4,ip:=[gIp 2],args:=[dgV 0,iv .i64 (.var 1)],heap:=[],ro:=[gHp 2 3],pre:=fun Z=>qH (qd (Z 0).d 32)/\gOk Z 2 3 gR,alts:=[
 { k:=2,ret:=.agg (.vint .i64 (.var 1) :: qaF .u8 4 32),heap:=[],post:=fun Z=>qd (Z 4).d 32 = qP (qd (Z 0).d 32) (Z 1).i }] }
def qbl:List Int->List Int->Int
 | [],[]=>0
 | [],_ :: _=>-1
 | _ :: _,[]=>1
 | a :: l,b :: m=>if a < b then -1 else if b < a then 1 else qbl l m
def kRk:List CK:=.int .i64 :: List.replicate 32 (.int .u8)
def qpI:Ctr:={ fn := 118,nv:=4,args:=[.one (.vslice 0 (.lit 1) (.lit 32) (.lit 32) 1),.one (.vslice 1 (.lit 1) (.lit 32) (.lit 32) 1)],heap:=[],ro:=[.arr 0 153 kRk (.var 2) (.lit 1),.arr 1 153 kRk (.var 3) (.lit 1)],pre:=fun Z=>qC (Z 2).d 33/\qC (Z 3).d 33/\qH ((qd (Z 2).d 33).drop 1)/\qH ((qd (Z 3).d 33).drop 1),alts:=[
 { k:=1,ret:=iv .i64 (.var 4),heap:=[],post:=fun Z=>(Z 4).i = qbl ((qd (Z 2).d 33).drop 1) ((qd (Z 3).d 33).drop 1) }] }
def qh2:Ctr:={ fn := 81,nv:=4,args:=[rkV 0 1,rkV 2 3],heap:=[],ro:=[],pre:=fun Z=>qH (qd (Z 1).d 32)/\qH (qd (Z 3).d 32),alts:=[
 { k:=1,ret:=iv .i64 (.var 4),heap:=[],post:=fun Z=>(Z 4).i = if qbl (qd (Z 1).d 32) (qd (Z 3).d 32) = 0 then qe .sub .i64 (Z 0).i (Z 2).i else qbl (qd (Z 1).d 32) (qd (Z 3).d 32) }] }
def qO (o:List Int) (a b:Int):Bool:=if qP o a = qP o b then decide (a < b) else decide (qbl (qP o a) (qP o b) < 0)
def qdR:Ctr:={ fn := 26,nv:=5,ip:=[gIp 3],args:=[dgV 0,iv .i64 (.var 1),iv .i64 (.var 2)],heap:=[],ro:=[gHp 3 4],pre:=fun Z=>qH (qd (Z 0).d 32)/\gOk Z 3 4 gR,alts:=[
 { k:=1,ret:=.one (.vbool (.var 5)),heap:=[],post:=fun Z=>(Z 5).b = qO (qd (Z 0).d 32) (Z 1).i (Z 2).i }] }
def qhL:Ctr:={ fn := 27,nv:=5,ip:=[gIs 3],args:=[dgV 0,iv .i64 (.var 1),iv .i64 (.var 2)],heap:=[],ro:=[gHp 3 4],pre:=fun Z=>qH (qd (Z 0).d 32)/\gOk Z 3 4 gS,alts:=[
 { k:=1,ret:=.one (.vbool (.var 5)),heap:=[],post:=fun Z=>(Z 5).b = qO (qd (Z 0).d 32) (Z 1).i (Z 2).i }] }
def qcT (o:List Int) (a b:Int):Int:=if qP o a = qP o b then a - b else qbl (qP o a) (qP o b)
def qm9 (o:List Int) (s out:List Int):Prop:=out.Perm s/\out.Pairwise fun a b=>qO o a b = true
def qbb (l:List Int):List Int:=((List.range 16).map fun (i:Nat)=>(i:Int)).filter fun x=>decide (x ∈ l)
end Go.Eng
namespace Go.Proofs
open Go Go.Eng
theorem qeT:∀ {a b:List Int},qbl a b = 0↔a = b
 | [],[]=>by simp [qbl]
 | [],_ :: _=>by simp [qbl]
 | _ :: _,[]=>by simp [qbl]
 | x :: a,y :: b=>by
  unfold qbl
  by_cases h1:x < y
  ·rw [jah h1]
   constructor
   ·intro h; omega
   ·intro h; injection h; omega
  ·rw [jaf h1]
   by_cases h2:y < x
   ·rw [jah h2]
    constructor
    ·intro h; omega
    ·intro h; injection h; omega
   ·rw [jaf h2,qeT]
    have:x = y:=by omega
    subst this
    simp
theorem qvm:∀ {a b:List Int},qbl b a = - qbl a b
 | [],[]=>rfl
 | [],_ :: _=>rfl
 | _ :: _,[]=>rfl
 | x :: a,y :: b=>by
  unfold qbl
  by_cases h1:x < y
  ·rw [jah h1,jaf (by omega),jah h1]; rfl
  ·by_cases h2:y < x
   ·rw [jah h2,jaf h1,jah h2]
   ·rw [jaf h2,jaf h1,jaf h1,jaf h2]; exact qvm
theorem qpQ:∀ {a b c:List Int},qbl a b < 0->qbl b c < 0->qbl a c < 0
 | [],[],_,h,_=>by simp [qbl] at h
 | [],_ :: _,[],_,h=>by simp [qbl] at h
 | [],_ :: _,_ :: _,_,_=>by simp [qbl]
 | _ :: _,[],_,h,_=>by simp [qbl] at h
 | _ :: _,_ :: _,[],_,h=>by simp [qbl] at h
 | x :: a,y :: b,z :: c,h1,h2=>by
  unfold qbl at h1 h2 ⊢
  by_cases a1:x < y
  ·by_cases b1:y < z
   ·rw [jah (by omega)]; decide
   ·rw [jaf b1] at h2
    by_cases b2:z < y
    ·rw [jah b2] at h2; omega
    ·rw [jah (by omega)]; decide
  ·rw [jaf a1] at h1
   by_cases a2:y < x
   ·rw [jah a2] at h1; omega
   ·rw [jaf a2] at h1
    have e:x = y:=by omega
    subst e
    by_cases b1:x < z
    ·rw [jah b1]; decide
    ·rw [jaf b1] at h2 ⊢
     by_cases b2:z < x
     ·rw [jah b2] at h2; omega
     ·rw [jaf b2] at h2 ⊢
      exact qpQ h1 h2
variable {o:List Int} {a b c:Int}
theorem qeW:qO o a b = decide (qcT o a b < 0):=by
 unfold qO qcT
 by_cases h:qP o a = qP o b
 ·rw [jah h,jah h]
  exact decide_eq_decide.2 ⟨fun h=>by omega,fun h=>by omega⟩
 ·rw [jaf h,jaf h]
theorem qeO:qcT o a b = 0↔a = b:=by
 unfold qcT
 by_cases h:qP o a = qP o b
 ·rw [jah h]; omega
 ·rw [jaf h,qeT]
  exact ⟨fun h'=>(h h').elim,fun h'=>by rw [h']⟩
theorem qke:qcT o b a = - qcT o a b:=by
 unfold qcT
 by_cases h:qP o a = qP o b
 ·rw [jah h,jah h.symm]; omega
 ·rw [jaf h,jaf (fun h'=>h h'.symm),qvm]
theorem qkw (h1:qcT o a b < 0) (h2:qcT o b c < 0):qcT o a c < 0:=by
 unfold qcT at h1 h2 ⊢
 by_cases e1:qP o a = qP o b
 ·rw [jah e1] at h1
  by_cases e2:qP o b = qP o c
  ·rw [jah e2] at h2
   rw [jah (e1.trans e2)]; omega
  ·rw [jaf e2] at h2
   rw [jaf (by rw [e1]; exact e2),e1]; exact h2
 ·rw [jaf e1] at h1
  by_cases e2:qP o b = qP o c
  ·rw [jaf (by rw [<- e2]; exact e1),<- e2]; exact h1
  ·rw [jaf e2] at h2
   have h3:=qpQ h1 h2
   by_cases e3:qP o a = qP o c
   ·rw [e3,qeT.2 rfl] at h3; omega
   ·rw [jaf e3]; exact h3
theorem q2y (h1:qO o a b = true) (h2:qO o b c = true):qO o a c = true:=by
 rw [qeW,jbc] at h1 h2 ⊢
 exact qkw h1 h2
theorem qyR:qO o a a = false:=by
 rw [qeW,qeO.2 rfl]; rfl
theorem q2j (h:qO o a b = true):qO o b a = false:=by
 rw [qeW,jbc] at h
 rw [qeW,decide_eq_false_iff_not,qke]; omega
theorem qsq (h:a ≠ b):qO o a b = true∨qO o b a = true:=by
 rw [qeW,qeW,jbc,jbc,qke (a:=a) (b:=b)]
 have:¬ qcT o a b = 0:=fun h'=>h (qeO.1 h')
 omega
theorem qr9:∀ {l m:List Int},l.Perm m->(l.Pairwise fun a b=>qO o a b = true)->(m.Pairwise fun a b=>qO o a b = true)->l = m
 | [],m,h,_,_=>(List.Perm.nil_eq h)
 | x :: l,[],h,_,_=>by simp at h
 | x :: l,y :: m,h,h1,h2=>by
  rw [jfn] at h1 h2
  have hxy:x = y:=by
   rcases jbo.1 (h.subset (jae ..)) with e | e
   ·exact e
   ·rcases jbo.1 (h.symm.subset (jae ..)) with e' | e'
    ·exact e'.symm
    ·have a1:=h2.1 x e
     have a2:=h1.1 y e'
     rw [q2j a1] at a2; cases a2
  subst hxy
  rw [qr9 (List.Perm.cons_inv h) h1.2 h2.2]
theorem qwE {s l m:List Int} (h1:qm9 o s l) (h2:qm9 o s m):l = m:=qr9 (h1.1.trans h2.1.symm) h1.2 h2.2
end Go.Proofs
namespace Go.Eng
open Go Go.Proofs
def qor:Ctr:={ fn := 34,nv:=6,args:=[bS 0,iv .i64 (.var 5)],heap:=[],ro:=[qbL 0],pre:=fun Z=>qay Z 0,alts:=[{ k:=1,ret:=.one (.vbool (.var 6)),heap:=[],post:=fun Z=>(Z 6).b = decide ((Z 5).i ∈ qk (Z 3).d) }] }
def q8L:Inv:={ key:=2,nv:=1,env:=[(0,bS 0),(1,iv .i64 (.var 5)),(5,iv .i64 (.var 1000))],heap:=[],inv:=(fun Z=>0 <= (Z 1000).i/\(Z 1000).i <= (Z 1).i/\(Z 5).i ∉ (qk (Z 3).d).take (Z 1000).i.toNat),mu:=(fun Z=>((Z 1).i - (Z 1000).i).toNat) }
def qm5:Ctr:={ fn := 28,nv:=10,args:=[bS 0,bS 5],heap:=[],ro:=[qbL 0,qbL 5],pre:=fun Z=>qay Z 0/\qay Z 5,alts:=[{ k:=1,ret:=.one (.vbool (.var 10)),heap:=[],post:=fun Z=>(Z 10).b = decide (qk (Z 3).d = qk (Z 8).d) }] }
def q0V:Inv:={ key:=4,nv:=1,env:=[(0,bS 0),(1,bS 5),(5,iv .i64 (.var 1000))],heap:=[],inv:=(fun Z=>0 <= (Z 1000).i/\(Z 1000).i <= (Z 1).i/\(qk (Z 3).d).take (Z 1000).i.toNat = (qk (Z 8).d).take (Z 1000).i.toNat),mu:=(fun Z=>((Z 1).i - (Z 1000).i).toNat) }
def qph:Ctr:={ fn := 33,nv:=5,args:=[bS 0],heap:=[],ro:=[qbL 0],pre:=fun Z=>qay Z 0,alts:=[{ k:=3,ret:=.one (.vslice 5 (.lit 0) (.var 1) (.var 6) 1),heap:=[iHp 5 7 6],post:=fun Z=>(Z 7).d = (Z 3).d }] }
end Go.Eng
