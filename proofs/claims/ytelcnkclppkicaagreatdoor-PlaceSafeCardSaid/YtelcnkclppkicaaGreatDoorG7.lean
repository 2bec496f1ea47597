/- Texts ZW, ZX, DS, DT, BT, BU, BV, BW, BX, BY, CA, CB, CC, CD, CE, CF, CG, CH, CI, CK, YA, CL, CM, ZLq, YF, W1, W2, W3, WD, CN, CO, YB, ZSq, YC, CP, W4, WC, YD, YE, YG, YK, W5, W6, YM, YR, CQ, CR, YS, W7, YU, YV, YW, CS, W9, V3, VT, VZ, VW, CT, CW, V4, VM, VU, WF, VV, WA, WE, VX, VY, WG, WH, WI, WN, CV, CX, WO, WQ, CY, E13, E14, FD, FE, FF, FG, PF. -/
import Derived.Test.YtelcnkclppkicaaGreatDoorG6
import Derived.Test.YtelcnkclppkicaaGreatDoorG4
import Derived.Test.YtelcnkclppkicaaGreatDoorG5
import Derived.Test.YtelcnkclppkicaaGreatDoorProg
import Derived.WalkKit
import Derived.ProofKit
import Derived.OpenShut
import Derived.Carry
import Derived.SizedLaws
set_option linter.unusedSimpArgs false
set_option linter.unusedVariables false
namespace Go.Proofs
open Go Go.Eng

theorem q6s:qpc.ok Tryz.prog:=Ctr.ok_less q3k rfl rfl rfl rfl rfl (fun _ h=>h.1) fun ρ ρ' ai al hp hag hal hpost=>by
 match ai,hal with
 | 0,hal =>
  exfalso
  obtain rfl:=Option.some.inj hal
  obtain ⟨_,h2⟩:_/\(qa4 ((ρ'.upto 5) 2).i ((ρ'.upto 5) 3).i = true->(qch ((ρ'.upto 5) 2).i.toNat ((ρ'.upto 5) 3).i.toNat).2.2 < ((ρ'.upto 5) 2).i.toNat):=hpost
  have e2:(ρ'.upto 5) 2 = ρ 2:=by rw [Env.upto,if_pos (by omega)]; exact hag 2 (by decide)
  have e3:(ρ'.upto 5) 3 = ρ 3:=by rw [Env.upto,if_pos (by omega)]; exact hag 3 (by decide)
  rw [e2,e3] at h2
  obtain ⟨_,p2,p3⟩:=hp
  have:=h2 p2
  omega
 | 1,hal=>exact ⟨0,hal⟩
 | n + 2,hal=>cases hal
theorem qm5 {k n:Nat} (hk:0 < k):n <= k * qD k n:=by
 unfold qD
 have h1:=Nat.div_add_mod (n + k - 1) k
 have h2:=Nat.mod_lt (n + k - 1) hk
 omega
theorem qmD {k n:Nat} (hk:0 < k):k * qD k n < n + k:=by
 unfold qD
 have h1:=Nat.div_add_mod (n + k - 1) k
 omega
theorem qm7 {k n:Nat} (hk:0 < k):qD k n <= n:=by
 have h:=qmD (n:=n) hk
 by_cases h2:qD k n <= n
 ·exact h2
 ·have h3:k * (n + 1) <= k * qD k n:=Nat.mul_le_mul_left k (by omega)
  rw [Nat.mul_add,Nat.mul_one] at h3
  have h4:n * 1 <= k * n:=by rw [Nat.mul_comm k n]; exact Nat.mul_le_mul_left n hk
  omega
theorem qrY {k:Int} {n:Nat} (hk:1 <= k):((n:Int) + k - 1).tdiv k = (qD k.toNat n:Nat):=by
 rw [Int.tdiv_eq_ediv_of_nonneg (by omega),qD,Int.natCast_ediv]
 congr 1 <;> omega
theorem q1L {d x:qd} (h:x.length <= d.length):bI (qbu d 0 x) = bI x ++ (bI d).drop x.length:=by
 simp [qbu,bI,List.map_drop]
theorem qvZ {d x:qd} (hd:q9 d) (hx:q9 x):q9 (qbu d 0 x):=fun r hr=>by
 unfold qbu at hr
 rcases List.mem_append.1 hr with hr | hr
 ·rcases List.mem_append.1 hr with hr | hr
  ·simp at hr
  ·exact hx r hr
 ·exact hd r (List.mem_of_mem_drop hr)
theorem q1H {k total len lg cg:Int} {f dg data D:qd} (hf:qv f) (hs:qa4 k total = true) (h1:len <= 8192) (h2:len = data.length) (hB:q9 data) (hM:qP total k lg cg dg) (hG:bI dg = qcO k.toNat total.toNat) (hD:D = List.replicate total.toNat [.int .i64 0,.slice none 0 0]) :
  qn4 k total len (qD k.toNat data.length:Nat) (k * (qD k.toNat data.length:Nat)) (k * (qD k.toNat data.length:Nat)) lg cg 0 f dg (qbu (List.replicate (k * (qD k.toNat data.length:Nat)).toNat [.int .u8 0]) 0 data) D data:=by
 obtain ⟨k1,k2,k3⟩:=qkd.1 hs
 have hge:=qm5 (k:=k.toNat) (n:=data.length) (by omega)
 have hle:=qm7 (k:=k.toNat) (n:=data.length) (by omega)
 have hc:(k * (qD k.toNat data.length:Nat)).toNat = k.toNat * qD k.toNat data.length:=by rw [Int.toNat_mul (by omega) (by omega)]; simp
 have hc0:0 <= k * (qD k.toNat data.length:Nat):=Int.mul_nonneg (by omega) (by omega)
 refine ⟨hf,hs,h1,h2,hB,rfl,by omega,rfl,?_,qvZ qhA hB,?_,hM,hG,by rw [hD,List.length_replicate],fun row hr=>by rw [hD] at hr; rw [List.eq_of_mem_replicate hr]; rfl,by omega,by omega⟩
 ·rw [qmN (by rw [List.length_replicate]; omega),List.length_replicate]; omega
 ·rw [q1L (by rw [List.length_replicate]; omega),qkR,hc,qhY,bI_len,List.drop_replicate]; simp
theorem q19 {k total len l lf cf lg cg i:Int} {f dg df D data:qd} {v w:Value} (h:qn4 k total len l lf cf lg cg i f dg df D data) (hi:i < total):qn4 k total len l lf cf lg cg (i + 1) f dg df (qaF D i 0 [v,w]) data:=by
 obtain ⟨a1,a2,a3,a4,a5,a6,a7,a8,a9,a10,a11,a12,a13,a14,a17,a15,a16⟩:=h
 refine ⟨a1,a2,a3,a4,a5,a6,a7,a8,a9,a10,a11,a12,a13,by rw [qeR]; exact a14,fun row hr=>?_,by omega,by omega⟩
 unfold qaF at hr
 rcases List.mem_or_eq_of_mem_set hr with hr | rfl
 ·exact a17 row hr
 ·have hl:i.toNat < D.length:=by omega
  have:=a17 _ (List.getElem_mem hl)
  rw [List.getElem?_eq_getElem hl,Option.getD_some,qk3 (by rw [this]; simp),this]
theorem q6W {k total len l lf cf lg cg i:Int} {f f' dg df D data:qd} (h:qn4 k total len l lf cf lg cg i f dg df D data) (hf:qv f'):qn4 k total len l lf cf lg cg i f' dg df D data:=⟨hf,h.2⟩
theorem qjx {h h':Hp} {D:qd} {n:Nat} {f:Nat->List Int} (he:qf4 h D n f) (hl:Hp.le h h'):qf4 h' D n f:=fun j hj=>by
 obtain ⟨v,d,e1,e2,e3⟩:=he j hj
 exact ⟨v,d,e1,qiX e2 hl,e3⟩
theorem qxI {h h':Hp} {D:qd} {i:Int} {f:Nat->List Int} {v:Value} {d:qd} (he:qf4 h D i.toNat f) (hl:Hp.le h h') (h0:0 <= i) (hi:i.toNat < D.length) (hc:(D[i.toNat]?.getD []).length = 2) (hr:Rd h' kB v d) (hd:bI d = f i.toNat) (hB:q9 d) :
  qf4 h' (qaF D i 0 [.int .i64 i,v]) (i.toNat + 1) f:=fun j hj=>by
 by_cases hji:j = i.toNat
 ·subst hji
  refine ⟨v,d,?_,hr,hd,hB⟩
  have hs:qa2 (D[i.toNat]?.getD []) 0 [.int .i64 i,v] = [.int .i64 i,v]:=by
   simp only [qa2,List.take_zero,List.nil_append]
   rw [List.drop_eq_nil_of_le (by rw [hc]; exact Nat.le_refl _),List.append_nil]
  rw [qaF,List.getElem?_set_self hi,hs,Int.toNat_of_nonneg h0]
 ·obtain ⟨v',d',e1,e2,e3⟩:=he j (by omega)
  exact ⟨v',d',by rw [qaF,List.getElem?_set_ne (by omega)]; exact e1,qiX e2 hl,e3⟩
set_option maxRecDepth 20000 in
set_option pp.deepTerms true in
set_option pp.maxSteps 1000000 in
theorem qvJ:qbT.ok Tryz.prog:=qv1 (by simp [qp2,qnT,q6s,qnl,qnw]) fun ρ hg hp=>by
 obtain ⟨hf,hl,hB,hrk⟩:=hp
 have hne:=(qbR hf).1
 simp (config:={ maxSteps:=4000000 }) [qjC,qbT,qlu,qln,qbj,qbh,qpc,qfs,qbq,qbp]
 refine ⟨fun h=>(hne h).elim,fun _ v _ hv=>⟨fun hb=>⟨hf,by rw [<- hv]; exact hb⟩,fun hb=>?_⟩⟩
 have hsz:qa4 (ρ 2).i (ρ 3).i = true:=by rw [<- hv]; exact hb
 obtain ⟨k1,k2,k3⟩:=qkd.1 hsz
 refine ⟨by omega,fun h=>⟨hf,hsz,h⟩,fun hle l _ e _ _ hpl=>?_⟩
 have hnb:¬ qeU (ρ 2).i (ρ 5).i:=by unfold qeU; omega
 obtain ⟨hpl1,_⟩:=hpl hnb
 rw [hl,qrY k1] at hpl1
 have hge:=qm5 (k:=(ρ 2).i.toNat) (n:=(ρ 7).d.length) (by omega)
 have hlt:=qmD (k:=(ρ 2).i.toNat) (n:=(ρ 7).d.length) (by omega)
 have hkl:(ρ 2).i * l.i = (((ρ 2).i.toNat * qD (ρ 2).i.toNat (ρ 7).d.length:Nat):Int):=by rw [hpl1,Int.natCast_mul,Int.toNat_of_nonneg (by omega)]
 rw [qc0 (by omega) (by omega)]
 have hmax:max ((ρ 2).i * l.i) 0 = (ρ 2).i * l.i:=by omega
 refine ⟨by omega,by omega,fun u3 _=>⟨by omega,by omega,fun u4 _=>⟨⟨hf,hsz,hrk hsz⟩,fun u5 _ lg _ cg _ f1 _ dg _ ab _ hf1 _ hM _ hG u11 _=>⟨by omega,by omega,fun u12 _=>⟨⟨?_,fun j hj=>by omega⟩,?_⟩⟩⟩⟩⟩
 ·have htake:(((ρ 7).d.take (ρ 5).i.toNat).take (if (ρ 5).i < (ρ 2).i * l.i then (ρ 5).i else (ρ 2).i * l.i).toNat) = (ρ 7).d:=by
   rw [List.take_of_length_le (l:=(ρ 7).d) (by omega),List.take_of_length_le (by split <;> omega)]
  rw [htake,hpl1]
  exact q1H hf1 hsz hle hl hB hM hG rfl
 intro l2 _ u14 _ lf _ cf _ u17 _ u18 _ u19 _ i _ f2 _ u22 _ lg2 _ cg2 _ dg2 _ df2 _ D2 _ ab2 _ hW hE
 refine ⟨fun hi=>?_,fun hi u29 _ hst=>?_⟩
 ·have hW':=hW
  obtain ⟨a1,a2,a3,a4,a5,a6,a7,a8,a9,a10,a11,a12,a13,a14,a17,a15,a16⟩:=hW'
  refine ⟨by omega,by omega,fun u29 _=>⟨⟨a15,hi,a12.1⟩,fun o _ n _ c _ ho hn hc=>⟨by omega,⟨hW,hE,hi,ho,hn,by omega,qhA,?_⟩,?_⟩⟩⟩
  ·rw [qkR]; rfl
  intro l3 _ u34 _ lf3 _ cf3 _ u37 _ u38 _ u39 _ i3 _ f3 _ u42 _ lg3 _ cg3 _ dg3 _ df3 _ D3 _ ab3 _ rp _ cp _ pd _ o3 _ n3 _ c3 _ j _ hW3 hE3 hii hi3 ho3 hn3 j0 j1 hpl hpB hp3
  have hW3':=hW3
  obtain ⟨b1,b2,b3,b4,b5,b6,b7,b8,b9,b10,b11,b12,b13,b14,b17,b15,b16⟩:=hW3'
  obtain ⟨⟨m1,m2,m3,m4,m5,m6,m7,m8⟩,m9⟩:=b12
  have hl0:0 <= l3.i:=by omega
  refine ⟨fun hj=>?_,fun hj=>?_⟩
  ·have hjk:j.i < (ρ 2).i:=by omega
   have hbo:=qaj (x:=i3.i) (y:=(ρ 2).i) b15 (show i3.i <= 255 by omega) (by omega) (show (ρ 2).i <= 255 by omega)
   have hbj:=qaj (x:=j.i) (y:=l3.i) j0 (show j.i <= 255 by omega) hl0 b7
   have hltG:i3.i * (ρ 2).i + j.i < (ρ 3).i * (ρ 2).i:=by
    have:=Int.mul_le_mul_of_nonneg_right (show i3.i + 1 <= (ρ 3).i by omega) (show 0 <= (ρ 2).i by omega)
    rw [Int.add_mul,Int.one_mul] at this; omega
   have he:(j.i + 1) * l3.i = j.i * l3.i + l3.i:=by rw [Int.add_mul,Int.one_mul]
   have hltF:j.i * l3.i + l3.i <= (ρ 2).i * l3.i:=by
    have:=Int.mul_le_mul_of_nonneg_right (show j.i + 1 <= (ρ 2).i by omega) hl0
    omega
   have hcell:=qdk m8 (i:=o3.i + j.i) (by omega) (by omega)
   rw [add64 (by omega) (by omega),qc0 (by omega) (by omega),qc0 (by omega) (by omega),he]
   refine ⟨j0,by omega,by omega,by omega,fun hcap=>⟨by omega,by omega,hbj.1,by omega,by omega,⟨b1,⟨by omega,hl0,by omega,by unfold Go.Eng.big; omega⟩,⟨by split <;> omega,by omega,by split <;> omega,by unfold Go.Eng.big; omega⟩,by omega,hpB,b10,hcell⟩,fun f4 _ d4 _ hf4 hl4 hB4 he4=>?_⟩⟩
   refine ⟨⟨q6W hW3 hf4,hE3,hii,hi3,ho3,hn3,by omega,by omega,by omega,hB4,?_⟩,by omega⟩
   have hsg:seg (bI df3.d) (if cf3.i = j.i * l3.i then 0 else j.i * l3.i).toNat (j.i * l3.i + l3.i - j.i * l3.i).toNat = seg (bI df3.d) (j.i.toNat * l3.i.toNat) l3.i.toNat:=by
    rw [show j.i * l3.i + l3.i - j.i * l3.i = l3.i by omega]
    split
    ·have:l3.i.toNat = 0:=by omega
     rw [this]; simp [seg]
    ·rw [Int.toNat_mul j0 hl0]
   have hgd:(bI dg3.d).getD (i3.i.toNat * (ρ 2).i.toNat + j.i.toNat) 0 = qg dg3.d (o3.i + j.i) 0:=by
    have:=qgC (d:=dg3.d) (i:=o3.i + j.i) (by omega) (by omega)
    rw [show (o3.i + j.i).toNat = i3.i.toNat * (ρ 2).i.toNat + j.i.toNat by rw [ho3,Int.toNat_add hbo.1 j0,Int.toNat_mul b15 (by omega)]] at this
    rw [List.getD_eq_getElem?_getD,this]; rfl
   rw [he4,hp3,hsg,show (j.i + 1).toNat = j.i.toNat + 1 by omega,qcg,hgd]
  ·have hjk:j.i = (ρ 2).i:=by omega
   refine ⟨b15,hi3,by omega,fun u56 _ hst=>?_⟩
   rw [add64 (by omega) (by omega)]
   refine ⟨⟨q19 hW3 hi3,?_⟩,by omega⟩
   obtain ⟨ha,la,da⟩:=qjF hst (List.mem_cons_self ..)
   obtain ⟨hb,lb,db⟩:=qca hst (n:=57) (t:=2) (by simp)
   have hr:=q0P (n:=l3.i.toNat) (k:=cp.i.toNat) da la (by simp; omega) (by simp)
   have hr:Rd u56.h kB (.slice (ql rp.r 0) l3.i.toNat cp.i.toNat) pd.d:=by simpa [kB] using hr
   have hdl:i3.i.toNat < D3.d.length:=by omega
   rw [show (i3.i + 1).toNat = i3.i.toNat + 1 by omega]
   refine qxI hE3 (Hp.le_trans (by simpa using db) lb) b15 hdl (by rw [List.getElem?_eq_getElem hdl]; exact b17 _ (List.getElem_mem hdl)) hr ?_ hpB
   rw [hp3,qd4,hjk,b13,b11,bI_len]
   rw [show l3.i.toNat = qD (ρ 2).i.toNat (ρ 7).d.length by omega]
 ·obtain ⟨a1,a2,a3,a4,a5,a6,a7,a8,a9,a10,a11,a12,a13,a14,a17,a15,a16⟩:=hW
  obtain ⟨hb,lb,db⟩:=qca hst (n:=37) (t:=2) (by simp)
  refine ⟨a1,hsz,hle,a14,?_⟩
  rw [show i.i.toNat = (ρ 3).i.toNat by omega] at hE
  exact qjx hE (Hp.le_trans (by simpa using db) lb)
end Go.Proofs

set_option linter.unusedSimpArgs false
set_option linter.unusedVariables false
namespace Go.Proofs
open Go Go.Eng

end Go.Proofs

set_option linter.unusedSimpArgs false
set_option linter.unusedVariables false
namespace Go.Proofs
open Go Go.Eng
theorem qqX:qbH.ok Tryz.prog:=q0V (by simp) fun ρ hg hp=>by
 simp [qnJ,qbH]
 refine ⟨fun h1=>⟨fun h2=>⟨fun h3=>?_,fun h3=>?_⟩,fun h2=>?_⟩,fun h1=>?_⟩
 ·simp [qbd,h1,h2,h3,qH]
 ·simp [qbd]; omega
 ·simp [qbd]; omega
 ·simp [qbd]; omega
set_option maxRecDepth 20000 in
theorem qrH:qbJ.ok Tryz.prog:=q0g (by simp [qqX]) fun ρ hg hp=>by
 have hp:0 <= (ρ 6).i:=hp
 simp [qn1,qbJ,qbH,qF,qnB,qiJ,qaY]
 refine fun u _ hu=>⟨fun h hs=>by (rw [hu,hs] at h; cases h),fun h=>⟨fun a _ b=>by omega,fun a=>⟨fun b _ _ c=>by omega,fun b=>⟨hp,fun c _ _ _=>c,fun c=>⟨by rw [<- hu,h],a,b,c⟩⟩⟩⟩⟩
theorem q8p {x:Int}:qc .shr .i64 x 8 = x.fdiv 256:=rfl
set_option maxRecDepth 20000 in
theorem qoX:qbk.ok Tryz.prog:=qyD (by simp [qoI,qus,q0M]) fun ρ hg hp=>by
 obtain ⟨o0,l0,lc,l1,hle,hB,hGr,hGd⟩:=hp
 simp (config:={ maxSteps:=2000000 }) [qkM,qbk,qbi,qcv,qfx,gOk]
 have hseg:qbX [[.int .u8 (IntKind.u8.wrap (qc .shr .i64 (ρ 0).i 8))],[.int .u8 (IntKind.u8.wrap (ρ 0).i)]] 0 2 = qbV (ρ 0).i:=by
  rw [q8p,qiw,qiw]; rfl
 refine fun h _ hh=>⟨⟨⟨[],hh,by decide⟩,?_,hGr,hGd⟩,fun g _ hg1=>?_⟩
 ·intro row hr
  simp at hr
  rcases hr with rfl | rfl
  ·simp [qbD,qaf,qiw]; omega
  ·simp [qbD,qaf,qiw]; omega
 ·rw [hseg] at hg1
  have h1:=hg1 [] hh
  refine ⟨⟨⟨_,h1,by simp [qbV]⟩,o0,l0,lc,by omega,hle,hB,hGr,hGd⟩,fun k _ hk=>⟨⟨⟨_,hk _ h1,?_⟩,hGr,hGd⟩,fun d _ hd=>?_⟩⟩
  ·have:(qbX (ρ 5).d (ρ 2).i (ρ 3).i).length <= (ρ 3).i.toNat:=by simp [qbX]; omega
   simp [qbV]; omega
  ·exact (show qf _ 32 = qf d.d 32 from rfl).trans (hd _ (hk _ h1))
theorem qeW {lim:Int} {b:Bool} {x m s:List Int} (h:(b,x) = qf5 lim false m s) (hf:(m.length:Int) + s.length <= lim):b = false/\x = m ++ s:=by
 rw [qkb (by simp [qgg]; omega)] at h
 simpa using h
theorem q7c {x:Int}:IntKind.u16.wrap x = x % 65536:=by simp [IntKind.wrap,IntKind.bits,IntKind.signed]
theorem q5o {d:qd} {i:Nat} (h:i < d.length):qf [qei (qg d i)] 32 = qgM d[i]:=by
 refine List.map_congr_left fun j hj=>?_
 rw [qmw (List.mem_range.1 hj)]
 simp [qg,qJ,qbD,h]
theorem qsO {d:qd} {i:Nat} (h:i < d.length):((dgs d).take (i + 1)).flatten = ((dgs d).take i).flatten ++ qgM d[i]:=by
 rw [List.take_add_one,List.getElem?_eq_getElem (by simpa [dgs] using h)]
 simp [dgs]
set_option maxRecDepth 20000 in
set_option maxHeartbeats 800000 in
theorem q0p:qdz.ok Tryz.prog:=q04 (by simp [qrH,qsW,q8c,q7b,q5Y,q3c,q37]) fun ρ hg hp=>by
 obtain ⟨l0,hl,ho,hd⟩:=hp
 simp (config:={ maxSteps:=2000000 }) [qnt,qdz,qqp,qbJ,qb3,u8C,qi8,qoc,qgz,qeH,qeI,qbO,qeB,qgj]
 refine ⟨l0,fun e _ he=>⟨fun hne=>?_,fun hz lim _ hlim=>?_⟩⟩
 ·by_cases h:qF (ρ 0).i (ρ 1).i (ρ 2).i (ρ 3).i (ρ 6).i = true
  ·rw [if_pos h] at he; exact absurd he hne
  ·rw [if_neg h] at he; exact ⟨he.symm,by simpa using h⟩
 ·have hok:qF (ρ 0).i (ρ 1).i (ρ 2).i (ρ 3).i (ρ 6).i = true:=by
   by_cases h:qF (ρ 0).i (ρ 1).i (ρ 2).i (ρ 3).i (ρ 6).i = true
   ·exact h
   ·rw [if_neg h] at he; omega
  have hb:=hok
  simp [qF,qbd] at hb
  obtain ⟨⟨b1,b2,b3,b4⟩,b5,b6,b7⟩:=hb
  have hl2:lim.i = 39 + 32 * (ρ 2).i:=by
   rw [hlim,qc0 (by omega) (by omega),add64 (by omega) (by omega)]; omega
  clear hlim
  simp only [qiw,q7c]
  have hman:List.drop 4 (qf [([.int .i64 (ρ 0).i,.int .i64 (ρ 1).i,.int .i64 (ρ 2).i,.int .i64 (ρ 3).i] ++ (qei (qa (ρ 4).d) ++ [.slice (ql (ρ 5).r 0) (ρ 6).i.toNat (ρ 7).i.toNat]):List Value)] 36) = qf (ρ 4).d 32:=rfl
  have hone:qal [([.int .i64 (ρ 0).i,.int .i64 (ρ 1).i,.int .i64 (ρ 2).i,.int .i64 (ρ 3).i] ++ (qei (qa (ρ 4).d) ++ [.slice (ql (ρ 5).r 0) (ρ 6).i.toNat (ρ 7).i.toNat]):List Value)] 37:=⟨_,rfl,by simp [qei]⟩
  have hlen:∀ {l n c:Int} {d:qd},wOk l n c d->n = ((bI d).length:Int):=fun h=>by rw [bI_len]; exact h.2.2.1
  refine ⟨⟨by omega,by omega,rfl,by omega,by intro r hr; cases hr⟩,fun f1 _ n1 _ c1 _ d1 _ w1 g1=>?_⟩
  obtain ⟨y1,x1⟩:=qeW g1 (by rw [hl2]; simp [bI,qa9]; omega)
  have L1:(bI d1.d).length = 2:=by rw [x1]; simp [bI,qa9]
  have q1:=hlen w1
  refine ⟨⟨w1,by omega,by omega,by omega⟩,fun f2 _ n2 _ c2 _ d2 _ w2 g2=>?_⟩
  rw [y1] at g2
  obtain ⟨y2,x2⟩:=qeW g2 (by rw [hl2,L1,qa9]; omega)
  have L2:(bI d2.d).length = 3:=by rw [x2,List.length_append,L1,qa9]
  have q2:=hlen w2
  refine ⟨⟨w2,by omega,by omega,by omega⟩,fun f3 _ n3 _ c3 _ d3 _ w3 g3=>?_⟩
  rw [y2] at g3
  obtain ⟨y3,x3⟩:=qeW g3 (by rw [hl2,L2,qa9]; omega)
  have L3:(bI d3.d).length = 4:=by rw [x3,List.length_append,L2,qa9]
  have q3:=hlen w3
  refine ⟨⟨w3,by omega,by omega,by omega⟩,fun f4 _ n4 _ c4 _ d4 _ w4 g4=>?_⟩
  rw [y3] at g4
  obtain ⟨y4,x4⟩:=qeW g4 (by rw [hl2,L3,qa9]; omega)
  have L4:(bI d4.d).length = 5:=by rw [x4,List.length_append,L3,qa9]
  have q4:=hlen w4
  refine ⟨⟨w4,by omega,by omega,by omega⟩,fun f5 _ n5 _ c5 _ d5 _ w5 g5=>?_⟩
  rw [y4] at g5
  obtain ⟨y5,x5⟩:=qeW g5 (by rw [hl2,L4,qa9]; omega)
  have L5:(bI d5.d).length = 7:=by rw [x5,List.length_append,L4,qa9]
  have q5:=hlen w5
  refine ⟨⟨w5,by omega,hone,?_⟩,fun f6 _ n6 _ c6 _ d6 _ w6 g6=>?_⟩
  ·have:=hman
   exact this ▸ ho
  have g6':(f6.b,bI d6.d) = qf5 lim.i f5.b (bI d5.d) (qf (ρ 4).d 32):=g6
  rw [y5] at g6'
  obtain ⟨y6,x6⟩:=qeW g6' (by rw [hl2,L5,qdb]; omega)
  have hhead:bI d6.d = qa6 (ρ 0).i (ρ 1).i (ρ 2).i (ρ 3).i (qf (ρ 4).d 32):=by
   rw [x6,x5,x4,x3,x2,x1]
   simp [qa6,bI,List.append_assoc]
  refine ⟨l0,⟨hok,l0,hl2,y6,w6,hhead⟩,fun lim2 _ f _ n _ c _ d _ t _ _ t0 t1 z1 z2 z3 z4=>⟨fun hlt=>?_,fun hge=>?_⟩⟩
  ·obtain ⟨T,hT⟩:∃ T:Nat,t.i = T:=⟨t.i.toNat,by omega⟩
   have m1:qc .add .i64 t.i 1 = ((T + 1:Nat):Int):=by rw [add64 (by omega) (by omega)]; omega
   have hTl:T < (ρ 8).d.length:=by omega
   have hrow:=q5o hTl
   have hnl:n.i = 39 + 32 * t.i:=by
    have h1:=hlen z3
    rw [z4,List.length_append] at h1
    have h2:∀ (k:Nat),k <= (ρ 8).d.length->((dgs (ρ 8).d).take k).flatten.length = 32 * k:=fun k=>by
     induction k with
     | zero=>intro _; simp
     | succ k ih=>intro hk; rw [qsO (by omega),List.length_append,ih (by omega)]; simp [qgM]; omega
    rw [h2 _ (by omega)] at h1
    have h3:(qa6 (ρ 0).i (ρ 1).i (ρ 2).i (ρ 3).i (qf (ρ 4).d 32)).length = 39:=by simp [qa6,qa9,qdb]
    omega
   rw [hT] at z4 hnl ⊢
   rw [<- hT,m1,hT]
   refine ⟨by omega,by omega,⟨z3,by omega,⟨_,rfl,rfl⟩,?_⟩,fun f7 _ n7 _ c7 _ d7 _ w7 g7=>?_⟩
   ·have h1:qS (qgM (ρ 8).d[T]):=(hd _ (List.getElem_mem hTl)).2
    rw [<- hrow] at h1
    exact h1
   ·have g7':(f7.b,bI d7.d) = qf5 lim2.i f.b (bI d.d) (qf [qei (qg (ρ 8).d T)] 32):=g7
    rw [z2,hrow] at g7'
    have hbl:(qgM (ρ 8).d[T]).length = 32:=by simp [qgM]
    obtain ⟨y7,x7⟩:=qeW g7' (by rw [<- hlen z3,hbl]; omega)
    refine ⟨⟨hok,by omega,by omega,z1,y7,w7,?_⟩,by omega⟩
    rw [x7,z4]
    simp only [Int.toNat_natCast]
    rw [qsO hTl,List.append_assoc]
  ·have ht:t.i.toNat = (ρ 8).d.length:=by omega
   rw [ht] at z4
   rw [List.take_of_length_le (by simp [dgs])] at z4
   refine ⟨⟨z3,?_⟩,z2,fun e _ _ he=>⟨hok,by rw [he]; exact z3.2.2.1,by rw [he]; exact z3.2.2.2.2,by rw [he]; exact z4⟩⟩
   have:=z3.2.2.2.1
   omega
end Go.Proofs

set_option linter.unusedSimpArgs false
set_option linter.unusedVariables false
namespace Go.Proofs
open Go Go.Eng
theorem qge (m:List Int):qS (sha m):=fun x hx=>by
 obtain ⟨j,_,rfl⟩:=List.mem_map.1 hx
 omega
theorem qzz {f:Nat->List Int} {n:Nat}:(qdo f n).length = n:=by simp [qdo]
theorem qo3 {g full:List Int} {k l i:Nat}:∀ j,(qcg g full k l i j).length = l
 | 0=>by simp [qcg]
 | j + 1=>by rw [qcg,qcu,qo3 j]
theorem q4k {k total:Nat} {data:List Int} {i:Nat}:(qd4 k total data i).length = qD k data.length:=qo3 k
theorem q3g {d:qd} {r:List Value}:dgs (d ++ [r]) = dgs d ++ [qgM r]:=by simp [dgs]
theorem qwB {f:Nat->List Int} {n:Nat}:qdo f (n + 1) = qdo f n ++ [sha (qbV n ++ f n)]:=by simp [qdo,List.range_succ]
theorem q61 {d:qd}:qgM (qei (qa d)) = qf d 32:=rfl
set_option maxRecDepth 20000 in
set_option maxHeartbeats 1600000 in
theorem qxs:qgp.ok Tryz.prog:=qqx (by simp [qqX,qvJ,qlC,qoX]) fun ρ hg hp=>by
 obtain ⟨hf,hl,hlc,hB,⟨hGr,hGd⟩,htop⟩:=hp
 simp (config:={ maxSteps:=2000000 }) [quJ,qgp,qxL,qbH,qbT,qaI,qbk,gOk,qmf]
 have hnn:=qbR hf
 refine fun u _=>⟨fun h=>absurd h hnn.1,fun _ b _ hb=>⟨fun hz=>⟨hf,by rw [<- hb]; exact hz⟩,fun hz=>?_⟩⟩
 rw [hz] at hb
 have hs3:=hb.symm
 have hs3':=hs3
 simp [qbd] at hs3'
 obtain ⟨b1,b2,b3,b4⟩:=hs3'
 have hsB:qa4 (ρ 2).i (ρ 4).i = true:=by simp [qa4]; omega
 have hsz:qa4 (ρ 2).i (ρ 4).i = false->False:=fun h=>by rw [hsB] at h; cases h
 refine ⟨⟨hf,hl,hB,htop⟩,fun e _ f _ hf2 he=>⟨fun hne=>⟨hf2,?_⟩,fun hz2=>?_⟩,fun _ _ _ _ f _ P _ ab _ hf2 _ hle hPl hE=>⟨by omega,⟨⟨by omega,hlc,by omega,by omega,hB⟩,hGr,hGd⟩,fun o _ ho _ _=>⟨by omega,⟨hf2,hs3,hle,by omega,hPl,hE,?_,?_,?_⟩,fun _ _ _ _ _ _ o2 _ _ _ t _ _ _ Ds _ P2 _ _ _ f2 _ ab2 _ hf3 _ _ t0 t1 hPl2 hE2 ho2 hDl hDo hDm=>⟨fun hlt=>?_,fun hge=>?_⟩⟩⟩⟩
 ·rcases he with ⟨h,_⟩ | ⟨_,h1,h2⟩
  ·exact (hsz h).elim
  ·exact .inr ⟨hs3,h1,h2⟩
 ·rcases he with ⟨h,_⟩ | ⟨_,h1,h2⟩
  ·exact (hsz h).elim
  ·omega
 ·rw [qjH hl] at ho
  exact ho
 ·intro r hr; cases hr
 ·rfl
 ·obtain ⟨T,hT⟩:∃ T:Nat,t.i = T:=⟨t.i.toNat,by omega⟩
  have m1:qc .add .i64 t.i 1 = ((T + 1:Nat):Int):=by rw [add64 (by omega) (by omega)]; omega
  obtain ⟨v,d,e1,e2,e3,e4⟩:=hE2 T (by omega)
  have hcv:qJ P2.d t.i 1 = v:=by rw [hT]; simp [qJ,e1]
  have hci:qg P2.d t.i 0 = (T:Int):=by rw [hT]; simp [qg,qJ,e1,qaf]
  rw [m1,hcv,hci]
  have hdl:d.length <= (ρ 8).d.length:=by
   have h1:=congrArg List.length e3
   rw [bI_len,q4k,bI_len] at h1
   have:=qm7 (k:=(ρ 2).i.toNat) (n:=(ρ 8).d.length) (by omega)
   omega
  refine ⟨by omega,by omega,fun _ _=>⟨d,e2,fun r0 _ c1 _ hv hcl=>⟨⟨hcl,by omega,e4,hGr,hGd⟩,fun g _ hg2 _ _=>⟨by omega,by omega,fun _ _ _ _ ab3 _ hst=>⟨by omega,⟨hf3,hs3,hle,by omega,by omega,hPl2,?_,ho2,by omega,?_,?_⟩,by omega⟩⟩⟩⟩⟩
  ·obtain ⟨hb2,lb,db⟩:=qca hst (n:=32) (t:=2) (by simp)
   exact qjx hE2 (Hp.le_trans (by simpa using db) lb)
  ·intro r hr
   rcases List.mem_append.1 hr with hr | hr
   ·exact hDo r hr
   ·obtain rfl:=List.mem_singleton.1 hr
    refine ⟨rfl,?_⟩
    have:qS (qf g.d 32):=by rw [hg2]; exact qge _
    exact this
  ·have hh:dgs (Ds.d ++ [qei (qa g.d)]) = qdo (qd4 (ρ 2).i.toNat (ρ 4).i.toNat (bI (ρ 8).d)) (T + 1):=by
    rw [q3g,q61,hg2,qjH rfl,e3,hDm,hT,Int.toNat_natCast,qwB]
   exact hh
 ·have ht:t.i = (ρ 4).i:=by omega
  refine fun ab3 _ hst=>⟨by omega,hf3,hs3,hle,hPl2,?_,ho2,hDo,by rw [hDm,ht]⟩
  obtain ⟨hb2,lb,db⟩:=qca hst (n:=32) (t:=2) (by simp)
  exact qjx hE2 (Hp.le_trans (by simpa using db) lb)
end Go.Proofs

set_option linter.unusedSimpArgs false
set_option linter.unusedVariables false
namespace Go.Proofs
open Go Go.Eng
set_option maxRecDepth 20000
end Go.Proofs

set_option linter.unusedSimpArgs false
set_option linter.unusedVariables false
namespace Go.Eng
open Go Go.Proofs
end Go.Eng

set_option linter.unusedSimpArgs false
set_option linter.unusedVariables false
set_option maxRecDepth 100000
namespace Go.Proofs
open Go Go.Eng

end Go.Proofs

set_option linter.unusedSimpArgs false
set_option linter.unusedVariables false
namespace Go.Proofs
open Go Go.Eng
set_option maxRecDepth 20000
end Go.Proofs

set_option linter.unusedSimpArgs false
set_option linter.unusedVariables false
namespace Go.Proofs
open Go Go.Eng
set_option maxRecDepth 20000
end Go.Proofs

set_option linter.unusedSimpArgs false
set_option linter.unusedVariables false
namespace Go.Eng
open Go Go.Proofs
end Go.Eng

set_option linter.unusedSimpArgs false
set_option linter.unusedVariables false
set_option maxRecDepth 100000
namespace Go.Proofs
open Go Go.Eng

end Go.Proofs

set_option linter.unusedSimpArgs false
set_option linter.unusedVariables false
namespace Go.Proofs
open Go Go.Eng
set_option maxRecDepth 20000
end Go.Proofs

set_option linter.unusedSimpArgs false
set_option linter.unusedVariables false
namespace Go.Eng
open Go Go.Proofs
end Go.Eng

set_option linter.unusedSimpArgs false
set_option linter.unusedVariables false
set_option maxRecDepth 100000
namespace Go.Proofs
open Go Go.Eng

end Go.Proofs

set_option linter.unusedSimpArgs false
set_option linter.unusedVariables false
namespace Go.Proofs
open Go Go.Eng
set_option maxRecDepth 20000
theorem q5m {D:qd}:(dgs D).length = D.length:=by simp [dgs]
end Go.Proofs

set_option linter.unusedSimpArgs false
set_option linter.unusedVariables false
namespace Go.Proofs
open Go Go.Eng
set_option maxRecDepth 20000
end Go.Proofs

set_option linter.unusedSimpArgs false
set_option linter.unusedVariables false
namespace Go.Eng
open Go Go.Proofs
def q4D (ρ:Env) (r:Nat):Prop:=qiP (ρ r).i/\qiP (ρ (r + 1)).i/\qiP (ρ (r + 2)).i/\qiP (ρ (r + 3)).i/\qS (qf (ρ (r + 4)).d 32)/\(ρ (r + 6)).i = (ρ (r + 8)).d.length/\(ρ (r + 6)).i <= 4398046510976/\qf3 (ρ (r + 8)).d
def qzJ (ρ:Env):List Int:=qa6 (ρ 0).i (ρ 1).i (ρ 2).i (ρ 3).i (qf (ρ 4).d 32) ++ (dgs (ρ 8).d).flatten
def qvc (ρ:Env):Bool:=qF (ρ 0).i (ρ 1).i (ρ 2).i (ρ 3).i (ρ 6).i
def qyu (ρ:Env):Prop:=(ρ 6).i = (ρ 8).d.length/\qS (qf (ρ 4).d 32)/\qf3 (ρ 8).d
def qoH:List Alt:=[
 { k:=2,ret:=.tup [(true,qaY .u8 12 32),qcD (.var 13)],heap:=[],post:=fun ρ=>(qvc ρ = false/\(ρ 13).i = 2/\qf (ρ 12).d 32 = List.replicate 32 0)∨(qvc ρ = true/\(ρ 13).i = 0/\qf (ρ 12).d 32 = sha (qzJ ρ)) }]
def idC:Ctr:={ fn := 44,nv:=12,ip:=[gIp 10,(1005,9)],args:=[qnB],heap:=[],ro:=[qf2 5 8 9,gHp 10 11],pre:=fun ρ=>qyu ρ/\gOk ρ 10 11 gR,alts:=qoH }
end Go.Eng

set_option linter.unusedSimpArgs false
set_option linter.unusedVariables false
set_option maxRecDepth 100000
namespace Go.Proofs
open Go Go.Eng

end Go.Proofs

set_option linter.unusedSimpArgs false
set_option linter.unusedVariables false
namespace Go.Proofs
open Go Go.Eng
set_option maxRecDepth 20000
theorem qc6 {l:List (List Int)} (h:∀ x ∈ l,x.length = 32):l.flatten.length = 32 * l.length:=by
 induction l with
 | nil=>rfl
 | cons x r ih =>
  rw [List.flatten_cons,List.length_append,h x (List.mem_cons_self ..),ih (fun y hy=>h y (List.mem_cons_of_mem _ hy)),List.length_cons]; omega
theorem qwO {l:List (List Int)} (h:∀ x ∈ l,x.length = 32):∀ {j:Nat} (hj:j < l.length),(l.flatten.drop (32 * j)).take 32 = l[j]:=by
 induction l with
 | nil=>intro j hj; simp at hj
 | cons x r ih =>
  intro j hj
  have hx:=h x (List.mem_cons_self ..)
  cases j with
  | zero=>simp [List.take_left' hx]
  | succ j =>
   rw [List.flatten_cons,show 32 * (j + 1) = x.length + 32 * j by omega,List.drop_length_add_append]
   exact ih (fun y hy=>h y (List.mem_cons_of_mem _ hy)) (by simpa using hj)
theorem q6F {D:qd}:∀ x ∈ dgs D,x.length = 32:=fun x hx=>by
 obtain ⟨r,_,rfl⟩:=List.mem_map.1 hx
 simp [qgM]
end Go.Proofs

set_option linter.unusedSimpArgs false
set_option linter.unusedVariables false
namespace Go.Proofs
open Go Go.Eng
def qs0 (d:qd) (i:Int):List Int:=(List.range 32).map fun k=>qg d i k
@[simp high] theorem q84 (d:qd):qf [[.int .u8 (qa d 0),.int .u8 (qa d 1),.int .u8 (qa d 2),.int .u8 (qa d 3),.int .u8 (qa d 4),.int .u8 (qa d 5),.int .u8 (qa d 6),.int .u8 (qa d 7),.int .u8 (qa d 8),.int .u8 (qa d 9),.int .u8 (qa d 10),.int .u8 (qa d 11),.int .u8 (qa d 12),.int .u8 (qa d 13),.int .u8 (qa d 14),.int .u8 (qa d 15),.int .u8 (qa d 16),.int .u8 (qa d 17),.int .u8 (qa d 18),.int .u8 (qa d 19),.int .u8 (qa d 20),.int .u8 (qa d 21),.int .u8 (qa d 22),.int .u8 (qa d 23),.int .u8 (qa d 24),.int .u8 (qa d 25),.int .u8 (qa d 26),.int .u8 (qa d 27),.int .u8 (qa d 28),.int .u8 (qa d 29),.int .u8 (qa d 30),.int .u8 (qa d 31)]] 32 = qf d 32:=rfl
@[simp high] theorem q87 (d:qd) (i:Int):qf [[.int .u8 (qg d i 0),.int .u8 (qg d i 1),.int .u8 (qg d i 2),.int .u8 (qg d i 3),.int .u8 (qg d i 4),.int .u8 (qg d i 5),.int .u8 (qg d i 6),.int .u8 (qg d i 7),.int .u8 (qg d i 8),.int .u8 (qg d i 9),.int .u8 (qg d i 10),.int .u8 (qg d i 11),.int .u8 (qg d i 12),.int .u8 (qg d i 13),.int .u8 (qg d i 14),.int .u8 (qg d i 15),.int .u8 (qg d i 16),.int .u8 (qg d i 17),.int .u8 (qg d i 18),.int .u8 (qg d i 19),.int .u8 (qg d i 20),.int .u8 (qg d i 21),.int .u8 (qg d i 22),.int .u8 (qg d i 23),.int .u8 (qg d i 24),.int .u8 (qg d i 25),.int .u8 (qg d i 26),.int .u8 (qg d i 27),.int .u8 (qg d i 28),.int .u8 (qg d i 29),.int .u8 (qg d i 30),.int .u8 (qg d i 31)]] 32 = qs0 d i:=rfl
@[simp high] theorem q86 (d:qd):([.int .u8 (qa d 0),.int .u8 (qa d 1),.int .u8 (qa d 2),.int .u8 (qa d 3),.int .u8 (qa d 4),.int .u8 (qa d 5),.int .u8 (qa d 6),.int .u8 (qa d 7),.int .u8 (qa d 8),.int .u8 (qa d 9),.int .u8 (qa d 10),.int .u8 (qa d 11),.int .u8 (qa d 12),.int .u8 (qa d 13),.int .u8 (qa d 14),.int .u8 (qa d 15),.int .u8 (qa d 16),.int .u8 (qa d 17),.int .u8 (qa d 18),.int .u8 (qa d 19),.int .u8 (qa d 20),.int .u8 (qa d 21),.int .u8 (qa d 22),.int .u8 (qa d 23),.int .u8 (qa d 24),.int .u8 (qa d 25),.int .u8 (qa d 26),.int .u8 (qa d 27),.int .u8 (qa d 28),.int .u8 (qa d 29),.int .u8 (qa d 30),.int .u8 (qa d 31)]:List Value).map qaf = qf d 32:=rfl
@[simp high] theorem q83 (d:qd) (i:Int):([.int .u8 (qg d i 0),.int .u8 (qg d i 1),.int .u8 (qg d i 2),.int .u8 (qg d i 3),.int .u8 (qg d i 4),.int .u8 (qg d i 5),.int .u8 (qg d i 6),.int .u8 (qg d i 7),.int .u8 (qg d i 8),.int .u8 (qg d i 9),.int .u8 (qg d i 10),.int .u8 (qg d i 11),.int .u8 (qg d i 12),.int .u8 (qg d i 13),.int .u8 (qg d i 14),.int .u8 (qg d i 15),.int .u8 (qg d i 16),.int .u8 (qg d i 17),.int .u8 (qg d i 18),.int .u8 (qg d i 19),.int .u8 (qg d i 20),.int .u8 (qg d i 21),.int .u8 (qg d i 22),.int .u8 (qg d i 23),.int .u8 (qg d i 24),.int .u8 (qg d i 25),.int .u8 (qg d i 26),.int .u8 (qg d i 27),.int .u8 (qg d i 28),.int .u8 (qg d i 29),.int .u8 (qg d i 30),.int .u8 (qg d i 31)]:List Value).map qaf = qs0 d i:=rfl
@[simp high] theorem q82:qf [[.int .u8 0,.int .u8 0,.int .u8 0,.int .u8 0,.int .u8 0,.int .u8 0,.int .u8 0,.int .u8 0,.int .u8 0,.int .u8 0,.int .u8 0,.int .u8 0,.int .u8 0,.int .u8 0,.int .u8 0,.int .u8 0,.int .u8 0,.int .u8 0,.int .u8 0,.int .u8 0,.int .u8 0,.int .u8 0,.int .u8 0,.int .u8 0,.int .u8 0,.int .u8 0,.int .u8 0,.int .u8 0,.int .u8 0,.int .u8 0,.int .u8 0,.int .u8 0]] 32 = List.replicate 32 0:=rfl
@[simp high] theorem q85:([.int .u8 0,.int .u8 0,.int .u8 0,.int .u8 0,.int .u8 0,.int .u8 0,.int .u8 0,.int .u8 0,.int .u8 0,.int .u8 0,.int .u8 0,.int .u8 0,.int .u8 0,.int .u8 0,.int .u8 0,.int .u8 0,.int .u8 0,.int .u8 0,.int .u8 0,.int .u8 0,.int .u8 0,.int .u8 0,.int .u8 0,.int .u8 0,.int .u8 0,.int .u8 0,.int .u8 0,.int .u8 0,.int .u8 0,.int .u8 0,.int .u8 0,.int .u8 0]:List Value).map qaf = List.replicate 32 0:=rfl
theorem q2o {d:qd} {i:Int} (h0:0 <= i) (h1:i < d.length):qs0 d i = (dgs d).getD i.toNat []:=by
 have hl:i.toNat < d.length:=by omega
 have h2:(dgs d).getD i.toNat [] = qgM d[i.toNat]:=by simp [dgs,hl]
 rw [h2]
 refine List.map_congr_left fun k hk=>?_
 simp [qg,qJ,qbD,hl]
end Go.Proofs

set_option linter.unusedSimpArgs false
set_option linter.unusedVariables false
namespace Go.Eng
open Go

end Go.Eng

set_option linter.unusedSimpArgs false
set_option linter.unusedVariables false
namespace Go.Eng
open Go Go.Proofs
def qjZ (r:Nat):SV:=.agg [.vint .i64 (.var r),.vslice (r + 1) (.lit 0) (.var (r + 2)) (.var (r + 3)) 1]
def qqi (r:Nat):SH:=bHp (r + 1) (r + 4) (r + 5)
def qhg (ρ:Env) (r:Nat):Prop:=(ρ (r + 2)).i = (ρ (r + 4)).d.length/\(ρ (r + 2)).i <= (ρ (r + 3)).i/\(ρ (r + 2)).i <= 100000000/\q9 (ρ (r + 4)).d
def qep (k s:Int):Int:=(s + k - 1).tdiv k
def qbY (k n t s l:Int) (D:List (List Int)) (i:Int) (m:List Int):Int:=if qF k n t s l = false then 2 else if i < 0∨t <= i then 2 else if (m.length:Int) ≠ qep k s then 10 else if sha (qbV i ++ m) ≠ D.getD i.toNat [] then 20 else 0
def q0f (ρ:Env):Prop:=qiP (ρ 0).i/\qiP (ρ 3).i/\(ρ 6).i = (ρ 8).d.length/\qf3 (ρ 8).d/\qhg ρ 10
def qqN:List Alt:=[{ k:=1,ret:=iv .i64 (.var 18),heap:=[],post:=fun ρ=>(ρ 18).i = qbY (ρ 0).i (ρ 1).i (ρ 2).i (ρ 3).i (ρ 6).i (dgs (ρ 8).d) (ρ 10).i (bI (ρ 14).d) }]
def qdy:Ctr:={ fn := 60,nv:=18,ip:=[gIp 16],args:=[qnB,qjZ 10],heap:=[],ro:=[qf2 5 8 9,qqi 10,gHp 16 17],pre:=fun ρ=>q0f ρ/\gOk ρ 16 17 gR,alts:=qqN }
end Go.Eng

set_option linter.unusedSimpArgs false
set_option linter.unusedVariables false
set_option maxRecDepth 100000
namespace Go.Proofs
open Go Go.Eng

@[simp] def qul:Sg:=sg 0 [bv 9 9,bv 8 8,bv 7 7,bv 6 6,bg 5 5,bv 3 3,bv 2 2,bv 1 1,bv 0 0,bt 4 (r8 4)]
def q2D:Out:=(.fresh 12 (.fresh 13 (.pre 0 qul (.both (.post 0 0 qul 14 (.ret 0 (sg 12 [bt 13 (.lit 2),bt 12 z8]))) (.both (.fresh 14 (.fresh 15 (.fresh 16 (.fresh 17 (.post 0 1 qul 14 (.know (.cmp .leq (.dlen (.var 17)) (.var 16)) (.pre 1 (sg 0 [bv 7 11,bv 5 16,bv 4 17,bv 3 16,bv 2 15,bt 1 (.lit 0),bg 0 14,bg 6 10]) (.both (.fresh 18 (.post 1 0 (sg 0 [bv 7 11,bv 5 16,bv 4 17,bv 3 16,bv 2 15,bt 1 (.lit 0),bg 0 14,bg 6 10]) 18 (.ret 0 (sg 12 [bt 13 (.lit 0),bt 12 (r8 18)])))) .top)))))))) .top)))))
theorem q6o:qk ⟨Tryz.prog,idC,[qdz,qaI],[]⟩ 100000 Tryz.f44 = q2D:=by kernel_rfl
theorem q8i (hd:∀ c ∈ ([qdz,qaI]:List Ctr),c.ok Tryz.prog) (h:∀ ρ:Env,ρ.good->(idC).pre ρ->q2D.den ⟨Tryz.prog,idC,[qdz,qaI],[]⟩ ρ):(idC).ok Tryz.prog :=
 qe Tryz.func44 (fun a w=>Tryz.call44 a w) hd 100000 (fun ρ hg hp=>by rw [q6o]; exact h ρ hg hp)
end Go.Proofs

set_option linter.unusedSimpArgs false
set_option linter.unusedVariables false
set_option maxRecDepth 100000
namespace Go.Proofs
open Go Go.Eng
theorem q6b:∀ i:Fin 255,ql2.getD (qh1.getD i.val 0).toNat 0 = i.val:=by decide +kernel
theorem q6i:∀ a:Fin 256,a.val ≠ 0->qh1.getD (ql2.getD a.val 0).toNat 0 = a.val:=by decide +kernel
theorem q5L:∀ i:Fin 255,qh1.getD (i.val + 255) 0 = qh1.getD i.val 0:=by decide +kernel
end Go.Proofs

set_option linter.unusedSimpArgs false
set_option linter.unusedVariables false
namespace Go.Proofs
open Go Go.Eng

abbrev F:=BitVec 8
def toF (x:Int):F:=BitVec.ofInt 8 x
def ofF (x:F):Int:=(x.toNat:Nat)
def isB (x:Int):Prop:=0 <= x/\x < 256
theorem qjl {x:F}:isB (ofF x):=⟨Int.natCast_nonneg _,by have:=x.isLt; unfold ofF; omega⟩
theorem qjf {x:F}:toF (ofF x) = x:=by
 unfold toF ofF
 apply BitVec.eq_of_toNat_eq
 rw [BitVec.toNat_ofInt]
 have:=x.isLt
 omega
theorem qrf {x:Int} (h:isB x):(toF x).toNat = x.toNat:=by
 obtain ⟨h0,h1⟩:=h
 unfold toF
 rw [BitVec.toNat_ofInt]
 omega
theorem qxg {x:Int} (h:isB x):ofF (toF x) = x:=by
 unfold ofF
 rw [qrf h]
 obtain ⟨h0,h1⟩:=h
 omega
theorem qqm {x y:Int} (hx:isB x) (hy:isB y) (h:toF x = toF y):x = y:=by rw [<- qxg hx,<- qxg hy,h]
theorem qto:toF 0 = 0:=rfl
theorem qe7 {x:Int} (h:isB x):toF x = 0↔x = 0:=⟨fun e=>qqm h ⟨by omega,by omega⟩ e,fun e=>by rw [e]; rfl⟩
theorem q07 {x y:Int}:qhs x y = ofF (toF x ^^^ toF y):=by
 have h:(BitVec.ofInt 8 x ^^^ BitVec.ofInt 8 y).toNat < 256:=(BitVec.ofInt 8 x ^^^ BitVec.ofInt 8 y).isLt
 unfold qhs qc ofF toF
 show IntKind.u8.wrap _ = _
 have hb:IntKind.u8.bits = 8:=rfl
 rw [hb]
 generalize (BitVec.ofInt 8 x ^^^ BitVec.ofInt 8 y).toNat = z at h ⊢
 simp only [IntKind.wrap,IntKind.bits,IntKind.signed]
 simp
 omega
theorem qkw {x y:Int}:toF (qhs x y) = toF x ^^^ toF y:=by rw [q07,qjf]

def qbx (n:Nat):F:=BitVec.ofNat 8 (qh1.getD (n % 255) 0).toNat
def qev (x:F):Nat:=(ql2.getD x.toNat 0).toNat
def qh (x y:F):F:=if x = 0∨y = 0 then 0 else qbx (qev x + qev y)
def qew (x:F):F:=if x = 0 then 0 else qbx (255 - qev x)
theorem qvl {n:Nat}:qbx (n % 255) = qbx n:=by unfold qbx; rw [Nat.mod_mod]
theorem qkl {n m:Nat} (h:n % 255 = m % 255):qbx n = qbx m:=by rw [<- qvl,h,qvl]
theorem qgY {n:Nat}:(qbx n).toNat = (qh1.getD (n % 255) 0).toNat:=by
 have h:=qfv ⟨n % 255,by omega⟩
 simp only at h
 unfold qbx
 rw [BitVec.toNat_ofNat]
 omega
theorem qmc {n:Nat}:qbx n ≠ 0:=fun h=>by
 have h1:=congrArg BitVec.toNat h
 rw [qgY] at h1
 have h2:=qfv ⟨n % 255,by omega⟩
 simp only at h2
 rw [show (0:F).toNat = 0 by rfl] at h1
 omega
theorem qfO {x:F}:qev x < 255:=by
 have:=qks ⟨x.toNat,x.isLt⟩
 simp only at this
 unfold qev
 omega
theorem qhy {x:F} (h:x ≠ 0):qbx (qev x) = x:=by
 apply BitVec.eq_of_toNat_eq
 have h0:x.toNat ≠ 0:=fun e=>h (BitVec.eq_of_toNat_eq (by rw [e]; rfl))
 have h1:=q6i ⟨x.toNat,x.isLt⟩ h0
 simp only at h1
 rw [qgY,Nat.mod_eq_of_lt qfO,qev,h1]
 omega
theorem qtw {n:Nat}:qev (qbx n) = n % 255:=by
 have h:=q6b ⟨n % 255,by omega⟩
 simp only at h
 unfold qev
 rw [qgY,h]
 omega
theorem qiv:qbx 0 = 1:=by decide
theorem qac {x y:F}:qh x y = qh y x:=by
 unfold qh
 by_cases hx:x = 0
 ·simp [hx]
 ·by_cases hy:y = 0
  ·simp [hy]
  ·rw [if_neg (not_or.2 ⟨hx,hy⟩),if_neg (not_or.2 ⟨hy,hx⟩),Nat.add_comm]
theorem qy {x:F}:qh x 0 = 0:=by simp [qh]
theorem qA {x:F}:qh 0 x = 0:=by simp [qh]
theorem qwT {x y:F} (hx:x ≠ 0) (hy:y ≠ 0):qh x y = qbx (qev x + qev y):=by rw [qh,if_neg (not_or.2 ⟨hx,hy⟩)]
theorem qlE {x y:F} (hx:x ≠ 0) (hy:y ≠ 0):qh x y ≠ 0:=by rw [qwT hx hy]; exact qmc
theorem quM {x y:F}:qh x y = 0↔x = 0∨y = 0:=⟨fun h=>by
 by_cases hx:x = 0
 ·exact .inl hx
 ·by_cases hy:y = 0
  ·exact .inr hy
  ·exact (qlE hx hy h).elim,fun h=>by rcases h with rfl | rfl; exact qA; exact qy⟩
theorem qdF {n m:Nat}:qh (qbx n) (qbx m) = qbx (n + m):=by
 rw [qwT qmc qmc,qtw,qtw]
 exact qkl (by omega)
theorem qaR {x:F}:qh x 1 = x:=by
 by_cases h:x = 0
 ·rw [h,qA]
 ·rw [<- qiv]; conv=>lhs; arg 1; rw [<- qhy h]
  rw [qdF,Nat.add_zero,qhy h]
theorem qhO {x:F}:qh 1 x = x:=by rw [qac,qaR]
theorem qhf {x:F} (h:x ≠ 0):∃ n,n < 255/\x = qbx n:=⟨qev x,qfO,(qhy h).symm⟩
theorem qO {x y z:F}:qh (qh x y) z = qh x (qh y z):=by
 by_cases hx:x = 0
 ·rw [hx,qA,qA,qA]
 by_cases hy:y = 0
 ·rw [hy,qy,qA,qy]
 by_cases hz:z = 0
 ·rw [hz,qy,qy,qy]
 obtain ⟨a,_,rfl⟩:=qhf hx
 obtain ⟨b,_,rfl⟩:=qhf hy
 obtain ⟨c,_,rfl⟩:=qhf hz
 rw [qdF,qdF,qdF,qdF,Nat.add_assoc]
theorem q5c {x:F} (h:x ≠ 0):qew x ≠ 0:=by rw [qew,if_neg h]; exact qmc
theorem qim {x:F} (h:x ≠ 0):qh x (qew x) = 1:=by
 rw [qew,if_neg h]
 conv=>lhs; arg 1; rw [<- qhy h]
 have:=qfO (x:=x)
 rw [qdF,<- qiv]
 exact qkl (by omega)
def xt (x:F):F:=x <<< 1 ^^^ (if x.msb then 29#8 else 0#8)
theorem q18:∀ i:Fin 256,qh (BitVec.ofFin i) 2 = xt (BitVec.ofFin i):=by decide +kernel
theorem qn0 {x:F}:qh x 2 = xt x:=q18 x.toFin
theorem q6E {x y:F}:xt (x ^^^ y) = xt x ^^^ xt y:=by
 unfold xt
 rw [BitVec.shiftLeft_xor_distrib,BitVec.msb_xor]
 have h1:∀ a b c:F,a ^^^ b ^^^ c = a ^^^ c ^^^ b:=fun a b c=>by rw [BitVec.xor_assoc,BitVec.xor_comm b c,<- BitVec.xor_assoc]
 cases x.msb <;> cases y.msb
 ·simp
 ·simp [BitVec.xor_assoc]
 ·simp [h1 (x <<< 1) (29#8) (y <<< 1)]
 ·simp only [bne_self_eq_false,Bool.false_eq_true,if_true,if_false,BitVec.xor_zero]
  rw [h1 (x <<< 1) (29#8),BitVec.xor_assoc (x <<< 1),BitVec.xor_assoc (y <<< 1),BitVec.xor_self,BitVec.xor_zero]
theorem qlb {x y:F}:∀ n:Nat,qh (x ^^^ y) (qbx n) = qh x (qbx n) ^^^ qh y (qbx n)
 | 0=>by rw [qiv,qaR,qaR,qaR]
 | n + 1=>by
  have he:qbx (n + 1) = qh (qbx n) 2:=by
   have:(2:F) = qbx 1:=by decide
   rw [this,qdF]
  rw [he,<- qO,<- qO,<- qO,qlb n,qn0,qn0,qn0,q6E]
theorem qbZ {x y z:F}:qh (x ^^^ y) z = qh x z ^^^ qh y z:=by
 by_cases hz:z = 0
 ·rw [hz,qy,qy,qy]; rfl
 ·obtain ⟨n,_,rfl⟩:=qhf hz
  exact qlb n
theorem qhR {x y z:F}:qh z (x ^^^ y) = qh z x ^^^ qh z y:=by rw [qac,qbZ,qac,qac (x:=y)]

theorem qt2 {i:Nat} (h:i < 510):ql3 i = ofF (qbx i):=by
 rw [qwZ h,ofF,qgY]
 by_cases hi:i < 255
 ·rw [Nat.mod_eq_of_lt hi]
  have:=qfv ⟨i,h⟩
  simp only at this
  omega
 ·have h1:=q5L ⟨i - 255,by omega⟩
  have h2:=qfv ⟨i,h⟩
  simp only at h1 h2
  rw [show i - 255 + 255 = i by omega] at h1
  rw [show i % 255 = i - 255 by omega,<- h1]
  omega
theorem qos {a:Int} (h:isB a):qbl a.toNat = (qev (toF a):Nat):=by
 obtain ⟨h0,h1⟩:=h
 rw [qwW (by omega),qev,qrf ⟨h0,h1⟩]
 have:=qks ⟨a.toNat,by omega⟩
 simp only at this
 omega
theorem q1a {a b:Int} (ha:isB a) (hb:isB b):qcZ a b = ofF (qh (toF a) (toF b)):=by
 unfold qcZ qh
 simp only [qe7 ha,qe7 hb]
 split
 ·rfl
 ·have h1:=qfO (x:=toF a)
  have h2:=qfO (x:=toF b)
  rw [qos ha,qos hb,qt2 (by omega)]
  congr 2
theorem q0T {a:Int} (ha:isB a):qfE a = ofF (qew (toF a)):=by
 unfold qfE qew
 simp only [qe7 ha]
 split
 ·rfl
 ·have h1:=qfO (x:=toF a)
  rw [qos ha,qt2 (by omega)]
  congr 2
  omega
theorem q4c {a b:Int} (ha:isB a) (hb:isB b):isB (qcZ a b):=by rw [q1a ha hb]; exact qjl
theorem qhT {a b:Int} (ha:isB a) (hb:isB b):toF (qcZ a b) = qh (toF a) (toF b):=by rw [q1a ha hb,qjf]
theorem q3C {a:Int} (ha:isB a):isB (qfE a):=by rw [q0T ha]; exact qjl
theorem q2Q {a:Int} (ha:isB a):toF (qfE a) = qew (toF a):=by rw [q0T ha,qjf]
theorem q4A {a b:Int}:isB (qhs a b):=by rw [q07]; exact qjl
def qaB (x:F):Nat->F
 | 0=>1
 | n + 1=>qh (qaB x n) x
theorem qvt {n:Nat}:∀ m,qaB (qbx n) m = qbx (n * m)
 | 0=>by rw [Nat.mul_zero]; exact qiv.symm
 | m + 1=>by rw [qaB,qvt m,qdF,Nat.mul_succ]
theorem qyC {m:Nat} (h:0 < m):qaB 0 m = 0:=by
 cases m with
 | zero=>omega
 | succ m=>rw [qaB,qy]
theorem q1h {a e:Int} (ha:isB a) (he:e < 9223372036854775808):qgP a e = ofF (qaB (toF a) e.toNat):=by
 unfold qgP
 by_cases h0:e <= 0
 ·rw [if_pos h0,show e.toNat = 0 by omega]; rfl
 rw [if_neg h0]
 by_cases h1:a = 0
 ·rw [if_pos h1,h1,qto,qyC (by omega)]; rfl
 rw [if_neg h1]
 have hx:toF a ≠ 0:=fun h=>h1 ((qe7 ha).1 h)
 have hl:=qfO (x:=toF a)
 rw [qos ha]
 have e1:e.tmod 255 = ((e.toNat % 255:Nat):Int):=by
  rw [Int.tmod_eq_emod_of_nonneg (by omega)]; omega
 rw [e1,<- Int.natCast_mul,Int.tmod_eq_emod_of_nonneg (by omega),qt2 (by omega)]
 congr 1
 conv=>rhs; rw [<- qhy hx,qvt]
 refine qkl ?_
 have:((qev (toF a) * (e.toNat % 255):Nat):Int) % 255 = ((qev (toF a) * (e.toNat % 255) % 255:Nat):Int):=by omega
 rw [this,Int.toNat_natCast,Nat.mod_mod,Nat.mul_mod,Nat.mod_mod,<- Nat.mul_mod]
theorem q4x {a e:Int} (ha:isB a) (he:e < 9223372036854775808):isB (qgP a e):=by rw [q1h ha he]; exact qjl
end Go.Proofs

set_option linter.unusedSimpArgs false
set_option linter.unusedVariables false
namespace Go.Proofs
open Go Go.Eng

theorem qss (a b c:F):a ^^^ (b ^^^ c) = b ^^^ (a ^^^ c):=by rw [<- BitVec.xor_assoc,BitVec.xor_comm a b,BitVec.xor_assoc]
theorem qno (a b c d:F):(a ^^^ b) ^^^ (c ^^^ d) = (a ^^^ c) ^^^ (b ^^^ d):=by rw [BitVec.xor_assoc,BitVec.xor_assoc,qss b c d]
theorem qeD {a b:F}:a ^^^ b = 0↔a = b:=⟨fun h=>by
 have:a ^^^ b ^^^ b = b:=by rw [h]; simp
 rwa [BitVec.xor_assoc,BitVec.xor_self,BitVec.xor_zero] at this,fun h=>by rw [h]; exact BitVec.xor_self⟩
theorem qad {a:F}:a ^^^ 0 = a:=BitVec.xor_zero
theorem qan {a:F}:0 ^^^ a = a:=BitVec.zero_xor
theorem qay {a:F}:a ^^^ a = 0:=BitVec.xor_self
theorem qmZ {a b:F}:a ^^^ b ^^^ b = a:=by rw [BitVec.xor_assoc,BitVec.xor_self,BitVec.xor_zero]
def qw (f:Nat->F):Nat->F
 | 0=>0
 | n + 1=>qw f n ^^^ f n
theorem qj {f g:Nat->F} {n:Nat} (h:∀ i,i < n->f i = g i):qw f n = qw g n:=by
 induction n with
 | zero=>rfl
 | succ n ih=>rw [qw,qw,ih fun i hi=>h i (by omega),h n (by omega)]
theorem qcs {f:Nat->F} {n:Nat} (h:∀ i,i < n->f i = 0):qw f n = 0:=by
 induction n with
 | zero=>rfl
 | succ n ih=>rw [qw,ih fun i hi=>h i (by omega),h n (by omega),qad]
theorem qfR {f g:Nat->F} {n:Nat}:qw (fun i=>f i ^^^ g i) n = qw f n ^^^ qw g n:=by
 induction n with
 | zero=>exact qad.symm
 | succ n ih=>rw [qw,qw,qw,ih,qno]
theorem qdh {f:Nat->F} {c:F} {n:Nat}:qw (fun i=>qh c (f i)) n = qh c (qw f n):=by
 induction n with
 | zero=>exact qy.symm
 | succ n ih=>rw [qw,qw,ih,qhR]
theorem qdR {f:Nat->F} {c:F} {n:Nat}:qw (fun i=>qh (f i) c) n = qh (qw f n) c:=by
 rw [qac,<- qdh]
 exact qj fun i _=>qac
theorem qhC {f:Nat->F} {n k:Nat} (hk:k < n) (h:∀ i,i < n->i ≠ k->f i = 0):qw f n = f k:=by
 induction n with
 | zero=>omega
 | succ n ih =>
  rw [qw]
  by_cases hkn:k = n
  ·rw [qcs fun i hi=>h i (by omega) (by omega),hkn,qan]
  ·rw [ih (by omega) fun i hi=>h i (by omega),h n (by omega) (by omega),qad]
theorem qfg {f:Nat->Nat->F} {n m:Nat}:qw (fun i=>qw (fun j=>f i j) m) n = qw (fun j=>qw (fun i=>f i j) n) m:=by
 induction n with
 | zero=>exact (qcs fun _ _=>rfl).symm
 | succ n ih =>
  rw [qw,ih,<- qfR]
  rfl
def del (i j:Nat):F:=if i = j then 1 else 0
theorem qnu {f:Nat->F} {n k:Nat} (hk:k < n):qw (fun i=>qh (del i k) (f i)) n = f k:=by
 rw [qhC hk fun i hi hik=>by rw [del,if_neg hik,qA],del,if_pos rfl,qhO]
theorem qg5 {f:Nat->F} {n k:Nat} (hk:k < n):qw (fun i=>qh (f i) (del i k)) n = f k:=by
 rw [qhC hk fun i hi hik=>by rw [del,if_neg hik,qy],del,if_pos rfl,qaR]

abbrev Mat:=Nat->Nat->F
def spans (r w:Nat) (T:Mat) (v:Nat->F):Prop:=∃ x:Nat->F,∀ j,j < w->v j = qw (fun i=>qh (x i) (T i j)) r
theorem qaX {r w:Nat} {T:Mat} {i:Nat} (hi:i < r):spans r w T (T i):=⟨fun a=>del a i,fun j _=>(qnu (f:=fun a=>T a j) hi).symm⟩
theorem qbS {r w:Nat} {T:Mat} {v v':Nat->F} (h:spans r w T v) (he:∀ j,j < w->v' j = v j):spans r w T v':=by
 obtain ⟨x,hx⟩:=h
 exact ⟨x,fun j hj=>by rw [he j hj,hx j hj]⟩
theorem qrG {r w:Nat} {T:Mat} {v v':Nat->F} (h:spans r w T v) (h':spans r w T v'):spans r w T (fun j=>v j ^^^ v' j):=by
 obtain ⟨x,hx⟩:=h
 obtain ⟨y,hy⟩:=h'
 refine ⟨fun i=>x i ^^^ y i,fun j hj=>?_⟩
 show v j ^^^ v' j = _
 rw [hx j hj,hy j hj,<- qfR]
 exact qj fun i _=>qbZ.symm
theorem qhZ {r w:Nat} {T:Mat} {v:Nat->F} {c:F} (h:spans r w T v):spans r w T (fun j=>qh c (v j)):=by
 obtain ⟨x,hx⟩:=h
 refine ⟨fun i=>qh c (x i),fun j hj=>?_⟩
 show qh c (v j) = _
 rw [hx j hj,<- qdh]
 exact qj fun i _=>qO.symm
theorem qgs {r w:Nat} {T T':Mat} {v:Nat->F} (h:spans r w T' v) (hr:∀ i,i < r->spans r w T (T' i)):spans r w T v:=by
 obtain ⟨x,hx⟩:=h
 let y:Nat->Nat->F:=fun i=>if h:i < r then (hr i h).choose else fun _=>0
 have hy:∀ i,i < r->∀ j,j < w->T' i j = qw (fun a=>qh (y i a) (T a j)) r:=fun i hi j hj=>by
  simp only [y,dif_pos hi]
  exact (hr i hi).choose_spec j hj
 refine ⟨fun a=>qw (fun i=>qh (x i) (y i a)) r,fun j hj=>?_⟩
 rw [hx j hj,qj fun i hi=>by rw [hy i hi j hj,<- qdh],qfg]
 refine qj fun a _=>?_
 rw [<- qdR]
 exact qj fun i _=>qO.symm
structure Same (r w:Nat) (T T':Mat):Prop where
 to:∀ i,i < r->spans r w T (T' i)
 back:∀ i,i < r->spans r w T' (T i)
theorem Same.refl {r w:Nat} {T:Mat}:Same r w T T:=⟨fun i hi=>qaX hi,fun i hi=>qaX hi⟩
theorem Same.trans {r w:Nat} {T T' T'':Mat} (h:Same r w T T') (h':Same r w T' T''):Same r w T T'' :=
 ⟨fun i hi=>qgs (h'.to i hi) h.to,fun i hi=>qgs (h.back i hi) h'.back⟩
theorem Same.symm {r w:Nat} {T T':Mat} (h:Same r w T T'):Same r w T' T:=⟨h.back,h.to⟩
theorem Same.spans {r w:Nat} {T T':Mat} (h:Same r w T T') {v:Nat->F}:spans r w T v↔Go.Proofs.spans r w T' v:=⟨fun hv=>qgs hv h.back,fun hv=>qgs hv h.to⟩
theorem qtk {r w:Nat} {T T':Mat} {i p:Nat} {g:F} (hi:i < r) (hp:p < r) (hip:i ≠ p) (h1:∀ j,j < w->T' i j = T i j ^^^ qh g (T p j)) (h2:∀ a,a < r->a ≠ i->∀ j,j < w->T' a j = T a j):Same r w T T':=by
 refine ⟨fun a ha=>?_,fun a ha=>?_⟩
 ·by_cases hai:a = i
  ·subst hai
   exact qbS (qrG (qaX ha) (qhZ (c:=g) (qaX hp))) h1
  ·exact qbS (qaX ha) (h2 a ha hai)
 ·by_cases hai:a = i
  ·subst hai
   refine qbS (qrG (qaX ha) (qhZ (c:=g) (qaX hp))) fun j hj=>?_
   rw [h1 j hj,h2 p hp (Ne.symm hip) j hj,qmZ]
  ·exact qbS (qaX ha) fun j hj=>(h2 a ha hai j hj).symm
theorem q2A {r w:Nat} {T T':Mat} {i:Nat} {g:F} (hi:i < r) (hg:g ≠ 0) (h1:∀ j,j < w->T' i j = qh (T i j) g) (h2:∀ a,a < r->a ≠ i->∀ j,j < w->T' a j = T a j):Same r w T T':=by
 refine ⟨fun a ha=>?_,fun a ha=>?_⟩
 ·by_cases hai:a = i
  ·subst hai
   exact qbS (qhZ (c:=g) (qaX ha)) fun j hj=>by rw [h1 j hj,qac]
  ·exact qbS (qaX ha) (h2 a ha hai)
 ·by_cases hai:a = i
  ·subst hai
   refine qbS (qhZ (c:=qew g) (qaX ha)) fun j hj=>?_
   rw [h1 j hj,qac,qO,qim hg,qaR]
  ·exact qbS (qaX ha) fun j hj=>(h2 a ha hai j hj).symm
def lead (r w:Nat) (T:Mat) (c:Nat):Prop:=∃ v,spans r w T v/\(∀ j,j < c->v j = 0)/\v c ≠ 0
open Classical in
noncomputable def cnt (r w:Nat) (T:Mat):Nat->Nat
 | 0=>0
 | c + 1=>cnt r w T c + if lead r w T c then 1 else 0
theorem Same.lead {r w:Nat} {T T':Mat} (h:Same r w T T') {c:Nat}:lead r w T c↔Go.Proofs.lead r w T' c:=by
 unfold Go.Proofs.lead
 simp only [h.spans]
theorem q1w {r w:Nat} {T:Mat}:∀ c,cnt r w T c <= c
 | 0=>Nat.le_refl _
 | c + 1=>by
  have:=q1w (r:=r) (w:=w) (T:=T) c
  unfold cnt; split <;> omega
theorem qtq {r w:Nat} {T:Mat} {c:Nat}:∀ d,cnt r w T c <= cnt r w T (c + d)
 | 0=>Nat.le_refl _
 | d + 1=>by
  have:=qtq (r:=r) (w:=w) (T:=T) (c:=c) d
  rw [<- Nat.add_assoc]
  conv=>rhs; unfold cnt
  omega
theorem qhJ {r w:Nat} {T:Mat} {c:Nat} (h:lead r w T c):cnt r w T (c + 1) = cnt r w T c + 1:=by rw [cnt,if_pos h]
theorem qqc {r w:Nat} {T:Mat} {c:Nat} (h:¬ lead r w T c):cnt r w T (c + 1) = cnt r w T c:=by rw [cnt,if_neg h]; rfl
theorem quh {r w:Nat} {T:Mat} {c c':Nat} (h:lead r w T c) (hlt:c < c'):cnt r w T c < cnt r w T c':=by
 have:=qtq (r:=r) (w:=w) (T:=T) (c:=c + 1) (c' - (c + 1))
 rw [show c + 1 + (c' - (c + 1)) = c' by omega,qhJ h] at this
 omega
theorem q54 {r w:Nat} {T:Mat} {c c':Nat} (h:lead r w T c) (h':lead r w T c') (he:cnt r w T c = cnt r w T c'):c = c':=by
 rcases Nat.lt_trichotomy c c' with h1 | h1 | h1
 ·have:=quh h h1; omega
 ·exact h1
 ·have:=quh h' h1; omega
theorem qj2 {r w:Nat} {T:Mat}:∀ {c i:Nat},i < cnt r w T c->∃ c',c' < c/\lead r w T c'/\cnt r w T c' = i
 | 0,i,h=>by simp [cnt] at h
 | c + 1,i,h=>by
  by_cases hl:lead r w T c
  ·rw [qhJ hl] at h
   by_cases hi:i = cnt r w T c
   ·exact ⟨c,by omega,hl,hi.symm⟩
   ·obtain ⟨c',h1,h2,h3⟩:=qj2 (r:=r) (w:=w) (T:=T) (c:=c) (i:=i) (by omega)
    exact ⟨c',by omega,h2,h3⟩
  ·rw [qqc hl] at h
   obtain ⟨c',h1,h2,h3⟩:=qj2 (c:=c) h
   exact ⟨c',by omega,h2,h3⟩
structure Ech (r w:Nat) (T0 T:Mat) (c rank:Nat):Prop where
 same:Same r w T0 T
 num:rank = cnt r w T0 c
 le:rank <= r
 col:∀ c',c' < c->lead r w T0 c'->∀ i,i < r->T i c' = del i (cnt r w T0 c')
 low:∀ i,rank <= i->i < r->∀ c',c' < c->T i c' = 0
theorem q03 {r w:Nat} {T:Mat}:Ech r w T T 0 0:=⟨Same.refl,rfl,Nat.zero_le _,fun c' h=>by omega,fun i _ _ c' h=>by omega⟩
theorem q6m {r w:Nat} {T0 T:Mat} {c rank:Nat} (h:Ech r w T0 T c rank) (hc:c <= w) {v:Nat->F} (hv:spans r w T0 v) (h0:∀ j,j < c->v j = 0) :
  ∃ x:Nat->F,(∀ i,i < rank->x i = 0)/\∀ j,j < w->v j = qw (fun i=>qh (x i) (T i j)) r:=by
 obtain ⟨x,hx⟩:=h.same.spans.1 hv
 refine ⟨x,fun i hi=>?_,hx⟩
 rw [h.num] at hi
 obtain ⟨c',h1,h2,h3⟩:=qj2 hi
 have hle:=h.le
 have h4:=hx c' (by omega)
 rw [h0 c' h1,qj fun a ha=>by rw [h.col c' h1 h2 a ha,h3]] at h4
 rw [qg5 (f:=x) (by have:=h.num; omega)] at h4
 exact h4.symm
theorem quW {r w:Nat} {T0 T:Mat} {c rank:Nat} (h:Ech r w T0 T c rank) (hc:c < w) (hz:∀ i,rank <= i->i < r->T i c = 0):Ech r w T0 T (c + 1) rank:=by
 have hn:¬ lead r w T0 c:=fun ⟨v,h1,h2,h3⟩=>by
  obtain ⟨x,hx,he⟩:=q6m h (by omega) h1 h2
  apply h3
  rw [he c hc]
  refine qcs fun i hi=>?_
  by_cases hir:i < rank
  ·rw [hx i hir,qA]
  ·rw [hz i (by omega) hi,qy]
 refine ⟨h.same,by rw [qqc hn]; exact h.num,h.le,fun c' hc' hl i hi=>?_,fun i h1 h2 c' hc'=>?_⟩
 ·by_cases he:c' = c
  ·rw [he] at hl; exact (hn hl).elim
  ·exact h.col c' (by omega) hl i hi
 ·by_cases he:c' = c
  ·rw [he]; exact hz i h1 h2
  ·exact h.low i h1 h2 c' (by omega)
theorem q4w {r w:Nat} {T0 T T':Mat} {c rank:Nat} (h:Ech r w T0 T c rank) (hc:c < w) (hr:rank < r) (hs:Same r w T T') (hcol:∀ i,i < r->T' i c = del i rank)
  (hold:∀ c',c' < c->∀ i,i < r->T' i c' = T i c'):Ech r w T0 T' (c + 1) (rank + 1):=by
 have hl:lead r w T0 c:=by
  refine ⟨T' rank,(h.same.trans hs).spans.2 (qaX hr),fun j hj=>?_,?_⟩
  ·rw [hold j hj rank hr]; exact h.low rank (Nat.le_refl _) hr j hj
  ·rw [hcol rank hr,del,if_pos rfl]; decide
 refine ⟨h.same.trans hs,by rw [qhJ hl,<- h.num],hr,fun c' hc' hl' i hi=>?_,fun i h1 h2 c' hc'=>?_⟩
 ·by_cases he:c' = c
  ·rw [he,hcol i hi,h.num]
  ·rw [hold c' (by omega) i hi]; exact h.col c' (by omega) hl' i hi
 ·by_cases he:c' = c
  ·rw [he,hcol i h2,del,if_neg (by omega)]
  ·rw [hold c' (by omega) i h2]; exact h.low i (by omega) h2 c' (by omega)
theorem qsQ {r w:Nat} {T:Mat}:∀ {n:Nat},cnt r w T n = n->∀ c,c < n->lead r w T c/\cnt r w T c = c
 | 0,_,c,h=>by omega
 | n + 1,he,c,h=>by
  by_cases hl:lead r w T n
  ·rw [qhJ hl] at he
   by_cases hc:c = n
   ·exact ⟨by rw [hc]; exact hl,by rw [hc]; omega⟩
   ·exact qsQ (n:=n) (by omega) c (by omega)
  ·rw [qqc hl] at he
   have:=q1w (r:=r) (w:=w) (T:=T) n
   omega
theorem qun {r w:Nat} {T0 T:Mat} {n:Nat} (h:Ech r w T0 T n n):∀ i,i < r->∀ c,c < n->T i c = del i c:=fun i hi c hc=>by
 obtain ⟨h1,h2⟩:=qsQ h.num.symm c hc
 rw [h.col c hc h1 i hi,h2]
theorem q25 {r w:Nat} {T0 T:Mat} {n rank:Nat} (h:Ech r w T0 T n rank) (hn:n <= w) (hlt:rank < n):∃ y:Nat->F,(∃ c,c < n/\y c ≠ 0)/\∀ i,i < r->qw (fun j=>qh (T0 i j) (y j)) n = 0:=by
 have hex:∃ c,c < n/\¬ lead r w T0 c:=by
  refine Classical.byContradiction fun hno=>?_
  have hall:∀ c,c < n->lead r w T0 c:=fun c hc=>Classical.byContradiction fun hl=>hno ⟨c,hc,hl⟩
  have:∀ c,c <= n->cnt r w T0 c = c:=fun c=>by
   induction c with
   | zero=>intro _; rfl
   | succ c ih=>intro hc; rw [qhJ (hall c (by omega)),ih (by omega)]
  have:=this n (Nat.le_refl _)
  have:=h.num
  omega
 obtain ⟨c,hc,hnl⟩:=hex
 let y:Nat->F:=fun j=>open Classical in if j = c then 1 else if lead r w T0 j then T (cnt r w T0 j) c else 0
 have hyc:y c = 1:=by simp [y]
 have hT:∀ i,i < r->qw (fun j=>qh (T i j) (y j)) n = 0:=fun i hi=>by
  have hsplit:qw (fun j=>qh (T i j) (y j)) n = qw (fun j=>qh (if j = c then T i c else 0) 1) n ^^^ qw (fun j=>open Classical in if j ≠ c/\lead r w T0 j then qh (del i (cnt r w T0 j)) (T (cnt r w T0 j) c) else 0) n:=by
   rw [<- qfR]
   refine qj fun j hj=>?_
   by_cases hjc:j = c
   ·subst hjc
    simp only [hyc,qaR,if_true,ne_eq,not_true,false_and,if_false,qad]
   ·simp only [if_neg hjc,qA,qan]
    by_cases hl:lead r w T0 j
    ·rw [if_pos ⟨hjc,hl⟩,h.col j hj hl i hi]; simp only [y,if_neg hjc,if_pos hl]
    ·rw [if_neg fun hh=>hl hh.2]; simp only [y,if_neg hjc,if_neg hl,qy]
  rw [hsplit,qhC hc fun j _ hj=>by rw [if_neg hj,qA],if_pos rfl,qaR]
  by_cases hir:i < rank
  ·rw [h.num] at hir
   obtain ⟨c',h1,h2,h3⟩:=qj2 hir
   have hcc:c' ≠ c:=fun e=>hnl (e ▸ h2)
   rw [qhC (k:=c') h1 fun j hj hjc=>?_,if_pos ⟨hcc,h2⟩,h3,del,if_pos rfl,qhO,qay]
   split
   ·rename_i hh
    rw [del,if_neg,qA]
    intro e
    exact hjc (q54 hh.2 h2 (by rw [h3,e]))
   ·rfl
  ·rw [h.low i (by omega) hi c hc,qan]
   refine qcs fun j hj=>?_
   split
   ·rename_i hh
    rw [del,if_neg,qA]
    have:=quh hh.2 hj
    have:=h.num
    omega
   ·rfl
 refine ⟨y,⟨c,hc,by rw [hyc]; decide⟩,fun i hi=>?_⟩
 obtain ⟨x,hx⟩:=h.same.back i hi
 rw [qj fun j hj=>by rw [hx j (by omega),<- qdR],qfg]
 refine qcs fun a ha=>?_
 rw [qj (g:=fun j=>qh (x a) (qh (T a j) (y j))) fun j _=>qO,qdh,hT a ha,qy]
end Go.Proofs

set_option linter.unusedSimpArgs false
set_option linter.unusedVariables false
namespace Go.Proofs
open Go Go.Eng

def qas (x:F):List F->F
 | []=>0
 | c :: l=>qh (qas x l) x ^^^ c
theorem qfK {x:F}:qas x [] = 0:=rfl
theorem qh7 {x c:F}:qas x [c] = c:=by rw [qas,qfK,qA,qan]
def qiO (r:F):List F->List F
 | []=>[]
 | [_]=>[]
 | _ :: c' :: l=>qas r (c' :: l) :: qiO r (c' :: l)
theorem quH {r:F}:∀ {l:List F},(qiO r l).length = l.length - 1
 | []=>rfl
 | [_]=>rfl
 | _ :: c' :: l=>by simp only [qiO,List.length_cons,quH (l:=c' :: l)]; omega
theorem qsG {x r:F}:∀ {l:List F},qas x l ^^^ qas r l = qh (x ^^^ r) (qas x (qiO r l))
 | []=>by rw [qiO,qfK,qfK,qay,qy]
 | [c]=>by rw [qiO,qh7,qh7,qfK,qay,qy]
 | c :: c' :: l=>by
  have ih:=qsG (x:=x) (r:=r) (l:=c' :: l)
  rw [qiO,show qas x (c :: c' :: l) = qh (qas x (c' :: l)) x ^^^ c from rfl,show qas r (c :: c' :: l) = qh (qas r (c' :: l)) r ^^^ c from rfl]
  conv=>rhs; rw [qas]
  have h1:∀ a b d:F,a ^^^ b = qh (x ^^^ r) d->qh a x ^^^ c ^^^ (qh b r ^^^ c) = qh (x ^^^ r) (qh d x ^^^ b):=fun a b d h=>by
   rw [qno,qay,qad,qhR (z:=x ^^^ r),<- qO,<- h,qbZ,qac (x:=x ^^^ r),qhR,<- BitVec.xor_assoc,qmZ]
  exact h1 _ _ _ ih
theorem qsF {r:F}:∀ {l:List F} {c:F},(∀ y ∈ qiO r (c :: l),y = 0)->∀ y ∈ l,y = 0
 | [],_,_=>by simp
 | c' :: l,c,h=>by
  simp only [qiO,List.mem_cons,forall_eq_or_imp] at h
  have ht:=qsF (l:=l) (c:=c') h.2
  have hh:qas r l = 0:=by
   clear h
   induction l with
   | nil=>rfl
   | cons a l ih=>rw [qas,ih fun y hy=>ht y (List.mem_cons_of_mem _ hy),qA,ht a (List.mem_cons_self ..),qad]
  have h1:=h.1
  rw [qas,hh,qA,qan] at h1
  intro y hy
  rcases List.mem_cons.1 hy with rfl | hy
  ·exact h1
  ·exact ht y hy
theorem qry {x:F}:∀ {l:List F},(∀ y ∈ l,y = 0)->qas x l = 0
 | [],_=>rfl
 | a :: l,h=>by rw [qas,qry fun y hy=>h y (List.mem_cons_of_mem _ hy),qA,h a (List.mem_cons_self ..),qad]
def qbr (n:Nat) (xs:Nat->F):Prop:=∀ i j,i < n->j < n->xs i = xs j->i = j
theorem qpe {xs:Nat->F}:∀ {n:Nat} {l:List F},l.length <= n->qbr n xs->(∀ i,i < n->qas (xs i) l = 0)->∀ y ∈ l,y = 0
 | 0,l,hl,_,_=>by
  have:l = []:=List.eq_nil_of_length_eq_zero (by omega)
  rw [this]; simp
 | n + 1,[],_,_,_=>by simp
 | n + 1,c :: t,hl,hd,hr=>by
  simp only [List.length_cons] at hl
  have hq:=qpe (n:=n) (l:=qiO (xs n) (c :: t)) (by rw [quH,List.length_cons]; omega) (fun i j hi hj=>hd i j (by omega) (by omega)) fun i hi=>by
   have h:=qsG (x:=xs i) (r:=xs n) (l:=c :: t)
   rw [hr i (by omega),hr n (by omega),qay] at h
   rcases quM.1 h.symm with h1 | h1
   ·have:=hd i n (by omega) (by omega) (qeD.1 h1); omega
   ·exact h1
  have ht:=qsF hq
  have h1:=hr n (by omega)
  rw [qas,qry ht,qA,qan] at h1
  intro y hy
  rcases List.mem_cons.1 hy with rfl | hy
  ·exact h1
  ·exact ht y hy
def q6 (n:Nat) (y:Nat->F) (x:F):F:=qw (fun j=>qh (y j) (qaB x j)) n
theorem qrd {x c:F}:∀ {l:List F},qas x (l ++ [c]) = qas x l ^^^ qh c (qaB x l.length)
 | []=>by rw [List.nil_append,qh7,qfK,qan,List.length_nil,qaB,qaR]
 | a :: l=>by
  rw [List.cons_append,qas,qrd (l:=l),qas,qbZ,List.length_cons,qaB,BitVec.xor_assoc,BitVec.xor_assoc,qO,BitVec.xor_comm a]
theorem qlT {y:Nat->F} {x:F}:∀ n,qas x ((List.range n).map y) = q6 n y x
 | 0=>rfl
 | n + 1=>by
  rw [List.range_succ,List.map_append,List.map_cons,List.map_nil,qrd,qlT n]
  simp [q6,qw]
theorem qjM {n:Nat} {y:Nat->F} {xs:Nat->F} (hd:qbr n xs) (h:∀ i,i < n->q6 n y (xs i) = 0):∀ j,j < n->y j = 0:=fun j hj=>by
 have:=qpe (l:=(List.range n).map y) (by simp) hd (fun i hi=>by rw [qlT]; exact h i hi) (y j)
 exact this (List.mem_map.2 ⟨j,List.mem_range.2 hj,rfl⟩)
theorem q2a {x:F} {l:List F} {n:Nat} (hl:l.length <= n):qas x l = q6 n (fun j=>l.getD j 0) x:=by
 have h1:∀ m,q6 (l.length + m) (fun j=>l.getD j 0) x = q6 l.length (fun j=>l.getD j 0) x:=fun m=>by
  induction m with
  | zero=>rfl
  | succ m ih =>
   rw [<- Nat.add_assoc,q6,qw]
   rw [show qw (fun j=>qh (l.getD j 0) (qaB x j)) (l.length + m) = q6 (l.length + m) (fun j=>l.getD j 0) x from rfl,ih]
   rw [show l.getD (l.length + m) 0 = 0 by rw [List.getD_eq_getElem?_getD,List.getElem?_eq_none (by omega)]; rfl,qA,qad]
 rw [show n = l.length + (n - l.length) by omega,h1,<- qlT]
 congr 1
 apply List.ext_getElem?
 intro j
 by_cases hj:j < l.length
 ·simp [List.getElem?_range hj,List.getD_eq_getElem?_getD,List.getElem?_eq_getElem hj]
 ·simp [hj]

def qcI (f:Nat->F):Nat->F
 | 0=>1
 | n + 1=>qh (qcI f n) (f n)
theorem q2E {f:Nat->F} {n:Nat} (h:∀ i,i < n->f i ≠ 0):qcI f n ≠ 0:=by
 induction n with
 | zero=>exact (by decide:(1:F) ≠ 0)
 | succ n ih=>exact qlE (ih fun i hi=>h i (by omega)) (h n (by omega))
theorem qp0 {f:Nat->F} {n k:Nat} (hk:k < n) (h:f k = 0):qcI f n = 0:=by
 induction n with
 | zero=>omega
 | succ n ih =>
  rw [qcI]
  by_cases hkn:k = n
  ·rw [<- hkn,h,qy]
  ·rw [ih (by omega),qA]
def qnS (r:F):F->List F->List F
 | p,[]=>[p]
 | p,c :: l=>(p ^^^ qh r c) :: qnS r c l
theorem qsM {r:F}:∀ {p:F} {l:List F},(qnS r p l).length = l.length + 1
 | _,[]=>rfl
 | _,c :: l=>by simp [qnS,qsM]
theorem qre {r x:F}:∀ {p:F} {l:List F},qas x (qnS r p l) = p ^^^ qh (x ^^^ r) (qas x l)
 | p,[]=>by rw [qnS,qh7,qfK,qy,qad]
 | p,c :: l=>by
  rw [qnS,qas,qre,qas,qbZ,qhR,BitVec.xor_comm _ (p ^^^ qh r c),BitVec.xor_assoc,qbZ (x:=x) (y:=r) (z:=c),<- qO]
  congr 1
  rw [qac (x:=c) (y:=x),<- BitVec.xor_assoc,BitVec.xor_comm (qh r c),BitVec.xor_comm]
theorem qrp (xs:Nat->F) (i:Nat):∀ n,∃ l:List F,l.length = (if i < n then n else n + 1)/\∀ x,qas x l = qcI (fun m=>if m = i then 1 else x ^^^ xs m) n
 | 0=>⟨[1],by simp,fun x=>by rw [qh7,qcI]⟩
 | n + 1=>by
  obtain ⟨l,h1,h2⟩:=qrp xs i n
  by_cases hn:n = i
  ·subst hn
   refine ⟨l,by rw [h1]; simp,fun x=>by rw [h2,qcI,if_pos rfl,qaR]⟩
  ·refine ⟨qnS (xs n) 0 l,?_,fun x=>?_⟩
   ·rw [qsM,h1]; split <;> split <;> omega
   ·rw [qre,h2,qcI,if_neg hn,qan,qac]
def qfy (n:Nat) (xs:Nat->F) (x:F) (i:Nat):F:=qh (qcI (fun m=>if m = i then 1 else x ^^^ xs m) n) (qew (qcI (fun m=>if m = i then 1 else xs i ^^^ xs m) n))
theorem q60 {n:Nat} {xs:Nat->F} (hd:qbr n xs) {i k:Nat} (hi:i < n) (hk:k < n):qfy n xs (xs k) i = del i k:=by
 unfold qfy del
 by_cases hik:i = k
 ·subst hik
  rw [if_pos rfl,qim]
  refine q2E fun m hm=>?_
  split
  ·decide
  ·rename_i hmi
   exact fun h=>hmi (hd i m hi hm (qeD.1 h)).symm
 ·rw [if_neg hik,qp0 (k:=k) hk (by rw [if_neg (Ne.symm hik)]; exact qay),qA]
theorem qjV {n:Nat} {xs:Nat->F} (hd:qbr n xs) {y:Nat->F} {x:F}:q6 n y x = qw (fun i=>qh (qfy n xs x i) (q6 n y (xs i))) n:=by
 have hex:∀ i,∃ l:Nat->F,i < n->∀ x,q6 n l x = qfy n xs x i:=fun i=>by
  obtain ⟨l,h1,h2⟩:=qrp xs i n
  refine ⟨fun j=>qh (l.getD j 0) (qew (qcI (fun m=>if m = i then 1 else xs i ^^^ xs m) n)),fun hi x=>?_⟩
  rw [qfy,<- h2 x,q2a (n:=n) (by rw [h1,if_pos hi]; exact Nat.le_refl _),q6,q6,<- qdR]
  refine qj fun j _=>?_
  rw [qO,qac (x:=qew _),<- qO]
 let lc:Nat->Nat->F:=fun i=>(hex i).choose
 have hlc:∀ i,i < n->∀ x,q6 n (lc i) x = qfy n xs x i:=fun i hi=>(hex i).choose_spec hi
 let S:Nat->F:=fun j=>y j ^^^ qw (fun i=>qh (q6 n y (xs i)) (lc i j)) n
 have hS:∀ x,q6 n S x = q6 n y x ^^^ qw (fun i=>qh (qfy n xs x i) (q6 n y (xs i))) n:=fun x=>by
  have h1:q6 n S x = q6 n y x ^^^ qw (fun j=>qw (fun i=>qh (q6 n y (xs i)) (qh (lc i j) (qaB x j))) n) n:=by
   simp only [q6]
   rw [<- qfR]
   refine qj fun j _=>?_
   simp only [S]
   rw [qbZ]
   congr 1
   rw [<- qdR]
   exact qj fun i _=>qO
  rw [h1,qfg]
  congr 1
  refine qj fun i hi=>?_
  rw [qdh,<- hlc i hi x,qac]
  rfl
 have h0:=qjM (y:=S) hd fun k hk=>by
  rw [hS,qj fun i hi=>by rw [q60 hd hi hk],qnu (f:=fun i=>q6 n y (xs i)) hk,qay]
 have:=hS x
 rw [show q6 n S x = 0 from qcs fun j hj=>by rw [h0 j hj,qA]] at this
 exact qeD.1 this.symm
theorem qoK {n:Nat} {xs:Nat->F} (hd:qbr n xs) {y:Nat->F} (h:∀ i,i < n->qw (fun j=>qh (qaB (xs i) j) (y j)) n = 0):∀ j,j < n->y j = 0 :=
 qjM hd fun i hi=>by
  rw [q6,<- h i hi]
  exact qj fun j _=>qac
end Go.Proofs

set_option linter.unusedSimpArgs false
set_option linter.unusedVariables false
namespace Go.Proofs
open Go Go.Eng

def qx (l:List Int):Prop:=∀ x ∈ l,isB x
theorem qa7 {l:List Int} (h:qx l) (i:Nat):isB (l.getD i 0):=by
 rw [List.getD_eq_getElem?_getD]
 by_cases hi:i < l.length
 ·rw [List.getElem?_eq_getElem hi]; exact h _ (List.getElem_mem hi)
 ·rw [List.getElem?_eq_none (by omega)]; exact ⟨by simp,by simp⟩
def qz (ca:Nat) (l:List Int):Mat:=fun i j=>toF (l.getD (i * ca + j) 0)
def qY (ca cb:Nat) (a b:List Int):Mat:=fun i j=>if j < ca then qz ca a i j else qz cb b i (j - ca)
theorem quP {i i' ca j:Nat} (hj:j < ca):(i * ca <= i' * ca + j/\i' * ca + j < i * ca + ca)↔i' = i:=by
 constructor
 ·intro ⟨h1,h2⟩
  rcases Nat.lt_trichotomy i' i with h | h | h
  ·have:=Nat.mul_le_mul_right ca (show i' + 1 <= i by omega)
   rw [Nat.add_mul,Nat.one_mul] at this; omega
  ·exact h
  ·have:=Nat.mul_le_mul_right ca (show i + 1 <= i' by omega)
   rw [Nat.add_mul,Nat.one_mul] at this; omega
 ·rintro rfl; omega
theorem qfb {i r ca j:Nat} (hi:i < r) (hj:j < ca):i * ca + j < r * ca:=by
 have:=Nat.mul_le_mul_right ca (show i + 1 <= r by omega)
 rw [Nat.add_mul,Nat.one_mul] at this; omega
theorem qpo {i r ca:Nat} (hi:i < r):i * ca + ca <= r * ca:=by
 have:=Nat.mul_le_mul_right ca (show i + 1 <= r by omega)
 rwa [Nat.add_mul,Nat.one_mul] at this
theorem qdG {l s:List Int} {off:Nat} {c:Int} (h:qx l):qx (qab l off s c):=fun x hx=>by
 obtain ⟨i,hi⟩:=List.getElem?_of_mem hx
 rw [qb6] at hi
 obtain ⟨y,hy,rfl⟩:=Option.map_eq_some_iff.1 hi
 split
 ·exact q4A
 ·exact h y (List.mem_of_getElem? hy)
theorem ql6 {l:List Int} {off n:Nat} {c:Int} (h:qx l) (hc:isB c):qx (qaV l off n c):=fun x hx=>by
 obtain ⟨i,hi⟩:=List.getElem?_of_mem hx
 rw [qed] at hi
 obtain ⟨y,hy,rfl⟩:=Option.map_eq_some_iff.1 hi
 have:=h y (List.mem_of_getElem? hy)
 split
 ·exact q4c this hc
 ·exact this
theorem quR {ca r i p:Nat} {a:List Int} {g:Int} (ha:a.length = r * ca) (hb:qx a) (hg:isB g) (hi:i < r) (hp:p < r) {i' j:Nat} (hi':i' < r) (hj:j < ca) :
  qz ca (qab a (i * ca) (seg a (p * ca) ca) g) i' j = if i' = i then qz ca a i j ^^^ qh (toF g) (qz ca a p j) else qz ca a i' j:=by
 have hlt:=qfb hi' hj
 have hsl:(seg a (p * ca) ca).length = ca:=qfk (by rw [ha]; exact qpo hp)
 unfold qz
 rw [List.getD_eq_getElem?_getD,qb6,List.getElem?_eq_getElem (by omega),Option.map_some,Option.getD_some,hsl]
 by_cases he:i' = i
 ·subst he
  rw [if_pos ⟨by omega,by omega⟩,if_pos rfl,show i' * ca + j - i' * ca = j by omega]
  have hs:(seg a (p * ca) ca).getD j 0 = a.getD (p * ca + j) 0:=by
   rw [List.getD_eq_getElem?_getD,qfh,if_pos hj,List.getD_eq_getElem?_getD]
  rw [hs,qkw,qhT hg (qa7 hb _),List.getD_eq_getElem?_getD (l:=a) (i:=i' * ca + j),List.getElem?_eq_getElem (by omega),Option.getD_some]
 ·rw [if_neg (fun h=>he ((quP hj).1 h)),if_neg he,List.getD_eq_getElem?_getD,List.getElem?_eq_getElem (by omega),Option.getD_some]
theorem qo8 {ca r i:Nat} {a:List Int} {g:Int} (ha:a.length = r * ca) (hb:qx a) (hg:isB g) (hi:i < r) {i' j:Nat} (hi':i' < r) (hj:j < ca) :
  qz ca (qaV a (i * ca) ca g) i' j = if i' = i then qh (qz ca a i j) (toF g) else qz ca a i' j:=by
 have hlt:=qfb hi' hj
 unfold qz
 rw [List.getD_eq_getElem?_getD,qed,List.getElem?_eq_getElem (by omega),Option.map_some,Option.getD_some]
 by_cases he:i' = i
 ·subst he
  rw [if_pos ⟨by omega,by omega⟩,if_pos rfl,List.getD_eq_getElem?_getD,List.getElem?_eq_getElem (by omega),Option.getD_some,qhT (hb _ (List.getElem_mem _)) hg]
 ·rw [if_neg (fun h=>he ((quP hj).1 h)),if_neg he,List.getD_eq_getElem?_getD,List.getElem?_eq_getElem (by omega),Option.getD_some]
structure Two (r ca cb:Nat) (a b:List Int):Prop where
 la:a.length = r * ca
 lb:b.length = r * cb
 ba:qx a
 bb:qx b
variable {r ca cb:Nat} {a b:List Int}
theorem Two.add (h:Two r ca cb a b) {i p:Nat} {g:Int}:Two r ca cb (qab a (i * ca) (seg a (p * ca) ca) g) (qab b (i * cb) (seg b (p * cb) cb) g) :=
 ⟨by rw [qcu,h.la],by rw [qcu,h.lb],qdG h.ba,qdG h.bb⟩
theorem Two.scale (h:Two r ca cb a b) {i:Nat} {g:Int} (hg:isB g):Two r ca cb (qaV a (i * ca) ca g) (qaV b (i * cb) cb g) :=
 ⟨by rw [qjY,h.la],by rw [qjY,h.lb],ql6 h.ba hg,ql6 h.bb hg⟩
theorem qwJ (h:Two r ca cb a b) {i p:Nat} {g:Int} (hg:isB g) (hi:i < r) (hp:p < r) {i' j:Nat} (hi':i' < r) (hj:j < ca + cb) :
  qY ca cb (qab a (i * ca) (seg a (p * ca) ca) g) (qab b (i * cb) (seg b (p * cb) cb) g) i' j = if i' = i then qY ca cb a b i j ^^^ qh (toF g) (qY ca cb a b p j) else qY ca cb a b i' j:=by
 unfold qY
 by_cases hjc:j < ca
 ·simp only [if_pos hjc]; exact quR h.la h.ba hg hi hp hi' hjc
 ·simp only [if_neg hjc]; exact quR h.lb h.bb hg hi hp hi' (by omega)
theorem q05 (h:Two r ca cb a b) {i:Nat} {g:Int} (hg:isB g) (hi:i < r) {i' j:Nat} (hi':i' < r) (hj:j < ca + cb) :
  qY ca cb (qaV a (i * ca) ca g) (qaV b (i * cb) cb g) i' j = if i' = i then qh (qY ca cb a b i j) (toF g) else qY ca cb a b i' j:=by
 unfold qY
 by_cases hjc:j < ca
 ·simp only [if_pos hjc]; exact qo8 h.la h.ba hg hi hi' hjc
 ·simp only [if_neg hjc]; exact qo8 h.lb h.bb hg hi hi' (by omega)
theorem qdN {c i:Nat} (hc:c < ca):qY ca cb a b i c = toF (a.getD (i * ca + c) 0):=by rw [qY,if_pos hc,qz]
theorem qrI (a:List Int) (ca c:Nat):∀ n p,p <= qcR a ca c p n/\qcR a ca c p n <= p + n/\(qcR a ca c p n < p + n->a.getD (qcR a ca c p n * ca + c) 0 ≠ 0)/\∀ i,p <= i->i < qcR a ca c p n->a.getD (i * ca + c) 0 = 0
 | 0,p=>by simp only [qcR]; exact ⟨Nat.le_refl _,Nat.le_refl _,fun h=>by omega,fun i h1 h2=>by omega⟩
 | n + 1,p=>by
  obtain ⟨h1,h2,h3,h4⟩:=qrI a ca c n (p + 1)
  simp only [qcR]
  split
  ·rename_i hz
   refine ⟨by omega,by omega,fun h=>h3 (by omega),fun i hi1 hi2=>?_⟩
   by_cases hip:i = p
   ·rw [hip]; exact hz
   ·exact h4 i (by omega) hi2
  ·rename_i hz
   exact ⟨Nat.le_refl _,by omega,fun _=>hz,fun i h1 h2=>by omega⟩
theorem Two.rows (h:Two r ca cb a b) {rank c:Nat}:∀ i,Two r ca cb (qa0 ca cb rank c a b i).1 (qa0 ca cb rank c a b i).2
 | 0=>h
 | i + 1=>by
  have ih:=Two.rows h (rank:=rank) (c:=c) i
  simp only [qa0]
  split
  ·exact ih
  ·exact ih.add
theorem quu (h:Two r ca cb a b) {rank c:Nat} (hr:rank < r) (hc:c < ca):∀ i,i <= r ->
  (∀ i' j,i' < r->j < ca + cb->qY ca cb (qa0 ca cb rank c a b i).1 (qa0 ca cb rank c a b i).2 i' j = if i' < i/\i' ≠ rank then qY ca cb a b i' j ^^^ qh (qY ca cb a b i' c) (qY ca cb a b rank j) else qY ca cb a b i' j) /\
  Same r (ca + cb) (qY ca cb a b) (qY ca cb (qa0 ca cb rank c a b i).1 (qa0 ca cb rank c a b i).2)
 | 0,_=>⟨fun i' j _ _=>by rw [if_neg (by omega)]; rfl,Same.refl⟩
 | i + 1,hi=>by
  obtain ⟨ih,ihs⟩:=quu h hr hc i (by omega)
  have hT:=h.rows (rank:=rank) (c:=c) i
  simp only [qa0]
  by_cases hir:i = rank
  ·rw [if_pos hir]
   refine ⟨fun i' j hi' hj=>?_,ihs⟩
   rw [ih i' j hi' hj]
   by_cases h1:i' < i/\i' ≠ rank
   ·rw [if_pos h1,if_pos ⟨by omega,h1.2⟩]
   ·rw [if_neg h1,if_neg (by omega)]
  ·rw [if_neg hir]
   simp only
   have hg:=qa7 hT.ba (i * ca + c)
   have hgv:toF ((qa0 ca cb rank c a b i).1.getD (i * ca + c) 0) = qY ca cb a b i c:=by
    rw [<- qdN (cb:=cb) (b:=(qa0 ca cb rank c a b i).2) hc,ih i c (by omega) (by omega),if_neg (by omega)]
   have hstep:=fun i' j (hi':i' < r) (hj:j < ca + cb)=>qwJ hT (g:=(qa0 ca cb rank c a b i).1.getD (i * ca + c) 0) hg (show i < r by omega) hr hi' hj
   refine ⟨fun i' j hi' hj=>?_,ihs.trans (qtk (i:=i) (p:=rank) (g:=toF ((qa0 ca cb rank c a b i).1.getD (i * ca + c) 0)) (by omega) hr hir (fun j hj=>by rw [hstep i j (by omega) hj,if_pos rfl]) fun a' ha' hne j hj=>by rw [hstep a' j ha' hj,if_neg hne])⟩
   rw [hstep i' j hi' hj]
   by_cases he:i' = i
   ·subst he
    rw [if_pos rfl,hgv,ih i' j hi' hj,if_neg (by omega),ih rank j hr hj,if_neg (by omega),if_pos ⟨by omega,hir⟩]
   ·rw [if_neg he,ih i' j hi' hj]
    by_cases h1:i' < i/\i' ≠ rank
    ·rw [if_pos h1,if_pos ⟨by omega,h1.2⟩]
    ·rw [if_neg h1,if_neg (by omega)]
theorem q1U {T0:Mat} {c rank:Nat} (h2:Two r ca cb a b) (h:Ech r (ca + cb) T0 (qY ca cb a b) c rank) (hc:c < ca) :
  Two r ca cb (qcC r ca cb c (a,b,rank)).1 (qcC r ca cb c (a,b,rank)).2.1/\Ech r (ca + cb) T0 (qY ca cb (qcC r ca cb c (a,b,rank)).1 (qcC r ca cb c (a,b,rank)).2.1) (c + 1) (qcC r ca cb c (a,b,rank)).2.2:=by
 unfold qcC
 simp only
 by_cases hr:r <= rank
 ·rw [if_pos hr]
  exact ⟨h2,quW h (by omega) fun i (h1:rank <= i) h3=>by omega⟩
 rw [if_neg hr]
 obtain ⟨p1,p2,p3,p4⟩:=qrI a ca c (r - rank) rank
 by_cases hp:qcR a ca c rank (r - rank) = r
 ·rw [if_pos hp]
  refine ⟨h2,quW h (by omega) fun i (h1:rank <= i) h3=>?_⟩
  rw [qdN hc,p4 i h1 (by omega)]; rfl
 rw [if_neg hp]
 simp only
 generalize hpv:qcR a ca c rank (r - rank) = p at p1 p2 p3 p4 hp
 have hpr:p < r:=by omega
 have hnz:=p3 (by omega)
 have hmid:qfN r ca cb c (a,b,rank) = qgJ ca cb rank c (qb4 ca cb rank p a b).1 (qb4 ca cb rank p a b).2:=by
  unfold qfN; simp only [hpv]
 -- the pivot's row is added
 have h1:Two r ca cb (qb4 ca cb rank p a b).1 (qb4 ca cb rank p a b).2/\Same r (ca + cb) (qY ca cb a b) (qY ca cb (qb4 ca cb rank p a b).1 (qb4 ca cb rank p a b).2) /\
   qY ca cb (qb4 ca cb rank p a b).1 (qb4 ca cb rank p a b).2 rank c ≠ 0/\(∀ i j,i < r->j < ca + cb->i ≠ rank->qY ca cb (qb4 ca cb rank p a b).1 (qb4 ca cb rank p a b).2 i j = qY ca cb a b i j) /\
   ∀ c',c' < c->qY ca cb (qb4 ca cb rank p a b).1 (qb4 ca cb rank p a b).2 rank c' = 0:=by
  have hpc:qY ca cb a b p c ≠ 0:=by
   rw [qdN hc]
   intro h0
   exact hnz ((qe7 (qa7 h2.ba _)).1 h0)
  unfold qb4
  by_cases hpe:p = rank
  ·rw [if_pos hpe]
   exact ⟨h2,Same.refl,by rw [<- hpe]; exact hpc,fun _ _ _ _ _=>rfl,fun c' hc'=>h.low rank (Nat.le_refl _) (by omega) c' hc'⟩
  ·rw [if_neg hpe]
   have hst:=fun i' j (hi':i' < r) (hj:j < ca + cb)=>qwJ h2 (g:=1) ⟨by omega,by omega⟩ (show rank < r by omega) hpr hi' hj
   have h1:toF 1 = 1:=rfl
   refine ⟨h2.add,qtk (i:=rank) (p:=p) (g:=toF 1) (by omega) hpr (Ne.symm hpe) (fun j hj=>by simp only; rw [hst rank j (by omega) hj,if_pos rfl]) (fun a' ha' hne j hj=>by simp only; rw [hst a' j ha' hj,if_neg hne]),?_,fun i j hi hj hne=>by simp only; rw [hst i j hi hj,if_neg hne],fun c' hc'=>?_⟩
   ·simp only
    rw [hst rank c (by omega) (by omega),if_pos rfl,h1,qhO]
    rw [qdN hc (i:=rank),p4 rank (Nat.le_refl _) (by omega),qto,qan]
    exact hpc
   ·simp only
    rw [hst rank c' (by omega) (by omega),if_pos rfl,h1,qhO,h.low rank (Nat.le_refl _) (by omega) c' hc',h.low p (by omega) hpr c' hc',qad]
 rw [hmid]
 generalize qb4 ca cb rank p a b = s1 at h1
 obtain ⟨t1,same1,nz1,oth1,low1⟩:=h1
 -- it is scaled
 have hgB:=q3C (qa7 t1.ba (rank * ca + c))
 have hgv:toF (qfE (s1.1.getD (rank * ca + c) 0)) = qew (qY ca cb s1.1 s1.2 rank c):=by rw [q2Q (qa7 t1.ba _),qdN hc]
 have t2:Two r ca cb (qgJ ca cb rank c s1.1 s1.2).1 (qgJ ca cb rank c s1.1 s1.2).2:=t1.scale hgB
 have hsc:∀ i j,i < r->j < ca + cb->qY ca cb (qgJ ca cb rank c s1.1 s1.2).1 (qgJ ca cb rank c s1.1 s1.2).2 i j = if i = rank then qh (qY ca cb s1.1 s1.2 rank j) (qew (qY ca cb s1.1 s1.2 rank c)) else qY ca cb s1.1 s1.2 i j:=fun i j hi hj=>by
  rw [<- hgv]
  exact q05 t1 hgB (by omega) hi hj
 generalize qgJ ca cb rank c s1.1 s1.2 = s2 at t2 hsc
 have same2:Same r (ca + cb) (qY ca cb s1.1 s1.2) (qY ca cb s2.1 s2.2):=q2A (i:=rank) (g:=qew (qY ca cb s1.1 s1.2 rank c)) (by omega) (q5c nz1) (fun j hj=>by rw [hsc rank j (by omega) hj,if_pos rfl]) fun a' ha' hne j hj=>by rw [hsc a' j ha' hj,if_neg hne]
 have one2:qY ca cb s2.1 s2.2 rank c = 1:=by rw [hsc rank c (by omega) (by omega),if_pos rfl,qim nz1]
 have low2:∀ c',c' < c->qY ca cb s2.1 s2.2 rank c' = 0:=fun c' hc'=>by rw [hsc rank c' (by omega) (by omega),if_pos rfl,low1 c' hc',qA]
 have oth2:∀ i j,i < r->j < ca + cb->i ≠ rank->qY ca cb s2.1 s2.2 i j = qY ca cb a b i j:=fun i j hi hj hne=>by rw [hsc i j hi hj,if_neg hne,oth1 i j hi hj hne]
 -- the others are cleared
 obtain ⟨r3,same3⟩:=quu t2 (rank:=rank) (c:=c) (by omega) hc r (Nat.le_refl _)
 refine ⟨t2.rows r,q4w h (by omega) (by omega) ((same1.trans same2).trans same3) (fun i hi=>?_) fun c' hc' i hi=>?_⟩
 ·rw [r3 i c hi (by omega),one2,qaR]
  by_cases hir:i = rank
  ·rw [if_neg (by omega),hir,one2,del,if_pos rfl]
  ·rw [if_pos ⟨hi,hir⟩,qay,del,if_neg hir]
 ·rw [r3 i c' hi (by omega),low2 c' hc',qy,qad]
  by_cases hir:i = rank
  ·rw [if_neg (by omega),hir,low2 c' hc',h.low rank (Nat.le_refl _) (by omega) c' hc']
  ·rw [if_pos ⟨hi,hir⟩,oth2 i c' hi (by omega) hir]
theorem qu3 (h:Two r ca cb a b):∀ c,c <= ca->Two r ca cb (qbP r ca cb a b c).1 (qbP r ca cb a b c).2.1/\Ech r (ca + cb) (qY ca cb a b) (qY ca cb (qbP r ca cb a b c).1 (qbP r ca cb a b c).2.1) c (qbP r ca cb a b c).2.2
 | 0,_=>⟨h,q03⟩
 | c + 1,hc=>by
  obtain ⟨h1,h2⟩:=qu3 h c (by omega)
  rw [qbP]
  exact q1U h1 h2 (by omega)
end Go.Proofs

set_option linter.unusedSimpArgs false
set_option linter.unusedVariables false
namespace Go.Proofs
open Go Go.Eng
theorem q5R {d:qd} (h:qx (bI d)):q9 d:=fun row hr=>h (qbD row 0) (List.mem_map.2 ⟨row,hr,rfl⟩)
end Go.Proofs

set_option linter.unusedSimpArgs false
set_option linter.unusedVariables false
namespace Go.Proofs
open Go Go.Eng
set_option maxRecDepth 20000
theorem qvI {k n t s:Int} {o:List Int} (h:o.length = 32):(qa6 k n t s o).length = 39:=by simp [qa6,qa9,h]
theorem q4J:idC.ok Tryz.prog:=q8i (by simp [q0p,qlC]) fun ρ hg hp=>by
 obtain ⟨⟨hl,hO,hD⟩,hGr,hGd⟩:=hp
 simp (config:={ maxSteps:=2000000 }) [q2D,idC,qoH,qdz,qaI,qnB,qiJ,qaY,gOk,qvc,qzJ,qmf]
 refine ⟨⟨by omega,hl,hO,hD⟩,fun l _ c _ d _ hok hl2 hB hd=>?_⟩
 have hd:bI d.d = qa6 (ρ 0).i (ρ 1).i (ρ 2).i (ρ 3).i (qf (ρ 4).d 32) ++ (dgs (ρ 8).d).flatten:=hd
 have hb:=hok
 simp [qF,qbd] at hb
 have hlen:=congrArg List.length hd
 rw [List.length_append,qc6 q6F,q5m,bI_len,qvI qdb] at hlen
 refine fun hc=>⟨⟨⟨by omega,by omega,by omega,by omega,hB⟩,hGr,hGd⟩,fun x _ hx=>⟨hok,?_⟩⟩
 have hx:qf x.d 32 = sha (qa6 (ρ 0).i (ρ 1).i (ρ 2).i (ρ 3).i (qf (ρ 4).d 32) ++ (dgs (ρ 8).d).flatten):=by
  rw [hx,qbX,hd.symm]
  simp only [Int.toNat_zero,List.drop_zero]
  rw [List.take_of_length_le (by rw [bI_len]; omega)]
 exact hx
end Go.Proofs

set_option linter.unusedSimpArgs false
set_option linter.unusedVariables false
set_option maxRecDepth 100000
namespace Go.Proofs
open Go Go.Eng

def qnq:Out:=(.fresh 18 (.fresh 19 (.pre 0 (sg 0 [bv 9 9,bv 8 8,bv 7 7,bv 6 6,bg 5 5,bv 3 3,bv 2 2,bv 1 1,bv 0 0,bt 4 (r8 4)]) (.both (.fresh 20 (.post 0 0 (sg 0 [bv 9 9,bv 8 8,bv 7 7,bv 6 6,bg 5 5,bv 3 3,bv 2 2,bv 1 1,bv 0 0,bt 4 (r8 4)]) 20 (.br (.cmp .neq (.var 20) (.lit 0))
 (.ret 0 (sg 18 [bv 18 20]))
 (.br (.cmp .lss (.var 10) (.lit 0))
 (.ret 0 (sg 18 [bt 18 (.lit 2)]))
 (.br (.cmp .geq (.var 10) (.var 2))
 (.ret 0 (sg 18 [bt 18 (.lit 2)]))
 (.pre 1 (sg 0 [bv 1 3,bv 0 0]) (.both (.fresh 21 (.fresh 22 (.post 1 0 (sg 0 [bv 1 3,bv 0 0]) 21 (.need (.cmp .leq (.lit 0) (.var 12)) (.br (.cmp .neq (.var 12) (.var 21))
 (.ret 0 (sg 18 [bt 18 (.lit 10)]))
 (.need (.cmp .leq (.lit 0) (.var 10)) (.need (.cmp .lss (.var 10) (.var 6)) (.need (.cmp .lss (.var 10) (.dlen (.var 8))) (.both (.pre 2 (sg 0 [bv 8 17,bv 6 15,bv 5 14,bv 4 13,bv 3 12,bt 2 (.lit 0),bg 1 11,bv 0 10,bg 7 16]) (.both (.fresh 23 (.post 2 0 (sg 0 [bv 8 17,bv 6 15,bv 5 14,bv 4 13,bv 3 12,bt 2 (.lit 0),bg 1 11,bv 0 10,bg 7 16]) 23 (.br (.not (.c2 .req (r8 23) (.rcons (i8 8 10 0) (.rcons (i8 8 10 1) (.rcons (i8 8 10 2) (.rcons (i8 8 10 3) (.rcons (i8 8 10 4) (.rcons (i8 8 10 5) (.rcons (i8 8 10 6) (.rcons (i8 8 10 7) (.rcons (i8 8 10 8) (.rcons (i8 8 10 9) (.rcons (i8 8 10 10) (.rcons (i8 8 10 11) (.rcons (i8 8 10 12) (.rcons (i8 8 10 13) (.rcons (i8 8 10 14) (.rcons (i8 8 10 15) (.rcons (i8 8 10 16) (.rcons (i8 8 10 17) (.rcons (i8 8 10 18) (.rcons (i8 8 10 19) (.rcons (i8 8 10 20) (.rcons (i8 8 10 21) (.rcons (i8 8 10 22) (.rcons (i8 8 10 23) (.rcons (i8 8 10 24) (.rcons (i8 8 10 25) (.rcons (i8 8 10 26) (.rcons (i8 8 10 27) (.rcons (i8 8 10 28) (.rcons (i8 8 10 29) (.rcons (i8 8 10 30) (.rcons (i8 8 10 31) .rnil))))))))))))))))))))))))))))))))))
 (.ret 0 (sg 18 [bt 18 (.lit 20)]))
 (.ret 0 (sg 18 [bt 18 (.lit 0)]))))) .top)) .top))))))))) .top))))))) .top))))
theorem qws:qk ⟨Tryz.prog,qdy,[qbJ,qbh,qbk],[]⟩ 100000 Tryz.f60 = qnq:=by kernel_rfl
theorem q2g (hd:∀ c ∈ ([qbJ,qbh,qbk]:List Ctr),c.ok Tryz.prog) (h:∀ ρ:Env,ρ.good->(qdy).pre ρ->qnq.den ⟨Tryz.prog,qdy,[qbJ,qbh,qbk],[]⟩ ρ):(qdy).ok Tryz.prog :=
 qe Tryz.func60 (fun a w=>Tryz.call60 a w) hd 100000 (fun ρ hg hp=>by rw [qws]; exact h ρ hg hp)
end Go.Proofs

set_option linter.unusedSimpArgs false
set_option linter.unusedVariables false
set_option maxRecDepth 100000
namespace Go.Proofs
open Go Go.Eng

end Go.Proofs

set_option linter.unusedSimpArgs false
set_option linter.unusedVariables false
namespace Go.Proofs
open Go Go.Eng
end Go.Proofs

set_option linter.unusedSimpArgs false
set_option linter.unusedVariables false
namespace Go.Proofs
open Go Go.Eng

end Go.Proofs

set_option linter.unusedSimpArgs false
set_option linter.unusedVariables false
namespace Go.Proofs
open Go Go.Eng
set_option maxRecDepth 20000
theorem q2Y {k n t s l i:Int} {D:List (List Int)} {m:List Int} (h:qF k n t s l = false):2 = qbY k n t s l D i m:=by rw [qbY,if_pos h]
theorem qs9 {k n t s l i:Int} {D:List (List Int)} {m:List Int} (h:qF k n t s l = true) (hi:i < 0∨t <= i):2 = qbY k n t s l D i m:=by rw [qbY,if_neg (by rw [h]; decide),if_pos hi]
theorem q3y {k n t s l i:Int} {D:List (List Int)} {m:List Int} (h:qF k n t s l = true) (h0:0 <= i) (h1:i < t) (hl:(m.length:Int) ≠ qep k s):10 = qbY k n t s l D i m:=by rw [qbY,if_neg (by rw [h]; decide),if_neg (by omega),if_pos hl]
theorem q4u {k n t s l i:Int} {D:List (List Int)} {m:List Int} (h:qF k n t s l = true) (h0:0 <= i) (h1:i < t) (hl:(m.length:Int) = qep k s) (hs:sha (qbV i ++ m) ≠ D.getD i.toNat []):20 = qbY k n t s l D i m:=by rw [qbY,if_neg (by rw [h]; decide),if_neg (by omega),if_neg (fun h=>h hl),if_pos hs]
theorem q6g {k n t s l i:Int} {D:List (List Int)} {m:List Int} (h:qF k n t s l = true) (h0:0 <= i) (h1:i < t) (hl:(m.length:Int) = qep k s) (hs:sha (qbV i ++ m) = D.getD i.toNat []):0 = qbY k n t s l D i m:=by rw [qbY,if_neg (by rw [h]; decide),if_neg (by omega),if_neg (fun h=>h hl),if_neg (fun h=>h hs)]
theorem qzQ {k n t s l:Int} (h:qF k n t s l = true):¬ qeU k s:=by
 simp [qF,qbd] at h
 unfold qeU; omega
set_option maxHeartbeats 1000000 in
theorem q16:qdy.ok Tryz.prog:=q2g (by simp [qrH,qnT,qoX]) fun ρ hg hp=>by
 obtain ⟨⟨i0,i3,hl,hD,hpl,hpc,hp1,hB⟩,hGr,hGd⟩:=hp
 simp only [Nat.reduceAdd] at hpl hpc hp1 hB
 simp (config:={ maxSteps:=4000000,contextual:=true }) [qnq,qdy,qqN,qbJ,qbh,qbk,qnB,qiJ,qaY,gOk,hGr,hGd,hB,hD,hl,hpl]
 refine fun u _ hu=>⟨q2Y,fun hok=>⟨fun h0=>qs9 hok (.inl h0),fun h0=>⟨fun ht=>qs9 hok (.inr ht),fun ht l _ e _ _ hgood=>?_⟩⟩⟩
 have hlen:=(hgood (qzQ hok)).1
 have hml:(bI (ρ 14).d).length = (ρ 14).d.length:=bI_len
 have htl:(ρ 2).i = (ρ 8).d.length:=by simp [qF] at hok; omega
 have hrow:qs0 (ρ 8).d (ρ 10).i = (dgs (ρ 8).d).getD (ρ 10).i.toNat []:=q2o h0 (by omega)
 refine ⟨fun hne=>q3y hok h0 ht (by rw [hml,qep,<- hlen]; exact hne),fun heq=>⟨by omega,⟨by omega,by omega,by omega⟩,fun x _ hx=>?_⟩⟩
 rw [qjH heq.symm,hrow]
 exact ⟨fun hn=>q4u hok h0 ht (by rw [hml,qep,<- hlen]; exact heq) hn,fun he=>q6g hok h0 ht (by rw [hml,qep,<- hlen]; exact heq) he⟩
end Go.Proofs

set_option linter.unusedSimpArgs false
set_option linter.unusedVariables false
namespace Go.Proofs
open Go Go.Eng

theorem quI {k n:Nat} (hk:0 < k):n <= k * qD k n:=by
 unfold qD
 have h1:=Nat.div_add_mod (n + k - 1) k
 have h2:=Nat.mod_lt (n + k - 1) hk
 omega
theorem qzV {n:Nat}:(qax n n).length = n * n:=by simp [qax]
theorem q08 {n i:Nat} (hi:i < n * n):(qax n n).getD i 0 = if i / n = i % n then 1 else 0:=by
 have hn:0 < n:=by
  cases n with
  | zero=>simp at hi
  | succ n=>omega
 rw [List.getD_eq_getElem?_getD,qax,List.getElem?_map,List.getElem?_range hi]
 simp only [Option.map_some,Option.getD_some]
 have:i / n < n:=Nat.div_lt_of_lt_mul hi
 by_cases h:i / n = i % n
 ·rw [if_pos ⟨h,this⟩,if_pos h]
 ·rw [if_neg (fun hh=>h hh.1),if_neg h]
theorem qiR {i n j:Nat} (hj:j < n):(i * n + j) / n = i/\(i * n + j) % n = j:=by
 have hn:0 < n:=by omega
 constructor
 ·rw [Nat.mul_comm,Nat.mul_add_div hn,Nat.div_eq_of_lt hj,Nat.add_zero]
 ·rw [Nat.mul_comm,Nat.mul_add_mod,Nat.mod_eq_of_lt hj]
theorem qwh {n:Nat}:qx (qax n n):=fun x hx=>by
 simp only [qax,List.mem_map] at hx
 obtain ⟨i,_,rfl⟩:=hx
 split <;> exact ⟨by omega,by omega⟩
theorem qrj {n i j:Nat} (hi:i < n) (hj:j < n):qz n (qax n n) i j = del i j:=by
 obtain ⟨h1,h2⟩:=qiR (i:=i) hj
 rw [qz,q08 (qfb hi hj),h1,h2,del]
 split <;> rfl
theorem qyQ {r c:Nat}:(qbm r c).length = r * c:=by simp [qbm,qci]
theorem qyd {r c i j:Nat} (hi:i < r) (hj:j < c):(qbm r c).getD (i * c + j) 0 = qgP (i:Int) (j:Int):=by
 obtain ⟨h1,h2⟩:=qiR (i:=i) hj
 have hlt:=qfb hi hj
 rw [List.getD_eq_getElem?_getD,qbm,qci,List.getElem?_map,List.getElem?_range hlt]
 simp only [Option.map_some,Option.getD_some]
 rw [if_pos hlt,qmg,h1,h2]
def xsF (m:Nat):F:=toF (m:Int)
theorem qnW {r c i j:Nat} (hr:r <= 256) (hi:i < r) (hj:j < c) (hc:c < 9223372036854775808):qz c (qbm r c) i j = qaB (xsF i) j:=by
 rw [qz,qyd hi hj,q1h ⟨by omega,by omega⟩ (by omega),qjf,Int.toNat_natCast]; rfl
theorem qlU {r c:Nat} (hr:r <= 256) (hc:c < 9223372036854775808):qx (qbm r c):=fun x hx=>by
 simp only [qbm,qci,List.mem_map,List.mem_range] at hx
 obtain ⟨i,hi,rfl⟩:=hx
 rw [if_pos hi]
 have hc0:0 < c:=by
  cases c with
  | zero=>simp at hi
  | succ c=>omega
 have h1:i / c < r:=Nat.div_lt_of_lt_mul (by rwa [Nat.mul_comm] at hi)
 have h2:=Nat.mod_lt i hc0
 have h3:((i / c:Nat):Int) < 256:=by omega
 exact q4x ⟨Int.natCast_nonneg _,h3⟩ (by omega)
theorem qeE {n:Nat} (hn:n <= 256):qbr n xsF:=fun i j hi hj h=>by
 have:=qqm (x:=(i:Int)) (y:=(j:Int)) ⟨by omega,by omega⟩ ⟨by omega,by omega⟩ h
 omega
theorem qx4 {l:List Int} {n:Nat} (h:qx l):qx (l.take n):=fun x hx=>h x (List.mem_of_mem_take hx)
theorem q46 {l:List Int} {n c i j:Nat} (hi:i < n) (hj:j < c):qz c (l.take (n * c)) i j = qz c l i j:=by
 have hlt:=qfb hi hj
 rw [qz,qz,List.getD_eq_getElem?_getD,List.getD_eq_getElem?_getD,List.getElem?_take,if_pos hlt]

theorem qij {ca cb:Nat} {a b:List Int} {i j:Nat}:qY ca cb a b i (ca + j) = qz cb b i j:=by
 rw [qY,if_neg (by omega),show ca + j - ca = j by omega]
theorem qqa {n:Nat} {a A B:List Int} (h:Ech n (n + n) (qY n n a (qax n n)) (qY n n A B) n n) :
  (∀ i j,i < n->j < n->qw (fun l=>qh (qz n B i l) (qz n a l j)) n = del i j)/\∀ i j,i < n->j < n->qw (fun l=>qh (qz n a i l) (qz n B l j)) n = del i j:=by
 refine ⟨fun i j hi hj=>?_,fun i j hi hj=>?_⟩
 ·obtain ⟨x,hx⟩:=h.same.to i hi
  have hxB:∀ l,l < n->x l = qz n B i l:=fun l hl=>by
   have h1:=hx (n + l) (by omega)
   rw [qij,qj fun m hm=>by rw [qij,qrj hm hl],qg5 (f:=x) hl] at h1
   exact h1.symm
  have h2:=hx j (by omega)
  rw [qun h i hi j hj,qj fun m hm=>by rw [hxB m hm,qdN hj]] at h2
  exact h2.symm
 ·obtain ⟨x,hx⟩:=h.same.back i hi
  have hxa:∀ l,l < n->x l = qz n a i l:=fun l hl=>by
   have h1:=hx l (by omega)
   rw [qdN hl,qj fun m hm=>by rw [qun h m hm l hl],qg5 (f:=x) hl] at h1
   exact h1.symm
  have h2:=hx (n + j) (by omega)
  rw [qij,qrj hi hj,qj fun m hm=>by rw [hxa m hm,qij]] at h2
  exact h2.symm
theorem q0k {n:Nat} {m:List Int} (hl:m.length = n * n) (hb:qx m):Two n n n m (qax n n):=⟨hl,qzV,hb,qwh⟩
theorem qmh {n:Nat} {m:List Int} (hl:m.length = n * n) (hb:qx m):Two n n n (qex m n).1 (qex m n).2.1/\Ech n (n + n) (qY n n m (qax n n)) (qY n n (qex m n).1 (qex m n).2.1) n (qex m n).2.2 :=
 qu3 (q0k hl hb) n (Nat.le_refl _)
theorem qt4 {n:Nat} {m:List Int} (hl:m.length = n * n) (hb:qx m) (h:∀ y:Nat->F,(∀ i,i < n->qw (fun j=>qh (qz n m i j) (y j)) n = 0)->∀ j,j < n->y j = 0):(qex m n).2.2 = n:=by
 obtain ⟨_,he⟩:=qmh hl hb
 refine Classical.byContradiction fun hne=>?_
 have hlt:(qex m n).2.2 < n:=by have:=he.le; omega
 obtain ⟨y,⟨c,hc,hyc⟩,hy⟩:=q25 he (by omega) hlt
 exact hyc (h y (fun i hi=>by rw [<- hy i hi]; exact qj fun j hj=>by rw [qdN hj]; rfl) c hc)

theorem qxj {k total:Nat} (h:k <= total):((qbm total k).take (k * k)).length = k * k:=by
 rw [List.length_take,qyQ]
 exact Nat.min_eq_left (Nat.mul_le_mul_right k h)
theorem qwP {k total i j:Nat} (hk:k <= total) (ht:total <= 255) (hi:i < k) (hj:j < k):qz k ((qbm total k).take (k * k)) i j = qaB (xsF i) j:=by
 rw [q46 hi hj,qnW (by omega) (by omega) hj (by omega)]
theorem qrJ {k total:Nat} (hk:k <= total) (ht:total <= 255):qx ((qbm total k).take (k * k)):=qx4 (qlU (by omega) (by omega))
theorem q3G {k total:Nat} (hk:k <= total) (ht:total <= 255):(qch k total).2.2 = k :=
 qt4 (qxj hk) (qrJ hk ht) fun y hy=>qoK (qeE (by omega)) fun i hi=>by
  rw [<- hy i hi]
  exact qj fun j hj=>by rw [qwP hk ht hi hj]
theorem qxf {k total:Nat} (hk:k <= total) (ht:total <= 255):Two k k k (qch k total).1 (qch k total).2.1/\Ech k (k + k) (qY k k ((qbm total k).take (k * k)) (qax k k)) (qY k k (qch k total).1 (qch k total).2.1) k k:=by
 have h:=qmh (qxj hk) (qrJ hk ht)
 have hr:=q3G hk ht
 unfold qch at hr ⊢
 rw [hr] at h
 exact h

theorem qmF {a b:List Int} {ra ca cb:Nat} (hb:b.length = ca * cb) (ha:qx a) (hbb:qx b) (hca:0 < ca):∀ t,t <= ra * ca->(qcn a b ra ca cb t).length = ra * cb/\qx (qcn a b ra ca cb t) /\
  ∀ i j,i < ra->j < cb->qz cb (qcn a b ra ca cb t) i j = qw (fun l=>if i * ca + l < t then qh (qz ca a i l) (qz cb b l j) else 0) ca
 | 0,_=>⟨by simp [qcn],fun x hx=>by rw [qcn] at hx; rw [List.eq_of_mem_replicate hx]; exact ⟨by omega,by omega⟩,fun i j hi hj=>by
   rw [qcs fun l _=>if_neg (by omega),qz,qcn,List.getD_eq_getElem?_getD,List.getElem?_replicate,if_pos (qfb hi hj)]; rfl⟩
 | t + 1,ht=>by
  obtain ⟨h1,h2,h3⟩:=qmF (ra:=ra) hb ha hbb hca t (by omega)
  have hti:t / ca < ra:=Nat.div_lt_of_lt_mul (by rw [Nat.mul_comm]; omega)
  have htl:=Nat.mod_lt t hca
  have htd:=Nat.div_add_mod t ca
  rw [qcn]
  refine ⟨by rw [qcu,h1],qdG h2,fun i j hi hj=>?_⟩
  have hlt:=qfb hi hj
  have hsl:(seg b (t % ca * cb) cb).length = cb:=qfk (by rw [hb]; exact qpo htl)
  have hL:qz cb (qab (qcn a b ra ca cb t) (t / ca * cb) (seg b (t % ca * cb) cb) (a.getD t 0)) i j = if i = t / ca then qz cb (qcn a b ra ca cb t) i j ^^^ qh (toF (a.getD t 0)) (qz cb b (t % ca) j) else qz cb (qcn a b ra ca cb t) i j:=by
   unfold qz
   rw [List.getD_eq_getElem?_getD,qb6,List.getElem?_eq_getElem (by omega),Option.map_some,Option.getD_some,hsl]
   by_cases he:i = t / ca
   ·subst he
    rw [if_pos ⟨by omega,by omega⟩,if_pos rfl,show t / ca * cb + j - t / ca * cb = j by omega]
    have hs:(seg b (t % ca * cb) cb).getD j 0 = b.getD (t % ca * cb + j) 0:=by
     rw [List.getD_eq_getElem?_getD,qfh,if_pos hj,List.getD_eq_getElem?_getD]
    rw [hs,qkw,qhT (qa7 ha _) (qa7 hbb _),List.getD_eq_getElem?_getD (l:=qcn a b ra ca cb t),List.getElem?_eq_getElem (by omega),Option.getD_some]
   ·rw [if_neg (fun h=>he ((quP hj).1 h)),if_neg he,List.getD_eq_getElem?_getD,List.getElem?_eq_getElem (by omega),Option.getD_some]
  rw [hL,h3 i j hi hj]
  by_cases he:i = t / ca
  ·have hit:i * ca + t % ca = t:=by rw [he,Nat.mul_comm]; exact htd
   rw [if_pos he]
   have hat:toF (a.getD t 0) = qz ca a i (t % ca):=by rw [qz,hit]
   have h4:qh (toF (a.getD t 0)) (qz cb b (t % ca) j) = qw (fun l=>if l = t % ca then qh (qz ca a i l) (qz cb b l j) else 0) ca:=by
    rw [qhC htl fun l _ hl=>if_neg hl,if_pos rfl,hat]
   rw [h4,<- qfR]
   refine qj fun l hl=>?_
   by_cases hlt:l = t % ca
   ·subst hlt; rw [if_neg (by omega),if_pos rfl,if_pos (by omega),qan]
   ·rw [if_neg hlt,qad]
    by_cases h5:i * ca + l < t
    ·rw [if_pos h5,if_pos (by omega)]
    ·rw [if_neg h5,if_neg (by omega)]
  ·rw [if_neg he]
   refine qj fun l hl=>?_
   have hne:i * ca + l ≠ t:=fun h=>he (by rw [<- h]; exact (qiR hl).1.symm)
   by_cases h5:i * ca + l < t
   ·rw [if_pos h5,if_pos (by omega)]
   ·rw [if_neg h5,if_neg (by omega)]
theorem qz5 {a b:List Int} {ra ca cb:Nat} (hb:b.length = ca * cb) (ha:qx a) (hbb:qx b) (hca:0 < ca):(qmp a b ra ca cb).length = ra * cb/\qx (qmp a b ra ca cb) /\
  ∀ i j,i < ra->j < cb->qz cb (qmp a b ra ca cb) i j = qw (fun l=>qh (qz ca a i l) (qz cb b l j)) ca:=by
 obtain ⟨h1,h2,h3⟩:=qmF (ra:=ra) hb ha hbb hca (ra * ca) (Nat.le_refl _)
 refine ⟨h1,h2,fun i j hi hj=>?_⟩
 rw [qmp,h3 i j hi hj]
 exact qj fun l hl=>if_pos (qfb hi hl)

theorem qeY {k total:Nat} (h1:1 <= k) (hk:k <= total) (ht:total <= 255):(qcO k total).length = total * k/\qx (qcO k total) /\
  (∀ i j,i < total->j < k->qz k (qcO k total) i j = qw (fun l=>qh (qaB (xsF i) l) (qz k (qch k total).2.1 l j)) k) /\
  ∀ i j,i < total->j < k->qz k (qcO k total) i j = qfy k xsF (xsF i) j:=by
 obtain ⟨t2,he⟩:=qxf hk ht
 obtain ⟨p1,p2,p3⟩:=qz5 (ra:=total) t2.lb (qlU (r:=total) (c:=k) (by omega) (by omega)) t2.bb (by omega)
 have hg:∀ i j,i < total->j < k->qz k (qcO k total) i j = qw (fun l=>qh (qaB (xsF i) l) (qz k (qch k total).2.1 l j)) k:=fun i j hi hj=>by
  rw [qcO,p3 i j hi hj]
  exact qj fun l hl=>by rw [qnW (by omega) hi hl (by omega)]
 refine ⟨p1,p2,hg,fun i j hi hj=>?_⟩
 obtain ⟨_,m2⟩:=qqa he
 have hp:∀ x,q6 k (fun l=>qz k (qch k total).2.1 l j) x = qw (fun l=>qh (qaB x l) (qz k (qch k total).2.1 l j)) k:=fun x=>qj fun l _=>qac
 rw [hg i j hi hj,<- hp,qjV (qeE (n:=k) (by omega))]
 rw [qj (g:=fun m=>qh (qfy k xsF (xsF i) m) (del m j)) fun m hm=>?_,qg5 hj]
 rw [hp,<- m2 m j hm hj]
 congr 1
 exact qj fun l hl=>by rw [qwP hk ht hm hl]
theorem qlh {g full:List Int} {k l i:Nat} (hg:qx g) (hf:qx full) (hl:full.length = k * l):∀ j,j <= k->(qcg g full k l i j).length = l/\qx (qcg g full k l i j) /\
  ∀ c,c < l->toF ((qcg g full k l i j).getD c 0) = qw (fun m=>qh (qz k g i m) (toF (full.getD (m * l + c) 0))) j
 | 0,_=>⟨by simp [qcg],fun x hx=>by rw [qcg] at hx; rw [List.eq_of_mem_replicate hx]; exact ⟨by omega,by omega⟩,fun c hc=>by
   rw [qcg,List.getD_eq_getElem?_getD,List.getElem?_replicate,if_pos hc]; rfl⟩
 | j + 1,hj=>by
  obtain ⟨h1,h2,h3⟩:=qlh hg hf hl (i:=i) j (by omega)
  have hsl:(seg full (j * l) l).length = l:=qfk (by rw [hl]; exact qpo (by omega))
  rw [qcg]
  refine ⟨by rw [qcu,h1],qdG h2,fun c hc=>?_⟩
  rw [List.getD_eq_getElem?_getD,qb6,List.getElem?_eq_getElem (by omega),Option.map_some,Option.getD_some,hsl,if_pos ⟨by omega,by omega⟩,Nat.sub_zero]
  have hs:(seg full (j * l) l).getD c 0 = full.getD (j * l + c) 0:=by
   rw [List.getD_eq_getElem?_getD,qfh,if_pos hc,List.getD_eq_getElem?_getD]
  rw [hs,qkw,qhT (qa7 hg _) (qa7 hf _),qw,<- h3 c hc,List.getD_eq_getElem?_getD (l:=qcg g full k l i j),List.getElem?_eq_getElem (by omega),Option.getD_some]
  rfl
theorem qyy {data:List Int} {n:Nat} (hb:qx data) (hn:data.length <= n):(qhY data n).length = n/\qx (qhY data n):=by
 refine ⟨by simp [qhY]; omega,fun x hx=>?_⟩
 rcases List.mem_append.1 hx with hx | hx
 ·exact hb x hx
 ·rw [List.eq_of_mem_replicate hx]; exact ⟨by omega,by omega⟩
theorem q3j {data:List Int} {n i:Nat}:(qhY data n).getD i 0 = data.getD i 0:=by
 rw [List.getD_eq_getElem?_getD,List.getD_eq_getElem?_getD,qhY]
 by_cases h:i < data.length
 ·rw [List.getElem?_append_left h]
 ·rw [List.getElem?_append_right (by omega),List.getElem?_eq_none (l:=data) (by omega),List.getElem?_replicate]
  split <;> rfl
theorem q0R {k total:Nat} {data:List Int} (h1:1 <= k) (hk:k <= total) (ht:total <= 255) (hb:qx data) (i:Nat):(qd4 k total data i).length = qD k data.length/\qx (qd4 k total data i) /\
  ∀ c,c < qD k data.length->toF ((qd4 k total data i).getD c 0) = qw (fun m=>qh (qz k (qcO k total) i m) (toF (data.getD (m * qD k data.length + c) 0))) k:=by
 obtain ⟨g1,g2,_,_⟩:=qeY h1 hk ht
 obtain ⟨f1,f2⟩:=qyy hb (n:=k * qD k data.length) (quI (by omega))
 obtain ⟨p1,p2,p3⟩:=qlh (i:=i) g2 f2 f1 k (Nat.le_refl _)
 refine ⟨p1,p2,fun c hc=>?_⟩
 rw [qd4,p3 c hc]
 exact qj fun m _=>by rw [q3j]
end Go.Proofs

set_option linter.unusedSimpArgs false
set_option linter.unusedVariables false
namespace Go.Eng
open Go
end Go.Eng
namespace Go.Proofs
open Go Go.Eng
theorem qsf {a b:List Int} (hl:a.length = b.length) (h:∀ i,i < a.length->a.getD i 0 = b.getD i 0):a = b:=by
 apply List.ext_getElem hl
 intro i h1 h2
 have:=h i h1
 rwa [List.getD_eq_getElem?_getD,List.getElem?_eq_getElem h1,List.getD_eq_getElem?_getD,List.getElem?_eq_getElem h2] at this
end Go.Proofs

set_option linter.unusedSimpArgs false
set_option linter.unusedVariables false
namespace Go.Eng
open Go Go.Proofs

def qfJ (m:List Int) (cols:Nat) (rs:List Int):List Int:=rs.flatMap fun r=>seg m (r.toNat * cols) cols
def ql1 (xs:List Int) (x:Int):List Int:=(List.range xs.length).map fun i=>ofF (qfy xs.length (fun m=>toF (xs.getD m 0)) (toF x) i)
end Go.Eng

set_option linter.unusedSimpArgs false
set_option linter.unusedVariables false
set_option maxRecDepth 100000
namespace Go.Proofs
open Go Go.Eng

end Go.Proofs

set_option linter.unusedSimpArgs false
set_option linter.unusedVariables false
namespace Go.Proofs
open Go Go.Eng

end Go.Proofs

set_option linter.unusedSimpArgs false
set_option linter.unusedVariables false
namespace Go.Proofs
open Go Go.Eng
theorem qtM {m:List Int} {c r:Nat} (hm:r * c <= m.length):∀ {rs:List Int},(∀ x ∈ rs,0 <= x/\x < (r:Int))->(qfJ m c rs).length = rs.length * c
 | [],_=>by simp [qfJ]
 | x :: rs,h=>by
  have ih:=qtM hm (rs:=rs) fun y hy=>h y (List.mem_cons_of_mem _ hy)
  have hx:=h x (List.mem_cons_self ..)
  have:=qpo (ca:=c) (show x.toNat < r by omega)
  rw [qfJ,List.flatMap_cons,List.length_append,qfk (by omega),show (rs.flatMap fun r=>seg m (r.toNat * c) c) = qfJ m c rs from rfl,ih,List.length_cons,Nat.add_mul]; omega
theorem qvn {l:List Int} {n:Nat} (h:n < l.length):l.getD n 0 ∈ l:=by
 rw [List.getD_eq_getElem?_getD,List.getElem?_eq_getElem h]; exact List.getElem_mem h
end Go.Proofs

set_option linter.unusedSimpArgs false
set_option linter.unusedVariables false
namespace Go.Eng
open Go Go.Proofs
def qcd (k total:Nat) (rs:List Int):Prop:=rs.length = k/\rs.Nodup/\∀ x ∈ rs,0 <= x/\x < (total:Int)
end Go.Eng
namespace Go.Proofs
open Go Go.Eng

theorem qtr {i j:Nat}:del i j = del j i:=by
 unfold del
 by_cases hij:i = j
 ·rw [if_pos hij,if_pos hij.symm]
 ·rw [if_neg hij,if_neg (Ne.symm hij)]
theorem qqr {m:List Int} {k R:Nat} (hm:m.length = R * k):∀ {rs:List Int},(∀ x ∈ rs,0 <= x/\x < (R:Int))->∀ {i j:Nat},i < rs.length->j < k->(qfJ m k rs).getD (i * k + j) 0 = m.getD ((rs.getD i 0).toNat * k + j) 0
 | [],_,i,j,hi,_=>by simp at hi
 | x :: rs,h,i,j,hi,hj=>by
  have hx:=h x (List.mem_cons_self ..)
  have hxk:x.toNat * k + k <= R * k:=by
   have h1:x.toNat + 1 <= R:=by omega
   have:=Nat.mul_le_mul_right k h1
   rw [Nat.add_mul] at this; omega
  have hsl:(seg m (x.toNat * k) k).length = k:=by rw [seg,List.length_take,List.length_drop]; omega
  rw [qfJ,List.flatMap_cons]
  cases i with
  | zero =>
   rw [Nat.zero_mul,Nat.zero_add,List.getD_eq_getElem?_getD,List.getElem?_append_left (by rw [hsl]; exact hj),seg,List.getElem?_take,if_pos hj,List.getElem?_drop,<- List.getD_eq_getElem?_getD]
   rfl
  | succ i =>
   have ih:=qqr hm (rs:=rs) (fun y hy=>h y (List.mem_cons_of_mem _ hy)) (i:=i) (j:=j) (by simpa using hi) hj
   rw [List.getD_eq_getElem?_getD,List.getElem?_append_right (by rw [hsl,Nat.add_mul]; omega),hsl,show (i + 1) * k + j - k = i * k + j by rw [Nat.add_mul]; omega,<- List.getD_eq_getElem?_getD]
   exact ih
theorem ql4 {m:List Int} {k:Nat} {rs:List Int} (h:qx m):qx (qfJ m k rs):=fun x hx=>by
 rw [qfJ,List.mem_flatMap] at hx
 obtain ⟨r,_,hx⟩:=hx
 exact h x (List.mem_of_mem_drop (List.mem_of_mem_take hx))
theorem qig {k total:Nat} {rs:List Int} (h:qcd k total rs) (ht:total <= 255):qbr k fun i=>xsF (rs.getD i 0).toNat:=by
 obtain ⟨h1,h2,h3⟩:=h
 intro i j hi hj he
 have gi:rs.getD i 0 = rs[i]'(by omega):=by rw [List.getD_eq_getElem?_getD,List.getElem?_eq_getElem (by omega)]; rfl
 have gj:rs.getD j 0 = rs[j]'(by omega):=by rw [List.getD_eq_getElem?_getD,List.getElem?_eq_getElem (by omega)]; rfl
 have mi:=h3 _ (List.getElem_mem (l:=rs) (n:=i) (by omega))
 have mj:=h3 _ (List.getElem_mem (l:=rs) (n:=j) (by omega))
 simp only [gi,gj] at he
 have:=qeE (n:=256) (Nat.le_refl _) _ _ (by omega) (by omega) he
 exact (List.getElem_inj (h₀:=by omega) (h₁:=by omega) h2).1 (by omega)
theorem qnf {m:List Int} {k total:Nat} {rs:List Int} (h:qcd k total rs) (hm:m.length = total * k):(qfJ m k rs).length = k * k:=by
 rw [qtM (r:=total) (by omega) h.2.2,h.1]
theorem q5O {k total:Nat} {rs:List Int} (h:qcd k total rs) (h1:1 <= k) (hk:k <= total) (ht:total <= 255) {y:Nat->F}
  (hy:∀ i,i < k->qw (fun j=>qh (qz k (qcO k total) (rs.getD i 0).toNat j) (y j)) k = 0):∀ j,j < k->y j = 0:=by
 obtain ⟨g1,g2,g3,_⟩:=qeY h1 hk ht
 obtain ⟨t2,he⟩:=qxf hk ht
 obtain ⟨_,m2⟩:=qqa he
 have hz:∀ l,l < k->qw (fun j=>qh (qz k (qch k total).2.1 l j) (y j)) k = 0:=qoK (qig h ht) fun i hi=>by
  rw [<- hy i hi]
  have hx:=h.2.2 (rs.getD i 0) (by rw [List.getD_eq_getElem?_getD,List.getElem?_eq_getElem (by rw [h.1]; exact hi)]; exact List.getElem_mem _)
  have e2:qw (fun j=>qh (qz k (qcO k total) (rs.getD i 0).toNat j) (y j)) k = qw (fun j=>qw (fun l=>qh (qh (qaB (xsF (rs.getD i 0).toNat) l) (qz k (qch k total).2.1 l j)) (y j)) k) k:=qj fun j hj=>by rw [g3 _ j (by omega) hj,qdR]
  rw [e2,qfg]
  refine qj fun l hl=>?_
  rw [<- qdh]
  exact qj fun j hj=>by rw [qO]
 intro j hj
 have e1:y j = qw (fun i=>qh (y i) (del i j)) k:=(qg5 (f:=y) hj).symm
 rw [e1,qj (g:=fun i=>qw (fun l=>qh (qz k ((qbm total k).take (k * k)) j l) (qh (qz k (qch k total).2.1 l i) (y i))) k) fun i hi=>?_,qfg]
 ·refine qcs fun l hl=>?_
  rw [qdh,hz l hl,qy]
 ·have:=m2 j i hj hi
  rw [show del i j = del j i from qtr,<- this,qac,<- qdR]
  exact qj fun l hl=>by rw [qO]
theorem q4g {k total:Nat} {rs:List Int} (h:qcd k total rs) (h1:1 <= k) (hk:k <= total) (ht:total <= 255):(qex (qfJ (qcO k total) k rs) k).2.2 = k:=by
 obtain ⟨g1,g2,_,_⟩:=qeY h1 hk ht
 refine qt4 (qnf h g1) (ql4 g2) fun y hy=>q5O h h1 hk ht fun i hi=>?_
 rw [<- hy i hi]
 refine qj fun j hj=>?_
 rw [qz,qz,qqr g1 h.2.2 (by rw [h.1]; exact hi) hj]

end Go.Proofs

set_option linter.unusedSimpArgs false
set_option linter.unusedVariables false
namespace Go.Eng
open Go Go.Proofs
end Go.Eng
namespace Go.Proofs
open Go Go.Eng
theorem q6P {h:Hp} {D:qd} {n:Nat} {f:Nat->List Int} (he:qf4 h D n f):qqU h D n/\∀ j,j < n->pcI D j = j/\pcD h D j = f j:=by
 refine ⟨fun j hj=>?_,fun j hj=>?_⟩
 ·obtain ⟨v,d,e,hr,_,hb⟩:=he j hj
  exact ⟨_,v,d,e,hr,hb⟩
 ·obtain ⟨v,d,e,hr,hf,hb⟩:=he j hj
  refine ⟨by simp [pcI,qg,qJ,e,qaf],?_⟩
  rw [pcD,show qJ D (j:Int) 1 = v by simp [qJ,e],qjs hr,hf]
end Go.Proofs

set_option linter.unusedSimpArgs false
set_option linter.unusedVariables false
namespace Go.Eng
open Go Go.Proofs

def quw (n:Nat):List Int:=(List.range n).map fun (m:Nat)=>(m:Int)
end Go.Eng

set_option linter.unusedSimpArgs false
set_option linter.unusedVariables false
namespace Go.Eng
open Go Go.Proofs

def qcp (f:Nat->List Int) (w:List Int) (l:Nat):Nat->List Int
 | 0=>List.replicate l 0
 | j + 1=>qab (qcp f w l j) 0 (seg (f j) 0 l) (w.getD j 0)
end Go.Eng

set_option linter.unusedSimpArgs false
set_option linter.unusedVariables false
namespace Go.Eng
open Go Go.Proofs
end Go.Eng

set_option linter.unusedSimpArgs false
set_option linter.unusedVariables false
set_option maxRecDepth 100000
namespace Go.Proofs
open Go Go.Eng

end Go.Proofs

set_option linter.unusedSimpArgs false
set_option linter.unusedVariables false
namespace Go.Eng
open Go Go.Proofs

end Go.Eng

set_option linter.unusedSimpArgs false
set_option linter.unusedVariables false
namespace Go.Proofs
open Go Go.Eng

theorem qvq {f:Nat->List Int} {w:List Int} {l:Nat}:∀ j,(qcp f w l j).length = l
 | 0=>by simp [qcp]
 | j + 1=>by rw [qcp,qcu,qvq j]
end Go.Proofs

set_option linter.unusedSimpArgs false
set_option linter.unusedVariables false
set_option maxRecDepth 100000
namespace Go.Proofs
open Go Go.Eng

end Go.Proofs

set_option linter.unusedSimpArgs false
set_option linter.unusedVariables false
namespace Go.Proofs
open Go Go.Eng
theorem qv7 {n:Nat}:(quw n).Nodup:=List.pairwise_map.2 (List.nodup_range.imp fun h e=>h (by omega))
theorem q0H {n:Nat} {x:Int} (h:x ∈ quw n):0 <= x/\x < n:=by
 obtain ⟨m,hm,rfl⟩:=List.mem_map.1 h
 have:=List.mem_range.1 hm
 omega
theorem qh5 {o l:List Int} {n k:Nat} (h:(o ++ l).Perm (quw n)) (hk:o.length = k):o.length = k/\o.Nodup/\∀ x ∈ o,0 <= x/\x < (n:Int) :=
 ⟨hk,(List.nodup_append.1 (h.nodup_iff.2 qv7)).1,fun x hx=>q0H (h.mem_iff.1 (List.mem_append_left _ hx))⟩
end Go.Proofs

set_option linter.unusedSimpArgs false
set_option linter.unusedVariables false
namespace Go.Proofs
open Go Go.Eng
end Go.Proofs

set_option linter.unusedSimpArgs false
set_option linter.unusedVariables false
namespace Go.Proofs
open Go Go.Eng
set_option maxRecDepth 20000
end Go.Proofs

set_option linter.unusedSimpArgs false
set_option linter.unusedVariables false
namespace Go.Eng
open Go Go.Proofs
def blk:Value->Option Nat
 | .slice (some a) _ _=>some a.block
 | _=>none
def q71 (h:Hp) (vs:Nat->Value) (n:Nat) (M:Nat->List Int):Prop :=
 (∀ j,j < n->∃ d,Rd h kB (vs j) d/\bI d = M j/\q9 d)/\∀ i j,i < n->j < n->i ≠ j->M i ≠ []->M j ≠ []->blk (vs i) ≠ blk (vs j)
end Go.Eng
namespace Go.Proofs
open Go Go.Eng
theorem q75 {h:Hp} {vs:Nat->Value} {n j:Nat} {M:Nat->List Int} (ht:q71 h vs n M) (hj:j < n):∃ d,Rd h kB (vs j) d/\bI d = M j/\q9 d:=ht.1 j hj
end Go.Proofs

set_option linter.unusedSimpArgs false
set_option linter.unusedVariables false
namespace Go.Eng
open Go Go.Proofs
def tvs (D:qd):Nat->Value:=fun j=>qJ D j 0
end Go.Eng

set_option linter.unusedSimpArgs false
set_option linter.unusedVariables false
namespace Go.Eng
open Go Go.Proofs
noncomputable def pcN (h:Hp) (D:qd) (j:Nat):Nat:=(pcD h D j).length
def rdB (h:Hp) (v:Value):Prop:=∃ d,Rd h kB v d/\q9 d
noncomputable def qgO (D:qd) (k:Nat):List Int:=(List.range k).map (pcI D)
noncomputable def qlW (h:Hp) (D:qd):Nat->List Int:=fun j=>rdL h (tvs D j)
noncomputable def q7P (h:Hp) (D:qd) (k:Nat) (x:Int):List Int:=qcp (pcD h D) (ql1 (qgO D k) x) (pcN h D 0) k
def qnr (total k:Nat) (rs:List Int):List Int:=(qex (qfJ (qcO k total) k rs) k).2.1
noncomputable def qy7 (h:Hp) (D:qd) (total k:Nat) (i:Nat):List Int:=qcp (pcD h D) (seg (qnr total k (qgO D k)) (i * k) k) (pcN h D 0) k
def q7w (h:Hp) (D:qd) (k total n:Int):Prop:=qa4 k total = true/\k <= n/\n <= 17592186043904/\qqU h D n.toNat/\qcd k.toNat total.toNat (qgO D k.toNat)/\pcN h D 0 <= 8192/\∀ j,j < k.toNat->pcN h D j = pcN h D 0
end Go.Eng

set_option linter.unusedSimpArgs false
set_option linter.unusedVariables false
namespace Go.Eng
open Go Go.Proofs
end Go.Eng

set_option linter.unusedSimpArgs false
set_option linter.unusedVariables false
namespace Go.Eng
open Go Go.Proofs
noncomputable def plI (k size:Int):Int:=(qD k.toNat size.toNat:Int)
end Go.Eng

set_option linter.unusedSimpArgs false
set_option linter.unusedVariables false
namespace Go.Eng
open Go Go.Proofs
def q4U (r:Nat):SV:=.agg (qiJ r (r + 1) (r + 2) (r + 3) (r + 4) (r + 5) (r + 6) (r + 7))
end Go.Eng

set_option linter.unusedSimpArgs false
set_option linter.unusedVariables false
namespace Go.Proofs
open Go Go.Eng
section
variable {M:Bool} {C:Int->Prop} {x t:Int} {D O:List Int}
end
end Go.Proofs

set_option linter.unusedSimpArgs false
set_option linter.unusedVariables false
namespace Go.Proofs
open Go Go.Eng
variable {rows wide c rank:Nat} {T0:Mat} {M:Nat->List Int}
end Go.Proofs

set_option linter.unusedSimpArgs false
set_option linter.unusedVariables false
namespace Go.Proofs
open Go Go.Eng
end Go.Proofs

set_option linter.unusedSimpArgs false
set_option linter.unusedVariables false
set_option maxRecDepth 100000
namespace Go.Proofs
open Go Go.Eng

end Go.Proofs

set_option linter.unusedSimpArgs false
set_option linter.unusedVariables false
namespace Go.Proofs
open Go Go.Eng
variable {k total len e e':Int} {n i:Nat} {I I':Nat->Int} {L L':Nat->Nat}
end Go.Proofs

set_option linter.unusedSimpArgs false
set_option linter.unusedVariables false
namespace Go.Proofs
open Go Go.Eng
set_option maxRecDepth 100000
end Go.Proofs

set_option linter.unusedSimpArgs false
set_option linter.unusedVariables false
namespace Go.Proofs
open Go Go.Eng
def byF (r:F) (y:Nat->F):Nat->F:=fun l=>(if l = 0 then 0 else y (l - 1)) ^^^ qh r (y l)
theorem qjR {y:Nat->F} {x:F}:q6 1 y x = y 0:=by
 show (0:F) ^^^ qh (y 0) (qaB x 0) = y 0
 rw [qan,show qaB x 0 = 1 from rfl,qaR]
theorem qvs {r x:F} {y:Nat->F}:∀ n,q6 (n + 1) (byF r y) x = qh (x ^^^ r) (q6 n y x) ^^^ qh (qh r (y n)) (qaB x n)
 | 0=>by rw [qjR,byF,if_pos rfl,qan,show q6 0 y x = 0 from rfl,qy,qan,show qaB x 0 = 1 from rfl,qaR]
 | n + 1=>by
  have ih:=qvs (r:=r) (x:=x) (y:=y) n
  have h1:q6 (n + 2) (byF r y) x = q6 (n + 1) (byF r y) x ^^^ qh (byF r y (n + 1)) (qaB x (n + 1)):=rfl
  have h2:q6 (n + 1) y x = q6 n y x ^^^ qh (y n) (qaB x n):=rfl
  rw [h1,ih,h2,byF,if_neg (by omega),Nat.add_sub_cancel,qhR,qbZ (x:=y n)]
  have h3:qh (x ^^^ r) (qh (y n) (qaB x n)) = qh (y n) (qaB x (n + 1)) ^^^ qh (qh r (y n)) (qaB x n):=by
   rw [qbZ,qaB]
   congr 1
   ·rw [<- qO,qac (x:=x),qO]
    try rw [qac (x:=x)]
   ·rw [qO]
  rw [h3]
  generalize qh (x ^^^ r) (q6 n y x) = a
  generalize qh (qh r (y n)) (qaB x n) = b
  generalize qh (y n) (qaB x (n + 1)) = c
  generalize qh (qh r (y (n + 1))) (qaB x (n + 1)) = d
  rw [BitVec.xor_assoc,BitVec.xor_assoc,BitVec.xor_assoc]
  congr 1
  rw [<- BitVec.xor_assoc,<- BitVec.xor_assoc,BitVec.xor_comm b c]
theorem qqI {r x:F} {y:Nat->F} {n:Nat} (h:y n = 0):q6 (n + 1) (byF r y) x = qh (x ^^^ r) (q6 n y x):=by
 rw [qvs,h,qy,qA,qad]
theorem qrF {y:Nat->F} {x:F} {n:Nat} (h:∀ l,n <= l->y l = 0):∀ m,q6 (n + m) y x = q6 n y x
 | 0=>rfl
 | m + 1=>by
  show q6 (n + m) y x ^^^ qh (y (n + m)) (qaB x (n + m)) = _
  rw [qrF h m,h _ (by omega),qA,qad]
theorem qnp {y z:Nat->F} {x:F} {n:Nat}:q6 n (fun l=>y l ^^^ z l) x = q6 n y x ^^^ q6 n z x:=by
 simp only [q6]
 rw [<- qfR]
 exact qj fun j _=>qbZ
theorem qtd {y:Nat->F} {x c:F} {n:Nat}:q6 n (fun l=>qh c (y l)) x = qh c (q6 n y x):=by
 simp only [q6]
 rw [<- qdh]
 exact qj fun j _=>qO
def ddF (xs ys:Nat->F):Nat->Nat->F
 | s,0=>ys s
 | s,j + 1=>qh (ddF xs ys (s + 1) j ^^^ ddF xs ys s j) (qew (xs (s + j + 1) ^^^ xs s))
theorem qhc {n:Nat} {xs ys:Nat->F} (hd:qbr n xs):∀ j s,s + j < n->∃ y:Nat->F,(∀ l,j < l->y l = 0)/\(∀ i,i <= j->q6 (j + 1) y (xs (s + i)) = ys (s + i))/\y j = ddF xs ys s j
 | 0,s,hs=>⟨fun l=>if l = 0 then ys s else 0,fun l hl=>if_neg (by omega),fun i hi=>by
   obtain rfl:i = 0:=by omega
   rw [qjR,if_pos rfl,Nat.add_zero],rfl⟩
 | j + 1,s,hs=>by
  obtain ⟨y1,a1,b1,c1⟩:=qhc (ys:=ys) hd j (s + 1) (by omega)
  obtain ⟨y0,a0,b0,c0⟩:=qhc (ys:=ys) hd j s (by omega)
  have hne:xs (s + j + 1) ^^^ xs s ≠ 0:=fun h=>by have:=hd _ _ (by omega) (by omega) (qeD.1 h); omega
  let w:F:=qew (xs (s + j + 1) ^^^ xs s)
  have hv:∀ x,q6 (j + 2) (fun l=>qh w (byF (xs s) y1 l ^^^ byF (xs (s + j + 1)) y0 l)) x = qh w (qh (x ^^^ xs s) (q6 (j + 1) y1 x) ^^^ qh (x ^^^ xs (s + j + 1)) (q6 (j + 1) y0 x)):=fun x=>by
   rw [qtd,qnp,qqI (a1 _ (by omega)),qqI (a0 _ (by omega))]
  refine ⟨fun l=>qh w (byF (xs s) y1 l ^^^ byF (xs (s + j + 1)) y0 l),fun l hl=>?_,fun i hi=>?_,?_⟩
  ·simp only [byF]
   rw [if_neg (by omega),if_neg (by omega),a1 l (by omega),a0 l (by omega),a1 (l - 1) (by omega),a0 (l - 1) (by omega),qy,qy,qay,qy]
  ·rw [hv]
   have hw:∀ z,qh w (qh (xs (s + j + 1) ^^^ xs s) z) = z:=fun z=>by
    rw [<- qO,qac (x:=w),qim hne,qhO]
   by_cases h0:i = 0
   ·subst h0
    have hb0:=b0 0 (by omega)
    simp only [Nat.add_zero] at hb0
    rw [Nat.add_zero,qay,qA,qan,hb0,BitVec.xor_comm,hw]
   ·by_cases h1:i = j + 1
    ·subst h1
     have:=b1 j (Nat.le_refl _)
     rw [show s + 1 + j = s + (j + 1) by omega] at this
     rw [this,<- Nat.add_assoc,qay,qA,qad,hw]
    ·have h2:=b1 (i - 1) (by omega)
     rw [show s + 1 + (i - 1) = s + i by omega] at h2
     rw [h2,b0 i (by omega),<- qbZ,qno,qay,qan,BitVec.xor_comm,hw]
  ·simp only [byF]
   rw [if_neg (by omega),if_neg (by omega),a1 (j + 1) (by omega),a0 (j + 1) (by omega),qy,qy,qad,qad,Nat.add_sub_cancel,c1,c0,qac]
   rfl
def qlv (xs:Nat->F):Nat->Nat->F
 | 0=>fun l=>if l = 0 then 1 else 0
 | m + 1=>byF (xs m) (qlv xs m)
theorem qr9 {xs:Nat->F}:∀ m,(∀ l,m < l->qlv xs m l = 0)/\qlv xs m m = 1/\∀ x,q6 (m + 1) (qlv xs m) x = qcI (fun u=>x ^^^ xs u) m
 | 0=>⟨fun l hl=>if_neg (by omega),rfl,fun x=>by rw [qjR]; rfl⟩
 | m + 1=>by
  obtain ⟨h1,h2,h3⟩:=qr9 (xs:=xs) m
  refine ⟨fun l hl=>?_,?_,fun x=>?_⟩
  ·simp only [qlv,byF]
   rw [if_neg (by omega),h1 (l - 1) (by omega),h1 l (by omega),qy,qad]
  ·simp only [qlv,byF]
   rw [if_neg (by omega),Nat.add_sub_cancel,h2,h1 (m + 1) (by omega),qy,qad]
  ·rw [qlv,qqI (h1 _ (by omega)),h3,qcI,qac]
def qx7 (xs ys:Nat->F) (x:F) (m:Nat):F:=qw (fun t=>qh (ddF xs ys 0 t) (qcI (fun u=>x ^^^ xs u) t)) m
theorem qrD {n:Nat} {xs ys:Nat->F} (hd:qbr n xs):∀ m,m < n->∃ y:Nat->F,(∀ l,m < l->y l = 0)/\(∀ i,i <= m->q6 (m + 1) y (xs i) = ys i)/\∀ x,q6 (m + 1) y x = qx7 xs ys x (m + 1)
 | 0,hm=>by
  obtain ⟨y,a,b,c⟩:=qhc (ys:=ys) hd 0 0 (by omega)
  refine ⟨y,a,fun i hi=>by have:=b i hi; simp only [Nat.zero_add] at this ⊢; exact this,fun x=>?_⟩
  rw [qjR,c]
  show ys 0 = (0:F) ^^^ qh (ys 0) 1
  rw [qan,qaR]
 | m + 1,hm=>by
  obtain ⟨y0,a0,b0,c0⟩:=qrD (ys:=ys) hd m (by omega)
  obtain ⟨y,a,b,c⟩:=qhc (ys:=ys) hd (m + 1) 0 (by omega)
  obtain ⟨p1,p2,p3⟩:=qr9 (xs:=xs) (m + 1)
  refine ⟨y,a,fun i hi=>by have:=b i hi; rwa [Nat.zero_add] at this,fun x=>?_⟩
  let R:Nat->F:=fun l=>(y l ^^^ y0 l) ^^^ qh (ddF xs ys 0 (m + 1)) (qlv xs (m + 1) l)
  have hRv:∀ x,q6 (m + 2) R x = (q6 (m + 2) y x ^^^ q6 (m + 1) y0 x) ^^^ qh (ddF xs ys 0 (m + 1)) (qcI (fun u=>x ^^^ xs u) (m + 1)):=fun x=>by
   rw [<- p3,<- qtd,<- qrF (y:=y0) (n:=m + 1) (fun l hl=>a0 l (by omega)) 1,<- qnp,<- qnp]
  have hRt:R (m + 1) = 0:=by
   simp only [R]
   rw [c,a0 (m + 1) (by omega),p2,qaR,qad,qay]
  have hRe:∀ x,q6 (m + 1) R x = q6 (m + 2) R x:=fun x=>by
   show _ = q6 (m + 1) R x ^^^ qh (R (m + 1)) (qaB x (m + 1))
   rw [hRt,qA,qad]
  have h0:=qjM (n:=m + 1) (y:=R) (xs:=xs) (fun i j hi hj=>hd i j (by omega) (by omega)) fun i hi=>by
   rw [hRe,hRv,b0 i (by omega)]
   have:=b i (by omega)
   rw [Nat.zero_add] at this
   rw [this,qay,qan,qp0 (k:=i) hi qay,qy]
  have hz:q6 (m + 1) R x = 0:=qcs fun l hl=>by rw [h0 l hl,qA]
  rw [hRe,hRv] at hz
  have h1:qx7 xs ys x (m + 2) = qx7 xs ys x (m + 1) ^^^ qh (ddF xs ys 0 (m + 1)) (qcI (fun u=>x ^^^ xs u) (m + 1)):=rfl
  rw [h1,<- c0 x]
  have h2:=qeD.1 hz
  rw [<- h2,<- BitVec.xor_assoc,BitVec.xor_comm,<- BitVec.xor_assoc,qay,qan]
end Go.Proofs

set_option linter.unusedSimpArgs false
set_option linter.unusedVariables false
namespace Go.Proofs
open Go Go.Eng
theorem qfz {f:Nat->List Int} {w:List Int} {l:Nat} (hw:qx w):∀ k,(∀ j,j < k->(f j).length = l/\qx (f j))->(qcp f w l k).length = l/\qx (qcp f w l k)/\∀ c,c < l->toF ((qcp f w l k).getD c 0) = qw (fun m=>qh (toF (w.getD m 0)) (toF ((f m).getD c 0))) k
 | 0,_=>⟨by simp [qcp],fun x hx=>by rw [qcp] at hx; rw [List.eq_of_mem_replicate hx]; exact ⟨by omega,by omega⟩,fun c hc=>by
   rw [qcp,List.getD_eq_getElem?_getD,List.getElem?_replicate,if_pos hc]; rfl⟩
 | k + 1,h=>by
  obtain ⟨h1,h2,h3⟩:=qfz hw k fun j hj=>h j (by omega)
  obtain ⟨f1,f2⟩:=h k (by omega)
  have hsl:seg (f k) 0 l = f k:=by rw [<- f1]; simp [seg]
  rw [qcp,hsl]
  refine ⟨by rw [qcu,h1],qdG h2,fun c hc=>?_⟩
  rw [List.getD_eq_getElem?_getD,qb6,List.getElem?_eq_getElem (by omega),Option.map_some,Option.getD_some,if_pos ⟨by omega,by omega⟩,Nat.sub_zero,qkw,qhT (qa7 hw _) (qa7 f2 _),qw,<- h3 c hc,List.getD_eq_getElem?_getD (l:=qcp f w l k),List.getElem?_eq_getElem (by omega),Option.getD_some]
theorem q1J {f g:Nat->List Int} {w v:List Int} {l k:Nat} (hw:qx w) (hv:qx v) (hf:∀ j,j < k->(f j).length = l/\qx (f j)) (hg:∀ j,j < k->(g j).length = l/\qx (g j))
  (h:∀ c,c < l->qw (fun m=>qh (toF (w.getD m 0)) (toF ((f m).getD c 0))) k = qw (fun m=>qh (toF (v.getD m 0)) (toF ((g m).getD c 0))) k):qcp f w l k = qcp g v l k:=by
 obtain ⟨a1,a2,a3⟩:=qfz hw k hf
 obtain ⟨b1,b2,b3⟩:=qfz hv k hg
 refine qsf (by omega) fun c hc=>qqm (qa7 a2 c) (qa7 b2 c) ?_
 rw [a3 c (by omega),b3 c (by omega),h c (by omega)]
theorem q1t {rs:List Int} {x:Int} {j:Nat} (hj:j < rs.length):toF ((ql1 rs x).getD j 0) = qfy rs.length (fun m=>toF (rs.getD m 0)) (toF x) j:=by
 unfold ql1
 rw [List.getD_eq_getElem?_getD,List.getElem?_map,List.getElem?_range hj,Option.map_some,Option.getD_some,qjf]
theorem qkr {xs:List Int} {x:Int}:qx (ql1 xs x):=fun y hy=>by
 obtain ⟨m,_,rfl⟩:=List.mem_map.1 hy
 exact qjl
variable {k total:Nat} {rs:List Int}
theorem qlw (hc:qcd k total rs) {j:Nat} (hj:j < k):toF (rs.getD j 0) = xsF (rs.getD j 0).toNat:=by
 have h1:=hc.1
 have h2:=hc.2.2 (rs.getD j 0) (qvn (by omega))
 unfold xsF
 rw [Int.toNat_of_nonneg h2.1]
theorem qmO (hc:qcd k total rs) (ht:total <= 255):qbr k fun m=>toF (rs.getD m 0):=fun i j hi hj he=>by
 refine qig hc ht i j hi hj ?_
 simp only [qlw hc hi,qlw hc hj] at he
 exact he
theorem qrn {xs v:Nat->F} (h1:1 <= k) (hd:qbr k xs):∃ y:Nat->F,(∀ i,i < k->q6 k y (xs i) = v i)/\∀ x,q6 k y x = qw (fun j=>qh (qfy k xs x j) (v j)) k:=by
 obtain ⟨y,_,hy,_⟩:=qrD (ys:=v) hd (k - 1) (by omega)
 rw [show k - 1 + 1 = k by omega] at hy
 refine ⟨y,fun i hi=>hy i (by omega),fun x=>?_⟩
 rw [qjV hd]
 exact qj fun j hj=>by rw [hy j (by omega)]
theorem q0t (hc:qcd k total rs) (h1:1 <= k) (hk:k <= total) (ht:total <= 255) (v:Nat->F) {i:Nat} (hi:i < k) :
    qw (fun j=>qh (qz k (qnr total k rs) i j) (v j)) k = qw (fun j=>qh (qfy k (fun m=>toF (rs.getD m 0)) (xsF i) j) (v j)) k:=by
  obtain ⟨y,hy,hL⟩:=qrn (v:=v) h1 (qmO hc ht)
  obtain ⟨g1,g2,_,g4⟩:=qeY h1 hk ht
  have hlen:=qnf hc g1
  have hr:=q4g hc h1 hk ht
  obtain ⟨t2,he⟩:=qmh hlen (ql4 g2)
  rw [hr] at he
  obtain ⟨m1,_⟩:=qqa he
  have hS:∀ j,j < k->∀ m,m < k->qz k (qfJ (qcO k total) k rs) j m = qfy k xsF (toF (rs.getD j 0)) m:=fun j hj m hm=>by
    have hrj:=hc.2.2 (rs.getD j 0) (qvn (by rw [hc.1]; exact hj))
    unfold qz
    rw [qqr g1 hc.2.2 (by rw [hc.1]; exact hj) hm,qlw hc hj,<- g4 (rs.getD j 0).toNat m (by omega) hm]
    rfl
  have hx:qbr k xsF:=qeE (by omega)
  rw [<- hL]
  calc qw (fun j=>qh (qz k (qnr total k rs) i j) (v j)) k
      = qw (fun j=>qw (fun m=>qh (qh (qz k (qnr total k rs) i j) (qz k (qfJ (qcO k total) k rs) j m)) (q6 k y (xsF m))) k) k:=by
        refine qj fun j hj=>?_
        rw [<- hy j hj,qjV hx (x:=toF (rs.getD j 0)),<- qdh]
        exact qj fun m hm=>by rw [hS j hj m hm,qO]
    _ = qw (fun m=>qh (del m i) (q6 k y (xsF m))) k:=by
        rw [qfg]
        refine qj fun m hm=>?_
        rw [qdR,qtr]
        congr 1
        exact m1 i m hi hm
    _ = q6 k y (xsF i):=qnu (f:=fun m=>q6 k y (xsF m)) hi
theorem qxa {m:List Int} {i j:Nat} (hj:j < k):toF ((seg m (i * k) k).getD j 0) = qz k m i j:=by
 unfold qz seg
 rw [List.getD_eq_getElem?_getD,List.getElem?_take,if_pos hj,List.getElem?_drop,List.getD_eq_getElem?_getD]
theorem q0n (hc:qcd k total rs) (h1:1 <= k) (hk:k <= total) (ht:total <= 255):(qnr total k rs).length = k * k/\qx (qnr total k rs):=by
 obtain ⟨g1,g2,_,_⟩:=qeY h1 hk ht
 obtain ⟨t2,_⟩:=qmh (qnf hc g1) (ql4 g2)
 exact ⟨t2.lb,t2.bb⟩
theorem qtx {l:List Int} {o n:Nat} (h:qx l):qx (seg l o n):=fun x hx=>h x (List.mem_of_mem_drop (List.mem_of_mem_take hx))
theorem q6a (hc:qcd k total rs) (h1:1 <= k) (hk:k <= total) (ht:total <= 255) {f:Nat->List Int} {l i:Nat} (hf:∀ j,j < k->(f j).length = l/\qx (f j)) (hi:i < k) :
  qcp f (seg (qnr total k rs) (i * k) k) l k = qcp f (ql1 rs (i:Int)) l k:=by
 refine q1J (qtx (q0n hc h1 hk ht).2) qkr hf hf fun c hcl=>?_
 rw [qj fun m hm=>by rw [qxa hm],q0t hc h1 hk ht _ hi]
 exact qj fun m hm=>by rw [q1t (by rw [hc.1]; exact hm),hc.1]; rfl
theorem q4y (hc:qcd k total rs) (h1:1 <= k) (hk:k <= total) (ht:total <= 255) {f:Nat->List Int} {l r:Nat} (hf:∀ j,j < k->(f j).length = l/\qx (f j)) (hr:r < total) {g:Nat->List Int} (hg:∀ i,i < k->g i = qcp f (ql1 rs (i:Int)) l k) :
  qcp g (seg (qcO k total) (r * k) k) l k = qcp f (ql1 rs (r:Int)) l k:=by
 obtain ⟨g1,g2,_,g4⟩:=qeY h1 hk ht
 have hgf:∀ i,i < k->(g i).length = l/\qx (g i):=fun i hi=>by
  obtain ⟨a,b,_⟩:=qfz (qkr (xs:=rs) (x:=(i:Int))) k hf
  rw [hg i hi]; exact ⟨a,b⟩
 refine q1J (qtx g2) qkr hgf hf fun c hcl=>?_
 obtain ⟨y,hy,hL⟩:=qrn (v:=fun j=>toF ((f j).getD c 0)) h1 (qmO hc ht)
 have hx:qbr k xsF:=qeE (by omega)
 have hv:∀ x:Int,qw (fun m=>qh (toF ((ql1 rs x).getD m 0)) (toF ((f m).getD c 0))) k = q6 k y (toF x):=fun x=>by
  rw [hL]
  exact qj fun m hm=>by rw [q1t (by rw [hc.1]; exact hm),hc.1]
 rw [hv,show toF ((r:Nat):Int) = xsF r from rfl,qjV hx]
 refine qj fun m hm=>?_
 rw [qxa hm,g4 r m hr hm,hg m hm,(qfz qkr k hf).2.2 c hcl,hv]
 rfl
end Go.Proofs

set_option linter.unusedSimpArgs false
set_option linter.unusedVariables false
namespace Go.Proofs
open Go Go.Eng
set_option maxRecDepth 100000
end Go.Proofs

set_option linter.unusedSimpArgs false
set_option linter.unusedVariables false
namespace Go.Proofs
open Go Go.Eng
set_option maxRecDepth 100000
end Go.Proofs

set_option linter.unusedSimpArgs false
set_option linter.unusedVariables false
set_option maxRecDepth 100000
namespace Go.Proofs
open Go Go.Eng

end Go.Proofs

set_option linter.unusedSimpArgs false
set_option linter.unusedVariables false
namespace Go.Proofs
open Go Go.Eng
set_option maxRecDepth 100000
structure PcIn (h:Hp) (D:qd) (k total n:Int):Prop where
 k1:1 <= k
 k2:k <= total
 k3:total <= 255
 kn:k <= n
 sol:q7w h D k total n
 idx:∀ j,j < n.toNat->0 <= pcI D j/\pcI D j < total
 len:∀ j,j < n.toNat->pcN h D j = pcN h D 0
 fs:∀ j,j < n.toNat->(pcD h D j).length = pcN h D 0/\qx (pcD h D j)
variable {h:Hp} {D:qd} {k total n:Int}
theorem PcIn.f (p:PcIn h D k total n):∀ j,j < k.toNat->(pcD h D j).length = pcN h D 0/\qx (pcD h D j):=fun j hj=>p.fs j (by have:=p.kn; omega)
theorem PcIn.cols (p:PcIn h D k total n) {hc:Hp} {C:qd} (ht:q71 hc (tvs C) k.toNat (qy7 h D total.toNat k.toNat)) :
  (∀ j,j < k.toNat->rdB hc (tvs C j)/\(qlW hc C j).length = (qlW hc C 0).length)/\(qlW hc C 0).length = pcN h D 0/\∀ r:Int,0 <= r->r < total->qcp (qlW hc C) (seg (qcO k.toNat total.toNat) (r.toNat * k.toNat) k.toNat) (qlW hc C 0).length k.toNat = q7P h D k.toNat r:=by
 have h1:=p.k1
 have h2:=p.k2
 have h3:=p.k3
 have hch:=p.sol.2.2.2.2.1
 have hcol:∀ j,j < k.toNat->rdB hc (tvs C j)/\qlW hc C j = qy7 h D total.toNat k.toNat j:=fun j hj=>by
  obtain ⟨d,hr,hd,hB⟩:=q75 ht hj
  exact ⟨⟨d,hr,hB⟩,by rw [qlW,qjs hr,hd]⟩
 have hl:∀ j,j < k.toNat->(qlW hc C j).length = pcN h D 0:=fun j hj=>by
  rw [(hcol j hj).2,qy7,qvq]
 refine ⟨fun j hj=>⟨(hcol j hj).1,by rw [hl j hj,hl 0 (by omega)]⟩,hl 0 (by omega),fun r r0 r1=>?_⟩
 rw [hl 0 (by omega),q4y hch (by omega) (by omega) (by omega) (f:=pcD h D) p.f (by omega) (r:=r.toNat) (fun i hi=>by
  rw [(hcol i hi).2,qy7,q6a hch (by omega) (by omega) (by omega) p.f hi]),Int.toNat_of_nonneg r0]
 rfl
theorem PcIn.value (p:PcIn h D k total n):(∀ j:Nat,(j:Int) < k->0 <= pcI D j/\pcI D j < 256)/\(qgO D k.toNat).Nodup/\pcN h D 0 <= 9000/\(∀ j:Nat,(j:Int) < k->pcN h D j = pcN h D 0)/\qqU h D k.toNat:=by
 have h1:=p.k1
 have h2:=p.k2
 have h3:=p.k3
 have h4:=p.kn
 have h5:=p.sol.2.2.2.2.2.1
 refine ⟨fun j hj=>?_,p.sol.2.2.2.2.1.2.1,by omega,fun j hj=>p.len j (by omega),fun j hj=>p.sol.2.2.2.1 j (by omega)⟩
 have:=p.idx j (by omega)
 omega
end Go.Proofs

set_option linter.unusedSimpArgs false
set_option linter.unusedVariables false
namespace Go.Proofs
open Go Go.Eng
set_option maxRecDepth 100000
variable {h h':Hp} {D D':qd} {k total n index len e e':Int} {b b':Bool}
end Go.Proofs

set_option linter.unusedSimpArgs false
set_option linter.unusedVariables false
namespace Go.Proofs
open Go Go.Eng
end Go.Proofs

set_option linter.unusedSimpArgs false
set_option linter.unusedVariables false
namespace Go.Proofs
open Go Go.Eng
theorem q0e {k n t s l i:Int} {D:List (List Int)} {m:List Int} (h:qbY k n t s l D i m = 0):qF k n t s l = true/\0 <= i/\i < t/\(m.length:Int) = qep k s/\sha (qbV i ++ m) = D.getD i.toNat []:=by
 unfold qbY at h
 by_cases h1:qF k n t s l = false
 ·rw [if_pos h1] at h; omega
 rw [if_neg h1] at h
 by_cases h2:i < 0∨t <= i
 ·rw [if_pos h2] at h; omega
 rw [if_neg h2] at h
 by_cases h3:(m.length:Int) ≠ qep k s
 ·rw [if_pos h3] at h; omega
 rw [if_neg h3] at h
 by_cases h4:sha (qbV i ++ m) ≠ D.getD i.toNat []
 ·rw [if_pos h4] at h; omega
 exact ⟨by simpa using h1,by omega,by omega,by omega,by simpa using h4⟩
theorem q0K {k n t s l:Int}:qF k n t s l = true↔1 <= k/\k <= n/\n <= t/\t <= 255/\0 <= s/\s <= 8192/\l = t:=by
 simp [qF,qbd,and_assoc]
theorem q4j {k s:Int} (hk:1 <= k) (hs:0 <= s):qep k s = plI k s:=by
 obtain ⟨k,rfl⟩:=Int.eq_ofNat_of_zero_le (show 0 <= k by omega)
 obtain ⟨s,rfl⟩:=Int.eq_ofNat_of_zero_le hs
 have e:((s:Int) + (k:Int) - 1) = ((s + k - 1:Nat):Int):=by omega
 unfold qep plI qD
 rw [e,Int.ofNat_tdiv]
 simp
end Go.Proofs

set_option linter.unusedSimpArgs false
set_option linter.unusedVariables false
set_option maxRecDepth 100000
namespace Go.Proofs
open Go Go.Eng

end Go.Proofs

set_option linter.unusedSimpArgs false
set_option linter.unusedVariables false
set_option maxRecDepth 100000
namespace Go.Proofs
open Go Go.Eng

end Go.Proofs

set_option linter.unusedSimpArgs false
set_option linter.unusedVariables false
namespace Go.Proofs
open Go Go.Eng
set_option maxRecDepth 100000
end Go.Proofs

set_option linter.unusedSimpArgs false
set_option linter.unusedVariables false
namespace Go.Proofs
open Go Go.Eng
set_option maxRecDepth 20000
end Go.Proofs

set_option linter.unusedSimpArgs false
set_option linter.unusedVariables false
namespace Go.Eng
open Go Go.ChangeShapes Go.WideShapes Go.ChangeAt Go.RowKit

structure Grew (W w':World):Prop where
 os:w'.os = W.os
 out:w'.output = W.output
 blk:∀ (b:Nat) (o:Obj),W.heap[b]? = some o->w'.heap[b]? = some o

theorem Grew.block {W w':World} (h:Grew W w') {i:Nat} (hi:i < W.heap.size):w'.heap[i]? = W.heap[i]?:=by
 rw [Array.getElem?_eq_getElem hi]; exact h.blk i _ (Array.getElem?_eq_getElem hi)

theorem Grew.kept {W w':World} (h:Grew W w') (may:MemPlace->Prop):W.keptBut w' may:=by
 refine ⟨h.os,h.out,fun i hi=>?_⟩
 rw [h.block hi,Array.getElem?_eq_getElem hi]
 cases W.heap[i] <;> simp

theorem Grew.trodAll {H:Type} {enc:TypeId × Value->H} {P:Program} {W W':World} (hg:Grew W W') (hl:laidOutB P = true) {sp:Nat->Bool}:∀ {ts:List TypeId} {vs:List Value} {ds:List (DataW H)} {ps:List MemPlace},
  (∀ t ∈ ts,P.readableRec t = true/\t < P.types.size)->DataW.TrodAll enc P W 0 (fun _=>true) true ts vs ds ps->(∀ p ∈ ps,p.block < W.heap.size)->(∀ p ∈ ps,sp p.block = true) ->
  DataW.TrodAll enc P W' 0 sp true ts vs ds ps
 | [],[],[],_,_,h,_,_=>h
 | _ :: _,_ :: _,_ :: _,_,hT,⟨p,q,h1,h2,e⟩,hlt,hs=>by
  subst e
  refine ⟨p,q,?_,Grew.trodAll hg hl (fun t ht=>hT t (List.mem_cons_of_mem _ ht)) h2 (fun x hx=>hlt x (List.mem_append_right _ hx)) (fun x hx=>hs x (List.mem_append_right _ hx)),rfl⟩
  have hr:=hT _ (List.mem_cons_self ..)
  refine WideElems.Trod_stays hl hr.1 hr.2 h1 (fun x hx=>?_) (fun x hx=>hs x (List.mem_append_left _ hx))
  have hb:=hg.block (hlt x (List.mem_append_left _ hx))
  cases x with
  | cell b o=>exact World.cell?_of_block (w:=W) hb
  | map b=>exact hb

theorem q0E {P:Program} {c:Ctr} (hok:c.ok P) (hheap:c.heap = []) (halts:∀ al ∈ c.alts,al.ret = .one (.vbool (.bl true))) {ρ:Env} (hg:ρ.good) (W:World)
  (hro:∀ x ∈ c.ro,x.roden ρ (fun b=>W.heap[b]?)) (hpre:c.pre ρ) :
  Calls P c.fn (c.args.map (SV.den ρ)).toArray W fun e W'=>e = .returned (.bool true)/\Grew W W':=by
 have h:=hok.2 ρ W ⟨fun b=>W.heap[b]?,W.os,W.output⟩ Hp.emp hg (Hp.disj_emp _)
  ⟨fun b o hb=>by simpa [Hp.union,Hp.emp] using hb,rfl,rfl⟩ (by rw [hheap]; trivial) hro hpre
 refine h.mono fun e w' hq=>?_
 obtain ⟨ai,al,ρ',hal,_,_,rfl,_,hO,_,_,hsub,hwi⟩:=hq
 refine ⟨by rw [halts al (List.mem_of_getElem? hal)]; rfl,⟨hwi.1,hwi.2,fun b o hb=>hsub b o ?_⟩⟩
 simp [Hp.union,hb]

theorem q27 {H:Type} {enc:TypeId × Value->H} {P:Program} {f:Func} {s:ChangeSpec} {W W':World} {args:Array Value} {ds gs:List (DataW H)} {before:List MemPlace} {bt:TypeId}
  (hl:laidOutB P = true) (hT:∀ t ∈ f.params.toList,P.readableRec t = true/\t < P.types.size) (hvars:s.vars = []) (hrt:f.resultTypes = #[bt]) (hbt:P.underlying bt = some .bool)
  (hfn:∀ ds':List (DataW H),ds'.length = f.params.size->s.fn H ds' = { results:=[.lit (.bool true)],args:=ds' })
  (hW:DataW.Whole enc P f.params.toList s.vars false W args.toList ds gs before) (hg:Grew W W'):s.post enc P f false true false false W args (.bool true) W':=by
 have hlt:=hW.lt
 have hW0:=hW
 obtain ⟨p,q,hA,hV,hpq,hz,hn⟩:=hW
 rw [hvars] at hV
 obtain ⟨rfl,rfl⟩:=trodVars_none hV
 have hlen:ds.length = f.params.size:=by
  have:∀ {ts:List TypeId} {vs:List Value} {ds:List (DataW H)} {ps:List MemPlace},DataW.TrodAll enc P W 0 (fun _=>true) true ts vs ds ps->ds.length = ts.length:=by
   intro ts
   induction ts with
   | nil=>intro vs ds ps h; cases vs <;> cases ds <;> simp_all [DataW.TrodAll]
   | cons t ts ih =>
    intro vs ds ps h
    cases vs <;> cases ds <;> simp_all [DataW.TrodAll]
    obtain ⟨p,q,_,h2,_⟩:=h
    exact ih h2
  simpa using this hA
 have hlt':∀ x ∈ p,x.block < W.heap.size:=fun x hx=>hlt x (by rw [hpq]; exact List.mem_append_left _ hx)
 refine ⟨ds,[],before,[],p,[],hW0,?_,?_,?_,hg.kept _,fun h=>by cases h⟩
 ·rw [List.append_nil,hfn ds hlen,hrt]
  exact ⟨[],[],⟨1,by simp [DataW.trod,hbt,Value.cells]⟩,rfl,rfl⟩
 ·rw [List.append_nil,hfn ds hlen]
  exact hg.trodAll hl hT hA hlt' (fun x hx=>by simpa using hlt' x hx)
 ·rw [List.append_nil,hfn ds hlen,hvars]
  rfl

theorem q2S {H:Type} {enc:TypeId × Value->H} {P:Program} {f:Func} {s:ChangeSpec} {c:Ctr} {W:World} {args:Array Value} {ds gs:List (DataW H)} {before:List MemPlace} {bt:TypeId} {ρ:Env}
  (hok:c.ok P) (hheap:c.heap = []) (halts:∀ al ∈ c.alts,al.ret = .one (.vbool (.bl true)))
  (hl:laidOutB P = true) (hT:∀ t ∈ f.params.toList,P.readableRec t = true/\t < P.types.size) (hvars:s.vars = []) (hrt:f.resultTypes = #[bt]) (hbt:P.underlying bt = some .bool)
  (hfn:∀ ds':List (DataW H),ds'.length = f.params.size->s.fn H ds' = { results:=[.lit (.bool true)],args:=ds' })
  (hW:DataW.Whole enc P f.params.toList s.vars false W args.toList ds gs before)
  (hg:ρ.good) (hargs:args = (c.args.map (SV.den ρ)).toArray) (hro:∀ x ∈ c.ro,x.roden ρ (fun b=>W.heap[b]?)) (hpre:c.pre ρ) :
  Calls P c.fn args W fun e W'=>∃ v,e = .returned v/\s.post enc P f false true false false W args v W':=by
 rw [hargs]
 refine (q0E hok hheap halts hg W hro hpre).mono fun e W' ⟨he,hgr⟩=>⟨_,he,?_⟩
 rw [<- hargs]
 exact q27 hl hT hvars hrt hbt hfn hW hgr
end Go.Eng

set_option linter.unusedSimpArgs false
set_option linter.unusedVariables false
namespace Go.Eng
open Go Go.ChangeShapes Go.WideShapes Go.ChangeAt Go.RowKit

def qoV (P:Program) (f:TypeId->Option (List CK)):List Field->Nat->Option (List CK)
 | [],_=>some []
 | x :: fs,off =>
  if Nat.beq x.offset off then
   match f x.type with
   | some p=>if Nat.beq p.length (P.cellsOf x.type) then (qoV P f fs (off + p.length)).map (p ++ ·) else none
   | none=>none
  else none
def qlf (p:List CK):Nat->List CK
 | 0=>[]
 | n + 1=>p ++ qlf p n
def qiN (P:Program):Nat->TypeId->Option (List CK)
 | 0,_=>none
 | n + 1,t =>
  match P.underlying t with
  | some (.int k)=>some [.int k]
  | some .bool=>some [.bool]
  | some .string=>some [.any]
  | some (.slice _)=>some [.any]
  | some (.pointer _)=>some [.any]
  | some (.struct fs)=>match qoV P (qiN P n) fs.toList 0 with
   | some p=>if Nat.beq p.length (P.cellsOf t) then some p else none
   | none=>none
  | some (.array m e)=>match qiN P n e with
   | some p=>if Nat.beq p.length (P.cellsOf e) && Nat.beq (P.cellsOf t) (m * P.cellsOf e) then some (qlf p m) else none
   | none=>none
  | _=>none

theorem qja {p q:List CK} {cs:List Value} (h1:qr p (cs.take p.length)) (h2:qr q (cs.drop p.length)):qr (p ++ q) cs:=by
 obtain ⟨a1,a2⟩:=h1
 obtain ⟨b1,b2⟩:=h2
 have hle:p.length <= cs.length:=by simp at a1; omega
 refine ⟨by simp at a1 b1 ⊢; omega,fun c k v hk hv=>?_⟩
 by_cases hc:c < p.length
 ·rw [List.getElem?_append_left hc] at hk
  exact a2 c k v hk (by rw [List.getElem?_take,if_pos hc]; exact hv)
 ·rw [List.getElem?_append_right (by omega)] at hk
  exact b2 (c - p.length) k v hk (by rw [List.getElem?_drop,show p.length + (c - p.length) = c by omega]; exact hv)

section
variable {H:Type} {enc:TypeId × Value->H} {P:Program} {w:World} {base:Nat} {spare:Nat->Bool} {held:Bool}

theorem qfw {v:Value} (h:v.oneCell' = true):qr [.any] [v]:=⟨rfl,fun c k v' hk hv=>by
 cases c with
 | zero=>simp at hk hv; subst hk; subst hv; exact h
 | succ c=>simp at hk⟩

theorem qp3 {f:TypeId->Option (List CK)} {cs:List Value} (hf:∀ t p,f t = some p->∀ cs',(∃ fuel x,DataW.trod enc P w base spare held fuel t cs' = some x)->qr p cs') :
  ∀ {fs:List Field} {off:Nat} {p:List CK},qoV P f fs off = some p->(∀ x ∈ fs,∃ fuel y,DataW.trod enc P w base spare held fuel x.type ((cs.drop x.offset).take (P.cellsOf x.type)) = some y)->off + p.length = cs.length->qr p (cs.drop off)
 | [],off,p,h,_,hl=>by
  simp only [qoV,Option.some.injEq] at h; subst h
  simp at hl
  refine ⟨by simp; omega,fun c k v hk=>by simp at hk⟩
 | x :: fs,off,p,h,ht,hl=>by
  simp only [qoV] at h
  split at h
  ·rename_i ho
   have ho:=Nat.eq_of_beq_eq_true ho
   split at h
   ·rename_i p1 hp1
    split at h
    ·rename_i hc
     have hc:=Nat.eq_of_beq_eq_true hc
     simp only [Option.map_eq_some_iff] at h
     obtain ⟨p2,hp2,rfl⟩:=h
     simp only [List.length_append] at hl
     have h1:=hf x.type p1 hp1 _ (ht x (List.mem_cons_self ..))
     rw [ho,<- hc] at h1
     have h2:=qp3 hf hp2 (fun y hy=>ht y (List.mem_cons_of_mem _ hy)) (by omega)
     exact qja h1 (by rw [List.drop_drop]; exact h2)
    ·simp at h
   ·simp at h
  ·simp at h

theorem qmx {p:List CK}:∀ {m:Nat} {cs:List Value},cs.length = m * p.length->(∀ i,i < m->qr p ((cs.drop (i * p.length)).take p.length))->qr (qlf p m) cs
 | 0,cs,hl,_=>by
  simp at hl; subst hl
  exact ⟨rfl,fun c k v hk=>by simp [qlf] at hk⟩
 | m + 1,cs,hl,h=>by
  simp only [qlf]
  refine qja (by simpa using h 0 (by omega)) (qmx (by rw [List.length_drop,hl,Nat.add_mul]; omega) fun i hi=>?_)
  rw [List.drop_drop,show p.length + i * p.length = (i + 1) * p.length by rw [Nat.add_mul]; omega]
  exact h (i + 1) (by omega)

theorem qlJ:∀ (n:Nat) {t:TypeId} {pat:List CK},qiN P n t = some pat->∀ cs,(∃ fuel x,DataW.trod enc P w base spare held fuel t cs = some x)->qr pat cs
 | 0,t,pat,h,_,_=>by simp [qiN] at h
 | n + 1,t,pat,h,cs,⟨fuel,x,hx⟩=>by
  simp only [qiN] at h
  split at h
  ·rename_i k hu
   simp only [Option.some.injEq] at h; subst h
   obtain ⟨z,rfl,_,_⟩:=DataW.trod_int hu hx
   refine ⟨rfl,fun c k' v hk hv=>?_⟩
   cases c with
   | zero=>simp at hk hv; subst hk; subst hv; simp [CK.fits]
   | succ c=>simp at hk
  ·rename_i hu
   simp only [Option.some.injEq] at h; subst h
   cases fuel with
   | zero=>simp [DataW.trod] at hx
   | succ m =>
    unfold DataW.trod at hx
    rw [hu] at hx
    split at hx <;> simp_all
    refine ⟨rfl,fun c k' v hk hv=>?_⟩
    cases c with
    | zero=>simp at hk hv; subst hk; subst hv; simp [CK.fits]
    | succ c=>simp at hk
  ·rename_i hu
   simp only [Option.some.injEq] at h; subst h
   cases fuel with
   | zero=>simp [DataW.trod] at hx
   | succ m =>
    unfold DataW.trod at hx
    rw [hu] at hx
    split at hx <;> simp_all
    exact qfw rfl
  ·rename_i e hu
   simp only [Option.some.injEq] at h; subst h
   rcases DataW.trod_slice hu hx with ⟨rfl,_⟩ | ⟨a,len,cap,elems,rest,m,_,rfl,_⟩
   ·exact qfw rfl
   ·exact qfw rfl
  ·rename_i e hu
   simp only [Option.some.injEq] at h; subst h
   cases fuel with
   | zero=>simp [DataW.trod] at hx
   | succ m =>
    unfold DataW.trod at hx
    rw [hu] at hx
    split at hx <;> simp_all
    all_goals exact qfw rfl
  ·rename_i fs hu
   split at h
   ·rename_i p hp
    split at h
    ·rename_i hc
     have hc:=Nat.eq_of_beq_eq_true hc
     simp only [Option.some.injEq] at h; subst h
     obtain ⟨xs,m,_,_,hl,hxl,hall⟩:=DataW.trod_struct hu hx
     have:=qp3 (cs:=cs) (f:=qiN P n) (fun t p hp cs' hh=>qlJ n hp cs' hh) hp (fun y hy=>by
      obtain ⟨i,hi⟩:=List.getElem?_of_mem hy
      have hi':fs[i]? = some y:=by simpa using hi
      have h1:=hall i y hi'
      have hlt:i < xs.length:=by
       rw [hxl]; exact (Array.getElem?_eq_some_iff.1 hi').1
      exact ⟨m,xs[i],by rw [h1]; simp [hlt]⟩) (by omega)
     simpa using this
    ·simp at h
   ·simp at h
  ·rename_i m e hu
   split at h
   ·rename_i p hp
    split at h
    ·rename_i hc
     simp only [Bool.and_eq_true] at hc
     have hc1:=Nat.eq_of_beq_eq_true hc.1
     have hc2:=Nat.eq_of_beq_eq_true hc.2
     simp only [Option.some.injEq] at h; subst h
     obtain ⟨xs,k,_,_,hl,hxl,hall⟩:=DataW.trod_array hu hx
     refine qmx (by rw [hl,hc2,hc1]) fun i hi=>?_
     have h1:=hall i hi
     rw [<- hc1] at h1
     exact qlJ n hp _ ⟨k,xs[i]'(by omega),by rw [h1]; simp [hxl,hi]⟩
    ·simp at h
   ·simp at h
  ·simp at h

theorem qoB {a:Addr} {n:Nat} {cs:List Value} (h:w.cells? base a n = some cs):cs.length = n/\∀ i,i < n->w.cell? (a.add i) = cs[i]?:=by
 unfold World.cells? at h
 split at h
 ·exact ⟨by simpa using mapM_some_length h,fun i hi=>by simpa using mapM_some_get h i i (by simp [hi])⟩
 ·simp at h

theorem q0Y {t e:TypeId} {pat:List CK} {n:Nat} {v:Value} {d:DataW H} {ps:List MemPlace} (ht:P.underlying t = some (.slice e)) (hpat:qiN P n e = some pat) (hce:P.cellsOf e = pat.length) (hpos:0 < pat.length)
  {fuel:Nat} (hsp:∀ b,spare b = true) (hf:DataW.trod enc P w base spare held fuel t [v] = some (d,ps)) :
  ∃ rows:List (List Value),Rd (fun b=>w.heap[b]?) pat v rows/\(∀ row ∈ rows,∃ fuel x,DataW.trod enc P w base spare held fuel e row = some x) /\
   ((d = .nil/\rows = [])∨∃ elems sp,d = .slice elems sp/\elems.length = rows.length/\∀ (i:Nat) (row:List Value),rows[i]? = some row->∃ fuel x,DataW.trod enc P w base spare held fuel e row = some x/\elems[i]? = some x.1):=by
 rcases DataW.trod_slice ht hf with ⟨h1,h2⟩ | ⟨a,len,cap,elems,rest,m,_,h1,h2,hb,hlc,hcm,hel,hall,hrest,_⟩
 ·simp at h1 h2
  exact ⟨[],.inl ⟨_,h1,rfl⟩,by simp,.inl ⟨h2.1,rfl⟩⟩
 ·simp at h1 h2
  subst h1
  have hrow:∀ i,i < len->∃ cs x,w.cells? base (a.add (i * P.cellsOf e)) (P.cellsOf e) = some cs/\DataW.trod enc P w base spare held m e cs = some x/\elems[i]? = some x:=fun i hi=>by
   have:=hall i hi
   rw [List.getElem?_eq_getElem (by omega)] at this
   obtain ⟨cs,g1,g2⟩:=Option.bind_eq_some_iff.1 this
   exact ⟨cs,_,g1,g2,List.getElem?_eq_getElem _⟩
  let rows:List (List Value):=(List.range len).map fun i=>((w.cells? base (a.add (i * P.cellsOf e)) (P.cellsOf e)).getD [])
  have hget:∀ i row,rows[i]? = some row->i < len/\w.cells? base (a.add (i * P.cellsOf e)) (P.cellsOf e) = some row:=fun i row hr=>by
   simp only [rows,List.getElem?_map,Option.map_eq_some_iff] at hr
   obtain ⟨j,hj,rfl⟩:=hr
   have hlt:i < len:=by
    have:=(List.getElem?_eq_some_iff.1 hj).1; simpa using this
   rw [List.getElem?_range hlt] at hj
   simp only [Option.some.injEq] at hj; subst hj
   obtain ⟨cs,x,g1,_,_⟩:=hrow i hlt
   exact ⟨hlt,by rw [g1]; rfl⟩
  have hrl:rows.length = len:=by simp [rows]
  have htr:∀ row ∈ rows,∃ fuel x,DataW.trod enc P w base spare held fuel e row = some x:=fun row hr=>by
   obtain ⟨i,hi⟩:=List.getElem?_of_mem hr
   obtain ⟨hlt,hc⟩:=hget i row hi
   obtain ⟨cs,x,g1,g2,_⟩:=hrow i hlt
   rw [hc] at g1
   simp only [Option.some.injEq] at g1; subst g1
   exact ⟨m,x,g2⟩
  refine ⟨rows,?_,htr,.inr ⟨_,_,h2.1,by simp [hel,hrl],fun i row hi=>?_⟩⟩
  rotate_left
  ·obtain ⟨hlt,hc⟩:=hget i row hi
   obtain ⟨cs,x,g1,g2,g3⟩:=hrow i hlt
   rw [hc] at g1
   simp only [Option.some.injEq] at g1; subst g1
   exact ⟨m,x,g2,by simp [g3]⟩
  by_cases hcap:cap = 0
  ·have hl0:len = 0:=by omega
   have:rows = []:=by apply List.eq_nil_of_length_eq_zero; omega
   exact .inl ⟨some a,by rw [hl0,hcap],this⟩
  have hfirst:∃ cs,w.cells? base (a.add 0) (P.cellsOf e) = some cs:=by
   by_cases hl:0 < len
   ·obtain ⟨cs,_,g1,_,_⟩:=hrow 0 hl
    rw [Nat.zero_mul] at g1
    exact ⟨cs,g1⟩
   ·obtain ⟨r1,r2⟩:=hrest (hsp _)
    have:=r2 0 (by omega)
    rw [show (len + 0) * P.cellsOf e = 0 by rw [show len + 0 = 0 by omega]; simp,List.getElem?_eq_getElem (by omega)] at this
    obtain ⟨cs,g1,_⟩:=Option.bind_eq_some_iff.1 this
    exact ⟨cs,g1⟩
  obtain ⟨cs0,hc0⟩:=hfirst
  obtain ⟨hl0,hg0⟩:=qoB hc0
  have h00:=hg0 0 (by omega)
  rw [show (a.add 0).add 0 = a from rfl,List.getElem?_eq_getElem (by omega)] at h00
  obtain ⟨ab,ao,asp⟩:=a
  have hblk0:=h00
  unfold World.cell? at hblk0
  split at hblk0
  ·rename_i c ty fr hblk
   simp only at hblk
   have hsp0:asp = none:=by
    cases asp with
    | none=>rfl
    | some s=>simp at hblk0
   subst hsp0
   refine .inr ⟨ab,ao,cap,c,ty,fr,by rw [hrl],by omega,hblk,fun i row hi=>?_⟩
   obtain ⟨hlt,hc⟩:=hget i row hi
   refine ⟨qlJ n hpat row (htr row (List.mem_of_getElem? hi)),fun k x hk=>?_⟩
   obtain ⟨hl1,hg⟩:=qoB hc
   have hkl:k < P.cellsOf e:=by
    rw [<- hl1]; exact (List.getElem?_eq_some_iff.1 hk).1
   have:=hg k hkl
   rw [hk,hce] at this
   rw [Go.Eng.addr_add,Go.Eng.addr_add,qaM hblk] at this
   exact this
  ·simp at hblk0
end

end Go.Eng

set_option linter.unusedSimpArgs false
set_option linter.unusedVariables false
namespace Go.Eng
open Go Go.Proofs
def qje:Ctr:={ qgp with pre:=fun ρ=>qgp.pre ρ/\qbd (ρ 2).i (ρ 3).i (ρ 4).i = true/\(ρ 6).i <= 8192,alts:=[{ k:=9,ret:=.tup [(true,qiJ 2 3 4 6 12 13 4 14),(false,[.vslice 15 (.lit 0) (.var 4) (.var 16) 2]),qcD (.lit 0)],heap:=[fHp 17,qf2 13 18 14,.arr 15 86 qjh (.var 19) (.var 16),.abs 20 10],post:=fun ρ=>qv (ρ 17).d/\qbd (ρ 2).i (ρ 3).i (ρ 4).i = true/\(ρ 6).i <= 8192/\(ρ 19).d.length = (ρ 4).i.toNat/\qf4 (ρ 20).h (ρ 19).d (ρ 4).i.toNat (qd4 (ρ 2).i.toNat (ρ 4).i.toNat (bI (ρ 8).d))/\qf (ρ 12).d 32 = sha (bI (ρ 8).d)/\qf3 (ρ 18).d/\dgs (ρ 18).d = qdo (qd4 (ρ 2).i.toNat (ρ 4).i.toNat (bI (ρ 8).d)) (ρ 4).i.toNat }] }
end Go.Eng

set_option linter.unusedSimpArgs false
set_option linter.unusedVariables false
set_option maxRecDepth 100000
namespace Go.Proofs
open Go Go.Eng

end Go.Proofs

set_option linter.unusedSimpArgs false
set_option linter.unusedVariables false
namespace Go.Proofs
open Go Go.Eng
section
variable {k total:Nat} {data:List Int}
end
section
variable {h:Hp} {P:qd} {k n t s l:Int} {data:List Int} {G:qd}
theorem q3S {f:Nat->List Int} {m:Nat} {x:Int} (x0:0 <= x) (x1:x < m):(qdo f m).getD x.toNat [] = sha (qbV x ++ f x.toNat):=by
 unfold qdo
 rw [List.getD_eq_getElem?_getD,List.getElem?_map,List.getElem?_range (by omega)]
 simp only [Option.map_some,Option.getD_some]
 rw [Int.toNat_of_nonneg x0]
theorem q3X {x:Int} {m:List Int} (hM:qF k n t s l = true) (hb:qx data) (hsz:s = data.length) (hG:dgs G = qdo (qd4 k.toNat t.toNat data) t.toNat) (x0:0 <= x) (x1:x < t) (hm:m = qd4 k.toNat t.toNat data x.toNat):qbY k n t s l (dgs G) x m = 0:=by
 obtain ⟨k1,k2,k3,k4,s0,s1,htl⟩:=q0K.1 hM
 have hl:(m.length:Int) = qep k s:=by
  rw [hm,(q0R (by omega) (by omega) (by omega) hb _).1,q4j k1 s0,hsz]
  unfold plI
  simp
 have hS:sha (qbV x ++ m) = (dgs G).getD x.toNat []:=by rw [hm,hG,q3S x0 (by omega)]
 rw [qbY,if_neg (by rw [hM]; decide),if_neg (by omega),if_neg (fun h=>h hl),if_neg (fun h=>h hS)]
end
section
variable {h h':Hp} {D S L:qd} {n i:Nat} {t:Int} {f:Nat->List Int}
end
section
variable {h h0:Hp} {P P0 G R:qd} {k n t s l x e y m:Int} {data O:List Int} {N N':Nat}
end
section
variable {h h':Hp} {S L:qd} {i n j i':Int} {t:Int} {f:Nat->List Int}
end
section
variable {h h0:Hp} {D D0 G:qd} {T:Nat} {t:Int} {f:Nat->List Int} {N N' M:Nat}
end
end Go.Proofs

set_option linter.unusedSimpArgs false
set_option linter.unusedVariables false
namespace Go.Proofs
open Go Go.Eng
theorem q3K:qje.ok Tryz.prog:=by
 refine ⟨qxs.1,fun ρ w hF hO hg hd hw hs hro hp=>?_⟩
 obtain ⟨hp,hs3,h8⟩:=hp
 refine (qxs.2 ρ w hF hO hg hd hw hs hro hp).mono fun e w' h=>?_
 obtain ⟨ai,al,ρ',h1,h2,hρ,h4,hpost,h6⟩:=h
 match ai,h1 with
 | 0,h1 =>
  obtain rfl:=(Option.some.inj h1).symm
  exfalso
  have e2:=hρ 2 (by decide)
  have e3:=hρ 3 (by decide)
  have e4:=hρ 4 (by decide)
  have e6:=hρ 6 (by decide)
  obtain ⟨_,⟨h1,_⟩ | ⟨_,h1,_⟩⟩:=hpost
  ·change qbd (ρ' 2).i (ρ' 3).i (ρ' 4).i = false at h1
   rw [e2,e3,e4,hs3] at h1; cases h1
  ·change 8192 < (ρ' 6).i at h1
   rw [e6] at h1; omega
 | 1,h1 =>
  obtain rfl:=(Option.some.inj h1).symm
  exact ⟨0,_,ρ',rfl,h2,hρ,h4,hpost,h6⟩
 | ai + 2,h1=>simp [qgp] at h1
set_option maxRecDepth 20000
end Go.Proofs

set_option linter.unusedSimpArgs false
set_option linter.unusedVariables false
namespace Go.Eng
open Go Go.Proofs
def qu (d:qd):List Int:=d.map fun row=>qbD row 0
def qpG:List CK:=List.replicate 16 .bool
def b16 (n:Nat):SV:=.agg ((List.range 16).map fun i=>.c1 .vbool (.var (n + i)))
def qoo (x:Int):Bool:=decide (0 <= x/\x < 16)
def qcl:Ctr:={ fn := 100,nv:=1,args:=[iv .i64 (.var 0)],heap:=[],ro:=[],pre:=fun _=>True,alts:=[{ k:=1,ret:=.one (.vbool (.var 1)),heap:=[],post:=fun ρ=>(ρ 1).b = qoo (ρ 0).i }] }
def qco (r:Nat):SH:=iHp r (r + 3) (r + 4)
def qbf (ρ:Env) (r:Nat):Prop:=(ρ (r + 1)).i = (ρ (r + 3)).d.length/\(ρ (r + 1)).i <= 1000000000000/\∀ row ∈ (ρ (r + 3)).d,row.length = 1
def qeJ (l:List Bool) (L:List Int):Prop:=l.length = 16/\∀ j:Nat,j < 16->(l.getD j false = true↔(j:Int) ∈ L)
def qc8:Ctr:={ fn := 82,nv:=5,args:=[bS 0],heap:=[],ro:=[qco 0],pre:=fun ρ=>qbf ρ 0,alts:=[
 { k:=16,ret:=b16 5,heap:=[],post:=fun ρ=>qeJ [(ρ 5).b,(ρ 6).b,(ρ 7).b,(ρ 8).b,(ρ 9).b,(ρ 10).b,(ρ 11).b,(ρ 12).b,(ρ 13).b,(ρ 14).b,(ρ 15).b,(ρ 16).b,(ρ 17).b,(ρ 18).b,(ρ 19).b,(ρ 20).b] (qu (ρ 3).d) }] }
def qdn (s:qd) (l:List Int) (n:Nat):Prop:=(∃ row,s = [row]/\row.length = 16)/\∀ x:Int,0 <= x->x < 16->(qaN s x.toNat = true↔x ∈ l.take n)
def qpO:Inv:={ key:=2,nv:=3,env:=[(2,.one (.vptr 1000 (.lit 0) 16 0)),(5,bS 0),(6,iv .i64 (.var 1)),(7,iv .i64 (.var 1002))],heap:=[.arr 1000 157 qpG (.var 1001) (.lit 1)],inv:=(fun ρ=>0 <= (ρ 1002).i/\(ρ 1002).i <= (ρ 1).i/\qdn (ρ 1001).d (qu (ρ 3).d) (ρ 1002).i.toNat),mu:=(fun ρ=>((ρ 1).i - (ρ 1002).i).toNat) }
def qN (o:List Int) (p:Int):List Int:=sha (o ++ [p % 256])
def qcj:Ctr:={ fn := 24,nv:=4,ip:=[gIp 2,(1005,9)],args:=[dgV 0,iv .i64 (.var 1)],heap:=[],ro:=[gHp 2 3],pre:=fun ρ=>qS (qf (ρ 0).d 32)/\gOk ρ 2 3 gR,alts:=[
 { k:=1,ret:=dgV 4,heap:=[],post:=fun ρ=>qf (ρ 4).d 32 = qN (qf (ρ 0).d 32) (ρ 1).i }] }
def rkV (p d:Nat):SV:=.agg (.vint .i64 (.var p) :: qaY .u8 d 32)
def qd8:Ctr:={ fn := 80,nv:=4,ip:=[gIp 2],args:=[dgV 0,iv .i64 (.var 1)],heap:=[],ro:=[gHp 2 3],pre:=fun ρ=>qS (qf (ρ 0).d 32)/\gOk ρ 2 3 gR,alts:=[
 { k:=2,ret:=.agg (.vint .i64 (.var 1) :: qaY .u8 4 32),heap:=[],post:=fun ρ=>qf (ρ 4).d 32 = qN (qf (ρ 0).d 32) (ρ 1).i }] }
def qbw:List Int->List Int->Int
 | [],[]=>0
 | [],_ :: _=>-1
 | _ :: _,[]=>1
 | a :: l,b :: m=>if a < b then -1 else if b < a then 1 else qbw l m
def kRk:List CK:=.int .i64 :: List.replicate 32 (.int .u8)
def qj0:Ctr:={ fn := 118,nv:=4,args:=[.one (.vslice 0 (.lit 1) (.lit 32) (.lit 32) 1),.one (.vslice 1 (.lit 1) (.lit 32) (.lit 32) 1)],heap:=[],ro:=[.arr 0 153 kRk (.var 2) (.lit 1),.arr 1 153 kRk (.var 3) (.lit 1)],pre:=fun ρ=>qal (ρ 2).d 33/\qal (ρ 3).d 33/\qS ((qf (ρ 2).d 33).drop 1)/\qS ((qf (ρ 3).d 33).drop 1),alts:=[
 { k:=1,ret:=iv .i64 (.var 4),heap:=[],post:=fun ρ=>(ρ 4).i = qbw ((qf (ρ 2).d 33).drop 1) ((qf (ρ 3).d 33).drop 1) }] }
def qcA:Ctr:={ fn := 81,nv:=4,args:=[rkV 0 1,rkV 2 3],heap:=[],ro:=[],pre:=fun ρ=>qS (qf (ρ 1).d 32)/\qS (qf (ρ 3).d 32),alts:=[
 { k:=1,ret:=iv .i64 (.var 4),heap:=[],post:=fun ρ=>(ρ 4).i = if qbw (qf (ρ 1).d 32) (qf (ρ 3).d 32) = 0 then qc .sub .i64 (ρ 0).i (ρ 2).i else qbw (qf (ρ 1).d 32) (qf (ρ 3).d 32) }] }
def qI (o:List Int) (a b:Int):Bool:=if qN o a = qN o b then decide (a < b) else decide (qbw (qN o a) (qN o b) < 0)
def qaH:Ctr:={ fn := 26,nv:=5,ip:=[gIp 3],args:=[dgV 0,iv .i64 (.var 1),iv .i64 (.var 2)],heap:=[],ro:=[gHp 3 4],pre:=fun ρ=>qS (qf (ρ 0).d 32)/\gOk ρ 3 4 gR,alts:=[
 { k:=1,ret:=.one (.vbool (.var 5)),heap:=[],post:=fun ρ=>(ρ 5).b = qI (qf (ρ 0).d 32) (ρ 1).i (ρ 2).i }] }
end Go.Eng
