/- Texts ZW, ZX, DS, DT, BT, BU, BV, BW, BX, BY, CA, CB, CC, CD, CE, CF, CG, CH, CI, CK, YA, CL, CM, ZLq, YF, W1, W2, W3, WD, CN, CO, YB, ZSq, YC, CP, W4, WC, YD, YE, YG, YK, W5, W6, YM, YR, CQ, CR, YS, W7, YU, YV, YW, CS, W9, V3, VT, VZ, VW, CT, CW, V4, VM, VU, WF, VV, WA, WE, VX, VY, WG, WH, WI, WN, CV, CX, WO, WQ, CY, E13, E14, FD, FE, FF, FG, PF, PH, PL, PO, PR, PS. -/
import Derived.Test.YtelcnkclppkicaaGreatDoorG6
import Derived.Test.YtelcnkclppkicaaGreatDoorG4
import Derived.Test.YtelcnkclppkicaaGreatDoorG5
import Derived.Test.YtelcnkclppkicaaGreatDoorProg
import Derived.WalkKit
import Derived.ProofKit
import Derived.OpenShut
import Derived.Carry
import Derived.SizedLaws
set_option linter.unusedSimpArgs false
set_option linter.unusedVariables false
namespace Go.Proofs
open Go Go.Eng

theorem q53:qp0.ok Tryz.prog:=Ctr.ok_less q33 rfl rfl rfl rfl rfl (fun _ h=>h.1) fun ρ ρ' ai al hp hag hal hpost=>by
 match ai,hal with
 | 0,hal =>
  exfalso
  obtain rfl:=Option.some.inj hal
  obtain ⟨_,h2⟩:_/\(qa5 ((ρ'.upto 5) 2).i ((ρ'.upto 5) 3).i = true->(qcl ((ρ'.upto 5) 2).i.toNat ((ρ'.upto 5) 3).i.toNat).2.2 < ((ρ'.upto 5) 2).i.toNat):=hpost
  have e2:(ρ'.upto 5) 2 = ρ 2:=by rw [Env.upto,if_pos (by omega)]; exact hag 2 (by decide)
  have e3:(ρ'.upto 5) 3 = ρ 3:=by rw [Env.upto,if_pos (by omega)]; exact hag 3 (by decide)
  rw [e2,e3] at h2
  obtain ⟨_,p2,p3⟩:=hp
  have:=h2 p2
  omega
 | 1,hal=>exact ⟨0,hal⟩
 | n + 2,hal=>cases hal
theorem qm5 {k n:Nat} (hk:0 < k):n <= k * qD k n:=by
 unfold qD
 have h1:=Nat.div_add_mod (n + k - 1) k
 have h2:=Nat.mod_lt (n + k - 1) hk
 omega
theorem qne {k n:Nat} (hk:0 < k):k * qD k n < n + k:=by
 unfold qD
 have h1:=Nat.div_add_mod (n + k - 1) k
 omega
theorem qm4 {k n:Nat} (hk:0 < k):qD k n <= n:=by
 have h:=qne (n:=n) hk
 by_cases h2:qD k n <= n
 ·exact h2
 ·have h3:k * (n + 1) <= k * qD k n:=Nat.mul_le_mul_left k (by omega)
  rw [Nat.mul_add,Nat.mul_one] at h3
  have h4:n * 1 <= k * n:=by rw [Nat.mul_comm k n]; exact Nat.mul_le_mul_left n hk
  omega
theorem qso {k:Int} {n:Nat} (hk:1 <= k):((n:Int) + k - 1).tdiv k = (qD k.toNat n:Nat):=by
 rw [Int.tdiv_eq_ediv_of_nonneg (by omega),qD,Int.natCast_ediv]
 congr 1 <;> omega
theorem q16 {d x:qf} (h:x.length <= d.length):bI (qb4 d 0 x) = bI x ++ (bI d).drop x.length:=by
 simp [qb4,bI,List.map_drop]
theorem qwc {d x:qf} (hd:q9 d) (hx:q9 x):q9 (qb4 d 0 x):=fun r hr=>by
 unfold qb4 at hr
 rcases List.mem_append.1 hr with hr | hr
 ·rcases List.mem_append.1 hr with hr | hr
  ·simp at hr
  ·exact hx r hr
 ·exact hd r (List.mem_of_mem_drop hr)
theorem q0b {k total len lg cg:Int} {f dg data D:qf} (hf:qv f) (hs:qa5 k total = true) (h1:len <= 8192) (h2:len = data.length) (hB:q9 data) (hM:qO total k lg cg dg) (hG:bI dg = qcY k.toNat total.toNat) (hD:D = List.replicate total.toNat [.int .i64 0,.slice none 0 0]) :
  qn0 k total len (qD k.toNat data.length:Nat) (k * (qD k.toNat data.length:Nat)) (k * (qD k.toNat data.length:Nat)) lg cg 0 f dg (qb4 (List.replicate (k * (qD k.toNat data.length:Nat)).toNat [.int .u8 0]) 0 data) D data:=by
 obtain ⟨k1,k2,k3⟩:=qjF.1 hs
 have hge:=qm5 (k:=k.toNat) (n:=data.length) (by omega)
 have hle:=qm4 (k:=k.toNat) (n:=data.length) (by omega)
 have hc:(k * (qD k.toNat data.length:Nat)).toNat = k.toNat * qD k.toNat data.length:=by rw [Int.toNat_mul (by omega) (by omega)]; simp
 have hc0:0 <= k * (qD k.toNat data.length:Nat):=Int.mul_nonneg (by omega) (by omega)
 refine ⟨hf,hs,h1,h2,hB,rfl,by omega,rfl,?_,qwc qhI hB,?_,hM,hG,by rw [hD,List.length_replicate],fun row hr=>by rw [hD] at hr; rw [List.eq_of_mem_replicate hr]; rfl,by omega,by omega⟩
 ·rw [qmW (by rw [List.length_replicate]; omega),List.length_replicate]; omega
 ·rw [q16 (by rw [List.length_replicate]; omega),qmb,hc,qim,bI_len,List.drop_replicate]; simp
theorem q1U {k total len l lf cf lg cg i:Int} {f dg df D data:qf} {v w:Value} (h:qn0 k total len l lf cf lg cg i f dg df D data) (hi:i < total):qn0 k total len l lf cf lg cg (i + 1) f dg df (qcr D i 0 [v,w]) data:=by
 obtain ⟨a1,a2,a3,a4,a5,a6,a7,a8,a9,a10,a11,a12,a13,a14,a17,a15,a16⟩:=h
 refine ⟨a1,a2,a3,a4,a5,a6,a7,a8,a9,a10,a11,a12,a13,by rw [qfc]; exact a14,fun row hr=>?_,by omega,by omega⟩
 unfold qcr at hr
 rcases List.mem_or_eq_of_mem_set hr with hr | rfl
 ·exact a17 row hr
 ·have hl:i.toNat < D.length:=by omega
  have:=a17 _ (List.getElem_mem hl)
  rw [List.getElem?_eq_getElem hl,Option.getD_some,qk6 (by rw [this]; simp),this]
theorem q6Z {k total len l lf cf lg cg i:Int} {f f' dg df D data:qf} (h:qn0 k total len l lf cf lg cg i f dg df D data) (hf:qv f'):qn0 k total len l lf cf lg cg i f' dg df D data:=⟨hf,h.2⟩
theorem qkc {h h':Hp} {D:qf} {n:Nat} {f:Nat->List Int} (he:qf6 h D n f) (hl:Hp.le h h'):qf6 h' D n f:=fun j hj=>by
 obtain ⟨v,d,e1,e2,e3⟩:=he j hj
 exact ⟨v,d,e1,qjg e2 hl,e3⟩
theorem qzh {h h':Hp} {D:qf} {i:Int} {f:Nat->List Int} {v:Value} {d:qf} (he:qf6 h D i.toNat f) (hl:Hp.le h h') (h0:0 <= i) (hi:i.toNat < D.length) (hc:(D[i.toNat]?.getD []).length = 2) (hr:Rd h' kB v d) (hd:bI d = f i.toNat) (hB:q9 d) :
  qf6 h' (qcr D i 0 [.int .i64 i,v]) (i.toNat + 1) f:=fun j hj=>by
 by_cases hji:j = i.toNat
 ·subst hji
  refine ⟨v,d,?_,hr,hd,hB⟩
  have hs:qa2 (D[i.toNat]?.getD []) 0 [.int .i64 i,v] = [.int .i64 i,v]:=by
   simp only [qa2,List.take_zero,List.nil_append]
   rw [List.drop_eq_nil_of_le (by rw [hc]; exact Nat.le_refl _),List.append_nil]
  rw [qcr,List.getElem?_set_self hi,hs,Int.toNat_of_nonneg h0]
 ·obtain ⟨v',d',e1,e2,e3⟩:=he j (by omega)
  exact ⟨v',d',by rw [qcr,List.getElem?_set_ne (by omega)]; exact e1,qjg e2 hl,e3⟩
set_option maxRecDepth 20000 in
set_option pp.deepTerms true in
set_option pp.maxSteps 1000000 in
theorem qvW:qbY.ok Tryz.prog:=qwo (by simp [qoQ,qpx,q53,qnl,qnK]) fun ρ hg hp=>by
 obtain ⟨hf,hl,hB,hrk⟩:=hp
 have hne:=(qca hf).1
 simp (config:={ maxSteps:=4000000 }) [qj8,qbY,qkR,qkO,qbk,qbh,qp0,qf1,qbw,qbv]
 refine ⟨fun h=>(hne h).elim,fun _ v _ hv=>⟨fun hb=>⟨hf,by rw [<- hv]; exact hb⟩,fun hb=>?_⟩⟩
 have hsz:qa5 (ρ 2).i (ρ 3).i = true:=by rw [<- hv]; exact hb
 obtain ⟨k1,k2,k3⟩:=qjF.1 hsz
 refine ⟨by omega,fun h=>⟨hf,hsz,h⟩,fun hle l _ e _ _ hpl=>?_⟩
 have hnb:¬ qff (ρ 2).i (ρ 5).i:=by unfold qff; omega
 obtain ⟨hpl1,_⟩:=hpl hnb
 rw [hl,qso k1] at hpl1
 have hge:=qm5 (k:=(ρ 2).i.toNat) (n:=(ρ 7).d.length) (by omega)
 have hlt:=qne (k:=(ρ 2).i.toNat) (n:=(ρ 7).d.length) (by omega)
 have hkl:(ρ 2).i * l.i = (((ρ 2).i.toNat * qD (ρ 2).i.toNat (ρ 7).d.length:Nat):Int):=by rw [hpl1,Int.natCast_mul,Int.toNat_of_nonneg (by omega)]
 rw [qcD (by omega) (by omega)]
 have hmax:max ((ρ 2).i * l.i) 0 = (ρ 2).i * l.i:=by omega
 refine ⟨by omega,by omega,fun u3 _=>⟨by omega,by omega,fun u4 _=>⟨⟨hf,hsz,hrk hsz⟩,fun u5 _ lg _ cg _ f1 _ dg _ ab _ hf1 _ hM _ hG u11 _=>⟨by omega,by omega,fun u12 _=>⟨⟨?_,fun j hj=>by omega⟩,?_⟩⟩⟩⟩⟩
 ·have htake:(((ρ 7).d.take (ρ 5).i.toNat).take (if (ρ 5).i < (ρ 2).i * l.i then (ρ 5).i else (ρ 2).i * l.i).toNat) = (ρ 7).d:=by
   rw [List.take_of_length_le (l:=(ρ 7).d) (by omega),List.take_of_length_le (by split <;> omega)]
  rw [htake,hpl1]
  exact q0b hf1 hsz hle hl hB hM hG rfl
 intro l2 _ u14 _ lf _ cf _ u17 _ u18 _ u19 _ i _ f2 _ u22 _ lg2 _ cg2 _ dg2 _ df2 _ D2 _ ab2 _ hW hE
 refine ⟨fun hi=>?_,fun hi u29 _ hst=>?_⟩
 ·have hW':=hW
  obtain ⟨a1,a2,a3,a4,a5,a6,a7,a8,a9,a10,a11,a12,a13,a14,a17,a15,a16⟩:=hW'
  refine ⟨by omega,by omega,fun u29 _=>⟨⟨a15,hi,a12.1⟩,fun o _ n _ c _ ho hn hc=>⟨by omega,⟨hW,hE,hi,ho,hn,by omega,qhI,?_⟩,?_⟩⟩⟩
  ·rw [qmb]; rfl
  intro l3 _ u34 _ lf3 _ cf3 _ u37 _ u38 _ u39 _ i3 _ f3 _ u42 _ lg3 _ cg3 _ dg3 _ df3 _ D3 _ ab3 _ rp _ cp _ pd _ o3 _ n3 _ c3 _ j _ hW3 hE3 hii hi3 ho3 hn3 j0 j1 hpl hpB hp3
  have hW3':=hW3
  obtain ⟨b1,b2,b3,b4,b5,b6,b7,b8,b9,b10,b11,b12,b13,b14,b17,b15,b16⟩:=hW3'
  obtain ⟨⟨m1,m2,m3,m4,m5,m6,m7,m8⟩,m9⟩:=b12
  have hl0:0 <= l3.i:=by omega
  refine ⟨fun hj=>?_,fun hj=>?_⟩
  ·have hjk:j.i < (ρ 2).i:=by omega
   have hbo:=qak (x:=i3.i) (y:=(ρ 2).i) b15 (show i3.i <= 255 by omega) (by omega) (show (ρ 2).i <= 255 by omega)
   have hbj:=qak (x:=j.i) (y:=l3.i) j0 (show j.i <= 255 by omega) hl0 b7
   have hltG:i3.i * (ρ 2).i + j.i < (ρ 3).i * (ρ 2).i:=by
    have:=Int.mul_le_mul_of_nonneg_right (show i3.i + 1 <= (ρ 3).i by omega) (show 0 <= (ρ 2).i by omega)
    rw [Int.add_mul,Int.one_mul] at this; omega
   have he:(j.i + 1) * l3.i = j.i * l3.i + l3.i:=by rw [Int.add_mul,Int.one_mul]
   have hltF:j.i * l3.i + l3.i <= (ρ 2).i * l3.i:=by
    have:=Int.mul_le_mul_of_nonneg_right (show j.i + 1 <= (ρ 2).i by omega) hl0
    omega
   have hcell:=qdg m8 (i:=o3.i + j.i) (by omega) (by omega)
   rw [add64 (by omega) (by omega),qcD (by omega) (by omega),qcD (by omega) (by omega),he]
   refine ⟨j0,by omega,by omega,by omega,fun hcap=>⟨by omega,by omega,hbj.1,by omega,by omega,⟨b1,⟨by omega,hl0,by omega,by unfold Go.Eng.big; omega⟩,⟨by split <;> omega,by omega,by split <;> omega,by unfold Go.Eng.big; omega⟩,by omega,hpB,b10,hcell⟩,fun f4 _ d4 _ hf4 hl4 hB4 he4=>?_⟩⟩
   refine ⟨⟨q6Z hW3 hf4,hE3,hii,hi3,ho3,hn3,by omega,by omega,by omega,hB4,?_⟩,by omega⟩
   have hsg:seg (bI df3.d) (if cf3.i = j.i * l3.i then 0 else j.i * l3.i).toNat (j.i * l3.i + l3.i - j.i * l3.i).toNat = seg (bI df3.d) (j.i.toNat * l3.i.toNat) l3.i.toNat:=by
    rw [show j.i * l3.i + l3.i - j.i * l3.i = l3.i by omega]
    split
    ·have:l3.i.toNat = 0:=by omega
     rw [this]; simp [seg]
    ·rw [Int.toNat_mul j0 hl0]
   have hgd:(bI dg3.d).getD (i3.i.toNat * (ρ 2).i.toNat + j.i.toNat) 0 = qi dg3.d (o3.i + j.i) 0:=by
    have:=qgO (d:=dg3.d) (i:=o3.i + j.i) (by omega) (by omega)
    rw [show (o3.i + j.i).toNat = i3.i.toNat * (ρ 2).i.toNat + j.i.toNat by rw [ho3,Int.toNat_add hbo.1 j0,Int.toNat_mul b15 (by omega)]] at this
    rw [List.getD_eq_getElem?_getD,this]; rfl
   rw [he4,hp3,hsg,show (j.i + 1).toNat = j.i.toNat + 1 by omega,qck,hgd]
  ·have hjk:j.i = (ρ 2).i:=by omega
   refine ⟨b15,hi3,by omega,fun u56 _ hst=>?_⟩
   rw [add64 (by omega) (by omega)]
   refine ⟨⟨q1U hW3 hi3,?_⟩,by omega⟩
   obtain ⟨ha,la,da⟩:=qkq hst (List.mem_cons_self ..)
   obtain ⟨hb,lb,db⟩:=qcq hst (n:=57) (t:=2) (by simp)
   have hr:=q2f (n:=l3.i.toNat) (k:=cp.i.toNat) da la (by simp; omega) (by simp)
   have hr:Rd u56.h kB (.slice (qm rp.r 0) l3.i.toNat cp.i.toNat) pd.d:=by simpa [kB] using hr
   have hdl:i3.i.toNat < D3.d.length:=by omega
   rw [show (i3.i + 1).toNat = i3.i.toNat + 1 by omega]
   refine qzh hE3 (Hp.le_trans (by simpa using db) lb) b15 hdl (by rw [List.getElem?_eq_getElem hdl]; exact b17 _ (List.getElem_mem hdl)) hr ?_ hpB
   rw [hp3,qdB,hjk,b13,b11,bI_len]
   rw [show l3.i.toNat = qD (ρ 2).i.toNat (ρ 7).d.length by omega]
 ·obtain ⟨a1,a2,a3,a4,a5,a6,a7,a8,a9,a10,a11,a12,a13,a14,a17,a15,a16⟩:=hW
  obtain ⟨hb,lb,db⟩:=qcq hst (n:=37) (t:=2) (by simp)
  refine ⟨a1,hsz,hle,a14,?_⟩
  rw [show i.i.toNat = (ρ 3).i.toNat by omega] at hE
  exact qkc hE (Hp.le_trans (by simpa using db) lb)
end Go.Proofs

set_option linter.unusedSimpArgs false
set_option linter.unusedVariables false
namespace Go.Proofs
open Go Go.Eng

end Go.Proofs

set_option linter.unusedSimpArgs false
set_option linter.unusedVariables false
namespace Go.Proofs
open Go Go.Eng
theorem qrp:qbK.ok Tryz.prog:=q0M (by simp) fun ρ hg hp=>by
 simp [qnn,qbK]
 refine ⟨fun h1=>⟨fun h2=>⟨fun h3=>?_,fun h3=>?_⟩,fun h2=>?_⟩,fun h1=>?_⟩
 ·simp [qbi,h1,h2,h3,qE]
 ·simp [qbi]; omega
 ·simp [qbi]; omega
 ·simp [qbi]; omega
set_option maxRecDepth 20000 in
theorem qrf:qbP.ok Tryz.prog:=qzZ (by simp [qrp]) fun ρ hg hp=>by
 have hp:0 <= (ρ 6).i:=hp
 simp [qni,qbP,qbK,qG,qn9,qiW,qaY]
 refine fun u _ hu=>⟨fun h hs=>by (rw [hu,hs] at h; cases h),fun h=>⟨fun a _ b=>by omega,fun a=>⟨fun b _ _ c=>by omega,fun b=>⟨hp,fun c _ _ _=>c,fun c=>⟨by rw [<- hu,h],a,b,c⟩⟩⟩⟩⟩
theorem q7T {x:Int}:qc .shr .i64 x 8 = x.fdiv 256:=rfl
set_option maxRecDepth 20000 in
theorem qor:qbg.ok Tryz.prog:=qy8 (by simp [qoN,qvd,q0W]) fun ρ hg hp=>by
 obtain ⟨o0,l0,lc,l1,hle,hB,hGr,hGd⟩:=hp
 simp (config:={ maxSteps:=2000000 }) [qkQ,qbg,qbp,qcB,qfQ,gOk]
 have hseg:qcn [[.int .u8 (IntKind.u8.wrap (qc .shr .i64 (ρ 0).i 8))],[.int .u8 (IntKind.u8.wrap (ρ 0).i)]] 0 2 = qcd (ρ 0).i:=by
  rw [q7T,qio,qio]; rfl
 refine fun h _ hh=>⟨⟨⟨[],hh,by decide⟩,?_,hGr,hGd⟩,fun g _ hg1=>?_⟩
 ·intro row hr
  simp at hr
  rcases hr with rfl | rfl
  ·simp [qbs,qQ,qio]; omega
  ·simp [qbs,qQ,qio]; omega
 ·rw [hseg] at hg1
  have h1:=hg1 [] hh
  refine ⟨⟨⟨_,h1,by simp [qcd]⟩,o0,l0,lc,by omega,hle,hB,hGr,hGd⟩,fun k _ hk=>⟨⟨⟨_,hk _ h1,?_⟩,hGr,hGd⟩,fun d _ hd=>?_⟩⟩
  ·have:(qcn (ρ 5).d (ρ 2).i (ρ 3).i).length <= (ρ 3).i.toNat:=by simp [qcn]; omega
   simp [qcd]; omega
  ·exact (show qd _ 32 = qd d.d 32 from rfl).trans (hd _ (hk _ h1))
theorem qfb {lim:Int} {b:Bool} {x m s:List Int} (h:(b,x) = qfE lim false m s) (hf:(m.length:Int) + s.length <= lim):b = false/\x = m ++ s:=by
 rw [qki (by simp [qgy]; omega)] at h
 simpa using h
theorem q6E {x:Int}:IntKind.u16.wrap x = x % 65536:=by simp [IntKind.wrap,IntKind.bits,IntKind.signed]
theorem q5p {d:qf} {i:Nat} (h:i < d.length):qd [qeo (qi d i)] 32 = qgZ d[i]:=by
 refine List.map_congr_left fun j hj=>?_
 rw [qm8 (List.mem_range.1 hj)]
 simp [qi,qal,qbs,h]
theorem quZ {d:qf} {i:Nat} (h:i < d.length):((dgs d).take (i + 1)).flatten = ((dgs d).take i).flatten ++ qgZ d[i]:=by
 rw [List.take_add_one,List.getElem?_eq_getElem (by simpa [dgs] using h)]
 simp [dgs]
set_option maxRecDepth 20000 in
set_option maxHeartbeats 800000 in
theorem q1D:qd2.ok Tryz.prog:=q1M (by simp [qrf,qtD,q77,q7g,q50,q3d,q4s]) fun ρ hg hp=>by
 obtain ⟨l0,hl,ho,hd⟩:=hp
 simp (config:={ maxSteps:=2000000 }) [qn7,qd2,qqI,qbP,qbE,u8C,qiE,qof,qgI,qe8,qeQ,qbU,qeR,qg5]
 refine ⟨l0,fun e _ he=>⟨fun hne=>?_,fun hz lim _ hlim=>?_⟩⟩
 ·by_cases h:qG (ρ 0).i (ρ 1).i (ρ 2).i (ρ 3).i (ρ 6).i = true
  ·rw [if_pos h] at he; exact absurd he hne
  ·rw [if_neg h] at he; exact ⟨he.symm,by simpa using h⟩
 ·have hok:qG (ρ 0).i (ρ 1).i (ρ 2).i (ρ 3).i (ρ 6).i = true:=by
   by_cases h:qG (ρ 0).i (ρ 1).i (ρ 2).i (ρ 3).i (ρ 6).i = true
   ·exact h
   ·rw [if_neg h] at he; omega
  have hb:=hok
  simp [qG,qbi] at hb
  obtain ⟨⟨b1,b2,b3,b4⟩,b5,b6,b7⟩:=hb
  have hl2:lim.i = 39 + 32 * (ρ 2).i:=by
   rw [hlim,qcD (by omega) (by omega),add64 (by omega) (by omega)]; omega
  clear hlim
  simp only [qio,q6E]
  have hman:List.drop 4 (qd [([.int .i64 (ρ 0).i,.int .i64 (ρ 1).i,.int .i64 (ρ 2).i,.int .i64 (ρ 3).i] ++ (qeo (qa (ρ 4).d) ++ [.slice (qm (ρ 5).r 0) (ρ 6).i.toNat (ρ 7).i.toNat]):List Value)] 36) = qd (ρ 4).d 32:=rfl
  have hone:qam [([.int .i64 (ρ 0).i,.int .i64 (ρ 1).i,.int .i64 (ρ 2).i,.int .i64 (ρ 3).i] ++ (qeo (qa (ρ 4).d) ++ [.slice (qm (ρ 5).r 0) (ρ 6).i.toNat (ρ 7).i.toNat]):List Value)] 37:=⟨_,rfl,by simp [qeo]⟩
  have hlen:∀ {l n c:Int} {d:qf},wOk l n c d->n = ((bI d).length:Int):=fun h=>by rw [bI_len]; exact h.2.2.1
  refine ⟨⟨by omega,by omega,rfl,by omega,by intro r hr; cases hr⟩,fun f1 _ n1 _ c1 _ d1 _ w1 g1=>?_⟩
  obtain ⟨y1,x1⟩:=qfb g1 (by rw [hl2]; simp [bI,qaE]; omega)
  have L1:(bI d1.d).length = 2:=by rw [x1]; simp [bI,qaE]
  have q1:=hlen w1
  refine ⟨⟨w1,by omega,by omega,by omega⟩,fun f2 _ n2 _ c2 _ d2 _ w2 g2=>?_⟩
  rw [y1] at g2
  obtain ⟨y2,x2⟩:=qfb g2 (by rw [hl2,L1,qaE]; omega)
  have L2:(bI d2.d).length = 3:=by rw [x2,List.length_append,L1,qaE]
  have q2:=hlen w2
  refine ⟨⟨w2,by omega,by omega,by omega⟩,fun f3 _ n3 _ c3 _ d3 _ w3 g3=>?_⟩
  rw [y2] at g3
  obtain ⟨y3,x3⟩:=qfb g3 (by rw [hl2,L2,qaE]; omega)
  have L3:(bI d3.d).length = 4:=by rw [x3,List.length_append,L2,qaE]
  have q3:=hlen w3
  refine ⟨⟨w3,by omega,by omega,by omega⟩,fun f4 _ n4 _ c4 _ d4 _ w4 g4=>?_⟩
  rw [y3] at g4
  obtain ⟨y4,x4⟩:=qfb g4 (by rw [hl2,L3,qaE]; omega)
  have L4:(bI d4.d).length = 5:=by rw [x4,List.length_append,L3,qaE]
  have q4:=hlen w4
  refine ⟨⟨w4,by omega,by omega,by omega⟩,fun f5 _ n5 _ c5 _ d5 _ w5 g5=>?_⟩
  rw [y4] at g5
  obtain ⟨y5,x5⟩:=qfb g5 (by rw [hl2,L4,qaE]; omega)
  have L5:(bI d5.d).length = 7:=by rw [x5,List.length_append,L4,qaE]
  have q5:=hlen w5
  refine ⟨⟨w5,by omega,hone,?_⟩,fun f6 _ n6 _ c6 _ d6 _ w6 g6=>?_⟩
  ·have:=hman
   exact this ▸ ho
  have g6':(f6.b,bI d6.d) = qfE lim.i f5.b (bI d5.d) (qd (ρ 4).d 32):=g6
  rw [y5] at g6'
  obtain ⟨y6,x6⟩:=qfb g6' (by rw [hl2,L5,qdo]; omega)
  have hhead:bI d6.d = qaF (ρ 0).i (ρ 1).i (ρ 2).i (ρ 3).i (qd (ρ 4).d 32):=by
   rw [x6,x5,x4,x3,x2,x1]
   simp [qaF,bI,List.append_assoc]
  refine ⟨l0,⟨hok,l0,hl2,y6,w6,hhead⟩,fun lim2 _ f _ n _ c _ d _ t _ _ t0 t1 z1 z2 z3 z4=>⟨fun hlt=>?_,fun hge=>?_⟩⟩
  ·obtain ⟨T,hT⟩:∃ T:Nat,t.i = T:=⟨t.i.toNat,by omega⟩
   have m1:qc .add .i64 t.i 1 = ((T + 1:Nat):Int):=by rw [add64 (by omega) (by omega)]; omega
   have hTl:T < (ρ 8).d.length:=by omega
   have hrow:=q5p hTl
   have hnl:n.i = 39 + 32 * t.i:=by
    have h1:=hlen z3
    rw [z4,List.length_append] at h1
    have h2:∀ (k:Nat),k <= (ρ 8).d.length->((dgs (ρ 8).d).take k).flatten.length = 32 * k:=fun k=>by
     induction k with
     | zero=>intro _; simp
     | succ k ih=>intro hk; rw [quZ (by omega),List.length_append,ih (by omega)]; simp [qgZ]; omega
    rw [h2 _ (by omega)] at h1
    have h3:(qaF (ρ 0).i (ρ 1).i (ρ 2).i (ρ 3).i (qd (ρ 4).d 32)).length = 39:=by simp [qaF,qaE,qdo]
    omega
   rw [hT] at z4 hnl ⊢
   rw [<- hT,m1,hT]
   refine ⟨by omega,by omega,⟨z3,by omega,⟨_,rfl,rfl⟩,?_⟩,fun f7 _ n7 _ c7 _ d7 _ w7 g7=>?_⟩
   ·have h1:qT (qgZ (ρ 8).d[T]):=(hd _ (List.getElem_mem hTl)).2
    rw [<- hrow] at h1
    exact h1
   ·have g7':(f7.b,bI d7.d) = qfE lim2.i f.b (bI d.d) (qd [qeo (qi (ρ 8).d T)] 32):=g7
    rw [z2,hrow] at g7'
    have hbl:(qgZ (ρ 8).d[T]).length = 32:=by simp [qgZ]
    obtain ⟨y7,x7⟩:=qfb g7' (by rw [<- hlen z3,hbl]; omega)
    refine ⟨⟨hok,by omega,by omega,z1,y7,w7,?_⟩,by omega⟩
    rw [x7,z4]
    simp only [Int.toNat_natCast]
    rw [quZ hTl,List.append_assoc]
  ·have ht:t.i.toNat = (ρ 8).d.length:=by omega
   rw [ht] at z4
   rw [List.take_of_length_le (by simp [dgs])] at z4
   refine ⟨⟨z3,?_⟩,z2,fun e _ _ he=>⟨hok,by rw [he]; exact z3.2.2.1,by rw [he]; exact z3.2.2.2.2,by rw [he]; exact z4⟩⟩
   have:=z3.2.2.2.1
   omega
end Go.Proofs

set_option linter.unusedSimpArgs false
set_option linter.unusedVariables false
namespace Go.Proofs
open Go Go.Eng
theorem qgn (m:List Int):qT (sha m):=fun x hx=>by
 obtain ⟨j,_,rfl⟩:=List.mem_map.1 hx
 omega
theorem qyU {f:Nat->List Int} {n:Nat}:(qd0 f n).length = n:=by simp [qd0]
theorem qol {g full:List Int} {k l i:Nat}:∀ j,(qck g full k l i j).length = l
 | 0=>by simp [qck]
 | j + 1=>by rw [qck,qc0,qol j]
theorem q21 {k total:Nat} {data:List Int} {i:Nat}:(qdB k total data i).length = qD k data.length:=qol k
theorem q2L {d:qf} {r:List Value}:dgs (d ++ [r]) = dgs d ++ [qgZ r]:=by simp [dgs]
theorem qwt {f:Nat->List Int} {n:Nat}:qd0 f (n + 1) = qd0 f n ++ [sha (qcd n ++ f n)]:=by simp [qd0,List.range_succ]
theorem q4X {d:qf}:qgZ (qeo (qa d)) = qd d 32:=rfl
set_option maxRecDepth 20000 in
set_option maxHeartbeats 1600000 in
theorem qwE:qgz.ok Tryz.prog:=qpP (by simp [qrp,qvW,ql1,qor]) fun ρ hg hp=>by
 obtain ⟨hf,hl,hlc,hB,⟨hGr,hGd⟩,htop⟩:=hp
 simp (config:={ maxSteps:=2000000 }) [qt4,qgz,qxO,qbK,qbY,qaK,qbg,gOk,qmt]
 have hnn:=qca hf
 refine fun u _=>⟨fun h=>absurd h hnn.1,fun _ b _ hb=>⟨fun hz=>⟨hf,by rw [<- hb]; exact hz⟩,fun hz=>?_⟩⟩
 rw [hz] at hb
 have hs3:=hb.symm
 have hs3':=hs3
 simp [qbi] at hs3'
 obtain ⟨b1,b2,b3,b4⟩:=hs3'
 have hsB:qa5 (ρ 2).i (ρ 4).i = true:=by simp [qa5]; omega
 have hsz:qa5 (ρ 2).i (ρ 4).i = false->False:=fun h=>by rw [hsB] at h; cases h
 refine ⟨⟨hf,hl,hB,htop⟩,fun e _ f _ hf2 he=>⟨fun hne=>⟨hf2,?_⟩,fun hz2=>?_⟩,fun _ _ _ _ f _ P _ ab _ hf2 _ hle hPl hE=>⟨by omega,⟨⟨by omega,hlc,by omega,by omega,hB⟩,hGr,hGd⟩,fun o _ ho _ _=>⟨by omega,⟨hf2,hs3,hle,by omega,hPl,hE,?_,?_,?_⟩,fun _ _ _ _ _ _ o2 _ _ _ t _ _ _ Ds _ P2 _ _ _ f2 _ ab2 _ hf3 _ _ t0 t1 hPl2 hE2 ho2 hDl hDo hDm=>⟨fun hlt=>?_,fun hge=>?_⟩⟩⟩⟩
 ·rcases he with ⟨h,_⟩ | ⟨_,h1,h2⟩
  ·exact (hsz h).elim
  ·exact .inr ⟨hs3,h1,h2⟩
 ·rcases he with ⟨h,_⟩ | ⟨_,h1,h2⟩
  ·exact (hsz h).elim
  ·omega
 ·rw [qkz hl] at ho
  exact ho
 ·intro r hr; cases hr
 ·rfl
 ·obtain ⟨T,hT⟩:∃ T:Nat,t.i = T:=⟨t.i.toNat,by omega⟩
  have m1:qc .add .i64 t.i 1 = ((T + 1:Nat):Int):=by rw [add64 (by omega) (by omega)]; omega
  obtain ⟨v,d,e1,e2,e3,e4⟩:=hE2 T (by omega)
  have hcv:qal P2.d t.i 1 = v:=by rw [hT]; simp [qal,e1]
  have hci:qi P2.d t.i 0 = (T:Int):=by rw [hT]; simp [qi,qal,e1,qQ]
  rw [m1,hcv,hci]
  have hdl:d.length <= (ρ 8).d.length:=by
   have h1:=congrArg List.length e3
   rw [bI_len,q21,bI_len] at h1
   have:=qm4 (k:=(ρ 2).i.toNat) (n:=(ρ 8).d.length) (by omega)
   omega
  refine ⟨by omega,by omega,fun _ _=>⟨d,e2,fun r0 _ c1 _ hv hcl=>⟨⟨hcl,by omega,e4,hGr,hGd⟩,fun g _ hg2 _ _=>⟨by omega,by omega,fun _ _ _ _ ab3 _ hst=>⟨by omega,⟨hf3,hs3,hle,by omega,by omega,hPl2,?_,ho2,by omega,?_,?_⟩,by omega⟩⟩⟩⟩⟩
  ·obtain ⟨hb2,lb,db⟩:=qcq hst (n:=32) (t:=2) (by simp)
   exact qkc hE2 (Hp.le_trans (by simpa using db) lb)
  ·intro r hr
   rcases List.mem_append.1 hr with hr | hr
   ·exact hDo r hr
   ·obtain rfl:=List.mem_singleton.1 hr
    refine ⟨rfl,?_⟩
    have:qT (qd g.d 32):=by rw [hg2]; exact qgn _
    exact this
  ·have hh:dgs (Ds.d ++ [qeo (qa g.d)]) = qd0 (qdB (ρ 2).i.toNat (ρ 4).i.toNat (bI (ρ 8).d)) (T + 1):=by
    rw [q2L,q4X,hg2,qkz rfl,e3,hDm,hT,Int.toNat_natCast,qwt]
   exact hh
 ·have ht:t.i = (ρ 4).i:=by omega
  refine fun ab3 _ hst=>⟨by omega,hf3,hs3,hle,hPl2,?_,ho2,hDo,by rw [hDm,ht]⟩
  obtain ⟨hb2,lb,db⟩:=qcq hst (n:=32) (t:=2) (by simp)
  exact qkc hE2 (Hp.le_trans (by simpa using db) lb)
end Go.Proofs

set_option linter.unusedSimpArgs false
set_option linter.unusedVariables false
namespace Go.Proofs
open Go Go.Eng
set_option maxRecDepth 20000
end Go.Proofs

set_option linter.unusedSimpArgs false
set_option linter.unusedVariables false
namespace Go.Eng
open Go Go.Proofs
end Go.Eng

set_option linter.unusedSimpArgs false
set_option linter.unusedVariables false
set_option maxRecDepth 100000
namespace Go.Proofs
open Go Go.Eng

end Go.Proofs

set_option linter.unusedSimpArgs false
set_option linter.unusedVariables false
namespace Go.Proofs
open Go Go.Eng
set_option maxRecDepth 20000
end Go.Proofs

set_option linter.unusedSimpArgs false
set_option linter.unusedVariables false
namespace Go.Proofs
open Go Go.Eng
set_option maxRecDepth 20000
end Go.Proofs

set_option linter.unusedSimpArgs false
set_option linter.unusedVariables false
namespace Go.Eng
open Go Go.Proofs
end Go.Eng

set_option linter.unusedSimpArgs false
set_option linter.unusedVariables false
set_option maxRecDepth 100000
namespace Go.Proofs
open Go Go.Eng

end Go.Proofs

set_option linter.unusedSimpArgs false
set_option linter.unusedVariables false
namespace Go.Proofs
open Go Go.Eng
set_option maxRecDepth 20000
end Go.Proofs

set_option linter.unusedSimpArgs false
set_option linter.unusedVariables false
namespace Go.Eng
open Go Go.Proofs
end Go.Eng

set_option linter.unusedSimpArgs false
set_option linter.unusedVariables false
set_option maxRecDepth 100000
namespace Go.Proofs
open Go Go.Eng

end Go.Proofs

set_option linter.unusedSimpArgs false
set_option linter.unusedVariables false
namespace Go.Proofs
open Go Go.Eng
set_option maxRecDepth 20000
theorem q5E {D:qf}:(dgs D).length = D.length:=by simp [dgs]
end Go.Proofs

set_option linter.unusedSimpArgs false
set_option linter.unusedVariables false
namespace Go.Proofs
open Go Go.Eng
set_option maxRecDepth 20000
end Go.Proofs

set_option linter.unusedSimpArgs false
set_option linter.unusedVariables false
namespace Go.Eng
open Go Go.Proofs
def q4F (ρ:Env) (r:Nat):Prop:=qiS (ρ r).i/\qiS (ρ (r + 1)).i/\qiS (ρ (r + 2)).i/\qiS (ρ (r + 3)).i/\qT (qd (ρ (r + 4)).d 32)/\(ρ (r + 6)).i = (ρ (r + 8)).d.length/\(ρ (r + 6)).i <= 4398046510976/\qfA (ρ (r + 8)).d
def qzO (ρ:Env):List Int:=qaF (ρ 0).i (ρ 1).i (ρ 2).i (ρ 3).i (qd (ρ 4).d 32) ++ (dgs (ρ 8).d).flatten
def quy (ρ:Env):Bool:=qG (ρ 0).i (ρ 1).i (ρ 2).i (ρ 3).i (ρ 6).i
def qy2 (ρ:Env):Prop:=(ρ 6).i = (ρ 8).d.length/\qT (qd (ρ 4).d 32)/\qfA (ρ 8).d
def qpn:List Alt:=[
 { k:=2,ret:=.tup [(true,qaY .u8 12 32),qcS (.var 13)],heap:=[],post:=fun ρ=>(quy ρ = false/\(ρ 13).i = 2/\qd (ρ 12).d 32 = List.replicate 32 0)∨(quy ρ = true/\(ρ 13).i = 0/\qd (ρ 12).d 32 = sha (qzO ρ)) }]
def idC:Ctr:={ fn := 44,nv:=12,ip:=[gIp 10,(1005,9)],args:=[qn9],heap:=[],ro:=[qfD 5 8 9,gHp 10 11],pre:=fun ρ=>qy2 ρ/\gOk ρ 10 11 gR,alts:=qpn }
end Go.Eng

set_option linter.unusedSimpArgs false
set_option linter.unusedVariables false
set_option maxRecDepth 100000
namespace Go.Proofs
open Go Go.Eng

end Go.Proofs

set_option linter.unusedSimpArgs false
set_option linter.unusedVariables false
namespace Go.Proofs
open Go Go.Eng
set_option maxRecDepth 20000
theorem qcN {l:List (List Int)} (h:∀ x ∈ l,x.length = 32):l.flatten.length = 32 * l.length:=by
 induction l with
 | nil=>rfl
 | cons x r ih =>
  rw [List.flatten_cons,List.length_append,h x (List.mem_cons_self ..),ih (fun y hy=>h y (List.mem_cons_of_mem _ hy)),List.length_cons]; omega
theorem qwU {l:List (List Int)} (h:∀ x ∈ l,x.length = 32):∀ {j:Nat} (hj:j < l.length),(l.flatten.drop (32 * j)).take 32 = l[j]:=by
 induction l with
 | nil=>intro j hj; simp at hj
 | cons x r ih =>
  intro j hj
  have hx:=h x (List.mem_cons_self ..)
  cases j with
  | zero=>simp [List.take_left' hx]
  | succ j =>
   rw [List.flatten_cons,show 32 * (j + 1) = x.length + 32 * j by omega,List.drop_length_add_append]
   exact ih (fun y hy=>h y (List.mem_cons_of_mem _ hy)) (by simpa using hj)
theorem q6J {D:qf}:∀ x ∈ dgs D,x.length = 32:=fun x hx=>by
 obtain ⟨r,_,rfl⟩:=List.mem_map.1 hx
 simp [qgZ]
end Go.Proofs

set_option linter.unusedSimpArgs false
set_option linter.unusedVariables false
namespace Go.Proofs
open Go Go.Eng
def qsv (d:qf) (i:Int):List Int:=(List.range 32).map fun k=>qi d i k
@[simp high] theorem q8b (d:qf):qd [[.int .u8 (qa d 0),.int .u8 (qa d 1),.int .u8 (qa d 2),.int .u8 (qa d 3),.int .u8 (qa d 4),.int .u8 (qa d 5),.int .u8 (qa d 6),.int .u8 (qa d 7),.int .u8 (qa d 8),.int .u8 (qa d 9),.int .u8 (qa d 10),.int .u8 (qa d 11),.int .u8 (qa d 12),.int .u8 (qa d 13),.int .u8 (qa d 14),.int .u8 (qa d 15),.int .u8 (qa d 16),.int .u8 (qa d 17),.int .u8 (qa d 18),.int .u8 (qa d 19),.int .u8 (qa d 20),.int .u8 (qa d 21),.int .u8 (qa d 22),.int .u8 (qa d 23),.int .u8 (qa d 24),.int .u8 (qa d 25),.int .u8 (qa d 26),.int .u8 (qa d 27),.int .u8 (qa d 28),.int .u8 (qa d 29),.int .u8 (qa d 30),.int .u8 (qa d 31)]] 32 = qd d 32:=rfl
@[simp high] theorem q8e (d:qf) (i:Int):qd [[.int .u8 (qi d i 0),.int .u8 (qi d i 1),.int .u8 (qi d i 2),.int .u8 (qi d i 3),.int .u8 (qi d i 4),.int .u8 (qi d i 5),.int .u8 (qi d i 6),.int .u8 (qi d i 7),.int .u8 (qi d i 8),.int .u8 (qi d i 9),.int .u8 (qi d i 10),.int .u8 (qi d i 11),.int .u8 (qi d i 12),.int .u8 (qi d i 13),.int .u8 (qi d i 14),.int .u8 (qi d i 15),.int .u8 (qi d i 16),.int .u8 (qi d i 17),.int .u8 (qi d i 18),.int .u8 (qi d i 19),.int .u8 (qi d i 20),.int .u8 (qi d i 21),.int .u8 (qi d i 22),.int .u8 (qi d i 23),.int .u8 (qi d i 24),.int .u8 (qi d i 25),.int .u8 (qi d i 26),.int .u8 (qi d i 27),.int .u8 (qi d i 28),.int .u8 (qi d i 29),.int .u8 (qi d i 30),.int .u8 (qi d i 31)]] 32 = qsv d i:=rfl
@[simp high] theorem q8d (d:qf):([.int .u8 (qa d 0),.int .u8 (qa d 1),.int .u8 (qa d 2),.int .u8 (qa d 3),.int .u8 (qa d 4),.int .u8 (qa d 5),.int .u8 (qa d 6),.int .u8 (qa d 7),.int .u8 (qa d 8),.int .u8 (qa d 9),.int .u8 (qa d 10),.int .u8 (qa d 11),.int .u8 (qa d 12),.int .u8 (qa d 13),.int .u8 (qa d 14),.int .u8 (qa d 15),.int .u8 (qa d 16),.int .u8 (qa d 17),.int .u8 (qa d 18),.int .u8 (qa d 19),.int .u8 (qa d 20),.int .u8 (qa d 21),.int .u8 (qa d 22),.int .u8 (qa d 23),.int .u8 (qa d 24),.int .u8 (qa d 25),.int .u8 (qa d 26),.int .u8 (qa d 27),.int .u8 (qa d 28),.int .u8 (qa d 29),.int .u8 (qa d 30),.int .u8 (qa d 31)]:List Value).map qQ = qd d 32:=rfl
@[simp high] theorem q8a (d:qf) (i:Int):([.int .u8 (qi d i 0),.int .u8 (qi d i 1),.int .u8 (qi d i 2),.int .u8 (qi d i 3),.int .u8 (qi d i 4),.int .u8 (qi d i 5),.int .u8 (qi d i 6),.int .u8 (qi d i 7),.int .u8 (qi d i 8),.int .u8 (qi d i 9),.int .u8 (qi d i 10),.int .u8 (qi d i 11),.int .u8 (qi d i 12),.int .u8 (qi d i 13),.int .u8 (qi d i 14),.int .u8 (qi d i 15),.int .u8 (qi d i 16),.int .u8 (qi d i 17),.int .u8 (qi d i 18),.int .u8 (qi d i 19),.int .u8 (qi d i 20),.int .u8 (qi d i 21),.int .u8 (qi d i 22),.int .u8 (qi d i 23),.int .u8 (qi d i 24),.int .u8 (qi d i 25),.int .u8 (qi d i 26),.int .u8 (qi d i 27),.int .u8 (qi d i 28),.int .u8 (qi d i 29),.int .u8 (qi d i 30),.int .u8 (qi d i 31)]:List Value).map qQ = qsv d i:=rfl
@[simp high] theorem q8f:qd [[.int .u8 0,.int .u8 0,.int .u8 0,.int .u8 0,.int .u8 0,.int .u8 0,.int .u8 0,.int .u8 0,.int .u8 0,.int .u8 0,.int .u8 0,.int .u8 0,.int .u8 0,.int .u8 0,.int .u8 0,.int .u8 0,.int .u8 0,.int .u8 0,.int .u8 0,.int .u8 0,.int .u8 0,.int .u8 0,.int .u8 0,.int .u8 0,.int .u8 0,.int .u8 0,.int .u8 0,.int .u8 0,.int .u8 0,.int .u8 0,.int .u8 0,.int .u8 0]] 32 = List.replicate 32 0:=rfl
@[simp high] theorem q8c:([.int .u8 0,.int .u8 0,.int .u8 0,.int .u8 0,.int .u8 0,.int .u8 0,.int .u8 0,.int .u8 0,.int .u8 0,.int .u8 0,.int .u8 0,.int .u8 0,.int .u8 0,.int .u8 0,.int .u8 0,.int .u8 0,.int .u8 0,.int .u8 0,.int .u8 0,.int .u8 0,.int .u8 0,.int .u8 0,.int .u8 0,.int .u8 0,.int .u8 0,.int .u8 0,.int .u8 0,.int .u8 0,.int .u8 0,.int .u8 0,.int .u8 0,.int .u8 0]:List Value).map qQ = List.replicate 32 0:=rfl
theorem q0o {d:qf} {i:Int} (h0:0 <= i) (h1:i < d.length):qsv d i = (dgs d).getD i.toNat []:=by
 have hl:i.toNat < d.length:=by omega
 have h2:(dgs d).getD i.toNat [] = qgZ d[i.toNat]:=by simp [dgs,hl]
 rw [h2]
 refine List.map_congr_left fun k hk=>?_
 simp [qi,qal,qbs,hl]
end Go.Proofs

set_option linter.unusedSimpArgs false
set_option linter.unusedVariables false
namespace Go.Eng
open Go

end Go.Eng

set_option linter.unusedSimpArgs false
set_option linter.unusedVariables false
namespace Go.Eng
open Go Go.Proofs
def qke (r:Nat):SV:=.agg [.vint .i64 (.var r),.vslice (r + 1) (.lit 0) (.var (r + 2)) (.var (r + 3)) 1]
def qqn (r:Nat):SH:=bHp (r + 1) (r + 4) (r + 5)
def qhq (ρ:Env) (r:Nat):Prop:=(ρ (r + 2)).i = (ρ (r + 4)).d.length/\(ρ (r + 2)).i <= (ρ (r + 3)).i/\(ρ (r + 2)).i <= 100000000/\q9 (ρ (r + 4)).d
def qez (k s:Int):Int:=(s + k - 1).tdiv k
def qcm (k n t s l:Int) (D:List (List Int)) (i:Int) (m:List Int):Int:=if qG k n t s l = false then 2 else if i < 0∨t <= i then 2 else if (m.length:Int) ≠ qez k s then 10 else if sha (qcd i ++ m) ≠ D.getD i.toNat [] then 20 else 0
def q0D (ρ:Env):Prop:=qiS (ρ 0).i/\qiS (ρ 3).i/\(ρ 6).i = (ρ 8).d.length/\qfA (ρ 8).d/\qhq ρ 10
def qpE:List Alt:=[{ k:=1,ret:=iv .i64 (.var 18),heap:=[],post:=fun ρ=>(ρ 18).i = qcm (ρ 0).i (ρ 1).i (ρ 2).i (ρ 3).i (ρ 6).i (dgs (ρ 8).d) (ρ 10).i (bI (ρ 14).d) }]
def qd5:Ctr:={ fn := 60,nv:=18,ip:=[gIp 16],args:=[qn9,qke 10],heap:=[],ro:=[qfD 5 8 9,qqn 10,gHp 16 17],pre:=fun ρ=>q0D ρ/\gOk ρ 16 17 gR,alts:=qpE }
end Go.Eng

set_option linter.unusedSimpArgs false
set_option linter.unusedVariables false
set_option maxRecDepth 100000
namespace Go.Proofs
open Go Go.Eng

@[simp] def qu6:Sg:=sg 0 [bv 9 9,bv 8 8,bv 7 7,bv 6 6,bg 5 5,bv 3 3,bv 2 2,bv 1 1,bv 0 0,bt 4 (r8 4)]
def q3E:Out:=(.fresh 12 (.fresh 13 (.pre 0 qu6 (.both (.post 0 0 qu6 14 (.ret 0 (sg 12 [bt 13 (.lit 2),bt 12 z8]))) (.both (.fresh 14 (.fresh 15 (.fresh 16 (.fresh 17 (.post 0 1 qu6 14 (.know (.cmp .leq (.dlen (.var 17)) (.var 16)) (.pre 1 (sg 0 [bv 7 11,bv 5 16,bv 4 17,bv 3 16,bv 2 15,bt 1 (.lit 0),bg 0 14,bg 6 10]) (.both (.fresh 18 (.post 1 0 (sg 0 [bv 7 11,bv 5 16,bv 4 17,bv 3 16,bv 2 15,bt 1 (.lit 0),bg 0 14,bg 6 10]) 18 (.ret 0 (sg 12 [bt 13 (.lit 0),bt 12 (r8 18)])))) .top)))))))) .top)))))
theorem q5Q:ql ⟨Tryz.prog,idC,[qd2,qaK],[]⟩ 100000 Tryz.f44 = q3E:=by kernel_rfl
theorem q78 (hd:∀ c ∈ ([qd2,qaK]:List Ctr),c.ok Tryz.prog) (h:∀ ρ:Env,ρ.good->(idC).pre ρ->q3E.den ⟨Tryz.prog,idC,[qd2,qaK],[]⟩ ρ):(idC).ok Tryz.prog :=
 qe Tryz.func44 (fun a w=>Tryz.call44 a w) hd 100000 (fun ρ hg hp=>by rw [q5Q]; exact h ρ hg hp)
end Go.Proofs

set_option linter.unusedSimpArgs false
set_option linter.unusedVariables false
set_option maxRecDepth 100000
namespace Go.Proofs
open Go Go.Eng
theorem q56:∀ i:Fin 255,qlB.getD (qh4.getD i.val 0).toNat 0 = i.val:=by decide +kernel
theorem q4U:∀ a:Fin 256,a.val ≠ 0->qh4.getD (qlB.getD a.val 0).toNat 0 = a.val:=by decide +kernel
theorem q5N:∀ i:Fin 255,qh4.getD (i.val + 255) 0 = qh4.getD i.val 0:=by decide +kernel
end Go.Proofs

set_option linter.unusedSimpArgs false
set_option linter.unusedVariables false
namespace Go.Proofs
open Go Go.Eng

abbrev F:=BitVec 8
def toF (x:Int):F:=BitVec.ofInt 8 x
def ofF (x:F):Int:=(x.toNat:Nat)
def isB (x:Int):Prop:=0 <= x/\x < 256
theorem qjf {x:F}:isB (ofF x):=⟨Int.natCast_nonneg _,by have:=x.isLt; unfold ofF; omega⟩
theorem qj0 {x:F}:toF (ofF x) = x:=by
 unfold toF ofF
 apply BitVec.eq_of_toNat_eq
 rw [BitVec.toNat_ofInt]
 have:=x.isLt
 omega
theorem qrh {x:Int} (h:isB x):(toF x).toNat = x.toNat:=by
 obtain ⟨h0,h1⟩:=h
 unfold toF
 rw [BitVec.toNat_ofInt]
 omega
theorem qwP {x:Int} (h:isB x):ofF (toF x) = x:=by
 unfold ofF
 rw [qrh h]
 obtain ⟨h0,h1⟩:=h
 omega
theorem qqQ {x y:Int} (hx:isB x) (hy:isB y) (h:toF x = toF y):x = y:=by rw [<- qwP hx,<- qwP hy,h]
theorem qug:toF 0 = 0:=rfl
theorem qeH {x:Int} (h:isB x):toF x = 0↔x = 0:=⟨fun e=>qqQ h ⟨by omega,by omega⟩ e,fun e=>by rw [e]; rfl⟩
theorem q1y {x y:Int}:qh6 x y = ofF (toF x ^^^ toF y):=by
 have h:(BitVec.ofInt 8 x ^^^ BitVec.ofInt 8 y).toNat < 256:=(BitVec.ofInt 8 x ^^^ BitVec.ofInt 8 y).isLt
 unfold qh6 qc ofF toF
 show IntKind.u8.wrap _ = _
 have hb:IntKind.u8.bits = 8:=rfl
 rw [hb]
 generalize (BitVec.ofInt 8 x ^^^ BitVec.ofInt 8 y).toNat = z at h ⊢
 simp only [IntKind.wrap,IntKind.bits,IntKind.signed]
 simp
 omega
theorem qkf {x y:Int}:toF (qh6 x y) = toF x ^^^ toF y:=by rw [q1y,qj0]

def qb2 (n:Nat):F:=BitVec.ofNat 8 (qh4.getD (n % 255) 0).toNat
def qe5 (x:F):Nat:=(qlB.getD x.toNat 0).toNat
def qg (x y:F):F:=if x = 0∨y = 0 then 0 else qb2 (qe5 x + qe5 y)
def qe3 (x:F):F:=if x = 0 then 0 else qb2 (255 - qe5 x)
theorem qvg {n:Nat}:qb2 (n % 255) = qb2 n:=by unfold qb2; rw [Nat.mod_mod]
theorem qjR {n m:Nat} (h:n % 255 = m % 255):qb2 n = qb2 m:=by rw [<- qvg,h,qvg]
theorem qhr {n:Nat}:(qb2 n).toNat = (qh4.getD (n % 255) 0).toNat:=by
 have h:=qfT ⟨n % 255,by omega⟩
 simp only at h
 unfold qb2
 rw [BitVec.toNat_ofNat]
 omega
theorem qmr {n:Nat}:qb2 n ≠ 0:=fun h=>by
 have h1:=congrArg BitVec.toNat h
 rw [qhr] at h1
 have h2:=qfT ⟨n % 255,by omega⟩
 simp only at h2
 rw [show (0:F).toNat = 0 by rfl] at h1
 omega
theorem qga {x:F}:qe5 x < 255:=by
 have:=qjM ⟨x.toNat,x.isLt⟩
 simp only at this
 unfold qe5
 omega
theorem qhN {x:F} (h:x ≠ 0):qb2 (qe5 x) = x:=by
 apply BitVec.eq_of_toNat_eq
 have h0:x.toNat ≠ 0:=fun e=>h (BitVec.eq_of_toNat_eq (by rw [e]; rfl))
 have h1:=q4U ⟨x.toNat,x.isLt⟩ h0
 simp only at h1
 rw [qhr,Nat.mod_eq_of_lt qga,qe5,h1]
 omega
theorem qtc {n:Nat}:qe5 (qb2 n) = n % 255:=by
 have h:=q56 ⟨n % 255,by omega⟩
 simp only at h
 unfold qe5
 rw [qhr,h]
 omega
theorem qiz:qb2 0 = 1:=by decide
theorem qaf {x y:F}:qg x y = qg y x:=by
 unfold qg
 by_cases hx:x = 0
 ·simp [hx]
 ·by_cases hy:y = 0
  ·simp [hy]
  ·rw [if_neg (not_or.2 ⟨hx,hy⟩),if_neg (not_or.2 ⟨hy,hx⟩),Nat.add_comm]
theorem qz {x:F}:qg x 0 = 0:=by simp [qg]
theorem qA {x:F}:qg 0 x = 0:=by simp [qg]
theorem qwO {x y:F} (hx:x ≠ 0) (hy:y ≠ 0):qg x y = qb2 (qe5 x + qe5 y):=by rw [qg,if_neg (not_or.2 ⟨hx,hy⟩)]
theorem qkM {x y:F} (hx:x ≠ 0) (hy:y ≠ 0):qg x y ≠ 0:=by rw [qwO hx hy]; exact qmr
theorem qut {x y:F}:qg x y = 0↔x = 0∨y = 0:=⟨fun h=>by
 by_cases hx:x = 0
 ·exact .inl hx
 ·by_cases hy:y = 0
  ·exact .inr hy
  ·exact (qkM hx hy h).elim,fun h=>by rcases h with rfl | rfl; exact qA; exact qz⟩
theorem qdL {n m:Nat}:qg (qb2 n) (qb2 m) = qb2 (n + m):=by
 rw [qwO qmr qmr,qtc,qtc]
 exact qjR (by omega)
theorem qaS {x:F}:qg x 1 = x:=by
 by_cases h:x = 0
 ·rw [h,qA]
 ·rw [<- qiz]; conv=>lhs; arg 1; rw [<- qhN h]
  rw [qdL,Nat.add_zero,qhN h]
theorem qhR {x:F}:qg 1 x = x:=by rw [qaf,qaS]
theorem qhg {x:F} (h:x ≠ 0):∃ n,n < 255/\x = qb2 n:=⟨qe5 x,qga,(qhN h).symm⟩
theorem qM {x y z:F}:qg (qg x y) z = qg x (qg y z):=by
 by_cases hx:x = 0
 ·rw [hx,qA,qA,qA]
 by_cases hy:y = 0
 ·rw [hy,qz,qA,qz]
 by_cases hz:z = 0
 ·rw [hz,qz,qz,qz]
 obtain ⟨a,_,rfl⟩:=qhg hx
 obtain ⟨b,_,rfl⟩:=qhg hy
 obtain ⟨c,_,rfl⟩:=qhg hz
 rw [qdL,qdL,qdL,qdL,Nat.add_assoc]
theorem q5K {x:F} (h:x ≠ 0):qe3 x ≠ 0:=by rw [qe3,if_neg h]; exact qmr
theorem qid {x:F} (h:x ≠ 0):qg x (qe3 x) = 1:=by
 rw [qe3,if_neg h]
 conv=>lhs; arg 1; rw [<- qhN h]
 have:=qga (x:=x)
 rw [qdL,<- qiz]
 exact qjR (by omega)
def xt (x:F):F:=x <<< 1 ^^^ (if x.msb then 29#8 else 0#8)
theorem q0P:∀ i:Fin 256,qg (BitVec.ofFin i) 2 = xt (BitVec.ofFin i):=by decide +kernel
theorem qn2 {x:F}:qg x 2 = xt x:=q0P x.toFin
theorem q7c {x y:F}:xt (x ^^^ y) = xt x ^^^ xt y:=by
 unfold xt
 rw [BitVec.shiftLeft_xor_distrib,BitVec.msb_xor]
 have h1:∀ a b c:F,a ^^^ b ^^^ c = a ^^^ c ^^^ b:=fun a b c=>by rw [BitVec.xor_assoc,BitVec.xor_comm b c,<- BitVec.xor_assoc]
 cases x.msb <;> cases y.msb
 ·simp
 ·simp [BitVec.xor_assoc]
 ·simp [h1 (x <<< 1) (29#8) (y <<< 1)]
 ·simp only [bne_self_eq_false,Bool.false_eq_true,if_true,if_false,BitVec.xor_zero]
  rw [h1 (x <<< 1) (29#8),BitVec.xor_assoc (x <<< 1),BitVec.xor_assoc (y <<< 1),BitVec.xor_self,BitVec.xor_zero]
theorem qkL {x y:F}:∀ n:Nat,qg (x ^^^ y) (qb2 n) = qg x (qb2 n) ^^^ qg y (qb2 n)
 | 0=>by rw [qiz,qaS,qaS,qaS]
 | n + 1=>by
  have he:qb2 (n + 1) = qg (qb2 n) 2:=by
   have:(2:F) = qb2 1:=by decide
   rw [this,qdL]
  rw [he,<- qM,<- qM,<- qM,qkL n,qn2,qn2,qn2,q7c]
theorem qcj {x y z:F}:qg (x ^^^ y) z = qg x z ^^^ qg y z:=by
 by_cases hz:z = 0
 ·rw [hz,qz,qz,qz]; rfl
 ·obtain ⟨n,_,rfl⟩:=qhg hz
  exact qkL n
theorem qhQ {x y z:F}:qg z (x ^^^ y) = qg z x ^^^ qg z y:=by rw [qaf,qcj,qaf,qaf (x:=y)]

theorem qty {i:Nat} (h:i < 510):qlT i = ofF (qb2 i):=by
 rw [qwH h,ofF,qhr]
 by_cases hi:i < 255
 ·rw [Nat.mod_eq_of_lt hi]
  have:=qfT ⟨i,h⟩
  simp only at this
  omega
 ·have h1:=q5N ⟨i - 255,by omega⟩
  have h2:=qfT ⟨i,h⟩
  simp only at h1 h2
  rw [show i - 255 + 255 = i by omega] at h1
  rw [show i % 255 = i - 255 by omega,<- h1]
  omega
theorem qoJ {a:Int} (h:isB a):qbl a.toNat = (qe5 (toF a):Nat):=by
 obtain ⟨h0,h1⟩:=h
 rw [qxw (by omega),qe5,qrh ⟨h0,h1⟩]
 have:=qjM ⟨a.toNat,by omega⟩
 simp only at this
 omega
theorem q0K {a b:Int} (ha:isB a) (hb:isB b):qdl a b = ofF (qg (toF a) (toF b)):=by
 unfold qdl qg
 simp only [qeH ha,qeH hb]
 split
 ·rfl
 ·have h1:=qga (x:=toF a)
  have h2:=qga (x:=toF b)
  rw [qoJ ha,qoJ hb,qty (by omega)]
  congr 2
theorem q0j {a:Int} (ha:isB a):qfR a = ofF (qe3 (toF a)):=by
 unfold qfR qe3
 simp only [qeH ha]
 split
 ·rfl
 ·have h1:=qga (x:=toF a)
  rw [qoJ ha,qty (by omega)]
  congr 2
  omega
theorem q2P {a b:Int} (ha:isB a) (hb:isB b):isB (qdl a b):=by rw [q0K ha hb]; exact qjf
theorem qia {a b:Int} (ha:isB a) (hb:isB b):toF (qdl a b) = qg (toF a) (toF b):=by rw [q0K ha hb,qj0]
theorem q3J {a:Int} (ha:isB a):isB (qfR a):=by rw [q0j ha]; exact qjf
theorem q3S {a:Int} (ha:isB a):toF (qfR a) = qe3 (toF a):=by rw [q0j ha,qj0]
theorem q2R {a b:Int}:isB (qh6 a b):=by rw [q1y]; exact qjf
def qaB (x:F):Nat->F
 | 0=>1
 | n + 1=>qg (qaB x n) x
theorem qtX {n:Nat}:∀ m,qaB (qb2 n) m = qb2 (n * m)
 | 0=>by rw [Nat.mul_zero]; exact qiz.symm
 | m + 1=>by rw [qaB,qtX m,qdL,Nat.mul_succ]
theorem qxD {m:Nat} (h:0 < m):qaB 0 m = 0:=by
 cases m with
 | zero=>omega
 | succ m=>rw [qaB,qz]
theorem q1n {a e:Int} (ha:isB a) (he:e < 9223372036854775808):qgY a e = ofF (qaB (toF a) e.toNat):=by
 unfold qgY
 by_cases h0:e <= 0
 ·rw [if_pos h0,show e.toNat = 0 by omega]; rfl
 rw [if_neg h0]
 by_cases h1:a = 0
 ·rw [if_pos h1,h1,qug,qxD (by omega)]; rfl
 rw [if_neg h1]
 have hx:toF a ≠ 0:=fun h=>h1 ((qeH ha).1 h)
 have hl:=qga (x:=toF a)
 rw [qoJ ha]
 have e1:e.tmod 255 = ((e.toNat % 255:Nat):Int):=by
  rw [Int.tmod_eq_emod_of_nonneg (by omega)]; omega
 rw [e1,<- Int.natCast_mul,Int.tmod_eq_emod_of_nonneg (by omega),qty (by omega)]
 congr 1
 conv=>rhs; rw [<- qhN hx,qtX]
 refine qjR ?_
 have:((qe5 (toF a) * (e.toNat % 255):Nat):Int) % 255 = ((qe5 (toF a) * (e.toNat % 255) % 255:Nat):Int):=by omega
 rw [this,Int.toNat_natCast,Nat.mod_mod,Nat.mul_mod,Nat.mod_mod,<- Nat.mul_mod]
theorem q3H {a e:Int} (ha:isB a) (he:e < 9223372036854775808):isB (qgY a e):=by rw [q1n ha he]; exact qjf
end Go.Proofs

set_option linter.unusedSimpArgs false
set_option linter.unusedVariables false
namespace Go.Proofs
open Go Go.Eng

theorem qrS (a b c:F):a ^^^ (b ^^^ c) = b ^^^ (a ^^^ c):=by rw [<- BitVec.xor_assoc,BitVec.xor_comm a b,BitVec.xor_assoc]
theorem qn5 (a b c d:F):(a ^^^ b) ^^^ (c ^^^ d) = (a ^^^ c) ^^^ (b ^^^ d):=by rw [BitVec.xor_assoc,BitVec.xor_assoc,qrS b c d]
theorem qeK {a b:F}:a ^^^ b = 0↔a = b:=⟨fun h=>by
 have:a ^^^ b ^^^ b = b:=by rw [h]; simp
 rwa [BitVec.xor_assoc,BitVec.xor_self,BitVec.xor_zero] at this,fun h=>by rw [h]; exact BitVec.xor_self⟩
theorem qad {a:F}:a ^^^ 0 = a:=BitVec.xor_zero
theorem qao {a:F}:0 ^^^ a = a:=BitVec.zero_xor
theorem qa0 {a:F}:a ^^^ a = 0:=BitVec.xor_self
theorem qm7 {a b:F}:a ^^^ b ^^^ b = a:=by rw [BitVec.xor_assoc,BitVec.xor_self,BitVec.xor_zero]
def qw (f:Nat->F):Nat->F
 | 0=>0
 | n + 1=>qw f n ^^^ f n
theorem qk {f g:Nat->F} {n:Nat} (h:∀ i,i < n->f i = g i):qw f n = qw g n:=by
 induction n with
 | zero=>rfl
 | succ n ih=>rw [qw,qw,ih fun i hi=>h i (by omega),h n (by omega)]
theorem qc3 {f:Nat->F} {n:Nat} (h:∀ i,i < n->f i = 0):qw f n = 0:=by
 induction n with
 | zero=>rfl
 | succ n ih=>rw [qw,ih fun i hi=>h i (by omega),h n (by omega),qad]
theorem qgq {f g:Nat->F} {n:Nat}:qw (fun i=>f i ^^^ g i) n = qw f n ^^^ qw g n:=by
 induction n with
 | zero=>exact qad.symm
 | succ n ih=>rw [qw,qw,qw,ih,qn5]
theorem qdn {f:Nat->F} {c:F} {n:Nat}:qw (fun i=>qg c (f i)) n = qg c (qw f n):=by
 induction n with
 | zero=>exact qz.symm
 | succ n ih=>rw [qw,qw,ih,qhQ]
theorem qdY {f:Nat->F} {c:F} {n:Nat}:qw (fun i=>qg (f i) c) n = qg (qw f n) c:=by
 rw [qaf,<- qdn]
 exact qk fun i _=>qaf
theorem qhC {f:Nat->F} {n k:Nat} (hk:k < n) (h:∀ i,i < n->i ≠ k->f i = 0):qw f n = f k:=by
 induction n with
 | zero=>omega
 | succ n ih =>
  rw [qw]
  by_cases hkn:k = n
  ·rw [qc3 fun i hi=>h i (by omega) (by omega),hkn,qao]
  ·rw [ih (by omega) fun i hi=>h i (by omega),h n (by omega) (by omega),qad]
theorem qft {f:Nat->Nat->F} {n m:Nat}:qw (fun i=>qw (fun j=>f i j) m) n = qw (fun j=>qw (fun i=>f i j) n) m:=by
 induction n with
 | zero=>exact (qc3 fun _ _=>rfl).symm
 | succ n ih =>
  rw [qw,ih,<- qgq]
  rfl
def del (i j:Nat):F:=if i = j then 1 else 0
theorem qnB {f:Nat->F} {n k:Nat} (hk:k < n):qw (fun i=>qg (del i k) (f i)) n = f k:=by
 rw [qhC hk fun i hi hik=>by rw [del,if_neg hik,qA],del,if_pos rfl,qhR]
theorem qgT {f:Nat->F} {n k:Nat} (hk:k < n):qw (fun i=>qg (f i) (del i k)) n = f k:=by
 rw [qhC hk fun i hi hik=>by rw [del,if_neg hik,qz],del,if_pos rfl,qaS]

abbrev Mat:=Nat->Nat->F
def spans (r w:Nat) (T:Mat) (v:Nat->F):Prop:=∃ x:Nat->F,∀ j,j < w->v j = qw (fun i=>qg (x i) (T i j)) r
theorem qbb {r w:Nat} {T:Mat} {i:Nat} (hi:i < r):spans r w T (T i):=⟨fun a=>del a i,fun j _=>(qnB (f:=fun a=>T a j) hi).symm⟩
theorem qbZ {r w:Nat} {T:Mat} {v v':Nat->F} (h:spans r w T v) (he:∀ j,j < w->v' j = v j):spans r w T v':=by
 obtain ⟨x,hx⟩:=h
 exact ⟨x,fun j hj=>by rw [he j hj,hx j hj]⟩
theorem qri {r w:Nat} {T:Mat} {v v':Nat->F} (h:spans r w T v) (h':spans r w T v'):spans r w T (fun j=>v j ^^^ v' j):=by
 obtain ⟨x,hx⟩:=h
 obtain ⟨y,hy⟩:=h'
 refine ⟨fun i=>x i ^^^ y i,fun j hj=>?_⟩
 show v j ^^^ v' j = _
 rw [hx j hj,hy j hj,<- qgq]
 exact qk fun i _=>qcj.symm
theorem qi1 {r w:Nat} {T:Mat} {v:Nat->F} {c:F} (h:spans r w T v):spans r w T (fun j=>qg c (v j)):=by
 obtain ⟨x,hx⟩:=h
 refine ⟨fun i=>qg c (x i),fun j hj=>?_⟩
 show qg c (v j) = _
 rw [hx j hj,<- qdn]
 exact qk fun i _=>qM.symm
theorem qgw {r w:Nat} {T T':Mat} {v:Nat->F} (h:spans r w T' v) (hr:∀ i,i < r->spans r w T (T' i)):spans r w T v:=by
 obtain ⟨x,hx⟩:=h
 let y:Nat->Nat->F:=fun i=>if h:i < r then (hr i h).choose else fun _=>0
 have hy:∀ i,i < r->∀ j,j < w->T' i j = qw (fun a=>qg (y i a) (T a j)) r:=fun i hi j hj=>by
  simp only [y,dif_pos hi]
  exact (hr i hi).choose_spec j hj
 refine ⟨fun a=>qw (fun i=>qg (x i) (y i a)) r,fun j hj=>?_⟩
 rw [hx j hj,qk fun i hi=>by rw [hy i hi j hj,<- qdn],qft]
 refine qk fun a _=>?_
 rw [<- qdY]
 exact qk fun i _=>qM.symm
structure Same (r w:Nat) (T T':Mat):Prop where
 to:∀ i,i < r->spans r w T (T' i)
 back:∀ i,i < r->spans r w T' (T i)
theorem Same.refl {r w:Nat} {T:Mat}:Same r w T T:=⟨fun i hi=>qbb hi,fun i hi=>qbb hi⟩
theorem Same.trans {r w:Nat} {T T' T'':Mat} (h:Same r w T T') (h':Same r w T' T''):Same r w T T'' :=
 ⟨fun i hi=>qgw (h'.to i hi) h.to,fun i hi=>qgw (h.back i hi) h'.back⟩
theorem Same.symm {r w:Nat} {T T':Mat} (h:Same r w T T'):Same r w T' T:=⟨h.back,h.to⟩
theorem Same.spans {r w:Nat} {T T':Mat} (h:Same r w T T') {v:Nat->F}:spans r w T v↔Go.Proofs.spans r w T' v:=⟨fun hv=>qgw hv h.back,fun hv=>qgw hv h.to⟩
theorem qtb {r w:Nat} {T T':Mat} {i p:Nat} {g:F} (hi:i < r) (hp:p < r) (hip:i ≠ p) (h1:∀ j,j < w->T' i j = T i j ^^^ qg g (T p j)) (h2:∀ a,a < r->a ≠ i->∀ j,j < w->T' a j = T a j):Same r w T T':=by
 refine ⟨fun a ha=>?_,fun a ha=>?_⟩
 ·by_cases hai:a = i
  ·subst hai
   exact qbZ (qri (qbb ha) (qi1 (c:=g) (qbb hp))) h1
  ·exact qbZ (qbb ha) (h2 a ha hai)
 ·by_cases hai:a = i
  ·subst hai
   refine qbZ (qri (qbb ha) (qi1 (c:=g) (qbb hp))) fun j hj=>?_
   rw [h1 j hj,h2 p hp (Ne.symm hip) j hj,qm7]
  ·exact qbZ (qbb ha) fun j hj=>(h2 a ha hai j hj).symm
theorem q2n {r w:Nat} {T T':Mat} {i:Nat} {g:F} (hi:i < r) (hg:g ≠ 0) (h1:∀ j,j < w->T' i j = qg (T i j) g) (h2:∀ a,a < r->a ≠ i->∀ j,j < w->T' a j = T a j):Same r w T T':=by
 refine ⟨fun a ha=>?_,fun a ha=>?_⟩
 ·by_cases hai:a = i
  ·subst hai
   exact qbZ (qi1 (c:=g) (qbb ha)) fun j hj=>by rw [h1 j hj,qaf]
  ·exact qbZ (qbb ha) (h2 a ha hai)
 ·by_cases hai:a = i
  ·subst hai
   refine qbZ (qi1 (c:=qe3 g) (qbb ha)) fun j hj=>?_
   rw [h1 j hj,qaf,qM,qid hg,qaS]
  ·exact qbZ (qbb ha) fun j hj=>(h2 a ha hai j hj).symm
def lead (r w:Nat) (T:Mat) (c:Nat):Prop:=∃ v,spans r w T v/\(∀ j,j < c->v j = 0)/\v c ≠ 0
open Classical in
noncomputable def cnt (r w:Nat) (T:Mat):Nat->Nat
 | 0=>0
 | c + 1=>cnt r w T c + if lead r w T c then 1 else 0
theorem Same.lead {r w:Nat} {T T':Mat} (h:Same r w T T') {c:Nat}:lead r w T c↔Go.Proofs.lead r w T' c:=by
 unfold Go.Proofs.lead
 simp only [h.spans]
theorem q0a {r w:Nat} {T:Mat}:∀ c,cnt r w T c <= c
 | 0=>Nat.le_refl _
 | c + 1=>by
  have:=q0a (r:=r) (w:=w) (T:=T) c
  unfold cnt; split <;> omega
theorem qtK {r w:Nat} {T:Mat} {c:Nat}:∀ d,cnt r w T c <= cnt r w T (c + d)
 | 0=>Nat.le_refl _
 | d + 1=>by
  have:=qtK (r:=r) (w:=w) (T:=T) (c:=c) d
  rw [<- Nat.add_assoc]
  conv=>rhs; unfold cnt
  omega
theorem qhH {r w:Nat} {T:Mat} {c:Nat} (h:lead r w T c):cnt r w T (c + 1) = cnt r w T c + 1:=by rw [cnt,if_pos h]
theorem qqB {r w:Nat} {T:Mat} {c:Nat} (h:¬ lead r w T c):cnt r w T (c + 1) = cnt r w T c:=by rw [cnt,if_neg h]; rfl
theorem qt0 {r w:Nat} {T:Mat} {c c':Nat} (h:lead r w T c) (hlt:c < c'):cnt r w T c < cnt r w T c':=by
 have:=qtK (r:=r) (w:=w) (T:=T) (c:=c + 1) (c' - (c + 1))
 rw [show c + 1 + (c' - (c + 1)) = c' by omega,qhH h] at this
 omega
theorem q4R {r w:Nat} {T:Mat} {c c':Nat} (h:lead r w T c) (h':lead r w T c') (he:cnt r w T c = cnt r w T c'):c = c':=by
 rcases Nat.lt_trichotomy c c' with h1 | h1 | h1
 ·have:=qt0 h h1; omega
 ·exact h1
 ·have:=qt0 h' h1; omega
theorem qkx {r w:Nat} {T:Mat}:∀ {c i:Nat},i < cnt r w T c->∃ c',c' < c/\lead r w T c'/\cnt r w T c' = i
 | 0,i,h=>by simp [cnt] at h
 | c + 1,i,h=>by
  by_cases hl:lead r w T c
  ·rw [qhH hl] at h
   by_cases hi:i = cnt r w T c
   ·exact ⟨c,by omega,hl,hi.symm⟩
   ·obtain ⟨c',h1,h2,h3⟩:=qkx (r:=r) (w:=w) (T:=T) (c:=c) (i:=i) (by omega)
    exact ⟨c',by omega,h2,h3⟩
  ·rw [qqB hl] at h
   obtain ⟨c',h1,h2,h3⟩:=qkx (c:=c) h
   exact ⟨c',by omega,h2,h3⟩
structure Ech (r w:Nat) (T0 T:Mat) (c rank:Nat):Prop where
 same:Same r w T0 T
 num:rank = cnt r w T0 c
 le:rank <= r
 col:∀ c',c' < c->lead r w T0 c'->∀ i,i < r->T i c' = del i (cnt r w T0 c')
 low:∀ i,rank <= i->i < r->∀ c',c' < c->T i c' = 0
theorem q03 {r w:Nat} {T:Mat}:Ech r w T T 0 0:=⟨Same.refl,rfl,Nat.zero_le _,fun c' h=>by omega,fun i _ _ c' h=>by omega⟩
theorem q5w {r w:Nat} {T0 T:Mat} {c rank:Nat} (h:Ech r w T0 T c rank) (hc:c <= w) {v:Nat->F} (hv:spans r w T0 v) (h0:∀ j,j < c->v j = 0) :
  ∃ x:Nat->F,(∀ i,i < rank->x i = 0)/\∀ j,j < w->v j = qw (fun i=>qg (x i) (T i j)) r:=by
 obtain ⟨x,hx⟩:=h.same.spans.1 hv
 refine ⟨x,fun i hi=>?_,hx⟩
 rw [h.num] at hi
 obtain ⟨c',h1,h2,h3⟩:=qkx hi
 have hle:=h.le
 have h4:=hx c' (by omega)
 rw [h0 c' h1,qk fun a ha=>by rw [h.col c' h1 h2 a ha,h3]] at h4
 rw [qgT (f:=x) (by have:=h.num; omega)] at h4
 exact h4.symm
theorem qsZ {r w:Nat} {T0 T:Mat} {c rank:Nat} (h:Ech r w T0 T c rank) (hc:c < w) (hz:∀ i,rank <= i->i < r->T i c = 0):Ech r w T0 T (c + 1) rank:=by
 have hn:¬ lead r w T0 c:=fun ⟨v,h1,h2,h3⟩=>by
  obtain ⟨x,hx,he⟩:=q5w h (by omega) h1 h2
  apply h3
  rw [he c hc]
  refine qc3 fun i hi=>?_
  by_cases hir:i < rank
  ·rw [hx i hir,qA]
  ·rw [hz i (by omega) hi,qz]
 refine ⟨h.same,by rw [qqB hn]; exact h.num,h.le,fun c' hc' hl i hi=>?_,fun i h1 h2 c' hc'=>?_⟩
 ·by_cases he:c' = c
  ·rw [he] at hl; exact (hn hl).elim
  ·exact h.col c' (by omega) hl i hi
 ·by_cases he:c' = c
  ·rw [he]; exact hz i h1 h2
  ·exact h.low i h1 h2 c' (by omega)
theorem q2W {r w:Nat} {T0 T T':Mat} {c rank:Nat} (h:Ech r w T0 T c rank) (hc:c < w) (hr:rank < r) (hs:Same r w T T') (hcol:∀ i,i < r->T' i c = del i rank)
  (hold:∀ c',c' < c->∀ i,i < r->T' i c' = T i c'):Ech r w T0 T' (c + 1) (rank + 1):=by
 have hl:lead r w T0 c:=by
  refine ⟨T' rank,(h.same.trans hs).spans.2 (qbb hr),fun j hj=>?_,?_⟩
  ·rw [hold j hj rank hr]; exact h.low rank (Nat.le_refl _) hr j hj
  ·rw [hcol rank hr,del,if_pos rfl]; decide
 refine ⟨h.same.trans hs,by rw [qhH hl,<- h.num],hr,fun c' hc' hl' i hi=>?_,fun i h1 h2 c' hc'=>?_⟩
 ·by_cases he:c' = c
  ·rw [he,hcol i hi,h.num]
  ·rw [hold c' (by omega) i hi]; exact h.col c' (by omega) hl' i hi
 ·by_cases he:c' = c
  ·rw [he,hcol i h2,del,if_neg (by omega)]
  ·rw [hold c' (by omega) i h2]; exact h.low i (by omega) h2 c' (by omega)
theorem qtA {r w:Nat} {T:Mat}:∀ {n:Nat},cnt r w T n = n->∀ c,c < n->lead r w T c/\cnt r w T c = c
 | 0,_,c,h=>by omega
 | n + 1,he,c,h=>by
  by_cases hl:lead r w T n
  ·rw [qhH hl] at he
   by_cases hc:c = n
   ·exact ⟨by rw [hc]; exact hl,by rw [hc]; omega⟩
   ·exact qtA (n:=n) (by omega) c (by omega)
  ·rw [qqB hl] at he
   have:=q0a (r:=r) (w:=w) (T:=T) n
   omega
theorem qul {r w:Nat} {T0 T:Mat} {n:Nat} (h:Ech r w T0 T n n):∀ i,i < r->∀ c,c < n->T i c = del i c:=fun i hi c hc=>by
 obtain ⟨h1,h2⟩:=qtA h.num.symm c hc
 rw [h.col c hc h1 i hi,h2]
theorem q2t {r w:Nat} {T0 T:Mat} {n rank:Nat} (h:Ech r w T0 T n rank) (hn:n <= w) (hlt:rank < n):∃ y:Nat->F,(∃ c,c < n/\y c ≠ 0)/\∀ i,i < r->qw (fun j=>qg (T0 i j) (y j)) n = 0:=by
 have hex:∃ c,c < n/\¬ lead r w T0 c:=by
  refine Classical.byContradiction fun hno=>?_
  have hall:∀ c,c < n->lead r w T0 c:=fun c hc=>Classical.byContradiction fun hl=>hno ⟨c,hc,hl⟩
  have:∀ c,c <= n->cnt r w T0 c = c:=fun c=>by
   induction c with
   | zero=>intro _; rfl
   | succ c ih=>intro hc; rw [qhH (hall c (by omega)),ih (by omega)]
  have:=this n (Nat.le_refl _)
  have:=h.num
  omega
 obtain ⟨c,hc,hnl⟩:=hex
 let y:Nat->F:=fun j=>open Classical in if j = c then 1 else if lead r w T0 j then T (cnt r w T0 j) c else 0
 have hyc:y c = 1:=by simp [y]
 have hT:∀ i,i < r->qw (fun j=>qg (T i j) (y j)) n = 0:=fun i hi=>by
  have hsplit:qw (fun j=>qg (T i j) (y j)) n = qw (fun j=>qg (if j = c then T i c else 0) 1) n ^^^ qw (fun j=>open Classical in if j ≠ c/\lead r w T0 j then qg (del i (cnt r w T0 j)) (T (cnt r w T0 j) c) else 0) n:=by
   rw [<- qgq]
   refine qk fun j hj=>?_
   by_cases hjc:j = c
   ·subst hjc
    simp only [hyc,qaS,if_true,ne_eq,not_true,false_and,if_false,qad]
   ·simp only [if_neg hjc,qA,qao]
    by_cases hl:lead r w T0 j
    ·rw [if_pos ⟨hjc,hl⟩,h.col j hj hl i hi]; simp only [y,if_neg hjc,if_pos hl]
    ·rw [if_neg fun hh=>hl hh.2]; simp only [y,if_neg hjc,if_neg hl,qz]
  rw [hsplit,qhC hc fun j _ hj=>by rw [if_neg hj,qA],if_pos rfl,qaS]
  by_cases hir:i < rank
  ·rw [h.num] at hir
   obtain ⟨c',h1,h2,h3⟩:=qkx hir
   have hcc:c' ≠ c:=fun e=>hnl (e ▸ h2)
   rw [qhC (k:=c') h1 fun j hj hjc=>?_,if_pos ⟨hcc,h2⟩,h3,del,if_pos rfl,qhR,qa0]
   split
   ·rename_i hh
    rw [del,if_neg,qA]
    intro e
    exact hjc (q4R hh.2 h2 (by rw [h3,e]))
   ·rfl
  ·rw [h.low i (by omega) hi c hc,qao]
   refine qc3 fun j hj=>?_
   split
   ·rename_i hh
    rw [del,if_neg,qA]
    have:=qt0 hh.2 hj
    have:=h.num
    omega
   ·rfl
 refine ⟨y,⟨c,hc,by rw [hyc]; decide⟩,fun i hi=>?_⟩
 obtain ⟨x,hx⟩:=h.same.back i hi
 rw [qk fun j hj=>by rw [hx j (by omega),<- qdY],qft]
 refine qc3 fun a ha=>?_
 rw [qk (g:=fun j=>qg (x a) (qg (T a j) (y j))) fun j _=>qM,qdn,hT a ha,qz]
end Go.Proofs

set_option linter.unusedSimpArgs false
set_option linter.unusedVariables false
namespace Go.Proofs
open Go Go.Eng

def qat (x:F):List F->F
 | []=>0
 | c :: l=>qg (qat x l) x ^^^ c
theorem qge {x:F}:qat x [] = 0:=rfl
theorem qh9 {x c:F}:qat x [c] = c:=by rw [qat,qge,qA,qao]
def qiL (r:F):List F->List F
 | []=>[]
 | [_]=>[]
 | _ :: c' :: l=>qat r (c' :: l) :: qiL r (c' :: l)
theorem qsW {r:F}:∀ {l:List F},(qiL r l).length = l.length - 1
 | []=>rfl
 | [_]=>rfl
 | _ :: c' :: l=>by simp only [qiL,List.length_cons,qsW (l:=c' :: l)]; omega
theorem qtQ {x r:F}:∀ {l:List F},qat x l ^^^ qat r l = qg (x ^^^ r) (qat x (qiL r l))
 | []=>by rw [qiL,qge,qge,qa0,qz]
 | [c]=>by rw [qiL,qh9,qh9,qge,qa0,qz]
 | c :: c' :: l=>by
  have ih:=qtQ (x:=x) (r:=r) (l:=c' :: l)
  rw [qiL,show qat x (c :: c' :: l) = qg (qat x (c' :: l)) x ^^^ c from rfl,show qat r (c :: c' :: l) = qg (qat r (c' :: l)) r ^^^ c from rfl]
  conv=>rhs; rw [qat]
  have h1:∀ a b d:F,a ^^^ b = qg (x ^^^ r) d->qg a x ^^^ c ^^^ (qg b r ^^^ c) = qg (x ^^^ r) (qg d x ^^^ b):=fun a b d h=>by
   rw [qn5,qa0,qad,qhQ (z:=x ^^^ r),<- qM,<- h,qcj,qaf (x:=x ^^^ r),qhQ,<- BitVec.xor_assoc,qm7]
  exact h1 _ _ _ ih
theorem qu9 {r:F}:∀ {l:List F} {c:F},(∀ y ∈ qiL r (c :: l),y = 0)->∀ y ∈ l,y = 0
 | [],_,_=>by simp
 | c' :: l,c,h=>by
  simp only [qiL,List.mem_cons,forall_eq_or_imp] at h
  have ht:=qu9 (l:=l) (c:=c') h.2
  have hh:qat r l = 0:=by
   clear h
   induction l with
   | nil=>rfl
   | cons a l ih=>rw [qat,ih fun y hy=>ht y (List.mem_cons_of_mem _ hy),qA,ht a (List.mem_cons_self ..),qad]
  have h1:=h.1
  rw [qat,hh,qA,qao] at h1
  intro y hy
  rcases List.mem_cons.1 hy with rfl | hy
  ·exact h1
  ·exact ht y hy
theorem qrA {x:F}:∀ {l:List F},(∀ y ∈ l,y = 0)->qat x l = 0
 | [],_=>rfl
 | a :: l,h=>by rw [qat,qrA fun y hy=>h y (List.mem_cons_of_mem _ hy),qA,h a (List.mem_cons_self ..),qad]
def qby (n:Nat) (xs:Nat->F):Prop:=∀ i j,i < n->j < n->xs i = xs j->i = j
theorem qou {xs:Nat->F}:∀ {n:Nat} {l:List F},l.length <= n->qby n xs->(∀ i,i < n->qat (xs i) l = 0)->∀ y ∈ l,y = 0
 | 0,l,hl,_,_=>by
  have:l = []:=List.eq_nil_of_length_eq_zero (by omega)
  rw [this]; simp
 | n + 1,[],_,_,_=>by simp
 | n + 1,c :: t,hl,hd,hr=>by
  simp only [List.length_cons] at hl
  have hq:=qou (n:=n) (l:=qiL (xs n) (c :: t)) (by rw [qsW,List.length_cons]; omega) (fun i j hi hj=>hd i j (by omega) (by omega)) fun i hi=>by
   have h:=qtQ (x:=xs i) (r:=xs n) (l:=c :: t)
   rw [hr i (by omega),hr n (by omega),qa0] at h
   rcases qut.1 h.symm with h1 | h1
   ·have:=hd i n (by omega) (by omega) (qeK.1 h1); omega
   ·exact h1
  have ht:=qu9 hq
  have h1:=hr n (by omega)
  rw [qat,qrA ht,qA,qao] at h1
  intro y hy
  rcases List.mem_cons.1 hy with rfl | hy
  ·exact h1
  ·exact ht y hy
def q7 (n:Nat) (y:Nat->F) (x:F):F:=qw (fun j=>qg (y j) (qaB x j)) n
theorem qrd {x c:F}:∀ {l:List F},qat x (l ++ [c]) = qat x l ^^^ qg c (qaB x l.length)
 | []=>by rw [List.nil_append,qh9,qge,qao,List.length_nil,qaB,qaS]
 | a :: l=>by
  rw [List.cons_append,qat,qrd (l:=l),qat,qcj,List.length_cons,qaB,BitVec.xor_assoc,BitVec.xor_assoc,qM,BitVec.xor_comm a]
theorem qlK {y:Nat->F} {x:F}:∀ n,qat x ((List.range n).map y) = q7 n y x
 | 0=>rfl
 | n + 1=>by
  rw [List.range_succ,List.map_append,List.map_cons,List.map_nil,qrd,qlK n]
  simp [q7,qw]
theorem qkj {n:Nat} {y:Nat->F} {xs:Nat->F} (hd:qby n xs) (h:∀ i,i < n->q7 n y (xs i) = 0):∀ j,j < n->y j = 0:=fun j hj=>by
 have:=qou (l:=(List.range n).map y) (by simp) hd (fun i hi=>by rw [qlK]; exact h i hi) (y j)
 exact this (List.mem_map.2 ⟨j,List.mem_range.2 hj,rfl⟩)
theorem q1H {x:F} {l:List F} {n:Nat} (hl:l.length <= n):qat x l = q7 n (fun j=>l.getD j 0) x:=by
 have h1:∀ m,q7 (l.length + m) (fun j=>l.getD j 0) x = q7 l.length (fun j=>l.getD j 0) x:=fun m=>by
  induction m with
  | zero=>rfl
  | succ m ih =>
   rw [<- Nat.add_assoc,q7,qw]
   rw [show qw (fun j=>qg (l.getD j 0) (qaB x j)) (l.length + m) = q7 (l.length + m) (fun j=>l.getD j 0) x from rfl,ih]
   rw [show l.getD (l.length + m) 0 = 0 by rw [List.getD_eq_getElem?_getD,List.getElem?_eq_none (by omega)]; rfl,qA,qad]
 rw [show n = l.length + (n - l.length) by omega,h1,<- qlK]
 congr 1
 apply List.ext_getElem?
 intro j
 by_cases hj:j < l.length
 ·simp [List.getElem?_range hj,List.getD_eq_getElem?_getD,List.getElem?_eq_getElem hj]
 ·simp [hj]

def qcW (f:Nat->F):Nat->F
 | 0=>1
 | n + 1=>qg (qcW f n) (f n)
theorem q4v {f:Nat->F} {n:Nat} (h:∀ i,i < n->f i ≠ 0):qcW f n ≠ 0:=by
 induction n with
 | zero=>exact (by decide:(1:F) ≠ 0)
 | succ n ih=>exact qkM (ih fun i hi=>h i (by omega)) (h n (by omega))
theorem qph {f:Nat->F} {n k:Nat} (hk:k < n) (h:f k = 0):qcW f n = 0:=by
 induction n with
 | zero=>omega
 | succ n ih =>
  rw [qcW]
  by_cases hkn:k = n
  ·rw [<- hkn,h,qz]
  ·rw [ih (by omega),qA]
def qnJ (r:F):F->List F->List F
 | p,[]=>[p]
 | p,c :: l=>(p ^^^ qg r c) :: qnJ r c l
theorem qvt {r:F}:∀ {p:F} {l:List F},(qnJ r p l).length = l.length + 1
 | _,[]=>rfl
 | _,c :: l=>by simp [qnJ,qvt]
theorem qru {r x:F}:∀ {p:F} {l:List F},qat x (qnJ r p l) = p ^^^ qg (x ^^^ r) (qat x l)
 | p,[]=>by rw [qnJ,qh9,qge,qz,qad]
 | p,c :: l=>by
  rw [qnJ,qat,qru,qat,qcj,qhQ,BitVec.xor_comm _ (p ^^^ qg r c),BitVec.xor_assoc,qcj (x:=x) (y:=r) (z:=c),<- qM]
  congr 1
  rw [qaf (x:=c) (y:=x),<- BitVec.xor_assoc,BitVec.xor_comm (qg r c),BitVec.xor_comm]
theorem qro (xs:Nat->F) (i:Nat):∀ n,∃ l:List F,l.length = (if i < n then n else n + 1)/\∀ x,qat x l = qcW (fun m=>if m = i then 1 else x ^^^ xs m) n
 | 0=>⟨[1],by simp,fun x=>by rw [qh9,qcW]⟩
 | n + 1=>by
  obtain ⟨l,h1,h2⟩:=qro xs i n
  by_cases hn:n = i
  ·subst hn
   refine ⟨l,by rw [h1]; simp,fun x=>by rw [h2,qcW,if_pos rfl,qaS]⟩
  ·refine ⟨qnJ (xs n) 0 l,?_,fun x=>?_⟩
   ·rw [qvt,h1]; split <;> split <;> omega
   ·rw [qru,h2,qcW,if_neg hn,qao,qaf]
def qfW (n:Nat) (xs:Nat->F) (x:F) (i:Nat):F:=qg (qcW (fun m=>if m = i then 1 else x ^^^ xs m) n) (qe3 (qcW (fun m=>if m = i then 1 else xs i ^^^ xs m) n))
theorem q5a {n:Nat} {xs:Nat->F} (hd:qby n xs) {i k:Nat} (hi:i < n) (hk:k < n):qfW n xs (xs k) i = del i k:=by
 unfold qfW del
 by_cases hik:i = k
 ·subst hik
  rw [if_pos rfl,qid]
  refine q4v fun m hm=>?_
  split
  ·decide
  ·rename_i hmi
   exact fun h=>hmi (hd i m hi hm (qeK.1 h)).symm
 ·rw [if_neg hik,qph (k:=k) hk (by rw [if_neg (Ne.symm hik)]; exact qa0),qA]
theorem qjP {n:Nat} {xs:Nat->F} (hd:qby n xs) {y:Nat->F} {x:F}:q7 n y x = qw (fun i=>qg (qfW n xs x i) (q7 n y (xs i))) n:=by
 have hex:∀ i,∃ l:Nat->F,i < n->∀ x,q7 n l x = qfW n xs x i:=fun i=>by
  obtain ⟨l,h1,h2⟩:=qro xs i n
  refine ⟨fun j=>qg (l.getD j 0) (qe3 (qcW (fun m=>if m = i then 1 else xs i ^^^ xs m) n)),fun hi x=>?_⟩
  rw [qfW,<- h2 x,q1H (n:=n) (by rw [h1,if_pos hi]; exact Nat.le_refl _),q7,q7,<- qdY]
  refine qk fun j _=>?_
  rw [qM,qaf (x:=qe3 _),<- qM]
 let lc:Nat->Nat->F:=fun i=>(hex i).choose
 have hlc:∀ i,i < n->∀ x,q7 n (lc i) x = qfW n xs x i:=fun i hi=>(hex i).choose_spec hi
 let S:Nat->F:=fun j=>y j ^^^ qw (fun i=>qg (q7 n y (xs i)) (lc i j)) n
 have hS:∀ x,q7 n S x = q7 n y x ^^^ qw (fun i=>qg (qfW n xs x i) (q7 n y (xs i))) n:=fun x=>by
  have h1:q7 n S x = q7 n y x ^^^ qw (fun j=>qw (fun i=>qg (q7 n y (xs i)) (qg (lc i j) (qaB x j))) n) n:=by
   simp only [q7]
   rw [<- qgq]
   refine qk fun j _=>?_
   simp only [S]
   rw [qcj]
   congr 1
   rw [<- qdY]
   exact qk fun i _=>qM
  rw [h1,qft]
  congr 1
  refine qk fun i hi=>?_
  rw [qdn,<- hlc i hi x,qaf]
  rfl
 have h0:=qkj (y:=S) hd fun k hk=>by
  rw [hS,qk fun i hi=>by rw [q5a hd hi hk],qnB (f:=fun i=>q7 n y (xs i)) hk,qa0]
 have:=hS x
 rw [show q7 n S x = 0 from qc3 fun j hj=>by rw [h0 j hj,qA]] at this
 exact qeK.1 this.symm
theorem qok {n:Nat} {xs:Nat->F} (hd:qby n xs) {y:Nat->F} (h:∀ i,i < n->qw (fun j=>qg (qaB (xs i) j) (y j)) n = 0):∀ j,j < n->y j = 0 :=
 qkj hd fun i hi=>by
  rw [q7,<- h i hi]
  exact qk fun j _=>qaf
end Go.Proofs

set_option linter.unusedSimpArgs false
set_option linter.unusedVariables false
namespace Go.Proofs
open Go Go.Eng

def qx (l:List Int):Prop:=∀ x ∈ l,isB x
theorem qaA {l:List Int} (h:qx l) (i:Nat):isB (l.getD i 0):=by
 rw [List.getD_eq_getElem?_getD]
 by_cases hi:i < l.length
 ·rw [List.getElem?_eq_getElem hi]; exact h _ (List.getElem_mem hi)
 ·rw [List.getElem?_eq_none (by omega)]; exact ⟨by simp,by simp⟩
def qy (ca:Nat) (l:List Int):Mat:=fun i j=>toF (l.getD (i * ca + j) 0)
def qZ (ca cb:Nat) (a b:List Int):Mat:=fun i j=>if j < ca then qy ca a i j else qy cb b i (j - ca)
theorem quB {i i' ca j:Nat} (hj:j < ca):(i * ca <= i' * ca + j/\i' * ca + j < i * ca + ca)↔i' = i:=by
 constructor
 ·intro ⟨h1,h2⟩
  rcases Nat.lt_trichotomy i' i with h | h | h
  ·have:=Nat.mul_le_mul_right ca (show i' + 1 <= i by omega)
   rw [Nat.add_mul,Nat.one_mul] at this; omega
  ·exact h
  ·have:=Nat.mul_le_mul_right ca (show i + 1 <= i' by omega)
   rw [Nat.add_mul,Nat.one_mul] at this; omega
 ·rintro rfl; omega
theorem qfj {i r ca j:Nat} (hi:i < r) (hj:j < ca):i * ca + j < r * ca:=by
 have:=Nat.mul_le_mul_right ca (show i + 1 <= r by omega)
 rw [Nat.add_mul,Nat.one_mul] at this; omega
theorem qo1 {i r ca:Nat} (hi:i < r):i * ca + ca <= r * ca:=by
 have:=Nat.mul_le_mul_right ca (show i + 1 <= r by omega)
 rwa [Nat.add_mul,Nat.one_mul] at this
theorem qed {l s:List Int} {off:Nat} {c:Int} (h:qx l):qx (qae l off s c):=fun x hx=>by
 obtain ⟨i,hi⟩:=List.getElem?_of_mem hx
 rw [qbD] at hi
 obtain ⟨y,hy,rfl⟩:=Option.map_eq_some_iff.1 hi
 split
 ·exact q2R
 ·exact h y (List.mem_of_getElem? hy)
theorem ql8 {l:List Int} {off n:Nat} {c:Int} (h:qx l) (hc:isB c):qx (qaZ l off n c):=fun x hx=>by
 obtain ⟨i,hi⟩:=List.getElem?_of_mem hx
 rw [qeq] at hi
 obtain ⟨y,hy,rfl⟩:=Option.map_eq_some_iff.1 hi
 have:=h y (List.mem_of_getElem? hy)
 split
 ·exact q2P this hc
 ·exact this
theorem qtH {ca r i p:Nat} {a:List Int} {g:Int} (ha:a.length = r * ca) (hb:qx a) (hg:isB g) (hi:i < r) (hp:p < r) {i' j:Nat} (hi':i' < r) (hj:j < ca) :
  qy ca (qae a (i * ca) (seg a (p * ca) ca) g) i' j = if i' = i then qy ca a i j ^^^ qg (toF g) (qy ca a p j) else qy ca a i' j:=by
 have hlt:=qfj hi' hj
 have hsl:(seg a (p * ca) ca).length = ca:=qfz (by rw [ha]; exact qo1 hp)
 unfold qy
 rw [List.getD_eq_getElem?_getD,qbD,List.getElem?_eq_getElem (by omega),Option.map_some,Option.getD_some,hsl]
 by_cases he:i' = i
 ·subst he
  rw [if_pos ⟨by omega,by omega⟩,if_pos rfl,show i' * ca + j - i' * ca = j by omega]
  have hs:(seg a (p * ca) ca).getD j 0 = a.getD (p * ca + j) 0:=by
   rw [List.getD_eq_getElem?_getD,qfy,if_pos hj,List.getD_eq_getElem?_getD]
  rw [hs,qkf,qia hg (qaA hb _),List.getD_eq_getElem?_getD (l:=a) (i:=i' * ca + j),List.getElem?_eq_getElem (by omega),Option.getD_some]
 ·rw [if_neg (fun h=>he ((quB hj).1 h)),if_neg he,List.getD_eq_getElem?_getD,List.getElem?_eq_getElem (by omega),Option.getD_some]
theorem qoZ {ca r i:Nat} {a:List Int} {g:Int} (ha:a.length = r * ca) (hb:qx a) (hg:isB g) (hi:i < r) {i' j:Nat} (hi':i' < r) (hj:j < ca) :
  qy ca (qaZ a (i * ca) ca g) i' j = if i' = i then qg (qy ca a i j) (toF g) else qy ca a i' j:=by
 have hlt:=qfj hi' hj
 unfold qy
 rw [List.getD_eq_getElem?_getD,qeq,List.getElem?_eq_getElem (by omega),Option.map_some,Option.getD_some]
 by_cases he:i' = i
 ·subst he
  rw [if_pos ⟨by omega,by omega⟩,if_pos rfl,List.getD_eq_getElem?_getD,List.getElem?_eq_getElem (by omega),Option.getD_some,qia (hb _ (List.getElem_mem _)) hg]
 ·rw [if_neg (fun h=>he ((quB hj).1 h)),if_neg he,List.getD_eq_getElem?_getD,List.getElem?_eq_getElem (by omega),Option.getD_some]
structure Two (r ca cb:Nat) (a b:List Int):Prop where
 la:a.length = r * ca
 lb:b.length = r * cb
 ba:qx a
 bb:qx b
variable {r ca cb:Nat} {a b:List Int}
theorem Two.add (h:Two r ca cb a b) {i p:Nat} {g:Int}:Two r ca cb (qae a (i * ca) (seg a (p * ca) ca) g) (qae b (i * cb) (seg b (p * cb) cb) g) :=
 ⟨by rw [qc0,h.la],by rw [qc0,h.lb],qed h.ba,qed h.bb⟩
theorem Two.scale (h:Two r ca cb a b) {i:Nat} {g:Int} (hg:isB g):Two r ca cb (qaZ a (i * ca) ca g) (qaZ b (i * cb) cb g) :=
 ⟨by rw [qjX,h.la],by rw [qjX,h.lb],ql8 h.ba hg,ql8 h.bb hg⟩
theorem qxp (h:Two r ca cb a b) {i p:Nat} {g:Int} (hg:isB g) (hi:i < r) (hp:p < r) {i' j:Nat} (hi':i' < r) (hj:j < ca + cb) :
  qZ ca cb (qae a (i * ca) (seg a (p * ca) ca) g) (qae b (i * cb) (seg b (p * cb) cb) g) i' j = if i' = i then qZ ca cb a b i j ^^^ qg (toF g) (qZ ca cb a b p j) else qZ ca cb a b i' j:=by
 unfold qZ
 by_cases hjc:j < ca
 ·simp only [if_pos hjc]; exact qtH h.la h.ba hg hi hp hi' hjc
 ·simp only [if_neg hjc]; exact qtH h.lb h.bb hg hi hp hi' (by omega)
theorem q0y (h:Two r ca cb a b) {i:Nat} {g:Int} (hg:isB g) (hi:i < r) {i' j:Nat} (hi':i' < r) (hj:j < ca + cb) :
  qZ ca cb (qaZ a (i * ca) ca g) (qaZ b (i * cb) cb g) i' j = if i' = i then qg (qZ ca cb a b i j) (toF g) else qZ ca cb a b i' j:=by
 unfold qZ
 by_cases hjc:j < ca
 ·simp only [if_pos hjc]; exact qoZ h.la h.ba hg hi hi' hjc
 ·simp only [if_neg hjc]; exact qoZ h.lb h.bb hg hi hi' (by omega)
theorem qdQ {c i:Nat} (hc:c < ca):qZ ca cb a b i c = toF (a.getD (i * ca + c) 0):=by rw [qZ,if_pos hc,qy]
theorem qr7 (a:List Int) (ca c:Nat):∀ n p,p <= qcX a ca c p n/\qcX a ca c p n <= p + n/\(qcX a ca c p n < p + n->a.getD (qcX a ca c p n * ca + c) 0 ≠ 0)/\∀ i,p <= i->i < qcX a ca c p n->a.getD (i * ca + c) 0 = 0
 | 0,p=>by simp only [qcX]; exact ⟨Nat.le_refl _,Nat.le_refl _,fun h=>by omega,fun i h1 h2=>by omega⟩
 | n + 1,p=>by
  obtain ⟨h1,h2,h3,h4⟩:=qr7 a ca c n (p + 1)
  simp only [qcX]
  split
  ·rename_i hz
   refine ⟨by omega,by omega,fun h=>h3 (by omega),fun i hi1 hi2=>?_⟩
   by_cases hip:i = p
   ·rw [hip]; exact hz
   ·exact h4 i (by omega) hi2
  ·rename_i hz
   exact ⟨Nat.le_refl _,by omega,fun _=>hz,fun i h1 h2=>by omega⟩
theorem Two.rows (h:Two r ca cb a b) {rank c:Nat}:∀ i,Two r ca cb (qa1 ca cb rank c a b i).1 (qa1 ca cb rank c a b i).2
 | 0=>h
 | i + 1=>by
  have ih:=Two.rows h (rank:=rank) (c:=c) i
  simp only [qa1]
  split
  ·exact ih
  ·exact ih.add
theorem qsM (h:Two r ca cb a b) {rank c:Nat} (hr:rank < r) (hc:c < ca):∀ i,i <= r ->
  (∀ i' j,i' < r->j < ca + cb->qZ ca cb (qa1 ca cb rank c a b i).1 (qa1 ca cb rank c a b i).2 i' j = if i' < i/\i' ≠ rank then qZ ca cb a b i' j ^^^ qg (qZ ca cb a b i' c) (qZ ca cb a b rank j) else qZ ca cb a b i' j) /\
  Same r (ca + cb) (qZ ca cb a b) (qZ ca cb (qa1 ca cb rank c a b i).1 (qa1 ca cb rank c a b i).2)
 | 0,_=>⟨fun i' j _ _=>by rw [if_neg (by omega)]; rfl,Same.refl⟩
 | i + 1,hi=>by
  obtain ⟨ih,ihs⟩:=qsM h hr hc i (by omega)
  have hT:=h.rows (rank:=rank) (c:=c) i
  simp only [qa1]
  by_cases hir:i = rank
  ·rw [if_pos hir]
   refine ⟨fun i' j hi' hj=>?_,ihs⟩
   rw [ih i' j hi' hj]
   by_cases h1:i' < i/\i' ≠ rank
   ·rw [if_pos h1,if_pos ⟨by omega,h1.2⟩]
   ·rw [if_neg h1,if_neg (by omega)]
  ·rw [if_neg hir]
   simp only
   have hg:=qaA hT.ba (i * ca + c)
   have hgv:toF ((qa1 ca cb rank c a b i).1.getD (i * ca + c) 0) = qZ ca cb a b i c:=by
    rw [<- qdQ (cb:=cb) (b:=(qa1 ca cb rank c a b i).2) hc,ih i c (by omega) (by omega),if_neg (by omega)]
   have hstep:=fun i' j (hi':i' < r) (hj:j < ca + cb)=>qxp hT (g:=(qa1 ca cb rank c a b i).1.getD (i * ca + c) 0) hg (show i < r by omega) hr hi' hj
   refine ⟨fun i' j hi' hj=>?_,ihs.trans (qtb (i:=i) (p:=rank) (g:=toF ((qa1 ca cb rank c a b i).1.getD (i * ca + c) 0)) (by omega) hr hir (fun j hj=>by rw [hstep i j (by omega) hj,if_pos rfl]) fun a' ha' hne j hj=>by rw [hstep a' j ha' hj,if_neg hne])⟩
   rw [hstep i' j hi' hj]
   by_cases he:i' = i
   ·subst he
    rw [if_pos rfl,hgv,ih i' j hi' hj,if_neg (by omega),ih rank j hr hj,if_neg (by omega),if_pos ⟨by omega,hir⟩]
   ·rw [if_neg he,ih i' j hi' hj]
    by_cases h1:i' < i/\i' ≠ rank
    ·rw [if_pos h1,if_pos ⟨by omega,h1.2⟩]
    ·rw [if_neg h1,if_neg (by omega)]
theorem q0d {T0:Mat} {c rank:Nat} (h2:Two r ca cb a b) (h:Ech r (ca + cb) T0 (qZ ca cb a b) c rank) (hc:c < ca) :
  Two r ca cb (qcM r ca cb c (a,b,rank)).1 (qcM r ca cb c (a,b,rank)).2.1/\Ech r (ca + cb) T0 (qZ ca cb (qcM r ca cb c (a,b,rank)).1 (qcM r ca cb c (a,b,rank)).2.1) (c + 1) (qcM r ca cb c (a,b,rank)).2.2:=by
 unfold qcM
 simp only
 by_cases hr:r <= rank
 ·rw [if_pos hr]
  exact ⟨h2,qsZ h (by omega) fun i (h1:rank <= i) h3=>by omega⟩
 rw [if_neg hr]
 obtain ⟨p1,p2,p3,p4⟩:=qr7 a ca c (r - rank) rank
 by_cases hp:qcX a ca c rank (r - rank) = r
 ·rw [if_pos hp]
  refine ⟨h2,qsZ h (by omega) fun i (h1:rank <= i) h3=>?_⟩
  rw [qdQ hc,p4 i h1 (by omega)]; rfl
 rw [if_neg hp]
 simp only
 generalize hpv:qcX a ca c rank (r - rank) = p at p1 p2 p3 p4 hp
 have hpr:p < r:=by omega
 have hnz:=p3 (by omega)
 have hmid:qgl r ca cb c (a,b,rank) = qgX ca cb rank c (qb7 ca cb rank p a b).1 (qb7 ca cb rank p a b).2:=by
  unfold qgl; simp only [hpv]
 -- the pivot's row is added
 have h1:Two r ca cb (qb7 ca cb rank p a b).1 (qb7 ca cb rank p a b).2/\Same r (ca + cb) (qZ ca cb a b) (qZ ca cb (qb7 ca cb rank p a b).1 (qb7 ca cb rank p a b).2) /\
   qZ ca cb (qb7 ca cb rank p a b).1 (qb7 ca cb rank p a b).2 rank c ≠ 0/\(∀ i j,i < r->j < ca + cb->i ≠ rank->qZ ca cb (qb7 ca cb rank p a b).1 (qb7 ca cb rank p a b).2 i j = qZ ca cb a b i j) /\
   ∀ c',c' < c->qZ ca cb (qb7 ca cb rank p a b).1 (qb7 ca cb rank p a b).2 rank c' = 0:=by
  have hpc:qZ ca cb a b p c ≠ 0:=by
   rw [qdQ hc]
   intro h0
   exact hnz ((qeH (qaA h2.ba _)).1 h0)
  unfold qb7
  by_cases hpe:p = rank
  ·rw [if_pos hpe]
   exact ⟨h2,Same.refl,by rw [<- hpe]; exact hpc,fun _ _ _ _ _=>rfl,fun c' hc'=>h.low rank (Nat.le_refl _) (by omega) c' hc'⟩
  ·rw [if_neg hpe]
   have hst:=fun i' j (hi':i' < r) (hj:j < ca + cb)=>qxp h2 (g:=1) ⟨by omega,by omega⟩ (show rank < r by omega) hpr hi' hj
   have h1:toF 1 = 1:=rfl
   refine ⟨h2.add,qtb (i:=rank) (p:=p) (g:=toF 1) (by omega) hpr (Ne.symm hpe) (fun j hj=>by simp only; rw [hst rank j (by omega) hj,if_pos rfl]) (fun a' ha' hne j hj=>by simp only; rw [hst a' j ha' hj,if_neg hne]),?_,fun i j hi hj hne=>by simp only; rw [hst i j hi hj,if_neg hne],fun c' hc'=>?_⟩
   ·simp only
    rw [hst rank c (by omega) (by omega),if_pos rfl,h1,qhR]
    rw [qdQ hc (i:=rank),p4 rank (Nat.le_refl _) (by omega),qug,qao]
    exact hpc
   ·simp only
    rw [hst rank c' (by omega) (by omega),if_pos rfl,h1,qhR,h.low rank (Nat.le_refl _) (by omega) c' hc',h.low p (by omega) hpr c' hc',qad]
 rw [hmid]
 generalize qb7 ca cb rank p a b = s1 at h1
 obtain ⟨t1,same1,nz1,oth1,low1⟩:=h1
 -- it is scaled
 have hgB:=q3J (qaA t1.ba (rank * ca + c))
 have hgv:toF (qfR (s1.1.getD (rank * ca + c) 0)) = qe3 (qZ ca cb s1.1 s1.2 rank c):=by rw [q3S (qaA t1.ba _),qdQ hc]
 have t2:Two r ca cb (qgX ca cb rank c s1.1 s1.2).1 (qgX ca cb rank c s1.1 s1.2).2:=t1.scale hgB
 have hsc:∀ i j,i < r->j < ca + cb->qZ ca cb (qgX ca cb rank c s1.1 s1.2).1 (qgX ca cb rank c s1.1 s1.2).2 i j = if i = rank then qg (qZ ca cb s1.1 s1.2 rank j) (qe3 (qZ ca cb s1.1 s1.2 rank c)) else qZ ca cb s1.1 s1.2 i j:=fun i j hi hj=>by
  rw [<- hgv]
  exact q0y t1 hgB (by omega) hi hj
 generalize qgX ca cb rank c s1.1 s1.2 = s2 at t2 hsc
 have same2:Same r (ca + cb) (qZ ca cb s1.1 s1.2) (qZ ca cb s2.1 s2.2):=q2n (i:=rank) (g:=qe3 (qZ ca cb s1.1 s1.2 rank c)) (by omega) (q5K nz1) (fun j hj=>by rw [hsc rank j (by omega) hj,if_pos rfl]) fun a' ha' hne j hj=>by rw [hsc a' j ha' hj,if_neg hne]
 have one2:qZ ca cb s2.1 s2.2 rank c = 1:=by rw [hsc rank c (by omega) (by omega),if_pos rfl,qid nz1]
 have low2:∀ c',c' < c->qZ ca cb s2.1 s2.2 rank c' = 0:=fun c' hc'=>by rw [hsc rank c' (by omega) (by omega),if_pos rfl,low1 c' hc',qA]
 have oth2:∀ i j,i < r->j < ca + cb->i ≠ rank->qZ ca cb s2.1 s2.2 i j = qZ ca cb a b i j:=fun i j hi hj hne=>by rw [hsc i j hi hj,if_neg hne,oth1 i j hi hj hne]
 -- the others are cleared
 obtain ⟨r3,same3⟩:=qsM t2 (rank:=rank) (c:=c) (by omega) hc r (Nat.le_refl _)
 refine ⟨t2.rows r,q2W h (by omega) (by omega) ((same1.trans same2).trans same3) (fun i hi=>?_) fun c' hc' i hi=>?_⟩
 ·rw [r3 i c hi (by omega),one2,qaS]
  by_cases hir:i = rank
  ·rw [if_neg (by omega),hir,one2,del,if_pos rfl]
  ·rw [if_pos ⟨hi,hir⟩,qa0,del,if_neg hir]
 ·rw [r3 i c' hi (by omega),low2 c' hc',qz,qad]
  by_cases hir:i = rank
  ·rw [if_neg (by omega),hir,low2 c' hc',h.low rank (Nat.le_refl _) (by omega) c' hc']
  ·rw [if_pos ⟨hi,hir⟩,oth2 i c' hi (by omega) hir]
theorem qtz (h:Two r ca cb a b):∀ c,c <= ca->Two r ca cb (qbV r ca cb a b c).1 (qbV r ca cb a b c).2.1/\Ech r (ca + cb) (qZ ca cb a b) (qZ ca cb (qbV r ca cb a b c).1 (qbV r ca cb a b c).2.1) c (qbV r ca cb a b c).2.2
 | 0,_=>⟨h,q03⟩
 | c + 1,hc=>by
  obtain ⟨h1,h2⟩:=qtz h c (by omega)
  rw [qbV]
  exact q0d h1 h2 (by omega)
end Go.Proofs

set_option linter.unusedSimpArgs false
set_option linter.unusedVariables false
namespace Go.Proofs
open Go Go.Eng
theorem q4N {d:qf} (h:qx (bI d)):q9 d:=fun row hr=>h (qbs row 0) (List.mem_map.2 ⟨row,hr,rfl⟩)
end Go.Proofs

set_option linter.unusedSimpArgs false
set_option linter.unusedVariables false
namespace Go.Proofs
open Go Go.Eng
set_option maxRecDepth 20000
theorem qvU {k n t s:Int} {o:List Int} (h:o.length = 32):(qaF k n t s o).length = 39:=by simp [qaF,qaE,h]
theorem q4A:idC.ok Tryz.prog:=q78 (by simp [q1D,ql1]) fun ρ hg hp=>by
 obtain ⟨⟨hl,hO,hD⟩,hGr,hGd⟩:=hp
 simp (config:={ maxSteps:=2000000 }) [q3E,idC,qpn,qd2,qaK,qn9,qiW,qaY,gOk,quy,qzO,qmt]
 refine ⟨⟨by omega,hl,hO,hD⟩,fun l _ c _ d _ hok hl2 hB hd=>?_⟩
 have hd:bI d.d = qaF (ρ 0).i (ρ 1).i (ρ 2).i (ρ 3).i (qd (ρ 4).d 32) ++ (dgs (ρ 8).d).flatten:=hd
 have hb:=hok
 simp [qG,qbi] at hb
 have hlen:=congrArg List.length hd
 rw [List.length_append,qcN q6J,q5E,bI_len,qvU qdo] at hlen
 refine fun hc=>⟨⟨⟨by omega,by omega,by omega,by omega,hB⟩,hGr,hGd⟩,fun x _ hx=>⟨hok,?_⟩⟩
 have hx:qd x.d 32 = sha (qaF (ρ 0).i (ρ 1).i (ρ 2).i (ρ 3).i (qd (ρ 4).d 32) ++ (dgs (ρ 8).d).flatten):=by
  rw [hx,qcn,hd.symm]
  simp only [Int.toNat_zero,List.drop_zero]
  rw [List.take_of_length_le (by rw [bI_len]; omega)]
 exact hx
end Go.Proofs

set_option linter.unusedSimpArgs false
set_option linter.unusedVariables false
set_option maxRecDepth 100000
namespace Go.Proofs
open Go Go.Eng

def qnQ:Out:=(.fresh 18 (.fresh 19 (.pre 0 (sg 0 [bv 9 9,bv 8 8,bv 7 7,bv 6 6,bg 5 5,bv 3 3,bv 2 2,bv 1 1,bv 0 0,bt 4 (r8 4)]) (.both (.fresh 20 (.post 0 0 (sg 0 [bv 9 9,bv 8 8,bv 7 7,bv 6 6,bg 5 5,bv 3 3,bv 2 2,bv 1 1,bv 0 0,bt 4 (r8 4)]) 20 (.br (.cmp .neq (.var 20) (.lit 0))
 (.ret 0 (sg 18 [bv 18 20]))
 (.br (.cmp .lss (.var 10) (.lit 0))
 (.ret 0 (sg 18 [bt 18 (.lit 2)]))
 (.br (.cmp .geq (.var 10) (.var 2))
 (.ret 0 (sg 18 [bt 18 (.lit 2)]))
 (.pre 1 (sg 0 [bv 1 3,bv 0 0]) (.both (.fresh 21 (.fresh 22 (.post 1 0 (sg 0 [bv 1 3,bv 0 0]) 21 (.need (.cmp .leq (.lit 0) (.var 12)) (.br (.cmp .neq (.var 12) (.var 21))
 (.ret 0 (sg 18 [bt 18 (.lit 10)]))
 (.need (.cmp .leq (.lit 0) (.var 10)) (.need (.cmp .lss (.var 10) (.var 6)) (.need (.cmp .lss (.var 10) (.dlen (.var 8))) (.both (.pre 2 (sg 0 [bv 8 17,bv 6 15,bv 5 14,bv 4 13,bv 3 12,bt 2 (.lit 0),bg 1 11,bv 0 10,bg 7 16]) (.both (.fresh 23 (.post 2 0 (sg 0 [bv 8 17,bv 6 15,bv 5 14,bv 4 13,bv 3 12,bt 2 (.lit 0),bg 1 11,bv 0 10,bg 7 16]) 23 (.br (.not (.c2 .req (r8 23) (.rcons (i8 8 10 0) (.rcons (i8 8 10 1) (.rcons (i8 8 10 2) (.rcons (i8 8 10 3) (.rcons (i8 8 10 4) (.rcons (i8 8 10 5) (.rcons (i8 8 10 6) (.rcons (i8 8 10 7) (.rcons (i8 8 10 8) (.rcons (i8 8 10 9) (.rcons (i8 8 10 10) (.rcons (i8 8 10 11) (.rcons (i8 8 10 12) (.rcons (i8 8 10 13) (.rcons (i8 8 10 14) (.rcons (i8 8 10 15) (.rcons (i8 8 10 16) (.rcons (i8 8 10 17) (.rcons (i8 8 10 18) (.rcons (i8 8 10 19) (.rcons (i8 8 10 20) (.rcons (i8 8 10 21) (.rcons (i8 8 10 22) (.rcons (i8 8 10 23) (.rcons (i8 8 10 24) (.rcons (i8 8 10 25) (.rcons (i8 8 10 26) (.rcons (i8 8 10 27) (.rcons (i8 8 10 28) (.rcons (i8 8 10 29) (.rcons (i8 8 10 30) (.rcons (i8 8 10 31) .rnil))))))))))))))))))))))))))))))))))
 (.ret 0 (sg 18 [bt 18 (.lit 20)]))
 (.ret 0 (sg 18 [bt 18 (.lit 0)]))))) .top)) .top))))))))) .top))))))) .top))))
theorem qvF:ql ⟨Tryz.prog,qd5,[qbP,qbh,qbg],[]⟩ 100000 Tryz.f60 = qnQ:=by kernel_rfl
theorem q1Q (hd:∀ c ∈ ([qbP,qbh,qbg]:List Ctr),c.ok Tryz.prog) (h:∀ ρ:Env,ρ.good->(qd5).pre ρ->qnQ.den ⟨Tryz.prog,qd5,[qbP,qbh,qbg],[]⟩ ρ):(qd5).ok Tryz.prog :=
 qe Tryz.func60 (fun a w=>Tryz.call60 a w) hd 100000 (fun ρ hg hp=>by rw [qvF]; exact h ρ hg hp)
end Go.Proofs

set_option linter.unusedSimpArgs false
set_option linter.unusedVariables false
set_option maxRecDepth 100000
namespace Go.Proofs
open Go Go.Eng

end Go.Proofs

set_option linter.unusedSimpArgs false
set_option linter.unusedVariables false
namespace Go.Proofs
open Go Go.Eng
end Go.Proofs

set_option linter.unusedSimpArgs false
set_option linter.unusedVariables false
namespace Go.Proofs
open Go Go.Eng

end Go.Proofs

set_option linter.unusedSimpArgs false
set_option linter.unusedVariables false
namespace Go.Proofs
open Go Go.Eng
set_option maxRecDepth 20000
theorem q2m {k n t s l i:Int} {D:List (List Int)} {m:List Int} (h:qG k n t s l = false):2 = qcm k n t s l D i m:=by rw [qcm,if_pos h]
theorem quF {k n t s l i:Int} {D:List (List Int)} {m:List Int} (h:qG k n t s l = true) (hi:i < 0∨t <= i):2 = qcm k n t s l D i m:=by rw [qcm,if_neg (by rw [h]; decide),if_pos hi]
theorem q3m {k n t s l i:Int} {D:List (List Int)} {m:List Int} (h:qG k n t s l = true) (h0:0 <= i) (h1:i < t) (hl:(m.length:Int) ≠ qez k s):10 = qcm k n t s l D i m:=by rw [qcm,if_neg (by rw [h]; decide),if_neg (by omega),if_pos hl]
theorem q38 {k n t s l i:Int} {D:List (List Int)} {m:List Int} (h:qG k n t s l = true) (h0:0 <= i) (h1:i < t) (hl:(m.length:Int) = qez k s) (hs:sha (qcd i ++ m) ≠ D.getD i.toNat []):20 = qcm k n t s l D i m:=by rw [qcm,if_neg (by rw [h]; decide),if_neg (by omega),if_neg (fun h=>h hl),if_pos hs]
theorem q5j {k n t s l i:Int} {D:List (List Int)} {m:List Int} (h:qG k n t s l = true) (h0:0 <= i) (h1:i < t) (hl:(m.length:Int) = qez k s) (hs:sha (qcd i ++ m) = D.getD i.toNat []):0 = qcm k n t s l D i m:=by rw [qcm,if_neg (by rw [h]; decide),if_neg (by omega),if_neg (fun h=>h hl),if_neg (fun h=>h hs)]
theorem qzD {k n t s l:Int} (h:qG k n t s l = true):¬ qff k s:=by
 simp [qG,qbi] at h
 unfold qff; omega
set_option maxHeartbeats 1000000 in
theorem q1R:qd5.ok Tryz.prog:=q1Q (by simp [qrf,qpx,qor]) fun ρ hg hp=>by
 obtain ⟨⟨i0,i3,hl,hD,hpl,hpc,hp1,hB⟩,hGr,hGd⟩:=hp
 simp only [Nat.reduceAdd] at hpl hpc hp1 hB
 simp (config:={ maxSteps:=4000000,contextual:=true }) [qnQ,qd5,qpE,qbP,qbh,qbg,qn9,qiW,qaY,gOk,hGr,hGd,hB,hD,hl,hpl]
 refine fun u _ hu=>⟨q2m,fun hok=>⟨fun h0=>quF hok (.inl h0),fun h0=>⟨fun ht=>quF hok (.inr ht),fun ht l _ e _ _ hgood=>?_⟩⟩⟩
 have hlen:=(hgood (qzD hok)).1
 have hml:(bI (ρ 14).d).length = (ρ 14).d.length:=bI_len
 have htl:(ρ 2).i = (ρ 8).d.length:=by simp [qG] at hok; omega
 have hrow:qsv (ρ 8).d (ρ 10).i = (dgs (ρ 8).d).getD (ρ 10).i.toNat []:=q0o h0 (by omega)
 refine ⟨fun hne=>q3m hok h0 ht (by rw [hml,qez,<- hlen]; exact hne),fun heq=>⟨by omega,⟨by omega,by omega,by omega⟩,fun x _ hx=>?_⟩⟩
 rw [qkz heq.symm,hrow]
 exact ⟨fun hn=>q38 hok h0 ht (by rw [hml,qez,<- hlen]; exact heq) hn,fun he=>q5j hok h0 ht (by rw [hml,qez,<- hlen]; exact heq) he⟩
end Go.Proofs

set_option linter.unusedSimpArgs false
set_option linter.unusedVariables false
namespace Go.Proofs
open Go Go.Eng

theorem qti {k n:Nat} (hk:0 < k):n <= k * qD k n:=by
 unfold qD
 have h1:=Nat.div_add_mod (n + k - 1) k
 have h2:=Nat.mod_lt (n + k - 1) hk
 omega
theorem q0w {n:Nat}:(qay n n).length = n * n:=by simp [qay]
theorem q0l {n i:Nat} (hi:i < n * n):(qay n n).getD i 0 = if i / n = i % n then 1 else 0:=by
 have hn:0 < n:=by
  cases n with
  | zero=>simp at hi
  | succ n=>omega
 rw [List.getD_eq_getElem?_getD,qay,List.getElem?_map,List.getElem?_range hi]
 simp only [Option.map_some,Option.getD_some]
 have:i / n < n:=Nat.div_lt_of_lt_mul hi
 by_cases h:i / n = i % n
 ·rw [if_pos ⟨h,this⟩,if_pos h]
 ·rw [if_neg (fun hh=>h hh.1),if_neg h]
theorem qiV {i n j:Nat} (hj:j < n):(i * n + j) / n = i/\(i * n + j) % n = j:=by
 have hn:0 < n:=by omega
 constructor
 ·rw [Nat.mul_comm,Nat.mul_add_div hn,Nat.div_eq_of_lt hj,Nat.add_zero]
 ·rw [Nat.mul_comm,Nat.mul_add_mod,Nat.mod_eq_of_lt hj]
theorem qw7 {n:Nat}:qx (qay n n):=fun x hx=>by
 simp only [qay,List.mem_map] at hx
 obtain ⟨i,_,rfl⟩:=hx
 split <;> exact ⟨by omega,by omega⟩
theorem qrw {n i j:Nat} (hi:i < n) (hj:j < n):qy n (qay n n) i j = del i j:=by
 obtain ⟨h1,h2⟩:=qiV (i:=i) hj
 rw [qy,q0l (qfj hi hj),h1,h2,del]
 split <;> rfl
theorem qyR {r c:Nat}:(qbr r c).length = r * c:=by simp [qbr,qch]
theorem qzK {r c i j:Nat} (hi:i < r) (hj:j < c):(qbr r c).getD (i * c + j) 0 = qgY (i:Int) (j:Int):=by
 obtain ⟨h1,h2⟩:=qiV (i:=i) hj
 have hlt:=qfj hi hj
 rw [List.getD_eq_getElem?_getD,qbr,qch,List.getElem?_map,List.getElem?_range hlt]
 simp only [Option.map_some,Option.getD_some]
 rw [if_pos hlt,qmm,h1,h2]
def xsF (m:Nat):F:=toF (m:Int)
theorem qow {r c i j:Nat} (hr:r <= 256) (hi:i < r) (hj:j < c) (hc:c < 9223372036854775808):qy c (qbr r c) i j = qaB (xsF i) j:=by
 rw [qy,qzK hi hj,q1n ⟨by omega,by omega⟩ (by omega),qj0,Int.toNat_natCast]; rfl
theorem qlF {r c:Nat} (hr:r <= 256) (hc:c < 9223372036854775808):qx (qbr r c):=fun x hx=>by
 simp only [qbr,qch,List.mem_map,List.mem_range] at hx
 obtain ⟨i,hi,rfl⟩:=hx
 rw [if_pos hi]
 have hc0:0 < c:=by
  cases c with
  | zero=>simp at hi
  | succ c=>omega
 have h1:i / c < r:=Nat.div_lt_of_lt_mul (by rwa [Nat.mul_comm] at hi)
 have h2:=Nat.mod_lt i hc0
 have h3:((i / c:Nat):Int) < 256:=by omega
 exact q3H ⟨Int.natCast_nonneg _,h3⟩ (by omega)
theorem qeO {n:Nat} (hn:n <= 256):qby n xsF:=fun i j hi hj h=>by
 have:=qqQ (x:=(i:Int)) (y:=(j:Int)) ⟨by omega,by omega⟩ ⟨by omega,by omega⟩ h
 omega
theorem qxA {l:List Int} {n:Nat} (h:qx l):qx (l.take n):=fun x hx=>h x (List.mem_of_mem_take hx)
theorem q2I {l:List Int} {n c i j:Nat} (hi:i < n) (hj:j < c):qy c (l.take (n * c)) i j = qy c l i j:=by
 have hlt:=qfj hi hj
 rw [qy,qy,List.getD_eq_getElem?_getD,List.getD_eq_getElem?_getD,List.getElem?_take,if_pos hlt]

theorem qi7 {ca cb:Nat} {a b:List Int} {i j:Nat}:qZ ca cb a b i (ca + j) = qy cb b i j:=by
 rw [qZ,if_neg (by omega),show ca + j - ca = j by omega]
theorem qpQ {n:Nat} {a A B:List Int} (h:Ech n (n + n) (qZ n n a (qay n n)) (qZ n n A B) n n) :
  (∀ i j,i < n->j < n->qw (fun l=>qg (qy n B i l) (qy n a l j)) n = del i j)/\∀ i j,i < n->j < n->qw (fun l=>qg (qy n a i l) (qy n B l j)) n = del i j:=by
 refine ⟨fun i j hi hj=>?_,fun i j hi hj=>?_⟩
 ·obtain ⟨x,hx⟩:=h.same.to i hi
  have hxB:∀ l,l < n->x l = qy n B i l:=fun l hl=>by
   have h1:=hx (n + l) (by omega)
   rw [qi7,qk fun m hm=>by rw [qi7,qrw hm hl],qgT (f:=x) hl] at h1
   exact h1.symm
  have h2:=hx j (by omega)
  rw [qul h i hi j hj,qk fun m hm=>by rw [hxB m hm,qdQ hj]] at h2
  exact h2.symm
 ·obtain ⟨x,hx⟩:=h.same.back i hi
  have hxa:∀ l,l < n->x l = qy n a i l:=fun l hl=>by
   have h1:=hx l (by omega)
   rw [qdQ hl,qk fun m hm=>by rw [qul h m hm l hl],qgT (f:=x) hl] at h1
   exact h1.symm
  have h2:=hx (n + j) (by omega)
  rw [qi7,qrw hi hj,qk fun m hm=>by rw [hxa m hm,qi7]] at h2
  exact h2.symm
theorem q13 {n:Nat} {m:List Int} (hl:m.length = n * n) (hb:qx m):Two n n n m (qay n n):=⟨hl,q0w,hb,qw7⟩
theorem qmk {n:Nat} {m:List Int} (hl:m.length = n * n) (hb:qx m):Two n n n (qe4 m n).1 (qe4 m n).2.1/\Ech n (n + n) (qZ n n m (qay n n)) (qZ n n (qe4 m n).1 (qe4 m n).2.1) n (qe4 m n).2.2 :=
 qtz (q13 hl hb) n (Nat.le_refl _)
theorem qs9 {n:Nat} {m:List Int} (hl:m.length = n * n) (hb:qx m) (h:∀ y:Nat->F,(∀ i,i < n->qw (fun j=>qg (qy n m i j) (y j)) n = 0)->∀ j,j < n->y j = 0):(qe4 m n).2.2 = n:=by
 obtain ⟨_,he⟩:=qmk hl hb
 refine Classical.byContradiction fun hne=>?_
 have hlt:(qe4 m n).2.2 < n:=by have:=he.le; omega
 obtain ⟨y,⟨c,hc,hyc⟩,hy⟩:=q2t he (by omega) hlt
 exact hyc (h y (fun i hi=>by rw [<- hy i hi]; exact qk fun j hj=>by rw [qdQ hj]; rfl) c hc)

theorem qxc {k total:Nat} (h:k <= total):((qbr total k).take (k * k)).length = k * k:=by
 rw [List.length_take,qyR]
 exact Nat.min_eq_left (Nat.mul_le_mul_right k h)
theorem qxe {k total i j:Nat} (hk:k <= total) (ht:total <= 255) (hi:i < k) (hj:j < k):qy k ((qbr total k).take (k * k)) i j = qaB (xsF i) j:=by
 rw [q2I hi hj,qow (by omega) (by omega) hj (by omega)]
theorem qrl {k total:Nat} (hk:k <= total) (ht:total <= 255):qx ((qbr total k).take (k * k)):=qxA (qlF (by omega) (by omega))
theorem q3M {k total:Nat} (hk:k <= total) (ht:total <= 255):(qcl k total).2.2 = k :=
 qs9 (qxc hk) (qrl hk ht) fun y hy=>qok (qeO (by omega)) fun i hi=>by
  rw [<- hy i hi]
  exact qk fun j hj=>by rw [qxe hk ht hi hj]
theorem qxl {k total:Nat} (hk:k <= total) (ht:total <= 255):Two k k k (qcl k total).1 (qcl k total).2.1/\Ech k (k + k) (qZ k k ((qbr total k).take (k * k)) (qay k k)) (qZ k k (qcl k total).1 (qcl k total).2.1) k k:=by
 have h:=qmk (qxc hk) (qrl hk ht)
 have hr:=q3M hk ht
 unfold qcl at hr ⊢
 rw [hr] at h
 exact h

theorem qmL {a b:List Int} {ra ca cb:Nat} (hb:b.length = ca * cb) (ha:qx a) (hbb:qx b) (hca:0 < ca):∀ t,t <= ra * ca->(qcv a b ra ca cb t).length = ra * cb/\qx (qcv a b ra ca cb t) /\
  ∀ i j,i < ra->j < cb->qy cb (qcv a b ra ca cb t) i j = qw (fun l=>if i * ca + l < t then qg (qy ca a i l) (qy cb b l j) else 0) ca
 | 0,_=>⟨by simp [qcv],fun x hx=>by rw [qcv] at hx; rw [List.eq_of_mem_replicate hx]; exact ⟨by omega,by omega⟩,fun i j hi hj=>by
   rw [qc3 fun l _=>if_neg (by omega),qy,qcv,List.getD_eq_getElem?_getD,List.getElem?_replicate,if_pos (qfj hi hj)]; rfl⟩
 | t + 1,ht=>by
  obtain ⟨h1,h2,h3⟩:=qmL (ra:=ra) hb ha hbb hca t (by omega)
  have hti:t / ca < ra:=Nat.div_lt_of_lt_mul (by rw [Nat.mul_comm]; omega)
  have htl:=Nat.mod_lt t hca
  have htd:=Nat.div_add_mod t ca
  rw [qcv]
  refine ⟨by rw [qc0,h1],qed h2,fun i j hi hj=>?_⟩
  have hlt:=qfj hi hj
  have hsl:(seg b (t % ca * cb) cb).length = cb:=qfz (by rw [hb]; exact qo1 htl)
  have hL:qy cb (qae (qcv a b ra ca cb t) (t / ca * cb) (seg b (t % ca * cb) cb) (a.getD t 0)) i j = if i = t / ca then qy cb (qcv a b ra ca cb t) i j ^^^ qg (toF (a.getD t 0)) (qy cb b (t % ca) j) else qy cb (qcv a b ra ca cb t) i j:=by
   unfold qy
   rw [List.getD_eq_getElem?_getD,qbD,List.getElem?_eq_getElem (by omega),Option.map_some,Option.getD_some,hsl]
   by_cases he:i = t / ca
   ·subst he
    rw [if_pos ⟨by omega,by omega⟩,if_pos rfl,show t / ca * cb + j - t / ca * cb = j by omega]
    have hs:(seg b (t % ca * cb) cb).getD j 0 = b.getD (t % ca * cb + j) 0:=by
     rw [List.getD_eq_getElem?_getD,qfy,if_pos hj,List.getD_eq_getElem?_getD]
    rw [hs,qkf,qia (qaA ha _) (qaA hbb _),List.getD_eq_getElem?_getD (l:=qcv a b ra ca cb t),List.getElem?_eq_getElem (by omega),Option.getD_some]
   ·rw [if_neg (fun h=>he ((quB hj).1 h)),if_neg he,List.getD_eq_getElem?_getD,List.getElem?_eq_getElem (by omega),Option.getD_some]
  rw [hL,h3 i j hi hj]
  by_cases he:i = t / ca
  ·have hit:i * ca + t % ca = t:=by rw [he,Nat.mul_comm]; exact htd
   rw [if_pos he]
   have hat:toF (a.getD t 0) = qy ca a i (t % ca):=by rw [qy,hit]
   have h4:qg (toF (a.getD t 0)) (qy cb b (t % ca) j) = qw (fun l=>if l = t % ca then qg (qy ca a i l) (qy cb b l j) else 0) ca:=by
    rw [qhC htl fun l _ hl=>if_neg hl,if_pos rfl,hat]
   rw [h4,<- qgq]
   refine qk fun l hl=>?_
   by_cases hlt:l = t % ca
   ·subst hlt; rw [if_neg (by omega),if_pos rfl,if_pos (by omega),qao]
   ·rw [if_neg hlt,qad]
    by_cases h5:i * ca + l < t
    ·rw [if_pos h5,if_pos (by omega)]
    ·rw [if_neg h5,if_neg (by omega)]
  ·rw [if_neg he]
   refine qk fun l hl=>?_
   have hne:i * ca + l ≠ t:=fun h=>he (by rw [<- h]; exact (qiV hl).1.symm)
   by_cases h5:i * ca + l < t
   ·rw [if_pos h5,if_pos (by omega)]
   ·rw [if_neg h5,if_neg (by omega)]
theorem qxx {a b:List Int} {ra ca cb:Nat} (hb:b.length = ca * cb) (ha:qx a) (hbb:qx b) (hca:0 < ca):(qmn a b ra ca cb).length = ra * cb/\qx (qmn a b ra ca cb) /\
  ∀ i j,i < ra->j < cb->qy cb (qmn a b ra ca cb) i j = qw (fun l=>qg (qy ca a i l) (qy cb b l j)) ca:=by
 obtain ⟨h1,h2,h3⟩:=qmL (ra:=ra) hb ha hbb hca (ra * ca) (Nat.le_refl _)
 refine ⟨h1,h2,fun i j hi hj=>?_⟩
 rw [qmn,h3 i j hi hj]
 exact qk fun l hl=>if_pos (qfj hi hl)

theorem qfu {k total:Nat} (h1:1 <= k) (hk:k <= total) (ht:total <= 255):(qcY k total).length = total * k/\qx (qcY k total) /\
  (∀ i j,i < total->j < k->qy k (qcY k total) i j = qw (fun l=>qg (qaB (xsF i) l) (qy k (qcl k total).2.1 l j)) k) /\
  ∀ i j,i < total->j < k->qy k (qcY k total) i j = qfW k xsF (xsF i) j:=by
 obtain ⟨t2,he⟩:=qxl hk ht
 obtain ⟨p1,p2,p3⟩:=qxx (ra:=total) t2.lb (qlF (r:=total) (c:=k) (by omega) (by omega)) t2.bb (by omega)
 have hg:∀ i j,i < total->j < k->qy k (qcY k total) i j = qw (fun l=>qg (qaB (xsF i) l) (qy k (qcl k total).2.1 l j)) k:=fun i j hi hj=>by
  rw [qcY,p3 i j hi hj]
  exact qk fun l hl=>by rw [qow (by omega) hi hl (by omega)]
 refine ⟨p1,p2,hg,fun i j hi hj=>?_⟩
 obtain ⟨_,m2⟩:=qpQ he
 have hp:∀ x,q7 k (fun l=>qy k (qcl k total).2.1 l j) x = qw (fun l=>qg (qaB x l) (qy k (qcl k total).2.1 l j)) k:=fun x=>qk fun l _=>qaf
 rw [hg i j hi hj,<- hp,qjP (qeO (n:=k) (by omega))]
 rw [qk (g:=fun m=>qg (qfW k xsF (xsF i) m) (del m j)) fun m hm=>?_,qgT hj]
 rw [hp,<- m2 m j hm hj]
 congr 1
 exact qk fun l hl=>by rw [qxe hk ht hm hl]
theorem qlW {g full:List Int} {k l i:Nat} (hg:qx g) (hf:qx full) (hl:full.length = k * l):∀ j,j <= k->(qck g full k l i j).length = l/\qx (qck g full k l i j) /\
  ∀ c,c < l->toF ((qck g full k l i j).getD c 0) = qw (fun m=>qg (qy k g i m) (toF (full.getD (m * l + c) 0))) j
 | 0,_=>⟨by simp [qck],fun x hx=>by rw [qck] at hx; rw [List.eq_of_mem_replicate hx]; exact ⟨by omega,by omega⟩,fun c hc=>by
   rw [qck,List.getD_eq_getElem?_getD,List.getElem?_replicate,if_pos hc]; rfl⟩
 | j + 1,hj=>by
  obtain ⟨h1,h2,h3⟩:=qlW hg hf hl (i:=i) j (by omega)
  have hsl:(seg full (j * l) l).length = l:=qfz (by rw [hl]; exact qo1 (by omega))
  rw [qck]
  refine ⟨by rw [qc0,h1],qed h2,fun c hc=>?_⟩
  rw [List.getD_eq_getElem?_getD,qbD,List.getElem?_eq_getElem (by omega),Option.map_some,Option.getD_some,hsl,if_pos ⟨by omega,by omega⟩,Nat.sub_zero]
  have hs:(seg full (j * l) l).getD c 0 = full.getD (j * l + c) 0:=by
   rw [List.getD_eq_getElem?_getD,qfy,if_pos hc,List.getD_eq_getElem?_getD]
  rw [hs,qkf,qia (qaA hg _) (qaA hf _),qw,<- h3 c hc,List.getD_eq_getElem?_getD (l:=qck g full k l i j),List.getElem?_eq_getElem (by omega),Option.getD_some]
  rfl
theorem qzL {data:List Int} {n:Nat} (hb:qx data) (hn:data.length <= n):(qim data n).length = n/\qx (qim data n):=by
 refine ⟨by simp [qim]; omega,fun x hx=>?_⟩
 rcases List.mem_append.1 hx with hx | hx
 ·exact hb x hx
 ·rw [List.eq_of_mem_replicate hx]; exact ⟨by omega,by omega⟩
theorem q3P {data:List Int} {n i:Nat}:(qim data n).getD i 0 = data.getD i 0:=by
 rw [List.getD_eq_getElem?_getD,List.getD_eq_getElem?_getD,qim]
 by_cases h:i < data.length
 ·rw [List.getElem?_append_left h]
 ·rw [List.getElem?_append_right (by omega),List.getElem?_eq_none (l:=data) (by omega),List.getElem?_replicate]
  split <;> rfl
theorem q1T {k total:Nat} {data:List Int} (h1:1 <= k) (hk:k <= total) (ht:total <= 255) (hb:qx data) (i:Nat):(qdB k total data i).length = qD k data.length/\qx (qdB k total data i) /\
  ∀ c,c < qD k data.length->toF ((qdB k total data i).getD c 0) = qw (fun m=>qg (qy k (qcY k total) i m) (toF (data.getD (m * qD k data.length + c) 0))) k:=by
 obtain ⟨g1,g2,_,_⟩:=qfu h1 hk ht
 obtain ⟨f1,f2⟩:=qzL hb (n:=k * qD k data.length) (qti (by omega))
 obtain ⟨p1,p2,p3⟩:=qlW (i:=i) g2 f2 f1 k (Nat.le_refl _)
 refine ⟨p1,p2,fun c hc=>?_⟩
 rw [qdB,p3 c hc]
 exact qk fun m _=>by rw [q3P]
end Go.Proofs

set_option linter.unusedSimpArgs false
set_option linter.unusedVariables false
namespace Go.Eng
open Go
end Go.Eng
namespace Go.Proofs
open Go Go.Eng
theorem qsf {a b:List Int} (hl:a.length = b.length) (h:∀ i,i < a.length->a.getD i 0 = b.getD i 0):a = b:=by
 apply List.ext_getElem hl
 intro i h1 h2
 have:=h i h1
 rwa [List.getD_eq_getElem?_getD,List.getElem?_eq_getElem h1,List.getD_eq_getElem?_getD,List.getElem?_eq_getElem h2] at this
end Go.Proofs

set_option linter.unusedSimpArgs false
set_option linter.unusedVariables false
namespace Go.Eng
open Go Go.Proofs

def qfY (m:List Int) (cols:Nat) (rs:List Int):List Int:=rs.flatMap fun r=>seg m (r.toNat * cols) cols
def qkJ (xs:List Int) (x:Int):List Int:=(List.range xs.length).map fun i=>ofF (qfW xs.length (fun m=>toF (xs.getD m 0)) (toF x) i)
end Go.Eng

set_option linter.unusedSimpArgs false
set_option linter.unusedVariables false
set_option maxRecDepth 100000
namespace Go.Proofs
open Go Go.Eng

end Go.Proofs

set_option linter.unusedSimpArgs false
set_option linter.unusedVariables false
namespace Go.Proofs
open Go Go.Eng

end Go.Proofs

set_option linter.unusedSimpArgs false
set_option linter.unusedVariables false
namespace Go.Proofs
open Go Go.Eng
theorem qsJ {m:List Int} {c r:Nat} (hm:r * c <= m.length):∀ {rs:List Int},(∀ x ∈ rs,0 <= x/\x < (r:Int))->(qfY m c rs).length = rs.length * c
 | [],_=>by simp [qfY]
 | x :: rs,h=>by
  have ih:=qsJ hm (rs:=rs) fun y hy=>h y (List.mem_cons_of_mem _ hy)
  have hx:=h x (List.mem_cons_self ..)
  have:=qo1 (ca:=c) (show x.toNat < r by omega)
  rw [qfY,List.flatMap_cons,List.length_append,qfz (by omega),show (rs.flatMap fun r=>seg m (r.toNat * c) c) = qfY m c rs from rfl,ih,List.length_cons,Nat.add_mul]; omega
theorem quT {l:List Int} {n:Nat} (h:n < l.length):l.getD n 0 ∈ l:=by
 rw [List.getD_eq_getElem?_getD,List.getElem?_eq_getElem h]; exact List.getElem_mem h
end Go.Proofs

set_option linter.unusedSimpArgs false
set_option linter.unusedVariables false
namespace Go.Eng
open Go Go.Proofs
def qcg (k total:Nat) (rs:List Int):Prop:=rs.length = k/\rs.Nodup/\∀ x ∈ rs,0 <= x/\x < (total:Int)
end Go.Eng
namespace Go.Proofs
open Go Go.Eng

theorem qus {i j:Nat}:del i j = del j i:=by
 unfold del
 by_cases hij:i = j
 ·rw [if_pos hij,if_pos hij.symm]
 ·rw [if_neg hij,if_neg (Ne.symm hij)]
theorem qqL {m:List Int} {k R:Nat} (hm:m.length = R * k):∀ {rs:List Int},(∀ x ∈ rs,0 <= x/\x < (R:Int))->∀ {i j:Nat},i < rs.length->j < k->(qfY m k rs).getD (i * k + j) 0 = m.getD ((rs.getD i 0).toNat * k + j) 0
 | [],_,i,j,hi,_=>by simp at hi
 | x :: rs,h,i,j,hi,hj=>by
  have hx:=h x (List.mem_cons_self ..)
  have hxk:x.toNat * k + k <= R * k:=by
   have h1:x.toNat + 1 <= R:=by omega
   have:=Nat.mul_le_mul_right k h1
   rw [Nat.add_mul] at this; omega
  have hsl:(seg m (x.toNat * k) k).length = k:=by rw [seg,List.length_take,List.length_drop]; omega
  rw [qfY,List.flatMap_cons]
  cases i with
  | zero =>
   rw [Nat.zero_mul,Nat.zero_add,List.getD_eq_getElem?_getD,List.getElem?_append_left (by rw [hsl]; exact hj),seg,List.getElem?_take,if_pos hj,List.getElem?_drop,<- List.getD_eq_getElem?_getD]
   rfl
  | succ i =>
   have ih:=qqL hm (rs:=rs) (fun y hy=>h y (List.mem_cons_of_mem _ hy)) (i:=i) (j:=j) (by simpa using hi) hj
   rw [List.getD_eq_getElem?_getD,List.getElem?_append_right (by rw [hsl,Nat.add_mul]; omega),hsl,show (i + 1) * k + j - k = i * k + j by rw [Nat.add_mul]; omega,<- List.getD_eq_getElem?_getD]
   exact ih
theorem qkF {m:List Int} {k:Nat} {rs:List Int} (h:qx m):qx (qfY m k rs):=fun x hx=>by
 rw [qfY,List.mem_flatMap] at hx
 obtain ⟨r,_,hx⟩:=hx
 exact h x (List.mem_of_mem_drop (List.mem_of_mem_take hx))
theorem qir {k total:Nat} {rs:List Int} (h:qcg k total rs) (ht:total <= 255):qby k fun i=>xsF (rs.getD i 0).toNat:=by
 obtain ⟨h1,h2,h3⟩:=h
 intro i j hi hj he
 have gi:rs.getD i 0 = rs[i]'(by omega):=by rw [List.getD_eq_getElem?_getD,List.getElem?_eq_getElem (by omega)]; rfl
 have gj:rs.getD j 0 = rs[j]'(by omega):=by rw [List.getD_eq_getElem?_getD,List.getElem?_eq_getElem (by omega)]; rfl
 have mi:=h3 _ (List.getElem_mem (l:=rs) (n:=i) (by omega))
 have mj:=h3 _ (List.getElem_mem (l:=rs) (n:=j) (by omega))
 simp only [gi,gj] at he
 have:=qeO (n:=256) (Nat.le_refl _) _ _ (by omega) (by omega) he
 exact (List.getElem_inj (h₀:=by omega) (h₁:=by omega) h2).1 (by omega)
theorem qnt {m:List Int} {k total:Nat} {rs:List Int} (h:qcg k total rs) (hm:m.length = total * k):(qfY m k rs).length = k * k:=by
 rw [qsJ (r:=total) (by omega) h.2.2,h.1]
theorem q5l {k total:Nat} {rs:List Int} (h:qcg k total rs) (h1:1 <= k) (hk:k <= total) (ht:total <= 255) {y:Nat->F}
  (hy:∀ i,i < k->qw (fun j=>qg (qy k (qcY k total) (rs.getD i 0).toNat j) (y j)) k = 0):∀ j,j < k->y j = 0:=by
 obtain ⟨g1,g2,g3,_⟩:=qfu h1 hk ht
 obtain ⟨t2,he⟩:=qxl hk ht
 obtain ⟨_,m2⟩:=qpQ he
 have hz:∀ l,l < k->qw (fun j=>qg (qy k (qcl k total).2.1 l j) (y j)) k = 0:=qok (qir h ht) fun i hi=>by
  rw [<- hy i hi]
  have hx:=h.2.2 (rs.getD i 0) (by rw [List.getD_eq_getElem?_getD,List.getElem?_eq_getElem (by rw [h.1]; exact hi)]; exact List.getElem_mem _)
  have e2:qw (fun j=>qg (qy k (qcY k total) (rs.getD i 0).toNat j) (y j)) k = qw (fun j=>qw (fun l=>qg (qg (qaB (xsF (rs.getD i 0).toNat) l) (qy k (qcl k total).2.1 l j)) (y j)) k) k:=qk fun j hj=>by rw [g3 _ j (by omega) hj,qdY]
  rw [e2,qft]
  refine qk fun l hl=>?_
  rw [<- qdn]
  exact qk fun j hj=>by rw [qM]
 intro j hj
 have e1:y j = qw (fun i=>qg (y i) (del i j)) k:=(qgT (f:=y) hj).symm
 rw [e1,qk (g:=fun i=>qw (fun l=>qg (qy k ((qbr total k).take (k * k)) j l) (qg (qy k (qcl k total).2.1 l i) (y i))) k) fun i hi=>?_,qft]
 ·refine qc3 fun l hl=>?_
  rw [qdn,hz l hl,qz]
 ·have:=m2 j i hj hi
  rw [show del i j = del j i from qus,<- this,qaf,<- qdY]
  exact qk fun l hl=>by rw [qM]
theorem q3n {k total:Nat} {rs:List Int} (h:qcg k total rs) (h1:1 <= k) (hk:k <= total) (ht:total <= 255):(qe4 (qfY (qcY k total) k rs) k).2.2 = k:=by
 obtain ⟨g1,g2,_,_⟩:=qfu h1 hk ht
 refine qs9 (qnt h g1) (qkF g2) fun y hy=>q5l h h1 hk ht fun i hi=>?_
 rw [<- hy i hi]
 refine qk fun j hj=>?_
 rw [qy,qy,qqL g1 h.2.2 (by rw [h.1]; exact hi) hj]

end Go.Proofs

set_option linter.unusedSimpArgs false
set_option linter.unusedVariables false
namespace Go.Eng
open Go Go.Proofs
end Go.Eng
namespace Go.Proofs
open Go Go.Eng
theorem q7d {h:Hp} {D:qf} {n:Nat} {f:Nat->List Int} (he:qf6 h D n f):qqY h D n/\∀ j,j < n->pcI D j = j/\pcD h D j = f j:=by
 refine ⟨fun j hj=>?_,fun j hj=>?_⟩
 ·obtain ⟨v,d,e,hr,_,hb⟩:=he j hj
  exact ⟨_,v,d,e,hr,hb⟩
 ·obtain ⟨v,d,e,hr,hf,hb⟩:=he j hj
  refine ⟨by simp [pcI,qi,qal,e,qQ],?_⟩
  rw [pcD,show qal D (j:Int) 1 = v by simp [qal,e],qju hr,hf]
end Go.Proofs

set_option linter.unusedSimpArgs false
set_option linter.unusedVariables false
namespace Go.Eng
open Go Go.Proofs

def qu4 (n:Nat):List Int:=(List.range n).map fun (m:Nat)=>(m:Int)
end Go.Eng

set_option linter.unusedSimpArgs false
set_option linter.unusedVariables false
namespace Go.Eng
open Go Go.Proofs

def qcy (f:Nat->List Int) (w:List Int) (l:Nat):Nat->List Int
 | 0=>List.replicate l 0
 | j + 1=>qae (qcy f w l j) 0 (seg (f j) 0 l) (w.getD j 0)
end Go.Eng

set_option linter.unusedSimpArgs false
set_option linter.unusedVariables false
namespace Go.Eng
open Go Go.Proofs
end Go.Eng

set_option linter.unusedSimpArgs false
set_option linter.unusedVariables false
set_option maxRecDepth 100000
namespace Go.Proofs
open Go Go.Eng

end Go.Proofs

set_option linter.unusedSimpArgs false
set_option linter.unusedVariables false
namespace Go.Eng
open Go Go.Proofs

end Go.Eng

set_option linter.unusedSimpArgs false
set_option linter.unusedVariables false
namespace Go.Proofs
open Go Go.Eng

theorem qsQ {f:Nat->List Int} {w:List Int} {l:Nat}:∀ j,(qcy f w l j).length = l
 | 0=>by simp [qcy]
 | j + 1=>by rw [qcy,qc0,qsQ j]
end Go.Proofs

set_option linter.unusedSimpArgs false
set_option linter.unusedVariables false
set_option maxRecDepth 100000
namespace Go.Proofs
open Go Go.Eng

end Go.Proofs

set_option linter.unusedSimpArgs false
set_option linter.unusedVariables false
namespace Go.Proofs
open Go Go.Eng
theorem qw4 {n:Nat}:(qu4 n).Nodup:=List.pairwise_map.2 (List.nodup_range.imp fun h e=>h (by omega))
theorem q1k {n:Nat} {x:Int} (h:x ∈ qu4 n):0 <= x/\x < n:=by
 obtain ⟨m,hm,rfl⟩:=List.mem_map.1 h
 have:=List.mem_range.1 hm
 omega
theorem qhX {o l:List Int} {n k:Nat} (h:(o ++ l).Perm (qu4 n)) (hk:o.length = k):o.length = k/\o.Nodup/\∀ x ∈ o,0 <= x/\x < (n:Int) :=
 ⟨hk,(List.nodup_append.1 (h.nodup_iff.2 qw4)).1,fun x hx=>q1k (h.mem_iff.1 (List.mem_append_left _ hx))⟩
end Go.Proofs

set_option linter.unusedSimpArgs false
set_option linter.unusedVariables false
namespace Go.Proofs
open Go Go.Eng
end Go.Proofs

set_option linter.unusedSimpArgs false
set_option linter.unusedVariables false
namespace Go.Proofs
open Go Go.Eng
set_option maxRecDepth 20000
end Go.Proofs

set_option linter.unusedSimpArgs false
set_option linter.unusedVariables false
namespace Go.Eng
open Go Go.Proofs
def blk:Value->Option Nat
 | .slice (some a) _ _=>some a.block
 | _=>none
def q6C (h:Hp) (vs:Nat->Value) (n:Nat) (M:Nat->List Int):Prop :=
 (∀ j,j < n->∃ d,Rd h kB (vs j) d/\bI d = M j/\q9 d)/\∀ i j,i < n->j < n->i ≠ j->M i ≠ []->M j ≠ []->blk (vs i) ≠ blk (vs j)
end Go.Eng
namespace Go.Proofs
open Go Go.Eng
theorem q69 {h:Hp} {vs:Nat->Value} {n j:Nat} {M:Nat->List Int} (ht:q6C h vs n M) (hj:j < n):∃ d,Rd h kB (vs j) d/\bI d = M j/\q9 d:=ht.1 j hj
end Go.Proofs

set_option linter.unusedSimpArgs false
set_option linter.unusedVariables false
namespace Go.Eng
open Go Go.Proofs
def tvs (D:qf):Nat->Value:=fun j=>qal D j 0
end Go.Eng

set_option linter.unusedSimpArgs false
set_option linter.unusedVariables false
namespace Go.Eng
open Go Go.Proofs
noncomputable def pcN (h:Hp) (D:qf) (j:Nat):Nat:=(pcD h D j).length
def rdB (h:Hp) (v:Value):Prop:=∃ d,Rd h kB v d/\q9 d
noncomputable def qhf (D:qf) (k:Nat):List Int:=(List.range k).map (pcI D)
noncomputable def qlf (h:Hp) (D:qf):Nat->List Int:=fun j=>rdL h (tvs D j)
noncomputable def q7G (h:Hp) (D:qf) (k:Nat) (x:Int):List Int:=qcy (pcD h D) (qkJ (qhf D k) x) (pcN h D 0) k
def qnr (total k:Nat) (rs:List Int):List Int:=(qe4 (qfY (qcY k total) k rs) k).2.1
noncomputable def qy0 (h:Hp) (D:qf) (total k:Nat) (i:Nat):List Int:=qcy (pcD h D) (seg (qnr total k (qhf D k)) (i * k) k) (pcN h D 0) k
def q6z (h:Hp) (D:qf) (k total n:Int):Prop:=qa5 k total = true/\k <= n/\n <= 17592186043904/\qqY h D n.toNat/\qcg k.toNat total.toNat (qhf D k.toNat)/\pcN h D 0 <= 8192/\∀ j,j < k.toNat->pcN h D j = pcN h D 0
end Go.Eng

set_option linter.unusedSimpArgs false
set_option linter.unusedVariables false
namespace Go.Eng
open Go Go.Proofs
end Go.Eng

set_option linter.unusedSimpArgs false
set_option linter.unusedVariables false
namespace Go.Eng
open Go Go.Proofs
noncomputable def plI (k size:Int):Int:=(qD k.toNat size.toNat:Int)
end Go.Eng

set_option linter.unusedSimpArgs false
set_option linter.unusedVariables false
namespace Go.Eng
open Go Go.Proofs
def q4J (r:Nat):SV:=.agg (qiW r (r + 1) (r + 2) (r + 3) (r + 4) (r + 5) (r + 6) (r + 7))
end Go.Eng

set_option linter.unusedSimpArgs false
set_option linter.unusedVariables false
namespace Go.Proofs
open Go Go.Eng
section
variable {M:Bool} {C:Int->Prop} {x t:Int} {D O:List Int}
end
end Go.Proofs

set_option linter.unusedSimpArgs false
set_option linter.unusedVariables false
namespace Go.Proofs
open Go Go.Eng
variable {rows wide c rank:Nat} {T0:Mat} {M:Nat->List Int}
end Go.Proofs

set_option linter.unusedSimpArgs false
set_option linter.unusedVariables false
namespace Go.Proofs
open Go Go.Eng
end Go.Proofs

set_option linter.unusedSimpArgs false
set_option linter.unusedVariables false
set_option maxRecDepth 100000
namespace Go.Proofs
open Go Go.Eng

end Go.Proofs

set_option linter.unusedSimpArgs false
set_option linter.unusedVariables false
namespace Go.Proofs
open Go Go.Eng
variable {k total len e e':Int} {n i:Nat} {I I':Nat->Int} {L L':Nat->Nat}
end Go.Proofs

set_option linter.unusedSimpArgs false
set_option linter.unusedVariables false
namespace Go.Proofs
open Go Go.Eng
set_option maxRecDepth 100000
end Go.Proofs

set_option linter.unusedSimpArgs false
set_option linter.unusedVariables false
namespace Go.Proofs
open Go Go.Eng
def byF (r:F) (y:Nat->F):Nat->F:=fun l=>(if l = 0 then 0 else y (l - 1)) ^^^ qg r (y l)
theorem qjQ {y:Nat->F} {x:F}:q7 1 y x = y 0:=by
 show (0:F) ^^^ qg (y 0) (qaB x 0) = y 0
 rw [qao,show qaB x 0 = 1 from rfl,qaS]
theorem qt2 {r x:F} {y:Nat->F}:∀ n,q7 (n + 1) (byF r y) x = qg (x ^^^ r) (q7 n y x) ^^^ qg (qg r (y n)) (qaB x n)
 | 0=>by rw [qjQ,byF,if_pos rfl,qao,show q7 0 y x = 0 from rfl,qz,qao,show qaB x 0 = 1 from rfl,qaS]
 | n + 1=>by
  have ih:=qt2 (r:=r) (x:=x) (y:=y) n
  have h1:q7 (n + 2) (byF r y) x = q7 (n + 1) (byF r y) x ^^^ qg (byF r y (n + 1)) (qaB x (n + 1)):=rfl
  have h2:q7 (n + 1) y x = q7 n y x ^^^ qg (y n) (qaB x n):=rfl
  rw [h1,ih,h2,byF,if_neg (by omega),Nat.add_sub_cancel,qhQ,qcj (x:=y n)]
  have h3:qg (x ^^^ r) (qg (y n) (qaB x n)) = qg (y n) (qaB x (n + 1)) ^^^ qg (qg r (y n)) (qaB x n):=by
   rw [qcj,qaB]
   congr 1
   ·rw [<- qM,qaf (x:=x),qM]
    try rw [qaf (x:=x)]
   ·rw [qM]
  rw [h3]
  generalize qg (x ^^^ r) (q7 n y x) = a
  generalize qg (qg r (y n)) (qaB x n) = b
  generalize qg (y n) (qaB x (n + 1)) = c
  generalize qg (qg r (y (n + 1))) (qaB x (n + 1)) = d
  rw [BitVec.xor_assoc,BitVec.xor_assoc,BitVec.xor_assoc]
  congr 1
  rw [<- BitVec.xor_assoc,<- BitVec.xor_assoc,BitVec.xor_comm b c]
theorem qpV {r x:F} {y:Nat->F} {n:Nat} (h:y n = 0):q7 (n + 1) (byF r y) x = qg (x ^^^ r) (q7 n y x):=by
 rw [qt2,h,qz,qA,qad]
theorem qrr {y:Nat->F} {x:F} {n:Nat} (h:∀ l,n <= l->y l = 0):∀ m,q7 (n + m) y x = q7 n y x
 | 0=>rfl
 | m + 1=>by
  show q7 (n + m) y x ^^^ qg (y (n + m)) (qaB x (n + m)) = _
  rw [qrr h m,h _ (by omega),qA,qad]
theorem qnG {y z:Nat->F} {x:F} {n:Nat}:q7 n (fun l=>y l ^^^ z l) x = q7 n y x ^^^ q7 n z x:=by
 simp only [q7]
 rw [<- qgq]
 exact qk fun j _=>qcj
theorem qtG {y:Nat->F} {x c:F} {n:Nat}:q7 n (fun l=>qg c (y l)) x = qg c (q7 n y x):=by
 simp only [q7]
 rw [<- qdn]
 exact qk fun j _=>qM
def ddF (xs ys:Nat->F):Nat->Nat->F
 | s,0=>ys s
 | s,j + 1=>qg (ddF xs ys (s + 1) j ^^^ ddF xs ys s j) (qe3 (xs (s + j + 1) ^^^ xs s))
theorem qhn {n:Nat} {xs ys:Nat->F} (hd:qby n xs):∀ j s,s + j < n->∃ y:Nat->F,(∀ l,j < l->y l = 0)/\(∀ i,i <= j->q7 (j + 1) y (xs (s + i)) = ys (s + i))/\y j = ddF xs ys s j
 | 0,s,hs=>⟨fun l=>if l = 0 then ys s else 0,fun l hl=>if_neg (by omega),fun i hi=>by
   obtain rfl:i = 0:=by omega
   rw [qjQ,if_pos rfl,Nat.add_zero],rfl⟩
 | j + 1,s,hs=>by
  obtain ⟨y1,a1,b1,c1⟩:=qhn (ys:=ys) hd j (s + 1) (by omega)
  obtain ⟨y0,a0,b0,c0⟩:=qhn (ys:=ys) hd j s (by omega)
  have hne:xs (s + j + 1) ^^^ xs s ≠ 0:=fun h=>by have:=hd _ _ (by omega) (by omega) (qeK.1 h); omega
  let w:F:=qe3 (xs (s + j + 1) ^^^ xs s)
  have hv:∀ x,q7 (j + 2) (fun l=>qg w (byF (xs s) y1 l ^^^ byF (xs (s + j + 1)) y0 l)) x = qg w (qg (x ^^^ xs s) (q7 (j + 1) y1 x) ^^^ qg (x ^^^ xs (s + j + 1)) (q7 (j + 1) y0 x)):=fun x=>by
   rw [qtG,qnG,qpV (a1 _ (by omega)),qpV (a0 _ (by omega))]
  refine ⟨fun l=>qg w (byF (xs s) y1 l ^^^ byF (xs (s + j + 1)) y0 l),fun l hl=>?_,fun i hi=>?_,?_⟩
  ·simp only [byF]
   rw [if_neg (by omega),if_neg (by omega),a1 l (by omega),a0 l (by omega),a1 (l - 1) (by omega),a0 (l - 1) (by omega),qz,qz,qa0,qz]
  ·rw [hv]
   have hw:∀ z,qg w (qg (xs (s + j + 1) ^^^ xs s) z) = z:=fun z=>by
    rw [<- qM,qaf (x:=w),qid hne,qhR]
   by_cases h0:i = 0
   ·subst h0
    have hb0:=b0 0 (by omega)
    simp only [Nat.add_zero] at hb0
    rw [Nat.add_zero,qa0,qA,qao,hb0,BitVec.xor_comm,hw]
   ·by_cases h1:i = j + 1
    ·subst h1
     have:=b1 j (Nat.le_refl _)
     rw [show s + 1 + j = s + (j + 1) by omega] at this
     rw [this,<- Nat.add_assoc,qa0,qA,qad,hw]
    ·have h2:=b1 (i - 1) (by omega)
     rw [show s + 1 + (i - 1) = s + i by omega] at h2
     rw [h2,b0 i (by omega),<- qcj,qn5,qa0,qao,BitVec.xor_comm,hw]
  ·simp only [byF]
   rw [if_neg (by omega),if_neg (by omega),a1 (j + 1) (by omega),a0 (j + 1) (by omega),qz,qz,qad,qad,Nat.add_sub_cancel,c1,c0,qaf]
   rfl
def qkT (xs:Nat->F):Nat->Nat->F
 | 0=>fun l=>if l = 0 then 1 else 0
 | m + 1=>byF (xs m) (qkT xs m)
theorem qre {xs:Nat->F}:∀ m,(∀ l,m < l->qkT xs m l = 0)/\qkT xs m m = 1/\∀ x,q7 (m + 1) (qkT xs m) x = qcW (fun u=>x ^^^ xs u) m
 | 0=>⟨fun l hl=>if_neg (by omega),rfl,fun x=>by rw [qjQ]; rfl⟩
 | m + 1=>by
  obtain ⟨h1,h2,h3⟩:=qre (xs:=xs) m
  refine ⟨fun l hl=>?_,?_,fun x=>?_⟩
  ·simp only [qkT,byF]
   rw [if_neg (by omega),h1 (l - 1) (by omega),h1 l (by omega),qz,qad]
  ·simp only [qkT,byF]
   rw [if_neg (by omega),Nat.add_sub_cancel,h2,h1 (m + 1) (by omega),qz,qad]
  ·rw [qkT,qpV (h1 _ (by omega)),h3,qcW,qaf]
def qz1 (xs ys:Nat->F) (x:F) (m:Nat):F:=qw (fun t=>qg (ddF xs ys 0 t) (qcW (fun u=>x ^^^ xs u) t)) m
theorem qrq {n:Nat} {xs ys:Nat->F} (hd:qby n xs):∀ m,m < n->∃ y:Nat->F,(∀ l,m < l->y l = 0)/\(∀ i,i <= m->q7 (m + 1) y (xs i) = ys i)/\∀ x,q7 (m + 1) y x = qz1 xs ys x (m + 1)
 | 0,hm=>by
  obtain ⟨y,a,b,c⟩:=qhn (ys:=ys) hd 0 0 (by omega)
  refine ⟨y,a,fun i hi=>by have:=b i hi; simp only [Nat.zero_add] at this ⊢; exact this,fun x=>?_⟩
  rw [qjQ,c]
  show ys 0 = (0:F) ^^^ qg (ys 0) 1
  rw [qao,qaS]
 | m + 1,hm=>by
  obtain ⟨y0,a0,b0,c0⟩:=qrq (ys:=ys) hd m (by omega)
  obtain ⟨y,a,b,c⟩:=qhn (ys:=ys) hd (m + 1) 0 (by omega)
  obtain ⟨p1,p2,p3⟩:=qre (xs:=xs) (m + 1)
  refine ⟨y,a,fun i hi=>by have:=b i hi; rwa [Nat.zero_add] at this,fun x=>?_⟩
  let R:Nat->F:=fun l=>(y l ^^^ y0 l) ^^^ qg (ddF xs ys 0 (m + 1)) (qkT xs (m + 1) l)
  have hRv:∀ x,q7 (m + 2) R x = (q7 (m + 2) y x ^^^ q7 (m + 1) y0 x) ^^^ qg (ddF xs ys 0 (m + 1)) (qcW (fun u=>x ^^^ xs u) (m + 1)):=fun x=>by
   rw [<- p3,<- qtG,<- qrr (y:=y0) (n:=m + 1) (fun l hl=>a0 l (by omega)) 1,<- qnG,<- qnG]
  have hRt:R (m + 1) = 0:=by
   simp only [R]
   rw [c,a0 (m + 1) (by omega),p2,qaS,qad,qa0]
  have hRe:∀ x,q7 (m + 1) R x = q7 (m + 2) R x:=fun x=>by
   show _ = q7 (m + 1) R x ^^^ qg (R (m + 1)) (qaB x (m + 1))
   rw [hRt,qA,qad]
  have h0:=qkj (n:=m + 1) (y:=R) (xs:=xs) (fun i j hi hj=>hd i j (by omega) (by omega)) fun i hi=>by
   rw [hRe,hRv,b0 i (by omega)]
   have:=b i (by omega)
   rw [Nat.zero_add] at this
   rw [this,qa0,qao,qph (k:=i) hi qa0,qz]
  have hz:q7 (m + 1) R x = 0:=qc3 fun l hl=>by rw [h0 l hl,qA]
  rw [hRe,hRv] at hz
  have h1:qz1 xs ys x (m + 2) = qz1 xs ys x (m + 1) ^^^ qg (ddF xs ys 0 (m + 1)) (qcW (fun u=>x ^^^ xs u) (m + 1)):=rfl
  rw [h1,<- c0 x]
  have h2:=qeK.1 hz
  rw [<- h2,<- BitVec.xor_assoc,BitVec.xor_comm,<- BitVec.xor_assoc,qa0,qao]
end Go.Proofs

set_option linter.unusedSimpArgs false
set_option linter.unusedVariables false
namespace Go.Proofs
open Go Go.Eng
theorem qf9 {f:Nat->List Int} {w:List Int} {l:Nat} (hw:qx w):∀ k,(∀ j,j < k->(f j).length = l/\qx (f j))->(qcy f w l k).length = l/\qx (qcy f w l k)/\∀ c,c < l->toF ((qcy f w l k).getD c 0) = qw (fun m=>qg (toF (w.getD m 0)) (toF ((f m).getD c 0))) k
 | 0,_=>⟨by simp [qcy],fun x hx=>by rw [qcy] at hx; rw [List.eq_of_mem_replicate hx]; exact ⟨by omega,by omega⟩,fun c hc=>by
   rw [qcy,List.getD_eq_getElem?_getD,List.getElem?_replicate,if_pos hc]; rfl⟩
 | k + 1,h=>by
  obtain ⟨h1,h2,h3⟩:=qf9 hw k fun j hj=>h j (by omega)
  obtain ⟨f1,f2⟩:=h k (by omega)
  have hsl:seg (f k) 0 l = f k:=by rw [<- f1]; simp [seg]
  rw [qcy,hsl]
  refine ⟨by rw [qc0,h1],qed h2,fun c hc=>?_⟩
  rw [List.getD_eq_getElem?_getD,qbD,List.getElem?_eq_getElem (by omega),Option.map_some,Option.getD_some,if_pos ⟨by omega,by omega⟩,Nat.sub_zero,qkf,qia (qaA hw _) (qaA f2 _),qw,<- h3 c hc,List.getD_eq_getElem?_getD (l:=qcy f w l k),List.getElem?_eq_getElem (by omega),Option.getD_some]
theorem q1L {f g:Nat->List Int} {w v:List Int} {l k:Nat} (hw:qx w) (hv:qx v) (hf:∀ j,j < k->(f j).length = l/\qx (f j)) (hg:∀ j,j < k->(g j).length = l/\qx (g j))
  (h:∀ c,c < l->qw (fun m=>qg (toF (w.getD m 0)) (toF ((f m).getD c 0))) k = qw (fun m=>qg (toF (v.getD m 0)) (toF ((g m).getD c 0))) k):qcy f w l k = qcy g v l k:=by
 obtain ⟨a1,a2,a3⟩:=qf9 hw k hf
 obtain ⟨b1,b2,b3⟩:=qf9 hv k hg
 refine qsf (by omega) fun c hc=>qqQ (qaA a2 c) (qaA b2 c) ?_
 rw [a3 c (by omega),b3 c (by omega),h c (by omega)]
theorem q0L {rs:List Int} {x:Int} {j:Nat} (hj:j < rs.length):toF ((qkJ rs x).getD j 0) = qfW rs.length (fun m=>toF (rs.getD m 0)) (toF x) j:=by
 unfold qkJ
 rw [List.getD_eq_getElem?_getD,List.getElem?_map,List.getElem?_range hj,Option.map_some,Option.getD_some,qj0]
theorem qjH {xs:List Int} {x:Int}:qx (qkJ xs x):=fun y hy=>by
 obtain ⟨m,_,rfl⟩:=List.mem_map.1 hy
 exact qjf
variable {k total:Nat} {rs:List Int}
theorem qkK (hc:qcg k total rs) {j:Nat} (hj:j < k):toF (rs.getD j 0) = xsF (rs.getD j 0).toNat:=by
 have h1:=hc.1
 have h2:=hc.2.2 (rs.getD j 0) (quT (by omega))
 unfold xsF
 rw [Int.toNat_of_nonneg h2.1]
theorem qmP (hc:qcg k total rs) (ht:total <= 255):qby k fun m=>toF (rs.getD m 0):=fun i j hi hj he=>by
 refine qir hc ht i j hi hj ?_
 simp only [qkK hc hi,qkK hc hj] at he
 exact he
theorem qrH {xs v:Nat->F} (h1:1 <= k) (hd:qby k xs):∃ y:Nat->F,(∀ i,i < k->q7 k y (xs i) = v i)/\∀ x,q7 k y x = qw (fun j=>qg (qfW k xs x j) (v j)) k:=by
 obtain ⟨y,_,hy,_⟩:=qrq (ys:=v) hd (k - 1) (by omega)
 rw [show k - 1 + 1 = k by omega] at hy
 refine ⟨y,fun i hi=>hy i (by omega),fun x=>?_⟩
 rw [qjP hd]
 exact qk fun j hj=>by rw [hy j (by omega)]
theorem q1b (hc:qcg k total rs) (h1:1 <= k) (hk:k <= total) (ht:total <= 255) (v:Nat->F) {i:Nat} (hi:i < k) :
    qw (fun j=>qg (qy k (qnr total k rs) i j) (v j)) k = qw (fun j=>qg (qfW k (fun m=>toF (rs.getD m 0)) (xsF i) j) (v j)) k:=by
  obtain ⟨y,hy,hL⟩:=qrH (v:=v) h1 (qmP hc ht)
  obtain ⟨g1,g2,_,g4⟩:=qfu h1 hk ht
  have hlen:=qnt hc g1
  have hr:=q3n hc h1 hk ht
  obtain ⟨t2,he⟩:=qmk hlen (qkF g2)
  rw [hr] at he
  obtain ⟨m1,_⟩:=qpQ he
  have hS:∀ j,j < k->∀ m,m < k->qy k (qfY (qcY k total) k rs) j m = qfW k xsF (toF (rs.getD j 0)) m:=fun j hj m hm=>by
    have hrj:=hc.2.2 (rs.getD j 0) (quT (by rw [hc.1]; exact hj))
    unfold qy
    rw [qqL g1 hc.2.2 (by rw [hc.1]; exact hj) hm,qkK hc hj,<- g4 (rs.getD j 0).toNat m (by omega) hm]
    rfl
  have hx:qby k xsF:=qeO (by omega)
  rw [<- hL]
  calc qw (fun j=>qg (qy k (qnr total k rs) i j) (v j)) k
      = qw (fun j=>qw (fun m=>qg (qg (qy k (qnr total k rs) i j) (qy k (qfY (qcY k total) k rs) j m)) (q7 k y (xsF m))) k) k:=by
        refine qk fun j hj=>?_
        rw [<- hy j hj,qjP hx (x:=toF (rs.getD j 0)),<- qdn]
        exact qk fun m hm=>by rw [hS j hj m hm,qM]
    _ = qw (fun m=>qg (del m i) (q7 k y (xsF m))) k:=by
        rw [qft]
        refine qk fun m hm=>?_
        rw [qdY,qus]
        congr 1
        exact m1 i m hi hm
    _ = q7 k y (xsF i):=qnB (f:=fun m=>q7 k y (xsF m)) hi
theorem qwZ {m:List Int} {i j:Nat} (hj:j < k):toF ((seg m (i * k) k).getD j 0) = qy k m i j:=by
 unfold qy seg
 rw [List.getD_eq_getElem?_getD,List.getElem?_take,if_pos hj,List.getElem?_drop,List.getD_eq_getElem?_getD]
theorem q2g (hc:qcg k total rs) (h1:1 <= k) (hk:k <= total) (ht:total <= 255):(qnr total k rs).length = k * k/\qx (qnr total k rs):=by
 obtain ⟨g1,g2,_,_⟩:=qfu h1 hk ht
 obtain ⟨t2,_⟩:=qmk (qnt hc g1) (qkF g2)
 exact ⟨t2.lb,t2.bb⟩
theorem qu7 {l:List Int} {o n:Nat} (h:qx l):qx (seg l o n):=fun x hx=>h x (List.mem_of_mem_drop (List.mem_of_mem_take hx))
theorem q5I (hc:qcg k total rs) (h1:1 <= k) (hk:k <= total) (ht:total <= 255) {f:Nat->List Int} {l i:Nat} (hf:∀ j,j < k->(f j).length = l/\qx (f j)) (hi:i < k) :
  qcy f (seg (qnr total k rs) (i * k) k) l k = qcy f (qkJ rs (i:Int)) l k:=by
 refine q1L (qu7 (q2g hc h1 hk ht).2) qjH hf hf fun c hcl=>?_
 rw [qk fun m hm=>by rw [qwZ hm],q1b hc h1 hk ht _ hi]
 exact qk fun m hm=>by rw [q0L (by rw [hc.1]; exact hm),hc.1]; rfl
theorem q4w (hc:qcg k total rs) (h1:1 <= k) (hk:k <= total) (ht:total <= 255) {f:Nat->List Int} {l r:Nat} (hf:∀ j,j < k->(f j).length = l/\qx (f j)) (hr:r < total) {g:Nat->List Int} (hg:∀ i,i < k->g i = qcy f (qkJ rs (i:Int)) l k) :
  qcy g (seg (qcY k total) (r * k) k) l k = qcy f (qkJ rs (r:Int)) l k:=by
 obtain ⟨g1,g2,_,g4⟩:=qfu h1 hk ht
 have hgf:∀ i,i < k->(g i).length = l/\qx (g i):=fun i hi=>by
  obtain ⟨a,b,_⟩:=qf9 (qjH (xs:=rs) (x:=(i:Int))) k hf
  rw [hg i hi]; exact ⟨a,b⟩
 refine q1L (qu7 g2) qjH hgf hf fun c hcl=>?_
 obtain ⟨y,hy,hL⟩:=qrH (v:=fun j=>toF ((f j).getD c 0)) h1 (qmP hc ht)
 have hx:qby k xsF:=qeO (by omega)
 have hv:∀ x:Int,qw (fun m=>qg (toF ((qkJ rs x).getD m 0)) (toF ((f m).getD c 0))) k = q7 k y (toF x):=fun x=>by
  rw [hL]
  exact qk fun m hm=>by rw [q0L (by rw [hc.1]; exact hm),hc.1]
 rw [hv,show toF ((r:Nat):Int) = xsF r from rfl,qjP hx]
 refine qk fun m hm=>?_
 rw [qwZ hm,g4 r m hr hm,hg m hm,(qf9 qjH k hf).2.2 c hcl,hv]
 rfl
end Go.Proofs

set_option linter.unusedSimpArgs false
set_option linter.unusedVariables false
namespace Go.Proofs
open Go Go.Eng
set_option maxRecDepth 100000
end Go.Proofs

set_option linter.unusedSimpArgs false
set_option linter.unusedVariables false
namespace Go.Proofs
open Go Go.Eng
set_option maxRecDepth 100000
end Go.Proofs

set_option linter.unusedSimpArgs false
set_option linter.unusedVariables false
set_option maxRecDepth 100000
namespace Go.Proofs
open Go Go.Eng

end Go.Proofs

set_option linter.unusedSimpArgs false
set_option linter.unusedVariables false
namespace Go.Proofs
open Go Go.Eng
set_option maxRecDepth 100000
structure PcIn (h:Hp) (D:qf) (k total n:Int):Prop where
 k1:1 <= k
 k2:k <= total
 k3:total <= 255
 kn:k <= n
 sol:q6z h D k total n
 idx:∀ j,j < n.toNat->0 <= pcI D j/\pcI D j < total
 len:∀ j,j < n.toNat->pcN h D j = pcN h D 0
 fs:∀ j,j < n.toNat->(pcD h D j).length = pcN h D 0/\qx (pcD h D j)
variable {h:Hp} {D:qf} {k total n:Int}
theorem PcIn.f (p:PcIn h D k total n):∀ j,j < k.toNat->(pcD h D j).length = pcN h D 0/\qx (pcD h D j):=fun j hj=>p.fs j (by have:=p.kn; omega)
theorem PcIn.cols (p:PcIn h D k total n) {hc:Hp} {C:qf} (ht:q6C hc (tvs C) k.toNat (qy0 h D total.toNat k.toNat)) :
  (∀ j,j < k.toNat->rdB hc (tvs C j)/\(qlf hc C j).length = (qlf hc C 0).length)/\(qlf hc C 0).length = pcN h D 0/\∀ r:Int,0 <= r->r < total->qcy (qlf hc C) (seg (qcY k.toNat total.toNat) (r.toNat * k.toNat) k.toNat) (qlf hc C 0).length k.toNat = q7G h D k.toNat r:=by
 have h1:=p.k1
 have h2:=p.k2
 have h3:=p.k3
 have hch:=p.sol.2.2.2.2.1
 have hcol:∀ j,j < k.toNat->rdB hc (tvs C j)/\qlf hc C j = qy0 h D total.toNat k.toNat j:=fun j hj=>by
  obtain ⟨d,hr,hd,hB⟩:=q69 ht hj
  exact ⟨⟨d,hr,hB⟩,by rw [qlf,qju hr,hd]⟩
 have hl:∀ j,j < k.toNat->(qlf hc C j).length = pcN h D 0:=fun j hj=>by
  rw [(hcol j hj).2,qy0,qsQ]
 refine ⟨fun j hj=>⟨(hcol j hj).1,by rw [hl j hj,hl 0 (by omega)]⟩,hl 0 (by omega),fun r r0 r1=>?_⟩
 rw [hl 0 (by omega),q4w hch (by omega) (by omega) (by omega) (f:=pcD h D) p.f (by omega) (r:=r.toNat) (fun i hi=>by
  rw [(hcol i hi).2,qy0,q5I hch (by omega) (by omega) (by omega) p.f hi]),Int.toNat_of_nonneg r0]
 rfl
theorem PcIn.value (p:PcIn h D k total n):(∀ j:Nat,(j:Int) < k->0 <= pcI D j/\pcI D j < 256)/\(qhf D k.toNat).Nodup/\pcN h D 0 <= 9000/\(∀ j:Nat,(j:Int) < k->pcN h D j = pcN h D 0)/\qqY h D k.toNat:=by
 have h1:=p.k1
 have h2:=p.k2
 have h3:=p.k3
 have h4:=p.kn
 have h5:=p.sol.2.2.2.2.2.1
 refine ⟨fun j hj=>?_,p.sol.2.2.2.2.1.2.1,by omega,fun j hj=>p.len j (by omega),fun j hj=>p.sol.2.2.2.1 j (by omega)⟩
 have:=p.idx j (by omega)
 omega
end Go.Proofs

set_option linter.unusedSimpArgs false
set_option linter.unusedVariables false
namespace Go.Proofs
open Go Go.Eng
set_option maxRecDepth 100000
variable {h h':Hp} {D D':qf} {k total n index len e e':Int} {b b':Bool}
end Go.Proofs

set_option linter.unusedSimpArgs false
set_option linter.unusedVariables false
namespace Go.Proofs
open Go Go.Eng
end Go.Proofs

set_option linter.unusedSimpArgs false
set_option linter.unusedVariables false
namespace Go.Proofs
open Go Go.Eng
theorem q0n {k n t s l i:Int} {D:List (List Int)} {m:List Int} (h:qcm k n t s l D i m = 0):qG k n t s l = true/\0 <= i/\i < t/\(m.length:Int) = qez k s/\sha (qcd i ++ m) = D.getD i.toNat []:=by
 unfold qcm at h
 by_cases h1:qG k n t s l = false
 ·rw [if_pos h1] at h; omega
 rw [if_neg h1] at h
 by_cases h2:i < 0∨t <= i
 ·rw [if_pos h2] at h; omega
 rw [if_neg h2] at h
 by_cases h3:(m.length:Int) ≠ qez k s
 ·rw [if_pos h3] at h; omega
 rw [if_neg h3] at h
 by_cases h4:sha (qcd i ++ m) ≠ D.getD i.toNat []
 ·rw [if_pos h4] at h; omega
 exact ⟨by simpa using h1,by omega,by omega,by omega,by simpa using h4⟩
theorem q0t {k n t s l:Int}:qG k n t s l = true↔1 <= k/\k <= n/\n <= t/\t <= 255/\0 <= s/\s <= 8192/\l = t:=by
 simp [qG,qbi,and_assoc]
theorem q2K {k s:Int} (hk:1 <= k) (hs:0 <= s):qez k s = plI k s:=by
 obtain ⟨k,rfl⟩:=Int.eq_ofNat_of_zero_le (show 0 <= k by omega)
 obtain ⟨s,rfl⟩:=Int.eq_ofNat_of_zero_le hs
 have e:((s:Int) + (k:Int) - 1) = ((s + k - 1:Nat):Int):=by omega
 unfold qez plI qD
 rw [e,Int.ofNat_tdiv]
 simp
end Go.Proofs

set_option linter.unusedSimpArgs false
set_option linter.unusedVariables false
set_option maxRecDepth 100000
namespace Go.Proofs
open Go Go.Eng

end Go.Proofs

set_option linter.unusedSimpArgs false
set_option linter.unusedVariables false
set_option maxRecDepth 100000
namespace Go.Proofs
open Go Go.Eng

end Go.Proofs

set_option linter.unusedSimpArgs false
set_option linter.unusedVariables false
namespace Go.Proofs
open Go Go.Eng
set_option maxRecDepth 100000
end Go.Proofs

set_option linter.unusedSimpArgs false
set_option linter.unusedVariables false
namespace Go.Proofs
open Go Go.Eng
set_option maxRecDepth 20000
end Go.Proofs

set_option linter.unusedSimpArgs false
set_option linter.unusedVariables false
namespace Go.Eng
open Go Go.ChangeShapes Go.WideShapes Go.ChangeAt Go.RowKit

structure Grew (W w':World):Prop where
 os:w'.os = W.os
 out:w'.output = W.output
 blk:∀ (b:Nat) (o:Obj),W.heap[b]? = some o->w'.heap[b]? = some o

theorem Grew.block {W w':World} (h:Grew W w') {i:Nat} (hi:i < W.heap.size):w'.heap[i]? = W.heap[i]?:=by
 rw [Array.getElem?_eq_getElem hi]; exact h.blk i _ (Array.getElem?_eq_getElem hi)

theorem Grew.kept {W w':World} (h:Grew W w') (may:MemPlace->Prop):W.keptBut w' may:=by
 refine ⟨h.os,h.out,fun i hi=>?_⟩
 rw [h.block hi,Array.getElem?_eq_getElem hi]
 cases W.heap[i] <;> simp

theorem Grew.trodAll {H:Type} {enc:TypeId × Value->H} {P:Program} {W W':World} (hg:Grew W W') (hl:laidOutB P = true) {sp:Nat->Bool}:∀ {ts:List TypeId} {vs:List Value} {ds:List (DataW H)} {ps:List MemPlace},
  (∀ t ∈ ts,P.readableRec t = true/\t < P.types.size)->DataW.TrodAll enc P W 0 (fun _=>true) true ts vs ds ps->(∀ p ∈ ps,p.block < W.heap.size)->(∀ p ∈ ps,sp p.block = true) ->
  DataW.TrodAll enc P W' 0 sp true ts vs ds ps
 | [],[],[],_,_,h,_,_=>h
 | _ :: _,_ :: _,_ :: _,_,hT,⟨p,q,h1,h2,e⟩,hlt,hs=>by
  subst e
  refine ⟨p,q,?_,Grew.trodAll hg hl (fun t ht=>hT t (List.mem_cons_of_mem _ ht)) h2 (fun x hx=>hlt x (List.mem_append_right _ hx)) (fun x hx=>hs x (List.mem_append_right _ hx)),rfl⟩
  have hr:=hT _ (List.mem_cons_self ..)
  refine WideElems.Trod_stays hl hr.1 hr.2 h1 (fun x hx=>?_) (fun x hx=>hs x (List.mem_append_left _ hx))
  have hb:=hg.block (hlt x (List.mem_append_left _ hx))
  cases x with
  | cell b o=>exact World.cell?_of_block (w:=W) hb
  | map b=>exact hb

theorem q1V {P:Program} {c:Ctr} (hok:c.ok P) (hheap:c.heap = []) (halts:∀ al ∈ c.alts,al.ret = .one (.vbool (.bl true))) {ρ:Env} (hg:ρ.good) (W:World)
  (hro:∀ x ∈ c.ro,x.roden ρ (fun b=>W.heap[b]?)) (hpre:c.pre ρ) :
  Calls P c.fn (c.args.map (SV.den ρ)).toArray W fun e W'=>e = .returned (.bool true)/\Grew W W':=by
 have h:=hok.2 ρ W ⟨fun b=>W.heap[b]?,W.os,W.output⟩ Hp.emp hg (Hp.disj_emp _)
  ⟨fun b o hb=>by simpa [Hp.union,Hp.emp] using hb,rfl,rfl⟩ (by rw [hheap]; trivial) hro hpre
 refine h.mono fun e w' hq=>?_
 obtain ⟨ai,al,ρ',hal,_,_,rfl,_,hO,_,_,hsub,hwi⟩:=hq
 refine ⟨by rw [halts al (List.mem_of_getElem? hal)]; rfl,⟨hwi.1,hwi.2,fun b o hb=>hsub b o ?_⟩⟩
 simp [Hp.union,hb]

theorem q2O {H:Type} {enc:TypeId × Value->H} {P:Program} {f:Func} {s:ChangeSpec} {W W':World} {args:Array Value} {ds gs:List (DataW H)} {before:List MemPlace} {bt:TypeId}
  (hl:laidOutB P = true) (hT:∀ t ∈ f.params.toList,P.readableRec t = true/\t < P.types.size) (hvars:s.vars = []) (hrt:f.resultTypes = #[bt]) (hbt:P.underlying bt = some .bool)
  (hfn:∀ ds':List (DataW H),ds'.length = f.params.size->s.fn H ds' = { results:=[.lit (.bool true)],args:=ds' })
  (hW:DataW.Whole enc P f.params.toList s.vars false W args.toList ds gs before) (hg:Grew W W'):s.post enc P f false true false false W args (.bool true) W':=by
 have hlt:=hW.lt
 have hW0:=hW
 obtain ⟨p,q,hA,hV,hpq,hz,hn⟩:=hW
 rw [hvars] at hV
 obtain ⟨rfl,rfl⟩:=trodVars_none hV
 have hlen:ds.length = f.params.size:=by
  have:∀ {ts:List TypeId} {vs:List Value} {ds:List (DataW H)} {ps:List MemPlace},DataW.TrodAll enc P W 0 (fun _=>true) true ts vs ds ps->ds.length = ts.length:=by
   intro ts
   induction ts with
   | nil=>intro vs ds ps h; cases vs <;> cases ds <;> simp_all [DataW.TrodAll]
   | cons t ts ih =>
    intro vs ds ps h
    cases vs <;> cases ds <;> simp_all [DataW.TrodAll]
    obtain ⟨p,q,_,h2,_⟩:=h
    exact ih h2
  simpa using this hA
 have hlt':∀ x ∈ p,x.block < W.heap.size:=fun x hx=>hlt x (by rw [hpq]; exact List.mem_append_left _ hx)
 refine ⟨ds,[],before,[],p,[],hW0,?_,?_,?_,hg.kept _,fun h=>by cases h⟩
 ·rw [List.append_nil,hfn ds hlen,hrt]
  exact ⟨[],[],⟨1,by simp [DataW.trod,hbt,Value.cells]⟩,rfl,rfl⟩
 ·rw [List.append_nil,hfn ds hlen]
  exact hg.trodAll hl hT hA hlt' (fun x hx=>by simpa using hlt' x hx)
 ·rw [List.append_nil,hfn ds hlen,hvars]
  rfl

theorem q2v {H:Type} {enc:TypeId × Value->H} {P:Program} {f:Func} {s:ChangeSpec} {c:Ctr} {W:World} {args:Array Value} {ds gs:List (DataW H)} {before:List MemPlace} {bt:TypeId} {ρ:Env}
  (hok:c.ok P) (hheap:c.heap = []) (halts:∀ al ∈ c.alts,al.ret = .one (.vbool (.bl true)))
  (hl:laidOutB P = true) (hT:∀ t ∈ f.params.toList,P.readableRec t = true/\t < P.types.size) (hvars:s.vars = []) (hrt:f.resultTypes = #[bt]) (hbt:P.underlying bt = some .bool)
  (hfn:∀ ds':List (DataW H),ds'.length = f.params.size->s.fn H ds' = { results:=[.lit (.bool true)],args:=ds' })
  (hW:DataW.Whole enc P f.params.toList s.vars false W args.toList ds gs before)
  (hg:ρ.good) (hargs:args = (c.args.map (SV.den ρ)).toArray) (hro:∀ x ∈ c.ro,x.roden ρ (fun b=>W.heap[b]?)) (hpre:c.pre ρ) :
  Calls P c.fn args W fun e W'=>∃ v,e = .returned v/\s.post enc P f false true false false W args v W':=by
 rw [hargs]
 refine (q1V hok hheap halts hg W hro hpre).mono fun e W' ⟨he,hgr⟩=>⟨_,he,?_⟩
 rw [<- hargs]
 exact q2O hl hT hvars hrt hbt hfn hW hgr
end Go.Eng

set_option linter.unusedSimpArgs false
set_option linter.unusedVariables false
namespace Go.Eng
open Go Go.ChangeShapes Go.WideShapes Go.ChangeAt Go.RowKit

section
variable {H:Type} {enc:TypeId × Value->H} {P:Program} {w:World} {base:Nat} {spare:Nat->Bool} {held:Bool}

end

end Go.Eng

set_option linter.unusedSimpArgs false
set_option linter.unusedVariables false
namespace Go.Eng
open Go Go.Proofs
def qjo:Ctr:={ qgz with pre:=fun ρ=>qgz.pre ρ/\qbi (ρ 2).i (ρ 3).i (ρ 4).i = true/\(ρ 6).i <= 8192,alts:=[{ k:=9,ret:=.tup [(true,qiW 2 3 4 6 12 13 4 14),(false,[.vslice 15 (.lit 0) (.var 4) (.var 16) 2]),qcS (.lit 0)],heap:=[fHp 17,qfD 13 18 14,.arr 15 86 qjh (.var 19) (.var 16),.abs 20 10],post:=fun ρ=>qv (ρ 17).d/\qbi (ρ 2).i (ρ 3).i (ρ 4).i = true/\(ρ 6).i <= 8192/\(ρ 19).d.length = (ρ 4).i.toNat/\qf6 (ρ 20).h (ρ 19).d (ρ 4).i.toNat (qdB (ρ 2).i.toNat (ρ 4).i.toNat (bI (ρ 8).d))/\qd (ρ 12).d 32 = sha (bI (ρ 8).d)/\qfA (ρ 18).d/\dgs (ρ 18).d = qd0 (qdB (ρ 2).i.toNat (ρ 4).i.toNat (bI (ρ 8).d)) (ρ 4).i.toNat }] }
end Go.Eng

set_option linter.unusedSimpArgs false
set_option linter.unusedVariables false
set_option maxRecDepth 100000
namespace Go.Proofs
open Go Go.Eng

end Go.Proofs

set_option linter.unusedSimpArgs false
set_option linter.unusedVariables false
namespace Go.Proofs
open Go Go.Eng
section
variable {k total:Nat} {data:List Int}
end
section
variable {h:Hp} {P:qf} {k n t s l:Int} {data:List Int} {G:qf}
theorem q3R {f:Nat->List Int} {m:Nat} {x:Int} (x0:0 <= x) (x1:x < m):(qd0 f m).getD x.toNat [] = sha (qcd x ++ f x.toNat):=by
 unfold qd0
 rw [List.getD_eq_getElem?_getD,List.getElem?_map,List.getElem?_range (by omega)]
 simp only [Option.map_some,Option.getD_some]
 rw [Int.toNat_of_nonneg x0]
theorem q2A {x:Int} {m:List Int} (hM:qG k n t s l = true) (hb:qx data) (hsz:s = data.length) (hG:dgs G = qd0 (qdB k.toNat t.toNat data) t.toNat) (x0:0 <= x) (x1:x < t) (hm:m = qdB k.toNat t.toNat data x.toNat):qcm k n t s l (dgs G) x m = 0:=by
 obtain ⟨k1,k2,k3,k4,s0,s1,htl⟩:=q0t.1 hM
 have hl:(m.length:Int) = qez k s:=by
  rw [hm,(q1T (by omega) (by omega) (by omega) hb _).1,q2K k1 s0,hsz]
  unfold plI
  simp
 have hS:sha (qcd x ++ m) = (dgs G).getD x.toNat []:=by rw [hm,hG,q3R x0 (by omega)]
 rw [qcm,if_neg (by rw [hM]; decide),if_neg (by omega),if_neg (fun h=>h hl),if_neg (fun h=>h hS)]
end
section
variable {h h':Hp} {D S L:qf} {n i:Nat} {t:Int} {f:Nat->List Int}
end
section
variable {h h0:Hp} {P P0 G R:qf} {k n t s l x e y m:Int} {data O:List Int} {N N':Nat}
end
section
variable {h h':Hp} {S L:qf} {i n j i':Int} {t:Int} {f:Nat->List Int}
end
section
variable {h h0:Hp} {D D0 G:qf} {T:Nat} {t:Int} {f:Nat->List Int} {N N' M:Nat}
end
end Go.Proofs

set_option linter.unusedSimpArgs false
set_option linter.unusedVariables false
namespace Go.Proofs
open Go Go.Eng
theorem q4j:qjo.ok Tryz.prog:=by
 refine ⟨qwE.1,fun ρ w hF hO hg hd hw hs hro hp=>?_⟩
 obtain ⟨hp,hs3,h8⟩:=hp
 refine (qwE.2 ρ w hF hO hg hd hw hs hro hp).mono fun e w' h=>?_
 obtain ⟨ai,al,ρ',h1,h2,hρ,h4,hpost,h6⟩:=h
 match ai,h1 with
 | 0,h1 =>
  obtain rfl:=(Option.some.inj h1).symm
  exfalso
  have e2:=hρ 2 (by decide)
  have e3:=hρ 3 (by decide)
  have e4:=hρ 4 (by decide)
  have e6:=hρ 6 (by decide)
  obtain ⟨_,⟨h1,_⟩ | ⟨_,h1,_⟩⟩:=hpost
  ·change qbi (ρ' 2).i (ρ' 3).i (ρ' 4).i = false at h1
   rw [e2,e3,e4,hs3] at h1; cases h1
  ·change 8192 < (ρ' 6).i at h1
   rw [e6] at h1; omega
 | 1,h1 =>
  obtain rfl:=(Option.some.inj h1).symm
  exact ⟨0,_,ρ',rfl,h2,hρ,h4,hpost,h6⟩
 | ai + 2,h1=>simp [qgz] at h1
set_option maxRecDepth 20000
end Go.Proofs

set_option linter.unusedSimpArgs false
set_option linter.unusedVariables false
namespace Go.Eng
open Go Go.Proofs
def qn (d:qf):List Int:=d.map fun row=>qbs row 0
def qqw:List CK:=List.replicate 16 .bool
def b16 (n:Nat):SV:=.agg ((List.range 16).map fun i=>.c1 .vbool (.var (n + i)))
def qp4 (x:Int):Bool:=decide (0 <= x/\x < 16)
def qct:Ctr:={ fn := 100,nv:=1,args:=[iv .i64 (.var 0)],heap:=[],ro:=[],pre:=fun _=>True,alts:=[{ k:=1,ret:=.one (.vbool (.var 1)),heap:=[],post:=fun ρ=>(ρ 1).b = qp4 (ρ 0).i }] }
def qeb (r:Nat):SH:=iHp r (r + 3) (r + 4)
def qbS (ρ:Env) (r:Nat):Prop:=(ρ (r + 1)).i = (ρ (r + 3)).d.length/\(ρ (r + 1)).i <= 1000000000000/\∀ row ∈ (ρ (r + 3)).d,row.length = 1
def qeB (l:List Bool) (L:List Int):Prop:=l.length = 16/\∀ j:Nat,j < 16->(l.getD j false = true↔(j:Int) ∈ L)
def qdP:Ctr:={ fn := 82,nv:=5,args:=[bS 0],heap:=[],ro:=[qeb 0],pre:=fun ρ=>qbS ρ 0,alts:=[
 { k:=16,ret:=b16 5,heap:=[],post:=fun ρ=>qeB [(ρ 5).b,(ρ 6).b,(ρ 7).b,(ρ 8).b,(ρ 9).b,(ρ 10).b,(ρ 11).b,(ρ 12).b,(ρ 13).b,(ρ 14).b,(ρ 15).b,(ρ 16).b,(ρ 17).b,(ρ 18).b,(ρ 19).b,(ρ 20).b] (qn (ρ 3).d) }] }
def qdy (s:qf) (l:List Int) (n:Nat):Prop:=(∃ row,s = [row]/\row.length = 16)/\∀ x:Int,0 <= x->x < 16->(qaP s x.toNat = true↔x ∈ l.take n)
def qqk:Inv:={ key:=2,nv:=3,env:=[(2,.one (.vptr 1000 (.lit 0) 16 0)),(5,bS 0),(6,iv .i64 (.var 1)),(7,iv .i64 (.var 1002))],heap:=[.arr 1000 157 qqw (.var 1001) (.lit 1)],inv:=(fun ρ=>0 <= (ρ 1002).i/\(ρ 1002).i <= (ρ 1).i/\qdy (ρ 1001).d (qn (ρ 3).d) (ρ 1002).i.toNat),mu:=(fun ρ=>((ρ 1).i - (ρ 1002).i).toNat) }
def qL (o:List Int) (p:Int):List Int:=sha (o ++ [p % 256])
def qco:Ctr:={ fn := 24,nv:=4,ip:=[gIp 2,(1005,9)],args:=[dgV 0,iv .i64 (.var 1)],heap:=[],ro:=[gHp 2 3],pre:=fun ρ=>qT (qd (ρ 0).d 32)/\gOk ρ 2 3 gR,alts:=[
 { k:=1,ret:=dgV 4,heap:=[],post:=fun ρ=>qd (ρ 4).d 32 = qL (qd (ρ 0).d 32) (ρ 1).i }] }
def rkV (p d:Nat):SV:=.agg (.vint .i64 (.var p) :: qaY .u8 d 32)
def qdH:Ctr:={ fn := 80,nv:=4,ip:=[gIp 2],args:=[dgV 0,iv .i64 (.var 1)],heap:=[],ro:=[gHp 2 3],pre:=fun ρ=>qT (qd (ρ 0).d 32)/\gOk ρ 2 3 gR,alts:=[
 { k:=2,ret:=.agg (.vint .i64 (.var 1) :: qaY .u8 4 32),heap:=[],post:=fun ρ=>qd (ρ 4).d 32 = qL (qd (ρ 0).d 32) (ρ 1).i }] }
def qbz:List Int->List Int->Int
 | [],[]=>0
 | [],_ :: _=>-1
 | _ :: _,[]=>1
 | a :: l,b :: m=>if a < b then -1 else if b < a then 1 else qbz l m
def kRk:List CK:=.int .i64 :: List.replicate 32 (.int .u8)
def qks:Ctr:={ fn := 118,nv:=4,args:=[.one (.vslice 0 (.lit 1) (.lit 32) (.lit 32) 1),.one (.vslice 1 (.lit 1) (.lit 32) (.lit 32) 1)],heap:=[],ro:=[.arr 0 153 kRk (.var 2) (.lit 1),.arr 1 153 kRk (.var 3) (.lit 1)],pre:=fun ρ=>qam (ρ 2).d 33/\qam (ρ 3).d 33/\qT ((qd (ρ 2).d 33).drop 1)/\qT ((qd (ρ 3).d 33).drop 1),alts:=[
 { k:=1,ret:=iv .i64 (.var 4),heap:=[],post:=fun ρ=>(ρ 4).i = qbz ((qd (ρ 2).d 33).drop 1) ((qd (ρ 3).d 33).drop 1) }] }
def qcJ:Ctr:={ fn := 81,nv:=4,args:=[rkV 0 1,rkV 2 3],heap:=[],ro:=[],pre:=fun ρ=>qT (qd (ρ 1).d 32)/\qT (qd (ρ 3).d 32),alts:=[
 { k:=1,ret:=iv .i64 (.var 4),heap:=[],post:=fun ρ=>(ρ 4).i = if qbz (qd (ρ 1).d 32) (qd (ρ 3).d 32) = 0 then qc .sub .i64 (ρ 0).i (ρ 2).i else qbz (qd (ρ 1).d 32) (qd (ρ 3).d 32) }] }
def qN (o:List Int) (a b:Int):Bool:=if qL o a = qL o b then decide (a < b) else decide (qbz (qL o a) (qL o b) < 0)
def qaJ:Ctr:={ fn := 26,nv:=5,ip:=[gIp 3],args:=[dgV 0,iv .i64 (.var 1),iv .i64 (.var 2)],heap:=[],ro:=[gHp 3 4],pre:=fun ρ=>qT (qd (ρ 0).d 32)/\gOk ρ 3 4 gR,alts:=[
 { k:=1,ret:=.one (.vbool (.var 5)),heap:=[],post:=fun ρ=>(ρ 5).b = qN (qd (ρ 0).d 32) (ρ 1).i (ρ 2).i }] }
end Go.Eng

set_option linter.unusedSimpArgs false
set_option linter.unusedVariables false
namespace Go.Eng
open Go Go.Proofs
def qdm (o:List Int) (a b:Int):Int:=if qL o a = qL o b then a - b else qbz (qL o a) (qL o b)
def qmp (o:List Int) (s out:List Int):Prop:=out.Perm s/\out.Pairwise fun a b=>qN o a b = true
def qc7 (l:List Int):List Int:=((List.range 16).map fun (i:Nat)=>(i:Int)).filter fun x=>decide (x ∈ l)
end Go.Eng
namespace Go.Proofs
open Go Go.Eng
theorem qfv:∀ {a b:List Int},qbz a b = 0↔a = b
 | [],[]=>by simp [qbz]
 | [],_ :: _=>by simp [qbz]
 | _ :: _,[]=>by simp [qbz]
 | x :: a,y :: b=>by
  unfold qbz
  by_cases h1:x < y
  ·rw [if_pos h1]
   constructor
   ·intro h; omega
   ·intro h; injection h; omega
  ·rw [if_neg h1]
   by_cases h2:y < x
   ·rw [if_pos h2]
    constructor
    ·intro h; omega
    ·intro h; injection h; omega
   ·rw [if_neg h2,qfv]
    have:x = y:=by omega
    subst this
    simp
theorem quh:∀ {a b:List Int},qbz b a = - qbz a b
 | [],[]=>rfl
 | [],_ :: _=>rfl
 | _ :: _,[]=>rfl
 | x :: a,y :: b=>by
  unfold qbz
  by_cases h1:x < y
  ·rw [if_pos h1,if_neg (by omega),if_pos h1]; rfl
  ·by_cases h2:y < x
   ·rw [if_pos h2,if_neg h1,if_pos h2]
   ·rw [if_neg h2,if_neg h1,if_neg h1,if_neg h2]; exact quh
theorem qo2:∀ {a b c:List Int},qbz a b < 0->qbz b c < 0->qbz a c < 0
 | [],[],_,h,_=>by simp [qbz] at h
 | [],_ :: _,[],_,h=>by simp [qbz] at h
 | [],_ :: _,_ :: _,_,_=>by simp [qbz]
 | _ :: _,[],_,h,_=>by simp [qbz] at h
 | _ :: _,_ :: _,[],_,h=>by simp [qbz] at h
 | x :: a,y :: b,z :: c,h1,h2=>by
  unfold qbz at h1 h2 ⊢
  by_cases a1:x < y
  ·by_cases b1:y < z
   ·rw [if_pos (by omega)]; decide
   ·rw [if_neg b1] at h2
    by_cases b2:z < y
    ·rw [if_pos b2] at h2; omega
    ·rw [if_pos (by omega)]; decide
  ·rw [if_neg a1] at h1
   by_cases a2:y < x
   ·rw [if_pos a2] at h1; omega
   ·rw [if_neg a2] at h1
    have e:x = y:=by omega
    subst e
    by_cases b1:x < z
    ·rw [if_pos b1]; decide
    ·rw [if_neg b1] at h2 ⊢
     by_cases b2:z < x
     ·rw [if_pos b2] at h2; omega
     ·rw [if_neg b2] at h2 ⊢
      exact qo2 h1 h2
variable {o:List Int} {a b c:Int}
theorem qfx:qN o a b = decide (qdm o a b < 0):=by
 unfold qN qdm
 by_cases h:qL o a = qL o b
 ·rw [if_pos h,if_pos h]
  exact decide_eq_decide.2 ⟨fun h=>by omega,fun h=>by omega⟩
 ·rw [if_neg h,if_neg h]
theorem qfw:qdm o a b = 0↔a = b:=by
 unfold qdm
 by_cases h:qL o a = qL o b
 ·rw [if_pos h]; omega
 ·rw [if_neg h,qfv]
  exact ⟨fun h'=>(h h').elim,fun h'=>by rw [h']⟩
theorem qkv:qdm o b a = - qdm o a b:=by
 unfold qdm
 by_cases h:qL o a = qL o b
 ·rw [if_pos h,if_pos h.symm]; omega
 ·rw [if_neg h,if_neg (fun h'=>h h'.symm),quh]
theorem qj9 (h1:qdm o a b < 0) (h2:qdm o b c < 0):qdm o a c < 0:=by
 unfold qdm at h1 h2 ⊢
 by_cases e1:qL o a = qL o b
 ·rw [if_pos e1] at h1
  by_cases e2:qL o b = qL o c
  ·rw [if_pos e2] at h2
   rw [if_pos (e1.trans e2)]; omega
  ·rw [if_neg e2] at h2
   rw [if_neg (by rw [e1]; exact e2),e1]; exact h2
 ·rw [if_neg e1] at h1
  by_cases e2:qL o b = qL o c
  ·rw [if_neg (by rw [<- e2]; exact e1),<- e2]; exact h1
  ·rw [if_neg e2] at h2
   have h3:=qo2 h1 h2
   by_cases e3:qL o a = qL o c
   ·rw [e3,qfv.2 rfl] at h3; omega
   ·rw [if_neg e3]; exact h3
theorem q0k (h1:qN o a b = true) (h2:qN o b c = true):qN o a c = true:=by
 rw [qfx,decide_eq_true_eq] at h1 h2 ⊢
 exact qj9 h1 h2
theorem qpl:qN o a a = false:=by
 rw [qfx,qfw.2 rfl]; rfl
theorem qzT (h:qN o a b = true):qN o b a = false:=by
 rw [qfx,decide_eq_true_eq] at h
 rw [qfx,decide_eq_false_iff_not,qkv]; omega
theorem qr5 (h:a ≠ b):qN o a b = true∨qN o b a = true:=by
 rw [qfx,qfx,decide_eq_true_eq,decide_eq_true_eq,qkv (a:=a) (b:=b)]
 have:¬ qdm o a b = 0:=fun h'=>h (qfw.1 h')
 omega
theorem qr6:∀ {l m:List Int},l.Perm m->(l.Pairwise fun a b=>qN o a b = true)->(m.Pairwise fun a b=>qN o a b = true)->l = m
 | [],m,h,_,_=>(List.Perm.nil_eq h)
 | x :: l,[],h,_,_=>by simp at h
 | x :: l,y :: m,h,h1,h2=>by
  rw [List.pairwise_cons] at h1 h2
  have hxy:x = y:=by
   rcases List.mem_cons.1 (h.subset (List.mem_cons_self ..)) with e | e
   ·exact e
   ·rcases List.mem_cons.1 (h.symm.subset (List.mem_cons_self ..)) with e' | e'
    ·exact e'.symm
    ·have a1:=h2.1 x e
     have a2:=h1.1 y e'
     rw [qzT a1] at a2; cases a2
  subst hxy
  rw [qr6 (List.Perm.cons_inv h) h1.2 h2.2]
theorem qvw {s l m:List Int} (h1:qmp o s l) (h2:qmp o s m):l = m:=qr6 (h1.1.trans h2.1.symm) h1.2 h2.2
end Go.Proofs

set_option linter.unusedSimpArgs false
set_option linter.unusedVariables false
namespace Go.Eng
open Go Go.Proofs
end Go.Eng

set_option linter.unusedSimpArgs false
set_option linter.unusedVariables false
namespace Go.Eng
open Go Go.Proofs
def qH (L:List Int) (n:Nat):List Int:=((List.range n).map fun (i:Nat)=>(i:Int)).filter fun x=>decide (x ∈ L)
def qeC:Ctr:={ fn := 121,nv:=6,args:=[bS 0,iv .i64 (.var 5)],heap:=[],ro:=[qeb 0],pre:=fun ρ=>qbS ρ 0,alts:=[{ k:=1,ret:=iv .i64 (.var 6),heap:=[],post:=fun ρ=>0 <= (ρ 6).i↔(ρ 5).i ∈ qn (ρ 3).d }] }
def quQ:Inv:={ key:=2,nv:=1,env:=[(0,bS 0),(1,iv .i64 (.var 5)),(6,bS 0),(7,iv .i64 (.var 1)),(8,iv .i64 (.var 1000))],heap:=[],inv:=(fun ρ=>0 <= (ρ 1000).i/\(ρ 1000).i <= (ρ 1).i/\(ρ 5).i ∉ (qn (ρ 3).d).take (ρ 1000).i.toNat),mu:=(fun ρ=>((ρ 1).i - (ρ 1000).i).toNat) }
def qaH:Ctr:={ fn := 84,nv:=6,args:=[bS 0,iv .i64 (.var 5)],heap:=[],ro:=[qeb 0],pre:=fun ρ=>qbS ρ 0,alts:=[{ k:=1,ret:=.one (.vbool (.var 6)),heap:=[],post:=fun ρ=>(ρ 6).b = decide ((ρ 5).i ∈ qn (ρ 3).d) }] }
end Go.Eng

set_option linter.unusedSimpArgs false
set_option linter.unusedVariables false
namespace Go.Eng
open Go Go.Proofs
def qlU (o:List Int) (self n:Int) (L:List Int):Bool:=decide (1 <= n) && decide (n <= (((qc7 L).filter fun i=>qN o i self).length:Int))
def q6r (ρ:Env) (g:Nat):Prop:=qT (qd (ρ 0).d 32)/\qbS ρ 3/\gOk ρ 8 9 g
def q4l:Ctr:={ fn := 37,nv:=10,ip:=[gIp 8],args:=[dgV 0,iv .i64 (.var 1),iv .i64 (.var 2),bS 3],heap:=[],ro:=[qeb 3,gHp 8 9],pre:=fun ρ=>q6r ρ gR,alts:=[{ k:=1,ret:=.one (.vbool (.var 10)),heap:=[],post:=fun ρ=>(ρ 10).b = qlU (qd (ρ 0).d 32) (ρ 1).i (ρ 2).i (qn (ρ 6).d) }] }
def q6x:Inv:={ key:=3,nv:=3,env:=[(1,iv .i64 (.var 1)),(2,iv .i64 (.var 2)),(4,.one (.vptr 1000 (.lit 0) 32 0)),(9,iv .i64 (.var 1002)),(13,b16 11),(14,iv .i64 (.var 1001))],heap:=[.cells 1000 24 (qaY .u8 0 32)],inv:=(fun ρ=>0 <= (ρ 1001).i/\(ρ 1001).i <= 16/\(ρ 1002).i = (((qH (qn (ρ 6).d) (ρ 1001).i.toNat).filter fun i=>qN (qd (ρ 0).d 32) i (ρ 1).i).length:Int)),mu:=(fun ρ=>(16 - (ρ 1001).i).toNat) }
end Go.Eng

set_option linter.unusedSimpArgs false
set_option linter.unusedVariables false
namespace Go.Eng
open Go Go.Proofs
def qB (o:List Int) (p:Int):List Value:=.int .i64 p :: (qL o p).map (Value.int .u8)
def qap (o l:List Int):List Int:=l.mergeSort fun a b=>!qN o b a
def qaX (o live:List Int) (n:Int):List Int:=(qap o (qc7 live)).take n.toNat
def qaO (d:qf) (n:Int) (l:List Int):Prop:=n = d.length/\qn d = l/\∀ row ∈ d,row.length = 1
def qup (r d c:Nat):SH:=.arr r 153 kRk (.var d) (.var c)
def rkS (r l c:Nat):SV:=.one (.vslice r (.lit 0) (.var l) (.var c) 33)
def qer:Ctr:={ fn := 83,nv:=4,args:=[rkS 0 1 2,.fn (.func 81) [] []],heap:=[qup 0 3 2],ro:=[],pre:=fun ρ=>(ρ 1).i = (ρ 3).d.length/\(ρ 1).i <= 1000000/\∃ o L:List Int,qT o/\(ρ 3).d = L.map (qB o)/\∀ x ∈ L,0 <= x/\x < 16,alts:=[
 { k:=1,ret:=.tup [],heap:=[qup 0 4 2],post:=fun ρ=>∀ o L:List Int,qT o->(ρ 3).d = L.map (qB o)->(∀ x ∈ L,0 <= x/\x < 16)->(ρ 4).d = (qap o L).map (qB o) }] }
def q4K (r:Nat):SH:=.cells r 24 (qaY .u8 0 32)
def qzb (r:Nat):SV:=.one (.vptr r (.lit 0) 32 0)
def qs5 (ρ:Env) (g:Nat):Prop:=qT (qd (ρ 0).d 32)/\qbS ρ 1/\gOk ρ 7 8 g
def qbd:Ctr:={ fn := 32,nv:=9,ip:=[gIp 7],args:=[dgV 0,bS 1,iv .i64 (.var 6)],heap:=[],ro:=[qeb 1,gHp 7 8],pre:=fun ρ=>qs5 ρ gR,alts:=[
 { k:=4,ret:=.one (.vslice 9 (.lit 0) (.var 10) (.var 11) 1),heap:=[iHp 9 12 11],post:=fun ρ=>qaO (ρ 12).d (ρ 10).i (qaX (qd (ρ 0).d 32) (qn (ρ 4).d) (ρ 6).i) }] }
def qqy:Inv:={ key:=3,nv:=6,env:=[(2,iv .i64 (.var 6)),(3,qzb 1000),(7,rkS 1002 1003 1004),(14,b16 10),(15,iv .i64 (.var 1001))],heap:=[q4K 1000,qup 1002 1005 1004],inv:=(fun ρ=>0 <= (ρ 1001).i/\(ρ 1001).i <= 16/\(ρ 1003).i = (ρ 1005).d.length/\(ρ 1005).d = (qH (qn (ρ 4).d) (ρ 1001).i.toNat).map (qB (qd (ρ 0).d 32))),mu:=(fun ρ=>(16 - (ρ 1001).i).toNat) }
def qq8:Inv:={ key:=11,nv:=9,env:=[(36,rkS 1000 1001 1002),(37,iv .i64 (.var 1001)),(38,iv .i64 (.var 1003)),(10,.one (.vslice 1004 (.lit 0) (.var 1005) (.var 1006) 1))],heap:=[qup 1000 1007 1002,iHp 1004 1008 1006],inv:=(fun ρ=>0 <= (ρ 1003).i/\(ρ 1003).i <= (ρ 1001).i/\(ρ 1001).i <= (ρ 1007).d.length/\(ρ 1007).d = (qap (qd (ρ 0).d 32) (qc7 (qn (ρ 4).d))).map (qB (qd (ρ 0).d 32))/\(ρ 1001).i = min (max (ρ 6).i 0) ((qap (qd (ρ 0).d 32) (qc7 (qn (ρ 4).d))).length:Int)/\qaO (ρ 1008).d (ρ 1005).i ((qap (qd (ρ 0).d 32) (qc7 (qn (ρ 4).d))).take (ρ 1003).i.toNat)),mu:=(fun ρ=>((ρ 1001).i - (ρ 1003).i).toNat) }
def qgt (n:Int):List Int:=(List.range (min (max n 0) 16).toNat).map fun (i:Nat)=>(i:Int)
def qjE (o:List Int) (n:Int):List Int:=qaX o (qgt n) 16
def qcf:Ctr:={ fn := 29,nv:=4,ip:=[gIp 2],args:=[dgV 0,iv .i64 (.var 1)],heap:=[],ro:=[gHp 2 3],pre:=fun ρ=>qT (qd (ρ 0).d 32)/\gOk ρ 2 3 gR,alts:=[
 { k:=4,ret:=.one (.vslice 4 (.lit 0) (.var 5) (.var 6) 1),heap:=[iHp 4 7 6],post:=fun ρ=>qaO (ρ 7).d (ρ 5).i (qjE (qd (ρ 0).d 32) (ρ 1).i) }] }
def qnO:Inv:={ key:=3,nv:=7,env:=[(2,qzb 1000),(5,.one (.vslice 1001 (.lit 0) (.var 1002) (.var 1003) 1)),(10,iv .i64 (.var 1006)),(11,iv .i64 (.var 1005))],heap:=[q4K 1000,iHp 1001 1004 1003],inv:=(fun ρ=>0 <= (ρ 1005).i/\(ρ 1005).i <= (ρ 1006).i/\(ρ 1006).i = min (max (ρ 1).i 0) 16/\qaO (ρ 1004).d (ρ 1002).i (qgt (ρ 1005).i)),mu:=(fun ρ=>((ρ 1006).i - (ρ 1005).i).toNat) }
def qgD (o:List Int) (self:Int) (L:List Int) (n:Int) (held buried:Bool):Int :=
 if buried then (if held then 3 else 0) else if n < 1 then 0 else if self ∈ qaX o L n then (if held then 0 else 1) else if held = true/\((qaX o L n).length:Int) = n then 2 else 0
def q46 (ρ:Env) (g:Nat):Prop:=qT (qd (ρ 0).d 32)/\qbS ρ 2/\gOk ρ 10 11 g
def qfG:Ctr:={ fn := 35,nv:=12,ip:=[gIp 10],args:=[dgV 0,iv .i64 (.var 1),bS 2,iv .i64 (.var 7),.one (.vbool (.var 8)),.one (.vbool (.var 9))],heap:=[],ro:=[qeb 2,gHp 10 11],pre:=fun ρ=>q46 ρ gR,alts:=[
 { k:=1,ret:=iv .u8 (.var 12),heap:=[],post:=fun ρ=>(ρ 12).i = qgD (qd (ρ 0).d 32) (ρ 1).i (qn (ρ 5).d) (ρ 7).i (ρ 8).b (ρ 9).b }] }
end Go.Eng
