/- Texts ZW, ZX, DS, DT, BT, BU, BV, BW, BX, BY, CA, CB, CC, CD, CE, CF, CG, CH, CI, CK, YA, CL, CM, ZLq, YF, W1, W2, W3, WD, CN, CO, YB, ZSq, YC, CP, W4, WC, YD, YE, YG, YK, W5, W6, YM, YR, CQ, CR, YS, W7, YU, YV, YW, CS, W9, V3, VT, VZ, VW, CT, CW, V4, VM, VU, WF, VV, WA, WE, VX, VY, WG, WH, WI, WN, CV, CX, WO, WQ, CY, E13, E14, FD, FE, FF, FG, PF. -/
import Derived.Test.YtelcnkclppkicaaGreatDoorG6
import Derived.Test.YtelcnkclppkicaaGreatDoorG4
import Derived.Test.YtelcnkclppkicaaGreatDoorG5
import Derived.Test.YtelcnkclppkicaaGreatDoorProg
import Derived.WalkKit
import Derived.ProofKit
import Derived.OpenShut
import Derived.Carry
import Derived.SizedLaws
set_option linter.unusedSimpArgs false
set_option linter.unusedVariables false
namespace Go.Proofs
open Go Go.Eng

theorem q5e:qnC.ok Tryz.prog:=Ctr.ok_less q3j rfl rfl rfl rfl rfl (fun _ h=>h.1) fun ρ ρ' ai al hp hag hal hpost=>by
 match ai,hal with
 | 0,hal =>
  exfalso
  obtain rfl:=Option.some.inj hal
  obtain ⟨_,h2⟩:_/\(qaA ((ρ'.upto 5) 2).i ((ρ'.upto 5) 3).i = true->(qcn ((ρ'.upto 5) 2).i.toNat ((ρ'.upto 5) 3).i.toNat).2.2 < ((ρ'.upto 5) 2).i.toNat):=hpost
  have e2:(ρ'.upto 5) 2 = ρ 2:=by rw [Env.upto,if_pos (by omega)]; exact hag 2 (by decide)
  have e3:(ρ'.upto 5) 3 = ρ 3:=by rw [Env.upto,if_pos (by omega)]; exact hag 3 (by decide)
  rw [e2,e3] at h2
  obtain ⟨_,p2,p3⟩:=hp
  have:=h2 p2
  omega
 | 1,hal=>exact ⟨0,hal⟩
 | n + 2,hal=>cases hal
theorem qmv {k n:Nat} (hk:0 < k):n <= k * qF k n:=by
 unfold qF
 have h1:=Nat.div_add_mod (n + k - 1) k
 have h2:=Nat.mod_lt (n + k - 1) hk
 omega
theorem qmy {k n:Nat} (hk:0 < k):k * qF k n < n + k:=by
 unfold qF
 have h1:=Nat.div_add_mod (n + k - 1) k
 omega
theorem qmF {k n:Nat} (hk:0 < k):qF k n <= n:=by
 have h:=qmy (n:=n) hk
 by_cases h2:qF k n <= n
 ·exact h2
 ·have h3:k * (n + 1) <= k * qF k n:=Nat.mul_le_mul_left k (by omega)
  rw [Nat.mul_add,Nat.mul_one] at h3
  have h4:n * 1 <= k * n:=by rw [Nat.mul_comm k n]; exact Nat.mul_le_mul_left n hk
  omega
theorem qrC {k:Int} {n:Nat} (hk:1 <= k):((n:Int) + k - 1).tdiv k = (qF k.toNat n:Nat):=by
 rw [Int.tdiv_eq_ediv_of_nonneg (by omega),qF,Int.natCast_ediv]
 congr 1 <;> omega
theorem qzP {d x:qc} (h:x.length <= d.length):bI (qbz d 0 x) = bI x ++ (bI d).drop x.length:=by
 simp [qbz,bI,List.map_drop]
theorem qvm {d x:qc} (hd:qB d) (hx:qB x):qB (qbz d 0 x):=fun r hr=>by
 unfold qbz at hr
 rcases List.mem_append.1 hr with hr | hr
 ·rcases List.mem_append.1 hr with hr | hr
  ·simp at hr
  ·exact hx r hr
 ·exact hd r (List.mem_of_mem_drop hr)
theorem q0g {k total len lg cg:Int} {f dg data D:qc} (hf:qx f) (hs:qaA k total = true) (h1:len <= 8192) (h2:len = data.length) (hB:qB data) (hM:qO total k lg cg dg) (hG:bI dg = qcP k.toNat total.toNat) (hD:D = List.replicate total.toNat [.int .i64 0,.slice none 0 0]) :
  qmS k total len (qF k.toNat data.length:Nat) (k * (qF k.toNat data.length:Nat)) (k * (qF k.toNat data.length:Nat)) lg cg 0 f dg (qbz (List.replicate (k * (qF k.toNat data.length:Nat)).toNat [.int .u8 0]) 0 data) D data:=by
 obtain ⟨k1,k2,k3⟩:=qkd.1 hs
 have hge:=qmv (k:=k.toNat) (n:=data.length) (by omega)
 have hle:=qmF (k:=k.toNat) (n:=data.length) (by omega)
 have hc:(k * (qF k.toNat data.length:Nat)).toNat = k.toNat * qF k.toNat data.length:=by rw [Int.toNat_mul (by omega) (by omega)]; simp
 have hc0:0 <= k * (qF k.toNat data.length:Nat):=Int.mul_nonneg (by omega) (by omega)
 refine ⟨hf,hs,h1,h2,hB,rfl,by omega,rfl,?_,qvm qhk hB,?_,hM,hG,by rw [hD,List.length_replicate],fun row hr=>by rw [hD] at hr; rw [List.eq_of_mem_replicate hr]; rfl,by omega,by omega⟩
 ·rw [qm8 (by rw [List.length_replicate]; omega),List.length_replicate]; omega
 ·rw [qzP (by rw [List.length_replicate]; omega),qlv,hc,qhH,bI_len,List.drop_replicate]; simp
theorem q0V {k total len l lf cf lg cg i:Int} {f dg df D data:qc} {v w:Value} (h:qmS k total len l lf cf lg cg i f dg df D data) (hi:i < total):qmS k total len l lf cf lg cg (i + 1) f dg df (qch D i 0 [v,w]) data:=by
 obtain ⟨a1,a2,a3,a4,a5,a6,a7,a8,a9,a10,a11,a12,a13,a14,a17,a15,a16⟩:=h
 refine ⟨a1,a2,a3,a4,a5,a6,a7,a8,a9,a10,a11,a12,a13,by rw [qeQ]; exact a14,fun row hr=>?_,by omega,by omega⟩
 unfold qch at hr
 rcases List.mem_or_eq_of_mem_set hr with hr | rfl
 ·exact a17 row hr
 ·have hl:i.toNat < D.length:=by omega
  have:=a17 _ (List.getElem_mem hl)
  rw [List.getElem?_eq_getElem hl,Option.getD_some,qko (by rw [this]; simp),this]
theorem q6Y {k total len l lf cf lg cg i:Int} {f f' dg df D data:qc} (h:qmS k total len l lf cf lg cg i f dg df D data) (hf:qx f'):qmS k total len l lf cf lg cg i f' dg df D data:=⟨hf,h.2⟩
theorem qjM {h h':Hp} {D:qc} {n:Nat} {f:Nat->List Int} (he:qfp h D n f) (hl:Hp.le h h'):qfp h' D n f:=fun j hj=>by
 obtain ⟨v,d,e1,e2,e3⟩:=he j hj
 exact ⟨v,d,e1,qiJ e2 hl,e3⟩
theorem qyF {h h':Hp} {D:qc} {i:Int} {f:Nat->List Int} {v:Value} {d:qc} (he:qfp h D i.toNat f) (hl:Hp.le h h') (h0:0 <= i) (hi:i.toNat < D.length) (hc:(D[i.toNat]?.getD []).length = 2) (hr:Rd h' kB v d) (hd:bI d = f i.toNat) (hB:qB d) :
  qfp h' (qch D i 0 [.int .i64 i,v]) (i.toNat + 1) f:=fun j hj=>by
 by_cases hji:j = i.toNat
 ·subst hji
  refine ⟨v,d,?_,hr,hd,hB⟩
  have hs:qa7 (D[i.toNat]?.getD []) 0 [.int .i64 i,v] = [.int .i64 i,v]:=by
   simp only [qa7,List.take_zero,List.nil_append]
   rw [List.drop_eq_nil_of_le (by rw [hc]; exact Nat.le_refl _),List.append_nil]
  rw [qch,List.getElem?_set_self hi,hs,Int.toNat_of_nonneg h0]
 ·obtain ⟨v',d',e1,e2,e3⟩:=he j (by omega)
  exact ⟨v',d',by rw [qch,List.getElem?_set_ne (by omega)]; exact e1,qiJ e2 hl,e3⟩
set_option maxRecDepth 20000 in
set_option pp.deepTerms true in
set_option pp.maxSteps 1000000 in
theorem qvj:qbV.ok Tryz.prog:=qvx (by simp [qpe,qoC,q5e,qn5,qmP]) fun ρ hg hp=>by
 obtain ⟨hf,hl,hB,hrk⟩:=hp
 have hne:=(qbX hf).1
 simp (config:={ maxSteps:=4000000 }) [qju,qbV,qlJ,qkW,qbp,qbo,qnC,qfw,qbu,qbt]
 refine ⟨fun h=>(hne h).elim,fun _ v _ hv=>⟨fun hb=>⟨hf,by rw [<- hv]; exact hb⟩,fun hb=>?_⟩⟩
 have hsz:qaA (ρ 2).i (ρ 3).i = true:=by rw [<- hv]; exact hb
 obtain ⟨k1,k2,k3⟩:=qkd.1 hsz
 refine ⟨by omega,fun h=>⟨hf,hsz,h⟩,fun hle l _ e _ _ hpl=>?_⟩
 have hnb:¬ qeO (ρ 2).i (ρ 5).i:=by unfold qeO; omega
 obtain ⟨hpl1,_⟩:=hpl hnb
 rw [hl,qrC k1] at hpl1
 have hge:=qmv (k:=(ρ 2).i.toNat) (n:=(ρ 7).d.length) (by omega)
 have hlt:=qmy (k:=(ρ 2).i.toNat) (n:=(ρ 7).d.length) (by omega)
 have hkl:(ρ 2).i * l.i = (((ρ 2).i.toNat * qF (ρ 2).i.toNat (ρ 7).d.length:Nat):Int):=by rw [hpl1,Int.natCast_mul,Int.toNat_of_nonneg (by omega)]
 rw [qc0 (by omega) (by omega)]
 have hmax:max ((ρ 2).i * l.i) 0 = (ρ 2).i * l.i:=by omega
 refine ⟨by omega,by omega,fun u3 _=>⟨by omega,by omega,fun u4 _=>⟨⟨hf,hsz,hrk hsz⟩,fun u5 _ lg _ cg _ f1 _ dg _ ab _ hf1 _ hM _ hG u11 _=>⟨by omega,by omega,fun u12 _=>⟨⟨?_,fun j hj=>by omega⟩,?_⟩⟩⟩⟩⟩
 ·have htake:(((ρ 7).d.take (ρ 5).i.toNat).take (if (ρ 5).i < (ρ 2).i * l.i then (ρ 5).i else (ρ 2).i * l.i).toNat) = (ρ 7).d:=by
   rw [List.take_of_length_le (l:=(ρ 7).d) (by omega),List.take_of_length_le (by split <;> omega)]
  rw [htake,hpl1]
  exact q0g hf1 hsz hle hl hB hM hG rfl
 intro l2 _ u14 _ lf _ cf _ u17 _ u18 _ u19 _ i _ f2 _ u22 _ lg2 _ cg2 _ dg2 _ df2 _ D2 _ ab2 _ hW hE
 refine ⟨fun hi=>?_,fun hi u29 _ hst=>?_⟩
 ·have hW':=hW
  obtain ⟨a1,a2,a3,a4,a5,a6,a7,a8,a9,a10,a11,a12,a13,a14,a17,a15,a16⟩:=hW'
  refine ⟨by omega,by omega,fun u29 _=>⟨⟨a15,hi,a12.1⟩,fun o _ n _ c _ ho hn hc=>⟨by omega,⟨hW,hE,hi,ho,hn,by omega,qhk,?_⟩,?_⟩⟩⟩
  ·rw [qlv]; rfl
  intro l3 _ u34 _ lf3 _ cf3 _ u37 _ u38 _ u39 _ i3 _ f3 _ u42 _ lg3 _ cg3 _ dg3 _ df3 _ D3 _ ab3 _ rp _ cp _ pd _ o3 _ n3 _ c3 _ j _ hW3 hE3 hii hi3 ho3 hn3 j0 j1 hpl hpB hp3
  have hW3':=hW3
  obtain ⟨b1,b2,b3,b4,b5,b6,b7,b8,b9,b10,b11,b12,b13,b14,b17,b15,b16⟩:=hW3'
  obtain ⟨⟨m1,m2,m3,m4,m5,m6,m7,m8⟩,m9⟩:=b12
  have hl0:0 <= l3.i:=by omega
  refine ⟨fun hj=>?_,fun hj=>?_⟩
  ·have hjk:j.i < (ρ 2).i:=by omega
   have hbo:=qal (x:=i3.i) (y:=(ρ 2).i) b15 (show i3.i <= 255 by omega) (by omega) (show (ρ 2).i <= 255 by omega)
   have hbj:=qal (x:=j.i) (y:=l3.i) j0 (show j.i <= 255 by omega) hl0 b7
   have hltG:i3.i * (ρ 2).i + j.i < (ρ 3).i * (ρ 2).i:=by
    have:=Int.mul_le_mul_of_nonneg_right (show i3.i + 1 <= (ρ 3).i by omega) (show 0 <= (ρ 2).i by omega)
    rw [Int.add_mul,Int.one_mul] at this; omega
   have he:(j.i + 1) * l3.i = j.i * l3.i + l3.i:=by rw [Int.add_mul,Int.one_mul]
   have hltF:j.i * l3.i + l3.i <= (ρ 2).i * l3.i:=by
    have:=Int.mul_le_mul_of_nonneg_right (show j.i + 1 <= (ρ 2).i by omega) hl0
    omega
   have hcell:=qcY m8 (i:=o3.i + j.i) (by omega) (by omega)
   rw [add64 (by omega) (by omega),qc0 (by omega) (by omega),qc0 (by omega) (by omega),he]
   refine ⟨j0,by omega,by omega,by omega,fun hcap=>⟨by omega,by omega,hbj.1,by omega,by omega,⟨b1,⟨by omega,hl0,by omega,by unfold Go.Eng.big; omega⟩,⟨by split <;> omega,by omega,by split <;> omega,by unfold Go.Eng.big; omega⟩,by omega,hpB,b10,hcell⟩,fun f4 _ d4 _ hf4 hl4 hB4 he4=>?_⟩⟩
   refine ⟨⟨q6Y hW3 hf4,hE3,hii,hi3,ho3,hn3,by omega,by omega,by omega,hB4,?_⟩,by omega⟩
   have hsg:seg (bI df3.d) (if cf3.i = j.i * l3.i then 0 else j.i * l3.i).toNat (j.i * l3.i + l3.i - j.i * l3.i).toNat = seg (bI df3.d) (j.i.toNat * l3.i.toNat) l3.i.toNat:=by
    rw [show j.i * l3.i + l3.i - j.i * l3.i = l3.i by omega]
    split
    ·have:l3.i.toNat = 0:=by omega
     rw [this]; simp [seg]
    ·rw [Int.toNat_mul j0 hl0]
   have hgd:(bI dg3.d).getD (i3.i.toNat * (ρ 2).i.toNat + j.i.toNat) 0 = qg dg3.d (o3.i + j.i) 0:=by
    have:=qgz (d:=dg3.d) (i:=o3.i + j.i) (by omega) (by omega)
    rw [show (o3.i + j.i).toNat = i3.i.toNat * (ρ 2).i.toNat + j.i.toNat by rw [ho3,Int.toNat_add hbo.1 j0,Int.toNat_mul b15 (by omega)]] at this
    rw [List.getD_eq_getElem?_getD,this]; rfl
   rw [he4,hp3,hsg,show (j.i + 1).toNat = j.i.toNat + 1 by omega,qcb,hgd]
  ·have hjk:j.i = (ρ 2).i:=by omega
   refine ⟨b15,hi3,by omega,fun u56 _ hst=>?_⟩
   rw [add64 (by omega) (by omega)]
   refine ⟨⟨q0V hW3 hi3,?_⟩,by omega⟩
   obtain ⟨ha,la,da⟩:=qjo hst (List.mem_cons_self ..)
   obtain ⟨hb,lb,db⟩:=qcg hst (n:=57) (t:=2) (by simp)
   have hr:=q12 (n:=l3.i.toNat) (k:=cp.i.toNat) da la (by simp; omega) (by simp)
   have hr:Rd u56.h kB (.slice (qm rp.r 0) l3.i.toNat cp.i.toNat) pd.d:=by simpa [kB] using hr
   have hdl:i3.i.toNat < D3.d.length:=by omega
   rw [show (i3.i + 1).toNat = i3.i.toNat + 1 by omega]
   refine qyF hE3 (Hp.le_trans (by simpa using db) lb) b15 hdl (by rw [List.getElem?_eq_getElem hdl]; exact b17 _ (List.getElem_mem hdl)) hr ?_ hpB
   rw [hp3,qd2,hjk,b13,b11,bI_len]
   rw [show l3.i.toNat = qF (ρ 2).i.toNat (ρ 7).d.length by omega]
 ·obtain ⟨a1,a2,a3,a4,a5,a6,a7,a8,a9,a10,a11,a12,a13,a14,a17,a15,a16⟩:=hW
  obtain ⟨hb,lb,db⟩:=qcg hst (n:=37) (t:=2) (by simp)
  refine ⟨a1,hsz,hle,a14,?_⟩
  rw [show i.i.toNat = (ρ 3).i.toNat by omega] at hE
  exact qjM hE (Hp.le_trans (by simpa using db) lb)
end Go.Proofs

set_option linter.unusedSimpArgs false
set_option linter.unusedVariables false
namespace Go.Proofs
open Go Go.Eng

end Go.Proofs

set_option linter.unusedSimpArgs false
set_option linter.unusedVariables false
namespace Go.Proofs
open Go Go.Eng
theorem qr4:qbM.ok Tryz.prog:=q0j (by simp) fun ρ hg hp=>by
 simp [qn8,qbM]
 refine ⟨fun h1=>⟨fun h2=>⟨fun h3=>?_,fun h3=>?_⟩,fun h2=>?_⟩,fun h1=>?_⟩
 ·simp [qbl,h1,h2,h3,qJ]
 ·simp [qbl]; omega
 ·simp [qbl]; omega
 ·simp [qbl]; omega
set_option maxRecDepth 20000 in
theorem qqU:qbK.ok Tryz.prog:=q08 (by simp [qr4]) fun ρ hg hp=>by
 have hp:0 <= (ρ 6).i:=hp
 simp [qnb,qbK,qbM,qH,qmN,qix,qbc]
 refine fun u _ hu=>⟨fun h hs=>by (rw [hu,hs] at h; cases h),fun h=>⟨fun a _ b=>by omega,fun a=>⟨fun b _ _ c=>by omega,fun b=>⟨hp,fun c _ _ _=>c,fun c=>⟨by rw [<- hu,h],a,b,c⟩⟩⟩⟩⟩
theorem q8b {x:Int}:qd .shr .i64 x 8 = x.fdiv 256:=rfl
set_option maxRecDepth 20000 in
theorem qoz:qbj.ok Tryz.prog:=qzn (by simp [qoK,qsV,q1O]) fun ρ hg hp=>by
 obtain ⟨o0,l0,lc,l1,hle,hB,hGr,hGd⟩:=hp
 simp (config:={ maxSteps:=2000000 }) [ql8,qbj,qbi,qc2,qfA,gOk]
 have hseg:qcd [[.int .u8 (IntKind.u8.wrap (qd .shr .i64 (ρ 0).i 8))],[.int .u8 (IntKind.u8.wrap (ρ 0).i)]] 0 2 = qbZ (ρ 0).i:=by
  rw [q8b,qhY,qhY]; rfl
 refine fun h _ hh=>⟨⟨⟨[],hh,by decide⟩,?_,hGr,hGd⟩,fun g _ hg1=>?_⟩
 ·intro row hr
  simp at hr
  rcases hr with rfl | rfl
  ·simp [qbG,qah,qhY]; omega
  ·simp [qbG,qah,qhY]; omega
 ·rw [hseg] at hg1
  have h1:=hg1 [] hh
  refine ⟨⟨⟨_,h1,by simp [qbZ]⟩,o0,l0,lc,by omega,hle,hB,hGr,hGd⟩,fun k _ hk=>⟨⟨⟨_,hk _ h1,?_⟩,hGr,hGd⟩,fun d _ hd=>?_⟩⟩
  ·have:(qcd (ρ 5).d (ρ 2).i (ρ 3).i).length <= (ρ 3).i.toNat:=by simp [qcd]; omega
   simp [qbZ]; omega
  ·exact (show qf _ 32 = qf d.d 32 from rfl).trans (hd _ (hk _ h1))
theorem qeS {lim:Int} {b:Bool} {x m s:List Int} (h:(b,x) = qft lim false m s) (hf:(m.length:Int) + s.length <= lim):b = false/\x = m ++ s:=by
 rw [qjU (by simp [qgu]; omega)] at h
 simpa using h
theorem q6w {x:Int}:IntKind.u16.wrap x = x % 65536:=by simp [IntKind.wrap,IntKind.bits,IntKind.signed]
theorem q55 {d:qc} {i:Nat} (h:i < d.length):qf [qdZ (qg d i)] 32 = qgE d[i]:=by
 refine List.map_congr_left fun j hj=>?_
 rw [qmq (List.mem_range.1 hj)]
 simp [qg,qao,qbG,h]
theorem qtW {d:qc} {i:Nat} (h:i < d.length):((dgs d).take (i + 1)).flatten = ((dgs d).take i).flatten ++ qgE d[i]:=by
 rw [List.take_add_one,List.getElem?_eq_getElem (by simpa [dgs] using h)]
 simp [dgs]
set_option maxRecDepth 20000 in
set_option maxHeartbeats 800000 in
theorem q1b:qdq.ok Tryz.prog:=q0D (by simp [qqU,quI,q7M,q6O,q4G,q2i,q2e]) fun ρ hg hp=>by
 obtain ⟨l0,hl,ho,hd⟩:=hp
 simp (config:={ maxSteps:=2000000 }) [qnh,qdq,qp4,qbK,qb9,u8C,qi6,qoX,qgc,qex,qe5,qbT,qe7,qgn]
 refine ⟨l0,fun e _ he=>⟨fun hne=>?_,fun hz lim _ hlim=>?_⟩⟩
 ·by_cases h:qH (ρ 0).i (ρ 1).i (ρ 2).i (ρ 3).i (ρ 6).i = true
  ·rw [if_pos h] at he; exact absurd he hne
  ·rw [if_neg h] at he; exact ⟨he.symm,by simpa using h⟩
 ·have hok:qH (ρ 0).i (ρ 1).i (ρ 2).i (ρ 3).i (ρ 6).i = true:=by
   by_cases h:qH (ρ 0).i (ρ 1).i (ρ 2).i (ρ 3).i (ρ 6).i = true
   ·exact h
   ·rw [if_neg h] at he; omega
  have hb:=hok
  simp [qH,qbl] at hb
  obtain ⟨⟨b1,b2,b3,b4⟩,b5,b6,b7⟩:=hb
  have hl2:lim.i = 39 + 32 * (ρ 2).i:=by
   rw [hlim,qc0 (by omega) (by omega),add64 (by omega) (by omega)]; omega
  clear hlim
  simp only [qhY,q6w]
  have hman:List.drop 4 (qf [([.int .i64 (ρ 0).i,.int .i64 (ρ 1).i,.int .i64 (ρ 2).i,.int .i64 (ρ 3).i] ++ (qdZ (qa (ρ 4).d) ++ [.slice (qm (ρ 5).r 0) (ρ 6).i.toNat (ρ 7).i.toNat]):List Value)] 36) = qf (ρ 4).d 32:=rfl
  have hone:qap [([.int .i64 (ρ 0).i,.int .i64 (ρ 1).i,.int .i64 (ρ 2).i,.int .i64 (ρ 3).i] ++ (qdZ (qa (ρ 4).d) ++ [.slice (qm (ρ 5).r 0) (ρ 6).i.toNat (ρ 7).i.toNat]):List Value)] 37:=⟨_,rfl,by simp [qdZ]⟩
  have hlen:∀ {l n c:Int} {d:qc},wOk l n c d->n = ((bI d).length:Int):=fun h=>by rw [bI_len]; exact h.2.2.1
  refine ⟨⟨by omega,by omega,rfl,by omega,by intro r hr; cases hr⟩,fun f1 _ n1 _ c1 _ d1 _ w1 g1=>?_⟩
  obtain ⟨y1,x1⟩:=qeS g1 (by rw [hl2]; simp [bI,qaB]; omega)
  have L1:(bI d1.d).length = 2:=by rw [x1]; simp [bI,qaB]
  have q1:=hlen w1
  refine ⟨⟨w1,by omega,by omega,by omega⟩,fun f2 _ n2 _ c2 _ d2 _ w2 g2=>?_⟩
  rw [y1] at g2
  obtain ⟨y2,x2⟩:=qeS g2 (by rw [hl2,L1,qaB]; omega)
  have L2:(bI d2.d).length = 3:=by rw [x2,List.length_append,L1,qaB]
  have q2:=hlen w2
  refine ⟨⟨w2,by omega,by omega,by omega⟩,fun f3 _ n3 _ c3 _ d3 _ w3 g3=>?_⟩
  rw [y2] at g3
  obtain ⟨y3,x3⟩:=qeS g3 (by rw [hl2,L2,qaB]; omega)
  have L3:(bI d3.d).length = 4:=by rw [x3,List.length_append,L2,qaB]
  have q3:=hlen w3
  refine ⟨⟨w3,by omega,by omega,by omega⟩,fun f4 _ n4 _ c4 _ d4 _ w4 g4=>?_⟩
  rw [y3] at g4
  obtain ⟨y4,x4⟩:=qeS g4 (by rw [hl2,L3,qaB]; omega)
  have L4:(bI d4.d).length = 5:=by rw [x4,List.length_append,L3,qaB]
  have q4:=hlen w4
  refine ⟨⟨w4,by omega,by omega,by omega⟩,fun f5 _ n5 _ c5 _ d5 _ w5 g5=>?_⟩
  rw [y4] at g5
  obtain ⟨y5,x5⟩:=qeS g5 (by rw [hl2,L4,qaB]; omega)
  have L5:(bI d5.d).length = 7:=by rw [x5,List.length_append,L4,qaB]
  have q5:=hlen w5
  refine ⟨⟨w5,by omega,hone,?_⟩,fun f6 _ n6 _ c6 _ d6 _ w6 g6=>?_⟩
  ·have:=hman
   exact this ▸ ho
  have g6':(f6.b,bI d6.d) = qft lim.i f5.b (bI d5.d) (qf (ρ 4).d 32):=g6
  rw [y5] at g6'
  obtain ⟨y6,x6⟩:=qeS g6' (by rw [hl2,L5,qcZ]; omega)
  have hhead:bI d6.d = qaI (ρ 0).i (ρ 1).i (ρ 2).i (ρ 3).i (qf (ρ 4).d 32):=by
   rw [x6,x5,x4,x3,x2,x1]
   simp [qaI,bI,List.append_assoc]
  refine ⟨l0,⟨hok,l0,hl2,y6,w6,hhead⟩,fun lim2 _ f _ n _ c _ d _ t _ _ t0 t1 z1 z2 z3 z4=>⟨fun hlt=>?_,fun hge=>?_⟩⟩
  ·obtain ⟨T,hT⟩:∃ T:Nat,t.i = T:=⟨t.i.toNat,by omega⟩
   have m1:qd .add .i64 t.i 1 = ((T + 1:Nat):Int):=by rw [add64 (by omega) (by omega)]; omega
   have hTl:T < (ρ 8).d.length:=by omega
   have hrow:=q55 hTl
   have hnl:n.i = 39 + 32 * t.i:=by
    have h1:=hlen z3
    rw [z4,List.length_append] at h1
    have h2:∀ (k:Nat),k <= (ρ 8).d.length->((dgs (ρ 8).d).take k).flatten.length = 32 * k:=fun k=>by
     induction k with
     | zero=>intro _; simp
     | succ k ih=>intro hk; rw [qtW (by omega),List.length_append,ih (by omega)]; simp [qgE]; omega
    rw [h2 _ (by omega)] at h1
    have h3:(qaI (ρ 0).i (ρ 1).i (ρ 2).i (ρ 3).i (qf (ρ 4).d 32)).length = 39:=by simp [qaI,qaB,qcZ]
    omega
   rw [hT] at z4 hnl ⊢
   rw [<- hT,m1,hT]
   refine ⟨by omega,by omega,⟨z3,by omega,⟨_,rfl,rfl⟩,?_⟩,fun f7 _ n7 _ c7 _ d7 _ w7 g7=>?_⟩
   ·have h1:qS (qgE (ρ 8).d[T]):=(hd _ (List.getElem_mem hTl)).2
    rw [<- hrow] at h1
    exact h1
   ·have g7':(f7.b,bI d7.d) = qft lim2.i f.b (bI d.d) (qf [qdZ (qg (ρ 8).d T)] 32):=g7
    rw [z2,hrow] at g7'
    have hbl:(qgE (ρ 8).d[T]).length = 32:=by simp [qgE]
    obtain ⟨y7,x7⟩:=qeS g7' (by rw [<- hlen z3,hbl]; omega)
    refine ⟨⟨hok,by omega,by omega,z1,y7,w7,?_⟩,by omega⟩
    rw [x7,z4]
    simp only [Int.toNat_natCast]
    rw [qtW hTl,List.append_assoc]
  ·have ht:t.i.toNat = (ρ 8).d.length:=by omega
   rw [ht] at z4
   rw [List.take_of_length_le (by simp [dgs])] at z4
   refine ⟨⟨z3,?_⟩,z2,fun e _ _ he=>⟨hok,by rw [he]; exact z3.2.2.1,by rw [he]; exact z3.2.2.2.2,by rw [he]; exact z4⟩⟩
   have:=z3.2.2.2.1
   omega
end Go.Proofs

set_option linter.unusedSimpArgs false
set_option linter.unusedVariables false
namespace Go.Proofs
open Go Go.Eng
theorem qfO (m:List Int):qS (sha m):=fun x hx=>by
 obtain ⟨j,_,rfl⟩:=List.mem_map.1 hx
 omega
theorem qye {f:Nat->List Int} {n:Nat}:(qdl f n).length = n:=by simp [qdl]
theorem qpn {g full:List Int} {k l i:Nat}:∀ j,(qcb g full k l i j).length = l
 | 0=>by simp [qcb]
 | j + 1=>by rw [qcb,qcv,qpn j]
theorem q1T {k total:Nat} {data:List Int} {i:Nat}:(qd2 k total data i).length = qF k data.length:=qpn k
theorem q2v {d:qc} {r:List Value}:dgs (d ++ [r]) = dgs d ++ [qgE r]:=by simp [dgs]
theorem qvw {f:Nat->List Int} {n:Nat}:qdl f (n + 1) = qdl f n ++ [sha (qbZ n ++ f n)]:=by simp [qdl,List.range_succ]
theorem q5I {d:qc}:qgE (qdZ (qa d)) = qf d 32:=rfl
set_option maxRecDepth 20000 in
set_option maxHeartbeats 1600000 in
theorem qw7:qgl.ok Tryz.prog:=qpv (by simp [qr4,qvj,ql7,qoz]) fun ρ hg hp=>by
 obtain ⟨hf,hl,hlc,hB,⟨hGr,hGd⟩,htop⟩:=hp
 simp (config:={ maxSteps:=2000000 }) [qsL,qgl,qyR,qbM,qbV,qaN,qbj,gOk,qlX]
 have hnn:=qbX hf
 refine fun u _=>⟨fun h=>absurd h hnn.1,fun _ b _ hb=>⟨fun hz=>⟨hf,by rw [<- hb]; exact hz⟩,fun hz=>?_⟩⟩
 rw [hz] at hb
 have hs3:=hb.symm
 have hs3':=hs3
 simp [qbl] at hs3'
 obtain ⟨b1,b2,b3,b4⟩:=hs3'
 have hsB:qaA (ρ 2).i (ρ 4).i = true:=by simp [qaA]; omega
 have hsz:qaA (ρ 2).i (ρ 4).i = false->False:=fun h=>by rw [hsB] at h; cases h
 refine ⟨⟨hf,hl,hB,htop⟩,fun e _ f _ hf2 he=>⟨fun hne=>⟨hf2,?_⟩,fun hz2=>?_⟩,fun _ _ _ _ f _ P _ ab _ hf2 _ hle hPl hE=>⟨by omega,⟨⟨by omega,hlc,by omega,by omega,hB⟩,hGr,hGd⟩,fun o _ ho _ _=>⟨by omega,⟨hf2,hs3,hle,by omega,hPl,hE,?_,?_,?_⟩,fun _ _ _ _ _ _ o2 _ _ _ t _ _ _ Ds _ P2 _ _ _ f2 _ ab2 _ hf3 _ _ t0 t1 hPl2 hE2 ho2 hDl hDo hDm=>⟨fun hlt=>?_,fun hge=>?_⟩⟩⟩⟩
 ·rcases he with ⟨h,_⟩ | ⟨_,h1,h2⟩
  ·exact (hsz h).elim
  ·exact .inr ⟨hs3,h1,h2⟩
 ·rcases he with ⟨h,_⟩ | ⟨_,h1,h2⟩
  ·exact (hsz h).elim
  ·omega
 ·rw [qkm hl] at ho
  exact ho
 ·intro r hr; cases hr
 ·rfl
 ·obtain ⟨T,hT⟩:∃ T:Nat,t.i = T:=⟨t.i.toNat,by omega⟩
  have m1:qd .add .i64 t.i 1 = ((T + 1:Nat):Int):=by rw [add64 (by omega) (by omega)]; omega
  obtain ⟨v,d,e1,e2,e3,e4⟩:=hE2 T (by omega)
  have hcv:qao P2.d t.i 1 = v:=by rw [hT]; simp [qao,e1]
  have hci:qg P2.d t.i 0 = (T:Int):=by rw [hT]; simp [qg,qao,e1,qah]
  rw [m1,hcv,hci]
  have hdl:d.length <= (ρ 8).d.length:=by
   have h1:=congrArg List.length e3
   rw [bI_len,q1T,bI_len] at h1
   have:=qmF (k:=(ρ 2).i.toNat) (n:=(ρ 8).d.length) (by omega)
   omega
  refine ⟨by omega,by omega,fun _ _=>⟨d,e2,fun r0 _ c1 _ hv hcl=>⟨⟨hcl,by omega,e4,hGr,hGd⟩,fun g _ hg2 _ _=>⟨by omega,by omega,fun _ _ _ _ ab3 _ hst=>⟨by omega,⟨hf3,hs3,hle,by omega,by omega,hPl2,?_,ho2,by omega,?_,?_⟩,by omega⟩⟩⟩⟩⟩
  ·obtain ⟨hb2,lb,db⟩:=qcg hst (n:=32) (t:=2) (by simp)
   exact qjM hE2 (Hp.le_trans (by simpa using db) lb)
  ·intro r hr
   rcases List.mem_append.1 hr with hr | hr
   ·exact hDo r hr
   ·obtain rfl:=List.mem_singleton.1 hr
    refine ⟨rfl,?_⟩
    have:qS (qf g.d 32):=by rw [hg2]; exact qfO _
    exact this
  ·have hh:dgs (Ds.d ++ [qdZ (qa g.d)]) = qdl (qd2 (ρ 2).i.toNat (ρ 4).i.toNat (bI (ρ 8).d)) (T + 1):=by
    rw [q2v,q5I,hg2,qkm rfl,e3,hDm,hT,Int.toNat_natCast,qvw]
   exact hh
 ·have ht:t.i = (ρ 4).i:=by omega
  refine fun ab3 _ hst=>⟨by omega,hf3,hs3,hle,hPl2,?_,ho2,hDo,by rw [hDm,ht]⟩
  obtain ⟨hb2,lb,db⟩:=qcg hst (n:=32) (t:=2) (by simp)
  exact qjM hE2 (Hp.le_trans (by simpa using db) lb)
end Go.Proofs

set_option linter.unusedSimpArgs false
set_option linter.unusedVariables false
namespace Go.Proofs
open Go Go.Eng
set_option maxRecDepth 20000
end Go.Proofs

set_option linter.unusedSimpArgs false
set_option linter.unusedVariables false
namespace Go.Eng
open Go Go.Proofs
end Go.Eng

set_option linter.unusedSimpArgs false
set_option linter.unusedVariables false
set_option maxRecDepth 100000
namespace Go.Proofs
open Go Go.Eng

end Go.Proofs

set_option linter.unusedSimpArgs false
set_option linter.unusedVariables false
namespace Go.Proofs
open Go Go.Eng
set_option maxRecDepth 20000
end Go.Proofs

set_option linter.unusedSimpArgs false
set_option linter.unusedVariables false
namespace Go.Proofs
open Go Go.Eng
set_option maxRecDepth 20000
end Go.Proofs

set_option linter.unusedSimpArgs false
set_option linter.unusedVariables false
namespace Go.Eng
open Go Go.Proofs
end Go.Eng

set_option linter.unusedSimpArgs false
set_option linter.unusedVariables false
set_option maxRecDepth 100000
namespace Go.Proofs
open Go Go.Eng

end Go.Proofs

set_option linter.unusedSimpArgs false
set_option linter.unusedVariables false
namespace Go.Proofs
open Go Go.Eng
set_option maxRecDepth 20000
end Go.Proofs

set_option linter.unusedSimpArgs false
set_option linter.unusedVariables false
namespace Go.Eng
open Go Go.Proofs
end Go.Eng

set_option linter.unusedSimpArgs false
set_option linter.unusedVariables false
set_option maxRecDepth 100000
namespace Go.Proofs
open Go Go.Eng

end Go.Proofs

set_option linter.unusedSimpArgs false
set_option linter.unusedVariables false
namespace Go.Proofs
open Go Go.Eng
set_option maxRecDepth 20000
theorem q5p {D:qc}:(dgs D).length = D.length:=by simp [dgs]
end Go.Proofs

set_option linter.unusedSimpArgs false
set_option linter.unusedVariables false
namespace Go.Proofs
open Go Go.Eng
set_option maxRecDepth 20000
end Go.Proofs

set_option linter.unusedSimpArgs false
set_option linter.unusedVariables false
namespace Go.Eng
open Go Go.Proofs
def q4r (ρ:Env) (r:Nat):Prop:=qiv (ρ r).i/\qiv (ρ (r + 1)).i/\qiv (ρ (r + 2)).i/\qiv (ρ (r + 3)).i/\qS (qf (ρ (r + 4)).d 32)/\(ρ (r + 6)).i = (ρ (r + 8)).d.length/\(ρ (r + 6)).i <= 4398046510976/\qf8 (ρ (r + 8)).d
def qyK (ρ:Env):List Int:=qaI (ρ 0).i (ρ 1).i (ρ 2).i (ρ 3).i (qf (ρ 4).d 32) ++ (dgs (ρ 8).d).flatten
def qtO (ρ:Env):Bool:=qH (ρ 0).i (ρ 1).i (ρ 2).i (ρ 3).i (ρ 6).i
def qwV (ρ:Env):Prop:=(ρ 6).i = (ρ 8).d.length/\qS (qf (ρ 4).d 32)/\qf8 (ρ 8).d
def qoZ:List Alt:=[
 { k:=2,ret:=.tup [(true,qbc .u8 12 32),qcD (.var 13)],heap:=[],post:=fun ρ=>(qtO ρ = false/\(ρ 13).i = 2/\qf (ρ 12).d 32 = List.replicate 32 0)∨(qtO ρ = true/\(ρ 13).i = 0/\qf (ρ 12).d 32 = sha (qyK ρ)) }]
def idC:Ctr:={ fn := 44,nv:=12,ip:=[gIp 10,(1005,9)],args:=[qmN],heap:=[],ro:=[qfq 5 8 9,gHp 10 11],pre:=fun ρ=>qwV ρ/\gOk ρ 10 11 gR,alts:=qoZ }
end Go.Eng

set_option linter.unusedSimpArgs false
set_option linter.unusedVariables false
set_option maxRecDepth 100000
namespace Go.Proofs
open Go Go.Eng

end Go.Proofs

set_option linter.unusedSimpArgs false
set_option linter.unusedVariables false
namespace Go.Proofs
open Go Go.Eng
set_option maxRecDepth 20000
theorem qcA {l:List (List Int)} (h:∀ x ∈ l,x.length = 32):l.flatten.length = 32 * l.length:=by
 induction l with
 | nil=>rfl
 | cons x r ih =>
  rw [List.flatten_cons,List.length_append,h x (List.mem_cons_self ..),ih (fun y hy=>h y (List.mem_cons_of_mem _ hy)),List.length_cons]; omega
theorem qwH {l:List (List Int)} (h:∀ x ∈ l,x.length = 32):∀ {j:Nat} (hj:j < l.length),(l.flatten.drop (32 * j)).take 32 = l[j]:=by
 induction l with
 | nil=>intro j hj; simp at hj
 | cons x r ih =>
  intro j hj
  have hx:=h x (List.mem_cons_self ..)
  cases j with
  | zero=>simp [List.take_left' hx]
  | succ j =>
   rw [List.flatten_cons,show 32 * (j + 1) = x.length + 32 * j by omega,List.drop_length_add_append]
   exact ih (fun y hy=>h y (List.mem_cons_of_mem _ hy)) (by simpa using hj)
theorem q6B {D:qc}:∀ x ∈ dgs D,x.length = 32:=fun x hx=>by
 obtain ⟨r,_,rfl⟩:=List.mem_map.1 hx
 simp [qgE]
end Go.Proofs

set_option linter.unusedSimpArgs false
set_option linter.unusedVariables false
namespace Go.Proofs
open Go Go.Eng
def qsl (d:qc) (i:Int):List Int:=(List.range 32).map fun k=>qg d i k
@[simp high] theorem q8p (d:qc):qf [[.int .u8 (qa d 0),.int .u8 (qa d 1),.int .u8 (qa d 2),.int .u8 (qa d 3),.int .u8 (qa d 4),.int .u8 (qa d 5),.int .u8 (qa d 6),.int .u8 (qa d 7),.int .u8 (qa d 8),.int .u8 (qa d 9),.int .u8 (qa d 10),.int .u8 (qa d 11),.int .u8 (qa d 12),.int .u8 (qa d 13),.int .u8 (qa d 14),.int .u8 (qa d 15),.int .u8 (qa d 16),.int .u8 (qa d 17),.int .u8 (qa d 18),.int .u8 (qa d 19),.int .u8 (qa d 20),.int .u8 (qa d 21),.int .u8 (qa d 22),.int .u8 (qa d 23),.int .u8 (qa d 24),.int .u8 (qa d 25),.int .u8 (qa d 26),.int .u8 (qa d 27),.int .u8 (qa d 28),.int .u8 (qa d 29),.int .u8 (qa d 30),.int .u8 (qa d 31)]] 32 = qf d 32:=rfl
@[simp high] theorem q8q (d:qc) (i:Int):qf [[.int .u8 (qg d i 0),.int .u8 (qg d i 1),.int .u8 (qg d i 2),.int .u8 (qg d i 3),.int .u8 (qg d i 4),.int .u8 (qg d i 5),.int .u8 (qg d i 6),.int .u8 (qg d i 7),.int .u8 (qg d i 8),.int .u8 (qg d i 9),.int .u8 (qg d i 10),.int .u8 (qg d i 11),.int .u8 (qg d i 12),.int .u8 (qg d i 13),.int .u8 (qg d i 14),.int .u8 (qg d i 15),.int .u8 (qg d i 16),.int .u8 (qg d i 17),.int .u8 (qg d i 18),.int .u8 (qg d i 19),.int .u8 (qg d i 20),.int .u8 (qg d i 21),.int .u8 (qg d i 22),.int .u8 (qg d i 23),.int .u8 (qg d i 24),.int .u8 (qg d i 25),.int .u8 (qg d i 26),.int .u8 (qg d i 27),.int .u8 (qg d i 28),.int .u8 (qg d i 29),.int .u8 (qg d i 30),.int .u8 (qg d i 31)]] 32 = qsl d i:=rfl
@[simp high] theorem q8o (d:qc):([.int .u8 (qa d 0),.int .u8 (qa d 1),.int .u8 (qa d 2),.int .u8 (qa d 3),.int .u8 (qa d 4),.int .u8 (qa d 5),.int .u8 (qa d 6),.int .u8 (qa d 7),.int .u8 (qa d 8),.int .u8 (qa d 9),.int .u8 (qa d 10),.int .u8 (qa d 11),.int .u8 (qa d 12),.int .u8 (qa d 13),.int .u8 (qa d 14),.int .u8 (qa d 15),.int .u8 (qa d 16),.int .u8 (qa d 17),.int .u8 (qa d 18),.int .u8 (qa d 19),.int .u8 (qa d 20),.int .u8 (qa d 21),.int .u8 (qa d 22),.int .u8 (qa d 23),.int .u8 (qa d 24),.int .u8 (qa d 25),.int .u8 (qa d 26),.int .u8 (qa d 27),.int .u8 (qa d 28),.int .u8 (qa d 29),.int .u8 (qa d 30),.int .u8 (qa d 31)]:List Value).map qah = qf d 32:=rfl
@[simp high] theorem q8r (d:qc) (i:Int):([.int .u8 (qg d i 0),.int .u8 (qg d i 1),.int .u8 (qg d i 2),.int .u8 (qg d i 3),.int .u8 (qg d i 4),.int .u8 (qg d i 5),.int .u8 (qg d i 6),.int .u8 (qg d i 7),.int .u8 (qg d i 8),.int .u8 (qg d i 9),.int .u8 (qg d i 10),.int .u8 (qg d i 11),.int .u8 (qg d i 12),.int .u8 (qg d i 13),.int .u8 (qg d i 14),.int .u8 (qg d i 15),.int .u8 (qg d i 16),.int .u8 (qg d i 17),.int .u8 (qg d i 18),.int .u8 (qg d i 19),.int .u8 (qg d i 20),.int .u8 (qg d i 21),.int .u8 (qg d i 22),.int .u8 (qg d i 23),.int .u8 (qg d i 24),.int .u8 (qg d i 25),.int .u8 (qg d i 26),.int .u8 (qg d i 27),.int .u8 (qg d i 28),.int .u8 (qg d i 29),.int .u8 (qg d i 30),.int .u8 (qg d i 31)]:List Value).map qah = qsl d i:=rfl
@[simp high] theorem q8m:qf [[.int .u8 0,.int .u8 0,.int .u8 0,.int .u8 0,.int .u8 0,.int .u8 0,.int .u8 0,.int .u8 0,.int .u8 0,.int .u8 0,.int .u8 0,.int .u8 0,.int .u8 0,.int .u8 0,.int .u8 0,.int .u8 0,.int .u8 0,.int .u8 0,.int .u8 0,.int .u8 0,.int .u8 0,.int .u8 0,.int .u8 0,.int .u8 0,.int .u8 0,.int .u8 0,.int .u8 0,.int .u8 0,.int .u8 0,.int .u8 0,.int .u8 0,.int .u8 0]] 32 = List.replicate 32 0:=rfl
@[simp high] theorem q8n:([.int .u8 0,.int .u8 0,.int .u8 0,.int .u8 0,.int .u8 0,.int .u8 0,.int .u8 0,.int .u8 0,.int .u8 0,.int .u8 0,.int .u8 0,.int .u8 0,.int .u8 0,.int .u8 0,.int .u8 0,.int .u8 0,.int .u8 0,.int .u8 0,.int .u8 0,.int .u8 0,.int .u8 0,.int .u8 0,.int .u8 0,.int .u8 0,.int .u8 0,.int .u8 0,.int .u8 0,.int .u8 0,.int .u8 0,.int .u8 0,.int .u8 0,.int .u8 0]:List Value).map qah = List.replicate 32 0:=rfl
theorem q1v {d:qc} {i:Int} (h0:0 <= i) (h1:i < d.length):qsl d i = (dgs d).getD i.toNat []:=by
 have hl:i.toNat < d.length:=by omega
 have h2:(dgs d).getD i.toNat [] = qgE d[i.toNat]:=by simp [dgs,hl]
 rw [h2]
 refine List.map_congr_left fun k hk=>?_
 simp [qg,qao,qbG,hl]
end Go.Proofs

set_option linter.unusedSimpArgs false
set_option linter.unusedVariables false
namespace Go.Eng
open Go

end Go.Eng

set_option linter.unusedSimpArgs false
set_option linter.unusedVariables false
namespace Go.Eng
open Go Go.Proofs
def qjT (r:Nat):SV:=.agg [.vint .i64 (.var r),.vslice (r + 1) (.lit 0) (.var (r + 2)) (.var (r + 3)) 1]
def qpB (r:Nat):SH:=bHp (r + 1) (r + 4) (r + 5)
def qgZ (ρ:Env) (r:Nat):Prop:=(ρ (r + 2)).i = (ρ (r + 4)).d.length/\(ρ (r + 2)).i <= (ρ (r + 3)).i/\(ρ (r + 2)).i <= 100000000/\qB (ρ (r + 4)).d
def qeb (k s:Int):Int:=(s + k - 1).tdiv k
def qci (k n t s l:Int) (D:List (List Int)) (i:Int) (m:List Int):Int:=if qH k n t s l = false then 2 else if i < 0∨t <= i then 2 else if (m.length:Int) ≠ qeb k s then 10 else if sha (qbZ i ++ m) ≠ D.getD i.toNat [] then 20 else 0
def q01 (ρ:Env):Prop:=qiv (ρ 0).i/\qiv (ρ 3).i/\(ρ 6).i = (ρ 8).d.length/\qf8 (ρ 8).d/\qgZ ρ 10
def qpu:List Alt:=[{ k:=1,ret:=iv .i64 (.var 18),heap:=[],post:=fun ρ=>(ρ 18).i = qci (ρ 0).i (ρ 1).i (ρ 2).i (ρ 3).i (ρ 6).i (dgs (ρ 8).d) (ρ 10).i (bI (ρ 14).d) }]
def qdy:Ctr:={ fn := 60,nv:=18,ip:=[gIp 16],args:=[qmN,qjT 10],heap:=[],ro:=[qfq 5 8 9,qpB 10,gHp 16 17],pre:=fun ρ=>q01 ρ/\gOk ρ 16 17 gR,alts:=qpu }
end Go.Eng

set_option linter.unusedSimpArgs false
set_option linter.unusedVariables false
set_option maxRecDepth 100000
namespace Go.Proofs
open Go Go.Eng

@[simp] def quw:Sg:=sg 0 [bv 9 9,bv 8 8,bv 7 7,bv 6 6,bg 5 5,bv 3 3,bv 2 2,bv 1 1,bv 0 0,bt 4 (r8 4)]
def q3b:Out:=(.fresh 12 (.fresh 13 (.pre 0 quw (.both (.post 0 0 quw 14 (.ret 0 (sg 12 [bt 13 (.lit 2),bt 12 z8]))) (.both (.fresh 14 (.fresh 15 (.fresh 16 (.fresh 17 (.post 0 1 quw 14 (.know (.cmp .leq (.dlen (.var 17)) (.var 16)) (.pre 1 (sg 0 [bv 7 11,bv 5 16,bv 4 17,bv 3 16,bv 2 15,bt 1 (.lit 0),bg 0 14,bg 6 10]) (.both (.fresh 18 (.post 1 0 (sg 0 [bv 7 11,bv 5 16,bv 4 17,bv 3 16,bv 2 15,bt 1 (.lit 0),bg 0 14,bg 6 10]) 18 (.ret 0 (sg 12 [bt 13 (.lit 0),bt 12 (r8 18)])))) .top)))))))) .top)))))
theorem q4M:ql ⟨Tryz.prog,idC,[qdq,qaN],[]⟩ 100000 Tryz.f44 = q3b:=by kernel_rfl
theorem q74 (hd:∀ c ∈ ([qdq,qaN]:List Ctr),c.ok Tryz.prog) (h:∀ ρ:Env,ρ.good->(idC).pre ρ->q3b.den ⟨Tryz.prog,idC,[qdq,qaN],[]⟩ ρ):(idC).ok Tryz.prog :=
 qe Tryz.func44 (fun a w=>Tryz.call44 a w) hd 100000 (fun ρ hg hp=>by rw [q4M]; exact h ρ hg hp)
end Go.Proofs

set_option linter.unusedSimpArgs false
set_option linter.unusedVariables false
set_option maxRecDepth 100000
namespace Go.Proofs
open Go Go.Eng
theorem q57:∀ i:Fin 255,qlu.getD (qhu.getD i.val 0).toNat 0 = i.val:=by decide +kernel
theorem q4R:∀ a:Fin 256,a.val ≠ 0->qhu.getD (qlu.getD a.val 0).toNat 0 = a.val:=by decide +kernel
theorem q4H:∀ i:Fin 255,qhu.getD (i.val + 255) 0 = qhu.getD i.val 0:=by decide +kernel
end Go.Proofs

set_option linter.unusedSimpArgs false
set_option linter.unusedVariables false
namespace Go.Proofs
open Go Go.Eng

abbrev F:=BitVec 8
def toF (x:Int):F:=BitVec.ofInt 8 x
def ofF (x:F):Int:=(x.toNat:Nat)
def isB (x:Int):Prop:=0 <= x/\x < 256
theorem qiI {x:F}:isB (ofF x):=⟨Int.natCast_nonneg _,by have:=x.isLt; unfold ofF; omega⟩
theorem qiO {x:F}:toF (ofF x) = x:=by
 unfold toF ofF
 apply BitVec.eq_of_toNat_eq
 rw [BitVec.toNat_ofInt]
 have:=x.isLt
 omega
theorem qqS {x:Int} (h:isB x):(toF x).toNat = x.toNat:=by
 obtain ⟨h0,h1⟩:=h
 unfold toF
 rw [BitVec.toNat_ofInt]
 omega
theorem qwu {x:Int} (h:isB x):ofF (toF x) = x:=by
 unfold ofF
 rw [qqS h]
 obtain ⟨h0,h1⟩:=h
 omega
theorem qpA {x y:Int} (hx:isB x) (hy:isB y) (h:toF x = toF y):x = y:=by rw [<- qwu hx,<- qwu hy,h]
theorem qs2:toF 0 = 0:=rfl
theorem qe9 {x:Int} (h:isB x):toF x = 0↔x = 0:=⟨fun e=>qpA h ⟨by omega,by omega⟩ e,fun e=>by rw [e]; rfl⟩
theorem q07 {x y:Int}:qhr x y = ofF (toF x ^^^ toF y):=by
 have h:(BitVec.ofInt 8 x ^^^ BitVec.ofInt 8 y).toNat < 256:=(BitVec.ofInt 8 x ^^^ BitVec.ofInt 8 y).isLt
 unfold qhr qd ofF toF
 show IntKind.u8.wrap _ = _
 have hb:IntKind.u8.bits = 8:=rfl
 rw [hb]
 generalize (BitVec.ofInt 8 x ^^^ BitVec.ofInt 8 y).toNat = z at h ⊢
 simp only [IntKind.wrap,IntKind.bits,IntKind.signed]
 simp
 omega
theorem qke {x y:Int}:toF (qhr x y) = toF x ^^^ toF y:=by rw [q07,qiO]

def qb0 (n:Nat):F:=BitVec.ofNat 8 (qhu.getD (n % 255) 0).toNat
def qeu (x:F):Nat:=(qlu.getD x.toNat 0).toNat
def qh (x y:F):F:=if x = 0∨y = 0 then 0 else qb0 (qeu x + qeu y)
def qes (x:F):F:=if x = 0 then 0 else qb0 (255 - qeu x)
theorem qty {n:Nat}:qb0 (n % 255) = qb0 n:=by unfold qb0; rw [Nat.mod_mod]
theorem qj1 {n m:Nat} (h:n % 255 = m % 255):qb0 n = qb0 m:=by rw [<- qty,h,qty]
theorem qgP {n:Nat}:(qb0 n).toNat = (qhu.getD (n % 255) 0).toNat:=by
 have h:=qfx ⟨n % 255,by omega⟩
 simp only at h
 unfold qb0
 rw [BitVec.toNat_ofNat]
 omega
theorem qme {n:Nat}:qb0 n ≠ 0:=fun h=>by
 have h1:=congrArg BitVec.toNat h
 rw [qgP] at h1
 have h2:=qfx ⟨n % 255,by omega⟩
 simp only at h2
 rw [show (0:F).toNat = 0 by rfl] at h1
 omega
theorem qfI {x:F}:qeu x < 255:=by
 have:=qj4 ⟨x.toNat,x.isLt⟩
 simp only at this
 unfold qeu
 omega
theorem qhv {x:F} (h:x ≠ 0):qb0 (qeu x) = x:=by
 apply BitVec.eq_of_toNat_eq
 have h0:x.toNat ≠ 0:=fun e=>h (BitVec.eq_of_toNat_eq (by rw [e]; rfl))
 have h1:=q4R ⟨x.toNat,x.isLt⟩ h0
 simp only at h1
 rw [qgP,Nat.mod_eq_of_lt qfI,qeu,h1]
 omega
theorem quB {n:Nat}:qeu (qb0 n) = n % 255:=by
 have h:=q57 ⟨n % 255,by omega⟩
 simp only at h
 unfold qeu
 rw [qgP,h]
 omega
theorem qhI:qb0 0 = 1:=by decide
theorem qag {x y:F}:qh x y = qh y x:=by
 unfold qh
 by_cases hx:x = 0
 ·simp [hx]
 ·by_cases hy:y = 0
  ·simp [hy]
  ·rw [if_neg (not_or.2 ⟨hx,hy⟩),if_neg (not_or.2 ⟨hy,hx⟩),Nat.add_comm]
theorem q7 {x:F}:qh x 0 = 0:=by simp [qh]
theorem qC {x:F}:qh 0 x = 0:=by simp [qh]
theorem qw8 {x y:F} (hx:x ≠ 0) (hy:y ≠ 0):qh x y = qb0 (qeu x + qeu y):=by rw [qh,if_neg (not_or.2 ⟨hx,hy⟩)]
theorem qlb {x y:F} (hx:x ≠ 0) (hy:y ≠ 0):qh x y ≠ 0:=by rw [qw8 hx hy]; exact qme
theorem quC {x y:F}:qh x y = 0↔x = 0∨y = 0:=⟨fun h=>by
 by_cases hx:x = 0
 ·exact .inl hx
 ·by_cases hy:y = 0
  ·exact .inr hy
  ·exact (qlb hx hy h).elim,fun h=>by rcases h with rfl | rfl; exact qC; exact q7⟩
theorem qdT {n m:Nat}:qh (qb0 n) (qb0 m) = qb0 (n + m):=by
 rw [qw8 qme qme,quB,quB]
 exact qj1 (by omega)
theorem qaX {x:F}:qh x 1 = x:=by
 by_cases h:x = 0
 ·rw [h,qC]
 ·rw [<- qhI]; conv=>lhs; arg 1; rw [<- qhv h]
  rw [qdT,Nat.add_zero,qhv h]
theorem qhm {x:F}:qh 1 x = x:=by rw [qag,qaX]
theorem qha {x:F} (h:x ≠ 0):∃ n,n < 255/\x = qb0 n:=⟨qeu x,qfI,(qhv h).symm⟩
theorem qN {x y z:F}:qh (qh x y) z = qh x (qh y z):=by
 by_cases hx:x = 0
 ·rw [hx,qC,qC,qC]
 by_cases hy:y = 0
 ·rw [hy,q7,qC,q7]
 by_cases hz:z = 0
 ·rw [hz,q7,q7,q7]
 obtain ⟨a,_,rfl⟩:=qha hx
 obtain ⟨b,_,rfl⟩:=qha hy
 obtain ⟨c,_,rfl⟩:=qha hz
 rw [qdT,qdT,qdT,qdT,Nat.add_assoc]
theorem q5E {x:F} (h:x ≠ 0):qes x ≠ 0:=by rw [qes,if_neg h]; exact qme
theorem qik {x:F} (h:x ≠ 0):qh x (qes x) = 1:=by
 rw [qes,if_neg h]
 conv=>lhs; arg 1; rw [<- qhv h]
 have:=qfI (x:=x)
 rw [qdT,<- qhI]
 exact qj1 (by omega)
def xt (x:F):F:=x <<< 1 ^^^ (if x.msb then 29#8 else 0#8)
theorem q0G:∀ i:Fin 256,qh (BitVec.ofFin i) 2 = xt (BitVec.ofFin i):=by decide +kernel
theorem qmW {x:F}:qh x 2 = xt x:=q0G x.toFin
theorem q67 {x y:F}:xt (x ^^^ y) = xt x ^^^ xt y:=by
 unfold xt
 rw [BitVec.shiftLeft_xor_distrib,BitVec.msb_xor]
 have h1:∀ a b c:F,a ^^^ b ^^^ c = a ^^^ c ^^^ b:=fun a b c=>by rw [BitVec.xor_assoc,BitVec.xor_comm b c,<- BitVec.xor_assoc]
 cases x.msb <;> cases y.msb
 ·simp
 ·simp [BitVec.xor_assoc]
 ·simp [h1 (x <<< 1) (29#8) (y <<< 1)]
 ·simp only [bne_self_eq_false,Bool.false_eq_true,if_true,if_false,BitVec.xor_zero]
  rw [h1 (x <<< 1) (29#8),BitVec.xor_assoc (x <<< 1),BitVec.xor_assoc (y <<< 1),BitVec.xor_self,BitVec.xor_zero]
theorem ql4 {x y:F}:∀ n:Nat,qh (x ^^^ y) (qb0 n) = qh x (qb0 n) ^^^ qh y (qb0 n)
 | 0=>by rw [qhI,qaX,qaX,qaX]
 | n + 1=>by
  have he:qb0 (n + 1) = qh (qb0 n) 2:=by
   have:(2:F) = qb0 1:=by decide
   rw [this,qdT]
  rw [he,<- qN,<- qN,<- qN,ql4 n,qmW,qmW,qmW,q67]
theorem qck {x y z:F}:qh (x ^^^ y) z = qh x z ^^^ qh y z:=by
 by_cases hz:z = 0
 ·rw [hz,q7,q7,q7]; rfl
 ·obtain ⟨n,_,rfl⟩:=qha hz
  exact ql4 n
theorem qhC {x y z:F}:qh z (x ^^^ y) = qh z x ^^^ qh z y:=by rw [qag,qck,qag,qag (x:=y)]

theorem qtX {i:Nat} (h:i < 510):qlr i = ofF (qb0 i):=by
 rw [qwE h,ofF,qgP]
 by_cases hi:i < 255
 ·rw [Nat.mod_eq_of_lt hi]
  have:=qfx ⟨i,h⟩
  simp only at this
  omega
 ·have h1:=q4H ⟨i - 255,by omega⟩
  have h2:=qfx ⟨i,h⟩
  simp only at h1 h2
  rw [show i - 255 + 255 = i by omega] at h1
  rw [show i % 255 = i - 255 by omega,<- h1]
  omega
theorem qoM {a:Int} (h:isB a):qbn a.toNat = (qeu (toF a):Nat):=by
 obtain ⟨h0,h1⟩:=h
 rw [qw9 (by omega),qeu,qqS ⟨h0,h1⟩]
 have:=qj4 ⟨a.toNat,by omega⟩
 simp only at this
 omega
theorem q1e {a b:Int} (ha:isB a) (hb:isB b):qdj a b = ofF (qh (toF a) (toF b)):=by
 unfold qdj qh
 simp only [qe9 ha,qe9 hb]
 split
 ·rfl
 ·have h1:=qfI (x:=toF a)
  have h2:=qfI (x:=toF b)
  rw [qoM ha,qoM hb,qtX (by omega)]
  congr 2
theorem qzO {a:Int} (ha:isB a):qf7 a = ofF (qes (toF a)):=by
 unfold qf7 qes
 simp only [qe9 ha]
 split
 ·rfl
 ·have h1:=qfI (x:=toF a)
  rw [qoM ha,qtX (by omega)]
  congr 2
  omega
theorem q1R {a b:Int} (ha:isB a) (hb:isB b):isB (qdj a b):=by rw [q1e ha hb]; exact qiI
theorem qhj {a b:Int} (ha:isB a) (hb:isB b):toF (qdj a b) = qh (toF a) (toF b):=by rw [q1e ha hb,qiO]
theorem q3y {a:Int} (ha:isB a):isB (qf7 a):=by rw [qzO ha]; exact qiI
theorem q3w {a:Int} (ha:isB a):toF (qf7 a) = qes (toF a):=by rw [qzO ha,qiO]
theorem q3S {a b:Int}:isB (qhr a b):=by rw [q07]; exact qiI
def qaF (x:F):Nat->F
 | 0=>1
 | n + 1=>qh (qaF x n) x
theorem qs8 {n:Nat}:∀ m,qaF (qb0 n) m = qb0 (n * m)
 | 0=>by rw [Nat.mul_zero]; exact qhI.symm
 | m + 1=>by rw [qaF,qs8 m,qdT,Nat.mul_succ]
theorem qz0 {m:Nat} (h:0 < m):qaF 0 m = 0:=by
 cases m with
 | zero=>omega
 | succ m=>rw [qaF,q7]
theorem q0l {a e:Int} (ha:isB a) (he:e < 9223372036854775808):qgD a e = ofF (qaF (toF a) e.toNat):=by
 unfold qgD
 by_cases h0:e <= 0
 ·rw [if_pos h0,show e.toNat = 0 by omega]; rfl
 rw [if_neg h0]
 by_cases h1:a = 0
 ·rw [if_pos h1,h1,qs2,qz0 (by omega)]; rfl
 rw [if_neg h1]
 have hx:toF a ≠ 0:=fun h=>h1 ((qe9 ha).1 h)
 have hl:=qfI (x:=toF a)
 rw [qoM ha]
 have e1:e.tmod 255 = ((e.toNat % 255:Nat):Int):=by
  rw [Int.tmod_eq_emod_of_nonneg (by omega)]; omega
 rw [e1,<- Int.natCast_mul,Int.tmod_eq_emod_of_nonneg (by omega),qtX (by omega)]
 congr 1
 conv=>rhs; rw [<- qhv hx,qs8]
 refine qj1 ?_
 have:((qeu (toF a) * (e.toNat % 255):Nat):Int) % 255 = ((qeu (toF a) * (e.toNat % 255) % 255:Nat):Int):=by omega
 rw [this,Int.toNat_natCast,Nat.mod_mod,Nat.mul_mod,Nat.mod_mod,<- Nat.mul_mod]
theorem q2W {a e:Int} (ha:isB a) (he:e < 9223372036854775808):isB (qgD a e):=by rw [q0l ha he]; exact qiI
end Go.Proofs

set_option linter.unusedSimpArgs false
set_option linter.unusedVariables false
namespace Go.Proofs
open Go Go.Eng

theorem qrM (a b c:F):a ^^^ (b ^^^ c) = b ^^^ (a ^^^ c):=by rw [<- BitVec.xor_assoc,BitVec.xor_comm a b,BitVec.xor_assoc]
theorem qnr (a b c d:F):(a ^^^ b) ^^^ (c ^^^ d) = (a ^^^ c) ^^^ (b ^^^ d):=by rw [BitVec.xor_assoc,BitVec.xor_assoc,qrM b c d]
theorem qeD {a b:F}:a ^^^ b = 0↔a = b:=⟨fun h=>by
 have:a ^^^ b ^^^ b = b:=by rw [h]; simp
 rwa [BitVec.xor_assoc,BitVec.xor_self,BitVec.xor_zero] at this,fun h=>by rw [h]; exact BitVec.xor_self⟩
theorem qaf {a:F}:a ^^^ 0 = a:=BitVec.xor_zero
theorem qar {a:F}:0 ^^^ a = a:=BitVec.zero_xor
theorem qa3 {a:F}:a ^^^ a = 0:=BitVec.xor_self
theorem qm9 {a b:F}:a ^^^ b ^^^ b = a:=by rw [BitVec.xor_assoc,BitVec.xor_self,BitVec.xor_zero]
def qy (f:Nat->F):Nat->F
 | 0=>0
 | n + 1=>qy f n ^^^ f n
theorem qk {f g:Nat->F} {n:Nat} (h:∀ i,i < n->f i = g i):qy f n = qy g n:=by
 induction n with
 | zero=>rfl
 | succ n ih=>rw [qy,qy,ih fun i hi=>h i (by omega),h n (by omega)]
theorem qc4 {f:Nat->F} {n:Nat} (h:∀ i,i < n->f i = 0):qy f n = 0:=by
 induction n with
 | zero=>rfl
 | succ n ih=>rw [qy,ih fun i hi=>h i (by omega),h n (by omega),qaf]
theorem qfN {f g:Nat->F} {n:Nat}:qy (fun i=>f i ^^^ g i) n = qy f n ^^^ qy g n:=by
 induction n with
 | zero=>exact qaf.symm
 | succ n ih=>rw [qy,qy,qy,ih,qnr]
theorem qcW {f:Nat->F} {c:F} {n:Nat}:qy (fun i=>qh c (f i)) n = qh c (qy f n):=by
 induction n with
 | zero=>exact q7.symm
 | succ n ih=>rw [qy,qy,ih,qhC]
theorem qdY {f:Nat->F} {c:F} {n:Nat}:qy (fun i=>qh (f i) c) n = qh (qy f n) c:=by
 rw [qag,<- qcW]
 exact qk fun i _=>qag
theorem qh1 {f:Nat->F} {n k:Nat} (hk:k < n) (h:∀ i,i < n->i ≠ k->f i = 0):qy f n = f k:=by
 induction n with
 | zero=>omega
 | succ n ih =>
  rw [qy]
  by_cases hkn:k = n
  ·rw [qc4 fun i hi=>h i (by omega) (by omega),hkn,qar]
  ·rw [ih (by omega) fun i hi=>h i (by omega),h n (by omega) (by omega),qaf]
theorem qfb {f:Nat->Nat->F} {n m:Nat}:qy (fun i=>qy (fun j=>f i j) m) n = qy (fun j=>qy (fun i=>f i j) n) m:=by
 induction n with
 | zero=>exact (qc4 fun _ _=>rfl).symm
 | succ n ih =>
  rw [qy,ih,<- qfN]
  rfl
def del (i j:Nat):F:=if i = j then 1 else 0
theorem qmT {f:Nat->F} {n k:Nat} (hk:k < n):qy (fun i=>qh (del i k) (f i)) n = f k:=by
 rw [qh1 hk fun i hi hik=>by rw [del,if_neg hik,qC],del,if_pos rfl,qhm]
theorem qg9 {f:Nat->F} {n k:Nat} (hk:k < n):qy (fun i=>qh (f i) (del i k)) n = f k:=by
 rw [qh1 hk fun i hi hik=>by rw [del,if_neg hik,q7],del,if_pos rfl,qaX]

abbrev Mat:=Nat->Nat->F
def spans (r w:Nat) (T:Mat) (v:Nat->F):Prop:=∃ x:Nat->F,∀ j,j < w->v j = qy (fun i=>qh (x i) (T i j)) r
theorem qbf {r w:Nat} {T:Mat} {i:Nat} (hi:i < r):spans r w T (T i):=⟨fun a=>del a i,fun j _=>(qmT (f:=fun a=>T a j) hi).symm⟩
theorem qbW {r w:Nat} {T:Mat} {v v':Nat->F} (h:spans r w T v) (he:∀ j,j < w->v' j = v j):spans r w T v':=by
 obtain ⟨x,hx⟩:=h
 exact ⟨x,fun j hj=>by rw [he j hj,hx j hj]⟩
theorem qqX {r w:Nat} {T:Mat} {v v':Nat->F} (h:spans r w T v) (h':spans r w T v'):spans r w T (fun j=>v j ^^^ v' j):=by
 obtain ⟨x,hx⟩:=h
 obtain ⟨y,hy⟩:=h'
 refine ⟨fun i=>x i ^^^ y i,fun j hj=>?_⟩
 show v j ^^^ v' j = _
 rw [hx j hj,hy j hj,<- qfN]
 exact qk fun i _=>qck.symm
theorem qhN {r w:Nat} {T:Mat} {v:Nat->F} {c:F} (h:spans r w T v):spans r w T (fun j=>qh c (v j)):=by
 obtain ⟨x,hx⟩:=h
 refine ⟨fun i=>qh c (x i),fun j hj=>?_⟩
 show qh c (v j) = _
 rw [hx j hj,<- qcW]
 exact qk fun i _=>qN.symm
theorem qgr {r w:Nat} {T T':Mat} {v:Nat->F} (h:spans r w T' v) (hr:∀ i,i < r->spans r w T (T' i)):spans r w T v:=by
 obtain ⟨x,hx⟩:=h
 let y:Nat->Nat->F:=fun i=>if h:i < r then (hr i h).choose else fun _=>0
 have hy:∀ i,i < r->∀ j,j < w->T' i j = qy (fun a=>qh (y i a) (T a j)) r:=fun i hi j hj=>by
  simp only [y,dif_pos hi]
  exact (hr i hi).choose_spec j hj
 refine ⟨fun a=>qy (fun i=>qh (x i) (y i a)) r,fun j hj=>?_⟩
 rw [hx j hj,qk fun i hi=>by rw [hy i hi j hj,<- qcW],qfb]
 refine qk fun a _=>?_
 rw [<- qdY]
 exact qk fun i _=>qN.symm
structure Same (r w:Nat) (T T':Mat):Prop where
 to:∀ i,i < r->spans r w T (T' i)
 back:∀ i,i < r->spans r w T' (T i)
theorem Same.refl {r w:Nat} {T:Mat}:Same r w T T:=⟨fun i hi=>qbf hi,fun i hi=>qbf hi⟩
theorem Same.trans {r w:Nat} {T T' T'':Mat} (h:Same r w T T') (h':Same r w T' T''):Same r w T T'' :=
 ⟨fun i hi=>qgr (h'.to i hi) h.to,fun i hi=>qgr (h.back i hi) h'.back⟩
theorem Same.symm {r w:Nat} {T T':Mat} (h:Same r w T T'):Same r w T' T:=⟨h.back,h.to⟩
theorem Same.spans {r w:Nat} {T T':Mat} (h:Same r w T T') {v:Nat->F}:spans r w T v↔Go.Proofs.spans r w T' v:=⟨fun hv=>qgr hv h.back,fun hv=>qgr hv h.to⟩
theorem qsS {r w:Nat} {T T':Mat} {i p:Nat} {g:F} (hi:i < r) (hp:p < r) (hip:i ≠ p) (h1:∀ j,j < w->T' i j = T i j ^^^ qh g (T p j)) (h2:∀ a,a < r->a ≠ i->∀ j,j < w->T' a j = T a j):Same r w T T':=by
 refine ⟨fun a ha=>?_,fun a ha=>?_⟩
 ·by_cases hai:a = i
  ·subst hai
   exact qbW (qqX (qbf ha) (qhN (c:=g) (qbf hp))) h1
  ·exact qbW (qbf ha) (h2 a ha hai)
 ·by_cases hai:a = i
  ·subst hai
   refine qbW (qqX (qbf ha) (qhN (c:=g) (qbf hp))) fun j hj=>?_
   rw [h1 j hj,h2 p hp (Ne.symm hip) j hj,qm9]
  ·exact qbW (qbf ha) fun j hj=>(h2 a ha hai j hj).symm
theorem q3W {r w:Nat} {T T':Mat} {i:Nat} {g:F} (hi:i < r) (hg:g ≠ 0) (h1:∀ j,j < w->T' i j = qh (T i j) g) (h2:∀ a,a < r->a ≠ i->∀ j,j < w->T' a j = T a j):Same r w T T':=by
 refine ⟨fun a ha=>?_,fun a ha=>?_⟩
 ·by_cases hai:a = i
  ·subst hai
   exact qbW (qhN (c:=g) (qbf ha)) fun j hj=>by rw [h1 j hj,qag]
  ·exact qbW (qbf ha) (h2 a ha hai)
 ·by_cases hai:a = i
  ·subst hai
   refine qbW (qhN (c:=qes g) (qbf ha)) fun j hj=>?_
   rw [h1 j hj,qag,qN,qik hg,qaX]
  ·exact qbW (qbf ha) fun j hj=>(h2 a ha hai j hj).symm
def lead (r w:Nat) (T:Mat) (c:Nat):Prop:=∃ v,spans r w T v/\(∀ j,j < c->v j = 0)/\v c ≠ 0
open Classical in
noncomputable def cnt (r w:Nat) (T:Mat):Nat->Nat
 | 0=>0
 | c + 1=>cnt r w T c + if lead r w T c then 1 else 0
theorem Same.lead {r w:Nat} {T T':Mat} (h:Same r w T T') {c:Nat}:lead r w T c↔Go.Proofs.lead r w T' c:=by
 unfold Go.Proofs.lead
 simp only [h.spans]
theorem q1A {r w:Nat} {T:Mat}:∀ c,cnt r w T c <= c
 | 0=>Nat.le_refl _
 | c + 1=>by
  have:=q1A (r:=r) (w:=w) (T:=T) c
  unfold cnt; split <;> omega
theorem qva {r w:Nat} {T:Mat} {c:Nat}:∀ d,cnt r w T c <= cnt r w T (c + d)
 | 0=>Nat.le_refl _
 | d + 1=>by
  have:=qva (r:=r) (w:=w) (T:=T) (c:=c) d
  rw [<- Nat.add_assoc]
  conv=>rhs; unfold cnt
  omega
theorem qhi {r w:Nat} {T:Mat} {c:Nat} (h:lead r w T c):cnt r w T (c + 1) = cnt r w T c + 1:=by rw [cnt,if_pos h]
theorem qp8 {r w:Nat} {T:Mat} {c:Nat} (h:¬ lead r w T c):cnt r w T (c + 1) = cnt r w T c:=by rw [cnt,if_neg h]; rfl
theorem qux {r w:Nat} {T:Mat} {c c':Nat} (h:lead r w T c) (hlt:c < c'):cnt r w T c < cnt r w T c':=by
 have:=qva (r:=r) (w:=w) (T:=T) (c:=c + 1) (c' - (c + 1))
 rw [show c + 1 + (c' - (c + 1)) = c' by omega,qhi h] at this
 omega
theorem q5g {r w:Nat} {T:Mat} {c c':Nat} (h:lead r w T c) (h':lead r w T c') (he:cnt r w T c = cnt r w T c'):c = c':=by
 rcases Nat.lt_trichotomy c c' with h1 | h1 | h1
 ·have:=qux h h1; omega
 ·exact h1
 ·have:=qux h' h1; omega
theorem qjR {r w:Nat} {T:Mat}:∀ {c i:Nat},i < cnt r w T c->∃ c',c' < c/\lead r w T c'/\cnt r w T c' = i
 | 0,i,h=>by simp [cnt] at h
 | c + 1,i,h=>by
  by_cases hl:lead r w T c
  ·rw [qhi hl] at h
   by_cases hi:i = cnt r w T c
   ·exact ⟨c,by omega,hl,hi.symm⟩
   ·obtain ⟨c',h1,h2,h3⟩:=qjR (r:=r) (w:=w) (T:=T) (c:=c) (i:=i) (by omega)
    exact ⟨c',by omega,h2,h3⟩
  ·rw [qp8 hl] at h
   obtain ⟨c',h1,h2,h3⟩:=qjR (c:=c) h
   exact ⟨c',by omega,h2,h3⟩
structure Ech (r w:Nat) (T0 T:Mat) (c rank:Nat):Prop where
 same:Same r w T0 T
 num:rank = cnt r w T0 c
 le:rank <= r
 col:∀ c',c' < c->lead r w T0 c'->∀ i,i < r->T i c' = del i (cnt r w T0 c')
 low:∀ i,rank <= i->i < r->∀ c',c' < c->T i c' = 0
theorem q1w {r w:Nat} {T:Mat}:Ech r w T T 0 0:=⟨Same.refl,rfl,Nat.zero_le _,fun c' h=>by omega,fun i _ _ c' h=>by omega⟩
theorem q5s {r w:Nat} {T0 T:Mat} {c rank:Nat} (h:Ech r w T0 T c rank) (hc:c <= w) {v:Nat->F} (hv:spans r w T0 v) (h0:∀ j,j < c->v j = 0) :
  ∃ x:Nat->F,(∀ i,i < rank->x i = 0)/\∀ j,j < w->v j = qy (fun i=>qh (x i) (T i j)) r:=by
 obtain ⟨x,hx⟩:=h.same.spans.1 hv
 refine ⟨x,fun i hi=>?_,hx⟩
 rw [h.num] at hi
 obtain ⟨c',h1,h2,h3⟩:=qjR hi
 have hle:=h.le
 have h4:=hx c' (by omega)
 rw [h0 c' h1,qk fun a ha=>by rw [h.col c' h1 h2 a ha,h3]] at h4
 rw [qg9 (f:=x) (by have:=h.num; omega)] at h4
 exact h4.symm
theorem quh {r w:Nat} {T0 T:Mat} {c rank:Nat} (h:Ech r w T0 T c rank) (hc:c < w) (hz:∀ i,rank <= i->i < r->T i c = 0):Ech r w T0 T (c + 1) rank:=by
 have hn:¬ lead r w T0 c:=fun ⟨v,h1,h2,h3⟩=>by
  obtain ⟨x,hx,he⟩:=q5s h (by omega) h1 h2
  apply h3
  rw [he c hc]
  refine qc4 fun i hi=>?_
  by_cases hir:i < rank
  ·rw [hx i hir,qC]
  ·rw [hz i (by omega) hi,q7]
 refine ⟨h.same,by rw [qp8 hn]; exact h.num,h.le,fun c' hc' hl i hi=>?_,fun i h1 h2 c' hc'=>?_⟩
 ·by_cases he:c' = c
  ·rw [he] at hl; exact (hn hl).elim
  ·exact h.col c' (by omega) hl i hi
 ·by_cases he:c' = c
  ·rw [he]; exact hz i h1 h2
  ·exact h.low i h1 h2 c' (by omega)
theorem q3i {r w:Nat} {T0 T T':Mat} {c rank:Nat} (h:Ech r w T0 T c rank) (hc:c < w) (hr:rank < r) (hs:Same r w T T') (hcol:∀ i,i < r->T' i c = del i rank)
  (hold:∀ c',c' < c->∀ i,i < r->T' i c' = T i c'):Ech r w T0 T' (c + 1) (rank + 1):=by
 have hl:lead r w T0 c:=by
  refine ⟨T' rank,(h.same.trans hs).spans.2 (qbf hr),fun j hj=>?_,?_⟩
  ·rw [hold j hj rank hr]; exact h.low rank (Nat.le_refl _) hr j hj
  ·rw [hcol rank hr,del,if_pos rfl]; decide
 refine ⟨h.same.trans hs,by rw [qhi hl,<- h.num],hr,fun c' hc' hl' i hi=>?_,fun i h1 h2 c' hc'=>?_⟩
 ·by_cases he:c' = c
  ·rw [he,hcol i hi,h.num]
  ·rw [hold c' (by omega) i hi]; exact h.col c' (by omega) hl' i hi
 ·by_cases he:c' = c
  ·rw [he,hcol i h2,del,if_neg (by omega)]
  ·rw [hold c' (by omega) i h2]; exact h.low i (by omega) h2 c' (by omega)
theorem qst {r w:Nat} {T:Mat}:∀ {n:Nat},cnt r w T n = n->∀ c,c < n->lead r w T c/\cnt r w T c = c
 | 0,_,c,h=>by omega
 | n + 1,he,c,h=>by
  by_cases hl:lead r w T n
  ·rw [qhi hl] at he
   by_cases hc:c = n
   ·exact ⟨by rw [hc]; exact hl,by rw [hc]; omega⟩
   ·exact qst (n:=n) (by omega) c (by omega)
  ·rw [qp8 hl] at he
   have:=q1A (r:=r) (w:=w) (T:=T) n
   omega
theorem qsv {r w:Nat} {T0 T:Mat} {n:Nat} (h:Ech r w T0 T n n):∀ i,i < r->∀ c,c < n->T i c = del i c:=fun i hi c hc=>by
 obtain ⟨h1,h2⟩:=qst h.num.symm c hc
 rw [h.col c hc h1 i hi,h2]
theorem q3T {r w:Nat} {T0 T:Mat} {n rank:Nat} (h:Ech r w T0 T n rank) (hn:n <= w) (hlt:rank < n):∃ y:Nat->F,(∃ c,c < n/\y c ≠ 0)/\∀ i,i < r->qy (fun j=>qh (T0 i j) (y j)) n = 0:=by
 have hex:∃ c,c < n/\¬ lead r w T0 c:=by
  refine Classical.byContradiction fun hno=>?_
  have hall:∀ c,c < n->lead r w T0 c:=fun c hc=>Classical.byContradiction fun hl=>hno ⟨c,hc,hl⟩
  have:∀ c,c <= n->cnt r w T0 c = c:=fun c=>by
   induction c with
   | zero=>intro _; rfl
   | succ c ih=>intro hc; rw [qhi (hall c (by omega)),ih (by omega)]
  have:=this n (Nat.le_refl _)
  have:=h.num
  omega
 obtain ⟨c,hc,hnl⟩:=hex
 let y:Nat->F:=fun j=>open Classical in if j = c then 1 else if lead r w T0 j then T (cnt r w T0 j) c else 0
 have hyc:y c = 1:=by simp [y]
 have hT:∀ i,i < r->qy (fun j=>qh (T i j) (y j)) n = 0:=fun i hi=>by
  have hsplit:qy (fun j=>qh (T i j) (y j)) n = qy (fun j=>qh (if j = c then T i c else 0) 1) n ^^^ qy (fun j=>open Classical in if j ≠ c/\lead r w T0 j then qh (del i (cnt r w T0 j)) (T (cnt r w T0 j) c) else 0) n:=by
   rw [<- qfN]
   refine qk fun j hj=>?_
   by_cases hjc:j = c
   ·subst hjc
    simp only [hyc,qaX,if_true,ne_eq,not_true,false_and,if_false,qaf]
   ·simp only [if_neg hjc,qC,qar]
    by_cases hl:lead r w T0 j
    ·rw [if_pos ⟨hjc,hl⟩,h.col j hj hl i hi]; simp only [y,if_neg hjc,if_pos hl]
    ·rw [if_neg fun hh=>hl hh.2]; simp only [y,if_neg hjc,if_neg hl,q7]
  rw [hsplit,qh1 hc fun j _ hj=>by rw [if_neg hj,qC],if_pos rfl,qaX]
  by_cases hir:i < rank
  ·rw [h.num] at hir
   obtain ⟨c',h1,h2,h3⟩:=qjR hir
   have hcc:c' ≠ c:=fun e=>hnl (e ▸ h2)
   rw [qh1 (k:=c') h1 fun j hj hjc=>?_,if_pos ⟨hcc,h2⟩,h3,del,if_pos rfl,qhm,qa3]
   split
   ·rename_i hh
    rw [del,if_neg,qC]
    intro e
    exact hjc (q5g hh.2 h2 (by rw [h3,e]))
   ·rfl
  ·rw [h.low i (by omega) hi c hc,qar]
   refine qc4 fun j hj=>?_
   split
   ·rename_i hh
    rw [del,if_neg,qC]
    have:=qux hh.2 hj
    have:=h.num
    omega
   ·rfl
 refine ⟨y,⟨c,hc,by rw [hyc]; decide⟩,fun i hi=>?_⟩
 obtain ⟨x,hx⟩:=h.same.back i hi
 rw [qk fun j hj=>by rw [hx j (by omega),<- qdY],qfb]
 refine qc4 fun a ha=>?_
 rw [qk (g:=fun j=>qh (x a) (qh (T a j) (y j))) fun j _=>qN,qcW,hT a ha,q7]
end Go.Proofs

set_option linter.unusedSimpArgs false
set_option linter.unusedVariables false
namespace Go.Proofs
open Go Go.Eng

def qax (x:F):List F->F
 | []=>0
 | c :: l=>qh (qax x l) x ^^^ c
theorem qfK {x:F}:qax x [] = 0:=rfl
theorem qhl {x c:F}:qax x [c] = c:=by rw [qax,qfK,qC,qar]
def qi8 (r:F):List F->List F
 | []=>[]
 | [_]=>[]
 | _ :: c' :: l=>qax r (c' :: l) :: qi8 r (c' :: l)
theorem qsE {r:F}:∀ {l:List F},(qi8 r l).length = l.length - 1
 | []=>rfl
 | [_]=>rfl
 | _ :: c' :: l=>by simp only [qi8,List.length_cons,qsE (l:=c' :: l)]; omega
theorem qso {x r:F}:∀ {l:List F},qax x l ^^^ qax r l = qh (x ^^^ r) (qax x (qi8 r l))
 | []=>by rw [qi8,qfK,qfK,qa3,q7]
 | [c]=>by rw [qi8,qhl,qhl,qfK,qa3,q7]
 | c :: c' :: l=>by
  have ih:=qso (x:=x) (r:=r) (l:=c' :: l)
  rw [qi8,show qax x (c :: c' :: l) = qh (qax x (c' :: l)) x ^^^ c from rfl,show qax r (c :: c' :: l) = qh (qax r (c' :: l)) r ^^^ c from rfl]
  conv=>rhs; rw [qax]
  have h1:∀ a b d:F,a ^^^ b = qh (x ^^^ r) d->qh a x ^^^ c ^^^ (qh b r ^^^ c) = qh (x ^^^ r) (qh d x ^^^ b):=fun a b d h=>by
   rw [qnr,qa3,qaf,qhC (z:=x ^^^ r),<- qN,<- h,qck,qag (x:=x ^^^ r),qhC,<- BitVec.xor_assoc,qm9]
  exact h1 _ _ _ ih
theorem qsZ {r:F}:∀ {l:List F} {c:F},(∀ y ∈ qi8 r (c :: l),y = 0)->∀ y ∈ l,y = 0
 | [],_,_=>by simp
 | c' :: l,c,h=>by
  simp only [qi8,List.mem_cons,forall_eq_or_imp] at h
  have ht:=qsZ (l:=l) (c:=c') h.2
  have hh:qax r l = 0:=by
   clear h
   induction l with
   | nil=>rfl
   | cons a l ih=>rw [qax,ih fun y hy=>ht y (List.mem_cons_of_mem _ hy),qC,ht a (List.mem_cons_self ..),qaf]
  have h1:=h.1
  rw [qax,hh,qC,qar] at h1
  intro y hy
  rcases List.mem_cons.1 hy with rfl | hy
  ·exact h1
  ·exact ht y hy
theorem qqI {x:F}:∀ {l:List F},(∀ y ∈ l,y = 0)->qax x l = 0
 | [],_=>rfl
 | a :: l,h=>by rw [qax,qqI fun y hy=>h y (List.mem_cons_of_mem _ hy),qC,h a (List.mem_cons_self ..),qaf]
def qbx (n:Nat) (xs:Nat->F):Prop:=∀ i j,i < n->j < n->xs i = xs j->i = j
theorem qoJ {xs:Nat->F}:∀ {n:Nat} {l:List F},l.length <= n->qbx n xs->(∀ i,i < n->qax (xs i) l = 0)->∀ y ∈ l,y = 0
 | 0,l,hl,_,_=>by
  have:l = []:=List.eq_nil_of_length_eq_zero (by omega)
  rw [this]; simp
 | n + 1,[],_,_,_=>by simp
 | n + 1,c :: t,hl,hd,hr=>by
  simp only [List.length_cons] at hl
  have hq:=qoJ (n:=n) (l:=qi8 (xs n) (c :: t)) (by rw [qsE,List.length_cons]; omega) (fun i j hi hj=>hd i j (by omega) (by omega)) fun i hi=>by
   have h:=qso (x:=xs i) (r:=xs n) (l:=c :: t)
   rw [hr i (by omega),hr n (by omega),qa3] at h
   rcases quC.1 h.symm with h1 | h1
   ·have:=hd i n (by omega) (by omega) (qeD.1 h1); omega
   ·exact h1
  have ht:=qsZ hq
  have h1:=hr n (by omega)
  rw [qax,qqI ht,qC,qar] at h1
  intro y hy
  rcases List.mem_cons.1 hy with rfl | hy
  ·exact h1
  ·exact ht y hy
def qA (n:Nat) (y:Nat->F) (x:F):F:=qy (fun j=>qh (y j) (qaF x j)) n
theorem qrr {x c:F}:∀ {l:List F},qax x (l ++ [c]) = qax x l ^^^ qh c (qaF x l.length)
 | []=>by rw [List.nil_append,qhl,qfK,qar,List.length_nil,qaF,qaX]
 | a :: l=>by
  rw [List.cons_append,qax,qrr (l:=l),qax,qck,List.length_cons,qaF,BitVec.xor_assoc,BitVec.xor_assoc,qN,BitVec.xor_comm a]
theorem qlA {y:Nat->F} {x:F}:∀ n,qax x ((List.range n).map y) = qA n y x
 | 0=>rfl
 | n + 1=>by
  rw [List.range_succ,List.map_append,List.map_cons,List.map_nil,qrr,qlA n]
  simp [qA,qy]
theorem qjx {n:Nat} {y:Nat->F} {xs:Nat->F} (hd:qbx n xs) (h:∀ i,i < n->qA n y (xs i) = 0):∀ j,j < n->y j = 0:=fun j hj=>by
 have:=qoJ (l:=(List.range n).map y) (by simp) hd (fun i hi=>by rw [qlA]; exact h i hi) (y j)
 exact this (List.mem_map.2 ⟨j,List.mem_range.2 hj,rfl⟩)
theorem qzV {x:F} {l:List F} {n:Nat} (hl:l.length <= n):qax x l = qA n (fun j=>l.getD j 0) x:=by
 have h1:∀ m,qA (l.length + m) (fun j=>l.getD j 0) x = qA l.length (fun j=>l.getD j 0) x:=fun m=>by
  induction m with
  | zero=>rfl
  | succ m ih =>
   rw [<- Nat.add_assoc,qA,qy]
   rw [show qy (fun j=>qh (l.getD j 0) (qaF x j)) (l.length + m) = qA (l.length + m) (fun j=>l.getD j 0) x from rfl,ih]
   rw [show l.getD (l.length + m) 0 = 0 by rw [List.getD_eq_getElem?_getD,List.getElem?_eq_none (by omega)]; rfl,qC,qaf]
 rw [show n = l.length + (n - l.length) by omega,h1,<- qlA]
 congr 1
 apply List.ext_getElem?
 intro j
 by_cases hj:j < l.length
 ·simp [List.getElem?_range hj,List.getD_eq_getElem?_getD,List.getElem?_eq_getElem hj]
 ·simp [hj]

def qcJ (f:Nat->F):Nat->F
 | 0=>1
 | n + 1=>qh (qcJ f n) (f n)
theorem q3Y {f:Nat->F} {n:Nat} (h:∀ i,i < n->f i ≠ 0):qcJ f n ≠ 0:=by
 induction n with
 | zero=>exact (by decide:(1:F) ≠ 0)
 | succ n ih=>exact qlb (ih fun i hi=>h i (by omega)) (h n (by omega))
theorem qoE {f:Nat->F} {n k:Nat} (hk:k < n) (h:f k = 0):qcJ f n = 0:=by
 induction n with
 | zero=>omega
 | succ n ih =>
  rw [qcJ]
  by_cases hkn:k = n
  ·rw [<- hkn,h,q7]
  ·rw [ih (by omega),qC]
def qng (r:F):F->List F->List F
 | p,[]=>[p]
 | p,c :: l=>(p ^^^ qh r c) :: qng r c l
theorem qs7 {r:F}:∀ {p:F} {l:List F},(qng r p l).length = l.length + 1
 | _,[]=>rfl
 | _,c :: l=>by simp [qng,qs7]
theorem qqQ {r x:F}:∀ {p:F} {l:List F},qax x (qng r p l) = p ^^^ qh (x ^^^ r) (qax x l)
 | p,[]=>by rw [qng,qhl,qfK,q7,qaf]
 | p,c :: l=>by
  rw [qng,qax,qqQ,qax,qck,qhC,BitVec.xor_comm _ (p ^^^ qh r c),BitVec.xor_assoc,qck (x:=x) (y:=r) (z:=c),<- qN]
  congr 1
  rw [qag (x:=c) (y:=x),<- BitVec.xor_assoc,BitVec.xor_comm (qh r c),BitVec.xor_comm]
theorem qqE (xs:Nat->F) (i:Nat):∀ n,∃ l:List F,l.length = (if i < n then n else n + 1)/\∀ x,qax x l = qcJ (fun m=>if m = i then 1 else x ^^^ xs m) n
 | 0=>⟨[1],by simp,fun x=>by rw [qhl,qcJ]⟩
 | n + 1=>by
  obtain ⟨l,h1,h2⟩:=qqE xs i n
  by_cases hn:n = i
  ·subst hn
   refine ⟨l,by rw [h1]; simp,fun x=>by rw [h2,qcJ,if_pos rfl,qaX]⟩
  ·refine ⟨qng (xs n) 0 l,?_,fun x=>?_⟩
   ·rw [qs7,h1]; split <;> split <;> omega
   ·rw [qqQ,h2,qcJ,if_neg hn,qar,qag]
def qfB (n:Nat) (xs:Nat->F) (x:F) (i:Nat):F:=qh (qcJ (fun m=>if m = i then 1 else x ^^^ xs m) n) (qes (qcJ (fun m=>if m = i then 1 else xs i ^^^ xs m) n))
theorem q4D {n:Nat} {xs:Nat->F} (hd:qbx n xs) {i k:Nat} (hi:i < n) (hk:k < n):qfB n xs (xs k) i = del i k:=by
 unfold qfB del
 by_cases hik:i = k
 ·subst hik
  rw [if_pos rfl,qik]
  refine q3Y fun m hm=>?_
  split
  ·decide
  ·rename_i hmi
   exact fun h=>hmi (hd i m hi hm (qeD.1 h)).symm
 ·rw [if_neg hik,qoE (k:=k) hk (by rw [if_neg (Ne.symm hik)]; exact qa3),qC]
theorem qj9 {n:Nat} {xs:Nat->F} (hd:qbx n xs) {y:Nat->F} {x:F}:qA n y x = qy (fun i=>qh (qfB n xs x i) (qA n y (xs i))) n:=by
 have hex:∀ i,∃ l:Nat->F,i < n->∀ x,qA n l x = qfB n xs x i:=fun i=>by
  obtain ⟨l,h1,h2⟩:=qqE xs i n
  refine ⟨fun j=>qh (l.getD j 0) (qes (qcJ (fun m=>if m = i then 1 else xs i ^^^ xs m) n)),fun hi x=>?_⟩
  rw [qfB,<- h2 x,qzV (n:=n) (by rw [h1,if_pos hi]; exact Nat.le_refl _),qA,qA,<- qdY]
  refine qk fun j _=>?_
  rw [qN,qag (x:=qes _),<- qN]
 let lc:Nat->Nat->F:=fun i=>(hex i).choose
 have hlc:∀ i,i < n->∀ x,qA n (lc i) x = qfB n xs x i:=fun i hi=>(hex i).choose_spec hi
 let S:Nat->F:=fun j=>y j ^^^ qy (fun i=>qh (qA n y (xs i)) (lc i j)) n
 have hS:∀ x,qA n S x = qA n y x ^^^ qy (fun i=>qh (qfB n xs x i) (qA n y (xs i))) n:=fun x=>by
  have h1:qA n S x = qA n y x ^^^ qy (fun j=>qy (fun i=>qh (qA n y (xs i)) (qh (lc i j) (qaF x j))) n) n:=by
   simp only [qA]
   rw [<- qfN]
   refine qk fun j _=>?_
   simp only [S]
   rw [qck]
   congr 1
   rw [<- qdY]
   exact qk fun i _=>qN
  rw [h1,qfb]
  congr 1
  refine qk fun i hi=>?_
  rw [qcW,<- hlc i hi x,qag]
  rfl
 have h0:=qjx (y:=S) hd fun k hk=>by
  rw [hS,qk fun i hi=>by rw [q4D hd hi hk],qmT (f:=fun i=>qA n y (xs i)) hk,qa3]
 have:=hS x
 rw [show qA n S x = 0 from qc4 fun j hj=>by rw [h0 j hj,qC]] at this
 exact qeD.1 this.symm
theorem qoV {n:Nat} {xs:Nat->F} (hd:qbx n xs) {y:Nat->F} (h:∀ i,i < n->qy (fun j=>qh (qaF (xs i) j) (y j)) n = 0):∀ j,j < n->y j = 0 :=
 qjx hd fun i hi=>by
  rw [qA,<- h i hi]
  exact qk fun j _=>qag
end Go.Proofs

set_option linter.unusedSimpArgs false
set_option linter.unusedVariables false
namespace Go.Proofs
open Go Go.Eng

def qz (l:List Int):Prop:=∀ x ∈ l,isB x
theorem qaD {l:List Int} (h:qz l) (i:Nat):isB (l.getD i 0):=by
 rw [List.getD_eq_getElem?_getD]
 by_cases hi:i < l.length
 ·rw [List.getElem?_eq_getElem hi]; exact h _ (List.getElem_mem hi)
 ·rw [List.getElem?_eq_none (by omega)]; exact ⟨by simp,by simp⟩
def q6 (ca:Nat) (l:List Int):Mat:=fun i j=>toF (l.getD (i * ca + j) 0)
def qX (ca cb:Nat) (a b:List Int):Mat:=fun i j=>if j < ca then q6 ca a i j else q6 cb b i (j - ca)
theorem qsy {i i' ca j:Nat} (hj:j < ca):(i * ca <= i' * ca + j/\i' * ca + j < i * ca + ca)↔i' = i:=by
 constructor
 ·intro ⟨h1,h2⟩
  rcases Nat.lt_trichotomy i' i with h | h | h
  ·have:=Nat.mul_le_mul_right ca (show i' + 1 <= i by omega)
   rw [Nat.add_mul,Nat.one_mul] at this; omega
  ·exact h
  ·have:=Nat.mul_le_mul_right ca (show i + 1 <= i' by omega)
   rw [Nat.add_mul,Nat.one_mul] at this; omega
 ·rintro rfl; omega
theorem qfg {i r ca j:Nat} (hi:i < r) (hj:j < ca):i * ca + j < r * ca:=by
 have:=Nat.mul_le_mul_right ca (show i + 1 <= r by omega)
 rw [Nat.add_mul,Nat.one_mul] at this; omega
theorem qnJ {i r ca:Nat} (hi:i < r):i * ca + ca <= r * ca:=by
 have:=Nat.mul_le_mul_right ca (show i + 1 <= r by omega)
 rwa [Nat.add_mul,Nat.one_mul] at this
theorem qdE {l s:List Int} {off:Nat} {c:Int} (h:qz l):qz (qae l off s c):=fun x hx=>by
 obtain ⟨i,hi⟩:=List.getElem?_of_mem hx
 rw [qb7] at hi
 obtain ⟨y,hy,rfl⟩:=Option.map_eq_some_iff.1 hi
 split
 ·exact q3S
 ·exact h y (List.mem_of_getElem? hy)
theorem qk2 {l:List Int} {off n:Nat} {c:Int} (h:qz l) (hc:isB c):qz (qbd l off n c):=fun x hx=>by
 obtain ⟨i,hi⟩:=List.getElem?_of_mem hx
 rw [qeg] at hi
 obtain ⟨y,hy,rfl⟩:=Option.map_eq_some_iff.1 hi
 have:=h y (List.mem_of_getElem? hy)
 split
 ·exact q1R this hc
 ·exact this
theorem que {ca r i p:Nat} {a:List Int} {g:Int} (ha:a.length = r * ca) (hb:qz a) (hg:isB g) (hi:i < r) (hp:p < r) {i' j:Nat} (hi':i' < r) (hj:j < ca) :
  q6 ca (qae a (i * ca) (seg a (p * ca) ca) g) i' j = if i' = i then q6 ca a i j ^^^ qh (toF g) (q6 ca a p j) else q6 ca a i' j:=by
 have hlt:=qfg hi' hj
 have hsl:(seg a (p * ca) ca).length = ca:=qeV (by rw [ha]; exact qnJ hp)
 unfold q6
 rw [List.getD_eq_getElem?_getD,qb7,List.getElem?_eq_getElem (by omega),Option.map_some,Option.getD_some,hsl]
 by_cases he:i' = i
 ·subst he
  rw [if_pos ⟨by omega,by omega⟩,if_pos rfl,show i' * ca + j - i' * ca = j by omega]
  have hs:(seg a (p * ca) ca).getD j 0 = a.getD (p * ca + j) 0:=by
   rw [List.getD_eq_getElem?_getD,qfj,if_pos hj,List.getD_eq_getElem?_getD]
  rw [hs,qke,qhj hg (qaD hb _),List.getD_eq_getElem?_getD (l:=a) (i:=i' * ca + j),List.getElem?_eq_getElem (by omega),Option.getD_some]
 ·rw [if_neg (fun h=>he ((qsy hj).1 h)),if_neg he,List.getD_eq_getElem?_getD,List.getElem?_eq_getElem (by omega),Option.getD_some]
theorem qoq {ca r i:Nat} {a:List Int} {g:Int} (ha:a.length = r * ca) (hb:qz a) (hg:isB g) (hi:i < r) {i' j:Nat} (hi':i' < r) (hj:j < ca) :
  q6 ca (qbd a (i * ca) ca g) i' j = if i' = i then qh (q6 ca a i j) (toF g) else q6 ca a i' j:=by
 have hlt:=qfg hi' hj
 unfold q6
 rw [List.getD_eq_getElem?_getD,qeg,List.getElem?_eq_getElem (by omega),Option.map_some,Option.getD_some]
 by_cases he:i' = i
 ·subst he
  rw [if_pos ⟨by omega,by omega⟩,if_pos rfl,List.getD_eq_getElem?_getD,List.getElem?_eq_getElem (by omega),Option.getD_some,qhj (hb _ (List.getElem_mem _)) hg]
 ·rw [if_neg (fun h=>he ((qsy hj).1 h)),if_neg he,List.getD_eq_getElem?_getD,List.getElem?_eq_getElem (by omega),Option.getD_some]
structure Two (r ca cb:Nat) (a b:List Int):Prop where
 la:a.length = r * ca
 lb:b.length = r * cb
 ba:qz a
 bb:qz b
variable {r ca cb:Nat} {a b:List Int}
theorem Two.add (h:Two r ca cb a b) {i p:Nat} {g:Int}:Two r ca cb (qae a (i * ca) (seg a (p * ca) ca) g) (qae b (i * cb) (seg b (p * cb) cb) g) :=
 ⟨by rw [qcv,h.la],by rw [qcv,h.lb],qdE h.ba,qdE h.bb⟩
theorem Two.scale (h:Two r ca cb a b) {i:Nat} {g:Int} (hg:isB g):Two r ca cb (qbd a (i * ca) ca g) (qbd b (i * cb) cb g) :=
 ⟨by rw [qjE,h.la],by rw [qjE,h.lb],qk2 h.ba hg,qk2 h.bb hg⟩
theorem qwL (h:Two r ca cb a b) {i p:Nat} {g:Int} (hg:isB g) (hi:i < r) (hp:p < r) {i' j:Nat} (hi':i' < r) (hj:j < ca + cb) :
  qX ca cb (qae a (i * ca) (seg a (p * ca) ca) g) (qae b (i * cb) (seg b (p * cb) cb) g) i' j = if i' = i then qX ca cb a b i j ^^^ qh (toF g) (qX ca cb a b p j) else qX ca cb a b i' j:=by
 unfold qX
 by_cases hjc:j < ca
 ·simp only [if_pos hjc]; exact que h.la h.ba hg hi hp hi' hjc
 ·simp only [if_neg hjc]; exact que h.lb h.bb hg hi hp hi' (by omega)
theorem q0c (h:Two r ca cb a b) {i:Nat} {g:Int} (hg:isB g) (hi:i < r) {i' j:Nat} (hi':i' < r) (hj:j < ca + cb) :
  qX ca cb (qbd a (i * ca) ca g) (qbd b (i * cb) cb g) i' j = if i' = i then qh (qX ca cb a b i j) (toF g) else qX ca cb a b i' j:=by
 unfold qX
 by_cases hjc:j < ca
 ·simp only [if_pos hjc]; exact qoq h.la h.ba hg hi hi' hjc
 ·simp only [if_neg hjc]; exact qoq h.lb h.bb hg hi hi' (by omega)
theorem qdH {c i:Nat} (hc:c < ca):qX ca cb a b i c = toF (a.getD (i * ca + c) 0):=by rw [qX,if_pos hc,q6]
theorem qqM (a:List Int) (ca c:Nat):∀ n p,p <= qcQ a ca c p n/\qcQ a ca c p n <= p + n/\(qcQ a ca c p n < p + n->a.getD (qcQ a ca c p n * ca + c) 0 ≠ 0)/\∀ i,p <= i->i < qcQ a ca c p n->a.getD (i * ca + c) 0 = 0
 | 0,p=>by simp only [qcQ]; exact ⟨Nat.le_refl _,Nat.le_refl _,fun h=>by omega,fun i h1 h2=>by omega⟩
 | n + 1,p=>by
  obtain ⟨h1,h2,h3,h4⟩:=qqM a ca c n (p + 1)
  simp only [qcQ]
  split
  ·rename_i hz
   refine ⟨by omega,by omega,fun h=>h3 (by omega),fun i hi1 hi2=>?_⟩
   by_cases hip:i = p
   ·rw [hip]; exact hz
   ·exact h4 i (by omega) hi2
  ·rename_i hz
   exact ⟨Nat.le_refl _,by omega,fun _=>hz,fun i h1 h2=>by omega⟩
theorem Two.rows (h:Two r ca cb a b) {rank c:Nat}:∀ i,Two r ca cb (qa5 ca cb rank c a b i).1 (qa5 ca cb rank c a b i).2
 | 0=>h
 | i + 1=>by
  have ih:=Two.rows h (rank:=rank) (c:=c) i
  simp only [qa5]
  split
  ·exact ih
  ·exact ih.add
theorem qtP (h:Two r ca cb a b) {rank c:Nat} (hr:rank < r) (hc:c < ca):∀ i,i <= r ->
  (∀ i' j,i' < r->j < ca + cb->qX ca cb (qa5 ca cb rank c a b i).1 (qa5 ca cb rank c a b i).2 i' j = if i' < i/\i' ≠ rank then qX ca cb a b i' j ^^^ qh (qX ca cb a b i' c) (qX ca cb a b rank j) else qX ca cb a b i' j) /\
  Same r (ca + cb) (qX ca cb a b) (qX ca cb (qa5 ca cb rank c a b i).1 (qa5 ca cb rank c a b i).2)
 | 0,_=>⟨fun i' j _ _=>by rw [if_neg (by omega)]; rfl,Same.refl⟩
 | i + 1,hi=>by
  obtain ⟨ih,ihs⟩:=qtP h hr hc i (by omega)
  have hT:=h.rows (rank:=rank) (c:=c) i
  simp only [qa5]
  by_cases hir:i = rank
  ·rw [if_pos hir]
   refine ⟨fun i' j hi' hj=>?_,ihs⟩
   rw [ih i' j hi' hj]
   by_cases h1:i' < i/\i' ≠ rank
   ·rw [if_pos h1,if_pos ⟨by omega,h1.2⟩]
   ·rw [if_neg h1,if_neg (by omega)]
  ·rw [if_neg hir]
   simp only
   have hg:=qaD hT.ba (i * ca + c)
   have hgv:toF ((qa5 ca cb rank c a b i).1.getD (i * ca + c) 0) = qX ca cb a b i c:=by
    rw [<- qdH (cb:=cb) (b:=(qa5 ca cb rank c a b i).2) hc,ih i c (by omega) (by omega),if_neg (by omega)]
   have hstep:=fun i' j (hi':i' < r) (hj:j < ca + cb)=>qwL hT (g:=(qa5 ca cb rank c a b i).1.getD (i * ca + c) 0) hg (show i < r by omega) hr hi' hj
   refine ⟨fun i' j hi' hj=>?_,ihs.trans (qsS (i:=i) (p:=rank) (g:=toF ((qa5 ca cb rank c a b i).1.getD (i * ca + c) 0)) (by omega) hr hir (fun j hj=>by rw [hstep i j (by omega) hj,if_pos rfl]) fun a' ha' hne j hj=>by rw [hstep a' j ha' hj,if_neg hne])⟩
   rw [hstep i' j hi' hj]
   by_cases he:i' = i
   ·subst he
    rw [if_pos rfl,hgv,ih i' j hi' hj,if_neg (by omega),ih rank j hr hj,if_neg (by omega),if_pos ⟨by omega,hir⟩]
   ·rw [if_neg he,ih i' j hi' hj]
    by_cases h1:i' < i/\i' ≠ rank
    ·rw [if_pos h1,if_pos ⟨by omega,h1.2⟩]
    ·rw [if_neg h1,if_neg (by omega)]
theorem q0Z {T0:Mat} {c rank:Nat} (h2:Two r ca cb a b) (h:Ech r (ca + cb) T0 (qX ca cb a b) c rank) (hc:c < ca) :
  Two r ca cb (qcE r ca cb c (a,b,rank)).1 (qcE r ca cb c (a,b,rank)).2.1/\Ech r (ca + cb) T0 (qX ca cb (qcE r ca cb c (a,b,rank)).1 (qcE r ca cb c (a,b,rank)).2.1) (c + 1) (qcE r ca cb c (a,b,rank)).2.2:=by
 unfold qcE
 simp only
 by_cases hr:r <= rank
 ·rw [if_pos hr]
  exact ⟨h2,quh h (by omega) fun i (h1:rank <= i) h3=>by omega⟩
 rw [if_neg hr]
 obtain ⟨p1,p2,p3,p4⟩:=qqM a ca c (r - rank) rank
 by_cases hp:qcQ a ca c rank (r - rank) = r
 ·rw [if_pos hp]
  refine ⟨h2,quh h (by omega) fun i (h1:rank <= i) h3=>?_⟩
  rw [qdH hc,p4 i h1 (by omega)]; rfl
 rw [if_neg hp]
 simp only
 generalize hpv:qcQ a ca c rank (r - rank) = p at p1 p2 p3 p4 hp
 have hpr:p < r:=by omega
 have hnz:=p3 (by omega)
 have hmid:qfM r ca cb c (a,b,rank) = qg8 ca cb rank c (qb8 ca cb rank p a b).1 (qb8 ca cb rank p a b).2:=by
  unfold qfM; simp only [hpv]
 -- the pivot's row is added
 have h1:Two r ca cb (qb8 ca cb rank p a b).1 (qb8 ca cb rank p a b).2/\Same r (ca + cb) (qX ca cb a b) (qX ca cb (qb8 ca cb rank p a b).1 (qb8 ca cb rank p a b).2) /\
   qX ca cb (qb8 ca cb rank p a b).1 (qb8 ca cb rank p a b).2 rank c ≠ 0/\(∀ i j,i < r->j < ca + cb->i ≠ rank->qX ca cb (qb8 ca cb rank p a b).1 (qb8 ca cb rank p a b).2 i j = qX ca cb a b i j) /\
   ∀ c',c' < c->qX ca cb (qb8 ca cb rank p a b).1 (qb8 ca cb rank p a b).2 rank c' = 0:=by
  have hpc:qX ca cb a b p c ≠ 0:=by
   rw [qdH hc]
   intro h0
   exact hnz ((qe9 (qaD h2.ba _)).1 h0)
  unfold qb8
  by_cases hpe:p = rank
  ·rw [if_pos hpe]
   exact ⟨h2,Same.refl,by rw [<- hpe]; exact hpc,fun _ _ _ _ _=>rfl,fun c' hc'=>h.low rank (Nat.le_refl _) (by omega) c' hc'⟩
  ·rw [if_neg hpe]
   have hst:=fun i' j (hi':i' < r) (hj:j < ca + cb)=>qwL h2 (g:=1) ⟨by omega,by omega⟩ (show rank < r by omega) hpr hi' hj
   have h1:toF 1 = 1:=rfl
   refine ⟨h2.add,qsS (i:=rank) (p:=p) (g:=toF 1) (by omega) hpr (Ne.symm hpe) (fun j hj=>by simp only; rw [hst rank j (by omega) hj,if_pos rfl]) (fun a' ha' hne j hj=>by simp only; rw [hst a' j ha' hj,if_neg hne]),?_,fun i j hi hj hne=>by simp only; rw [hst i j hi hj,if_neg hne],fun c' hc'=>?_⟩
   ·simp only
    rw [hst rank c (by omega) (by omega),if_pos rfl,h1,qhm]
    rw [qdH hc (i:=rank),p4 rank (Nat.le_refl _) (by omega),qs2,qar]
    exact hpc
   ·simp only
    rw [hst rank c' (by omega) (by omega),if_pos rfl,h1,qhm,h.low rank (Nat.le_refl _) (by omega) c' hc',h.low p (by omega) hpr c' hc',qaf]
 rw [hmid]
 generalize qb8 ca cb rank p a b = s1 at h1
 obtain ⟨t1,same1,nz1,oth1,low1⟩:=h1
 -- it is scaled
 have hgB:=q3y (qaD t1.ba (rank * ca + c))
 have hgv:toF (qf7 (s1.1.getD (rank * ca + c) 0)) = qes (qX ca cb s1.1 s1.2 rank c):=by rw [q3w (qaD t1.ba _),qdH hc]
 have t2:Two r ca cb (qg8 ca cb rank c s1.1 s1.2).1 (qg8 ca cb rank c s1.1 s1.2).2:=t1.scale hgB
 have hsc:∀ i j,i < r->j < ca + cb->qX ca cb (qg8 ca cb rank c s1.1 s1.2).1 (qg8 ca cb rank c s1.1 s1.2).2 i j = if i = rank then qh (qX ca cb s1.1 s1.2 rank j) (qes (qX ca cb s1.1 s1.2 rank c)) else qX ca cb s1.1 s1.2 i j:=fun i j hi hj=>by
  rw [<- hgv]
  exact q0c t1 hgB (by omega) hi hj
 generalize qg8 ca cb rank c s1.1 s1.2 = s2 at t2 hsc
 have same2:Same r (ca + cb) (qX ca cb s1.1 s1.2) (qX ca cb s2.1 s2.2):=q3W (i:=rank) (g:=qes (qX ca cb s1.1 s1.2 rank c)) (by omega) (q5E nz1) (fun j hj=>by rw [hsc rank j (by omega) hj,if_pos rfl]) fun a' ha' hne j hj=>by rw [hsc a' j ha' hj,if_neg hne]
 have one2:qX ca cb s2.1 s2.2 rank c = 1:=by rw [hsc rank c (by omega) (by omega),if_pos rfl,qik nz1]
 have low2:∀ c',c' < c->qX ca cb s2.1 s2.2 rank c' = 0:=fun c' hc'=>by rw [hsc rank c' (by omega) (by omega),if_pos rfl,low1 c' hc',qC]
 have oth2:∀ i j,i < r->j < ca + cb->i ≠ rank->qX ca cb s2.1 s2.2 i j = qX ca cb a b i j:=fun i j hi hj hne=>by rw [hsc i j hi hj,if_neg hne,oth1 i j hi hj hne]
 -- the others are cleared
 obtain ⟨r3,same3⟩:=qtP t2 (rank:=rank) (c:=c) (by omega) hc r (Nat.le_refl _)
 refine ⟨t2.rows r,q3i h (by omega) (by omega) ((same1.trans same2).trans same3) (fun i hi=>?_) fun c' hc' i hi=>?_⟩
 ·rw [r3 i c hi (by omega),one2,qaX]
  by_cases hir:i = rank
  ·rw [if_neg (by omega),hir,one2,del,if_pos rfl]
  ·rw [if_pos ⟨hi,hir⟩,qa3,del,if_neg hir]
 ·rw [r3 i c' hi (by omega),low2 c' hc',q7,qaf]
  by_cases hir:i = rank
  ·rw [if_neg (by omega),hir,low2 c' hc',h.low rank (Nat.le_refl _) (by omega) c' hc']
  ·rw [if_pos ⟨hi,hir⟩,oth2 i c' hi (by omega) hir]
theorem qtS (h:Two r ca cb a b):∀ c,c <= ca->Two r ca cb (qbQ r ca cb a b c).1 (qbQ r ca cb a b c).2.1/\Ech r (ca + cb) (qX ca cb a b) (qX ca cb (qbQ r ca cb a b c).1 (qbQ r ca cb a b c).2.1) c (qbQ r ca cb a b c).2.2
 | 0,_=>⟨h,q1w⟩
 | c + 1,hc=>by
  obtain ⟨h1,h2⟩:=qtS h c (by omega)
  rw [qbQ]
  exact q0Z h1 h2 (by omega)
end Go.Proofs

set_option linter.unusedSimpArgs false
set_option linter.unusedVariables false
namespace Go.Proofs
open Go Go.Eng
theorem q5f {d:qc} (h:qz (bI d)):qB d:=fun row hr=>h (qbG row 0) (List.mem_map.2 ⟨row,hr,rfl⟩)
end Go.Proofs

set_option linter.unusedSimpArgs false
set_option linter.unusedVariables false
namespace Go.Proofs
open Go Go.Eng
set_option maxRecDepth 20000
theorem qvM {k n t s:Int} {o:List Int} (h:o.length = 32):(qaI k n t s o).length = 39:=by simp [qaI,qaB,h]
theorem q4s:idC.ok Tryz.prog:=q74 (by simp [q1b,ql7]) fun ρ hg hp=>by
 obtain ⟨⟨hl,hO,hD⟩,hGr,hGd⟩:=hp
 simp (config:={ maxSteps:=2000000 }) [q3b,idC,qoZ,qdq,qaN,qmN,qix,qbc,gOk,qtO,qyK,qlX]
 refine ⟨⟨by omega,hl,hO,hD⟩,fun l _ c _ d _ hok hl2 hB hd=>?_⟩
 have hd:bI d.d = qaI (ρ 0).i (ρ 1).i (ρ 2).i (ρ 3).i (qf (ρ 4).d 32) ++ (dgs (ρ 8).d).flatten:=hd
 have hb:=hok
 simp [qH,qbl] at hb
 have hlen:=congrArg List.length hd
 rw [List.length_append,qcA q6B,q5p,bI_len,qvM qcZ] at hlen
 refine fun hc=>⟨⟨⟨by omega,by omega,by omega,by omega,hB⟩,hGr,hGd⟩,fun x _ hx=>⟨hok,?_⟩⟩
 have hx:qf x.d 32 = sha (qaI (ρ 0).i (ρ 1).i (ρ 2).i (ρ 3).i (qf (ρ 4).d 32) ++ (dgs (ρ 8).d).flatten):=by
  rw [hx,qcd,hd.symm]
  simp only [Int.toNat_zero,List.drop_zero]
  rw [List.take_of_length_le (by rw [bI_len]; omega)]
 exact hx
end Go.Proofs

set_option linter.unusedSimpArgs false
set_option linter.unusedVariables false
set_option maxRecDepth 100000
namespace Go.Proofs
open Go Go.Eng

def qn9:Out:=(.fresh 18 (.fresh 19 (.pre 0 (sg 0 [bv 9 9,bv 8 8,bv 7 7,bv 6 6,bg 5 5,bv 3 3,bv 2 2,bv 1 1,bv 0 0,bt 4 (r8 4)]) (.both (.fresh 20 (.post 0 0 (sg 0 [bv 9 9,bv 8 8,bv 7 7,bv 6 6,bg 5 5,bv 3 3,bv 2 2,bv 1 1,bv 0 0,bt 4 (r8 4)]) 20 (.br (.cmp .neq (.var 20) (.lit 0))
 (.ret 0 (sg 18 [bv 18 20]))
 (.br (.cmp .lss (.var 10) (.lit 0))
 (.ret 0 (sg 18 [bt 18 (.lit 2)]))
 (.br (.cmp .geq (.var 10) (.var 2))
 (.ret 0 (sg 18 [bt 18 (.lit 2)]))
 (.pre 1 (sg 0 [bv 1 3,bv 0 0]) (.both (.fresh 21 (.fresh 22 (.post 1 0 (sg 0 [bv 1 3,bv 0 0]) 21 (.need (.cmp .leq (.lit 0) (.var 12)) (.br (.cmp .neq (.var 12) (.var 21))
 (.ret 0 (sg 18 [bt 18 (.lit 10)]))
 (.need (.cmp .leq (.lit 0) (.var 10)) (.need (.cmp .lss (.var 10) (.var 6)) (.need (.cmp .lss (.var 10) (.dlen (.var 8))) (.both (.pre 2 (sg 0 [bv 8 17,bv 6 15,bv 5 14,bv 4 13,bv 3 12,bt 2 (.lit 0),bg 1 11,bv 0 10,bg 7 16]) (.both (.fresh 23 (.post 2 0 (sg 0 [bv 8 17,bv 6 15,bv 5 14,bv 4 13,bv 3 12,bt 2 (.lit 0),bg 1 11,bv 0 10,bg 7 16]) 23 (.br (.not (.c2 .req (r8 23) (.rcons (i8 8 10 0) (.rcons (i8 8 10 1) (.rcons (i8 8 10 2) (.rcons (i8 8 10 3) (.rcons (i8 8 10 4) (.rcons (i8 8 10 5) (.rcons (i8 8 10 6) (.rcons (i8 8 10 7) (.rcons (i8 8 10 8) (.rcons (i8 8 10 9) (.rcons (i8 8 10 10) (.rcons (i8 8 10 11) (.rcons (i8 8 10 12) (.rcons (i8 8 10 13) (.rcons (i8 8 10 14) (.rcons (i8 8 10 15) (.rcons (i8 8 10 16) (.rcons (i8 8 10 17) (.rcons (i8 8 10 18) (.rcons (i8 8 10 19) (.rcons (i8 8 10 20) (.rcons (i8 8 10 21) (.rcons (i8 8 10 22) (.rcons (i8 8 10 23) (.rcons (i8 8 10 24) (.rcons (i8 8 10 25) (.rcons (i8 8 10 26) (.rcons (i8 8 10 27) (.rcons (i8 8 10 28) (.rcons (i8 8 10 29) (.rcons (i8 8 10 30) (.rcons (i8 8 10 31) .rnil))))))))))))))))))))))))))))))))))
 (.ret 0 (sg 18 [bt 18 (.lit 20)]))
 (.ret 0 (sg 18 [bt 18 (.lit 0)]))))) .top)) .top))))))))) .top))))))) .top))))
theorem qvl:ql ⟨Tryz.prog,qdy,[qbK,qbo,qbj],[]⟩ 100000 Tryz.f60 = qn9:=by kernel_rfl
theorem q0K (hd:∀ c ∈ ([qbK,qbo,qbj]:List Ctr),c.ok Tryz.prog) (h:∀ ρ:Env,ρ.good->(qdy).pre ρ->qn9.den ⟨Tryz.prog,qdy,[qbK,qbo,qbj],[]⟩ ρ):(qdy).ok Tryz.prog :=
 qe Tryz.func60 (fun a w=>Tryz.call60 a w) hd 100000 (fun ρ hg hp=>by rw [qvl]; exact h ρ hg hp)
end Go.Proofs

set_option linter.unusedSimpArgs false
set_option linter.unusedVariables false
set_option maxRecDepth 100000
namespace Go.Proofs
open Go Go.Eng

end Go.Proofs

set_option linter.unusedSimpArgs false
set_option linter.unusedVariables false
namespace Go.Proofs
open Go Go.Eng
end Go.Proofs

set_option linter.unusedSimpArgs false
set_option linter.unusedVariables false
namespace Go.Proofs
open Go Go.Eng

end Go.Proofs

set_option linter.unusedSimpArgs false
set_option linter.unusedVariables false
namespace Go.Proofs
open Go Go.Eng
set_option maxRecDepth 20000
theorem q1U {k n t s l i:Int} {D:List (List Int)} {m:List Int} (h:qH k n t s l = false):2 = qci k n t s l D i m:=by rw [qci,if_pos h]
theorem qu8 {k n t s l i:Int} {D:List (List Int)} {m:List Int} (h:qH k n t s l = true) (hi:i < 0∨t <= i):2 = qci k n t s l D i m:=by rw [qci,if_neg (by rw [h]; decide),if_pos hi]
theorem q2l {k n t s l i:Int} {D:List (List Int)} {m:List Int} (h:qH k n t s l = true) (h0:0 <= i) (h1:i < t) (hl:(m.length:Int) ≠ qeb k s):10 = qci k n t s l D i m:=by rw [qci,if_neg (by rw [h]; decide),if_neg (by omega),if_pos hl]
theorem q3M {k n t s l i:Int} {D:List (List Int)} {m:List Int} (h:qH k n t s l = true) (h0:0 <= i) (h1:i < t) (hl:(m.length:Int) = qeb k s) (hs:sha (qbZ i ++ m) ≠ D.getD i.toNat []):20 = qci k n t s l D i m:=by rw [qci,if_neg (by rw [h]; decide),if_neg (by omega),if_neg (fun h=>h hl),if_pos hs]
theorem q5N {k n t s l i:Int} {D:List (List Int)} {m:List Int} (h:qH k n t s l = true) (h0:0 <= i) (h1:i < t) (hl:(m.length:Int) = qeb k s) (hs:sha (qbZ i ++ m) = D.getD i.toNat []):0 = qci k n t s l D i m:=by rw [qci,if_neg (by rw [h]; decide),if_neg (by omega),if_neg (fun h=>h hl),if_neg (fun h=>h hs)]
theorem qxt {k n t s l:Int} (h:qH k n t s l = true):¬ qeO k s:=by
 simp [qH,qbl] at h
 unfold qeO; omega
set_option maxHeartbeats 1000000 in
theorem q0s:qdy.ok Tryz.prog:=q0K (by simp [qqU,qoC,qoz]) fun ρ hg hp=>by
 obtain ⟨⟨i0,i3,hl,hD,hpl,hpc,hp1,hB⟩,hGr,hGd⟩:=hp
 simp only [Nat.reduceAdd] at hpl hpc hp1 hB
 simp (config:={ maxSteps:=4000000,contextual:=true }) [qn9,qdy,qpu,qbK,qbo,qbj,qmN,qix,qbc,gOk,hGr,hGd,hB,hD,hl,hpl]
 refine fun u _ hu=>⟨q1U,fun hok=>⟨fun h0=>qu8 hok (.inl h0),fun h0=>⟨fun ht=>qu8 hok (.inr ht),fun ht l _ e _ _ hgood=>?_⟩⟩⟩
 have hlen:=(hgood (qxt hok)).1
 have hml:(bI (ρ 14).d).length = (ρ 14).d.length:=bI_len
 have htl:(ρ 2).i = (ρ 8).d.length:=by simp [qH] at hok; omega
 have hrow:qsl (ρ 8).d (ρ 10).i = (dgs (ρ 8).d).getD (ρ 10).i.toNat []:=q1v h0 (by omega)
 refine ⟨fun hne=>q2l hok h0 ht (by rw [hml,qeb,<- hlen]; exact hne),fun heq=>⟨by omega,⟨by omega,by omega,by omega⟩,fun x _ hx=>?_⟩⟩
 rw [qkm heq.symm,hrow]
 exact ⟨fun hn=>q3M hok h0 ht (by rw [hml,qeb,<- hlen]; exact heq) hn,fun he=>q5N hok h0 ht (by rw [hml,qeb,<- hlen]; exact heq) he⟩
end Go.Proofs

set_option linter.unusedSimpArgs false
set_option linter.unusedVariables false
namespace Go.Proofs
open Go Go.Eng

theorem qsM {k n:Nat} (hk:0 < k):n <= k * qF k n:=by
 unfold qF
 have h1:=Nat.div_add_mod (n + k - 1) k
 have h2:=Nat.mod_lt (n + k - 1) hk
 omega
theorem q1k {n:Nat}:(qa1 n n).length = n * n:=by simp [qa1]
theorem q0U {n i:Nat} (hi:i < n * n):(qa1 n n).getD i 0 = if i / n = i % n then 1 else 0:=by
 have hn:0 < n:=by
  cases n with
  | zero=>simp at hi
  | succ n=>omega
 rw [List.getD_eq_getElem?_getD,qa1,List.getElem?_map,List.getElem?_range hi]
 simp only [Option.map_some,Option.getD_some]
 have:i / n < n:=Nat.div_lt_of_lt_mul hi
 by_cases h:i / n = i % n
 ·rw [if_pos ⟨h,this⟩,if_pos h]
 ·rw [if_neg (fun hh=>h hh.1),if_neg h]
theorem qiz {i n j:Nat} (hj:j < n):(i * n + j) / n = i/\(i * n + j) % n = j:=by
 have hn:0 < n:=by omega
 constructor
 ·rw [Nat.mul_comm,Nat.mul_add_div hn,Nat.div_eq_of_lt hj,Nat.add_zero]
 ·rw [Nat.mul_comm,Nat.mul_add_mod,Nat.mod_eq_of_lt hj]
theorem qv6 {n:Nat}:qz (qa1 n n):=fun x hx=>by
 simp only [qa1,List.mem_map] at hx
 obtain ⟨i,_,rfl⟩:=hx
 split <;> exact ⟨by omega,by omega⟩
theorem qqZ {n i j:Nat} (hi:i < n) (hj:j < n):q6 n (qa1 n n) i j = del i j:=by
 obtain ⟨h1,h2⟩:=qiz (i:=i) hj
 rw [q6,q0U (qfg hi hj),h1,h2,del]
 split <;> rfl
theorem qyk {r c:Nat}:(qbr r c).length = r * c:=by simp [qbr,qcl]
theorem qxR {r c i j:Nat} (hi:i < r) (hj:j < c):(qbr r c).getD (i * c + j) 0 = qgD (i:Int) (j:Int):=by
 obtain ⟨h1,h2⟩:=qiz (i:=i) hj
 have hlt:=qfg hi hj
 rw [List.getD_eq_getElem?_getD,qbr,qcl,List.getElem?_map,List.getElem?_range hlt]
 simp only [Option.map_some,Option.getD_some]
 rw [if_pos hlt,qlT,h1,h2]
def xsF (m:Nat):F:=toF (m:Int)
theorem qnI {r c i j:Nat} (hr:r <= 256) (hi:i < r) (hj:j < c) (hc:c < 9223372036854775808):q6 c (qbr r c) i j = qaF (xsF i) j:=by
 rw [q6,qxR hi hj,q0l ⟨by omega,by omega⟩ (by omega),qiO,Int.toNat_natCast]; rfl
theorem qkO {r c:Nat} (hr:r <= 256) (hc:c < 9223372036854775808):qz (qbr r c):=fun x hx=>by
 simp only [qbr,qcl,List.mem_map,List.mem_range] at hx
 obtain ⟨i,hi,rfl⟩:=hx
 rw [if_pos hi]
 have hc0:0 < c:=by
  cases c with
  | zero=>simp at hi
  | succ c=>omega
 have h1:i / c < r:=Nat.div_lt_of_lt_mul (by rwa [Nat.mul_comm] at hi)
 have h2:=Nat.mod_lt i hc0
 have h3:((i / c:Nat):Int) < 256:=by omega
 exact q2W ⟨Int.natCast_nonneg _,h3⟩ (by omega)
theorem qew {n:Nat} (hn:n <= 256):qbx n xsF:=fun i j hi hj h=>by
 have:=qpA (x:=(i:Int)) (y:=(j:Int)) ⟨by omega,by omega⟩ ⟨by omega,by omega⟩ h
 omega
theorem qy3 {l:List Int} {n:Nat} (h:qz l):qz (l.take n):=fun x hx=>h x (List.mem_of_mem_take hx)
theorem q3J {l:List Int} {n c i j:Nat} (hi:i < n) (hj:j < c):q6 c (l.take (n * c)) i j = q6 c l i j:=by
 have hlt:=qfg hi hj
 rw [q6,q6,List.getD_eq_getElem?_getD,List.getD_eq_getElem?_getD,List.getElem?_take,if_pos hlt]

theorem qhM {ca cb:Nat} {a b:List Int} {i j:Nat}:qX ca cb a b i (ca + j) = q6 cb b i j:=by
 rw [qX,if_neg (by omega),show ca + j - ca = j by omega]
theorem qpK {n:Nat} {a A B:List Int} (h:Ech n (n + n) (qX n n a (qa1 n n)) (qX n n A B) n n) :
  (∀ i j,i < n->j < n->qy (fun l=>qh (q6 n B i l) (q6 n a l j)) n = del i j)/\∀ i j,i < n->j < n->qy (fun l=>qh (q6 n a i l) (q6 n B l j)) n = del i j:=by
 refine ⟨fun i j hi hj=>?_,fun i j hi hj=>?_⟩
 ·obtain ⟨x,hx⟩:=h.same.to i hi
  have hxB:∀ l,l < n->x l = q6 n B i l:=fun l hl=>by
   have h1:=hx (n + l) (by omega)
   rw [qhM,qk fun m hm=>by rw [qhM,qqZ hm hl],qg9 (f:=x) hl] at h1
   exact h1.symm
  have h2:=hx j (by omega)
  rw [qsv h i hi j hj,qk fun m hm=>by rw [hxB m hm,qdH hj]] at h2
  exact h2.symm
 ·obtain ⟨x,hx⟩:=h.same.back i hi
  have hxa:∀ l,l < n->x l = q6 n a i l:=fun l hl=>by
   have h1:=hx l (by omega)
   rw [qdH hl,qk fun m hm=>by rw [qsv h m hm l hl],qg9 (f:=x) hl] at h1
   exact h1.symm
  have h2:=hx (n + j) (by omega)
  rw [qhM,qqZ hi hj,qk fun m hm=>by rw [hxa m hm,qhM]] at h2
  exact h2.symm
theorem q1E {n:Nat} {m:List Int} (hl:m.length = n * n) (hb:qz m):Two n n n m (qa1 n n):=⟨hl,q1k,hb,qv6⟩
theorem qmh {n:Nat} {m:List Int} (hl:m.length = n * n) (hb:qz m):Two n n n (qer m n).1 (qer m n).2.1/\Ech n (n + n) (qX n n m (qa1 n n)) (qX n n (qer m n).1 (qer m n).2.1) n (qer m n).2.2 :=
 qtS (q1E hl hb) n (Nat.le_refl _)
theorem qs1 {n:Nat} {m:List Int} (hl:m.length = n * n) (hb:qz m) (h:∀ y:Nat->F,(∀ i,i < n->qy (fun j=>qh (q6 n m i j) (y j)) n = 0)->∀ j,j < n->y j = 0):(qer m n).2.2 = n:=by
 obtain ⟨_,he⟩:=qmh hl hb
 refine Classical.byContradiction fun hne=>?_
 have hlt:(qer m n).2.2 < n:=by have:=he.le; omega
 obtain ⟨y,⟨c,hc,hyc⟩,hy⟩:=q3T he (by omega) hlt
 exact hyc (h y (fun i hi=>by rw [<- hy i hi]; exact qk fun j hj=>by rw [qdH hj]; rfl) c hc)

theorem qwR {k total:Nat} (h:k <= total):((qbr total k).take (k * k)).length = k * k:=by
 rw [List.length_take,qyk]
 exact Nat.min_eq_left (Nat.mul_le_mul_right k h)
theorem qwN {k total i j:Nat} (hk:k <= total) (ht:total <= 255) (hi:i < k) (hj:j < k):q6 k ((qbr total k).take (k * k)) i j = qaF (xsF i) j:=by
 rw [q3J hi hj,qnI (by omega) (by omega) hj (by omega)]
theorem qrm {k total:Nat} (hk:k <= total) (ht:total <= 255):qz ((qbr total k).take (k * k)):=qy3 (qkO (by omega) (by omega))
theorem q4f {k total:Nat} (hk:k <= total) (ht:total <= 255):(qcn k total).2.2 = k :=
 qs1 (qwR hk) (qrm hk ht) fun y hy=>qoV (qew (by omega)) fun i hi=>by
  rw [<- hy i hi]
  exact qk fun j hj=>by rw [qwN hk ht hi hj]
theorem qwx {k total:Nat} (hk:k <= total) (ht:total <= 255):Two k k k (qcn k total).1 (qcn k total).2.1/\Ech k (k + k) (qX k k ((qbr total k).take (k * k)) (qa1 k k)) (qX k k (qcn k total).1 (qcn k total).2.1) k k:=by
 have h:=qmh (qwR hk) (qrm hk ht)
 have hr:=q4f hk ht
 unfold qcn at hr ⊢
 rw [hr] at h
 exact h

theorem qm0 {a b:List Int} {ra ca cb:Nat} (hb:b.length = ca * cb) (ha:qz a) (hbb:qz b) (hca:0 < ca):∀ t,t <= ra * ca->(qcp a b ra ca cb t).length = ra * cb/\qz (qcp a b ra ca cb t) /\
  ∀ i j,i < ra->j < cb->q6 cb (qcp a b ra ca cb t) i j = qy (fun l=>if i * ca + l < t then qh (q6 ca a i l) (q6 cb b l j) else 0) ca
 | 0,_=>⟨by simp [qcp],fun x hx=>by rw [qcp] at hx; rw [List.eq_of_mem_replicate hx]; exact ⟨by omega,by omega⟩,fun i j hi hj=>by
   rw [qc4 fun l _=>if_neg (by omega),q6,qcp,List.getD_eq_getElem?_getD,List.getElem?_replicate,if_pos (qfg hi hj)]; rfl⟩
 | t + 1,ht=>by
  obtain ⟨h1,h2,h3⟩:=qm0 (ra:=ra) hb ha hbb hca t (by omega)
  have hti:t / ca < ra:=Nat.div_lt_of_lt_mul (by rw [Nat.mul_comm]; omega)
  have htl:=Nat.mod_lt t hca
  have htd:=Nat.div_add_mod t ca
  rw [qcp]
  refine ⟨by rw [qcv,h1],qdE h2,fun i j hi hj=>?_⟩
  have hlt:=qfg hi hj
  have hsl:(seg b (t % ca * cb) cb).length = cb:=qeV (by rw [hb]; exact qnJ htl)
  have hL:q6 cb (qae (qcp a b ra ca cb t) (t / ca * cb) (seg b (t % ca * cb) cb) (a.getD t 0)) i j = if i = t / ca then q6 cb (qcp a b ra ca cb t) i j ^^^ qh (toF (a.getD t 0)) (q6 cb b (t % ca) j) else q6 cb (qcp a b ra ca cb t) i j:=by
   unfold q6
   rw [List.getD_eq_getElem?_getD,qb7,List.getElem?_eq_getElem (by omega),Option.map_some,Option.getD_some,hsl]
   by_cases he:i = t / ca
   ·subst he
    rw [if_pos ⟨by omega,by omega⟩,if_pos rfl,show t / ca * cb + j - t / ca * cb = j by omega]
    have hs:(seg b (t % ca * cb) cb).getD j 0 = b.getD (t % ca * cb + j) 0:=by
     rw [List.getD_eq_getElem?_getD,qfj,if_pos hj,List.getD_eq_getElem?_getD]
    rw [hs,qke,qhj (qaD ha _) (qaD hbb _),List.getD_eq_getElem?_getD (l:=qcp a b ra ca cb t),List.getElem?_eq_getElem (by omega),Option.getD_some]
   ·rw [if_neg (fun h=>he ((qsy hj).1 h)),if_neg he,List.getD_eq_getElem?_getD,List.getElem?_eq_getElem (by omega),Option.getD_some]
  rw [hL,h3 i j hi hj]
  by_cases he:i = t / ca
  ·have hit:i * ca + t % ca = t:=by rw [he,Nat.mul_comm]; exact htd
   rw [if_pos he]
   have hat:toF (a.getD t 0) = q6 ca a i (t % ca):=by rw [q6,hit]
   have h4:qh (toF (a.getD t 0)) (q6 cb b (t % ca) j) = qy (fun l=>if l = t % ca then qh (q6 ca a i l) (q6 cb b l j) else 0) ca:=by
    rw [qh1 htl fun l _ hl=>if_neg hl,if_pos rfl,hat]
   rw [h4,<- qfN]
   refine qk fun l hl=>?_
   by_cases hlt:l = t % ca
   ·subst hlt; rw [if_neg (by omega),if_pos rfl,if_pos (by omega),qar]
   ·rw [if_neg hlt,qaf]
    by_cases h5:i * ca + l < t
    ·rw [if_pos h5,if_pos (by omega)]
    ·rw [if_neg h5,if_neg (by omega)]
  ·rw [if_neg he]
   refine qk fun l hl=>?_
   have hne:i * ca + l ≠ t:=fun h=>he (by rw [<- h]; exact (qiz hl).1.symm)
   by_cases h5:i * ca + l < t
   ·rw [if_pos h5,if_pos (by omega)]
   ·rw [if_neg h5,if_neg (by omega)]
theorem qzy {a b:List Int} {ra ca cb:Nat} (hb:b.length = ca * cb) (ha:qz a) (hbb:qz b) (hca:0 < ca):(qlV a b ra ca cb).length = ra * cb/\qz (qlV a b ra ca cb) /\
  ∀ i j,i < ra->j < cb->q6 cb (qlV a b ra ca cb) i j = qy (fun l=>qh (q6 ca a i l) (q6 cb b l j)) ca:=by
 obtain ⟨h1,h2,h3⟩:=qm0 (ra:=ra) hb ha hbb hca (ra * ca) (Nat.le_refl _)
 refine ⟨h1,h2,fun i j hi hj=>?_⟩
 rw [qlV,h3 i j hi hj]
 exact qk fun l hl=>if_pos (qfg hi hl)

theorem qff {k total:Nat} (h1:1 <= k) (hk:k <= total) (ht:total <= 255):(qcP k total).length = total * k/\qz (qcP k total) /\
  (∀ i j,i < total->j < k->q6 k (qcP k total) i j = qy (fun l=>qh (qaF (xsF i) l) (q6 k (qcn k total).2.1 l j)) k) /\
  ∀ i j,i < total->j < k->q6 k (qcP k total) i j = qfB k xsF (xsF i) j:=by
 obtain ⟨t2,he⟩:=qwx hk ht
 obtain ⟨p1,p2,p3⟩:=qzy (ra:=total) t2.lb (qkO (r:=total) (c:=k) (by omega) (by omega)) t2.bb (by omega)
 have hg:∀ i j,i < total->j < k->q6 k (qcP k total) i j = qy (fun l=>qh (qaF (xsF i) l) (q6 k (qcn k total).2.1 l j)) k:=fun i j hi hj=>by
  rw [qcP,p3 i j hi hj]
  exact qk fun l hl=>by rw [qnI (by omega) hi hl (by omega)]
 refine ⟨p1,p2,hg,fun i j hi hj=>?_⟩
 obtain ⟨_,m2⟩:=qpK he
 have hp:∀ x,qA k (fun l=>q6 k (qcn k total).2.1 l j) x = qy (fun l=>qh (qaF x l) (q6 k (qcn k total).2.1 l j)) k:=fun x=>qk fun l _=>qag
 rw [hg i j hi hj,<- hp,qj9 (qew (n:=k) (by omega))]
 rw [qk (g:=fun m=>qh (qfB k xsF (xsF i) m) (del m j)) fun m hm=>?_,qg9 hj]
 rw [hp,<- m2 m j hm hj]
 congr 1
 exact qk fun l hl=>by rw [qwN hk ht hm hl]
theorem ql1 {g full:List Int} {k l i:Nat} (hg:qz g) (hf:qz full) (hl:full.length = k * l):∀ j,j <= k->(qcb g full k l i j).length = l/\qz (qcb g full k l i j) /\
  ∀ c,c < l->toF ((qcb g full k l i j).getD c 0) = qy (fun m=>qh (q6 k g i m) (toF (full.getD (m * l + c) 0))) j
 | 0,_=>⟨by simp [qcb],fun x hx=>by rw [qcb] at hx; rw [List.eq_of_mem_replicate hx]; exact ⟨by omega,by omega⟩,fun c hc=>by
   rw [qcb,List.getD_eq_getElem?_getD,List.getElem?_replicate,if_pos hc]; rfl⟩
 | j + 1,hj=>by
  obtain ⟨h1,h2,h3⟩:=ql1 hg hf hl (i:=i) j (by omega)
  have hsl:(seg full (j * l) l).length = l:=qeV (by rw [hl]; exact qnJ (by omega))
  rw [qcb]
  refine ⟨by rw [qcv,h1],qdE h2,fun c hc=>?_⟩
  rw [List.getD_eq_getElem?_getD,qb7,List.getElem?_eq_getElem (by omega),Option.map_some,Option.getD_some,hsl,if_pos ⟨by omega,by omega⟩,Nat.sub_zero]
  have hs:(seg full (j * l) l).getD c 0 = full.getD (j * l + c) 0:=by
   rw [List.getD_eq_getElem?_getD,qfj,if_pos hc,List.getD_eq_getElem?_getD]
  rw [hs,qke,qhj (qaD hg _) (qaD hf _),qy,<- h3 c hc,List.getD_eq_getElem?_getD (l:=qcb g full k l i j),List.getElem?_eq_getElem (by omega),Option.getD_some]
  rfl
theorem qze {data:List Int} {n:Nat} (hb:qz data) (hn:data.length <= n):(qhH data n).length = n/\qz (qhH data n):=by
 refine ⟨by simp [qhH]; omega,fun x hx=>?_⟩
 rcases List.mem_append.1 hx with hx | hx
 ·exact hb x hx
 ·rw [List.eq_of_mem_replicate hx]; exact ⟨by omega,by omega⟩
theorem q2w {data:List Int} {n i:Nat}:(qhH data n).getD i 0 = data.getD i 0:=by
 rw [List.getD_eq_getElem?_getD,List.getD_eq_getElem?_getD,qhH]
 by_cases h:i < data.length
 ·rw [List.getElem?_append_left h]
 ·rw [List.getElem?_append_right (by omega),List.getElem?_eq_none (l:=data) (by omega),List.getElem?_replicate]
  split <;> rfl
theorem q0e {k total:Nat} {data:List Int} (h1:1 <= k) (hk:k <= total) (ht:total <= 255) (hb:qz data) (i:Nat):(qd2 k total data i).length = qF k data.length/\qz (qd2 k total data i) /\
  ∀ c,c < qF k data.length->toF ((qd2 k total data i).getD c 0) = qy (fun m=>qh (q6 k (qcP k total) i m) (toF (data.getD (m * qF k data.length + c) 0))) k:=by
 obtain ⟨g1,g2,_,_⟩:=qff h1 hk ht
 obtain ⟨f1,f2⟩:=qze hb (n:=k * qF k data.length) (qsM (by omega))
 obtain ⟨p1,p2,p3⟩:=ql1 (i:=i) g2 f2 f1 k (Nat.le_refl _)
 refine ⟨p1,p2,fun c hc=>?_⟩
 rw [qd2,p3 c hc]
 exact qk fun m _=>by rw [q2w]
end Go.Proofs

set_option linter.unusedSimpArgs false
set_option linter.unusedVariables false
namespace Go.Eng
open Go
end Go.Eng
namespace Go.Proofs
open Go Go.Eng
theorem qrP {a b:List Int} (hl:a.length = b.length) (h:∀ i,i < a.length->a.getD i 0 = b.getD i 0):a = b:=by
 apply List.ext_getElem hl
 intro i h1 h2
 have:=h i h1
 rwa [List.getD_eq_getElem?_getD,List.getElem?_eq_getElem h1,List.getD_eq_getElem?_getD,List.getElem?_eq_getElem h2] at this
end Go.Proofs

set_option linter.unusedSimpArgs false
set_option linter.unusedVariables false
namespace Go.Eng
open Go Go.Proofs

def qfH (m:List Int) (cols:Nat) (rs:List Int):List Int:=rs.flatMap fun r=>seg m (r.toNat * cols) cols
def qlz (xs:List Int) (x:Int):List Int:=(List.range xs.length).map fun i=>ofF (qfB xs.length (fun m=>toF (xs.getD m 0)) (toF x) i)
end Go.Eng

set_option linter.unusedSimpArgs false
set_option linter.unusedVariables false
set_option maxRecDepth 100000
namespace Go.Proofs
open Go Go.Eng

end Go.Proofs

set_option linter.unusedSimpArgs false
set_option linter.unusedVariables false
namespace Go.Proofs
open Go Go.Eng

end Go.Proofs

set_option linter.unusedSimpArgs false
set_option linter.unusedVariables false
namespace Go.Proofs
open Go Go.Eng
theorem qu0 {m:List Int} {c r:Nat} (hm:r * c <= m.length):∀ {rs:List Int},(∀ x ∈ rs,0 <= x/\x < (r:Int))->(qfH m c rs).length = rs.length * c
 | [],_=>by simp [qfH]
 | x :: rs,h=>by
  have ih:=qu0 hm (rs:=rs) fun y hy=>h y (List.mem_cons_of_mem _ hy)
  have hx:=h x (List.mem_cons_self ..)
  have:=qnJ (ca:=c) (show x.toNat < r by omega)
  rw [qfH,List.flatMap_cons,List.length_append,qeV (by omega),show (rs.flatMap fun r=>seg m (r.toNat * c) c) = qfH m c rs from rfl,ih,List.length_cons,Nat.add_mul]; omega
theorem qsD {l:List Int} {n:Nat} (h:n < l.length):l.getD n 0 ∈ l:=by
 rw [List.getD_eq_getElem?_getD,List.getElem?_eq_getElem h]; exact List.getElem_mem h
end Go.Proofs

set_option linter.unusedSimpArgs false
set_option linter.unusedVariables false
namespace Go.Eng
open Go Go.Proofs
def qco (k total:Nat) (rs:List Int):Prop:=rs.length = k/\rs.Nodup/\∀ x ∈ rs,0 <= x/\x < (total:Int)
end Go.Eng
namespace Go.Proofs
open Go Go.Eng

theorem qtc {i j:Nat}:del i j = del j i:=by
 unfold del
 by_cases hij:i = j
 ·rw [if_pos hij,if_pos hij.symm]
 ·rw [if_neg hij,if_neg (Ne.symm hij)]
theorem qqn {m:List Int} {k R:Nat} (hm:m.length = R * k):∀ {rs:List Int},(∀ x ∈ rs,0 <= x/\x < (R:Int))->∀ {i j:Nat},i < rs.length->j < k->(qfH m k rs).getD (i * k + j) 0 = m.getD ((rs.getD i 0).toNat * k + j) 0
 | [],_,i,j,hi,_=>by simp at hi
 | x :: rs,h,i,j,hi,hj=>by
  have hx:=h x (List.mem_cons_self ..)
  have hxk:x.toNat * k + k <= R * k:=by
   have h1:x.toNat + 1 <= R:=by omega
   have:=Nat.mul_le_mul_right k h1
   rw [Nat.add_mul] at this; omega
  have hsl:(seg m (x.toNat * k) k).length = k:=by rw [seg,List.length_take,List.length_drop]; omega
  rw [qfH,List.flatMap_cons]
  cases i with
  | zero =>
   rw [Nat.zero_mul,Nat.zero_add,List.getD_eq_getElem?_getD,List.getElem?_append_left (by rw [hsl]; exact hj),seg,List.getElem?_take,if_pos hj,List.getElem?_drop,<- List.getD_eq_getElem?_getD]
   rfl
  | succ i =>
   have ih:=qqn hm (rs:=rs) (fun y hy=>h y (List.mem_cons_of_mem _ hy)) (i:=i) (j:=j) (by simpa using hi) hj
   rw [List.getD_eq_getElem?_getD,List.getElem?_append_right (by rw [hsl,Nat.add_mul]; omega),hsl,show (i + 1) * k + j - k = i * k + j by rw [Nat.add_mul]; omega,<- List.getD_eq_getElem?_getD]
   exact ih
theorem qlE {m:List Int} {k:Nat} {rs:List Int} (h:qz m):qz (qfH m k rs):=fun x hx=>by
 rw [qfH,List.mem_flatMap] at hx
 obtain ⟨r,_,hx⟩:=hx
 exact h x (List.mem_of_mem_drop (List.mem_of_mem_take hx))
theorem qhO {k total:Nat} {rs:List Int} (h:qco k total rs) (ht:total <= 255):qbx k fun i=>xsF (rs.getD i 0).toNat:=by
 obtain ⟨h1,h2,h3⟩:=h
 intro i j hi hj he
 have gi:rs.getD i 0 = rs[i]'(by omega):=by rw [List.getD_eq_getElem?_getD,List.getElem?_eq_getElem (by omega)]; rfl
 have gj:rs.getD j 0 = rs[j]'(by omega):=by rw [List.getD_eq_getElem?_getD,List.getElem?_eq_getElem (by omega)]; rfl
 have mi:=h3 _ (List.getElem_mem (l:=rs) (n:=i) (by omega))
 have mj:=h3 _ (List.getElem_mem (l:=rs) (n:=j) (by omega))
 simp only [gi,gj] at he
 have:=qew (n:=256) (Nat.le_refl _) _ _ (by omega) (by omega) he
 exact (List.getElem_inj (h₀:=by omega) (h₁:=by omega) h2).1 (by omega)
theorem qny {m:List Int} {k total:Nat} {rs:List Int} (h:qco k total rs) (hm:m.length = total * k):(qfH m k rs).length = k * k:=by
 rw [qu0 (r:=total) (by omega) h.2.2,h.1]
theorem q4Q {k total:Nat} {rs:List Int} (h:qco k total rs) (h1:1 <= k) (hk:k <= total) (ht:total <= 255) {y:Nat->F}
  (hy:∀ i,i < k->qy (fun j=>qh (q6 k (qcP k total) (rs.getD i 0).toNat j) (y j)) k = 0):∀ j,j < k->y j = 0:=by
 obtain ⟨g1,g2,g3,_⟩:=qff h1 hk ht
 obtain ⟨t2,he⟩:=qwx hk ht
 obtain ⟨_,m2⟩:=qpK he
 have hz:∀ l,l < k->qy (fun j=>qh (q6 k (qcn k total).2.1 l j) (y j)) k = 0:=qoV (qhO h ht) fun i hi=>by
  rw [<- hy i hi]
  have hx:=h.2.2 (rs.getD i 0) (by rw [List.getD_eq_getElem?_getD,List.getElem?_eq_getElem (by rw [h.1]; exact hi)]; exact List.getElem_mem _)
  have e2:qy (fun j=>qh (q6 k (qcP k total) (rs.getD i 0).toNat j) (y j)) k = qy (fun j=>qy (fun l=>qh (qh (qaF (xsF (rs.getD i 0).toNat) l) (q6 k (qcn k total).2.1 l j)) (y j)) k) k:=qk fun j hj=>by rw [g3 _ j (by omega) hj,qdY]
  rw [e2,qfb]
  refine qk fun l hl=>?_
  rw [<- qcW]
  exact qk fun j hj=>by rw [qN]
 intro j hj
 have e1:y j = qy (fun i=>qh (y i) (del i j)) k:=(qg9 (f:=y) hj).symm
 rw [e1,qk (g:=fun i=>qy (fun l=>qh (q6 k ((qbr total k).take (k * k)) j l) (qh (q6 k (qcn k total).2.1 l i) (y i))) k) fun i hi=>?_,qfb]
 ·refine qc4 fun l hl=>?_
  rw [qcW,hz l hl,q7]
 ·have:=m2 j i hj hi
  rw [show del i j = del j i from qtc,<- this,qag,<- qdY]
  exact qk fun l hl=>by rw [qN]
theorem q3L {k total:Nat} {rs:List Int} (h:qco k total rs) (h1:1 <= k) (hk:k <= total) (ht:total <= 255):(qer (qfH (qcP k total) k rs) k).2.2 = k:=by
 obtain ⟨g1,g2,_,_⟩:=qff h1 hk ht
 refine qs1 (qny h g1) (qlE g2) fun y hy=>q4Q h h1 hk ht fun i hi=>?_
 rw [<- hy i hi]
 refine qk fun j hj=>?_
 rw [q6,q6,qqn g1 h.2.2 (by rw [h.1]; exact hi) hj]

end Go.Proofs

set_option linter.unusedSimpArgs false
set_option linter.unusedVariables false
namespace Go.Eng
open Go Go.Proofs
end Go.Eng
namespace Go.Proofs
open Go Go.Eng
theorem q6x {h:Hp} {D:qc} {n:Nat} {f:Nat->List Int} (he:qfp h D n f):qpx h D n/\∀ j,j < n->pcI D j = j/\pcD h D j = f j:=by
 refine ⟨fun j hj=>?_,fun j hj=>?_⟩
 ·obtain ⟨v,d,e,hr,_,hb⟩:=he j hj
  exact ⟨_,v,d,e,hr,hb⟩
 ·obtain ⟨v,d,e,hr,hf,hb⟩:=he j hj
  refine ⟨by simp [pcI,qg,qao,e,qah],?_⟩
  rw [pcD,show qao D (j:Int) 1 = v by simp [qao,e],qiK hr,hf]
end Go.Proofs

set_option linter.unusedSimpArgs false
set_option linter.unusedVariables false
namespace Go.Eng
open Go Go.Proofs

def qus (n:Nat):List Int:=(List.range n).map fun (m:Nat)=>(m:Int)
end Go.Eng

set_option linter.unusedSimpArgs false
set_option linter.unusedVariables false
namespace Go.Eng
open Go Go.Proofs

def qct (f:Nat->List Int) (w:List Int) (l:Nat):Nat->List Int
 | 0=>List.replicate l 0
 | j + 1=>qae (qct f w l j) 0 (seg (f j) 0 l) (w.getD j 0)
end Go.Eng

set_option linter.unusedSimpArgs false
set_option linter.unusedVariables false
namespace Go.Eng
open Go Go.Proofs
end Go.Eng

set_option linter.unusedSimpArgs false
set_option linter.unusedVariables false
set_option maxRecDepth 100000
namespace Go.Proofs
open Go Go.Eng

end Go.Proofs

set_option linter.unusedSimpArgs false
set_option linter.unusedVariables false
namespace Go.Eng
open Go Go.Proofs

end Go.Eng

set_option linter.unusedSimpArgs false
set_option linter.unusedVariables false
namespace Go.Proofs
open Go Go.Eng

theorem quZ {f:Nat->List Int} {w:List Int} {l:Nat}:∀ j,(qct f w l j).length = l
 | 0=>by simp [qct]
 | j + 1=>by rw [qct,qcv,quZ j]
end Go.Proofs

set_option linter.unusedSimpArgs false
set_option linter.unusedVariables false
set_option maxRecDepth 100000
namespace Go.Proofs
open Go Go.Eng

end Go.Proofs

set_option linter.unusedSimpArgs false
set_option linter.unusedVariables false
namespace Go.Proofs
open Go Go.Eng
theorem qvq {n:Nat}:(qus n).Nodup:=List.pairwise_map.2 (List.nodup_range.imp fun h e=>h (by omega))
theorem q1M {n:Nat} {x:Int} (h:x ∈ qus n):0 <= x/\x < n:=by
 obtain ⟨m,hm,rfl⟩:=List.mem_map.1 h
 have:=List.mem_range.1 hm
 omega
theorem qdV {o l:List Int} {n k:Nat} (h:(o ++ l).Perm (qus n)) (hk:o.length = k):o.length = k/\o.Nodup/\∀ x ∈ o,0 <= x/\x < (n:Int) :=
 ⟨hk,(List.nodup_append.1 (h.nodup_iff.2 qvq)).1,fun x hx=>q1M (h.mem_iff.1 (List.mem_append_left _ hx))⟩
end Go.Proofs

set_option linter.unusedSimpArgs false
set_option linter.unusedVariables false
namespace Go.Proofs
open Go Go.Eng
end Go.Proofs

set_option linter.unusedSimpArgs false
set_option linter.unusedVariables false
namespace Go.Proofs
open Go Go.Eng
set_option maxRecDepth 20000
end Go.Proofs

set_option linter.unusedSimpArgs false
set_option linter.unusedVariables false
namespace Go.Eng
open Go Go.Proofs
def blk:Value->Option Nat
 | .slice (some a) _ _=>some a.block
 | _=>none
def q6N (h:Hp) (vs:Nat->Value) (n:Nat) (M:Nat->List Int):Prop :=
 (∀ j,j < n->∃ d,Rd h kB (vs j) d/\bI d = M j/\qB d)/\∀ i j,i < n->j < n->i ≠ j->M i ≠ []->M j ≠ []->blk (vs i) ≠ blk (vs j)
end Go.Eng
namespace Go.Proofs
open Go Go.Eng
theorem q6n {h:Hp} {vs:Nat->Value} {n j:Nat} {M:Nat->List Int} (ht:q6N h vs n M) (hj:j < n):∃ d,Rd h kB (vs j) d/\bI d = M j/\qB d:=ht.1 j hj
end Go.Proofs

set_option linter.unusedSimpArgs false
set_option linter.unusedVariables false
namespace Go.Eng
open Go Go.Proofs
def tvs (D:qc):Nat->Value:=fun j=>qao D j 0
end Go.Eng

set_option linter.unusedSimpArgs false
set_option linter.unusedVariables false
namespace Go.Eng
open Go Go.Proofs
noncomputable def pcN (h:Hp) (D:qc) (j:Nat):Nat:=(pcD h D j).length
def rdB (h:Hp) (v:Value):Prop:=∃ d,Rd h kB v d/\qB d
noncomputable def qgH (D:qc) (k:Nat):List Int:=(List.range k).map (pcI D)
noncomputable def qkH (h:Hp) (D:qc):Nat->List Int:=fun j=>rdL h (tvs D j)
noncomputable def q7s (h:Hp) (D:qc) (k:Nat) (x:Int):List Int:=qct (pcD h D) (qlz (qgH D k) x) (pcN h D 0) k
def qnA (total k:Nat) (rs:List Int):List Int:=(qer (qfH (qcP k total) k rs) k).2.1
noncomputable def qxN (h:Hp) (D:qc) (total k:Nat) (i:Nat):List Int:=qct (pcD h D) (seg (qnA total k (qgH D k)) (i * k) k) (pcN h D 0) k
def q6K (h:Hp) (D:qc) (k total n:Int):Prop:=qaA k total = true/\k <= n/\n <= 17592186043904/\qpx h D n.toNat/\qco k.toNat total.toNat (qgH D k.toNat)/\pcN h D 0 <= 8192/\∀ j,j < k.toNat->pcN h D j = pcN h D 0
end Go.Eng

set_option linter.unusedSimpArgs false
set_option linter.unusedVariables false
namespace Go.Eng
open Go Go.Proofs
end Go.Eng

set_option linter.unusedSimpArgs false
set_option linter.unusedVariables false
namespace Go.Eng
open Go Go.Proofs
noncomputable def plI (k size:Int):Int:=(qF k.toNat size.toNat:Int)
end Go.Eng

set_option linter.unusedSimpArgs false
set_option linter.unusedVariables false
namespace Go.Eng
open Go Go.Proofs
def q4n (r:Nat):SV:=.agg (qix r (r + 1) (r + 2) (r + 3) (r + 4) (r + 5) (r + 6) (r + 7))
end Go.Eng

set_option linter.unusedSimpArgs false
set_option linter.unusedVariables false
namespace Go.Proofs
open Go Go.Eng
section
variable {M:Bool} {C:Int->Prop} {x t:Int} {D O:List Int}
end
end Go.Proofs

set_option linter.unusedSimpArgs false
set_option linter.unusedVariables false
namespace Go.Proofs
open Go Go.Eng
variable {rows wide c rank:Nat} {T0:Mat} {M:Nat->List Int}
end Go.Proofs

set_option linter.unusedSimpArgs false
set_option linter.unusedVariables false
namespace Go.Proofs
open Go Go.Eng
end Go.Proofs

set_option linter.unusedSimpArgs false
set_option linter.unusedVariables false
set_option maxRecDepth 100000
namespace Go.Proofs
open Go Go.Eng

end Go.Proofs

set_option linter.unusedSimpArgs false
set_option linter.unusedVariables false
namespace Go.Proofs
open Go Go.Eng
variable {k total len e e':Int} {n i:Nat} {I I':Nat->Int} {L L':Nat->Nat}
end Go.Proofs

set_option linter.unusedSimpArgs false
set_option linter.unusedVariables false
namespace Go.Proofs
open Go Go.Eng
set_option maxRecDepth 100000
end Go.Proofs

set_option linter.unusedSimpArgs false
set_option linter.unusedVariables false
namespace Go.Proofs
open Go Go.Eng
def byF (r:F) (y:Nat->F):Nat->F:=fun l=>(if l = 0 then 0 else y (l - 1)) ^^^ qh r (y l)
theorem qki {y:Nat->F} {x:F}:qA 1 y x = y 0:=by
 show (0:F) ^^^ qh (y 0) (qaF x 0) = y 0
 rw [qar,show qaF x 0 = 1 from rfl,qaX]
theorem qu6 {r x:F} {y:Nat->F}:∀ n,qA (n + 1) (byF r y) x = qh (x ^^^ r) (qA n y x) ^^^ qh (qh r (y n)) (qaF x n)
 | 0=>by rw [qki,byF,if_pos rfl,qar,show qA 0 y x = 0 from rfl,q7,qar,show qaF x 0 = 1 from rfl,qaX]
 | n + 1=>by
  have ih:=qu6 (r:=r) (x:=x) (y:=y) n
  have h1:qA (n + 2) (byF r y) x = qA (n + 1) (byF r y) x ^^^ qh (byF r y (n + 1)) (qaF x (n + 1)):=rfl
  have h2:qA (n + 1) y x = qA n y x ^^^ qh (y n) (qaF x n):=rfl
  rw [h1,ih,h2,byF,if_neg (by omega),Nat.add_sub_cancel,qhC,qck (x:=y n)]
  have h3:qh (x ^^^ r) (qh (y n) (qaF x n)) = qh (y n) (qaF x (n + 1)) ^^^ qh (qh r (y n)) (qaF x n):=by
   rw [qck,qaF]
   congr 1
   ·rw [<- qN,qag (x:=x),qN]
    try rw [qag (x:=x)]
   ·rw [qN]
  rw [h3]
  generalize qh (x ^^^ r) (qA n y x) = a
  generalize qh (qh r (y n)) (qaF x n) = b
  generalize qh (y n) (qaF x (n + 1)) = c
  generalize qh (qh r (y (n + 1))) (qaF x (n + 1)) = d
  rw [BitVec.xor_assoc,BitVec.xor_assoc,BitVec.xor_assoc]
  congr 1
  rw [<- BitVec.xor_assoc,<- BitVec.xor_assoc,BitVec.xor_comm b c]
theorem qpq {r x:F} {y:Nat->F} {n:Nat} (h:y n = 0):qA (n + 1) (byF r y) x = qh (x ^^^ r) (qA n y x):=by
 rw [qu6,h,q7,qC,qaf]
theorem qr2 {y:Nat->F} {x:F} {n:Nat} (h:∀ l,n <= l->y l = 0):∀ m,qA (n + m) y x = qA n y x
 | 0=>rfl
 | m + 1=>by
  show qA (n + m) y x ^^^ qh (y (n + m)) (qaF x (n + m)) = _
  rw [qr2 h m,h _ (by omega),qC,qaf]
theorem qnk {y z:Nat->F} {x:F} {n:Nat}:qA n (fun l=>y l ^^^ z l) x = qA n y x ^^^ qA n z x:=by
 simp only [qA]
 rw [<- qfN]
 exact qk fun j _=>qck
theorem qtI {y:Nat->F} {x c:F} {n:Nat}:qA n (fun l=>qh c (y l)) x = qh c (qA n y x):=by
 simp only [qA]
 rw [<- qcW]
 exact qk fun j _=>qN
def ddF (xs ys:Nat->F):Nat->Nat->F
 | s,0=>ys s
 | s,j + 1=>qh (ddF xs ys (s + 1) j ^^^ ddF xs ys s j) (qes (xs (s + j + 1) ^^^ xs s))
theorem qgY {n:Nat} {xs ys:Nat->F} (hd:qbx n xs):∀ j s,s + j < n->∃ y:Nat->F,(∀ l,j < l->y l = 0)/\(∀ i,i <= j->qA (j + 1) y (xs (s + i)) = ys (s + i))/\y j = ddF xs ys s j
 | 0,s,hs=>⟨fun l=>if l = 0 then ys s else 0,fun l hl=>if_neg (by omega),fun i hi=>by
   obtain rfl:i = 0:=by omega
   rw [qki,if_pos rfl,Nat.add_zero],rfl⟩
 | j + 1,s,hs=>by
  obtain ⟨y1,a1,b1,c1⟩:=qgY (ys:=ys) hd j (s + 1) (by omega)
  obtain ⟨y0,a0,b0,c0⟩:=qgY (ys:=ys) hd j s (by omega)
  have hne:xs (s + j + 1) ^^^ xs s ≠ 0:=fun h=>by have:=hd _ _ (by omega) (by omega) (qeD.1 h); omega
  let w:F:=qes (xs (s + j + 1) ^^^ xs s)
  have hv:∀ x,qA (j + 2) (fun l=>qh w (byF (xs s) y1 l ^^^ byF (xs (s + j + 1)) y0 l)) x = qh w (qh (x ^^^ xs s) (qA (j + 1) y1 x) ^^^ qh (x ^^^ xs (s + j + 1)) (qA (j + 1) y0 x)):=fun x=>by
   rw [qtI,qnk,qpq (a1 _ (by omega)),qpq (a0 _ (by omega))]
  refine ⟨fun l=>qh w (byF (xs s) y1 l ^^^ byF (xs (s + j + 1)) y0 l),fun l hl=>?_,fun i hi=>?_,?_⟩
  ·simp only [byF]
   rw [if_neg (by omega),if_neg (by omega),a1 l (by omega),a0 l (by omega),a1 (l - 1) (by omega),a0 (l - 1) (by omega),q7,q7,qa3,q7]
  ·rw [hv]
   have hw:∀ z,qh w (qh (xs (s + j + 1) ^^^ xs s) z) = z:=fun z=>by
    rw [<- qN,qag (x:=w),qik hne,qhm]
   by_cases h0:i = 0
   ·subst h0
    have hb0:=b0 0 (by omega)
    simp only [Nat.add_zero] at hb0
    rw [Nat.add_zero,qa3,qC,qar,hb0,BitVec.xor_comm,hw]
   ·by_cases h1:i = j + 1
    ·subst h1
     have:=b1 j (Nat.le_refl _)
     rw [show s + 1 + j = s + (j + 1) by omega] at this
     rw [this,<- Nat.add_assoc,qa3,qC,qaf,hw]
    ·have h2:=b1 (i - 1) (by omega)
     rw [show s + 1 + (i - 1) = s + i by omega] at h2
     rw [h2,b0 i (by omega),<- qck,qnr,qa3,qar,BitVec.xor_comm,hw]
  ·simp only [byF]
   rw [if_neg (by omega),if_neg (by omega),a1 (j + 1) (by omega),a0 (j + 1) (by omega),q7,q7,qaf,qaf,Nat.add_sub_cancel,c1,c0,qag]
   rfl
def qkv (xs:Nat->F):Nat->Nat->F
 | 0=>fun l=>if l = 0 then 1 else 0
 | m + 1=>byF (xs m) (qkv xs m)
theorem qry {xs:Nat->F}:∀ m,(∀ l,m < l->qkv xs m l = 0)/\qkv xs m m = 1/\∀ x,qA (m + 1) (qkv xs m) x = qcJ (fun u=>x ^^^ xs u) m
 | 0=>⟨fun l hl=>if_neg (by omega),rfl,fun x=>by rw [qki]; rfl⟩
 | m + 1=>by
  obtain ⟨h1,h2,h3⟩:=qry (xs:=xs) m
  refine ⟨fun l hl=>?_,?_,fun x=>?_⟩
  ·simp only [qkv,byF]
   rw [if_neg (by omega),h1 (l - 1) (by omega),h1 l (by omega),q7,qaf]
  ·simp only [qkv,byF]
   rw [if_neg (by omega),Nat.add_sub_cancel,h2,h1 (m + 1) (by omega),q7,qaf]
  ·rw [qkv,qpq (h1 _ (by omega)),h3,qcJ,qag]
def qy1 (xs ys:Nat->F) (x:F) (m:Nat):F:=qy (fun t=>qh (ddF xs ys 0 t) (qcJ (fun u=>x ^^^ xs u) t)) m
theorem qr6 {n:Nat} {xs ys:Nat->F} (hd:qbx n xs):∀ m,m < n->∃ y:Nat->F,(∀ l,m < l->y l = 0)/\(∀ i,i <= m->qA (m + 1) y (xs i) = ys i)/\∀ x,qA (m + 1) y x = qy1 xs ys x (m + 1)
 | 0,hm=>by
  obtain ⟨y,a,b,c⟩:=qgY (ys:=ys) hd 0 0 (by omega)
  refine ⟨y,a,fun i hi=>by have:=b i hi; simp only [Nat.zero_add] at this ⊢; exact this,fun x=>?_⟩
  rw [qki,c]
  show ys 0 = (0:F) ^^^ qh (ys 0) 1
  rw [qar,qaX]
 | m + 1,hm=>by
  obtain ⟨y0,a0,b0,c0⟩:=qr6 (ys:=ys) hd m (by omega)
  obtain ⟨y,a,b,c⟩:=qgY (ys:=ys) hd (m + 1) 0 (by omega)
  obtain ⟨p1,p2,p3⟩:=qry (xs:=xs) (m + 1)
  refine ⟨y,a,fun i hi=>by have:=b i hi; rwa [Nat.zero_add] at this,fun x=>?_⟩
  let R:Nat->F:=fun l=>(y l ^^^ y0 l) ^^^ qh (ddF xs ys 0 (m + 1)) (qkv xs (m + 1) l)
  have hRv:∀ x,qA (m + 2) R x = (qA (m + 2) y x ^^^ qA (m + 1) y0 x) ^^^ qh (ddF xs ys 0 (m + 1)) (qcJ (fun u=>x ^^^ xs u) (m + 1)):=fun x=>by
   rw [<- p3,<- qtI,<- qr2 (y:=y0) (n:=m + 1) (fun l hl=>a0 l (by omega)) 1,<- qnk,<- qnk]
  have hRt:R (m + 1) = 0:=by
   simp only [R]
   rw [c,a0 (m + 1) (by omega),p2,qaX,qaf,qa3]
  have hRe:∀ x,qA (m + 1) R x = qA (m + 2) R x:=fun x=>by
   show _ = qA (m + 1) R x ^^^ qh (R (m + 1)) (qaF x (m + 1))
   rw [hRt,qC,qaf]
  have h0:=qjx (n:=m + 1) (y:=R) (xs:=xs) (fun i j hi hj=>hd i j (by omega) (by omega)) fun i hi=>by
   rw [hRe,hRv,b0 i (by omega)]
   have:=b i (by omega)
   rw [Nat.zero_add] at this
   rw [this,qa3,qar,qoE (k:=i) hi qa3,q7]
  have hz:qA (m + 1) R x = 0:=qc4 fun l hl=>by rw [h0 l hl,qC]
  rw [hRe,hRv] at hz
  have h1:qy1 xs ys x (m + 2) = qy1 xs ys x (m + 1) ^^^ qh (ddF xs ys 0 (m + 1)) (qcJ (fun u=>x ^^^ xs u) (m + 1)):=rfl
  rw [h1,<- c0 x]
  have h2:=qeD.1 hz
  rw [<- h2,<- BitVec.xor_assoc,BitVec.xor_comm,<- BitVec.xor_assoc,qa3,qar]
end Go.Proofs

set_option linter.unusedSimpArgs false
set_option linter.unusedVariables false
namespace Go.Proofs
open Go Go.Eng
theorem qfl {f:Nat->List Int} {w:List Int} {l:Nat} (hw:qz w):∀ k,(∀ j,j < k->(f j).length = l/\qz (f j))->(qct f w l k).length = l/\qz (qct f w l k)/\∀ c,c < l->toF ((qct f w l k).getD c 0) = qy (fun m=>qh (toF (w.getD m 0)) (toF ((f m).getD c 0))) k
 | 0,_=>⟨by simp [qct],fun x hx=>by rw [qct] at hx; rw [List.eq_of_mem_replicate hx]; exact ⟨by omega,by omega⟩,fun c hc=>by
   rw [qct,List.getD_eq_getElem?_getD,List.getElem?_replicate,if_pos hc]; rfl⟩
 | k + 1,h=>by
  obtain ⟨h1,h2,h3⟩:=qfl hw k fun j hj=>h j (by omega)
  obtain ⟨f1,f2⟩:=h k (by omega)
  have hsl:seg (f k) 0 l = f k:=by rw [<- f1]; simp [seg]
  rw [qct,hsl]
  refine ⟨by rw [qcv,h1],qdE h2,fun c hc=>?_⟩
  rw [List.getD_eq_getElem?_getD,qb7,List.getElem?_eq_getElem (by omega),Option.map_some,Option.getD_some,if_pos ⟨by omega,by omega⟩,Nat.sub_zero,qke,qhj (qaD hw _) (qaD f2 _),qy,<- h3 c hc,List.getD_eq_getElem?_getD (l:=qct f w l k),List.getElem?_eq_getElem (by omega),Option.getD_some]
theorem qzS {f g:Nat->List Int} {w v:List Int} {l k:Nat} (hw:qz w) (hv:qz v) (hf:∀ j,j < k->(f j).length = l/\qz (f j)) (hg:∀ j,j < k->(g j).length = l/\qz (g j))
  (h:∀ c,c < l->qy (fun m=>qh (toF (w.getD m 0)) (toF ((f m).getD c 0))) k = qy (fun m=>qh (toF (v.getD m 0)) (toF ((g m).getD c 0))) k):qct f w l k = qct g v l k:=by
 obtain ⟨a1,a2,a3⟩:=qfl hw k hf
 obtain ⟨b1,b2,b3⟩:=qfl hv k hg
 refine qrP (by omega) fun c hc=>qpA (qaD a2 c) (qaD b2 c) ?_
 rw [a3 c (by omega),b3 c (by omega),h c (by omega)]
theorem q09 {rs:List Int} {x:Int} {j:Nat} (hj:j < rs.length):toF ((qlz rs x).getD j 0) = qfB rs.length (fun m=>toF (rs.getD m 0)) (toF x) j:=by
 unfold qlz
 rw [List.getD_eq_getElem?_getD,List.getElem?_map,List.getElem?_range hj,Option.map_some,Option.getD_some,qiO]
theorem qjY {xs:List Int} {x:Int}:qz (qlz xs x):=fun y hy=>by
 obtain ⟨m,_,rfl⟩:=List.mem_map.1 hy
 exact qiI
variable {k total:Nat} {rs:List Int}
theorem qln (hc:qco k total rs) {j:Nat} (hj:j < k):toF (rs.getD j 0) = xsF (rs.getD j 0).toNat:=by
 have h1:=hc.1
 have h2:=hc.2.2 (rs.getD j 0) (qsD (by omega))
 unfold xsF
 rw [Int.toNat_of_nonneg h2.1]
theorem qmJ (hc:qco k total rs) (ht:total <= 255):qbx k fun m=>toF (rs.getD m 0):=fun i j hi hj he=>by
 refine qhO hc ht i j hi hj ?_
 simp only [qln hc hi,qln hc hj] at he
 exact he
theorem qqF {xs v:Nat->F} (h1:1 <= k) (hd:qbx k xs):∃ y:Nat->F,(∀ i,i < k->qA k y (xs i) = v i)/\∀ x,qA k y x = qy (fun j=>qh (qfB k xs x j) (v j)) k:=by
 obtain ⟨y,_,hy,_⟩:=qr6 (ys:=v) hd (k - 1) (by omega)
 rw [show k - 1 + 1 = k by omega] at hy
 refine ⟨y,fun i hi=>hy i (by omega),fun x=>?_⟩
 rw [qj9 hd]
 exact qk fun j hj=>by rw [hy j (by omega)]
theorem q05 (hc:qco k total rs) (h1:1 <= k) (hk:k <= total) (ht:total <= 255) (v:Nat->F) {i:Nat} (hi:i < k) :
    qy (fun j=>qh (q6 k (qnA total k rs) i j) (v j)) k = qy (fun j=>qh (qfB k (fun m=>toF (rs.getD m 0)) (xsF i) j) (v j)) k:=by
  obtain ⟨y,hy,hL⟩:=qqF (v:=v) h1 (qmJ hc ht)
  obtain ⟨g1,g2,_,g4⟩:=qff h1 hk ht
  have hlen:=qny hc g1
  have hr:=q3L hc h1 hk ht
  obtain ⟨t2,he⟩:=qmh hlen (qlE g2)
  rw [hr] at he
  obtain ⟨m1,_⟩:=qpK he
  have hS:∀ j,j < k->∀ m,m < k->q6 k (qfH (qcP k total) k rs) j m = qfB k xsF (toF (rs.getD j 0)) m:=fun j hj m hm=>by
    have hrj:=hc.2.2 (rs.getD j 0) (qsD (by rw [hc.1]; exact hj))
    unfold q6
    rw [qqn g1 hc.2.2 (by rw [hc.1]; exact hj) hm,qln hc hj,<- g4 (rs.getD j 0).toNat m (by omega) hm]
    rfl
  have hx:qbx k xsF:=qew (by omega)
  rw [<- hL]
  calc qy (fun j=>qh (q6 k (qnA total k rs) i j) (v j)) k
      = qy (fun j=>qy (fun m=>qh (qh (q6 k (qnA total k rs) i j) (q6 k (qfH (qcP k total) k rs) j m)) (qA k y (xsF m))) k) k:=by
        refine qk fun j hj=>?_
        rw [<- hy j hj,qj9 hx (x:=toF (rs.getD j 0)),<- qcW]
        exact qk fun m hm=>by rw [hS j hj m hm,qN]
    _ = qy (fun m=>qh (del m i) (qA k y (xsF m))) k:=by
        rw [qfb]
        refine qk fun m hm=>?_
        rw [qdY,qtc]
        congr 1
        exact m1 i m hi hm
    _ = qA k y (xsF i):=qmT (f:=fun m=>qA k y (xsF m)) hi
theorem qw6 {m:List Int} {i j:Nat} (hj:j < k):toF ((seg m (i * k) k).getD j 0) = q6 k m i j:=by
 unfold q6 seg
 rw [List.getD_eq_getElem?_getD,List.getElem?_take,if_pos hj,List.getElem?_drop,List.getD_eq_getElem?_getD]
theorem q04 (hc:qco k total rs) (h1:1 <= k) (hk:k <= total) (ht:total <= 255):(qnA total k rs).length = k * k/\qz (qnA total k rs):=by
 obtain ⟨g1,g2,_,_⟩:=qff h1 hk ht
 obtain ⟨t2,_⟩:=qmh (qny hc g1) (qlE g2)
 exact ⟨t2.lb,t2.bb⟩
theorem qtj {l:List Int} {o n:Nat} (h:qz l):qz (seg l o n):=fun x hx=>h x (List.mem_of_mem_drop (List.mem_of_mem_take hx))
theorem q53 (hc:qco k total rs) (h1:1 <= k) (hk:k <= total) (ht:total <= 255) {f:Nat->List Int} {l i:Nat} (hf:∀ j,j < k->(f j).length = l/\qz (f j)) (hi:i < k) :
  qct f (seg (qnA total k rs) (i * k) k) l k = qct f (qlz rs (i:Int)) l k:=by
 refine qzS (qtj (q04 hc h1 hk ht).2) qjY hf hf fun c hcl=>?_
 rw [qk fun m hm=>by rw [qw6 hm],q05 hc h1 hk ht _ hi]
 exact qk fun m hm=>by rw [q09 (by rw [hc.1]; exact hm),hc.1]; rfl
theorem q2Z (hc:qco k total rs) (h1:1 <= k) (hk:k <= total) (ht:total <= 255) {f:Nat->List Int} {l r:Nat} (hf:∀ j,j < k->(f j).length = l/\qz (f j)) (hr:r < total) {g:Nat->List Int} (hg:∀ i,i < k->g i = qct f (qlz rs (i:Int)) l k) :
  qct g (seg (qcP k total) (r * k) k) l k = qct f (qlz rs (r:Int)) l k:=by
 obtain ⟨g1,g2,_,g4⟩:=qff h1 hk ht
 have hgf:∀ i,i < k->(g i).length = l/\qz (g i):=fun i hi=>by
  obtain ⟨a,b,_⟩:=qfl (qjY (xs:=rs) (x:=(i:Int))) k hf
  rw [hg i hi]; exact ⟨a,b⟩
 refine qzS (qtj g2) qjY hgf hf fun c hcl=>?_
 obtain ⟨y,hy,hL⟩:=qqF (v:=fun j=>toF ((f j).getD c 0)) h1 (qmJ hc ht)
 have hx:qbx k xsF:=qew (by omega)
 have hv:∀ x:Int,qy (fun m=>qh (toF ((qlz rs x).getD m 0)) (toF ((f m).getD c 0))) k = qA k y (toF x):=fun x=>by
  rw [hL]
  exact qk fun m hm=>by rw [q09 (by rw [hc.1]; exact hm),hc.1]
 rw [hv,show toF ((r:Nat):Int) = xsF r from rfl,qj9 hx]
 refine qk fun m hm=>?_
 rw [qw6 hm,g4 r m hr hm,hg m hm,(qfl qjY k hf).2.2 c hcl,hv]
 rfl
end Go.Proofs

set_option linter.unusedSimpArgs false
set_option linter.unusedVariables false
namespace Go.Proofs
open Go Go.Eng
set_option maxRecDepth 100000
end Go.Proofs

set_option linter.unusedSimpArgs false
set_option linter.unusedVariables false
namespace Go.Proofs
open Go Go.Eng
set_option maxRecDepth 100000
end Go.Proofs

set_option linter.unusedSimpArgs false
set_option linter.unusedVariables false
set_option maxRecDepth 100000
namespace Go.Proofs
open Go Go.Eng

end Go.Proofs

set_option linter.unusedSimpArgs false
set_option linter.unusedVariables false
namespace Go.Proofs
open Go Go.Eng
set_option maxRecDepth 100000
structure PcIn (h:Hp) (D:qc) (k total n:Int):Prop where
 k1:1 <= k
 k2:k <= total
 k3:total <= 255
 kn:k <= n
 sol:q6K h D k total n
 idx:∀ j,j < n.toNat->0 <= pcI D j/\pcI D j < total
 len:∀ j,j < n.toNat->pcN h D j = pcN h D 0
 fs:∀ j,j < n.toNat->(pcD h D j).length = pcN h D 0/\qz (pcD h D j)
variable {h:Hp} {D:qc} {k total n:Int}
theorem PcIn.f (p:PcIn h D k total n):∀ j,j < k.toNat->(pcD h D j).length = pcN h D 0/\qz (pcD h D j):=fun j hj=>p.fs j (by have:=p.kn; omega)
theorem PcIn.cols (p:PcIn h D k total n) {hc:Hp} {C:qc} (ht:q6N hc (tvs C) k.toNat (qxN h D total.toNat k.toNat)) :
  (∀ j,j < k.toNat->rdB hc (tvs C j)/\(qkH hc C j).length = (qkH hc C 0).length)/\(qkH hc C 0).length = pcN h D 0/\∀ r:Int,0 <= r->r < total->qct (qkH hc C) (seg (qcP k.toNat total.toNat) (r.toNat * k.toNat) k.toNat) (qkH hc C 0).length k.toNat = q7s h D k.toNat r:=by
 have h1:=p.k1
 have h2:=p.k2
 have h3:=p.k3
 have hch:=p.sol.2.2.2.2.1
 have hcol:∀ j,j < k.toNat->rdB hc (tvs C j)/\qkH hc C j = qxN h D total.toNat k.toNat j:=fun j hj=>by
  obtain ⟨d,hr,hd,hB⟩:=q6n ht hj
  exact ⟨⟨d,hr,hB⟩,by rw [qkH,qiK hr,hd]⟩
 have hl:∀ j,j < k.toNat->(qkH hc C j).length = pcN h D 0:=fun j hj=>by
  rw [(hcol j hj).2,qxN,quZ]
 refine ⟨fun j hj=>⟨(hcol j hj).1,by rw [hl j hj,hl 0 (by omega)]⟩,hl 0 (by omega),fun r r0 r1=>?_⟩
 rw [hl 0 (by omega),q2Z hch (by omega) (by omega) (by omega) (f:=pcD h D) p.f (by omega) (r:=r.toNat) (fun i hi=>by
  rw [(hcol i hi).2,qxN,q53 hch (by omega) (by omega) (by omega) p.f hi]),Int.toNat_of_nonneg r0]
 rfl
theorem PcIn.value (p:PcIn h D k total n):(∀ j:Nat,(j:Int) < k->0 <= pcI D j/\pcI D j < 256)/\(qgH D k.toNat).Nodup/\pcN h D 0 <= 9000/\(∀ j:Nat,(j:Int) < k->pcN h D j = pcN h D 0)/\qpx h D k.toNat:=by
 have h1:=p.k1
 have h2:=p.k2
 have h3:=p.k3
 have h4:=p.kn
 have h5:=p.sol.2.2.2.2.2.1
 refine ⟨fun j hj=>?_,p.sol.2.2.2.2.1.2.1,by omega,fun j hj=>p.len j (by omega),fun j hj=>p.sol.2.2.2.1 j (by omega)⟩
 have:=p.idx j (by omega)
 omega
end Go.Proofs

set_option linter.unusedSimpArgs false
set_option linter.unusedVariables false
namespace Go.Proofs
open Go Go.Eng
set_option maxRecDepth 100000
variable {h h':Hp} {D D':qc} {k total n index len e e':Int} {b b':Bool}
end Go.Proofs

set_option linter.unusedSimpArgs false
set_option linter.unusedVariables false
namespace Go.Proofs
open Go Go.Eng
end Go.Proofs

set_option linter.unusedSimpArgs false
set_option linter.unusedVariables false
namespace Go.Proofs
open Go Go.Eng
theorem q0F {k n t s l i:Int} {D:List (List Int)} {m:List Int} (h:qci k n t s l D i m = 0):qH k n t s l = true/\0 <= i/\i < t/\(m.length:Int) = qeb k s/\sha (qbZ i ++ m) = D.getD i.toNat []:=by
 unfold qci at h
 by_cases h1:qH k n t s l = false
 ·rw [if_pos h1] at h; omega
 rw [if_neg h1] at h
 by_cases h2:i < 0∨t <= i
 ·rw [if_pos h2] at h; omega
 rw [if_neg h2] at h
 by_cases h3:(m.length:Int) ≠ qeb k s
 ·rw [if_pos h3] at h; omega
 rw [if_neg h3] at h
 by_cases h4:sha (qbZ i ++ m) ≠ D.getD i.toNat []
 ·rw [if_pos h4] at h; omega
 exact ⟨by simpa using h1,by omega,by omega,by omega,by simpa using h4⟩
theorem qzC {k n t s l:Int}:qH k n t s l = true↔1 <= k/\k <= n/\n <= t/\t <= 255/\0 <= s/\s <= 8192/\l = t:=by
 simp [qH,qbl,and_assoc]
theorem q4b {k s:Int} (hk:1 <= k) (hs:0 <= s):qeb k s = plI k s:=by
 obtain ⟨k,rfl⟩:=Int.eq_ofNat_of_zero_le (show 0 <= k by omega)
 obtain ⟨s,rfl⟩:=Int.eq_ofNat_of_zero_le hs
 have e:((s:Int) + (k:Int) - 1) = ((s + k - 1:Nat):Int):=by omega
 unfold qeb plI qF
 rw [e,Int.ofNat_tdiv]
 simp
end Go.Proofs

set_option linter.unusedSimpArgs false
set_option linter.unusedVariables false
set_option maxRecDepth 100000
namespace Go.Proofs
open Go Go.Eng

end Go.Proofs

set_option linter.unusedSimpArgs false
set_option linter.unusedVariables false
set_option maxRecDepth 100000
namespace Go.Proofs
open Go Go.Eng

end Go.Proofs

set_option linter.unusedSimpArgs false
set_option linter.unusedVariables false
namespace Go.Proofs
open Go Go.Eng
set_option maxRecDepth 100000
end Go.Proofs

set_option linter.unusedSimpArgs false
set_option linter.unusedVariables false
namespace Go.Proofs
open Go Go.Eng
set_option maxRecDepth 20000
end Go.Proofs

set_option linter.unusedSimpArgs false
set_option linter.unusedVariables false
namespace Go.Eng
open Go Go.ChangeShapes Go.WideShapes Go.ChangeAt Go.RowKit

structure Grew (W w':World):Prop where
 os:w'.os = W.os
 out:w'.output = W.output
 blk:∀ (b:Nat) (o:Obj),W.heap[b]? = some o->w'.heap[b]? = some o

theorem Grew.block {W w':World} (h:Grew W w') {i:Nat} (hi:i < W.heap.size):w'.heap[i]? = W.heap[i]?:=by
 rw [Array.getElem?_eq_getElem hi]; exact h.blk i _ (Array.getElem?_eq_getElem hi)

theorem Grew.kept {W w':World} (h:Grew W w') (may:MemPlace->Prop):W.keptBut w' may:=by
 refine ⟨h.os,h.out,fun i hi=>?_⟩
 rw [h.block hi,Array.getElem?_eq_getElem hi]
 cases W.heap[i] <;> simp

theorem Grew.trodAll {H:Type} {enc:TypeId × Value->H} {P:Program} {W W':World} (hg:Grew W W') (hl:laidOutB P = true) {sp:Nat->Bool}:∀ {ts:List TypeId} {vs:List Value} {ds:List (DataW H)} {ps:List MemPlace},
  (∀ t ∈ ts,P.readableRec t = true/\t < P.types.size)->DataW.TrodAll enc P W 0 (fun _=>true) true ts vs ds ps->(∀ p ∈ ps,p.block < W.heap.size)->(∀ p ∈ ps,sp p.block = true) ->
  DataW.TrodAll enc P W' 0 sp true ts vs ds ps
 | [],[],[],_,_,h,_,_=>h
 | _ :: _,_ :: _,_ :: _,_,hT,⟨p,q,h1,h2,e⟩,hlt,hs=>by
  subst e
  refine ⟨p,q,?_,Grew.trodAll hg hl (fun t ht=>hT t (List.mem_cons_of_mem _ ht)) h2 (fun x hx=>hlt x (List.mem_append_right _ hx)) (fun x hx=>hs x (List.mem_append_right _ hx)),rfl⟩
  have hr:=hT _ (List.mem_cons_self ..)
  refine WideElems.Trod_stays hl hr.1 hr.2 h1 (fun x hx=>?_) (fun x hx=>hs x (List.mem_append_left _ hx))
  have hb:=hg.block (hlt x (List.mem_append_left _ hx))
  cases x with
  | cell b o=>exact World.cell?_of_block (w:=W) hb
  | map b=>exact hb

theorem qzH {P:Program} {c:Ctr} (hok:c.ok P) (hheap:c.heap = []) (halts:∀ al ∈ c.alts,al.ret = .one (.vbool (.bl true))) {ρ:Env} (hg:ρ.good) (W:World)
  (hro:∀ x ∈ c.ro,x.roden ρ (fun b=>W.heap[b]?)) (hpre:c.pre ρ) :
  Calls P c.fn (c.args.map (SV.den ρ)).toArray W fun e W'=>e = .returned (.bool true)/\Grew W W':=by
 have h:=hok.2 ρ W ⟨fun b=>W.heap[b]?,W.os,W.output⟩ Hp.emp hg (Hp.disj_emp _)
  ⟨fun b o hb=>by simpa [Hp.union,Hp.emp] using hb,rfl,rfl⟩ (by rw [hheap]; trivial) hro hpre
 refine h.mono fun e w' hq=>?_
 obtain ⟨ai,al,ρ',hal,_,_,rfl,_,hO,_,_,hsub,hwi⟩:=hq
 refine ⟨by rw [halts al (List.mem_of_getElem? hal)]; rfl,⟨hwi.1,hwi.2,fun b o hb=>hsub b o ?_⟩⟩
 simp [Hp.union,hb]

theorem q2A {H:Type} {enc:TypeId × Value->H} {P:Program} {f:Func} {s:ChangeSpec} {W W':World} {args:Array Value} {ds gs:List (DataW H)} {before:List MemPlace} {bt:TypeId}
  (hl:laidOutB P = true) (hT:∀ t ∈ f.params.toList,P.readableRec t = true/\t < P.types.size) (hvars:s.vars = []) (hrt:f.resultTypes = #[bt]) (hbt:P.underlying bt = some .bool)
  (hfn:∀ ds':List (DataW H),ds'.length = f.params.size->s.fn H ds' = { results:=[.lit (.bool true)],args:=ds' })
  (hW:DataW.Whole enc P f.params.toList s.vars false W args.toList ds gs before) (hg:Grew W W'):s.post enc P f false true false false W args (.bool true) W':=by
 have hlt:=hW.lt
 have hW0:=hW
 obtain ⟨p,q,hA,hV,hpq,hz,hn⟩:=hW
 rw [hvars] at hV
 obtain ⟨rfl,rfl⟩:=trodVars_none hV
 have hlen:ds.length = f.params.size:=by
  have:∀ {ts:List TypeId} {vs:List Value} {ds:List (DataW H)} {ps:List MemPlace},DataW.TrodAll enc P W 0 (fun _=>true) true ts vs ds ps->ds.length = ts.length:=by
   intro ts
   induction ts with
   | nil=>intro vs ds ps h; cases vs <;> cases ds <;> simp_all [DataW.TrodAll]
   | cons t ts ih =>
    intro vs ds ps h
    cases vs <;> cases ds <;> simp_all [DataW.TrodAll]
    obtain ⟨p,q,_,h2,_⟩:=h
    exact ih h2
  simpa using this hA
 have hlt':∀ x ∈ p,x.block < W.heap.size:=fun x hx=>hlt x (by rw [hpq]; exact List.mem_append_left _ hx)
 refine ⟨ds,[],before,[],p,[],hW0,?_,?_,?_,hg.kept _,fun h=>by cases h⟩
 ·rw [List.append_nil,hfn ds hlen,hrt]
  exact ⟨[],[],⟨1,by simp [DataW.trod,hbt,Value.cells]⟩,rfl,rfl⟩
 ·rw [List.append_nil,hfn ds hlen]
  exact hg.trodAll hl hT hA hlt' (fun x hx=>by simpa using hlt' x hx)
 ·rw [List.append_nil,hfn ds hlen,hvars]
  rfl

theorem q3N {H:Type} {enc:TypeId × Value->H} {P:Program} {f:Func} {s:ChangeSpec} {c:Ctr} {W:World} {args:Array Value} {ds gs:List (DataW H)} {before:List MemPlace} {bt:TypeId} {ρ:Env}
  (hok:c.ok P) (hheap:c.heap = []) (halts:∀ al ∈ c.alts,al.ret = .one (.vbool (.bl true)))
  (hl:laidOutB P = true) (hT:∀ t ∈ f.params.toList,P.readableRec t = true/\t < P.types.size) (hvars:s.vars = []) (hrt:f.resultTypes = #[bt]) (hbt:P.underlying bt = some .bool)
  (hfn:∀ ds':List (DataW H),ds'.length = f.params.size->s.fn H ds' = { results:=[.lit (.bool true)],args:=ds' })
  (hW:DataW.Whole enc P f.params.toList s.vars false W args.toList ds gs before)
  (hg:ρ.good) (hargs:args = (c.args.map (SV.den ρ)).toArray) (hro:∀ x ∈ c.ro,x.roden ρ (fun b=>W.heap[b]?)) (hpre:c.pre ρ) :
  Calls P c.fn args W fun e W'=>∃ v,e = .returned v/\s.post enc P f false true false false W args v W':=by
 rw [hargs]
 refine (qzH hok hheap halts hg W hro hpre).mono fun e W' ⟨he,hgr⟩=>⟨_,he,?_⟩
 rw [<- hargs]
 exact q2A hl hT hvars hrt hbt hfn hW hgr
end Go.Eng

set_option linter.unusedSimpArgs false
set_option linter.unusedVariables false
namespace Go.Eng
open Go Go.ChangeShapes Go.WideShapes Go.ChangeAt Go.RowKit

def qnU (P:Program) (f:TypeId->Option (List CK)):List Field->Nat->Option (List CK)
 | [],_=>some []
 | x :: fs,off =>
  if Nat.beq x.offset off then
   match f x.type with
   | some p=>if Nat.beq p.length (P.cellsOf x.type) then (qnU P f fs (off + p.length)).map (p ++ ·) else none
   | none=>none
  else none
def qls (p:List CK):Nat->List CK
 | 0=>[]
 | n + 1=>p ++ qls p n
def qkb (P:Program):Nat->TypeId->Option (List CK)
 | 0,_=>none
 | n + 1,t =>
  match P.underlying t with
  | some (.int k)=>some [.int k]
  | some .bool=>some [.bool]
  | some .string=>some [.any]
  | some (.slice _)=>some [.any]
  | some (.pointer _)=>some [.any]
  | some (.struct fs)=>match qnU P (qkb P n) fs.toList 0 with
   | some p=>if Nat.beq p.length (P.cellsOf t) then some p else none
   | none=>none
  | some (.array m e)=>match qkb P n e with
   | some p=>if Nat.beq p.length (P.cellsOf e) && Nat.beq (P.cellsOf t) (m * P.cellsOf e) then some (qls p m) else none
   | none=>none
  | _=>none

theorem qiM {p q:List CK} {cs:List Value} (h1:qv p (cs.take p.length)) (h2:qv q (cs.drop p.length)):qv (p ++ q) cs:=by
 obtain ⟨a1,a2⟩:=h1
 obtain ⟨b1,b2⟩:=h2
 have hle:p.length <= cs.length:=by simp at a1; omega
 refine ⟨by simp at a1 b1 ⊢; omega,fun c k v hk hv=>?_⟩
 by_cases hc:c < p.length
 ·rw [List.getElem?_append_left hc] at hk
  exact a2 c k v hk (by rw [List.getElem?_take,if_pos hc]; exact hv)
 ·rw [List.getElem?_append_right (by omega)] at hk
  exact b2 (c - p.length) k v hk (by rw [List.getElem?_drop,show p.length + (c - p.length) = c by omega]; exact hv)

section
variable {H:Type} {enc:TypeId × Value->H} {P:Program} {w:World} {base:Nat} {spare:Nat->Bool} {held:Bool}

theorem qfr {v:Value} (h:v.oneCell' = true):qv [.any] [v]:=⟨rfl,fun c k v' hk hv=>by
 cases c with
 | zero=>simp at hk hv; subst hk; subst hv; exact h
 | succ c=>simp at hk⟩

theorem qnR {f:TypeId->Option (List CK)} {cs:List Value} (hf:∀ t p,f t = some p->∀ cs',(∃ fuel x,DataW.trod enc P w base spare held fuel t cs' = some x)->qv p cs') :
  ∀ {fs:List Field} {off:Nat} {p:List CK},qnU P f fs off = some p->(∀ x ∈ fs,∃ fuel y,DataW.trod enc P w base spare held fuel x.type ((cs.drop x.offset).take (P.cellsOf x.type)) = some y)->off + p.length = cs.length->qv p (cs.drop off)
 | [],off,p,h,_,hl=>by
  simp only [qnU,Option.some.injEq] at h; subst h
  simp at hl
  refine ⟨by simp; omega,fun c k v hk=>by simp at hk⟩
 | x :: fs,off,p,h,ht,hl=>by
  simp only [qnU] at h
  split at h
  ·rename_i ho
   have ho:=Nat.eq_of_beq_eq_true ho
   split at h
   ·rename_i p1 hp1
    split at h
    ·rename_i hc
     have hc:=Nat.eq_of_beq_eq_true hc
     simp only [Option.map_eq_some_iff] at h
     obtain ⟨p2,hp2,rfl⟩:=h
     simp only [List.length_append] at hl
     have h1:=hf x.type p1 hp1 _ (ht x (List.mem_cons_self ..))
     rw [ho,<- hc] at h1
     have h2:=qnR hf hp2 (fun y hy=>ht y (List.mem_cons_of_mem _ hy)) (by omega)
     exact qiM h1 (by rw [List.drop_drop]; exact h2)
    ·simp at h
   ·simp at h
  ·simp at h

theorem qm7 {p:List CK}:∀ {m:Nat} {cs:List Value},cs.length = m * p.length->(∀ i,i < m->qv p ((cs.drop (i * p.length)).take p.length))->qv (qls p m) cs
 | 0,cs,hl,_=>by
  simp at hl; subst hl
  exact ⟨rfl,fun c k v hk=>by simp [qls] at hk⟩
 | m + 1,cs,hl,h=>by
  simp only [qls]
  refine qiM (by simpa using h 0 (by omega)) (qm7 (by rw [List.length_drop,hl,Nat.add_mul]; omega) fun i hi=>?_)
  rw [List.drop_drop,show p.length + i * p.length = (i + 1) * p.length by rw [Nat.add_mul]; omega]
  exact h (i + 1) (by omega)

theorem qkY:∀ (n:Nat) {t:TypeId} {pat:List CK},qkb P n t = some pat->∀ cs,(∃ fuel x,DataW.trod enc P w base spare held fuel t cs = some x)->qv pat cs
 | 0,t,pat,h,_,_=>by simp [qkb] at h
 | n + 1,t,pat,h,cs,⟨fuel,x,hx⟩=>by
  simp only [qkb] at h
  split at h
  ·rename_i k hu
   simp only [Option.some.injEq] at h; subst h
   obtain ⟨z,rfl,_,_⟩:=DataW.trod_int hu hx
   refine ⟨rfl,fun c k' v hk hv=>?_⟩
   cases c with
   | zero=>simp at hk hv; subst hk; subst hv; simp [CK.fits]
   | succ c=>simp at hk
  ·rename_i hu
   simp only [Option.some.injEq] at h; subst h
   cases fuel with
   | zero=>simp [DataW.trod] at hx
   | succ m =>
    unfold DataW.trod at hx
    rw [hu] at hx
    split at hx <;> simp_all
    refine ⟨rfl,fun c k' v hk hv=>?_⟩
    cases c with
    | zero=>simp at hk hv; subst hk; subst hv; simp [CK.fits]
    | succ c=>simp at hk
  ·rename_i hu
   simp only [Option.some.injEq] at h; subst h
   cases fuel with
   | zero=>simp [DataW.trod] at hx
   | succ m =>
    unfold DataW.trod at hx
    rw [hu] at hx
    split at hx <;> simp_all
    exact qfr rfl
  ·rename_i e hu
   simp only [Option.some.injEq] at h; subst h
   rcases DataW.trod_slice hu hx with ⟨rfl,_⟩ | ⟨a,len,cap,elems,rest,m,_,rfl,_⟩
   ·exact qfr rfl
   ·exact qfr rfl
  ·rename_i e hu
   simp only [Option.some.injEq] at h; subst h
   cases fuel with
   | zero=>simp [DataW.trod] at hx
   | succ m =>
    unfold DataW.trod at hx
    rw [hu] at hx
    split at hx <;> simp_all
    all_goals exact qfr rfl
  ·rename_i fs hu
   split at h
   ·rename_i p hp
    split at h
    ·rename_i hc
     have hc:=Nat.eq_of_beq_eq_true hc
     simp only [Option.some.injEq] at h; subst h
     obtain ⟨xs,m,_,_,hl,hxl,hall⟩:=DataW.trod_struct hu hx
     have:=qnR (cs:=cs) (f:=qkb P n) (fun t p hp cs' hh=>qkY n hp cs' hh) hp (fun y hy=>by
      obtain ⟨i,hi⟩:=List.getElem?_of_mem hy
      have hi':fs[i]? = some y:=by simpa using hi
      have h1:=hall i y hi'
      have hlt:i < xs.length:=by
       rw [hxl]; exact (Array.getElem?_eq_some_iff.1 hi').1
      exact ⟨m,xs[i],by rw [h1]; simp [hlt]⟩) (by omega)
     simpa using this
    ·simp at h
   ·simp at h
  ·rename_i m e hu
   split at h
   ·rename_i p hp
    split at h
    ·rename_i hc
     simp only [Bool.and_eq_true] at hc
     have hc1:=Nat.eq_of_beq_eq_true hc.1
     have hc2:=Nat.eq_of_beq_eq_true hc.2
     simp only [Option.some.injEq] at h; subst h
     obtain ⟨xs,k,_,_,hl,hxl,hall⟩:=DataW.trod_array hu hx
     refine qm7 (by rw [hl,hc2,hc1]) fun i hi=>?_
     have h1:=hall i hi
     rw [<- hc1] at h1
     exact qkY n hp _ ⟨k,xs[i]'(by omega),by rw [h1]; simp [hxl,hi]⟩
    ·simp at h
   ·simp at h
  ·simp at h

theorem qpf {a:Addr} {n:Nat} {cs:List Value} (h:w.cells? base a n = some cs):cs.length = n/\∀ i,i < n->w.cell? (a.add i) = cs[i]?:=by
 unfold World.cells? at h
 split at h
 ·exact ⟨by simpa using mapM_some_length h,fun i hi=>by simpa using mapM_some_get h i i (by simp [hi])⟩
 ·simp at h

theorem q1u {t e:TypeId} {pat:List CK} {n:Nat} {v:Value} {d:DataW H} {ps:List MemPlace} (ht:P.underlying t = some (.slice e)) (hpat:qkb P n e = some pat) (hce:P.cellsOf e = pat.length) (hpos:0 < pat.length)
  {fuel:Nat} (hsp:∀ b,spare b = true) (hf:DataW.trod enc P w base spare held fuel t [v] = some (d,ps)) :
  ∃ rows:List (List Value),Rd (fun b=>w.heap[b]?) pat v rows/\(∀ row ∈ rows,∃ fuel x,DataW.trod enc P w base spare held fuel e row = some x) /\
   ((d = .nil/\rows = [])∨∃ elems sp,d = .slice elems sp/\elems.length = rows.length/\∀ (i:Nat) (row:List Value),rows[i]? = some row->∃ fuel x,DataW.trod enc P w base spare held fuel e row = some x/\elems[i]? = some x.1):=by
 rcases DataW.trod_slice ht hf with ⟨h1,h2⟩ | ⟨a,len,cap,elems,rest,m,_,h1,h2,hb,hlc,hcm,hel,hall,hrest,_⟩
 ·simp at h1 h2
  exact ⟨[],.inl ⟨_,h1,rfl⟩,by simp,.inl ⟨h2.1,rfl⟩⟩
 ·simp at h1 h2
  subst h1
  have hrow:∀ i,i < len->∃ cs x,w.cells? base (a.add (i * P.cellsOf e)) (P.cellsOf e) = some cs/\DataW.trod enc P w base spare held m e cs = some x/\elems[i]? = some x:=fun i hi=>by
   have:=hall i hi
   rw [List.getElem?_eq_getElem (by omega)] at this
   obtain ⟨cs,g1,g2⟩:=Option.bind_eq_some_iff.1 this
   exact ⟨cs,_,g1,g2,List.getElem?_eq_getElem _⟩
  let rows:List (List Value):=(List.range len).map fun i=>((w.cells? base (a.add (i * P.cellsOf e)) (P.cellsOf e)).getD [])
  have hget:∀ i row,rows[i]? = some row->i < len/\w.cells? base (a.add (i * P.cellsOf e)) (P.cellsOf e) = some row:=fun i row hr=>by
   simp only [rows,List.getElem?_map,Option.map_eq_some_iff] at hr
   obtain ⟨j,hj,rfl⟩:=hr
   have hlt:i < len:=by
    have:=(List.getElem?_eq_some_iff.1 hj).1; simpa using this
   rw [List.getElem?_range hlt] at hj
   simp only [Option.some.injEq] at hj; subst hj
   obtain ⟨cs,x,g1,_,_⟩:=hrow i hlt
   exact ⟨hlt,by rw [g1]; rfl⟩
  have hrl:rows.length = len:=by simp [rows]
  have htr:∀ row ∈ rows,∃ fuel x,DataW.trod enc P w base spare held fuel e row = some x:=fun row hr=>by
   obtain ⟨i,hi⟩:=List.getElem?_of_mem hr
   obtain ⟨hlt,hc⟩:=hget i row hi
   obtain ⟨cs,x,g1,g2,_⟩:=hrow i hlt
   rw [hc] at g1
   simp only [Option.some.injEq] at g1; subst g1
   exact ⟨m,x,g2⟩
  refine ⟨rows,?_,htr,.inr ⟨_,_,h2.1,by simp [hel,hrl],fun i row hi=>?_⟩⟩
  rotate_left
  ·obtain ⟨hlt,hc⟩:=hget i row hi
   obtain ⟨cs,x,g1,g2,g3⟩:=hrow i hlt
   rw [hc] at g1
   simp only [Option.some.injEq] at g1; subst g1
   exact ⟨m,x,g2,by simp [g3]⟩
  by_cases hcap:cap = 0
  ·have hl0:len = 0:=by omega
   have:rows = []:=by apply List.eq_nil_of_length_eq_zero; omega
   exact .inl ⟨some a,by rw [hl0,hcap],this⟩
  have hfirst:∃ cs,w.cells? base (a.add 0) (P.cellsOf e) = some cs:=by
   by_cases hl:0 < len
   ·obtain ⟨cs,_,g1,_,_⟩:=hrow 0 hl
    rw [Nat.zero_mul] at g1
    exact ⟨cs,g1⟩
   ·obtain ⟨r1,r2⟩:=hrest (hsp _)
    have:=r2 0 (by omega)
    rw [show (len + 0) * P.cellsOf e = 0 by rw [show len + 0 = 0 by omega]; simp,List.getElem?_eq_getElem (by omega)] at this
    obtain ⟨cs,g1,_⟩:=Option.bind_eq_some_iff.1 this
    exact ⟨cs,g1⟩
  obtain ⟨cs0,hc0⟩:=hfirst
  obtain ⟨hl0,hg0⟩:=qpf hc0
  have h00:=hg0 0 (by omega)
  rw [show (a.add 0).add 0 = a from rfl,List.getElem?_eq_getElem (by omega)] at h00
  obtain ⟨ab,ao,asp⟩:=a
  have hblk0:=h00
  unfold World.cell? at hblk0
  split at hblk0
  ·rename_i c ty fr hblk
   simp only at hblk
   have hsp0:asp = none:=by
    cases asp with
    | none=>rfl
    | some s=>simp at hblk0
   subst hsp0
   refine .inr ⟨ab,ao,cap,c,ty,fr,by rw [hrl],by omega,hblk,fun i row hi=>?_⟩
   obtain ⟨hlt,hc⟩:=hget i row hi
   refine ⟨qkY n hpat row (htr row (List.mem_of_getElem? hi)),fun k x hk=>?_⟩
   obtain ⟨hl1,hg⟩:=qpf hc
   have hkl:k < P.cellsOf e:=by
    rw [<- hl1]; exact (List.getElem?_eq_some_iff.1 hk).1
   have:=hg k hkl
   rw [hk,hce] at this
   rw [Go.Eng.addr_add,Go.Eng.addr_add,qaQ hblk] at this
   exact this
  ·simp at hblk0
end

end Go.Eng

set_option linter.unusedSimpArgs false
set_option linter.unusedVariables false
namespace Go.Eng
open Go Go.Proofs
def qje:Ctr:={ qgl with pre:=fun ρ=>qgl.pre ρ/\qbl (ρ 2).i (ρ 3).i (ρ 4).i = true/\(ρ 6).i <= 8192,alts:=[{ k:=9,ret:=.tup [(true,qix 2 3 4 6 12 13 4 14),(false,[.vslice 15 (.lit 0) (.var 4) (.var 16) 2]),qcD (.lit 0)],heap:=[fHp 17,qfq 13 18 14,.arr 15 86 qjf (.var 19) (.var 16),.abs 20 10],post:=fun ρ=>qx (ρ 17).d/\qbl (ρ 2).i (ρ 3).i (ρ 4).i = true/\(ρ 6).i <= 8192/\(ρ 19).d.length = (ρ 4).i.toNat/\qfp (ρ 20).h (ρ 19).d (ρ 4).i.toNat (qd2 (ρ 2).i.toNat (ρ 4).i.toNat (bI (ρ 8).d))/\qf (ρ 12).d 32 = sha (bI (ρ 8).d)/\qf8 (ρ 18).d/\dgs (ρ 18).d = qdl (qd2 (ρ 2).i.toNat (ρ 4).i.toNat (bI (ρ 8).d)) (ρ 4).i.toNat }] }
end Go.Eng

set_option linter.unusedSimpArgs false
set_option linter.unusedVariables false
set_option maxRecDepth 100000
namespace Go.Proofs
open Go Go.Eng

end Go.Proofs

set_option linter.unusedSimpArgs false
set_option linter.unusedVariables false
namespace Go.Proofs
open Go Go.Eng
section
variable {k total:Nat} {data:List Int}
end
section
variable {h:Hp} {P:qc} {k n t s l:Int} {data:List Int} {G:qc}
theorem q32 {f:Nat->List Int} {m:Nat} {x:Int} (x0:0 <= x) (x1:x < m):(qdl f m).getD x.toNat [] = sha (qbZ x ++ f x.toNat):=by
 unfold qdl
 rw [List.getD_eq_getElem?_getD,List.getElem?_map,List.getElem?_range (by omega)]
 simp only [Option.map_some,Option.getD_some]
 rw [Int.toNat_of_nonneg x0]
theorem q2U {x:Int} {m:List Int} (hM:qH k n t s l = true) (hb:qz data) (hsz:s = data.length) (hG:dgs G = qdl (qd2 k.toNat t.toNat data) t.toNat) (x0:0 <= x) (x1:x < t) (hm:m = qd2 k.toNat t.toNat data x.toNat):qci k n t s l (dgs G) x m = 0:=by
 obtain ⟨k1,k2,k3,k4,s0,s1,htl⟩:=qzC.1 hM
 have hl:(m.length:Int) = qeb k s:=by
  rw [hm,(q0e (by omega) (by omega) (by omega) hb _).1,q4b k1 s0,hsz]
  unfold plI
  simp
 have hS:sha (qbZ x ++ m) = (dgs G).getD x.toNat []:=by rw [hm,hG,q32 x0 (by omega)]
 rw [qci,if_neg (by rw [hM]; decide),if_neg (by omega),if_neg (fun h=>h hl),if_neg (fun h=>h hS)]
end
section
variable {h h':Hp} {D S L:qc} {n i:Nat} {t:Int} {f:Nat->List Int}
end
section
variable {h h0:Hp} {P P0 G R:qc} {k n t s l x e y m:Int} {data O:List Int} {N N':Nat}
end
section
variable {h h':Hp} {S L:qc} {i n j i':Int} {t:Int} {f:Nat->List Int}
end
section
variable {h h0:Hp} {D D0 G:qc} {T:Nat} {t:Int} {f:Nat->List Int} {N N' M:Nat}
end
end Go.Proofs

set_option linter.unusedSimpArgs false
set_option linter.unusedVariables false
namespace Go.Proofs
open Go Go.Eng
theorem q2n:qje.ok Tryz.prog:=by
 refine ⟨qw7.1,fun ρ w hF hO hg hd hw hs hro hp=>?_⟩
 obtain ⟨hp,hs3,h8⟩:=hp
 refine (qw7.2 ρ w hF hO hg hd hw hs hro hp).mono fun e w' h=>?_
 obtain ⟨ai,al,ρ',h1,h2,hρ,h4,hpost,h6⟩:=h
 match ai,h1 with
 | 0,h1 =>
  obtain rfl:=(Option.some.inj h1).symm
  exfalso
  have e2:=hρ 2 (by decide)
  have e3:=hρ 3 (by decide)
  have e4:=hρ 4 (by decide)
  have e6:=hρ 6 (by decide)
  obtain ⟨_,⟨h1,_⟩ | ⟨_,h1,_⟩⟩:=hpost
  ·change qbl (ρ' 2).i (ρ' 3).i (ρ' 4).i = false at h1
   rw [e2,e3,e4,hs3] at h1; cases h1
  ·change 8192 < (ρ' 6).i at h1
   rw [e6] at h1; omega
 | 1,h1 =>
  obtain rfl:=(Option.some.inj h1).symm
  exact ⟨0,_,ρ',rfl,h2,hρ,h4,hpost,h6⟩
 | ai + 2,h1=>simp [qgl] at h1
set_option maxRecDepth 20000
end Go.Proofs

set_option linter.unusedSimpArgs false
set_option linter.unusedVariables false
namespace Go.Eng
open Go Go.Proofs
def qj (d:qc):List Int:=d.map fun row=>qbG row 0
def qq4:List CK:=List.replicate 16 .bool
def b16 (n:Nat):SV:=.agg ((List.range 16).map fun i=>.c1 .vbool (.var (n + i)))
def qov (x:Int):Bool:=decide (0 <= x/\x < 16)
def qcs:Ctr:={ fn := 100,nv:=1,args:=[iv .i64 (.var 0)],heap:=[],ro:=[],pre:=fun _=>True,alts:=[{ k:=1,ret:=.one (.vbool (.var 1)),heap:=[],post:=fun ρ=>(ρ 1).b = qov (ρ 0).i }] }
def qcf (r:Nat):SH:=iHp r (r + 3) (r + 4)
def qbb (ρ:Env) (r:Nat):Prop:=(ρ (r + 1)).i = (ρ (r + 3)).d.length/\(ρ (r + 1)).i <= 1000000000000/\∀ row ∈ (ρ (r + 3)).d,row.length = 1
def qeE (l:List Bool) (L:List Int):Prop:=l.length = 16/\∀ j:Nat,j < 16->(l.getD j false = true↔(j:Int) ∈ L)
def qdS:Ctr:={ fn := 82,nv:=5,args:=[bS 0],heap:=[],ro:=[qcf 0],pre:=fun ρ=>qbb ρ 0,alts:=[
 { k:=16,ret:=b16 5,heap:=[],post:=fun ρ=>qeE [(ρ 5).b,(ρ 6).b,(ρ 7).b,(ρ 8).b,(ρ 9).b,(ρ 10).b,(ρ 11).b,(ρ 12).b,(ρ 13).b,(ρ 14).b,(ρ 15).b,(ρ 16).b,(ρ 17).b,(ρ 18).b,(ρ 19).b,(ρ 20).b] (qj (ρ 3).d) }] }
def qdo (s:qc) (l:List Int) (n:Nat):Prop:=(∃ row,s = [row]/\row.length = 16)/\∀ x:Int,0 <= x->x < 16->(qaS s x.toNat = true↔x ∈ l.take n)
def qqx:Inv:={ key:=2,nv:=3,env:=[(2,.one (.vptr 1000 (.lit 0) 16 0)),(5,bS 0),(6,iv .i64 (.var 1)),(7,iv .i64 (.var 1002))],heap:=[.arr 1000 157 qq4 (.var 1001) (.lit 1)],inv:=(fun ρ=>0 <= (ρ 1002).i/\(ρ 1002).i <= (ρ 1).i/\qdo (ρ 1001).d (qj (ρ 3).d) (ρ 1002).i.toNat),mu:=(fun ρ=>((ρ 1).i - (ρ 1002).i).toNat) }
def qM (o:List Int) (p:Int):List Int:=sha (o ++ [p % 256])
def qcm:Ctr:={ fn := 24,nv:=4,ip:=[gIp 2,(1005,9)],args:=[dgV 0,iv .i64 (.var 1)],heap:=[],ro:=[gHp 2 3],pre:=fun ρ=>qS (qf (ρ 0).d 32)/\gOk ρ 2 3 gR,alts:=[
 { k:=1,ret:=dgV 4,heap:=[],post:=fun ρ=>qf (ρ 4).d 32 = qM (qf (ρ 0).d 32) (ρ 1).i }] }
def rkV (p d:Nat):SV:=.agg (.vint .i64 (.var p) :: qbc .u8 d 32)
def qd6:Ctr:={ fn := 80,nv:=4,ip:=[gIp 2],args:=[dgV 0,iv .i64 (.var 1)],heap:=[],ro:=[gHp 2 3],pre:=fun ρ=>qS (qf (ρ 0).d 32)/\gOk ρ 2 3 gR,alts:=[
 { k:=2,ret:=.agg (.vint .i64 (.var 1) :: qbc .u8 4 32),heap:=[],post:=fun ρ=>qf (ρ 4).d 32 = qM (qf (ρ 0).d 32) (ρ 1).i }] }
def qb2:List Int->List Int->Int
 | [],[]=>0
 | [],_ :: _=>-1
 | _ :: _,[]=>1
 | a :: l,b :: m=>if a < b then -1 else if b < a then 1 else qb2 l m
def kRk:List CK:=.int .i64 :: List.replicate 32 (.int .u8)
def qjD:Ctr:={ fn := 118,nv:=4,args:=[.one (.vslice 0 (.lit 1) (.lit 32) (.lit 32) 1),.one (.vslice 1 (.lit 1) (.lit 32) (.lit 32) 1)],heap:=[],ro:=[.arr 0 153 kRk (.var 2) (.lit 1),.arr 1 153 kRk (.var 3) (.lit 1)],pre:=fun ρ=>qap (ρ 2).d 33/\qap (ρ 3).d 33/\qS ((qf (ρ 2).d 33).drop 1)/\qS ((qf (ρ 3).d 33).drop 1),alts:=[
 { k:=1,ret:=iv .i64 (.var 4),heap:=[],post:=fun ρ=>(ρ 4).i = qb2 ((qf (ρ 2).d 33).drop 1) ((qf (ρ 3).d 33).drop 1) }] }
def qc9:Ctr:={ fn := 81,nv:=4,args:=[rkV 0 1,rkV 2 3],heap:=[],ro:=[],pre:=fun ρ=>qS (qf (ρ 1).d 32)/\qS (qf (ρ 3).d 32),alts:=[
 { k:=1,ret:=iv .i64 (.var 4),heap:=[],post:=fun ρ=>(ρ 4).i = if qb2 (qf (ρ 1).d 32) (qf (ρ 3).d 32) = 0 then qd .sub .i64 (ρ 0).i (ρ 2).i else qb2 (qf (ρ 1).d 32) (qf (ρ 3).d 32) }] }
def qP (o:List Int) (a b:Int):Bool:=if qM o a = qM o b then decide (a < b) else decide (qb2 (qM o a) (qM o b) < 0)
def qbH:Ctr:={ fn := 26,nv:=5,ip:=[gIp 3],args:=[dgV 0,iv .i64 (.var 1),iv .i64 (.var 2)],heap:=[],ro:=[gHp 3 4],pre:=fun ρ=>qS (qf (ρ 0).d 32)/\gOk ρ 3 4 gR,alts:=[
 { k:=1,ret:=.one (.vbool (.var 5)),heap:=[],post:=fun ρ=>(ρ 5).b = qP (qf (ρ 0).d 32) (ρ 1).i (ρ 2).i }] }
end Go.Eng
