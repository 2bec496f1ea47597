/- Texts ZW, ZX, DS, DT, BT, BU, BV, BW, BX, BY, CA, CB, CC, CD, CE, CF, CG, CH, CI, CK, YA, CL, CM, ZLq, YF, W1, W2, W3, WD, CN, CO, YB, ZSq, YC, CP, W4, WC, YD, YE, YG, YK, W5, W6, YM, YR, CQ, CR, YS, W7, YU, YV, YW, CS, W9, V3, VT, VZ, VW, CT, CW, V4, VM, VU, WF, VV, WA, WE, VX, VY, WG, WH, WI, WN, CV, CX, WO, WQ, CY, E13, E14, FD, FE, FF, FG, PF. -/
import Derived.Test.YtelcnkclppkicaaGreatDoorG6
import Derived.Test.YtelcnkclppkicaaGreatDoorG4
import Derived.Test.YtelcnkclppkicaaGreatDoorG5
import Derived.Test.YtelcnkclppkicaaGreatDoorProg
import Derived.WalkKit
import Derived.ProofKit
import Derived.OpenShut
import Derived.Carry
import Derived.SizedLaws
set_option linter.unusedSimpArgs false
set_option linter.unusedVariables false
namespace Go.Proofs
open Go Go.Eng

theorem q45:qnL.ok Tryz.prog:=Ctr.ok_less q3z rfl rfl rfl rfl rfl (fun _ h=>h.1) fun ρ ρ' ai al hp hag hal hpost=>by
 match ai,hal with
 | 0,hal =>
  exfalso
  obtain rfl:=Option.some.inj hal
  obtain ⟨_,h2⟩:_/\(qa7 ((ρ'.upto 5) 2).i ((ρ'.upto 5) 3).i = true->(qch ((ρ'.upto 5) 2).i.toNat ((ρ'.upto 5) 3).i.toNat).2.2 < ((ρ'.upto 5) 2).i.toNat):=hpost
  have e2:(ρ'.upto 5) 2 = ρ 2:=by rw [Env.upto,if_pos (by omega)]; exact hag 2 (by decide)
  have e3:(ρ'.upto 5) 3 = ρ 3:=by rw [Env.upto,if_pos (by omega)]; exact hag 3 (by decide)
  rw [e2,e3] at h2
  obtain ⟨_,p2,p3⟩:=hp
  have:=h2 p2
  omega
 | 1,hal=>exact ⟨0,hal⟩
 | n + 2,hal=>cases hal
theorem qmt {k n:Nat} (hk:0 < k):n <= k * qD k n:=by
 unfold qD
 have h1:=Nat.div_add_mod (n + k - 1) k
 have h2:=Nat.mod_lt (n + k - 1) hk
 omega
theorem qmj {k n:Nat} (hk:0 < k):k * qD k n < n + k:=by
 unfold qD
 have h1:=Nat.div_add_mod (n + k - 1) k
 omega
theorem qmE {k n:Nat} (hk:0 < k):qD k n <= n:=by
 have h:=qmj (n:=n) hk
 by_cases h2:qD k n <= n
 ·exact h2
 ·have h3:k * (n + 1) <= k * qD k n:=Nat.mul_le_mul_left k (by omega)
  rw [Nat.mul_add,Nat.mul_one] at h3
  have h4:n * 1 <= k * n:=by rw [Nat.mul_comm k n]; exact Nat.mul_le_mul_left n hk
  omega
theorem qr1 {k:Int} {n:Nat} (hk:1 <= k):((n:Int) + k - 1).tdiv k = (qD k.toNat n:Nat):=by
 rw [Int.tdiv_eq_ediv_of_nonneg (by omega),qD,Int.natCast_ediv]
 congr 1 <;> omega
theorem qz5 {d x:qd} (h:x.length <= d.length):bI (qbw d 0 x) = bI x ++ (bI d).drop x.length:=by
 simp [qbw,bI,List.map_drop]
theorem quT {d x:qd} (hd:q9 d) (hx:q9 x):q9 (qbw d 0 x):=fun r hr=>by
 unfold qbw at hr
 rcases List.mem_append.1 hr with hr | hr
 ·rcases List.mem_append.1 hr with hr | hr
  ·simp at hr
  ·exact hx r hr
 ·exact hd r (List.mem_of_mem_drop hr)
theorem qzx {k total len lg cg:Int} {f dg data D:qd} (hf:qv f) (hs:qa7 k total = true) (h1:len <= 8192) (h2:len = data.length) (hB:q9 data) (hM:qM total k lg cg dg) (hG:bI dg = qcO k.toNat total.toNat) (hD:D = List.replicate total.toNat [.int .i64 0,.slice none 0 0]) :
  qnl k total len (qD k.toNat data.length:Nat) (k * (qD k.toNat data.length:Nat)) (k * (qD k.toNat data.length:Nat)) lg cg 0 f dg (qbw (List.replicate (k * (qD k.toNat data.length:Nat)).toNat [.int .u8 0]) 0 data) D data:=by
 obtain ⟨k1,k2,k3⟩:=qke.1 hs
 have hge:=qmt (k:=k.toNat) (n:=data.length) (by omega)
 have hle:=qmE (k:=k.toNat) (n:=data.length) (by omega)
 have hc:(k * (qD k.toNat data.length:Nat)).toNat = k.toNat * qD k.toNat data.length:=by rw [Int.toNat_mul (by omega) (by omega)]; simp
 have hc0:0 <= k * (qD k.toNat data.length:Nat):=Int.mul_nonneg (by omega) (by omega)
 refine ⟨hf,hs,h1,h2,hB,rfl,by omega,rfl,?_,quT qh0 hB,?_,hM,hG,by rw [hD,List.length_replicate],fun row hr=>by rw [hD] at hr; rw [List.eq_of_mem_replicate hr]; rfl,by omega,by omega⟩
 ·rw [qmu (by rw [List.length_replicate]; omega),List.length_replicate]; omega
 ·rw [qz5 (by rw [List.length_replicate]; omega),qk1,hc,qhN,bI_len,List.drop_replicate]; simp
theorem q0E {k total len l lf cf lg cg i:Int} {f dg df D data:qd} {v w:Value} (h:qnl k total len l lf cf lg cg i f dg df D data) (hi:i < total):qnl k total len l lf cf lg cg (i + 1) f dg df (qcc D i 0 [v,w]) data:=by
 obtain ⟨a1,a2,a3,a4,a5,a6,a7,a8,a9,a10,a11,a12,a13,a14,a17,a15,a16⟩:=h
 refine ⟨a1,a2,a3,a4,a5,a6,a7,a8,a9,a10,a11,a12,a13,by rw [qeR]; exact a14,fun row hr=>?_,by omega,by omega⟩
 unfold qcc at hr
 rcases List.mem_or_eq_of_mem_set hr with hr | rfl
 ·exact a17 row hr
 ·have hl:i.toNat < D.length:=by omega
  have:=a17 _ (List.getElem_mem hl)
  rw [List.getElem?_eq_getElem hl,Option.getD_some,qko (by rw [this]; simp),this]
theorem q6n {k total len l lf cf lg cg i:Int} {f f' dg df D data:qd} (h:qnl k total len l lf cf lg cg i f dg df D data) (hf:qv f'):qnl k total len l lf cf lg cg i f' dg df D data:=⟨hf,h.2⟩
theorem qjV {h h':Hp} {D:qd} {n:Nat} {f:Nat->List Int} (he:qfl h D n f) (hl:Hp.le h h'):qfl h' D n f:=fun j hj=>by
 obtain ⟨v,d,e1,e2,e3⟩:=he j hj
 exact ⟨v,d,e1,qiD e2 hl,e3⟩
theorem qx6 {h h':Hp} {D:qd} {i:Int} {f:Nat->List Int} {v:Value} {d:qd} (he:qfl h D i.toNat f) (hl:Hp.le h h') (h0:0 <= i) (hi:i.toNat < D.length) (hc:(D[i.toNat]?.getD []).length = 2) (hr:Rd h' kB v d) (hd:bI d = f i.toNat) (hB:q9 d) :
  qfl h' (qcc D i 0 [.int .i64 i,v]) (i.toNat + 1) f:=fun j hj=>by
 by_cases hji:j = i.toNat
 ·subst hji
  refine ⟨v,d,?_,hr,hd,hB⟩
  have hs:qa5 (D[i.toNat]?.getD []) 0 [.int .i64 i,v] = [.int .i64 i,v]:=by
   simp only [qa5,List.take_zero,List.nil_append]
   rw [List.drop_eq_nil_of_le (by rw [hc]; exact Nat.le_refl _),List.append_nil]
  rw [qcc,List.getElem?_set_self hi,hs,Int.toNat_of_nonneg h0]
 ·obtain ⟨v',d',e1,e2,e3⟩:=he j (by omega)
  exact ⟨v',d',by rw [qcc,List.getElem?_set_ne (by omega)]; exact e1,qiD e2 hl,e3⟩
set_option maxRecDepth 20000 in
set_option pp.deepTerms true in
set_option pp.maxSteps 1000000 in
theorem qvS:qbR.ok Tryz.prog:=qvT (by simp [qpc,qoA,q45,qnz,qn1]) fun ρ hg hp=>by
 obtain ⟨hf,hl,hB,hrk⟩:=hp
 have hne:=(qbU hf).1
 simp (config:={ maxSteps:=4000000 }) [qjJ,qbR,qkY,ql1,qbj,qbe,qnL,qfA,qbr,qbq]
 refine ⟨fun h=>(hne h).elim,fun _ v _ hv=>⟨fun hb=>⟨hf,by rw [<- hv]; exact hb⟩,fun hb=>?_⟩⟩
 have hsz:qa7 (ρ 2).i (ρ 3).i = true:=by rw [<- hv]; exact hb
 obtain ⟨k1,k2,k3⟩:=qke.1 hsz
 refine ⟨by omega,fun h=>⟨hf,hsz,h⟩,fun hle l _ e _ _ hpl=>?_⟩
 have hnb:¬ qeO (ρ 2).i (ρ 5).i:=by unfold qeO; omega
 obtain ⟨hpl1,_⟩:=hpl hnb
 rw [hl,qr1 k1] at hpl1
 have hge:=qmt (k:=(ρ 2).i.toNat) (n:=(ρ 7).d.length) (by omega)
 have hlt:=qmj (k:=(ρ 2).i.toNat) (n:=(ρ 7).d.length) (by omega)
 have hkl:(ρ 2).i * l.i = (((ρ 2).i.toNat * qD (ρ 2).i.toNat (ρ 7).d.length:Nat):Int):=by rw [hpl1,Int.natCast_mul,Int.toNat_of_nonneg (by omega)]
 rw [qc4 (by omega) (by omega)]
 have hmax:max ((ρ 2).i * l.i) 0 = (ρ 2).i * l.i:=by omega
 refine ⟨by omega,by omega,fun u3 _=>⟨by omega,by omega,fun u4 _=>⟨⟨hf,hsz,hrk hsz⟩,fun u5 _ lg _ cg _ f1 _ dg _ ab _ hf1 _ hM _ hG u11 _=>⟨by omega,by omega,fun u12 _=>⟨⟨?_,fun j hj=>by omega⟩,?_⟩⟩⟩⟩⟩
 ·have htake:(((ρ 7).d.take (ρ 5).i.toNat).take (if (ρ 5).i < (ρ 2).i * l.i then (ρ 5).i else (ρ 2).i * l.i).toNat) = (ρ 7).d:=by
   rw [List.take_of_length_le (l:=(ρ 7).d) (by omega),List.take_of_length_le (by split <;> omega)]
  rw [htake,hpl1]
  exact qzx hf1 hsz hle hl hB hM hG rfl
 intro l2 _ u14 _ lf _ cf _ u17 _ u18 _ u19 _ i _ f2 _ u22 _ lg2 _ cg2 _ dg2 _ df2 _ D2 _ ab2 _ hW hE
 refine ⟨fun hi=>?_,fun hi u29 _ hst=>?_⟩
 ·have hW':=hW
  obtain ⟨a1,a2,a3,a4,a5,a6,a7,a8,a9,a10,a11,a12,a13,a14,a17,a15,a16⟩:=hW'
  refine ⟨by omega,by omega,fun u29 _=>⟨⟨a15,hi,a12.1⟩,fun o _ n _ c _ ho hn hc=>⟨by omega,⟨hW,hE,hi,ho,hn,by omega,qh0,?_⟩,?_⟩⟩⟩
  ·rw [qk1]; rfl
  intro l3 _ u34 _ lf3 _ cf3 _ u37 _ u38 _ u39 _ i3 _ f3 _ u42 _ lg3 _ cg3 _ dg3 _ df3 _ D3 _ ab3 _ rp _ cp _ pd _ o3 _ n3 _ c3 _ j _ hW3 hE3 hii hi3 ho3 hn3 j0 j1 hpl hpB hp3
  have hW3':=hW3
  obtain ⟨b1,b2,b3,b4,b5,b6,b7,b8,b9,b10,b11,b12,b13,b14,b17,b15,b16⟩:=hW3'
  obtain ⟨⟨m1,m2,m3,m4,m5,m6,m7,m8⟩,m9⟩:=b12
  have hl0:0 <= l3.i:=by omega
  refine ⟨fun hj=>?_,fun hj=>?_⟩
  ·have hjk:j.i < (ρ 2).i:=by omega
   have hbo:=qaj (x:=i3.i) (y:=(ρ 2).i) b15 (show i3.i <= 255 by omega) (by omega) (show (ρ 2).i <= 255 by omega)
   have hbj:=qaj (x:=j.i) (y:=l3.i) j0 (show j.i <= 255 by omega) hl0 b7
   have hltG:i3.i * (ρ 2).i + j.i < (ρ 3).i * (ρ 2).i:=by
    have:=Int.mul_le_mul_of_nonneg_right (show i3.i + 1 <= (ρ 3).i by omega) (show 0 <= (ρ 2).i by omega)
    rw [Int.add_mul,Int.one_mul] at this; omega
   have he:(j.i + 1) * l3.i = j.i * l3.i + l3.i:=by rw [Int.add_mul,Int.one_mul]
   have hltF:j.i * l3.i + l3.i <= (ρ 2).i * l3.i:=by
    have:=Int.mul_le_mul_of_nonneg_right (show j.i + 1 <= (ρ 2).i by omega) hl0
    omega
   have hcell:=qcT m8 (i:=o3.i + j.i) (by omega) (by omega)
   rw [add64 (by omega) (by omega),qc4 (by omega) (by omega),qc4 (by omega) (by omega),he]
   refine ⟨j0,by omega,by omega,by omega,fun hcap=>⟨by omega,by omega,hbj.1,by omega,by omega,⟨b1,⟨by omega,hl0,by omega,by unfold Go.Eng.big; omega⟩,⟨by split <;> omega,by omega,by split <;> omega,by unfold Go.Eng.big; omega⟩,by omega,hpB,b10,hcell⟩,fun f4 _ d4 _ hf4 hl4 hB4 he4=>?_⟩⟩
   refine ⟨⟨q6n hW3 hf4,hE3,hii,hi3,ho3,hn3,by omega,by omega,by omega,hB4,?_⟩,by omega⟩
   have hsg:seg (bI df3.d) (if cf3.i = j.i * l3.i then 0 else j.i * l3.i).toNat (j.i * l3.i + l3.i - j.i * l3.i).toNat = seg (bI df3.d) (j.i.toNat * l3.i.toNat) l3.i.toNat:=by
    rw [show j.i * l3.i + l3.i - j.i * l3.i = l3.i by omega]
    split
    ·have:l3.i.toNat = 0:=by omega
     rw [this]; simp [seg]
    ·rw [Int.toNat_mul j0 hl0]
   have hgd:(bI dg3.d).getD (i3.i.toNat * (ρ 2).i.toNat + j.i.toNat) 0 = qh dg3.d (o3.i + j.i) 0:=by
    have:=qg2 (d:=dg3.d) (i:=o3.i + j.i) (by omega) (by omega)
    rw [show (o3.i + j.i).toNat = i3.i.toNat * (ρ 2).i.toNat + j.i.toNat by rw [ho3,Int.toNat_add hbo.1 j0,Int.toNat_mul b15 (by omega)]] at this
    rw [List.getD_eq_getElem?_getD,this]; rfl
   rw [he4,hp3,hsg,show (j.i + 1).toNat = j.i.toNat + 1 by omega,qbY,hgd]
  ·have hjk:j.i = (ρ 2).i:=by omega
   refine ⟨b15,hi3,by omega,fun u56 _ hst=>?_⟩
   rw [add64 (by omega) (by omega)]
   refine ⟨⟨q0E hW3 hi3,?_⟩,by omega⟩
   obtain ⟨ha,la,da⟩:=qj7 hst (List.mem_cons_self ..)
   obtain ⟨hb,lb,db⟩:=qck hst (n:=57) (t:=2) (by simp)
   have hr:=qzw (n:=l3.i.toNat) (k:=cp.i.toNat) da la (by simp; omega) (by simp)
   have hr:Rd u56.h kB (.slice (qm rp.r 0) l3.i.toNat cp.i.toNat) pd.d:=by simpa [kB] using hr
   have hdl:i3.i.toNat < D3.d.length:=by omega
   rw [show (i3.i + 1).toNat = i3.i.toNat + 1 by omega]
   refine qx6 hE3 (Hp.le_trans (by simpa using db) lb) b15 hdl (by rw [List.getElem?_eq_getElem hdl]; exact b17 _ (List.getElem_mem hdl)) hr ?_ hpB
   rw [hp3,qd0,hjk,b13,b11,bI_len]
   rw [show l3.i.toNat = qD (ρ 2).i.toNat (ρ 7).d.length by omega]
 ·obtain ⟨a1,a2,a3,a4,a5,a6,a7,a8,a9,a10,a11,a12,a13,a14,a17,a15,a16⟩:=hW
  obtain ⟨hb,lb,db⟩:=qck hst (n:=37) (t:=2) (by simp)
  refine ⟨a1,hsz,hle,a14,?_⟩
  rw [show i.i.toNat = (ρ 3).i.toNat by omega] at hE
  exact qjV hE (Hp.le_trans (by simpa using db) lb)
end Go.Proofs

set_option linter.unusedSimpArgs false
set_option linter.unusedVariables false
namespace Go.Proofs
open Go Go.Eng

end Go.Proofs

set_option linter.unusedSimpArgs false
set_option linter.unusedVariables false
namespace Go.Proofs
open Go Go.Eng
theorem qqD:qbE.ok Tryz.prog:=q0i (by simp) fun ρ hg hp=>by
 simp [qnm,qbE]
 refine ⟨fun h1=>⟨fun h2=>⟨fun h3=>?_,fun h3=>?_⟩,fun h2=>?_⟩,fun h1=>?_⟩
 ·simp [qbf,h1,h2,h3,qF]
 ·simp [qbf]; omega
 ·simp [qbf]; omega
 ·simp [qbf]; omega
set_option maxRecDepth 20000 in
theorem qrn:qbL.ok Tryz.prog:=qzR (by simp [qqD]) fun ρ hg hp=>by
 have hp:0 <= (ρ 6).i:=hp
 simp [qnf,qbL,qbE,qG,qnv,qix,qbb]
 refine fun u _ hu=>⟨fun h hs=>by (rw [hu,hs] at h; cases h),fun h=>⟨fun a _ b=>by omega,fun a=>⟨fun b _ _ c=>by omega,fun b=>⟨hp,fun c _ _ _=>c,fun c=>⟨by rw [<- hu,h],a,b,c⟩⟩⟩⟩⟩
theorem q7y {x:Int}:qc .shr .i64 x 8 = x.fdiv 256:=rfl
set_option maxRecDepth 20000 in
theorem qnP:qbi.ok Tryz.prog:=qym (by simp [qov,qsF,q0P]) fun ρ hg hp=>by
 obtain ⟨o0,l0,lc,l1,hle,hB,hGr,hGd⟩:=hp
 simp (config:={ maxSteps:=2000000 }) [qk5,qbi,qbh,qcu,qfy,gOk]
 have hseg:qce [[.int .u8 (IntKind.u8.wrap (qc .shr .i64 (ρ 0).i 8))],[.int .u8 (IntKind.u8.wrap (ρ 0).i)]] 0 2 = qbW (ρ 0).i:=by
  rw [q7y,qhO,qhO]; rfl
 refine fun h _ hh=>⟨⟨⟨[],hh,by decide⟩,?_,hGr,hGd⟩,fun g _ hg1=>?_⟩
 ·intro row hr
  simp at hr
  rcases hr with rfl | rfl
  ·simp [qb9,qaf,qhO]; omega
  ·simp [qb9,qaf,qhO]; omega
 ·rw [hseg] at hg1
  have h1:=hg1 [] hh
  refine ⟨⟨⟨_,h1,by simp [qbW]⟩,o0,l0,lc,by omega,hle,hB,hGr,hGd⟩,fun k _ hk=>⟨⟨⟨_,hk _ h1,?_⟩,hGr,hGd⟩,fun d _ hd=>?_⟩⟩
  ·have:(qce (ρ 5).d (ρ 2).i (ρ 3).i).length <= (ρ 3).i.toNat:=by simp [qce]; omega
   simp [qbW]; omega
  ·exact (show qf _ 32 = qf d.d 32 from rfl).trans (hd _ (hk _ h1))
theorem qeQ {lim:Int} {b:Bool} {x m s:List Int} (h:(b,x) = qf7 lim false m s) (hf:(m.length:Int) + s.length <= lim):b = false/\x = m ++ s:=by
 rw [qj6 (by simp [qgc]; omega)] at h
 simpa using h
theorem q6z {x:Int}:IntKind.u16.wrap x = x % 65536:=by simp [IntKind.wrap,IntKind.bits,IntKind.signed]
theorem q4p {d:qd} {i:Nat} (h:i < d.length):qf [qep (qh d i)] 32 = qgB d[i]:=by
 refine List.map_congr_left fun j hj=>?_
 rw [qmy (List.mem_range.1 hj)]
 simp [qh,qal,qb9,h]
theorem qsw {d:qd} {i:Nat} (h:i < d.length):((dgs d).take (i + 1)).flatten = ((dgs d).take i).flatten ++ qgB d[i]:=by
 rw [List.take_add_one,List.getElem?_eq_getElem (by simpa [dgs] using h)]
 simp [dgs]
set_option maxRecDepth 20000 in
set_option maxHeartbeats 800000 in
theorem q0s:qdq.ok Tryz.prog:=q0f (by simp [qrn,qsh,q6P,q6o,q43,q2U,q1V]) fun ρ hg hp=>by
 obtain ⟨l0,hl,ho,hd⟩:=hp
 simp (config:={ maxSteps:=2000000 }) [qne,qdq,qqj,qbL,qb7,u8C,qi4,qoT,qgd,qe2,qez,qbP,qeB,qgq]
 refine ⟨l0,fun e _ he=>⟨fun hne=>?_,fun hz lim _ hlim=>?_⟩⟩
 ·by_cases h:qG (ρ 0).i (ρ 1).i (ρ 2).i (ρ 3).i (ρ 6).i = true
  ·rw [if_pos h] at he; exact absurd he hne
  ·rw [if_neg h] at he; exact ⟨he.symm,by simpa using h⟩
 ·have hok:qG (ρ 0).i (ρ 1).i (ρ 2).i (ρ 3).i (ρ 6).i = true:=by
   by_cases h:qG (ρ 0).i (ρ 1).i (ρ 2).i (ρ 3).i (ρ 6).i = true
   ·exact h
   ·rw [if_neg h] at he; omega
  have hb:=hok
  simp [qG,qbf] at hb
  obtain ⟨⟨b1,b2,b3,b4⟩,b5,b6,b7⟩:=hb
  have hl2:lim.i = 39 + 32 * (ρ 2).i:=by
   rw [hlim,qc4 (by omega) (by omega),add64 (by omega) (by omega)]; omega
  clear hlim
  simp only [qhO,q6z]
  have hman:List.drop 4 (qf [([.int .i64 (ρ 0).i,.int .i64 (ρ 1).i,.int .i64 (ρ 2).i,.int .i64 (ρ 3).i] ++ (qep (qa (ρ 4).d) ++ [.slice (qm (ρ 5).r 0) (ρ 6).i.toNat (ρ 7).i.toNat]):List Value)] 36) = qf (ρ 4).d 32:=rfl
  have hone:qam [([.int .i64 (ρ 0).i,.int .i64 (ρ 1).i,.int .i64 (ρ 2).i,.int .i64 (ρ 3).i] ++ (qep (qa (ρ 4).d) ++ [.slice (qm (ρ 5).r 0) (ρ 6).i.toNat (ρ 7).i.toNat]):List Value)] 37:=⟨_,rfl,by simp [qep]⟩
  have hlen:∀ {l n c:Int} {d:qd},wOk l n c d->n = ((bI d).length:Int):=fun h=>by rw [bI_len]; exact h.2.2.1
  refine ⟨⟨by omega,by omega,rfl,by omega,by intro r hr; cases hr⟩,fun f1 _ n1 _ c1 _ d1 _ w1 g1=>?_⟩
  obtain ⟨y1,x1⟩:=qeQ g1 (by rw [hl2]; simp [bI,qaC]; omega)
  have L1:(bI d1.d).length = 2:=by rw [x1]; simp [bI,qaC]
  have q1:=hlen w1
  refine ⟨⟨w1,by omega,by omega,by omega⟩,fun f2 _ n2 _ c2 _ d2 _ w2 g2=>?_⟩
  rw [y1] at g2
  obtain ⟨y2,x2⟩:=qeQ g2 (by rw [hl2,L1,qaC]; omega)
  have L2:(bI d2.d).length = 3:=by rw [x2,List.length_append,L1,qaC]
  have q2:=hlen w2
  refine ⟨⟨w2,by omega,by omega,by omega⟩,fun f3 _ n3 _ c3 _ d3 _ w3 g3=>?_⟩
  rw [y2] at g3
  obtain ⟨y3,x3⟩:=qeQ g3 (by rw [hl2,L2,qaC]; omega)
  have L3:(bI d3.d).length = 4:=by rw [x3,List.length_append,L2,qaC]
  have q3:=hlen w3
  refine ⟨⟨w3,by omega,by omega,by omega⟩,fun f4 _ n4 _ c4 _ d4 _ w4 g4=>?_⟩
  rw [y3] at g4
  obtain ⟨y4,x4⟩:=qeQ g4 (by rw [hl2,L3,qaC]; omega)
  have L4:(bI d4.d).length = 5:=by rw [x4,List.length_append,L3,qaC]
  have q4:=hlen w4
  refine ⟨⟨w4,by omega,by omega,by omega⟩,fun f5 _ n5 _ c5 _ d5 _ w5 g5=>?_⟩
  rw [y4] at g5
  obtain ⟨y5,x5⟩:=qeQ g5 (by rw [hl2,L4,qaC]; omega)
  have L5:(bI d5.d).length = 7:=by rw [x5,List.length_append,L4,qaC]
  have q5:=hlen w5
  refine ⟨⟨w5,by omega,hone,?_⟩,fun f6 _ n6 _ c6 _ d6 _ w6 g6=>?_⟩
  ·have:=hman
   exact this ▸ ho
  have g6':(f6.b,bI d6.d) = qf7 lim.i f5.b (bI d5.d) (qf (ρ 4).d 32):=g6
  rw [y5] at g6'
  obtain ⟨y6,x6⟩:=qeQ g6' (by rw [hl2,L5,qdk]; omega)
  have hhead:bI d6.d = qaE (ρ 0).i (ρ 1).i (ρ 2).i (ρ 3).i (qf (ρ 4).d 32):=by
   rw [x6,x5,x4,x3,x2,x1]
   simp [qaE,bI,List.append_assoc]
  refine ⟨l0,⟨hok,l0,hl2,y6,w6,hhead⟩,fun lim2 _ f _ n _ c _ d _ t _ _ t0 t1 z1 z2 z3 z4=>⟨fun hlt=>?_,fun hge=>?_⟩⟩
  ·obtain ⟨T,hT⟩:∃ T:Nat,t.i = T:=⟨t.i.toNat,by omega⟩
   have m1:qc .add .i64 t.i 1 = ((T + 1:Nat):Int):=by rw [add64 (by omega) (by omega)]; omega
   have hTl:T < (ρ 8).d.length:=by omega
   have hrow:=q4p hTl
   have hnl:n.i = 39 + 32 * t.i:=by
    have h1:=hlen z3
    rw [z4,List.length_append] at h1
    have h2:∀ (k:Nat),k <= (ρ 8).d.length->((dgs (ρ 8).d).take k).flatten.length = 32 * k:=fun k=>by
     induction k with
     | zero=>intro _; simp
     | succ k ih=>intro hk; rw [qsw (by omega),List.length_append,ih (by omega)]; simp [qgB]; omega
    rw [h2 _ (by omega)] at h1
    have h3:(qaE (ρ 0).i (ρ 1).i (ρ 2).i (ρ 3).i (qf (ρ 4).d 32)).length = 39:=by simp [qaE,qaC,qdk]
    omega
   rw [hT] at z4 hnl ⊢
   rw [<- hT,m1,hT]
   refine ⟨by omega,by omega,⟨z3,by omega,⟨_,rfl,rfl⟩,?_⟩,fun f7 _ n7 _ c7 _ d7 _ w7 g7=>?_⟩
   ·have h1:qR (qgB (ρ 8).d[T]):=(hd _ (List.getElem_mem hTl)).2
    rw [<- hrow] at h1
    exact h1
   ·have g7':(f7.b,bI d7.d) = qf7 lim2.i f.b (bI d.d) (qf [qep (qh (ρ 8).d T)] 32):=g7
    rw [z2,hrow] at g7'
    have hbl:(qgB (ρ 8).d[T]).length = 32:=by simp [qgB]
    obtain ⟨y7,x7⟩:=qeQ g7' (by rw [<- hlen z3,hbl]; omega)
    refine ⟨⟨hok,by omega,by omega,z1,y7,w7,?_⟩,by omega⟩
    rw [x7,z4]
    simp only [Int.toNat_natCast]
    rw [qsw hTl,List.append_assoc]
  ·have ht:t.i.toNat = (ρ 8).d.length:=by omega
   rw [ht] at z4
   rw [List.take_of_length_le (by simp [dgs])] at z4
   refine ⟨⟨z3,?_⟩,z2,fun e _ _ he=>⟨hok,by rw [he]; exact z3.2.2.1,by rw [he]; exact z3.2.2.2.2,by rw [he]; exact z4⟩⟩
   have:=z3.2.2.2.1
   omega
end Go.Proofs

set_option linter.unusedSimpArgs false
set_option linter.unusedVariables false
namespace Go.Proofs
open Go Go.Eng
theorem qfJ (m:List Int):qR (sha m):=fun x hx=>by
 obtain ⟨j,_,rfl⟩:=List.mem_map.1 hx
 omega
theorem qzb {f:Nat->List Int} {n:Nat}:(qdo f n).length = n:=by simp [qdo]
theorem qoK {g full:List Int} {k l i:Nat}:∀ j,(qbY g full k l i j).length = l
 | 0=>by simp [qbY]
 | j + 1=>by rw [qbY,qcy,qoK j]
theorem q26 {k total:Nat} {data:List Int} {i:Nat}:(qd0 k total data i).length = qD k data.length:=qoK k
theorem q1J {d:qd} {r:List Value}:dgs (d ++ [r]) = dgs d ++ [qgB r]:=by simp [dgs]
theorem qvB {f:Nat->List Int} {n:Nat}:qdo f (n + 1) = qdo f n ++ [sha (qbW n ++ f n)]:=by simp [qdo,List.range_succ]
theorem q4r {d:qd}:qgB (qep (qa d)) = qf d 32:=rfl
set_option maxRecDepth 20000 in
set_option maxHeartbeats 1600000 in
theorem qwE:qgn.ok Tryz.prog:=qpu (by simp [qqD,qvS,qlH,qnP]) fun ρ hg hp=>by
 obtain ⟨hf,hl,hlc,hB,⟨hGr,hGd⟩,htop⟩:=hp
 simp (config:={ maxSteps:=2000000 }) [qty,qgn,qxc,qbE,qbR,qaK,qbi,gOk,qlU]
 have hnn:=qbU hf
 refine fun u _=>⟨fun h=>absurd h hnn.1,fun _ b _ hb=>⟨fun hz=>⟨hf,by rw [<- hb]; exact hz⟩,fun hz=>?_⟩⟩
 rw [hz] at hb
 have hs3:=hb.symm
 have hs3':=hs3
 simp [qbf] at hs3'
 obtain ⟨b1,b2,b3,b4⟩:=hs3'
 have hsB:qa7 (ρ 2).i (ρ 4).i = true:=by simp [qa7]; omega
 have hsz:qa7 (ρ 2).i (ρ 4).i = false->False:=fun h=>by rw [hsB] at h; cases h
 refine ⟨⟨hf,hl,hB,htop⟩,fun e _ f _ hf2 he=>⟨fun hne=>⟨hf2,?_⟩,fun hz2=>?_⟩,fun _ _ _ _ f _ P _ ab _ hf2 _ hle hPl hE=>⟨by omega,⟨⟨by omega,hlc,by omega,by omega,hB⟩,hGr,hGd⟩,fun o _ ho _ _=>⟨by omega,⟨hf2,hs3,hle,by omega,hPl,hE,?_,?_,?_⟩,fun _ _ _ _ _ _ o2 _ _ _ t _ _ _ Ds _ P2 _ _ _ f2 _ ab2 _ hf3 _ _ t0 t1 hPl2 hE2 ho2 hDl hDo hDm=>⟨fun hlt=>?_,fun hge=>?_⟩⟩⟩⟩
 ·rcases he with ⟨h,_⟩ | ⟨_,h1,h2⟩
  ·exact (hsz h).elim
  ·exact .inr ⟨hs3,h1,h2⟩
 ·rcases he with ⟨h,_⟩ | ⟨_,h1,h2⟩
  ·exact (hsz h).elim
  ·omega
 ·rw [qjA hl] at ho
  exact ho
 ·intro r hr; cases hr
 ·rfl
 ·obtain ⟨T,hT⟩:∃ T:Nat,t.i = T:=⟨t.i.toNat,by omega⟩
  have m1:qc .add .i64 t.i 1 = ((T + 1:Nat):Int):=by rw [add64 (by omega) (by omega)]; omega
  obtain ⟨v,d,e1,e2,e3,e4⟩:=hE2 T (by omega)
  have hcv:qal P2.d t.i 1 = v:=by rw [hT]; simp [qal,e1]
  have hci:qh P2.d t.i 0 = (T:Int):=by rw [hT]; simp [qh,qal,e1,qaf]
  rw [m1,hcv,hci]
  have hdl:d.length <= (ρ 8).d.length:=by
   have h1:=congrArg List.length e3
   rw [bI_len,q26,bI_len] at h1
   have:=qmE (k:=(ρ 2).i.toNat) (n:=(ρ 8).d.length) (by omega)
   omega
  refine ⟨by omega,by omega,fun _ _=>⟨d,e2,fun r0 _ c1 _ hv hcl=>⟨⟨hcl,by omega,e4,hGr,hGd⟩,fun g _ hg2 _ _=>⟨by omega,by omega,fun _ _ _ _ ab3 _ hst=>⟨by omega,⟨hf3,hs3,hle,by omega,by omega,hPl2,?_,ho2,by omega,?_,?_⟩,by omega⟩⟩⟩⟩⟩
  ·obtain ⟨hb2,lb,db⟩:=qck hst (n:=32) (t:=2) (by simp)
   exact qjV hE2 (Hp.le_trans (by simpa using db) lb)
  ·intro r hr
   rcases List.mem_append.1 hr with hr | hr
   ·exact hDo r hr
   ·obtain rfl:=List.mem_singleton.1 hr
    refine ⟨rfl,?_⟩
    have:qR (qf g.d 32):=by rw [hg2]; exact qfJ _
    exact this
  ·have hh:dgs (Ds.d ++ [qep (qa g.d)]) = qdo (qd0 (ρ 2).i.toNat (ρ 4).i.toNat (bI (ρ 8).d)) (T + 1):=by
    rw [q1J,q4r,hg2,qjA rfl,e3,hDm,hT,Int.toNat_natCast,qvB]
   exact hh
 ·have ht:t.i = (ρ 4).i:=by omega
  refine fun ab3 _ hst=>⟨by omega,hf3,hs3,hle,hPl2,?_,ho2,hDo,by rw [hDm,ht]⟩
  obtain ⟨hb2,lb,db⟩:=qck hst (n:=32) (t:=2) (by simp)
  exact qjV hE2 (Hp.le_trans (by simpa using db) lb)
end Go.Proofs

set_option linter.unusedSimpArgs false
set_option linter.unusedVariables false
namespace Go.Proofs
open Go Go.Eng
set_option maxRecDepth 20000
end Go.Proofs

set_option linter.unusedSimpArgs false
set_option linter.unusedVariables false
namespace Go.Eng
open Go Go.Proofs
end Go.Eng

set_option linter.unusedSimpArgs false
set_option linter.unusedVariables false
set_option maxRecDepth 100000
namespace Go.Proofs
open Go Go.Eng

end Go.Proofs

set_option linter.unusedSimpArgs false
set_option linter.unusedVariables false
namespace Go.Proofs
open Go Go.Eng
set_option maxRecDepth 20000
end Go.Proofs

set_option linter.unusedSimpArgs false
set_option linter.unusedVariables false
namespace Go.Proofs
open Go Go.Eng
set_option maxRecDepth 20000
end Go.Proofs

set_option linter.unusedSimpArgs false
set_option linter.unusedVariables false
namespace Go.Eng
open Go Go.Proofs
end Go.Eng

set_option linter.unusedSimpArgs false
set_option linter.unusedVariables false
set_option maxRecDepth 100000
namespace Go.Proofs
open Go Go.Eng

end Go.Proofs

set_option linter.unusedSimpArgs false
set_option linter.unusedVariables false
namespace Go.Proofs
open Go Go.Eng
set_option maxRecDepth 20000
end Go.Proofs

set_option linter.unusedSimpArgs false
set_option linter.unusedVariables false
namespace Go.Eng
open Go Go.Proofs
end Go.Eng

set_option linter.unusedSimpArgs false
set_option linter.unusedVariables false
set_option maxRecDepth 100000
namespace Go.Proofs
open Go Go.Eng

end Go.Proofs

set_option linter.unusedSimpArgs false
set_option linter.unusedVariables false
namespace Go.Proofs
open Go Go.Eng
set_option maxRecDepth 20000
theorem q4e {D:qd}:(dgs D).length = D.length:=by simp [dgs]
end Go.Proofs

set_option linter.unusedSimpArgs false
set_option linter.unusedVariables false
namespace Go.Proofs
open Go Go.Eng
set_option maxRecDepth 20000
end Go.Proofs

set_option linter.unusedSimpArgs false
set_option linter.unusedVariables false
namespace Go.Eng
open Go Go.Proofs
def q3Z (ρ:Env) (r:Nat):Prop:=qkd (ρ r).i/\qkd (ρ (r + 1)).i/\qkd (ρ (r + 2)).i/\qkd (ρ (r + 3)).i/\qR (qf (ρ (r + 4)).d 32)/\(ρ (r + 6)).i = (ρ (r + 8)).d.length/\(ρ (r + 6)).i <= 4398046510976/\qfp (ρ (r + 8)).d
def qzk (ρ:Env):List Int:=qaE (ρ 0).i (ρ 1).i (ρ 2).i (ρ 3).i (qf (ρ 4).d 32) ++ (dgs (ρ 8).d).flatten
def qsp (ρ:Env):Bool:=qG (ρ 0).i (ρ 1).i (ρ 2).i (ρ 3).i (ρ 6).i
def qyE (ρ:Env):Prop:=(ρ 6).i = (ρ 8).d.length/\qR (qf (ρ 4).d 32)/\qfp (ρ 8).d
def qnQ:List Alt:=[
 { k:=2,ret:=.tup [(true,qbb .u8 12 32),qcB (.var 13)],heap:=[],post:=fun ρ=>(qsp ρ = false/\(ρ 13).i = 2/\qf (ρ 12).d 32 = List.replicate 32 0)∨(qsp ρ = true/\(ρ 13).i = 0/\qf (ρ 12).d 32 = sha (qzk ρ)) }]
def idC:Ctr:={ fn := 44,nv:=12,ip:=[gIp 10,(1005,9)],args:=[qnv],heap:=[],ro:=[qf4 5 8 9,gHp 10 11],pre:=fun ρ=>qyE ρ/\gOk ρ 10 11 gR,alts:=qnQ }
end Go.Eng

set_option linter.unusedSimpArgs false
set_option linter.unusedVariables false
set_option maxRecDepth 100000
namespace Go.Proofs
open Go Go.Eng

end Go.Proofs

set_option linter.unusedSimpArgs false
set_option linter.unusedVariables false
namespace Go.Proofs
open Go Go.Eng
set_option maxRecDepth 20000
theorem qc8 {l:List (List Int)} (h:∀ x ∈ l,x.length = 32):l.flatten.length = 32 * l.length:=by
 induction l with
 | nil=>rfl
 | cons x r ih =>
  rw [List.flatten_cons,List.length_append,h x (List.mem_cons_self ..),ih (fun y hy=>h y (List.mem_cons_of_mem _ hy)),List.length_cons]; omega
theorem qwt {l:List (List Int)} (h:∀ x ∈ l,x.length = 32):∀ {j:Nat} (hj:j < l.length),(l.flatten.drop (32 * j)).take 32 = l[j]:=by
 induction l with
 | nil=>intro j hj; simp at hj
 | cons x r ih =>
  intro j hj
  have hx:=h x (List.mem_cons_self ..)
  cases j with
  | zero=>simp [List.take_left' hx]
  | succ j =>
   rw [List.flatten_cons,show 32 * (j + 1) = x.length + 32 * j by omega,List.drop_length_add_append]
   exact ih (fun y hy=>h y (List.mem_cons_of_mem _ hy)) (by simpa using hj)
theorem q5z {D:qd}:∀ x ∈ dgs D,x.length = 32:=fun x hx=>by
 obtain ⟨r,_,rfl⟩:=List.mem_map.1 hx
 simp [qgB]
end Go.Proofs

set_option linter.unusedSimpArgs false
set_option linter.unusedVariables false
namespace Go.Proofs
open Go Go.Eng
def qrU (d:qd) (i:Int):List Int:=(List.range 32).map fun k=>qh d i k
@[simp high] theorem q7F (d:qd):qf [[.int .u8 (qa d 0),.int .u8 (qa d 1),.int .u8 (qa d 2),.int .u8 (qa d 3),.int .u8 (qa d 4),.int .u8 (qa d 5),.int .u8 (qa d 6),.int .u8 (qa d 7),.int .u8 (qa d 8),.int .u8 (qa d 9),.int .u8 (qa d 10),.int .u8 (qa d 11),.int .u8 (qa d 12),.int .u8 (qa d 13),.int .u8 (qa d 14),.int .u8 (qa d 15),.int .u8 (qa d 16),.int .u8 (qa d 17),.int .u8 (qa d 18),.int .u8 (qa d 19),.int .u8 (qa d 20),.int .u8 (qa d 21),.int .u8 (qa d 22),.int .u8 (qa d 23),.int .u8 (qa d 24),.int .u8 (qa d 25),.int .u8 (qa d 26),.int .u8 (qa d 27),.int .u8 (qa d 28),.int .u8 (qa d 29),.int .u8 (qa d 30),.int .u8 (qa d 31)]] 32 = qf d 32:=rfl
@[simp high] theorem q7B (d:qd) (i:Int):qf [[.int .u8 (qh d i 0),.int .u8 (qh d i 1),.int .u8 (qh d i 2),.int .u8 (qh d i 3),.int .u8 (qh d i 4),.int .u8 (qh d i 5),.int .u8 (qh d i 6),.int .u8 (qh d i 7),.int .u8 (qh d i 8),.int .u8 (qh d i 9),.int .u8 (qh d i 10),.int .u8 (qh d i 11),.int .u8 (qh d i 12),.int .u8 (qh d i 13),.int .u8 (qh d i 14),.int .u8 (qh d i 15),.int .u8 (qh d i 16),.int .u8 (qh d i 17),.int .u8 (qh d i 18),.int .u8 (qh d i 19),.int .u8 (qh d i 20),.int .u8 (qh d i 21),.int .u8 (qh d i 22),.int .u8 (qh d i 23),.int .u8 (qh d i 24),.int .u8 (qh d i 25),.int .u8 (qh d i 26),.int .u8 (qh d i 27),.int .u8 (qh d i 28),.int .u8 (qh d i 29),.int .u8 (qh d i 30),.int .u8 (qh d i 31)]] 32 = qrU d i:=rfl
@[simp high] theorem q7G (d:qd):([.int .u8 (qa d 0),.int .u8 (qa d 1),.int .u8 (qa d 2),.int .u8 (qa d 3),.int .u8 (qa d 4),.int .u8 (qa d 5),.int .u8 (qa d 6),.int .u8 (qa d 7),.int .u8 (qa d 8),.int .u8 (qa d 9),.int .u8 (qa d 10),.int .u8 (qa d 11),.int .u8 (qa d 12),.int .u8 (qa d 13),.int .u8 (qa d 14),.int .u8 (qa d 15),.int .u8 (qa d 16),.int .u8 (qa d 17),.int .u8 (qa d 18),.int .u8 (qa d 19),.int .u8 (qa d 20),.int .u8 (qa d 21),.int .u8 (qa d 22),.int .u8 (qa d 23),.int .u8 (qa d 24),.int .u8 (qa d 25),.int .u8 (qa d 26),.int .u8 (qa d 27),.int .u8 (qa d 28),.int .u8 (qa d 29),.int .u8 (qa d 30),.int .u8 (qa d 31)]:List Value).map qaf = qf d 32:=rfl
@[simp high] theorem q7C (d:qd) (i:Int):([.int .u8 (qh d i 0),.int .u8 (qh d i 1),.int .u8 (qh d i 2),.int .u8 (qh d i 3),.int .u8 (qh d i 4),.int .u8 (qh d i 5),.int .u8 (qh d i 6),.int .u8 (qh d i 7),.int .u8 (qh d i 8),.int .u8 (qh d i 9),.int .u8 (qh d i 10),.int .u8 (qh d i 11),.int .u8 (qh d i 12),.int .u8 (qh d i 13),.int .u8 (qh d i 14),.int .u8 (qh d i 15),.int .u8 (qh d i 16),.int .u8 (qh d i 17),.int .u8 (qh d i 18),.int .u8 (qh d i 19),.int .u8 (qh d i 20),.int .u8 (qh d i 21),.int .u8 (qh d i 22),.int .u8 (qh d i 23),.int .u8 (qh d i 24),.int .u8 (qh d i 25),.int .u8 (qh d i 26),.int .u8 (qh d i 27),.int .u8 (qh d i 28),.int .u8 (qh d i 29),.int .u8 (qh d i 30),.int .u8 (qh d i 31)]:List Value).map qaf = qrU d i:=rfl
@[simp high] theorem q7E:qf [[.int .u8 0,.int .u8 0,.int .u8 0,.int .u8 0,.int .u8 0,.int .u8 0,.int .u8 0,.int .u8 0,.int .u8 0,.int .u8 0,.int .u8 0,.int .u8 0,.int .u8 0,.int .u8 0,.int .u8 0,.int .u8 0,.int .u8 0,.int .u8 0,.int .u8 0,.int .u8 0,.int .u8 0,.int .u8 0,.int .u8 0,.int .u8 0,.int .u8 0,.int .u8 0,.int .u8 0,.int .u8 0,.int .u8 0,.int .u8 0,.int .u8 0,.int .u8 0]] 32 = List.replicate 32 0:=rfl
@[simp high] theorem q7D:([.int .u8 0,.int .u8 0,.int .u8 0,.int .u8 0,.int .u8 0,.int .u8 0,.int .u8 0,.int .u8 0,.int .u8 0,.int .u8 0,.int .u8 0,.int .u8 0,.int .u8 0,.int .u8 0,.int .u8 0,.int .u8 0,.int .u8 0,.int .u8 0,.int .u8 0,.int .u8 0,.int .u8 0,.int .u8 0,.int .u8 0,.int .u8 0,.int .u8 0,.int .u8 0,.int .u8 0,.int .u8 0,.int .u8 0,.int .u8 0,.int .u8 0,.int .u8 0]:List Value).map qaf = List.replicate 32 0:=rfl
theorem qzC {d:qd} {i:Int} (h0:0 <= i) (h1:i < d.length):qrU d i = (dgs d).getD i.toNat []:=by
 have hl:i.toNat < d.length:=by omega
 have h2:(dgs d).getD i.toNat [] = qgB d[i.toNat]:=by simp [dgs,hl]
 rw [h2]
 refine List.map_congr_left fun k hk=>?_
 simp [qh,qal,qb9,hl]
end Go.Proofs

set_option linter.unusedSimpArgs false
set_option linter.unusedVariables false
namespace Go.Eng
open Go

end Go.Eng

set_option linter.unusedSimpArgs false
set_option linter.unusedVariables false
namespace Go.Eng
open Go Go.Proofs
def qjX (r:Nat):SV:=.agg [.vint .i64 (.var r),.vslice (r + 1) (.lit 0) (.var (r + 2)) (.var (r + 3)) 1]
def qpI (r:Nat):SH:=bHp (r + 1) (r + 4) (r + 5)
def qgJ (ρ:Env) (r:Nat):Prop:=(ρ (r + 2)).i = (ρ (r + 4)).d.length/\(ρ (r + 2)).i <= (ρ (r + 3)).i/\(ρ (r + 2)).i <= 100000000/\q9 (ρ (r + 4)).d
def qec (k s:Int):Int:=(s + k - 1).tdiv k
def qcg (k n t s l:Int) (D:List (List Int)) (i:Int) (m:List Int):Int:=if qG k n t s l = false then 2 else if i < 0∨t <= i then 2 else if (m.length:Int) ≠ qec k s then 10 else if sha (qbW i ++ m) ≠ D.getD i.toNat [] then 20 else 0
def q1r (ρ:Env):Prop:=qkd (ρ 0).i/\qkd (ρ 3).i/\(ρ 6).i = (ρ 8).d.length/\qfp (ρ 8).d/\qgJ ρ 10
def qpT:List Alt:=[{ k:=1,ret:=iv .i64 (.var 18),heap:=[],post:=fun ρ=>(ρ 18).i = qcg (ρ 0).i (ρ 1).i (ρ 2).i (ρ 3).i (ρ 6).i (dgs (ρ 8).d) (ρ 10).i (bI (ρ 14).d) }]
def qdy:Ctr:={ fn := 60,nv:=18,ip:=[gIp 16],args:=[qnv,qjX 10],heap:=[],ro:=[qf4 5 8 9,qpI 10,gHp 16 17],pre:=fun ρ=>q1r ρ/\gOk ρ 16 17 gR,alts:=qpT }
end Go.Eng

set_option linter.unusedSimpArgs false
set_option linter.unusedVariables false
set_option maxRecDepth 100000
namespace Go.Proofs
open Go Go.Eng

@[simp] def quh:Sg:=sg 0 [bv 9 9,bv 8 8,bv 7 7,bv 6 6,bg 5 5,bv 3 3,bv 2 2,bv 1 1,bv 0 0,bt 4 (r8 4)]
def q2O:Out:=(.fresh 12 (.fresh 13 (.pre 0 quh (.both (.post 0 0 quh 14 (.ret 0 (sg 12 [bt 13 (.lit 2),bt 12 z8]))) (.both (.fresh 14 (.fresh 15 (.fresh 16 (.fresh 17 (.post 0 1 quh 14 (.know (.cmp .leq (.dlen (.var 17)) (.var 16)) (.pre 1 (sg 0 [bv 7 11,bv 5 16,bv 4 17,bv 3 16,bv 2 15,bt 1 (.lit 0),bg 0 14,bg 6 10]) (.both (.fresh 18 (.post 1 0 (sg 0 [bv 7 11,bv 5 16,bv 4 17,bv 3 16,bv 2 15,bt 1 (.lit 0),bg 0 14,bg 6 10]) 18 (.ret 0 (sg 12 [bt 13 (.lit 0),bt 12 (r8 18)])))) .top)))))))) .top)))))
theorem q4Z:qk ⟨Tryz.prog,idC,[qdq,qaK],[]⟩ 100000 Tryz.f44 = q2O:=by kernel_rfl
theorem q7d (hd:∀ c ∈ ([qdq,qaK]:List Ctr),c.ok Tryz.prog) (h:∀ ρ:Env,ρ.good->(idC).pre ρ->q2O.den ⟨Tryz.prog,idC,[qdq,qaK],[]⟩ ρ):(idC).ok Tryz.prog :=
 qe Tryz.func44 (fun a w=>Tryz.call44 a w) hd 100000 (fun ρ hg hp=>by rw [q4Z]; exact h ρ hg hp)
end Go.Proofs

set_option linter.unusedSimpArgs false
set_option linter.unusedVariables false
set_option maxRecDepth 100000
namespace Go.Proofs
open Go Go.Eng
theorem q4f:∀ i:Fin 255,qkS.getD (qhi.getD i.val 0).toNat 0 = i.val:=by decide +kernel
theorem q4D:∀ a:Fin 256,a.val ≠ 0->qhi.getD (qkS.getD a.val 0).toNat 0 = a.val:=by decide +kernel
theorem q4X:∀ i:Fin 255,qhi.getD (i.val + 255) 0 = qhi.getD i.val 0:=by decide +kernel
end Go.Proofs

set_option linter.unusedSimpArgs false
set_option linter.unusedVariables false
namespace Go.Proofs
open Go Go.Eng

abbrev F:=BitVec 8
def toF (x:Int):F:=BitVec.ofInt 8 x
def ofF (x:F):Int:=(x.toNat:Nat)
def isB (x:Int):Prop:=0 <= x/\x < 256
theorem qiU {x:F}:isB (ofF x):=⟨Int.natCast_nonneg _,by have:=x.isLt; unfold ofF; omega⟩
theorem qjc {x:F}:toF (ofF x) = x:=by
 unfold toF ofF
 apply BitVec.eq_of_toNat_eq
 rw [BitVec.toNat_ofInt]
 have:=x.isLt
 omega
theorem qrt {x:Int} (h:isB x):(toF x).toNat = x.toNat:=by
 obtain ⟨h0,h1⟩:=h
 unfold toF
 rw [BitVec.toNat_ofInt]
 omega
theorem qwy {x:Int} (h:isB x):ofF (toF x) = x:=by
 unfold ofF
 rw [qrt h]
 obtain ⟨h0,h1⟩:=h
 omega
theorem qqg {x y:Int} (hx:isB x) (hy:isB y) (h:toF x = toF y):x = y:=by rw [<- qwy hx,<- qwy hy,h]
theorem qsd:toF 0 = 0:=rfl
theorem qe9 {x:Int} (h:isB x):toF x = 0↔x = 0:=⟨fun e=>qqg h ⟨by omega,by omega⟩ e,fun e=>by rw [e]; rfl⟩
theorem q0C {x y:Int}:qh6 x y = ofF (toF x ^^^ toF y):=by
 have h:(BitVec.ofInt 8 x ^^^ BitVec.ofInt 8 y).toNat < 256:=(BitVec.ofInt 8 x ^^^ BitVec.ofInt 8 y).isLt
 unfold qh6 qc ofF toF
 show IntKind.u8.wrap _ = _
 have hb:IntKind.u8.bits = 8:=rfl
 rw [hb]
 generalize (BitVec.ofInt 8 x ^^^ BitVec.ofInt 8 y).toNat = z at h ⊢
 simp only [IntKind.wrap,IntKind.bits,IntKind.signed]
 simp
 omega
theorem qjU {x y:Int}:toF (qh6 x y) = toF x ^^^ toF y:=by rw [q0C,qjc]

def qbs (n:Nat):F:=BitVec.ofNat 8 (qhi.getD (n % 255) 0).toNat
def qeq (x:F):Nat:=(qkS.getD x.toNat 0).toNat
def qg (x y:F):F:=if x = 0∨y = 0 then 0 else qbs (qeq x + qeq y)
def qeu (x:F):F:=if x = 0 then 0 else qbs (255 - qeq x)
theorem qus {n:Nat}:qbs (n % 255) = qbs n:=by unfold qbs; rw [Nat.mod_mod]
theorem qjC {n m:Nat} (h:n % 255 = m % 255):qbs n = qbs m:=by rw [<- qus,h,qus]
theorem qgK {n:Nat}:(qbs n).toNat = (qhi.getD (n % 255) 0).toNat:=by
 have h:=qf5 ⟨n % 255,by omega⟩
 simp only at h
 unfold qbs
 rw [BitVec.toNat_ofNat]
 omega
theorem qmc {n:Nat}:qbs n ≠ 0:=fun h=>by
 have h1:=congrArg BitVec.toNat h
 rw [qgK] at h1
 have h2:=qf5 ⟨n % 255,by omega⟩
 simp only at h2
 rw [show (0:F).toNat = 0 by rfl] at h1
 omega
theorem qfF {x:F}:qeq x < 255:=by
 have:=qj4 ⟨x.toNat,x.isLt⟩
 simp only at this
 unfold qeq
 omega
theorem qho {x:F} (h:x ≠ 0):qbs (qeq x) = x:=by
 apply BitVec.eq_of_toNat_eq
 have h0:x.toNat ≠ 0:=fun e=>h (BitVec.eq_of_toNat_eq (by rw [e]; rfl))
 have h1:=q4D ⟨x.toNat,x.isLt⟩ h0
 simp only at h1
 rw [qgK,Nat.mod_eq_of_lt qfF,qeq,h1]
 omega
theorem qsr {n:Nat}:qeq (qbs n) = n % 255:=by
 have h:=q4f ⟨n % 255,by omega⟩
 simp only at h
 unfold qeq
 rw [qgK,h]
 omega
theorem qih:qbs 0 = 1:=by decide
theorem qad {x y:F}:qg x y = qg y x:=by
 unfold qg
 by_cases hx:x = 0
 ·simp [hx]
 ·by_cases hy:y = 0
  ·simp [hy]
  ·rw [if_neg (not_or.2 ⟨hx,hy⟩),if_neg (not_or.2 ⟨hy,hx⟩),Nat.add_comm]
theorem q6 {x:F}:qg x 0 = 0:=by simp [qg]
theorem qA {x:F}:qg 0 x = 0:=by simp [qg]
theorem qwG {x y:F} (hx:x ≠ 0) (hy:y ≠ 0):qg x y = qbs (qeq x + qeq y):=by rw [qg,if_neg (not_or.2 ⟨hx,hy⟩)]
theorem qlJ {x y:F} (hx:x ≠ 0) (hy:y ≠ 0):qg x y ≠ 0:=by rw [qwG hx hy]; exact qmc
theorem qtX {x y:F}:qg x y = 0↔x = 0∨y = 0:=⟨fun h=>by
 by_cases hx:x = 0
 ·exact .inl hx
 ·by_cases hy:y = 0
  ·exact .inr hy
  ·exact (qlJ hx hy h).elim,fun h=>by rcases h with rfl | rfl; exact qA; exact q6⟩
theorem qdQ {n m:Nat}:qg (qbs n) (qbs m) = qbs (n + m):=by
 rw [qwG qmc qmc,qsr,qsr]
 exact qjC (by omega)
theorem qaW {x:F}:qg x 1 = x:=by
 by_cases h:x = 0
 ·rw [h,qA]
 ·rw [<- qih]; conv=>lhs; arg 1; rw [<- qho h]
  rw [qdQ,Nat.add_zero,qho h]
theorem qh7 {x:F}:qg 1 x = x:=by rw [qad,qaW]
theorem qgM {x:F} (h:x ≠ 0):∃ n,n < 255/\x = qbs n:=⟨qeq x,qfF,(qho h).symm⟩
theorem qN {x y z:F}:qg (qg x y) z = qg x (qg y z):=by
 by_cases hx:x = 0
 ·rw [hx,qA,qA,qA]
 by_cases hy:y = 0
 ·rw [hy,q6,qA,q6]
 by_cases hz:z = 0
 ·rw [hz,q6,q6,q6]
 obtain ⟨a,_,rfl⟩:=qgM hx
 obtain ⟨b,_,rfl⟩:=qgM hy
 obtain ⟨c,_,rfl⟩:=qgM hz
 rw [qdQ,qdQ,qdQ,qdQ,Nat.add_assoc]
theorem q4q {x:F} (h:x ≠ 0):qeu x ≠ 0:=by rw [qeu,if_neg h]; exact qmc
theorem qhM {x:F} (h:x ≠ 0):qg x (qeu x) = 1:=by
 rw [qeu,if_neg h]
 conv=>lhs; arg 1; rw [<- qho h]
 have:=qfF (x:=x)
 rw [qdQ,<- qih]
 exact qjC (by omega)
def xt (x:F):F:=x <<< 1 ^^^ (if x.msb then 29#8 else 0#8)
theorem q1b:∀ i:Fin 256,qg (BitVec.ofFin i) 2 = xt (BitVec.ofFin i):=by decide +kernel
theorem qmU {x:F}:qg x 2 = xt x:=q1b x.toFin
theorem q5B {x y:F}:xt (x ^^^ y) = xt x ^^^ xt y:=by
 unfold xt
 rw [BitVec.shiftLeft_xor_distrib,BitVec.msb_xor]
 have h1:∀ a b c:F,a ^^^ b ^^^ c = a ^^^ c ^^^ b:=fun a b c=>by rw [BitVec.xor_assoc,BitVec.xor_comm b c,<- BitVec.xor_assoc]
 cases x.msb <;> cases y.msb
 ·simp
 ·simp [BitVec.xor_assoc]
 ·simp [h1 (x <<< 1) (29#8) (y <<< 1)]
 ·simp only [bne_self_eq_false,Bool.false_eq_true,if_true,if_false,BitVec.xor_zero]
  rw [h1 (x <<< 1) (29#8),BitVec.xor_assoc (x <<< 1),BitVec.xor_assoc (y <<< 1),BitVec.xor_self,BitVec.xor_zero]
theorem qlh {x y:F}:∀ n:Nat,qg (x ^^^ y) (qbs n) = qg x (qbs n) ^^^ qg y (qbs n)
 | 0=>by rw [qih,qaW,qaW,qaW]
 | n + 1=>by
  have he:qbs (n + 1) = qg (qbs n) 2:=by
   have:(2:F) = qbs 1:=by decide
   rw [this,qdQ]
  rw [he,<- qN,<- qN,<- qN,qlh n,qmU,qmU,qmU,q5B]
theorem qbX {x y z:F}:qg (x ^^^ y) z = qg x z ^^^ qg y z:=by
 by_cases hz:z = 0
 ·rw [hz,q6,q6,q6]; rfl
 ·obtain ⟨n,_,rfl⟩:=qgM hz
  exact qlh n
theorem qh8 {x y z:F}:qg z (x ^^^ y) = qg z x ^^^ qg z y:=by rw [qad,qbX,qad,qad (x:=y)]

theorem quy {i:Nat} (h:i < 510):qk0 i = ofF (qbs i):=by
 rw [qwA h,ofF,qgK]
 by_cases hi:i < 255
 ·rw [Nat.mod_eq_of_lt hi]
  have:=qf5 ⟨i,h⟩
  simp only at this
  omega
 ·have h1:=q4X ⟨i - 255,by omega⟩
  have h2:=qf5 ⟨i,h⟩
  simp only at h1 h2
  rw [show i - 255 + 255 = i by omega] at h1
  rw [show i % 255 = i - 255 by omega,<- h1]
  omega
theorem qoL {a:Int} (h:isB a):qbg a.toNat = (qeq (toF a):Nat):=by
 obtain ⟨h0,h1⟩:=h
 rw [qwm (by omega),qeq,qrt ⟨h0,h1⟩]
 have:=qj4 ⟨a.toNat,by omega⟩
 simp only at this
 omega
theorem q0W {a b:Int} (ha:isB a) (hb:isB b):qcZ a b = ofF (qg (toF a) (toF b)):=by
 unfold qcZ qg
 simp only [qe9 ha,qe9 hb]
 split
 ·rfl
 ·have h1:=qfF (x:=toF a)
  have h2:=qfF (x:=toF b)
  rw [qoL ha,qoL hb,quy (by omega)]
  congr 2
theorem q0O {a:Int} (ha:isB a):qf1 a = ofF (qeu (toF a)):=by
 unfold qf1 qeu
 simp only [qe9 ha]
 split
 ·rfl
 ·have h1:=qfF (x:=toF a)
  rw [qoL ha,quy (by omega)]
  congr 2
  omega
theorem q3i {a b:Int} (ha:isB a) (hb:isB b):isB (qcZ a b):=by rw [q0W ha hb]; exact qiU
theorem qhl {a b:Int} (ha:isB a) (hb:isB b):toF (qcZ a b) = qg (toF a) (toF b):=by rw [q0W ha hb,qjc]
theorem q2A {a:Int} (ha:isB a):isB (qf1 a):=by rw [q0O ha]; exact qiU
theorem q3D {a:Int} (ha:isB a):toF (qf1 a) = qeu (toF a):=by rw [q0O ha,qjc]
theorem q1K {a b:Int}:isB (qh6 a b):=by rw [q0C]; exact qiU
def qaG (x:F):Nat->F
 | 0=>1
 | n + 1=>qg (qaG x n) x
theorem qtr {n:Nat}:∀ m,qaG (qbs n) m = qbs (n * m)
 | 0=>by rw [Nat.mul_zero]; exact qih.symm
 | m + 1=>by rw [qaG,qtr m,qdQ,Nat.mul_succ]
theorem qxD {m:Nat} (h:0 < m):qaG 0 m = 0:=by
 cases m with
 | zero=>omega
 | succ m=>rw [qaG,q6]
theorem q1m {a e:Int} (ha:isB a) (he:e < 9223372036854775808):qgA a e = ofF (qaG (toF a) e.toNat):=by
 unfold qgA
 by_cases h0:e <= 0
 ·rw [if_pos h0,show e.toNat = 0 by omega]; rfl
 rw [if_neg h0]
 by_cases h1:a = 0
 ·rw [if_pos h1,h1,qsd,qxD (by omega)]; rfl
 rw [if_neg h1]
 have hx:toF a ≠ 0:=fun h=>h1 ((qe9 ha).1 h)
 have hl:=qfF (x:=toF a)
 rw [qoL ha]
 have e1:e.tmod 255 = ((e.toNat % 255:Nat):Int):=by
  rw [Int.tmod_eq_emod_of_nonneg (by omega)]; omega
 rw [e1,<- Int.natCast_mul,Int.tmod_eq_emod_of_nonneg (by omega),quy (by omega)]
 congr 1
 conv=>rhs; rw [<- qho hx,qtr]
 refine qjC ?_
 have:((qeq (toF a) * (e.toNat % 255):Nat):Int) % 255 = ((qeq (toF a) * (e.toNat % 255) % 255:Nat):Int):=by omega
 rw [this,Int.toNat_natCast,Nat.mod_mod,Nat.mul_mod,Nat.mod_mod,<- Nat.mul_mod]
theorem q2G {a e:Int} (ha:isB a) (he:e < 9223372036854775808):isB (qgA a e):=by rw [q1m ha he]; exact qiU
end Go.Proofs

set_option linter.unusedSimpArgs false
set_option linter.unusedVariables false
namespace Go.Proofs
open Go Go.Eng

theorem qrQ (a b c:F):a ^^^ (b ^^^ c) = b ^^^ (a ^^^ c):=by rw [<- BitVec.xor_assoc,BitVec.xor_comm a b,BitVec.xor_assoc]
theorem qn0 (a b c d:F):(a ^^^ b) ^^^ (c ^^^ d) = (a ^^^ c) ^^^ (b ^^^ d):=by rw [BitVec.xor_assoc,BitVec.xor_assoc,qrQ b c d]
theorem qe1 {a b:F}:a ^^^ b = 0↔a = b:=⟨fun h=>by
 have:a ^^^ b ^^^ b = b:=by rw [h]; simp
 rwa [BitVec.xor_assoc,BitVec.xor_self,BitVec.xor_zero] at this,fun h=>by rw [h]; exact BitVec.xor_self⟩
theorem qae {a:F}:a ^^^ 0 = a:=BitVec.xor_zero
theorem qao {a:F}:0 ^^^ a = a:=BitVec.zero_xor
theorem qa0 {a:F}:a ^^^ a = 0:=BitVec.xor_self
theorem qmq {a b:F}:a ^^^ b ^^^ b = a:=by rw [BitVec.xor_assoc,BitVec.xor_self,BitVec.xor_zero]
def qw (f:Nat->F):Nat->F
 | 0=>0
 | n + 1=>qw f n ^^^ f n
theorem qj {f g:Nat->F} {n:Nat} (h:∀ i,i < n->f i = g i):qw f n = qw g n:=by
 induction n with
 | zero=>rfl
 | succ n ih=>rw [qw,qw,ih fun i hi=>h i (by omega),h n (by omega)]
theorem qcw {f:Nat->F} {n:Nat} (h:∀ i,i < n->f i = 0):qw f n = 0:=by
 induction n with
 | zero=>rfl
 | succ n ih=>rw [qw,ih fun i hi=>h i (by omega),h n (by omega),qae]
theorem qfS {f g:Nat->F} {n:Nat}:qw (fun i=>f i ^^^ g i) n = qw f n ^^^ qw g n:=by
 induction n with
 | zero=>exact qae.symm
 | succ n ih=>rw [qw,qw,qw,ih,qn0]
theorem qcV {f:Nat->F} {c:F} {n:Nat}:qw (fun i=>qg c (f i)) n = qg c (qw f n):=by
 induction n with
 | zero=>exact q6.symm
 | succ n ih=>rw [qw,qw,ih,qh8]
theorem qdV {f:Nat->F} {c:F} {n:Nat}:qw (fun i=>qg (f i) c) n = qg (qw f n) c:=by
 rw [qad,<- qcV]
 exact qj fun i _=>qad
theorem qhB {f:Nat->F} {n k:Nat} (hk:k < n) (h:∀ i,i < n->i ≠ k->f i = 0):qw f n = f k:=by
 induction n with
 | zero=>omega
 | succ n ih =>
  rw [qw]
  by_cases hkn:k = n
  ·rw [qcw fun i hi=>h i (by omega) (by omega),hkn,qao]
  ·rw [ih (by omega) fun i hi=>h i (by omega),h n (by omega) (by omega),qae]
theorem qfj {f:Nat->Nat->F} {n m:Nat}:qw (fun i=>qw (fun j=>f i j) m) n = qw (fun j=>qw (fun i=>f i j) n) m:=by
 induction n with
 | zero=>exact (qcw fun _ _=>rfl).symm
 | succ n ih =>
  rw [qw,ih,<- qfS]
  rfl
def del (i j:Nat):F:=if i = j then 1 else 0
theorem qno {f:Nat->F} {n k:Nat} (hk:k < n):qw (fun i=>qg (del i k) (f i)) n = f k:=by
 rw [qhB hk fun i hi hik=>by rw [del,if_neg hik,qA],del,if_pos rfl,qh7]
theorem qg1 {f:Nat->F} {n k:Nat} (hk:k < n):qw (fun i=>qg (f i) (del i k)) n = f k:=by
 rw [qhB hk fun i hi hik=>by rw [del,if_neg hik,q6],del,if_pos rfl,qaW]

abbrev Mat:=Nat->Nat->F
def spans (r w:Nat) (T:Mat) (v:Nat->F):Prop:=∃ x:Nat->F,∀ j,j < w->v j = qw (fun i=>qg (x i) (T i j)) r
theorem qaY {r w:Nat} {T:Mat} {i:Nat} (hi:i < r):spans r w T (T i):=⟨fun a=>del a i,fun j _=>(qno (f:=fun a=>T a j) hi).symm⟩
theorem qbS {r w:Nat} {T:Mat} {v v':Nat->F} (h:spans r w T v) (he:∀ j,j < w->v' j = v j):spans r w T v':=by
 obtain ⟨x,hx⟩:=h
 exact ⟨x,fun j hj=>by rw [he j hj,hx j hj]⟩
theorem qqW {r w:Nat} {T:Mat} {v v':Nat->F} (h:spans r w T v) (h':spans r w T v'):spans r w T (fun j=>v j ^^^ v' j):=by
 obtain ⟨x,hx⟩:=h
 obtain ⟨y,hy⟩:=h'
 refine ⟨fun i=>x i ^^^ y i,fun j hj=>?_⟩
 show v j ^^^ v' j = _
 rw [hx j hj,hy j hj,<- qfS]
 exact qj fun i _=>qbX.symm
theorem qii {r w:Nat} {T:Mat} {v:Nat->F} {c:F} (h:spans r w T v):spans r w T (fun j=>qg c (v j)):=by
 obtain ⟨x,hx⟩:=h
 refine ⟨fun i=>qg c (x i),fun j hj=>?_⟩
 show qg c (v j) = _
 rw [hx j hj,<- qcV]
 exact qj fun i _=>qN.symm
theorem qgk {r w:Nat} {T T':Mat} {v:Nat->F} (h:spans r w T' v) (hr:∀ i,i < r->spans r w T (T' i)):spans r w T v:=by
 obtain ⟨x,hx⟩:=h
 let y:Nat->Nat->F:=fun i=>if h:i < r then (hr i h).choose else fun _=>0
 have hy:∀ i,i < r->∀ j,j < w->T' i j = qw (fun a=>qg (y i a) (T a j)) r:=fun i hi j hj=>by
  simp only [y,dif_pos hi]
  exact (hr i hi).choose_spec j hj
 refine ⟨fun a=>qw (fun i=>qg (x i) (y i a)) r,fun j hj=>?_⟩
 rw [hx j hj,qj fun i hi=>by rw [hy i hi j hj,<- qcV],qfj]
 refine qj fun a _=>?_
 rw [<- qdV]
 exact qj fun i _=>qN.symm
structure Same (r w:Nat) (T T':Mat):Prop where
 to:∀ i,i < r->spans r w T (T' i)
 back:∀ i,i < r->spans r w T' (T i)
theorem Same.refl {r w:Nat} {T:Mat}:Same r w T T:=⟨fun i hi=>qaY hi,fun i hi=>qaY hi⟩
theorem Same.trans {r w:Nat} {T T' T'':Mat} (h:Same r w T T') (h':Same r w T' T''):Same r w T T'' :=
 ⟨fun i hi=>qgk (h'.to i hi) h.to,fun i hi=>qgk (h.back i hi) h'.back⟩
theorem Same.symm {r w:Nat} {T T':Mat} (h:Same r w T T'):Same r w T' T:=⟨h.back,h.to⟩
theorem Same.spans {r w:Nat} {T T':Mat} (h:Same r w T T') {v:Nat->F}:spans r w T v↔Go.Proofs.spans r w T' v:=⟨fun hv=>qgk hv h.back,fun hv=>qgk hv h.to⟩
theorem quk {r w:Nat} {T T':Mat} {i p:Nat} {g:F} (hi:i < r) (hp:p < r) (hip:i ≠ p) (h1:∀ j,j < w->T' i j = T i j ^^^ qg g (T p j)) (h2:∀ a,a < r->a ≠ i->∀ j,j < w->T' a j = T a j):Same r w T T':=by
 refine ⟨fun a ha=>?_,fun a ha=>?_⟩
 ·by_cases hai:a = i
  ·subst hai
   exact qbS (qqW (qaY ha) (qii (c:=g) (qaY hp))) h1
  ·exact qbS (qaY ha) (h2 a ha hai)
 ·by_cases hai:a = i
  ·subst hai
   refine qbS (qqW (qaY ha) (qii (c:=g) (qaY hp))) fun j hj=>?_
   rw [h1 j hj,h2 p hp (Ne.symm hip) j hj,qmq]
  ·exact qbS (qaY ha) fun j hj=>(h2 a ha hai j hj).symm
theorem q18 {r w:Nat} {T T':Mat} {i:Nat} {g:F} (hi:i < r) (hg:g ≠ 0) (h1:∀ j,j < w->T' i j = qg (T i j) g) (h2:∀ a,a < r->a ≠ i->∀ j,j < w->T' a j = T a j):Same r w T T':=by
 refine ⟨fun a ha=>?_,fun a ha=>?_⟩
 ·by_cases hai:a = i
  ·subst hai
   exact qbS (qii (c:=g) (qaY ha)) fun j hj=>by rw [h1 j hj,qad]
  ·exact qbS (qaY ha) (h2 a ha hai)
 ·by_cases hai:a = i
  ·subst hai
   refine qbS (qii (c:=qeu g) (qaY ha)) fun j hj=>?_
   rw [h1 j hj,qad,qN,qhM hg,qaW]
  ·exact qbS (qaY ha) fun j hj=>(h2 a ha hai j hj).symm
def lead (r w:Nat) (T:Mat) (c:Nat):Prop:=∃ v,spans r w T v/\(∀ j,j < c->v j = 0)/\v c ≠ 0
open Classical in
noncomputable def cnt (r w:Nat) (T:Mat):Nat->Nat
 | 0=>0
 | c + 1=>cnt r w T c + if lead r w T c then 1 else 0
theorem Same.lead {r w:Nat} {T T':Mat} (h:Same r w T T') {c:Nat}:lead r w T c↔Go.Proofs.lead r w T' c:=by
 unfold Go.Proofs.lead
 simp only [h.spans]
theorem q1p {r w:Nat} {T:Mat}:∀ c,cnt r w T c <= c
 | 0=>Nat.le_refl _
 | c + 1=>by
  have:=q1p (r:=r) (w:=w) (T:=T) c
  unfold cnt; split <;> omega
theorem qtU {r w:Nat} {T:Mat} {c:Nat}:∀ d,cnt r w T c <= cnt r w T (c + d)
 | 0=>Nat.le_refl _
 | d + 1=>by
  have:=qtU (r:=r) (w:=w) (T:=T) (c:=c) d
  rw [<- Nat.add_assoc]
  conv=>rhs; unfold cnt
  omega
theorem qhF {r w:Nat} {T:Mat} {c:Nat} (h:lead r w T c):cnt r w T (c + 1) = cnt r w T c + 1:=by rw [cnt,if_pos h]
theorem qpD {r w:Nat} {T:Mat} {c:Nat} (h:¬ lead r w T c):cnt r w T (c + 1) = cnt r w T c:=by rw [cnt,if_neg h]; rfl
theorem quH {r w:Nat} {T:Mat} {c c':Nat} (h:lead r w T c) (hlt:c < c'):cnt r w T c < cnt r w T c':=by
 have:=qtU (r:=r) (w:=w) (T:=T) (c:=c + 1) (c' - (c + 1))
 rw [show c + 1 + (c' - (c + 1)) = c' by omega,qhF h] at this
 omega
theorem q4L {r w:Nat} {T:Mat} {c c':Nat} (h:lead r w T c) (h':lead r w T c') (he:cnt r w T c = cnt r w T c'):c = c':=by
 rcases Nat.lt_trichotomy c c' with h1 | h1 | h1
 ·have:=quH h h1; omega
 ·exact h1
 ·have:=quH h' h1; omega
theorem qjF {r w:Nat} {T:Mat}:∀ {c i:Nat},i < cnt r w T c->∃ c',c' < c/\lead r w T c'/\cnt r w T c' = i
 | 0,i,h=>by simp [cnt] at h
 | c + 1,i,h=>by
  by_cases hl:lead r w T c
  ·rw [qhF hl] at h
   by_cases hi:i = cnt r w T c
   ·exact ⟨c,by omega,hl,hi.symm⟩
   ·obtain ⟨c',h1,h2,h3⟩:=qjF (r:=r) (w:=w) (T:=T) (c:=c) (i:=i) (by omega)
    exact ⟨c',by omega,h2,h3⟩
  ·rw [qpD hl] at h
   obtain ⟨c',h1,h2,h3⟩:=qjF (c:=c) h
   exact ⟨c',by omega,h2,h3⟩
structure Ech (r w:Nat) (T0 T:Mat) (c rank:Nat):Prop where
 same:Same r w T0 T
 num:rank = cnt r w T0 c
 le:rank <= r
 col:∀ c',c' < c->lead r w T0 c'->∀ i,i < r->T i c' = del i (cnt r w T0 c')
 low:∀ i,rank <= i->i < r->∀ c',c' < c->T i c' = 0
theorem q0q {r w:Nat} {T:Mat}:Ech r w T T 0 0:=⟨Same.refl,rfl,Nat.zero_le _,fun c' h=>by omega,fun i _ _ c' h=>by omega⟩
theorem q4v {r w:Nat} {T0 T:Mat} {c rank:Nat} (h:Ech r w T0 T c rank) (hc:c <= w) {v:Nat->F} (hv:spans r w T0 v) (h0:∀ j,j < c->v j = 0) :
  ∃ x:Nat->F,(∀ i,i < rank->x i = 0)/\∀ j,j < w->v j = qw (fun i=>qg (x i) (T i j)) r:=by
 obtain ⟨x,hx⟩:=h.same.spans.1 hv
 refine ⟨x,fun i hi=>?_,hx⟩
 rw [h.num] at hi
 obtain ⟨c',h1,h2,h3⟩:=qjF hi
 have hle:=h.le
 have h4:=hx c' (by omega)
 rw [h0 c' h1,qj fun a ha=>by rw [h.col c' h1 h2 a ha,h3]] at h4
 rw [qg1 (f:=x) (by have:=h.num; omega)] at h4
 exact h4.symm
theorem qtY {r w:Nat} {T0 T:Mat} {c rank:Nat} (h:Ech r w T0 T c rank) (hc:c < w) (hz:∀ i,rank <= i->i < r->T i c = 0):Ech r w T0 T (c + 1) rank:=by
 have hn:¬ lead r w T0 c:=fun ⟨v,h1,h2,h3⟩=>by
  obtain ⟨x,hx,he⟩:=q4v h (by omega) h1 h2
  apply h3
  rw [he c hc]
  refine qcw fun i hi=>?_
  by_cases hir:i < rank
  ·rw [hx i hir,qA]
  ·rw [hz i (by omega) hi,q6]
 refine ⟨h.same,by rw [qpD hn]; exact h.num,h.le,fun c' hc' hl i hi=>?_,fun i h1 h2 c' hc'=>?_⟩
 ·by_cases he:c' = c
  ·rw [he] at hl; exact (hn hl).elim
  ·exact h.col c' (by omega) hl i hi
 ·by_cases he:c' = c
  ·rw [he]; exact hz i h1 h2
  ·exact h.low i h1 h2 c' (by omega)
theorem q2s {r w:Nat} {T0 T T':Mat} {c rank:Nat} (h:Ech r w T0 T c rank) (hc:c < w) (hr:rank < r) (hs:Same r w T T') (hcol:∀ i,i < r->T' i c = del i rank)
  (hold:∀ c',c' < c->∀ i,i < r->T' i c' = T i c'):Ech r w T0 T' (c + 1) (rank + 1):=by
 have hl:lead r w T0 c:=by
  refine ⟨T' rank,(h.same.trans hs).spans.2 (qaY hr),fun j hj=>?_,?_⟩
  ·rw [hold j hj rank hr]; exact h.low rank (Nat.le_refl _) hr j hj
  ·rw [hcol rank hr,del,if_pos rfl]; decide
 refine ⟨h.same.trans hs,by rw [qhF hl,<- h.num],hr,fun c' hc' hl' i hi=>?_,fun i h1 h2 c' hc'=>?_⟩
 ·by_cases he:c' = c
  ·rw [he,hcol i hi,h.num]
  ·rw [hold c' (by omega) i hi]; exact h.col c' (by omega) hl' i hi
 ·by_cases he:c' = c
  ·rw [he,hcol i h2,del,if_neg (by omega)]
  ·rw [hold c' (by omega) i h2]; exact h.low i (by omega) h2 c' (by omega)
theorem quL {r w:Nat} {T:Mat}:∀ {n:Nat},cnt r w T n = n->∀ c,c < n->lead r w T c/\cnt r w T c = c
 | 0,_,c,h=>by omega
 | n + 1,he,c,h=>by
  by_cases hl:lead r w T n
  ·rw [qhF hl] at he
   by_cases hc:c = n
   ·exact ⟨by rw [hc]; exact hl,by rw [hc]; omega⟩
   ·exact quL (n:=n) (by omega) c (by omega)
  ·rw [qpD hl] at he
   have:=q1p (r:=r) (w:=w) (T:=T) n
   omega
theorem qth {r w:Nat} {T0 T:Mat} {n:Nat} (h:Ech r w T0 T n n):∀ i,i < r->∀ c,c < n->T i c = del i c:=fun i hi c hc=>by
 obtain ⟨h1,h2⟩:=quL h.num.symm c hc
 rw [h.col c hc h1 i hi,h2]
theorem q2c {r w:Nat} {T0 T:Mat} {n rank:Nat} (h:Ech r w T0 T n rank) (hn:n <= w) (hlt:rank < n):∃ y:Nat->F,(∃ c,c < n/\y c ≠ 0)/\∀ i,i < r->qw (fun j=>qg (T0 i j) (y j)) n = 0:=by
 have hex:∃ c,c < n/\¬ lead r w T0 c:=by
  refine Classical.byContradiction fun hno=>?_
  have hall:∀ c,c < n->lead r w T0 c:=fun c hc=>Classical.byContradiction fun hl=>hno ⟨c,hc,hl⟩
  have:∀ c,c <= n->cnt r w T0 c = c:=fun c=>by
   induction c with
   | zero=>intro _; rfl
   | succ c ih=>intro hc; rw [qhF (hall c (by omega)),ih (by omega)]
  have:=this n (Nat.le_refl _)
  have:=h.num
  omega
 obtain ⟨c,hc,hnl⟩:=hex
 let y:Nat->F:=fun j=>open Classical in if j = c then 1 else if lead r w T0 j then T (cnt r w T0 j) c else 0
 have hyc:y c = 1:=by simp [y]
 have hT:∀ i,i < r->qw (fun j=>qg (T i j) (y j)) n = 0:=fun i hi=>by
  have hsplit:qw (fun j=>qg (T i j) (y j)) n = qw (fun j=>qg (if j = c then T i c else 0) 1) n ^^^ qw (fun j=>open Classical in if j ≠ c/\lead r w T0 j then qg (del i (cnt r w T0 j)) (T (cnt r w T0 j) c) else 0) n:=by
   rw [<- qfS]
   refine qj fun j hj=>?_
   by_cases hjc:j = c
   ·subst hjc
    simp only [hyc,qaW,if_true,ne_eq,not_true,false_and,if_false,qae]
   ·simp only [if_neg hjc,qA,qao]
    by_cases hl:lead r w T0 j
    ·rw [if_pos ⟨hjc,hl⟩,h.col j hj hl i hi]; simp only [y,if_neg hjc,if_pos hl]
    ·rw [if_neg fun hh=>hl hh.2]; simp only [y,if_neg hjc,if_neg hl,q6]
  rw [hsplit,qhB hc fun j _ hj=>by rw [if_neg hj,qA],if_pos rfl,qaW]
  by_cases hir:i < rank
  ·rw [h.num] at hir
   obtain ⟨c',h1,h2,h3⟩:=qjF hir
   have hcc:c' ≠ c:=fun e=>hnl (e ▸ h2)
   rw [qhB (k:=c') h1 fun j hj hjc=>?_,if_pos ⟨hcc,h2⟩,h3,del,if_pos rfl,qh7,qa0]
   split
   ·rename_i hh
    rw [del,if_neg,qA]
    intro e
    exact hjc (q4L hh.2 h2 (by rw [h3,e]))
   ·rfl
  ·rw [h.low i (by omega) hi c hc,qao]
   refine qcw fun j hj=>?_
   split
   ·rename_i hh
    rw [del,if_neg,qA]
    have:=quH hh.2 hj
    have:=h.num
    omega
   ·rfl
 refine ⟨y,⟨c,hc,by rw [hyc]; decide⟩,fun i hi=>?_⟩
 obtain ⟨x,hx⟩:=h.same.back i hi
 rw [qj fun j hj=>by rw [hx j (by omega),<- qdV],qfj]
 refine qcw fun a ha=>?_
 rw [qj (g:=fun j=>qg (x a) (qg (T a j) (y j))) fun j _=>qN,qcV,hT a ha,q6]
end Go.Proofs

set_option linter.unusedSimpArgs false
set_option linter.unusedVariables false
namespace Go.Proofs
open Go Go.Eng

def qau (x:F):List F->F
 | []=>0
 | c :: l=>qg (qau x l) x ^^^ c
theorem qfP {x:F}:qau x [] = 0:=rfl
theorem qhv {x c:F}:qau x [c] = c:=by rw [qau,qfP,qA,qao]
def qio (r:F):List F->List F
 | []=>[]
 | [_]=>[]
 | _ :: c' :: l=>qau r (c' :: l) :: qio r (c' :: l)
theorem qtb {r:F}:∀ {l:List F},(qio r l).length = l.length - 1
 | []=>rfl
 | [_]=>rfl
 | _ :: c' :: l=>by simp only [qio,List.length_cons,qtb (l:=c' :: l)]; omega
theorem qsO {x r:F}:∀ {l:List F},qau x l ^^^ qau r l = qg (x ^^^ r) (qau x (qio r l))
 | []=>by rw [qio,qfP,qfP,qa0,q6]
 | [c]=>by rw [qio,qhv,qhv,qfP,qa0,q6]
 | c :: c' :: l=>by
  have ih:=qsO (x:=x) (r:=r) (l:=c' :: l)
  rw [qio,show qau x (c :: c' :: l) = qg (qau x (c' :: l)) x ^^^ c from rfl,show qau r (c :: c' :: l) = qg (qau r (c' :: l)) r ^^^ c from rfl]
  conv=>rhs; rw [qau]
  have h1:∀ a b d:F,a ^^^ b = qg (x ^^^ r) d->qg a x ^^^ c ^^^ (qg b r ^^^ c) = qg (x ^^^ r) (qg d x ^^^ b):=fun a b d h=>by
   rw [qn0,qa0,qae,qh8 (z:=x ^^^ r),<- qN,<- h,qbX,qad (x:=x ^^^ r),qh8,<- BitVec.xor_assoc,qmq]
  exact h1 _ _ _ ih
theorem qtE {r:F}:∀ {l:List F} {c:F},(∀ y ∈ qio r (c :: l),y = 0)->∀ y ∈ l,y = 0
 | [],_,_=>by simp
 | c' :: l,c,h=>by
  simp only [qio,List.mem_cons,forall_eq_or_imp] at h
  have ht:=qtE (l:=l) (c:=c') h.2
  have hh:qau r l = 0:=by
   clear h
   induction l with
   | nil=>rfl
   | cons a l ih=>rw [qau,ih fun y hy=>ht y (List.mem_cons_of_mem _ hy),qA,ht a (List.mem_cons_self ..),qae]
  have h1:=h.1
  rw [qau,hh,qA,qao] at h1
  intro y hy
  rcases List.mem_cons.1 hy with rfl | hy
  ·exact h1
  ·exact ht y hy
theorem qqA {x:F}:∀ {l:List F},(∀ y ∈ l,y = 0)->qau x l = 0
 | [],_=>rfl
 | a :: l,h=>by rw [qau,qqA fun y hy=>h y (List.mem_cons_of_mem _ hy),qA,h a (List.mem_cons_self ..),qae]
def qb0 (n:Nat) (xs:Nat->F):Prop:=∀ i j,i < n->j < n->xs i = xs j->i = j
theorem qnE {xs:Nat->F}:∀ {n:Nat} {l:List F},l.length <= n->qb0 n xs->(∀ i,i < n->qau (xs i) l = 0)->∀ y ∈ l,y = 0
 | 0,l,hl,_,_=>by
  have:l = []:=List.eq_nil_of_length_eq_zero (by omega)
  rw [this]; simp
 | n + 1,[],_,_,_=>by simp
 | n + 1,c :: t,hl,hd,hr=>by
  simp only [List.length_cons] at hl
  have hq:=qnE (n:=n) (l:=qio (xs n) (c :: t)) (by rw [qtb,List.length_cons]; omega) (fun i j hi hj=>hd i j (by omega) (by omega)) fun i hi=>by
   have h:=qsO (x:=xs i) (r:=xs n) (l:=c :: t)
   rw [hr i (by omega),hr n (by omega),qa0] at h
   rcases qtX.1 h.symm with h1 | h1
   ·have:=hd i n (by omega) (by omega) (qe1.1 h1); omega
   ·exact h1
  have ht:=qtE hq
  have h1:=hr n (by omega)
  rw [qau,qqA ht,qA,qao] at h1
  intro y hy
  rcases List.mem_cons.1 hy with rfl | hy
  ·exact h1
  ·exact ht y hy
def q7 (n:Nat) (y:Nat->F) (x:F):F:=qw (fun j=>qg (y j) (qaG x j)) n
theorem qre {x c:F}:∀ {l:List F},qau x (l ++ [c]) = qau x l ^^^ qg c (qaG x l.length)
 | []=>by rw [List.nil_append,qhv,qfP,qao,List.length_nil,qaG,qaW]
 | a :: l=>by
  rw [List.cons_append,qau,qre (l:=l),qau,qbX,List.length_cons,qaG,BitVec.xor_assoc,BitVec.xor_assoc,qN,BitVec.xor_comm a]
theorem qkB {y:Nat->F} {x:F}:∀ n,qau x ((List.range n).map y) = q7 n y x
 | 0=>rfl
 | n + 1=>by
  rw [List.range_succ,List.map_append,List.map_cons,List.map_nil,qre,qkB n]
  simp [q7,qw]
theorem qjl {n:Nat} {y:Nat->F} {xs:Nat->F} (hd:qb0 n xs) (h:∀ i,i < n->q7 n y (xs i) = 0):∀ j,j < n->y j = 0:=fun j hj=>by
 have:=qnE (l:=(List.range n).map y) (by simp) hd (fun i hi=>by rw [qkB]; exact h i hi) (y j)
 exact this (List.mem_map.2 ⟨j,List.mem_range.2 hj,rfl⟩)
theorem qzr {x:F} {l:List F} {n:Nat} (hl:l.length <= n):qau x l = q7 n (fun j=>l.getD j 0) x:=by
 have h1:∀ m,q7 (l.length + m) (fun j=>l.getD j 0) x = q7 l.length (fun j=>l.getD j 0) x:=fun m=>by
  induction m with
  | zero=>rfl
  | succ m ih =>
   rw [<- Nat.add_assoc,q7,qw]
   rw [show qw (fun j=>qg (l.getD j 0) (qaG x j)) (l.length + m) = q7 (l.length + m) (fun j=>l.getD j 0) x from rfl,ih]
   rw [show l.getD (l.length + m) 0 = 0 by rw [List.getD_eq_getElem?_getD,List.getElem?_eq_none (by omega)]; rfl,qA,qae]
 rw [show n = l.length + (n - l.length) by omega,h1,<- qkB]
 congr 1
 apply List.ext_getElem?
 intro j
 by_cases hj:j < l.length
 ·simp [List.getElem?_range hj,List.getD_eq_getElem?_getD,List.getElem?_eq_getElem hj]
 ·simp [hj]

def qcH (f:Nat->F):Nat->F
 | 0=>1
 | n + 1=>qg (qcH f n) (f n)
theorem q3x {f:Nat->F} {n:Nat} (h:∀ i,i < n->f i ≠ 0):qcH f n ≠ 0:=by
 induction n with
 | zero=>exact (by decide:(1:F) ≠ 0)
 | succ n ih=>exact qlJ (ih fun i hi=>h i (by omega)) (h n (by omega))
theorem qoj {f:Nat->F} {n k:Nat} (hk:k < n) (h:f k = 0):qcH f n = 0:=by
 induction n with
 | zero=>omega
 | succ n ih =>
  rw [qcH]
  by_cases hkn:k = n
  ·rw [<- hkn,h,q6]
  ·rw [ih (by omega),qA]
def qmQ (r:F):F->List F->List F
 | p,[]=>[p]
 | p,c :: l=>(p ^^^ qg r c) :: qmQ r c l
theorem qte {r:F}:∀ {p:F} {l:List F},(qmQ r p l).length = l.length + 1
 | _,[]=>rfl
 | _,c :: l=>by simp [qmQ,qte]
theorem qqL {r x:F}:∀ {p:F} {l:List F},qau x (qmQ r p l) = p ^^^ qg (x ^^^ r) (qau x l)
 | p,[]=>by rw [qmQ,qhv,qfP,q6,qae]
 | p,c :: l=>by
  rw [qmQ,qau,qqL,qau,qbX,qh8,BitVec.xor_comm _ (p ^^^ qg r c),BitVec.xor_assoc,qbX (x:=x) (y:=r) (z:=c),<- qN]
  congr 1
  rw [qad (x:=c) (y:=x),<- BitVec.xor_assoc,BitVec.xor_comm (qg r c),BitVec.xor_comm]
theorem qqB (xs:Nat->F) (i:Nat):∀ n,∃ l:List F,l.length = (if i < n then n else n + 1)/\∀ x,qau x l = qcH (fun m=>if m = i then 1 else x ^^^ xs m) n
 | 0=>⟨[1],by simp,fun x=>by rw [qhv,qcH]⟩
 | n + 1=>by
  obtain ⟨l,h1,h2⟩:=qqB xs i n
  by_cases hn:n = i
  ·subst hn
   refine ⟨l,by rw [h1]; simp,fun x=>by rw [h2,qcH,if_pos rfl,qaW]⟩
  ·refine ⟨qmQ (xs n) 0 l,?_,fun x=>?_⟩
   ·rw [qte,h1]; split <;> split <;> omega
   ·rw [qqL,h2,qcH,if_neg hn,qao,qad]
def qfu (n:Nat) (xs:Nat->F) (x:F) (i:Nat):F:=qg (qcH (fun m=>if m = i then 1 else x ^^^ xs m) n) (qeu (qcH (fun m=>if m = i then 1 else xs i ^^^ xs m) n))
theorem q4g {n:Nat} {xs:Nat->F} (hd:qb0 n xs) {i k:Nat} (hi:i < n) (hk:k < n):qfu n xs (xs k) i = del i k:=by
 unfold qfu del
 by_cases hik:i = k
 ·subst hik
  rw [if_pos rfl,qhM]
  refine q3x fun m hm=>?_
  split
  ·decide
  ·rename_i hmi
   exact fun h=>hmi (hd i m hi hm (qe1.1 h)).symm
 ·rw [if_neg hik,qoj (k:=k) hk (by rw [if_neg (Ne.symm hik)]; exact qa0),qA]
theorem qjq {n:Nat} {xs:Nat->F} (hd:qb0 n xs) {y:Nat->F} {x:F}:q7 n y x = qw (fun i=>qg (qfu n xs x i) (q7 n y (xs i))) n:=by
 have hex:∀ i,∃ l:Nat->F,i < n->∀ x,q7 n l x = qfu n xs x i:=fun i=>by
  obtain ⟨l,h1,h2⟩:=qqB xs i n
  refine ⟨fun j=>qg (l.getD j 0) (qeu (qcH (fun m=>if m = i then 1 else xs i ^^^ xs m) n)),fun hi x=>?_⟩
  rw [qfu,<- h2 x,qzr (n:=n) (by rw [h1,if_pos hi]; exact Nat.le_refl _),q7,q7,<- qdV]
  refine qj fun j _=>?_
  rw [qN,qad (x:=qeu _),<- qN]
 let lc:Nat->Nat->F:=fun i=>(hex i).choose
 have hlc:∀ i,i < n->∀ x,q7 n (lc i) x = qfu n xs x i:=fun i hi=>(hex i).choose_spec hi
 let S:Nat->F:=fun j=>y j ^^^ qw (fun i=>qg (q7 n y (xs i)) (lc i j)) n
 have hS:∀ x,q7 n S x = q7 n y x ^^^ qw (fun i=>qg (qfu n xs x i) (q7 n y (xs i))) n:=fun x=>by
  have h1:q7 n S x = q7 n y x ^^^ qw (fun j=>qw (fun i=>qg (q7 n y (xs i)) (qg (lc i j) (qaG x j))) n) n:=by
   simp only [q7]
   rw [<- qfS]
   refine qj fun j _=>?_
   simp only [S]
   rw [qbX]
   congr 1
   rw [<- qdV]
   exact qj fun i _=>qN
  rw [h1,qfj]
  congr 1
  refine qj fun i hi=>?_
  rw [qcV,<- hlc i hi x,qad]
  rfl
 have h0:=qjl (y:=S) hd fun k hk=>by
  rw [hS,qj fun i hi=>by rw [q4g hd hi hk],qno (f:=fun i=>q7 n y (xs i)) hk,qa0]
 have:=hS x
 rw [show q7 n S x = 0 from qcw fun j hj=>by rw [h0 j hj,qA]] at this
 exact qe1.1 this.symm
theorem qoh {n:Nat} {xs:Nat->F} (hd:qb0 n xs) {y:Nat->F} (h:∀ i,i < n->qw (fun j=>qg (qaG (xs i) j) (y j)) n = 0):∀ j,j < n->y j = 0 :=
 qjl hd fun i hi=>by
  rw [q7,<- h i hi]
  exact qj fun j _=>qad
end Go.Proofs

set_option linter.unusedSimpArgs false
set_option linter.unusedVariables false
namespace Go.Proofs
open Go Go.Eng

def qx (l:List Int):Prop:=∀ x ∈ l,isB x
theorem qaF {l:List Int} (h:qx l) (i:Nat):isB (l.getD i 0):=by
 rw [List.getD_eq_getElem?_getD]
 by_cases hi:i < l.length
 ·rw [List.getElem?_eq_getElem hi]; exact h _ (List.getElem_mem hi)
 ·rw [List.getElem?_eq_none (by omega)]; exact ⟨by simp,by simp⟩
def qz (ca:Nat) (l:List Int):Mat:=fun i j=>toF (l.getD (i * ca + j) 0)
def qW (ca cb:Nat) (a b:List Int):Mat:=fun i j=>if j < ca then qz ca a i j else qz cb b i (j - ca)
theorem qtR {i i' ca j:Nat} (hj:j < ca):(i * ca <= i' * ca + j/\i' * ca + j < i * ca + ca)↔i' = i:=by
 constructor
 ·intro ⟨h1,h2⟩
  rcases Nat.lt_trichotomy i' i with h | h | h
  ·have:=Nat.mul_le_mul_right ca (show i' + 1 <= i by omega)
   rw [Nat.add_mul,Nat.one_mul] at this; omega
  ·exact h
  ·have:=Nat.mul_le_mul_right ca (show i + 1 <= i' by omega)
   rw [Nat.add_mul,Nat.one_mul] at this; omega
 ·rintro rfl; omega
theorem qfg {i r ca j:Nat} (hi:i < r) (hj:j < ca):i * ca + j < r * ca:=by
 have:=Nat.mul_le_mul_right ca (show i + 1 <= r by omega)
 rw [Nat.add_mul,Nat.one_mul] at this; omega
theorem qo8 {i r ca:Nat} (hi:i < r):i * ca + ca <= r * ca:=by
 have:=Nat.mul_le_mul_right ca (show i + 1 <= r by omega)
 rwa [Nat.add_mul,Nat.one_mul] at this
theorem qdK {l s:List Int} {off:Nat} {c:Int} (h:qx l):qx (qac l off s c):=fun x hx=>by
 obtain ⟨i,hi⟩:=List.getElem?_of_mem hx
 rw [qb5] at hi
 obtain ⟨y,hy,rfl⟩:=Option.map_eq_some_iff.1 hi
 split
 ·exact q1K
 ·exact h y (List.mem_of_getElem? hy)
theorem qlw {l:List Int} {off n:Nat} {c:Int} (h:qx l) (hc:isB c):qx (qaZ l off n c):=fun x hx=>by
 obtain ⟨i,hi⟩:=List.getElem?_of_mem hx
 rw [qei] at hi
 obtain ⟨y,hy,rfl⟩:=Option.map_eq_some_iff.1 hi
 have:=h y (List.mem_of_getElem? hy)
 split
 ·exact q3i this hc
 ·exact this
theorem qsP {ca r i p:Nat} {a:List Int} {g:Int} (ha:a.length = r * ca) (hb:qx a) (hg:isB g) (hi:i < r) (hp:p < r) {i' j:Nat} (hi':i' < r) (hj:j < ca) :
  qz ca (qac a (i * ca) (seg a (p * ca) ca) g) i' j = if i' = i then qz ca a i j ^^^ qg (toF g) (qz ca a p j) else qz ca a i' j:=by
 have hlt:=qfg hi' hj
 have hsl:(seg a (p * ca) ca).length = ca:=qfb (by rw [ha]; exact qo8 hp)
 unfold qz
 rw [List.getD_eq_getElem?_getD,qb5,List.getElem?_eq_getElem (by omega),Option.map_some,Option.getD_some,hsl]
 by_cases he:i' = i
 ·subst he
  rw [if_pos ⟨by omega,by omega⟩,if_pos rfl,show i' * ca + j - i' * ca = j by omega]
  have hs:(seg a (p * ca) ca).getD j 0 = a.getD (p * ca + j) 0:=by
   rw [List.getD_eq_getElem?_getD,qeW,if_pos hj,List.getD_eq_getElem?_getD]
  rw [hs,qjU,qhl hg (qaF hb _),List.getD_eq_getElem?_getD (l:=a) (i:=i' * ca + j),List.getElem?_eq_getElem (by omega),Option.getD_some]
 ·rw [if_neg (fun h=>he ((qtR hj).1 h)),if_neg he,List.getD_eq_getElem?_getD,List.getElem?_eq_getElem (by omega),Option.getD_some]
theorem qn9 {ca r i:Nat} {a:List Int} {g:Int} (ha:a.length = r * ca) (hb:qx a) (hg:isB g) (hi:i < r) {i' j:Nat} (hi':i' < r) (hj:j < ca) :
  qz ca (qaZ a (i * ca) ca g) i' j = if i' = i then qg (qz ca a i j) (toF g) else qz ca a i' j:=by
 have hlt:=qfg hi' hj
 unfold qz
 rw [List.getD_eq_getElem?_getD,qei,List.getElem?_eq_getElem (by omega),Option.map_some,Option.getD_some]
 by_cases he:i' = i
 ·subst he
  rw [if_pos ⟨by omega,by omega⟩,if_pos rfl,List.getD_eq_getElem?_getD,List.getElem?_eq_getElem (by omega),Option.getD_some,qhl (hb _ (List.getElem_mem _)) hg]
 ·rw [if_neg (fun h=>he ((qtR hj).1 h)),if_neg he,List.getD_eq_getElem?_getD,List.getElem?_eq_getElem (by omega),Option.getD_some]
structure Two (r ca cb:Nat) (a b:List Int):Prop where
 la:a.length = r * ca
 lb:b.length = r * cb
 ba:qx a
 bb:qx b
variable {r ca cb:Nat} {a b:List Int}
theorem Two.add (h:Two r ca cb a b) {i p:Nat} {g:Int}:Two r ca cb (qac a (i * ca) (seg a (p * ca) ca) g) (qac b (i * cb) (seg b (p * cb) cb) g) :=
 ⟨by rw [qcy,h.la],by rw [qcy,h.lb],qdK h.ba,qdK h.bb⟩
theorem Two.scale (h:Two r ca cb a b) {i:Nat} {g:Int} (hg:isB g):Two r ca cb (qaZ a (i * ca) ca g) (qaZ b (i * cb) cb g) :=
 ⟨by rw [qjO,h.la],by rw [qjO,h.lb],qlw h.ba hg,qlw h.bb hg⟩
theorem qwh (h:Two r ca cb a b) {i p:Nat} {g:Int} (hg:isB g) (hi:i < r) (hp:p < r) {i' j:Nat} (hi':i' < r) (hj:j < ca + cb) :
  qW ca cb (qac a (i * ca) (seg a (p * ca) ca) g) (qac b (i * cb) (seg b (p * cb) cb) g) i' j = if i' = i then qW ca cb a b i j ^^^ qg (toF g) (qW ca cb a b p j) else qW ca cb a b i' j:=by
 unfold qW
 by_cases hjc:j < ca
 ·simp only [if_pos hjc]; exact qsP h.la h.ba hg hi hp hi' hjc
 ·simp only [if_neg hjc]; exact qsP h.lb h.bb hg hi hp hi' (by omega)
theorem qz7 (h:Two r ca cb a b) {i:Nat} {g:Int} (hg:isB g) (hi:i < r) {i' j:Nat} (hi':i' < r) (hj:j < ca + cb) :
  qW ca cb (qaZ a (i * ca) ca g) (qaZ b (i * cb) cb g) i' j = if i' = i then qg (qW ca cb a b i j) (toF g) else qW ca cb a b i' j:=by
 unfold qW
 by_cases hjc:j < ca
 ·simp only [if_pos hjc]; exact qn9 h.la h.ba hg hi hi' hjc
 ·simp only [if_neg hjc]; exact qn9 h.lb h.bb hg hi hi' (by omega)
theorem qdC {c i:Nat} (hc:c < ca):qW ca cb a b i c = toF (a.getD (i * ca + c) 0):=by rw [qW,if_pos hc,qz]
theorem qqE (a:List Int) (ca c:Nat):∀ n p,p <= qcQ a ca c p n/\qcQ a ca c p n <= p + n/\(qcQ a ca c p n < p + n->a.getD (qcQ a ca c p n * ca + c) 0 ≠ 0)/\∀ i,p <= i->i < qcQ a ca c p n->a.getD (i * ca + c) 0 = 0
 | 0,p=>by simp only [qcQ]; exact ⟨Nat.le_refl _,Nat.le_refl _,fun h=>by omega,fun i h1 h2=>by omega⟩
 | n + 1,p=>by
  obtain ⟨h1,h2,h3,h4⟩:=qqE a ca c n (p + 1)
  simp only [qcQ]
  split
  ·rename_i hz
   refine ⟨by omega,by omega,fun h=>h3 (by omega),fun i hi1 hi2=>?_⟩
   by_cases hip:i = p
   ·rw [hip]; exact hz
   ·exact h4 i (by omega) hi2
  ·rename_i hz
   exact ⟨Nat.le_refl _,by omega,fun _=>hz,fun i h1 h2=>by omega⟩
theorem Two.rows (h:Two r ca cb a b) {rank c:Nat}:∀ i,Two r ca cb (qa2 ca cb rank c a b i).1 (qa2 ca cb rank c a b i).2
 | 0=>h
 | i + 1=>by
  have ih:=Two.rows h (rank:=rank) (c:=c) i
  simp only [qa2]
  split
  ·exact ih
  ·exact ih.add
theorem qt6 (h:Two r ca cb a b) {rank c:Nat} (hr:rank < r) (hc:c < ca):∀ i,i <= r ->
  (∀ i' j,i' < r->j < ca + cb->qW ca cb (qa2 ca cb rank c a b i).1 (qa2 ca cb rank c a b i).2 i' j = if i' < i/\i' ≠ rank then qW ca cb a b i' j ^^^ qg (qW ca cb a b i' c) (qW ca cb a b rank j) else qW ca cb a b i' j) /\
  Same r (ca + cb) (qW ca cb a b) (qW ca cb (qa2 ca cb rank c a b i).1 (qa2 ca cb rank c a b i).2)
 | 0,_=>⟨fun i' j _ _=>by rw [if_neg (by omega)]; rfl,Same.refl⟩
 | i + 1,hi=>by
  obtain ⟨ih,ihs⟩:=qt6 h hr hc i (by omega)
  have hT:=h.rows (rank:=rank) (c:=c) i
  simp only [qa2]
  by_cases hir:i = rank
  ·rw [if_pos hir]
   refine ⟨fun i' j hi' hj=>?_,ihs⟩
   rw [ih i' j hi' hj]
   by_cases h1:i' < i/\i' ≠ rank
   ·rw [if_pos h1,if_pos ⟨by omega,h1.2⟩]
   ·rw [if_neg h1,if_neg (by omega)]
  ·rw [if_neg hir]
   simp only
   have hg:=qaF hT.ba (i * ca + c)
   have hgv:toF ((qa2 ca cb rank c a b i).1.getD (i * ca + c) 0) = qW ca cb a b i c:=by
    rw [<- qdC (cb:=cb) (b:=(qa2 ca cb rank c a b i).2) hc,ih i c (by omega) (by omega),if_neg (by omega)]
   have hstep:=fun i' j (hi':i' < r) (hj:j < ca + cb)=>qwh hT (g:=(qa2 ca cb rank c a b i).1.getD (i * ca + c) 0) hg (show i < r by omega) hr hi' hj
   refine ⟨fun i' j hi' hj=>?_,ihs.trans (quk (i:=i) (p:=rank) (g:=toF ((qa2 ca cb rank c a b i).1.getD (i * ca + c) 0)) (by omega) hr hir (fun j hj=>by rw [hstep i j (by omega) hj,if_pos rfl]) fun a' ha' hne j hj=>by rw [hstep a' j ha' hj,if_neg hne])⟩
   rw [hstep i' j hi' hj]
   by_cases he:i' = i
   ·subst he
    rw [if_pos rfl,hgv,ih i' j hi' hj,if_neg (by omega),ih rank j hr hj,if_neg (by omega),if_pos ⟨by omega,hir⟩]
   ·rw [if_neg he,ih i' j hi' hj]
    by_cases h1:i' < i/\i' ≠ rank
    ·rw [if_pos h1,if_pos ⟨by omega,h1.2⟩]
    ·rw [if_neg h1,if_neg (by omega)]
theorem q0l {T0:Mat} {c rank:Nat} (h2:Two r ca cb a b) (h:Ech r (ca + cb) T0 (qW ca cb a b) c rank) (hc:c < ca) :
  Two r ca cb (qcF r ca cb c (a,b,rank)).1 (qcF r ca cb c (a,b,rank)).2.1/\Ech r (ca + cb) T0 (qW ca cb (qcF r ca cb c (a,b,rank)).1 (qcF r ca cb c (a,b,rank)).2.1) (c + 1) (qcF r ca cb c (a,b,rank)).2.2:=by
 unfold qcF
 simp only
 by_cases hr:r <= rank
 ·rw [if_pos hr]
  exact ⟨h2,qtY h (by omega) fun i (h1:rank <= i) h3=>by omega⟩
 rw [if_neg hr]
 obtain ⟨p1,p2,p3,p4⟩:=qqE a ca c (r - rank) rank
 by_cases hp:qcQ a ca c rank (r - rank) = r
 ·rw [if_pos hp]
  refine ⟨h2,qtY h (by omega) fun i (h1:rank <= i) h3=>?_⟩
  rw [qdC hc,p4 i h1 (by omega)]; rfl
 rw [if_neg hp]
 simp only
 generalize hpv:qcQ a ca c rank (r - rank) = p at p1 p2 p3 p4 hp
 have hpr:p < r:=by omega
 have hnz:=p3 (by omega)
 have hmid:qfO r ca cb c (a,b,rank) = qg8 ca cb rank c (qb6 ca cb rank p a b).1 (qb6 ca cb rank p a b).2:=by
  unfold qfO; simp only [hpv]
 -- the pivot's row is added
 have h1:Two r ca cb (qb6 ca cb rank p a b).1 (qb6 ca cb rank p a b).2/\Same r (ca + cb) (qW ca cb a b) (qW ca cb (qb6 ca cb rank p a b).1 (qb6 ca cb rank p a b).2) /\
   qW ca cb (qb6 ca cb rank p a b).1 (qb6 ca cb rank p a b).2 rank c ≠ 0/\(∀ i j,i < r->j < ca + cb->i ≠ rank->qW ca cb (qb6 ca cb rank p a b).1 (qb6 ca cb rank p a b).2 i j = qW ca cb a b i j) /\
   ∀ c',c' < c->qW ca cb (qb6 ca cb rank p a b).1 (qb6 ca cb rank p a b).2 rank c' = 0:=by
  have hpc:qW ca cb a b p c ≠ 0:=by
   rw [qdC hc]
   intro h0
   exact hnz ((qe9 (qaF h2.ba _)).1 h0)
  unfold qb6
  by_cases hpe:p = rank
  ·rw [if_pos hpe]
   exact ⟨h2,Same.refl,by rw [<- hpe]; exact hpc,fun _ _ _ _ _=>rfl,fun c' hc'=>h.low rank (Nat.le_refl _) (by omega) c' hc'⟩
  ·rw [if_neg hpe]
   have hst:=fun i' j (hi':i' < r) (hj:j < ca + cb)=>qwh h2 (g:=1) ⟨by omega,by omega⟩ (show rank < r by omega) hpr hi' hj
   have h1:toF 1 = 1:=rfl
   refine ⟨h2.add,quk (i:=rank) (p:=p) (g:=toF 1) (by omega) hpr (Ne.symm hpe) (fun j hj=>by simp only; rw [hst rank j (by omega) hj,if_pos rfl]) (fun a' ha' hne j hj=>by simp only; rw [hst a' j ha' hj,if_neg hne]),?_,fun i j hi hj hne=>by simp only; rw [hst i j hi hj,if_neg hne],fun c' hc'=>?_⟩
   ·simp only
    rw [hst rank c (by omega) (by omega),if_pos rfl,h1,qh7]
    rw [qdC hc (i:=rank),p4 rank (Nat.le_refl _) (by omega),qsd,qao]
    exact hpc
   ·simp only
    rw [hst rank c' (by omega) (by omega),if_pos rfl,h1,qh7,h.low rank (Nat.le_refl _) (by omega) c' hc',h.low p (by omega) hpr c' hc',qae]
 rw [hmid]
 generalize qb6 ca cb rank p a b = s1 at h1
 obtain ⟨t1,same1,nz1,oth1,low1⟩:=h1
 -- it is scaled
 have hgB:=q2A (qaF t1.ba (rank * ca + c))
 have hgv:toF (qf1 (s1.1.getD (rank * ca + c) 0)) = qeu (qW ca cb s1.1 s1.2 rank c):=by rw [q3D (qaF t1.ba _),qdC hc]
 have t2:Two r ca cb (qg8 ca cb rank c s1.1 s1.2).1 (qg8 ca cb rank c s1.1 s1.2).2:=t1.scale hgB
 have hsc:∀ i j,i < r->j < ca + cb->qW ca cb (qg8 ca cb rank c s1.1 s1.2).1 (qg8 ca cb rank c s1.1 s1.2).2 i j = if i = rank then qg (qW ca cb s1.1 s1.2 rank j) (qeu (qW ca cb s1.1 s1.2 rank c)) else qW ca cb s1.1 s1.2 i j:=fun i j hi hj=>by
  rw [<- hgv]
  exact qz7 t1 hgB (by omega) hi hj
 generalize qg8 ca cb rank c s1.1 s1.2 = s2 at t2 hsc
 have same2:Same r (ca + cb) (qW ca cb s1.1 s1.2) (qW ca cb s2.1 s2.2):=q18 (i:=rank) (g:=qeu (qW ca cb s1.1 s1.2 rank c)) (by omega) (q4q nz1) (fun j hj=>by rw [hsc rank j (by omega) hj,if_pos rfl]) fun a' ha' hne j hj=>by rw [hsc a' j ha' hj,if_neg hne]
 have one2:qW ca cb s2.1 s2.2 rank c = 1:=by rw [hsc rank c (by omega) (by omega),if_pos rfl,qhM nz1]
 have low2:∀ c',c' < c->qW ca cb s2.1 s2.2 rank c' = 0:=fun c' hc'=>by rw [hsc rank c' (by omega) (by omega),if_pos rfl,low1 c' hc',qA]
 have oth2:∀ i j,i < r->j < ca + cb->i ≠ rank->qW ca cb s2.1 s2.2 i j = qW ca cb a b i j:=fun i j hi hj hne=>by rw [hsc i j hi hj,if_neg hne,oth1 i j hi hj hne]
 -- the others are cleared
 obtain ⟨r3,same3⟩:=qt6 t2 (rank:=rank) (c:=c) (by omega) hc r (Nat.le_refl _)
 refine ⟨t2.rows r,q2s h (by omega) (by omega) ((same1.trans same2).trans same3) (fun i hi=>?_) fun c' hc' i hi=>?_⟩
 ·rw [r3 i c hi (by omega),one2,qaW]
  by_cases hir:i = rank
  ·rw [if_neg (by omega),hir,one2,del,if_pos rfl]
  ·rw [if_pos ⟨hi,hir⟩,qa0,del,if_neg hir]
 ·rw [r3 i c' hi (by omega),low2 c' hc',q6,qae]
  by_cases hir:i = rank
  ·rw [if_neg (by omega),hir,low2 c' hc',h.low rank (Nat.le_refl _) (by omega) c' hc']
  ·rw [if_pos ⟨hi,hir⟩,oth2 i c' hi (by omega) hir]
theorem quB (h:Two r ca cb a b):∀ c,c <= ca->Two r ca cb (qbN r ca cb a b c).1 (qbN r ca cb a b c).2.1/\Ech r (ca + cb) (qW ca cb a b) (qW ca cb (qbN r ca cb a b c).1 (qbN r ca cb a b c).2.1) c (qbN r ca cb a b c).2.2
 | 0,_=>⟨h,q0q⟩
 | c + 1,hc=>by
  obtain ⟨h1,h2⟩:=quB h c (by omega)
  rw [qbN]
  exact q0l h1 h2 (by omega)
end Go.Proofs

set_option linter.unusedSimpArgs false
set_option linter.unusedVariables false
namespace Go.Proofs
open Go Go.Eng
theorem q4F {d:qd} (h:qx (bI d)):q9 d:=fun row hr=>h (qb9 row 0) (List.mem_map.2 ⟨row,hr,rfl⟩)
end Go.Proofs

set_option linter.unusedSimpArgs false
set_option linter.unusedVariables false
namespace Go.Proofs
open Go Go.Eng
set_option maxRecDepth 20000
theorem qvn {k n t s:Int} {o:List Int} (h:o.length = 32):(qaE k n t s o).length = 39:=by simp [qaE,qaC,h]
theorem q3T:idC.ok Tryz.prog:=q7d (by simp [q0s,qlH]) fun ρ hg hp=>by
 obtain ⟨⟨hl,hO,hD⟩,hGr,hGd⟩:=hp
 simp (config:={ maxSteps:=2000000 }) [q2O,idC,qnQ,qdq,qaK,qnv,qix,qbb,gOk,qsp,qzk,qlU]
 refine ⟨⟨by omega,hl,hO,hD⟩,fun l _ c _ d _ hok hl2 hB hd=>?_⟩
 have hd:bI d.d = qaE (ρ 0).i (ρ 1).i (ρ 2).i (ρ 3).i (qf (ρ 4).d 32) ++ (dgs (ρ 8).d).flatten:=hd
 have hb:=hok
 simp [qG,qbf] at hb
 have hlen:=congrArg List.length hd
 rw [List.length_append,qc8 q5z,q4e,bI_len,qvn qdk] at hlen
 refine fun hc=>⟨⟨⟨by omega,by omega,by omega,by omega,hB⟩,hGr,hGd⟩,fun x _ hx=>⟨hok,?_⟩⟩
 have hx:qf x.d 32 = sha (qaE (ρ 0).i (ρ 1).i (ρ 2).i (ρ 3).i (qf (ρ 4).d 32) ++ (dgs (ρ 8).d).flatten):=by
  rw [hx,qce,hd.symm]
  simp only [Int.toNat_zero,List.drop_zero]
  rw [List.take_of_length_le (by rw [bI_len]; omega)]
 exact hx
end Go.Proofs

set_option linter.unusedSimpArgs false
set_option linter.unusedVariables false
set_option maxRecDepth 100000
namespace Go.Proofs
open Go Go.Eng

def qn3:Out:=(.fresh 18 (.fresh 19 (.pre 0 (sg 0 [bv 9 9,bv 8 8,bv 7 7,bv 6 6,bg 5 5,bv 3 3,bv 2 2,bv 1 1,bv 0 0,bt 4 (r8 4)]) (.both (.fresh 20 (.post 0 0 (sg 0 [bv 9 9,bv 8 8,bv 7 7,bv 6 6,bg 5 5,bv 3 3,bv 2 2,bv 1 1,bv 0 0,bt 4 (r8 4)]) 20 (.br (.cmp .neq (.var 20) (.lit 0))
 (.ret 0 (sg 18 [bv 18 20]))
 (.br (.cmp .lss (.var 10) (.lit 0))
 (.ret 0 (sg 18 [bt 18 (.lit 2)]))
 (.br (.cmp .geq (.var 10) (.var 2))
 (.ret 0 (sg 18 [bt 18 (.lit 2)]))
 (.pre 1 (sg 0 [bv 1 3,bv 0 0]) (.both (.fresh 21 (.fresh 22 (.post 1 0 (sg 0 [bv 1 3,bv 0 0]) 21 (.need (.cmp .leq (.lit 0) (.var 12)) (.br (.cmp .neq (.var 12) (.var 21))
 (.ret 0 (sg 18 [bt 18 (.lit 10)]))
 (.need (.cmp .leq (.lit 0) (.var 10)) (.need (.cmp .lss (.var 10) (.var 6)) (.need (.cmp .lss (.var 10) (.dlen (.var 8))) (.both (.pre 2 (sg 0 [bv 8 17,bv 6 15,bv 5 14,bv 4 13,bv 3 12,bt 2 (.lit 0),bg 1 11,bv 0 10,bg 7 16]) (.both (.fresh 23 (.post 2 0 (sg 0 [bv 8 17,bv 6 15,bv 5 14,bv 4 13,bv 3 12,bt 2 (.lit 0),bg 1 11,bv 0 10,bg 7 16]) 23 (.br (.not (.c2 .req (r8 23) (.rcons (i8 8 10 0) (.rcons (i8 8 10 1) (.rcons (i8 8 10 2) (.rcons (i8 8 10 3) (.rcons (i8 8 10 4) (.rcons (i8 8 10 5) (.rcons (i8 8 10 6) (.rcons (i8 8 10 7) (.rcons (i8 8 10 8) (.rcons (i8 8 10 9) (.rcons (i8 8 10 10) (.rcons (i8 8 10 11) (.rcons (i8 8 10 12) (.rcons (i8 8 10 13) (.rcons (i8 8 10 14) (.rcons (i8 8 10 15) (.rcons (i8 8 10 16) (.rcons (i8 8 10 17) (.rcons (i8 8 10 18) (.rcons (i8 8 10 19) (.rcons (i8 8 10 20) (.rcons (i8 8 10 21) (.rcons (i8 8 10 22) (.rcons (i8 8 10 23) (.rcons (i8 8 10 24) (.rcons (i8 8 10 25) (.rcons (i8 8 10 26) (.rcons (i8 8 10 27) (.rcons (i8 8 10 28) (.rcons (i8 8 10 29) (.rcons (i8 8 10 30) (.rcons (i8 8 10 31) .rnil))))))))))))))))))))))))))))))))))
 (.ret 0 (sg 18 [bt 18 (.lit 20)]))
 (.ret 0 (sg 18 [bt 18 (.lit 0)]))))) .top)) .top))))))))) .top))))))) .top))))
theorem qv4:qk ⟨Tryz.prog,qdy,[qbL,qbe,qbi],[]⟩ 100000 Tryz.f60 = qn3:=by kernel_rfl
theorem q0Q (hd:∀ c ∈ ([qbL,qbe,qbi]:List Ctr),c.ok Tryz.prog) (h:∀ ρ:Env,ρ.good->(qdy).pre ρ->qn3.den ⟨Tryz.prog,qdy,[qbL,qbe,qbi],[]⟩ ρ):(qdy).ok Tryz.prog :=
 qe Tryz.func60 (fun a w=>Tryz.call60 a w) hd 100000 (fun ρ hg hp=>by rw [qv4]; exact h ρ hg hp)
end Go.Proofs

set_option linter.unusedSimpArgs false
set_option linter.unusedVariables false
set_option maxRecDepth 100000
namespace Go.Proofs
open Go Go.Eng

end Go.Proofs

set_option linter.unusedSimpArgs false
set_option linter.unusedVariables false
namespace Go.Proofs
open Go Go.Eng
end Go.Proofs

set_option linter.unusedSimpArgs false
set_option linter.unusedVariables false
namespace Go.Proofs
open Go Go.Eng

end Go.Proofs

set_option linter.unusedSimpArgs false
set_option linter.unusedVariables false
namespace Go.Proofs
open Go Go.Eng
set_option maxRecDepth 20000
theorem q16 {k n t s l i:Int} {D:List (List Int)} {m:List Int} (h:qG k n t s l = false):2 = qcg k n t s l D i m:=by rw [qcg,if_pos h]
theorem qsg {k n t s l i:Int} {D:List (List Int)} {m:List Int} (h:qG k n t s l = true) (hi:i < 0∨t <= i):2 = qcg k n t s l D i m:=by rw [qcg,if_neg (by rw [h]; decide),if_pos hi]
theorem q39 {k n t s l i:Int} {D:List (List Int)} {m:List Int} (h:qG k n t s l = true) (h0:0 <= i) (h1:i < t) (hl:(m.length:Int) ≠ qec k s):10 = qcg k n t s l D i m:=by rw [qcg,if_neg (by rw [h]; decide),if_neg (by omega),if_pos hl]
theorem q2j {k n t s l i:Int} {D:List (List Int)} {m:List Int} (h:qG k n t s l = true) (h0:0 <= i) (h1:i < t) (hl:(m.length:Int) = qec k s) (hs:sha (qbW i ++ m) ≠ D.getD i.toNat []):20 = qcg k n t s l D i m:=by rw [qcg,if_neg (by rw [h]; decide),if_neg (by omega),if_neg (fun h=>h hl),if_pos hs]
theorem q4w {k n t s l i:Int} {D:List (List Int)} {m:List Int} (h:qG k n t s l = true) (h0:0 <= i) (h1:i < t) (hl:(m.length:Int) = qec k s) (hs:sha (qbW i ++ m) = D.getD i.toNat []):0 = qcg k n t s l D i m:=by rw [qcg,if_neg (by rw [h]; decide),if_neg (by omega),if_neg (fun h=>h hl),if_neg (fun h=>h hs)]
theorem qyH {k n t s l:Int} (h:qG k n t s l = true):¬ qeO k s:=by
 simp [qG,qbf] at h
 unfold qeO; omega
set_option maxHeartbeats 1000000 in
theorem q0u:qdy.ok Tryz.prog:=q0Q (by simp [qrn,qoA,qnP]) fun ρ hg hp=>by
 obtain ⟨⟨i0,i3,hl,hD,hpl,hpc,hp1,hB⟩,hGr,hGd⟩:=hp
 simp only [Nat.reduceAdd] at hpl hpc hp1 hB
 simp (config:={ maxSteps:=4000000,contextual:=true }) [qn3,qdy,qpT,qbL,qbe,qbi,qnv,qix,qbb,gOk,hGr,hGd,hB,hD,hl,hpl]
 refine fun u _ hu=>⟨q16,fun hok=>⟨fun h0=>qsg hok (.inl h0),fun h0=>⟨fun ht=>qsg hok (.inr ht),fun ht l _ e _ _ hgood=>?_⟩⟩⟩
 have hlen:=(hgood (qyH hok)).1
 have hml:(bI (ρ 14).d).length = (ρ 14).d.length:=bI_len
 have htl:(ρ 2).i = (ρ 8).d.length:=by simp [qG] at hok; omega
 have hrow:qrU (ρ 8).d (ρ 10).i = (dgs (ρ 8).d).getD (ρ 10).i.toNat []:=qzC h0 (by omega)
 refine ⟨fun hne=>q39 hok h0 ht (by rw [hml,qec,<- hlen]; exact hne),fun heq=>⟨by omega,⟨by omega,by omega,by omega⟩,fun x _ hx=>?_⟩⟩
 rw [qjA heq.symm,hrow]
 exact ⟨fun hn=>q2j hok h0 ht (by rw [hml,qec,<- hlen]; exact heq) hn,fun he=>q4w hok h0 ht (by rw [hml,qec,<- hlen]; exact heq) he⟩
end Go.Proofs

set_option linter.unusedSimpArgs false
set_option linter.unusedVariables false
namespace Go.Proofs
open Go Go.Eng

theorem qt8 {k n:Nat} (hk:0 < k):n <= k * qD k n:=by
 unfold qD
 have h1:=Nat.div_add_mod (n + k - 1) k
 have h2:=Nat.mod_lt (n + k - 1) hk
 omega
theorem q0j {n:Nat}:(qax n n).length = n * n:=by simp [qax]
theorem qzU {n i:Nat} (hi:i < n * n):(qax n n).getD i 0 = if i / n = i % n then 1 else 0:=by
 have hn:0 < n:=by
  cases n with
  | zero=>simp at hi
  | succ n=>omega
 rw [List.getD_eq_getElem?_getD,qax,List.getElem?_map,List.getElem?_range hi]
 simp only [Option.map_some,Option.getD_some]
 have:i / n < n:=Nat.div_lt_of_lt_mul hi
 by_cases h:i / n = i % n
 ·rw [if_pos ⟨h,this⟩,if_pos h]
 ·rw [if_neg (fun hh=>h hh.1),if_neg h]
theorem qiA {i n j:Nat} (hj:j < n):(i * n + j) / n = i/\(i * n + j) % n = j:=by
 have hn:0 < n:=by omega
 constructor
 ·rw [Nat.mul_comm,Nat.mul_add_div hn,Nat.div_eq_of_lt hj,Nat.add_zero]
 ·rw [Nat.mul_comm,Nat.mul_add_mod,Nat.mod_eq_of_lt hj]
theorem qvY {n:Nat}:qx (qax n n):=fun x hx=>by
 simp only [qax,List.mem_map] at hx
 obtain ⟨i,_,rfl⟩:=hx
 split <;> exact ⟨by omega,by omega⟩
theorem qrb {n i j:Nat} (hi:i < n) (hj:j < n):qz n (qax n n) i j = del i j:=by
 obtain ⟨h1,h2⟩:=qiA (i:=i) hj
 rw [qz,qzU (qfg hi hj),h1,h2,del]
 split <;> rfl
theorem qyV {r c:Nat}:(qbn r c).length = r * c:=by simp [qbn,qcd]
theorem qxn {r c i j:Nat} (hi:i < r) (hj:j < c):(qbn r c).getD (i * c + j) 0 = qgA (i:Int) (j:Int):=by
 obtain ⟨h1,h2⟩:=qiA (i:=i) hj
 have hlt:=qfg hi hj
 rw [List.getD_eq_getElem?_getD,qbn,qcd,List.getElem?_map,List.getElem?_range hlt]
 simp only [Option.map_some,Option.getD_some]
 rw [if_pos hlt,qmd,h1,h2]
def xsF (m:Nat):F:=toF (m:Int)
theorem qoQ {r c i j:Nat} (hr:r <= 256) (hi:i < r) (hj:j < c) (hc:c < 9223372036854775808):qz c (qbn r c) i j = qaG (xsF i) j:=by
 rw [qz,qxn hi hj,q1m ⟨by omega,by omega⟩ (by omega),qjc,Int.toNat_natCast]; rfl
theorem ql6 {r c:Nat} (hr:r <= 256) (hc:c < 9223372036854775808):qx (qbn r c):=fun x hx=>by
 simp only [qbn,qcd,List.mem_map,List.mem_range] at hx
 obtain ⟨i,hi,rfl⟩:=hx
 rw [if_pos hi]
 have hc0:0 < c:=by
  cases c with
  | zero=>simp at hi
  | succ c=>omega
 have h1:i / c < r:=Nat.div_lt_of_lt_mul (by rwa [Nat.mul_comm] at hi)
 have h2:=Nat.mod_lt i hc0
 have h3:((i / c:Nat):Int) < 256:=by omega
 exact q2G ⟨Int.natCast_nonneg _,h3⟩ (by omega)
theorem qe7 {n:Nat} (hn:n <= 256):qb0 n xsF:=fun i j hi hj h=>by
 have:=qqg (x:=(i:Int)) (y:=(j:Int)) ⟨by omega,by omega⟩ ⟨by omega,by omega⟩ h
 omega
theorem qyF {l:List Int} {n:Nat} (h:qx l):qx (l.take n):=fun x hx=>h x (List.mem_of_mem_take hx)
theorem q3w {l:List Int} {n c i j:Nat} (hi:i < n) (hj:j < c):qz c (l.take (n * c)) i j = qz c l i j:=by
 have hlt:=qfg hi hj
 rw [qz,qz,List.getD_eq_getElem?_getD,List.getD_eq_getElem?_getD,List.getElem?_take,if_pos hlt]

theorem qhP {ca cb:Nat} {a b:List Int} {i j:Nat}:qW ca cb a b i (ca + j) = qz cb b i j:=by
 rw [qW,if_neg (by omega),show ca + j - ca = j by omega]
theorem qpE {n:Nat} {a A B:List Int} (h:Ech n (n + n) (qW n n a (qax n n)) (qW n n A B) n n) :
  (∀ i j,i < n->j < n->qw (fun l=>qg (qz n B i l) (qz n a l j)) n = del i j)/\∀ i j,i < n->j < n->qw (fun l=>qg (qz n a i l) (qz n B l j)) n = del i j:=by
 refine ⟨fun i j hi hj=>?_,fun i j hi hj=>?_⟩
 ·obtain ⟨x,hx⟩:=h.same.to i hi
  have hxB:∀ l,l < n->x l = qz n B i l:=fun l hl=>by
   have h1:=hx (n + l) (by omega)
   rw [qhP,qj fun m hm=>by rw [qhP,qrb hm hl],qg1 (f:=x) hl] at h1
   exact h1.symm
  have h2:=hx j (by omega)
  rw [qth h i hi j hj,qj fun m hm=>by rw [hxB m hm,qdC hj]] at h2
  exact h2.symm
 ·obtain ⟨x,hx⟩:=h.same.back i hi
  have hxa:∀ l,l < n->x l = qz n a i l:=fun l hl=>by
   have h1:=hx l (by omega)
   rw [qdC hl,qj fun m hm=>by rw [qth h m hm l hl],qg1 (f:=x) hl] at h1
   exact h1.symm
  have h2:=hx (n + j) (by omega)
  rw [qhP,qrb hi hj,qj fun m hm=>by rw [hxa m hm,qhP]] at h2
  exact h2.symm
theorem qzT {n:Nat} {m:List Int} (hl:m.length = n * n) (hb:qx m):Two n n n m (qax n n):=⟨hl,q0j,hb,qvY⟩
theorem qlW {n:Nat} {m:List Int} (hl:m.length = n * n) (hb:qx m):Two n n n (qes m n).1 (qes m n).2.1/\Ech n (n + n) (qW n n m (qax n n)) (qW n n (qes m n).1 (qes m n).2.1) n (qes m n).2.2 :=
 quB (qzT hl hb) n (Nat.le_refl _)
theorem quK {n:Nat} {m:List Int} (hl:m.length = n * n) (hb:qx m) (h:∀ y:Nat->F,(∀ i,i < n->qw (fun j=>qg (qz n m i j) (y j)) n = 0)->∀ j,j < n->y j = 0):(qes m n).2.2 = n:=by
 obtain ⟨_,he⟩:=qlW hl hb
 refine Classical.byContradiction fun hne=>?_
 have hlt:(qes m n).2.2 < n:=by have:=he.le; omega
 obtain ⟨y,⟨c,hc,hyc⟩,hy⟩:=q2c he (by omega) hlt
 exact hyc (h y (fun i hi=>by rw [<- hy i hi]; exact qj fun j hj=>by rw [qdC hj]; rfl) c hc)

theorem qw2 {k total:Nat} (h:k <= total):((qbn total k).take (k * k)).length = k * k:=by
 rw [List.length_take,qyV]
 exact Nat.min_eq_left (Nat.mul_le_mul_right k h)
theorem qww {k total i j:Nat} (hk:k <= total) (ht:total <= 255) (hi:i < k) (hj:j < k):qz k ((qbn total k).take (k * k)) i j = qaG (xsF i) j:=by
 rw [q3w hi hj,qoQ (by omega) (by omega) hj (by omega)]
theorem qrc {k total:Nat} (hk:k <= total) (ht:total <= 255):qx ((qbn total k).take (k * k)):=qyF (ql6 (by omega) (by omega))
theorem q2x {k total:Nat} (hk:k <= total) (ht:total <= 255):(qch k total).2.2 = k :=
 quK (qw2 hk) (qrc hk ht) fun y hy=>qoh (qe7 (by omega)) fun i hi=>by
  rw [<- hy i hi]
  exact qj fun j hj=>by rw [qww hk ht hi hj]
theorem qwH {k total:Nat} (hk:k <= total) (ht:total <= 255):Two k k k (qch k total).1 (qch k total).2.1/\Ech k (k + k) (qW k k ((qbn total k).take (k * k)) (qax k k)) (qW k k (qch k total).1 (qch k total).2.1) k k:=by
 have h:=qlW (qw2 hk) (qrc hk ht)
 have hr:=q2x hk ht
 unfold qch at hr ⊢
 rw [hr] at h
 exact h

theorem qm1 {a b:List Int} {ra ca cb:Nat} (hb:b.length = ca * cb) (ha:qx a) (hbb:qx b) (hca:0 < ca):∀ t,t <= ra * ca->(qcm a b ra ca cb t).length = ra * cb/\qx (qcm a b ra ca cb t) /\
  ∀ i j,i < ra->j < cb->qz cb (qcm a b ra ca cb t) i j = qw (fun l=>if i * ca + l < t then qg (qz ca a i l) (qz cb b l j) else 0) ca
 | 0,_=>⟨by simp [qcm],fun x hx=>by rw [qcm] at hx; rw [List.eq_of_mem_replicate hx]; exact ⟨by omega,by omega⟩,fun i j hi hj=>by
   rw [qcw fun l _=>if_neg (by omega),qz,qcm,List.getD_eq_getElem?_getD,List.getElem?_replicate,if_pos (qfg hi hj)]; rfl⟩
 | t + 1,ht=>by
  obtain ⟨h1,h2,h3⟩:=qm1 (ra:=ra) hb ha hbb hca t (by omega)
  have hti:t / ca < ra:=Nat.div_lt_of_lt_mul (by rw [Nat.mul_comm]; omega)
  have htl:=Nat.mod_lt t hca
  have htd:=Nat.div_add_mod t ca
  rw [qcm]
  refine ⟨by rw [qcy,h1],qdK h2,fun i j hi hj=>?_⟩
  have hlt:=qfg hi hj
  have hsl:(seg b (t % ca * cb) cb).length = cb:=qfb (by rw [hb]; exact qo8 htl)
  have hL:qz cb (qac (qcm a b ra ca cb t) (t / ca * cb) (seg b (t % ca * cb) cb) (a.getD t 0)) i j = if i = t / ca then qz cb (qcm a b ra ca cb t) i j ^^^ qg (toF (a.getD t 0)) (qz cb b (t % ca) j) else qz cb (qcm a b ra ca cb t) i j:=by
   unfold qz
   rw [List.getD_eq_getElem?_getD,qb5,List.getElem?_eq_getElem (by omega),Option.map_some,Option.getD_some,hsl]
   by_cases he:i = t / ca
   ·subst he
    rw [if_pos ⟨by omega,by omega⟩,if_pos rfl,show t / ca * cb + j - t / ca * cb = j by omega]
    have hs:(seg b (t % ca * cb) cb).getD j 0 = b.getD (t % ca * cb + j) 0:=by
     rw [List.getD_eq_getElem?_getD,qeW,if_pos hj,List.getD_eq_getElem?_getD]
    rw [hs,qjU,qhl (qaF ha _) (qaF hbb _),List.getD_eq_getElem?_getD (l:=qcm a b ra ca cb t),List.getElem?_eq_getElem (by omega),Option.getD_some]
   ·rw [if_neg (fun h=>he ((qtR hj).1 h)),if_neg he,List.getD_eq_getElem?_getD,List.getElem?_eq_getElem (by omega),Option.getD_some]
  rw [hL,h3 i j hi hj]
  by_cases he:i = t / ca
  ·have hit:i * ca + t % ca = t:=by rw [he,Nat.mul_comm]; exact htd
   rw [if_pos he]
   have hat:toF (a.getD t 0) = qz ca a i (t % ca):=by rw [qz,hit]
   have h4:qg (toF (a.getD t 0)) (qz cb b (t % ca) j) = qw (fun l=>if l = t % ca then qg (qz ca a i l) (qz cb b l j) else 0) ca:=by
    rw [qhB htl fun l _ hl=>if_neg hl,if_pos rfl,hat]
   rw [h4,<- qfS]
   refine qj fun l hl=>?_
   by_cases hlt:l = t % ca
   ·subst hlt; rw [if_neg (by omega),if_pos rfl,if_pos (by omega),qao]
   ·rw [if_neg hlt,qae]
    by_cases h5:i * ca + l < t
    ·rw [if_pos h5,if_pos (by omega)]
    ·rw [if_neg h5,if_neg (by omega)]
  ·rw [if_neg he]
   refine qj fun l hl=>?_
   have hne:i * ca + l ≠ t:=fun h=>he (by rw [<- h]; exact (qiA hl).1.symm)
   by_cases h5:i * ca + l < t
   ·rw [if_pos h5,if_pos (by omega)]
   ·rw [if_neg h5,if_neg (by omega)]
theorem qx5 {a b:List Int} {ra ca cb:Nat} (hb:b.length = ca * cb) (ha:qx a) (hbb:qx b) (hca:0 < ca):(qlP a b ra ca cb).length = ra * cb/\qx (qlP a b ra ca cb) /\
  ∀ i j,i < ra->j < cb->qz cb (qlP a b ra ca cb) i j = qw (fun l=>qg (qz ca a i l) (qz cb b l j)) ca:=by
 obtain ⟨h1,h2,h3⟩:=qm1 (ra:=ra) hb ha hbb hca (ra * ca) (Nat.le_refl _)
 refine ⟨h1,h2,fun i j hi hj=>?_⟩
 rw [qlP,h3 i j hi hj]
 exact qj fun l hl=>if_pos (qfg hi hl)

theorem qeX {k total:Nat} (h1:1 <= k) (hk:k <= total) (ht:total <= 255):(qcO k total).length = total * k/\qx (qcO k total) /\
  (∀ i j,i < total->j < k->qz k (qcO k total) i j = qw (fun l=>qg (qaG (xsF i) l) (qz k (qch k total).2.1 l j)) k) /\
  ∀ i j,i < total->j < k->qz k (qcO k total) i j = qfu k xsF (xsF i) j:=by
 obtain ⟨t2,he⟩:=qwH hk ht
 obtain ⟨p1,p2,p3⟩:=qx5 (ra:=total) t2.lb (ql6 (r:=total) (c:=k) (by omega) (by omega)) t2.bb (by omega)
 have hg:∀ i j,i < total->j < k->qz k (qcO k total) i j = qw (fun l=>qg (qaG (xsF i) l) (qz k (qch k total).2.1 l j)) k:=fun i j hi hj=>by
  rw [qcO,p3 i j hi hj]
  exact qj fun l hl=>by rw [qoQ (by omega) hi hl (by omega)]
 refine ⟨p1,p2,hg,fun i j hi hj=>?_⟩
 obtain ⟨_,m2⟩:=qpE he
 have hp:∀ x,q7 k (fun l=>qz k (qch k total).2.1 l j) x = qw (fun l=>qg (qaG x l) (qz k (qch k total).2.1 l j)) k:=fun x=>qj fun l _=>qad
 rw [hg i j hi hj,<- hp,qjq (qe7 (n:=k) (by omega))]
 rw [qj (g:=fun m=>qg (qfu k xsF (xsF i) m) (del m j)) fun m hm=>?_,qg1 hj]
 rw [hp,<- m2 m j hm hj]
 congr 1
 exact qj fun l hl=>by rw [qww hk ht hm hl]
theorem qk3 {g full:List Int} {k l i:Nat} (hg:qx g) (hf:qx full) (hl:full.length = k * l):∀ j,j <= k->(qbY g full k l i j).length = l/\qx (qbY g full k l i j) /\
  ∀ c,c < l->toF ((qbY g full k l i j).getD c 0) = qw (fun m=>qg (qz k g i m) (toF (full.getD (m * l + c) 0))) j
 | 0,_=>⟨by simp [qbY],fun x hx=>by rw [qbY] at hx; rw [List.eq_of_mem_replicate hx]; exact ⟨by omega,by omega⟩,fun c hc=>by
   rw [qbY,List.getD_eq_getElem?_getD,List.getElem?_replicate,if_pos hc]; rfl⟩
 | j + 1,hj=>by
  obtain ⟨h1,h2,h3⟩:=qk3 hg hf hl (i:=i) j (by omega)
  have hsl:(seg full (j * l) l).length = l:=qfb (by rw [hl]; exact qo8 (by omega))
  rw [qbY]
  refine ⟨by rw [qcy,h1],qdK h2,fun c hc=>?_⟩
  rw [List.getD_eq_getElem?_getD,qb5,List.getElem?_eq_getElem (by omega),Option.map_some,Option.getD_some,hsl,if_pos ⟨by omega,by omega⟩,Nat.sub_zero]
  have hs:(seg full (j * l) l).getD c 0 = full.getD (j * l + c) 0:=by
   rw [List.getD_eq_getElem?_getD,qeW,if_pos hc,List.getD_eq_getElem?_getD]
  rw [hs,qjU,qhl (qaF hg _) (qaF hf _),qw,<- h3 c hc,List.getD_eq_getElem?_getD (l:=qbY g full k l i j),List.getElem?_eq_getElem (by omega),Option.getD_some]
  rfl
theorem qyQ {data:List Int} {n:Nat} (hb:qx data) (hn:data.length <= n):(qhN data n).length = n/\qx (qhN data n):=by
 refine ⟨by simp [qhN]; omega,fun x hx=>?_⟩
 rcases List.mem_append.1 hx with hx | hx
 ·exact hb x hx
 ·rw [List.eq_of_mem_replicate hx]; exact ⟨by omega,by omega⟩
theorem q2T {data:List Int} {n i:Nat}:(qhN data n).getD i 0 = data.getD i 0:=by
 rw [List.getD_eq_getElem?_getD,List.getD_eq_getElem?_getD,qhN]
 by_cases h:i < data.length
 ·rw [List.getElem?_append_left h]
 ·rw [List.getElem?_append_right (by omega),List.getElem?_eq_none (l:=data) (by omega),List.getElem?_replicate]
  split <;> rfl
theorem qzz {k total:Nat} {data:List Int} (h1:1 <= k) (hk:k <= total) (ht:total <= 255) (hb:qx data) (i:Nat):(qd0 k total data i).length = qD k data.length/\qx (qd0 k total data i) /\
  ∀ c,c < qD k data.length->toF ((qd0 k total data i).getD c 0) = qw (fun m=>qg (qz k (qcO k total) i m) (toF (data.getD (m * qD k data.length + c) 0))) k:=by
 obtain ⟨g1,g2,_,_⟩:=qeX h1 hk ht
 obtain ⟨f1,f2⟩:=qyQ hb (n:=k * qD k data.length) (qt8 (by omega))
 obtain ⟨p1,p2,p3⟩:=qk3 (i:=i) g2 f2 f1 k (Nat.le_refl _)
 refine ⟨p1,p2,fun c hc=>?_⟩
 rw [qd0,p3 c hc]
 exact qj fun m _=>by rw [q2T]
end Go.Proofs

set_option linter.unusedSimpArgs false
set_option linter.unusedVariables false
namespace Go.Eng
open Go
end Go.Eng
namespace Go.Proofs
open Go Go.Eng
theorem qrP {a b:List Int} (hl:a.length = b.length) (h:∀ i,i < a.length->a.getD i 0 = b.getD i 0):a = b:=by
 apply List.ext_getElem hl
 intro i h1 h2
 have:=h i h1
 rwa [List.getD_eq_getElem?_getD,List.getElem?_eq_getElem h1,List.getD_eq_getElem?_getD,List.getElem?_eq_getElem h2] at this
end Go.Proofs

set_option linter.unusedSimpArgs false
set_option linter.unusedVariables false
namespace Go.Eng
open Go Go.Proofs

def qfI (m:List Int) (cols:Nat) (rs:List Int):List Int:=rs.flatMap fun r=>seg m (r.toNat * cols) cols
def qk2 (xs:List Int) (x:Int):List Int:=(List.range xs.length).map fun i=>ofF (qfu xs.length (fun m=>toF (xs.getD m 0)) (toF x) i)
end Go.Eng

set_option linter.unusedSimpArgs false
set_option linter.unusedVariables false
set_option maxRecDepth 100000
namespace Go.Proofs
open Go Go.Eng

end Go.Proofs

set_option linter.unusedSimpArgs false
set_option linter.unusedVariables false
namespace Go.Proofs
open Go Go.Eng

end Go.Proofs

set_option linter.unusedSimpArgs false
set_option linter.unusedVariables false
namespace Go.Proofs
open Go Go.Eng
theorem qsY {m:List Int} {c r:Nat} (hm:r * c <= m.length):∀ {rs:List Int},(∀ x ∈ rs,0 <= x/\x < (r:Int))->(qfI m c rs).length = rs.length * c
 | [],_=>by simp [qfI]
 | x :: rs,h=>by
  have ih:=qsY hm (rs:=rs) fun y hy=>h y (List.mem_cons_of_mem _ hy)
  have hx:=h x (List.mem_cons_self ..)
  have:=qo8 (ca:=c) (show x.toNat < r by omega)
  rw [qfI,List.flatMap_cons,List.length_append,qfb (by omega),show (rs.flatMap fun r=>seg m (r.toNat * c) c) = qfI m c rs from rfl,ih,List.length_cons,Nat.add_mul]; omega
theorem quw {l:List Int} {n:Nat} (h:n < l.length):l.getD n 0 ∈ l:=by
 rw [List.getD_eq_getElem?_getD,List.getElem?_eq_getElem h]; exact List.getElem_mem h
end Go.Proofs

set_option linter.unusedSimpArgs false
set_option linter.unusedVariables false
namespace Go.Eng
open Go Go.Proofs
def qbZ (k total:Nat) (rs:List Int):Prop:=rs.length = k/\rs.Nodup/\∀ x ∈ rs,0 <= x/\x < (total:Int)
end Go.Eng
namespace Go.Proofs
open Go Go.Eng

theorem qta {i j:Nat}:del i j = del j i:=by
 unfold del
 by_cases hij:i = j
 ·rw [if_pos hij,if_pos hij.symm]
 ·rw [if_neg hij,if_neg (Ne.symm hij)]
theorem qpm {m:List Int} {k R:Nat} (hm:m.length = R * k):∀ {rs:List Int},(∀ x ∈ rs,0 <= x/\x < (R:Int))->∀ {i j:Nat},i < rs.length->j < k->(qfI m k rs).getD (i * k + j) 0 = m.getD ((rs.getD i 0).toNat * k + j) 0
 | [],_,i,j,hi,_=>by simp at hi
 | x :: rs,h,i,j,hi,hj=>by
  have hx:=h x (List.mem_cons_self ..)
  have hxk:x.toNat * k + k <= R * k:=by
   have h1:x.toNat + 1 <= R:=by omega
   have:=Nat.mul_le_mul_right k h1
   rw [Nat.add_mul] at this; omega
  have hsl:(seg m (x.toNat * k) k).length = k:=by rw [seg,List.length_take,List.length_drop]; omega
  rw [qfI,List.flatMap_cons]
  cases i with
  | zero =>
   rw [Nat.zero_mul,Nat.zero_add,List.getD_eq_getElem?_getD,List.getElem?_append_left (by rw [hsl]; exact hj),seg,List.getElem?_take,if_pos hj,List.getElem?_drop,<- List.getD_eq_getElem?_getD]
   rfl
  | succ i =>
   have ih:=qpm hm (rs:=rs) (fun y hy=>h y (List.mem_cons_of_mem _ hy)) (i:=i) (j:=j) (by simpa using hi) hj
   rw [List.getD_eq_getElem?_getD,List.getElem?_append_right (by rw [hsl,Nat.add_mul]; omega),hsl,show (i + 1) * k + j - k = i * k + j by rw [Nat.add_mul]; omega,<- List.getD_eq_getElem?_getD]
   exact ih
theorem qkW {m:List Int} {k:Nat} {rs:List Int} (h:qx m):qx (qfI m k rs):=fun x hx=>by
 rw [qfI,List.mem_flatMap] at hx
 obtain ⟨r,_,hx⟩:=hx
 exact h x (List.mem_of_mem_drop (List.mem_of_mem_take hx))
theorem qie {k total:Nat} {rs:List Int} (h:qbZ k total rs) (ht:total <= 255):qb0 k fun i=>xsF (rs.getD i 0).toNat:=by
 obtain ⟨h1,h2,h3⟩:=h
 intro i j hi hj he
 have gi:rs.getD i 0 = rs[i]'(by omega):=by rw [List.getD_eq_getElem?_getD,List.getElem?_eq_getElem (by omega)]; rfl
 have gj:rs.getD j 0 = rs[j]'(by omega):=by rw [List.getD_eq_getElem?_getD,List.getElem?_eq_getElem (by omega)]; rfl
 have mi:=h3 _ (List.getElem_mem (l:=rs) (n:=i) (by omega))
 have mj:=h3 _ (List.getElem_mem (l:=rs) (n:=j) (by omega))
 simp only [gi,gj] at he
 have:=qe7 (n:=256) (Nat.le_refl _) _ _ (by omega) (by omega) he
 exact (List.getElem_inj (h₀:=by omega) (h₁:=by omega) h2).1 (by omega)
theorem qnj {m:List Int} {k total:Nat} {rs:List Int} (h:qbZ k total rs) (hm:m.length = total * k):(qfI m k rs).length = k * k:=by
 rw [qsY (r:=total) (by omega) h.2.2,h.1]
theorem q4k {k total:Nat} {rs:List Int} (h:qbZ k total rs) (h1:1 <= k) (hk:k <= total) (ht:total <= 255) {y:Nat->F}
  (hy:∀ i,i < k->qw (fun j=>qg (qz k (qcO k total) (rs.getD i 0).toNat j) (y j)) k = 0):∀ j,j < k->y j = 0:=by
 obtain ⟨g1,g2,g3,_⟩:=qeX h1 hk ht
 obtain ⟨t2,he⟩:=qwH hk ht
 obtain ⟨_,m2⟩:=qpE he
 have hz:∀ l,l < k->qw (fun j=>qg (qz k (qch k total).2.1 l j) (y j)) k = 0:=qoh (qie h ht) fun i hi=>by
  rw [<- hy i hi]
  have hx:=h.2.2 (rs.getD i 0) (by rw [List.getD_eq_getElem?_getD,List.getElem?_eq_getElem (by rw [h.1]; exact hi)]; exact List.getElem_mem _)
  have e2:qw (fun j=>qg (qz k (qcO k total) (rs.getD i 0).toNat j) (y j)) k = qw (fun j=>qw (fun l=>qg (qg (qaG (xsF (rs.getD i 0).toNat) l) (qz k (qch k total).2.1 l j)) (y j)) k) k:=qj fun j hj=>by rw [g3 _ j (by omega) hj,qdV]
  rw [e2,qfj]
  refine qj fun l hl=>?_
  rw [<- qcV]
  exact qj fun j hj=>by rw [qN]
 intro j hj
 have e1:y j = qw (fun i=>qg (y i) (del i j)) k:=(qg1 (f:=y) hj).symm
 rw [e1,qj (g:=fun i=>qw (fun l=>qg (qz k ((qbn total k).take (k * k)) j l) (qg (qz k (qch k total).2.1 l i) (y i))) k) fun i hi=>?_,qfj]
 ·refine qcw fun l hl=>?_
  rw [qcV,hz l hl,q6]
 ·have:=m2 j i hj hi
  rw [show del i j = del j i from qta,<- this,qad,<- qdV]
  exact qj fun l hl=>by rw [qN]
theorem q21 {k total:Nat} {rs:List Int} (h:qbZ k total rs) (h1:1 <= k) (hk:k <= total) (ht:total <= 255):(qes (qfI (qcO k total) k rs) k).2.2 = k:=by
 obtain ⟨g1,g2,_,_⟩:=qeX h1 hk ht
 refine quK (qnj h g1) (qkW g2) fun y hy=>q4k h h1 hk ht fun i hi=>?_
 rw [<- hy i hi]
 refine qj fun j hj=>?_
 rw [qz,qz,qpm g1 h.2.2 (by rw [h.1]; exact hi) hj]

end Go.Proofs

set_option linter.unusedSimpArgs false
set_option linter.unusedVariables false
namespace Go.Eng
open Go Go.Proofs
end Go.Eng
namespace Go.Proofs
open Go Go.Eng
theorem q57 {h:Hp} {D:qd} {n:Nat} {f:Nat->List Int} (he:qfl h D n f):qpG h D n/\∀ j,j < n->pcI D j = j/\pcD h D j = f j:=by
 refine ⟨fun j hj=>?_,fun j hj=>?_⟩
 ·obtain ⟨v,d,e,hr,_,hb⟩:=he j hj
  exact ⟨_,v,d,e,hr,hb⟩
 ·obtain ⟨v,d,e,hr,hf,hb⟩:=he j hj
  refine ⟨by simp [pcI,qh,qal,e,qaf],?_⟩
  rw [pcD,show qal D (j:Int) 1 = v by simp [qal,e],qjb hr,hf]
end Go.Proofs

set_option linter.unusedSimpArgs false
set_option linter.unusedVariables false
namespace Go.Eng
open Go Go.Proofs

def qtj (n:Nat):List Int:=(List.range n).map fun (m:Nat)=>(m:Int)
end Go.Eng

set_option linter.unusedSimpArgs false
set_option linter.unusedVariables false
namespace Go.Eng
open Go Go.Proofs

def qcq (f:Nat->List Int) (w:List Int) (l:Nat):Nat->List Int
 | 0=>List.replicate l 0
 | j + 1=>qac (qcq f w l j) 0 (seg (f j) 0 l) (w.getD j 0)
end Go.Eng

set_option linter.unusedSimpArgs false
set_option linter.unusedVariables false
namespace Go.Eng
open Go Go.Proofs
end Go.Eng

set_option linter.unusedSimpArgs false
set_option linter.unusedVariables false
set_option maxRecDepth 100000
namespace Go.Proofs
open Go Go.Eng

end Go.Proofs

set_option linter.unusedSimpArgs false
set_option linter.unusedVariables false
namespace Go.Eng
open Go Go.Proofs

end Go.Eng

set_option linter.unusedSimpArgs false
set_option linter.unusedVariables false
namespace Go.Proofs
open Go Go.Eng

theorem qs8 {f:Nat->List Int} {w:List Int} {l:Nat}:∀ j,(qcq f w l j).length = l
 | 0=>by simp [qcq]
 | j + 1=>by rw [qcq,qcy,qs8 j]
end Go.Proofs

set_option linter.unusedSimpArgs false
set_option linter.unusedVariables false
set_option maxRecDepth 100000
namespace Go.Proofs
open Go Go.Eng

end Go.Proofs

set_option linter.unusedSimpArgs false
set_option linter.unusedVariables false
namespace Go.Proofs
open Go Go.Eng
theorem qvg {n:Nat}:(qtj n).Nodup:=List.pairwise_map.2 (List.nodup_range.imp fun h e=>h (by omega))
theorem q0S {n:Nat} {x:Int} (h:x ∈ qtj n):0 <= x/\x < n:=by
 obtain ⟨m,hm,rfl⟩:=List.mem_map.1 h
 have:=List.mem_range.1 hm
 omega
theorem qe3 {o l:List Int} {n k:Nat} (h:(o ++ l).Perm (qtj n)) (hk:o.length = k):o.length = k/\o.Nodup/\∀ x ∈ o,0 <= x/\x < (n:Int) :=
 ⟨hk,(List.nodup_append.1 (h.nodup_iff.2 qvg)).1,fun x hx=>q0S (h.mem_iff.1 (List.mem_append_left _ hx))⟩
end Go.Proofs

set_option linter.unusedSimpArgs false
set_option linter.unusedVariables false
namespace Go.Proofs
open Go Go.Eng
end Go.Proofs

set_option linter.unusedSimpArgs false
set_option linter.unusedVariables false
namespace Go.Proofs
open Go Go.Eng
set_option maxRecDepth 20000
end Go.Proofs

set_option linter.unusedSimpArgs false
set_option linter.unusedVariables false
namespace Go.Eng
open Go Go.Proofs
def blk:Value->Option Nat
 | .slice (some a) _ _=>some a.block
 | _=>none
def q6c (h:Hp) (vs:Nat->Value) (n:Nat) (M:Nat->List Int):Prop :=
 (∀ j,j < n->∃ d,Rd h kB (vs j) d/\bI d = M j/\q9 d)/\∀ i j,i < n->j < n->i ≠ j->M i ≠ []->M j ≠ []->blk (vs i) ≠ blk (vs j)
end Go.Eng
namespace Go.Proofs
open Go Go.Eng
theorem q6h {h:Hp} {vs:Nat->Value} {n j:Nat} {M:Nat->List Int} (ht:q6c h vs n M) (hj:j < n):∃ d,Rd h kB (vs j) d/\bI d = M j/\q9 d:=ht.1 j hj
end Go.Proofs

set_option linter.unusedSimpArgs false
set_option linter.unusedVariables false
namespace Go.Eng
open Go Go.Proofs
def tvs (D:qd):Nat->Value:=fun j=>qal D j 0
end Go.Eng

set_option linter.unusedSimpArgs false
set_option linter.unusedVariables false
namespace Go.Eng
open Go Go.Proofs
noncomputable def pcN (h:Hp) (D:qd) (j:Nat):Nat:=(pcD h D j).length
def rdB (h:Hp) (v:Value):Prop:=∃ d,Rd h kB v d/\q9 d
noncomputable def qgG (D:qd) (k:Nat):List Int:=(List.range k).map (pcI D)
noncomputable def qla (h:Hp) (D:qd):Nat->List Int:=fun j=>rdL h (tvs D j)
noncomputable def q7l (h:Hp) (D:qd) (k:Nat) (x:Int):List Int:=qcq (pcD h D) (qk2 (qgG D k) x) (pcN h D 0) k
def qnq (total k:Nat) (rs:List Int):List Int:=(qes (qfI (qcO k total) k rs) k).2.1
noncomputable def qxr (h:Hp) (D:qd) (total k:Nat) (i:Nat):List Int:=qcq (pcD h D) (seg (qnq total k (qgG D k)) (i * k) k) (pcN h D 0) k
def q6p (h:Hp) (D:qd) (k total n:Int):Prop:=qa7 k total = true/\k <= n/\n <= 17592186043904/\qpG h D n.toNat/\qbZ k.toNat total.toNat (qgG D k.toNat)/\pcN h D 0 <= 8192/\∀ j,j < k.toNat->pcN h D j = pcN h D 0
end Go.Eng

set_option linter.unusedSimpArgs false
set_option linter.unusedVariables false
namespace Go.Eng
open Go Go.Proofs
end Go.Eng

set_option linter.unusedSimpArgs false
set_option linter.unusedVariables false
namespace Go.Eng
open Go Go.Proofs
noncomputable def plI (k size:Int):Int:=(qD k.toNat size.toNat:Int)
end Go.Eng

set_option linter.unusedSimpArgs false
set_option linter.unusedVariables false
namespace Go.Eng
open Go Go.Proofs
def q3V (r:Nat):SV:=.agg (qix r (r + 1) (r + 2) (r + 3) (r + 4) (r + 5) (r + 6) (r + 7))
end Go.Eng

set_option linter.unusedSimpArgs false
set_option linter.unusedVariables false
namespace Go.Proofs
open Go Go.Eng
section
variable {M:Bool} {C:Int->Prop} {x t:Int} {D O:List Int}
end
end Go.Proofs

set_option linter.unusedSimpArgs false
set_option linter.unusedVariables false
namespace Go.Proofs
open Go Go.Eng
variable {rows wide c rank:Nat} {T0:Mat} {M:Nat->List Int}
end Go.Proofs

set_option linter.unusedSimpArgs false
set_option linter.unusedVariables false
namespace Go.Proofs
open Go Go.Eng
end Go.Proofs

set_option linter.unusedSimpArgs false
set_option linter.unusedVariables false
set_option maxRecDepth 100000
namespace Go.Proofs
open Go Go.Eng

end Go.Proofs

set_option linter.unusedSimpArgs false
set_option linter.unusedVariables false
namespace Go.Proofs
open Go Go.Eng
variable {k total len e e':Int} {n i:Nat} {I I':Nat->Int} {L L':Nat->Nat}
end Go.Proofs

set_option linter.unusedSimpArgs false
set_option linter.unusedVariables false
namespace Go.Proofs
open Go Go.Eng
set_option maxRecDepth 100000
end Go.Proofs

set_option linter.unusedSimpArgs false
set_option linter.unusedVariables false
namespace Go.Proofs
open Go Go.Eng
def byF (r:F) (y:Nat->F):Nat->F:=fun l=>(if l = 0 then 0 else y (l - 1)) ^^^ qg r (y l)
theorem qki {y:Nat->F} {x:F}:q7 1 y x = y 0:=by
 show (0:F) ^^^ qg (y 0) (qaG x 0) = y 0
 rw [qao,show qaG x 0 = 1 from rfl,qaW]
theorem qsk {r x:F} {y:Nat->F}:∀ n,q7 (n + 1) (byF r y) x = qg (x ^^^ r) (q7 n y x) ^^^ qg (qg r (y n)) (qaG x n)
 | 0=>by rw [qki,byF,if_pos rfl,qao,show q7 0 y x = 0 from rfl,q6,qao,show qaG x 0 = 1 from rfl,qaW]
 | n + 1=>by
  have ih:=qsk (r:=r) (x:=x) (y:=y) n
  have h1:q7 (n + 2) (byF r y) x = q7 (n + 1) (byF r y) x ^^^ qg (byF r y (n + 1)) (qaG x (n + 1)):=rfl
  have h2:q7 (n + 1) y x = q7 n y x ^^^ qg (y n) (qaG x n):=rfl
  rw [h1,ih,h2,byF,if_neg (by omega),Nat.add_sub_cancel,qh8,qbX (x:=y n)]
  have h3:qg (x ^^^ r) (qg (y n) (qaG x n)) = qg (y n) (qaG x (n + 1)) ^^^ qg (qg r (y n)) (qaG x n):=by
   rw [qbX,qaG]
   congr 1
   ·rw [<- qN,qad (x:=x),qN]
    try rw [qad (x:=x)]
   ·rw [qN]
  rw [h3]
  generalize qg (x ^^^ r) (q7 n y x) = a
  generalize qg (qg r (y n)) (qaG x n) = b
  generalize qg (y n) (qaG x (n + 1)) = c
  generalize qg (qg r (y (n + 1))) (qaG x (n + 1)) = d
  rw [BitVec.xor_assoc,BitVec.xor_assoc,BitVec.xor_assoc]
  congr 1
  rw [<- BitVec.xor_assoc,<- BitVec.xor_assoc,BitVec.xor_comm b c]
theorem qqv {r x:F} {y:Nat->F} {n:Nat} (h:y n = 0):q7 (n + 1) (byF r y) x = qg (x ^^^ r) (q7 n y x):=by
 rw [qsk,h,q6,qA,qae]
theorem qqZ {y:Nat->F} {x:F} {n:Nat} (h:∀ l,n <= l->y l = 0):∀ m,q7 (n + m) y x = q7 n y x
 | 0=>rfl
 | m + 1=>by
  show q7 (n + m) y x ^^^ qg (y (n + m)) (qaG x (n + m)) = _
  rw [qqZ h m,h _ (by omega),qA,qae]
theorem qmY {y z:Nat->F} {x:F} {n:Nat}:q7 n (fun l=>y l ^^^ z l) x = q7 n y x ^^^ q7 n z x:=by
 simp only [q7]
 rw [<- qfS]
 exact qj fun j _=>qbX
theorem qu0 {y:Nat->F} {x c:F} {n:Nat}:q7 n (fun l=>qg c (y l)) x = qg c (q7 n y x):=by
 simp only [q7]
 rw [<- qcV]
 exact qj fun j _=>qN
def ddF (xs ys:Nat->F):Nat->Nat->F
 | s,0=>ys s
 | s,j + 1=>qg (ddF xs ys (s + 1) j ^^^ ddF xs ys s j) (qeu (xs (s + j + 1) ^^^ xs s))
theorem qgW {n:Nat} {xs ys:Nat->F} (hd:qb0 n xs):∀ j s,s + j < n->∃ y:Nat->F,(∀ l,j < l->y l = 0)/\(∀ i,i <= j->q7 (j + 1) y (xs (s + i)) = ys (s + i))/\y j = ddF xs ys s j
 | 0,s,hs=>⟨fun l=>if l = 0 then ys s else 0,fun l hl=>if_neg (by omega),fun i hi=>by
   obtain rfl:i = 0:=by omega
   rw [qki,if_pos rfl,Nat.add_zero],rfl⟩
 | j + 1,s,hs=>by
  obtain ⟨y1,a1,b1,c1⟩:=qgW (ys:=ys) hd j (s + 1) (by omega)
  obtain ⟨y0,a0,b0,c0⟩:=qgW (ys:=ys) hd j s (by omega)
  have hne:xs (s + j + 1) ^^^ xs s ≠ 0:=fun h=>by have:=hd _ _ (by omega) (by omega) (qe1.1 h); omega
  let w:F:=qeu (xs (s + j + 1) ^^^ xs s)
  have hv:∀ x,q7 (j + 2) (fun l=>qg w (byF (xs s) y1 l ^^^ byF (xs (s + j + 1)) y0 l)) x = qg w (qg (x ^^^ xs s) (q7 (j + 1) y1 x) ^^^ qg (x ^^^ xs (s + j + 1)) (q7 (j + 1) y0 x)):=fun x=>by
   rw [qu0,qmY,qqv (a1 _ (by omega)),qqv (a0 _ (by omega))]
  refine ⟨fun l=>qg w (byF (xs s) y1 l ^^^ byF (xs (s + j + 1)) y0 l),fun l hl=>?_,fun i hi=>?_,?_⟩
  ·simp only [byF]
   rw [if_neg (by omega),if_neg (by omega),a1 l (by omega),a0 l (by omega),a1 (l - 1) (by omega),a0 (l - 1) (by omega),q6,q6,qa0,q6]
  ·rw [hv]
   have hw:∀ z,qg w (qg (xs (s + j + 1) ^^^ xs s) z) = z:=fun z=>by
    rw [<- qN,qad (x:=w),qhM hne,qh7]
   by_cases h0:i = 0
   ·subst h0
    have hb0:=b0 0 (by omega)
    simp only [Nat.add_zero] at hb0
    rw [Nat.add_zero,qa0,qA,qao,hb0,BitVec.xor_comm,hw]
   ·by_cases h1:i = j + 1
    ·subst h1
     have:=b1 j (Nat.le_refl _)
     rw [show s + 1 + j = s + (j + 1) by omega] at this
     rw [this,<- Nat.add_assoc,qa0,qA,qae,hw]
    ·have h2:=b1 (i - 1) (by omega)
     rw [show s + 1 + (i - 1) = s + i by omega] at h2
     rw [h2,b0 i (by omega),<- qbX,qn0,qa0,qao,BitVec.xor_comm,hw]
  ·simp only [byF]
   rw [if_neg (by omega),if_neg (by omega),a1 (j + 1) (by omega),a0 (j + 1) (by omega),q6,q6,qae,qae,Nat.add_sub_cancel,c1,c0,qad]
   rfl
def ql3 (xs:Nat->F):Nat->Nat->F
 | 0=>fun l=>if l = 0 then 1 else 0
 | m + 1=>byF (xs m) (ql3 xs m)
theorem qqG {xs:Nat->F}:∀ m,(∀ l,m < l->ql3 xs m l = 0)/\ql3 xs m m = 1/\∀ x,q7 (m + 1) (ql3 xs m) x = qcH (fun u=>x ^^^ xs u) m
 | 0=>⟨fun l hl=>if_neg (by omega),rfl,fun x=>by rw [qki]; rfl⟩
 | m + 1=>by
  obtain ⟨h1,h2,h3⟩:=qqG (xs:=xs) m
  refine ⟨fun l hl=>?_,?_,fun x=>?_⟩
  ·simp only [ql3,byF]
   rw [if_neg (by omega),h1 (l - 1) (by omega),h1 l (by omega),q6,qae]
  ·simp only [ql3,byF]
   rw [if_neg (by omega),Nat.add_sub_cancel,h2,h1 (m + 1) (by omega),q6,qae]
  ·rw [ql3,qqv (h1 _ (by omega)),h3,qcH,qad]
def qxE (xs ys:Nat->F) (x:F) (m:Nat):F:=qw (fun t=>qg (ddF xs ys 0 t) (qcH (fun u=>x ^^^ xs u) t)) m
theorem qrq {n:Nat} {xs ys:Nat->F} (hd:qb0 n xs):∀ m,m < n->∃ y:Nat->F,(∀ l,m < l->y l = 0)/\(∀ i,i <= m->q7 (m + 1) y (xs i) = ys i)/\∀ x,q7 (m + 1) y x = qxE xs ys x (m + 1)
 | 0,hm=>by
  obtain ⟨y,a,b,c⟩:=qgW (ys:=ys) hd 0 0 (by omega)
  refine ⟨y,a,fun i hi=>by have:=b i hi; simp only [Nat.zero_add] at this ⊢; exact this,fun x=>?_⟩
  rw [qki,c]
  show ys 0 = (0:F) ^^^ qg (ys 0) 1
  rw [qao,qaW]
 | m + 1,hm=>by
  obtain ⟨y0,a0,b0,c0⟩:=qrq (ys:=ys) hd m (by omega)
  obtain ⟨y,a,b,c⟩:=qgW (ys:=ys) hd (m + 1) 0 (by omega)
  obtain ⟨p1,p2,p3⟩:=qqG (xs:=xs) (m + 1)
  refine ⟨y,a,fun i hi=>by have:=b i hi; rwa [Nat.zero_add] at this,fun x=>?_⟩
  let R:Nat->F:=fun l=>(y l ^^^ y0 l) ^^^ qg (ddF xs ys 0 (m + 1)) (ql3 xs (m + 1) l)
  have hRv:∀ x,q7 (m + 2) R x = (q7 (m + 2) y x ^^^ q7 (m + 1) y0 x) ^^^ qg (ddF xs ys 0 (m + 1)) (qcH (fun u=>x ^^^ xs u) (m + 1)):=fun x=>by
   rw [<- p3,<- qu0,<- qqZ (y:=y0) (n:=m + 1) (fun l hl=>a0 l (by omega)) 1,<- qmY,<- qmY]
  have hRt:R (m + 1) = 0:=by
   simp only [R]
   rw [c,a0 (m + 1) (by omega),p2,qaW,qae,qa0]
  have hRe:∀ x,q7 (m + 1) R x = q7 (m + 2) R x:=fun x=>by
   show _ = q7 (m + 1) R x ^^^ qg (R (m + 1)) (qaG x (m + 1))
   rw [hRt,qA,qae]
  have h0:=qjl (n:=m + 1) (y:=R) (xs:=xs) (fun i j hi hj=>hd i j (by omega) (by omega)) fun i hi=>by
   rw [hRe,hRv,b0 i (by omega)]
   have:=b i (by omega)
   rw [Nat.zero_add] at this
   rw [this,qa0,qao,qoj (k:=i) hi qa0,q6]
  have hz:q7 (m + 1) R x = 0:=qcw fun l hl=>by rw [h0 l hl,qA]
  rw [hRe,hRv] at hz
  have h1:qxE xs ys x (m + 2) = qxE xs ys x (m + 1) ^^^ qg (ddF xs ys 0 (m + 1)) (qcH (fun u=>x ^^^ xs u) (m + 1)):=rfl
  rw [h1,<- c0 x]
  have h2:=qe1.1 hz
  rw [<- h2,<- BitVec.xor_assoc,BitVec.xor_comm,<- BitVec.xor_assoc,qa0,qao]
end Go.Proofs

set_option linter.unusedSimpArgs false
set_option linter.unusedVariables false
namespace Go.Proofs
open Go Go.Eng
theorem qfq {f:Nat->List Int} {w:List Int} {l:Nat} (hw:qx w):∀ k,(∀ j,j < k->(f j).length = l/\qx (f j))->(qcq f w l k).length = l/\qx (qcq f w l k)/\∀ c,c < l->toF ((qcq f w l k).getD c 0) = qw (fun m=>qg (toF (w.getD m 0)) (toF ((f m).getD c 0))) k
 | 0,_=>⟨by simp [qcq],fun x hx=>by rw [qcq] at hx; rw [List.eq_of_mem_replicate hx]; exact ⟨by omega,by omega⟩,fun c hc=>by
   rw [qcq,List.getD_eq_getElem?_getD,List.getElem?_replicate,if_pos hc]; rfl⟩
 | k + 1,h=>by
  obtain ⟨h1,h2,h3⟩:=qfq hw k fun j hj=>h j (by omega)
  obtain ⟨f1,f2⟩:=h k (by omega)
  have hsl:seg (f k) 0 l = f k:=by rw [<- f1]; simp [seg]
  rw [qcq,hsl]
  refine ⟨by rw [qcy,h1],qdK h2,fun c hc=>?_⟩
  rw [List.getD_eq_getElem?_getD,qb5,List.getElem?_eq_getElem (by omega),Option.map_some,Option.getD_some,if_pos ⟨by omega,by omega⟩,Nat.sub_zero,qjU,qhl (qaF hw _) (qaF f2 _),qw,<- h3 c hc,List.getD_eq_getElem?_getD (l:=qcq f w l k),List.getElem?_eq_getElem (by omega),Option.getD_some]
theorem q0G {f g:Nat->List Int} {w v:List Int} {l k:Nat} (hw:qx w) (hv:qx v) (hf:∀ j,j < k->(f j).length = l/\qx (f j)) (hg:∀ j,j < k->(g j).length = l/\qx (g j))
  (h:∀ c,c < l->qw (fun m=>qg (toF (w.getD m 0)) (toF ((f m).getD c 0))) k = qw (fun m=>qg (toF (v.getD m 0)) (toF ((g m).getD c 0))) k):qcq f w l k = qcq g v l k:=by
 obtain ⟨a1,a2,a3⟩:=qfq hw k hf
 obtain ⟨b1,b2,b3⟩:=qfq hv k hg
 refine qrP (by omega) fun c hc=>qqg (qaF a2 c) (qaF b2 c) ?_
 rw [a3 c (by omega),b3 c (by omega),h c (by omega)]
theorem q0z {rs:List Int} {x:Int} {j:Nat} (hj:j < rs.length):toF ((qk2 rs x).getD j 0) = qfu rs.length (fun m=>toF (rs.getD m 0)) (toF x) j:=by
 unfold qk2
 rw [List.getD_eq_getElem?_getD,List.getElem?_map,List.getElem?_range hj,Option.map_some,Option.getD_some,qjc]
theorem qjG {xs:List Int} {x:Int}:qx (qk2 xs x):=fun y hy=>by
 obtain ⟨m,_,rfl⟩:=List.mem_map.1 hy
 exact qiU
variable {k total:Nat} {rs:List Int}
theorem qkU (hc:qbZ k total rs) {j:Nat} (hj:j < k):toF (rs.getD j 0) = xsF (rs.getD j 0).toNat:=by
 have h1:=hc.1
 have h2:=hc.2.2 (rs.getD j 0) (quw (by omega))
 unfold xsF
 rw [Int.toNat_of_nonneg h2.1]
theorem qm7 (hc:qbZ k total rs) (ht:total <= 255):qb0 k fun m=>toF (rs.getD m 0):=fun i j hi hj he=>by
 refine qie hc ht i j hi hj ?_
 simp only [qkU hc hi,qkU hc hj] at he
 exact he
theorem qro {xs v:Nat->F} (h1:1 <= k) (hd:qb0 k xs):∃ y:Nat->F,(∀ i,i < k->q7 k y (xs i) = v i)/\∀ x,q7 k y x = qw (fun j=>qg (qfu k xs x j) (v j)) k:=by
 obtain ⟨y,_,hy,_⟩:=qrq (ys:=v) hd (k - 1) (by omega)
 rw [show k - 1 + 1 = k by omega] at hy
 refine ⟨y,fun i hi=>hy i (by omega),fun x=>?_⟩
 rw [qjq hd]
 exact qj fun j hj=>by rw [hy j (by omega)]
theorem qz9 (hc:qbZ k total rs) (h1:1 <= k) (hk:k <= total) (ht:total <= 255) (v:Nat->F) {i:Nat} (hi:i < k) :
    qw (fun j=>qg (qz k (qnq total k rs) i j) (v j)) k = qw (fun j=>qg (qfu k (fun m=>toF (rs.getD m 0)) (xsF i) j) (v j)) k:=by
  obtain ⟨y,hy,hL⟩:=qro (v:=v) h1 (qm7 hc ht)
  obtain ⟨g1,g2,_,g4⟩:=qeX h1 hk ht
  have hlen:=qnj hc g1
  have hr:=q21 hc h1 hk ht
  obtain ⟨t2,he⟩:=qlW hlen (qkW g2)
  rw [hr] at he
  obtain ⟨m1,_⟩:=qpE he
  have hS:∀ j,j < k->∀ m,m < k->qz k (qfI (qcO k total) k rs) j m = qfu k xsF (toF (rs.getD j 0)) m:=fun j hj m hm=>by
    have hrj:=hc.2.2 (rs.getD j 0) (quw (by rw [hc.1]; exact hj))
    unfold qz
    rw [qpm g1 hc.2.2 (by rw [hc.1]; exact hj) hm,qkU hc hj,<- g4 (rs.getD j 0).toNat m (by omega) hm]
    rfl
  have hx:qb0 k xsF:=qe7 (by omega)
  rw [<- hL]
  calc qw (fun j=>qg (qz k (qnq total k rs) i j) (v j)) k
      = qw (fun j=>qw (fun m=>qg (qg (qz k (qnq total k rs) i j) (qz k (qfI (qcO k total) k rs) j m)) (q7 k y (xsF m))) k) k:=by
        refine qj fun j hj=>?_
        rw [<- hy j hj,qjq hx (x:=toF (rs.getD j 0)),<- qcV]
        exact qj fun m hm=>by rw [hS j hj m hm,qN]
    _ = qw (fun m=>qg (del m i) (q7 k y (xsF m))) k:=by
        rw [qfj]
        refine qj fun m hm=>?_
        rw [qdV,qta]
        congr 1
        exact m1 i m hi hm
    _ = q7 k y (xsF i):=qno (f:=fun m=>q7 k y (xsF m)) hi
theorem qwF {m:List Int} {i j:Nat} (hj:j < k):toF ((seg m (i * k) k).getD j 0) = qz k m i j:=by
 unfold qz seg
 rw [List.getD_eq_getElem?_getD,List.getElem?_take,if_pos hj,List.getElem?_drop,List.getD_eq_getElem?_getD]
theorem qzu (hc:qbZ k total rs) (h1:1 <= k) (hk:k <= total) (ht:total <= 255):(qnq total k rs).length = k * k/\qx (qnq total k rs):=by
 obtain ⟨g1,g2,_,_⟩:=qeX h1 hk ht
 obtain ⟨t2,_⟩:=qlW (qnj hc g1) (qkW g2)
 exact ⟨t2.lb,t2.bb⟩
theorem qu1 {l:List Int} {o n:Nat} (h:qx l):qx (seg l o n):=fun x hx=>h x (List.mem_of_mem_drop (List.mem_of_mem_take hx))
theorem q5r (hc:qbZ k total rs) (h1:1 <= k) (hk:k <= total) (ht:total <= 255) {f:Nat->List Int} {l i:Nat} (hf:∀ j,j < k->(f j).length = l/\qx (f j)) (hi:i < k) :
  qcq f (seg (qnq total k rs) (i * k) k) l k = qcq f (qk2 rs (i:Int)) l k:=by
 refine q0G (qu1 (qzu hc h1 hk ht).2) qjG hf hf fun c hcl=>?_
 rw [qj fun m hm=>by rw [qwF hm],qz9 hc h1 hk ht _ hi]
 exact qj fun m hm=>by rw [q0z (by rw [hc.1]; exact hm),hc.1]; rfl
theorem q2w (hc:qbZ k total rs) (h1:1 <= k) (hk:k <= total) (ht:total <= 255) {f:Nat->List Int} {l r:Nat} (hf:∀ j,j < k->(f j).length = l/\qx (f j)) (hr:r < total) {g:Nat->List Int} (hg:∀ i,i < k->g i = qcq f (qk2 rs (i:Int)) l k) :
  qcq g (seg (qcO k total) (r * k) k) l k = qcq f (qk2 rs (r:Int)) l k:=by
 obtain ⟨g1,g2,_,g4⟩:=qeX h1 hk ht
 have hgf:∀ i,i < k->(g i).length = l/\qx (g i):=fun i hi=>by
  obtain ⟨a,b,_⟩:=qfq (qjG (xs:=rs) (x:=(i:Int))) k hf
  rw [hg i hi]; exact ⟨a,b⟩
 refine q0G (qu1 g2) qjG hgf hf fun c hcl=>?_
 obtain ⟨y,hy,hL⟩:=qro (v:=fun j=>toF ((f j).getD c 0)) h1 (qm7 hc ht)
 have hx:qb0 k xsF:=qe7 (by omega)
 have hv:∀ x:Int,qw (fun m=>qg (toF ((qk2 rs x).getD m 0)) (toF ((f m).getD c 0))) k = q7 k y (toF x):=fun x=>by
  rw [hL]
  exact qj fun m hm=>by rw [q0z (by rw [hc.1]; exact hm),hc.1]
 rw [hv,show toF ((r:Nat):Int) = xsF r from rfl,qjq hx]
 refine qj fun m hm=>?_
 rw [qwF hm,g4 r m hr hm,hg m hm,(qfq qjG k hf).2.2 c hcl,hv]
 rfl
end Go.Proofs

set_option linter.unusedSimpArgs false
set_option linter.unusedVariables false
namespace Go.Proofs
open Go Go.Eng
set_option maxRecDepth 100000
end Go.Proofs

set_option linter.unusedSimpArgs false
set_option linter.unusedVariables false
namespace Go.Proofs
open Go Go.Eng
set_option maxRecDepth 100000
end Go.Proofs

set_option linter.unusedSimpArgs false
set_option linter.unusedVariables false
set_option maxRecDepth 100000
namespace Go.Proofs
open Go Go.Eng

end Go.Proofs

set_option linter.unusedSimpArgs false
set_option linter.unusedVariables false
namespace Go.Proofs
open Go Go.Eng
set_option maxRecDepth 100000
structure PcIn (h:Hp) (D:qd) (k total n:Int):Prop where
 k1:1 <= k
 k2:k <= total
 k3:total <= 255
 kn:k <= n
 sol:q6p h D k total n
 idx:∀ j,j < n.toNat->0 <= pcI D j/\pcI D j < total
 len:∀ j,j < n.toNat->pcN h D j = pcN h D 0
 fs:∀ j,j < n.toNat->(pcD h D j).length = pcN h D 0/\qx (pcD h D j)
variable {h:Hp} {D:qd} {k total n:Int}
theorem PcIn.f (p:PcIn h D k total n):∀ j,j < k.toNat->(pcD h D j).length = pcN h D 0/\qx (pcD h D j):=fun j hj=>p.fs j (by have:=p.kn; omega)
theorem PcIn.cols (p:PcIn h D k total n) {hc:Hp} {C:qd} (ht:q6c hc (tvs C) k.toNat (qxr h D total.toNat k.toNat)) :
  (∀ j,j < k.toNat->rdB hc (tvs C j)/\(qla hc C j).length = (qla hc C 0).length)/\(qla hc C 0).length = pcN h D 0/\∀ r:Int,0 <= r->r < total->qcq (qla hc C) (seg (qcO k.toNat total.toNat) (r.toNat * k.toNat) k.toNat) (qla hc C 0).length k.toNat = q7l h D k.toNat r:=by
 have h1:=p.k1
 have h2:=p.k2
 have h3:=p.k3
 have hch:=p.sol.2.2.2.2.1
 have hcol:∀ j,j < k.toNat->rdB hc (tvs C j)/\qla hc C j = qxr h D total.toNat k.toNat j:=fun j hj=>by
  obtain ⟨d,hr,hd,hB⟩:=q6h ht hj
  exact ⟨⟨d,hr,hB⟩,by rw [qla,qjb hr,hd]⟩
 have hl:∀ j,j < k.toNat->(qla hc C j).length = pcN h D 0:=fun j hj=>by
  rw [(hcol j hj).2,qxr,qs8]
 refine ⟨fun j hj=>⟨(hcol j hj).1,by rw [hl j hj,hl 0 (by omega)]⟩,hl 0 (by omega),fun r r0 r1=>?_⟩
 rw [hl 0 (by omega),q2w hch (by omega) (by omega) (by omega) (f:=pcD h D) p.f (by omega) (r:=r.toNat) (fun i hi=>by
  rw [(hcol i hi).2,qxr,q5r hch (by omega) (by omega) (by omega) p.f hi]),Int.toNat_of_nonneg r0]
 rfl
theorem PcIn.value (p:PcIn h D k total n):(∀ j:Nat,(j:Int) < k->0 <= pcI D j/\pcI D j < 256)/\(qgG D k.toNat).Nodup/\pcN h D 0 <= 9000/\(∀ j:Nat,(j:Int) < k->pcN h D j = pcN h D 0)/\qpG h D k.toNat:=by
 have h1:=p.k1
 have h2:=p.k2
 have h3:=p.k3
 have h4:=p.kn
 have h5:=p.sol.2.2.2.2.2.1
 refine ⟨fun j hj=>?_,p.sol.2.2.2.2.1.2.1,by omega,fun j hj=>p.len j (by omega),fun j hj=>p.sol.2.2.2.1 j (by omega)⟩
 have:=p.idx j (by omega)
 omega
end Go.Proofs

set_option linter.unusedSimpArgs false
set_option linter.unusedVariables false
namespace Go.Proofs
open Go Go.Eng
set_option maxRecDepth 100000
variable {h h':Hp} {D D':qd} {k total n index len e e':Int} {b b':Bool}
end Go.Proofs

set_option linter.unusedSimpArgs false
set_option linter.unusedVariables false
namespace Go.Proofs
open Go Go.Eng
end Go.Proofs

set_option linter.unusedSimpArgs false
set_option linter.unusedVariables false
namespace Go.Proofs
open Go Go.Eng
theorem q0m {k n t s l i:Int} {D:List (List Int)} {m:List Int} (h:qcg k n t s l D i m = 0):qG k n t s l = true/\0 <= i/\i < t/\(m.length:Int) = qec k s/\sha (qbW i ++ m) = D.getD i.toNat []:=by
 unfold qcg at h
 by_cases h1:qG k n t s l = false
 ·rw [if_pos h1] at h; omega
 rw [if_neg h1] at h
 by_cases h2:i < 0∨t <= i
 ·rw [if_pos h2] at h; omega
 rw [if_neg h2] at h
 by_cases h3:(m.length:Int) ≠ qec k s
 ·rw [if_pos h3] at h; omega
 rw [if_neg h3] at h
 by_cases h4:sha (qbW i ++ m) ≠ D.getD i.toNat []
 ·rw [if_pos h4] at h; omega
 exact ⟨by simpa using h1,by omega,by omega,by omega,by simpa using h4⟩
theorem qzZ {k n t s l:Int}:qG k n t s l = true↔1 <= k/\k <= n/\n <= t/\t <= 255/\0 <= s/\s <= 8192/\l = t:=by
 simp [qG,qbf,and_assoc]
theorem q2L {k s:Int} (hk:1 <= k) (hs:0 <= s):qec k s = plI k s:=by
 obtain ⟨k,rfl⟩:=Int.eq_ofNat_of_zero_le (show 0 <= k by omega)
 obtain ⟨s,rfl⟩:=Int.eq_ofNat_of_zero_le hs
 have e:((s:Int) + (k:Int) - 1) = ((s + k - 1:Nat):Int):=by omega
 unfold qec plI qD
 rw [e,Int.ofNat_tdiv]
 simp
end Go.Proofs

set_option linter.unusedSimpArgs false
set_option linter.unusedVariables false
set_option maxRecDepth 100000
namespace Go.Proofs
open Go Go.Eng

end Go.Proofs

set_option linter.unusedSimpArgs false
set_option linter.unusedVariables false
set_option maxRecDepth 100000
namespace Go.Proofs
open Go Go.Eng

end Go.Proofs

set_option linter.unusedSimpArgs false
set_option linter.unusedVariables false
namespace Go.Proofs
open Go Go.Eng
set_option maxRecDepth 100000
end Go.Proofs

set_option linter.unusedSimpArgs false
set_option linter.unusedVariables false
namespace Go.Proofs
open Go Go.Eng
set_option maxRecDepth 20000
end Go.Proofs

set_option linter.unusedSimpArgs false
set_option linter.unusedVariables false
namespace Go.Eng
open Go Go.ChangeShapes Go.WideShapes Go.ChangeAt Go.RowKit

structure Grew (W w':World):Prop where
 os:w'.os = W.os
 out:w'.output = W.output
 blk:∀ (b:Nat) (o:Obj),W.heap[b]? = some o->w'.heap[b]? = some o

theorem Grew.block {W w':World} (h:Grew W w') {i:Nat} (hi:i < W.heap.size):w'.heap[i]? = W.heap[i]?:=by
 rw [Array.getElem?_eq_getElem hi]; exact h.blk i _ (Array.getElem?_eq_getElem hi)

theorem Grew.kept {W w':World} (h:Grew W w') (may:MemPlace->Prop):W.keptBut w' may:=by
 refine ⟨h.os,h.out,fun i hi=>?_⟩
 rw [h.block hi,Array.getElem?_eq_getElem hi]
 cases W.heap[i] <;> simp

theorem Grew.trodAll {H:Type} {enc:TypeId × Value->H} {P:Program} {W W':World} (hg:Grew W W') (hl:laidOutB P = true) {sp:Nat->Bool}:∀ {ts:List TypeId} {vs:List Value} {ds:List (DataW H)} {ps:List MemPlace},
  (∀ t ∈ ts,P.readableRec t = true/\t < P.types.size)->DataW.TrodAll enc P W 0 (fun _=>true) true ts vs ds ps->(∀ p ∈ ps,p.block < W.heap.size)->(∀ p ∈ ps,sp p.block = true) ->
  DataW.TrodAll enc P W' 0 sp true ts vs ds ps
 | [],[],[],_,_,h,_,_=>h
 | _ :: _,_ :: _,_ :: _,_,hT,⟨p,q,h1,h2,e⟩,hlt,hs=>by
  subst e
  refine ⟨p,q,?_,Grew.trodAll hg hl (fun t ht=>hT t (List.mem_cons_of_mem _ ht)) h2 (fun x hx=>hlt x (List.mem_append_right _ hx)) (fun x hx=>hs x (List.mem_append_right _ hx)),rfl⟩
  have hr:=hT _ (List.mem_cons_self ..)
  refine WideElems.Trod_stays hl hr.1 hr.2 h1 (fun x hx=>?_) (fun x hx=>hs x (List.mem_append_left _ hx))
  have hb:=hg.block (hlt x (List.mem_append_left _ hx))
  cases x with
  | cell b o=>exact World.cell?_of_block (w:=W) hb
  | map b=>exact hb

theorem q0L {P:Program} {c:Ctr} (hok:c.ok P) (hheap:c.heap = []) (halts:∀ al ∈ c.alts,al.ret = .one (.vbool (.bl true))) {ρ:Env} (hg:ρ.good) (W:World)
  (hro:∀ x ∈ c.ro,x.roden ρ (fun b=>W.heap[b]?)) (hpre:c.pre ρ) :
  Calls P c.fn (c.args.map (SV.den ρ)).toArray W fun e W'=>e = .returned (.bool true)/\Grew W W':=by
 have h:=hok.2 ρ W ⟨fun b=>W.heap[b]?,W.os,W.output⟩ Hp.emp hg (Hp.disj_emp _)
  ⟨fun b o hb=>by simpa [Hp.union,Hp.emp] using hb,rfl,rfl⟩ (by rw [hheap]; trivial) hro hpre
 refine h.mono fun e w' hq=>?_
 obtain ⟨ai,al,ρ',hal,_,_,rfl,_,hO,_,_,hsub,hwi⟩:=hq
 refine ⟨by rw [halts al (List.mem_of_getElem? hal)]; rfl,⟨hwi.1,hwi.2,fun b o hb=>hsub b o ?_⟩⟩
 simp [Hp.union,hb]

theorem q1F {H:Type} {enc:TypeId × Value->H} {P:Program} {f:Func} {s:ChangeSpec} {W W':World} {args:Array Value} {ds gs:List (DataW H)} {before:List MemPlace} {bt:TypeId}
  (hl:laidOutB P = true) (hT:∀ t ∈ f.params.toList,P.readableRec t = true/\t < P.types.size) (hvars:s.vars = []) (hrt:f.resultTypes = #[bt]) (hbt:P.underlying bt = some .bool)
  (hfn:∀ ds':List (DataW H),ds'.length = f.params.size->s.fn H ds' = { results:=[.lit (.bool true)],args:=ds' })
  (hW:DataW.Whole enc P f.params.toList s.vars false W args.toList ds gs before) (hg:Grew W W'):s.post enc P f false true false false W args (.bool true) W':=by
 have hlt:=hW.lt
 have hW0:=hW
 obtain ⟨p,q,hA,hV,hpq,hz,hn⟩:=hW
 rw [hvars] at hV
 obtain ⟨rfl,rfl⟩:=trodVars_none hV
 have hlen:ds.length = f.params.size:=by
  have:∀ {ts:List TypeId} {vs:List Value} {ds:List (DataW H)} {ps:List MemPlace},DataW.TrodAll enc P W 0 (fun _=>true) true ts vs ds ps->ds.length = ts.length:=by
   intro ts
   induction ts with
   | nil=>intro vs ds ps h; cases vs <;> cases ds <;> simp_all [DataW.TrodAll]
   | cons t ts ih =>
    intro vs ds ps h
    cases vs <;> cases ds <;> simp_all [DataW.TrodAll]
    obtain ⟨p,q,_,h2,_⟩:=h
    exact ih h2
  simpa using this hA
 have hlt':∀ x ∈ p,x.block < W.heap.size:=fun x hx=>hlt x (by rw [hpq]; exact List.mem_append_left _ hx)
 refine ⟨ds,[],before,[],p,[],hW0,?_,?_,?_,hg.kept _,fun h=>by cases h⟩
 ·rw [List.append_nil,hfn ds hlen,hrt]
  exact ⟨[],[],⟨1,by simp [DataW.trod,hbt,Value.cells]⟩,rfl,rfl⟩
 ·rw [List.append_nil,hfn ds hlen]
  exact hg.trodAll hl hT hA hlt' (fun x hx=>by simpa using hlt' x hx)
 ·rw [List.append_nil,hfn ds hlen,hvars]
  rfl

theorem q3G {H:Type} {enc:TypeId × Value->H} {P:Program} {f:Func} {s:ChangeSpec} {c:Ctr} {W:World} {args:Array Value} {ds gs:List (DataW H)} {before:List MemPlace} {bt:TypeId} {ρ:Env}
  (hok:c.ok P) (hheap:c.heap = []) (halts:∀ al ∈ c.alts,al.ret = .one (.vbool (.bl true)))
  (hl:laidOutB P = true) (hT:∀ t ∈ f.params.toList,P.readableRec t = true/\t < P.types.size) (hvars:s.vars = []) (hrt:f.resultTypes = #[bt]) (hbt:P.underlying bt = some .bool)
  (hfn:∀ ds':List (DataW H),ds'.length = f.params.size->s.fn H ds' = { results:=[.lit (.bool true)],args:=ds' })
  (hW:DataW.Whole enc P f.params.toList s.vars false W args.toList ds gs before)
  (hg:ρ.good) (hargs:args = (c.args.map (SV.den ρ)).toArray) (hro:∀ x ∈ c.ro,x.roden ρ (fun b=>W.heap[b]?)) (hpre:c.pre ρ) :
  Calls P c.fn args W fun e W'=>∃ v,e = .returned v/\s.post enc P f false true false false W args v W':=by
 rw [hargs]
 refine (q0L hok hheap halts hg W hro hpre).mono fun e W' ⟨he,hgr⟩=>⟨_,he,?_⟩
 rw [<- hargs]
 exact q1F hl hT hvars hrt hbt hfn hW hgr
end Go.Eng

set_option linter.unusedSimpArgs false
set_option linter.unusedVariables false
namespace Go.Eng
open Go Go.ChangeShapes Go.WideShapes Go.ChangeAt Go.RowKit

def qph (P:Program) (f:TypeId->Option (List CK)):List Field->Nat->Option (List CK)
 | [],_=>some []
 | x :: fs,off =>
  if Nat.beq x.offset off then
   match f x.type with
   | some p=>if Nat.beq p.length (P.cellsOf x.type) then (qph P f fs (off + p.length)).map (p ++ ·) else none
   | none=>none
  else none
def qkP (p:List CK):Nat->List CK
 | 0=>[]
 | n + 1=>p ++ qkP p n
def qjx (P:Program):Nat->TypeId->Option (List CK)
 | 0,_=>none
 | n + 1,t =>
  match P.underlying t with
  | some (.int k)=>some [.int k]
  | some .bool=>some [.bool]
  | some .string=>some [.any]
  | some (.slice _)=>some [.any]
  | some (.pointer _)=>some [.any]
  | some (.struct fs)=>match qph P (qjx P n) fs.toList 0 with
   | some p=>if Nat.beq p.length (P.cellsOf t) then some p else none
   | none=>none
  | some (.array m e)=>match qjx P n e with
   | some p=>if Nat.beq p.length (P.cellsOf e) && Nat.beq (P.cellsOf t) (m * P.cellsOf e) then some (qkP p m) else none
   | none=>none
  | _=>none

theorem qiT {p q:List CK} {cs:List Value} (h1:qs p (cs.take p.length)) (h2:qs q (cs.drop p.length)):qs (p ++ q) cs:=by
 obtain ⟨a1,a2⟩:=h1
 obtain ⟨b1,b2⟩:=h2
 have hle:p.length <= cs.length:=by simp at a1; omega
 refine ⟨by simp at a1 b1 ⊢; omega,fun c k v hk hv=>?_⟩
 by_cases hc:c < p.length
 ·rw [List.getElem?_append_left hc] at hk
  exact a2 c k v hk (by rw [List.getElem?_take,if_pos hc]; exact hv)
 ·rw [List.getElem?_append_right (by omega)] at hk
  exact b2 (c - p.length) k v hk (by rw [List.getElem?_drop,show p.length + (c - p.length) = c by omega]; exact hv)

section
variable {H:Type} {enc:TypeId × Value->H} {P:Program} {w:World} {base:Nat} {spare:Nat->Bool} {held:Bool}

theorem qf0 {v:Value} (h:v.oneCell' = true):qs [.any] [v]:=⟨rfl,fun c k v' hk hv=>by
 cases c with
 | zero=>simp at hk hv; subst hk; subst hv; exact h
 | succ c=>simp at hk⟩

theorem qnA {f:TypeId->Option (List CK)} {cs:List Value} (hf:∀ t p,f t = some p->∀ cs',(∃ fuel x,DataW.trod enc P w base spare held fuel t cs' = some x)->qs p cs') :
  ∀ {fs:List Field} {off:Nat} {p:List CK},qph P f fs off = some p->(∀ x ∈ fs,∃ fuel y,DataW.trod enc P w base spare held fuel x.type ((cs.drop x.offset).take (P.cellsOf x.type)) = some y)->off + p.length = cs.length->qs p (cs.drop off)
 | [],off,p,h,_,hl=>by
  simp only [qph,Option.some.injEq] at h; subst h
  simp at hl
  refine ⟨by simp; omega,fun c k v hk=>by simp at hk⟩
 | x :: fs,off,p,h,ht,hl=>by
  simp only [qph] at h
  split at h
  ·rename_i ho
   have ho:=Nat.eq_of_beq_eq_true ho
   split at h
   ·rename_i p1 hp1
    split at h
    ·rename_i hc
     have hc:=Nat.eq_of_beq_eq_true hc
     simp only [Option.map_eq_some_iff] at h
     obtain ⟨p2,hp2,rfl⟩:=h
     simp only [List.length_append] at hl
     have h1:=hf x.type p1 hp1 _ (ht x (List.mem_cons_self ..))
     rw [ho,<- hc] at h1
     have h2:=qnA hf hp2 (fun y hy=>ht y (List.mem_cons_of_mem _ hy)) (by omega)
     exact qiT h1 (by rw [List.drop_drop]; exact h2)
    ·simp at h
   ·simp at h
  ·simp at h

theorem qmo {p:List CK}:∀ {m:Nat} {cs:List Value},cs.length = m * p.length->(∀ i,i < m->qs p ((cs.drop (i * p.length)).take p.length))->qs (qkP p m) cs
 | 0,cs,hl,_=>by
  simp at hl; subst hl
  exact ⟨rfl,fun c k v hk=>by simp [qkP] at hk⟩
 | m + 1,cs,hl,h=>by
  simp only [qkP]
  refine qiT (by simpa using h 0 (by omega)) (qmo (by rw [List.length_drop,hl,Nat.add_mul]; omega) fun i hi=>?_)
  rw [List.drop_drop,show p.length + i * p.length = (i + 1) * p.length by rw [Nat.add_mul]; omega]
  exact h (i + 1) (by omega)

theorem qkx:∀ (n:Nat) {t:TypeId} {pat:List CK},qjx P n t = some pat->∀ cs,(∃ fuel x,DataW.trod enc P w base spare held fuel t cs = some x)->qs pat cs
 | 0,t,pat,h,_,_=>by simp [qjx] at h
 | n + 1,t,pat,h,cs,⟨fuel,x,hx⟩=>by
  simp only [qjx] at h
  split at h
  ·rename_i k hu
   simp only [Option.some.injEq] at h; subst h
   obtain ⟨z,rfl,_,_⟩:=DataW.trod_int hu hx
   refine ⟨rfl,fun c k' v hk hv=>?_⟩
   cases c with
   | zero=>simp at hk hv; subst hk; subst hv; simp [CK.fits]
   | succ c=>simp at hk
  ·rename_i hu
   simp only [Option.some.injEq] at h; subst h
   cases fuel with
   | zero=>simp [DataW.trod] at hx
   | succ m =>
    unfold DataW.trod at hx
    rw [hu] at hx
    split at hx <;> simp_all
    refine ⟨rfl,fun c k' v hk hv=>?_⟩
    cases c with
    | zero=>simp at hk hv; subst hk; subst hv; simp [CK.fits]
    | succ c=>simp at hk
  ·rename_i hu
   simp only [Option.some.injEq] at h; subst h
   cases fuel with
   | zero=>simp [DataW.trod] at hx
   | succ m =>
    unfold DataW.trod at hx
    rw [hu] at hx
    split at hx <;> simp_all
    exact qf0 rfl
  ·rename_i e hu
   simp only [Option.some.injEq] at h; subst h
   rcases DataW.trod_slice hu hx with ⟨rfl,_⟩ | ⟨a,len,cap,elems,rest,m,_,rfl,_⟩
   ·exact qf0 rfl
   ·exact qf0 rfl
  ·rename_i e hu
   simp only [Option.some.injEq] at h; subst h
   cases fuel with
   | zero=>simp [DataW.trod] at hx
   | succ m =>
    unfold DataW.trod at hx
    rw [hu] at hx
    split at hx <;> simp_all
    all_goals exact qf0 rfl
  ·rename_i fs hu
   split at h
   ·rename_i p hp
    split at h
    ·rename_i hc
     have hc:=Nat.eq_of_beq_eq_true hc
     simp only [Option.some.injEq] at h; subst h
     obtain ⟨xs,m,_,_,hl,hxl,hall⟩:=DataW.trod_struct hu hx
     have:=qnA (cs:=cs) (f:=qjx P n) (fun t p hp cs' hh=>qkx n hp cs' hh) hp (fun y hy=>by
      obtain ⟨i,hi⟩:=List.getElem?_of_mem hy
      have hi':fs[i]? = some y:=by simpa using hi
      have h1:=hall i y hi'
      have hlt:i < xs.length:=by
       rw [hxl]; exact (Array.getElem?_eq_some_iff.1 hi').1
      exact ⟨m,xs[i],by rw [h1]; simp [hlt]⟩) (by omega)
     simpa using this
    ·simp at h
   ·simp at h
  ·rename_i m e hu
   split at h
   ·rename_i p hp
    split at h
    ·rename_i hc
     simp only [Bool.and_eq_true] at hc
     have hc1:=Nat.eq_of_beq_eq_true hc.1
     have hc2:=Nat.eq_of_beq_eq_true hc.2
     simp only [Option.some.injEq] at h; subst h
     obtain ⟨xs,k,_,_,hl,hxl,hall⟩:=DataW.trod_array hu hx
     refine qmo (by rw [hl,hc2,hc1]) fun i hi=>?_
     have h1:=hall i hi
     rw [<- hc1] at h1
     exact qkx n hp _ ⟨k,xs[i]'(by omega),by rw [h1]; simp [hxl,hi]⟩
    ·simp at h
   ·simp at h
  ·simp at h

theorem qoY {a:Addr} {n:Nat} {cs:List Value} (h:w.cells? base a n = some cs):cs.length = n/\∀ i,i < n->w.cell? (a.add i) = cs[i]?:=by
 unfold World.cells? at h
 split at h
 ·exact ⟨by simpa using mapM_some_length h,fun i hi=>by simpa using mapM_some_get h i i (by simp [hi])⟩
 ·simp at h

theorem q12 {t e:TypeId} {pat:List CK} {n:Nat} {v:Value} {d:DataW H} {ps:List MemPlace} (ht:P.underlying t = some (.slice e)) (hpat:qjx P n e = some pat) (hce:P.cellsOf e = pat.length) (hpos:0 < pat.length)
  {fuel:Nat} (hsp:∀ b,spare b = true) (hf:DataW.trod enc P w base spare held fuel t [v] = some (d,ps)) :
  ∃ rows:List (List Value),Rd (fun b=>w.heap[b]?) pat v rows/\(∀ row ∈ rows,∃ fuel x,DataW.trod enc P w base spare held fuel e row = some x) /\
   ((d = .nil/\rows = [])∨∃ elems sp,d = .slice elems sp/\elems.length = rows.length/\∀ (i:Nat) (row:List Value),rows[i]? = some row->∃ fuel x,DataW.trod enc P w base spare held fuel e row = some x/\elems[i]? = some x.1):=by
 rcases DataW.trod_slice ht hf with ⟨h1,h2⟩ | ⟨a,len,cap,elems,rest,m,_,h1,h2,hb,hlc,hcm,hel,hall,hrest,_⟩
 ·simp at h1 h2
  exact ⟨[],.inl ⟨_,h1,rfl⟩,by simp,.inl ⟨h2.1,rfl⟩⟩
 ·simp at h1 h2
  subst h1
  have hrow:∀ i,i < len->∃ cs x,w.cells? base (a.add (i * P.cellsOf e)) (P.cellsOf e) = some cs/\DataW.trod enc P w base spare held m e cs = some x/\elems[i]? = some x:=fun i hi=>by
   have:=hall i hi
   rw [List.getElem?_eq_getElem (by omega)] at this
   obtain ⟨cs,g1,g2⟩:=Option.bind_eq_some_iff.1 this
   exact ⟨cs,_,g1,g2,List.getElem?_eq_getElem _⟩
  let rows:List (List Value):=(List.range len).map fun i=>((w.cells? base (a.add (i * P.cellsOf e)) (P.cellsOf e)).getD [])
  have hget:∀ i row,rows[i]? = some row->i < len/\w.cells? base (a.add (i * P.cellsOf e)) (P.cellsOf e) = some row:=fun i row hr=>by
   simp only [rows,List.getElem?_map,Option.map_eq_some_iff] at hr
   obtain ⟨j,hj,rfl⟩:=hr
   have hlt:i < len:=by
    have:=(List.getElem?_eq_some_iff.1 hj).1; simpa using this
   rw [List.getElem?_range hlt] at hj
   simp only [Option.some.injEq] at hj; subst hj
   obtain ⟨cs,x,g1,_,_⟩:=hrow i hlt
   exact ⟨hlt,by rw [g1]; rfl⟩
  have hrl:rows.length = len:=by simp [rows]
  have htr:∀ row ∈ rows,∃ fuel x,DataW.trod enc P w base spare held fuel e row = some x:=fun row hr=>by
   obtain ⟨i,hi⟩:=List.getElem?_of_mem hr
   obtain ⟨hlt,hc⟩:=hget i row hi
   obtain ⟨cs,x,g1,g2,_⟩:=hrow i hlt
   rw [hc] at g1
   simp only [Option.some.injEq] at g1; subst g1
   exact ⟨m,x,g2⟩
  refine ⟨rows,?_,htr,.inr ⟨_,_,h2.1,by simp [hel,hrl],fun i row hi=>?_⟩⟩
  rotate_left
  ·obtain ⟨hlt,hc⟩:=hget i row hi
   obtain ⟨cs,x,g1,g2,g3⟩:=hrow i hlt
   rw [hc] at g1
   simp only [Option.some.injEq] at g1; subst g1
   exact ⟨m,x,g2,by simp [g3]⟩
  by_cases hcap:cap = 0
  ·have hl0:len = 0:=by omega
   have:rows = []:=by apply List.eq_nil_of_length_eq_zero; omega
   exact .inl ⟨some a,by rw [hl0,hcap],this⟩
  have hfirst:∃ cs,w.cells? base (a.add 0) (P.cellsOf e) = some cs:=by
   by_cases hl:0 < len
   ·obtain ⟨cs,_,g1,_,_⟩:=hrow 0 hl
    rw [Nat.zero_mul] at g1
    exact ⟨cs,g1⟩
   ·obtain ⟨r1,r2⟩:=hrest (hsp _)
    have:=r2 0 (by omega)
    rw [show (len + 0) * P.cellsOf e = 0 by rw [show len + 0 = 0 by omega]; simp,List.getElem?_eq_getElem (by omega)] at this
    obtain ⟨cs,g1,_⟩:=Option.bind_eq_some_iff.1 this
    exact ⟨cs,g1⟩
  obtain ⟨cs0,hc0⟩:=hfirst
  obtain ⟨hl0,hg0⟩:=qoY hc0
  have h00:=hg0 0 (by omega)
  rw [show (a.add 0).add 0 = a from rfl,List.getElem?_eq_getElem (by omega)] at h00
  obtain ⟨ab,ao,asp⟩:=a
  have hblk0:=h00
  unfold World.cell? at hblk0
  split at hblk0
  ·rename_i c ty fr hblk
   simp only at hblk
   have hsp0:asp = none:=by
    cases asp with
    | none=>rfl
    | some s=>simp at hblk0
   subst hsp0
   refine .inr ⟨ab,ao,cap,c,ty,fr,by rw [hrl],by omega,hblk,fun i row hi=>?_⟩
   obtain ⟨hlt,hc⟩:=hget i row hi
   refine ⟨qkx n hpat row (htr row (List.mem_of_getElem? hi)),fun k x hk=>?_⟩
   obtain ⟨hl1,hg⟩:=qoY hc
   have hkl:k < P.cellsOf e:=by
    rw [<- hl1]; exact (List.getElem?_eq_some_iff.1 hk).1
   have:=hg k hkl
   rw [hk,hce] at this
   rw [Go.Eng.addr_add,Go.Eng.addr_add,qaQ hblk] at this
   exact this
  ·simp at hblk0
end

end Go.Eng

set_option linter.unusedSimpArgs false
set_option linter.unusedVariables false
namespace Go.Eng
open Go Go.Proofs
def qiB:Ctr:={ qgn with pre:=fun ρ=>qgn.pre ρ/\qbf (ρ 2).i (ρ 3).i (ρ 4).i = true/\(ρ 6).i <= 8192,alts:=[{ k:=9,ret:=.tup [(true,qix 2 3 4 6 12 13 4 14),(false,[.vslice 15 (.lit 0) (.var 4) (.var 16) 2]),qcB (.lit 0)],heap:=[fHp 17,qf4 13 18 14,.arr 15 86 qiG (.var 19) (.var 16),.abs 20 10],post:=fun ρ=>qv (ρ 17).d/\qbf (ρ 2).i (ρ 3).i (ρ 4).i = true/\(ρ 6).i <= 8192/\(ρ 19).d.length = (ρ 4).i.toNat/\qfl (ρ 20).h (ρ 19).d (ρ 4).i.toNat (qd0 (ρ 2).i.toNat (ρ 4).i.toNat (bI (ρ 8).d))/\qf (ρ 12).d 32 = sha (bI (ρ 8).d)/\qfp (ρ 18).d/\dgs (ρ 18).d = qdo (qd0 (ρ 2).i.toNat (ρ 4).i.toNat (bI (ρ 8).d)) (ρ 4).i.toNat }] }
end Go.Eng

set_option linter.unusedSimpArgs false
set_option linter.unusedVariables false
set_option maxRecDepth 100000
namespace Go.Proofs
open Go Go.Eng

end Go.Proofs

set_option linter.unusedSimpArgs false
set_option linter.unusedVariables false
namespace Go.Proofs
open Go Go.Eng
section
variable {k total:Nat} {data:List Int}
end
section
variable {h:Hp} {P:qd} {k n t s l:Int} {data:List Int} {G:qd}
theorem q1R {f:Nat->List Int} {m:Nat} {x:Int} (x0:0 <= x) (x1:x < m):(qdo f m).getD x.toNat [] = sha (qbW x ++ f x.toNat):=by
 unfold qdo
 rw [List.getD_eq_getElem?_getD,List.getElem?_map,List.getElem?_range (by omega)]
 simp only [Option.map_some,Option.getD_some]
 rw [Int.toNat_of_nonneg x0]
theorem q20 {x:Int} {m:List Int} (hM:qG k n t s l = true) (hb:qx data) (hsz:s = data.length) (hG:dgs G = qdo (qd0 k.toNat t.toNat data) t.toNat) (x0:0 <= x) (x1:x < t) (hm:m = qd0 k.toNat t.toNat data x.toNat):qcg k n t s l (dgs G) x m = 0:=by
 obtain ⟨k1,k2,k3,k4,s0,s1,htl⟩:=qzZ.1 hM
 have hl:(m.length:Int) = qec k s:=by
  rw [hm,(qzz (by omega) (by omega) (by omega) hb _).1,q2L k1 s0,hsz]
  unfold plI
  simp
 have hS:sha (qbW x ++ m) = (dgs G).getD x.toNat []:=by rw [hm,hG,q1R x0 (by omega)]
 rw [qcg,if_neg (by rw [hM]; decide),if_neg (by omega),if_neg (fun h=>h hl),if_neg (fun h=>h hS)]
end
section
variable {h h':Hp} {D S L:qd} {n i:Nat} {t:Int} {f:Nat->List Int}
end
section
variable {h h0:Hp} {P P0 G R:qd} {k n t s l x e y m:Int} {data O:List Int} {N N':Nat}
end
section
variable {h h':Hp} {S L:qd} {i n j i':Int} {t:Int} {f:Nat->List Int}
end
section
variable {h h0:Hp} {D D0 G:qd} {T:Nat} {t:Int} {f:Nat->List Int} {N N' M:Nat}
end
end Go.Proofs

set_option linter.unusedSimpArgs false
set_option linter.unusedVariables false
namespace Go.Proofs
open Go Go.Eng
theorem q19:qiB.ok Tryz.prog:=by
 refine ⟨qwE.1,fun ρ w hF hO hg hd hw hs hro hp=>?_⟩
 obtain ⟨hp,hs3,h8⟩:=hp
 refine (qwE.2 ρ w hF hO hg hd hw hs hro hp).mono fun e w' h=>?_
 obtain ⟨ai,al,ρ',h1,h2,hρ,h4,hpost,h6⟩:=h
 match ai,h1 with
 | 0,h1 =>
  obtain rfl:=(Option.some.inj h1).symm
  exfalso
  have e2:=hρ 2 (by decide)
  have e3:=hρ 3 (by decide)
  have e4:=hρ 4 (by decide)
  have e6:=hρ 6 (by decide)
  obtain ⟨_,⟨h1,_⟩ | ⟨_,h1,_⟩⟩:=hpost
  ·change qbf (ρ' 2).i (ρ' 3).i (ρ' 4).i = false at h1
   rw [e2,e3,e4,hs3] at h1; cases h1
  ·change 8192 < (ρ' 6).i at h1
   rw [e6] at h1; omega
 | 1,h1 =>
  obtain rfl:=(Option.some.inj h1).symm
  exact ⟨0,_,ρ',rfl,h2,hρ,h4,hpost,h6⟩
 | ai + 2,h1=>simp [qgn] at h1
set_option maxRecDepth 20000
end Go.Proofs

set_option linter.unusedSimpArgs false
set_option linter.unusedVariables false
namespace Go.Eng
open Go Go.Proofs
def ql (d:qd):List Int:=d.map fun row=>qb9 row 0
def qq5:List CK:=List.replicate 16 .bool
def b16 (n:Nat):SV:=.agg ((List.range 16).map fun i=>.c1 .vbool (.var (n + i)))
def qod (x:Int):Bool:=decide (0 <= x/\x < 16)
def qco:Ctr:={ fn := 100,nv:=1,args:=[iv .i64 (.var 0)],heap:=[],ro:=[],pre:=fun _=>True,alts:=[{ k:=1,ret:=.one (.vbool (.var 1)),heap:=[],post:=fun ρ=>(ρ 1).b = qod (ρ 0).i }] }
def qcp (r:Nat):SH:=iHp r (r + 3) (r + 4)
def qbp (ρ:Env) (r:Nat):Prop:=(ρ (r + 1)).i = (ρ (r + 3)).d.length/\(ρ (r + 1)).i <= 1000000000000/\∀ row ∈ (ρ (r + 3)).d,row.length = 1
def qew (l:List Bool) (L:List Int):Prop:=l.length = 16/\∀ j:Nat,j < 16->(l.getD j false = true↔(j:Int) ∈ L)
def qdG:Ctr:={ fn := 82,nv:=5,args:=[bS 0],heap:=[],ro:=[qcp 0],pre:=fun ρ=>qbp ρ 0,alts:=[
 { k:=16,ret:=b16 5,heap:=[],post:=fun ρ=>qew [(ρ 5).b,(ρ 6).b,(ρ 7).b,(ρ 8).b,(ρ 9).b,(ρ 10).b,(ρ 11).b,(ρ 12).b,(ρ 13).b,(ρ 14).b,(ρ 15).b,(ρ 16).b,(ρ 17).b,(ρ 18).b,(ρ 19).b,(ρ 20).b] (ql (ρ 3).d) }] }
def qdm (s:qd) (l:List Int) (n:Nat):Prop:=(∃ row,s = [row]/\row.length = 16)/\∀ x:Int,0 <= x->x < 16->(qaO s x.toNat = true↔x ∈ l.take n)
def qqp:Inv:={ key:=2,nv:=3,env:=[(2,.one (.vptr 1000 (.lit 0) 16 0)),(5,bS 0),(6,iv .i64 (.var 1)),(7,iv .i64 (.var 1002))],heap:=[.arr 1000 157 qq5 (.var 1001) (.lit 1)],inv:=(fun ρ=>0 <= (ρ 1002).i/\(ρ 1002).i <= (ρ 1).i/\qdm (ρ 1001).d (ql (ρ 3).d) (ρ 1002).i.toNat),mu:=(fun ρ=>((ρ 1).i - (ρ 1002).i).toNat) }
def qL (o:List Int) (p:Int):List Int:=sha (o ++ [p % 256])
def qci:Ctr:={ fn := 24,nv:=4,ip:=[gIp 2,(1005,9)],args:=[dgV 0,iv .i64 (.var 1)],heap:=[],ro:=[gHp 2 3],pre:=fun ρ=>qR (qf (ρ 0).d 32)/\gOk ρ 2 3 gR,alts:=[
 { k:=1,ret:=dgV 4,heap:=[],post:=fun ρ=>qf (ρ 4).d 32 = qL (qf (ρ 0).d 32) (ρ 1).i }] }
def rkV (p d:Nat):SV:=.agg (.vint .i64 (.var p) :: qbb .u8 d 32)
def qd6:Ctr:={ fn := 80,nv:=4,ip:=[gIp 2],args:=[dgV 0,iv .i64 (.var 1)],heap:=[],ro:=[gHp 2 3],pre:=fun ρ=>qR (qf (ρ 0).d 32)/\gOk ρ 2 3 gR,alts:=[
 { k:=2,ret:=.agg (.vint .i64 (.var 1) :: qbb .u8 4 32),heap:=[],post:=fun ρ=>qf (ρ 4).d 32 = qL (qf (ρ 0).d 32) (ρ 1).i }] }
def qbx:List Int->List Int->Int
 | [],[]=>0
 | [],_ :: _=>-1
 | _ :: _,[]=>1
 | a :: l,b :: m=>if a < b then -1 else if b < a then 1 else qbx l m
def kRk:List CK:=.int .i64 :: List.replicate 32 (.int .u8)
def qjy:Ctr:={ fn := 118,nv:=4,args:=[.one (.vslice 0 (.lit 1) (.lit 32) (.lit 32) 1),.one (.vslice 1 (.lit 1) (.lit 32) (.lit 32) 1)],heap:=[],ro:=[.arr 0 153 kRk (.var 2) (.lit 1),.arr 1 153 kRk (.var 3) (.lit 1)],pre:=fun ρ=>qam (ρ 2).d 33/\qam (ρ 3).d 33/\qR ((qf (ρ 2).d 33).drop 1)/\qR ((qf (ρ 3).d 33).drop 1),alts:=[
 { k:=1,ret:=iv .i64 (.var 4),heap:=[],post:=fun ρ=>(ρ 4).i = qbx ((qf (ρ 2).d 33).drop 1) ((qf (ρ 3).d 33).drop 1) }] }
def qcC:Ctr:={ fn := 81,nv:=4,args:=[rkV 0 1,rkV 2 3],heap:=[],ro:=[],pre:=fun ρ=>qR (qf (ρ 1).d 32)/\qR (qf (ρ 3).d 32),alts:=[
 { k:=1,ret:=iv .i64 (.var 4),heap:=[],post:=fun ρ=>(ρ 4).i = if qbx (qf (ρ 1).d 32) (qf (ρ 3).d 32) = 0 then qc .sub .i64 (ρ 0).i (ρ 2).i else qbx (qf (ρ 1).d 32) (qf (ρ 3).d 32) }] }
def qO (o:List Int) (a b:Int):Bool:=if qL o a = qL o b then decide (a < b) else decide (qbx (qL o a) (qL o b) < 0)
def qbI:Ctr:={ fn := 26,nv:=5,ip:=[gIp 3],args:=[dgV 0,iv .i64 (.var 1),iv .i64 (.var 2)],heap:=[],ro:=[gHp 3 4],pre:=fun ρ=>qR (qf (ρ 0).d 32)/\gOk ρ 3 4 gR,alts:=[
 { k:=1,ret:=.one (.vbool (.var 5)),heap:=[],post:=fun ρ=>(ρ 5).b = qO (qf (ρ 0).d 32) (ρ 1).i (ρ 2).i }] }
end Go.Eng
