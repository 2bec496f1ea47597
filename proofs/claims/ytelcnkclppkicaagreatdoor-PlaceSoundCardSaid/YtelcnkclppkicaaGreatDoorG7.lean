/- Texts ZW, ZX, DS, DT, BT, BU, BV, BW, BX, BY, CA, CB, CC, CD, CE, CF, CG, CH, CI, CK, YA, CL, CM, ZLq, YF, W1, W2, W3, WD, CN, CO, YB, ZSq, YC, CP, W4, WC, YD, YE, YG, YK, W5, W6, YM, YR, CQ, CR, YS, W7, YU, YV, YW, CS, W9, V3, VT, VZ, VW, CT, CW, V4, VM. -/
import Derived.Test.YtelcnkclppkicaaGreatDoorG6
import Derived.Test.YtelcnkclppkicaaGreatDoorG4
import Derived.Test.YtelcnkclppkicaaGreatDoorG5
import Derived.Test.YtelcnkclppkicaaGreatDoorProg
set_option linter.unusedSimpArgs false
set_option linter.unusedVariables false
namespace Go.Proofs
open Go Go.Eng

theorem q8K:qpx.ok Tryz.prog:=Ctr.ok_less quU rfl rfl rfl rfl rfl (fun _ h=>h.1) fun ρ ρ' ai al hp hag hal hpost=>by
 match ai,hal with
 | 0,hal =>
  exfalso
  obtain rfl:=Option.some.inj hal
  obtain ⟨_,h2⟩:_/\(qT ((ρ'.upto 5) 2).i ((ρ'.upto 5) 3).i = true->(qcm ((ρ'.upto 5) 2).i.toNat ((ρ'.upto 5) 3).i.toNat).2.2 < ((ρ'.upto 5) 2).i.toNat):=hpost
  have e2:(ρ'.upto 5) 2 = ρ 2:=by rw [Env.upto,if_pos (by omega)]; exact hag 2 (by decide)
  have e3:(ρ'.upto 5) 3 = ρ 3:=by rw [Env.upto,if_pos (by omega)]; exact hag 3 (by decide)
  rw [e2,e3] at h2
  obtain ⟨_,p2,p3⟩:=hp
  have:=h2 p2
  omega
 | 1,hal=>exact ⟨0,hal⟩
 | n + 2,hal=>cases hal
theorem qjt {k n:Nat} (hk:0 < k):n <= k * qA k n:=by
 unfold qA
 have h1:=Nat.div_add_mod (n + k - 1) k
 have h2:=Nat.mod_lt (n + k - 1) hk
 omega
theorem qnG {k n:Nat} (hk:0 < k):k * qA k n < n + k:=by
 unfold qA
 have h1:=Nat.div_add_mod (n + k - 1) k
 omega
theorem qgS {k n:Nat} (hk:0 < k):qA k n <= n:=by
 have h:=qnG (n:=n) hk
 by_cases h2:qA k n <= n
 ·exact h2
 ·have h3:k * (n + 1) <= k * qA k n:=Nat.mul_le_mul_left k (by omega)
  rw [Nat.mul_add,Nat.mul_one] at h3
  have h4:n * 1 <= k * n:=by rw [Nat.mul_comm k n]; exact Nat.mul_le_mul_left n hk
  omega
theorem ql8 {k:Int} {n:Nat} (hk:1 <= k):((n:Int) + k - 1).tdiv k = (qA k.toNat n:Nat):=by
 rw [Int.tdiv_eq_ediv_of_nonneg (by omega),qA,Int.natCast_ediv]
 congr 1 <;> omega
theorem q24 {d x:qd} (h:x.length <= d.length):bI (qaM d 0 x) = bI x ++ (bI d).drop x.length:=by
 simp [qaM,bI,List.map_drop]
theorem qy6 {d x:qd} (hd:qn d) (hx:qn x):qn (qaM d 0 x):=fun r hr=>by
 unfold qaM at hr
 rcases List.mem_append.1 hr with hr | hr
 ·rcases List.mem_append.1 hr with hr | hr
  ·simp at hr
  ·exact hx r hr
 ·exact hd r (List.mem_of_mem_drop hr)
theorem q2Y {k total len lg cg:Int} {f dg data D:qd} (hf:qk f) (hs:qT k total = true) (h1:len <= 8192) (h2:len = data.length) (hB:qn data) (hM:qK total k lg cg dg) (hG:bI dg = qc8 k.toNat total.toNat) (hD:D = List.replicate total.toNat [.int .i64 0,.slice none 0 0]) :
  qoU k total len (qA k.toNat data.length:Nat) (k * (qA k.toNat data.length:Nat)) (k * (qA k.toNat data.length:Nat)) lg cg 0 f dg (qaM (List.replicate (k * (qA k.toNat data.length:Nat)).toNat [.int .u8 0]) 0 data) D data:=by
 obtain ⟨k1,k2,k3⟩:=qbH.1 hs
 have hge:=qjt (k:=k.toNat) (n:=data.length) (by omega)
 have hle:=qgS (k:=k.toNat) (n:=data.length) (by omega)
 have hc:(k * (qA k.toNat data.length:Nat)).toNat = k.toNat * qA k.toNat data.length:=by rw [Int.toNat_mul (by omega) (by omega)]; simp
 have hc0:0 <= k * (qA k.toNat data.length:Nat):=Int.mul_nonneg (by omega) (by omega)
 refine ⟨hf,hs,h1,h2,hB,rfl,by omega,rfl,?_,qy6 qds hB,?_,hM,hG,by rw [hD,List.length_replicate],fun row hr=>by rw [hD] at hr; rw [List.eq_of_mem_replicate hr]; rfl,by omega,by omega⟩
 ·rw [qgM (by rw [List.length_replicate]; omega),List.length_replicate]; omega
 ·rw [q24 (by rw [List.length_replicate]; omega),qiy,hc,qiW,bI_len,List.drop_replicate]; simp
theorem q4I {k total len l lf cf lg cg i:Int} {f dg df D data:qd} {v w:Value} (h:qoU k total len l lf cf lg cg i f dg df D data) (hi:i < total):qoU k total len l lf cf lg cg (i + 1) f dg df (qbi D i 0 [v,w]) data:=by
 obtain ⟨a1,a2,a3,a4,a5,a6,a7,a8,a9,a10,a11,a12,a13,a14,a17,a15,a16⟩:=h
 refine ⟨a1,a2,a3,a4,a5,a6,a7,a8,a9,a10,a11,a12,a13,by rw [qcv]; exact a14,fun row hr=>?_,by omega,by omega⟩
 unfold qbi at hr
 rcases List.mem_or_eq_of_mem_set hr with hr | rfl
 ·exact a17 row hr
 ·have hl:i.toNat < D.length:=by omega
  have:=a17 _ (List.getElem_mem hl)
  rw [List.getElem?_eq_getElem hl,Option.getD_some,qlA (by rw [this]; simp),this]
theorem qAo {k total len l lf cf lg cg i:Int} {f f' dg df D data:qd} (h:qoU k total len l lf cf lg cg i f dg df D data) (hf:qk f'):qoU k total len l lf cf lg cg i f' dg df D data:=⟨hf,h.2⟩
theorem qkZ {h h':Hp} {D:qd} {n:Nat} {f:Nat->List Int} (he:qfZ h D n f) (hl:Hp.le h h'):qfZ h' D n f:=fun j hj=>by
 obtain ⟨v,d,e1,e2,e3⟩:=he j hj
 exact ⟨v,d,e1,qfE e2 hl,e3⟩
theorem q1z {h h':Hp} {D:qd} {i:Int} {f:Nat->List Int} {v:Value} {d:qd} (he:qfZ h D i.toNat f) (hl:Hp.le h h') (h0:0 <= i) (hi:i.toNat < D.length) (hc:(D[i.toNat]?.getD []).length = 2) (hr:Rd h' kB v d) (hd:bI d = f i.toNat) (hB:qn d) :
  qfZ h' (qbi D i 0 [.int .i64 i,v]) (i.toNat + 1) f:=fun j hj=>by
 by_cases hji:j = i.toNat
 ·subst hji
  refine ⟨v,d,?_,hr,hd,hB⟩
  have hs:qaq (D[i.toNat]?.getD []) 0 [.int .i64 i,v] = [.int .i64 i,v]:=by
   simp only [qaq,List.take_zero,List.nil_append]
   rw [List.drop_eq_nil_of_le (by rw [hc]; exact Nat.le_refl _),List.append_nil]
  rw [qbi,List.getElem?_set_self hi,hs,Int.toNat_of_nonneg h0]
 ·obtain ⟨v',d',e1,e2,e3⟩:=he j (by omega)
  exact ⟨v',d',by rw [qbi,List.getElem?_set_ne (by omega)]; exact e1,qfE e2 hl,e3⟩
set_option maxRecDepth 20000 in
set_option pp.deepTerms true in
set_option pp.maxSteps 1000000 in
theorem qyJ:qcq.ok Tryz.prog:=qyv (by simp [qh2,qlp,q8K,qgt,qkl]) fun ρ hg hp=>by
 obtain ⟨hf,hl,hB,hrk⟩:=hp
 have hne:=(qbT hf).1
 simp (config:={ maxSteps:=4000000 }) [qkE,qcq,qlQ,qmY,qam,qaC,qpx,qdA,qak,qaX]
 refine ⟨fun h=>(hne h).elim,fun _ v _ hv=>⟨fun hb=>⟨hf,by rw [<- hv]; exact hb⟩,fun hb=>?_⟩⟩
 have hsz:qT (ρ 2).i (ρ 3).i = true:=by rw [<- hv]; exact hb
 obtain ⟨k1,k2,k3⟩:=qbH.1 hsz
 refine ⟨by omega,fun h=>⟨hf,hsz,h⟩,fun hle l _ e _ _ hpl=>?_⟩
 have hnb:¬ qdv (ρ 2).i (ρ 5).i:=by unfold qdv; omega
 obtain ⟨hpl1,_⟩:=hpl hnb
 rw [hl,ql8 k1] at hpl1
 have hge:=qjt (k:=(ρ 2).i.toNat) (n:=(ρ 7).d.length) (by omega)
 have hlt:=qnG (k:=(ρ 2).i.toNat) (n:=(ρ 7).d.length) (by omega)
 have hkl:(ρ 2).i * l.i = (((ρ 2).i.toNat * qA (ρ 2).i.toNat (ρ 7).d.length:Nat):Int):=by rw [hpl1,Int.natCast_mul,Int.toNat_of_nonneg (by omega)]
 rw [qcP (by omega) (by omega)]
 have hmax:max ((ρ 2).i * l.i) 0 = (ρ 2).i * l.i:=by omega
 refine ⟨by omega,by omega,fun u3 _=>⟨by omega,by omega,fun u4 _=>⟨⟨hf,hsz,hrk hsz⟩,fun u5 _ lg _ cg _ f1 _ dg _ ab _ hf1 _ hM _ hG u11 _=>⟨by omega,by omega,fun u12 _=>⟨⟨?_,fun j hj=>by omega⟩,?_⟩⟩⟩⟩⟩
 ·have htake:(((ρ 7).d.take (ρ 5).i.toNat).take (if (ρ 5).i < (ρ 2).i * l.i then (ρ 5).i else (ρ 2).i * l.i).toNat) = (ρ 7).d:=by
   rw [List.take_of_length_le (l:=(ρ 7).d) (by omega),List.take_of_length_le (by split <;> omega)]
  rw [htake,hpl1]
  exact q2Y hf1 hsz hle hl hB hM hG rfl
 intro l2 _ u14 _ lf _ cf _ u17 _ u18 _ u19 _ i _ f2 _ u22 _ lg2 _ cg2 _ dg2 _ df2 _ D2 _ ab2 _ hW hE
 refine ⟨fun hi=>?_,fun hi u29 _ hst=>?_⟩
 ·have hW':=hW
  obtain ⟨a1,a2,a3,a4,a5,a6,a7,a8,a9,a10,a11,a12,a13,a14,a17,a15,a16⟩:=hW'
  refine ⟨by omega,by omega,fun u29 _=>⟨⟨a15,hi,a12.1⟩,fun o _ n _ c _ ho hn hc=>⟨by omega,⟨hW,hE,hi,ho,hn,by omega,qds,?_⟩,?_⟩⟩⟩
  ·rw [qiy]; rfl
  intro l3 _ u34 _ lf3 _ cf3 _ u37 _ u38 _ u39 _ i3 _ f3 _ u42 _ lg3 _ cg3 _ dg3 _ df3 _ D3 _ ab3 _ rp _ cp _ pd _ o3 _ n3 _ c3 _ j _ hW3 hE3 hii hi3 ho3 hn3 j0 j1 hpl hpB hp3
  have hW3':=hW3
  obtain ⟨b1,b2,b3,b4,b5,b6,b7,b8,b9,b10,b11,b12,b13,b14,b17,b15,b16⟩:=hW3'
  obtain ⟨⟨m1,m2,m3,m4,m5,m6,m7,m8⟩,m9⟩:=b12
  have hl0:0 <= l3.i:=by omega
  refine ⟨fun hj=>?_,fun hj=>?_⟩
  ·have hjk:j.i < (ρ 2).i:=by omega
   have hbo:=qI (x:=i3.i) (y:=(ρ 2).i) b15 (show i3.i <= 255 by omega) (by omega) (show (ρ 2).i <= 255 by omega)
   have hbj:=qI (x:=j.i) (y:=l3.i) j0 (show j.i <= 255 by omega) hl0 b7
   have hltG:i3.i * (ρ 2).i + j.i < (ρ 3).i * (ρ 2).i:=by
    have:=Int.mul_le_mul_of_nonneg_right (show i3.i + 1 <= (ρ 3).i by omega) (show 0 <= (ρ 2).i by omega)
    rw [Int.add_mul,Int.one_mul] at this; omega
   have he:(j.i + 1) * l3.i = j.i * l3.i + l3.i:=by rw [Int.add_mul,Int.one_mul]
   have hltF:j.i * l3.i + l3.i <= (ρ 2).i * l3.i:=by
    have:=Int.mul_le_mul_of_nonneg_right (show j.i + 1 <= (ρ 2).i by omega) hl0
    omega
   have hcell:=qch m8 (i:=o3.i + j.i) (by omega) (by omega)
   rw [add64 (by omega) (by omega),qcP (by omega) (by omega),qcP (by omega) (by omega),he]
   refine ⟨j0,by omega,by omega,by omega,fun hcap=>⟨by omega,by omega,hbj.1,by omega,by omega,⟨b1,⟨by omega,hl0,by omega,by unfold Go.Eng.big; omega⟩,⟨by split <;> omega,by omega,by split <;> omega,by unfold Go.Eng.big; omega⟩,by omega,hpB,b10,hcell⟩,fun f4 _ d4 _ hf4 hl4 hB4 he4=>?_⟩⟩
   refine ⟨⟨qAo hW3 hf4,hE3,hii,hi3,ho3,hn3,by omega,by omega,by omega,hB4,?_⟩,by omega⟩
   have hsg:seg (bI df3.d) (if cf3.i = j.i * l3.i then 0 else j.i * l3.i).toNat (j.i * l3.i + l3.i - j.i * l3.i).toNat = seg (bI df3.d) (j.i.toNat * l3.i.toNat) l3.i.toNat:=by
    rw [show j.i * l3.i + l3.i - j.i * l3.i = l3.i by omega]
    split
    ·have:l3.i.toNat = 0:=by omega
     rw [this]; simp [seg]
    ·rw [Int.toNat_mul j0 hl0]
   have hgd:(bI dg3.d).getD (i3.i.toNat * (ρ 2).i.toNat + j.i.toNat) 0 = qb dg3.d (o3.i + j.i) 0:=by
    have:=qfY (d:=dg3.d) (i:=o3.i + j.i) (by omega) (by omega)
    rw [show (o3.i + j.i).toNat = i3.i.toNat * (ρ 2).i.toNat + j.i.toNat by rw [ho3,Int.toNat_add hbo.1 j0,Int.toNat_mul b15 (by omega)]] at this
    rw [List.getD_eq_getElem?_getD,this]; rfl
   rw [he4,hp3,hsg,show (j.i + 1).toNat = j.i.toNat + 1 by omega,qcy,hgd]
  ·have hjk:j.i = (ρ 2).i:=by omega
   refine ⟨b15,hi3,by omega,fun u56 _ hst=>?_⟩
   rw [add64 (by omega) (by omega)]
   refine ⟨⟨q4I hW3 hi3,?_⟩,by omega⟩
   obtain ⟨ha,la,da⟩:=qii hst (List.mem_cons_self ..)
   obtain ⟨hb,lb,db⟩:=qbQ hst (n:=57) (t:=2) (by simp)
   have hr:=qv4 (n:=l3.i.toNat) (k:=cp.i.toNat) da la (by simp; omega) (by simp)
   have hr:Rd u56.h kB (.slice (qm rp.r 0) l3.i.toNat cp.i.toNat) pd.d:=by simpa [kB] using hr
   have hdl:i3.i.toNat < D3.d.length:=by omega
   rw [show (i3.i + 1).toNat = i3.i.toNat + 1 by omega]
   refine q1z hE3 (Hp.le_trans (by simpa using db) lb) b15 hdl (by rw [List.getElem?_eq_getElem hdl]; exact b17 _ (List.getElem_mem hdl)) hr ?_ hpB
   rw [hp3,qdS,hjk,b13,b11,bI_len]
   rw [show l3.i.toNat = qA (ρ 2).i.toNat (ρ 7).d.length by omega]
 ·obtain ⟨a1,a2,a3,a4,a5,a6,a7,a8,a9,a10,a11,a12,a13,a14,a17,a15,a16⟩:=hW
  obtain ⟨hb,lb,db⟩:=qbQ hst (n:=37) (t:=2) (by simp)
  refine ⟨a1,hsz,hle,a14,?_⟩
  rw [show i.i.toNat = (ρ 3).i.toNat by omega] at hE
  exact qkZ hE (Hp.le_trans (by simpa using db) lb)
end Go.Proofs

set_option linter.unusedSimpArgs false
set_option linter.unusedVariables false
namespace Go.Proofs
open Go Go.Eng

end Go.Proofs

set_option linter.unusedSimpArgs false
set_option linter.unusedVariables false
namespace Go.Proofs
open Go Go.Eng
theorem qtw:qce.ok Tryz.prog:=q3d (by simp) fun ρ hg hp=>by
 simp [qpl,qce]
 refine ⟨fun h1=>⟨fun h2=>⟨fun h3=>?_,fun h3=>?_⟩,fun h2=>?_⟩,fun h1=>?_⟩
 ·simp [qbe,h1,h2,h3,qH]
 ·simp [qbe]; omega
 ·simp [qbe]; omega
 ·simp [qbe]; omega
set_option maxRecDepth 20000 in
theorem qiG:qaz.ok Tryz.prog:=q2Q (by simp [qtw]) fun ρ hg hp=>by
 have hp:0 <= (ρ 6).i:=hp
 simp [qpf,qaz,qce,qz,qi2,qdT,qaG]
 refine fun u _ hu=>⟨fun h hs=>by (rw [hu,hs] at h; cases h),fun h=>⟨fun a _ b=>by omega,fun a=>⟨fun b _ _ c=>by omega,fun b=>⟨hp,fun c _ _ _=>c,fun c=>⟨by rw [<- hu,h],a,b,c⟩⟩⟩⟩⟩
theorem qB6 {x:Int}:qe .shr .i64 x 8 = x.fdiv 256:=rfl
set_option maxRecDepth 20000 in
theorem qkn:qaB.ok Tryz.prog:=q0H (by simp [qqd,qwH,q2X]) fun ρ hg hp=>by
 obtain ⟨o0,l0,lc,l1,hle,hB,hGr,hGd⟩:=hp
 simp (config:={ maxSteps:=2000000 }) [qm6,qaB,qbx,qcR,qfK,gOk]
 have hseg:qbF [[.int .u8 (IntKind.u8.wrap (qe .shr .i64 (ρ 0).i 8))],[.int .u8 (IntKind.u8.wrap (ρ 0).i)]] 0 2 = qba (ρ 0).i:=by
  rw [qB6,qiR,qiR]; rfl
 refine fun h _ hh=>⟨⟨⟨[],hh,by decide⟩,?_,hGr,hGd⟩,fun g _ hg1=>?_⟩
 ·intro row hr
  simp at hr
  rcases hr with rfl | rfl
  ·simp [qb6,qag,qiR]; omega
  ·simp [qb6,qag,qiR]; omega
 ·rw [hseg] at hg1
  have h1:=hg1 [] hh
  refine ⟨⟨⟨_,h1,by simp [qba]⟩,o0,l0,lc,by omega,hle,hB,hGr,hGd⟩,fun k _ hk=>⟨⟨⟨_,hk _ h1,?_⟩,hGr,hGd⟩,fun d _ hd=>?_⟩⟩
  ·have:(qbF (ρ 5).d (ρ 2).i (ρ 3).i).length <= (ρ 3).i.toNat:=by simp [qbF]; omega
   simp [qba]; omega
  ·exact (show qg _ 32 = qg d.d 32 from rfl).trans (hd _ (hk _ h1))
theorem qf1 {lim:Int} {b:Bool} {x m s:List Int} (h:(b,x) = qfL lim false m s) (hf:(m.length:Int) + s.length <= lim):b = false/\x = m ++ s:=by
 rw [qks (by simp [qgA]; omega)] at h
 simpa using h
theorem qA1 {x:Int}:IntKind.u16.wrap x = x % 65536:=by simp [IntKind.wrap,IntKind.bits,IntKind.signed]
theorem q9o {d:qd} {i:Nat} (h:i < d.length):qg [qeG (qb d i)] 32 = qhs d[i]:=by
 refine List.map_congr_left fun j hj=>?_
 rw [qoc (List.mem_range.1 hj)]
 simp [qb,qF,qb6,h]
theorem qwn {d:qd} {i:Nat} (h:i < d.length):((dgs d).take (i + 1)).flatten = ((dgs d).take i).flatten ++ qhs d[i]:=by
 rw [List.take_add_one,List.getElem?_eq_getElem (by simpa [dgs] using h)]
 simp [dgs]
set_option maxRecDepth 20000 in
set_option maxHeartbeats 800000 in
theorem q4l:qdI.ok Tryz.prog:=q3F (by simp [qiG,qxb,qBn,qAE,q8H,q5V,q6q]) fun ρ hg hp=>by
 obtain ⟨l0,hl,ho,hd⟩:=hp
 simp (config:={ maxSteps:=2000000 }) [qpi,qdI,qrl,qaz,qbG,u8C,qji,qqK,qgT,qfn,qfp,qcj,qeW,qgQ]
 refine ⟨l0,fun e _ he=>⟨fun hne=>?_,fun hz lim _ hlim=>?_⟩⟩
 ·by_cases h:qz (ρ 0).i (ρ 1).i (ρ 2).i (ρ 3).i (ρ 6).i = true
  ·rw [if_pos h] at he; exact absurd he hne
  ·rw [if_neg h] at he; exact ⟨he.symm,by simpa using h⟩
 ·have hok:qz (ρ 0).i (ρ 1).i (ρ 2).i (ρ 3).i (ρ 6).i = true:=by
   by_cases h:qz (ρ 0).i (ρ 1).i (ρ 2).i (ρ 3).i (ρ 6).i = true
   ·exact h
   ·rw [if_neg h] at he; omega
  have hb:=hok
  simp [qz,qbe] at hb
  obtain ⟨⟨b1,b2,b3,b4⟩,b5,b6,b7⟩:=hb
  have hl2:lim.i = 39 + 32 * (ρ 2).i:=by
   rw [hlim,qcP (by omega) (by omega),add64 (by omega) (by omega)]; omega
  clear hlim
  simp only [qiR,qA1]
  have hman:List.drop 4 (qg [([.int .i64 (ρ 0).i,.int .i64 (ρ 1).i,.int .i64 (ρ 2).i,.int .i64 (ρ 3).i] ++ (qeG (qa (ρ 4).d) ++ [.slice (qm (ρ 5).r 0) (ρ 6).i.toNat (ρ 7).i.toNat]):List Value)] 36) = qg (ρ 4).d 32:=rfl
  have hone:qao [([.int .i64 (ρ 0).i,.int .i64 (ρ 1).i,.int .i64 (ρ 2).i,.int .i64 (ρ 3).i] ++ (qeG (qa (ρ 4).d) ++ [.slice (qm (ρ 5).r 0) (ρ 6).i.toNat (ρ 7).i.toNat]):List Value)] 37:=⟨_,rfl,by simp [qeG]⟩
  have hlen:∀ {l n c:Int} {d:qd},wOk l n c d->n = ((bI d).length:Int):=fun h=>by rw [bI_len]; exact h.2.2.1
  refine ⟨⟨by omega,by omega,rfl,by omega,by intro r hr; cases hr⟩,fun f1 _ n1 _ c1 _ d1 _ w1 g1=>?_⟩
  obtain ⟨y1,x1⟩:=qf1 g1 (by rw [hl2]; simp [bI,qaO]; omega)
  have L1:(bI d1.d).length = 2:=by rw [x1]; simp [bI,qaO]
  have q1:=hlen w1
  refine ⟨⟨w1,by omega,by omega,by omega⟩,fun f2 _ n2 _ c2 _ d2 _ w2 g2=>?_⟩
  rw [y1] at g2
  obtain ⟨y2,x2⟩:=qf1 g2 (by rw [hl2,L1,qaO]; omega)
  have L2:(bI d2.d).length = 3:=by rw [x2,List.length_append,L1,qaO]
  have q2:=hlen w2
  refine ⟨⟨w2,by omega,by omega,by omega⟩,fun f3 _ n3 _ c3 _ d3 _ w3 g3=>?_⟩
  rw [y2] at g3
  obtain ⟨y3,x3⟩:=qf1 g3 (by rw [hl2,L2,qaO]; omega)
  have L3:(bI d3.d).length = 4:=by rw [x3,List.length_append,L2,qaO]
  have q3:=hlen w3
  refine ⟨⟨w3,by omega,by omega,by omega⟩,fun f4 _ n4 _ c4 _ d4 _ w4 g4=>?_⟩
  rw [y3] at g4
  obtain ⟨y4,x4⟩:=qf1 g4 (by rw [hl2,L3,qaO]; omega)
  have L4:(bI d4.d).length = 5:=by rw [x4,List.length_append,L3,qaO]
  have q4:=hlen w4
  refine ⟨⟨w4,by omega,by omega,by omega⟩,fun f5 _ n5 _ c5 _ d5 _ w5 g5=>?_⟩
  rw [y4] at g5
  obtain ⟨y5,x5⟩:=qf1 g5 (by rw [hl2,L4,qaO]; omega)
  have L5:(bI d5.d).length = 7:=by rw [x5,List.length_append,L4,qaO]
  have q5:=hlen w5
  refine ⟨⟨w5,by omega,hone,?_⟩,fun f6 _ n6 _ c6 _ d6 _ w6 g6=>?_⟩
  ·have:=hman
   exact this ▸ ho
  have g6':(f6.b,bI d6.d) = qfL lim.i f5.b (bI d5.d) (qg (ρ 4).d 32):=g6
  rw [y5] at g6'
  obtain ⟨y6,x6⟩:=qf1 g6' (by rw [hl2,L5,qdx]; omega)
  have hhead:bI d6.d = qaP (ρ 0).i (ρ 1).i (ρ 2).i (ρ 3).i (qg (ρ 4).d 32):=by
   rw [x6,x5,x4,x3,x2,x1]
   simp [qaP,bI,List.append_assoc]
  refine ⟨l0,⟨hok,l0,hl2,y6,w6,hhead⟩,fun lim2 _ f _ n _ c _ d _ t _ _ t0 t1 z1 z2 z3 z4=>⟨fun hlt=>?_,fun hge=>?_⟩⟩
  ·obtain ⟨T,hT⟩:∃ T:Nat,t.i = T:=⟨t.i.toNat,by omega⟩
   have m1:qe .add .i64 t.i 1 = ((T + 1:Nat):Int):=by rw [add64 (by omega) (by omega)]; omega
   have hTl:T < (ρ 8).d.length:=by omega
   have hrow:=q9o hTl
   have hnl:n.i = 39 + 32 * t.i:=by
    have h1:=hlen z3
    rw [z4,List.length_append] at h1
    have h2:∀ (k:Nat),k <= (ρ 8).d.length->((dgs (ρ 8).d).take k).flatten.length = 32 * k:=fun k=>by
     induction k with
     | zero=>intro _; simp
     | succ k ih=>intro hk; rw [qwn (by omega),List.length_append,ih (by omega)]; simp [qhs]; omega
    rw [h2 _ (by omega)] at h1
    have h3:(qaP (ρ 0).i (ρ 1).i (ρ 2).i (ρ 3).i (qg (ρ 4).d 32)).length = 39:=by simp [qaP,qaO,qdx]
    omega
   rw [hT] at z4 hnl ⊢
   rw [<- hT,m1,hT]
   refine ⟨by omega,by omega,⟨z3,by omega,⟨_,rfl,rfl⟩,?_⟩,fun f7 _ n7 _ c7 _ d7 _ w7 g7=>?_⟩
   ·have h1:qL (qhs (ρ 8).d[T]):=(hd _ (List.getElem_mem hTl)).2
    rw [<- hrow] at h1
    exact h1
   ·have g7':(f7.b,bI d7.d) = qfL lim2.i f.b (bI d.d) (qg [qeG (qb (ρ 8).d T)] 32):=g7
    rw [z2,hrow] at g7'
    have hbl:(qhs (ρ 8).d[T]).length = 32:=by simp [qhs]
    obtain ⟨y7,x7⟩:=qf1 g7' (by rw [<- hlen z3,hbl]; omega)
    refine ⟨⟨hok,by omega,by omega,z1,y7,w7,?_⟩,by omega⟩
    rw [x7,z4]
    simp only [Int.toNat_natCast]
    rw [qwn hTl,List.append_assoc]
  ·have ht:t.i.toNat = (ρ 8).d.length:=by omega
   rw [ht] at z4
   rw [List.take_of_length_le (by simp [dgs])] at z4
   refine ⟨⟨z3,?_⟩,z2,fun e _ _ he=>⟨hok,by rw [he]; exact z3.2.2.1,by rw [he]; exact z3.2.2.2.2,by rw [he]; exact z4⟩⟩
   have:=z3.2.2.2.1
   omega
end Go.Proofs

set_option linter.unusedSimpArgs false
set_option linter.unusedVariables false
namespace Go.Proofs
open Go Go.Eng
theorem qgz (m:List Int):qL (sha m):=fun x hx=>by
 obtain ⟨j,_,rfl⟩:=List.mem_map.1 hx
 omega
theorem q0O {f:Nat->List Int} {n:Nat}:(qdE f n).length = n:=by simp [qdE]
theorem qpH {g full:List Int} {k l i:Nat}:∀ j,(qcy g full k l i j).length = l
 | 0=>by simp [qcy]
 | j + 1=>by rw [qcy,qbP,qpH j]
theorem q65 {k total:Nat} {data:List Int} {i:Nat}:(qdS k total data i).length = qA k data.length:=qpH k
theorem q6v {d:qd} {r:List Value}:dgs (d ++ [r]) = dgs d ++ [qhs r]:=by simp [dgs]
theorem qyp {f:Nat->List Int} {n:Nat}:qdE f (n + 1) = qdE f n ++ [sha (qba n ++ f n)]:=by simp [qdE,List.range_succ]
theorem q8C {d:qd}:qhs (qeG (qa d)) = qg d 32:=rfl
set_option maxRecDepth 20000 in
set_option maxHeartbeats 1600000 in
theorem qze:qgI.ok Tryz.prog:=qs5 (by simp [qtw,qyJ,qhj,qkn]) fun ρ hg hp=>by
 obtain ⟨hf,hl,hlc,hB,⟨hGr,hGd⟩,htop⟩:=hp
 simp (config:={ maxSteps:=2000000 }) [qvd,qgI,q2a,qce,qcq,qah,qaB,gOk,qhJ]
 have hnn:=qbT hf
 refine fun u _=>⟨fun h=>absurd h hnn.1,fun _ b _ hb=>⟨fun hz=>⟨hf,by rw [<- hb]; exact hz⟩,fun hz=>?_⟩⟩
 rw [hz] at hb
 have hs3:=hb.symm
 have hs3':=hs3
 simp [qbe] at hs3'
 obtain ⟨b1,b2,b3,b4⟩:=hs3'
 have hsB:qT (ρ 2).i (ρ 4).i = true:=by simp [qT]; omega
 have hsz:qT (ρ 2).i (ρ 4).i = false->False:=fun h=>by rw [hsB] at h; cases h
 refine ⟨⟨hf,hl,hB,htop⟩,fun e _ f _ hf2 he=>⟨fun hne=>⟨hf2,?_⟩,fun hz2=>?_⟩,fun _ _ _ _ f _ P _ ab _ hf2 _ hle hPl hE=>⟨by omega,⟨⟨by omega,hlc,by omega,by omega,hB⟩,hGr,hGd⟩,fun o _ ho _ _=>⟨by omega,⟨hf2,hs3,hle,by omega,hPl,hE,?_,?_,?_⟩,fun _ _ _ _ _ _ o2 _ _ _ t _ _ _ Ds _ P2 _ _ _ f2 _ ab2 _ hf3 _ _ t0 t1 hPl2 hE2 ho2 hDl hDo hDm=>⟨fun hlt=>?_,fun hge=>?_⟩⟩⟩⟩
 ·rcases he with ⟨h,_⟩ | ⟨_,h1,h2⟩
  ·exact (hsz h).elim
  ·exact .inr ⟨hs3,h1,h2⟩
 ·rcases he with ⟨h,_⟩ | ⟨_,h1,h2⟩
  ·exact (hsz h).elim
  ·omega
 ·rw [qhV hl] at ho
  exact ho
 ·intro r hr; cases hr
 ·rfl
 ·obtain ⟨T,hT⟩:∃ T:Nat,t.i = T:=⟨t.i.toNat,by omega⟩
  have m1:qe .add .i64 t.i 1 = ((T + 1:Nat):Int):=by rw [add64 (by omega) (by omega)]; omega
  obtain ⟨v,d,e1,e2,e3,e4⟩:=hE2 T (by omega)
  have hcv:qF P2.d t.i 1 = v:=by rw [hT]; simp [qF,e1]
  have hci:qb P2.d t.i 0 = (T:Int):=by rw [hT]; simp [qb,qF,e1,qag]
  rw [m1,hcv,hci]
  have hdl:d.length <= (ρ 8).d.length:=by
   have h1:=congrArg List.length e3
   rw [bI_len,q65,bI_len] at h1
   have:=qgS (k:=(ρ 2).i.toNat) (n:=(ρ 8).d.length) (by omega)
   omega
  refine ⟨by omega,by omega,fun _ _=>⟨d,e2,fun r0 _ c1 _ hv hcl=>⟨⟨hcl,by omega,e4,hGr,hGd⟩,fun g _ hg2 _ _=>⟨by omega,by omega,fun _ _ _ _ ab3 _ hst=>⟨by omega,⟨hf3,hs3,hle,by omega,by omega,hPl2,?_,ho2,by omega,?_,?_⟩,by omega⟩⟩⟩⟩⟩
  ·obtain ⟨hb2,lb,db⟩:=qbQ hst (n:=32) (t:=2) (by simp)
   exact qkZ hE2 (Hp.le_trans (by simpa using db) lb)
  ·intro r hr
   rcases List.mem_append.1 hr with hr | hr
   ·exact hDo r hr
   ·obtain rfl:=List.mem_singleton.1 hr
    refine ⟨rfl,?_⟩
    have:qL (qg g.d 32):=by rw [hg2]; exact qgz _
    exact this
  ·have hh:dgs (Ds.d ++ [qeG (qa g.d)]) = qdE (qdS (ρ 2).i.toNat (ρ 4).i.toNat (bI (ρ 8).d)) (T + 1):=by
    rw [q6v,q8C,hg2,qhV rfl,e3,hDm,hT,Int.toNat_natCast,qyp]
   exact hh
 ·have ht:t.i = (ρ 4).i:=by omega
  refine fun ab3 _ hst=>⟨by omega,hf3,hs3,hle,hPl2,?_,ho2,hDo,by rw [hDm,ht]⟩
  obtain ⟨hb2,lb,db⟩:=qbQ hst (n:=32) (t:=2) (by simp)
  exact qkZ hE2 (Hp.le_trans (by simpa using db) lb)
end Go.Proofs

set_option linter.unusedSimpArgs false
set_option linter.unusedVariables false
namespace Go.Proofs
open Go Go.Eng
set_option maxRecDepth 20000
end Go.Proofs

set_option linter.unusedSimpArgs false
set_option linter.unusedVariables false
namespace Go.Eng
open Go Go.Proofs
end Go.Eng

set_option linter.unusedSimpArgs false
set_option linter.unusedVariables false
set_option maxRecDepth 100000
namespace Go.Proofs
open Go Go.Eng

end Go.Proofs

set_option linter.unusedSimpArgs false
set_option linter.unusedVariables false
namespace Go.Proofs
open Go Go.Eng
set_option maxRecDepth 20000
end Go.Proofs

set_option linter.unusedSimpArgs false
set_option linter.unusedVariables false
namespace Go.Proofs
open Go Go.Eng
set_option maxRecDepth 20000
end Go.Proofs

set_option linter.unusedSimpArgs false
set_option linter.unusedVariables false
namespace Go.Eng
open Go Go.Proofs
end Go.Eng

set_option linter.unusedSimpArgs false
set_option linter.unusedVariables false
set_option maxRecDepth 100000
namespace Go.Proofs
open Go Go.Eng

end Go.Proofs

set_option linter.unusedSimpArgs false
set_option linter.unusedVariables false
namespace Go.Proofs
open Go Go.Eng
set_option maxRecDepth 20000
end Go.Proofs

set_option linter.unusedSimpArgs false
set_option linter.unusedVariables false
namespace Go.Eng
open Go Go.Proofs
end Go.Eng

set_option linter.unusedSimpArgs false
set_option linter.unusedVariables false
set_option maxRecDepth 100000
namespace Go.Proofs
open Go Go.Eng

end Go.Proofs

set_option linter.unusedSimpArgs false
set_option linter.unusedVariables false
namespace Go.Proofs
open Go Go.Eng
set_option maxRecDepth 20000
theorem qro {D:qd}:(dgs D).length = D.length:=by simp [dgs]
end Go.Proofs

set_option linter.unusedSimpArgs false
set_option linter.unusedVariables false
namespace Go.Proofs
open Go Go.Eng
set_option maxRecDepth 20000
end Go.Proofs

set_option linter.unusedSimpArgs false
set_option linter.unusedVariables false
namespace Go.Eng
open Go Go.Proofs
def qk1 (ρ:Env) (r:Nat):Prop:=qbD (ρ r).i/\qbD (ρ (r + 1)).i/\qbD (ρ (r + 2)).i/\qbD (ρ (r + 3)).i/\qL (qg (ρ (r + 4)).d 32)/\(ρ (r + 6)).i = (ρ (r + 8)).d.length/\(ρ (r + 6)).i <= 4398046510976/\qcC (ρ (r + 8)).d
def qvh (ρ:Env):List Int:=qaP (ρ 0).i (ρ 1).i (ρ 2).i (ρ 3).i (qg (ρ 4).d 32) ++ (dgs (ρ 8).d).flatten
def qr9 (ρ:Env):Bool:=qz (ρ 0).i (ρ 1).i (ρ 2).i (ρ 3).i (ρ 6).i
def qul (ρ:Env):Prop:=(ρ 6).i = (ρ 8).d.length/\qL (qg (ρ 4).d 32)/\qcC (ρ 8).d
def qlZ:List Alt:=[
 { k:=2,ret:=.tup [(true,qaG .u8 12 32),qbk (.var 13)],heap:=[],post:=fun ρ=>(qr9 ρ = false/\(ρ 13).i = 2/\qg (ρ 12).d 32 = List.replicate 32 0)∨(qr9 ρ = true/\(ρ 13).i = 0/\qg (ρ 12).d 32 = sha (qvh ρ)) }]
def idC:Ctr:={ fn := 44,nv:=12,ip:=[gIp 10,(1005,9)],args:=[qi2],heap:=[],ro:=[qbX 5 8 9,gHp 10 11],pre:=fun ρ=>qul ρ/\gOk ρ 10 11 gR,alts:=qlZ }
end Go.Eng

set_option linter.unusedSimpArgs false
set_option linter.unusedVariables false
set_option maxRecDepth 100000
namespace Go.Proofs
open Go Go.Eng

end Go.Proofs

set_option linter.unusedSimpArgs false
set_option linter.unusedVariables false
namespace Go.Proofs
open Go Go.Eng
set_option maxRecDepth 20000
theorem qcV {l:List (List Int)} (h:∀ x ∈ l,x.length = 32):l.flatten.length = 32 * l.length:=by
 induction l with
 | nil=>rfl
 | cons x r ih =>
  rw [List.flatten_cons,List.length_append,h x (List.mem_cons_self ..),ih (fun y hy=>h y (List.mem_cons_of_mem _ hy)),List.length_cons]; omega
theorem qyO {l:List (List Int)} (h:∀ x ∈ l,x.length = 32):∀ {j:Nat} (hj:j < l.length),(l.flatten.drop (32 * j)).take 32 = l[j]:=by
 induction l with
 | nil=>intro j hj; simp at hj
 | cons x r ih =>
  intro j hj
  have hx:=h x (List.mem_cons_self ..)
  cases j with
  | zero=>simp [List.take_left' hx]
  | succ j =>
   rw [List.flatten_cons,show 32 * (j + 1) = x.length + 32 * j by omega,List.drop_length_add_append]
   exact ih (fun y hy=>h y (List.mem_cons_of_mem _ hy)) (by simpa using hj)
theorem qAv {D:qd}:∀ x ∈ dgs D,x.length = 32:=fun x hx=>by
 obtain ⟨r,_,rfl⟩:=List.mem_map.1 hx
 simp [qhs]
end Go.Proofs

set_option linter.unusedSimpArgs false
set_option linter.unusedVariables false
namespace Go.Proofs
open Go Go.Eng
def qnz (d:qd) (i:Int):List Int:=(List.range 32).map fun k=>qb d i k
@[simp high] theorem qBP (d:qd):qg [[.int .u8 (qa d 0),.int .u8 (qa d 1),.int .u8 (qa d 2),.int .u8 (qa d 3),.int .u8 (qa d 4),.int .u8 (qa d 5),.int .u8 (qa d 6),.int .u8 (qa d 7),.int .u8 (qa d 8),.int .u8 (qa d 9),.int .u8 (qa d 10),.int .u8 (qa d 11),.int .u8 (qa d 12),.int .u8 (qa d 13),.int .u8 (qa d 14),.int .u8 (qa d 15),.int .u8 (qa d 16),.int .u8 (qa d 17),.int .u8 (qa d 18),.int .u8 (qa d 19),.int .u8 (qa d 20),.int .u8 (qa d 21),.int .u8 (qa d 22),.int .u8 (qa d 23),.int .u8 (qa d 24),.int .u8 (qa d 25),.int .u8 (qa d 26),.int .u8 (qa d 27),.int .u8 (qa d 28),.int .u8 (qa d 29),.int .u8 (qa d 30),.int .u8 (qa d 31)]] 32 = qg d 32:=rfl
@[simp high] theorem qBQ (d:qd) (i:Int):qg [[.int .u8 (qb d i 0),.int .u8 (qb d i 1),.int .u8 (qb d i 2),.int .u8 (qb d i 3),.int .u8 (qb d i 4),.int .u8 (qb d i 5),.int .u8 (qb d i 6),.int .u8 (qb d i 7),.int .u8 (qb d i 8),.int .u8 (qb d i 9),.int .u8 (qb d i 10),.int .u8 (qb d i 11),.int .u8 (qb d i 12),.int .u8 (qb d i 13),.int .u8 (qb d i 14),.int .u8 (qb d i 15),.int .u8 (qb d i 16),.int .u8 (qb d i 17),.int .u8 (qb d i 18),.int .u8 (qb d i 19),.int .u8 (qb d i 20),.int .u8 (qb d i 21),.int .u8 (qb d i 22),.int .u8 (qb d i 23),.int .u8 (qb d i 24),.int .u8 (qb d i 25),.int .u8 (qb d i 26),.int .u8 (qb d i 27),.int .u8 (qb d i 28),.int .u8 (qb d i 29),.int .u8 (qb d i 30),.int .u8 (qb d i 31)]] 32 = qnz d i:=rfl
@[simp high] theorem qBM (d:qd):([.int .u8 (qa d 0),.int .u8 (qa d 1),.int .u8 (qa d 2),.int .u8 (qa d 3),.int .u8 (qa d 4),.int .u8 (qa d 5),.int .u8 (qa d 6),.int .u8 (qa d 7),.int .u8 (qa d 8),.int .u8 (qa d 9),.int .u8 (qa d 10),.int .u8 (qa d 11),.int .u8 (qa d 12),.int .u8 (qa d 13),.int .u8 (qa d 14),.int .u8 (qa d 15),.int .u8 (qa d 16),.int .u8 (qa d 17),.int .u8 (qa d 18),.int .u8 (qa d 19),.int .u8 (qa d 20),.int .u8 (qa d 21),.int .u8 (qa d 22),.int .u8 (qa d 23),.int .u8 (qa d 24),.int .u8 (qa d 25),.int .u8 (qa d 26),.int .u8 (qa d 27),.int .u8 (qa d 28),.int .u8 (qa d 29),.int .u8 (qa d 30),.int .u8 (qa d 31)]:List Value).map qag = qg d 32:=rfl
@[simp high] theorem qBR (d:qd) (i:Int):([.int .u8 (qb d i 0),.int .u8 (qb d i 1),.int .u8 (qb d i 2),.int .u8 (qb d i 3),.int .u8 (qb d i 4),.int .u8 (qb d i 5),.int .u8 (qb d i 6),.int .u8 (qb d i 7),.int .u8 (qb d i 8),.int .u8 (qb d i 9),.int .u8 (qb d i 10),.int .u8 (qb d i 11),.int .u8 (qb d i 12),.int .u8 (qb d i 13),.int .u8 (qb d i 14),.int .u8 (qb d i 15),.int .u8 (qb d i 16),.int .u8 (qb d i 17),.int .u8 (qb d i 18),.int .u8 (qb d i 19),.int .u8 (qb d i 20),.int .u8 (qb d i 21),.int .u8 (qb d i 22),.int .u8 (qb d i 23),.int .u8 (qb d i 24),.int .u8 (qb d i 25),.int .u8 (qb d i 26),.int .u8 (qb d i 27),.int .u8 (qb d i 28),.int .u8 (qb d i 29),.int .u8 (qb d i 30),.int .u8 (qb d i 31)]:List Value).map qag = qnz d i:=rfl
@[simp high] theorem qBN:qg [[.int .u8 0,.int .u8 0,.int .u8 0,.int .u8 0,.int .u8 0,.int .u8 0,.int .u8 0,.int .u8 0,.int .u8 0,.int .u8 0,.int .u8 0,.int .u8 0,.int .u8 0,.int .u8 0,.int .u8 0,.int .u8 0,.int .u8 0,.int .u8 0,.int .u8 0,.int .u8 0,.int .u8 0,.int .u8 0,.int .u8 0,.int .u8 0,.int .u8 0,.int .u8 0,.int .u8 0,.int .u8 0,.int .u8 0,.int .u8 0,.int .u8 0,.int .u8 0]] 32 = List.replicate 32 0:=rfl
@[simp high] theorem qBO:([.int .u8 0,.int .u8 0,.int .u8 0,.int .u8 0,.int .u8 0,.int .u8 0,.int .u8 0,.int .u8 0,.int .u8 0,.int .u8 0,.int .u8 0,.int .u8 0,.int .u8 0,.int .u8 0,.int .u8 0,.int .u8 0,.int .u8 0,.int .u8 0,.int .u8 0,.int .u8 0,.int .u8 0,.int .u8 0,.int .u8 0,.int .u8 0,.int .u8 0,.int .u8 0,.int .u8 0,.int .u8 0,.int .u8 0,.int .u8 0,.int .u8 0,.int .u8 0]:List Value).map qag = List.replicate 32 0:=rfl
theorem qsI {d:qd} {i:Int} (h0:0 <= i) (h1:i < d.length):qnz d i = (dgs d).getD i.toNat []:=by
 have hl:i.toNat < d.length:=by omega
 have h2:(dgs d).getD i.toNat [] = qhs d[i.toNat]:=by simp [dgs,hl]
 rw [h2]
 refine List.map_congr_left fun k hk=>?_
 simp [qb,qF,qb6,hl]
end Go.Proofs

set_option linter.unusedSimpArgs false
set_option linter.unusedVariables false
namespace Go.Eng
open Go

def qBq (x:Int):Prop:=0 <= x/\x < 256
end Go.Eng

set_option linter.unusedSimpArgs false
set_option linter.unusedVariables false
namespace Go.Eng
open Go Go.Proofs
def qfz (r:Nat):SV:=.agg [.vint .i64 (.var r),.vslice (r + 1) (.lit 0) (.var (r + 2)) (.var (r + 3)) 1]
def qnu (r:Nat):SH:=bHp (r + 1) (r + 4) (r + 5)
def qeO (ρ:Env) (r:Nat):Prop:=(ρ (r + 2)).i = (ρ (r + 4)).d.length/\(ρ (r + 2)).i <= (ρ (r + 3)).i/\(ρ (r + 2)).i <= 100000000/\qn (ρ (r + 4)).d
def qdi (k s:Int):Int:=(s + k - 1).tdiv k
def qcg (k n t s l:Int) (D:List (List Int)) (i:Int) (m:List Int):Int:=if qz k n t s l = false then 2 else if i < 0∨t <= i then 2 else if (m.length:Int) ≠ qdi k s then 10 else if sha (qba i ++ m) ≠ D.getD i.toNat [] then 20 else 0
def qqM (ρ:Env):Prop:=qbD (ρ 0).i/\qbD (ρ 3).i/\(ρ 6).i = (ρ 8).d.length/\qcC (ρ 8).d/\qeO ρ 10
def qkg:List Alt:=[{ k:=1,ret:=iv .i64 (.var 18),heap:=[],post:=fun ρ=>(ρ 18).i = qcg (ρ 0).i (ρ 1).i (ρ 2).i (ρ 3).i (ρ 6).i (dgs (ρ 8).d) (ρ 10).i (bI (ρ 14).d) }]
def qbb:Ctr:={ fn := 60,nv:=18,ip:=[gIp 16],args:=[qi2,qfz 10],heap:=[],ro:=[qbX 5 8 9,qnu 10,gHp 16 17],pre:=fun ρ=>qqM ρ/\gOk ρ 16 17 gR,alts:=qkg }
end Go.Eng

set_option linter.unusedSimpArgs false
set_option linter.unusedVariables false
set_option maxRecDepth 100000
namespace Go.Proofs
open Go Go.Eng

@[simp] def qvc:Sg:=sg 0 [bv 9 9,bv 8 8,bv 7 7,bv 6 6,bg 5 5,bv 3 3,bv 2 2,bv 1 1,bv 0 0,bt 4 (r8 4)]
def q5o:Out:=(.fresh 12 (.fresh 13 (.pre 0 qvc (.both (.post 0 0 qvc 14 (.ret 0 (sg 12 [bt 13 (.lit 2),bt 12 z8]))) (.both (.fresh 14 (.fresh 15 (.fresh 16 (.fresh 17 (.post 0 1 qvc 14 (.know (.cmp .leq (.dlen (.var 17)) (.var 16)) (.pre 1 (sg 0 [bv 7 11,bv 5 16,bv 4 17,bv 3 16,bv 2 15,bt 1 (.lit 0),bg 0 14,bg 6 10]) (.both (.fresh 18 (.post 1 0 (sg 0 [bv 7 11,bv 5 16,bv 4 17,bv 3 16,bv 2 15,bt 1 (.lit 0),bg 0 14,bg 6 10]) 18 (.ret 0 (sg 12 [bt 13 (.lit 0),bt 12 (r8 18)])))) .top)))))))) .top)))))
theorem q9a:qj ⟨Tryz.prog,idC,[qdI,qah],[]⟩ 100000 Tryz.f44 = q5o:=by kernel_rfl
theorem qBw (hd:∀ c ∈ ([qdI,qah]:List Ctr),c.ok Tryz.prog) (h:∀ ρ:Env,ρ.good->(idC).pre ρ->q5o.den ⟨Tryz.prog,idC,[qdI,qah],[]⟩ ρ):(idC).ok Tryz.prog :=
 qf Tryz.func44 (fun a w=>Tryz.call44 a w) hd 100000 (fun ρ hg hp=>by rw [q9a]; exact h ρ hg hp)
end Go.Proofs

set_option linter.unusedSimpArgs false
set_option linter.unusedVariables false
set_option maxRecDepth 100000
namespace Go.Proofs
open Go Go.Eng
theorem q9c:∀ i:Fin 255,qnl.getD (qir.getD i.val 0).toNat 0 = i.val:=by decide +kernel
theorem q9p:∀ a:Fin 256,a.val ≠ 0->qir.getD (qnl.getD a.val 0).toNat 0 = a.val:=by decide +kernel
theorem q7R:∀ i:Fin 255,qir.getD (i.val + 255) 0 = qir.getD i.val 0:=by decide +kernel
end Go.Proofs

set_option linter.unusedSimpArgs false
set_option linter.unusedVariables false
namespace Go.Proofs
open Go Go.Eng

abbrev F:=BitVec 8
def toF (x:Int):F:=BitVec.ofInt 8 x
def ofF (x:F):Int:=(x.toNat:Nat)
def isB (x:Int):Prop:=0 <= x/\x < 256
theorem qjK {x:F}:isB (ofF x):=⟨Int.natCast_nonneg _,by have:=x.isLt; unfold ofF; omega⟩
theorem qkj {x:F}:toF (ofF x) = x:=by
 unfold toF ofF
 apply BitVec.eq_of_toNat_eq
 rw [BitVec.toNat_ofInt]
 have:=x.isLt
 omega
theorem qsZ {x:Int} (h:isB x):(toF x).toNat = x.toNat:=by
 obtain ⟨h0,h1⟩:=h
 unfold toF
 rw [BitVec.toNat_ofInt]
 omega
theorem qz6 {x:Int} (h:isB x):ofF (toF x) = x:=by
 unfold ofF
 rw [qsZ h]
 obtain ⟨h0,h1⟩:=h
 omega
theorem qrW {x y:Int} (hx:isB x) (hy:isB y) (h:toF x = toF y):x = y:=by rw [<- qz6 hx,<- qz6 hy,h]
theorem qwq:toF 0 = 0:=rfl
theorem qfo {x:Int} (h:isB x):toF x = 0↔x = 0:=⟨fun e=>qrW h ⟨by omega,by omega⟩ e,fun e=>by rw [e]; rfl⟩
theorem q4s {x y:Int}:qhu x y = ofF (toF x ^^^ toF y):=by
 have h:(BitVec.ofInt 8 x ^^^ BitVec.ofInt 8 y).toNat < 256:=(BitVec.ofInt 8 x ^^^ BitVec.ofInt 8 y).isLt
 unfold qhu qe ofF toF
 show IntKind.u8.wrap _ = _
 have hb:IntKind.u8.bits = 8:=rfl
 rw [hb]
 generalize (BitVec.ofInt 8 x ^^^ BitVec.ofInt 8 y).toNat = z at h ⊢
 simp only [IntKind.wrap,IntKind.bits,IntKind.signed]
 simp
 omega
theorem qk5 {x y:Int}:toF (qhu x y) = toF x ^^^ toF y:=by rw [q4s,qkj]

def qb8 (n:Nat):F:=BitVec.ofNat 8 (qir.getD (n % 255) 0).toNat
def qeT (x:F):Nat:=(qnl.getD x.toNat 0).toNat
def qh (x y:F):F:=if x = 0∨y = 0 then 0 else qb8 (qeT x + qeT y)
def qeV (x:F):F:=if x = 0 then 0 else qb8 (255 - qeT x)
theorem qvm {n:Nat}:qb8 (n % 255) = qb8 n:=by unfold qb8; rw [Nat.mod_mod]
theorem qlf {n m:Nat} (h:n % 255 = m % 255):qb8 n = qb8 m:=by rw [<- qvm,h,qvm]
theorem qhA {n:Nat}:(qb8 n).toNat = (qir.getD (n % 255) 0).toNat:=by
 have h:=qgg ⟨n % 255,by omega⟩
 simp only at h
 unfold qb8
 rw [BitVec.toNat_ofNat]
 omega
theorem qn5 {n:Nat}:qb8 n ≠ 0:=fun h=>by
 have h1:=congrArg BitVec.toNat h
 rw [qhA] at h1
 have h2:=qgg ⟨n % 255,by omega⟩
 simp only at h2
 rw [show (0:F).toNat = 0 by rfl] at h1
 omega
theorem qgp {x:F}:qeT x < 255:=by
 have:=qkP ⟨x.toNat,x.isLt⟩
 simp only at this
 unfold qeT
 omega
theorem qiq {x:F} (h:x ≠ 0):qb8 (qeT x) = x:=by
 apply BitVec.eq_of_toNat_eq
 have h0:x.toNat ≠ 0:=fun e=>h (BitVec.eq_of_toNat_eq (by rw [e]; rfl))
 have h1:=q9p ⟨x.toNat,x.isLt⟩ h0
 simp only at h1
 rw [qhA,Nat.mod_eq_of_lt qgp,qeT,h1]
 omega
theorem qv3 {n:Nat}:qeT (qb8 n) = n % 255:=by
 have h:=q9c ⟨n % 255,by omega⟩
 simp only at h
 unfold qeT
 rw [qhA,h]
 omega
theorem qjd:qb8 0 = 1:=by decide
theorem qad {x y:F}:qh x y = qh y x:=by
 unfold qh
 by_cases hx:x = 0
 ·simp [hx]
 ·by_cases hy:y = 0
  ·simp [hy]
  ·rw [if_neg (not_or.2 ⟨hx,hy⟩),if_neg (not_or.2 ⟨hy,hx⟩),Nat.add_comm]
theorem q6 {x:F}:qh x 0 = 0:=by simp [qh]
theorem qB {x:F}:qh 0 x = 0:=by simp [qh]
theorem qz4 {x y:F} (hx:x ≠ 0) (hy:y ≠ 0):qh x y = qb8 (qeT x + qeT y):=by rw [qh,if_neg (not_or.2 ⟨hx,hy⟩)]
theorem qmg {x y:F} (hx:x ≠ 0) (hy:y ≠ 0):qh x y ≠ 0:=by rw [qz4 hx hy]; exact qn5
theorem qwD {x y:F}:qh x y = 0↔x = 0∨y = 0:=⟨fun h=>by
 by_cases hx:x = 0
 ·exact .inl hx
 ·by_cases hy:y = 0
  ·exact .inr hy
  ·exact (qmg hx hy h).elim,fun h=>by rcases h with rfl | rfl; exact qB; exact q6⟩
theorem qeg {n m:Nat}:qh (qb8 n) (qb8 m) = qb8 (n + m):=by
 rw [qz4 qn5 qn5,qv3,qv3]
 exact qlf (by omega)
theorem qbn {x:F}:qh x 1 = x:=by
 by_cases h:x = 0
 ·rw [h,qB]
 ·rw [<- qjd]; conv=>lhs; arg 1; rw [<- qiq h]
  rw [qeg,Nat.add_zero,qiq h]
theorem qiu {x:F}:qh 1 x = x:=by rw [qad,qbn]
theorem qh8 {x:F} (h:x ≠ 0):∃ n,n < 255/\x = qb8 n:=⟨qeT x,qgp,(qiq h).symm⟩
theorem qP {x y z:F}:qh (qh x y) z = qh x (qh y z):=by
 by_cases hx:x = 0
 ·rw [hx,qB,qB,qB]
 by_cases hy:y = 0
 ·rw [hy,q6,qB,q6]
 by_cases hz:z = 0
 ·rw [hz,q6,q6,q6]
 obtain ⟨a,_,rfl⟩:=qh8 hx
 obtain ⟨b,_,rfl⟩:=qh8 hy
 obtain ⟨c,_,rfl⟩:=qh8 hz
 rw [qeg,qeg,qeg,qeg,Nat.add_assoc]
theorem q9m {x:F} (h:x ≠ 0):qeV x ≠ 0:=by rw [qeV,if_neg h]; exact qn5
theorem qiT {x:F} (h:x ≠ 0):qh x (qeV x) = 1:=by
 rw [qeV,if_neg h]
 conv=>lhs; arg 1; rw [<- qiq h]
 have:=qgp (x:=x)
 rw [qeg,<- qjd]
 exact qlf (by omega)
def xt (x:F):F:=x <<< 1 ^^^ (if x.msb then 29#8 else 0#8)
theorem q3q:∀ i:Fin 256,qh (BitVec.ofFin i) 2 = xt (BitVec.ofFin i):=by decide +kernel
theorem qpg {x:F}:qh x 2 = xt x:=q3q x.toFin
theorem q9D {x y:F}:xt (x ^^^ y) = xt x ^^^ xt y:=by
 unfold xt
 rw [BitVec.shiftLeft_xor_distrib,BitVec.msb_xor]
 have h1:∀ a b c:F,a ^^^ b ^^^ c = a ^^^ c ^^^ b:=fun a b c=>by rw [BitVec.xor_assoc,BitVec.xor_comm b c,<- BitVec.xor_assoc]
 cases x.msb <;> cases y.msb
 ·simp
 ·simp [BitVec.xor_assoc]
 ·simp [h1 (x <<< 1) (29#8) (y <<< 1)]
 ·simp only [bne_self_eq_false,Bool.false_eq_true,if_true,if_false,BitVec.xor_zero]
  rw [h1 (x <<< 1) (29#8),BitVec.xor_assoc (x <<< 1),BitVec.xor_assoc (y <<< 1),BitVec.xor_self,BitVec.xor_zero]
theorem qmt {x y:F}:∀ n:Nat,qh (x ^^^ y) (qb8 n) = qh x (qb8 n) ^^^ qh y (qb8 n)
 | 0=>by rw [qjd,qbn,qbn,qbn]
 | n + 1=>by
  have he:qb8 (n + 1) = qh (qb8 n) 2:=by
   have:(2:F) = qb8 1:=by decide
   rw [this,qeg]
  rw [he,<- qP,<- qP,<- qP,qmt n,qpg,qpg,qpg,q9D]
theorem qc0 {x y z:F}:qh (x ^^^ y) z = qh x z ^^^ qh y z:=by
 by_cases hz:z = 0
 ·rw [hz,q6,q6,q6]; rfl
 ·obtain ⟨n,_,rfl⟩:=qh8 hz
  exact qmt n
theorem qio {x y z:F}:qh z (x ^^^ y) = qh z x ^^^ qh z y:=by rw [qad,qc0,qad,qad (x:=y)]

theorem qvv {i:Nat} (h:i < 510):qmz i = ofF (qb8 i):=by
 rw [qzo h,ofF,qhA]
 by_cases hi:i < 255
 ·rw [Nat.mod_eq_of_lt hi]
  have:=qgg ⟨i,h⟩
  simp only at this
  omega
 ·have h1:=q7R ⟨i - 255,by omega⟩
  have h2:=qgg ⟨i,h⟩
  simp only at h1 h2
  rw [show i - 255 + 255 = i by omega] at h1
  rw [show i % 255 = i - 255 by omega,<- h1]
  omega
theorem qp6 {a:Int} (h:isB a):qby a.toNat = (qeT (toF a):Nat):=by
 obtain ⟨h0,h1⟩:=h
 rw [qz7 (by omega),qeT,qsZ ⟨h0,h1⟩]
 have:=qkP ⟨a.toNat,by omega⟩
 simp only at this
 omega
theorem q4n {a b:Int} (ha:isB a) (hb:isB b):qcW a b = ofF (qh (toF a) (toF b)):=by
 unfold qcW qh
 simp only [qfo ha,qfo hb]
 split
 ·rfl
 ·have h1:=qgp (x:=toF a)
  have h2:=qgp (x:=toF b)
  rw [qp6 ha,qp6 hb,qvv (by omega)]
  congr 2
theorem q3B {a:Int} (ha:isB a):qgh a = ofF (qeV (toF a)):=by
 unfold qgh qeV
 simp only [qfo ha]
 split
 ·rfl
 ·have h1:=qgp (x:=toF a)
  rw [qp6 ha,qvv (by omega)]
  congr 2
  omega
theorem q6w {a b:Int} (ha:isB a) (hb:isB b):isB (qcW a b):=by rw [q4n ha hb]; exact qjK
theorem qis {a b:Int} (ha:isB a) (hb:isB b):toF (qcW a b) = qh (toF a) (toF b):=by rw [q4n ha hb,qkj]
theorem q5G {a:Int} (ha:isB a):isB (qgh a):=by rw [q3B ha]; exact qjK
theorem q7r {a:Int} (ha:isB a):toF (qgh a) = qeV (toF a):=by rw [q3B ha,qkj]
theorem q5F {a b:Int}:isB (qhu a b):=by rw [q4s]; exact qjK
def qaN (x:F):Nat->F
 | 0=>1
 | n + 1=>qh (qaN x n) x
theorem qwV {n:Nat}:∀ m,qaN (qb8 n) m = qb8 (n * m)
 | 0=>by rw [Nat.mul_zero]; exact qjd.symm
 | m + 1=>by rw [qaN,qwV m,qeg,Nat.mul_succ]
theorem q2k {m:Nat} (h:0 < m):qaN 0 m = 0:=by
 cases m with
 | zero=>omega
 | succ m=>rw [qaN,q6]
theorem q4t {a e:Int} (ha:isB a) (he:e < 9223372036854775808):qho a e = ofF (qaN (toF a) e.toNat):=by
 unfold qho
 by_cases h0:e <= 0
 ·rw [if_pos h0,show e.toNat = 0 by omega]; rfl
 rw [if_neg h0]
 by_cases h1:a = 0
 ·rw [if_pos h1,h1,qwq,q2k (by omega)]; rfl
 rw [if_neg h1]
 have hx:toF a ≠ 0:=fun h=>h1 ((qfo ha).1 h)
 have hl:=qgp (x:=toF a)
 rw [qp6 ha]
 have e1:e.tmod 255 = ((e.toNat % 255:Nat):Int):=by
  rw [Int.tmod_eq_emod_of_nonneg (by omega)]; omega
 rw [e1,<- Int.natCast_mul,Int.tmod_eq_emod_of_nonneg (by omega),qvv (by omega)]
 congr 1
 conv=>rhs; rw [<- qiq hx,qwV]
 refine qlf ?_
 have:((qeT (toF a) * (e.toNat % 255):Nat):Int) % 255 = ((qeT (toF a) * (e.toNat % 255) % 255:Nat):Int):=by omega
 rw [this,Int.toNat_natCast,Nat.mod_mod,Nat.mul_mod,Nat.mod_mod,<- Nat.mul_mod]
theorem q7d {a e:Int} (ha:isB a) (he:e < 9223372036854775808):isB (qho a e):=by rw [q4t ha he]; exact qjK
end Go.Proofs

set_option linter.unusedSimpArgs false
set_option linter.unusedVariables false
namespace Go.Proofs
open Go Go.Eng

theorem qtO (a b c:F):a ^^^ (b ^^^ c) = b ^^^ (a ^^^ c):=by rw [<- BitVec.xor_assoc,BitVec.xor_comm a b,BitVec.xor_assoc]
theorem qpd (a b c d:F):(a ^^^ b) ^^^ (c ^^^ d) = (a ^^^ c) ^^^ (b ^^^ d):=by rw [BitVec.xor_assoc,BitVec.xor_assoc,qtO b c d]
theorem qfe {a b:F}:a ^^^ b = 0↔a = b:=⟨fun h=>by
 have:a ^^^ b ^^^ b = b:=by rw [h]; simp
 rwa [BitVec.xor_assoc,BitVec.xor_self,BitVec.xor_zero] at this,fun h=>by rw [h]; exact BitVec.xor_self⟩
theorem qae {a:F}:a ^^^ 0 = a:=BitVec.xor_zero
theorem qat {a:F}:0 ^^^ a = a:=BitVec.zero_xor
theorem qa7 {a:F}:a ^^^ a = 0:=BitVec.xor_self
theorem qob {a b:F}:a ^^^ b ^^^ b = a:=by rw [BitVec.xor_assoc,BitVec.xor_self,BitVec.xor_zero]
def qy (f:Nat->F):Nat->F
 | 0=>0
 | n + 1=>qy f n ^^^ f n
theorem ql {f g:Nat->F} {n:Nat} (h:∀ i,i < n->f i = g i):qy f n = qy g n:=by
 induction n with
 | zero=>rfl
 | succ n ih=>rw [qy,qy,ih fun i hi=>h i (by omega),h n (by omega)]
theorem qcE {f:Nat->F} {n:Nat} (h:∀ i,i < n->f i = 0):qy f n = 0:=by
 induction n with
 | zero=>rfl
 | succ n ih=>rw [qy,ih fun i hi=>h i (by omega),h n (by omega),qae]
theorem qg2 {f g:Nat->F} {n:Nat}:qy (fun i=>f i ^^^ g i) n = qy f n ^^^ qy g n:=by
 induction n with
 | zero=>exact qae.symm
 | succ n ih=>rw [qy,qy,qy,ih,qpd]
theorem qd7 {f:Nat->F} {c:F} {n:Nat}:qy (fun i=>qh c (f i)) n = qh c (qy f n):=by
 induction n with
 | zero=>exact q6.symm
 | succ n ih=>rw [qy,qy,ih,qio]
theorem qex {f:Nat->F} {c:F} {n:Nat}:qy (fun i=>qh (f i) c) n = qh (qy f n) c:=by
 rw [qad,<- qd7]
 exact ql fun i _=>qad
theorem qhT {f:Nat->F} {n k:Nat} (hk:k < n) (h:∀ i,i < n->i ≠ k->f i = 0):qy f n = f k:=by
 induction n with
 | zero=>omega
 | succ n ih =>
  rw [qy]
  by_cases hkn:k = n
  ·rw [qcE fun i hi=>h i (by omega) (by omega),hkn,qat]
  ·rw [ih (by omega) fun i hi=>h i (by omega),h n (by omega) (by omega),qae]
theorem qfD {f:Nat->Nat->F} {n m:Nat}:qy (fun i=>qy (fun j=>f i j) m) n = qy (fun j=>qy (fun i=>f i j) n) m:=by
 induction n with
 | zero=>exact (qcE fun _ _=>rfl).symm
 | succ n ih =>
  rw [qy,ih,<- qg2]
  rfl
def del (i j:Nat):F:=if i = j then 1 else 0
theorem qo2 {f:Nat->F} {n k:Nat} (hk:k < n):qy (fun i=>qh (del i k) (f i)) n = f k:=by
 rw [qhT hk fun i hi hik=>by rw [del,if_neg hik,qB],del,if_pos rfl,qiu]
theorem qhe {f:Nat->F} {n k:Nat} (hk:k < n):qy (fun i=>qh (f i) (del i k)) n = f k:=by
 rw [qhT hk fun i hi hik=>by rw [del,if_neg hik,q6],del,if_pos rfl,qbn]

abbrev Mat:=Nat->Nat->F
def spans (r w:Nat) (T:Mat) (v:Nat->F):Prop:=∃ x:Nat->F,∀ j,j < w->v j = qy (fun i=>qh (x i) (T i j)) r
theorem qbr {r w:Nat} {T:Mat} {i:Nat} (hi:i < r):spans r w T (T i):=⟨fun a=>del a i,fun j _=>(qo2 (f:=fun a=>T a j) hi).symm⟩
theorem qcs {r w:Nat} {T:Mat} {v v':Nat->F} (h:spans r w T v) (he:∀ j,j < w->v' j = v j):spans r w T v':=by
 obtain ⟨x,hx⟩:=h
 exact ⟨x,fun j hj=>by rw [he j hj,hx j hj]⟩
theorem qsH {r w:Nat} {T:Mat} {v v':Nat->F} (h:spans r w T v) (h':spans r w T v'):spans r w T (fun j=>v j ^^^ v' j):=by
 obtain ⟨x,hx⟩:=h
 obtain ⟨y,hy⟩:=h'
 refine ⟨fun i=>x i ^^^ y i,fun j hj=>?_⟩
 show v j ^^^ v' j = _
 rw [hx j hj,hy j hj,<- qg2]
 exact ql fun i _=>qc0.symm
theorem qiS {r w:Nat} {T:Mat} {v:Nat->F} {c:F} (h:spans r w T v):spans r w T (fun j=>qh c (v j)):=by
 obtain ⟨x,hx⟩:=h
 refine ⟨fun i=>qh c (x i),fun j hj=>?_⟩
 show qh c (v j) = _
 rw [hx j hj,<- qd7]
 exact ql fun i _=>qP.symm
theorem qgB {r w:Nat} {T T':Mat} {v:Nat->F} (h:spans r w T' v) (hr:∀ i,i < r->spans r w T (T' i)):spans r w T v:=by
 obtain ⟨x,hx⟩:=h
 let y:Nat->Nat->F:=fun i=>if h:i < r then (hr i h).choose else fun _=>0
 have hy:∀ i,i < r->∀ j,j < w->T' i j = qy (fun a=>qh (y i a) (T a j)) r:=fun i hi j hj=>by
  simp only [y,dif_pos hi]
  exact (hr i hi).choose_spec j hj
 refine ⟨fun a=>qy (fun i=>qh (x i) (y i a)) r,fun j hj=>?_⟩
 rw [hx j hj,ql fun i hi=>by rw [hy i hi j hj,<- qd7],qfD]
 refine ql fun a _=>?_
 rw [<- qex]
 exact ql fun i _=>qP.symm
structure Same (r w:Nat) (T T':Mat):Prop where
 to:∀ i,i < r->spans r w T (T' i)
 back:∀ i,i < r->spans r w T' (T i)
theorem Same.refl {r w:Nat} {T:Mat}:Same r w T T:=⟨fun i hi=>qbr hi,fun i hi=>qbr hi⟩
theorem Same.trans {r w:Nat} {T T' T'':Mat} (h:Same r w T T') (h':Same r w T' T''):Same r w T T'' :=
 ⟨fun i hi=>qgB (h'.to i hi) h.to,fun i hi=>qgB (h.back i hi) h'.back⟩
theorem Same.symm {r w:Nat} {T T':Mat} (h:Same r w T T'):Same r w T' T:=⟨h.back,h.to⟩
theorem Same.spans {r w:Nat} {T T':Mat} (h:Same r w T T') {v:Nat->F}:spans r w T v↔Go.Proofs.spans r w T' v:=⟨fun hv=>qgB hv h.back,fun hv=>qgB hv h.to⟩
theorem quN {r w:Nat} {T T':Mat} {i p:Nat} {g:F} (hi:i < r) (hp:p < r) (hip:i ≠ p) (h1:∀ j,j < w->T' i j = T i j ^^^ qh g (T p j)) (h2:∀ a,a < r->a ≠ i->∀ j,j < w->T' a j = T a j):Same r w T T':=by
 refine ⟨fun a ha=>?_,fun a ha=>?_⟩
 ·by_cases hai:a = i
  ·subst hai
   exact qcs (qsH (qbr ha) (qiS (c:=g) (qbr hp))) h1
  ·exact qcs (qbr ha) (h2 a ha hai)
 ·by_cases hai:a = i
  ·subst hai
   refine qcs (qsH (qbr ha) (qiS (c:=g) (qbr hp))) fun j hj=>?_
   rw [h1 j hj,h2 p hp (Ne.symm hip) j hj,qob]
  ·exact qcs (qbr ha) fun j hj=>(h2 a ha hai j hj).symm
theorem q5T {r w:Nat} {T T':Mat} {i:Nat} {g:F} (hi:i < r) (hg:g ≠ 0) (h1:∀ j,j < w->T' i j = qh (T i j) g) (h2:∀ a,a < r->a ≠ i->∀ j,j < w->T' a j = T a j):Same r w T T':=by
 refine ⟨fun a ha=>?_,fun a ha=>?_⟩
 ·by_cases hai:a = i
  ·subst hai
   exact qcs (qiS (c:=g) (qbr ha)) fun j hj=>by rw [h1 j hj,qad]
  ·exact qcs (qbr ha) (h2 a ha hai)
 ·by_cases hai:a = i
  ·subst hai
   refine qcs (qiS (c:=qeV g) (qbr ha)) fun j hj=>?_
   rw [h1 j hj,qad,qP,qiT hg,qbn]
  ·exact qcs (qbr ha) fun j hj=>(h2 a ha hai j hj).symm
def lead (r w:Nat) (T:Mat) (c:Nat):Prop:=∃ v,spans r w T v/\(∀ j,j < c->v j = 0)/\v c ≠ 0
open Classical in
noncomputable def cnt (r w:Nat) (T:Mat):Nat->Nat
 | 0=>0
 | c + 1=>cnt r w T c + if lead r w T c then 1 else 0
theorem Same.lead {r w:Nat} {T T':Mat} (h:Same r w T T') {c:Nat}:lead r w T c↔Go.Proofs.lead r w T' c:=by
 unfold Go.Proofs.lead
 simp only [h.spans]
theorem q2T {r w:Nat} {T:Mat}:∀ c,cnt r w T c <= c
 | 0=>Nat.le_refl _
 | c + 1=>by
  have:=q2T (r:=r) (w:=w) (T:=T) c
  unfold cnt; split <;> omega
theorem quv {r w:Nat} {T:Mat} {c:Nat}:∀ d,cnt r w T c <= cnt r w T (c + d)
 | 0=>Nat.le_refl _
 | d + 1=>by
  have:=quv (r:=r) (w:=w) (T:=T) (c:=c) d
  rw [<- Nat.add_assoc]
  conv=>rhs; unfold cnt
  omega
theorem qig {r w:Nat} {T:Mat} {c:Nat} (h:lead r w T c):cnt r w T (c + 1) = cnt r w T c + 1:=by rw [cnt,if_pos h]
theorem qst {r w:Nat} {T:Mat} {c:Nat} (h:¬ lead r w T c):cnt r w T (c + 1) = cnt r w T c:=by rw [cnt,if_neg h]; rfl
theorem qwd {r w:Nat} {T:Mat} {c c':Nat} (h:lead r w T c) (hlt:c < c'):cnt r w T c < cnt r w T c':=by
 have:=quv (r:=r) (w:=w) (T:=T) (c:=c + 1) (c' - (c + 1))
 rw [show c + 1 + (c' - (c + 1)) = c' by omega,qig h] at this
 omega
theorem q8q {r w:Nat} {T:Mat} {c c':Nat} (h:lead r w T c) (h':lead r w T c') (he:cnt r w T c = cnt r w T c'):c = c':=by
 rcases Nat.lt_trichotomy c c' with h1 | h1 | h1
 ·have:=qwd h h1; omega
 ·exact h1
 ·have:=qwd h' h1; omega
theorem qkk {r w:Nat} {T:Mat}:∀ {c i:Nat},i < cnt r w T c->∃ c',c' < c/\lead r w T c'/\cnt r w T c' = i
 | 0,i,h=>by simp [cnt] at h
 | c + 1,i,h=>by
  by_cases hl:lead r w T c
  ·rw [qig hl] at h
   by_cases hi:i = cnt r w T c
   ·exact ⟨c,by omega,hl,hi.symm⟩
   ·obtain ⟨c',h1,h2,h3⟩:=qkk (r:=r) (w:=w) (T:=T) (c:=c) (i:=i) (by omega)
    exact ⟨c',by omega,h2,h3⟩
  ·rw [qst hl] at h
   obtain ⟨c',h1,h2,h3⟩:=qkk (c:=c) h
   exact ⟨c',by omega,h2,h3⟩
structure Ech (r w:Nat) (T0 T:Mat) (c rank:Nat):Prop where
 same:Same r w T0 T
 num:rank = cnt r w T0 c
 le:rank <= r
 col:∀ c',c' < c->lead r w T0 c'->∀ i,i < r->T i c' = del i (cnt r w T0 c')
 low:∀ i,rank <= i->i < r->∀ c',c' < c->T i c' = 0
theorem q28 {r w:Nat} {T:Mat}:Ech r w T T 0 0:=⟨Same.refl,rfl,Nat.zero_le _,fun c' h=>by omega,fun i _ _ c' h=>by omega⟩
theorem q9r {r w:Nat} {T0 T:Mat} {c rank:Nat} (h:Ech r w T0 T c rank) (hc:c <= w) {v:Nat->F} (hv:spans r w T0 v) (h0:∀ j,j < c->v j = 0) :
  ∃ x:Nat->F,(∀ i,i < rank->x i = 0)/\∀ j,j < w->v j = qy (fun i=>qh (x i) (T i j)) r:=by
 obtain ⟨x,hx⟩:=h.same.spans.1 hv
 refine ⟨x,fun i hi=>?_,hx⟩
 rw [h.num] at hi
 obtain ⟨c',h1,h2,h3⟩:=qkk hi
 have hle:=h.le
 have h4:=hx c' (by omega)
 rw [h0 c' h1,ql fun a ha=>by rw [h.col c' h1 h2 a ha,h3]] at h4
 rw [qhe (f:=x) (by have:=h.num; omega)] at h4
 exact h4.symm
theorem qxq {r w:Nat} {T0 T:Mat} {c rank:Nat} (h:Ech r w T0 T c rank) (hc:c < w) (hz:∀ i,rank <= i->i < r->T i c = 0):Ech r w T0 T (c + 1) rank:=by
 have hn:¬ lead r w T0 c:=fun ⟨v,h1,h2,h3⟩=>by
  obtain ⟨x,hx,he⟩:=q9r h (by omega) h1 h2
  apply h3
  rw [he c hc]
  refine qcE fun i hi=>?_
  by_cases hir:i < rank
  ·rw [hx i hir,qB]
  ·rw [hz i (by omega) hi,q6]
 refine ⟨h.same,by rw [qst hn]; exact h.num,h.le,fun c' hc' hl i hi=>?_,fun i h1 h2 c' hc'=>?_⟩
 ·by_cases he:c' = c
  ·rw [he] at hl; exact (hn hl).elim
  ·exact h.col c' (by omega) hl i hi
 ·by_cases he:c' = c
  ·rw [he]; exact hz i h1 h2
  ·exact h.low i h1 h2 c' (by omega)
theorem q7m {r w:Nat} {T0 T T':Mat} {c rank:Nat} (h:Ech r w T0 T c rank) (hc:c < w) (hr:rank < r) (hs:Same r w T T') (hcol:∀ i,i < r->T' i c = del i rank)
  (hold:∀ c',c' < c->∀ i,i < r->T' i c' = T i c'):Ech r w T0 T' (c + 1) (rank + 1):=by
 have hl:lead r w T0 c:=by
  refine ⟨T' rank,(h.same.trans hs).spans.2 (qbr hr),fun j hj=>?_,?_⟩
  ·rw [hold j hj rank hr]; exact h.low rank (Nat.le_refl _) hr j hj
  ·rw [hcol rank hr,del,if_pos rfl]; decide
 refine ⟨h.same.trans hs,by rw [qig hl,<- h.num],hr,fun c' hc' hl' i hi=>?_,fun i h1 h2 c' hc'=>?_⟩
 ·by_cases he:c' = c
  ·rw [he,hcol i hi,h.num]
  ·rw [hold c' (by omega) i hi]; exact h.col c' (by omega) hl' i hi
 ·by_cases he:c' = c
  ·rw [he,hcol i h2,del,if_neg (by omega)]
  ·rw [hold c' (by omega) i h2]; exact h.low i (by omega) h2 c' (by omega)
theorem qwI {r w:Nat} {T:Mat}:∀ {n:Nat},cnt r w T n = n->∀ c,c < n->lead r w T c/\cnt r w T c = c
 | 0,_,c,h=>by omega
 | n + 1,he,c,h=>by
  by_cases hl:lead r w T n
  ·rw [qig hl] at he
   by_cases hc:c = n
   ·exact ⟨by rw [hc]; exact hl,by rw [hc]; omega⟩
   ·exact qwI (n:=n) (by omega) c (by omega)
  ·rw [qst hl] at he
   have:=q2T (r:=r) (w:=w) (T:=T) n
   omega
theorem qwO {r w:Nat} {T0 T:Mat} {n:Nat} (h:Ech r w T0 T n n):∀ i,i < r->∀ c,c < n->T i c = del i c:=fun i hi c hc=>by
 obtain ⟨h1,h2⟩:=qwI h.num.symm c hc
 rw [h.col c hc h1 i hi,h2]
theorem q6S {r w:Nat} {T0 T:Mat} {n rank:Nat} (h:Ech r w T0 T n rank) (hn:n <= w) (hlt:rank < n):∃ y:Nat->F,(∃ c,c < n/\y c ≠ 0)/\∀ i,i < r->qy (fun j=>qh (T0 i j) (y j)) n = 0:=by
 have hex:∃ c,c < n/\¬ lead r w T0 c:=by
  refine Classical.byContradiction fun hno=>?_
  have hall:∀ c,c < n->lead r w T0 c:=fun c hc=>Classical.byContradiction fun hl=>hno ⟨c,hc,hl⟩
  have:∀ c,c <= n->cnt r w T0 c = c:=fun c=>by
   induction c with
   | zero=>intro _; rfl
   | succ c ih=>intro hc; rw [qig (hall c (by omega)),ih (by omega)]
  have:=this n (Nat.le_refl _)
  have:=h.num
  omega
 obtain ⟨c,hc,hnl⟩:=hex
 let y:Nat->F:=fun j=>open Classical in if j = c then 1 else if lead r w T0 j then T (cnt r w T0 j) c else 0
 have hyc:y c = 1:=by simp [y]
 have hT:∀ i,i < r->qy (fun j=>qh (T i j) (y j)) n = 0:=fun i hi=>by
  have hsplit:qy (fun j=>qh (T i j) (y j)) n = qy (fun j=>qh (if j = c then T i c else 0) 1) n ^^^ qy (fun j=>open Classical in if j ≠ c/\lead r w T0 j then qh (del i (cnt r w T0 j)) (T (cnt r w T0 j) c) else 0) n:=by
   rw [<- qg2]
   refine ql fun j hj=>?_
   by_cases hjc:j = c
   ·subst hjc
    simp only [hyc,qbn,if_true,ne_eq,not_true,false_and,if_false,qae]
   ·simp only [if_neg hjc,qB,qat]
    by_cases hl:lead r w T0 j
    ·rw [if_pos ⟨hjc,hl⟩,h.col j hj hl i hi]; simp only [y,if_neg hjc,if_pos hl]
    ·rw [if_neg fun hh=>hl hh.2]; simp only [y,if_neg hjc,if_neg hl,q6]
  rw [hsplit,qhT hc fun j _ hj=>by rw [if_neg hj,qB],if_pos rfl,qbn]
  by_cases hir:i < rank
  ·rw [h.num] at hir
   obtain ⟨c',h1,h2,h3⟩:=qkk hir
   have hcc:c' ≠ c:=fun e=>hnl (e ▸ h2)
   rw [qhT (k:=c') h1 fun j hj hjc=>?_,if_pos ⟨hcc,h2⟩,h3,del,if_pos rfl,qiu,qa7]
   split
   ·rename_i hh
    rw [del,if_neg,qB]
    intro e
    exact hjc (q8q hh.2 h2 (by rw [h3,e]))
   ·rfl
  ·rw [h.low i (by omega) hi c hc,qat]
   refine qcE fun j hj=>?_
   split
   ·rename_i hh
    rw [del,if_neg,qB]
    have:=qwd hh.2 hj
    have:=h.num
    omega
   ·rfl
 refine ⟨y,⟨c,hc,by rw [hyc]; decide⟩,fun i hi=>?_⟩
 obtain ⟨x,hx⟩:=h.same.back i hi
 rw [ql fun j hj=>by rw [hx j (by omega),<- qex],qfD]
 refine qcE fun a ha=>?_
 rw [ql (g:=fun j=>qh (x a) (qh (T a j) (y j))) fun j _=>qP,qd7,hT a ha,q6]
end Go.Proofs

set_option linter.unusedSimpArgs false
set_option linter.unusedVariables false
namespace Go.Proofs
open Go Go.Eng

def qa0 (x:F):List F->F
 | []=>0
 | c :: l=>qh (qa0 x l) x ^^^ c
theorem qg0 {x:F}:qa0 x [] = 0:=rfl
theorem qhX {x c:F}:qa0 x [c] = c:=by rw [qa0,qg0,qB,qat]
def qjo (r:F):List F->List F
 | []=>[]
 | [_]=>[]
 | _ :: c' :: l=>qa0 r (c' :: l) :: qjo r (c' :: l)
theorem qxc {r:F}:∀ {l:List F},(qjo r l).length = l.length - 1
 | []=>rfl
 | [_]=>rfl
 | _ :: c' :: l=>by simp only [qjo,List.length_cons,qxc (l:=c' :: l)]; omega
theorem qxd {x r:F}:∀ {l:List F},qa0 x l ^^^ qa0 r l = qh (x ^^^ r) (qa0 x (qjo r l))
 | []=>by rw [qjo,qg0,qg0,qa7,q6]
 | [c]=>by rw [qjo,qhX,qhX,qg0,qa7,q6]
 | c :: c' :: l=>by
  have ih:=qxd (x:=x) (r:=r) (l:=c' :: l)
  rw [qjo,show qa0 x (c :: c' :: l) = qh (qa0 x (c' :: l)) x ^^^ c from rfl,show qa0 r (c :: c' :: l) = qh (qa0 r (c' :: l)) r ^^^ c from rfl]
  conv=>rhs; rw [qa0]
  have h1:∀ a b d:F,a ^^^ b = qh (x ^^^ r) d->qh a x ^^^ c ^^^ (qh b r ^^^ c) = qh (x ^^^ r) (qh d x ^^^ b):=fun a b d h=>by
   rw [qpd,qa7,qae,qio (z:=x ^^^ r),<- qP,<- h,qc0,qad (x:=x ^^^ r),qio,<- BitVec.xor_assoc,qob]
  exact h1 _ _ _ ih
theorem qvb {r:F}:∀ {l:List F} {c:F},(∀ y ∈ qjo r (c :: l),y = 0)->∀ y ∈ l,y = 0
 | [],_,_=>by simp
 | c' :: l,c,h=>by
  simp only [qjo,List.mem_cons,forall_eq_or_imp] at h
  have ht:=qvb (l:=l) (c:=c') h.2
  have hh:qa0 r l = 0:=by
   clear h
   induction l with
   | nil=>rfl
   | cons a l ih=>rw [qa0,ih fun y hy=>ht y (List.mem_cons_of_mem _ hy),qB,ht a (List.mem_cons_self ..),qae]
  have h1:=h.1
  rw [qa0,hh,qB,qat] at h1
  intro y hy
  rcases List.mem_cons.1 hy with rfl | hy
  ·exact h1
  ·exact ht y hy
theorem qt3 {x:F}:∀ {l:List F},(∀ y ∈ l,y = 0)->qa0 x l = 0
 | [],_=>rfl
 | a :: l,h=>by rw [qa0,qt3 fun y hy=>h y (List.mem_cons_of_mem _ hy),qB,h a (List.mem_cons_self ..),qae]
def qbA (n:Nat) (xs:Nat->F):Prop:=∀ i j,i < n->j < n->xs i = xs j->i = j
theorem qpB {xs:Nat->F}:∀ {n:Nat} {l:List F},l.length <= n->qbA n xs->(∀ i,i < n->qa0 (xs i) l = 0)->∀ y ∈ l,y = 0
 | 0,l,hl,_,_=>by
  have:l = []:=List.eq_nil_of_length_eq_zero (by omega)
  rw [this]; simp
 | n + 1,[],_,_,_=>by simp
 | n + 1,c :: t,hl,hd,hr=>by
  simp only [List.length_cons] at hl
  have hq:=qpB (n:=n) (l:=qjo (xs n) (c :: t)) (by rw [qxc,List.length_cons]; omega) (fun i j hi hj=>hd i j (by omega) (by omega)) fun i hi=>by
   have h:=qxd (x:=xs i) (r:=xs n) (l:=c :: t)
   rw [hr i (by omega),hr n (by omega),qa7] at h
   rcases qwD.1 h.symm with h1 | h1
   ·have:=hd i n (by omega) (by omega) (qfe.1 h1); omega
   ·exact h1
  have ht:=qvb hq
  have h1:=hr n (by omega)
  rw [qa0,qt3 ht,qB,qat] at h1
  intro y hy
  rcases List.mem_cons.1 hy with rfl | hy
  ·exact h1
  ·exact ht y hy
def q9 (n:Nat) (y:Nat->F) (x:F):F:=qy (fun j=>qh (y j) (qaN x j)) n
theorem qtf {x c:F}:∀ {l:List F},qa0 x (l ++ [c]) = qa0 x l ^^^ qh c (qaN x l.length)
 | []=>by rw [List.nil_append,qhX,qg0,qat,List.length_nil,qaN,qbn]
 | a :: l=>by
  rw [List.cons_append,qa0,qtf (l:=l),qa0,qc0,List.length_cons,qaN,BitVec.xor_assoc,BitVec.xor_assoc,qP,BitVec.xor_comm a]
theorem qmP {y:Nat->F} {x:F}:∀ n,qa0 x ((List.range n).map y) = q9 n y x
 | 0=>rfl
 | n + 1=>by
  rw [List.range_succ,List.map_append,List.map_cons,List.map_nil,qtf,qmP n]
  simp [q9,qy]
theorem qkY {n:Nat} {y:Nat->F} {xs:Nat->F} (hd:qbA n xs) (h:∀ i,i < n->q9 n y (xs i) = 0):∀ j,j < n->y j = 0:=fun j hj=>by
 have:=qpB (l:=(List.range n).map y) (by simp) hd (fun i hi=>by rw [qmP]; exact h i hi) (y j)
 exact this (List.mem_map.2 ⟨j,List.mem_range.2 hj,rfl⟩)
theorem q3G {x:F} {l:List F} {n:Nat} (hl:l.length <= n):qa0 x l = q9 n (fun j=>l.getD j 0) x:=by
 have h1:∀ m,q9 (l.length + m) (fun j=>l.getD j 0) x = q9 l.length (fun j=>l.getD j 0) x:=fun m=>by
  induction m with
  | zero=>rfl
  | succ m ih =>
   rw [<- Nat.add_assoc,q9,qy]
   rw [show qy (fun j=>qh (l.getD j 0) (qaN x j)) (l.length + m) = q9 (l.length + m) (fun j=>l.getD j 0) x from rfl,ih]
   rw [show l.getD (l.length + m) 0 = 0 by rw [List.getD_eq_getElem?_getD,List.getElem?_eq_none (by omega)]; rfl,qB,qae]
 rw [show n = l.length + (n - l.length) by omega,h1,<- qmP]
 congr 1
 apply List.ext_getElem?
 intro j
 by_cases hj:j < l.length
 ·simp [List.getElem?_range hj,List.getD_eq_getElem?_getD,List.getElem?_eq_getElem hj]
 ·simp [hj]

def qdf (f:Nat->F):Nat->F
 | 0=>1
 | n + 1=>qh (qdf f n) (f n)
theorem q7b {f:Nat->F} {n:Nat} (h:∀ i,i < n->f i ≠ 0):qdf f n ≠ 0:=by
 induction n with
 | zero=>exact (by decide:(1:F) ≠ 0)
 | succ n ih=>exact qmg (ih fun i hi=>h i (by omega)) (h n (by omega))
theorem qpK {f:Nat->F} {n k:Nat} (hk:k < n) (h:f k = 0):qdf f n = 0:=by
 induction n with
 | zero=>omega
 | succ n ih =>
  rw [qdf]
  by_cases hkn:k = n
  ·rw [<- hkn,h,q6]
  ·rw [ih (by omega),qB]
def qoZ (r:F):F->List F->List F
 | p,[]=>[p]
 | p,c :: l=>(p ^^^ qh r c) :: qoZ r c l
theorem qvM {r:F}:∀ {p:F} {l:List F},(qoZ r p l).length = l.length + 1
 | _,[]=>rfl
 | _,c :: l=>by simp [qoZ,qvM]
theorem qsE {r x:F}:∀ {p:F} {l:List F},qa0 x (qoZ r p l) = p ^^^ qh (x ^^^ r) (qa0 x l)
 | p,[]=>by rw [qoZ,qhX,qg0,q6,qae]
 | p,c :: l=>by
  rw [qoZ,qa0,qsE,qa0,qc0,qio,BitVec.xor_comm _ (p ^^^ qh r c),BitVec.xor_assoc,qc0 (x:=x) (y:=r) (z:=c),<- qP]
  congr 1
  rw [qad (x:=c) (y:=x),<- BitVec.xor_assoc,BitVec.xor_comm (qh r c),BitVec.xor_comm]
theorem qt6 (xs:Nat->F) (i:Nat):∀ n,∃ l:List F,l.length = (if i < n then n else n + 1)/\∀ x,qa0 x l = qdf (fun m=>if m = i then 1 else x ^^^ xs m) n
 | 0=>⟨[1],by simp,fun x=>by rw [qhX,qdf]⟩
 | n + 1=>by
  obtain ⟨l,h1,h2⟩:=qt6 xs i n
  by_cases hn:n = i
  ·subst hn
   refine ⟨l,by rw [h1]; simp,fun x=>by rw [h2,qdf,if_pos rfl,qbn]⟩
  ·refine ⟨qoZ (xs n) 0 l,?_,fun x=>?_⟩
   ·rw [qvM,h1]; split <;> split <;> omega
   ·rw [qsE,h2,qdf,if_neg hn,qat,qad]
def qga (n:Nat) (xs:Nat->F) (x:F) (i:Nat):F:=qh (qdf (fun m=>if m = i then 1 else x ^^^ xs m) n) (qeV (qdf (fun m=>if m = i then 1 else xs i ^^^ xs m) n))
theorem q8Z {n:Nat} {xs:Nat->F} (hd:qbA n xs) {i k:Nat} (hi:i < n) (hk:k < n):qga n xs (xs k) i = del i k:=by
 unfold qga del
 by_cases hik:i = k
 ·subst hik
  rw [if_pos rfl,qiT]
  refine q7b fun m hm=>?_
  split
  ·decide
  ·rename_i hmi
   exact fun h=>hmi (hd i m hi hm (qfe.1 h)).symm
 ·rw [if_neg hik,qpK (k:=k) hk (by rw [if_neg (Ne.symm hik)]; exact qa7),qB]
theorem qll {n:Nat} {xs:Nat->F} (hd:qbA n xs) {y:Nat->F} {x:F}:q9 n y x = qy (fun i=>qh (qga n xs x i) (q9 n y (xs i))) n:=by
 have hex:∀ i,∃ l:Nat->F,i < n->∀ x,q9 n l x = qga n xs x i:=fun i=>by
  obtain ⟨l,h1,h2⟩:=qt6 xs i n
  refine ⟨fun j=>qh (l.getD j 0) (qeV (qdf (fun m=>if m = i then 1 else xs i ^^^ xs m) n)),fun hi x=>?_⟩
  rw [qga,<- h2 x,q3G (n:=n) (by rw [h1,if_pos hi]; exact Nat.le_refl _),q9,q9,<- qex]
  refine ql fun j _=>?_
  rw [qP,qad (x:=qeV _),<- qP]
 let lc:Nat->Nat->F:=fun i=>(hex i).choose
 have hlc:∀ i,i < n->∀ x,q9 n (lc i) x = qga n xs x i:=fun i hi=>(hex i).choose_spec hi
 let S:Nat->F:=fun j=>y j ^^^ qy (fun i=>qh (q9 n y (xs i)) (lc i j)) n
 have hS:∀ x,q9 n S x = q9 n y x ^^^ qy (fun i=>qh (qga n xs x i) (q9 n y (xs i))) n:=fun x=>by
  have h1:q9 n S x = q9 n y x ^^^ qy (fun j=>qy (fun i=>qh (q9 n y (xs i)) (qh (lc i j) (qaN x j))) n) n:=by
   simp only [q9]
   rw [<- qg2]
   refine ql fun j _=>?_
   simp only [S]
   rw [qc0]
   congr 1
   rw [<- qex]
   exact ql fun i _=>qP
  rw [h1,qfD]
  congr 1
  refine ql fun i hi=>?_
  rw [qd7,<- hlc i hi x,qad]
  rfl
 have h0:=qkY (y:=S) hd fun k hk=>by
  rw [hS,ql fun i hi=>by rw [q8Z hd hi hk],qo2 (f:=fun i=>q9 n y (xs i)) hk,qa7]
 have:=hS x
 rw [show q9 n S x = 0 from qcE fun j hj=>by rw [h0 j hj,qB]] at this
 exact qfe.1 this.symm
theorem qqP {n:Nat} {xs:Nat->F} (hd:qbA n xs) {y:Nat->F} (h:∀ i,i < n->qy (fun j=>qh (qaN (xs i) j) (y j)) n = 0):∀ j,j < n->y j = 0 :=
 qkY hd fun i hi=>by
  rw [q9,<- h i hi]
  exact ql fun j _=>qad
end Go.Proofs

set_option linter.unusedSimpArgs false
set_option linter.unusedVariables false
namespace Go.Proofs
open Go Go.Eng

def qw (l:List Int):Prop:=∀ x ∈ l,isB x
theorem qaT {l:List Int} (h:qw l) (i:Nat):isB (l.getD i 0):=by
 rw [List.getD_eq_getElem?_getD]
 by_cases hi:i < l.length
 ·rw [List.getElem?_eq_getElem hi]; exact h _ (List.getElem_mem hi)
 ·rw [List.getElem?_eq_none (by omega)]; exact ⟨by simp,by simp⟩
def q7 (ca:Nat) (l:List Int):Mat:=fun i j=>toF (l.getD (i * ca + j) 0)
def qaa (ca cb:Nat) (a b:List Int):Mat:=fun i j=>if j < ca then q7 ca a i j else q7 cb b i (j - ca)
theorem quZ {i i' ca j:Nat} (hj:j < ca):(i * ca <= i' * ca + j/\i' * ca + j < i * ca + ca)↔i' = i:=by
 constructor
 ·intro ⟨h1,h2⟩
  rcases Nat.lt_trichotomy i' i with h | h | h
  ·have:=Nat.mul_le_mul_right ca (show i' + 1 <= i by omega)
   rw [Nat.add_mul,Nat.one_mul] at this; omega
  ·exact h
  ·have:=Nat.mul_le_mul_right ca (show i + 1 <= i' by omega)
   rw [Nat.add_mul,Nat.one_mul] at this; omega
 ·rintro rfl; omega
theorem qfI {i r ca j:Nat} (hi:i < r) (hj:j < ca):i * ca + j < r * ca:=by
 have:=Nat.mul_le_mul_right ca (show i + 1 <= r by omega)
 rw [Nat.add_mul,Nat.one_mul] at this; omega
theorem qra {i r ca:Nat} (hi:i < r):i * ca + ca <= r * ca:=by
 have:=Nat.mul_le_mul_right ca (show i + 1 <= r by omega)
 rwa [Nat.add_mul,Nat.one_mul] at this
theorem qeh {l s:List Int} {off:Nat} {c:Int} (h:qw l):qw (qD l off s c):=fun x hx=>by
 obtain ⟨i,hi⟩:=List.getElem?_of_mem hx
 rw [qbL] at hi
 obtain ⟨y,hy,rfl⟩:=Option.map_eq_some_iff.1 hi
 split
 ·exact q5F
 ·exact h y (List.mem_of_getElem? hy)
theorem qmk {l:List Int} {off n:Nat} {c:Int} (h:qw l) (hc:isB c):qw (qbt l off n c):=fun x hx=>by
 obtain ⟨i,hi⟩:=List.getElem?_of_mem hx
 rw [qeH] at hi
 obtain ⟨y,hy,rfl⟩:=Option.map_eq_some_iff.1 hi
 have:=h y (List.mem_of_getElem? hy)
 split
 ·exact q6w this hc
 ·exact this
theorem qv9 {ca r i p:Nat} {a:List Int} {g:Int} (ha:a.length = r * ca) (hb:qw a) (hg:isB g) (hi:i < r) (hp:p < r) {i' j:Nat} (hi':i' < r) (hj:j < ca) :
  q7 ca (qD a (i * ca) (seg a (p * ca) ca) g) i' j = if i' = i then q7 ca a i j ^^^ qh (toF g) (q7 ca a p j) else q7 ca a i' j:=by
 have hlt:=qfI hi' hj
 have hsl:(seg a (p * ca) ca).length = ca:=qe3 (by rw [ha]; exact qra hp)
 unfold q7
 rw [List.getD_eq_getElem?_getD,qbL,List.getElem?_eq_getElem (by omega),Option.map_some,Option.getD_some,hsl]
 by_cases he:i' = i
 ·subst he
  rw [if_pos ⟨by omega,by omega⟩,if_pos rfl,show i' * ca + j - i' * ca = j by omega]
  have hs:(seg a (p * ca) ca).getD j 0 = a.getD (p * ca + j) 0:=by
   rw [List.getD_eq_getElem?_getD,qf6,if_pos hj,List.getD_eq_getElem?_getD]
  rw [hs,qk5,qis hg (qaT hb _),List.getD_eq_getElem?_getD (l:=a) (i:=i' * ca + j),List.getElem?_eq_getElem (by omega),Option.getD_some]
 ·rw [if_neg (fun h=>he ((quZ hj).1 h)),if_neg he,List.getD_eq_getElem?_getD,List.getElem?_eq_getElem (by omega),Option.getD_some]
theorem qpz {ca r i:Nat} {a:List Int} {g:Int} (ha:a.length = r * ca) (hb:qw a) (hg:isB g) (hi:i < r) {i' j:Nat} (hi':i' < r) (hj:j < ca) :
  q7 ca (qbt a (i * ca) ca g) i' j = if i' = i then qh (q7 ca a i j) (toF g) else q7 ca a i' j:=by
 have hlt:=qfI hi' hj
 unfold q7
 rw [List.getD_eq_getElem?_getD,qeH,List.getElem?_eq_getElem (by omega),Option.map_some,Option.getD_some]
 by_cases he:i' = i
 ·subst he
  rw [if_pos ⟨by omega,by omega⟩,if_pos rfl,List.getD_eq_getElem?_getD,List.getElem?_eq_getElem (by omega),Option.getD_some,qis (hb _ (List.getElem_mem _)) hg]
 ·rw [if_neg (fun h=>he ((quZ hj).1 h)),if_neg he,List.getD_eq_getElem?_getD,List.getElem?_eq_getElem (by omega),Option.getD_some]
structure Two (r ca cb:Nat) (a b:List Int):Prop where
 la:a.length = r * ca
 lb:b.length = r * cb
 ba:qw a
 bb:qw b
variable {r ca cb:Nat} {a b:List Int}
theorem Two.add (h:Two r ca cb a b) {i p:Nat} {g:Int}:Two r ca cb (qD a (i * ca) (seg a (p * ca) ca) g) (qD b (i * cb) (seg b (p * cb) cb) g) :=
 ⟨by rw [qbP,h.la],by rw [qbP,h.lb],qeh h.ba,qeh h.bb⟩
theorem Two.scale (h:Two r ca cb a b) {i:Nat} {g:Int} (hg:isB g):Two r ca cb (qbt a (i * ca) ca g) (qbt b (i * cb) cb g) :=
 ⟨by rw [qkB,h.la],by rw [qkB,h.lb],qmk h.ba hg,qmk h.bb hg⟩
theorem qzG (h:Two r ca cb a b) {i p:Nat} {g:Int} (hg:isB g) (hi:i < r) (hp:p < r) {i' j:Nat} (hi':i' < r) (hj:j < ca + cb) :
  qaa ca cb (qD a (i * ca) (seg a (p * ca) ca) g) (qD b (i * cb) (seg b (p * cb) cb) g) i' j = if i' = i then qaa ca cb a b i j ^^^ qh (toF g) (qaa ca cb a b p j) else qaa ca cb a b i' j:=by
 unfold qaa
 by_cases hjc:j < ca
 ·simp only [if_pos hjc]; exact qv9 h.la h.ba hg hi hp hi' hjc
 ·simp only [if_neg hjc]; exact qv9 h.lb h.bb hg hi hp hi' (by omega)
theorem q3r (h:Two r ca cb a b) {i:Nat} {g:Int} (hg:isB g) (hi:i < r) {i' j:Nat} (hi':i' < r) (hj:j < ca + cb) :
  qaa ca cb (qbt a (i * ca) ca g) (qbt b (i * cb) cb g) i' j = if i' = i then qh (qaa ca cb a b i j) (toF g) else qaa ca cb a b i' j:=by
 unfold qaa
 by_cases hjc:j < ca
 ·simp only [if_pos hjc]; exact qpz h.la h.ba hg hi hi' hjc
 ·simp only [if_neg hjc]; exact qpz h.lb h.bb hg hi hi' (by omega)
theorem qev {c i:Nat} (hc:c < ca):qaa ca cb a b i c = toF (a.getD (i * ca + c) 0):=by rw [qaa,if_pos hc,q7]
theorem qte (a:List Int) (ca c:Nat):∀ n p,p <= qdl a ca c p n/\qdl a ca c p n <= p + n/\(qdl a ca c p n < p + n->a.getD (qdl a ca c p n * ca + c) 0 ≠ 0)/\∀ i,p <= i->i < qdl a ca c p n->a.getD (i * ca + c) 0 = 0
 | 0,p=>by simp only [qdl]; exact ⟨Nat.le_refl _,Nat.le_refl _,fun h=>by omega,fun i h1 h2=>by omega⟩
 | n + 1,p=>by
  obtain ⟨h1,h2,h3,h4⟩:=qte a ca c n (p + 1)
  simp only [qdl]
  split
  ·rename_i hz
   refine ⟨by omega,by omega,fun h=>h3 (by omega),fun i hi1 hi2=>?_⟩
   by_cases hip:i = p
   ·rw [hip]; exact hz
   ·exact h4 i (by omega) hi2
  ·rename_i hz
   exact ⟨Nat.le_refl _,by omega,fun _=>hz,fun i h1 h2=>by omega⟩
theorem Two.rows (h:Two r ca cb a b) {rank c:Nat}:∀ i,Two r ca cb (qaA ca cb rank c a b i).1 (qaA ca cb rank c a b i).2
 | 0=>h
 | i + 1=>by
  have ih:=Two.rows h (rank:=rank) (c:=c) i
  simp only [qaA]
  split
  ·exact ih
  ·exact ih.add
theorem quK (h:Two r ca cb a b) {rank c:Nat} (hr:rank < r) (hc:c < ca):∀ i,i <= r ->
  (∀ i' j,i' < r->j < ca + cb->qaa ca cb (qaA ca cb rank c a b i).1 (qaA ca cb rank c a b i).2 i' j = if i' < i/\i' ≠ rank then qaa ca cb a b i' j ^^^ qh (qaa ca cb a b i' c) (qaa ca cb a b rank j) else qaa ca cb a b i' j) /\
  Same r (ca + cb) (qaa ca cb a b) (qaa ca cb (qaA ca cb rank c a b i).1 (qaA ca cb rank c a b i).2)
 | 0,_=>⟨fun i' j _ _=>by rw [if_neg (by omega)]; rfl,Same.refl⟩
 | i + 1,hi=>by
  obtain ⟨ih,ihs⟩:=quK h hr hc i (by omega)
  have hT:=h.rows (rank:=rank) (c:=c) i
  simp only [qaA]
  by_cases hir:i = rank
  ·rw [if_pos hir]
   refine ⟨fun i' j hi' hj=>?_,ihs⟩
   rw [ih i' j hi' hj]
   by_cases h1:i' < i/\i' ≠ rank
   ·rw [if_pos h1,if_pos ⟨by omega,h1.2⟩]
   ·rw [if_neg h1,if_neg (by omega)]
  ·rw [if_neg hir]
   simp only
   have hg:=qaT hT.ba (i * ca + c)
   have hgv:toF ((qaA ca cb rank c a b i).1.getD (i * ca + c) 0) = qaa ca cb a b i c:=by
    rw [<- qev (cb:=cb) (b:=(qaA ca cb rank c a b i).2) hc,ih i c (by omega) (by omega),if_neg (by omega)]
   have hstep:=fun i' j (hi':i' < r) (hj:j < ca + cb)=>qzG hT (g:=(qaA ca cb rank c a b i).1.getD (i * ca + c) 0) hg (show i < r by omega) hr hi' hj
   refine ⟨fun i' j hi' hj=>?_,ihs.trans (quN (i:=i) (p:=rank) (g:=toF ((qaA ca cb rank c a b i).1.getD (i * ca + c) 0)) (by omega) hr hir (fun j hj=>by rw [hstep i j (by omega) hj,if_pos rfl]) fun a' ha' hne j hj=>by rw [hstep a' j ha' hj,if_neg hne])⟩
   rw [hstep i' j hi' hj]
   by_cases he:i' = i
   ·subst he
    rw [if_pos rfl,hgv,ih i' j hi' hj,if_neg (by omega),ih rank j hr hj,if_neg (by omega),if_pos ⟨by omega,hir⟩]
   ·rw [if_neg he,ih i' j hi' hj]
    by_cases h1:i' < i/\i' ≠ rank
    ·rw [if_pos h1,if_pos ⟨by omega,h1.2⟩]
    ·rw [if_neg h1,if_neg (by omega)]
theorem q4e {T0:Mat} {c rank:Nat} (h2:Two r ca cb a b) (h:Ech r (ca + cb) T0 (qaa ca cb a b) c rank) (hc:c < ca) :
  Two r ca cb (qcS r ca cb c (a,b,rank)).1 (qcS r ca cb c (a,b,rank)).2.1/\Ech r (ca + cb) T0 (qaa ca cb (qcS r ca cb c (a,b,rank)).1 (qcS r ca cb c (a,b,rank)).2.1) (c + 1) (qcS r ca cb c (a,b,rank)).2.2:=by
 unfold qcS
 simp only
 by_cases hr:r <= rank
 ·rw [if_pos hr]
  exact ⟨h2,qxq h (by omega) fun i (h1:rank <= i) h3=>by omega⟩
 rw [if_neg hr]
 obtain ⟨p1,p2,p3,p4⟩:=qte a ca c (r - rank) rank
 by_cases hp:qdl a ca c rank (r - rank) = r
 ·rw [if_pos hp]
  refine ⟨h2,qxq h (by omega) fun i (h1:rank <= i) h3=>?_⟩
  rw [qev hc,p4 i h1 (by omega)]; rfl
 rw [if_neg hp]
 simp only
 generalize hpv:qdl a ca c rank (r - rank) = p at p1 p2 p3 p4 hp
 have hpr:p < r:=by omega
 have hnz:=p3 (by omega)
 have hmid:qgq r ca cb c (a,b,rank) = qhc ca cb rank c (qbO ca cb rank p a b).1 (qbO ca cb rank p a b).2:=by
  unfold qgq; simp only [hpv]
 -- the pivot's row is added
 have h1:Two r ca cb (qbO ca cb rank p a b).1 (qbO ca cb rank p a b).2/\Same r (ca + cb) (qaa ca cb a b) (qaa ca cb (qbO ca cb rank p a b).1 (qbO ca cb rank p a b).2) /\
   qaa ca cb (qbO ca cb rank p a b).1 (qbO ca cb rank p a b).2 rank c ≠ 0/\(∀ i j,i < r->j < ca + cb->i ≠ rank->qaa ca cb (qbO ca cb rank p a b).1 (qbO ca cb rank p a b).2 i j = qaa ca cb a b i j) /\
   ∀ c',c' < c->qaa ca cb (qbO ca cb rank p a b).1 (qbO ca cb rank p a b).2 rank c' = 0:=by
  have hpc:qaa ca cb a b p c ≠ 0:=by
   rw [qev hc]
   intro h0
   exact hnz ((qfo (qaT h2.ba _)).1 h0)
  unfold qbO
  by_cases hpe:p = rank
  ·rw [if_pos hpe]
   exact ⟨h2,Same.refl,by rw [<- hpe]; exact hpc,fun _ _ _ _ _=>rfl,fun c' hc'=>h.low rank (Nat.le_refl _) (by omega) c' hc'⟩
  ·rw [if_neg hpe]
   have hst:=fun i' j (hi':i' < r) (hj:j < ca + cb)=>qzG h2 (g:=1) ⟨by omega,by omega⟩ (show rank < r by omega) hpr hi' hj
   have h1:toF 1 = 1:=rfl
   refine ⟨h2.add,quN (i:=rank) (p:=p) (g:=toF 1) (by omega) hpr (Ne.symm hpe) (fun j hj=>by simp only; rw [hst rank j (by omega) hj,if_pos rfl]) (fun a' ha' hne j hj=>by simp only; rw [hst a' j ha' hj,if_neg hne]),?_,fun i j hi hj hne=>by simp only; rw [hst i j hi hj,if_neg hne],fun c' hc'=>?_⟩
   ·simp only
    rw [hst rank c (by omega) (by omega),if_pos rfl,h1,qiu]
    rw [qev hc (i:=rank),p4 rank (Nat.le_refl _) (by omega),qwq,qat]
    exact hpc
   ·simp only
    rw [hst rank c' (by omega) (by omega),if_pos rfl,h1,qiu,h.low rank (Nat.le_refl _) (by omega) c' hc',h.low p (by omega) hpr c' hc',qae]
 rw [hmid]
 generalize qbO ca cb rank p a b = s1 at h1
 obtain ⟨t1,same1,nz1,oth1,low1⟩:=h1
 -- it is scaled
 have hgB:=q5G (qaT t1.ba (rank * ca + c))
 have hgv:toF (qgh (s1.1.getD (rank * ca + c) 0)) = qeV (qaa ca cb s1.1 s1.2 rank c):=by rw [q7r (qaT t1.ba _),qev hc]
 have t2:Two r ca cb (qhc ca cb rank c s1.1 s1.2).1 (qhc ca cb rank c s1.1 s1.2).2:=t1.scale hgB
 have hsc:∀ i j,i < r->j < ca + cb->qaa ca cb (qhc ca cb rank c s1.1 s1.2).1 (qhc ca cb rank c s1.1 s1.2).2 i j = if i = rank then qh (qaa ca cb s1.1 s1.2 rank j) (qeV (qaa ca cb s1.1 s1.2 rank c)) else qaa ca cb s1.1 s1.2 i j:=fun i j hi hj=>by
  rw [<- hgv]
  exact q3r t1 hgB (by omega) hi hj
 generalize qhc ca cb rank c s1.1 s1.2 = s2 at t2 hsc
 have same2:Same r (ca + cb) (qaa ca cb s1.1 s1.2) (qaa ca cb s2.1 s2.2):=q5T (i:=rank) (g:=qeV (qaa ca cb s1.1 s1.2 rank c)) (by omega) (q9m nz1) (fun j hj=>by rw [hsc rank j (by omega) hj,if_pos rfl]) fun a' ha' hne j hj=>by rw [hsc a' j ha' hj,if_neg hne]
 have one2:qaa ca cb s2.1 s2.2 rank c = 1:=by rw [hsc rank c (by omega) (by omega),if_pos rfl,qiT nz1]
 have low2:∀ c',c' < c->qaa ca cb s2.1 s2.2 rank c' = 0:=fun c' hc'=>by rw [hsc rank c' (by omega) (by omega),if_pos rfl,low1 c' hc',qB]
 have oth2:∀ i j,i < r->j < ca + cb->i ≠ rank->qaa ca cb s2.1 s2.2 i j = qaa ca cb a b i j:=fun i j hi hj hne=>by rw [hsc i j hi hj,if_neg hne,oth1 i j hi hj hne]
 -- the others are cleared
 obtain ⟨r3,same3⟩:=quK t2 (rank:=rank) (c:=c) (by omega) hc r (Nat.le_refl _)
 refine ⟨t2.rows r,q7m h (by omega) (by omega) ((same1.trans same2).trans same3) (fun i hi=>?_) fun c' hc' i hi=>?_⟩
 ·rw [r3 i c hi (by omega),one2,qbn]
  by_cases hir:i = rank
  ·rw [if_neg (by omega),hir,one2,del,if_pos rfl]
  ·rw [if_pos ⟨hi,hir⟩,qa7,del,if_neg hir]
 ·rw [r3 i c' hi (by omega),low2 c' hc',q6,qae]
  by_cases hir:i = rank
  ·rw [if_neg (by omega),hir,low2 c' hc',h.low rank (Nat.le_refl _) (by omega) c' hc']
  ·rw [if_pos ⟨hi,hir⟩,oth2 i c' hi (by omega) hir]
theorem qwP (h:Two r ca cb a b):∀ c,c <= ca->Two r ca cb (qcl r ca cb a b c).1 (qcl r ca cb a b c).2.1/\Ech r (ca + cb) (qaa ca cb a b) (qaa ca cb (qcl r ca cb a b c).1 (qcl r ca cb a b c).2.1) c (qcl r ca cb a b c).2.2
 | 0,_=>⟨h,q28⟩
 | c + 1,hc=>by
  obtain ⟨h1,h2⟩:=qwP h c (by omega)
  rw [qcl]
  exact q4e h1 h2 (by omega)
end Go.Proofs

set_option linter.unusedSimpArgs false
set_option linter.unusedVariables false
namespace Go.Proofs
open Go Go.Eng
theorem q9g {d:qd} (h:qw (bI d)):qn d:=fun row hr=>h (qb6 row 0) (List.mem_map.2 ⟨row,hr,rfl⟩)
end Go.Proofs

set_option linter.unusedSimpArgs false
set_option linter.unusedVariables false
namespace Go.Proofs
open Go Go.Eng
set_option maxRecDepth 20000
theorem qyi {k n t s:Int} {o:List Int} (h:o.length = 32):(qaP k n t s o).length = 39:=by simp [qaP,qaO,h]
theorem qzI:idC.ok Tryz.prog:=qBw (by simp [q4l,qhj]) fun ρ hg hp=>by
 obtain ⟨⟨hl,hO,hD⟩,hGr,hGd⟩:=hp
 simp (config:={ maxSteps:=2000000 }) [q5o,idC,qlZ,qdI,qah,qi2,qdT,qaG,gOk,qr9,qvh,qhJ]
 refine ⟨⟨by omega,hl,hO,hD⟩,fun l _ c _ d _ hok hl2 hB hd=>?_⟩
 have hd:bI d.d = qaP (ρ 0).i (ρ 1).i (ρ 2).i (ρ 3).i (qg (ρ 4).d 32) ++ (dgs (ρ 8).d).flatten:=hd
 have hb:=hok
 simp [qz,qbe] at hb
 have hlen:=congrArg List.length hd
 rw [List.length_append,qcV qAv,qro,bI_len,qyi qdx] at hlen
 refine fun hc=>⟨⟨⟨by omega,by omega,by omega,by omega,hB⟩,hGr,hGd⟩,fun x _ hx=>⟨hok,?_⟩⟩
 have hx:qg x.d 32 = sha (qaP (ρ 0).i (ρ 1).i (ρ 2).i (ρ 3).i (qg (ρ 4).d 32) ++ (dgs (ρ 8).d).flatten):=by
  rw [hx,qbF,hd.symm]
  simp only [Int.toNat_zero,List.drop_zero]
  rw [List.take_of_length_le (by rw [bI_len]; omega)]
 exact hx
end Go.Proofs

set_option linter.unusedSimpArgs false
set_option linter.unusedVariables false
set_option maxRecDepth 100000
namespace Go.Proofs
open Go Go.Eng

def qoy:Out:=(.fresh 18 (.fresh 19 (.pre 0 (sg 0 [bv 9 9,bv 8 8,bv 7 7,bv 6 6,bg 5 5,bv 3 3,bv 2 2,bv 1 1,bv 0 0,bt 4 (r8 4)]) (.both (.fresh 20 (.post 0 0 (sg 0 [bv 9 9,bv 8 8,bv 7 7,bv 6 6,bg 5 5,bv 3 3,bv 2 2,bv 1 1,bv 0 0,bt 4 (r8 4)]) 20 (.br (.cmp .neq (.var 20) (.lit 0))
 (.ret 0 (sg 18 [bv 18 20]))
 (.br (.cmp .lss (.var 10) (.lit 0))
 (.ret 0 (sg 18 [bt 18 (.lit 2)]))
 (.br (.cmp .geq (.var 10) (.var 2))
 (.ret 0 (sg 18 [bt 18 (.lit 2)]))
 (.pre 1 (sg 0 [bv 1 3,bv 0 0]) (.both (.fresh 21 (.fresh 22 (.post 1 0 (sg 0 [bv 1 3,bv 0 0]) 21 (.need (.cmp .leq (.lit 0) (.var 12)) (.br (.cmp .neq (.var 12) (.var 21))
 (.ret 0 (sg 18 [bt 18 (.lit 10)]))
 (.need (.cmp .leq (.lit 0) (.var 10)) (.need (.cmp .lss (.var 10) (.var 6)) (.need (.cmp .lss (.var 10) (.dlen (.var 8))) (.both (.pre 2 (sg 0 [bv 8 17,bv 6 15,bv 5 14,bv 4 13,bv 3 12,bt 2 (.lit 0),bg 1 11,bv 0 10,bg 7 16]) (.both (.fresh 23 (.post 2 0 (sg 0 [bv 8 17,bv 6 15,bv 5 14,bv 4 13,bv 3 12,bt 2 (.lit 0),bg 1 11,bv 0 10,bg 7 16]) 23 (.br (.not (.c2 .req (r8 23) (.rcons (i8 8 10 0) (.rcons (i8 8 10 1) (.rcons (i8 8 10 2) (.rcons (i8 8 10 3) (.rcons (i8 8 10 4) (.rcons (i8 8 10 5) (.rcons (i8 8 10 6) (.rcons (i8 8 10 7) (.rcons (i8 8 10 8) (.rcons (i8 8 10 9) (.rcons (i8 8 10 10) (.rcons (i8 8 10 11) (.rcons (i8 8 10 12) (.rcons (i8 8 10 13) (.rcons (i8 8 10 14) (.rcons (i8 8 10 15) (.rcons (i8 8 10 16) (.rcons (i8 8 10 17) (.rcons (i8 8 10 18) (.rcons (i8 8 10 19) (.rcons (i8 8 10 20) (.rcons (i8 8 10 21) (.rcons (i8 8 10 22) (.rcons (i8 8 10 23) (.rcons (i8 8 10 24) (.rcons (i8 8 10 25) (.rcons (i8 8 10 26) (.rcons (i8 8 10 27) (.rcons (i8 8 10 28) (.rcons (i8 8 10 29) (.rcons (i8 8 10 30) (.rcons (i8 8 10 31) .rnil))))))))))))))))))))))))))))))))))
 (.ret 0 (sg 18 [bt 18 (.lit 20)]))
 (.ret 0 (sg 18 [bt 18 (.lit 0)]))))) .top)) .top))))))))) .top))))))) .top))))
theorem qyL:qj ⟨Tryz.prog,qbb,[qaz,qaC,qaB],[]⟩ 100000 Tryz.f60 = qoy:=by kernel_rfl
theorem q4b (hd:∀ c ∈ ([qaz,qaC,qaB]:List Ctr),c.ok Tryz.prog) (h:∀ ρ:Env,ρ.good->(qbb).pre ρ->qoy.den ⟨Tryz.prog,qbb,[qaz,qaC,qaB],[]⟩ ρ):(qbb).ok Tryz.prog :=
 qf Tryz.func60 (fun a w=>Tryz.call60 a w) hd 100000 (fun ρ hg hp=>by rw [qyL]; exact h ρ hg hp)
end Go.Proofs

set_option linter.unusedSimpArgs false
set_option linter.unusedVariables false
set_option maxRecDepth 100000
namespace Go.Proofs
open Go Go.Eng

end Go.Proofs

set_option linter.unusedSimpArgs false
set_option linter.unusedVariables false
namespace Go.Proofs
open Go Go.Eng
end Go.Proofs

set_option linter.unusedSimpArgs false
set_option linter.unusedVariables false
namespace Go.Proofs
open Go Go.Eng

end Go.Proofs

set_option linter.unusedSimpArgs false
set_option linter.unusedVariables false
namespace Go.Proofs
open Go Go.Eng
set_option maxRecDepth 20000
theorem q5u {k n t s l i:Int} {D:List (List Int)} {m:List Int} (h:qz k n t s l = false):2 = qcg k n t s l D i m:=by rw [qcg,if_pos h]
theorem qv7 {k n t s l i:Int} {D:List (List Int)} {m:List Int} (h:qz k n t s l = true) (hi:i < 0∨t <= i):2 = qcg k n t s l D i m:=by rw [qcg,if_neg (by rw [h]; decide),if_pos hi]
theorem q7i {k n t s l i:Int} {D:List (List Int)} {m:List Int} (h:qz k n t s l = true) (h0:0 <= i) (h1:i < t) (hl:(m.length:Int) ≠ qdi k s):10 = qcg k n t s l D i m:=by rw [qcg,if_neg (by rw [h]; decide),if_neg (by omega),if_pos hl]
theorem q5J {k n t s l i:Int} {D:List (List Int)} {m:List Int} (h:qz k n t s l = true) (h0:0 <= i) (h1:i < t) (hl:(m.length:Int) = qdi k s) (hs:sha (qba i ++ m) ≠ D.getD i.toNat []):20 = qcg k n t s l D i m:=by rw [qcg,if_neg (by rw [h]; decide),if_neg (by omega),if_neg (fun h=>h hl),if_pos hs]
theorem qyU {k n t s l i:Int} {D:List (List Int)} {m:List Int} (h:qz k n t s l = true) (h0:0 <= i) (h1:i < t) (hl:(m.length:Int) = qdi k s) (hs:sha (qba i ++ m) = D.getD i.toNat []):0 = qcg k n t s l D i m:=by rw [qcg,if_neg (by rw [h]; decide),if_neg (by omega),if_neg (fun h=>h hl),if_neg (fun h=>h hs)]
theorem q2y {k n t s l:Int} (h:qz k n t s l = true):¬ qdv k s:=by
 simp [qz,qbe] at h
 unfold qdv; omega
set_option maxHeartbeats 1000000 in
theorem qlV:qbb.ok Tryz.prog:=q4b (by simp [qiG,qlp,qkn]) fun ρ hg hp=>by
 obtain ⟨⟨i0,i3,hl,hD,hpl,hpc,hp1,hB⟩,hGr,hGd⟩:=hp
 simp only [Nat.reduceAdd] at hpl hpc hp1 hB
 simp (config:={ maxSteps:=4000000,contextual:=true }) [qoy,qbb,qkg,qaz,qaC,qaB,qi2,qdT,qaG,gOk,hGr,hGd,hB,hD,hl,hpl]
 refine fun u _ hu=>⟨q5u,fun hok=>⟨fun h0=>qv7 hok (.inl h0),fun h0=>⟨fun ht=>qv7 hok (.inr ht),fun ht l _ e _ _ hgood=>?_⟩⟩⟩
 have hlen:=(hgood (q2y hok)).1
 have hml:(bI (ρ 14).d).length = (ρ 14).d.length:=bI_len
 have htl:(ρ 2).i = (ρ 8).d.length:=by simp [qz] at hok; omega
 have hrow:qnz (ρ 8).d (ρ 10).i = (dgs (ρ 8).d).getD (ρ 10).i.toNat []:=qsI h0 (by omega)
 refine ⟨fun hne=>q7i hok h0 ht (by rw [hml,qdi,<- hlen]; exact hne),fun heq=>⟨by omega,⟨by omega,by omega,by omega⟩,fun x _ hx=>?_⟩⟩
 rw [qhV heq.symm,hrow]
 exact ⟨fun hn=>q5J hok h0 ht (by rw [hml,qdi,<- hlen]; exact heq) hn,fun he=>qyU hok h0 ht (by rw [hml,qdi,<- hlen]; exact heq) he⟩
end Go.Proofs

set_option linter.unusedSimpArgs false
set_option linter.unusedVariables false
namespace Go.Proofs
open Go Go.Eng

theorem qwB {k n:Nat} (hk:0 < k):n <= k * qA k n:=by
 unfold qA
 have h1:=Nat.div_add_mod (n + k - 1) k
 have h2:=Nat.mod_lt (n + k - 1) hk
 omega
theorem q4w {n:Nat}:(qa4 n n).length = n * n:=by simp [qa4]
theorem q2C {n i:Nat} (hi:i < n * n):(qa4 n n).getD i 0 = if i / n = i % n then 1 else 0:=by
 have hn:0 < n:=by
  cases n with
  | zero=>simp at hi
  | succ n=>omega
 rw [List.getD_eq_getElem?_getD,qa4,List.getElem?_map,List.getElem?_range hi]
 simp only [Option.map_some,Option.getD_some]
 have:i / n < n:=Nat.div_lt_of_lt_mul hi
 by_cases h:i / n = i % n
 ·rw [if_pos ⟨h,this⟩,if_pos h]
 ·rw [if_neg (fun hh=>h hh.1),if_neg h]
theorem qjp {i n j:Nat} (hj:j < n):(i * n + j) / n = i/\(i * n + j) % n = j:=by
 have hn:0 < n:=by omega
 constructor
 ·rw [Nat.mul_comm,Nat.mul_add_div hn,Nat.div_eq_of_lt hj,Nat.add_zero]
 ·rw [Nat.mul_comm,Nat.mul_add_mod,Nat.mod_eq_of_lt hj]
theorem qxQ {n:Nat}:qw (qa4 n n):=fun x hx=>by
 simp only [qa4,List.mem_map] at hx
 obtain ⟨i,_,rfl⟩:=hx
 split <;> exact ⟨by omega,by omega⟩
theorem qsS {n i j:Nat} (hi:i < n) (hj:j < n):q7 n (qa4 n n) i j = del i j:=by
 obtain ⟨h1,h2⟩:=qjp (i:=i) hj
 rw [q7,q2C (qfI hi hj),h1,h2,del]
 split <;> rfl
theorem q0t {r c:Nat}:(qb4 r c).length = r * c:=by simp [qb4,qc1]
theorem q1x {r c i j:Nat} (hi:i < r) (hj:j < c):(qb4 r c).getD (i * c + j) 0 = qho (i:Int) (j:Int):=by
 obtain ⟨h1,h2⟩:=qjp (i:=i) hj
 have hlt:=qfI hi hj
 rw [List.getD_eq_getElem?_getD,qb4,qc1,List.getElem?_map,List.getElem?_range hlt]
 simp only [Option.map_some,Option.getD_some]
 rw [if_pos hlt,qn4,h1,h2]
def xsF (m:Nat):F:=toF (m:Int)
theorem qq6 {r c i j:Nat} (hr:r <= 256) (hi:i < r) (hj:j < c) (hc:c < 9223372036854775808):q7 c (qb4 r c) i j = qaN (xsF i) j:=by
 rw [q7,q1x hi hj,q4t ⟨by omega,by omega⟩ (by omega),qkj,Int.toNat_natCast]; rfl
theorem qm7 {r c:Nat} (hr:r <= 256) (hc:c < 9223372036854775808):qw (qb4 r c):=fun x hx=>by
 simp only [qb4,qc1,List.mem_map,List.mem_range] at hx
 obtain ⟨i,hi,rfl⟩:=hx
 rw [if_pos hi]
 have hc0:0 < c:=by
  cases c with
  | zero=>simp at hi
  | succ c=>omega
 have h1:i / c < r:=Nat.div_lt_of_lt_mul (by rwa [Nat.mul_comm] at hi)
 have h2:=Nat.mod_lt i hc0
 have h3:((i / c:Nat):Int) < 256:=by omega
 exact q7d ⟨Int.natCast_nonneg _,h3⟩ (by omega)
theorem qeY {n:Nat} (hn:n <= 256):qbA n xsF:=fun i j hi hj h=>by
 have:=qrW (x:=(i:Int)) (y:=(j:Int)) ⟨by omega,by omega⟩ ⟨by omega,by omega⟩ h
 omega
theorem q0g {l:List Int} {n:Nat} (h:qw l):qw (l.take n):=fun x hx=>h x (List.mem_of_mem_take hx)
theorem q5U {l:List Int} {n c i j:Nat} (hi:i < n) (hj:j < c):q7 c (l.take (n * c)) i j = q7 c l i j:=by
 have hlt:=qfI hi hj
 rw [q7,q7,List.getD_eq_getElem?_getD,List.getD_eq_getElem?_getD,List.getElem?_take,if_pos hlt]

theorem qi6 {ca cb:Nat} {a b:List Int} {i j:Nat}:qaa ca cb a b i (ca + j) = q7 cb b i j:=by
 rw [qaa,if_neg (by omega),show ca + j - ca = j by omega]
theorem qsy {n:Nat} {a A B:List Int} (h:Ech n (n + n) (qaa n n a (qa4 n n)) (qaa n n A B) n n) :
  (∀ i j,i < n->j < n->qy (fun l=>qh (q7 n B i l) (q7 n a l j)) n = del i j)/\∀ i j,i < n->j < n->qy (fun l=>qh (q7 n a i l) (q7 n B l j)) n = del i j:=by
 refine ⟨fun i j hi hj=>?_,fun i j hi hj=>?_⟩
 ·obtain ⟨x,hx⟩:=h.same.to i hi
  have hxB:∀ l,l < n->x l = q7 n B i l:=fun l hl=>by
   have h1:=hx (n + l) (by omega)
   rw [qi6,ql fun m hm=>by rw [qi6,qsS hm hl],qhe (f:=x) hl] at h1
   exact h1.symm
  have h2:=hx j (by omega)
  rw [qwO h i hi j hj,ql fun m hm=>by rw [hxB m hm,qev hj]] at h2
  exact h2.symm
 ·obtain ⟨x,hx⟩:=h.same.back i hi
  have hxa:∀ l,l < n->x l = q7 n a i l:=fun l hl=>by
   have h1:=hx l (by omega)
   rw [qev hl,ql fun m hm=>by rw [qwO h m hm l hl],qhe (f:=x) hl] at h1
   exact h1.symm
  have h2:=hx (n + j) (by omega)
  rw [qi6,qsS hi hj,ql fun m hm=>by rw [hxa m hm,qi6]] at h2
  exact h2.symm
theorem q2z {n:Nat} {m:List Int} (hl:m.length = n * n) (hb:qw m):Two n n n m (qa4 n n):=⟨hl,q4w,hb,qxQ⟩
theorem qnB {n:Nat} {m:List Int} (hl:m.length = n * n) (hb:qw m):Two n n n (qe0 m n).1 (qe0 m n).2.1/\Ech n (n + n) (qaa n n m (qa4 n n)) (qaa n n (qe0 m n).1 (qe0 m n).2.1) n (qe0 m n).2.2 :=
 qwP (q2z hl hb) n (Nat.le_refl _)
theorem qxz {n:Nat} {m:List Int} (hl:m.length = n * n) (hb:qw m) (h:∀ y:Nat->F,(∀ i,i < n->qy (fun j=>qh (q7 n m i j) (y j)) n = 0)->∀ j,j < n->y j = 0):(qe0 m n).2.2 = n:=by
 obtain ⟨_,he⟩:=qnB hl hb
 refine Classical.byContradiction fun hne=>?_
 have hlt:(qe0 m n).2.2 < n:=by have:=he.le; omega
 obtain ⟨y,⟨c,hc,hyc⟩,hy⟩:=q6S he (by omega) hlt
 exact hyc (h y (fun i hi=>by rw [<- hy i hi]; exact ql fun j hj=>by rw [qev hj]; rfl) c hc)

theorem qzy {k total:Nat} (h:k <= total):((qb4 total k).take (k * k)).length = k * k:=by
 rw [List.length_take,q0t]
 exact Nat.min_eq_left (Nat.mul_le_mul_right k h)
theorem qyP {k total i j:Nat} (hk:k <= total) (ht:total <= 255) (hi:i < k) (hj:j < k):q7 k ((qb4 total k).take (k * k)) i j = qaN (xsF i) j:=by
 rw [q5U hi hj,qq6 (by omega) (by omega) hj (by omega)]
theorem qsF {k total:Nat} (hk:k <= total) (ht:total <= 255):qw ((qb4 total k).take (k * k)):=q0g (qm7 (by omega) (by omega))
theorem qvJ {k total:Nat} (hk:k <= total) (ht:total <= 255):(qcm k total).2.2 = k :=
 qxz (qzy hk) (qsF hk ht) fun y hy=>qqP (qeY (by omega)) fun i hi=>by
  rw [<- hy i hi]
  exact ql fun j hj=>by rw [qyP hk ht hi hj]
theorem qzf {k total:Nat} (hk:k <= total) (ht:total <= 255):Two k k k (qcm k total).1 (qcm k total).2.1/\Ech k (k + k) (qaa k k ((qb4 total k).take (k * k)) (qa4 k k)) (qaa k k (qcm k total).1 (qcm k total).2.1) k k:=by
 have h:=qnB (qzy hk) (qsF hk ht)
 have hr:=qvJ hk ht
 unfold qcm at hr ⊢
 rw [hr] at h
 exact h

theorem qnM {a b:List Int} {ra ca cb:Nat} (hb:b.length = ca * cb) (ha:qw a) (hbb:qw b) (hca:0 < ca):∀ t,t <= ra * ca->(qc6 a b ra ca cb t).length = ra * cb/\qw (qc6 a b ra ca cb t) /\
  ∀ i j,i < ra->j < cb->q7 cb (qc6 a b ra ca cb t) i j = qy (fun l=>if i * ca + l < t then qh (q7 ca a i l) (q7 cb b l j) else 0) ca
 | 0,_=>⟨by simp [qc6],fun x hx=>by rw [qc6] at hx; rw [List.eq_of_mem_replicate hx]; exact ⟨by omega,by omega⟩,fun i j hi hj=>by
   rw [qcE fun l _=>if_neg (by omega),q7,qc6,List.getD_eq_getElem?_getD,List.getElem?_replicate,if_pos (qfI hi hj)]; rfl⟩
 | t + 1,ht=>by
  obtain ⟨h1,h2,h3⟩:=qnM (ra:=ra) hb ha hbb hca t (by omega)
  have hti:t / ca < ra:=Nat.div_lt_of_lt_mul (by rw [Nat.mul_comm]; omega)
  have htl:=Nat.mod_lt t hca
  have htd:=Nat.div_add_mod t ca
  rw [qc6]
  refine ⟨by rw [qbP,h1],qeh h2,fun i j hi hj=>?_⟩
  have hlt:=qfI hi hj
  have hsl:(seg b (t % ca * cb) cb).length = cb:=qe3 (by rw [hb]; exact qra htl)
  have hL:q7 cb (qD (qc6 a b ra ca cb t) (t / ca * cb) (seg b (t % ca * cb) cb) (a.getD t 0)) i j = if i = t / ca then q7 cb (qc6 a b ra ca cb t) i j ^^^ qh (toF (a.getD t 0)) (q7 cb b (t % ca) j) else q7 cb (qc6 a b ra ca cb t) i j:=by
   unfold q7
   rw [List.getD_eq_getElem?_getD,qbL,List.getElem?_eq_getElem (by omega),Option.map_some,Option.getD_some,hsl]
   by_cases he:i = t / ca
   ·subst he
    rw [if_pos ⟨by omega,by omega⟩,if_pos rfl,show t / ca * cb + j - t / ca * cb = j by omega]
    have hs:(seg b (t % ca * cb) cb).getD j 0 = b.getD (t % ca * cb + j) 0:=by
     rw [List.getD_eq_getElem?_getD,qf6,if_pos hj,List.getD_eq_getElem?_getD]
    rw [hs,qk5,qis (qaT ha _) (qaT hbb _),List.getD_eq_getElem?_getD (l:=qc6 a b ra ca cb t),List.getElem?_eq_getElem (by omega),Option.getD_some]
   ·rw [if_neg (fun h=>he ((quZ hj).1 h)),if_neg he,List.getD_eq_getElem?_getD,List.getElem?_eq_getElem (by omega),Option.getD_some]
  rw [hL,h3 i j hi hj]
  by_cases he:i = t / ca
  ·have hit:i * ca + t % ca = t:=by rw [he,Nat.mul_comm]; exact htd
   rw [if_pos he]
   have hat:toF (a.getD t 0) = q7 ca a i (t % ca):=by rw [q7,hit]
   have h4:qh (toF (a.getD t 0)) (q7 cb b (t % ca) j) = qy (fun l=>if l = t % ca then qh (q7 ca a i l) (q7 cb b l j) else 0) ca:=by
    rw [qhT htl fun l _ hl=>if_neg hl,if_pos rfl,hat]
   rw [h4,<- qg2]
   refine ql fun l hl=>?_
   by_cases hlt:l = t % ca
   ·subst hlt; rw [if_neg (by omega),if_pos rfl,if_pos (by omega),qat]
   ·rw [if_neg hlt,qae]
    by_cases h5:i * ca + l < t
    ·rw [if_pos h5,if_pos (by omega)]
    ·rw [if_neg h5,if_neg (by omega)]
  ·rw [if_neg he]
   refine ql fun l hl=>?_
   have hne:i * ca + l ≠ t:=fun h=>he (by rw [<- h]; exact (qjp hl).1.symm)
   by_cases h5:i * ca + l < t
   ·rw [if_pos h5,if_pos (by omega)]
   ·rw [if_neg h5,if_neg (by omega)]
theorem q17 {a b:List Int} {ra ca cb:Nat} (hb:b.length = ca * cb) (ha:qw a) (hbb:qw b) (hca:0 < ca):(qny a b ra ca cb).length = ra * cb/\qw (qny a b ra ca cb) /\
  ∀ i j,i < ra->j < cb->q7 cb (qny a b ra ca cb) i j = qy (fun l=>qh (q7 ca a i l) (q7 cb b l j)) ca:=by
 obtain ⟨h1,h2,h3⟩:=qnM (ra:=ra) hb ha hbb hca (ra * ca) (Nat.le_refl _)
 refine ⟨h1,h2,fun i j hi hj=>?_⟩
 rw [qny,h3 i j hi hj]
 exact ql fun l hl=>if_pos (qfI hi hl)

theorem qfJ {k total:Nat} (h1:1 <= k) (hk:k <= total) (ht:total <= 255):(qc8 k total).length = total * k/\qw (qc8 k total) /\
  (∀ i j,i < total->j < k->q7 k (qc8 k total) i j = qy (fun l=>qh (qaN (xsF i) l) (q7 k (qcm k total).2.1 l j)) k) /\
  ∀ i j,i < total->j < k->q7 k (qc8 k total) i j = qga k xsF (xsF i) j:=by
 obtain ⟨t2,he⟩:=qzf hk ht
 obtain ⟨p1,p2,p3⟩:=q17 (ra:=total) t2.lb (qm7 (r:=total) (c:=k) (by omega) (by omega)) t2.bb (by omega)
 have hg:∀ i j,i < total->j < k->q7 k (qc8 k total) i j = qy (fun l=>qh (qaN (xsF i) l) (q7 k (qcm k total).2.1 l j)) k:=fun i j hi hj=>by
  rw [qc8,p3 i j hi hj]
  exact ql fun l hl=>by rw [qq6 (by omega) hi hl (by omega)]
 refine ⟨p1,p2,hg,fun i j hi hj=>?_⟩
 obtain ⟨_,m2⟩:=qsy he
 have hp:∀ x,q9 k (fun l=>q7 k (qcm k total).2.1 l j) x = qy (fun l=>qh (qaN x l) (q7 k (qcm k total).2.1 l j)) k:=fun x=>ql fun l _=>qad
 rw [hg i j hi hj,<- hp,qll (qeY (n:=k) (by omega))]
 rw [ql (g:=fun m=>qh (qga k xsF (xsF i) m) (del m j)) fun m hm=>?_,qhe hj]
 rw [hp,<- m2 m j hm hj]
 congr 1
 exact ql fun l hl=>by rw [qyP hk ht hm hl]
theorem qmV {g full:List Int} {k l i:Nat} (hg:qw g) (hf:qw full) (hl:full.length = k * l):∀ j,j <= k->(qcy g full k l i j).length = l/\qw (qcy g full k l i j) /\
  ∀ c,c < l->toF ((qcy g full k l i j).getD c 0) = qy (fun m=>qh (q7 k g i m) (toF (full.getD (m * l + c) 0))) j
 | 0,_=>⟨by simp [qcy],fun x hx=>by rw [qcy] at hx; rw [List.eq_of_mem_replicate hx]; exact ⟨by omega,by omega⟩,fun c hc=>by
   rw [qcy,List.getD_eq_getElem?_getD,List.getElem?_replicate,if_pos hc]; rfl⟩
 | j + 1,hj=>by
  obtain ⟨h1,h2,h3⟩:=qmV hg hf hl (i:=i) j (by omega)
  have hsl:(seg full (j * l) l).length = l:=qe3 (by rw [hl]; exact qra (by omega))
  rw [qcy]
  refine ⟨by rw [qbP,h1],qeh h2,fun c hc=>?_⟩
  rw [List.getD_eq_getElem?_getD,qbL,List.getElem?_eq_getElem (by omega),Option.map_some,Option.getD_some,hsl,if_pos ⟨by omega,by omega⟩,Nat.sub_zero]
  have hs:(seg full (j * l) l).getD c 0 = full.getD (j * l + c) 0:=by
   rw [List.getD_eq_getElem?_getD,qf6,if_pos hc,List.getD_eq_getElem?_getD]
  rw [hs,qk5,qis (qaT hg _) (qaT hf _),qy,<- h3 c hc,List.getD_eq_getElem?_getD (l:=qcy g full k l i j),List.getElem?_eq_getElem (by omega),Option.getD_some]
  rfl
theorem q0Y {data:List Int} {n:Nat} (hb:qw data) (hn:data.length <= n):(qiW data n).length = n/\qw (qiW data n):=by
 refine ⟨by simp [qiW]; omega,fun x hx=>?_⟩
 rcases List.mem_append.1 hx with hx | hx
 ·exact hb x hx
 ·rw [List.eq_of_mem_replicate hx]; exact ⟨by omega,by omega⟩
theorem q70 {data:List Int} {n i:Nat}:(qiW data n).getD i 0 = data.getD i 0:=by
 rw [List.getD_eq_getElem?_getD,List.getD_eq_getElem?_getD,qiW]
 by_cases h:i < data.length
 ·rw [List.getElem?_append_left h]
 ·rw [List.getElem?_append_right (by omega),List.getElem?_eq_none (l:=data) (by omega),List.getElem?_replicate]
  split <;> rfl
theorem q3Q {k total:Nat} {data:List Int} (h1:1 <= k) (hk:k <= total) (ht:total <= 255) (hb:qw data) (i:Nat):(qdS k total data i).length = qA k data.length/\qw (qdS k total data i) /\
  ∀ c,c < qA k data.length->toF ((qdS k total data i).getD c 0) = qy (fun m=>qh (q7 k (qc8 k total) i m) (toF (data.getD (m * qA k data.length + c) 0))) k:=by
 obtain ⟨g1,g2,_,_⟩:=qfJ h1 hk ht
 obtain ⟨f1,f2⟩:=q0Y hb (n:=k * qA k data.length) (qwB (by omega))
 obtain ⟨p1,p2,p3⟩:=qmV (i:=i) g2 f2 f1 k (Nat.le_refl _)
 refine ⟨p1,p2,fun c hc=>?_⟩
 rw [qdS,p3 c hc]
 exact ql fun m _=>by rw [q70]
end Go.Proofs

set_option linter.unusedSimpArgs false
set_option linter.unusedVariables false
namespace Go.Eng
open Go
end Go.Eng
namespace Go.Proofs
open Go Go.Eng
theorem qlD {a b:List Int} (hl:a.length = b.length) (h:∀ i,i < a.length->a.getD i 0 = b.getD i 0):a = b:=by
 apply List.ext_getElem hl
 intro i h1 h2
 have:=h i h1
 rwa [List.getD_eq_getElem?_getD,List.getElem?_eq_getElem h1,List.getD_eq_getElem?_getD,List.getElem?_eq_getElem h2] at this
theorem qrm {ρ ρ':Env} {nv m:Nat} (hag:∀ n,n < nv->ρ' n = ρ n) (h:nv <= m):∀ n,n < nv->(ρ'.upto m) n = ρ n:=fun n hn=>by
 rw [Env.upto,if_pos (by omega)]
 exact hag n hn
end Go.Proofs

set_option linter.unusedSimpArgs false
set_option linter.unusedVariables false
namespace Go.Eng
open Go Go.Proofs

def qAZ:SV:=qpb 0 1 2 3 4
def iI (d:qd):List Int:=d.map fun r=>qb6 r 0
def qdn (m:List Int) (cols:Nat) (rs:List Int):List Int:=rs.flatMap fun r=>seg m (r.toNat * cols) cols
def qmK (r c l:Int) (n rows:Int) (rs:List Int):Prop:=¬ qaH r c l∨n = 0∨255 < n∨∃ x ∈ rs,x < 0∨rows <= x
def qeX:Ctr:={ fn := 133,nv:=12,args:=[qAZ,.one (.vslice 7 (.lit 0) (.var 8) (.var 9) 1)],heap:=[],ro:=[bHp 2 5 6,iHp 7 10 11],pre:=fun ρ=>0 <= (ρ 3).i/\(ρ 3).i <= (ρ 4).i/\(ρ 3).i <= (ρ 5).d.length/\qn (ρ 5).d/\0 <= (ρ 8).i/\(ρ 8).i = (ρ 10).d.length,alts:=[
 { k:=0,ret:=.tup [qoq,qbk (.lit 2)],heap:=[],post:=fun ρ=>qmK (ρ 0).i (ρ 1).i (ρ 3).i (ρ 8).i (ρ 0).i (iI (ρ 10).d) },
 { k:=4,ret:=.tup [qop (.var 8) (.var 1) 12 13 14,qbk (.lit 0)],heap:=[bHp 12 15 14],post:=fun ρ=>¬ qmK (ρ 0).i (ρ 1).i (ρ 3).i (ρ 8).i (ρ 0).i (iI (ρ 10).d)/\qea (ρ 8).i (ρ 1).i (ρ 13).i (ρ 14).i (ρ 15).d/\(ρ 13).i = (ρ 15).d.length/\bI (ρ 15).d = qdn (bI (ρ 5).d) (ρ 1).i.toNat (iI (ρ 10).d) }] }
def quk (r c l n:Int):Prop:=qaH r c l/\1 <= n/\n <= 255
def qur:Inv:={ key:=4,nv:=3,env:=[(1,.one (.vslice 7 (.lit 0) (.var 8) (.var 9) 1)),(2,.one (.vptr 1001 (.lit 0) 3 0)),(4,.one (.vptr 1002 (.lit 0) 3 0)),(25,.one (.vslice 7 (.lit 0) (.var 8) (.var 9) 1)),(26,iv .i64 (.var 8)),(27,iv .i64 (.var 1000))],heap:=[q0l 1002,qin 1001 0 1 2 3 4],inv:=(fun ρ=>quk (ρ 0).i (ρ 1).i (ρ 3).i (ρ 8).i/\0 <= (ρ 1000).i/\(ρ 1000).i <= (ρ 8).i/\∀ x ∈ (iI (ρ 10).d).take (ρ 1000).i.toNat,0 <= x/\x < (ρ 0).i),mu:=(fun ρ=>((ρ 8).i - (ρ 1000).i).toNat) }
def qwX:Inv:={ key:=11,nv:=8,env:=[(2,.one (.vptr 1001 (.lit 0) 3 0)),(4,.one (.vptr 1002 (.lit 0) 3 0)),(8,.one (.vptr 1007 (.lit 0) 3 0)),(46,.one (.vslice 7 (.lit 0) (.var 8) (.var 9) 1)),(47,iv .i64 (.var 8)),(48,iv .i64 (.var 1000))],heap:=[q0l 1002,qin 1001 0 1 2 3 4,qin 1007 8 1 1003 1004 1005,bHp 1003 1006 1005],inv:=(fun ρ=>quk (ρ 0).i (ρ 1).i (ρ 3).i (ρ 8).i/\0 <= (ρ 1000).i/\(ρ 1000).i <= (ρ 8).i/\(∀ x ∈ iI (ρ 10).d,0 <= x/\x < (ρ 0).i)/\qea (ρ 8).i (ρ 1).i (ρ 1004).i (ρ 1005).i (ρ 1006).d/\(ρ 1004).i = (ρ 1006).d.length/\(bI (ρ 1006).d).take ((ρ 1000).i * (ρ 1).i).toNat = qdn (bI (ρ 5).d) (ρ 1).i.toNat ((iI (ρ 10).d).take (ρ 1000).i.toNat)),mu:=(fun ρ=>((ρ 8).i - (ρ 1000).i).toNat) }
def qma (xs:List Int) (x:Int):List Int:=(List.range xs.length).map fun i=>ofF (qga xs.length (fun m=>toF (xs.getD m 0)) (toF x) i)
end Go.Eng

set_option linter.unusedSimpArgs false
set_option linter.unusedVariables false
set_option maxRecDepth 100000
namespace Go.Proofs
open Go Go.Eng

def qr3:Out:=(.fresh 12 (.fresh 13 (.pre 0 (sg 0 [bv 6 6,bv 5 5,bv 4 4,bv 3 3,bg 2 2,bv 1 1,bv 0 0]) (.both (.fresh 14 (.post 0 0 (sg 0 [bv 6 6,bv 5 5,bv 4 4,bv 3 3,bg 2 2,bv 1 1,bv 0 0]) 14 (.br (.not (.var 14))
 (.ret 0 (sg 12 []))
 (.need (.cmp .leq (.lit 0) (.var 8)) (.br (.cmp .eql (.var 8) (.lit 0))
 (.ret 0 (sg 12 []))
 (.br (.cmp .gtr (.var 8) (.lit 255))
 (.ret 0 (sg 12 []))
 (.inv 0 15 (sg 1000 [bt 1000 (.lit 0),bg 1002 13,bg 1001 12]) (.fresh 15 (.fresh 16 (.fresh 17 (.hyp 0 15 (.br (.cmp .lss (.var 15) (.var 8))
 (.need (.cmp .leq (.lit 0) (.var 15)) (.need (.cmp .lss (.var 15) (.dlen (.var 10))) (.br (.cmp .lss (.icell (.var 10) (.var 15) 0) (.lit 0))
 (.ret 0 (sg 12 []))
 (.br (.cmp .geq (.icell (.var 10) (.var 15) 0) (.var 0))
 (.ret 0 (sg 12 []))
 (.back 0 15 (sg 1000 [bt 1000 (.arith .add .i64 (.var 15) (.lit 1)),bg 1002 17,bg 1001 16]))))))
 (.pre 1 (sg 0 [bv 1 1,bv 0 8]) (.both (.fresh 18 (.fresh 19 (.fresh 20 (.fresh 21 (.post 1 0 (sg 0 [bv 1 1,bv 0 8]) 18 (.fresh 22 (.inv 1 23 (sg 1000 [bv 1006 21,bv 1005 20,bv 1004 19,bg 1003 18,bt 1000 (.lit 0),bg 1007 22,bg 1002 17,bg 1001 16]) (.fresh 23 (.fresh 24 (.fresh 25 (.fresh 26 (.fresh 27 (.fresh 28 (.fresh 29 (.fresh 30 (.hyp 1 23 (.br (.cmp .lss (.var 23) (.var 8))
 (.need (.cmp .leq (.lit 0) (.var 23)) (.need (.cmp .lss (.var 23) (.dlen (.var 10))) (.both (.pre 2 (sg 0 [bv 6 28,bv 5 29,bv 7 23,bv 4 28,bv 3 27,bg 2 26,bv 1 1,bv 0 8]) (.both (.fresh 31 (.fresh 32 (.fresh 33 (.post 2 0 (sg 0 [bv 6 28,bv 5 29,bv 7 23,bv 4 28,bv 3 27,bg 2 26,bv 1 1,bv 0 8]) 31 (.both (.pre 2 (sg 0 [bv 6 6,bv 5 5,bt 7 (.icell (.var 10) (.var 23) 0),bv 4 4,bv 3 3,bg 2 2,bv 1 1,bv 0 0]) (.both (.fresh 34 (.fresh 35 (.fresh 36 (.post 2 0 (sg 0 [bv 6 6,bv 5 5,bt 7 (.icell (.var 10) (.var 23) 0),bv 4 4,bv 3 3,bg 2 2,bv 1 1,bv 0 0]) 34 (.both (.need (.cmp .leq (.lit 0) (.var 31)) (.need (.cmp .leq (.lit 0) (.var 32)) (.need (.cmp .leq (.plus (.var 31) (.var 32)) (.dlen (.var 29))) (.need (.cmp .leq (.lit 0) (.var 34)) (.need (.cmp .leq (.lit 0) (.var 35)) (.need (.cmp .leq (.plus (.var 34) (.var 35)) (.dlen (.var 5))) (.fresh 37 (.back 1 23 (sg 1000 [bt 1006 (.c3 .dsplice (.var 29) (.var 31) (.dtake (.dtake (.ddrop (.var 5) (.var 34)) (.var 35)) (.imin (.var 32) (.var 35)))),bv 1005 28,bv 1004 27,bg 1003 26,bt 1000 (.arith .add .i64 (.var 23) (.lit 1)),bg 1007 30,bg 1002 25,bg 1001 24]))))))))) .top))))) .top)) .top))))) .top)) .top)))
 (.ret 1 (sg 12 [bv 15 29,bv 14 28,bv 13 27,bg 12 26]))))))))))))))))))) .top)))))))))))))) .top))))
theorem q1c:qj ⟨Tryz.prog,qeX,[qa9,qay,qak],[qur,qwX]⟩ 100000 Tryz.f133 = qr3:=by kernel_rfl
theorem q5c (hd:∀ c ∈ ([qa9,qay,qak]:List Ctr),c.ok Tryz.prog) (h:∀ ρ:Env,ρ.good->(qeX).pre ρ->qr3.den ⟨Tryz.prog,qeX,[qa9,qay,qak],[qur,qwX]⟩ ρ):(qeX).ok Tryz.prog :=
 qf Tryz.func133 (fun a w=>Tryz.call133 a w) hd 100000 (fun ρ hg hp=>by rw [q1c]; exact h ρ hg hp)
end Go.Proofs

set_option linter.unusedSimpArgs false
set_option linter.unusedVariables false
namespace Go.Proofs
open Go Go.Eng

theorem qp2 {l:List Int} {n:Nat} (h:n < l.length):l.take (n + 1) = l.take n ++ [l.getD n 0]:=by
 rw [List.take_add_one,List.getD_eq_getElem?_getD,List.getElem?_eq_getElem h]; rfl
end Go.Proofs

set_option linter.unusedSimpArgs false
set_option linter.unusedVariables false
namespace Go.Proofs
open Go Go.Eng
theorem qw1 {d:qd}:(iI d).length = d.length:=by simp [iI]
theorem qjD {d:qd} {i:Int} (h0:0 <= i) (h1:i < d.length):(iI d).getD i.toNat 0 = qb d i 0:=by
 have hl:i.toNat < d.length:=by omega
 simp [iI,qb,qF,qb6,List.getD_eq_getElem?_getD,List.getElem?_eq_getElem hl]
theorem q4D {m:List Int} {c:Nat} {rs:List Int} {n:Nat} (h:n < rs.length):qdn m c (rs.take (n + 1)) = qdn m c (rs.take n) ++ seg m ((rs.getD n 0).toNat * c) c:=by
 rw [qp2 h,qdn,List.flatMap_append]; simp [qdn]
theorem qxk {m:List Int} {c r:Nat} (hm:r * c <= m.length):∀ {rs:List Int},(∀ x ∈ rs,0 <= x/\x < (r:Int))->(qdn m c rs).length = rs.length * c
 | [],_=>by simp [qdn]
 | x :: rs,h=>by
  have ih:=qxk hm (rs:=rs) fun y hy=>h y (List.mem_cons_of_mem _ hy)
  have hx:=h x (List.mem_cons_self ..)
  have:=qra (ca:=c) (show x.toNat < r by omega)
  rw [qdn,List.flatMap_cons,List.length_append,qe3 (by omega),show (rs.flatMap fun r=>seg m (r.toNat * c) c) = qdn m c rs from rfl,ih,List.length_cons,Nat.add_mul]; omega
theorem qqb {r c l n rows:Int} {rs:List Int} (h:quk r c l n) (hr:∀ x ∈ rs,0 <= x/\x < rows):¬ qmK r c l n rows rs:=by
 obtain ⟨h1,h2,h3⟩:=h
 intro hb
 rcases hb with hb | hb | hb | ⟨x,hx,hb⟩
 ·exact hb h1
 ·omega
 ·omega
 ·have:=hr x hx; omega
theorem qtQ {l:List Int} {n:Nat} {P:Int->Prop} (hn:n < l.length) (h:∀ x ∈ l.take n,P x) (hx:P (l.getD n 0)):∀ x ∈ l.take (n + 1),P x:=fun x hm=>by
 rw [qp2 hn] at hm
 rcases List.mem_append.1 hm with hm | hm
 ·exact h x hm
 ·rw [List.mem_singleton] at hm; rw [hm]; exact hx
theorem qhN {l:List Int} {n:Nat} (h:n < l.length):l.getD n 0 ∈ l:=by
 rw [List.getD_eq_getElem?_getD,List.getElem?_eq_getElem h]; exact List.getElem_mem h
theorem qyG {d x:qd} {k:Nat} (h:k + x.length <= d.length):(bI (qaM d k x)).take (k + x.length) = (bI d).take k ++ bI x:=by
 rw [qaM,bI,List.map_append,List.map_append,List.append_assoc,<- List.append_assoc,List.take_append_of_le_length (by simp; omega),List.take_of_length_le (by simp; omega)]
 simp [bI,List.map_take]
theorem qvK {d x:qd} {k:Nat} (hd:qn d) (hx:qn x):qn (qaM d k x):=fun r hr=>by
 unfold qaM at hr
 rcases List.mem_append.1 hr with hr | hr
 ·rcases List.mem_append.1 hr with hr | hr
  ·exact hd r (List.mem_of_mem_take hr)
  ·exact hx r hr
 ·exact hd r (List.mem_of_mem_drop hr)
theorem q9j {d:qd} {n:Nat}:bI (d.drop n) = (bI d).drop n:=by simp [bI,List.map_drop]
theorem q4Y:qeX.ok Tryz.prog:=q5c (by simp [qlg,qiX,qgt]) fun ρ hg hp=>by
 obtain ⟨a0,a1,a2,a3,n0,n1⟩:0 <= (ρ 3).i/\(ρ 3).i <= (ρ 4).i/\(ρ 3).i <= (ρ 5).d.length/\qn (ρ 5).d/\0 <= (ρ 8).i/\(ρ 8).i = (ρ 10).d.length:=hp
 simp (config:={ maxSteps:=4000000 }) [qr3,qeX,qur,qwX,qa9,qay,qak]
 refine ⟨a0,fun v _ hv=>⟨fun hb=>.inl fun h=>?_,fun hb=>⟨n0,fun h=>.inr (.inl h),fun hn=>⟨fun h=>.inr (.inr (.inl h)),fun hn2=>?_⟩⟩⟩⟩
 ·have:=hv.2 h; rw [hb] at this; cases this
 have vA:qaH (ρ 0).i (ρ 1).i (ρ 3).i:=hv.1 hb
 have hok:quk (ρ 0).i (ρ 1).i (ρ 3).i (ρ 8).i:=⟨vA,by omega,hn2⟩
 have vA':=vA
 obtain ⟨r1,r2,c1,c2,hl⟩:=vA'
 have hil:(iI (ρ 10).d).length = (ρ 8).i.toNat:=by rw [qw1]; omega
 refine ⟨⟨hok,n0⟩,fun i _ _ i0 i1 hin=>⟨fun hi=>⟨i0,by omega,fun h=>?_,fun h0=>⟨fun h=>?_,fun h1=>?_⟩⟩,fun hi=>?_⟩⟩
 ·refine .inr (.inr (.inr ⟨qb (ρ 10).d i.i 0,?_,.inl h⟩))
  rw [<- qjD i0 (by omega)]; exact qhN (by omega)
 ·refine .inr (.inr (.inr ⟨qb (ρ 10).d i.i 0,?_,.inr h⟩))
  rw [<- qjD i0 (by omega)]; exact qhN (by omega)
 ·rw [add64 (by omega) (by omega)]
  refine ⟨⟨hok,by omega,by omega,?_⟩,by omega⟩
  rw [show (i.i + 1).toNat = i.i.toNat + 1 by omega]
  exact qtQ (by omega) hin (by rw [qjD i0 (by omega)]; exact ⟨h0,h1⟩)
 have hall:∀ x ∈ iI (ρ 10).d,0 <= x/\x < (ρ 0).i:=by
  rw [List.take_of_length_le (by omega)] at hin; exact hin
 have hbb:=qI (x:=(ρ 8).i) (y:=(ρ 1).i) n0 hn2 (by omega) c2
 refine ⟨⟨n0,hn2,by omega,c2⟩,fun l _ cp _ d _ hl1 hc1 hd=>⟨⟨hok,n0,hall,?_,by rw [hd,List.length_replicate]; omega,rfl⟩,fun j _ l2 _ cp2 _ d2 _ _ j0 j1 _ hM hL hS=>⟨fun hj=>?_,fun hj=>?_⟩⟩⟩
 ·exact ⟨n0,hn2,by omega,c2,hl1,by omega,by rw [hd,List.length_replicate]; omega,by rw [hd]; exact qds⟩
 ·have hx:=hall _ (qhN (l:=iI (ρ 10).d) (n:=j.i.toNat) (by omega))
  rw [qjD j0 (by omega)] at hx
  have hM':=hM
  obtain ⟨m1,m2,m3,m4,m5,m6,m7,m8⟩:=hM'
  refine ⟨j0,by omega,⟨j0,hj,hM⟩,fun o _ n _ k _ ho hn' hk=>⟨⟨hx.1,hx.2,by omega,r2,by omega,c2,hl,a1,a2,a3⟩,fun o' _ n' _ k' _ ho' hn'' hk'=>?_⟩⟩
  have hbj:=qI (x:=j.i) (y:=(ρ 1).i) j0 (show j.i <= 255 by omega) (by omega) c2
  have hbx:=qI (x:=qb (ρ 10).d j.i 0) (y:=(ρ 1).i) hx.1 (show _ <= 255 by omega) (by omega) c2
  have hle1:j.i * (ρ 1).i + (ρ 1).i <= (ρ 8).i * (ρ 1).i:=by
   have:=Int.mul_le_mul_of_nonneg_right (show j.i + 1 <= (ρ 8).i by omega) (show 0 <= (ρ 1).i by omega)
   rw [Int.add_mul,Int.one_mul] at this; omega
  have hle2:qb (ρ 10).d j.i 0 * (ρ 1).i + (ρ 1).i <= (ρ 0).i * (ρ 1).i:=by
   have:=Int.mul_le_mul_of_nonneg_right (show qb (ρ 10).d j.i 0 + 1 <= (ρ 0).i by omega) (show 0 <= (ρ 1).i by omega)
   rw [Int.add_mul,Int.one_mul] at this; omega
  rw [if_neg (by omega),add64 (by omega) (by omega)]
  have hseg:((((ρ 5).d.drop o'.i.toNat).take n'.i.toNat).take n.i.toNat) = ((ρ 5).d.drop o'.i.toNat).take (ρ 1).i.toNat:=by rw [List.take_take,hn',hn'',Nat.min_self]
  rw [hseg]
  have hsl:(((ρ 5).d.drop o'.i.toNat).take (ρ 1).i.toNat).length = (ρ 1).i.toNat:=by rw [List.length_take,List.length_drop]; omega
  refine ⟨by omega,by omega,by omega,by omega,by omega,by omega,⟨hok,by omega,by omega,hall,?_,?_,?_⟩,by omega⟩
  ·exact ⟨m1,m2,m3,m4,m5,m6,by rw [qgM (by rw [hsl]; omega)]; exact m7,qvK m8 fun r hr=>a3 r (List.mem_of_mem_drop (List.mem_of_mem_take hr))⟩
  ·rw [qgM (by rw [hsl]; omega)]; exact hL
  ·have hk1:((j.i + 1) * (ρ 1).i).toNat = o.i.toNat + (((ρ 5).d.drop o'.i.toNat).take (ρ 1).i.toNat).length:=by rw [hsl,Int.add_mul,Int.one_mul]; omega
   rw [hk1,qyG (by rw [hsl]; omega),ho,hS,show (j.i + 1).toNat = j.i.toNat + 1 by omega,q4D (by omega),qjD j0 (by omega),qn8,q9j,ho',seg]
   congr 3
   rw [Int.toNat_mul hx.1 (by omega)]
 ·have:j.i = (ρ 8).i:=by omega
  have hl8:=hM.2.2.2.2.1
  rw [this,List.take_of_length_le (by rw [bI_len]; omega),List.take_of_length_le (by omega)] at hS
  exact ⟨qqb hok hall,hM,hL,hS⟩
end Go.Proofs

set_option linter.unusedSimpArgs false
set_option linter.unusedVariables false
namespace Go.Eng
open Go Go.Proofs
def qcf (k total:Nat) (rs:List Int):Prop:=rs.length = k/\rs.Nodup/\∀ x ∈ rs,0 <= x/\x < (total:Int)
end Go.Eng
namespace Go.Proofs
open Go Go.Eng

theorem quW {i j:Nat}:del i j = del j i:=by
 unfold del
 by_cases hij:i = j
 ·rw [if_pos hij,if_pos hij.symm]
 ·rw [if_neg hij,if_neg (Ne.symm hij)]
theorem qrs {m:List Int} {k R:Nat} (hm:m.length = R * k):∀ {rs:List Int},(∀ x ∈ rs,0 <= x/\x < (R:Int))->∀ {i j:Nat},i < rs.length->j < k->(qdn m k rs).getD (i * k + j) 0 = m.getD ((rs.getD i 0).toNat * k + j) 0
 | [],_,i,j,hi,_=>by simp at hi
 | x :: rs,h,i,j,hi,hj=>by
  have hx:=h x (List.mem_cons_self ..)
  have hxk:x.toNat * k + k <= R * k:=by
   have h1:x.toNat + 1 <= R:=by omega
   have:=Nat.mul_le_mul_right k h1
   rw [Nat.add_mul] at this; omega
  have hsl:(seg m (x.toNat * k) k).length = k:=by rw [seg,List.length_take,List.length_drop]; omega
  rw [qdn,List.flatMap_cons]
  cases i with
  | zero =>
   rw [Nat.zero_mul,Nat.zero_add,List.getD_eq_getElem?_getD,List.getElem?_append_left (by rw [hsl]; exact hj),seg,List.getElem?_take,if_pos hj,List.getElem?_drop,<- List.getD_eq_getElem?_getD]
   rfl
  | succ i =>
   have ih:=qrs hm (rs:=rs) (fun y hy=>h y (List.mem_cons_of_mem _ hy)) (i:=i) (j:=j) (by simpa using hi) hj
   rw [List.getD_eq_getElem?_getD,List.getElem?_append_right (by rw [hsl,Nat.add_mul]; omega),hsl,show (i + 1) * k + j - k = i * k + j by rw [Nat.add_mul]; omega,<- List.getD_eq_getElem?_getD]
   exact ih
theorem qmr {m:List Int} {k:Nat} {rs:List Int} (h:qw m):qw (qdn m k rs):=fun x hx=>by
 rw [qdn,List.mem_flatMap] at hx
 obtain ⟨r,_,hx⟩:=hx
 exact h x (List.mem_of_mem_drop (List.mem_of_mem_take hx))
theorem qja {k total:Nat} {rs:List Int} (h:qcf k total rs) (ht:total <= 255):qbA k fun i=>xsF (rs.getD i 0).toNat:=by
 obtain ⟨h1,h2,h3⟩:=h
 intro i j hi hj he
 have gi:rs.getD i 0 = rs[i]'(by omega):=by rw [List.getD_eq_getElem?_getD,List.getElem?_eq_getElem (by omega)]; rfl
 have gj:rs.getD j 0 = rs[j]'(by omega):=by rw [List.getD_eq_getElem?_getD,List.getElem?_eq_getElem (by omega)]; rfl
 have mi:=h3 _ (List.getElem_mem (l:=rs) (n:=i) (by omega))
 have mj:=h3 _ (List.getElem_mem (l:=rs) (n:=j) (by omega))
 simp only [gi,gj] at he
 have:=qeY (n:=256) (Nat.le_refl _) _ _ (by omega) (by omega) he
 exact (List.getElem_inj (h₀:=by omega) (h₁:=by omega) h2).1 (by omega)
theorem qoM {m:List Int} {k total:Nat} {rs:List Int} (h:qcf k total rs) (hm:m.length = total * k):(qdn m k rs).length = k * k:=by
 rw [qxk (r:=total) (by omega) h.2.2,h.1]
theorem q8v {k total:Nat} {rs:List Int} (h:qcf k total rs) (h1:1 <= k) (hk:k <= total) (ht:total <= 255) {y:Nat->F}
  (hy:∀ i,i < k->qy (fun j=>qh (q7 k (qc8 k total) (rs.getD i 0).toNat j) (y j)) k = 0):∀ j,j < k->y j = 0:=by
 obtain ⟨g1,g2,g3,_⟩:=qfJ h1 hk ht
 obtain ⟨t2,he⟩:=qzf hk ht
 obtain ⟨_,m2⟩:=qsy he
 have hz:∀ l,l < k->qy (fun j=>qh (q7 k (qcm k total).2.1 l j) (y j)) k = 0:=qqP (qja h ht) fun i hi=>by
  rw [<- hy i hi]
  have hx:=h.2.2 (rs.getD i 0) (by rw [List.getD_eq_getElem?_getD,List.getElem?_eq_getElem (by rw [h.1]; exact hi)]; exact List.getElem_mem _)
  have e2:qy (fun j=>qh (q7 k (qc8 k total) (rs.getD i 0).toNat j) (y j)) k = qy (fun j=>qy (fun l=>qh (qh (qaN (xsF (rs.getD i 0).toNat) l) (q7 k (qcm k total).2.1 l j)) (y j)) k) k:=ql fun j hj=>by rw [g3 _ j (by omega) hj,qex]
  rw [e2,qfD]
  refine ql fun l hl=>?_
  rw [<- qd7]
  exact ql fun j hj=>by rw [qP]
 intro j hj
 have e1:y j = qy (fun i=>qh (y i) (del i j)) k:=(qhe (f:=y) hj).symm
 rw [e1,ql (g:=fun i=>qy (fun l=>qh (q7 k ((qb4 total k).take (k * k)) j l) (qh (q7 k (qcm k total).2.1 l i) (y i))) k) fun i hi=>?_,qfD]
 ·refine qcE fun l hl=>?_
  rw [qd7,hz l hl,q6]
 ·have:=m2 j i hj hi
  rw [show del i j = del j i from quW,<- this,qad,<- qex]
  exact ql fun l hl=>by rw [qP]
theorem qw5 {k total:Nat} {rs:List Int} (h:qcf k total rs) (h1:1 <= k) (hk:k <= total) (ht:total <= 255):(qe0 (qdn (qc8 k total) k rs) k).2.2 = k:=by
 obtain ⟨g1,g2,_,_⟩:=qfJ h1 hk ht
 refine qxz (qoM h g1) (qmr g2) fun y hy=>q8v h h1 hk ht fun i hi=>?_
 rw [<- hy i hi]
 refine ql fun j hj=>?_
 rw [q7,q7,qrs g1 h.2.2 (by rw [h.1]; exact hi) hj]

end Go.Proofs

set_option linter.unusedSimpArgs false
set_option linter.unusedVariables false
namespace Go.Eng
open Go Go.Proofs
end Go.Eng
namespace Go.Proofs
open Go Go.Eng
theorem q9P {h:Hp} {D:qd} {n:Nat} {f:Nat->List Int} (he:qfZ h D n f):qjw h D n/\∀ j,j < n->pcI D j = j/\pcD h D j = f j:=by
 refine ⟨fun j hj=>?_,fun j hj=>?_⟩
 ·obtain ⟨v,d,e,hr,_,hb⟩:=he j hj
  exact ⟨_,v,d,e,hr,hb⟩
 ·obtain ⟨v,d,e,hr,hf,hb⟩:=he j hj
  refine ⟨by simp [pcI,qb,qF,e,qag],?_⟩
  rw [pcD,show qF D (j:Int) 1 = v by simp [qF,e],qfM hr,hf]
end Go.Proofs

set_option linter.unusedSimpArgs false
set_option linter.unusedVariables false
namespace Go.Eng
open Go Go.Proofs

def qp8:Ctr:={ qdA with pre:=fun ρ=>qk (ρ 1).d/\qT (ρ 2).i (ρ 3).i = true,alts:=qdA.alts.drop 1 }
def qqf:Ctr:={ qeX with pre:=fun ρ=>qeX.pre ρ/\¬ qmK (ρ 0).i (ρ 1).i (ρ 3).i (ρ 8).i (ρ 0).i (iI (ρ 10).d),alts:=qeX.alts.drop 1 }
def qq3:Ctr:={ qa2 with pre:=fun ρ=>qa2.pre ρ/\qaH (ρ 2).i (ρ 3).i (ρ 5).i/\(ρ 2).i = (ρ 3).i/\(qe0 ((bI (ρ 7).d).take (ρ 5).i.toNat) (ρ 2).i.toNat).2.2 = (ρ 2).i.toNat,alts:=qa2.alts.drop 1 }
def qvE (n:Nat):List Int:=(List.range n).map fun (m:Nat)=>(m:Int)
end Go.Eng

set_option linter.unusedSimpArgs false
set_option linter.unusedVariables false
namespace Go.Eng
open Go Go.Proofs

def qbC (f:Nat->List Int) (w:List Int) (l:Nat):Nat->List Int
 | 0=>List.replicate l 0
 | j + 1=>qD (qbC f w l j) 0 (seg (f j) 0 l) (w.getD j 0)
end Go.Eng

set_option linter.unusedSimpArgs false
set_option linter.unusedVariables false
namespace Go.Eng
open Go Go.Proofs
end Go.Eng

set_option linter.unusedSimpArgs false
set_option linter.unusedVariables false
set_option maxRecDepth 100000
namespace Go.Proofs
open Go Go.Eng

end Go.Proofs

set_option linter.unusedSimpArgs false
set_option linter.unusedVariables false
namespace Go.Eng
open Go Go.Proofs

end Go.Eng

set_option linter.unusedSimpArgs false
set_option linter.unusedVariables false
namespace Go.Proofs
open Go Go.Eng

theorem q4j {h:Hp} {D:qd} {n:Int} {j:Int} (hp:qjw h D n.toNat) (h0:0 <= j) (h1:j < n):j < (D.length:Int)/\qb D j 0 = pcI D j.toNat/\∃ d,Rd h kB (qF D j 1) d/\qn d/\pcD h D j.toNat = bI d:=by
 obtain ⟨v,d,e,hv,hr,hb,hd⟩:=quf hp (j:=j.toNat) (by omega)
 rw [Int.toNat_of_nonneg h0] at hv
 have hl:=(List.getElem?_eq_some_iff.1 e).1
 exact ⟨by omega,by rw [pcI,Int.toNat_of_nonneg h0],d,by rw [hv]; exact hr,hb,hd⟩
theorem qkw {f:Nat->List Int} {w:List Int} {l:Nat}:∀ j,(qbC f w l j).length = l
 | 0=>by simp [qbC]
 | j + 1=>by rw [qbC,qbP,qkw j]
end Go.Proofs

set_option linter.unusedSimpArgs false
set_option linter.unusedVariables false
set_option maxRecDepth 100000
namespace Go.Proofs
open Go Go.Eng

end Go.Proofs

set_option linter.unusedSimpArgs false
set_option linter.unusedVariables false
namespace Go.Proofs
open Go Go.Eng
theorem qyK {n:Nat}:(qvE n).Nodup:=List.pairwise_map.2 (List.nodup_range.imp fun h e=>h (by omega))
theorem q2V {n:Nat} {x:Int} (h:x ∈ qvE n):0 <= x/\x < n:=by
 obtain ⟨m,hm,rfl⟩:=List.mem_map.1 h
 have:=List.mem_range.1 hm
 omega
theorem qix {o l:List Int} {n k:Nat} (h:(o ++ l).Perm (qvE n)) (hk:o.length = k):o.length = k/\o.Nodup/\∀ x ∈ o,0 <= x/\x < (n:Int) :=
 ⟨hk,(List.nodup_append.1 (h.nodup_iff.2 qyK)).1,fun x hx=>q2V (h.mem_iff.1 (List.mem_append_left _ hx))⟩
theorem q81:qp8.ok Tryz.prog:=Ctr.ok_less quU rfl rfl rfl rfl rfl (fun _ h=>h.1) fun ρ ρ' ai al hp hag hal hpost=>by
 match ai,hal with
 | 0,hal =>
  exfalso
  obtain rfl:=Option.some.inj hal
  obtain ⟨_,h2⟩:_/\(qT ((ρ'.upto 5) 2).i ((ρ'.upto 5) 3).i = true->(qcm ((ρ'.upto 5) 2).i.toNat ((ρ'.upto 5) 3).i.toNat).2.2 < ((ρ'.upto 5) 2).i.toNat):=hpost
  have e:=qrm (m:=5) (nv:=4) hag (by omega)
  rw [e 2 (by omega),e 3 (by omega)] at h2
  obtain ⟨k1,k2,k3⟩:=qbH.1 hp.2
  have:=h2 hp.2
  rw [qvJ (by omega) (by omega)] at this
  omega
 | 1,hal=>exact ⟨0,hal⟩
 | n + 2,hal=>cases hal
theorem q85:qqf.ok Tryz.prog:=Ctr.ok_less q4Y rfl rfl rfl rfl rfl (fun _ h=>h.1) fun ρ ρ' ai al hp hag hal hpost=>by
 match ai,hal with
 | 0,hal =>
  exfalso
  obtain rfl:=Option.some.inj hal
  have h2:qmK ((ρ'.upto 12) 0).i ((ρ'.upto 12) 1).i ((ρ'.upto 12) 3).i ((ρ'.upto 12) 8).i ((ρ'.upto 12) 0).i (iI ((ρ'.upto 12) 10).d):=hpost
  have e:=qrm (m:=12) (nv:=12) hag (by omega)
  rw [e 0 (by omega),e 1 (by omega),e 3 (by omega),e 8 (by omega),e 10 (by omega)] at h2
  exact hp.2 h2
 | 1,hal=>exact ⟨0,hal⟩
 | n + 2,hal=>cases hal
theorem q8O:qq3.ok Tryz.prog:=Ctr.ok_less qmn rfl rfl rfl rfl rfl (fun _ h=>h.1) fun ρ ρ' ai al hp hag hal hpost=>by
 match ai,hal with
 | 0,hal =>
  exfalso
  obtain rfl:=Option.some.inj hal
  have e:=qrm (m:=11) (nv:=9) hag (by omega)
  obtain ⟨_,h2⟩:=hpost
  simp only [show (9 + 2:Nat) = 11 from rfl,show qa2.nv = 9 from rfl] at h2
  rw [e 2 (by omega),e 3 (by omega),e 5 (by omega),e 7 (by omega)] at h2
  obtain ⟨_,p1,p2,p3⟩:=hp
  rcases h2 with ⟨h,_⟩ | ⟨_,h,_⟩ | ⟨_,_,h,_⟩
  ·exact h p1
  ·exact h p2
  ·rw [p3] at h; omega
 | 1,hal=>exact ⟨0,hal⟩
 | n + 2,hal=>cases hal
end Go.Proofs

set_option linter.unusedSimpArgs false
set_option linter.unusedVariables false
namespace Go.Proofs
open Go Go.Eng
end Go.Proofs

set_option linter.unusedSimpArgs false
set_option linter.unusedVariables false
namespace Go.Proofs
open Go Go.Eng
set_option maxRecDepth 20000
end Go.Proofs

set_option linter.unusedSimpArgs false
set_option linter.unusedVariables false
namespace Go.Eng
open Go Go.Proofs
def blk:Value->Option Nat
 | .slice (some a) _ _=>some a.block
 | _=>none
def qdR (h:Hp) (vs:Nat->Value) (n:Nat) (M:Nat->List Int):Prop :=
 (∀ j,j < n->∃ d,Rd h kB (vs j) d/\bI d = M j/\qn d)/\∀ i j,i < n->j < n->i ≠ j->M i ≠ []->M j ≠ []->blk (vs i) ≠ blk (vs j)
end Go.Eng
namespace Go.Proofs
open Go Go.Eng
theorem qpD {d:qd}:bI d = []↔d = []:=by
 constructor
 ·intro h
  have:=congrArg List.length h
  rw [bI_len] at this
  exact List.length_eq_zero_iff.1 (by simpa using this)
 ·rintro rfl; rfl
theorem qp3 {h:Hp} {pat:List CK} {v:Value} {d:qd} (hr:Rd h pat v d) (hd:d ≠ []):∃ b o cap c ty fr,v = .slice (some ⟨b,o,none⟩) d.length cap/\d.length <= cap/\blk v = some b/\h b = some (.cells c ty fr)/\qU c o pat d:=by
 rcases hr with ⟨a,_,h0⟩ | ⟨b,o,cap,c,ty,fr,h1,h2,h3,h4⟩
 ·exact (hd h0).elim
 ·exact ⟨b,o,cap,c,ty,fr,h1,h2,by rw [h1]; rfl,h3,h4⟩
theorem qpr {h:Hp} {vs:Nat->Value} {n j:Nat} {M:Nat->List Int} (ht:qdR h vs n M) (hj:j < n):∃ d,Rd h kB (vs j) d/\bI d = M j/\qn d:=ht.1 j hj
theorem q5N {h h':Hp} {vs:Nat->Value} {n:Nat} {M:Nat->List Int} (ht:qdR h vs n M) (hl:Hp.le h h'):qdR h' vs n M :=
 ⟨fun j hj=>by obtain ⟨d,h1,h2⟩:=ht.1 j hj; exact ⟨d,qfE h1 hl,h2⟩,ht.2⟩
theorem qi9 {h:Hp} {vs vs':Nat->Value} {n:Nat} {M M':Nat->List Int} (ht:qdR h vs n M) (hv:∀ j,j < n->vs' j = vs j) (hM:∀ j,j < n->M' j = M j):qdR h vs' n M' :=
 ⟨fun j hj=>by rw [hv j hj,hM j hj]; exact ht.1 j hj,fun i j hi hj hne h1 h2=>by rw [hv i hi,hv j hj]; rw [hM i hi] at h1; rw [hM j hj] at h2; exact ht.2 i j hi hj hne h1 h2⟩
theorem q8u {h hx H:Hp} {vs vs':Nat->Value} {n:Nat} {M M':Nat->List Int} {v:Value} {d:qd} (ht:qdR h vs n M) (hl:Hp.le h H) (hr:Rd hx kB v d) (hlx:Hp.le hx H) (hdis:Hp.disj hx h) (hB:qn d)
  (hv:∀ j,j < n->vs' j = vs j) (hvn:vs' n = v) (hM:∀ j,j < n->M' j = M j) (hMn:M' n = bI d):qdR H vs' (n + 1) M':=by
 have key:∀ j,j < n->M j ≠ []->d ≠ []->blk (vs j) ≠ blk v:=fun j hj hne hd he=>by
  obtain ⟨dj,h1,h2,_⟩:=ht.1 j hj
  obtain ⟨b,_,_,c,ty,fr,_,_,e1,hb,_⟩:=qp3 h1 (fun h0=>hne (by rw [<- h2,h0]; rfl))
  obtain ⟨b',_,_,c',ty',fr',_,_,e2,hb',_⟩:=qp3 hr hd
  rw [e1,e2,Option.some.injEq] at he
  subst he
  rcases hdis b with h0 | h0
  ·rw [hb'] at h0; cases h0
  ·rw [hb] at h0; cases h0
 refine ⟨fun j hj=>?_,fun i j hi hj hne h1 h2=>?_⟩
 ·by_cases hjn:j = n
  ·subst hjn
   exact ⟨d,by rw [hvn]; exact qfE hr hlx,hMn.symm,hB⟩
  ·obtain ⟨dj,e1,e2,e3⟩:=ht.1 j (by omega)
   exact ⟨dj,by rw [hv j (by omega)]; exact qfE e1 hl,by rw [hM j (by omega)]; exact e2,e3⟩
 ·by_cases hin:i = n
  ·subst hin
   rw [hvn,hv j (by omega)]
   rw [hM j (by omega)] at h2
   rw [hMn] at h1
   exact fun he=>key j (by omega) h2 (fun h0=>h1 (qpD.2 h0)) he.symm
  ·by_cases hjn:j = n
   ·subst hjn
    rw [hvn,hv i (by omega)]
    rw [hM i (by omega)] at h1
    rw [hMn] at h2
    exact key i (by omega) h1 fun h0=>h2 (qpD.2 h0)
   ·rw [hv i (by omega),hv j (by omega)]
    rw [hM i (by omega)] at h1; rw [hM j (by omega)] at h2
    exact ht.2 i j (by omega) (by omega) hne h1 h2
theorem q2l {c0 c1:Array Value} {o k:Nat} {d:qd} {x:Int} (hd:qU c0 o kB d) (hw:qhv c0 c1 (o + k) [.int .u8 x]) (hk:k < d.length):qU c1 o kB (qbi d k 0 [.int .u8 x]):=by
 obtain ⟨_,hw⟩:=hw
 intro i row hi
 unfold qbi at hi
 rw [List.getElem?_set] at hi
 split at hi
 ·rename_i hik
  split at hi
  ·simp only [Option.some.injEq] at hi
   subst hi
   obtain ⟨⟨hl,hf⟩,hc⟩:=hd _ _ (List.getElem?_eq_getElem (l:=d) (i:=((k:Int).toNat)) (by simpa using hk))
   have hrow:qaq ((d[(k:Int).toNat]?).getD []) 0 [.int .u8 x] = [.int .u8 x]:=by
    rw [List.getElem?_eq_getElem (by simpa using hk),Option.getD_some]
    unfold qaq
    rw [List.take_zero,List.nil_append,List.drop_eq_nil_of_le (by rw [hl]; simp [kB]),List.append_nil]
   rw [hrow]
   refine ⟨⟨rfl,fun c kk v hkk hv=>?_⟩,fun c v hv=>?_⟩
   ·cases c with
    | zero =>
     simp only [kB,List.getElem?_cons_zero,Option.some.injEq] at hkk hv
     subst hkk hv; rfl
    | succ c=>simp [kB] at hkk
   ·cases c with
    | zero =>
     simp only [List.getElem?_cons_zero,Option.some.injEq] at hv
     subst hv
     rw [hw,if_pos (by simp [kB] at hik ⊢; omega)]
     have:o + i * kB.length + 0 - (o + k) = 0:=by simp [kB] at hik ⊢; omega
     rw [this]; rfl
    | succ c=>simp at hv
  ·cases hi
 ·rename_i hik
  obtain ⟨hf,hc⟩:=hd i row hi
  refine ⟨hf,fun c v hv=>?_⟩
  have hcl:c < 1:=by
   have:=(List.getElem?_eq_some_iff.1 hv).1
   rw [hf.1] at this
   simpa [kB] using this
  rw [hw,if_neg (by simp [kB] at hik ⊢; omega)]
  exact hc c v hv
theorem q8J {h h':Hp} {vs:Nat->Value} {n i:Nat} {M:Nat->List Int} {r:Option Addr} {d:qd} {k:Nat} {x:Int} {cap:Nat} (ht:qdR h vs n M) (hi:i < n) (hP:Put h h' r kB d k [.int .u8 x]) (hv:vs i = .slice (qm r 0) d.length cap)
  (hr:Rd h kB (vs i) d) (hk:k < d.length) (hx:0 <= x/\x < 256):qdR h' vs n (fun j=>if j = i then (M i).set k x else M j):=by
 obtain ⟨b,o,c0,c1,ty,rfl,hb,hrows,hw,rfl⟩:=hP
 rw [qjh] at hv
 have hdn:d ≠ []:=fun h0=>by rw [h0] at hk; cases hk
 obtain ⟨di,r1,m1,b1⟩:=ht.1 i hi
 obtain rfl:=qiY r1 hr
 have hcap:di.length <= cap:=by
  obtain ⟨_,_,cap',_,_,_,e1,e2,_⟩:=qp3 hr hdn
  rw [hv] at e1
  simp only [Value.slice.injEq] at e1
  omega
 have hbi:blk (vs i) = some b:=by rw [hv]; rfl
 have hMi:M i ≠ []:=fun h0=>hdn (qpD.1 (by rw [m1,h0]))
 have hlen:∀ j,((if j = i then (M i).set k x else M j) = [])↔M j = []:=fun j=>by
  by_cases hj:j = i
  ·subst hj
   rw [if_pos rfl]
   constructor
   ·intro h0
    have:=congrArg List.length h0
    rw [List.length_set] at this
    exact List.length_eq_zero_iff.1 (by simpa using this)
   ·intro h0; rw [h0]; rfl
  ·rw [if_neg hj]
 refine ⟨fun j hj=>?_,fun i' j hi' hj hne h1 h2=>ht.2 i' j hi' hj hne (fun h0=>h1 ((hlen i').2 h0)) (fun h0=>h2 ((hlen j).2 h0))⟩
 by_cases hji:j = i
 ·subst hji
  refine ⟨qbi di k 0 [.int .u8 x],.inr ⟨b,o,cap,c1,ty,(0,0),by rw [hv,qcv],by rw [qcv]; exact hcap,by simp [Hp.upd],q2l hrows hw hk⟩,?_,qip b1 hx.1 hx.2⟩
  simp only [if_true]
  rw [qjR,m1]; rfl
 ·simp only [if_neg hji]
  obtain ⟨dj,r2,m2,b2⟩:=ht.1 j hj
  refine ⟨dj,?_,m2,b2⟩
  by_cases hdj:dj = []
  ·subst hdj
   rcases r2 with h0 | ⟨b',o',cap',c',ty',fr',e1,e2,e3,e4⟩
   ·exact .inl h0
   ·by_cases hbb:b' = b
    ·exact .inr ⟨b',o',cap',c1,ty,(0,0),e1,e2,by simp [Hp.upd,hbb],fun q row hq=>by simp at hq⟩
    ·exact .inr ⟨b',o',cap',c',ty',fr',e1,e2,by simp only [Hp.upd,if_neg hbb]; exact e3,e4⟩
  ·obtain ⟨b',o',cap',c',ty',fr',e1,e2,e3,e4,e5⟩:=qp3 r2 hdj
   have hbb:b' ≠ b:=fun h0=>by
    refine ht.2 j i hj hi hji (fun h0=>hdj (qpD.1 (by rw [m2,h0]))) hMi ?_
    rw [e3,hbi,h0]
   exact .inr ⟨b',o',cap',c',ty',fr',e1,e2,by simp only [Hp.upd,if_neg hbb]; exact e4,e5⟩
theorem qvS {ρ:Env} {x y:SH}:∀ {l1 l2:List SH} {H:Hp},qW ρ (l1 ++ x :: l2) H->y ∈ l2->∃ hx hy,Hp.disj hx hy/\Hp.le hx H/\Hp.le hy H/\x.den ρ hx/\y.den ρ hy
 | [],l2,H,⟨h1,h2,hd,hu,hx,hs⟩,hy=>by
  subst hu
  obtain ⟨g,g1,g2⟩:=qii hs hy
  refine ⟨h1,g,fun b=>?_,Hp.le_left _ _,Hp.le_trans g1 (Hp.le_right hd),hx,g2⟩
  rcases hd b with h0 | h0
  ·exact .inl h0
  ·right
   cases hg:g b with
   | none=>rfl
   | some v=>rw [g1 _ _ hg] at h0; cases h0
 | z :: l1,l2,H,⟨h1,h2,hd,hu,hz,hs⟩,hy=>by
  subst hu
  obtain ⟨hx,hy',e1,e2,e3,e4⟩:=qvS (l1:=l1) hs hy
  exact ⟨hx,hy',e1,Hp.le_trans e2 (Hp.le_right hd),Hp.le_trans e3 (Hp.le_right hd),e4⟩
theorem q8j {h h1 h2:Hp} (hd:Hp.disj h h1) (hl:Hp.le h2 h1):Hp.disj h h2:=fun b=>by
 rcases hd b with h0 | h0
 ·exact .inl h0
 ·right
  cases hg:h2 b with
  | none=>rfl
  | some v=>rw [hl _ _ hg] at h0; cases h0
end Go.Proofs

set_option linter.unusedSimpArgs false
set_option linter.unusedVariables false
namespace Go.Eng
open Go Go.Proofs
def tvs (D:qd):Nat->Value:=fun j=>qF D j 0
end Go.Eng

set_option linter.unusedSimpArgs false
set_option linter.unusedVariables false
namespace Go.Eng
open Go Go.Proofs
def qfv (len:Int) (L:Nat->Nat):Int:=if len < 0 then (L 0:Int) else len
def qhO (total len:Int) (I:Nat->Int) (L:Nat->Nat) (i:Nat):Prop:=∀ j,j < i->(0 <= I j/\I j < total)/\(∀ j',j' < j->I j' ≠ I j)/\(len < 0->L j <= 8192)/\(L j:Int) = qfv len L
def qp1 (total len:Int) (I:Nat->Int) (L:Nat->Nat) (i:Nat) (e:Int):Prop :=
 (¬ (0 <= I i/\I i < total)/\e = 2)∨((0 <= I i/\I i < total)/\(∃ j,j < i/\I j = I i)/\e = 7) ∨
 ((0 <= I i/\I i < total)/\(∀ j,j < i->I j ≠ I i)/\(len < 0/\8192 < L i)/\e = 3)∨((0 <= I i/\I i < total)/\(∀ j,j < i->I j ≠ I i)/\¬ (len < 0/\8192 < L i)/\(L i:Int) ≠ qfv len L/\e = 10)
def qr8 (k total len:Int) (n:Nat) (I:Nat->Int) (L:Nat->Nat) (e:Int):Prop :=
 (∃ i,i < n/\qhO total len I L i/\qp1 total len I L i e)∨(qhO total len I L n/\(((n:Int) < k/\e = 12)∨(k <= (n:Int)/\e = 0)))
noncomputable def pcN (h:Hp) (D:qd) (j:Nat):Nat:=(pcD h D j).length
def qud (fn t:Nat):Ctr:={ fn:=fn,nv:=9,args:=[iv .i64 (.var 0),iv .i64 (.var 1),iv .i64 (.var 2),pcS 3 4 5],heap:=[],ro:=[qht 3 6 7,.abs 8 t],pre:=fun ρ=>(ρ 1).i <= 255/\0 <= (ρ 4).i/\(ρ 4).i <= 17592186043904/\qjw (ρ 8).h (ρ 6).d (ρ 4).i.toNat,alts:=[{ k:=1,ret:=iv .i64 (.var 9),heap:=[],post:=fun ρ=>qr8 (ρ 0).i (ρ 1).i (ρ 2).i (ρ 4).i.toNat (pcI (ρ 6).d) (pcN (ρ 8).h (ρ 6).d) (ρ 9).i }] }
def qb3:Ctr:={ qud 110 4 with ip:=[(1000,9),(1001,9)] }
def q5W:List CK:=List.replicate 255 .bool
def qpI (s:qd) (I:Nat->Int) (i:Nat):Prop:=(∃ row,s = [row]/\row.length = 255)/\∀ x:Int,0 <= x->x < 255->(qap s x.toNat = true↔∃ j,j < i/\I j = x)
def qAc:List (Nat × SV):=[(0,iv .i64 (.var 0)),(1,iv .i64 (.var 1)),(2,iv .i64 (.var 2)),(3,pcS 3 4 5)]
def okR (ρ:Env) (i:Nat):Prop:=qhO (ρ 1).i (ρ 2).i (pcI (ρ 6).d) (pcN (ρ 8).h (ρ 6).d) i
def qoX:Inv:={ key:=3,nv:=3,env:=qAc ++ [(9,.one (.vptr 1001 (.lit 0) 255 0)),(13,pcS 3 4 5),(14,iv .i64 (.var 4)),(15,iv .i64 (.var 1000))],heap:=[.arr 1001 225 q5W (.var 1002) (.lit 1)],inv:=(fun ρ=>0 <= (ρ 1000).i/\(ρ 1000).i <= (ρ 4).i/\okR ρ (ρ 1000).i.toNat/\qpI (ρ 1002).d (pcI (ρ 6).d) (ρ 1000).i.toNat),mu:=(fun ρ=>((ρ 4).i - (ρ 1000).i).toNat) }
def rdB (h:Hp) (v:Value):Prop:=∃ d,Rd h kB v d/\qn d
def q9Q (r l c:Nat):SV:=.one (.vslice r (.lit 0) (.var l) (.var c) 1)
def qlk (h h':Hp) (v:Value) (g:List Int->List Int):Prop:=∀ (vs:Nat->Value) (n:Nat) (M:Nat->List Int) (i:Nat),qdR h vs n M->i < n->vs i = v->qdR h' vs n fun j=>if j = i then g (M i) else M j
def q2I (h:Hp) (v:Value) (l:Nat):Prop:=∃ (vs:Nat->Value) (n:Nat) (M:Nat->List Int) (i:Nat),qdR h vs n M/\i < n/\vs i = v/\l <= (M i).length
def qfq:Ctr:={ fn := 124,nv:=7,ow:=[1003,3012,19],args:=[qaD,.one (.var 2),.one (.var 3),iv .u8 (.var 4)],heap:=[fHp 1,.abs 5 2],ro:=[.abs 6 4],pre:=fun ρ=>qk (ρ 1).d/\rdB (ρ 6).h (ρ 3).v/\(rdL (ρ 6).h (ρ 3).v).length <= 10000/\q2I (ρ 5).h (ρ 2).v (rdL (ρ 6).h (ρ 3).v).length/\qBq (ρ 4).i,alts:=[
 { k:=2,ret:=.tup [],heap:=[fHp 7,.abs 8 2],post:=fun ρ=>qk (ρ 7).d/\qlk (ρ 5).h (ρ 8).h (ρ 2).v fun l=>qD l 0 (rdL (ρ 6).h (ρ 3).v) (ρ 4).i }] }
def qsl:Inv:={ key:=2,nv:=5,env:=[(0,qaD),(1,.one (.var 2)),(3,iv .u8 (.var 4)),(12,.one (.var 1004)),(13,iv .i64 (.var 1002)),(14,iv .i64 (.var 1000))],heap:=[fHp 1001,.abs 1003 2],inv:=(fun ρ=>qk (ρ 1001).d/\0 <= (ρ 1000).i/\(ρ 1000).i <= (ρ 1002).i/\(ρ 1002).i = ((rdL (ρ 6).h (ρ 3).v).length:Int)/\(ρ 1004).v = (ρ 3).v/\qlk (ρ 5).h (ρ 1003).h (ρ 2).v fun l=>qD l 0 (seg (rdL (ρ 6).h (ρ 3).v) 0 (ρ 1000).i.toNat) (ρ 4).i),mu:=(fun ρ=>((ρ 1002).i - (ρ 1000).i).toNat) }
noncomputable def qc9 (D:qd) (k:Nat):List Int:=(List.range k).map (pcI D)
noncomputable def qa3 (h:Hp) (D:qd):Nat->List Int:=fun j=>rdL h (tvs D j)
def qbK:Ctr:={ fn := 153,nv:=14,args:=[qaD,.one (.vslice 2 (.lit 0) (.var 3) (.var 4) 1),bSl 7 8 9 10],heap:=[fHp 1],ro:=[.arr 2 22 [.any] (.var 5) (.var 6),bHp 7 11 12,.abs 13 2],pre:=fun ρ=>qk (ρ 1).d/\1 <= (ρ 3).i/\(ρ 3).i <= 255/\(ρ 3).i <= (ρ 5).d.length/\(∀ row ∈ (ρ 5).d,row.length = 1)/\(ρ 9).i = (ρ 3).i/\0 <= (ρ 8).i/\(ρ 8).i + (ρ 9).i <= (ρ 11).d.length/\qn (ρ 11).d/\(∀ j,j < (ρ 3).i.toNat->rdB (ρ 13).h (tvs (ρ 5).d j)/\(qa3 (ρ 13).h (ρ 5).d j).length = (qa3 (ρ 13).h (ρ 5).d 0).length)/\(qa3 (ρ 13).h (ρ 5).d 0).length <= 9000,alts:=[
 { k:=5,ret:=.one (.vslice 14 (.lit 0) (.var 15) (.var 16) 1),heap:=[fHp 17,bHp 14 18 16],post:=fun ρ=>qk (ρ 17).d/\(ρ 15).i = (ρ 18).d.length/\(ρ 18).d.length = (qa3 (ρ 13).h (ρ 5).d 0).length/\qn (ρ 18).d/\bI (ρ 18).d = qbC (qa3 (ρ 13).h (ρ 5).d) (seg (bI (ρ 11).d) (ρ 8).i.toNat (ρ 3).i.toNat) (qa3 (ρ 13).h (ρ 5).d 0).length (ρ 3).i.toNat }] }
def qkM:Inv:={ key:=3,nv:=6,env:=[(0,qaD),(1,.one (.vslice 2 (.lit 0) (.var 3) (.var 4) 1)),(7,q9Q 1000 1001 1002),(15,bSl 7 8 9 10),(16,iv .i64 (.var 9)),(17,iv .i64 (.var 1004))],heap:=[fHp 1005,bHp 1000 1003 1002],inv:=(fun ρ=>qk (ρ 1005).d/\0 <= (ρ 1004).i/\(ρ 1004).i <= (ρ 9).i/\(ρ 1001).i = (ρ 1003).d.length/\(ρ 1003).d.length = (qa3 (ρ 13).h (ρ 5).d 0).length/\qn (ρ 1003).d/\bI (ρ 1003).d = qbC (qa3 (ρ 13).h (ρ 5).d) (seg (bI (ρ 11).d) (ρ 8).i.toNat (ρ 3).i.toNat) (qa3 (ρ 13).h (ρ 5).d 0).length (ρ 1004).i.toNat),mu:=(fun ρ=>((ρ 9).i - (ρ 1004).i).toNat) }
noncomputable def qgF (h:Hp) (D:qd) (k:Nat) (x:Int):List Int:=qbC (pcD h D) (qma (qc9 D k) x) (pcN h D 0) k
def qj8 (total k:Nat) (rs:List Int):List Int:=(qe0 (qdn (qc8 k total) k rs) k).2.1
noncomputable def qnj (h:Hp) (D:qd) (total k:Nat) (i:Nat):List Int:=qbC (pcD h D) (seg (qj8 total k (qc9 D k)) (i * k) k) (pcN h D 0) k
def q3E (h:Hp) (D:qd) (k total n:Int):Prop:=qT k total = true/\k <= n/\n <= 17592186043904/\qjw h D n.toNat/\qcf k.toNat total.toNat (qc9 D k.toNat)/\pcN h D 0 <= 8192/\∀ j,j < k.toNat->pcN h D j = pcN h D 0
def qsr (ρ:Env) (l c d:Nat):Prop:=qK (ρ 3).i (ρ 2).i (ρ l).i (ρ c).i (ρ d).d/\bI (ρ d).d = qc8 (ρ 2).i.toNat (ρ 3).i.toNat
def qb0:Ctr:={ fn := 111,nv:=10,ip:=[(1000,9),(1001,9)],args:=[qaD,iv .i64 (.var 2),iv .i64 (.var 3),pcS 4 5 6],heap:=[fHp 1],ro:=[qht 4 7 8,.abs 9 4],pre:=fun ρ=>qk (ρ 1).d/\q3E (ρ 9).h (ρ 7).d (ρ 2).i (ρ 3).i (ρ 5).i,alts:=[
 { k:=8,ret:=.tup [(false,[.vslice 10 (.lit 0) (.var 2) (.var 2) 1]),qop (.var 3) (.var 2) 11 12 13],heap:=[fHp 14,.arr 10 22 [.any] (.var 15) (.var 2),.abs 16 2,bHp 11 17 13],post:=fun ρ=>qk (ρ 14).d/\(ρ 15).d.length = (ρ 2).i.toNat/\(∀ row ∈ (ρ 15).d,row.length = 1)/\qdR (ρ 16).h (tvs (ρ 15).d) (ρ 2).i.toNat (qnj (ρ 9).h (ρ 7).d (ρ 3).i.toNat (ρ 2).i.toNat)/\qsr ρ 12 13 17 }] }
def q47:List (Nat × SV):=[(0,qaD),(1,iv .i64 (.var 2)),(3,pcS 4 5 6),(9,.one (.vptr 1010 (.lit 0) 3 0)),(10,.one (.vptr 1004 (.lit 0) 3 0))]
def q7D:List SH:=[fHp 1003,q0l 1010,qin 1004 3 2 1005 1006 1007,bHp 1005 1008 1007]
def qo0:Inv:={ key:=4,nv:=11,env:=q47 ++ [(12,.one (.vslice 1000 (.lit 0) (.var 2) (.var 2) 1)),(31,.one (.vslice 1000 (.lit 0) (.var 2) (.var 2) 1)),(32,iv .i64 (.var 2)),(33,iv .i64 (.var 1002))],heap:=q7D ++ [iHp 1000 1001 2],inv:=(fun ρ=>qk (ρ 1003).d/\qsr ρ 1006 1007 1008/\0 <= (ρ 1002).i/\(ρ 1002).i <= (ρ 2).i/\(ρ 1001).d.length = (ρ 2).i.toNat/\∀ j:Int,0 <= j->j < (ρ 1002).i->qb (ρ 1001).d j 0 = qb (ρ 7).d j 0),mu:=(fun ρ=>((ρ 2).i - (ρ 1002).i).toNat) }
def qzB:List (Nat × SV):=q47 ++ [(16,.one (.vptr 1011 (.lit 0) 3 0)),(18,.one (.vslice 1016 (.lit 0) (.var 2) (.var 2) 1)),(59,.one (.vslice 1016 (.lit 0) (.var 2) (.var 2) 1)),(60,iv .i64 (.var 2)),(61,iv .i64 (.var 1002))]
def q33:List SH:=q7D ++ [qin 1011 2 2 1012 1013 1014,bHp 1012 1015 1014,.arr 1016 22 [.any] (.var 1017) (.var 2),.abs 1018 2]
noncomputable def q60 (ρ:Env):Nat->List Int:=qnj (ρ 9).h (ρ 7).d (ρ 3).i.toNat (ρ 2).i.toNat
def q7p (ρ:Env):Prop:=qk (ρ 1003).d/\qsr ρ 1006 1007 1008/\qK (ρ 2).i (ρ 2).i (ρ 1013).i (ρ 1014).i (ρ 1015).d/\bI (ρ 1015).d = qj8 (ρ 3).i.toNat (ρ 2).i.toNat (qc9 (ρ 7).d (ρ 2).i.toNat)/\(ρ 1017).d.length = (ρ 2).i.toNat/\(∀ row ∈ (ρ 1017).d,row.length = 1)/\0 <= (ρ 1002).i/\(ρ 1002).i <= (ρ 2).i
def qoN:Inv:={ key:=12,nv:=19,env:=qzB,heap:=q33,inv:=(fun ρ=>q7p ρ/\qdR (ρ 1018).h (tvs (ρ 1017).d) (ρ 1002).i.toNat (q60 ρ)),mu:=(fun ρ=>((ρ 2).i - (ρ 1002).i).toNat) }
def qo6 (w:Nat):Inv:={ key:=16,nv:=23,env:=qzB ++ [(19,iv .i64 (.var 1002)),(75,bSl 1012 1020 1021 1022),(76,iv .i64 (.var 1021)),(77,iv .i64 (.var 1019))],heap:=q33,inv:=(fun ρ=>q7p ρ/\(ρ 1002).i < (ρ 2).i/\(ρ 1002).i = (ρ w).i/\(ρ 1020).i = (ρ 1002).i * (ρ 2).i/\(ρ 1021).i = (ρ 2).i/\0 <= (ρ 1019).i/\(ρ 1019).i <= (ρ 2).i /\
 qdR (ρ 1018).h (tvs (ρ 1017).d) ((ρ 1002).i.toNat + 1) (fun r=>if r = (ρ 1002).i.toNat then qbC (pcD (ρ 9).h (ρ 7).d) (seg (qj8 (ρ 3).i.toNat (ρ 2).i.toNat (qc9 (ρ 7).d (ρ 2).i.toNat)) ((ρ 1002).i.toNat * (ρ 2).i.toNat) (ρ 2).i.toNat) (pcN (ρ 9).h (ρ 7).d 0) (ρ 1019).i.toNat else q60 ρ r)),mu:=(fun ρ=>((ρ 2).i - (ρ 1019).i).toNat) }
end Go.Eng

set_option linter.unusedSimpArgs false
set_option linter.unusedVariables false
namespace Go.Eng
open Go Go.Proofs
noncomputable def qv6 (h:Hp) (D:qd) (k total len:Int) (n:Int) (e:Int):Prop:=qr8 k total len n.toNat (pcI D) (pcN h D) e
def q9S (h:Hp) (D:qd) (k total n index e:Int):Prop:=((qT k total = false∨index < 0∨total <= index)/\e = 2)∨(qT k total = true/\0 <= index/\index < total/\qv6 h D k total (-1) n e/\e ≠ 0)
def q5d (h:Hp) (D:qd) (k total n index:Int):Prop:=qT k total = true/\0 <= index/\index < total/\qv6 h D k total (-1) n 0
def qhC (h:Hp) (D:qd) (n:Int):Prop:=0 <= n/\n <= 17592186043904/\qjw h D n.toNat
def q7X:Bool × List T:=(true,[.vint .i64 (.lit 0),.vnils])
def qbJ:Ctr:={ fn := 125,nv:=11,ip:=[(1000,9),(1001,9)],args:=[qaD,iv .i64 (.var 2),iv .i64 (.var 3),pcS 4 5 6,iv .i64 (.var 7)],heap:=[fHp 1],ro:=[qht 4 8 9,.abs 10 4],pre:=fun ρ=>qk (ρ 1).d/\qhC (ρ 10).h (ρ 8).d (ρ 5).i,alts:=[
 { k:=2,ret:=.tup [q7X,qbk (.var 11)],heap:=[fHp 12],post:=fun ρ=>qk (ρ 12).d/\q9S (ρ 10).h (ρ 8).d (ρ 2).i (ρ 3).i (ρ 5).i (ρ 7).i (ρ 11).i },
 { k:=5,ret:=.tup [(true,[.vint .i64 (.var 7),.vslice 11 (.lit 0) (.var 12) (.var 13) 1]),qbk (.lit 0)],heap:=[fHp 14,bHp 11 15 13],post:=fun ρ=>qk (ρ 14).d/\q5d (ρ 10).h (ρ 8).d (ρ 2).i (ρ 3).i (ρ 5).i (ρ 7).i/\(ρ 12).i = (ρ 15).d.length/\(ρ 15).d.length = pcN (ρ 10).h (ρ 8).d 0/\qn (ρ 15).d/\bI (ρ 15).d = qgF (ρ 10).h (ρ 8).d (ρ 2).i.toNat (ρ 7).i }] }
end Go.Eng

set_option linter.unusedSimpArgs false
set_option linter.unusedVariables false
namespace Go.Eng
open Go Go.Proofs
def qdP:Ctr:={ fn := 135,nv:=1,args:=[.one .vnils,iv .i64 (.var 0)],heap:=[],ro:=[],pre:=fun ρ=>0 <= (ρ 0).i/\(ρ 0).i <= 10000000,alts:=[{ k:=3,ret:=.one (.vslice 1 (.lit 0) (.lit 0) (.var 3) 1),heap:=[bHp 1 2 3],post:=fun ρ=>qn (ρ 2).d }] }
def qda (f:Nat->List Int):Nat->List Int
 | 0=>[]
 | k + 1=>qda f k ++ f k
def qco:Ctr:={ fn := 112,nv:=6,ip:=[(33,1)],args:=[.one (.vslice 0 (.lit 0) (.var 1) (.var 2) 1)],heap:=[],ro:=[.arr 0 22 [.any] (.var 3) (.var 4),.abs 5 2],pre:=fun ρ=>0 <= (ρ 1).i/\(ρ 1).i <= 255/\(ρ 1).i <= (ρ 3).d.length/\(∀ row ∈ (ρ 3).d,row.length = 1)/\∀ j,j < (ρ 1).i.toNat->rdB (ρ 5).h (tvs (ρ 3).d j)/\(qa3 (ρ 5).h (ρ 3).d j).length <= 9000,alts:=[
 { k:=4,ret:=.one (.vslice 6 (.lit 0) (.var 7) (.var 8) 1),heap:=[bHp 6 9 8],post:=fun ρ=>(ρ 7).i = ((qda (qa3 (ρ 5).h (ρ 3).d) (ρ 1).i.toNat).length:Int)/\(ρ 7).i <= (ρ 9).d.length/\qn ((ρ 9).d.take (ρ 7).i.toNat)/\bI ((ρ 9).d.take (ρ 7).i.toNat) = qda (qa3 (ρ 5).h (ρ 3).d) (ρ 1).i.toNat/\qn (ρ 9).d }] }
def qnk:Inv:={ key:=3,nv:=2,env:=[(0,.one (.vslice 0 (.lit 0) (.var 1) (.var 2) 1)),(3,iv .i64 (.var 1001)),(9,.one (.vslice 0 (.lit 0) (.var 1) (.var 2) 1)),(10,iv .i64 (.var 1)),(11,iv .i64 (.var 1000))],heap:=[],inv:=(fun ρ=>0 <= (ρ 1000).i/\(ρ 1000).i <= (ρ 1).i/\(ρ 1001).i = ((qda (qa3 (ρ 5).h (ρ 3).d) (ρ 1000).i.toNat).length:Int)),mu:=(fun ρ=>((ρ 1).i - (ρ 1000).i).toNat) }
def qmb:Inv:={ key:=11,nv:=5,env:=[(6,q9Q 1000 1001 1002),(25,.one (.vslice 0 (.lit 0) (.var 1) (.var 2) 1)),(26,iv .i64 (.var 1)),(27,iv .i64 (.var 1004))],heap:=[bHp 1000 1003 1002],inv:=(fun ρ=>0 <= (ρ 1004).i/\(ρ 1004).i <= (ρ 1).i/\(ρ 1001).i = ((qda (qa3 (ρ 5).h (ρ 3).d) (ρ 1004).i.toNat).length:Int)/\(ρ 1001).i <= (ρ 1003).d.length/\qn ((ρ 1003).d.take (ρ 1001).i.toNat)/\bI ((ρ 1003).d.take (ρ 1001).i.toNat) = qda (qa3 (ρ 5).h (ρ 3).d) (ρ 1004).i.toNat/\qn (ρ 1003).d),mu:=(fun ρ=>((ρ 1).i - (ρ 1004).i).toNat) }
noncomputable def plI (k size:Int):Int:=(qA k.toNat size.toNat:Int)
def q75 (h:Hp) (D:qd) (k total size n e:Int):Prop:=((qT k total = false∨size < 0∨8192 < size)/\e = 2)∨(qT k total = true/\0 <= size/\size <= 8192/\qv6 h D k total (plI k size) n e/\e ≠ 0)
def qrr (h:Hp) (D:qd) (k total size n:Int):Prop:=qT k total = true/\0 <= size/\size <= 8192/\qv6 h D k total (plI k size) n 0
noncomputable def qwi (h:Hp) (D:qd) (k:Nat):List Int:=qda (fun i=>qgF h D k (i:Int)) k
def qcp:Ctr:={ fn := 76,nv:=11,ip:=[(1000,9),(1001,9)],args:=[qaD,iv .i64 (.var 2),iv .i64 (.var 3),iv .i64 (.var 4),pcS 5 6 7],heap:=[fHp 1],ro:=[qht 5 8 9,.abs 10 4],pre:=fun ρ=>qk (ρ 1).d/\qhC (ρ 10).h (ρ 8).d (ρ 6).i,alts:=[
 { k:=2,ret:=.tup [(false,[.vnils]),qbk (.var 11)],heap:=[fHp 12],post:=fun ρ=>qk (ρ 12).d/\q75 (ρ 10).h (ρ 8).d (ρ 2).i (ρ 3).i (ρ 4).i (ρ 6).i (ρ 11).i },
 { k:=4,ret:=.tup [(false,[.vslice 11 (.lit 0) (.var 4) (.var 4) 1]),qbk (.lit 0)],heap:=[fHp 12,bHp 11 13 14],post:=fun ρ=>qk (ρ 12).d/\qrr (ρ 10).h (ρ 8).d (ρ 2).i (ρ 3).i (ρ 4).i (ρ 6).i/\(ρ 4).i <= (ρ 13).d.length/\qn ((ρ 13).d.take (ρ 4).i.toNat)/\bI ((ρ 13).d.take (ρ 4).i.toNat) = (qwi (ρ 10).h (ρ 8).d (ρ 2).i.toNat).take (ρ 4).i.toNat/\qn (ρ 13).d }] }
end Go.Eng

set_option linter.unusedSimpArgs false
set_option linter.unusedVariables false
namespace Go.Eng
open Go Go.Proofs
def qee (f I:Nat->Int) (n:Nat) (k e:Int):Prop :=
 (∃ i,i < n/\(∀ j,j < i->f j = 0/\∀ l,l < j->I l ≠ I j)/\((f i ≠ 0/\e = f i)∨(f i = 0/\(∃ l,l < i/\I l = I i)/\e = 7))) ∨
 ((∀ j,j < n->f j = 0/\∀ l,l < j->I l ≠ I j)/\(((n:Int) < k/\e = 12)∨(k <= n/\e = 0)))
noncomputable def qk2 (k n t s l:Int) (D:List (List Int)) (h:Hp) (P:qd) (j:Nat):Int:=qcg k n t s l D (pcI P j) (pcD h P j)
def qnx (r:Nat):SV:=.agg (qdT r (r + 1) (r + 2) (r + 3) (r + 4) (r + 5) (r + 6) (r + 7))
def qow (ρ:Env) (r:Nat):Prop:=qbD (ρ r).i/\qbD (ρ (r + 1)).i/\qbD (ρ (r + 2)).i/\qbD (ρ (r + 3)).i/\(ρ (r + 6)).i = (ρ (r + 8)).d.length/\qcC (ρ (r + 8)).d
def psP (n:Int) (P:qd) (h:Hp):Prop:=qhC h P n/\n = P.length/\∀ j,j < P.length->(pcD h P j).length <= 9000
noncomputable def mF (ρ:Env) (r p h:Nat):Nat->Int:=qk2 (ρ r).i (ρ (r + 1)).i (ρ (r + 2)).i (ρ (r + 3)).i (ρ (r + 6)).i (dgs (ρ (r + 8)).d) (ρ h).h (ρ p).d
def qsa (ρ:Env):Prop:=qow ρ 0/\psP (ρ 11).i (ρ 13).d (ρ 15).h
def qla:List Alt:=[{ k:=1,ret:=iv .i64 (.var 18),heap:=[],post:=fun ρ=>qee (mF ρ 0 13 15) (pcI (ρ 13).d) (ρ 13).d.length (ρ 0).i (ρ 18).i }]
def qdX:Ctr:={ fn := 75,nv:=18,ip:=[gIp 16],ow:=[1003],args:=[qi2,pcS 10 11 12],heap:=[],ro:=[qbX 5 8 9,qht 10 13 14,.abs 15 4,gHp 16 17],pre:=fun ρ=>qsa ρ/\gOk ρ 16 17 gR,alts:=qla }
def qke:MT:=⟨false,[.i64],false,[.bool],[.vbool (.bl false)]⟩
def qvy (h:Hp) (v:Value) (I:Nat->Int) (i:Nat):Prop:=∃ b l c,v = .map (some b)/\qaU h b qke l c/\(∀ x ∈ l,x.v = [.bool true])/\∀ z:Int,qaE l [z] = true↔∃ j,j < i/\I j = z
def q2e:Inv:={ key:=3,nv:=4,env:=[(1,pcS 10 11 12),(2,.one (.vptr 1002 (.lit 0) 37 0)),(5,.one (.var 1001)),(10,pcS 10 11 12),(11,iv .i64 (.var 11)),(12,iv .i64 (.var 1003))],heap:=[.cells 1002 27 (qdT 0 1 2 3 4 5 6 7),.abs 1000 1003],inv:=(fun ρ=>0 <= (ρ 1003).i/\(ρ 1003).i <= (ρ 11).i/\(∀ j,j < (ρ 1003).i.toNat->mF ρ 0 13 15 j = 0/\∀ l,l < j->pcI (ρ 13).d l ≠ pcI (ρ 13).d j)/\qvy (ρ 1000).h (ρ 1001).v (pcI (ρ 13).d) (ρ 1003).i.toNat),mu:=(fun ρ=>((ρ 11).i - (ρ 1003).i).toNat) }
def qlq (ok:Bool) (C:Int->Prop) (D O:List Int) (e:Int):Prop:=(ok = false/\e = 2)∨(ok = true/\C e/\e ≠ 0)∨(ok = true/\C 0/\((sha D ≠ O/\e = 20)∨(sha D = O/\e = 0)))
def mOk (ρ:Env) (r:Nat):Bool:=qz (ρ r).i (ρ (r + 1)).i (ρ (r + 2)).i (ρ (r + 3)).i (ρ (r + 6)).i
def qse (ρ:Env) (r p h:Nat):Int->Prop:=qee (mF ρ r p h) (pcI (ρ p).d) (ρ p).d.length (ρ r).i
noncomputable def q6h (ρ:Env) (r p h:Nat):List Int:=(qwi (ρ h).h (ρ p).d (ρ r).i.toNat).take (ρ (r + 3)).i.toNat
noncomputable def q5j (ρ:Env) (r p h x:Nat):List Int:=qgF (ρ h).h (ρ p).d (ρ r).i.toNat (ρ x).i
def qic (ok:Bool) (C:Int->Prop) (x t e y n:Int) (D O:List Int) (R:qd):Prop:=qlq (ok && decide (0 <= x/\x < t)) C (qba x ++ D) O e/\((e ≠ 0/\y = 0/\n = 0/\R = [])∨(e = 0/\y = x/\n = R.length/\qn R/\bI R = D))
def q0J (ok:Bool) (C:Int->Prop) (sz e n:Int) (D O:List Int) (R:qd):Prop:=qlq ok C D O e/\((e ≠ 0/\n = 0/\R = [])∨(e = 0/\n = sz/\0 <= n/\n <= R.length/\qn R/\bI (R.take n.toNat) = D))
def qkv:Ctr:={ fn := 19,nv:=20,ip:=[gIp 18,(1005,9)],args:=[qaD,qnx 2,pcS 12 13 14],heap:=[fHp 1],ro:=[qbX 7 10 11,qht 12 15 16,.abs 17 4,gHp 18 19],pre:=fun ρ=>qk (ρ 1).d/\qow ρ 2/\qL (qg (ρ 6).d 32)/\psP (ρ 13).i (ρ 15).d (ρ 17).h/\gOk ρ 18 19 gR,alts:=[
 { k:=7,ret:=.tup [(false,[.vslice 20 (.lit 0) (.var 21) (.var 26) 1]),qbk (.var 24)],heap:=[fHp 25,bHp 20 23 22],post:=fun ρ=>qk (ρ 25).d/\q0J (mOk ρ 2) (qse ρ 2 15 17) (ρ 5).i (ρ 24).i (ρ 21).i (q6h ρ 2 15 17) (qg (ρ 6).d 32) (ρ 23).d/\(ρ 21).i <= (ρ 26).i }] }
def qkD:Ctr:={ fn := 92,nv:=21,ip:=[gIp 18,(1005,9)],args:=[qaD,qnx 2,pcS 12 13 14,iv .i64 (.var 20)],heap:=[fHp 1],ro:=[qbX 7 10 11,qht 12 15 16,.abs 17 4,gHp 18 19],pre:=fun ρ=>qk (ρ 1).d/\qow ρ 2/\psP (ρ 13).i (ρ 15).d (ρ 17).h/\gOk ρ 18 19 gR/\qbD (ρ 20).i,alts:=[
 { k:=7,ret:=.tup [(true,[.vint .i64 (.var 21),.vslice 22 (.lit 0) (.var 23) (.var 24) 1]),qbk (.var 26)],heap:=[fHp 27,bHp 22 25 24],post:=fun ρ=>qk (ρ 27).d/\qic (mOk ρ 2) (qse ρ 2 15 17) (ρ 20).i (ρ 4).i (ρ 26).i (ρ 21).i (ρ 23).i (q5j ρ 2 15 17 20) ((dgs (ρ 10).d).getD (ρ 20).i.toNat []) (ρ 25).d }] }
end Go.Eng

set_option linter.unusedSimpArgs false
set_option linter.unusedVariables false
namespace Go.Proofs
open Go Go.Eng
theorem qsT {f I:Nat->Int} {n:Nat} {k:Int} (h:qee f I n k 0):(∀ j,j < n->f j = 0/\∀ l,l < j->I l ≠ I j)/\k <= n:=by
 rcases h with ⟨i,hi,h1,⟨a,b⟩ | ⟨a,_,b⟩⟩ | ⟨h1,⟨a,b⟩ | ⟨a,b⟩⟩
 ·exact (a b.symm).elim
 ·omega
 ·omega
 ·exact ⟨h1,a⟩
theorem q3O {ok:Bool} {C:Int->Prop} {D O:List Int} (a:qlq ok C D O 0):ok = true/\C 0/\sha D = O:=by
 rcases a with ⟨a,a1⟩ | ⟨a,a1,a2⟩ | ⟨a,a1,⟨a2,a3⟩ | ⟨a2,a3⟩⟩
 ·omega
 ·exact (a2 rfl).elim
 ·omega
 ·exact ⟨a,a1,a2⟩
section
variable {M:Bool} {C:Int->Prop} {x t:Int} {D O:List Int}
theorem q7a (h:M = false):qlq M C D O 2:=.inl ⟨h,rfl⟩
theorem q5m {e:Int} (h:M = true) (hC:C e) (he:¬ e = 0):qlq M C D O e:=.inr (.inl ⟨h,hC,he⟩)
theorem q6J (h:M = true) (hC:C 0) (hs:¬ sha D = O):qlq M C D O 20:=.inr (.inr ⟨h,hC,.inl ⟨hs,rfl⟩⟩)
theorem q8I (h:M = true) (hC:C 0) (hs:sha D = O):qlq M C D O 0:=.inr (.inr ⟨h,hC,.inr ⟨hs,rfl⟩⟩)
theorem qwa {e sz:Int} (a:qlq M C D O e) (h:¬ e = 0):q0J M C sz e 0 D O []:=⟨a,.inl ⟨h,rfl,rfl⟩⟩
theorem q80 {n:Int} {R:qd} (a:qlq M C D O 0) (n0:0 <= n) (hn:n <= R.length) (hB:qn R) (hR:bI (R.take n.toNat) = D):q0J M C n 0 n D O R:=⟨a,.inr ⟨rfl,rfl,n0,hn,hB,hR⟩⟩
theorem q5A (h:M = false):qic M C x t 2 0 0 D O []:=⟨.inl ⟨by rw [h]; rfl,rfl⟩,.inl ⟨by omega,rfl,rfl,rfl⟩⟩
theorem qwL (h:x < 0∨t <= x):qic M C x t 2 0 0 D O []:=⟨.inl ⟨by rw [decide_eq_false (by omega),Bool.and_false],rfl⟩,.inl ⟨by omega,rfl,rfl,rfl⟩⟩
theorem q58 {e:Int} (h:M = true) (h0:0 <= x) (h1:x < t) (hC:C e) (he:¬ e = 0):qic M C x t e 0 0 D O []:=⟨.inr (.inl ⟨by rw [h,decide_eq_true ⟨h0,h1⟩]; rfl,hC,he⟩),.inl ⟨he,rfl,rfl,rfl⟩⟩
theorem q5D (h:M = true) (h0:0 <= x) (h1:x < t) (hC:C 0) (hs:¬ sha (qba x ++ D) = O):qic M C x t 20 0 0 D O []:=⟨.inr (.inr ⟨by rw [h,decide_eq_true ⟨h0,h1⟩]; rfl,hC,.inl ⟨hs,rfl⟩⟩),.inl ⟨by omega,rfl,rfl,rfl⟩⟩
theorem q9n {n:Int} {R:qd} (h:M = true) (h0:0 <= x) (h1:x < t) (hC:C 0) (hs:sha (qba x ++ D) = O) (hn:n = R.length) (hB:qn R) (hR:bI R = D):qic M C x t 0 x n D O R:=⟨.inr (.inr ⟨by rw [h,decide_eq_true ⟨h0,h1⟩]; rfl,hC,.inr ⟨hs,rfl⟩⟩),.inr ⟨rfl,rfl,hn,hB,hR⟩⟩
end
theorem q6E {f I:Nat->Int} {n:Nat} {k e x:Int} (x0:0 <= x) (x1:x < n) (h:∀ j:Nat,(j:Int) < x->f j = 0/\∀ l,l < j->¬ I l = I j) (he:e = f x.toNat) (hne:¬ e = 0):qee f I n k e :=
 .inl ⟨x.toNat,by omega,fun j hj=>h j (by omega),.inl ⟨by rw [<- he]; exact hne,he⟩⟩
theorem q0B {f I:Nat->Int} {n:Nat} {k x:Int} (x0:0 <= x) (x1:x < n) (h:∀ j:Nat,(j:Int) < x->f j = 0/\∀ l,l < j->¬ I l = I j) (h0:f x.toNat = 0) (hl:∃ l,l < x.toNat/\I l = I x.toNat):qee f I n k 7 :=
 .inl ⟨x.toNat,by omega,fun j hj=>h j (by omega),.inr ⟨h0,hl,rfl⟩⟩
theorem qwS {f I:Nat->Int} {n:Nat} {k e x:Int} (x1:n <= x) (h:∀ j:Nat,(j:Int) < x->f j = 0/\∀ l,l < j->¬ I l = I j) (he:((n:Int) < k/\e = 12)∨(k <= n/\e = 0)):qee f I n k e :=
 .inr ⟨fun j hj=>h j (by omega),he⟩
theorem q3z {f I:Nat->Int} {x:Int} (x0:0 <= x) (h:∀ j:Nat,(j:Int) < x->f j = 0/\∀ l,l < j->¬ I l = I j) (h0:f x.toNat = 0) (hl:∀ l,l < x.toNat->¬ I l = I x.toNat):∀ j:Nat,(j:Int) < x + 1->f j = 0/\∀ l,l < j->¬ I l = I j:=fun j hj=>by
 by_cases hjx:(j:Int) = x
 ·obtain rfl:j = x.toNat:=by omega
  exact ⟨h0,hl⟩
 ·exact h j (by omega)
theorem q5h {b:Nat} {v:Value} {h:Hp} {I:Nat->Int} (hv:v = .map (some b)) (hh:h = Hp.one b (.map #[] 0)):qvy h v I 0:=by
 subst hh
 refine ⟨b,[],0,hv,⟨by simp [Hp.one,MT.obj],⟨fun x hx=>(by cases hx),.nil⟩⟩,fun x hx=>(by cases hx),fun z=>⟨fun h=>(by cases h),fun ⟨j,hj,_⟩=>(by omega)⟩⟩
theorem q4v {l:List ME} {k:List Int} (h:∀ x ∈ l,x.v = [.bool true]):qcU l k [.bool false] = [.bool (qaE l k)]:=by
 cases hh:qaE l k with
 | false=>exact qiV hh
 | true =>
  obtain ⟨j,x,h1,_,_,h2⟩:=qeI (mt:=qke) (i:=0) hh
  rw [h2]
  exact h x (List.mem_of_getElem? h1)
theorem q7l {h h':Hp} {v:Value} {I:Nat->Int} {i b clock:Nat} {l:List ME} {x:Int} (hv:v = .map (some b)) (hm:qaU h b qke l clock) (ht:∀ x ∈ l,x.v = [.bool true]) (hs:∀ z:Int,qaE l [z] = true↔∃ j,j < i/\I j = z) (hx:x = I i)
  (hh:h' = Hp.upd h b (qke.obj (qaY l [x] [.bool true] clock))):qvy h' v I (i + 1):=by
 have hw:=qjM (k:=[x]) (v:=[.bool true]) hm.2 rfl ⟨rfl,fun c k v hk hv=>by
  match c,hk,hv with
  | 0,hk,hv=>simp [qke] at hk hv; subst hk hv; rfl
  | c + 1,hk,hv=>simp [qke] at hk⟩
 refine ⟨b,(qaY l [x] [.bool true] clock).1,(qaY l [x] [.bool true] clock).2,hv,⟨by rw [hh]; simp [Hp.upd],hw⟩,?_,?_⟩
 ·intro y hy
  unfold qaY at hy
  split at hy
  ·obtain ⟨z,hz,rfl⟩:=List.mem_map.1 hy
   split
   ·rfl
   ·exact ht z hz
  ·rcases List.mem_append.1 hy with hy | hy
   ·exact ht y hy
   ·rw [List.mem_singleton.1 hy]
 ·intro z
  have e:qaE (qaY l [x] [.bool true] clock).1 [z] = (qaE l [z] || decide (x = z)):=by
   unfold qaY
   split
   ·rename_i hh
    have e1:qaE (l.map fun y=>if y.k = [x] then { y with v:=[.bool true] } else y) [z] = qaE l [z]:=by
     unfold qaE
     rw [List.any_map]
     refine congrArg (fun f=>List.any l f) (funext fun y=>?_)
     simp only [Function.comp]
     split <;> rfl
    rw [e1]
    by_cases hxz:x = z
    ·subst hxz; simp [hh]
    ·simp [hxz]
   ·simp only [qaE,List.any_append,List.any_cons,List.any_nil,Bool.or_false]
    congr 1
    by_cases h:x = z <;> simp [h]
  rw [e,Bool.or_eq_true,hs,decide_eq_true_eq,hx]
  constructor
  ·rintro (⟨j,hj,h⟩ | h)
   ·exact ⟨j,by omega,h⟩
   ·exact ⟨i,by omega,h⟩
  ·rintro ⟨j,hj,h⟩
   by_cases hji:j = i
   ·subst hji; exact .inr h
   ·exact .inl ⟨j,by omega,h⟩
theorem q6A {M:Bool} {C:Int->Prop} {x t e y n:Int} {D O:List Int} {R:qd} (a:qic M C x t e y n D O R) (h:e = 0):M = true/\(0 <= x/\x < t)/\C 0/\sha (qba x ++ D) = O/\y = x/\n = R.length/\qn R/\bI R = D:=by
 subst h
 obtain ⟨a0,⟨a1,a2,a3,a4⟩ | ⟨a1,a2,a3,a4,a5⟩⟩:=a
 ·exact (a1 rfl).elim
 ·obtain ⟨b1,b2,b3⟩:=q3O a0
  rw [Bool.and_eq_true,decide_eq_true_eq] at b1
  exact ⟨b1.1,b1.2,b2,b3,a2,a3,a4,a5⟩
end Go.Proofs

set_option linter.unusedSimpArgs false
set_option linter.unusedVariables false
namespace Go.Proofs
open Go Go.Eng
variable {rows wide c rank:Nat} {T0:Mat} {M:Nat->List Int}
theorem q3X {h:Hp} {vs:Nat->Value} {n j:Nat} {M:Nat->List Int} (ht:qdR h vs n M) (hj:j < n):qw (M j):=by
 obtain ⟨d,_,e,hb⟩:=ht.1 j hj
 rw [<- e]; exact allB_list hb
end Go.Proofs

set_option linter.unusedSimpArgs false
set_option linter.unusedVariables false
namespace Go.Proofs
open Go Go.Eng
theorem qqp {D:qd} {i:Int} (h:0 <= i):tvs D i.toNat = qF D i 0:=by
 unfold tvs
 rw [Int.toNat_of_nonneg h]
theorem qza {D:qd} {i:Int} {v:Value} (hr:∀ row ∈ D,row.length = 1) (i0:0 <= i) (i1:i < D.length) (j:Nat):tvs (qbi D i 0 [v]) j = if j = i.toNat then v else tvs D j:=by
 unfold tvs qF qbi
 rw [Int.toNat_natCast,List.getElem?_set]
 by_cases h:j = i.toNat
 ·rw [if_pos h.symm,if_pos h,if_pos (by omega)]
  rfl
 ·rw [if_neg (fun e=>h e.symm),if_neg h]
theorem q5r {D:qd} {i:Int} {v:Value} (hr:∀ row ∈ D,row.length = 1) (i0:0 <= i) (i1:i < D.length):∀ row ∈ qbi D i 0 [v],row.length = 1:=fun row h=>by
 unfold qbi at h
 rcases List.mem_or_eq_of_mem_set h with h | rfl
 ·exact hr row h
 ·rw [List.getElem?_eq_getElem (by omega),Option.getD_some]
  have:=hr _ (List.getElem_mem (l:=D) (n:=i.toNat) (by omega))
  unfold qaq
  simp [this]
theorem qwt {l:List Int} {o n i:Nat} (hi:i < n):(seg l o n).getD i 0 = l.getD (o + i) 0:=by
 rw [seg,List.getD_eq_getElem?_getD,List.getElem?_take,if_pos hi,List.getElem?_drop,List.getD_eq_getElem?_getD]
end Go.Proofs
