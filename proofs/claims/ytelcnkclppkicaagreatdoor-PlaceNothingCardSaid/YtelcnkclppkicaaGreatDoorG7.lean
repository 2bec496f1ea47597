/- Texts ZW, ZX, DS, DT, BT, BU, BV, BW, BX, BY, CA, CB, CC, CD, CE, CF, CG, CH, CI, CK, YA, CL, CM, ZLq, YF, W1, W2, W3, WD, CN, CO, YB, ZSq, YC, CP, W4, WC, YD, YE, YG, YK, W5, W6, YM, YR, CQ, CR, YS, W7, YU, YV, YW, CS, W9, V3, VT, VZ, VW, CT, CW, V4, VM, VU, WF, VV, WA, WE, VX, VY, WG, WH, WI, WN, CV, CX, WO, WQ, CY, E13, E14, FD, FE, FF, FG, PA, PB, PC, PD, PE, PF, PG. -/
import Derived.Test.YtelcnkclppkicaaGreatDoorG6
import Derived.Test.YtelcnkclppkicaaGreatDoorG4
import Derived.Test.YtelcnkclppkicaaGreatDoorG5
import Derived.Test.YtelcnkclppkicaaGreatDoorProg
import Derived.WalkKit
import Derived.ProofKit
import Derived.OpenShut
import Derived.Carry
import Derived.SizedLaws
import Derived.WalkCall
import Derived.Laws.Externs
import Derived.Lib.Bytealg
import Derived.Lib.BytesEntry
set_option linter.unusedSimpArgs false
set_option linter.unusedVariables false
namespace Go.Proofs
open Go Go.Eng

theorem q4O:qpi.ok Tryz.prog:=Ctr.ok_less q2t rfl rfl rfl rfl rfl (fun _ h=>h.1) fun ρ ρ' ai al hp hag hal hpost=>by
 match ai,hal with
 | 0,hal =>
  exfalso
  obtain rfl:=Option.some.inj hal
  obtain ⟨_,h2⟩:_/\(qa4 ((ρ'.upto 5) 2).i ((ρ'.upto 5) 3).i = true->(qcg ((ρ'.upto 5) 2).i.toNat ((ρ'.upto 5) 3).i.toNat).2.2 < ((ρ'.upto 5) 2).i.toNat):=hpost
  have e2:(ρ'.upto 5) 2 = ρ 2:=by rw [Env.upto,if_pos (by omega)]; exact hag 2 (by decide)
  have e3:(ρ'.upto 5) 3 = ρ 3:=by rw [Env.upto,if_pos (by omega)]; exact hag 3 (by decide)
  rw [e2,e3] at h2
  obtain ⟨_,p2,p3⟩:=hp
  have:=h2 p2
  omega
 | 1,hal=>exact ⟨0,hal⟩
 | n + 2,hal=>cases hal
theorem qm0 {k n:Nat} (hk:0 < k):n <= k * qC k n:=by
 unfold qC
 have h1:=Nat.div_add_mod (n + k - 1) k
 have h2:=Nat.mod_lt (n + k - 1) hk
 omega
theorem qmu {k n:Nat} (hk:0 < k):k * qC k n < n + k:=by
 unfold qC
 have h1:=Nat.div_add_mod (n + k - 1) k
 omega
theorem qmA {k n:Nat} (hk:0 < k):qC k n <= n:=by
 have h:=qmu (n:=n) hk
 by_cases h2:qC k n <= n
 ·exact h2
 ·have h3:k * (n + 1) <= k * qC k n:=Nat.mul_le_mul_left k (by omega)
  rw [Nat.mul_add,Nat.mul_one] at h3
  have h4:n * 1 <= k * n:=by rw [Nat.mul_comm k n]; exact Nat.mul_le_mul_left n hk
  omega
theorem qsj {k:Int} {n:Nat} (hk:1 <= k):((n:Int) + k - 1).tdiv k = (qC k.toNat n:Nat):=by
 rw [Int.tdiv_eq_ediv_of_nonneg (by omega),qC,Int.natCast_ediv]
 congr 1 <;> omega
theorem q0d {d x:qe} (h:x.length <= d.length):bI (qbv d 0 x) = bI x ++ (bI d).drop x.length:=by
 simp [qbv,bI,List.map_drop]
theorem qvz {d x:qe} (hd:qy d) (hx:qy x):qy (qbv d 0 x):=fun r hr=>by
 unfold qbv at hr
 rcases List.mem_append.1 hr with hr | hr
 ·rcases List.mem_append.1 hr with hr | hr
  ·simp at hr
  ·exact hx r hr
 ·exact hd r (List.mem_of_mem_drop hr)
theorem q06 {k total len lg cg:Int} {f dg data D:qe} (hf:qu f) (hs:qa4 k total = true) (h1:len <= 8192) (h2:len = data.length) (hB:qy data) (hM:qL total k lg cg dg) (hG:bI dg = qcQ k.toNat total.toNat) (hD:D = List.replicate total.toNat [.int .i64 0,.slice none 0 0]) :
  qn3 k total len (qC k.toNat data.length:Nat) (k * (qC k.toNat data.length:Nat)) (k * (qC k.toNat data.length:Nat)) lg cg 0 f dg (qbv (List.replicate (k * (qC k.toNat data.length:Nat)).toNat [.int .u8 0]) 0 data) D data:=by
 obtain ⟨k1,k2,k3⟩:=qjM.1 hs
 have hge:=qm0 (k:=k.toNat) (n:=data.length) (by omega)
 have hle:=qmA (k:=k.toNat) (n:=data.length) (by omega)
 have hc:(k * (qC k.toNat data.length:Nat)).toNat = k.toNat * qC k.toNat data.length:=by rw [Int.toNat_mul (by omega) (by omega)]; simp
 have hc0:0 <= k * (qC k.toNat data.length:Nat):=Int.mul_nonneg (by omega) (by omega)
 refine ⟨hf,hs,h1,h2,hB,rfl,by omega,rfl,?_,qvz qhL hB,?_,hM,hG,by rw [hD,List.length_replicate],fun row hr=>by rw [hD] at hr; rw [List.eq_of_mem_replicate hr]; rfl,by omega,by omega⟩
 ·rw [qmN (by rw [List.length_replicate]; omega),List.length_replicate]; omega
 ·rw [q0d (by rw [List.length_replicate]; omega),qkR,hc,qiy,bI_len,List.drop_replicate]; simp
theorem q08 {k total len l lf cf lg cg i:Int} {f dg df D data:qe} {v w:Value} (h:qn3 k total len l lf cf lg cg i f dg df D data) (hi:i < total):qn3 k total len l lf cf lg cg (i + 1) f dg df (qca D i 0 [v,w]) data:=by
 obtain ⟨a1,a2,a3,a4,a5,a6,a7,a8,a9,a10,a11,a12,a13,a14,a17,a15,a16⟩:=h
 refine ⟨a1,a2,a3,a4,a5,a6,a7,a8,a9,a10,a11,a12,a13,by rw [qeZ]; exact a14,fun row hr=>?_,by omega,by omega⟩
 unfold qca at hr
 rcases List.mem_or_eq_of_mem_set hr with hr | rfl
 ·exact a17 row hr
 ·have hl:i.toNat < D.length:=by omega
  have:=a17 _ (List.getElem_mem hl)
  rw [List.getElem?_eq_getElem hl,Option.getD_some,qkz (by rw [this]; simp),this]
theorem q6k {k total len l lf cf lg cg i:Int} {f f' dg df D data:qe} (h:qn3 k total len l lf cf lg cg i f dg df D data) (hf:qu f'):qn3 k total len l lf cf lg cg i f' dg df D data:=⟨hf,h.2⟩
theorem qkb {h h':Hp} {D:qe} {n:Nat} {f:Nat->List Int} (he:qfJ h D n f) (hl:Hp.le h h'):qfJ h' D n f:=fun j hj=>by
 obtain ⟨v,d,e1,e2,e3⟩:=he j hj
 exact ⟨v,d,e1,qju e2 hl,e3⟩
theorem qyT {h h':Hp} {D:qe} {i:Int} {f:Nat->List Int} {v:Value} {d:qe} (he:qfJ h D i.toNat f) (hl:Hp.le h h') (h0:0 <= i) (hi:i.toNat < D.length) (hc:(D[i.toNat]?.getD []).length = 2) (hr:Rd h' kB v d) (hd:bI d = f i.toNat) (hB:qy d) :
  qfJ h' (qca D i 0 [.int .i64 i,v]) (i.toNat + 1) f:=fun j hj=>by
 by_cases hji:j = i.toNat
 ·subst hji
  refine ⟨v,d,?_,hr,hd,hB⟩
  have hs:qa1 (D[i.toNat]?.getD []) 0 [.int .i64 i,v] = [.int .i64 i,v]:=by
   simp only [qa1,List.take_zero,List.nil_append]
   rw [List.drop_eq_nil_of_le (by rw [hc]; exact Nat.le_refl _),List.append_nil]
  rw [qca,List.getElem?_set_self hi,hs,Int.toNat_of_nonneg h0]
 ·obtain ⟨v',d',e1,e2,e3⟩:=he j (by omega)
  exact ⟨v',d',by rw [qca,List.getElem?_set_ne (by omega)]; exact e1,qju e2 hl,e3⟩
set_option maxRecDepth 20000 in
set_option pp.deepTerms true in
set_option pp.maxSteps 1000000 in
theorem qvV:qbU.ok Tryz.prog:=qvK (by simp [qor,qpy,q4O,qn9,qnz]) fun ρ hg hp=>by
 obtain ⟨hf,hl,hB,hrk⟩:=hp
 have hne:=(qbS hf).1
 simp (config:={ maxSteps:=4000000 }) [qj8,qbU,qkT,qlA,qbe,qbg,qpi,qfz,qbp,qbq]
 refine ⟨fun h=>(hne h).elim,fun _ v _ hv=>⟨fun hb=>⟨hf,by rw [<- hv]; exact hb⟩,fun hb=>?_⟩⟩
 have hsz:qa4 (ρ 2).i (ρ 3).i = true:=by rw [<- hv]; exact hb
 obtain ⟨k1,k2,k3⟩:=qjM.1 hsz
 refine ⟨by omega,fun h=>⟨hf,hsz,h⟩,fun hle l _ e _ _ hpl=>?_⟩
 have hnb:¬ qfc (ρ 2).i (ρ 5).i:=by unfold qfc; omega
 obtain ⟨hpl1,_⟩:=hpl hnb
 rw [hl,qsj k1] at hpl1
 have hge:=qm0 (k:=(ρ 2).i.toNat) (n:=(ρ 7).d.length) (by omega)
 have hlt:=qmu (k:=(ρ 2).i.toNat) (n:=(ρ 7).d.length) (by omega)
 have hkl:(ρ 2).i * l.i = (((ρ 2).i.toNat * qC (ρ 2).i.toNat (ρ 7).d.length:Nat):Int):=by rw [hpl1,Int.natCast_mul,Int.toNat_of_nonneg (by omega)]
 rw [qct (by omega) (by omega)]
 have hmax:max ((ρ 2).i * l.i) 0 = (ρ 2).i * l.i:=by omega
 refine ⟨by omega,by omega,fun u3 _=>⟨by omega,by omega,fun u4 _=>⟨⟨hf,hsz,hrk hsz⟩,fun u5 _ lg _ cg _ f1 _ dg _ ab _ hf1 _ hM _ hG u11 _=>⟨by omega,by omega,fun u12 _=>⟨⟨?_,fun j hj=>by omega⟩,?_⟩⟩⟩⟩⟩
 ·have htake:(((ρ 7).d.take (ρ 5).i.toNat).take (if (ρ 5).i < (ρ 2).i * l.i then (ρ 5).i else (ρ 2).i * l.i).toNat) = (ρ 7).d:=by
   rw [List.take_of_length_le (l:=(ρ 7).d) (by omega),List.take_of_length_le (by split <;> omega)]
  rw [htake,hpl1]
  exact q06 hf1 hsz hle hl hB hM hG rfl
 intro l2 _ u14 _ lf _ cf _ u17 _ u18 _ u19 _ i _ f2 _ u22 _ lg2 _ cg2 _ dg2 _ df2 _ D2 _ ab2 _ hW hE
 refine ⟨fun hi=>?_,fun hi u29 _ hst=>?_⟩
 ·have hW':=hW
  obtain ⟨a1,a2,a3,a4,a5,a6,a7,a8,a9,a10,a11,a12,a13,a14,a17,a15,a16⟩:=hW'
  refine ⟨by omega,by omega,fun u29 _=>⟨⟨a15,hi,a12.1⟩,fun o _ n _ c _ ho hn hc=>⟨by omega,⟨hW,hE,hi,ho,hn,by omega,qhL,?_⟩,?_⟩⟩⟩
  ·rw [qkR]; rfl
  intro l3 _ u34 _ lf3 _ cf3 _ u37 _ u38 _ u39 _ i3 _ f3 _ u42 _ lg3 _ cg3 _ dg3 _ df3 _ D3 _ ab3 _ rp _ cp _ pd _ o3 _ n3 _ c3 _ j _ hW3 hE3 hii hi3 ho3 hn3 j0 j1 hpl hpB hp3
  have hW3':=hW3
  obtain ⟨b1,b2,b3,b4,b5,b6,b7,b8,b9,b10,b11,b12,b13,b14,b17,b15,b16⟩:=hW3'
  obtain ⟨⟨m1,m2,m3,m4,m5,m6,m7,m8⟩,m9⟩:=b12
  have hl0:0 <= l3.i:=by omega
  refine ⟨fun hj=>?_,fun hj=>?_⟩
  ·have hjk:j.i < (ρ 2).i:=by omega
   have hbo:=qai (x:=i3.i) (y:=(ρ 2).i) b15 (show i3.i <= 255 by omega) (by omega) (show (ρ 2).i <= 255 by omega)
   have hbj:=qai (x:=j.i) (y:=l3.i) j0 (show j.i <= 255 by omega) hl0 b7
   have hltG:i3.i * (ρ 2).i + j.i < (ρ 3).i * (ρ 2).i:=by
    have:=Int.mul_le_mul_of_nonneg_right (show i3.i + 1 <= (ρ 3).i by omega) (show 0 <= (ρ 2).i by omega)
    rw [Int.add_mul,Int.one_mul] at this; omega
   have he:(j.i + 1) * l3.i = j.i * l3.i + l3.i:=by rw [Int.add_mul,Int.one_mul]
   have hltF:j.i * l3.i + l3.i <= (ρ 2).i * l3.i:=by
    have:=Int.mul_le_mul_of_nonneg_right (show j.i + 1 <= (ρ 2).i by omega) hl0
    omega
   have hcell:=qde m8 (i:=o3.i + j.i) (by omega) (by omega)
   rw [add64 (by omega) (by omega),qct (by omega) (by omega),qct (by omega) (by omega),he]
   refine ⟨j0,by omega,by omega,by omega,fun hcap=>⟨by omega,by omega,hbj.1,by omega,by omega,⟨b1,⟨by omega,hl0,by omega,by unfold Go.Eng.big; omega⟩,⟨by split <;> omega,by omega,by split <;> omega,by unfold Go.Eng.big; omega⟩,by omega,hpB,b10,hcell⟩,fun f4 _ d4 _ hf4 hl4 hB4 he4=>?_⟩⟩
   refine ⟨⟨q6k hW3 hf4,hE3,hii,hi3,ho3,hn3,by omega,by omega,by omega,hB4,?_⟩,by omega⟩
   have hsg:seg (bI df3.d) (if cf3.i = j.i * l3.i then 0 else j.i * l3.i).toNat (j.i * l3.i + l3.i - j.i * l3.i).toNat = seg (bI df3.d) (j.i.toNat * l3.i.toNat) l3.i.toNat:=by
    rw [show j.i * l3.i + l3.i - j.i * l3.i = l3.i by omega]
    split
    ·have:l3.i.toNat = 0:=by omega
     rw [this]; simp [seg]
    ·rw [Int.toNat_mul j0 hl0]
   have hgd:(bI dg3.d).getD (i3.i.toNat * (ρ 2).i.toNat + j.i.toNat) 0 = qh dg3.d (o3.i + j.i) 0:=by
    have:=qgH (d:=dg3.d) (i:=o3.i + j.i) (by omega) (by omega)
    rw [show (o3.i + j.i).toNat = i3.i.toNat * (ρ 2).i.toNat + j.i.toNat by rw [ho3,Int.toNat_add hbo.1 j0,Int.toNat_mul b15 (by omega)]] at this
    rw [List.getD_eq_getElem?_getD,this]; rfl
   rw [he4,hp3,hsg,show (j.i + 1).toNat = j.i.toNat + 1 by omega,qce,hgd]
  ·have hjk:j.i = (ρ 2).i:=by omega
   refine ⟨b15,hi3,by omega,fun u56 _ hst=>?_⟩
   rw [add64 (by omega) (by omega)]
   refine ⟨⟨q08 hW3 hi3,?_⟩,by omega⟩
   obtain ⟨ha,la,da⟩:=qjC hst (List.mem_cons_self ..)
   obtain ⟨hb,lb,db⟩:=qck hst (n:=57) (t:=2) (by simp)
   have hr:=q0V (n:=l3.i.toNat) (k:=cp.i.toNat) da la (by simp; omega) (by simp)
   have hr:Rd u56.h kB (.slice (ql rp.r 0) l3.i.toNat cp.i.toNat) pd.d:=by simpa [kB] using hr
   have hdl:i3.i.toNat < D3.d.length:=by omega
   rw [show (i3.i + 1).toNat = i3.i.toNat + 1 by omega]
   refine qyT hE3 (Hp.le_trans (by simpa using db) lb) b15 hdl (by rw [List.getElem?_eq_getElem hdl]; exact b17 _ (List.getElem_mem hdl)) hr ?_ hpB
   rw [hp3,qd6,hjk,b13,b11,bI_len]
   rw [show l3.i.toNat = qC (ρ 2).i.toNat (ρ 7).d.length by omega]
 ·obtain ⟨a1,a2,a3,a4,a5,a6,a7,a8,a9,a10,a11,a12,a13,a14,a17,a15,a16⟩:=hW
  obtain ⟨hb,lb,db⟩:=qck hst (n:=37) (t:=2) (by simp)
  refine ⟨a1,hsz,hle,a14,?_⟩
  rw [show i.i.toNat = (ρ 3).i.toNat by omega] at hE
  exact qkb hE (Hp.le_trans (by simpa using db) lb)
end Go.Proofs

set_option linter.unusedSimpArgs false
set_option linter.unusedVariables false
namespace Go.Proofs
open Go Go.Eng

end Go.Proofs

set_option linter.unusedSimpArgs false
set_option linter.unusedVariables false
namespace Go.Proofs
open Go Go.Eng
theorem qr7:qbF.ok Tryz.prog:=q1E (by simp) fun ρ hg hp=>by
 simp [qmY,qbF]
 refine ⟨fun h1=>⟨fun h2=>⟨fun h3=>?_,fun h3=>?_⟩,fun h2=>?_⟩,fun h1=>?_⟩
 ·simp [qbi,h1,h2,h3,qF]
 ·simp [qbi]; omega
 ·simp [qbi]; omega
 ·simp [qbi]; omega
set_option maxRecDepth 20000 in
theorem qrd:qbL.ok Tryz.prog:=q0w (by simp [qr7]) fun ρ hg hp=>by
 have hp:0 <= (ρ 6).i:=hp
 simp [qnI,qbL,qbF,qE,qmW,qe1,qaK]
 refine fun u _ hu=>⟨fun h hs=>by (rw [hu,hs] at h; cases h),fun h=>⟨fun a _ b=>by omega,fun a=>⟨fun b _ _ c=>by omega,fun b=>⟨hp,fun c _ _ _=>c,fun c=>⟨by rw [<- hu,h],a,b,c⟩⟩⟩⟩⟩
theorem q8d {x:Int}:qd .shr .i64 x 8 = x.fdiv 256:=rfl
set_option maxRecDepth 20000 in
theorem qnU:qbl.ok Tryz.prog:=qyi (by simp [qoO,qsP,q0W]) fun ρ hg hp=>by
 obtain ⟨o0,l0,lc,l1,hle,hB,hGr,hGd⟩:=hp
 simp (config:={ maxSteps:=2000000 }) [qlQ,qbl,qbd,qc1,qf4,gOk]
 have hseg:qcl [[.int .u8 (IntKind.u8.wrap (qd .shr .i64 (ρ 0).i 8))],[.int .u8 (IntKind.u8.wrap (ρ 0).i)]] 0 2 = qbW (ρ 0).i:=by
  rw [q8d,qii,qii]; rfl
 refine fun h _ hh=>⟨⟨⟨[],hh,by decide⟩,?_,hGr,hGd⟩,fun g _ hg1=>?_⟩
 ·intro row hr
  simp at hr
  rcases hr with rfl | rfl
  ·simp [qbB,qad,qii]; omega
  ·simp [qbB,qad,qii]; omega
 ·rw [hseg] at hg1
  have h1:=hg1 [] hh
  refine ⟨⟨⟨_,h1,by simp [qbW]⟩,o0,l0,lc,by omega,hle,hB,hGr,hGd⟩,fun k _ hk=>⟨⟨⟨_,hk _ h1,?_⟩,hGr,hGd⟩,fun d _ hd=>?_⟩⟩
  ·have:(qcl (ρ 5).d (ρ 2).i (ρ 3).i).length <= (ρ 3).i.toNat:=by simp [qcl]; omega
   simp [qbW]; omega
  ·exact (show qf _ 32 = qf d.d 32 from rfl).trans (hd _ (hk _ h1))
theorem qff {lim:Int} {b:Bool} {x m s:List Int} (h:(b,x) = qfL lim false m s) (hf:(m.length:Int) + s.length <= lim):b = false/\x = m ++ s:=by
 rw [qkg (by simp [qg5]; omega)] at h
 simpa using h
theorem q6J {x:Int}:IntKind.u16.wrap x = x % 65536:=by simp [IntKind.wrap,IntKind.bits,IntKind.signed]
theorem q4U {d:qe} {i:Nat} (h:i < d.length):qf [qen (qh d i)] 32 = qgP d[i]:=by
 refine List.map_congr_left fun j hj=>?_
 rw [qmt (List.mem_range.1 hj)]
 simp [qh,qaj,qbB,h]
theorem qu4 {d:qe} {i:Nat} (h:i < d.length):((dgs d).take (i + 1)).flatten = ((dgs d).take i).flatten ++ qgP d[i]:=by
 rw [List.take_add_one,List.getElem?_eq_getElem (by simpa [dgs] using h)]
 simp [dgs]
set_option maxRecDepth 20000 in
set_option maxHeartbeats 800000 in
theorem q18:qd3.ok Tryz.prog:=q1v (by simp [qrd,quW,q7K,q6T,q5z,q2B,q3Z]) fun ρ hg hp=>by
 obtain ⟨l0,hl,ho,hd⟩:=hp
 simp (config:={ maxSteps:=2000000 }) [qne,qd3,qqu,qbL,qb4,u8C,qi7,qoP,qgq,qeJ,qeL,qbN,qe9,qgx]
 refine ⟨l0,fun e _ he=>⟨fun hne=>?_,fun hz lim _ hlim=>?_⟩⟩
 ·by_cases h:qE (ρ 0).i (ρ 1).i (ρ 2).i (ρ 3).i (ρ 6).i = true
  ·rw [if_pos h] at he; exact absurd he hne
  ·rw [if_neg h] at he; exact ⟨he.symm,by simpa using h⟩
 ·have hok:qE (ρ 0).i (ρ 1).i (ρ 2).i (ρ 3).i (ρ 6).i = true:=by
   by_cases h:qE (ρ 0).i (ρ 1).i (ρ 2).i (ρ 3).i (ρ 6).i = true
   ·exact h
   ·rw [if_neg h] at he; omega
  have hb:=hok
  simp [qE,qbi] at hb
  obtain ⟨⟨b1,b2,b3,b4⟩,b5,b6,b7⟩:=hb
  have hl2:lim.i = 39 + 32 * (ρ 2).i:=by
   rw [hlim,qct (by omega) (by omega),add64 (by omega) (by omega)]; omega
  clear hlim
  simp only [qii,q6J]
  have hman:List.drop 4 (qf [([.int .i64 (ρ 0).i,.int .i64 (ρ 1).i,.int .i64 (ρ 2).i,.int .i64 (ρ 3).i] ++ (qen (qa (ρ 4).d) ++ [.slice (ql (ρ 5).r 0) (ρ 6).i.toNat (ρ 7).i.toNat]):List Value)] 36) = qf (ρ 4).d 32:=rfl
  have hone:qak [([.int .i64 (ρ 0).i,.int .i64 (ρ 1).i,.int .i64 (ρ 2).i,.int .i64 (ρ 3).i] ++ (qen (qa (ρ 4).d) ++ [.slice (ql (ρ 5).r 0) (ρ 6).i.toNat (ρ 7).i.toNat]):List Value)] 37:=⟨_,rfl,by simp [qen]⟩
  have hlen:∀ {l n c:Int} {d:qe},wOk l n c d->n = ((bI d).length:Int):=fun h=>by rw [bI_len]; exact h.2.2.1
  refine ⟨⟨by omega,by omega,rfl,by omega,by intro r hr; cases hr⟩,fun f1 _ n1 _ c1 _ d1 _ w1 g1=>?_⟩
  obtain ⟨y1,x1⟩:=qff g1 (by rw [hl2]; simp [bI,qa8]; omega)
  have L1:(bI d1.d).length = 2:=by rw [x1]; simp [bI,qa8]
  have q1:=hlen w1
  refine ⟨⟨w1,by omega,by omega,by omega⟩,fun f2 _ n2 _ c2 _ d2 _ w2 g2=>?_⟩
  rw [y1] at g2
  obtain ⟨y2,x2⟩:=qff g2 (by rw [hl2,L1,qa8]; omega)
  have L2:(bI d2.d).length = 3:=by rw [x2,List.length_append,L1,qa8]
  have q2:=hlen w2
  refine ⟨⟨w2,by omega,by omega,by omega⟩,fun f3 _ n3 _ c3 _ d3 _ w3 g3=>?_⟩
  rw [y2] at g3
  obtain ⟨y3,x3⟩:=qff g3 (by rw [hl2,L2,qa8]; omega)
  have L3:(bI d3.d).length = 4:=by rw [x3,List.length_append,L2,qa8]
  have q3:=hlen w3
  refine ⟨⟨w3,by omega,by omega,by omega⟩,fun f4 _ n4 _ c4 _ d4 _ w4 g4=>?_⟩
  rw [y3] at g4
  obtain ⟨y4,x4⟩:=qff g4 (by rw [hl2,L3,qa8]; omega)
  have L4:(bI d4.d).length = 5:=by rw [x4,List.length_append,L3,qa8]
  have q4:=hlen w4
  refine ⟨⟨w4,by omega,by omega,by omega⟩,fun f5 _ n5 _ c5 _ d5 _ w5 g5=>?_⟩
  rw [y4] at g5
  obtain ⟨y5,x5⟩:=qff g5 (by rw [hl2,L4,qa8]; omega)
  have L5:(bI d5.d).length = 7:=by rw [x5,List.length_append,L4,qa8]
  have q5:=hlen w5
  refine ⟨⟨w5,by omega,hone,?_⟩,fun f6 _ n6 _ c6 _ d6 _ w6 g6=>?_⟩
  ·have:=hman
   exact this ▸ ho
  have g6':(f6.b,bI d6.d) = qfL lim.i f5.b (bI d5.d) (qf (ρ 4).d 32):=g6
  rw [y5] at g6'
  obtain ⟨y6,x6⟩:=qff g6' (by rw [hl2,L5,qdn]; omega)
  have hhead:bI d6.d = qaD (ρ 0).i (ρ 1).i (ρ 2).i (ρ 3).i (qf (ρ 4).d 32):=by
   rw [x6,x5,x4,x3,x2,x1]
   simp [qaD,bI,List.append_assoc]
  refine ⟨l0,⟨hok,l0,hl2,y6,w6,hhead⟩,fun lim2 _ f _ n _ c _ d _ t _ _ t0 t1 z1 z2 z3 z4=>⟨fun hlt=>?_,fun hge=>?_⟩⟩
  ·obtain ⟨T,hT⟩:∃ T:Nat,t.i = T:=⟨t.i.toNat,by omega⟩
   have m1:qd .add .i64 t.i 1 = ((T + 1:Nat):Int):=by rw [add64 (by omega) (by omega)]; omega
   have hTl:T < (ρ 8).d.length:=by omega
   have hrow:=q4U hTl
   have hnl:n.i = 39 + 32 * t.i:=by
    have h1:=hlen z3
    rw [z4,List.length_append] at h1
    have h2:∀ (k:Nat),k <= (ρ 8).d.length->((dgs (ρ 8).d).take k).flatten.length = 32 * k:=fun k=>by
     induction k with
     | zero=>intro _; simp
     | succ k ih=>intro hk; rw [qu4 (by omega),List.length_append,ih (by omega)]; simp [qgP]; omega
    rw [h2 _ (by omega)] at h1
    have h3:(qaD (ρ 0).i (ρ 1).i (ρ 2).i (ρ 3).i (qf (ρ 4).d 32)).length = 39:=by simp [qaD,qa8,qdn]
    omega
   rw [hT] at z4 hnl ⊢
   rw [<- hT,m1,hT]
   refine ⟨by omega,by omega,⟨z3,by omega,⟨_,rfl,rfl⟩,?_⟩,fun f7 _ n7 _ c7 _ d7 _ w7 g7=>?_⟩
   ·have h1:qQ (qgP (ρ 8).d[T]):=(hd _ (List.getElem_mem hTl)).2
    rw [<- hrow] at h1
    exact h1
   ·have g7':(f7.b,bI d7.d) = qfL lim2.i f.b (bI d.d) (qf [qen (qh (ρ 8).d T)] 32):=g7
    rw [z2,hrow] at g7'
    have hbl:(qgP (ρ 8).d[T]).length = 32:=by simp [qgP]
    obtain ⟨y7,x7⟩:=qff g7' (by rw [<- hlen z3,hbl]; omega)
    refine ⟨⟨hok,by omega,by omega,z1,y7,w7,?_⟩,by omega⟩
    rw [x7,z4]
    simp only [Int.toNat_natCast]
    rw [qu4 hTl,List.append_assoc]
  ·have ht:t.i.toNat = (ρ 8).d.length:=by omega
   rw [ht] at z4
   rw [List.take_of_length_le (by simp [dgs])] at z4
   refine ⟨⟨z3,?_⟩,z2,fun e _ _ he=>⟨hok,by rw [he]; exact z3.2.2.1,by rw [he]; exact z3.2.2.2.2,by rw [he]; exact z4⟩⟩
   have:=z3.2.2.2.1
   omega
end Go.Proofs

set_option linter.unusedSimpArgs false
set_option linter.unusedVariables false
namespace Go.Proofs
open Go Go.Eng
theorem qfU (m:List Int):qQ (sha m):=fun x hx=>by
 obtain ⟨j,_,rfl⟩:=List.mem_map.1 hx
 omega
theorem qyg {f:Nat->List Int} {n:Nat}:(qdp f n).length = n:=by simp [qdp]
theorem qo6 {g full:List Int} {k l i:Nat}:∀ j,(qce g full k l i j).length = l
 | 0=>by simp [qce]
 | j + 1=>by rw [qce,qcy,qo6 j]
theorem q4x {k total:Nat} {data:List Int} {i:Nat}:(qd6 k total data i).length = qC k data.length:=qo6 k
theorem q24 {d:qe} {r:List Value}:dgs (d ++ [r]) = dgs d ++ [qgP r]:=by simp [dgs]
theorem qvM {f:Nat->List Int} {n:Nat}:qdp f (n + 1) = qdp f n ++ [sha (qbW n ++ f n)]:=by simp [qdp,List.range_succ]
theorem q52 {d:qe}:qgP (qen (qa d)) = qf d 32:=rfl
set_option maxRecDepth 20000 in
set_option maxHeartbeats 1600000 in
theorem qxa:qg6.ok Tryz.prog:=qq1 (by simp [qr7,qvV,qlC,qnU]) fun ρ hg hp=>by
 obtain ⟨hf,hl,hlc,hB,⟨hGr,hGd⟩,htop⟩:=hp
 simp (config:={ maxSteps:=2000000 }) [qui,qg6,qzE,qbF,qbU,qaH,qbl,gOk,qlX]
 have hnn:=qbS hf
 refine fun u _=>⟨fun h=>absurd h hnn.1,fun _ b _ hb=>⟨fun hz=>⟨hf,by rw [<- hb]; exact hz⟩,fun hz=>?_⟩⟩
 rw [hz] at hb
 have hs3:=hb.symm
 have hs3':=hs3
 simp [qbi] at hs3'
 obtain ⟨b1,b2,b3,b4⟩:=hs3'
 have hsB:qa4 (ρ 2).i (ρ 4).i = true:=by simp [qa4]; omega
 have hsz:qa4 (ρ 2).i (ρ 4).i = false->False:=fun h=>by rw [hsB] at h; cases h
 refine ⟨⟨hf,hl,hB,htop⟩,fun e _ f _ hf2 he=>⟨fun hne=>⟨hf2,?_⟩,fun hz2=>?_⟩,fun _ _ _ _ f _ P _ ab _ hf2 _ hle hPl hE=>⟨by omega,⟨⟨by omega,hlc,by omega,by omega,hB⟩,hGr,hGd⟩,fun o _ ho _ _=>⟨by omega,⟨hf2,hs3,hle,by omega,hPl,hE,?_,?_,?_⟩,fun _ _ _ _ _ _ o2 _ _ _ t _ _ _ Ds _ P2 _ _ _ f2 _ ab2 _ hf3 _ _ t0 t1 hPl2 hE2 ho2 hDl hDo hDm=>⟨fun hlt=>?_,fun hge=>?_⟩⟩⟩⟩
 ·rcases he with ⟨h,_⟩ | ⟨_,h1,h2⟩
  ·exact (hsz h).elim
  ·exact .inr ⟨hs3,h1,h2⟩
 ·rcases he with ⟨h,_⟩ | ⟨_,h1,h2⟩
  ·exact (hsz h).elim
  ·omega
 ·rw [qkk hl] at ho
  exact ho
 ·intro r hr; cases hr
 ·rfl
 ·obtain ⟨T,hT⟩:∃ T:Nat,t.i = T:=⟨t.i.toNat,by omega⟩
  have m1:qd .add .i64 t.i 1 = ((T + 1:Nat):Int):=by rw [add64 (by omega) (by omega)]; omega
  obtain ⟨v,d,e1,e2,e3,e4⟩:=hE2 T (by omega)
  have hcv:qaj P2.d t.i 1 = v:=by rw [hT]; simp [qaj,e1]
  have hci:qh P2.d t.i 0 = (T:Int):=by rw [hT]; simp [qh,qaj,e1,qad]
  rw [m1,hcv,hci]
  have hdl:d.length <= (ρ 8).d.length:=by
   have h1:=congrArg List.length e3
   rw [bI_len,q4x,bI_len] at h1
   have:=qmA (k:=(ρ 2).i.toNat) (n:=(ρ 8).d.length) (by omega)
   omega
  refine ⟨by omega,by omega,fun _ _=>⟨d,e2,fun r0 _ c1 _ hv hcl=>⟨⟨hcl,by omega,e4,hGr,hGd⟩,fun g _ hg2 _ _=>⟨by omega,by omega,fun _ _ _ _ ab3 _ hst=>⟨by omega,⟨hf3,hs3,hle,by omega,by omega,hPl2,?_,ho2,by omega,?_,?_⟩,by omega⟩⟩⟩⟩⟩
  ·obtain ⟨hb2,lb,db⟩:=qck hst (n:=32) (t:=2) (by simp)
   exact qkb hE2 (Hp.le_trans (by simpa using db) lb)
  ·intro r hr
   rcases List.mem_append.1 hr with hr | hr
   ·exact hDo r hr
   ·obtain rfl:=List.mem_singleton.1 hr
    refine ⟨rfl,?_⟩
    have:qQ (qf g.d 32):=by rw [hg2]; exact qfU _
    exact this
  ·have hh:dgs (Ds.d ++ [qen (qa g.d)]) = qdp (qd6 (ρ 2).i.toNat (ρ 4).i.toNat (bI (ρ 8).d)) (T + 1):=by
    rw [q24,q52,hg2,qkk rfl,e3,hDm,hT,Int.toNat_natCast,qvM]
   exact hh
 ·have ht:t.i = (ρ 4).i:=by omega
  refine fun ab3 _ hst=>⟨by omega,hf3,hs3,hle,hPl2,?_,ho2,hDo,by rw [hDm,ht]⟩
  obtain ⟨hb2,lb,db⟩:=qck hst (n:=32) (t:=2) (by simp)
  exact qkb hE2 (Hp.le_trans (by simpa using db) lb)
end Go.Proofs

set_option linter.unusedSimpArgs false
set_option linter.unusedVariables false
namespace Go.Proofs
open Go Go.Eng
set_option maxRecDepth 20000
end Go.Proofs

set_option linter.unusedSimpArgs false
set_option linter.unusedVariables false
namespace Go.Eng
open Go Go.Proofs
end Go.Eng

set_option linter.unusedSimpArgs false
set_option linter.unusedVariables false
set_option maxRecDepth 100000
namespace Go.Proofs
open Go Go.Eng

end Go.Proofs

set_option linter.unusedSimpArgs false
set_option linter.unusedVariables false
namespace Go.Proofs
open Go Go.Eng
set_option maxRecDepth 20000
end Go.Proofs

set_option linter.unusedSimpArgs false
set_option linter.unusedVariables false
namespace Go.Proofs
open Go Go.Eng
set_option maxRecDepth 20000
end Go.Proofs

set_option linter.unusedSimpArgs false
set_option linter.unusedVariables false
namespace Go.Eng
open Go Go.Proofs
end Go.Eng

set_option linter.unusedSimpArgs false
set_option linter.unusedVariables false
set_option maxRecDepth 100000
namespace Go.Proofs
open Go Go.Eng

end Go.Proofs

set_option linter.unusedSimpArgs false
set_option linter.unusedVariables false
namespace Go.Proofs
open Go Go.Eng
set_option maxRecDepth 20000
end Go.Proofs

set_option linter.unusedSimpArgs false
set_option linter.unusedVariables false
namespace Go.Eng
open Go Go.Proofs
end Go.Eng

set_option linter.unusedSimpArgs false
set_option linter.unusedVariables false
set_option maxRecDepth 100000
namespace Go.Proofs
open Go Go.Eng

end Go.Proofs

set_option linter.unusedSimpArgs false
set_option linter.unusedVariables false
namespace Go.Proofs
open Go Go.Eng
set_option maxRecDepth 20000
theorem q5d {D:qe}:(dgs D).length = D.length:=by simp [dgs]
end Go.Proofs

set_option linter.unusedSimpArgs false
set_option linter.unusedVariables false
namespace Go.Proofs
open Go Go.Eng
set_option maxRecDepth 20000
end Go.Proofs

set_option linter.unusedSimpArgs false
set_option linter.unusedVariables false
namespace Go.Eng
open Go Go.Proofs
def q4K (ρ:Env) (r:Nat):Prop:=qcR (ρ r).i/\qcR (ρ (r + 1)).i/\qcR (ρ (r + 2)).i/\qcR (ρ (r + 3)).i/\qQ (qf (ρ (r + 4)).d 32)/\(ρ (r + 6)).i = (ρ (r + 8)).d.length/\(ρ (r + 6)).i <= 4398046510976/\qdi (ρ (r + 8)).d
def qzD (ρ:Env):List Int:=qaD (ρ 0).i (ρ 1).i (ρ 2).i (ρ 3).i (qf (ρ 4).d 32) ++ (dgs (ρ 8).d).flatten
def qva (ρ:Env):Bool:=qE (ρ 0).i (ρ 1).i (ρ 2).i (ρ 3).i (ρ 6).i
def qx9 (ρ:Env):Prop:=(ρ 6).i = (ρ 8).d.length/\qQ (qf (ρ 4).d 32)/\qdi (ρ 8).d
def qoN:List Alt:=[
 { k:=2,ret:=.tup [(true,qaK .u8 12 32),qcb (.var 13)],heap:=[],post:=fun ρ=>(qva ρ = false/\(ρ 13).i = 2/\qf (ρ 12).d 32 = List.replicate 32 0)∨(qva ρ = true/\(ρ 13).i = 0/\qf (ρ 12).d 32 = sha (qzD ρ)) }]
def idC:Ctr:={ fn := 44,nv:=12,ip:=[gIp 10,(1005,9)],args:=[qmW],heap:=[],ro:=[qdj 5 8 9,gHp 10 11],pre:=fun ρ=>qx9 ρ/\gOk ρ 10 11 gR,alts:=qoN }
end Go.Eng

set_option linter.unusedSimpArgs false
set_option linter.unusedVariables false
set_option maxRecDepth 100000
namespace Go.Proofs
open Go Go.Eng

end Go.Proofs

set_option linter.unusedSimpArgs false
set_option linter.unusedVariables false
namespace Go.Proofs
open Go Go.Eng
set_option maxRecDepth 20000
theorem qcD {l:List (List Int)} (h:∀ x ∈ l,x.length = 32):l.flatten.length = 32 * l.length:=by
 induction l with
 | nil=>rfl
 | cons x r ih =>
  rw [List.flatten_cons,List.length_append,h x (List.mem_cons_self ..),ih (fun y hy=>h y (List.mem_cons_of_mem _ hy)),List.length_cons]; omega
theorem qxm {l:List (List Int)} (h:∀ x ∈ l,x.length = 32):∀ {j:Nat} (hj:j < l.length),(l.flatten.drop (32 * j)).take 32 = l[j]:=by
 induction l with
 | nil=>intro j hj; simp at hj
 | cons x r ih =>
  intro j hj
  have hx:=h x (List.mem_cons_self ..)
  cases j with
  | zero=>simp [List.take_left' hx]
  | succ j =>
   rw [List.flatten_cons,show 32 * (j + 1) = x.length + 32 * j by omega,List.drop_length_add_append]
   exact ih (fun y hy=>h y (List.mem_cons_of_mem _ hy)) (by simpa using hj)
theorem q6S {D:qe}:∀ x ∈ dgs D,x.length = 32:=fun x hx=>by
 obtain ⟨r,_,rfl⟩:=List.mem_map.1 hx
 simp [qgP]
end Go.Proofs

set_option linter.unusedSimpArgs false
set_option linter.unusedVariables false
namespace Go.Proofs
open Go Go.Eng
def qs0 (d:qe) (i:Int):List Int:=(List.range 32).map fun k=>qh d i k
@[simp high] theorem q8p (d:qe):qf [[.int .u8 (qa d 0),.int .u8 (qa d 1),.int .u8 (qa d 2),.int .u8 (qa d 3),.int .u8 (qa d 4),.int .u8 (qa d 5),.int .u8 (qa d 6),.int .u8 (qa d 7),.int .u8 (qa d 8),.int .u8 (qa d 9),.int .u8 (qa d 10),.int .u8 (qa d 11),.int .u8 (qa d 12),.int .u8 (qa d 13),.int .u8 (qa d 14),.int .u8 (qa d 15),.int .u8 (qa d 16),.int .u8 (qa d 17),.int .u8 (qa d 18),.int .u8 (qa d 19),.int .u8 (qa d 20),.int .u8 (qa d 21),.int .u8 (qa d 22),.int .u8 (qa d 23),.int .u8 (qa d 24),.int .u8 (qa d 25),.int .u8 (qa d 26),.int .u8 (qa d 27),.int .u8 (qa d 28),.int .u8 (qa d 29),.int .u8 (qa d 30),.int .u8 (qa d 31)]] 32 = qf d 32:=rfl
@[simp high] theorem q8s (d:qe) (i:Int):qf [[.int .u8 (qh d i 0),.int .u8 (qh d i 1),.int .u8 (qh d i 2),.int .u8 (qh d i 3),.int .u8 (qh d i 4),.int .u8 (qh d i 5),.int .u8 (qh d i 6),.int .u8 (qh d i 7),.int .u8 (qh d i 8),.int .u8 (qh d i 9),.int .u8 (qh d i 10),.int .u8 (qh d i 11),.int .u8 (qh d i 12),.int .u8 (qh d i 13),.int .u8 (qh d i 14),.int .u8 (qh d i 15),.int .u8 (qh d i 16),.int .u8 (qh d i 17),.int .u8 (qh d i 18),.int .u8 (qh d i 19),.int .u8 (qh d i 20),.int .u8 (qh d i 21),.int .u8 (qh d i 22),.int .u8 (qh d i 23),.int .u8 (qh d i 24),.int .u8 (qh d i 25),.int .u8 (qh d i 26),.int .u8 (qh d i 27),.int .u8 (qh d i 28),.int .u8 (qh d i 29),.int .u8 (qh d i 30),.int .u8 (qh d i 31)]] 32 = qs0 d i:=rfl
@[simp high] theorem q8q (d:qe):([.int .u8 (qa d 0),.int .u8 (qa d 1),.int .u8 (qa d 2),.int .u8 (qa d 3),.int .u8 (qa d 4),.int .u8 (qa d 5),.int .u8 (qa d 6),.int .u8 (qa d 7),.int .u8 (qa d 8),.int .u8 (qa d 9),.int .u8 (qa d 10),.int .u8 (qa d 11),.int .u8 (qa d 12),.int .u8 (qa d 13),.int .u8 (qa d 14),.int .u8 (qa d 15),.int .u8 (qa d 16),.int .u8 (qa d 17),.int .u8 (qa d 18),.int .u8 (qa d 19),.int .u8 (qa d 20),.int .u8 (qa d 21),.int .u8 (qa d 22),.int .u8 (qa d 23),.int .u8 (qa d 24),.int .u8 (qa d 25),.int .u8 (qa d 26),.int .u8 (qa d 27),.int .u8 (qa d 28),.int .u8 (qa d 29),.int .u8 (qa d 30),.int .u8 (qa d 31)]:List Value).map qad = qf d 32:=rfl
@[simp high] theorem q8r (d:qe) (i:Int):([.int .u8 (qh d i 0),.int .u8 (qh d i 1),.int .u8 (qh d i 2),.int .u8 (qh d i 3),.int .u8 (qh d i 4),.int .u8 (qh d i 5),.int .u8 (qh d i 6),.int .u8 (qh d i 7),.int .u8 (qh d i 8),.int .u8 (qh d i 9),.int .u8 (qh d i 10),.int .u8 (qh d i 11),.int .u8 (qh d i 12),.int .u8 (qh d i 13),.int .u8 (qh d i 14),.int .u8 (qh d i 15),.int .u8 (qh d i 16),.int .u8 (qh d i 17),.int .u8 (qh d i 18),.int .u8 (qh d i 19),.int .u8 (qh d i 20),.int .u8 (qh d i 21),.int .u8 (qh d i 22),.int .u8 (qh d i 23),.int .u8 (qh d i 24),.int .u8 (qh d i 25),.int .u8 (qh d i 26),.int .u8 (qh d i 27),.int .u8 (qh d i 28),.int .u8 (qh d i 29),.int .u8 (qh d i 30),.int .u8 (qh d i 31)]:List Value).map qad = qs0 d i:=rfl
@[simp high] theorem q8o:qf [[.int .u8 0,.int .u8 0,.int .u8 0,.int .u8 0,.int .u8 0,.int .u8 0,.int .u8 0,.int .u8 0,.int .u8 0,.int .u8 0,.int .u8 0,.int .u8 0,.int .u8 0,.int .u8 0,.int .u8 0,.int .u8 0,.int .u8 0,.int .u8 0,.int .u8 0,.int .u8 0,.int .u8 0,.int .u8 0,.int .u8 0,.int .u8 0,.int .u8 0,.int .u8 0,.int .u8 0,.int .u8 0,.int .u8 0,.int .u8 0,.int .u8 0,.int .u8 0]] 32 = List.replicate 32 0:=rfl
@[simp high] theorem q8n:([.int .u8 0,.int .u8 0,.int .u8 0,.int .u8 0,.int .u8 0,.int .u8 0,.int .u8 0,.int .u8 0,.int .u8 0,.int .u8 0,.int .u8 0,.int .u8 0,.int .u8 0,.int .u8 0,.int .u8 0,.int .u8 0,.int .u8 0,.int .u8 0,.int .u8 0,.int .u8 0,.int .u8 0,.int .u8 0,.int .u8 0,.int .u8 0,.int .u8 0,.int .u8 0,.int .u8 0,.int .u8 0,.int .u8 0,.int .u8 0,.int .u8 0,.int .u8 0]:List Value).map qad = List.replicate 32 0:=rfl
theorem q0b {d:qe} {i:Int} (h0:0 <= i) (h1:i < d.length):qs0 d i = (dgs d).getD i.toNat []:=by
 have hl:i.toNat < d.length:=by omega
 have h2:(dgs d).getD i.toNat [] = qgP d[i.toNat]:=by simp [dgs,hl]
 rw [h2]
 refine List.map_congr_left fun k hk=>?_
 simp [qh,qaj,qbB,hl]
end Go.Proofs

set_option linter.unusedSimpArgs false
set_option linter.unusedVariables false
namespace Go.Eng
open Go

end Go.Eng

set_option linter.unusedSimpArgs false
set_option linter.unusedVariables false
namespace Go.Eng
open Go Go.Proofs
def qge (r:Nat):SV:=.agg [.vint .i64 (.var r),.vslice (r + 1) (.lit 0) (.var (r + 2)) (.var (r + 3)) 1]
def qfm (r:Nat):SH:=bHp (r + 1) (r + 4) (r + 5)
def qgW (ρ:Env) (r:Nat):Prop:=(ρ (r + 2)).i = (ρ (r + 4)).d.length/\(ρ (r + 2)).i <= (ρ (r + 3)).i/\(ρ (r + 2)).i <= 100000000/\qy (ρ (r + 4)).d
def qek (k s:Int):Int:=(s + k - 1).tdiv k
def qcc (k n t s l:Int) (D:List (List Int)) (i:Int) (m:List Int):Int:=if qE k n t s l = false then 2 else if i < 0∨t <= i then 2 else if (m.length:Int) ≠ qek k s then 10 else if sha (qbW i ++ m) ≠ D.getD i.toNat [] then 20 else 0
def q1W (ρ:Env):Prop:=qcR (ρ 0).i/\qcR (ρ 3).i/\(ρ 6).i = (ρ 8).d.length/\qdi (ρ 8).d/\qgW ρ 10
def qqr:List Alt:=[{ k:=1,ret:=iv .i64 (.var 18),heap:=[],post:=fun ρ=>(ρ 18).i = qcc (ρ 0).i (ρ 1).i (ρ 2).i (ρ 3).i (ρ 6).i (dgs (ρ 8).d) (ρ 10).i (bI (ρ 14).d) }]
def qdx:Ctr:={ fn := 60,nv:=18,ip:=[gIp 16],args:=[qmW,qge 10],heap:=[],ro:=[qdj 5 8 9,qfm 10,gHp 16 17],pre:=fun ρ=>q1W ρ/\gOk ρ 16 17 gR,alts:=qqr }
end Go.Eng

set_option linter.unusedSimpArgs false
set_option linter.unusedVariables false
set_option maxRecDepth 100000
namespace Go.Proofs
open Go Go.Eng

@[simp] def qsW:Sg:=sg 0 [bv 9 9,bv 8 8,bv 7 7,bv 6 6,bg 5 5,bv 3 3,bv 2 2,bv 1 1,bv 0 0,bt 4 (r8 4)]
def q4f:Out:=(.fresh 12 (.fresh 13 (.pre 0 qsW (.both (.post 0 0 qsW 14 (.ret 0 (sg 12 [bt 13 (.lit 2),bt 12 z8]))) (.both (.fresh 14 (.fresh 15 (.fresh 16 (.fresh 17 (.post 0 1 qsW 14 (.know (.cmp .leq (.dlen (.var 17)) (.var 16)) (.pre 1 (sg 0 [bv 7 11,bv 5 16,bv 4 17,bv 3 16,bv 2 15,bt 1 (.lit 0),bg 0 14,bg 6 10]) (.both (.fresh 18 (.post 1 0 (sg 0 [bv 7 11,bv 5 16,bv 4 17,bv 3 16,bv 2 15,bt 1 (.lit 0),bg 0 14,bg 6 10]) 18 (.ret 0 (sg 12 [bt 13 (.lit 0),bt 12 (r8 18)])))) .top)))))))) .top)))))
theorem q5L:qj ⟨Tryz.prog,idC,[qd3,qaH],[]⟩ 100000 Tryz.f44 = q4f:=by kernel_rfl
theorem q7M (hd:∀ c ∈ ([qd3,qaH]:List Ctr),c.ok Tryz.prog) (h:∀ ρ:Env,ρ.good->(idC).pre ρ->q4f.den ⟨Tryz.prog,idC,[qd3,qaH],[]⟩ ρ):(idC).ok Tryz.prog :=
 qc Tryz.func44 (fun a w=>Tryz.call44 a w) hd 100000 (fun ρ hg hp=>by rw [q5L]; exact h ρ hg hp)
end Go.Proofs

set_option linter.unusedSimpArgs false
set_option linter.unusedVariables false
set_option maxRecDepth 100000
namespace Go.Proofs
open Go Go.Eng
theorem q5s:∀ i:Fin 255,qly.getD (qhV.getD i.val 0).toNat 0 = i.val:=by decide +kernel
theorem q5I:∀ a:Fin 256,a.val ≠ 0->qhV.getD (qly.getD a.val 0).toNat 0 = a.val:=by decide +kernel
theorem q5S:∀ i:Fin 255,qhV.getD (i.val + 255) 0 = qhV.getD i.val 0:=by decide +kernel
end Go.Proofs

set_option linter.unusedSimpArgs false
set_option linter.unusedVariables false
namespace Go.Proofs
open Go Go.Eng

abbrev F:=BitVec 8
def toF (x:Int):F:=BitVec.ofInt 8 x
def ofF (x:F):Int:=(x.toNat:Nat)
def isB (x:Int):Prop:=0 <= x/\x < 256
theorem qjl {x:F}:isB (ofF x):=⟨Int.natCast_nonneg _,by have:=x.isLt; unfold ofF; omega⟩
theorem qiS {x:F}:toF (ofF x) = x:=by
 unfold toF ofF
 apply BitVec.eq_of_toNat_eq
 rw [BitVec.toNat_ofInt]
 have:=x.isLt
 omega
theorem qrq {x:Int} (h:isB x):(toF x).toNat = x.toNat:=by
 obtain ⟨h0,h1⟩:=h
 unfold toF
 rw [BitVec.toNat_ofInt]
 omega
theorem qwH {x:Int} (h:isB x):ofF (toF x) = x:=by
 unfold ofF
 rw [qrq h]
 obtain ⟨h0,h1⟩:=h
 omega
theorem qqm {x y:Int} (hx:isB x) (hy:isB y) (h:toF x = toF y):x = y:=by rw [<- qwH hx,<- qwH hy,h]
theorem quu:toF 0 = 0:=rfl
theorem qeP {x:Int} (h:isB x):toF x = 0↔x = 0:=⟨fun e=>qqm h ⟨by omega,by omega⟩ e,fun e=>by rw [e]; rfl⟩
theorem q1m {x y:Int}:qhJ x y = ofF (toF x ^^^ toF y):=by
 have h:(BitVec.ofInt 8 x ^^^ BitVec.ofInt 8 y).toNat < 256:=(BitVec.ofInt 8 x ^^^ BitVec.ofInt 8 y).isLt
 unfold qhJ qd ofF toF
 show IntKind.u8.wrap _ = _
 have hb:IntKind.u8.bits = 8:=rfl
 rw [hb]
 generalize (BitVec.ofInt 8 x ^^^ BitVec.ofInt 8 y).toNat = z at h ⊢
 simp only [IntKind.wrap,IntKind.bits,IntKind.signed]
 simp
 omega
theorem qj5 {x y:Int}:toF (qhJ x y) = toF x ^^^ toF y:=by rw [q1m,qiS]

def qbw (n:Nat):F:=BitVec.ofNat 8 (qhV.getD (n % 255) 0).toNat
def qez (x:F):Nat:=(qly.getD x.toNat 0).toNat
def qg (x y:F):F:=if x = 0∨y = 0 then 0 else qbw (qez x + qez y)
def qe2 (x:F):F:=if x = 0 then 0 else qbw (255 - qez x)
theorem qtu {n:Nat}:qbw (n % 255) = qbw n:=by unfold qbw; rw [Nat.mod_mod]
theorem qjL {n m:Nat} (h:n % 255 = m % 255):qbw n = qbw m:=by rw [<- qtu,h,qtu]
theorem qhj {n:Nat}:(qbw n).toNat = (qhV.getD (n % 255) 0).toNat:=by
 have h:=qf1 ⟨n % 255,by omega⟩
 simp only at h
 unfold qbw
 rw [BitVec.toNat_ofNat]
 omega
theorem qmi {n:Nat}:qbw n ≠ 0:=fun h=>by
 have h1:=congrArg BitVec.toNat h
 rw [qhj] at h1
 have h2:=qf1 ⟨n % 255,by omega⟩
 simp only at h2
 rw [show (0:F).toNat = 0 by rfl] at h1
 omega
theorem qfY {x:F}:qez x < 255:=by
 have:=qkq ⟨x.toNat,x.isLt⟩
 simp only at this
 unfold qez
 omega
theorem qh2 {x:F} (h:x ≠ 0):qbw (qez x) = x:=by
 apply BitVec.eq_of_toNat_eq
 have h0:x.toNat ≠ 0:=fun e=>h (BitVec.eq_of_toNat_eq (by rw [e]; rfl))
 have h1:=q5I ⟨x.toNat,x.isLt⟩ h0
 simp only at h1
 rw [qhj,Nat.mod_eq_of_lt qfY,qez,h1]
 omega
theorem qtN {n:Nat}:qez (qbw n) = n % 255:=by
 have h:=q5s ⟨n % 255,by omega⟩
 simp only at h
 unfold qez
 rw [qhj,h]
 omega
theorem qi0:qbw 0 = 1:=by decide
theorem qZ {x y:F}:qg x y = qg y x:=by
 unfold qg
 by_cases hx:x = 0
 ·simp [hx]
 ·by_cases hy:y = 0
  ·simp [hy]
  ·rw [if_neg (not_or.2 ⟨hx,hy⟩),if_neg (not_or.2 ⟨hy,hx⟩),Nat.add_comm]
theorem qz {x:F}:qg x 0 = 0:=by simp [qg]
theorem q9 {x:F}:qg 0 x = 0:=by simp [qg]
theorem qwQ {x y:F} (hx:x ≠ 0) (hy:y ≠ 0):qg x y = qbw (qez x + qez y):=by rw [qg,if_neg (not_or.2 ⟨hx,hy⟩)]
theorem qkG {x y:F} (hx:x ≠ 0) (hy:y ≠ 0):qg x y ≠ 0:=by rw [qwQ hx hy]; exact qmi
theorem qsO {x y:F}:qg x y = 0↔x = 0∨y = 0:=⟨fun h=>by
 by_cases hx:x = 0
 ·exact .inl hx
 ·by_cases hy:y = 0
  ·exact .inr hy
  ·exact (qkG hx hy h).elim,fun h=>by rcases h with rfl | rfl; exact q9; exact qz⟩
theorem qdG {n m:Nat}:qg (qbw n) (qbw m) = qbw (n + m):=by
 rw [qwQ qmi qmi,qtN,qtN]
 exact qjL (by omega)
theorem qaR {x:F}:qg x 1 = x:=by
 by_cases h:x = 0
 ·rw [h,q9]
 ·rw [<- qi0]; conv=>lhs; arg 1; rw [<- qh2 h]
  rw [qdG,Nat.add_zero,qh2 h]
theorem qhQ {x:F}:qg 1 x = x:=by rw [qZ,qaR]
theorem qhk {x:F} (h:x ≠ 0):∃ n,n < 255/\x = qbw n:=⟨qez x,qfY,(qh2 h).symm⟩
theorem qK {x y z:F}:qg (qg x y) z = qg x (qg y z):=by
 by_cases hx:x = 0
 ·rw [hx,q9,q9,q9]
 by_cases hy:y = 0
 ·rw [hy,qz,q9,qz]
 by_cases hz:z = 0
 ·rw [hz,qz,qz,qz]
 obtain ⟨a,_,rfl⟩:=qhk hx
 obtain ⟨b,_,rfl⟩:=qhk hy
 obtain ⟨c,_,rfl⟩:=qhk hz
 rw [qdG,qdG,qdG,qdG,Nat.add_assoc]
theorem q57 {x:F} (h:x ≠ 0):qe2 x ≠ 0:=by rw [qe2,if_neg h]; exact qmi
theorem qhY {x:F} (h:x ≠ 0):qg x (qe2 x) = 1:=by
 rw [qe2,if_neg h]
 conv=>lhs; arg 1; rw [<- qh2 h]
 have:=qfY (x:=x)
 rw [qdG,<- qi0]
 exact qjL (by omega)
def xt (x:F):F:=x <<< 1 ^^^ (if x.msb then 29#8 else 0#8)
theorem q0m:∀ i:Fin 256,qg (BitVec.ofFin i) 2 = xt (BitVec.ofFin i):=by decide +kernel
theorem qnP {x:F}:qg x 2 = xt x:=q0m x.toFin
theorem q6O {x y:F}:xt (x ^^^ y) = xt x ^^^ xt y:=by
 unfold xt
 rw [BitVec.shiftLeft_xor_distrib,BitVec.msb_xor]
 have h1:∀ a b c:F,a ^^^ b ^^^ c = a ^^^ c ^^^ b:=fun a b c=>by rw [BitVec.xor_assoc,BitVec.xor_comm b c,<- BitVec.xor_assoc]
 cases x.msb <;> cases y.msb
 ·simp
 ·simp [BitVec.xor_assoc]
 ·simp [h1 (x <<< 1) (29#8) (y <<< 1)]
 ·simp only [bne_self_eq_false,Bool.false_eq_true,if_true,if_false,BitVec.xor_zero]
  rw [h1 (x <<< 1) (29#8),BitVec.xor_assoc (x <<< 1),BitVec.xor_assoc (y <<< 1),BitVec.xor_self,BitVec.xor_zero]
theorem qlk {x y:F}:∀ n:Nat,qg (x ^^^ y) (qbw n) = qg x (qbw n) ^^^ qg y (qbw n)
 | 0=>by rw [qi0,qaR,qaR,qaR]
 | n + 1=>by
  have he:qbw (n + 1) = qg (qbw n) 2:=by
   have:(2:F) = qbw 1:=by decide
   rw [this,qdG]
  rw [he,<- qK,<- qK,<- qK,qlk n,qnP,qnP,qnP,q6O]
theorem qbY {x y z:F}:qg (x ^^^ y) z = qg x z ^^^ qg y z:=by
 by_cases hz:z = 0
 ·rw [hz,qz,qz,qz]; rfl
 ·obtain ⟨n,_,rfl⟩:=qhk hz
  exact qlk n
theorem qhz {x y z:F}:qg z (x ^^^ y) = qg z x ^^^ qg z y:=by rw [qZ,qbY,qZ,qZ (x:=y)]

theorem qt8 {i:Nat} (h:i < 510):qlb i = ofF (qbw i):=by
 rw [qwZ h,ofF,qhj]
 by_cases hi:i < 255
 ·rw [Nat.mod_eq_of_lt hi]
  have:=qf1 ⟨i,h⟩
  simp only at this
  omega
 ·have h1:=q5S ⟨i - 255,by omega⟩
  have h2:=qf1 ⟨i,h⟩
  simp only at h1 h2
  rw [show i - 255 + 255 = i by omega] at h1
  rw [show i % 255 = i - 255 by omega,<- h1]
  omega
theorem qoq {a:Int} (h:isB a):qbj a.toNat = (qez (toF a):Nat):=by
 obtain ⟨h0,h1⟩:=h
 rw [qxg (by omega),qez,qrq ⟨h0,h1⟩]
 have:=qkq ⟨a.toNat,by omega⟩
 simp only at this
 omega
theorem q0K {a b:Int} (ha:isB a) (hb:isB b):qcY a b = ofF (qg (toF a) (toF b)):=by
 unfold qcY qg
 simp only [qeP ha,qeP hb]
 split
 ·rfl
 ·have h1:=qfY (x:=toF a)
  have h2:=qfY (x:=toF b)
  rw [qoq ha,qoq hb,qt8 (by omega)]
  congr 2
theorem q0O {a:Int} (ha:isB a):qfI a = ofF (qe2 (toF a)):=by
 unfold qfI qe2
 simp only [qeP ha]
 split
 ·rfl
 ·have h1:=qfY (x:=toF a)
  rw [qoq ha,qt8 (by omega)]
  congr 2
  omega
theorem q3J {a b:Int} (ha:isB a) (hb:isB b):isB (qcY a b):=by rw [q0K ha hb]; exact qjl
theorem qh9 {a b:Int} (ha:isB a) (hb:isB b):toF (qcY a b) = qg (toF a) (toF b):=by rw [q0K ha hb,qiS]
theorem q2D {a:Int} (ha:isB a):isB (qfI a):=by rw [q0O ha]; exact qjl
theorem q4o {a:Int} (ha:isB a):toF (qfI a) = qe2 (toF a):=by rw [q0O ha,qiS]
theorem q4u {a b:Int}:isB (qhJ a b):=by rw [q1m]; exact qjl
def qaB (x:F):Nat->F
 | 0=>1
 | n + 1=>qg (qaB x n) x
theorem qta {n:Nat}:∀ m,qaB (qbw n) m = qbw (n * m)
 | 0=>by rw [Nat.mul_zero]; exact qi0.symm
 | m + 1=>by rw [qaB,qta m,qdG,Nat.mul_succ]
theorem qzq {m:Nat} (h:0 < m):qaB 0 m = 0:=by
 cases m with
 | zero=>omega
 | succ m=>rw [qaB,qz]
theorem q0Y {a e:Int} (ha:isB a) (he:e < 9223372036854775808):qgS a e = ofF (qaB (toF a) e.toNat):=by
 unfold qgS
 by_cases h0:e <= 0
 ·rw [if_pos h0,show e.toNat = 0 by omega]; rfl
 rw [if_neg h0]
 by_cases h1:a = 0
 ·rw [if_pos h1,h1,quu,qzq (by omega)]; rfl
 rw [if_neg h1]
 have hx:toF a ≠ 0:=fun h=>h1 ((qeP ha).1 h)
 have hl:=qfY (x:=toF a)
 rw [qoq ha]
 have e1:e.tmod 255 = ((e.toNat % 255:Nat):Int):=by
  rw [Int.tmod_eq_emod_of_nonneg (by omega)]; omega
 rw [e1,<- Int.natCast_mul,Int.tmod_eq_emod_of_nonneg (by omega),qt8 (by omega)]
 congr 1
 conv=>rhs; rw [<- qh2 hx,qta]
 refine qjL ?_
 have:((qez (toF a) * (e.toNat % 255):Nat):Int) % 255 = ((qez (toF a) * (e.toNat % 255) % 255:Nat):Int):=by omega
 rw [this,Int.toNat_natCast,Nat.mod_mod,Nat.mul_mod,Nat.mod_mod,<- Nat.mul_mod]
theorem q3C {a e:Int} (ha:isB a) (he:e < 9223372036854775808):isB (qgS a e):=by rw [q0Y ha he]; exact qjl
end Go.Proofs

set_option linter.unusedSimpArgs false
set_option linter.unusedVariables false
namespace Go.Proofs
open Go Go.Eng

theorem qss (a b c:F):a ^^^ (b ^^^ c) = b ^^^ (a ^^^ c):=by rw [<- BitVec.xor_assoc,BitVec.xor_comm a b,BitVec.xor_assoc]
theorem qn4 (a b c d:F):(a ^^^ b) ^^^ (c ^^^ d) = (a ^^^ c) ^^^ (b ^^^ d):=by rw [BitVec.xor_assoc,BitVec.xor_assoc,qss b c d]
theorem qeN {a b:F}:a ^^^ b = 0↔a = b:=⟨fun h=>by
 have:a ^^^ b ^^^ b = b:=by rw [h]; simp
 rwa [BitVec.xor_assoc,BitVec.xor_self,BitVec.xor_zero] at this,fun h=>by rw [h]; exact BitVec.xor_self⟩
theorem qac {a:F}:a ^^^ 0 = a:=BitVec.xor_zero
theorem qam {a:F}:0 ^^^ a = a:=BitVec.zero_xor
theorem qax {a:F}:a ^^^ a = 0:=BitVec.xor_self
theorem qmr {a b:F}:a ^^^ b ^^^ b = a:=by rw [BitVec.xor_assoc,BitVec.xor_self,BitVec.xor_zero]
def qv (f:Nat->F):Nat->F
 | 0=>0
 | n + 1=>qv f n ^^^ f n
theorem qk {f g:Nat->F} {n:Nat} (h:∀ i,i < n->f i = g i):qv f n = qv g n:=by
 induction n with
 | zero=>rfl
 | succ n ih=>rw [qv,qv,ih fun i hi=>h i (by omega),h n (by omega)]
theorem qc2 {f:Nat->F} {n:Nat} (h:∀ i,i < n->f i = 0):qv f n = 0:=by
 induction n with
 | zero=>rfl
 | succ n ih=>rw [qv,ih fun i hi=>h i (by omega),h n (by omega),qac]
theorem qfS {f g:Nat->F} {n:Nat}:qv (fun i=>f i ^^^ g i) n = qv f n ^^^ qv g n:=by
 induction n with
 | zero=>exact qac.symm
 | succ n ih=>rw [qv,qv,qv,ih,qn4]
theorem qcU {f:Nat->F} {c:F} {n:Nat}:qv (fun i=>qg c (f i)) n = qg c (qv f n):=by
 induction n with
 | zero=>exact qz.symm
 | succ n ih=>rw [qv,qv,ih,qhz]
theorem qed {f:Nat->F} {c:F} {n:Nat}:qv (fun i=>qg (f i) c) n = qg (qv f n) c:=by
 rw [qZ,<- qcU]
 exact qk fun i _=>qZ
theorem qhS {f:Nat->F} {n k:Nat} (hk:k < n) (h:∀ i,i < n->i ≠ k->f i = 0):qv f n = f k:=by
 induction n with
 | zero=>omega
 | succ n ih =>
  rw [qv]
  by_cases hkn:k = n
  ·rw [qc2 fun i hi=>h i (by omega) (by omega),hkn,qam]
  ·rw [ih (by omega) fun i hi=>h i (by omega),h n (by omega) (by omega),qac]
theorem qfq {f:Nat->Nat->F} {n m:Nat}:qv (fun i=>qv (fun j=>f i j) m) n = qv (fun j=>qv (fun i=>f i j) n) m:=by
 induction n with
 | zero=>exact (qc2 fun _ _=>rfl).symm
 | succ n ih =>
  rw [qv,ih,<- qfS]
  rfl
def del (i j:Nat):F:=if i = j then 1 else 0
theorem qmX {f:Nat->F} {n k:Nat} (hk:k < n):qv (fun i=>qg (del i k) (f i)) n = f k:=by
 rw [qhS hk fun i hi hik=>by rw [del,if_neg hik,q9],del,if_pos rfl,qhQ]
theorem qgI {f:Nat->F} {n k:Nat} (hk:k < n):qv (fun i=>qg (f i) (del i k)) n = f k:=by
 rw [qhS hk fun i hi hik=>by rw [del,if_neg hik,qz],del,if_pos rfl,qaR]

abbrev Mat:=Nat->Nat->F
def spans (r w:Nat) (T:Mat) (v:Nat->F):Prop:=∃ x:Nat->F,∀ j,j < w->v j = qv (fun i=>qg (x i) (T i j)) r
theorem qaW {r w:Nat} {T:Mat} {i:Nat} (hi:i < r):spans r w T (T i):=⟨fun a=>del a i,fun j _=>(qmX (f:=fun a=>T a j) hi).symm⟩
theorem qbR {r w:Nat} {T:Mat} {v v':Nat->F} (h:spans r w T v) (he:∀ j,j < w->v' j = v j):spans r w T v':=by
 obtain ⟨x,hx⟩:=h
 exact ⟨x,fun j hj=>by rw [he j hj,hx j hj]⟩
theorem qr0 {r w:Nat} {T:Mat} {v v':Nat->F} (h:spans r w T v) (h':spans r w T v'):spans r w T (fun j=>v j ^^^ v' j):=by
 obtain ⟨x,hx⟩:=h
 obtain ⟨y,hy⟩:=h'
 refine ⟨fun i=>x i ^^^ y i,fun j hj=>?_⟩
 show v j ^^^ v' j = _
 rw [hx j hj,hy j hj,<- qfS]
 exact qk fun i _=>qbY.symm
theorem qil {r w:Nat} {T:Mat} {v:Nat->F} {c:F} (h:spans r w T v):spans r w T (fun j=>qg c (v j)):=by
 obtain ⟨x,hx⟩:=h
 refine ⟨fun i=>qg c (x i),fun j hj=>?_⟩
 show qg c (v j) = _
 rw [hx j hj,<- qcU]
 exact qk fun i _=>qK.symm
theorem qgm {r w:Nat} {T T':Mat} {v:Nat->F} (h:spans r w T' v) (hr:∀ i,i < r->spans r w T (T' i)):spans r w T v:=by
 obtain ⟨x,hx⟩:=h
 let y:Nat->Nat->F:=fun i=>if h:i < r then (hr i h).choose else fun _=>0
 have hy:∀ i,i < r->∀ j,j < w->T' i j = qv (fun a=>qg (y i a) (T a j)) r:=fun i hi j hj=>by
  simp only [y,dif_pos hi]
  exact (hr i hi).choose_spec j hj
 refine ⟨fun a=>qv (fun i=>qg (x i) (y i a)) r,fun j hj=>?_⟩
 rw [hx j hj,qk fun i hi=>by rw [hy i hi j hj,<- qcU],qfq]
 refine qk fun a _=>?_
 rw [<- qed]
 exact qk fun i _=>qK.symm
structure Same (r w:Nat) (T T':Mat):Prop where
 to:∀ i,i < r->spans r w T (T' i)
 back:∀ i,i < r->spans r w T' (T i)
theorem Same.refl {r w:Nat} {T:Mat}:Same r w T T:=⟨fun i hi=>qaW hi,fun i hi=>qaW hi⟩
theorem Same.trans {r w:Nat} {T T' T'':Mat} (h:Same r w T T') (h':Same r w T' T''):Same r w T T'' :=
 ⟨fun i hi=>qgm (h'.to i hi) h.to,fun i hi=>qgm (h.back i hi) h'.back⟩
theorem Same.symm {r w:Nat} {T T':Mat} (h:Same r w T T'):Same r w T' T:=⟨h.back,h.to⟩
theorem Same.spans {r w:Nat} {T T':Mat} (h:Same r w T T') {v:Nat->F}:spans r w T v↔Go.Proofs.spans r w T' v:=⟨fun hv=>qgm hv h.back,fun hv=>qgm hv h.to⟩
theorem qtX {r w:Nat} {T T':Mat} {i p:Nat} {g:F} (hi:i < r) (hp:p < r) (hip:i ≠ p) (h1:∀ j,j < w->T' i j = T i j ^^^ qg g (T p j)) (h2:∀ a,a < r->a ≠ i->∀ j,j < w->T' a j = T a j):Same r w T T':=by
 refine ⟨fun a ha=>?_,fun a ha=>?_⟩
 ·by_cases hai:a = i
  ·subst hai
   exact qbR (qr0 (qaW ha) (qil (c:=g) (qaW hp))) h1
  ·exact qbR (qaW ha) (h2 a ha hai)
 ·by_cases hai:a = i
  ·subst hai
   refine qbR (qr0 (qaW ha) (qil (c:=g) (qaW hp))) fun j hj=>?_
   rw [h1 j hj,h2 p hp (Ne.symm hip) j hj,qmr]
  ·exact qbR (qaW ha) fun j hj=>(h2 a ha hai j hj).symm
theorem q3k {r w:Nat} {T T':Mat} {i:Nat} {g:F} (hi:i < r) (hg:g ≠ 0) (h1:∀ j,j < w->T' i j = qg (T i j) g) (h2:∀ a,a < r->a ≠ i->∀ j,j < w->T' a j = T a j):Same r w T T':=by
 refine ⟨fun a ha=>?_,fun a ha=>?_⟩
 ·by_cases hai:a = i
  ·subst hai
   exact qbR (qil (c:=g) (qaW ha)) fun j hj=>by rw [h1 j hj,qZ]
  ·exact qbR (qaW ha) (h2 a ha hai)
 ·by_cases hai:a = i
  ·subst hai
   refine qbR (qil (c:=qe2 g) (qaW ha)) fun j hj=>?_
   rw [h1 j hj,qZ,qK,qhY hg,qaR]
  ·exact qbR (qaW ha) fun j hj=>(h2 a ha hai j hj).symm
def lead (r w:Nat) (T:Mat) (c:Nat):Prop:=∃ v,spans r w T v/\(∀ j,j < c->v j = 0)/\v c ≠ 0
open Classical in
noncomputable def cnt (r w:Nat) (T:Mat):Nat->Nat
 | 0=>0
 | c + 1=>cnt r w T c + if lead r w T c then 1 else 0
theorem Same.lead {r w:Nat} {T T':Mat} (h:Same r w T T') {c:Nat}:lead r w T c↔Go.Proofs.lead r w T' c:=by
 unfold Go.Proofs.lead
 simp only [h.spans]
theorem q0v {r w:Nat} {T:Mat}:∀ c,cnt r w T c <= c
 | 0=>Nat.le_refl _
 | c + 1=>by
  have:=q0v (r:=r) (w:=w) (T:=T) c
  unfold cnt; split <;> omega
theorem qsA {r w:Nat} {T:Mat} {c:Nat}:∀ d,cnt r w T c <= cnt r w T (c + d)
 | 0=>Nat.le_refl _
 | d + 1=>by
  have:=qsA (r:=r) (w:=w) (T:=T) (c:=c) d
  rw [<- Nat.add_assoc]
  conv=>rhs; unfold cnt
  omega
theorem qhC {r w:Nat} {T:Mat} {c:Nat} (h:lead r w T c):cnt r w T (c + 1) = cnt r w T c + 1:=by rw [cnt,if_pos h]
theorem qpF {r w:Nat} {T:Mat} {c:Nat} (h:¬ lead r w T c):cnt r w T (c + 1) = cnt r w T c:=by rw [cnt,if_neg h]; rfl
theorem qsL {r w:Nat} {T:Mat} {c c':Nat} (h:lead r w T c) (hlt:c < c'):cnt r w T c < cnt r w T c':=by
 have:=qsA (r:=r) (w:=w) (T:=T) (c:=c + 1) (c' - (c + 1))
 rw [show c + 1 + (c' - (c + 1)) = c' by omega,qhC h] at this
 omega
theorem q5o {r w:Nat} {T:Mat} {c c':Nat} (h:lead r w T c) (h':lead r w T c') (he:cnt r w T c = cnt r w T c'):c = c':=by
 rcases Nat.lt_trichotomy c c' with h1 | h1 | h1
 ·have:=qsL h h1; omega
 ·exact h1
 ·have:=qsL h' h1; omega
theorem qkh {r w:Nat} {T:Mat}:∀ {c i:Nat},i < cnt r w T c->∃ c',c' < c/\lead r w T c'/\cnt r w T c' = i
 | 0,i,h=>by simp [cnt] at h
 | c + 1,i,h=>by
  by_cases hl:lead r w T c
  ·rw [qhC hl] at h
   by_cases hi:i = cnt r w T c
   ·exact ⟨c,by omega,hl,hi.symm⟩
   ·obtain ⟨c',h1,h2,h3⟩:=qkh (r:=r) (w:=w) (T:=T) (c:=c) (i:=i) (by omega)
    exact ⟨c',by omega,h2,h3⟩
  ·rw [qpF hl] at h
   obtain ⟨c',h1,h2,h3⟩:=qkh (c:=c) h
   exact ⟨c',by omega,h2,h3⟩
structure Ech (r w:Nat) (T0 T:Mat) (c rank:Nat):Prop where
 same:Same r w T0 T
 num:rank = cnt r w T0 c
 le:rank <= r
 col:∀ c',c' < c->lead r w T0 c'->∀ i,i < r->T i c' = del i (cnt r w T0 c')
 low:∀ i,rank <= i->i < r->∀ c',c' < c->T i c' = 0
theorem q2d {r w:Nat} {T:Mat}:Ech r w T T 0 0:=⟨Same.refl,rfl,Nat.zero_le _,fun c' h=>by omega,fun i _ _ c' h=>by omega⟩
theorem q5l {r w:Nat} {T0 T:Mat} {c rank:Nat} (h:Ech r w T0 T c rank) (hc:c <= w) {v:Nat->F} (hv:spans r w T0 v) (h0:∀ j,j < c->v j = 0) :
  ∃ x:Nat->F,(∀ i,i < rank->x i = 0)/\∀ j,j < w->v j = qv (fun i=>qg (x i) (T i j)) r:=by
 obtain ⟨x,hx⟩:=h.same.spans.1 hv
 refine ⟨x,fun i hi=>?_,hx⟩
 rw [h.num] at hi
 obtain ⟨c',h1,h2,h3⟩:=qkh hi
 have hle:=h.le
 have h4:=hx c' (by omega)
 rw [h0 c' h1,qk fun a ha=>by rw [h.col c' h1 h2 a ha,h3]] at h4
 rw [qgI (f:=x) (by have:=h.num; omega)] at h4
 exact h4.symm
theorem quU {r w:Nat} {T0 T:Mat} {c rank:Nat} (h:Ech r w T0 T c rank) (hc:c < w) (hz:∀ i,rank <= i->i < r->T i c = 0):Ech r w T0 T (c + 1) rank:=by
 have hn:¬ lead r w T0 c:=fun ⟨v,h1,h2,h3⟩=>by
  obtain ⟨x,hx,he⟩:=q5l h (by omega) h1 h2
  apply h3
  rw [he c hc]
  refine qc2 fun i hi=>?_
  by_cases hir:i < rank
  ·rw [hx i hir,q9]
  ·rw [hz i (by omega) hi,qz]
 refine ⟨h.same,by rw [qpF hn]; exact h.num,h.le,fun c' hc' hl i hi=>?_,fun i h1 h2 c' hc'=>?_⟩
 ·by_cases he:c' = c
  ·rw [he] at hl; exact (hn hl).elim
  ·exact h.col c' (by omega) hl i hi
 ·by_cases he:c' = c
  ·rw [he]; exact hz i h1 h2
  ·exact h.low i h1 h2 c' (by omega)
theorem q3u {r w:Nat} {T0 T T':Mat} {c rank:Nat} (h:Ech r w T0 T c rank) (hc:c < w) (hr:rank < r) (hs:Same r w T T') (hcol:∀ i,i < r->T' i c = del i rank)
  (hold:∀ c',c' < c->∀ i,i < r->T' i c' = T i c'):Ech r w T0 T' (c + 1) (rank + 1):=by
 have hl:lead r w T0 c:=by
  refine ⟨T' rank,(h.same.trans hs).spans.2 (qaW hr),fun j hj=>?_,?_⟩
  ·rw [hold j hj rank hr]; exact h.low rank (Nat.le_refl _) hr j hj
  ·rw [hcol rank hr,del,if_pos rfl]; decide
 refine ⟨h.same.trans hs,by rw [qhC hl,<- h.num],hr,fun c' hc' hl' i hi=>?_,fun i h1 h2 c' hc'=>?_⟩
 ·by_cases he:c' = c
  ·rw [he,hcol i hi,h.num]
  ·rw [hold c' (by omega) i hi]; exact h.col c' (by omega) hl' i hi
 ·by_cases he:c' = c
  ·rw [he,hcol i h2,del,if_neg (by omega)]
  ·rw [hold c' (by omega) i h2]; exact h.low i (by omega) h2 c' (by omega)
theorem qtv {r w:Nat} {T:Mat}:∀ {n:Nat},cnt r w T n = n->∀ c,c < n->lead r w T c/\cnt r w T c = c
 | 0,_,c,h=>by omega
 | n + 1,he,c,h=>by
  by_cases hl:lead r w T n
  ·rw [qhC hl] at he
   by_cases hc:c = n
   ·exact ⟨by rw [hc]; exact hl,by rw [hc]; omega⟩
   ·exact qtv (n:=n) (by omega) c (by omega)
  ·rw [qpF hl] at he
   have:=q0v (r:=r) (w:=w) (T:=T) n
   omega
theorem qtw {r w:Nat} {T0 T:Mat} {n:Nat} (h:Ech r w T0 T n n):∀ i,i < r->∀ c,c < n->T i c = del i c:=fun i hi c hc=>by
 obtain ⟨h1,h2⟩:=qtv h.num.symm c hc
 rw [h.col c hc h1 i hi,h2]
theorem q2V {r w:Nat} {T0 T:Mat} {n rank:Nat} (h:Ech r w T0 T n rank) (hn:n <= w) (hlt:rank < n):∃ y:Nat->F,(∃ c,c < n/\y c ≠ 0)/\∀ i,i < r->qv (fun j=>qg (T0 i j) (y j)) n = 0:=by
 have hex:∃ c,c < n/\¬ lead r w T0 c:=by
  refine Classical.byContradiction fun hno=>?_
  have hall:∀ c,c < n->lead r w T0 c:=fun c hc=>Classical.byContradiction fun hl=>hno ⟨c,hc,hl⟩
  have:∀ c,c <= n->cnt r w T0 c = c:=fun c=>by
   induction c with
   | zero=>intro _; rfl
   | succ c ih=>intro hc; rw [qhC (hall c (by omega)),ih (by omega)]
  have:=this n (Nat.le_refl _)
  have:=h.num
  omega
 obtain ⟨c,hc,hnl⟩:=hex
 let y:Nat->F:=fun j=>open Classical in if j = c then 1 else if lead r w T0 j then T (cnt r w T0 j) c else 0
 have hyc:y c = 1:=by simp [y]
 have hT:∀ i,i < r->qv (fun j=>qg (T i j) (y j)) n = 0:=fun i hi=>by
  have hsplit:qv (fun j=>qg (T i j) (y j)) n = qv (fun j=>qg (if j = c then T i c else 0) 1) n ^^^ qv (fun j=>open Classical in if j ≠ c/\lead r w T0 j then qg (del i (cnt r w T0 j)) (T (cnt r w T0 j) c) else 0) n:=by
   rw [<- qfS]
   refine qk fun j hj=>?_
   by_cases hjc:j = c
   ·subst hjc
    simp only [hyc,qaR,if_true,ne_eq,not_true,false_and,if_false,qac]
   ·simp only [if_neg hjc,q9,qam]
    by_cases hl:lead r w T0 j
    ·rw [if_pos ⟨hjc,hl⟩,h.col j hj hl i hi]; simp only [y,if_neg hjc,if_pos hl]
    ·rw [if_neg fun hh=>hl hh.2]; simp only [y,if_neg hjc,if_neg hl,qz]
  rw [hsplit,qhS hc fun j _ hj=>by rw [if_neg hj,q9],if_pos rfl,qaR]
  by_cases hir:i < rank
  ·rw [h.num] at hir
   obtain ⟨c',h1,h2,h3⟩:=qkh hir
   have hcc:c' ≠ c:=fun e=>hnl (e ▸ h2)
   rw [qhS (k:=c') h1 fun j hj hjc=>?_,if_pos ⟨hcc,h2⟩,h3,del,if_pos rfl,qhQ,qax]
   split
   ·rename_i hh
    rw [del,if_neg,q9]
    intro e
    exact hjc (q5o hh.2 h2 (by rw [h3,e]))
   ·rfl
  ·rw [h.low i (by omega) hi c hc,qam]
   refine qc2 fun j hj=>?_
   split
   ·rename_i hh
    rw [del,if_neg,q9]
    have:=qsL hh.2 hj
    have:=h.num
    omega
   ·rfl
 refine ⟨y,⟨c,hc,by rw [hyc]; decide⟩,fun i hi=>?_⟩
 obtain ⟨x,hx⟩:=h.same.back i hi
 rw [qk fun j hj=>by rw [hx j (by omega),<- qed],qfq]
 refine qc2 fun a ha=>?_
 rw [qk (g:=fun j=>qg (x a) (qg (T a j) (y j))) fun j _=>qK,qcU,hT a ha,qz]
end Go.Proofs

set_option linter.unusedSimpArgs false
set_option linter.unusedVariables false
namespace Go.Proofs
open Go Go.Eng

def qas (x:F):List F->F
 | []=>0
 | c :: l=>qg (qas x l) x ^^^ c
theorem qfX {x:F}:qas x [] = 0:=rfl
theorem qh3 {x c:F}:qas x [c] = c:=by rw [qas,qfX,q9,qam]
def qi8 (r:F):List F->List F
 | []=>[]
 | [_]=>[]
 | _ :: c' :: l=>qas r (c' :: l) :: qi8 r (c' :: l)
theorem qtx {r:F}:∀ {l:List F},(qi8 r l).length = l.length - 1
 | []=>rfl
 | [_]=>rfl
 | _ :: c' :: l=>by simp only [qi8,List.length_cons,qtx (l:=c' :: l)]; omega
theorem quC {x r:F}:∀ {l:List F},qas x l ^^^ qas r l = qg (x ^^^ r) (qas x (qi8 r l))
 | []=>by rw [qi8,qfX,qfX,qax,qz]
 | [c]=>by rw [qi8,qh3,qh3,qfX,qax,qz]
 | c :: c' :: l=>by
  have ih:=quC (x:=x) (r:=r) (l:=c' :: l)
  rw [qi8,show qas x (c :: c' :: l) = qg (qas x (c' :: l)) x ^^^ c from rfl,show qas r (c :: c' :: l) = qg (qas r (c' :: l)) r ^^^ c from rfl]
  conv=>rhs; rw [qas]
  have h1:∀ a b d:F,a ^^^ b = qg (x ^^^ r) d->qg a x ^^^ c ^^^ (qg b r ^^^ c) = qg (x ^^^ r) (qg d x ^^^ b):=fun a b d h=>by
   rw [qn4,qax,qac,qhz (z:=x ^^^ r),<- qK,<- h,qbY,qZ (x:=x ^^^ r),qhz,<- BitVec.xor_assoc,qmr]
  exact h1 _ _ _ ih
theorem qvc {r:F}:∀ {l:List F} {c:F},(∀ y ∈ qi8 r (c :: l),y = 0)->∀ y ∈ l,y = 0
 | [],_,_=>by simp
 | c' :: l,c,h=>by
  simp only [qi8,List.mem_cons,forall_eq_or_imp] at h
  have ht:=qvc (l:=l) (c:=c') h.2
  have hh:qas r l = 0:=by
   clear h
   induction l with
   | nil=>rfl
   | cons a l ih=>rw [qas,ih fun y hy=>ht y (List.mem_cons_of_mem _ hy),q9,ht a (List.mem_cons_self ..),qac]
  have h1:=h.1
  rw [qas,hh,q9,qam] at h1
  intro y hy
  rcases List.mem_cons.1 hy with rfl | hy
  ·exact h1
  ·exact ht y hy
theorem qrb {x:F}:∀ {l:List F},(∀ y ∈ l,y = 0)->qas x l = 0
 | [],_=>rfl
 | a :: l,h=>by rw [qas,qrb fun y hy=>h y (List.mem_cons_of_mem _ hy),q9,h a (List.mem_cons_self ..),qac]
def qbr (n:Nat) (xs:Nat->F):Prop:=∀ i j,i < n->j < n->xs i = xs j->i = j
theorem qnV {xs:Nat->F}:∀ {n:Nat} {l:List F},l.length <= n->qbr n xs->(∀ i,i < n->qas (xs i) l = 0)->∀ y ∈ l,y = 0
 | 0,l,hl,_,_=>by
  have:l = []:=List.eq_nil_of_length_eq_zero (by omega)
  rw [this]; simp
 | n + 1,[],_,_,_=>by simp
 | n + 1,c :: t,hl,hd,hr=>by
  simp only [List.length_cons] at hl
  have hq:=qnV (n:=n) (l:=qi8 (xs n) (c :: t)) (by rw [qtx,List.length_cons]; omega) (fun i j hi hj=>hd i j (by omega) (by omega)) fun i hi=>by
   have h:=quC (x:=xs i) (r:=xs n) (l:=c :: t)
   rw [hr i (by omega),hr n (by omega),qax] at h
   rcases qsO.1 h.symm with h1 | h1
   ·have:=hd i n (by omega) (by omega) (qeN.1 h1); omega
   ·exact h1
  have ht:=qvc hq
  have h1:=hr n (by omega)
  rw [qas,qrb ht,q9,qam] at h1
  intro y hy
  rcases List.mem_cons.1 hy with rfl | hy
  ·exact h1
  ·exact ht y hy
def q7 (n:Nat) (y:Nat->F) (x:F):F:=qv (fun j=>qg (y j) (qaB x j)) n
theorem qrk {x c:F}:∀ {l:List F},qas x (l ++ [c]) = qas x l ^^^ qg c (qaB x l.length)
 | []=>by rw [List.nil_append,qh3,qfX,qam,List.length_nil,qaB,qaR]
 | a :: l=>by
  rw [List.cons_append,qas,qrk (l:=l),qas,qbY,List.length_cons,qaB,BitVec.xor_assoc,BitVec.xor_assoc,qK,BitVec.xor_comm a]
theorem qkC {y:Nat->F} {x:F}:∀ n,qas x ((List.range n).map y) = q7 n y x
 | 0=>rfl
 | n + 1=>by
  rw [List.range_succ,List.map_append,List.map_cons,List.map_nil,qrk,qkC n]
  simp [q7,qv]
theorem qj2 {n:Nat} {y:Nat->F} {xs:Nat->F} (hd:qbr n xs) (h:∀ i,i < n->q7 n y (xs i) = 0):∀ j,j < n->y j = 0:=fun j hj=>by
 have:=qnV (l:=(List.range n).map y) (by simp) hd (fun i hi=>by rw [qkC]; exact h i hi) (y j)
 exact this (List.mem_map.2 ⟨j,List.mem_range.2 hj,rfl⟩)
theorem q1Z {x:F} {l:List F} {n:Nat} (hl:l.length <= n):qas x l = q7 n (fun j=>l.getD j 0) x:=by
 have h1:∀ m,q7 (l.length + m) (fun j=>l.getD j 0) x = q7 l.length (fun j=>l.getD j 0) x:=fun m=>by
  induction m with
  | zero=>rfl
  | succ m ih =>
   rw [<- Nat.add_assoc,q7,qv]
   rw [show qv (fun j=>qg (l.getD j 0) (qaB x j)) (l.length + m) = q7 (l.length + m) (fun j=>l.getD j 0) x from rfl,ih]
   rw [show l.getD (l.length + m) 0 = 0 by rw [List.getD_eq_getElem?_getD,List.getElem?_eq_none (by omega)]; rfl,q9,qac]
 rw [show n = l.length + (n - l.length) by omega,h1,<- qkC]
 congr 1
 apply List.ext_getElem?
 intro j
 by_cases hj:j < l.length
 ·simp [List.getElem?_range hj,List.getD_eq_getElem?_getD,List.getElem?_eq_getElem hj]
 ·simp [hj]

def qcI (f:Nat->F):Nat->F
 | 0=>1
 | n + 1=>qg (qcI f n) (f n)
theorem q3h {f:Nat->F} {n:Nat} (h:∀ i,i < n->f i ≠ 0):qcI f n ≠ 0:=by
 induction n with
 | zero=>exact (by decide:(1:F) ≠ 0)
 | succ n ih=>exact qkG (ih fun i hi=>h i (by omega)) (h n (by omega))
theorem qpt {f:Nat->F} {n k:Nat} (hk:k < n) (h:f k = 0):qcI f n = 0:=by
 induction n with
 | zero=>omega
 | succ n ih =>
  rw [qcI]
  by_cases hkn:k = n
  ·rw [<- hkn,h,qz]
  ·rw [ih (by omega),q9]
def qnO (r:F):F->List F->List F
 | p,[]=>[p]
 | p,c :: l=>(p ^^^ qg r c) :: qnO r c l
theorem quj {r:F}:∀ {p:F} {l:List F},(qnO r p l).length = l.length + 1
 | _,[]=>rfl
 | _,c :: l=>by simp [qnO,quj]
theorem qrc {r x:F}:∀ {p:F} {l:List F},qas x (qnO r p l) = p ^^^ qg (x ^^^ r) (qas x l)
 | p,[]=>by rw [qnO,qh3,qfX,qz,qac]
 | p,c :: l=>by
  rw [qnO,qas,qrc,qas,qbY,qhz,BitVec.xor_comm _ (p ^^^ qg r c),BitVec.xor_assoc,qbY (x:=x) (y:=r) (z:=c),<- qK]
  congr 1
  rw [qZ (x:=c) (y:=x),<- BitVec.xor_assoc,BitVec.xor_comm (qg r c),BitVec.xor_comm]
theorem qrj (xs:Nat->F) (i:Nat):∀ n,∃ l:List F,l.length = (if i < n then n else n + 1)/\∀ x,qas x l = qcI (fun m=>if m = i then 1 else x ^^^ xs m) n
 | 0=>⟨[1],by simp,fun x=>by rw [qh3,qcI]⟩
 | n + 1=>by
  obtain ⟨l,h1,h2⟩:=qrj xs i n
  by_cases hn:n = i
  ·subst hn
   refine ⟨l,by rw [h1]; simp,fun x=>by rw [h2,qcI,if_pos rfl,qaR]⟩
  ·refine ⟨qnO (xs n) 0 l,?_,fun x=>?_⟩
   ·rw [quj,h1]; split <;> split <;> omega
   ·rw [qrc,h2,qcI,if_neg hn,qam,qZ]
def qf8 (n:Nat) (xs:Nat->F) (x:F) (i:Nat):F:=qg (qcI (fun m=>if m = i then 1 else x ^^^ xs m) n) (qe2 (qcI (fun m=>if m = i then 1 else xs i ^^^ xs m) n))
theorem q5e {n:Nat} {xs:Nat->F} (hd:qbr n xs) {i k:Nat} (hi:i < n) (hk:k < n):qf8 n xs (xs k) i = del i k:=by
 unfold qf8 del
 by_cases hik:i = k
 ·subst hik
  rw [if_pos rfl,qhY]
  refine q3h fun m hm=>?_
  split
  ·decide
  ·rename_i hmi
   exact fun h=>hmi (hd i m hi hm (qeN.1 h)).symm
 ·rw [if_neg hik,qpt (k:=k) hk (by rw [if_neg (Ne.symm hik)]; exact qax),q9]
theorem qjF {n:Nat} {xs:Nat->F} (hd:qbr n xs) {y:Nat->F} {x:F}:q7 n y x = qv (fun i=>qg (qf8 n xs x i) (q7 n y (xs i))) n:=by
 have hex:∀ i,∃ l:Nat->F,i < n->∀ x,q7 n l x = qf8 n xs x i:=fun i=>by
  obtain ⟨l,h1,h2⟩:=qrj xs i n
  refine ⟨fun j=>qg (l.getD j 0) (qe2 (qcI (fun m=>if m = i then 1 else xs i ^^^ xs m) n)),fun hi x=>?_⟩
  rw [qf8,<- h2 x,q1Z (n:=n) (by rw [h1,if_pos hi]; exact Nat.le_refl _),q7,q7,<- qed]
  refine qk fun j _=>?_
  rw [qK,qZ (x:=qe2 _),<- qK]
 let lc:Nat->Nat->F:=fun i=>(hex i).choose
 have hlc:∀ i,i < n->∀ x,q7 n (lc i) x = qf8 n xs x i:=fun i hi=>(hex i).choose_spec hi
 let S:Nat->F:=fun j=>y j ^^^ qv (fun i=>qg (q7 n y (xs i)) (lc i j)) n
 have hS:∀ x,q7 n S x = q7 n y x ^^^ qv (fun i=>qg (qf8 n xs x i) (q7 n y (xs i))) n:=fun x=>by
  have h1:q7 n S x = q7 n y x ^^^ qv (fun j=>qv (fun i=>qg (q7 n y (xs i)) (qg (lc i j) (qaB x j))) n) n:=by
   simp only [q7]
   rw [<- qfS]
   refine qk fun j _=>?_
   simp only [S]
   rw [qbY]
   congr 1
   rw [<- qed]
   exact qk fun i _=>qK
  rw [h1,qfq]
  congr 1
  refine qk fun i hi=>?_
  rw [qcU,<- hlc i hi x,qZ]
  rfl
 have h0:=qj2 (y:=S) hd fun k hk=>by
  rw [hS,qk fun i hi=>by rw [q5e hd hi hk],qmX (f:=fun i=>q7 n y (xs i)) hk,qax]
 have:=hS x
 rw [show q7 n S x = 0 from qc2 fun j hj=>by rw [h0 j hj,q9]] at this
 exact qeN.1 this.symm
theorem qoT {n:Nat} {xs:Nat->F} (hd:qbr n xs) {y:Nat->F} (h:∀ i,i < n->qv (fun j=>qg (qaB (xs i) j) (y j)) n = 0):∀ j,j < n->y j = 0 :=
 qj2 hd fun i hi=>by
  rw [q7,<- h i hi]
  exact qk fun j _=>qZ
end Go.Proofs

set_option linter.unusedSimpArgs false
set_option linter.unusedVariables false
namespace Go.Proofs
open Go Go.Eng

def qx (l:List Int):Prop:=∀ x ∈ l,isB x
theorem qaA {l:List Int} (h:qx l) (i:Nat):isB (l.getD i 0):=by
 rw [List.getD_eq_getElem?_getD]
 by_cases hi:i < l.length
 ·rw [List.getElem?_eq_getElem hi]; exact h _ (List.getElem_mem hi)
 ·rw [List.getElem?_eq_none (by omega)]; exact ⟨by simp,by simp⟩
def q6 (ca:Nat) (l:List Int):Mat:=fun i j=>toF (l.getD (i * ca + j) 0)
def qW (ca cb:Nat) (a b:List Int):Mat:=fun i j=>if j < ca then q6 ca a i j else q6 cb b i (j - ca)
theorem qsB {i i' ca j:Nat} (hj:j < ca):(i * ca <= i' * ca + j/\i' * ca + j < i * ca + ca)↔i' = i:=by
 constructor
 ·intro ⟨h1,h2⟩
  rcases Nat.lt_trichotomy i' i with h | h | h
  ·have:=Nat.mul_le_mul_right ca (show i' + 1 <= i by omega)
   rw [Nat.add_mul,Nat.one_mul] at this; omega
  ·exact h
  ·have:=Nat.mul_le_mul_right ca (show i + 1 <= i' by omega)
   rw [Nat.add_mul,Nat.one_mul] at this; omega
 ·rintro rfl; omega
theorem qfh {i r ca j:Nat} (hi:i < r) (hj:j < ca):i * ca + j < r * ca:=by
 have:=Nat.mul_le_mul_right ca (show i + 1 <= r by omega)
 rw [Nat.add_mul,Nat.one_mul] at this; omega
theorem qpn {i r ca:Nat} (hi:i < r):i * ca + ca <= r * ca:=by
 have:=Nat.mul_le_mul_right ca (show i + 1 <= r by omega)
 rwa [Nat.add_mul,Nat.one_mul] at this
theorem qdV {l s:List Int} {off:Nat} {c:Int} (h:qx l):qx (qaa l off s c):=fun x hx=>by
 obtain ⟨i,hi⟩:=List.getElem?_of_mem hx
 rw [qb0] at hi
 obtain ⟨y,hy,rfl⟩:=Option.map_eq_some_iff.1 hi
 split
 ·exact q4u
 ·exact h y (List.mem_of_getElem? hy)
theorem qlU {l:List Int} {off n:Nat} {c:Int} (h:qx l) (hc:isB c):qx (qbb l off n c):=fun x hx=>by
 obtain ⟨i,hi⟩:=List.getElem?_of_mem hx
 rw [qeg] at hi
 obtain ⟨y,hy,rfl⟩:=Option.map_eq_some_iff.1 hi
 have:=h y (List.mem_of_getElem? hy)
 split
 ·exact q3J this hc
 ·exact this
theorem quG {ca r i p:Nat} {a:List Int} {g:Int} (ha:a.length = r * ca) (hb:qx a) (hg:isB g) (hi:i < r) (hp:p < r) {i' j:Nat} (hi':i' < r) (hj:j < ca) :
  q6 ca (qaa a (i * ca) (seg a (p * ca) ca) g) i' j = if i' = i then q6 ca a i j ^^^ qg (toF g) (q6 ca a p j) else q6 ca a i' j:=by
 have hlt:=qfh hi' hj
 have hsl:(seg a (p * ca) ca).length = ca:=qfi (by rw [ha]; exact qpn hp)
 unfold q6
 rw [List.getD_eq_getElem?_getD,qb0,List.getElem?_eq_getElem (by omega),Option.map_some,Option.getD_some,hsl]
 by_cases he:i' = i
 ·subst he
  rw [if_pos ⟨by omega,by omega⟩,if_pos rfl,show i' * ca + j - i' * ca = j by omega]
  have hs:(seg a (p * ca) ca).getD j 0 = a.getD (p * ca + j) 0:=by
   rw [List.getD_eq_getElem?_getD,qfv,if_pos hj,List.getD_eq_getElem?_getD]
  rw [hs,qj5,qh9 hg (qaA hb _),List.getD_eq_getElem?_getD (l:=a) (i:=i' * ca + j),List.getElem?_eq_getElem (by omega),Option.getD_some]
 ·rw [if_neg (fun h=>he ((qsB hj).1 h)),if_neg he,List.getD_eq_getElem?_getD,List.getElem?_eq_getElem (by omega),Option.getD_some]
theorem qoH {ca r i:Nat} {a:List Int} {g:Int} (ha:a.length = r * ca) (hb:qx a) (hg:isB g) (hi:i < r) {i' j:Nat} (hi':i' < r) (hj:j < ca) :
  q6 ca (qbb a (i * ca) ca g) i' j = if i' = i then qg (q6 ca a i j) (toF g) else q6 ca a i' j:=by
 have hlt:=qfh hi' hj
 unfold q6
 rw [List.getD_eq_getElem?_getD,qeg,List.getElem?_eq_getElem (by omega),Option.map_some,Option.getD_some]
 by_cases he:i' = i
 ·subst he
  rw [if_pos ⟨by omega,by omega⟩,if_pos rfl,List.getD_eq_getElem?_getD,List.getElem?_eq_getElem (by omega),Option.getD_some,qh9 (hb _ (List.getElem_mem _)) hg]
 ·rw [if_neg (fun h=>he ((qsB hj).1 h)),if_neg he,List.getD_eq_getElem?_getD,List.getElem?_eq_getElem (by omega),Option.getD_some]
structure Two (r ca cb:Nat) (a b:List Int):Prop where
 la:a.length = r * ca
 lb:b.length = r * cb
 ba:qx a
 bb:qx b
variable {r ca cb:Nat} {a b:List Int}
theorem Two.add (h:Two r ca cb a b) {i p:Nat} {g:Int}:Two r ca cb (qaa a (i * ca) (seg a (p * ca) ca) g) (qaa b (i * cb) (seg b (p * cb) cb) g) :=
 ⟨by rw [qcy,h.la],by rw [qcy,h.lb],qdV h.ba,qdV h.bb⟩
theorem Two.scale (h:Two r ca cb a b) {i:Nat} {g:Int} (hg:isB g):Two r ca cb (qbb a (i * ca) ca g) (qbb b (i * cb) cb g) :=
 ⟨by rw [qj9,h.la],by rw [qj9,h.lb],qlU h.ba hg,qlU h.bb hg⟩
theorem qxc (h:Two r ca cb a b) {i p:Nat} {g:Int} (hg:isB g) (hi:i < r) (hp:p < r) {i' j:Nat} (hi':i' < r) (hj:j < ca + cb) :
  qW ca cb (qaa a (i * ca) (seg a (p * ca) ca) g) (qaa b (i * cb) (seg b (p * cb) cb) g) i' j = if i' = i then qW ca cb a b i j ^^^ qg (toF g) (qW ca cb a b p j) else qW ca cb a b i' j:=by
 unfold qW
 by_cases hjc:j < ca
 ·simp only [if_pos hjc]; exact quG h.la h.ba hg hi hp hi' hjc
 ·simp only [if_neg hjc]; exact quG h.lb h.bb hg hi hp hi' (by omega)
theorem q00 (h:Two r ca cb a b) {i:Nat} {g:Int} (hg:isB g) (hi:i < r) {i' j:Nat} (hi':i' < r) (hj:j < ca + cb) :
  qW ca cb (qbb a (i * ca) ca g) (qbb b (i * cb) cb g) i' j = if i' = i then qg (qW ca cb a b i j) (toF g) else qW ca cb a b i' j:=by
 unfold qW
 by_cases hjc:j < ca
 ·simp only [if_pos hjc]; exact qoH h.la h.ba hg hi hi' hjc
 ·simp only [if_neg hjc]; exact qoH h.lb h.bb hg hi hi' (by omega)
theorem qeb {c i:Nat} (hc:c < ca):qW ca cb a b i c = toF (a.getD (i * ca + c) 0):=by rw [qW,if_pos hc,q6]
theorem qrM (a:List Int) (ca c:Nat):∀ n p,p <= qcO a ca c p n/\qcO a ca c p n <= p + n/\(qcO a ca c p n < p + n->a.getD (qcO a ca c p n * ca + c) 0 ≠ 0)/\∀ i,p <= i->i < qcO a ca c p n->a.getD (i * ca + c) 0 = 0
 | 0,p=>by simp only [qcO]; exact ⟨Nat.le_refl _,Nat.le_refl _,fun h=>by omega,fun i h1 h2=>by omega⟩
 | n + 1,p=>by
  obtain ⟨h1,h2,h3,h4⟩:=qrM a ca c n (p + 1)
  simp only [qcO]
  split
  ·rename_i hz
   refine ⟨by omega,by omega,fun h=>h3 (by omega),fun i hi1 hi2=>?_⟩
   by_cases hip:i = p
   ·rw [hip]; exact hz
   ·exact h4 i (by omega) hi2
  ·rename_i hz
   exact ⟨Nat.le_refl _,by omega,fun _=>hz,fun i h1 h2=>by omega⟩
theorem Two.rows (h:Two r ca cb a b) {rank c:Nat}:∀ i,Two r ca cb (qaz ca cb rank c a b i).1 (qaz ca cb rank c a b i).2
 | 0=>h
 | i + 1=>by
  have ih:=Two.rows h (rank:=rank) (c:=c) i
  simp only [qaz]
  split
  ·exact ih
  ·exact ih.add
theorem quq (h:Two r ca cb a b) {rank c:Nat} (hr:rank < r) (hc:c < ca):∀ i,i <= r ->
  (∀ i' j,i' < r->j < ca + cb->qW ca cb (qaz ca cb rank c a b i).1 (qaz ca cb rank c a b i).2 i' j = if i' < i/\i' ≠ rank then qW ca cb a b i' j ^^^ qg (qW ca cb a b i' c) (qW ca cb a b rank j) else qW ca cb a b i' j) /\
  Same r (ca + cb) (qW ca cb a b) (qW ca cb (qaz ca cb rank c a b i).1 (qaz ca cb rank c a b i).2)
 | 0,_=>⟨fun i' j _ _=>by rw [if_neg (by omega)]; rfl,Same.refl⟩
 | i + 1,hi=>by
  obtain ⟨ih,ihs⟩:=quq h hr hc i (by omega)
  have hT:=h.rows (rank:=rank) (c:=c) i
  simp only [qaz]
  by_cases hir:i = rank
  ·rw [if_pos hir]
   refine ⟨fun i' j hi' hj=>?_,ihs⟩
   rw [ih i' j hi' hj]
   by_cases h1:i' < i/\i' ≠ rank
   ·rw [if_pos h1,if_pos ⟨by omega,h1.2⟩]
   ·rw [if_neg h1,if_neg (by omega)]
  ·rw [if_neg hir]
   simp only
   have hg:=qaA hT.ba (i * ca + c)
   have hgv:toF ((qaz ca cb rank c a b i).1.getD (i * ca + c) 0) = qW ca cb a b i c:=by
    rw [<- qeb (cb:=cb) (b:=(qaz ca cb rank c a b i).2) hc,ih i c (by omega) (by omega),if_neg (by omega)]
   have hstep:=fun i' j (hi':i' < r) (hj:j < ca + cb)=>qxc hT (g:=(qaz ca cb rank c a b i).1.getD (i * ca + c) 0) hg (show i < r by omega) hr hi' hj
   refine ⟨fun i' j hi' hj=>?_,ihs.trans (qtX (i:=i) (p:=rank) (g:=toF ((qaz ca cb rank c a b i).1.getD (i * ca + c) 0)) (by omega) hr hir (fun j hj=>by rw [hstep i j (by omega) hj,if_pos rfl]) fun a' ha' hne j hj=>by rw [hstep a' j ha' hj,if_neg hne])⟩
   rw [hstep i' j hi' hj]
   by_cases he:i' = i
   ·subst he
    rw [if_pos rfl,hgv,ih i' j hi' hj,if_neg (by omega),ih rank j hr hj,if_neg (by omega),if_pos ⟨by omega,hir⟩]
   ·rw [if_neg he,ih i' j hi' hj]
    by_cases h1:i' < i/\i' ≠ rank
    ·rw [if_pos h1,if_pos ⟨by omega,h1.2⟩]
    ·rw [if_neg h1,if_neg (by omega)]
theorem q0u {T0:Mat} {c rank:Nat} (h2:Two r ca cb a b) (h:Ech r (ca + cb) T0 (qW ca cb a b) c rank) (hc:c < ca) :
  Two r ca cb (qcB r ca cb c (a,b,rank)).1 (qcB r ca cb c (a,b,rank)).2.1/\Ech r (ca + cb) T0 (qW ca cb (qcB r ca cb c (a,b,rank)).1 (qcB r ca cb c (a,b,rank)).2.1) (c + 1) (qcB r ca cb c (a,b,rank)).2.2:=by
 unfold qcB
 simp only
 by_cases hr:r <= rank
 ·rw [if_pos hr]
  exact ⟨h2,quU h (by omega) fun i (h1:rank <= i) h3=>by omega⟩
 rw [if_neg hr]
 obtain ⟨p1,p2,p3,p4⟩:=qrM a ca c (r - rank) rank
 by_cases hp:qcO a ca c rank (r - rank) = r
 ·rw [if_pos hp]
  refine ⟨h2,quU h (by omega) fun i (h1:rank <= i) h3=>?_⟩
  rw [qeb hc,p4 i h1 (by omega)]; rfl
 rw [if_neg hp]
 simp only
 generalize hpv:qcO a ca c rank (r - rank) = p at p1 p2 p3 p4 hp
 have hpr:p < r:=by omega
 have hnz:=p3 (by omega)
 have hmid:qgi r ca cb c (a,b,rank) = qgM ca cb rank c (qb5 ca cb rank p a b).1 (qb5 ca cb rank p a b).2:=by
  unfold qgi; simp only [hpv]
 -- the pivot's row is added
 have h1:Two r ca cb (qb5 ca cb rank p a b).1 (qb5 ca cb rank p a b).2/\Same r (ca + cb) (qW ca cb a b) (qW ca cb (qb5 ca cb rank p a b).1 (qb5 ca cb rank p a b).2) /\
   qW ca cb (qb5 ca cb rank p a b).1 (qb5 ca cb rank p a b).2 rank c ≠ 0/\(∀ i j,i < r->j < ca + cb->i ≠ rank->qW ca cb (qb5 ca cb rank p a b).1 (qb5 ca cb rank p a b).2 i j = qW ca cb a b i j) /\
   ∀ c',c' < c->qW ca cb (qb5 ca cb rank p a b).1 (qb5 ca cb rank p a b).2 rank c' = 0:=by
  have hpc:qW ca cb a b p c ≠ 0:=by
   rw [qeb hc]
   intro h0
   exact hnz ((qeP (qaA h2.ba _)).1 h0)
  unfold qb5
  by_cases hpe:p = rank
  ·rw [if_pos hpe]
   exact ⟨h2,Same.refl,by rw [<- hpe]; exact hpc,fun _ _ _ _ _=>rfl,fun c' hc'=>h.low rank (Nat.le_refl _) (by omega) c' hc'⟩
  ·rw [if_neg hpe]
   have hst:=fun i' j (hi':i' < r) (hj:j < ca + cb)=>qxc h2 (g:=1) ⟨by omega,by omega⟩ (show rank < r by omega) hpr hi' hj
   have h1:toF 1 = 1:=rfl
   refine ⟨h2.add,qtX (i:=rank) (p:=p) (g:=toF 1) (by omega) hpr (Ne.symm hpe) (fun j hj=>by simp only; rw [hst rank j (by omega) hj,if_pos rfl]) (fun a' ha' hne j hj=>by simp only; rw [hst a' j ha' hj,if_neg hne]),?_,fun i j hi hj hne=>by simp only; rw [hst i j hi hj,if_neg hne],fun c' hc'=>?_⟩
   ·simp only
    rw [hst rank c (by omega) (by omega),if_pos rfl,h1,qhQ]
    rw [qeb hc (i:=rank),p4 rank (Nat.le_refl _) (by omega),quu,qam]
    exact hpc
   ·simp only
    rw [hst rank c' (by omega) (by omega),if_pos rfl,h1,qhQ,h.low rank (Nat.le_refl _) (by omega) c' hc',h.low p (by omega) hpr c' hc',qac]
 rw [hmid]
 generalize qb5 ca cb rank p a b = s1 at h1
 obtain ⟨t1,same1,nz1,oth1,low1⟩:=h1
 -- it is scaled
 have hgB:=q2D (qaA t1.ba (rank * ca + c))
 have hgv:toF (qfI (s1.1.getD (rank * ca + c) 0)) = qe2 (qW ca cb s1.1 s1.2 rank c):=by rw [q4o (qaA t1.ba _),qeb hc]
 have t2:Two r ca cb (qgM ca cb rank c s1.1 s1.2).1 (qgM ca cb rank c s1.1 s1.2).2:=t1.scale hgB
 have hsc:∀ i j,i < r->j < ca + cb->qW ca cb (qgM ca cb rank c s1.1 s1.2).1 (qgM ca cb rank c s1.1 s1.2).2 i j = if i = rank then qg (qW ca cb s1.1 s1.2 rank j) (qe2 (qW ca cb s1.1 s1.2 rank c)) else qW ca cb s1.1 s1.2 i j:=fun i j hi hj=>by
  rw [<- hgv]
  exact q00 t1 hgB (by omega) hi hj
 generalize qgM ca cb rank c s1.1 s1.2 = s2 at t2 hsc
 have same2:Same r (ca + cb) (qW ca cb s1.1 s1.2) (qW ca cb s2.1 s2.2):=q3k (i:=rank) (g:=qe2 (qW ca cb s1.1 s1.2 rank c)) (by omega) (q57 nz1) (fun j hj=>by rw [hsc rank j (by omega) hj,if_pos rfl]) fun a' ha' hne j hj=>by rw [hsc a' j ha' hj,if_neg hne]
 have one2:qW ca cb s2.1 s2.2 rank c = 1:=by rw [hsc rank c (by omega) (by omega),if_pos rfl,qhY nz1]
 have low2:∀ c',c' < c->qW ca cb s2.1 s2.2 rank c' = 0:=fun c' hc'=>by rw [hsc rank c' (by omega) (by omega),if_pos rfl,low1 c' hc',q9]
 have oth2:∀ i j,i < r->j < ca + cb->i ≠ rank->qW ca cb s2.1 s2.2 i j = qW ca cb a b i j:=fun i j hi hj hne=>by rw [hsc i j hi hj,if_neg hne,oth1 i j hi hj hne]
 -- the others are cleared
 obtain ⟨r3,same3⟩:=quq t2 (rank:=rank) (c:=c) (by omega) hc r (Nat.le_refl _)
 refine ⟨t2.rows r,q3u h (by omega) (by omega) ((same1.trans same2).trans same3) (fun i hi=>?_) fun c' hc' i hi=>?_⟩
 ·rw [r3 i c hi (by omega),one2,qaR]
  by_cases hir:i = rank
  ·rw [if_neg (by omega),hir,one2,del,if_pos rfl]
  ·rw [if_pos ⟨hi,hir⟩,qax,del,if_neg hir]
 ·rw [r3 i c' hi (by omega),low2 c' hc',qz,qac]
  by_cases hir:i = rank
  ·rw [if_neg (by omega),hir,low2 c' hc',h.low rank (Nat.le_refl _) (by omega) c' hc']
  ·rw [if_pos ⟨hi,hir⟩,oth2 i c' hi (by omega) hir]
theorem qvb (h:Two r ca cb a b):∀ c,c <= ca->Two r ca cb (qbO r ca cb a b c).1 (qbO r ca cb a b c).2.1/\Ech r (ca + cb) (qW ca cb a b) (qW ca cb (qbO r ca cb a b c).1 (qbO r ca cb a b c).2.1) c (qbO r ca cb a b c).2.2
 | 0,_=>⟨h,q2d⟩
 | c + 1,hc=>by
  obtain ⟨h1,h2⟩:=qvb h c (by omega)
  rw [qbO]
  exact q0u h1 h2 (by omega)
end Go.Proofs

set_option linter.unusedSimpArgs false
set_option linter.unusedVariables false
namespace Go.Proofs
open Go Go.Eng
theorem q55 {d:qe} (h:qx (bI d)):qy d:=fun row hr=>h (qbB row 0) (List.mem_map.2 ⟨row,hr,rfl⟩)
end Go.Proofs

set_option linter.unusedSimpArgs false
set_option linter.unusedVariables false
namespace Go.Proofs
open Go Go.Eng
set_option maxRecDepth 20000
theorem qwm {k n t s:Int} {o:List Int} (h:o.length = 32):(qaD k n t s o).length = 39:=by simp [qaD,qa8,h]
theorem q49:idC.ok Tryz.prog:=q7M (by simp [q18,qlC]) fun ρ hg hp=>by
 obtain ⟨⟨hl,hO,hD⟩,hGr,hGd⟩:=hp
 simp (config:={ maxSteps:=2000000 }) [q4f,idC,qoN,qd3,qaH,qmW,qe1,qaK,gOk,qva,qzD,qlX]
 refine ⟨⟨by omega,hl,hO,hD⟩,fun l _ c _ d _ hok hl2 hB hd=>?_⟩
 have hd:bI d.d = qaD (ρ 0).i (ρ 1).i (ρ 2).i (ρ 3).i (qf (ρ 4).d 32) ++ (dgs (ρ 8).d).flatten:=hd
 have hb:=hok
 simp [qE,qbi] at hb
 have hlen:=congrArg List.length hd
 rw [List.length_append,qcD q6S,q5d,bI_len,qwm qdn] at hlen
 refine fun hc=>⟨⟨⟨by omega,by omega,by omega,by omega,hB⟩,hGr,hGd⟩,fun x _ hx=>⟨hok,?_⟩⟩
 have hx:qf x.d 32 = sha (qaD (ρ 0).i (ρ 1).i (ρ 2).i (ρ 3).i (qf (ρ 4).d 32) ++ (dgs (ρ 8).d).flatten):=by
  rw [hx,qcl,hd.symm]
  simp only [Int.toNat_zero,List.drop_zero]
  rw [List.take_of_length_le (by rw [bI_len]; omega)]
 exact hx
end Go.Proofs

set_option linter.unusedSimpArgs false
set_option linter.unusedVariables false
set_option maxRecDepth 100000
namespace Go.Proofs
open Go Go.Eng

def qnJ:Out:=(.fresh 18 (.fresh 19 (.pre 0 (sg 0 [bv 9 9,bv 8 8,bv 7 7,bv 6 6,bg 5 5,bv 3 3,bv 2 2,bv 1 1,bv 0 0,bt 4 (r8 4)]) (.both (.fresh 20 (.post 0 0 (sg 0 [bv 9 9,bv 8 8,bv 7 7,bv 6 6,bg 5 5,bv 3 3,bv 2 2,bv 1 1,bv 0 0,bt 4 (r8 4)]) 20 (.br (.cmp .neq (.var 20) (.lit 0))
 (.ret 0 (sg 18 [bv 18 20]))
 (.br (.cmp .lss (.var 10) (.lit 0))
 (.ret 0 (sg 18 [bt 18 (.lit 2)]))
 (.br (.cmp .geq (.var 10) (.var 2))
 (.ret 0 (sg 18 [bt 18 (.lit 2)]))
 (.pre 1 (sg 0 [bv 1 3,bv 0 0]) (.both (.fresh 21 (.fresh 22 (.post 1 0 (sg 0 [bv 1 3,bv 0 0]) 21 (.need (.cmp .leq (.lit 0) (.var 12)) (.br (.cmp .neq (.var 12) (.var 21))
 (.ret 0 (sg 18 [bt 18 (.lit 10)]))
 (.need (.cmp .leq (.lit 0) (.var 10)) (.need (.cmp .lss (.var 10) (.var 6)) (.need (.cmp .lss (.var 10) (.dlen (.var 8))) (.both (.pre 2 (sg 0 [bv 8 17,bv 6 15,bv 5 14,bv 4 13,bv 3 12,bt 2 (.lit 0),bg 1 11,bv 0 10,bg 7 16]) (.both (.fresh 23 (.post 2 0 (sg 0 [bv 8 17,bv 6 15,bv 5 14,bv 4 13,bv 3 12,bt 2 (.lit 0),bg 1 11,bv 0 10,bg 7 16]) 23 (.br (.not (.c2 .req (r8 23) (.rcons (i8 8 10 0) (.rcons (i8 8 10 1) (.rcons (i8 8 10 2) (.rcons (i8 8 10 3) (.rcons (i8 8 10 4) (.rcons (i8 8 10 5) (.rcons (i8 8 10 6) (.rcons (i8 8 10 7) (.rcons (i8 8 10 8) (.rcons (i8 8 10 9) (.rcons (i8 8 10 10) (.rcons (i8 8 10 11) (.rcons (i8 8 10 12) (.rcons (i8 8 10 13) (.rcons (i8 8 10 14) (.rcons (i8 8 10 15) (.rcons (i8 8 10 16) (.rcons (i8 8 10 17) (.rcons (i8 8 10 18) (.rcons (i8 8 10 19) (.rcons (i8 8 10 20) (.rcons (i8 8 10 21) (.rcons (i8 8 10 22) (.rcons (i8 8 10 23) (.rcons (i8 8 10 24) (.rcons (i8 8 10 25) (.rcons (i8 8 10 26) (.rcons (i8 8 10 27) (.rcons (i8 8 10 28) (.rcons (i8 8 10 29) (.rcons (i8 8 10 30) (.rcons (i8 8 10 31) .rnil))))))))))))))))))))))))))))))))))
 (.ret 0 (sg 18 [bt 18 (.lit 20)]))
 (.ret 0 (sg 18 [bt 18 (.lit 0)]))))) .top)) .top))))))))) .top))))))) .top))))
theorem qvY:qj ⟨Tryz.prog,qdx,[qbL,qbg,qbl],[]⟩ 100000 Tryz.f60 = qnJ:=by kernel_rfl
theorem q1J (hd:∀ c ∈ ([qbL,qbg,qbl]:List Ctr),c.ok Tryz.prog) (h:∀ ρ:Env,ρ.good->(qdx).pre ρ->qnJ.den ⟨Tryz.prog,qdx,[qbL,qbg,qbl],[]⟩ ρ):(qdx).ok Tryz.prog :=
 qc Tryz.func60 (fun a w=>Tryz.call60 a w) hd 100000 (fun ρ hg hp=>by rw [qvY]; exact h ρ hg hp)
end Go.Proofs

set_option linter.unusedSimpArgs false
set_option linter.unusedVariables false
set_option maxRecDepth 100000
namespace Go.Proofs
open Go Go.Eng

end Go.Proofs

set_option linter.unusedSimpArgs false
set_option linter.unusedVariables false
namespace Go.Proofs
open Go Go.Eng
end Go.Proofs

set_option linter.unusedSimpArgs false
set_option linter.unusedVariables false
namespace Go.Proofs
open Go Go.Eng

end Go.Proofs

set_option linter.unusedSimpArgs false
set_option linter.unusedVariables false
namespace Go.Proofs
open Go Go.Eng
set_option maxRecDepth 20000
theorem q2M {k n t s l i:Int} {D:List (List Int)} {m:List Int} (h:qE k n t s l = false):2 = qcc k n t s l D i m:=by rw [qcc,if_pos h]
theorem qum {k n t s l i:Int} {D:List (List Int)} {m:List Int} (h:qE k n t s l = true) (hi:i < 0∨t <= i):2 = qcc k n t s l D i m:=by rw [qcc,if_neg (by rw [h]; decide),if_pos hi]
theorem q2K {k n t s l i:Int} {D:List (List Int)} {m:List Int} (h:qE k n t s l = true) (h0:0 <= i) (h1:i < t) (hl:(m.length:Int) ≠ qek k s):10 = qcc k n t s l D i m:=by rw [qcc,if_neg (by rw [h]; decide),if_neg (by omega),if_pos hl]
theorem q3e {k n t s l i:Int} {D:List (List Int)} {m:List Int} (h:qE k n t s l = true) (h0:0 <= i) (h1:i < t) (hl:(m.length:Int) = qek k s) (hs:sha (qbW i ++ m) ≠ D.getD i.toNat []):20 = qcc k n t s l D i m:=by rw [qcc,if_neg (by rw [h]; decide),if_neg (by omega),if_neg (fun h=>h hl),if_pos hs]
theorem q5R {k n t s l i:Int} {D:List (List Int)} {m:List Int} (h:qE k n t s l = true) (h0:0 <= i) (h1:i < t) (hl:(m.length:Int) = qek k s) (hs:sha (qbW i ++ m) = D.getD i.toNat []):0 = qcc k n t s l D i m:=by rw [qcc,if_neg (by rw [h]; decide),if_neg (by omega),if_neg (fun h=>h hl),if_neg (fun h=>h hs)]
theorem qym {k n t s l:Int} (h:qE k n t s l = true):¬ qfc k s:=by
 simp [qE,qbi] at h
 unfold qfc; omega
set_option maxHeartbeats 1000000 in
theorem qzP:qdx.ok Tryz.prog:=q1J (by simp [qrd,qpy,qnU]) fun ρ hg hp=>by
 obtain ⟨⟨i0,i3,hl,hD,hpl,hpc,hp1,hB⟩,hGr,hGd⟩:=hp
 simp only [Nat.reduceAdd] at hpl hpc hp1 hB
 simp (config:={ maxSteps:=4000000,contextual:=true }) [qnJ,qdx,qqr,qbL,qbg,qbl,qmW,qe1,qaK,gOk,hGr,hGd,hB,hD,hl,hpl]
 refine fun u _ hu=>⟨q2M,fun hok=>⟨fun h0=>qum hok (.inl h0),fun h0=>⟨fun ht=>qum hok (.inr ht),fun ht l _ e _ _ hgood=>?_⟩⟩⟩
 have hlen:=(hgood (qym hok)).1
 have hml:(bI (ρ 14).d).length = (ρ 14).d.length:=bI_len
 have htl:(ρ 2).i = (ρ 8).d.length:=by simp [qE] at hok; omega
 have hrow:qs0 (ρ 8).d (ρ 10).i = (dgs (ρ 8).d).getD (ρ 10).i.toNat []:=q0b h0 (by omega)
 refine ⟨fun hne=>q2K hok h0 ht (by rw [hml,qek,<- hlen]; exact hne),fun heq=>⟨by omega,⟨by omega,by omega,by omega⟩,fun x _ hx=>?_⟩⟩
 rw [qkk heq.symm,hrow]
 exact ⟨fun hn=>q3e hok h0 ht (by rw [hml,qek,<- hlen]; exact heq) hn,fun he=>q5R hok h0 ht (by rw [hml,qek,<- hlen]; exact heq) he⟩
end Go.Proofs

set_option linter.unusedSimpArgs false
set_option linter.unusedVariables false
namespace Go.Proofs
open Go Go.Eng

theorem qtn {k n:Nat} (hk:0 < k):n <= k * qC k n:=by
 unfold qC
 have h1:=Nat.div_add_mod (n + k - 1) k
 have h2:=Nat.mod_lt (n + k - 1) hk
 omega
theorem q0R {n:Nat}:(qav n n).length = n * n:=by simp [qav]
theorem q1B {n i:Nat} (hi:i < n * n):(qav n n).getD i 0 = if i / n = i % n then 1 else 0:=by
 have hn:0 < n:=by
  cases n with
  | zero=>simp at hi
  | succ n=>omega
 rw [List.getD_eq_getElem?_getD,qav,List.getElem?_map,List.getElem?_range hi]
 simp only [Option.map_some,Option.getD_some]
 have:i / n < n:=Nat.div_lt_of_lt_mul hi
 by_cases h:i / n = i % n
 ·rw [if_pos ⟨h,this⟩,if_pos h]
 ·rw [if_neg (fun hh=>h hh.1),if_neg h]
theorem qiN {i n j:Nat} (hj:j < n):(i * n + j) / n = i/\(i * n + j) % n = j:=by
 have hn:0 < n:=by omega
 constructor
 ·rw [Nat.mul_comm,Nat.mul_add_div hn,Nat.div_eq_of_lt hj,Nat.add_zero]
 ·rw [Nat.mul_comm,Nat.mul_add_mod,Nat.mod_eq_of_lt hj]
theorem qvr {n:Nat}:qx (qav n n):=fun x hx=>by
 simp only [qav,List.mem_map] at hx
 obtain ⟨i,_,rfl⟩:=hx
 split <;> exact ⟨by omega,by omega⟩
theorem qr5 {n i j:Nat} (hi:i < n) (hj:j < n):q6 n (qav n n) i j = del i j:=by
 obtain ⟨h1,h2⟩:=qiN (i:=i) hj
 rw [q6,q1B (qfh hi hj),h1,h2,del]
 split <;> rfl
theorem qxT {r c:Nat}:(qbn r c).length = r * c:=by simp [qbn,qci]
theorem qxZ {r c i j:Nat} (hi:i < r) (hj:j < c):(qbn r c).getD (i * c + j) 0 = qgS (i:Int) (j:Int):=by
 obtain ⟨h1,h2⟩:=qiN (i:=i) hj
 have hlt:=qfh hi hj
 rw [List.getD_eq_getElem?_getD,qbn,qci,List.getElem?_map,List.getElem?_range hlt]
 simp only [Option.map_some,Option.getD_some]
 rw [if_pos hlt,qmn,h1,h2]
def xsF (m:Nat):F:=toF (m:Int)
theorem qpg {r c i j:Nat} (hr:r <= 256) (hi:i < r) (hj:j < c) (hc:c < 9223372036854775808):q6 c (qbn r c) i j = qaB (xsF i) j:=by
 rw [q6,qxZ hi hj,q0Y ⟨by omega,by omega⟩ (by omega),qiS,Int.toNat_natCast]; rfl
theorem ql2 {r c:Nat} (hr:r <= 256) (hc:c < 9223372036854775808):qx (qbn r c):=fun x hx=>by
 simp only [qbn,qci,List.mem_map,List.mem_range] at hx
 obtain ⟨i,hi,rfl⟩:=hx
 rw [if_pos hi]
 have hc0:0 < c:=by
  cases c with
  | zero=>simp at hi
  | succ c=>omega
 have h1:i / c < r:=Nat.div_lt_of_lt_mul (by rwa [Nat.mul_comm] at hi)
 have h2:=Nat.mod_lt i hc0
 have h3:((i / c:Nat):Int) < 256:=by omega
 exact q3C ⟨Int.natCast_nonneg _,h3⟩ (by omega)
theorem qeO {n:Nat} (hn:n <= 256):qbr n xsF:=fun i j hi hj h=>by
 have:=qqm (x:=(i:Int)) (y:=(j:Int)) ⟨by omega,by omega⟩ ⟨by omega,by omega⟩ h
 omega
theorem qyj {l:List Int} {n:Nat} (h:qx l):qx (l.take n):=fun x hx=>h x (List.mem_of_mem_take hx)
theorem q32 {l:List Int} {n c i j:Nat} (hi:i < n) (hj:j < c):q6 c (l.take (n * c)) i j = q6 c l i j:=by
 have hlt:=qfh hi hj
 rw [q6,q6,List.getD_eq_getElem?_getD,List.getD_eq_getElem?_getD,List.getElem?_take,if_pos hlt]

theorem qiw {ca cb:Nat} {a b:List Int} {i j:Nat}:qW ca cb a b i (ca + j) = q6 cb b i j:=by
 rw [qW,if_neg (by omega),show ca + j - ca = j by omega]
theorem qqB {n:Nat} {a A B:List Int} (h:Ech n (n + n) (qW n n a (qav n n)) (qW n n A B) n n) :
  (∀ i j,i < n->j < n->qv (fun l=>qg (q6 n B i l) (q6 n a l j)) n = del i j)/\∀ i j,i < n->j < n->qv (fun l=>qg (q6 n a i l) (q6 n B l j)) n = del i j:=by
 refine ⟨fun i j hi hj=>?_,fun i j hi hj=>?_⟩
 ·obtain ⟨x,hx⟩:=h.same.to i hi
  have hxB:∀ l,l < n->x l = q6 n B i l:=fun l hl=>by
   have h1:=hx (n + l) (by omega)
   rw [qiw,qk fun m hm=>by rw [qiw,qr5 hm hl],qgI (f:=x) hl] at h1
   exact h1.symm
  have h2:=hx j (by omega)
  rw [qtw h i hi j hj,qk fun m hm=>by rw [hxB m hm,qeb hj]] at h2
  exact h2.symm
 ·obtain ⟨x,hx⟩:=h.same.back i hi
  have hxa:∀ l,l < n->x l = q6 n a i l:=fun l hl=>by
   have h1:=hx l (by omega)
   rw [qeb hl,qk fun m hm=>by rw [qtw h m hm l hl],qgI (f:=x) hl] at h1
   exact h1.symm
  have h2:=hx (n + j) (by omega)
  rw [qiw,qr5 hi hj,qk fun m hm=>by rw [hxa m hm,qiw]] at h2
  exact h2.symm
theorem q0g {n:Nat} {m:List Int} (hl:m.length = n * n) (hb:qx m):Two n n n m (qav n n):=⟨hl,q0R,hb,qvr⟩
theorem qmg {n:Nat} {m:List Int} (hl:m.length = n * n) (hb:qx m):Two n n n (qey m n).1 (qey m n).2.1/\Ech n (n + n) (qW n n m (qav n n)) (qW n n (qey m n).1 (qey m n).2.1) n (qey m n).2.2 :=
 qvb (q0g hl hb) n (Nat.le_refl _)
theorem qu7 {n:Nat} {m:List Int} (hl:m.length = n * n) (hb:qx m) (h:∀ y:Nat->F,(∀ i,i < n->qv (fun j=>qg (q6 n m i j) (y j)) n = 0)->∀ j,j < n->y j = 0):(qey m n).2.2 = n:=by
 obtain ⟨_,he⟩:=qmg hl hb
 refine Classical.byContradiction fun hne=>?_
 have hlt:(qey m n).2.2 < n:=by have:=he.le; omega
 obtain ⟨y,⟨c,hc,hyc⟩,hy⟩:=q2V he (by omega) hlt
 exact hyc (h y (fun i hi=>by rw [<- hy i hi]; exact qk fun j hj=>by rw [qeb hj]; rfl) c hc)

theorem qwY {k total:Nat} (h:k <= total):((qbn total k).take (k * k)).length = k * k:=by
 rw [List.length_take,qxT]
 exact Nat.min_eq_left (Nat.mul_le_mul_right k h)
theorem qwC {k total i j:Nat} (hk:k <= total) (ht:total <= 255) (hi:i < k) (hj:j < k):q6 k ((qbn total k).take (k * k)) i j = qaB (xsF i) j:=by
 rw [q32 hi hj,qpg (by omega) (by omega) hj (by omega)]
theorem qru {k total:Nat} (hk:k <= total) (ht:total <= 255):qx ((qbn total k).take (k * k)):=qyj (ql2 (by omega) (by omega))
theorem q3n {k total:Nat} (hk:k <= total) (ht:total <= 255):(qcg k total).2.2 = k :=
 qu7 (qwY hk) (qru hk ht) fun y hy=>qoT (qeO (by omega)) fun i hi=>by
  rw [<- hy i hi]
  exact qk fun j hj=>by rw [qwC hk ht hi hj]
theorem qwX {k total:Nat} (hk:k <= total) (ht:total <= 255):Two k k k (qcg k total).1 (qcg k total).2.1/\Ech k (k + k) (qW k k ((qbn total k).take (k * k)) (qav k k)) (qW k k (qcg k total).1 (qcg k total).2.1) k k:=by
 have h:=qmg (qwY hk) (qru hk ht)
 have hr:=q3n hk ht
 unfold qcg at hr ⊢
 rw [hr] at h
 exact h

theorem qmP {a b:List Int} {ra ca cb:Nat} (hb:b.length = ca * cb) (ha:qx a) (hbb:qx b) (hca:0 < ca):∀ t,t <= ra * ca->(qcq a b ra ca cb t).length = ra * cb/\qx (qcq a b ra ca cb t) /\
  ∀ i j,i < ra->j < cb->q6 cb (qcq a b ra ca cb t) i j = qv (fun l=>if i * ca + l < t then qg (q6 ca a i l) (q6 cb b l j) else 0) ca
 | 0,_=>⟨by simp [qcq],fun x hx=>by rw [qcq] at hx; rw [List.eq_of_mem_replicate hx]; exact ⟨by omega,by omega⟩,fun i j hi hj=>by
   rw [qc2 fun l _=>if_neg (by omega),q6,qcq,List.getD_eq_getElem?_getD,List.getElem?_replicate,if_pos (qfh hi hj)]; rfl⟩
 | t + 1,ht=>by
  obtain ⟨h1,h2,h3⟩:=qmP (ra:=ra) hb ha hbb hca t (by omega)
  have hti:t / ca < ra:=Nat.div_lt_of_lt_mul (by rw [Nat.mul_comm]; omega)
  have htl:=Nat.mod_lt t hca
  have htd:=Nat.div_add_mod t ca
  rw [qcq]
  refine ⟨by rw [qcy,h1],qdV h2,fun i j hi hj=>?_⟩
  have hlt:=qfh hi hj
  have hsl:(seg b (t % ca * cb) cb).length = cb:=qfi (by rw [hb]; exact qpn htl)
  have hL:q6 cb (qaa (qcq a b ra ca cb t) (t / ca * cb) (seg b (t % ca * cb) cb) (a.getD t 0)) i j = if i = t / ca then q6 cb (qcq a b ra ca cb t) i j ^^^ qg (toF (a.getD t 0)) (q6 cb b (t % ca) j) else q6 cb (qcq a b ra ca cb t) i j:=by
   unfold q6
   rw [List.getD_eq_getElem?_getD,qb0,List.getElem?_eq_getElem (by omega),Option.map_some,Option.getD_some,hsl]
   by_cases he:i = t / ca
   ·subst he
    rw [if_pos ⟨by omega,by omega⟩,if_pos rfl,show t / ca * cb + j - t / ca * cb = j by omega]
    have hs:(seg b (t % ca * cb) cb).getD j 0 = b.getD (t % ca * cb + j) 0:=by
     rw [List.getD_eq_getElem?_getD,qfv,if_pos hj,List.getD_eq_getElem?_getD]
    rw [hs,qj5,qh9 (qaA ha _) (qaA hbb _),List.getD_eq_getElem?_getD (l:=qcq a b ra ca cb t),List.getElem?_eq_getElem (by omega),Option.getD_some]
   ·rw [if_neg (fun h=>he ((qsB hj).1 h)),if_neg he,List.getD_eq_getElem?_getD,List.getElem?_eq_getElem (by omega),Option.getD_some]
  rw [hL,h3 i j hi hj]
  by_cases he:i = t / ca
  ·have hit:i * ca + t % ca = t:=by rw [he,Nat.mul_comm]; exact htd
   rw [if_pos he]
   have hat:toF (a.getD t 0) = q6 ca a i (t % ca):=by rw [q6,hit]
   have h4:qg (toF (a.getD t 0)) (q6 cb b (t % ca) j) = qv (fun l=>if l = t % ca then qg (q6 ca a i l) (q6 cb b l j) else 0) ca:=by
    rw [qhS htl fun l _ hl=>if_neg hl,if_pos rfl,hat]
   rw [h4,<- qfS]
   refine qk fun l hl=>?_
   by_cases hlt:l = t % ca
   ·subst hlt; rw [if_neg (by omega),if_pos rfl,if_pos (by omega),qam]
   ·rw [if_neg hlt,qac]
    by_cases h5:i * ca + l < t
    ·rw [if_pos h5,if_pos (by omega)]
    ·rw [if_neg h5,if_neg (by omega)]
  ·rw [if_neg he]
   refine qk fun l hl=>?_
   have hne:i * ca + l ≠ t:=fun h=>he (by rw [<- h]; exact (qiN hl).1.symm)
   by_cases h5:i * ca + l < t
   ·rw [if_pos h5,if_pos (by omega)]
   ·rw [if_neg h5,if_neg (by omega)]
theorem qxt {a b:List Int} {ra ca cb:Nat} (hb:b.length = ca * cb) (ha:qx a) (hbb:qx b) (hca:0 < ca):(qmp a b ra ca cb).length = ra * cb/\qx (qmp a b ra ca cb) /\
  ∀ i j,i < ra->j < cb->q6 cb (qmp a b ra ca cb) i j = qv (fun l=>qg (q6 ca a i l) (q6 cb b l j)) ca:=by
 obtain ⟨h1,h2,h3⟩:=qmP (ra:=ra) hb ha hbb hca (ra * ca) (Nat.le_refl _)
 refine ⟨h1,h2,fun i j hi hj=>?_⟩
 rw [qmp,h3 i j hi hj]
 exact qk fun l hl=>if_pos (qfh hi hl)

theorem qfn {k total:Nat} (h1:1 <= k) (hk:k <= total) (ht:total <= 255):(qcQ k total).length = total * k/\qx (qcQ k total) /\
  (∀ i j,i < total->j < k->q6 k (qcQ k total) i j = qv (fun l=>qg (qaB (xsF i) l) (q6 k (qcg k total).2.1 l j)) k) /\
  ∀ i j,i < total->j < k->q6 k (qcQ k total) i j = qf8 k xsF (xsF i) j:=by
 obtain ⟨t2,he⟩:=qwX hk ht
 obtain ⟨p1,p2,p3⟩:=qxt (ra:=total) t2.lb (ql2 (r:=total) (c:=k) (by omega) (by omega)) t2.bb (by omega)
 have hg:∀ i j,i < total->j < k->q6 k (qcQ k total) i j = qv (fun l=>qg (qaB (xsF i) l) (q6 k (qcg k total).2.1 l j)) k:=fun i j hi hj=>by
  rw [qcQ,p3 i j hi hj]
  exact qk fun l hl=>by rw [qpg (by omega) hi hl (by omega)]
 refine ⟨p1,p2,hg,fun i j hi hj=>?_⟩
 obtain ⟨_,m2⟩:=qqB he
 have hp:∀ x,q7 k (fun l=>q6 k (qcg k total).2.1 l j) x = qv (fun l=>qg (qaB x l) (q6 k (qcg k total).2.1 l j)) k:=fun x=>qk fun l _=>qZ
 rw [hg i j hi hj,<- hp,qjF (qeO (n:=k) (by omega))]
 rw [qk (g:=fun m=>qg (qf8 k xsF (xsF i) m) (del m j)) fun m hm=>?_,qgI hj]
 rw [hp,<- m2 m j hm hj]
 congr 1
 exact qk fun l hl=>by rw [qwC hk ht hm hl]
theorem qlh {g full:List Int} {k l i:Nat} (hg:qx g) (hf:qx full) (hl:full.length = k * l):∀ j,j <= k->(qce g full k l i j).length = l/\qx (qce g full k l i j) /\
  ∀ c,c < l->toF ((qce g full k l i j).getD c 0) = qv (fun m=>qg (q6 k g i m) (toF (full.getD (m * l + c) 0))) j
 | 0,_=>⟨by simp [qce],fun x hx=>by rw [qce] at hx; rw [List.eq_of_mem_replicate hx]; exact ⟨by omega,by omega⟩,fun c hc=>by
   rw [qce,List.getD_eq_getElem?_getD,List.getElem?_replicate,if_pos hc]; rfl⟩
 | j + 1,hj=>by
  obtain ⟨h1,h2,h3⟩:=qlh hg hf hl (i:=i) j (by omega)
  have hsl:(seg full (j * l) l).length = l:=qfi (by rw [hl]; exact qpn (by omega))
  rw [qce]
  refine ⟨by rw [qcy,h1],qdV h2,fun c hc=>?_⟩
  rw [List.getD_eq_getElem?_getD,qb0,List.getElem?_eq_getElem (by omega),Option.map_some,Option.getD_some,hsl,if_pos ⟨by omega,by omega⟩,Nat.sub_zero]
  have hs:(seg full (j * l) l).getD c 0 = full.getD (j * l + c) 0:=by
   rw [List.getD_eq_getElem?_getD,qfv,if_pos hc,List.getD_eq_getElem?_getD]
  rw [hs,qj5,qh9 (qaA hg _) (qaA hf _),qv,<- h3 c hc,List.getD_eq_getElem?_getD (l:=qce g full k l i j),List.getElem?_eq_getElem (by omega),Option.getD_some]
  rfl
theorem qz7 {data:List Int} {n:Nat} (hb:qx data) (hn:data.length <= n):(qiy data n).length = n/\qx (qiy data n):=by
 refine ⟨by simp [qiy]; omega,fun x hx=>?_⟩
 rcases List.mem_append.1 hx with hx | hx
 ·exact hb x hx
 ·rw [List.eq_of_mem_replicate hx]; exact ⟨by omega,by omega⟩
theorem q4p {data:List Int} {n i:Nat}:(qiy data n).getD i 0 = data.getD i 0:=by
 rw [List.getD_eq_getElem?_getD,List.getD_eq_getElem?_getD,qiy]
 by_cases h:i < data.length
 ·rw [List.getElem?_append_left h]
 ·rw [List.getElem?_append_right (by omega),List.getElem?_eq_none (l:=data) (by omega),List.getElem?_replicate]
  split <;> rfl
theorem q1d {k total:Nat} {data:List Int} (h1:1 <= k) (hk:k <= total) (ht:total <= 255) (hb:qx data) (i:Nat):(qd6 k total data i).length = qC k data.length/\qx (qd6 k total data i) /\
  ∀ c,c < qC k data.length->toF ((qd6 k total data i).getD c 0) = qv (fun m=>qg (q6 k (qcQ k total) i m) (toF (data.getD (m * qC k data.length + c) 0))) k:=by
 obtain ⟨g1,g2,_,_⟩:=qfn h1 hk ht
 obtain ⟨f1,f2⟩:=qz7 hb (n:=k * qC k data.length) (qtn (by omega))
 obtain ⟨p1,p2,p3⟩:=qlh (i:=i) g2 f2 f1 k (Nat.le_refl _)
 refine ⟨p1,p2,fun c hc=>?_⟩
 rw [qd6,p3 c hc]
 exact qk fun m _=>by rw [q4p]
end Go.Proofs

set_option linter.unusedSimpArgs false
set_option linter.unusedVariables false
namespace Go.Eng
open Go
end Go.Eng
namespace Go.Proofs
open Go Go.Eng
theorem qsc {a b:List Int} (hl:a.length = b.length) (h:∀ i,i < a.length->a.getD i 0 = b.getD i 0):a = b:=by
 apply List.ext_getElem hl
 intro i h1 h2
 have:=h i h1
 rwa [List.getD_eq_getElem?_getD,List.getElem?_eq_getElem h1,List.getD_eq_getElem?_getD,List.getElem?_eq_getElem h2] at this
end Go.Proofs

set_option linter.unusedSimpArgs false
set_option linter.unusedVariables false
namespace Go.Eng
open Go Go.Proofs

def qga (m:List Int) (cols:Nat) (rs:List Int):List Int:=rs.flatMap fun r=>seg m (r.toNat * cols) cols
def qlc (xs:List Int) (x:Int):List Int:=(List.range xs.length).map fun i=>ofF (qf8 xs.length (fun m=>toF (xs.getD m 0)) (toF x) i)
end Go.Eng

set_option linter.unusedSimpArgs false
set_option linter.unusedVariables false
set_option maxRecDepth 100000
namespace Go.Proofs
open Go Go.Eng

end Go.Proofs

set_option linter.unusedSimpArgs false
set_option linter.unusedVariables false
namespace Go.Proofs
open Go Go.Eng

end Go.Proofs

set_option linter.unusedSimpArgs false
set_option linter.unusedVariables false
namespace Go.Proofs
open Go Go.Eng
theorem quk {m:List Int} {c r:Nat} (hm:r * c <= m.length):∀ {rs:List Int},(∀ x ∈ rs,0 <= x/\x < (r:Int))->(qga m c rs).length = rs.length * c
 | [],_=>by simp [qga]
 | x :: rs,h=>by
  have ih:=quk hm (rs:=rs) fun y hy=>h y (List.mem_cons_of_mem _ hy)
  have hx:=h x (List.mem_cons_self ..)
  have:=qpn (ca:=c) (show x.toNat < r by omega)
  rw [qga,List.flatMap_cons,List.length_append,qfi (by omega),show (rs.flatMap fun r=>seg m (r.toNat * c) c) = qga m c rs from rfl,ih,List.length_cons,Nat.add_mul]; omega
theorem quw {l:List Int} {n:Nat} (h:n < l.length):l.getD n 0 ∈ l:=by
 rw [List.getD_eq_getElem?_getD,List.getElem?_eq_getElem h]; exact List.getElem_mem h
end Go.Proofs

set_option linter.unusedSimpArgs false
set_option linter.unusedVariables false
namespace Go.Eng
open Go Go.Proofs
def qch (k total:Nat) (rs:List Int):Prop:=rs.length = k/\rs.Nodup/\∀ x ∈ rs,0 <= x/\x < (total:Int)
end Go.Eng
namespace Go.Proofs
open Go Go.Eng

theorem qsH {i j:Nat}:del i j = del j i:=by
 unfold del
 by_cases hij:i = j
 ·rw [if_pos hij,if_pos hij.symm]
 ·rw [if_neg hij,if_neg (Ne.symm hij)]
theorem qqx {m:List Int} {k R:Nat} (hm:m.length = R * k):∀ {rs:List Int},(∀ x ∈ rs,0 <= x/\x < (R:Int))->∀ {i j:Nat},i < rs.length->j < k->(qga m k rs).getD (i * k + j) 0 = m.getD ((rs.getD i 0).toNat * k + j) 0
 | [],_,i,j,hi,_=>by simp at hi
 | x :: rs,h,i,j,hi,hj=>by
  have hx:=h x (List.mem_cons_self ..)
  have hxk:x.toNat * k + k <= R * k:=by
   have h1:x.toNat + 1 <= R:=by omega
   have:=Nat.mul_le_mul_right k h1
   rw [Nat.add_mul] at this; omega
  have hsl:(seg m (x.toNat * k) k).length = k:=by rw [seg,List.length_take,List.length_drop]; omega
  rw [qga,List.flatMap_cons]
  cases i with
  | zero =>
   rw [Nat.zero_mul,Nat.zero_add,List.getD_eq_getElem?_getD,List.getElem?_append_left (by rw [hsl]; exact hj),seg,List.getElem?_take,if_pos hj,List.getElem?_drop,<- List.getD_eq_getElem?_getD]
   rfl
  | succ i =>
   have ih:=qqx hm (rs:=rs) (fun y hy=>h y (List.mem_cons_of_mem _ hy)) (i:=i) (j:=j) (by simpa using hi) hj
   rw [List.getD_eq_getElem?_getD,List.getElem?_append_right (by rw [hsl,Nat.add_mul]; omega),hsl,show (i + 1) * k + j - k = i * k + j by rw [Nat.add_mul]; omega,<- List.getD_eq_getElem?_getD]
   exact ih
theorem qlP {m:List Int} {k:Nat} {rs:List Int} (h:qx m):qx (qga m k rs):=fun x hx=>by
 rw [qga,List.mem_flatMap] at hx
 obtain ⟨r,_,hx⟩:=hx
 exact h x (List.mem_of_mem_drop (List.mem_of_mem_take hx))
theorem qif {k total:Nat} {rs:List Int} (h:qch k total rs) (ht:total <= 255):qbr k fun i=>xsF (rs.getD i 0).toNat:=by
 obtain ⟨h1,h2,h3⟩:=h
 intro i j hi hj he
 have gi:rs.getD i 0 = rs[i]'(by omega):=by rw [List.getD_eq_getElem?_getD,List.getElem?_eq_getElem (by omega)]; rfl
 have gj:rs.getD j 0 = rs[j]'(by omega):=by rw [List.getD_eq_getElem?_getD,List.getElem?_eq_getElem (by omega)]; rfl
 have mi:=h3 _ (List.getElem_mem (l:=rs) (n:=i) (by omega))
 have mj:=h3 _ (List.getElem_mem (l:=rs) (n:=j) (by omega))
 simp only [gi,gj] at he
 have:=qeO (n:=256) (Nat.le_refl _) _ _ (by omega) (by omega) he
 exact (List.getElem_inj (h₀:=by omega) (h₁:=by omega) h2).1 (by omega)
theorem qnp {m:List Int} {k total:Nat} {rs:List Int} (h:qch k total rs) (hm:m.length = total * k):(qga m k rs).length = k * k:=by
 rw [quk (r:=total) (by omega) h.2.2,h.1]
theorem q5Z {k total:Nat} {rs:List Int} (h:qch k total rs) (h1:1 <= k) (hk:k <= total) (ht:total <= 255) {y:Nat->F}
  (hy:∀ i,i < k->qv (fun j=>qg (q6 k (qcQ k total) (rs.getD i 0).toNat j) (y j)) k = 0):∀ j,j < k->y j = 0:=by
 obtain ⟨g1,g2,g3,_⟩:=qfn h1 hk ht
 obtain ⟨t2,he⟩:=qwX hk ht
 obtain ⟨_,m2⟩:=qqB he
 have hz:∀ l,l < k->qv (fun j=>qg (q6 k (qcg k total).2.1 l j) (y j)) k = 0:=qoT (qif h ht) fun i hi=>by
  rw [<- hy i hi]
  have hx:=h.2.2 (rs.getD i 0) (by rw [List.getD_eq_getElem?_getD,List.getElem?_eq_getElem (by rw [h.1]; exact hi)]; exact List.getElem_mem _)
  have e2:qv (fun j=>qg (q6 k (qcQ k total) (rs.getD i 0).toNat j) (y j)) k = qv (fun j=>qv (fun l=>qg (qg (qaB (xsF (rs.getD i 0).toNat) l) (q6 k (qcg k total).2.1 l j)) (y j)) k) k:=qk fun j hj=>by rw [g3 _ j (by omega) hj,qed]
  rw [e2,qfq]
  refine qk fun l hl=>?_
  rw [<- qcU]
  exact qk fun j hj=>by rw [qK]
 intro j hj
 have e1:y j = qv (fun i=>qg (y i) (del i j)) k:=(qgI (f:=y) hj).symm
 rw [e1,qk (g:=fun i=>qv (fun l=>qg (q6 k ((qbn total k).take (k * k)) j l) (qg (q6 k (qcg k total).2.1 l i) (y i))) k) fun i hi=>?_,qfq]
 ·refine qc2 fun l hl=>?_
  rw [qcU,hz l hl,qz]
 ·have:=m2 j i hj hi
  rw [show del i j = del j i from qsH,<- this,qZ,<- qed]
  exact qk fun l hl=>by rw [qK]
theorem q2F {k total:Nat} {rs:List Int} (h:qch k total rs) (h1:1 <= k) (hk:k <= total) (ht:total <= 255):(qey (qga (qcQ k total) k rs) k).2.2 = k:=by
 obtain ⟨g1,g2,_,_⟩:=qfn h1 hk ht
 refine qu7 (qnp h g1) (qlP g2) fun y hy=>q5Z h h1 hk ht fun i hi=>?_
 rw [<- hy i hi]
 refine qk fun j hj=>?_
 rw [q6,q6,qqx g1 h.2.2 (by rw [h.1]; exact hi) hj]

end Go.Proofs

set_option linter.unusedSimpArgs false
set_option linter.unusedVariables false
namespace Go.Eng
open Go Go.Proofs
end Go.Eng
namespace Go.Proofs
open Go Go.Eng
theorem q6l {h:Hp} {D:qe} {n:Nat} {f:Nat->List Int} (he:qfJ h D n f):qql h D n/\∀ j,j < n->pcI D j = j/\pcD h D j = f j:=by
 refine ⟨fun j hj=>?_,fun j hj=>?_⟩
 ·obtain ⟨v,d,e,hr,_,hb⟩:=he j hj
  exact ⟨_,v,d,e,hr,hb⟩
 ·obtain ⟨v,d,e,hr,hf,hb⟩:=he j hj
  refine ⟨by simp [pcI,qh,qaj,e,qad],?_⟩
  rw [pcD,show qaj D (j:Int) 1 = v by simp [qaj,e],qiZ hr,hf]
end Go.Proofs

set_option linter.unusedSimpArgs false
set_option linter.unusedVariables false
namespace Go.Eng
open Go Go.Proofs

def que (n:Nat):List Int:=(List.range n).map fun (m:Nat)=>(m:Int)
end Go.Eng

set_option linter.unusedSimpArgs false
set_option linter.unusedVariables false
namespace Go.Eng
open Go Go.Proofs

def qcr (f:Nat->List Int) (w:List Int) (l:Nat):Nat->List Int
 | 0=>List.replicate l 0
 | j + 1=>qaa (qcr f w l j) 0 (seg (f j) 0 l) (w.getD j 0)
end Go.Eng

set_option linter.unusedSimpArgs false
set_option linter.unusedVariables false
namespace Go.Eng
open Go Go.Proofs
end Go.Eng

set_option linter.unusedSimpArgs false
set_option linter.unusedVariables false
set_option maxRecDepth 100000
namespace Go.Proofs
open Go Go.Eng

end Go.Proofs

set_option linter.unusedSimpArgs false
set_option linter.unusedVariables false
namespace Go.Eng
open Go Go.Proofs

end Go.Eng

set_option linter.unusedSimpArgs false
set_option linter.unusedVariables false
namespace Go.Proofs
open Go Go.Eng

theorem quX {f:Nat->List Int} {w:List Int} {l:Nat}:∀ j,(qcr f w l j).length = l
 | 0=>by simp [qcr]
 | j + 1=>by rw [qcr,qcy,quX j]
end Go.Proofs

set_option linter.unusedSimpArgs false
set_option linter.unusedVariables false
set_option maxRecDepth 100000
namespace Go.Proofs
open Go Go.Eng

end Go.Proofs

set_option linter.unusedSimpArgs false
set_option linter.unusedVariables false
namespace Go.Proofs
open Go Go.Eng
theorem qvS {n:Nat}:(que n).Nodup:=List.pairwise_map.2 (List.nodup_range.imp fun h e=>h (by omega))
theorem q2c {n:Nat} {x:Int} (h:x ∈ que n):0 <= x/\x < n:=by
 obtain ⟨m,hm,rfl⟩:=List.mem_map.1 h
 have:=List.mem_range.1 hm
 omega
theorem qhx {o l:List Int} {n k:Nat} (h:(o ++ l).Perm (que n)) (hk:o.length = k):o.length = k/\o.Nodup/\∀ x ∈ o,0 <= x/\x < (n:Int) :=
 ⟨hk,(List.nodup_append.1 (h.nodup_iff.2 qvS)).1,fun x hx=>q2c (h.mem_iff.1 (List.mem_append_left _ hx))⟩
end Go.Proofs

set_option linter.unusedSimpArgs false
set_option linter.unusedVariables false
namespace Go.Proofs
open Go Go.Eng
end Go.Proofs

set_option linter.unusedSimpArgs false
set_option linter.unusedVariables false
namespace Go.Proofs
open Go Go.Eng
set_option maxRecDepth 20000
end Go.Proofs

set_option linter.unusedSimpArgs false
set_option linter.unusedVariables false
namespace Go.Eng
open Go Go.Proofs
def blk:Value->Option Nat
 | .slice (some a) _ _=>some a.block
 | _=>none
def q6n (h:Hp) (vs:Nat->Value) (n:Nat) (M:Nat->List Int):Prop :=
 (∀ j,j < n->∃ d,Rd h kB (vs j) d/\bI d = M j/\qy d)/\∀ i j,i < n->j < n->i ≠ j->M i ≠ []->M j ≠ []->blk (vs i) ≠ blk (vs j)
end Go.Eng
namespace Go.Proofs
open Go Go.Eng
theorem q7h {h:Hp} {vs:Nat->Value} {n j:Nat} {M:Nat->List Int} (ht:q6n h vs n M) (hj:j < n):∃ d,Rd h kB (vs j) d/\bI d = M j/\qy d:=ht.1 j hj
end Go.Proofs

set_option linter.unusedSimpArgs false
set_option linter.unusedVariables false
namespace Go.Eng
open Go Go.Proofs
def tvs (D:qe):Nat->Value:=fun j=>qaj D j 0
end Go.Eng

set_option linter.unusedSimpArgs false
set_option linter.unusedVariables false
namespace Go.Eng
open Go Go.Proofs
noncomputable def pcN (h:Hp) (D:qe) (j:Nat):Nat:=(pcD h D j).length
def rdB (h:Hp) (v:Value):Prop:=∃ d,Rd h kB v d/\qy d
noncomputable def qgR (D:qe) (k:Nat):List Int:=(List.range k).map (pcI D)
noncomputable def qkK (h:Hp) (D:qe):Nat->List Int:=fun j=>rdL h (tvs D j)
noncomputable def q7U (h:Hp) (D:qe) (k:Nat) (x:Int):List Int:=qcr (pcD h D) (qlc (qgR D k) x) (pcN h D 0) k
def qmZ (total k:Nat) (rs:List Int):List Int:=(qey (qga (qcQ k total) k rs) k).2.1
noncomputable def qzm (h:Hp) (D:qe) (total k:Nat) (i:Nat):List Int:=qcr (pcD h D) (seg (qmZ total k (qgR D k)) (i * k) k) (pcN h D 0) k
def q6X (h:Hp) (D:qe) (k total n:Int):Prop:=qa4 k total = true/\k <= n/\n <= 17592186043904/\qql h D n.toNat/\qch k.toNat total.toNat (qgR D k.toNat)/\pcN h D 0 <= 8192/\∀ j,j < k.toNat->pcN h D j = pcN h D 0
end Go.Eng

set_option linter.unusedSimpArgs false
set_option linter.unusedVariables false
namespace Go.Eng
open Go Go.Proofs
end Go.Eng

set_option linter.unusedSimpArgs false
set_option linter.unusedVariables false
namespace Go.Eng
open Go Go.Proofs
noncomputable def plI (k size:Int):Int:=(qC k.toNat size.toNat:Int)
end Go.Eng

set_option linter.unusedSimpArgs false
set_option linter.unusedVariables false
namespace Go.Eng
open Go Go.Proofs
def qoU (r:Nat):SV:=.agg (qe1 r (r + 1) (r + 2) (r + 3) (r + 4) (r + 5) (r + 6) (r + 7))
end Go.Eng

set_option linter.unusedSimpArgs false
set_option linter.unusedVariables false
namespace Go.Proofs
open Go Go.Eng
section
variable {M:Bool} {C:Int->Prop} {x t:Int} {D O:List Int}
end
end Go.Proofs

set_option linter.unusedSimpArgs false
set_option linter.unusedVariables false
namespace Go.Proofs
open Go Go.Eng
variable {rows wide c rank:Nat} {T0:Mat} {M:Nat->List Int}
end Go.Proofs

set_option linter.unusedSimpArgs false
set_option linter.unusedVariables false
namespace Go.Proofs
open Go Go.Eng
end Go.Proofs

set_option linter.unusedSimpArgs false
set_option linter.unusedVariables false
set_option maxRecDepth 100000
namespace Go.Proofs
open Go Go.Eng

end Go.Proofs

set_option linter.unusedSimpArgs false
set_option linter.unusedVariables false
namespace Go.Proofs
open Go Go.Eng
variable {k total len e e':Int} {n i:Nat} {I I':Nat->Int} {L L':Nat->Nat}
end Go.Proofs

set_option linter.unusedSimpArgs false
set_option linter.unusedVariables false
namespace Go.Proofs
open Go Go.Eng
set_option maxRecDepth 100000
end Go.Proofs

set_option linter.unusedSimpArgs false
set_option linter.unusedVariables false
namespace Go.Proofs
open Go Go.Eng
def byF (r:F) (y:Nat->F):Nat->F:=fun l=>(if l = 0 then 0 else y (l - 1)) ^^^ qg r (y l)
theorem qj3 {y:Nat->F} {x:F}:q7 1 y x = y 0:=by
 show (0:F) ^^^ qg (y 0) (qaB x 0) = y 0
 rw [qam,show qaB x 0 = 1 from rfl,qaR]
theorem qu9 {r x:F} {y:Nat->F}:∀ n,q7 (n + 1) (byF r y) x = qg (x ^^^ r) (q7 n y x) ^^^ qg (qg r (y n)) (qaB x n)
 | 0=>by rw [qj3,byF,if_pos rfl,qam,show q7 0 y x = 0 from rfl,qz,qam,show qaB x 0 = 1 from rfl,qaR]
 | n + 1=>by
  have ih:=qu9 (r:=r) (x:=x) (y:=y) n
  have h1:q7 (n + 2) (byF r y) x = q7 (n + 1) (byF r y) x ^^^ qg (byF r y (n + 1)) (qaB x (n + 1)):=rfl
  have h2:q7 (n + 1) y x = q7 n y x ^^^ qg (y n) (qaB x n):=rfl
  rw [h1,ih,h2,byF,if_neg (by omega),Nat.add_sub_cancel,qhz,qbY (x:=y n)]
  have h3:qg (x ^^^ r) (qg (y n) (qaB x n)) = qg (y n) (qaB x (n + 1)) ^^^ qg (qg r (y n)) (qaB x n):=by
   rw [qbY,qaB]
   congr 1
   ·rw [<- qK,qZ (x:=x),qK]
    try rw [qZ (x:=x)]
   ·rw [qK]
  rw [h3]
  generalize qg (x ^^^ r) (q7 n y x) = a
  generalize qg (qg r (y n)) (qaB x n) = b
  generalize qg (y n) (qaB x (n + 1)) = c
  generalize qg (qg r (y (n + 1))) (qaB x (n + 1)) = d
  rw [BitVec.xor_assoc,BitVec.xor_assoc,BitVec.xor_assoc]
  congr 1
  rw [<- BitVec.xor_assoc,<- BitVec.xor_assoc,BitVec.xor_comm b c]
theorem qq6 {r x:F} {y:Nat->F} {n:Nat} (h:y n = 0):q7 (n + 1) (byF r y) x = qg (x ^^^ r) (q7 n y x):=by
 rw [qu9,h,qz,q9,qac]
theorem qrx {y:Nat->F} {x:F} {n:Nat} (h:∀ l,n <= l->y l = 0):∀ m,q7 (n + m) y x = q7 n y x
 | 0=>rfl
 | m + 1=>by
  show q7 (n + m) y x ^^^ qg (y (n + m)) (qaB x (n + m)) = _
  rw [qrx h m,h _ (by omega),q9,qac]
theorem qnw {y z:Nat->F} {x:F} {n:Nat}:q7 n (fun l=>y l ^^^ z l) x = q7 n y x ^^^ q7 n z x:=by
 simp only [q7]
 rw [<- qfS]
 exact qk fun j _=>qbY
theorem qvl {y:Nat->F} {x c:F} {n:Nat}:q7 n (fun l=>qg c (y l)) x = qg c (q7 n y x):=by
 simp only [q7]
 rw [<- qcU]
 exact qk fun j _=>qK
def ddF (xs ys:Nat->F):Nat->Nat->F
 | s,0=>ys s
 | s,j + 1=>qg (ddF xs ys (s + 1) j ^^^ ddF xs ys s j) (qe2 (xs (s + j + 1) ^^^ xs s))
theorem qgY {n:Nat} {xs ys:Nat->F} (hd:qbr n xs):∀ j s,s + j < n->∃ y:Nat->F,(∀ l,j < l->y l = 0)/\(∀ i,i <= j->q7 (j + 1) y (xs (s + i)) = ys (s + i))/\y j = ddF xs ys s j
 | 0,s,hs=>⟨fun l=>if l = 0 then ys s else 0,fun l hl=>if_neg (by omega),fun i hi=>by
   obtain rfl:i = 0:=by omega
   rw [qj3,if_pos rfl,Nat.add_zero],rfl⟩
 | j + 1,s,hs=>by
  obtain ⟨y1,a1,b1,c1⟩:=qgY (ys:=ys) hd j (s + 1) (by omega)
  obtain ⟨y0,a0,b0,c0⟩:=qgY (ys:=ys) hd j s (by omega)
  have hne:xs (s + j + 1) ^^^ xs s ≠ 0:=fun h=>by have:=hd _ _ (by omega) (by omega) (qeN.1 h); omega
  let w:F:=qe2 (xs (s + j + 1) ^^^ xs s)
  have hv:∀ x,q7 (j + 2) (fun l=>qg w (byF (xs s) y1 l ^^^ byF (xs (s + j + 1)) y0 l)) x = qg w (qg (x ^^^ xs s) (q7 (j + 1) y1 x) ^^^ qg (x ^^^ xs (s + j + 1)) (q7 (j + 1) y0 x)):=fun x=>by
   rw [qvl,qnw,qq6 (a1 _ (by omega)),qq6 (a0 _ (by omega))]
  refine ⟨fun l=>qg w (byF (xs s) y1 l ^^^ byF (xs (s + j + 1)) y0 l),fun l hl=>?_,fun i hi=>?_,?_⟩
  ·simp only [byF]
   rw [if_neg (by omega),if_neg (by omega),a1 l (by omega),a0 l (by omega),a1 (l - 1) (by omega),a0 (l - 1) (by omega),qz,qz,qax,qz]
  ·rw [hv]
   have hw:∀ z,qg w (qg (xs (s + j + 1) ^^^ xs s) z) = z:=fun z=>by
    rw [<- qK,qZ (x:=w),qhY hne,qhQ]
   by_cases h0:i = 0
   ·subst h0
    have hb0:=b0 0 (by omega)
    simp only [Nat.add_zero] at hb0
    rw [Nat.add_zero,qax,q9,qam,hb0,BitVec.xor_comm,hw]
   ·by_cases h1:i = j + 1
    ·subst h1
     have:=b1 j (Nat.le_refl _)
     rw [show s + 1 + j = s + (j + 1) by omega] at this
     rw [this,<- Nat.add_assoc,qax,q9,qac,hw]
    ·have h2:=b1 (i - 1) (by omega)
     rw [show s + 1 + (i - 1) = s + i by omega] at h2
     rw [h2,b0 i (by omega),<- qbY,qn4,qax,qam,BitVec.xor_comm,hw]
  ·simp only [byF]
   rw [if_neg (by omega),if_neg (by omega),a1 (j + 1) (by omega),a0 (j + 1) (by omega),qz,qz,qac,qac,Nat.add_sub_cancel,c1,c0,qZ]
   rfl
def qlw (xs:Nat->F):Nat->Nat->F
 | 0=>fun l=>if l = 0 then 1 else 0
 | m + 1=>byF (xs m) (qlw xs m)
theorem qra {xs:Nat->F}:∀ m,(∀ l,m < l->qlw xs m l = 0)/\qlw xs m m = 1/\∀ x,q7 (m + 1) (qlw xs m) x = qcI (fun u=>x ^^^ xs u) m
 | 0=>⟨fun l hl=>if_neg (by omega),rfl,fun x=>by rw [qj3]; rfl⟩
 | m + 1=>by
  obtain ⟨h1,h2,h3⟩:=qra (xs:=xs) m
  refine ⟨fun l hl=>?_,?_,fun x=>?_⟩
  ·simp only [qlw,byF]
   rw [if_neg (by omega),h1 (l - 1) (by omega),h1 l (by omega),qz,qac]
  ·simp only [qlw,byF]
   rw [if_neg (by omega),Nat.add_sub_cancel,h2,h1 (m + 1) (by omega),qz,qac]
  ·rw [qlw,qq6 (h1 _ (by omega)),h3,qcI,qZ]
def qyJ (xs ys:Nat->F) (x:F) (m:Nat):F:=qv (fun t=>qg (ddF xs ys 0 t) (qcI (fun u=>x ^^^ xs u) t)) m
theorem qrO {n:Nat} {xs ys:Nat->F} (hd:qbr n xs):∀ m,m < n->∃ y:Nat->F,(∀ l,m < l->y l = 0)/\(∀ i,i <= m->q7 (m + 1) y (xs i) = ys i)/\∀ x,q7 (m + 1) y x = qyJ xs ys x (m + 1)
 | 0,hm=>by
  obtain ⟨y,a,b,c⟩:=qgY (ys:=ys) hd 0 0 (by omega)
  refine ⟨y,a,fun i hi=>by have:=b i hi; simp only [Nat.zero_add] at this ⊢; exact this,fun x=>?_⟩
  rw [qj3,c]
  show ys 0 = (0:F) ^^^ qg (ys 0) 1
  rw [qam,qaR]
 | m + 1,hm=>by
  obtain ⟨y0,a0,b0,c0⟩:=qrO (ys:=ys) hd m (by omega)
  obtain ⟨y,a,b,c⟩:=qgY (ys:=ys) hd (m + 1) 0 (by omega)
  obtain ⟨p1,p2,p3⟩:=qra (xs:=xs) (m + 1)
  refine ⟨y,a,fun i hi=>by have:=b i hi; rwa [Nat.zero_add] at this,fun x=>?_⟩
  let R:Nat->F:=fun l=>(y l ^^^ y0 l) ^^^ qg (ddF xs ys 0 (m + 1)) (qlw xs (m + 1) l)
  have hRv:∀ x,q7 (m + 2) R x = (q7 (m + 2) y x ^^^ q7 (m + 1) y0 x) ^^^ qg (ddF xs ys 0 (m + 1)) (qcI (fun u=>x ^^^ xs u) (m + 1)):=fun x=>by
   rw [<- p3,<- qvl,<- qrx (y:=y0) (n:=m + 1) (fun l hl=>a0 l (by omega)) 1,<- qnw,<- qnw]
  have hRt:R (m + 1) = 0:=by
   simp only [R]
   rw [c,a0 (m + 1) (by omega),p2,qaR,qac,qax]
  have hRe:∀ x,q7 (m + 1) R x = q7 (m + 2) R x:=fun x=>by
   show _ = q7 (m + 1) R x ^^^ qg (R (m + 1)) (qaB x (m + 1))
   rw [hRt,q9,qac]
  have h0:=qj2 (n:=m + 1) (y:=R) (xs:=xs) (fun i j hi hj=>hd i j (by omega) (by omega)) fun i hi=>by
   rw [hRe,hRv,b0 i (by omega)]
   have:=b i (by omega)
   rw [Nat.zero_add] at this
   rw [this,qax,qam,qpt (k:=i) hi qax,qz]
  have hz:q7 (m + 1) R x = 0:=qc2 fun l hl=>by rw [h0 l hl,q9]
  rw [hRe,hRv] at hz
  have h1:qyJ xs ys x (m + 2) = qyJ xs ys x (m + 1) ^^^ qg (ddF xs ys 0 (m + 1)) (qcI (fun u=>x ^^^ xs u) (m + 1)):=rfl
  rw [h1,<- c0 x]
  have h2:=qeN.1 hz
  rw [<- h2,<- BitVec.xor_assoc,BitVec.xor_comm,<- BitVec.xor_assoc,qax,qam]
end Go.Proofs

set_option linter.unusedSimpArgs false
set_option linter.unusedVariables false
namespace Go.Proofs
open Go Go.Eng
theorem qfB {f:Nat->List Int} {w:List Int} {l:Nat} (hw:qx w):∀ k,(∀ j,j < k->(f j).length = l/\qx (f j))->(qcr f w l k).length = l/\qx (qcr f w l k)/\∀ c,c < l->toF ((qcr f w l k).getD c 0) = qv (fun m=>qg (toF (w.getD m 0)) (toF ((f m).getD c 0))) k
 | 0,_=>⟨by simp [qcr],fun x hx=>by rw [qcr] at hx; rw [List.eq_of_mem_replicate hx]; exact ⟨by omega,by omega⟩,fun c hc=>by
   rw [qcr,List.getD_eq_getElem?_getD,List.getElem?_replicate,if_pos hc]; rfl⟩
 | k + 1,h=>by
  obtain ⟨h1,h2,h3⟩:=qfB hw k fun j hj=>h j (by omega)
  obtain ⟨f1,f2⟩:=h k (by omega)
  have hsl:seg (f k) 0 l = f k:=by rw [<- f1]; simp [seg]
  rw [qcr,hsl]
  refine ⟨by rw [qcy,h1],qdV h2,fun c hc=>?_⟩
  rw [List.getD_eq_getElem?_getD,qb0,List.getElem?_eq_getElem (by omega),Option.map_some,Option.getD_some,if_pos ⟨by omega,by omega⟩,Nat.sub_zero,qj5,qh9 (qaA hw _) (qaA f2 _),qv,<- h3 c hc,List.getD_eq_getElem?_getD (l:=qcr f w l k),List.getElem?_eq_getElem (by omega),Option.getD_some]
theorem q0t {f g:Nat->List Int} {w v:List Int} {l k:Nat} (hw:qx w) (hv:qx v) (hf:∀ j,j < k->(f j).length = l/\qx (f j)) (hg:∀ j,j < k->(g j).length = l/\qx (g j))
  (h:∀ c,c < l->qv (fun m=>qg (toF (w.getD m 0)) (toF ((f m).getD c 0))) k = qv (fun m=>qg (toF (v.getD m 0)) (toF ((g m).getD c 0))) k):qcr f w l k = qcr g v l k:=by
 obtain ⟨a1,a2,a3⟩:=qfB hw k hf
 obtain ⟨b1,b2,b3⟩:=qfB hv k hg
 refine qsc (by omega) fun c hc=>qqm (qaA a2 c) (qaA b2 c) ?_
 rw [a3 c (by omega),b3 c (by omega),h c (by omega)]
theorem q05 {rs:List Int} {x:Int} {j:Nat} (hj:j < rs.length):toF ((qlc rs x).getD j 0) = qf8 rs.length (fun m=>toF (rs.getD m 0)) (toF x) j:=by
 unfold qlc
 rw [List.getD_eq_getElem?_getD,List.getElem?_map,List.getElem?_range hj,Option.map_some,Option.getD_some,qiS]
theorem qkp {xs:List Int} {x:Int}:qx (qlc xs x):=fun y hy=>by
 obtain ⟨m,_,rfl⟩:=List.mem_map.1 hy
 exact qjl
variable {k total:Nat} {rs:List Int}
theorem ql6 (hc:qch k total rs) {j:Nat} (hj:j < k):toF (rs.getD j 0) = xsF (rs.getD j 0).toNat:=by
 have h1:=hc.1
 have h2:=hc.2.2 (rs.getD j 0) (quw (by omega))
 unfold xsF
 rw [Int.toNat_of_nonneg h2.1]
theorem qmH (hc:qch k total rs) (ht:total <= 255):qbr k fun m=>toF (rs.getD m 0):=fun i j hi hj he=>by
 refine qif hc ht i j hi hj ?_
 simp only [ql6 hc hi,ql6 hc hj] at he
 exact he
theorem qrf {xs v:Nat->F} (h1:1 <= k) (hd:qbr k xs):∃ y:Nat->F,(∀ i,i < k->q7 k y (xs i) = v i)/\∀ x,q7 k y x = qv (fun j=>qg (qf8 k xs x j) (v j)) k:=by
 obtain ⟨y,_,hy,_⟩:=qrO (ys:=v) hd (k - 1) (by omega)
 rw [show k - 1 + 1 = k by omega] at hy
 refine ⟨y,fun i hi=>hy i (by omega),fun x=>?_⟩
 rw [qjF hd]
 exact qk fun j hj=>by rw [hy j (by omega)]
theorem q1Q (hc:qch k total rs) (h1:1 <= k) (hk:k <= total) (ht:total <= 255) (v:Nat->F) {i:Nat} (hi:i < k) :
    qv (fun j=>qg (q6 k (qmZ total k rs) i j) (v j)) k = qv (fun j=>qg (qf8 k (fun m=>toF (rs.getD m 0)) (xsF i) j) (v j)) k:=by
  obtain ⟨y,hy,hL⟩:=qrf (v:=v) h1 (qmH hc ht)
  obtain ⟨g1,g2,_,g4⟩:=qfn h1 hk ht
  have hlen:=qnp hc g1
  have hr:=q2F hc h1 hk ht
  obtain ⟨t2,he⟩:=qmg hlen (qlP g2)
  rw [hr] at he
  obtain ⟨m1,_⟩:=qqB he
  have hS:∀ j,j < k->∀ m,m < k->q6 k (qga (qcQ k total) k rs) j m = qf8 k xsF (toF (rs.getD j 0)) m:=fun j hj m hm=>by
    have hrj:=hc.2.2 (rs.getD j 0) (quw (by rw [hc.1]; exact hj))
    unfold q6
    rw [qqx g1 hc.2.2 (by rw [hc.1]; exact hj) hm,ql6 hc hj,<- g4 (rs.getD j 0).toNat m (by omega) hm]
    rfl
  have hx:qbr k xsF:=qeO (by omega)
  rw [<- hL]
  calc qv (fun j=>qg (q6 k (qmZ total k rs) i j) (v j)) k
      = qv (fun j=>qv (fun m=>qg (qg (q6 k (qmZ total k rs) i j) (q6 k (qga (qcQ k total) k rs) j m)) (q7 k y (xsF m))) k) k:=by
        refine qk fun j hj=>?_
        rw [<- hy j hj,qjF hx (x:=toF (rs.getD j 0)),<- qcU]
        exact qk fun m hm=>by rw [hS j hj m hm,qK]
    _ = qv (fun m=>qg (del m i) (q7 k y (xsF m))) k:=by
        rw [qfq]
        refine qk fun m hm=>?_
        rw [qed,qsH]
        congr 1
        exact m1 i m hi hm
    _ = q7 k y (xsF i):=qmX (f:=fun m=>q7 k y (xsF m)) hi
theorem qw9 {m:List Int} {i j:Nat} (hj:j < k):toF ((seg m (i * k) k).getD j 0) = q6 k m i j:=by
 unfold q6 seg
 rw [List.getD_eq_getElem?_getD,List.getElem?_take,if_pos hj,List.getElem?_drop,List.getD_eq_getElem?_getD]
theorem qzS (hc:qch k total rs) (h1:1 <= k) (hk:k <= total) (ht:total <= 255):(qmZ total k rs).length = k * k/\qx (qmZ total k rs):=by
 obtain ⟨g1,g2,_,_⟩:=qfn h1 hk ht
 obtain ⟨t2,_⟩:=qmg (qnp hc g1) (qlP g2)
 exact ⟨t2.lb,t2.bb⟩
theorem qve {l:List Int} {o n:Nat} (h:qx l):qx (seg l o n):=fun x hx=>h x (List.mem_of_mem_drop (List.mem_of_mem_take hx))
theorem q5X (hc:qch k total rs) (h1:1 <= k) (hk:k <= total) (ht:total <= 255) {f:Nat->List Int} {l i:Nat} (hf:∀ j,j < k->(f j).length = l/\qx (f j)) (hi:i < k) :
  qcr f (seg (qmZ total k rs) (i * k) k) l k = qcr f (qlc rs (i:Int)) l k:=by
 refine q0t (qve (qzS hc h1 hk ht).2) qkp hf hf fun c hcl=>?_
 rw [qk fun m hm=>by rw [qw9 hm],q1Q hc h1 hk ht _ hi]
 exact qk fun m hm=>by rw [q05 (by rw [hc.1]; exact hm),hc.1]; rfl
theorem q3s (hc:qch k total rs) (h1:1 <= k) (hk:k <= total) (ht:total <= 255) {f:Nat->List Int} {l r:Nat} (hf:∀ j,j < k->(f j).length = l/\qx (f j)) (hr:r < total) {g:Nat->List Int} (hg:∀ i,i < k->g i = qcr f (qlc rs (i:Int)) l k) :
  qcr g (seg (qcQ k total) (r * k) k) l k = qcr f (qlc rs (r:Int)) l k:=by
 obtain ⟨g1,g2,_,g4⟩:=qfn h1 hk ht
 have hgf:∀ i,i < k->(g i).length = l/\qx (g i):=fun i hi=>by
  obtain ⟨a,b,_⟩:=qfB (qkp (xs:=rs) (x:=(i:Int))) k hf
  rw [hg i hi]; exact ⟨a,b⟩
 refine q0t (qve g2) qkp hgf hf fun c hcl=>?_
 obtain ⟨y,hy,hL⟩:=qrf (v:=fun j=>toF ((f j).getD c 0)) h1 (qmH hc ht)
 have hx:qbr k xsF:=qeO (by omega)
 have hv:∀ x:Int,qv (fun m=>qg (toF ((qlc rs x).getD m 0)) (toF ((f m).getD c 0))) k = q7 k y (toF x):=fun x=>by
  rw [hL]
  exact qk fun m hm=>by rw [q05 (by rw [hc.1]; exact hm),hc.1]
 rw [hv,show toF ((r:Nat):Int) = xsF r from rfl,qjF hx]
 refine qk fun m hm=>?_
 rw [qw9 hm,g4 r m hr hm,hg m hm,(qfB qkp k hf).2.2 c hcl,hv]
 rfl
end Go.Proofs

set_option linter.unusedSimpArgs false
set_option linter.unusedVariables false
namespace Go.Proofs
open Go Go.Eng
set_option maxRecDepth 100000
end Go.Proofs

set_option linter.unusedSimpArgs false
set_option linter.unusedVariables false
namespace Go.Proofs
open Go Go.Eng
set_option maxRecDepth 100000
end Go.Proofs

set_option linter.unusedSimpArgs false
set_option linter.unusedVariables false
set_option maxRecDepth 100000
namespace Go.Proofs
open Go Go.Eng

end Go.Proofs

set_option linter.unusedSimpArgs false
set_option linter.unusedVariables false
namespace Go.Proofs
open Go Go.Eng
set_option maxRecDepth 100000
structure PcIn (h:Hp) (D:qe) (k total n:Int):Prop where
 k1:1 <= k
 k2:k <= total
 k3:total <= 255
 kn:k <= n
 sol:q6X h D k total n
 idx:∀ j,j < n.toNat->0 <= pcI D j/\pcI D j < total
 len:∀ j,j < n.toNat->pcN h D j = pcN h D 0
 fs:∀ j,j < n.toNat->(pcD h D j).length = pcN h D 0/\qx (pcD h D j)
variable {h:Hp} {D:qe} {k total n:Int}
theorem PcIn.f (p:PcIn h D k total n):∀ j,j < k.toNat->(pcD h D j).length = pcN h D 0/\qx (pcD h D j):=fun j hj=>p.fs j (by have:=p.kn; omega)
theorem PcIn.cols (p:PcIn h D k total n) {hc:Hp} {C:qe} (ht:q6n hc (tvs C) k.toNat (qzm h D total.toNat k.toNat)) :
  (∀ j,j < k.toNat->rdB hc (tvs C j)/\(qkK hc C j).length = (qkK hc C 0).length)/\(qkK hc C 0).length = pcN h D 0/\∀ r:Int,0 <= r->r < total->qcr (qkK hc C) (seg (qcQ k.toNat total.toNat) (r.toNat * k.toNat) k.toNat) (qkK hc C 0).length k.toNat = q7U h D k.toNat r:=by
 have h1:=p.k1
 have h2:=p.k2
 have h3:=p.k3
 have hch:=p.sol.2.2.2.2.1
 have hcol:∀ j,j < k.toNat->rdB hc (tvs C j)/\qkK hc C j = qzm h D total.toNat k.toNat j:=fun j hj=>by
  obtain ⟨d,hr,hd,hB⟩:=q7h ht hj
  exact ⟨⟨d,hr,hB⟩,by rw [qkK,qiZ hr,hd]⟩
 have hl:∀ j,j < k.toNat->(qkK hc C j).length = pcN h D 0:=fun j hj=>by
  rw [(hcol j hj).2,qzm,quX]
 refine ⟨fun j hj=>⟨(hcol j hj).1,by rw [hl j hj,hl 0 (by omega)]⟩,hl 0 (by omega),fun r r0 r1=>?_⟩
 rw [hl 0 (by omega),q3s hch (by omega) (by omega) (by omega) (f:=pcD h D) p.f (by omega) (r:=r.toNat) (fun i hi=>by
  rw [(hcol i hi).2,qzm,q5X hch (by omega) (by omega) (by omega) p.f hi]),Int.toNat_of_nonneg r0]
 rfl
theorem PcIn.value (p:PcIn h D k total n):(∀ j:Nat,(j:Int) < k->0 <= pcI D j/\pcI D j < 256)/\(qgR D k.toNat).Nodup/\pcN h D 0 <= 9000/\(∀ j:Nat,(j:Int) < k->pcN h D j = pcN h D 0)/\qql h D k.toNat:=by
 have h1:=p.k1
 have h2:=p.k2
 have h3:=p.k3
 have h4:=p.kn
 have h5:=p.sol.2.2.2.2.2.1
 refine ⟨fun j hj=>?_,p.sol.2.2.2.2.1.2.1,by omega,fun j hj=>p.len j (by omega),fun j hj=>p.sol.2.2.2.1 j (by omega)⟩
 have:=p.idx j (by omega)
 omega
end Go.Proofs

set_option linter.unusedSimpArgs false
set_option linter.unusedVariables false
namespace Go.Proofs
open Go Go.Eng
set_option maxRecDepth 100000
variable {h h':Hp} {D D':qe} {k total n index len e e':Int} {b b':Bool}
end Go.Proofs

set_option linter.unusedSimpArgs false
set_option linter.unusedVariables false
namespace Go.Proofs
open Go Go.Eng
end Go.Proofs

set_option linter.unusedSimpArgs false
set_option linter.unusedVariables false
namespace Go.Proofs
open Go Go.Eng
theorem q1s {k n t s l i:Int} {D:List (List Int)} {m:List Int} (h:qcc k n t s l D i m = 0):qE k n t s l = true/\0 <= i/\i < t/\(m.length:Int) = qek k s/\sha (qbW i ++ m) = D.getD i.toNat []:=by
 unfold qcc at h
 by_cases h1:qE k n t s l = false
 ·rw [if_pos h1] at h; omega
 rw [if_neg h1] at h
 by_cases h2:i < 0∨t <= i
 ·rw [if_pos h2] at h; omega
 rw [if_neg h2] at h
 by_cases h3:(m.length:Int) ≠ qek k s
 ·rw [if_pos h3] at h; omega
 rw [if_neg h3] at h
 by_cases h4:sha (qbW i ++ m) ≠ D.getD i.toNat []
 ·rw [if_pos h4] at h; omega
 exact ⟨by simpa using h1,by omega,by omega,by omega,by simpa using h4⟩
theorem q2b {k n t s l:Int}:qE k n t s l = true↔1 <= k/\k <= n/\n <= t/\t <= 255/\0 <= s/\s <= 8192/\l = t:=by
 simp [qE,qbi,and_assoc]
theorem q4t {k s:Int} (hk:1 <= k) (hs:0 <= s):qek k s = plI k s:=by
 obtain ⟨k,rfl⟩:=Int.eq_ofNat_of_zero_le (show 0 <= k by omega)
 obtain ⟨s,rfl⟩:=Int.eq_ofNat_of_zero_le hs
 have e:((s:Int) + (k:Int) - 1) = ((s + k - 1:Nat):Int):=by omega
 unfold qek plI qC
 rw [e,Int.ofNat_tdiv]
 simp
end Go.Proofs

set_option linter.unusedSimpArgs false
set_option linter.unusedVariables false
set_option maxRecDepth 100000
namespace Go.Proofs
open Go Go.Eng

end Go.Proofs

set_option linter.unusedSimpArgs false
set_option linter.unusedVariables false
set_option maxRecDepth 100000
namespace Go.Proofs
open Go Go.Eng

end Go.Proofs

set_option linter.unusedSimpArgs false
set_option linter.unusedVariables false
namespace Go.Proofs
open Go Go.Eng
set_option maxRecDepth 100000
end Go.Proofs

set_option linter.unusedSimpArgs false
set_option linter.unusedVariables false
namespace Go.Proofs
open Go Go.Eng
set_option maxRecDepth 20000
end Go.Proofs

set_option linter.unusedSimpArgs false
set_option linter.unusedVariables false
namespace Go.Eng
open Go Go.ChangeShapes Go.WideShapes Go.ChangeAt Go.RowKit

structure Grew (W w':World):Prop where
 os:w'.os = W.os
 out:w'.output = W.output
 blk:∀ (b:Nat) (o:Obj),W.heap[b]? = some o->w'.heap[b]? = some o

theorem Grew.block {W w':World} (h:Grew W w') {i:Nat} (hi:i < W.heap.size):w'.heap[i]? = W.heap[i]?:=by
 rw [Array.getElem?_eq_getElem hi]; exact h.blk i _ (Array.getElem?_eq_getElem hi)

theorem Grew.kept {W w':World} (h:Grew W w') (may:MemPlace->Prop):W.keptBut w' may:=by
 refine ⟨h.os,h.out,fun i hi=>?_⟩
 rw [h.block hi,Array.getElem?_eq_getElem hi]
 cases W.heap[i] <;> simp

theorem Grew.trodAll {H:Type} {enc:TypeId × Value->H} {P:Program} {W W':World} (hg:Grew W W') (hl:laidOutB P = true) {sp:Nat->Bool}:∀ {ts:List TypeId} {vs:List Value} {ds:List (DataW H)} {ps:List MemPlace},
  (∀ t ∈ ts,P.readableRec t = true/\t < P.types.size)->DataW.TrodAll enc P W 0 (fun _=>true) true ts vs ds ps->(∀ p ∈ ps,p.block < W.heap.size)->(∀ p ∈ ps,sp p.block = true) ->
  DataW.TrodAll enc P W' 0 sp true ts vs ds ps
 | [],[],[],_,_,h,_,_=>h
 | _ :: _,_ :: _,_ :: _,_,hT,⟨p,q,h1,h2,e⟩,hlt,hs=>by
  subst e
  refine ⟨p,q,?_,Grew.trodAll hg hl (fun t ht=>hT t (List.mem_cons_of_mem _ ht)) h2 (fun x hx=>hlt x (List.mem_append_right _ hx)) (fun x hx=>hs x (List.mem_append_right _ hx)),rfl⟩
  have hr:=hT _ (List.mem_cons_self ..)
  refine WideElems.Trod_stays hl hr.1 hr.2 h1 (fun x hx=>?_) (fun x hx=>hs x (List.mem_append_left _ hx))
  have hb:=hg.block (hlt x (List.mem_append_left _ hx))
  cases x with
  | cell b o=>exact World.cell?_of_block (w:=W) hb
  | map b=>exact hb

theorem q1I {P:Program} {c:Ctr} (hok:c.ok P) (hheap:c.heap = []) (halts:∀ al ∈ c.alts,al.ret = .one (.vbool (.bl true))) {ρ:Env} (hg:ρ.good) (W:World)
  (hro:∀ x ∈ c.ro,x.roden ρ (fun b=>W.heap[b]?)) (hpre:c.pre ρ) :
  Calls P c.fn (c.args.map (SV.den ρ)).toArray W fun e W'=>e = .returned (.bool true)/\Grew W W':=by
 have h:=hok.2 ρ W ⟨fun b=>W.heap[b]?,W.os,W.output⟩ Hp.emp hg (Hp.disj_emp _)
  ⟨fun b o hb=>by simpa [Hp.union,Hp.emp] using hb,rfl,rfl⟩ (by rw [hheap]; trivial) hro hpre
 refine h.mono fun e w' hq=>?_
 obtain ⟨ai,al,ρ',hal,_,_,rfl,_,hO,_,_,hsub,hwi⟩:=hq
 refine ⟨by rw [halts al (List.mem_of_getElem? hal)]; rfl,⟨hwi.1,hwi.2,fun b o hb=>hsub b o ?_⟩⟩
 simp [Hp.union,hb]

theorem q36 {H:Type} {enc:TypeId × Value->H} {P:Program} {f:Func} {s:ChangeSpec} {W W':World} {args:Array Value} {ds gs:List (DataW H)} {before:List MemPlace} {bt:TypeId}
  (hl:laidOutB P = true) (hT:∀ t ∈ f.params.toList,P.readableRec t = true/\t < P.types.size) (hvars:s.vars = []) (hrt:f.resultTypes = #[bt]) (hbt:P.underlying bt = some .bool)
  (hfn:∀ ds':List (DataW H),ds'.length = f.params.size->s.fn H ds' = { results:=[.lit (.bool true)],args:=ds' })
  (hW:DataW.Whole enc P f.params.toList s.vars false W args.toList ds gs before) (hg:Grew W W'):s.post enc P f false true false false W args (.bool true) W':=by
 have hlt:=hW.lt
 have hW0:=hW
 obtain ⟨p,q,hA,hV,hpq,hz,hn⟩:=hW
 rw [hvars] at hV
 obtain ⟨rfl,rfl⟩:=trodVars_none hV
 have hlen:ds.length = f.params.size:=by
  have:∀ {ts:List TypeId} {vs:List Value} {ds:List (DataW H)} {ps:List MemPlace},DataW.TrodAll enc P W 0 (fun _=>true) true ts vs ds ps->ds.length = ts.length:=by
   intro ts
   induction ts with
   | nil=>intro vs ds ps h; cases vs <;> cases ds <;> simp_all [DataW.TrodAll]
   | cons t ts ih =>
    intro vs ds ps h
    cases vs <;> cases ds <;> simp_all [DataW.TrodAll]
    obtain ⟨p,q,_,h2,_⟩:=h
    exact ih h2
  simpa using this hA
 have hlt':∀ x ∈ p,x.block < W.heap.size:=fun x hx=>hlt x (by rw [hpq]; exact List.mem_append_left _ hx)
 refine ⟨ds,[],before,[],p,[],hW0,?_,?_,?_,hg.kept _,fun h=>by cases h⟩
 ·rw [List.append_nil,hfn ds hlen,hrt]
  exact ⟨[],[],⟨1,by simp [DataW.trod,hbt,Value.cells]⟩,rfl,rfl⟩
 ·rw [List.append_nil,hfn ds hlen]
  exact hg.trodAll hl hT hA hlt' (fun x hx=>by simpa using hlt' x hx)
 ·rw [List.append_nil,hfn ds hlen,hvars]
  rfl

theorem q4k {H:Type} {enc:TypeId × Value->H} {P:Program} {f:Func} {s:ChangeSpec} {c:Ctr} {W:World} {args:Array Value} {ds gs:List (DataW H)} {before:List MemPlace} {bt:TypeId} {ρ:Env}
  (hok:c.ok P) (hheap:c.heap = []) (halts:∀ al ∈ c.alts,al.ret = .one (.vbool (.bl true)))
  (hl:laidOutB P = true) (hT:∀ t ∈ f.params.toList,P.readableRec t = true/\t < P.types.size) (hvars:s.vars = []) (hrt:f.resultTypes = #[bt]) (hbt:P.underlying bt = some .bool)
  (hfn:∀ ds':List (DataW H),ds'.length = f.params.size->s.fn H ds' = { results:=[.lit (.bool true)],args:=ds' })
  (hW:DataW.Whole enc P f.params.toList s.vars false W args.toList ds gs before)
  (hg:ρ.good) (hargs:args = (c.args.map (SV.den ρ)).toArray) (hro:∀ x ∈ c.ro,x.roden ρ (fun b=>W.heap[b]?)) (hpre:c.pre ρ) :
  Calls P c.fn args W fun e W'=>∃ v,e = .returned v/\s.post enc P f false true false false W args v W':=by
 rw [hargs]
 refine (q1I hok hheap halts hg W hro hpre).mono fun e W' ⟨he,hgr⟩=>⟨_,he,?_⟩
 rw [<- hargs]
 exact q36 hl hT hvars hrt hbt hfn hW hgr
end Go.Eng

set_option linter.unusedSimpArgs false
set_option linter.unusedVariables false
namespace Go.Eng
open Go Go.ChangeShapes Go.WideShapes Go.ChangeAt Go.RowKit

def qoB (P:Program) (f:TypeId->Option (List CK)):List Field->Nat->Option (List CK)
 | [],_=>some []
 | x :: fs,off =>
  if Nat.beq x.offset off then
   match f x.type with
   | some p=>if Nat.beq p.length (P.cellsOf x.type) then (qoB P f fs (off + p.length)).map (p ++ ·) else none
   | none=>none
  else none
def qkW (p:List CK):Nat->List CK
 | 0=>[]
 | n + 1=>p ++ qkW p n
def qi5 (P:Program):Nat->TypeId->Option (List CK)
 | 0,_=>none
 | n + 1,t =>
  match P.underlying t with
  | some (.int k)=>some [.int k]
  | some .bool=>some [.bool]
  | some .string=>some [.any]
  | some (.slice _)=>some [.any]
  | some (.pointer _)=>some [.any]
  | some (.struct fs)=>match qoB P (qi5 P n) fs.toList 0 with
   | some p=>if Nat.beq p.length (P.cellsOf t) then some p else none
   | none=>none
  | some (.array m e)=>match qi5 P n e with
   | some p=>if Nat.beq p.length (P.cellsOf e) && Nat.beq (P.cellsOf t) (m * P.cellsOf e) then some (qkW p m) else none
   | none=>none
  | _=>none

theorem qiU {p q:List CK} {cs:List Value} (h1:qs p (cs.take p.length)) (h2:qs q (cs.drop p.length)):qs (p ++ q) cs:=by
 obtain ⟨a1,a2⟩:=h1
 obtain ⟨b1,b2⟩:=h2
 have hle:p.length <= cs.length:=by simp at a1; omega
 refine ⟨by simp at a1 b1 ⊢; omega,fun c k v hk hv=>?_⟩
 by_cases hc:c < p.length
 ·rw [List.getElem?_append_left hc] at hk
  exact a2 c k v hk (by rw [List.getElem?_take,if_pos hc]; exact hv)
 ·rw [List.getElem?_append_right (by omega)] at hk
  exact b2 (c - p.length) k v hk (by rw [List.getElem?_drop,show p.length + (c - p.length) = c by omega]; exact hv)

section
variable {H:Type} {enc:TypeId × Value->H} {P:Program} {w:World} {base:Nat} {spare:Nat->Bool} {held:Bool}

theorem qfD {v:Value} (h:v.oneCell' = true):qs [.any] [v]:=⟨rfl,fun c k v' hk hv=>by
 cases c with
 | zero=>simp at hk hv; subst hk; subst hv; exact h
 | succ c=>simp at hk⟩

theorem qph {f:TypeId->Option (List CK)} {cs:List Value} (hf:∀ t p,f t = some p->∀ cs',(∃ fuel x,DataW.trod enc P w base spare held fuel t cs' = some x)->qs p cs') :
  ∀ {fs:List Field} {off:Nat} {p:List CK},qoB P f fs off = some p->(∀ x ∈ fs,∃ fuel y,DataW.trod enc P w base spare held fuel x.type ((cs.drop x.offset).take (P.cellsOf x.type)) = some y)->off + p.length = cs.length->qs p (cs.drop off)
 | [],off,p,h,_,hl=>by
  simp only [qoB,Option.some.injEq] at h; subst h
  simp at hl
  refine ⟨by simp; omega,fun c k v hk=>by simp at hk⟩
 | x :: fs,off,p,h,ht,hl=>by
  simp only [qoB] at h
  split at h
  ·rename_i ho
   have ho:=Nat.eq_of_beq_eq_true ho
   split at h
   ·rename_i p1 hp1
    split at h
    ·rename_i hc
     have hc:=Nat.eq_of_beq_eq_true hc
     simp only [Option.map_eq_some_iff] at h
     obtain ⟨p2,hp2,rfl⟩:=h
     simp only [List.length_append] at hl
     have h1:=hf x.type p1 hp1 _ (ht x (List.mem_cons_self ..))
     rw [ho,<- hc] at h1
     have h2:=qph hf hp2 (fun y hy=>ht y (List.mem_cons_of_mem _ hy)) (by omega)
     exact qiU h1 (by rw [List.drop_drop]; exact h2)
    ·simp at h
   ·simp at h
  ·simp at h

theorem qm2 {p:List CK}:∀ {m:Nat} {cs:List Value},cs.length = m * p.length->(∀ i,i < m->qs p ((cs.drop (i * p.length)).take p.length))->qs (qkW p m) cs
 | 0,cs,hl,_=>by
  simp at hl; subst hl
  exact ⟨rfl,fun c k v hk=>by simp [qkW] at hk⟩
 | m + 1,cs,hl,h=>by
  simp only [qkW]
  refine qiU (by simpa using h 0 (by omega)) (qm2 (by rw [List.length_drop,hl,Nat.add_mul]; omega) fun i hi=>?_)
  rw [List.drop_drop,show p.length + i * p.length = (i + 1) * p.length by rw [Nat.add_mul]; omega]
  exact h (i + 1) (by omega)

theorem qlH:∀ (n:Nat) {t:TypeId} {pat:List CK},qi5 P n t = some pat->∀ cs,(∃ fuel x,DataW.trod enc P w base spare held fuel t cs = some x)->qs pat cs
 | 0,t,pat,h,_,_=>by simp [qi5] at h
 | n + 1,t,pat,h,cs,⟨fuel,x,hx⟩=>by
  simp only [qi5] at h
  split at h
  ·rename_i k hu
   simp only [Option.some.injEq] at h; subst h
   obtain ⟨z,rfl,_,_⟩:=DataW.trod_int hu hx
   refine ⟨rfl,fun c k' v hk hv=>?_⟩
   cases c with
   | zero=>simp at hk hv; subst hk; subst hv; simp [CK.fits]
   | succ c=>simp at hk
  ·rename_i hu
   simp only [Option.some.injEq] at h; subst h
   cases fuel with
   | zero=>simp [DataW.trod] at hx
   | succ m =>
    unfold DataW.trod at hx
    rw [hu] at hx
    split at hx <;> simp_all
    refine ⟨rfl,fun c k' v hk hv=>?_⟩
    cases c with
    | zero=>simp at hk hv; subst hk; subst hv; simp [CK.fits]
    | succ c=>simp at hk
  ·rename_i hu
   simp only [Option.some.injEq] at h; subst h
   cases fuel with
   | zero=>simp [DataW.trod] at hx
   | succ m =>
    unfold DataW.trod at hx
    rw [hu] at hx
    split at hx <;> simp_all
    exact qfD rfl
  ·rename_i e hu
   simp only [Option.some.injEq] at h; subst h
   rcases DataW.trod_slice hu hx with ⟨rfl,_⟩ | ⟨a,len,cap,elems,rest,m,_,rfl,_⟩
   ·exact qfD rfl
   ·exact qfD rfl
  ·rename_i e hu
   simp only [Option.some.injEq] at h; subst h
   cases fuel with
   | zero=>simp [DataW.trod] at hx
   | succ m =>
    unfold DataW.trod at hx
    rw [hu] at hx
    split at hx <;> simp_all
    all_goals exact qfD rfl
  ·rename_i fs hu
   split at h
   ·rename_i p hp
    split at h
    ·rename_i hc
     have hc:=Nat.eq_of_beq_eq_true hc
     simp only [Option.some.injEq] at h; subst h
     obtain ⟨xs,m,_,_,hl,hxl,hall⟩:=DataW.trod_struct hu hx
     have:=qph (cs:=cs) (f:=qi5 P n) (fun t p hp cs' hh=>qlH n hp cs' hh) hp (fun y hy=>by
      obtain ⟨i,hi⟩:=List.getElem?_of_mem hy
      have hi':fs[i]? = some y:=by simpa using hi
      have h1:=hall i y hi'
      have hlt:i < xs.length:=by
       rw [hxl]; exact (Array.getElem?_eq_some_iff.1 hi').1
      exact ⟨m,xs[i],by rw [h1]; simp [hlt]⟩) (by omega)
     simpa using this
    ·simp at h
   ·simp at h
  ·rename_i m e hu
   split at h
   ·rename_i p hp
    split at h
    ·rename_i hc
     simp only [Bool.and_eq_true] at hc
     have hc1:=Nat.eq_of_beq_eq_true hc.1
     have hc2:=Nat.eq_of_beq_eq_true hc.2
     simp only [Option.some.injEq] at h; subst h
     obtain ⟨xs,k,_,_,hl,hxl,hall⟩:=DataW.trod_array hu hx
     refine qm2 (by rw [hl,hc2,hc1]) fun i hi=>?_
     have h1:=hall i hi
     rw [<- hc1] at h1
     exact qlH n hp _ ⟨k,xs[i]'(by omega),by rw [h1]; simp [hxl,hi]⟩
    ·simp at h
   ·simp at h
  ·simp at h

theorem qoc {a:Addr} {n:Nat} {cs:List Value} (h:w.cells? base a n = some cs):cs.length = n/\∀ i,i < n->w.cell? (a.add i) = cs[i]?:=by
 unfold World.cells? at h
 split at h
 ·exact ⟨by simpa using mapM_some_length h,fun i hi=>by simpa using mapM_some_get h i i (by simp [hi])⟩
 ·simp at h

theorem qrv {t e:TypeId} {pat:List CK} {n:Nat} {v:Value} {d:DataW H} {ps:List MemPlace} (ht:P.underlying t = some (.slice e)) (hpat:qi5 P n e = some pat) (hce:P.cellsOf e = pat.length) (hpos:0 < pat.length)
  {fuel:Nat} (hsp:∀ b,spare b = true) (hf:DataW.trod enc P w base spare held fuel t [v] = some (d,ps)) :
  ∃ rows:List (List Value),Rd (fun b=>w.heap[b]?) pat v rows/\(∀ row ∈ rows,∃ fuel x,DataW.trod enc P w base spare held fuel e row = some x) /\
   ((d = .nil/\rows = [])∨∃ elems sp,d = .slice elems sp/\elems.length = rows.length/\∀ (i:Nat) (row:List Value),rows[i]? = some row->∃ fuel x,DataW.trod enc P w base spare held fuel e row = some x/\elems[i]? = some x.1):=by
 rcases DataW.trod_slice ht hf with ⟨h1,h2⟩ | ⟨a,len,cap,elems,rest,m,_,h1,h2,hb,hlc,hcm,hel,hall,hrest,_⟩
 ·simp at h1 h2
  exact ⟨[],.inl ⟨_,h1,rfl⟩,by simp,.inl ⟨h2.1,rfl⟩⟩
 ·simp at h1 h2
  subst h1
  have hrow:∀ i,i < len->∃ cs x,w.cells? base (a.add (i * P.cellsOf e)) (P.cellsOf e) = some cs/\DataW.trod enc P w base spare held m e cs = some x/\elems[i]? = some x:=fun i hi=>by
   have:=hall i hi
   rw [List.getElem?_eq_getElem (by omega)] at this
   obtain ⟨cs,g1,g2⟩:=Option.bind_eq_some_iff.1 this
   exact ⟨cs,_,g1,g2,List.getElem?_eq_getElem _⟩
  let rows:List (List Value):=(List.range len).map fun i=>((w.cells? base (a.add (i * P.cellsOf e)) (P.cellsOf e)).getD [])
  have hget:∀ i row,rows[i]? = some row->i < len/\w.cells? base (a.add (i * P.cellsOf e)) (P.cellsOf e) = some row:=fun i row hr=>by
   simp only [rows,List.getElem?_map,Option.map_eq_some_iff] at hr
   obtain ⟨j,hj,rfl⟩:=hr
   have hlt:i < len:=by
    have:=(List.getElem?_eq_some_iff.1 hj).1; simpa using this
   rw [List.getElem?_range hlt] at hj
   simp only [Option.some.injEq] at hj; subst hj
   obtain ⟨cs,x,g1,_,_⟩:=hrow i hlt
   exact ⟨hlt,by rw [g1]; rfl⟩
  have hrl:rows.length = len:=by simp [rows]
  have htr:∀ row ∈ rows,∃ fuel x,DataW.trod enc P w base spare held fuel e row = some x:=fun row hr=>by
   obtain ⟨i,hi⟩:=List.getElem?_of_mem hr
   obtain ⟨hlt,hc⟩:=hget i row hi
   obtain ⟨cs,x,g1,g2,_⟩:=hrow i hlt
   rw [hc] at g1
   simp only [Option.some.injEq] at g1; subst g1
   exact ⟨m,x,g2⟩
  refine ⟨rows,?_,htr,.inr ⟨_,_,h2.1,by simp [hel,hrl],fun i row hi=>?_⟩⟩
  rotate_left
  ·obtain ⟨hlt,hc⟩:=hget i row hi
   obtain ⟨cs,x,g1,g2,g3⟩:=hrow i hlt
   rw [hc] at g1
   simp only [Option.some.injEq] at g1; subst g1
   exact ⟨m,x,g2,by simp [g3]⟩
  by_cases hcap:cap = 0
  ·have hl0:len = 0:=by omega
   have:rows = []:=by apply List.eq_nil_of_length_eq_zero; omega
   exact .inl ⟨some a,by rw [hl0,hcap],this⟩
  have hfirst:∃ cs,w.cells? base (a.add 0) (P.cellsOf e) = some cs:=by
   by_cases hl:0 < len
   ·obtain ⟨cs,_,g1,_,_⟩:=hrow 0 hl
    rw [Nat.zero_mul] at g1
    exact ⟨cs,g1⟩
   ·obtain ⟨r1,r2⟩:=hrest (hsp _)
    have:=r2 0 (by omega)
    rw [show (len + 0) * P.cellsOf e = 0 by rw [show len + 0 = 0 by omega]; simp,List.getElem?_eq_getElem (by omega)] at this
    obtain ⟨cs,g1,_⟩:=Option.bind_eq_some_iff.1 this
    exact ⟨cs,g1⟩
  obtain ⟨cs0,hc0⟩:=hfirst
  obtain ⟨hl0,hg0⟩:=qoc hc0
  have h00:=hg0 0 (by omega)
  rw [show (a.add 0).add 0 = a from rfl,List.getElem?_eq_getElem (by omega)] at h00
  obtain ⟨ab,ao,asp⟩:=a
  have hblk0:=h00
  unfold World.cell? at hblk0
  split at hblk0
  ·rename_i c ty fr hblk
   simp only at hblk
   have hsp0:asp = none:=by
    cases asp with
    | none=>rfl
    | some s=>simp at hblk0
   subst hsp0
   refine .inr ⟨ab,ao,cap,c,ty,fr,by rw [hrl],by omega,hblk,fun i row hi=>?_⟩
   obtain ⟨hlt,hc⟩:=hget i row hi
   refine ⟨qlH n hpat row (htr row (List.mem_of_getElem? hi)),fun k x hk=>?_⟩
   obtain ⟨hl1,hg⟩:=qoc hc
   have hkl:k < P.cellsOf e:=by
    rw [<- hl1]; exact (List.getElem?_eq_some_iff.1 hk).1
   have:=hg k hkl
   rw [hk,hce] at this
   rw [Go.Eng.addr_add,Go.Eng.addr_add,qaN hblk] at this
   exact this
  ·simp at hblk0
end

end Go.Eng

set_option linter.unusedSimpArgs false
set_option linter.unusedVariables false
namespace Go.Eng
open Go Go.Proofs
def qjb:Ctr:={ qg6 with pre:=fun ρ=>qg6.pre ρ/\qbi (ρ 2).i (ρ 3).i (ρ 4).i = true/\(ρ 6).i <= 8192,alts:=[{ k:=9,ret:=.tup [(true,qe1 2 3 4 6 12 13 4 14),(false,[.vslice 15 (.lit 0) (.var 4) (.var 16) 2]),qcb (.lit 0)],heap:=[fHp 17,qdj 13 18 14,.arr 15 86 qjk (.var 19) (.var 16),.abs 20 10],post:=fun ρ=>qu (ρ 17).d/\qbi (ρ 2).i (ρ 3).i (ρ 4).i = true/\(ρ 6).i <= 8192/\(ρ 19).d.length = (ρ 4).i.toNat/\qfJ (ρ 20).h (ρ 19).d (ρ 4).i.toNat (qd6 (ρ 2).i.toNat (ρ 4).i.toNat (bI (ρ 8).d))/\qf (ρ 12).d 32 = sha (bI (ρ 8).d)/\qdi (ρ 18).d/\dgs (ρ 18).d = qdp (qd6 (ρ 2).i.toNat (ρ 4).i.toNat (bI (ρ 8).d)) (ρ 4).i.toNat }] }
end Go.Eng

set_option linter.unusedSimpArgs false
set_option linter.unusedVariables false
set_option maxRecDepth 100000
namespace Go.Proofs
open Go Go.Eng

end Go.Proofs

set_option linter.unusedSimpArgs false
set_option linter.unusedVariables false
namespace Go.Proofs
open Go Go.Eng
section
variable {k total:Nat} {data:List Int}
end
section
variable {h:Hp} {P:qe} {k n t s l:Int} {data:List Int} {G:qe}
theorem q2j {f:Nat->List Int} {m:Nat} {x:Int} (x0:0 <= x) (x1:x < m):(qdp f m).getD x.toNat [] = sha (qbW x ++ f x.toNat):=by
 unfold qdp
 rw [List.getD_eq_getElem?_getD,List.getElem?_map,List.getElem?_range (by omega)]
 simp only [Option.map_some,Option.getD_some]
 rw [Int.toNat_of_nonneg x0]
theorem q3d {x:Int} {m:List Int} (hM:qE k n t s l = true) (hb:qx data) (hsz:s = data.length) (hG:dgs G = qdp (qd6 k.toNat t.toNat data) t.toNat) (x0:0 <= x) (x1:x < t) (hm:m = qd6 k.toNat t.toNat data x.toNat):qcc k n t s l (dgs G) x m = 0:=by
 obtain ⟨k1,k2,k3,k4,s0,s1,htl⟩:=q2b.1 hM
 have hl:(m.length:Int) = qek k s:=by
  rw [hm,(q1d (by omega) (by omega) (by omega) hb _).1,q4t k1 s0,hsz]
  unfold plI
  simp
 have hS:sha (qbW x ++ m) = (dgs G).getD x.toNat []:=by rw [hm,hG,q2j x0 (by omega)]
 rw [qcc,if_neg (by rw [hM]; decide),if_neg (by omega),if_neg (fun h=>h hl),if_neg (fun h=>h hS)]
end
section
variable {h h':Hp} {D S L:qe} {n i:Nat} {t:Int} {f:Nat->List Int}
end
section
variable {h h0:Hp} {P P0 G R:qe} {k n t s l x e y m:Int} {data O:List Int} {N N':Nat}
end
section
variable {h h':Hp} {S L:qe} {i n j i':Int} {t:Int} {f:Nat->List Int}
end
section
variable {h h0:Hp} {D D0 G:qe} {T:Nat} {t:Int} {f:Nat->List Int} {N N' M:Nat}
end
end Go.Proofs

set_option linter.unusedSimpArgs false
set_option linter.unusedVariables false
namespace Go.Proofs
open Go Go.Eng
theorem q3Y:qjb.ok Tryz.prog:=by
 refine ⟨qxa.1,fun ρ w hF hO hg hd hw hs hro hp=>?_⟩
 obtain ⟨hp,hs3,h8⟩:=hp
 refine (qxa.2 ρ w hF hO hg hd hw hs hro hp).mono fun e w' h=>?_
 obtain ⟨ai,al,ρ',h1,h2,hρ,h4,hpost,h6⟩:=h
 match ai,h1 with
 | 0,h1 =>
  obtain rfl:=(Option.some.inj h1).symm
  exfalso
  have e2:=hρ 2 (by decide)
  have e3:=hρ 3 (by decide)
  have e4:=hρ 4 (by decide)
  have e6:=hρ 6 (by decide)
  obtain ⟨_,⟨h1,_⟩ | ⟨_,h1,_⟩⟩:=hpost
  ·change qbi (ρ' 2).i (ρ' 3).i (ρ' 4).i = false at h1
   rw [e2,e3,e4,hs3] at h1; cases h1
  ·change 8192 < (ρ' 6).i at h1
   rw [e6] at h1; omega
 | 1,h1 =>
  obtain rfl:=(Option.some.inj h1).symm
  exact ⟨0,_,ρ',rfl,h2,hρ,h4,hpost,h6⟩
 | ai + 2,h1=>simp [qg6] at h1
set_option maxRecDepth 20000
end Go.Proofs

set_option linter.unusedSimpArgs false
set_option linter.unusedVariables false
set_option maxRecDepth 100000
namespace Go.Proofs
open Go Go.Eng

end Go.Proofs

set_option linter.unusedSimpArgs false
set_option linter.unusedVariables false
namespace Go.Proofs
open Go Go.Eng
set_option maxRecDepth 100000
end Go.Proofs

set_option linter.unusedSimpArgs false
set_option linter.unusedVariables false
namespace Go.Eng
open Go Go.Proofs
end Go.Eng

set_option linter.unusedSimpArgs false
set_option linter.unusedVariables false
set_option maxRecDepth 100000
namespace Go.Proofs
open Go Go.Eng

end Go.Proofs

set_option linter.unusedSimpArgs false
set_option linter.unusedVariables false
namespace Go.Proofs
open Go Go.Eng
set_option maxRecDepth 20000
set_option maxRecDepth 100000
end Go.Proofs

set_option linter.unusedSimpArgs false
set_option linter.unusedVariables false
namespace Go.Eng
open Go Go.Proofs
def qw (d:qe):List Int:=d.map fun row=>qbB row 0
def qqi:List CK:=List.replicate 16 .bool
def b16 (n:Nat):SV:=.agg ((List.range 16).map fun i=>.c1 .vbool (.var (n + i)))
def qpo (x:Int):Bool:=decide (0 <= x/\x < 16)
def qcn:Ctr:={ fn := 100,nv:=1,args:=[iv .i64 (.var 0)],heap:=[],ro:=[],pre:=fun _=>True,alts:=[{ k:=1,ret:=.one (.vbool (.var 1)),heap:=[],post:=fun ρ=>(ρ 1).b = qpo (ρ 0).i }] }
def qe3 (r:Nat):SH:=iHp r (r + 3) (r + 4)
def qbZ (ρ:Env) (r:Nat):Prop:=(ρ (r + 1)).i = (ρ (r + 3)).d.length/\(ρ (r + 1)).i <= 1000000000000/\∀ row ∈ (ρ (r + 3)).d,row.length = 1
def qeC (l:List Bool) (L:List Int):Prop:=l.length = 16/\∀ j:Nat,j < 16->(l.getD j false = true↔(j:Int) ∈ L)
def qdM:Ctr:={ fn := 82,nv:=5,args:=[bS 0],heap:=[],ro:=[qe3 0],pre:=fun ρ=>qbZ ρ 0,alts:=[
 { k:=16,ret:=b16 5,heap:=[],post:=fun ρ=>qeC [(ρ 5).b,(ρ 6).b,(ρ 7).b,(ρ 8).b,(ρ 9).b,(ρ 10).b,(ρ 11).b,(ρ 12).b,(ρ 13).b,(ρ 14).b,(ρ 15).b,(ρ 16).b,(ρ 17).b,(ρ 18).b,(ρ 19).b,(ρ 20).b] (qw (ρ 3).d) }] }
def qdq (s:qe) (l:List Int) (n:Nat):Prop:=(∃ row,s = [row]/\row.length = 16)/\∀ x:Int,0 <= x->x < 16->(qaL s x.toNat = true↔x ∈ l.take n)
def qp3:Inv:={ key:=2,nv:=3,env:=[(2,.one (.vptr 1000 (.lit 0) 16 0)),(5,bS 0),(6,iv .i64 (.var 1)),(7,iv .i64 (.var 1002))],heap:=[.arr 1000 157 qqi (.var 1001) (.lit 1)],inv:=(fun ρ=>0 <= (ρ 1002).i/\(ρ 1002).i <= (ρ 1).i/\qdq (ρ 1001).d (qw (ρ 3).d) (ρ 1002).i.toNat),mu:=(fun ρ=>((ρ 1).i - (ρ 1002).i).toNat) }
def qJ (o:List Int) (p:Int):List Int:=sha (o ++ [p % 256])
def qcm:Ctr:={ fn := 24,nv:=4,ip:=[gIp 2,(1005,9)],args:=[dgV 0,iv .i64 (.var 1)],heap:=[],ro:=[gHp 2 3],pre:=fun ρ=>qQ (qf (ρ 0).d 32)/\gOk ρ 2 3 gR,alts:=[
 { k:=1,ret:=dgV 4,heap:=[],post:=fun ρ=>qf (ρ 4).d 32 = qJ (qf (ρ 0).d 32) (ρ 1).i }] }
def rkV (p d:Nat):SV:=.agg (.vint .i64 (.var p) :: qaK .u8 d 32)
def qdA:Ctr:={ fn := 80,nv:=4,ip:=[gIp 2],args:=[dgV 0,iv .i64 (.var 1)],heap:=[],ro:=[gHp 2 3],pre:=fun ρ=>qQ (qf (ρ 0).d 32)/\gOk ρ 2 3 gR,alts:=[
 { k:=2,ret:=.agg (.vint .i64 (.var 1) :: qaK .u8 4 32),heap:=[],post:=fun ρ=>qf (ρ 4).d 32 = qJ (qf (ρ 0).d 32) (ρ 1).i }] }
def qbz:List Int->List Int->Int
 | [],[]=>0
 | [],_ :: _=>-1
 | _ :: _,[]=>1
 | a :: l,b :: m=>if a < b then -1 else if b < a then 1 else qbz l m
def kRk:List CK:=.int .i64 :: List.replicate 32 (.int .u8)
def qj1:Ctr:={ fn := 118,nv:=4,args:=[.one (.vslice 0 (.lit 1) (.lit 32) (.lit 32) 1),.one (.vslice 1 (.lit 1) (.lit 32) (.lit 32) 1)],heap:=[],ro:=[.arr 0 153 kRk (.var 2) (.lit 1),.arr 1 153 kRk (.var 3) (.lit 1)],pre:=fun ρ=>qak (ρ 2).d 33/\qak (ρ 3).d 33/\qQ ((qf (ρ 2).d 33).drop 1)/\qQ ((qf (ρ 3).d 33).drop 1),alts:=[
 { k:=1,ret:=iv .i64 (.var 4),heap:=[],post:=fun ρ=>(ρ 4).i = qbz ((qf (ρ 2).d 33).drop 1) ((qf (ρ 3).d 33).drop 1) }] }
def qc9:Ctr:={ fn := 81,nv:=4,args:=[rkV 0 1,rkV 2 3],heap:=[],ro:=[],pre:=fun ρ=>qQ (qf (ρ 1).d 32)/\qQ (qf (ρ 3).d 32),alts:=[
 { k:=1,ret:=iv .i64 (.var 4),heap:=[],post:=fun ρ=>(ρ 4).i = if qbz (qf (ρ 1).d 32) (qf (ρ 3).d 32) = 0 then qd .sub .i64 (ρ 0).i (ρ 2).i else qbz (qf (ρ 1).d 32) (qf (ρ 3).d 32) }] }
def qO (o:List Int) (a b:Int):Bool:=if qJ o a = qJ o b then decide (a < b) else decide (qbz (qJ o a) (qJ o b) < 0)
def qbH:Ctr:={ fn := 26,nv:=5,ip:=[gIp 3],args:=[dgV 0,iv .i64 (.var 1),iv .i64 (.var 2)],heap:=[],ro:=[gHp 3 4],pre:=fun ρ=>qQ (qf (ρ 0).d 32)/\gOk ρ 3 4 gR,alts:=[
 { k:=1,ret:=.one (.vbool (.var 5)),heap:=[],post:=fun ρ=>(ρ 5).b = qO (qf (ρ 0).d 32) (ρ 1).i (ρ 2).i }] }
end Go.Eng

set_option linter.unusedSimpArgs false
set_option linter.unusedVariables false
namespace Go.Proofs
open Go Go.Eng Go.RowKit Go.Lib
theorem q3m {P:Program} (a b:Addr) (xs ys:List Int) (c c':Nat) (w:World) (hx:∀ j x,xs[j]? = some x->w.cell? (a.add j) = some (.int .u8 x)) (hy:∀ j x,ys[j]? = some x->w.cell? (b.add j) = some (.int .u8 x)) :
  (Extern.BytealgCompare.compare #[.slice (some a) xs.length c,.slice (some b) ys.length c']).run P w = .ok (.int .i64 (compareBytes (Lib.bytesOf xs) (Lib.bytesOf ys))) w:=by
 have h1:=run_loadBytesX (P:=P) w xs a .empty hx
 have h2:=run_loadBytesX (P:=P) w ys b .empty hy
 change Sem.run P (do pure (goInt (Extern.BytealgCompare.cmp (<- Extern.Bytes.bytesOf (.slice (some a) xs.length c)) (<- Extern.Bytes.bytesOf (.slice (some b) ys.length c'))))) w = _
 simp only [Extern.Bytes.bytesOf,Sem.run_bind,h1,h2,Sem.run_pure,Result.andThen]
 rw [cmp_eq]
 simp [goInt]
set_option maxHeartbeats 1000000 in
set_option maxRecDepth 100000 in
theorem qom (a b:Addr) (xs ys:List Int) (c c':Nat) (w:World) (hx:∀ j x,xs[j]? = some x->w.cell? (a.add j) = some (.int .u8 x)) (hy:∀ j x,ys[j]? = some x->w.cell? (b.add j) = some (.int .u8 x)) :
  Calls Tryz.prog 118 #[.slice (some a) xs.length c,.slice (some b) ys.length c'] w fun e w'=>e = .returned (.int .i64 (compareBytes (Lib.bytesOf xs) (Lib.bytesOf ys)))/\w' = w:=by
 go_enter Tryz.func118,Tryz.ntmps118
 go_wp2
 rw [run_callFunc_extern Tryz.func139 (by kernel_rfl) (by kernel_rfl) (by kernel_rfl) (e:=Extern.BytealgCompare.compare) (by kernel_rfl),q3m a b xs ys c c' w hx hy]
 simp only [Result.andThen]
 rw [Oper.upon_value]
 go_wp2
 go_ret
 exact ⟨rfl,rfl⟩
end Go.Proofs
