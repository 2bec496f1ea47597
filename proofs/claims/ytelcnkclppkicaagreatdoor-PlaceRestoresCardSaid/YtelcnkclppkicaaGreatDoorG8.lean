/- Texts VY, WG, WH, WI, WN, CV, CX, WO, WQ, CY, E13, E14, FB, FC, FD, FE, FF, FG, FH, FI, FJ, PF, PH, PL, PO, PR, PS, QA, QF, PG, PI, PJ, PK, PM, PN, PP, PQ, PT, PU, PV, PY, PZ, QM, QI, QN, QR, RE, RI, RD, TH, TN, PA, PB, PC, PD, PE, P0, P1. -/
import Derived.Test.YtelcnkclppkicaaGreatDoorG7
import Derived.Test.YtelcnkclppkicaaGreatDoorG1
import Derived.Test.YtelcnkclppkicaaGreatDoorProg
import Derived.Test.YtelcnkclppkicaaGreatDoorG6
import Derived.Test.YtelcnkclppkicaaGreatDoorG5
import Derived.Test.YtelcnkclppkicaaGreatDoorG4
import Derived.WalkKit
import Derived.ProofKit
import Derived.OpenShut
import Derived.Carry
import Derived.SizedLaws
import Derived.WalkCall
import Derived.Laws.Externs
import Derived.Lib.Bytealg
import Derived.Lib.BytesEntry
import Derived.Shelf.SlSortCmp.NoneTotal
import Derived.Deep.QuietTactic
import Derived.BigQuiet
set_option linter.unusedSimpArgs false
set_option linter.unusedVariables false
namespace Go.Proofs
open Go Go.Eng
set_option maxRecDepth 100000
theorem q20 {d:qd} {i j x:Int} {k:IntKind} (i0:0 <= i) (i1:i < d.length) (j0:0 <= j):qb (qaV d i 0 [.int k x]) j 0 = if j = i then x else qb d j 0:=by
 unfold qb qF qaV
 rw [jb1]
 by_cases h:j = i
 ·subst h
  rw [jah rfl,jah (by omega),jah rfl]
  simp [qao,qaj]
 ·rw [jaf (by omega),jaf h]
set_option maxHeartbeats 4000000 in
theorem qpB:qeF.ok Tryz.prog:=q0F (by simp [q8I,q8M,q7Z,qgj,q3r]) fun Z hg hp=>by
 obtain ⟨hf,hsz,hkn,hn2,hpc,hch,h8,hLeq⟩:=hp
 obtain ⟨k1,k2,k3⟩:=qbq.1 hsz
 have s1:∀ {x:Int},-1 <= x->x <= 1000->qe .add .i64 x 1 = x + 1:=fun h1 h2=>add64 (by omega) (by omega)
 simp (config:={ maxSteps:=4000000 }) [qsH,qeF,qux,qut,qvR,q4B,q52,qq3,q1b,qfk,qz8,qhV,q0i,qbA,qcd,qlw]
 intro n10 _
 refine ⟨⟨hf,hsz⟩,fun g _ lg _ cg _ f1 _ dg _ ab _ hf1 _ hMg _ hGg u7 _=>⟨by omega,by omega,fun u8 _=>⟨⟨hf1,⟨hMg,hGg⟩,by omega,fun j h1 h2=>by omega⟩,?_⟩⟩⟩
 clear hMg hGg hf1
 intro _ _ R _ i _ f _ _ _ _ _ lg _ cg _ dg _ _ _ _ _ hf1 hMg hGg i0 i1 hRl hR
 refine ⟨fun hi=>?_,fun hi=>?_⟩
 ·obtain ⟨hl,_⟩:=qlI hpc i0 (by omega)
  rw [s1 (by omega) (by omega)]
  refine ⟨i0,by omega,hl,by omega,⟨hf1,⟨hMg,hGg⟩,by omega,by omega,by rw [qbY]; exact hRl,fun j j0 j1=>?_⟩,by omega⟩
  rw [q20 i0 (by omega) j0]
  by_cases hji:j = i.i
  ·rw [jah hji,hji]
  ·rw [jaf hji]; exact hR j j0 (by omega)
 have hidx:iI R.d = qaw (Z 7).d (Z 2).i.toNat:=by
  refine qe6 (by rw [quV,qyq]; exact hRl) fun j hj=>?_
  rw [quV] at hj
  rw [q7J (by omega)]
  have h1:=qjI (d:=R.d) (i:=(j:Int)) (by omega) (by omega)
  rw [jav] at h1
  rw [h1,hR _ (by omega) (by omega)]
  rfl
 have hMg':=hMg
 obtain ⟨⟨g1,g2,g3,g4,g5,g6,g7,g8⟩,g9⟩:=hMg'
 have hb:=qI (x:=(Z 2).i) (y:=(Z 2).i) (by omega) (show (Z 2).i <= 255 by omega) (by omega) (show (Z 2).i <= 255 by omega)
 have hrk:=qwm hch (by omega) (by omega) (by omega)
 refine ⟨⟨⟨by omega,g6,g7,g8,by omega,by omega⟩,qo1 ⟨⟨by omega,g2,k1,by omega,g5⟩,k1,by omega⟩ fun x hx=>by
  rw [hidx] at hx
  have:=hch.2.2 x hx
  omega⟩,fun sr _ ls _ cs _ ds _ _ hMs hLs hSs u24 _=>?_⟩
 obtain ⟨s2,s3,s4,s5,s6,s7,s8,s9⟩:=hMs
 have hte:(bI ds.d).take ls.i.toNat = bI ds.d:=jar (by rw [bI_len]; omega)
 have hS:bI ds.d = qcF (qbm (Z 2).i.toNat (Z 3).i.toNat) (Z 2).i.toNat (qaw (Z 7).d (Z 2).i.toNat):=by rw [hSs,hGg,hidx]
 rw [hte,hS]
 refine ⟨⟨⟨hf1,by omega,s7,s8,s9⟩,⟨k1,by omega,k1,by omega,s6⟩,hrk⟩,fun iv _ li _ ci _ f2 _ di _ hf2 _ hMi _ hIi u30 _=>⟨by omega,fun u31 _ H _ _=>⟨⟨⟨hf2,⟨hMg,hGg⟩,hMi,hIi,by omega⟩,⟨fun j hj=>by omega,fun i j hi=>by omega⟩⟩,?_⟩⟩⟩
 clear hMg hGg hf1 hf2 hMi hIi hSs hS hte hLs s2 s3 s4 s5 s6 s7 s8 s9 g1 g2 g3 g4 g5 g6 g7 g8 g9 hidx hR hRl hi i0 i1
 have hINV:=qs0 hch (by omega:1 <= (Z 2).i.toNat) (by omega) (by omega)
 intro _ _ _ _ i _ f _ _ _ _ _ lg _ cg _ dg _ _ _ _ _ _ _ _ _ li _ ci _ di _ _ _ C _ H _ hf1 hMg hGg hMi hIi hCl hCr i0 i1 ht
 refine ⟨fun hi=>?_,fun hi u52 _ hst=>?_⟩
 ·obtain ⟨hl0,_,d0,hrd0,_,_,hN0⟩:=qlI hpc (j:=0) (by omega) (by omega)
  have hN0:pcN (Z 9).h (Z 7).d 0 = d0.length:=hN0
  refine ⟨by omega,by omega,d0,.inr hrd0,fun u0 _ u1 _=>⟨by omega,fun nr _=>⟨i0,by omega,⟨i0,hi,hMi.1⟩,fun o _ n _ c _ ho hn hc=>⟨by omega,fun H' _ hst=>⟨⟨⟨hf1,⟨hMg,hGg⟩,hMi,hIi,by rw [qbY]; exact hCl,q5Z hCr i0 (by omega),i0,i1⟩,hi,ho,hn,by omega,?_⟩,?_⟩⟩⟩⟩⟩
  ·obtain ⟨hx,hy,hdis,lx,ly,dx,dy⟩:=qw2 (l1:=[]) hst (y:=SH.abs 61 2) (by simp)
   have hrd:=quR (n:=d0.length) (k:=d0.length) dx (Hp.le_refl _) (by simp) (by simp)
   have hrd:Rd hx kB (.slice (qm nr.r 0) d0.length d0.length) (List.replicate d0.length [.int .u8 0]):=by simpa [kB] using hrd
   have hab:Hp.le H.h hy/\Hp.free H.h:=by simpa [SH.den] using dy
   refine q7B ht (Hp.le_trans hab.1 ly) hrd lx (q7j hdis hab.1) qcU (fun j hj=>by rw [qzq hCr i0 (by omega),jaf (by omega)]) (by rw [qzq hCr i0 (by omega),jah rfl]) (fun j hj=>jaf (by omega)) ?_
   rw [jah rfl,qib,hN0]; rfl
  clear hMg hGg hf1 hMi hIi hCl hCr ht
  intro i' _ f _ lg _ cg _ dg _ li _ ci _ di _ C _ H _ j _ o _ n _ hf1 hMg hGg hMi hIi hCl hCr i0' i1' hi' hii ho hn j0 j1 ht
  have hbo:=qI (x:=i'.i) (y:=(Z 2).i) i0' (by omega) (by omega) (show (Z 2).i <= 255 by omega)
  have hMi':=hMi
  obtain ⟨⟨m1,m2,m3,m4,m5,m6,m7,m8⟩,m9⟩:=hMi'
  refine ⟨fun hj=>?_,fun hj=>?_⟩
  ·obtain ⟨hlj,_,d,hrd,hdB,hdD,hdN⟩:=qlI hpc j0 (show j.i < (Z 5).i by omega)
   have hlen:d.length = pcN (Z 9).h (Z 7).d 0:=by rw [<- hdN]; exact hLeq _ (by omega)
   have hrl:rdL (Z 9).h (qF (Z 7).d j.i 1) = bI d:=qf0 hrd
   have hltG:i'.i * (Z 2).i + j.i < (Z 2).i * (Z 2).i:=by
    have:=ja2 (show i'.i + 1 <= (Z 2).i by omega) (show 0 <= (Z 2).i by omega)
    rw [jcc,jcd] at this; omega
   have hcb:=qbM m8 (i:=o.i + j.i) (by omega) (by omega)
   rw [s1 (by omega) (by omega),hrl]
   refine ⟨j0,by omega,by omega,by omega,i0',hi',by omega,by omega,hlj,⟨hf1,⟨d,hrd,hdB⟩,by rw [bI_len]; omega,⟨tvs C.d,_,_,i'.i.toNat,ht,by omega,qqp i0',?_⟩,hcb⟩,fun f' _ H' _ hf' hT=>⟨⟨⟨hf',⟨hMg,hGg⟩,hMi,hIi,hCl,hCr,i0',i1'⟩,hi',hii,ho,hn,by omega,by omega,?_⟩,by omega⟩⟩
   ·simp only [jah]
    rw [bI_len,qkf]; omega
   ·refine qiG (hT (tvs C.d) _ _ i'.i.toNat ht (by omega) (qqp i0')) (fun _ _=>rfl) fun r hr=>?_
    by_cases hri:r = i'.i.toNat
    ·subst hri
     rw [jah rfl,jah rfl]
     show _ = qE _ 0 _ _
     rw [jah rfl,show (j.i + 1).toNat = j.i.toNat + 1 by omega,qaW]
     have e1:seg (pcD (Z 9).h (Z 7).d j.i.toNat) 0 (pcN (Z 9).h (Z 7).d 0) = bI d:=by
      rw [hdD,<- hlen,<- bI_len (d:=d)]; simp [seg]
     have e2:(seg (qji (Z 3).i.toNat (Z 2).i.toNat (qaw (Z 7).d (Z 2).i.toNat)) (i'.i.toNat * (Z 2).i.toNat) (Z 2).i.toNat).getD j.i.toNat 0 = qb di.d (o.i + j.i) 0:=by
      rw [qvm (by omega),<- hIi,<- qd9 (by omega) (by omega),ho,jdz hbo.1 j0,jb0 i0' (by omega)]
     rw [e1,e2]
    ·rw [jaf hri,jaf hri,jaf hri]
  ·rw [s1 (by omega) (by omega),show (i'.i + 1).toNat = i'.i.toNat + 1 by omega]
   refine ⟨⟨⟨hf1,⟨hMg,hGg⟩,hMi,hIi,hCl,hCr,by omega,by omega⟩,qiG ht (fun _ _=>rfl) fun r hr=>?_⟩,by omega⟩
   by_cases hri:r = i'.i.toNat
   ·subst hri
    rw [jah rfl,show j.i.toNat = (Z 2).i.toNat by omega]; rfl
   ·rw [jaf hri]
 ·obtain ⟨hb2,lb2,db2⟩:=qbp hst (n:=61) (t:=2) (by simp)
  rw [show i.i.toNat = (Z 2).i.toNat by omega] at ht
  exact ⟨hf1,hCl,hCr,q46 ht (Hp.le_trans (by simpa using db2) lb2),hMg,hGg⟩
@[simp] def qlo:Sg:=sg 0 [bg 13 20,bv 12 17,bv 11 21,bv 6 2,bv 5 19,bv 1 18,bv 10 25,bv 9 24,bv 8 23,bg 7 15,bv 4 2,bv 3 2,bg 2 14,bg 0 0]
def qnf:Out:=(.fresh 11 (.br (.and (.cmp .eql (.dlen (tv 1)) (tl 0)) (.isnil 0))
 (.ret 0 (sg 11 [bv 12 1,bt 11 (tl 1)]))
 (.pre 0 (sg 0 [bv 1 3,bv 0 2]) (.both (.fresh 12 (.post 0 0 (sg 0 [bv 1 3,bv 0 2]) 12 (.br (.not (tv 12))
 (.ret 0 (sg 11 [bv 12 1,bt 11 (tl 2)]))
 (.br (.cmp .lss (tv 7) (tl 0))
 (.ret 0 (sg 11 [bv 12 1,bt 11 (tl 2)]))
 (.br (.cmp .geq (tv 7) (tv 3))
 (.ret 0 (sg 11 [bv 12 1,bt 11 (tl 2)]))
 (.pre 1 (sg 0 [bg 8 10,bv 7 9,bv 6 8,bv 5 6,bv 4 5,bg 3 4,bt 2 (.lit (-1)),bv 1 3,bv 0 2]) (.both (.fresh 13 (.post 1 0 (sg 0 [bg 8 10,bv 7 9,bv 6 8,bv 5 6,bv 4 5,bg 3 4,bt 2 (.lit (-1)),bv 1 3,bv 0 2]) 13 (.br (.cmp .neq (tv 13) (tl 0))
 (.ret 0 (sg 11 [bv 12 1,bv 11 13]))
 (.pre 2 (sg 0 [bg 9 10,bv 8 9,bv 7 8,bv 1 1,bv 6 6,bv 5 5,bg 4 4,bv 3 3,bv 2 2,bg 0 0]) (.both (fr 14 8 (.post 2 0 (sg 0 [bg 9 10,bv 8 9,bv 7 8,bv 1 1,bv 6 6,bv 5 5,bg 4 4,bv 3 3,bv 2 2,bg 0 0]) 14 (.fresh 22 (.pre 3 (sg 0 [bv 6 17,bv 5 21,bv 7 7,bv 4 17,bv 3 16,bg 2 15,bv 1 2,bv 0 3]) (.both (fr 23 3 (.post 3 0 (sg 0 [bv 6 17,bv 5 21,bv 7 7,bv 4 17,bv 3 16,bg 2 15,bv 1 2,bv 0 3]) 23 (.pre 4 qlo (.both (fr 26 5 (.post 4 0 qlo 26 (.ret 1 (sg 11 [bv 15 30,bv 14 29,bv 13 28,bv 12 27,bg 11 26])))) .top)))) .top))))) .top))))) .top))))))) .top))))
theorem qwo:qn Tryz.prog qfv [qcb,qeE,qeF,qcd,qfi] [] qnf:=qh Tryz.func125 Tryz.call125 (by kernel_rfl)
theorem qhi {d:qd} (h:qk d):d ≠ []:=(qbB h).1
structure PcIn (h:Hp) (D:qd) (k total n:Int):Prop where
 k1:1 <= k
 k2:k <= total
 k3:total <= 255
 kn:k <= n
 sol:q21 h D k total n
 idx:∀ j,j < n.toNat->0 <= pcI D j/\pcI D j < total
 len:∀ j,j < n.toNat->pcN h D j = pcN h D 0
 fs:∀ j,j < n.toNat->(pcD h D j).length = pcN h D 0/\qo (pcD h D j)
theorem qBg {h:Hp} {D:qd} {k total n:Int} (hs:qN k total = true) (hp:qhm h D n) (hc:qtv h D k total (-1) n 0):PcIn h D k total n:=by
 obtain ⟨k1,k2,k3⟩:=qbq.1 hs
 obtain ⟨n0,n1,hpc⟩:=hp
 obtain ⟨ho,hk⟩:=q3K hc
 have hw:qeD (-1) (pcN h D) = (pcN h D 0:Int):=jah (by omega)
 have hL:∀ j,j < n.toNat->pcN h D j = pcN h D 0:=fun j hj=>by
  have:=(ho j hj).2.2.2
  rw [hw] at this; omega
 exact ⟨k1,k2,k3,by omega,⟨hs,by omega,n1,hpc,qlL ho (by omega),(ho 0 (by omega)).2.2.1 (by omega),fun j hj=>hL j (by omega)⟩,fun j hj=>(ho j hj).1,hL,fun j hj=>by
  obtain ⟨v,d,_,_,_,hB,hd⟩:=qto hpc hj
  exact ⟨hL j hj,by rw [hd]; exact allB_list hB⟩⟩
variable {h:Hp} {D:qd} {k total n:Int}
theorem PcIn.f (p:PcIn h D k total n):∀ j,j < k.toNat->(pcD h D j).length = pcN h D 0/\qo (pcD h D j):=fun j hj=>p.fs j (by have:=p.kn; omega)
theorem PcIn.cols (p:PcIn h D k total n) {hc:Hp} {C:qd} (ht:qdu hc (tvs C) k.toNat (ql4 h D total.toNat k.toNat)) :
  (∀ j,j < k.toNat->rdB hc (tvs C j)/\(qa2 hc C j).length = (qa2 hc C 0).length)/\(qa2 hc C 0).length = pcN h D 0/\∀ r:Int,0 <= r->r < total->qaW (qa2 hc C) (seg (qbm k.toNat total.toNat) (r.toNat * k.toNat) k.toNat) (qa2 hc C 0).length k.toNat = qeA h D k.toNat r:=by
 have h1:=p.k1
 have h2:=p.k2
 have h3:=p.k3
 have hch:=p.sol.2.2.2.2.1
 have hcol:∀ j,j < k.toNat->rdB hc (tvs C j)/\qa2 hc C j = ql4 h D total.toNat k.toNat j:=fun j hj=>by
  obtain ⟨d,hr,hd,hB⟩:=qoE ht hj
  exact ⟨⟨d,hr,hB⟩,by rw [qa2,qf0 hr,hd]⟩
 have hl:∀ j,j < k.toNat->(qa2 hc C j).length = pcN h D 0:=fun j hj=>by
  rw [(hcol j hj).2,ql4,qkf]
 refine ⟨fun j hj=>⟨(hcol j hj).1,by rw [hl j hj,hl 0 (by omega)]⟩,hl 0 (by omega),fun r r0 r1=>?_⟩
 rw [hl 0 (by omega),q4t hch (by omega) (by omega) (by omega) (f:=pcD h D) p.f (by omega) (r:=r.toNat) (fun i hi=>by
  rw [(hcol i hi).2,ql4,qyI hch (by omega) (by omega) (by omega) p.f hi]),jay r0]
 rfl
theorem PcIn.value (p:PcIn h D k total n):(∀ j:Nat,(j:Int) < k->0 <= pcI D j/\pcI D j < 256)/\(qaw D k.toNat).Nodup/\pcN h D 0 <= 9000/\(∀ j:Nat,(j:Int) < k->pcN h D j = pcN h D 0)/\qfw h D k.toNat:=by
 have h1:=p.k1
 have h2:=p.k2
 have h3:=p.k3
 have h4:=p.kn
 have h5:=p.sol.2.2.2.2.2.1
 refine ⟨fun j hj=>?_,p.sol.2.2.2.2.1.2.1,by omega,fun j hj=>p.len j (by omega),fun j hj=>p.sol.2.2.2.1 j (by omega)⟩
 have:=p.idx j (by omega)
 omega
set_option maxHeartbeats 1000000 in
theorem qtG:qfv.ok Tryz.prog:=qwo (by simp [qhh,qpT,qpB,qgj,qwl]) fun Z hg hp=>by
 obtain ⟨hf,hpre⟩:=hp
 have hpre':=hpre
 obtain ⟨n0,n1,hpc⟩:=hpre'
 simp (config:={ maxSteps:=4000000 }) [qnf,qfv,qcb,qeE,qtj,qeF,qq3,qcd,qfi]
 refine ⟨fun h=>(qhi hf h).elim,fun _ b _ hb=>⟨fun h=>⟨hf,.inl ⟨.inl (by rw [<- hb,h]),rfl⟩⟩,fun h=>⟨fun hi=>⟨hf,.inl ⟨.inr (.inl hi),rfl⟩⟩,fun i0=>⟨fun hi=>⟨hf,.inl ⟨.inr (.inr hi),rfl⟩⟩,fun i1=>?_⟩⟩⟩⟩
 have hs:qN (Z 2).i (Z 3).i = true:=by rw [<- hb,h]
 obtain ⟨k1,k2,k3⟩:=qbq.1 hs
 refine ⟨⟨k3,n0,n1,hpc⟩,fun e _ he=>⟨fun hne=>⟨hf,.inr ⟨hs,i0,i1,he,hne⟩⟩,fun he0=>?_⟩⟩
 rw [he0] at he
 have P:PcIn (Z 10).h (Z 8).d (Z 2).i (Z 3).i (Z 5).i:=qBg hs hpre he
 refine ⟨⟨hf,P.sol⟩,fun lg _ cg _ f1 _ C _ H _ dg _ hf1 hCl hCr ht hMg hGg=>⟨⟨i0,i1,hMg.1⟩,fun o _ m _ c _ ho hm hc=>?_⟩⟩
 obtain ⟨c1,c2,c3⟩:=P.cols ht
 obtain ⟨⟨g1,g2,g3,g4,g5,g6,g7,g8⟩,g9⟩:=hMg
 have hbo:=qI (x:=(Z 7).i) (y:=(Z 2).i) (a:=255) i0 (by omega) (by omega) (show (Z 2).i <= 255 by omega)
 have hrow:=ja2 (show (Z 7).i + 1 <= (Z 3).i by omega) (show 0 <= (Z 2).i by omega)
 rw [jcc,jcd] at hrow
 have h8:=P.sol.2.2.2.2.2.1
 refine ⟨⟨hf1,k1,by omega,by omega,hCr,hm,by omega,by omega,g8,fun j hj=>c1 j (by omega),by omega⟩,fun n _ f2 _ d _ hf2 hn hl hB hd=>⟨hf2,⟨hs,i0,i1,he⟩,hn,by omega,hB,?_⟩⟩
 rw [hd,hGg,ho,jb0 i0 (by omega),c3 _ i0 i1]
end Go.Proofs
set_option maxRecDepth 100000
namespace Go.Proofs
open Go Go.Eng
variable {h h':Hp} {D D':qd} {k total n index len e e':Int} {b b':Bool}
end Go.Proofs
namespace Go.Proofs
open Go Go.Eng
theorem qvd {f:Nat->List Int} {l:Nat}:∀ {n:Nat},(∀ j,j < n->(f j).length = l)->(qbP f n).length = n * l
 | 0,_=>by simp [qbP]
 | n + 1,h=>by
  rw [qbP,jal,qvd fun j hj=>h j (by omega),h n (by omega),jbc,jc2]
theorem qyR {f:Nat->List Int} {l:Nat}:∀ {n:Nat},(∀ j,j < n->(f j).length <= l)->(qbP f n).length <= n * l
 | 0,_=>by simp [qbP]
 | n + 1,h=>by
  have h1:=qyR (n:=n) fun j hj=>h j (by omega)
  have h2:=h n (by omega)
  rw [qbP,jal,jbc,jc2]; omega
theorem qhu {f g:Nat->List Int}:∀ {n:Nat},(∀ j,j < n->f j = g j)->qbP f n = qbP g n
 | 0,_=>rfl
 | n + 1,h=>by rw [qbP,qbP,qhu fun j hj=>h j (by omega),h n (by omega)]
theorem q6V {h:Hp} {D:qd} {k total n size:Int} (hp:qhm h D n) (hd:qq8 h D k total size n):PcIn h D k total n/\pcN h D 0 = ql k.toNat size.toNat:=by
 obtain ⟨hs,s0,s1,hc⟩:=hd
 obtain ⟨k1,k2,k3⟩:=qbq.1 hs
 obtain ⟨n0,n1,hpc⟩:=hp
 obtain ⟨ho,hk⟩:=q3K hc
 have hw:qeD (plI k size) (pcN h D) = plI k size:=jaf (by unfold plI; omega)
 have hL:∀ j,j < n.toNat->pcN h D j = ql k.toNat size.toNat:=fun j hj=>by
  have:=(ho j hj).2.2.2
  rw [hw] at this; unfold plI at this; omega
 have hpl:=qdt (k:=k.toNat) (n:=size.toNat) (by omega)
 have h0:=hL 0 (by omega)
 refine ⟨⟨k1,k2,k3,by omega,⟨hs,by omega,n1,hpc,qlL ho (by omega),by omega,fun j hj=>by rw [hL j (by omega),h0]⟩,fun j hj=>(ho j hj).1,fun j hj=>by rw [hL j hj,h0],fun j hj=>?_⟩,h0⟩
 obtain ⟨v,d,_,_,_,hB,hd⟩:=qto hpc hj
 exact ⟨by rw [h0,<- hL j hj]; rfl,by rw [hd]; exact allB_list hB⟩
theorem qrm {h:Hp} {D:qd} {k:Nat} {x:Int}:(qeA h D k x).length = pcN h D 0:=qkf _
theorem PcIn.cat {h:Hp} {D:qd} {k total n:Int} (p:PcIn h D k total n) {hc:Hp} {C:qd} (ht:qdu hc (tvs C) k.toNat (ql4 h D total.toNat k.toNat)) :
  (∀ j,j < k.toNat->rdB hc (tvs C j)/\(qa2 hc C j).length = pcN h D 0)/\qbP (qa2 hc C) k.toNat = qkb h D k.toNat/\(qkb h D k.toNat).length = k.toNat * pcN h D 0:=by
 have h1:=p.k1
 have h2:=p.k2
 have h3:=p.k3
 have hch:=p.sol.2.2.2.2.1
 have hcol:∀ j,j < k.toNat->rdB hc (tvs C j)/\qa2 hc C j = qeA h D k.toNat (j:Int):=fun j hj=>by
  obtain ⟨d,hr,hd,hB⟩:=qoE ht hj
  refine ⟨⟨d,hr,hB⟩,?_⟩
  rw [qa2,qf0 hr,hd,ql4,qyI hch (by omega) (by omega) (by omega) p.f hj]
  rfl
 refine ⟨fun j hj=>⟨(hcol j hj).1,by rw [(hcol j hj).2,qrm]⟩,qhu fun j hj=>(hcol j hj).2,qvd fun j hj=>qrm⟩
theorem qi2 {k n t s l i:Int} {D:List (List Int)} {m:List Int} (h:qbO k n t s l D i m = 0):qz k n t s l = true/\0 <= i/\i < t/\(m.length:Int) = qd0 k s/\sha (qaS i ++ m) = D.getD i.toNat []:=by
 unfold qbO at h
 by_cases h1:qz k n t s l = false
 ·rw [jah h1] at h; omega
 rw [jaf h1] at h
 by_cases h2:i < 0∨t <= i
 ·rw [jah h2] at h; omega
 rw [jaf h2] at h
 by_cases h3:(m.length:Int) ≠ qd0 k s
 ·rw [jah h3] at h; omega
 rw [jaf h3] at h
 by_cases h4:sha (qaS i ++ m) ≠ D.getD i.toNat []
 ·rw [jah h4] at h; omega
 exact ⟨by simpa using h1,by omega,by omega,by omega,by simpa using h4⟩
theorem qbw {k n t s l:Int}:qz k n t s l = true↔1 <= k/\k <= n/\n <= t/\t <= 255/\0 <= s/\s <= 8192/\l = t:=by
 simp [qz,qaP,and_assoc]
theorem qv0 {k s:Int} (hk:1 <= k) (hs:0 <= s):qd0 k s = plI k s:=by
 obtain ⟨k,rfl⟩:=Int.eq_ofNat_of_zero_le (show 0 <= k by omega)
 obtain ⟨s,rfl⟩:=Int.eq_ofNat_of_zero_le hs
 have e:((s:Int) + (k:Int) - 1) = ((s + k - 1:Nat):Int):=by omega
 unfold qd0 plI ql
 rw [e,Int.ofNat_tdiv]
 simp
theorem qo3 {k n t s l:Int} {D:List (List Int)} {h:Hp} {P:qd} (hc:qc9 (qkU k n t s l D h P) (pcI P) P.length k 0) (hm:qz k n t s l = true) (len:Int) (hl:len = -1∨len = plI k s) :
  qij t len (pcI P) (pcN h P) P.length/\k <= (P.length:Int)/\∀ j,j < P.length->(pcN h P j:Int) = plI k s:=by
 obtain ⟨k1,k2,k3,k4,s0,s1,_⟩:=qbw.1 hm
 obtain ⟨h1,h2⟩:=qrP hc
 have hp:qd0 k s = plI k s:=qv0 (by omega) s0
 have hL:∀ j,j < P.length->(pcN h P j:Int) = plI k s:=fun j hj=>by
  rw [<- hp]; exact (qi2 (h1 j hj).1).2.2.2.1
 have hs:plI k s <= 8192:=by
  have:=qdt (k:=k.toNat) (n:=s.toNat) (by omega)
  unfold plI; omega
 have hpos:0 <= plI k s:=by unfold plI; omega
 have h0:=hL 0 (by omega)
 have hw:qeD len (pcN h P) = plI k s:=by
  unfold qeD
  by_cases hn:len < 0
  ·rw [jah hn,h0]
  ·rw [jaf hn]; omega
 refine ⟨fun j hj=>⟨⟨(qi2 (h1 j hj).1).2.1,(qi2 (h1 j hj).1).2.2.1⟩,(h1 j hj).2,fun _=>by have:=hL j hj; omega,by rw [hw,hL j hj]⟩,h2,hL⟩
theorem qrH {k n t s l:Int} (hm:qz k n t s l = true):qN k t = true:=by
 obtain ⟨k1,k2,k3,k4,s0,s1,_⟩:=qbw.1 hm
 exact qbq.2 ⟨k1,by omega,k4⟩
theorem q5o {k n t s l x m:Int} {D:List (List Int)} {h:Hp} {P:qd} (hc:qc9 (qkU k n t s l D h P) (pcI P) P.length k 0) (hm:qz k n t s l = true) (hn:m = P.length) (h0:0 <= x) (h1:x < t):q41 h P k t m x:=by
 subst hn
 obtain ⟨a,b,_⟩:=qo3 hc hm (-1) (.inl rfl)
 exact ⟨qrH hm,h0,h1,.inr ⟨a,.inr ⟨by simpa using b,rfl⟩⟩⟩
theorem q4E {k n t s l m:Int} {D:List (List Int)} {h:Hp} {P:qd} (hc:qc9 (qkU k n t s l D h P) (pcI P) P.length k 0) (hm:qz k n t s l = true) (hn:m = P.length):qq8 h P k t s m:=by
 subst hn
 obtain ⟨a,b,_⟩:=qo3 hc hm (plI k s) (.inr rfl)
 obtain ⟨k1,k2,k3,k4,s0,s1,_⟩:=qbw.1 hm
 exact ⟨qrH hm,s0,s1,.inr ⟨a,.inr ⟨by simpa using b,rfl⟩⟩⟩
theorem q8q {h:Hp} {D:qd} {k t n x e:Int} (a:q41 h D k t n x) (b:q9H h D k t n x e):False:=by
 obtain ⟨a1,a2,a3,a4⟩:=a
 rcases b with ⟨b1,_⟩ | ⟨_,_,_,b4,b5⟩
 ·rcases b1 with b1 | b1 | b1
  ·rw [a1] at b1; cases b1
  ·omega
  ·omega
 ·exact b5 (q1U b4 a4)
theorem q8N {h:Hp} {D:qd} {k t s n e:Int} (a:qq8 h D k t s n) (b:q6K h D k t s n e):False:=by
 obtain ⟨a1,a2,a3,a4⟩:=a
 rcases b with ⟨b1,_⟩ | ⟨_,_,_,b4,b5⟩
 ·rcases b1 with b1 | b1 | b1
  ·rw [a1] at b1; cases b1
  ·omega
  ·omega
 ·exact b5 (q1U b4 a4)
@[simp] def quc:Sg:=sg 0 [bv 17 17,bv 15 27,bv 14 28,bv 9 9,bv 8 8,bv 13 27,bt 12 (.dlen (tv 28)),bg 11 26,bt 10 (.icell (tv 13) (tv 24) 0),bv 7 7,bv 6 6,bg 5 5,bv 3 3,bv 2 2,bv 1 1,bv 0 0,bt 4 (r8 4),bg 16 16]
def q3b:Out:=(.fresh 18 (.mop .new 19 (.need (.cmp .leq (tl 0) (tv 11)) (.inv 0 21 (sg 1000 [bg 1000 19,bt 1003 (tl 0),bv 1001 20,bg 1002 18]) (fr 21 4 (.hyp 0 21 (.br (.cmp .lss (tv 24) (tv 11))
 (.need (.cmp .leq (tl 0) (tv 24)) (.need (.cmp .lss (tv 24) (.dlen (tv 13))) (.fresh 25 (.viewL (.vcell (tv 13) (tv 24) 1) [CK.int .u8] [15] 26 (.pre 0 quc (.both (.fresh 29 (.post 0 0 quc 29 (.br (.cmp .neq (tv 29) (tl 0))
 (.ret 0 (sg 18 [bv 18 29]))
 (.mop (.get (tv 22) [(.icell (tv 13) (tv 24) 0)] ⟨false,[.i64],false,[CK.bool],[(.vbool (.bl false))]⟩ [21]) 30 (.br (.c2 (.xbool 0) (tv 30) (tl 0))
 (.ret 0 (sg 18 [bt 18 (tl 7)]))
 (.mop (.put 21 (tv 22) [(.icell (tv 13) (tv 24) 0)] [(.vbool (.bl true))] ⟨false,[.i64],false,[CK.bool],[(.vbool (.bl false))]⟩) 31 (.back 0 21 (sg 1000 [bg 1000 31,bt 1003 (.arith .add .i64 (tv 24) (tl 1)),bv 1001 22,bg 1002 23])) .top)) .top)))) .top))))))
 (.br (.cmp .lss (tv 11) (tv 0))
 (.ret 0 (sg 18 [bt 18 (tl 12)]))
 (.ret 0 (sg 18 [bt 18 (tl 0)])))))))) .top))
theorem q8e:qn Tryz.prog qlc [qfV] [q7f] q3b:=qh Tryz.func75 Tryz.call75 (by kernel_rfl)
@[simp] def qq9:Sg:=sg 0 [bg 10 17,bv 9 16,bv 8 15,bv 1 1,bv 7 14,bv 6 13,bg 5 12,bv 4 5,bv 3 4,bv 2 2,bg 0 0]
@[simp] def qyg:Sg:=sg 0 [bv 7 19,bt 5 (tl 0),bt 4 .dnil,bt 3 (tl 0),bt 2 (tl 0),bt 1 (tl 0),(0,.nil),bg 6 18]
@[simp] def qxV:Out:=.ret 0 (sg 20 [bt 22 (tl 0),bt 23 .dnil,bv 25 24,bt 24 (tl 20),bt 26 (tl 0),bt 21 (tl 0),(20,.nil)])
@[simp] def qyN:Sg:=sg 0 [bv 17 19,bg 15 17,bv 14 16,bv 13 15,bv 9 11,bv 8 10,bv 12 14,bv 11 13,bg 10 12,bv 7 9,bv 6 8,bg 5 7,bv 3 5,bv 2 4,bv 1 3,bv 0 2,bt 4 (r8 6),bg 16 18]
def q6E:Out:=(.fresh 20 (.br (.and (.cmp .eql (.dlen (tv 1)) (tl 0)) (.isnil 0))
 (.ret 0 (sg 20 [bt 22 (tl 0),bt 23 .dnil,bv 25 1,bt 24 (tl 1),bt 26 (tl 0),bt 21 (tl 0),(20,.nil)]))
 (.pre 0 (sg 0 [bv 9 11,bv 8 10,bv 7 9,bv 6 8,bg 5 7,bv 3 5,bv 2 4,bv 1 3,bv 0 2,bt 4 (r8 6)]) (.both (.fresh 21 (.post 0 0 (sg 0 [bv 9 11,bv 8 10,bv 7 9,bv 6 8,bg 5 7,bv 3 5,bv 2 4,bv 1 3,bv 0 2,bt 4 (r8 6)]) 21 (.br (.cmp .neq (tv 21) (tl 0))
 (.ret 0 (sg 20 [bt 22 (tl 0),bt 23 .dnil,bv 25 1,bv 24 21,bt 26 (tl 0),bt 21 (tl 0),(20,.nil)]))
 (.pre 1 qyN (.both (.fresh 22 (.post 1 0 qyN 22 (.br (.cmp .neq (tv 22) (tl 0))
 (.ret 0 (sg 20 [bt 22 (tl 0),bt 23 .dnil,bv 25 1,bv 24 22,bt 26 (tl 0),bt 21 (tl 0),(20,.nil)]))
 (.pre 2 qq9 (.both (fr 23 2 (.post 2 0 qq9 23 (.br (.cmp .neq (tv 23) (tl 0))
 (.ret 0 (sg 20 [bt 22 (tl 0),bt 23 .dnil,bv 25 24,bv 24 23,bt 26 (tl 0),bt 21 (tl 0),(20,.nil)]))
 (.both (.pre 3 qyg (.both (.fresh 25 (.post 3 0 qyg 25 (.br (.not (.c2 .req (r8 25) (r8 6)))
 qxV
 (.ret 0 (sg 20 [bt 22 (tl 0),bt 23 .dnil,bv 25 24,bt 24 (tl 0),bt 26 (tl 0),bt 21 (tl 0),(20,.nil)]))))) .top)) .top)))) (.both (fr 23 4 (.post 2 1 qq9 23 (.both (.know (.cmp .leq (.dlen (tv 25)) (tv 26)) (.pre 3 (sg 0 [bv 7 19,bv 5 26,bv 4 25,bv 3 5,bv 2 5,bt 1 (tl 0),bg 0 23,bg 6 18]) (.both (.fresh 27 (.post 3 0 (sg 0 [bv 7 19,bv 5 26,bv 4 25,bv 3 5,bv 2 5,bt 1 (tl 0),bg 0 23,bg 6 18]) 27 (.br (.not (.c2 .req (r8 27) (r8 6)))
 qxV
 (.ret 0 (sg 20 [bv 22 26,bv 23 25,bv 25 24,bt 24 (tl 0),bv 26 5,bv 21 5,bg 20 23]))))) .top))) .top))) .top)))))) .top))))) .top))))
theorem q9R:qn Tryz.prog qqI [qcI,qlc,qgH,qcG] [] q6E:=qh Tryz.func19 Tryz.call19 (by kernel_rfl)
@[simp] def qqU:Sg:=sg 0 [bg 10 17,bv 9 16,bv 8 15,bv 1 1,bv 7 20,bv 6 14,bv 5 13,bg 4 12,bv 3 4,bv 2 2,bg 0 0]
@[simp] def qyu:Out:=.ret 0 (sg 21 [bt 25 .dnil,bv 27 1,bt 26 (tl 2),bt 24 (tl 0),bt 23 (tl 0),(22,.nil),bt 21 (tl 0)])
@[simp] def qyJ:Sg:=sg 0 [bv 8 19,bt 6 (tl 0),bt 5 .dnil,bt 4 (tl 0),bt 3 (tl 0),bt 2 (tl 0),(1,.nil),bv 0 20,bg 7 18]
@[simp] def qzk:Sg:=sg 0 [bv 17 19,bg 15 17,bv 14 16,bv 13 15,bv 9 11,bv 8 10,bv 12 14,bv 11 13,bg 10 12,bv 7 9,bv 6 8,bg 5 7,bv 3 5,bv 2 4,bv 1 3,bv 0 2,bt 4 (r8 6),bg 16 18]
@[simp] def qyG:T:=.rcons (i8 10 20 0) (.rcons (i8 10 20 1) (.rcons (i8 10 20 2) (.rcons (i8 10 20 3) (.rcons (i8 10 20 4) (.rcons (i8 10 20 5) (.rcons (i8 10 20 6) (.rcons (i8 10 20 7) (.rcons (i8 10 20 8) (.rcons (i8 10 20 9) (.rcons (i8 10 20 10) (.rcons (i8 10 20 11) (.rcons (i8 10 20 12) (.rcons (i8 10 20 13) (.rcons (i8 10 20 14) (.rcons (i8 10 20 15) (.rcons (i8 10 20 16) (.rcons (i8 10 20 17) (.rcons (i8 10 20 18) (.rcons (i8 10 20 19) (.rcons (i8 10 20 20) (.rcons (i8 10 20 21) (.rcons (i8 10 20 22) (.rcons (i8 10 20 23) (.rcons (i8 10 20 24) (.rcons (i8 10 20 25) (.rcons (i8 10 20 26) (.rcons (i8 10 20 27) (.rcons (i8 10 20 28) (.rcons (i8 10 20 29) (.rcons (i8 10 20 30) (.rcons (i8 10 20 31) .rnil)))))))))))))))))))))))))))))))
def q6H:Out:=(fr 21 2 (.br (.and (.cmp .eql (.dlen (tv 1)) (tl 0)) (.isnil 0))
 (.ret 0 (sg 21 [bt 25 .dnil,bv 27 1,bt 26 (tl 1),bt 24 (tl 0),bt 23 (tl 0),(22,.nil),bt 21 (tl 0)]))
 (.pre 0 (sg 0 [bv 9 11,bv 8 10,bv 7 9,bv 6 8,bg 5 7,bv 3 5,bv 2 4,bv 1 3,bv 0 2,bt 4 (r8 6)]) (.both (.fresh 23 (.post 0 0 (sg 0 [bv 9 11,bv 8 10,bv 7 9,bv 6 8,bg 5 7,bv 3 5,bv 2 4,bv 1 3,bv 0 2,bt 4 (r8 6)]) 23 (.br (.cmp .neq (tv 23) (tl 0))
 (.ret 0 (sg 21 [bt 25 .dnil,bv 27 1,bv 26 23,bt 24 (tl 0),bt 23 (tl 0),(22,.nil),bt 21 (tl 0)]))
 (.br (.cmp .lss (tv 20) (tl 0))
 qyu
 (.br (.cmp .geq (tv 20) (tv 4))
 qyu
 (.pre 1 qzk (.both (.fresh 24 (.post 1 0 qzk 24 (.br (.cmp .neq (tv 24) (tl 0))
 (.ret 0 (sg 21 [bt 25 .dnil,bv 27 1,bv 26 24,bt 24 (tl 0),bt 23 (tl 0),(22,.nil),bt 21 (tl 0)]))
 (.pre 2 qqU (.both (fr 25 2 (.post 2 0 qqU 25 (.fresh 27 (.br (.cmp .neq (tv 25) (tl 0))
 (.ret 0 (sg 21 [bt 25 .dnil,bv 27 26,bv 26 25,bt 24 (tl 0),bt 23 (tl 0),(22,.nil),bt 21 (tl 0)]))
 (.need (.cmp .leq (tl 0) (tv 20)) (.need (.cmp .lss (tv 20) (tv 8)) (.need (.cmp .lss (tv 20) (.dlen (tv 10))) (.both (.pre 3 qyJ (.both (.fresh 28 (.post 3 0 qyJ 28 (.br (.not (.c2 .req (r8 28) qyG))
 (.ret 0 (sg 21 [bt 25 .dnil,bv 27 26,bt 26 (tl 20),bt 24 (tl 0),bt 23 (tl 0),(22,.nil),bt 21 (tl 0)]))
 (.ret 0 (sg 21 [bt 25 .dnil,bv 27 26,bt 26 (tl 0),bt 24 (tl 0),bt 23 (tl 0),(22,.nil),bt 21 (tl 0)]))))) .top)) .top)))))))) (.both (fr 25 5 (.post 2 1 qqU 25 (.fresh 30 (.need (.cmp .leq (tl 0) (tv 20)) (.need (.cmp .lss (tv 20) (tv 8)) (.need (.cmp .lss (tv 20) (.dlen (tv 10))) (.both (.know (.cmp .leq (.dlen (tv 29)) (tv 27)) (.pre 3 (sg 0 [bv 8 19,bv 6 27,bv 5 29,bv 4 27,bv 3 26,bt 2 (tl 0),bg 1 25,bv 0 20,bg 7 18]) (.both (.fresh 31 (.post 3 0 (sg 0 [bv 8 19,bv 6 27,bv 5 29,bv 4 27,bv 3 26,bt 2 (tl 0),bg 1 25,bv 0 20,bg 7 18]) 31 (.br (.not (.c2 .req (r8 31) qyG))
 (.ret 0 (sg 21 [bt 25 .dnil,bv 27 28,bt 26 (tl 20),bt 24 (tl 0),bt 23 (tl 0),(22,.nil),bt 21 (tl 0)]))
 (.ret 0 (sg 21 [bv 25 29,bv 27 28,bt 26 (tl 0),bv 24 27,bv 23 26,bg 22 25,bv 21 20]))))) .top))) .top))))))) .top)))))) .top))))))) .top))))
theorem qAb:qn Tryz.prog qqE [qcI,qlc,qfv,qdg] [] q6H:=qh Tryz.func92 Tryz.call92 (by kernel_rfl)
def qwy:Out:=(.br (.cmp .lss (tv 0) (tl 0))
 (.stuck 15 0 0)
 (.br (.cmp .gtr (.arith .sub .i64 (tv 0) (tl 0)) (tl 0))
 (.need (.cmp .leq (tl 0) (.arith .sub .i64 (tv 0) (tl 0))) (.need (.cmp .leq (.tims (tl 1) (.arith .sub .i64 (tv 0) (tl 0))) (tl 140737488355328)) (fr 1 2 (.know (.cmp .leq (.dlen (.drep (.arith .sub .i64 (tv 0) (tl 0)) (.rcons (.vint .u8 (tl 0)) .rnil))) (tv 2)) (.need (.cmp .leq (tl 0) (tv 2)) (.ret 0 (sg 1 [bt 2 (.drep (.arith .sub .i64 (tv 0) (tl 0)) (.rcons (.vint .u8 (tl 0)) .rnil)),bv 3 2,bg 1 1])))))))
 (.ret 0 (sg 1 [bt 2 .dnil,bt 3 (tl 0),(1,.nil)]))))
theorem q4e:qn Tryz.prog qjx [] [] qwy:=qh Tryz.func135 Tryz.call135 (by kernel_rfl)
def qpI:Out:=(.need (.cmp .leq (tl 0) (tv 1)) (.inv 0 6 (sg 1000 [bt 1000 (tl 0),bt 1001 (tl 0)]) (fr 6 2 (.hyp 0 6 (.br (.cmp .lss (tv 6) (tv 1))
 (.need (.cmp .leq (tl 0) (tv 6)) (.need (.cmp .lss (tv 6) (.dlen (tv 3))) (.view (.vcell (tv 3) (tv 6) 0) [CK.int .u8] [5] 8 (.br (.cmp .lss (.arith .add .i64 (tv 7) (.dlen (tv 10))) (tl 0))
 (.stuck 15 0 0)
 (.back 0 6 (sg 1000 [bt 1000 (.arith .add .i64 (tv 6) (tl 1)),bt 1001 (.arith .add .i64 (tv 7) (.dlen (tv 10)))]))))))
 (.pre 0 (sg 0 [bv 0 7]) (.both (fr 8 3 (.post 0 0 (sg 0 [bv 0 7]) 8 (.inv 1 11 (sg 1000 [bv 1003 9,bt 1004 (tl 0),bv 1002 10,bt 1001 (tl 0),bg 1000 8]) (fr 11 5 (.hyp 1 11 (.br (.cmp .lss (tv 15) (tv 1))
 (.need (.cmp .leq (tl 0) (tv 15)) (.need (.cmp .lss (tv 15) (.dlen (tv 3))) (.view (.vcell (tv 3) (tv 15) 0) [CK.int .u8] [5] 16 (.need (.cmp .eql (tv 12) (.dlen (.dtake (tv 14) (tv 12)))) (.need (.cmp .leq (.tims (tl 1) (.plus (tv 12) (.dlen (tv 18)))) (tl 140737488355328)) (fr 19 2 (.back 1 11 (sg 1000 [bt 1003 (.dapp (.dtake (tv 14) (tv 12)) (tv 18)),bt 1004 (.arith .add .i64 (tv 15) (tl 1)),bv 1002 20,bt 1001 (.plus (tv 12) (.dlen (tv 18))),bg 1000 19]))))))))
 (.ret 0 (sg 6 [bv 9 14,bv 8 13,bv 7 12,bg 6 11])))))))) .top)))))))
theorem qwP:qn Tryz.prog qg9 [qjx] [qs4,qs2] qpI:=qh Tryz.func112 Tryz.call112 (by kernel_rfl)
def qoG:Out:=(.br (.and (.cmp .eql (.dlen (tv 1)) (tl 0)) (.isnil 0))
 (.ret 0 (sg 11 [bv 12 1,bt 11 (tl 1)]))
 (.pre 0 (sg 0 [bv 1 3,bv 0 2]) (.both (.fresh 11 (.post 0 0 (sg 0 [bv 1 3,bv 0 2]) 11 (.br (.not (tv 11))
 (.ret 0 (sg 11 [bv 12 1,bt 11 (tl 2)]))
 (.br (.cmp .lss (tv 4) (tl 0))
 (.ret 0 (sg 11 [bv 12 1,bt 11 (tl 2)]))
 (.br (.cmp .gtr (tv 4) (tl 8192))
 (.ret 0 (sg 11 [bv 12 1,bt 11 (tl 2)]))
 (.pre 1 (sg 0 [bv 1 4,bv 0 2]) (.both (fr 12 2 (.post 1 0 (sg 0 [bv 1 4,bv 0 2]) 12 (.pre 2 (sg 0 [bg 8 10,bv 7 9,bv 6 8,bv 5 7,bv 4 6,bg 3 5,bv 2 12,bv 1 3,bv 0 2]) (.both (.fresh 14 (.post 2 0 (sg 0 [bg 8 10,bv 7 9,bv 6 8,bv 5 7,bv 4 6,bg 3 5,bv 2 12,bv 1 3,bv 0 2]) 14 (.br (.cmp .neq (tv 14) (tl 0))
 (.ret 0 (sg 11 [bv 12 1,bv 11 14]))
 (.pre 3 (sg 0 [bg 9 10,bv 8 9,bv 7 8,bv 1 1,bv 6 7,bv 5 6,bg 4 5,bv 3 3,bv 2 2,bg 0 0]) (.both (fr 15 8 (.post 3 0 (sg 0 [bg 9 10,bv 8 9,bv 7 8,bv 1 1,bv 6 7,bv 5 6,bg 4 5,bv 3 3,bv 2 2,bg 0 0]) 15 (.fresh 23 (.pre 4 (sg 0 [bg 5 21,bv 4 2,bv 3 20,bv 2 2,bv 1 2,bg 0 15]) (.both (fr 24 4 (.post 4 0 (sg 0 [bg 5 21,bv 4 2,bv 3 20,bv 2 2,bv 1 2,bg 0 15]) 24 (.know (.cmp .leq (.dlen (tv 27)) (tv 26)) (.need (.cmp .leq (tl 0) (tv 25)) (.need (.cmp .leq (tl 0) (tv 26)) (.need (.cmp .leq (tl 0) (tv 4)) (.need (.cmp .leq (tv 4) (tv 26)) (.ret 1 (sg 11 [bv 14 26,bv 13 27,bv 12 19,bg 11 24]))))))))) .top))))) .top))))) .top)))) .top))))))) .top)))
theorem qxB:qn Tryz.prog qgH [qcb,qcY,qeE,qeF,qg9] [] qoG:=qh Tryz.func76 Tryz.call76 (by kernel_rfl)
theorem q28:qjx.ok Tryz.prog:=q4e (by simp) fun Z hg hp=>by
 obtain ⟨n0,n1⟩:=hp
 simp (config:={ maxSteps:=4000000 }) [qwy,qjx]
 rw [qep (by omega) (by omega)]
 exact ⟨n0,fun _=>⟨fun _=>⟨by omega,by omega,fun u _ h=>⟨by omega,qcU⟩⟩,fun _ r hr=>(by cases hr)⟩⟩
theorem qxe:qg9.ok Tryz.prog:=qwP (by simp [q28]) fun Z hg hp=>by
 obtain ⟨n0,n1,nd,hr1,hcol⟩:=hp
 simp (config:={ maxSteps:=4000000 }) [qpI,qg9,qs4,qs2,qjx]
 have hle:∀ i:Nat,(i:Int) <= (Z 1).i->(qbP (qa2 (Z 5).h (Z 3).d) i).length <= i * 9000:=fun i hi=>qyR fun j hj=>(hcol j (by omega)).2
 have hat:∀ i:Int,0 <= i->i < (Z 1).i->∃ d,Rd (Z 5).h kB (qF (Z 3).d i 0) d/\qp d/\qa2 (Z 5).h (Z 3).d i.toNat = bI d/\d.length <= 9000:=fun i i0 i1=>by
  obtain ⟨d,h1,h2,h3⟩:=qvp (hcol i.toNat (by omega)).1 i0
  refine ⟨d,h1,h2,h3,?_⟩
  have:=(hcol i.toNat (by omega)).2
  rwa [h3,bI_len] at this
 have hnext:∀ i:Int,0 <= i->qbP (qa2 (Z 5).h (Z 3).d) (i + 1).toNat = qbP (qa2 (Z 5).h (Z 3).d) i.toNat ++ qa2 (Z 5).h (Z 3).d i.toNat:=fun i i0=>by
  rw [show (i + 1).toNat = i.toNat + 1 by omega]; rfl
 refine ⟨n0,⟨n0,rfl⟩,fun i _ t _ i0 i1 ht=>⟨fun hi=>?_,fun hi=>?_⟩⟩
 ·obtain ⟨d,h1,h2,h3,h4⟩:=hat i.i i0 hi
  have h5:=hle i.i.toNat (by omega)
  have e1:qe .add .i64 t.i (d.length:Int) = t.i + d.length:=add64 (by omega) (by omega)
  have e2:qe .add .i64 i.i 1 = i.i + 1:=add64 (by omega) (by omega)
  refine ⟨i0,by omega,d,h1,?_⟩
  rw [e1,e2]
  exact ⟨by omega,fun _=>⟨⟨by omega,by omega,by rw [hnext _ i0,jal,h3,bI_len]; omega⟩,by omega⟩⟩
 ·have h5:=hle i.i.toNat (by omega)
  refine ⟨⟨by omega,by omega⟩,fun u _ hGB=>⟨⟨n0,rfl,fun r hr=>(by cases hr),rfl,hGB⟩,fun l _ D _ j _ j0 j1 hl hlD hB hb hBB=>⟨fun hj=>?_,fun hj=>?_⟩⟩⟩
  ·obtain ⟨d,h1,h2,h3,h4⟩:=hat j.i j0 hj
   have h6:=hle j.i.toNat (by omega)
   have hmin:min l.i.toNat D.d.length = l.i.toNat:=jcg (by omega)
   rw [hmin]
   have e2:qe .add .i64 j.i 1 = j.i + 1:=add64 (by omega) (by omega)
   rw [e2]
   have htk:(D.d.take l.i.toNat ++ d).take (l.i + (d.length:Int)).toNat = D.d.take l.i.toNat ++ d:=jar (by rw [jal,jba,hmin]; omega)
   refine ⟨j0,by omega,d,h1,?_⟩
   rw [htk]
   exact ⟨by omega,by omega,⟨by omega,by omega,by rw [hnext _ j0,jal,h3,bI_len]; omega,by omega,qka hB h2,by rw [qpJ,hb,hnext _ j0,h3],qka hB h2⟩,by omega⟩
  ·have he:j.i = (Z 1).i:=by omega
   rw [he] at hl hb
   exact ⟨hl,hlD,hB,hb,hBB⟩
theorem q7t {h:Hp} {D:qd} {k total n size:Int} (hp:qhm h D n) (hd:qq8 h D k total size n) (h0:0 <= size):size.toNat <= k.toNat * pcN h D 0/\pcN h D 0 <= 8192/\1 <= k/\k <= 255:=by
 obtain ⟨P,hl⟩:=q6V hp hd
 have h1:=P.k1
 have h2:=P.k2
 have h3:=P.k3
 have h8:=P.sol.2.2.2.2.2.1
 refine ⟨?_,h8,h1,by omega⟩
 rw [hl]
 exact qjj (by omega)
theorem q4y {k size:Int} {a b:Int} (k1:1 <= k) (k2:k <= 255) (s0:0 <= size) (s1:size <= 8192) (h:¬ qcX k size->a = (size + k - 1).tdiv k/\b = 0):a = plI k size/\b = 0:=by
 obtain ⟨h1,h2⟩:=h (by unfold qcX; omega)
 refine ⟨?_,h2⟩
 have hd:=qli (k:=k) (n:=size.toNat) k1
 rw [jay s0] at hd
 rw [h1,hd]; rfl
theorem qxt:qgH.ok Tryz.prog:=qxB (by simp [qhh,qkT,qpT,qpB,qxe]) fun Z hg hp=>by
 obtain ⟨hf,hpre⟩:=hp
 have hpre':=hpre
 obtain ⟨n0,n1,hpc⟩:=hpre'
 simp (config:={ maxSteps:=4000000 }) [qoG,qgH,qcb,qcY,qeE,qtj,qeF,qq3,qg9]
 refine ⟨fun h=>(qhi hf h).elim,fun _ b _ hb=>⟨fun h=>⟨hf,.inl ⟨.inl (by rw [<- hb,h]),rfl⟩⟩,fun h=>⟨fun hi=>⟨hf,.inl ⟨.inr (.inl hi),rfl⟩⟩,fun s0=>⟨fun hi=>⟨hf,.inl ⟨.inr (.inr hi),rfl⟩⟩,fun s1 l _ e0 _ _ hl=>?_⟩⟩⟩⟩
 have hs:qN (Z 2).i (Z 3).i = true:=by rw [<- hb,h]
 obtain ⟨k1,k2,k3⟩:=qbq.1 hs
 obtain ⟨hl,_⟩:=q4y k1 (by omega) s0 s1 hl
 rw [hl]
 refine ⟨⟨k3,n0,n1,hpc⟩,fun e _ he=>⟨fun hne=>⟨hf,.inr ⟨hs,s0,s1,he,hne⟩⟩,fun he0=>?_⟩⟩
 rw [he0] at he
 have hK:qq8 (Z 10).h (Z 8).d (Z 2).i (Z 3).i (Z 4).i (Z 6).i:=⟨hs,s0,s1,he⟩
 obtain ⟨P,hN⟩:=q6V hpre hK
 obtain ⟨hd1,hd2,_,_⟩:=q7t hpre hK s0
 refine ⟨⟨hf,P.sol⟩,fun _ _ _ _ f1 _ C _ H _ _ _ hf1 hCl hCr ht _ _=>?_⟩
 obtain ⟨c1,c2,c3⟩:=P.cat ht
 refine ⟨⟨by omega,by omega,by omega,hCr,fun j hj=>⟨(c1 j (by omega)).1,by rw [(c1 j (by omega)).2]; omega⟩⟩,fun m _ cp _ d _ hm hmd hB hb hBB hcp=>?_⟩
 rw [c2] at hm hb
 rw [c3] at hm
 have htk:(d.d.take (Z 4).i.toNat) = (d.d.take m.i.toNat).take (Z 4).i.toNat:=by rw [jfh,jcg (by omega)]
 exact ⟨by omega,by omega,s0,by omega,hf1,hK,by omega,by rw [htk]; exact qrN hB,by rw [htk,qmT,hb],hBB⟩
set_option maxRecDepth 20000
set_option maxHeartbeats 1000000 in
theorem qxT:qlc.ok Tryz.prog:=q8e (by simp [qst]) fun Z hg hp=>by
 obtain ⟨⟨⟨m0,m1,m2,m3,hl,hD⟩,⟨p0,p1,hpc⟩,hn,h9⟩,hGr,hGd⟩:=hp
 simp only [Nat.reduceAdd] at m0 m1 m2 m3 hl hD p0 p1 hpc hn h9
 simp (config:={ maxSteps:=4000000 }) [q3b,qlc,q7f,qk0,qfV,qmK,quB,qcV,gOk,qia,qdN,qaT,qeO,MK.sem,mF,hGr,hGd,hD,hl,m0,m3]
 intro u _ u1 _ v hv x hx hm
 refine ⟨p0,⟨p0,fun j hj=>by omega,q5J hx hm⟩,?_⟩
 intro H _ M _ u4 _ i _ i0 i1 hall hseen
 refine ⟨fun hi=>⟨i0,by omega,fun u6 _=>?_⟩,fun hi=>⟨fun hk=>?_,fun hk=>?_⟩⟩
 ·obtain ⟨hj,hI,d,hr,hB,hDd⟩:=q1I hpc i0 hi
  have hdl:d.length <= 9000:=by
   have:=h9 i.i.toNat (by omega)
   rwa [hDd,bI_len] at this
  refine ⟨d,hr,fun r _ c _ hv hc=>⟨⟨hc,by omega,hB⟩,fun e _ he=>?_⟩⟩
  rw [hI,<- hDd] at he
  refine ⟨fun hne=>q56 i0 hj hall he hne,fun h0=>?_⟩
  obtain ⟨b,l,ck,hM,hmap,ht,hs⟩:=hseen
  refine ⟨l,.inr ⟨b,hM,ck,hmap⟩,?_⟩
  have hz:∀ (Z:Env) (b:Bool),qc Z [.vbool (.bl b)] = [.bool b]:=fun _ _=>rfl
  have hcx:∀ b:Bool,qaq [[Value.bool b]] 0 = b:=fun _=>rfl
  rw [h0] at he
  simp only [hz,q2j ht,hI,hcx]
  refine ⟨fun h7=>q1k i0 hj hall he.symm ((hs _).1 h7),fun hno=>⟨b,hM,l,ck,hmap,fun u' _ hu'=>?_⟩⟩
  rw [add64 (x:=i.i) (by omega) (by omega)]
  refine ⟨⟨by omega,by omega,q2t i0 hall he.symm fun l' hl' h=>?_,?_⟩,by omega⟩
  ·rw [(hs _).2 ⟨l',hl',h⟩] at hno; cases hno
  ·rw [show (i.i + 1).toNat = i.i.toNat + 1 by omega]
   exact q4k hM hmap ht hs rfl hu'
 ·exact qv4 (by omega) hall (.inl ⟨by omega,rfl⟩)
 ·exact qv4 (by omega) hall (.inr ⟨by omega,rfl⟩)
set_option maxHeartbeats 1000000 in
theorem q9F:qqE.ok Tryz.prog:=qAb (by simp [qi9,qxT,qtG,qlf]) fun Z hg hp=>by
 obtain ⟨hf,⟨m0,m1,m2,m3,hl,hD⟩,⟨⟨p0,p1,hpc⟩,hn,h9⟩,⟨hGr,hGd⟩,hx⟩:=hp
 simp only [Nat.reduceAdd] at m0 m1 m2 m3 hl hD p0 p1 hpc hn h9
 have hne:=qhi hf
 simp (config:={ maxSteps:=4000000 }) [q6H,qqE,qcI,qlc,qk0,qrd,qoh,psP,qfv,qdg,qhm,qia,qdN,qaT,gOk,mF,qq2,mOk,q6t,hf,hne,hGr,hGd,hD,hl,m0,m1,m2,m3,hx,p0,p1,hpc]
 cases hM:qz (Z 2).i (Z 3).i (Z 4).i (Z 5).i ((Z 10).d.length:Int)
 ·intro u2 _ hu2
  simp only [jap,ja8] at hu2
  exact ⟨fun _=>by rw [hu2]; exact q6z rfl,fun h=>by omega⟩
 ·intro u2 _ hu2
  simp only [jby] at hu2
  refine ⟨fun h=>absurd hu2 h,fun _=>⟨fun hx=>quE (.inl hx),fun x0=>⟨fun hx=>quE (.inr hx),fun x1=>⟨⟨hn,h9⟩,fun u3 _ hC=>⟨fun hne=>q5s rfl x0 x1 hC hne,fun h0=>?_⟩⟩⟩⟩⟩
  rw [h0] at hC
  have hK:=q5o hC hM hn x0 x1
  obtain ⟨k1,k2,k3,k4,s0,s1,htl⟩:=qbw.1 hM
  have hcz:=(qrP hC).2
  have h90:=h9 0 (by omega)
  have hrow:qmZ (Z 10).d (Z 20).i = (dgs (Z 10).d)[(Z 20).i.toNat]?.getD []:=by rw [qsh x0 (by omega),jab]
  refine ⟨fun u4 _ u5 _ _ hE=>(q8q hK hE).elim,fun n' _ c _ f2 _ d _ hf2 _ hnd hdl hdB hdb=>⟨x0,by omega,fun hcap=>⟨⟨by omega,by omega,by unfold pcN at hdl; omega,by omega,hdB⟩,fun u10 _ hs=>?_⟩⟩⟩
  rw [hs,qhY hnd,hdb,hrow]
  exact ⟨fun h=>⟨hf2,q4p rfl x0 x1 hC h⟩,fun h=>⟨hf2,q7w rfl x0 x1 hC h hnd hdB hdb⟩⟩
set_option maxHeartbeats 1000000 in
theorem q90:qqI.ok Tryz.prog:=q9R (by simp [qi9,qxT,qxt,qiO]) fun Z hg hp=>by
 obtain ⟨hf,⟨m0,m1,m2,m3,hl,hD⟩,hO,⟨⟨p0,p1,hpc⟩,hn,h9⟩,⟨hGr,hGd⟩⟩:=hp
 simp only [Nat.reduceAdd] at m0 m1 m2 m3 hl hD p0 p1 hpc hn h9
 have hne:=qhi hf
 simp (config:={ maxSteps:=4000000 }) [q6E,qqI,qcI,qlc,qk0,qrd,qoh,psP,qgH,qcG,qjL,qhm,qia,qdN,qaT,gOk,mF,qq2,mOk,q5S,hf,hne,hGr,hGd,hD,hl,hO,m0,m1,m2,m3,p0,p1,hpc]
 cases hM:qz (Z 2).i (Z 3).i (Z 4).i (Z 5).i ((Z 10).d.length:Int)
 ·intro u2 _ hu2
  simp only [jap,ja8] at hu2
  exact ⟨fun hne=>qtK (by rw [hu2]; exact q61 rfl) hne,fun h=>by omega⟩
 ·intro u2 _ hu2
  simp only [jby] at hu2
  refine ⟨fun h=>absurd hu2 h,fun _=>⟨⟨hn,h9⟩,fun u3 _ hC=>⟨fun hne=>qtK (q5c rfl hC hne) hne,fun h0=>?_⟩⟩⟩
  rw [h0] at hC
  have hK:=q4E hC hM hn
  obtain ⟨k1,k2,k3,k4,s0,s1,htl⟩:=qbw.1 hM
  refine ⟨fun u4 _ u5 _ _ hE=>(q8N hK hE).elim,fun f2 _ d _ c _ hf2 _ hsz hB hb hBB hcap=>⟨⟨s0,by omega,hsz,hBB⟩,fun u10 _ hs=>?_⟩⟩
  have hsg:qbT d.d 0 (Z 5).i = bI (d.d.take (Z 5).i.toNat):=by rw [qmT]; rfl
  rw [hs,hsg,hb]
  exact ⟨fun h=>⟨hf2,qtK (q5y rfl hC h) (by decide)⟩,fun h=>⟨hf2,q7y (q7m rfl hC h) s0 hsz hBB hb⟩⟩
end Go.Proofs
namespace Go.Eng
open Go Go.ChangeShapes Go.WideShapes Go.ChangeAt Go.RowKit
structure Grew (W w':World):Prop where
 os:w'.os = W.os
 out:w'.output = W.output
 blk:∀ (b:Nat) (o:Obj),W.heap[b]? = some o->w'.heap[b]? = some o
theorem Grew.block {W w':World} (h:Grew W w') {i:Nat} (hi:i < W.heap.size):w'.heap[i]? = W.heap[i]?:=by
 rw [jcn hi]; exact h.blk i _ (jcn hi)
theorem Grew.kept {W w':World} (h:Grew W w') (may:MemPlace->Prop):W.keptBut w' may:=by
 refine ⟨h.os,h.out,fun i hi=>?_⟩
 rw [h.block hi,jcn hi]
 cases W.heap[i] <;> simp
theorem Grew.trodAll {H:Type} {enc:TypeId × Value->H} {P:Program} {W W':World} (hg:Grew W W') (hl:laidOutB P = true) {sp:Nat->Bool}:∀ {ts:List TypeId} {vs:List Value} {ds:List (DataW H)} {ps:List MemPlace},
  (∀ t ∈ ts,P.readableRec t = true/\t < P.types.size)->DataW.TrodAll enc P W 0 (fun _=>true) true ts vs ds ps->(∀ p ∈ ps,p.block < W.heap.size)->(∀ p ∈ ps,sp p.block = true) ->
  DataW.TrodAll enc P W' 0 sp true ts vs ds ps
 | [],[],[],_,_,h,_,_=>h
 | _ :: _,_ :: _,_ :: _,_,hT,⟨p,q,h1,h2,e⟩,hlt,hs=>by
  subst e
  refine ⟨p,q,?_,Grew.trodAll hg hl (fun t ht=>hT t (jad _ ht)) h2 (fun x hx=>hlt x (jcq _ hx)) (fun x hx=>hs x (jcq _ hx)),rfl⟩
  have hr:=hT _ (jae ..)
  refine WideElems.Trod_stays hl hr.1 hr.2 h1 (fun x hx=>?_) (fun x hx=>hs x (jb3 _ hx))
  have hb:=hg.block (hlt x (jb3 _ hx))
  cases x with
  | cell b o=>exact World.cell?_of_block (w:=W) hb
  | map b=>exact hb
theorem q3d {P:Program} {c:Ctr} (hok:c.ok P) (hheap:c.heap = []) (halts:∀ al ∈ c.alts,al.ret = .one (.vbool (.bl true))) {Z:Env} (hg:Z.good) (W:World)
  (hro:∀ x ∈ c.ro,x.roden Z (fun b=>W.heap[b]?)) (hpre:c.pre Z) :
  Calls P c.fn (c.args.map (SV.den Z)).toArray W fun e W'=>e = .returned (.bool true)/\Grew W W':=by
 have h:=hok.2 Z W ⟨fun b=>W.heap[b]?,W.os,W.output⟩ Hp.emp hg (Hp.disj_emp _)
  ⟨fun b o hb=>by simpa [Hp.union,Hp.emp] using hb,rfl,rfl⟩ (by rw [hheap]; trivial) hro hpre
 refine h.mono fun e w' hq=>?_
 obtain ⟨ai,al,Z',hal,_,_,rfl,_,hO,_,_,hsub,hwi⟩:=hq
 refine ⟨by rw [halts al (jbi hal)]; rfl,⟨hwi.1,hwi.2,fun b o hb=>hsub b o ?_⟩⟩
 simp [Hp.union,hb]
theorem q4K {H:Type} {enc:TypeId × Value->H} {P:Program} {f:Func} {s:ChangeSpec} {W W':World} {args:Array Value} {ds gs:List (DataW H)} {before:List MemPlace} {bt:TypeId}
  (hl:laidOutB P = true) (hT:∀ t ∈ f.params.toList,P.readableRec t = true/\t < P.types.size) (hvars:s.vars = []) (hrt:f.resultTypes = #[bt]) (hbt:P.underlying bt = some .bool)
  (hfn:∀ ds':List (DataW H),ds'.length = f.params.size->s.fn H ds' = { results:=[.lit (.bool true)],args:=ds' })
  (hW:DataW.Whole enc P f.params.toList s.vars false W args.toList ds gs before) (hg:Grew W W'):s.post enc P f false true false false W args (.bool true) W':=by
 have hlt:=hW.lt
 have hW0:=hW
 obtain ⟨p,q,hA,hV,hpq,hz,hn⟩:=hW
 rw [hvars] at hV
 obtain ⟨rfl,rfl⟩:=trodVars_none hV
 have hlen:ds.length = f.params.size:=by
  have:∀ {ts:List TypeId} {vs:List Value} {ds:List (DataW H)} {ps:List MemPlace},DataW.TrodAll enc P W 0 (fun _=>true) true ts vs ds ps->ds.length = ts.length:=by
   intro ts
   induction ts with
   | nil=>intro vs ds ps h; cases vs <;> cases ds <;> simp_all [DataW.TrodAll]
   | cons t ts ih =>
    intro vs ds ps h
    cases vs <;> cases ds <;> simp_all [DataW.TrodAll]
    obtain ⟨p,q,_,h2,_⟩:=h
    exact ih h2
  simpa using this hA
 have hlt':∀ x ∈ p,x.block < W.heap.size:=fun x hx=>hlt x (by rw [hpq]; exact jb3 _ hx)
 refine ⟨ds,[],before,[],p,[],hW0,?_,?_,?_,hg.kept _,fun h=>by cases h⟩
 ·rw [jc4,hfn ds hlen,hrt]
  exact ⟨[],[],⟨1,by simp [DataW.trod,hbt,Value.cells]⟩,rfl,rfl⟩
 ·rw [jc4,hfn ds hlen]
  exact hg.trodAll hl hT hA hlt' (fun x hx=>by simpa using hlt' x hx)
 ·rw [jc4,hfn ds hlen,hvars]
  rfl
theorem q6s {H:Type} {enc:TypeId × Value->H} {P:Program} {f:Func} {s:ChangeSpec} {c:Ctr} {W:World} {args:Array Value} {ds gs:List (DataW H)} {before:List MemPlace} {bt:TypeId} {Z:Env}
  (hok:c.ok P) (hheap:c.heap = []) (halts:∀ al ∈ c.alts,al.ret = .one (.vbool (.bl true)))
  (hl:laidOutB P = true) (hT:∀ t ∈ f.params.toList,P.readableRec t = true/\t < P.types.size) (hvars:s.vars = []) (hrt:f.resultTypes = #[bt]) (hbt:P.underlying bt = some .bool)
  (hfn:∀ ds':List (DataW H),ds'.length = f.params.size->s.fn H ds' = { results:=[.lit (.bool true)],args:=ds' })
  (hW:DataW.Whole enc P f.params.toList s.vars false W args.toList ds gs before)
  (hg:Z.good) (hargs:args = (c.args.map (SV.den Z)).toArray) (hro:∀ x ∈ c.ro,x.roden Z (fun b=>W.heap[b]?)) (hpre:c.pre Z) :
  Calls P c.fn args W fun e W'=>∃ v,e = .returned v/\s.post enc P f false true false false W args v W':=by
 rw [hargs]
 refine (q3d hok hheap halts hg W hro hpre).mono fun e W' ⟨he,hgr⟩=>⟨_,he,?_⟩
 rw [<- hargs]
 exact q4K hl hT hvars hrt hbt hfn hW hgr
def qqo (P:Program) (f:TypeId->Option (List CK)):List Field->Nat->Option (List CK)
 | [],_=>some []
 | x :: fs,off =>
  if Nat.beq x.offset off then
   match f x.type with
   | some p=>if Nat.beq p.length (P.cellsOf x.type) then (qqo P f fs (off + p.length)).map (p ++ ·) else none
   | none=>none
  else none
def qmx (p:List CK):Nat->List CK
 | 0=>[]
 | n + 1=>p ++ qmx p n
def qje (P:Program):Nat->TypeId->Option (List CK)
 | 0,_=>none
 | n + 1,t =>
  match P.underlying t with
  | some (.int k)=>some [.int k]
  | some .bool=>some [.bool]
  | some .string=>some [.any]
  | some (.slice _)=>some [.any]
  | some (.pointer _)=>some [.any]
  | some (.struct fs)=>match qqo P (qje P n) fs.toList 0 with
   | some p=>if Nat.beq p.length (P.cellsOf t) then some p else none
   | none=>none
  | some (.array m e)=>match qje P n e with
   | some p=>if Nat.beq p.length (P.cellsOf e) && Nat.beq (P.cellsOf t) (m * P.cellsOf e) then some (qmx p m) else none
   | none=>none
  | _=>none
theorem qjT {p q:List CK} {cs:List Value} (h1:qv p (cs.take p.length)) (h2:qv q (cs.drop p.length)):qv (p ++ q) cs:=by
 obtain ⟨a1,a2⟩:=h1
 obtain ⟨b1,b2⟩:=h2
 have hle:p.length <= cs.length:=by simp at a1; omega
 refine ⟨by simp at a1 b1 ⊢; omega,fun c k v hk hv=>?_⟩
 by_cases hc:c < p.length
 ·rw [jau hc] at hk
  exact a2 c k v hk (by rw [jbf,jah hc]; exact hv)
 ·rw [jao (by omega)] at hk
  exact b2 (c - p.length) k v hk (by rw [jbe,show p.length + (c - p.length) = c by omega]; exact hv)
section
variable {H:Type} {enc:TypeId × Value->H} {P:Program} {w:World} {base:Nat} {spare:Nat->Bool} {held:Bool}
theorem qf8 {v:Value} (h:v.oneCell' = true):qv [.any] [v]:=⟨rfl,fun c k v' hk hv=>by
 cases c with
 | zero=>simp at hk hv; subst hk; subst hv; exact h
 | succ c=>simp at hk⟩
theorem qoV {f:TypeId->Option (List CK)} {cs:List Value} (hf:∀ t p,f t = some p->∀ cs',(∃ fuel x,DataW.trod enc P w base spare held fuel t cs' = some x)->qv p cs') :
  ∀ {fs:List Field} {off:Nat} {p:List CK},qqo P f fs off = some p->(∀ x ∈ fs,∃ fuel y,DataW.trod enc P w base spare held fuel x.type ((cs.drop x.offset).take (P.cellsOf x.type)) = some y)->off + p.length = cs.length->qv p (cs.drop off)
 | [],off,p,h,_,hl=>by
  simp only [qqo,jaa] at h; subst h
  simp at hl
  refine ⟨by simp; omega,fun c k v hk=>by simp at hk⟩
 | x :: fs,off,p,h,ht,hl=>by
  simp only [qqo] at h
  split at h
  ·rename_i ho
   have ho:=Nat.eq_of_beq_eq_true ho
   split at h
   ·rename_i p1 hp1
    split at h
    ·rename_i hc
     have hc:=Nat.eq_of_beq_eq_true hc
     simp only [jai] at h
     obtain ⟨p2,hp2,rfl⟩:=h
     simp only [jal] at hl
     have h1:=hf x.type p1 hp1 _ (ht x (jae ..))
     rw [ho,<- hc] at h1
     have h2:=qoV hf hp2 (fun y hy=>ht y (jad _ hy)) (by omega)
     exact qjT h1 (by rw [jfx]; exact h2)
    ·simp at h
   ·simp at h
  ·simp at h
theorem qnB {p:List CK}:∀ {m:Nat} {cs:List Value},cs.length = m * p.length->(∀ i,i < m->qv p ((cs.drop (i * p.length)).take p.length))->qv (qmx p m) cs
 | 0,cs,hl,_=>by
  simp at hl; subst hl
  exact ⟨rfl,fun c k v hk=>by simp [qmx] at hk⟩
 | m + 1,cs,hl,h=>by
  simp only [qmx]
  refine qjT (by simpa using h 0 (by omega)) (qnB (by rw [jch,hl,jbc]; omega) fun i hi=>?_)
  rw [jfx,show p.length + i * p.length = (i + 1) * p.length by rw [jbc]; omega]
  exact h (i + 1) (by omega)
theorem qmz:∀ (n:Nat) {t:TypeId} {pat:List CK},qje P n t = some pat->∀ cs,(∃ fuel x,DataW.trod enc P w base spare held fuel t cs = some x)->qv pat cs
 | 0,t,pat,h,_,_=>by simp [qje] at h
 | n + 1,t,pat,h,cs,⟨fuel,x,hx⟩=>by
  simp only [qje] at h
  split at h
  ·rename_i k hu
   simp only [jaa] at h; subst h
   obtain ⟨z,rfl,_,_⟩:=DataW.trod_int hu hx
   refine ⟨rfl,fun c k' v hk hv=>?_⟩
   cases c with
   | zero=>simp at hk hv; subst hk; subst hv; simp [CK.fits]
   | succ c=>simp at hk
  ·rename_i hu
   simp only [jaa] at h; subst h
   cases fuel with
   | zero=>simp [DataW.trod] at hx
   | succ m =>
    unfold DataW.trod at hx
    rw [hu] at hx
    split at hx <;> simp_all
    refine ⟨rfl,fun c k' v hk hv=>?_⟩
    cases c with
    | zero=>simp at hk hv; subst hk; subst hv; simp [CK.fits]
    | succ c=>simp at hk
  ·rename_i hu
   simp only [jaa] at h; subst h
   cases fuel with
   | zero=>simp [DataW.trod] at hx
   | succ m =>
    unfold DataW.trod at hx
    rw [hu] at hx
    split at hx <;> simp_all
    exact qf8 rfl
  ·rename_i e hu
   simp only [jaa] at h; subst h
   rcases DataW.trod_slice hu hx with ⟨rfl,_⟩ | ⟨a,len,cap,elems,rest,m,_,rfl,_⟩
   ·exact qf8 rfl
   ·exact qf8 rfl
  ·rename_i e hu
   simp only [jaa] at h; subst h
   cases fuel with
   | zero=>simp [DataW.trod] at hx
   | succ m =>
    unfold DataW.trod at hx
    rw [hu] at hx
    split at hx <;> simp_all
    all_goals exact qf8 rfl
  ·rename_i fs hu
   split at h
   ·rename_i p hp
    split at h
    ·rename_i hc
     have hc:=Nat.eq_of_beq_eq_true hc
     simp only [jaa] at h; subst h
     obtain ⟨xs,m,_,_,hl,hxl,hall⟩:=DataW.trod_struct hu hx
     have:=qoV (cs:=cs) (f:=qje P n) (fun t p hp cs' hh=>qmz n hp cs' hh) hp (fun y hy=>by
      obtain ⟨i,hi⟩:=jbd hy
      have hi':fs[i]? = some y:=by simpa using hi
      have h1:=hall i y hi'
      have hlt:i < xs.length:=by
       rw [hxl]; exact (jcl.1 hi').1
      exact ⟨m,xs[i],by rw [h1]; simp [hlt]⟩) (by omega)
     simpa using this
    ·simp at h
   ·simp at h
  ·rename_i m e hu
   split at h
   ·rename_i p hp
    split at h
    ·rename_i hc
     simp only [jag] at hc
     have hc1:=Nat.eq_of_beq_eq_true hc.1
     have hc2:=Nat.eq_of_beq_eq_true hc.2
     simp only [jaa] at h; subst h
     obtain ⟨xs,k,_,_,hl,hxl,hall⟩:=DataW.trod_array hu hx
     refine qnB (by rw [hl,hc2,hc1]) fun i hi=>?_
     have h1:=hall i hi
     rw [<- hc1] at h1
     exact qmz n hp _ ⟨k,xs[i]'(by omega),by rw [h1]; simp [hxl,hi]⟩
    ·simp at h
   ·simp at h
  ·simp at h
theorem qqg {a:Addr} {n:Nat} {cs:List Value} (h:w.cells? base a n = some cs):cs.length = n/\∀ i,i < n->w.cell? (a.add i) = cs[i]?:=by
 unfold World.cells? at h
 split at h
 ·exact ⟨by simpa using mapM_some_length h,fun i hi=>by simpa using mapM_some_get h i i (by simp [hi])⟩
 ·simp at h
theorem qrx {t e:TypeId} {pat:List CK} {n:Nat} {v:Value} {d:DataW H} {ps:List MemPlace} (ht:P.underlying t = some (.slice e)) (hpat:qje P n e = some pat) (hce:P.cellsOf e = pat.length) (hpos:0 < pat.length)
  {fuel:Nat} (hsp:∀ b,spare b = true) (hf:DataW.trod enc P w base spare held fuel t [v] = some (d,ps)) :
  ∃ rows:List (List Value),Rd (fun b=>w.heap[b]?) pat v rows/\(∀ row ∈ rows,∃ fuel x,DataW.trod enc P w base spare held fuel e row = some x) /\
   ((d = .nil/\rows = [])∨∃ elems sp,d = .slice elems sp/\elems.length = rows.length/\∀ (i:Nat) (row:List Value),rows[i]? = some row->∃ fuel x,DataW.trod enc P w base spare held fuel e row = some x/\elems[i]? = some x.1):=by
 rcases DataW.trod_slice ht hf with ⟨h1,h2⟩ | ⟨a,len,cap,elems,rest,m,_,h1,h2,hb,hlc,hcm,hel,hall,hrest,_⟩
 ·simp at h1 h2
  exact ⟨[],.inl ⟨_,h1,rfl⟩,by simp,.inl ⟨h2.1,rfl⟩⟩
 ·simp at h1 h2
  subst h1
  have hrow:∀ i,i < len->∃ cs x,w.cells? base (a.add (i * P.cellsOf e)) (P.cellsOf e) = some cs/\DataW.trod enc P w base spare held m e cs = some x/\elems[i]? = some x:=fun i hi=>by
   have:=hall i hi
   rw [jac (by omega)] at this
   obtain ⟨cs,g1,g2⟩:=jak.1 this
   exact ⟨cs,_,g1,g2,jac _⟩
  let rows:List (List Value):=(List.range len).map fun i=>((w.cells? base (a.add (i * P.cellsOf e)) (P.cellsOf e)).getD [])
  have hget:∀ i row,rows[i]? = some row->i < len/\w.cells? base (a.add (i * P.cellsOf e)) (P.cellsOf e) = some row:=fun i row hr=>by
   simp only [rows,jan,jai] at hr
   obtain ⟨j,hj,rfl⟩:=hr
   have hlt:i < len:=by
    have:=(jam.1 hj).1; simpa using this
   rw [jbj hlt] at hj
   simp only [jaa] at hj; subst hj
   obtain ⟨cs,x,g1,_,_⟩:=hrow i hlt
   exact ⟨hlt,by rw [g1]; rfl⟩
  have hrl:rows.length = len:=by simp [rows]
  have htr:∀ row ∈ rows,∃ fuel x,DataW.trod enc P w base spare held fuel e row = some x:=fun row hr=>by
   obtain ⟨i,hi⟩:=jbd hr
   obtain ⟨hlt,hc⟩:=hget i row hi
   obtain ⟨cs,x,g1,g2,_⟩:=hrow i hlt
   rw [hc] at g1
   simp only [jaa] at g1; subst g1
   exact ⟨m,x,g2⟩
  refine ⟨rows,?_,htr,.inr ⟨_,_,h2.1,by simp [hel,hrl],fun i row hi=>?_⟩⟩
  rotate_left
  ·obtain ⟨hlt,hc⟩:=hget i row hi
   obtain ⟨cs,x,g1,g2,g3⟩:=hrow i hlt
   rw [hc] at g1
   simp only [jaa] at g1; subst g1
   exact ⟨m,x,g2,by simp [g3]⟩
  by_cases hcap:cap = 0
  ·have hl0:len = 0:=by omega
   have:rows = []:=by apply jdg; omega
   exact .inl ⟨some a,by rw [hl0,hcap],this⟩
  have hfirst:∃ cs,w.cells? base (a.add 0) (P.cellsOf e) = some cs:=by
   by_cases hl:0 < len
   ·obtain ⟨cs,_,g1,_,_⟩:=hrow 0 hl
    rw [je8] at g1
    exact ⟨cs,g1⟩
   ·obtain ⟨r1,r2⟩:=hrest (hsp _)
    have:=r2 0 (by omega)
    rw [show (len + 0) * P.cellsOf e = 0 by rw [show len + 0 = 0 by omega]; simp,jac (by omega)] at this
    obtain ⟨cs,g1,_⟩:=jak.1 this
    exact ⟨cs,g1⟩
  obtain ⟨cs0,hc0⟩:=hfirst
  obtain ⟨hl0,hg0⟩:=qqg hc0
  have h00:=hg0 0 (by omega)
  rw [show (a.add 0).add 0 = a from rfl,jac (by omega)] at h00
  obtain ⟨ab,ao,asp⟩:=a
  have hblk0:=h00
  unfold World.cell? at hblk0
  split at hblk0
  ·rename_i c ty fr hblk
   simp only at hblk
   have hsp0:asp = none:=by
    cases asp with
    | none=>rfl
    | some s=>simp at hblk0
   subst hsp0
   refine .inr ⟨ab,ao,cap,c,ty,fr,by rw [hrl],by omega,hblk,fun i row hi=>?_⟩
   obtain ⟨hlt,hc⟩:=hget i row hi
   refine ⟨qmz n hpat row (htr row (jbi hi)),fun k x hk=>?_⟩
   obtain ⟨hl1,hg⟩:=qqg hc
   have hkl:k < P.cellsOf e:=by
    rw [<- hl1]; exact (jam.1 hk).1
   have:=hg k hkl
   rw [hk,hce] at this
   rw [Go.Eng.addr_add,Go.Eng.addr_add,qaY hblk] at this
   exact this
  ·simp at hblk0
end
end Go.Eng
namespace Go.Proofs
open Go Go.Eng
section
variable {k n t s l x y e m v z:Int} {h:Hp} {P G G0 G3 R:qd}
end
end Go.Proofs
namespace Go.Eng
open Go Go.Proofs
def qhS:Ctr:={ qiA with pre:=fun Z=>qiA.pre Z/\qaP (Z 2).i (Z 3).i (Z 4).i = true/\(Z 6).i <= 8192,alts:=[{ k:=9,ret:=.tup [(true,qdN 2 3 4 6 12 13 4 14),(false,[.vslice 15 (.lit 0) (.var 4) (.var 16) 2]),qbb (.lit 0)],heap:=[fHp 17,qbU 13 18 14,.arr 15 86 qj3 (.var 19) (.var 16),.abs 20 10],post:=fun Z=>qk (Z 17).d/\qaP (Z 2).i (Z 3).i (Z 4).i = true/\(Z 6).i <= 8192/\(Z 19).d.length = (Z 4).i.toNat/\qe9 (Z 20).h (Z 19).d (Z 4).i.toNat (qag (Z 2).i.toNat (Z 4).i.toNat (bI (Z 8).d))/\qf (Z 12).d 32 = sha (bI (Z 8).d)/\qd4 (Z 18).d/\dgs (Z 18).d = qbi (qag (Z 2).i.toNat (Z 4).i.toNat (bI (Z 8).d)) (Z 4).i.toNat }] }
def qkH (h:Hp) (D:qd) (n:Nat) (t:Int) (f:Nat->List Int):Prop:=D.length = n/\qfw h D n/\∀ j,j < n->(0 <= pcI D j/\pcI D j < t)/\pcD h D j = f (pcI D j).toNat
end Go.Eng
namespace Go.Proofs
open Go Go.Eng
section
theorem qyp {f:Nat->List Int} {rs:List Int} {l k c:Nat} {x:Int} (hr:rs.length = k) (hf:∀ j,j < k->(f j).length = l/\qo (f j)) (hc:c < l) :
  toF ((qaW f (qdw rs x) l k).getD c 0) = q6 (fun j=>qg (qcN k (fun m=>toF (rs.getD m 0)) (toF x) j) (toF ((f j).getD c 0))) k:=by
 obtain ⟨_,_,h3⟩:=qcS (w:=qdw rs x) qfS k hf
 rw [h3 c hc]
 exact qj fun j hj=>by rw [qtA (by omega),hr]
variable {k total:Nat} {data:List Int}
theorem q5x (h1:1 <= k) (hk:k <= total) (ht:total <= 255) (hb:qo data) {c:Nat} (hc:c < ql k data.length):∃ y:Nat->F,∀ r,r < total->toF ((qag k total data r).getD c 0) = qA k y (xsF r):=by
 obtain ⟨y,hy,hL⟩:=qlN (k:=k) (xs:=xsF) (v:=fun j=>toF ((qag k total data j).getD c 0)) h1 (qc1 (by omega))
 refine ⟨y,fun r hr=>?_⟩
 rw [hL,<- q8H h1 hk ht hb hr (f:=qag k total data) (fun j _=>rfl),qyp qs7 (fun j hj=>⟨(qbC h1 hk ht hb j).1,(qbC h1 hk ht hb j).2.1⟩) hc]
 exact qj fun j hj=>by
  rw [qpG (ys:=xsF) hj fun m hm=>by rw [qsg hm]; rfl]
  rfl
theorem q8u {rs:List Int} (hch:qbo k total rs) (h1:1 <= k) (hk:k <= total) (ht:total <= 255) (hb:qo data) {f:Nat->List Int} (hf:∀ j,j < k->f j = qag k total data (rs.getD j 0).toNat) {x:Nat} (hx:x < total) :
  qaW f (qdw rs (x:Int)) (ql k data.length) k = qag k total data x:=by
 have hfl:∀ j,j < k->(f j).length = ql k data.length/\qo (f j):=fun j hj=>by
  rw [hf j hj]; exact ⟨(qbC h1 hk ht hb _).1,(qbC h1 hk ht hb _).2.1⟩
 obtain ⟨a1,a2,_⟩:=qcS (w:=qdw rs (x:Int)) qfS k hfl
 obtain ⟨b1,b2,_⟩:=qbC h1 hk ht hb x
 refine qe6 (by omega) fun c hc=>qjE (qam a2 c) (qam b2 c) ?_
 rw [a1] at hc
 obtain ⟨y,hy⟩:=q5x h1 hk ht hb hc
 rw [qyp hch.1 hfl hc,hy x hx,show xsF x = toF (x:Int) from rfl,qik (qjq hch ht)]
 refine qj fun j hj=>?_
 have hlt:(rs.getD j 0).toNat < total:=by
  have h2:=hch.1
  have h3:=hch.2.2 (rs.getD j 0) (qfF (by omega))
  omega
 rw [hf j hj,hy _ hlt,<- qiR hch hj]
theorem qv3 {L:List Int} {l:Nat}:∀ {n:Nat},n * l <= L.length->qbP (fun i=>seg L (i * l) l) n = L.take (n * l)
 | 0,_=>by simp [qbP]
 | n + 1,h=>by
  rw [jbc,jc2] at h
  rw [qbP,qv3 (by omega),jbc,jc2,jfn]
  rfl
theorem q7o {k total:Nat} {data:List Int} (h1:1 <= k) (hk:k <= total) (ht:total <= 255) (hb:qo data):qbP (qag k total data) k = qd1 data (k * ql k data.length):=by
 rw [qhu fun j hj=>qze h1 hk ht hb hj,qv3 (by rw [(qhl hb (qft (by omega))).1]; exact ja4 _),jar (by rw [(qhl hb (qft (by omega))).1]; exact ja4 _)]
theorem q2Q {data:List Int} {n:Nat}:(qd1 data n).take data.length = data:=by
 simp [qd1]
end
section
variable {h:Hp} {P:qd} {k n t s l:Int} {data:List Int} {G:qd}
theorem q9z {D:qd} {m j:Nat} (hj:j < m):(qaw D m).getD j 0 = pcI D j:=by
 unfold qaw
 rw [jab,jan,jbj hj]; rfl
theorem qzU {f:Nat->List Int} (hs:qkH h P k.toNat t f) (hd:(qaw P k.toNat).Nodup) (t0:0 <= t):qbo k.toNat t.toNat (qaw P k.toNat):=by
 refine ⟨by simp [qaw],hd,fun x hx=>?_⟩
 obtain ⟨j,hj,rfl⟩:=jbl.1 hx
 have:=(hs.2.2 j (jb8.1 hj)).1
 omega
theorem qyV (k1:1 <= k) (kt:k <= t) (t1:t <= 255) (hb:qo data) (hs:qkH h P k.toNat t (qag k.toNat t.toNat data)) (hd:(qaw P k.toNat).Nodup) :
  (∀ j,j < k.toNat->pcN h P j = ql k.toNat data.length)/\(∀ x:Int,0 <= x->x < t->qeA h P k.toNat x = qag k.toNat t.toNat data x.toNat)/\(qkb h P k.toNat).take data.length = data:=by
 have hc:=qzU hs hd (by omega)
 have hL:∀ j,j < k.toNat->pcN h P j = ql k.toNat data.length:=fun j hj=>by
  unfold pcN
  rw [(hs.2.2 j hj).2,(qbC (by omega) (by omega) (by omega) hb _).1]
 have hval:∀ x:Int,0 <= x->x < t->qeA h P k.toNat x = qag k.toNat t.toNat data x.toNat:=fun x x0 x1=>by
  have:=q8u (x:=x.toNat) hc (by omega) (by omega) (by omega) hb (f:=pcD h P) (fun j hj=>by rw [q9z hj]; exact (hs.2.2 j hj).2) (by omega)
  rw [jay x0] at this
  unfold qeA
  rw [hL 0 (by omega),this]
 refine ⟨hL,hval,?_⟩
 rw [qkb,qhu (g:=qag k.toNat t.toNat data) fun j hj=>by rw [hval _ (by omega) (by omega)]; simp,q7o (by omega) (by omega) (by omega) hb,q2Q]
theorem qt6 {f:Nat->List Int} {m:Nat} {x:Int} (x0:0 <= x) (x1:x < m):(qbi f m).getD x.toNat [] = sha (qaS x ++ f x.toNat):=by
 unfold qbi
 rw [jab,jan,jbj (by omega)]
 simp only [jaw,ja0]
 rw [jay x0]
theorem qom {x:Int} {m:List Int} (hM:qz k n t s l = true) (hb:qo data) (hsz:s = data.length) (hG:dgs G = qbi (qag k.toNat t.toNat data) t.toNat) (x0:0 <= x) (x1:x < t) (hm:m = qag k.toNat t.toNat data x.toNat):qbO k n t s l (dgs G) x m = 0:=by
 obtain ⟨k1,k2,k3,k4,s0,s1,htl⟩:=qbw.1 hM
 have hl:(m.length:Int) = qd0 k s:=by
  rw [hm,(qbC (by omega) (by omega) (by omega) hb _).1,qv0 k1 s0,hsz]
  unfold plI
  simp
 have hS:sha (qaS x ++ m) = (dgs G).getD x.toNat []:=by rw [hm,hG,qt6 x0 (by omega)]
 rw [qbO,jaf (by rw [hM]; decide),jaf (by omega),jaf (fun h=>h hl),jaf (fun h=>h hS)]
theorem qvA (hM:qz k n t s l = true) (hb:qo data) (hsz:s = data.length) (hG:dgs G = qbi (qag k.toNat t.toNat data) t.toNat) (hs:qkH h P k.toNat t (qag k.toNat t.toNat data)) (hd:(qaw P k.toNat).Nodup) :
  qc9 (qkU k n t s l (dgs G) h P) (pcI P) P.length k 0:=by
 obtain ⟨k1,k2,k3,k4,s0,s1,htl⟩:=qbw.1 hM
 rw [hs.1]
 refine .inr ⟨fun j hj=>⟨qom hM hb hsz hG (hs.2.2 j hj).1.1 (hs.2.2 j hj).1.2 (hs.2.2 j hj).2,fun i hi he=>?_⟩,.inr ⟨by omega,rfl⟩⟩
 have h1:=jd9.1 (jfq.1 hd)
 have h2:=jdu.1 h1 i j (by simp; omega) (by simp; omega) hi
 rw [List.getElem_range,List.getElem_range] at h2
 exact h2 he
theorem quO {M:Bool} {C:Int->Prop} {D O:List Int} {e:Int} (hM:M = true) (hC:∀ x,C x->x = 0) (hs:sha D = O) (a:qiY M C D O e):e = 0:=by
 rcases a with ⟨a,a1⟩ | ⟨a,a1,a2⟩ | ⟨a,a1,⟨a2,a3⟩ | ⟨a2,a3⟩⟩
 ·rw [hM] at a; cases a
 ·exact hC _ a1
 ·exact (a2 hs).elim
 ·exact a3
end
section
variable {h h':Hp} {D S L:qd} {n i:Nat} {t:Int} {f:Nat->List Int}
end
section
variable {h h0:Hp} {P P0 G R:qd} {k n t s l x e y m:Int} {data O:List Int} {N N':Nat}
theorem qvs {f:Nat->List Int} {i:Nat} (hS:qkH h0 P0 i t f) (hs:qpn h h0 P P0 N N') (hp:qfw h P i) (hN:N = P0.length) (hl:P.length = P0.length):qkH h P i t f :=
 ⟨by rw [hl,hS.1],hp,fun j hj=>by
  have:=hs.2 j (by rw [hN,hS.1]; exact hj)
  rw [this.1,this.2]; exact hS.2.2 j hj⟩
theorem qvO {f:Nat->List Int} {i:Nat} (hS:qkH h0 P0 i t f) (hs:qpn h h0 P P0 N N') (hN:N = P0.length):qaw P i = qaw P0 i :=
 q0M fun j hj=>(hs.2 j (by rw [hN,hS.1]; exact hj)).1
theorem q7n (a:qk3 (qz k n t s l) (qc9 (qkU k n t s l (dgs G) h P) (pcI P) P.length k) x t e y m (qeA h P k.toNat x) ((dgs G)[x.toNat]?.getD []) R) (hp:qfw h P P0.length) (hs:qpn h h0 P P0 N N') (hl:P.length = P0.length)
  (hM:qz k n t s l = true) (hb:qo data) (hsz:s = data.length) (hG:dgs G = qbi (qag k.toNat t.toNat data) t.toNat) (hS:qkH h0 P0 k.toNat t (qag k.toNat t.toNat data)) (hNd:(qaw P0 k.toNat).Nodup) (hN:N = P0.length) (x0:0 <= x) (x1:x < t) :
  e = 0/\y = x/\m = R.length/\qp R/\bI R = qag k.toNat t.toNat data x.toNat/\m <= 100000000:=by
 obtain ⟨k1,k2,k3,k4,s0,s1,htl⟩:=qbw.1 hM
 have hS':=qvs hS hs (by rw [<- hS.1]; exact hp) hN hl
 have hNd':(qaw P k.toNat).Nodup:=by rw [qvO hS hs hN]; exact hNd
 have hC:=qvA (n:=n) (l:=l) hM hb hsz hG hS' hNd'
 obtain ⟨hL,hV,_⟩:=qyV k1 (by omega) k4 hb hS' hNd'
 have hO:sha (qaS x ++ qeA h P k.toNat x) = (dgs G)[x.toNat]?.getD []:=by
  rw [hV x x0 x1,<- jab,hG,qt6 x0 (by omega)]
 have he:e = 0:=quO (by rw [hM,jcf ⟨x0,x1⟩]; rfl) (fun z hz=>qrR hz hC) hO a.1
 obtain ⟨_,_,_,_,q1,q2,q3,q4⟩:=q4I a he
 have hlen:(bI R).length = pcN h P 0:=by rw [q4]; exact qrm
 have hp:=qdt (k:=k.toNat) (n:=data.length) (by omega)
 refine ⟨he,q1,q2,q3,by rw [q4,hV x x0 x1],?_⟩
 rw [q2,<- bI_len,hlen,hL 0 (by omega)]
 omega
theorem q7h (a:qwj (qz k n t s l) (qc9 (qkU k n t s l (dgs G) h P) (pcI P) P.length k) s e m ((qkb h P k.toNat).take s.toNat) O R) (hp:qfw h P P0.length) (hs:qpn h h0 P P0 N N') (hl:P.length = P0.length)
  (hM:qz k n t s l = true) (hb:qo data) (hsz:s = data.length) (hG:dgs G = qbi (qag k.toNat t.toNat data) t.toNat) (hS:qkH h0 P0 k.toNat t (qag k.toNat t.toNat data)) (hNd:(qaw P0 k.toNat).Nodup) (hN:N = P0.length) (hO:O = sha data) :
  e = 0/\0 <= m/\m <= R.length/\bI (R.take m.toNat) = data:=by
 obtain ⟨k1,k2,k3,k4,s0,s1,htl⟩:=qbw.1 hM
 have hS':=qvs hS hs (by rw [<- hS.1]; exact hp) hN hl
 have hNd':(qaw P k.toNat).Nodup:=by rw [qvO hS hs hN]; exact hNd
 have hC:=qvA (n:=n) (l:=l) hM hb hsz hG hS' hNd'
 obtain ⟨hL,hV,hD⟩:=qyV k1 (by omega) k4 hb hS' hNd'
 have hD':(qkb h P k.toNat).take s.toNat = data:=by rw [hsz,jav]; exact hD
 rw [hD'] at a
 have he:e = 0:=quO hM (fun z hz=>qrR hz hC) hO.symm a.1
 subst he
 obtain ⟨_,⟨a1,_⟩ | ⟨_,_,a3,a4,_,a6⟩⟩:=a
 ·exact (a1 rfl).elim
 ·exact ⟨rfl,a3,a4,a6⟩
theorem qvy {Z:Env} {l:List SH} {H:Hp} (n t:Nat) (hs:qV Z l H) (hm:SH.abs n t ∈ l):Hp.le (Z n).h H:=by
 obtain ⟨hb,lb,db⟩:=qbp hs hm
 exact Hp.le_trans db lb
end
section
variable {h h':Hp} {S L:qd} {i n j i':Int} {t:Int} {f:Nat->List Int}
end
section
variable {h h0:Hp} {D D0 G:qd} {T:Nat} {t:Int} {f:Nat->List Int} {N N' M:Nat}
end
theorem qvB:qhS.ok Tryz.prog:=by
 refine ⟨qzh.1,fun Z w hF hO hg hd hw hs hro hp=>?_⟩
 obtain ⟨hp,hs3,h8⟩:=hp
 refine (qzh.2 Z w hF hO hg hd hw hs hro hp).mono fun e w' h=>?_
 obtain ⟨ai,al,Z',h1,h2,hZ,h4,hpost,h6⟩:=h
 match ai,h1 with
 | 0,h1 =>
  obtain rfl:=(jaz h1).symm
  exfalso
  have e2:=hZ 2 (by decide)
  have e3:=hZ 3 (by decide)
  have e4:=hZ 4 (by decide)
  have e6:=hZ 6 (by decide)
  obtain ⟨_,⟨h1,_⟩ | ⟨_,h1,_⟩⟩:=hpost
  ·change qaP (Z' 2).i (Z' 3).i (Z' 4).i = false at h1
   rw [e2,e3,e4,hs3] at h1; cases h1
  ·change 8192 < (Z' 6).i at h1
   rw [e6] at h1; omega
 | 1,h1 =>
  obtain rfl:=(jaz h1).symm
  exact ⟨0,_,Z',rfl,h2,hZ,h4,hpost,h6⟩
 | ai + 2,h1=>simp [qiA] at h1
theorem q96 {k t:Int} (hs:qN k t = true):(qbN k.toNat t.toNat).2.2 = k.toNat:=by
 obtain ⟨k1,k2,k3⟩:=qbq.1 hs
 exact qod (by omega) (by omega)
end Go.Proofs
namespace Go.Eng
open Go Go.Proofs
def qy (d:qd):List Int:=d.map fun row=>qbr row 0
def qq6:List CK:=List.replicate 16 .bool
def b16 (n:Nat):SV:=.agg ((List.range 16).map fun i=>.c1 .vbool (.var (n + i)))
def qpK (x:Int):Bool:=decide (0 <= x/\x < 16)
def qfz:Ctr:={ fn := 100,nv:=1,args:=[iv .i64 (.var 0)],heap:=[],ro:=[],pre:=fun _=>True,alts:=[{ k:=1,ret:=.one (.vbool (.var 1)),heap:=[],post:=fun Z=>(Z 1).b = qpK (Z 0).i }] }
def qch (r:Nat):SH:=iHp r (r + 3) (r + 4)
def qca (Z:Env) (r:Nat):Prop:=(Z (r + 1)).i = (Z (r + 3)).d.length/\(Z (r + 1)).i <= 1000000000000/\∀ row ∈ (Z (r + 3)).d,row.length = 1
def qe2 (l:List Bool) (L:List Int):Prop:=l.length = 16/\∀ j:Nat,j < 16->(l.getD j false = true↔(j:Int) ∈ L)
def qjk:Ctr:={ fn := 82,nv:=5,args:=[bS 0],heap:=[],ro:=[qch 0],pre:=fun Z=>qca Z 0,alts:=[
 { k:=16,ret:=b16 5,heap:=[],post:=fun Z=>qe2 [(Z 5).b,(Z 6).b,(Z 7).b,(Z 8).b,(Z 9).b,(Z 10).b,(Z 11).b,(Z 12).b,(Z 13).b,(Z 14).b,(Z 15).b,(Z 16).b,(Z 17).b,(Z 18).b,(Z 19).b,(Z 20).b] (qy (Z 3).d) }] }
def qdi (s:qd) (l:List Int) (n:Nat):Prop:=(∃ row,s = [row]/\row.length = 16)/\∀ x:Int,0 <= x->x < 16->(qaq s x.toNat = true↔x ∈ l.take n)
def qu7:Inv:={ key:=2,nv:=3,env:=[(2,.one (.vptr 1000 (.lit 0) 16 0)),(5,bS 0),(6,iv .i64 (.var 1)),(7,iv .i64 (.var 1002))],heap:=[.arr 1000 157 qq6 (.var 1001) (.lit 1)],inv:=(fun Z=>0 <= (Z 1002).i/\(Z 1002).i <= (Z 1).i/\qdi (Z 1001).d (qy (Z 3).d) (Z 1002).i.toNat),mu:=(fun Z=>((Z 1).i - (Z 1002).i).toNat) }
def qO (o:List Int) (p:Int):List Int:=sha (o ++ [p % 256])
def qgG:Ctr:={ fn := 24,nv:=4,ip:=[gIp 2,(1005,9)],args:=[dgV 0,iv .i64 (.var 1)],heap:=[],ro:=[gHp 2 3],pre:=fun Z=>qU (qf (Z 0).d 32)/\gOk Z 2 3 gR,alts:=[
 { k:=1,ret:=dgV 4,heap:=[],post:=fun Z=>qf (Z 4).d 32 = qO (qf (Z 0).d 32) (Z 1).i }] }
def rkV (p d:Nat):SV:=.agg (.vint .i64 (.var p) :: qaT .u8 d 32)
def qkh:Ctr:={ fn := 80,nv:=4,ip:=[gIp 2],args:=[dgV 0,iv .i64 (.var 1)],heap:=[],ro:=[gHp 2 3],pre:=fun Z=>qU (qf (Z 0).d 32)/\gOk Z 2 3 gR,alts:=[
 { k:=2,ret:=.agg (.vint .i64 (.var 1) :: qaT .u8 4 32),heap:=[],post:=fun Z=>qf (Z 4).d 32 = qO (qf (Z 0).d 32) (Z 1).i }] }
def qb2:List Int->List Int->Int
 | [],[]=>0
 | [],_ :: _=>-1
 | _ :: _,[]=>1
 | a :: l,b :: m=>if a < b then -1 else if b < a then 1 else qb2 l m
def kRk:List CK:=.int .i64 :: List.replicate 32 (.int .u8)
def qp2:Ctr:={ fn := 118,nv:=4,args:=[.one (.vslice 0 (.lit 1) (.lit 32) (.lit 32) 1),.one (.vslice 1 (.lit 1) (.lit 32) (.lit 32) 1)],heap:=[],ro:=[.arr 0 153 kRk (.var 2) (.lit 1),.arr 1 153 kRk (.var 3) (.lit 1)],pre:=fun Z=>qap (Z 2).d 33/\qap (Z 3).d 33/\qU ((qf (Z 2).d 33).drop 1)/\qU ((qf (Z 3).d 33).drop 1),alts:=[
 { k:=1,ret:=iv .i64 (.var 4),heap:=[],post:=fun Z=>(Z 4).i = qb2 ((qf (Z 2).d 33).drop 1) ((qf (Z 3).d 33).drop 1) }] }
def qhK:Ctr:={ fn := 81,nv:=4,args:=[rkV 0 1,rkV 2 3],heap:=[],ro:=[],pre:=fun Z=>qU (qf (Z 1).d 32)/\qU (qf (Z 3).d 32),alts:=[
 { k:=1,ret:=iv .i64 (.var 4),heap:=[],post:=fun Z=>(Z 4).i = if qb2 (qf (Z 1).d 32) (qf (Z 3).d 32) = 0 then qe .sub .i64 (Z 0).i (Z 2).i else qb2 (qf (Z 1).d 32) (qf (Z 3).d 32) }] }
def qR (o:List Int) (a b:Int):Bool:=if qO o a = qO o b then decide (a < b) else decide (qb2 (qO o a) (qO o b) < 0)
def qdW:Ctr:={ fn := 26,nv:=5,ip:=[gIp 3],args:=[dgV 0,iv .i64 (.var 1),iv .i64 (.var 2)],heap:=[],ro:=[gHp 3 4],pre:=fun Z=>qU (qf (Z 0).d 32)/\gOk Z 3 4 gR,alts:=[
 { k:=1,ret:=.one (.vbool (.var 5)),heap:=[],post:=fun Z=>(Z 5).b = qR (qf (Z 0).d 32) (Z 1).i (Z 2).i }] }
def qdf (o:List Int) (a b:Int):Int:=if qO o a = qO o b then a - b else qb2 (qO o a) (qO o b)
def qmE (o:List Int) (s out:List Int):Prop:=out.Perm s/\out.Pairwise fun a b=>qR o a b = true
def qcl (l:List Int):List Int:=((List.range 16).map fun (i:Nat)=>(i:Int)).filter fun x=>decide (x ∈ l)
end Go.Eng
namespace Go.Proofs
open Go Go.Eng
theorem qfa:∀ {a b:List Int},qb2 a b = 0↔a = b
 | [],[]=>by simp [qb2]
 | [],_ :: _=>by simp [qb2]
 | _ :: _,[]=>by simp [qb2]
 | x :: a,y :: b=>by
  unfold qb2
  by_cases h1:x < y
  ·rw [jah h1]
   constructor
   ·intro h; omega
   ·intro h; injection h; omega
  ·rw [jaf h1]
   by_cases h2:y < x
   ·rw [jah h2]
    constructor
    ·intro h; omega
    ·intro h; injection h; omega
   ·rw [jaf h2,qfa]
    have:x = y:=by omega
    subst this
    simp
theorem qvU:∀ {a b:List Int},qb2 b a = - qb2 a b
 | [],[]=>rfl
 | [],_ :: _=>rfl
 | _ :: _,[]=>rfl
 | x :: a,y :: b=>by
  unfold qb2
  by_cases h1:x < y
  ·rw [jah h1,jaf (by omega),jah h1]; rfl
  ·by_cases h2:y < x
   ·rw [jah h2,jaf h1,jah h2]
   ·rw [jaf h2,jaf h1,jaf h1,jaf h2]; exact qvU
theorem qoW:∀ {a b c:List Int},qb2 a b < 0->qb2 b c < 0->qb2 a c < 0
 | [],[],_,h,_=>by simp [qb2] at h
 | [],_ :: _,[],_,h=>by simp [qb2] at h
 | [],_ :: _,_ :: _,_,_=>by simp [qb2]
 | _ :: _,[],_,h,_=>by simp [qb2] at h
 | _ :: _,_ :: _,[],_,h=>by simp [qb2] at h
 | x :: a,y :: b,z :: c,h1,h2=>by
  unfold qb2 at h1 h2 ⊢
  by_cases a1:x < y
  ·by_cases b1:y < z
   ·rw [jah (by omega)]; decide
   ·rw [jaf b1] at h2
    by_cases b2:z < y
    ·rw [jah b2] at h2; omega
    ·rw [jah (by omega)]; decide
  ·rw [jaf a1] at h1
   by_cases a2:y < x
   ·rw [jah a2] at h1; omega
   ·rw [jaf a2] at h1
    have e:x = y:=by omega
    subst e
    by_cases b1:x < z
    ·rw [jah b1]; decide
    ·rw [jaf b1] at h2 ⊢
     by_cases b2:z < x
     ·rw [jah b2] at h2; omega
     ·rw [jaf b2] at h2 ⊢
      exact qoW h1 h2
variable {o:List Int} {a b c:Int}
theorem qeQ:qR o a b = decide (qdf o a b < 0):=by
 unfold qR qdf
 by_cases h:qO o a = qO o b
 ·rw [jah h,jah h]
  exact decide_eq_decide.2 ⟨fun h=>by omega,fun h=>by omega⟩
 ·rw [jaf h,jaf h]
theorem qeV:qdf o a b = 0↔a = b:=by
 unfold qdf
 by_cases h:qO o a = qO o b
 ·rw [jah h]; omega
 ·rw [jaf h,qfa]
  exact ⟨fun h'=>(h h').elim,fun h'=>by rw [h']⟩
theorem qkr:qdf o b a = - qdf o a b:=by
 unfold qdf
 by_cases h:qO o a = qO o b
 ·rw [jah h,jah h.symm]; omega
 ·rw [jaf h,jaf (fun h'=>h h'.symm),qvU]
theorem qkV (h1:qdf o a b < 0) (h2:qdf o b c < 0):qdf o a c < 0:=by
 unfold qdf at h1 h2 ⊢
 by_cases e1:qO o a = qO o b
 ·rw [jah e1] at h1
  by_cases e2:qO o b = qO o c
  ·rw [jah e2] at h2
   rw [jah (e1.trans e2)]; omega
  ·rw [jaf e2] at h2
   rw [jaf (by rw [e1]; exact e2),e1]; exact h2
 ·rw [jaf e1] at h1
  by_cases e2:qO o b = qO o c
  ·rw [jaf (by rw [<- e2]; exact e1),<- e2]; exact h1
  ·rw [jaf e2] at h2
   have h3:=qoW h1 h2
   by_cases e3:qO o a = qO o c
   ·rw [e3,qfa.2 rfl] at h3; omega
   ·rw [jaf e3]; exact h3
theorem q3a (h1:qR o a b = true) (h2:qR o b c = true):qR o a c = true:=by
 rw [qeQ,ja9] at h1 h2 ⊢
 exact qkV h1 h2
theorem qzJ:qR o a a = false:=by
 rw [qeQ,qeV.2 rfl]; rfl
theorem q1T (h:qR o a b = true):qR o b a = false:=by
 rw [qeQ,ja9] at h
 rw [qeQ,decide_eq_false_iff_not,qkr]; omega
theorem qrB (h:a ≠ b):qR o a b = true∨qR o b a = true:=by
 rw [qeQ,qeQ,ja9,ja9,qkr (a:=a) (b:=b)]
 have:¬ qdf o a b = 0:=fun h'=>h (qeV.1 h')
 omega
theorem qsD:∀ {l m:List Int},l.Perm m->(l.Pairwise fun a b=>qR o a b = true)->(m.Pairwise fun a b=>qR o a b = true)->l = m
 | [],m,h,_,_=>(List.Perm.nil_eq h)
 | x :: l,[],h,_,_=>by simp at h
 | x :: l,y :: m,h,h1,h2=>by
  rw [List.pairwise_cons] at h1 h2
  have hxy:x = y:=by
   rcases jbo.1 (h.subset (jae ..)) with e | e
   ·exact e
   ·rcases jbo.1 (h.symm.subset (jae ..)) with e' | e'
    ·exact e'.symm
    ·have a1:=h2.1 x e
     have a2:=h1.1 y e'
     rw [q1T a1] at a2; cases a2
  subst hxy
  rw [qsD (List.Perm.cons_inv h) h1.2 h2.2]
theorem qxk {s l m:List Int} (h1:qmE o s l) (h2:qmE o s m):l = m:=qsD (h1.1.trans h2.1.symm) h1.2 h2.2
end Go.Proofs
namespace Go.Eng
open Go Go.Proofs
def qJ (L:List Int) (n:Nat):List Int:=((List.range n).map fun (i:Nat)=>(i:Int)).filter fun x=>decide (x ∈ L)
def ql8:Ctr:={ fn := 121,nv:=6,args:=[bS 0,iv .i64 (.var 5)],heap:=[],ro:=[qch 0],pre:=fun Z=>qca Z 0,alts:=[{ k:=1,ret:=iv .i64 (.var 6),heap:=[],post:=fun Z=>0 <= (Z 6).i↔(Z 5).i ∈ qy (Z 3).d }] }
def q3T:Inv:={ key:=2,nv:=1,env:=[(0,bS 0),(1,iv .i64 (.var 5)),(6,bS 0),(7,iv .i64 (.var 1)),(8,iv .i64 (.var 1000))],heap:=[],inv:=(fun Z=>0 <= (Z 1000).i/\(Z 1000).i <= (Z 1).i/\(Z 5).i ∉ (qy (Z 3).d).take (Z 1000).i.toNat),mu:=(fun Z=>((Z 1).i - (Z 1000).i).toNat) }
def qdT:Ctr:={ fn := 84,nv:=6,args:=[bS 0,iv .i64 (.var 5)],heap:=[],ro:=[qch 0],pre:=fun Z=>qca Z 0,alts:=[{ k:=1,ret:=.one (.vbool (.var 6)),heap:=[],post:=fun Z=>(Z 6).b = decide ((Z 5).i ∈ qy (Z 3).d) }] }
def qlY (o:List Int) (self n:Int) (L:List Int):Bool:=decide (1 <= n) && decide (n <= (((qcl L).filter fun i=>qR o i self).length:Int))
def q9o (Z:Env) (g:Nat):Prop:=qU (qf (Z 0).d 32)/\qca Z 3/\gOk Z 8 9 g
def q6x:Ctr:={ fn := 37,nv:=10,ip:=[gIp 8],args:=[dgV 0,iv .i64 (.var 1),iv .i64 (.var 2),bS 3],heap:=[],ro:=[qch 3,gHp 8 9],pre:=fun Z=>q9o Z gR,alts:=[{ k:=1,ret:=.one (.vbool (.var 10)),heap:=[],post:=fun Z=>(Z 10).b = qlY (qf (Z 0).d 32) (Z 1).i (Z 2).i (qy (Z 6).d) }] }
def q8Q:Inv:={ key:=3,nv:=3,env:=[(1,iv .i64 (.var 1)),(2,iv .i64 (.var 2)),(4,.one (.vptr 1000 (.lit 0) 32 0)),(9,iv .i64 (.var 1002)),(13,b16 11),(14,iv .i64 (.var 1001))],heap:=[.cells 1000 24 (qaT .u8 0 32)],inv:=(fun Z=>0 <= (Z 1001).i/\(Z 1001).i <= 16/\(Z 1002).i = (((qJ (qy (Z 6).d) (Z 1001).i.toNat).filter fun i=>qR (qf (Z 0).d 32) i (Z 1).i).length:Int)),mu:=(fun Z=>(16 - (Z 1001).i).toNat) }
def qC (o:List Int) (p:Int):List Value:=.int .i64 p :: (qO o p).map (Value.int .u8)
def qau (o l:List Int):List Int:=l.mergeSort fun a b=>!qR o b a
def qbl (o live:List Int) (n:Int):List Int:=(qau o (qcl live)).take n.toNat
def qby (d:qd) (n:Int) (l:List Int):Prop:=n = d.length/\qy d = l/\∀ row ∈ d,row.length = 1
def qwb (r d c:Nat):SH:=.arr r 153 kRk (.var d) (.var c)
def rkS (r l c:Nat):SV:=.one (.vslice r (.lit 0) (.var l) (.var c) 33)
def qfB:Ctr:={ fn := 83,nv:=4,args:=[rkS 0 1 2,.fn (.func 81) [] []],heap:=[qwb 0 3 2],ro:=[],pre:=fun Z=>(Z 1).i = (Z 3).d.length/\(Z 1).i <= 1000000/\∃ o L:List Int,qU o/\(Z 3).d = L.map (qC o)/\∀ x ∈ L,0 <= x/\x < 16,alts:=[
 { k:=1,ret:=.tup [],heap:=[qwb 0 4 2],post:=fun Z=>∀ o L:List Int,qU o->(Z 3).d = L.map (qC o)->(∀ x ∈ L,0 <= x/\x < 16)->(Z 4).d = (qau o L).map (qC o) }] }
def q69 (r:Nat):SH:=.cells r 24 (qaT .u8 0 32)
def q5z (r:Nat):SV:=.one (.vptr r (.lit 0) 32 0)
def qtg (Z:Env) (g:Nat):Prop:=qU (qf (Z 0).d 32)/\qca Z 1/\gOk Z 7 8 g
def qdq:Ctr:={ fn := 32,nv:=9,ip:=[gIp 7],args:=[dgV 0,bS 1,iv .i64 (.var 6)],heap:=[],ro:=[qch 1,gHp 7 8],pre:=fun Z=>qtg Z gR,alts:=[
 { k:=4,ret:=.one (.vslice 9 (.lit 0) (.var 10) (.var 11) 1),heap:=[iHp 9 12 11],post:=fun Z=>qby (Z 12).d (Z 10).i (qbl (qf (Z 0).d 32) (qy (Z 4).d) (Z 6).i) }] }
def qyY:Inv:={ key:=3,nv:=6,env:=[(2,iv .i64 (.var 6)),(3,q5z 1000),(7,rkS 1002 1003 1004),(14,b16 10),(15,iv .i64 (.var 1001))],heap:=[q69 1000,qwb 1002 1005 1004],inv:=(fun Z=>0 <= (Z 1001).i/\(Z 1001).i <= 16/\(Z 1003).i = (Z 1005).d.length/\(Z 1005).d = (qJ (qy (Z 4).d) (Z 1001).i.toNat).map (qC (qf (Z 0).d 32))),mu:=(fun Z=>(16 - (Z 1001).i).toNat) }
def qym:Inv:={ key:=11,nv:=9,env:=[(36,rkS 1000 1001 1002),(37,iv .i64 (.var 1001)),(38,iv .i64 (.var 1003)),(10,.one (.vslice 1004 (.lit 0) (.var 1005) (.var 1006) 1))],heap:=[qwb 1000 1007 1002,iHp 1004 1008 1006],inv:=(fun Z=>0 <= (Z 1003).i/\(Z 1003).i <= (Z 1001).i/\(Z 1001).i <= (Z 1007).d.length/\(Z 1007).d = (qau (qf (Z 0).d 32) (qcl (qy (Z 4).d))).map (qC (qf (Z 0).d 32))/\(Z 1001).i = min (max (Z 6).i 0) ((qau (qf (Z 0).d 32) (qcl (qy (Z 4).d))).length:Int)/\qby (Z 1008).d (Z 1005).i ((qau (qf (Z 0).d 32) (qcl (qy (Z 4).d))).take (Z 1003).i.toNat)),mu:=(fun Z=>((Z 1001).i - (Z 1003).i).toNat) }
def qfQ (n:Int):List Int:=(List.range (min (max n 0) 16).toNat).map fun (i:Nat)=>(i:Int)
def qkP (o:List Int) (n:Int):List Int:=qbl o (qfQ n) 16
def qgi:Ctr:={ fn := 29,nv:=4,ip:=[gIp 2],args:=[dgV 0,iv .i64 (.var 1)],heap:=[],ro:=[gHp 2 3],pre:=fun Z=>qU (qf (Z 0).d 32)/\gOk Z 2 3 gR,alts:=[
 { k:=4,ret:=.one (.vslice 4 (.lit 0) (.var 5) (.var 6) 1),heap:=[iHp 4 7 6],post:=fun Z=>qby (Z 7).d (Z 5).i (qkP (qf (Z 0).d 32) (Z 1).i) }] }
def qwD:Inv:={ key:=3,nv:=7,env:=[(2,q5z 1000),(5,.one (.vslice 1001 (.lit 0) (.var 1002) (.var 1003) 1)),(10,iv .i64 (.var 1006)),(11,iv .i64 (.var 1005))],heap:=[q69 1000,iHp 1001 1004 1003],inv:=(fun Z=>0 <= (Z 1005).i/\(Z 1005).i <= (Z 1006).i/\(Z 1006).i = min (max (Z 1).i 0) 16/\qby (Z 1004).d (Z 1002).i (qfQ (Z 1005).i)),mu:=(fun Z=>((Z 1006).i - (Z 1005).i).toNat) }
def qgw (o:List Int) (self:Int) (L:List Int) (n:Int) (held buried:Bool):Int :=
 if buried then (if held then 3 else 0) else if n < 1 then 0 else if self ∈ qbl o L n then (if held then 0 else 1) else if held = true/\((qbl o L n).length:Int) = n then 2 else 0
def q6M (Z:Env) (g:Nat):Prop:=qU (qf (Z 0).d 32)/\qca Z 2/\gOk Z 10 11 g
def qmH:Ctr:={ fn := 35,nv:=12,ip:=[gIp 10],args:=[dgV 0,iv .i64 (.var 1),bS 2,iv .i64 (.var 7),.one (.vbool (.var 8)),.one (.vbool (.var 9))],heap:=[],ro:=[qch 2,gHp 10 11],pre:=fun Z=>q6M Z gR,alts:=[
 { k:=1,ret:=iv .u8 (.var 12),heap:=[],post:=fun Z=>(Z 12).i = qgw (qf (Z 0).d 32) (Z 1).i (qy (Z 5).d) (Z 7).i (Z 8).b (Z 9).b }] }
def mtI:MT:=⟨false,[.i64],false,[.int .u64],[.vint .u64 (.lit 0)]⟩
def mtO:MT:=⟨true,List.replicate 32 .u8,false,[.any],[.vnilm]⟩
abbrev Cl:=List Int->Int->Option Int
def qdy (l:List ME) (i:Int):Option Int:=(l.find? fun x=>x.k == [i]).map fun x=>qaj (x.v.headD .nilFunc)
def qX (h:Hp) (v:Value) (cl:Cl):Prop:=∃ b l c,v = .map (some b)/\qaF h b mtO l c /\
 (∀ x ∈ l,∃ b' m c',x.v = [.map (some b')]/\b' ≠ b/\qaF h b' mtI m c'/\∀ i,cl x.k i = qdy m i) /\
 (∀ x ∈ l,∀ y ∈ l,x.k ≠ y.k->x.v ≠ y.v)/\(∀ o i,(∀ x ∈ l,x.k ≠ o)->cl o i = none)/\∀ o i t,cl o i = some t->0 <= i/\i < 16/\0 <= t/\t < 18446744073709551616
def qed (cl:Cl) (o:List Int) (i t:Int):Cl:=if 0 <= i/\i < 16 then fun o' i'=>if o' = o/\i' = i then some t else cl o' i' else cl
def qkx (t clock:Int):Bool:=decide (t <= clock) && decide (clock - t < 12)
def qdK (cl:Cl) (o:List Int) (self clock:Int) (L H:List Int):Bool:=(List.range 16).any fun (i:Nat)=>match cl o i with
 | some t=>qkx t clock && decide ((i:Int) ∈ L) && !decide ((i:Int) ∈ H) && qR o i self
 | none=>false
def qq1 (r v:Nat):SH:=.cells r 179 [.var v]
def clP (r:Nat):SV:=.one (.vptr r (.lit 0) 1 0)
def q9g (r v:Nat):SH:=.cells r 24 (qaT .u8 v 32)
def qjz:Ctr:={ fn := 61,nv:=0,args:=[],heap:=[],ro:=[],pre:=fun _=>True,alts:=[
 { k:=3,ret:=clP 0,heap:=[qq1 0 1,.abs 2 1003],post:=fun Z=>qX (Z 2).h (Z 1).v fun _ _=>none }] }
def qt2:Ctr:={ fn := 101,nv:=2,args:=[iv .u64 (.var 0),iv .u64 (.var 1)],heap:=[],ro:=[],pre:=fun Z=>0 <= (Z 0).i/\(Z 0).i < 18446744073709551616/\0 <= (Z 1).i/\(Z 1).i < 18446744073709551616,alts:=[
 { k:=1,ret:=.one (.vbool (.var 2)),heap:=[],post:=fun Z=>(Z 2).b = qkx (Z 0).i (Z 1).i }] }
def qmM:Ctr:={ fn := 62,nv:=6,args:=[clP 0,dgV 1,iv .i64 (.var 2),iv .u64 (.var 3)],heap:=[qq1 0 4,.abs 5 1003],ro:=[],pre:=fun Z=>(∃ cl,qX (Z 5).h (Z 4).v cl)/\0 <= (Z 3).i/\(Z 3).i < 18446744073709551616,alts:=[
 { k:=1,ret:=.tup [],heap:=[qq1 0 4,.abs 6 1003],post:=fun Z=>∀ cl,qX (Z 5).h (Z 4).v cl->qX (Z 6).h (Z 4).v (qed cl (qf (Z 1).d 32) (Z 2).i (Z 3).i) }] }
def q9k (h:Hp) (it:Value) (m:List ME) (seen:List Nat):Prop:=∃ b' mo since st,it = .pointer (some ⟨b',0,none⟩)/\h b' = some (.mapIter mo since seen.toArray st) /\
 ((mo = none/\m = [])∨∃ b c,mo = some b/\b' ≠ b/\qaF h b mtI m c/\c <= since/\(seen = []∨m = []∨∃ e ∈ m,e.born < st)/\∀ n ∈ seen,∃ e ∈ m,e.born = n)
def qip (h:Hp) (it:Value):Nat :=
 match it with
 | .pointer (some a) =>
  match h a.block with
  | some (.mapIter (some b) _ seen _) =>
   match h b with
   | some (.map es _)=>(es.toList.filter fun e=>!(seen.contains e.born)).length
   | _=>0
  | _=>0
 | _=>0
def q6Q (Z:Env):Prop:=(∃ cl,qX (Z 5).h (Z 4).v cl)/\qU (qf (Z 1).d 32)/\qca Z 6/\qca Z 11/\gOk Z 16 17 gR/\0 <= (Z 3).i/\(Z 3).i < 18446744073709551616
def qgb:Ctr:={ fn := 68,nv:=18,ip:=[gIp 16,(5030, 181)],args:=[clP 0,dgV 1,iv .i64 (.var 2),iv .u64 (.var 3),bS 6,bS 11],heap:=[qq1 0 4,.abs 5 1003],ro:=[qch 6,qch 11,gHp 16 17],pre:=q6Q,alts:=[
 { k:=2,ret:=.one (.vbool (.var 18)),heap:=[qq1 0 4,.abs 19 1003],post:=fun Z=>∀ cl,qX (Z 5).h (Z 4).v cl->qX (Z 19).h (Z 4).v cl/\(Z 18).b = qdK cl (qf (Z 1).d 32) (Z 2).i (Z 3).i (qy (Z 9).d) (qy (Z 14).d) }] }
def qjm (o:List Int) (self clock:Int) (L H:List Int) (x:ME):Bool:=qkx (qaj (x.v.headD .nilFunc)) clock && decide (x.k.headD 0 ∈ L) && !decide (x.k.headD 0 ∈ H) && qR o (x.k.headD 0) self
def qqL (h0 h:Hp) (v it:Value) (o:List Int) (self clock:Int) (L H:List Int) (x:Bool):Prop:=∀ cl,qX h0 v cl->qX h v cl/\∃ m seen,q9k h it m seen/\(∀ i,cl o i = qdy m i)/\x = (m.filter fun e=>seen.contains e.born).any (qjm o self clock L H)
def qv9:Inv:={ key:=6,nv:=8,env:=[(2,iv .i64 (.var 2)),(3,iv .u64 (.var 3)),(7,q5z 1000),(13,.one (.vptr 1001 (.lit 0) 16 0)),(14,.one (.vptr 1003 (.lit 0) 16 0)),(15,.one (.vbool (.var 1005))),(30,.one (.var 1006))],heap:=[q9g 1000 1,.arr 1001 157 qq6 (.var 1002) (.lit 1),.arr 1003 157 qq6 (.var 1004) (.lit 1),qq1 0 4,.abs 1007 1003],inv:=(fun Z=>qdi (Z 1002).d (qy (Z 14).d) (Z 14).d.length/\qdi (Z 1004).d (qy (Z 9).d) (Z 9).d.length/\qqL (Z 5).h (Z 1007).h (Z 4).v (Z 1006).v (qf (Z 1).d 32) (Z 2).i (Z 3).i (qy (Z 9).d) (qy (Z 14).d) (Z 1005).b),mu:=(fun Z=>qip (Z 1007).h (Z 1006).v) }
structure ManV where
 k:Int
 n:Int
 t:Int
 s:Int
 o:List Int
 D:List (List Int)
def ManV.ok (m:ManV):Bool:=qz m.k m.n m.t m.s m.D.length
def ManV.bytes (m:ManV):List Int:=qaI m.k m.n m.t m.s m.o ++ m.D.flatten
abbrev PcL:=List (Int × List Int)
def q8V (m d c:Nat):SH:=.arr m 27 quk (.var d) (.var c)
def q9p (g o m p l q:Nat):SH:=.cells g 165 (qaT .u8 o 32 ++ [.vptr m (.lit 0) 37 0,.vslice p (.lit 0) (.var l) (.var q) 2])
def gaP (g:Nat):SV:=.one (.vptr g (.lit 0) 34 0)
def qhx (b tag:Nat):List SH:=[q9p b (b + 1) (b + 2) (b + 5) (b + 6) (b + 7),q8V (b + 2) (b + 3) (b + 4),qfI (b + 5) (b + 8) (b + 7),.abs (b + 9) tag]
def qf2 (h:Hp) (d:qd) (m:ManV):Prop:=∃ row D,d = [row]/\qv quk row/\Rd h k32 (row[36]?.getD .nilFunc) D/\qd4 D/\dgs D = m.D/\qbr row 0 = m.k/\qbr row 1 = m.n/\qbr row 2 = m.t/\qbr row 3 = m.s/\((List.range 32).map fun j=>qbr row (4 + j)) = m.o/\qU m.o/\m.ok = true
def qqm (h:Hp) (P:qd) (L:PcL):Prop:=P.length = L.length/\qfw h P P.length/\∀ j,j < P.length->(pcI P j,pcD h P j) = L.getD j (0,[])
def qaR (h:Hp) (r:Option Addr) (d:qd) (c n:Int) (P:qd) (M:Option ManV) (L:PcL):Prop:=n = P.length/\qqm h P L/\(∀ x ∈ L,(x.2.length:Int) <= 9000)/\L.length <= 255/\((M = none/\r = none/\c = 0/\d = []/\L = [])∨∃ m,M = some m/\c = 1/\qf2 h d m/\L ≠ [])
def qaz (M:Option ManV) (L:PcL):Bool:=match M with
 | some m=>decide (m.k <= L.length)
 | none=>false
def gaB (Z:Env) (b:Nat) (M:Option ManV) (L:PcL):Prop:=qaR (Z (b + 9)).h (Z (b + 2)).r (Z (b + 3)).d (Z (b + 4)).i (Z (b + 6)).i (Z (b + 8)).d M L
def qf3:Ctr:={ fn := 45,nv:=1,args:=[dgV 0],heap:=[],ro:=[],pre:=fun _=>True,alts:=[
 { k:=1,ret:=gaP 1,heap:=[.cells 1 165 (qaT .u8 0 32 ++ [.vnilp,.vnils])],post:=fun _=>True }] }
def qcs:Ctr:={ fn := 47,nv:=10,args:=[gaP 0],heap:=[],ro:=qhx 0 20,pre:=fun Z=>∃ M L,gaB Z 0 M L,alts:=[
 { k:=1,ret:=.one (.vbool (.var 10)),heap:=[],post:=fun Z=>∀ M L,gaB Z 0 M L->(Z 10).b = qaz M L }] }
def qhI:Ctr:={ fn := 89,nv:=10,args:=[gaP 0],heap:=[],ro:=qhx 0 20,pre:=fun Z=>∃ M L,gaB Z 0 M L,alts:=[
 { k:=1,ret:=iv .i64 (.var 10),heap:=[],post:=fun Z=>∀ M L,gaB Z 0 M L->(Z 10).i = if qaz M L then 0 else 12 }] }
def qis:Ctr:={ fn := 55,nv:=10,args:=[gaP 0],heap:=[],ro:=qhx 0 20,pre:=fun Z=>∃ M L,gaB Z 0 M L,alts:=[
 { k:=4,ret:=.one (.vslice 10 (.lit 0) (.var 11) (.var 12) 1),heap:=[iHp 10 13 12],post:=fun Z=>∀ M L,gaB Z 0 M L->qby (Z 13).d (Z 11).i (L.map Prod.fst) }] }
def q6C:Inv:={ key:=5,nv:=5,env:=[(3,.one (.vslice 1000 (.lit 0) (.var 1001) (.var 1002) 1)),(12,pcS 5 6 7),(13,iv .i64 (.var 6)),(14,iv .i64 (.var 1004))],heap:=[iHp 1000 1003 1002],inv:=(fun Z=>0 <= (Z 1004).i/\(Z 1004).i <= (Z 6).i/\qby (Z 1003).d (Z 1001).i (qaw (Z 8).d (Z 1004).i.toNat)),mu:=(fun Z=>((Z 6).i - (Z 1004).i).toNat) }
def qj1:Ctr:={ fn := 90,nv:=5,args:=[.one (.vslice 0 (.lit 0) (.var 1) (.var 2) 32)],heap:=[],ro:=[qbU 0 3 4],pre:=fun Z=>0 <= (Z 1).i/\(Z 1).i = (Z 3).d.length/\(Z 1).i <= 4398046510976,alts:=[
 { k:=3,ret:=.one (.vslice 5 (.lit 0) (.var 1) (.var 6) 32),heap:=[qbU 5 7 6],post:=fun Z=>(Z 7).d = (Z 3).d }] }
def qeJ (o:List Int) (M:Option ManV) (L:PcL) (m:ManV) (i:Int) (b:List Int):Int :=
 if m.ok = false then 2 else if sha m.bytes ≠ o then 20 else if qbO m.k m.n m.t m.s m.D.length m.D i b ≠ 0 then qbO m.k m.n m.t m.s m.D.length m.D i b else if i ∈ L.map Prod.fst then 7 else if qaz M L then 8 else 0
def qkZ (Z:Env) (r:Nat):ManV:=⟨(Z r).i,(Z (r + 1)).i,(Z (r + 2)).i,(Z (r + 3)).i,qf (Z (r + 4)).d 32,dgs (Z (r + 8)).d⟩
def qvS (Z:Env):Prop:=(∃ M L,gaB Z 0 M L)/\qU (qf (Z 1).d 32)/\qk7 Z 10/\qbn (Z 20).i/\qcV Z 20/\(Z 22).i <= 9000
def qfh:Ctr:={ fn := 48,nv:=28,ip:=[gIp 26,(1002,9)],args:=[gaP 0,qmJ 10,qeO 20],heap:=qhx 0 20,ro:=[qbU 15 18 19,qmP 20,gHp 26 27],pre:=fun Z=>qvS Z/\gOk Z 26 27 gR,alts:=[
 { k:=9,ret:=iv .i64 (.var 36),heap:=[q9p 0 1 28 31 32 33,q8V 28 29 30,qfI 31 34 33,.abs 35 20],post:=fun Z=>∀ M L,gaB Z 0 M L->(Z 36).i = qeJ (qf (Z 1).d 32) M L (qkZ Z 10) (Z 20).i (bI (Z 24).d)/\qaR (Z 35).h (Z 28).r (Z 29).d (Z 30).i (Z 32).i (Z 34).d (if (Z 36).i = 0 then some (qkZ Z 10) else M) (if (Z 36).i = 0 then L ++ [((Z 20).i,bI (Z 24).d)] else L) }] }
end Go.Eng
namespace Go.Proofs
open Go Go.Eng Go.RowKit Go.Lib
theorem q4W {P:Program} (a b:Addr) (xs ys:List Int) (c c':Nat) (w:World) (hx:∀ j x,xs[j]? = some x->w.cell? (a.add j) = some (.int .u8 x)) (hy:∀ j x,ys[j]? = some x->w.cell? (b.add j) = some (.int .u8 x)) :
  (Extern.BytealgCompare.compare #[.slice (some a) xs.length c,.slice (some b) ys.length c']).run P w = .ok (.int .i64 (compareBytes (Lib.bytesOf xs) (Lib.bytesOf ys))) w:=by
 have h1:=run_loadBytesX (P:=P) w xs a .empty hx
 have h2:=run_loadBytesX (P:=P) w ys b .empty hy
 change Sem.run P (do pure (goInt (Extern.BytealgCompare.cmp (<- Extern.Bytes.bytesOf (.slice (some a) xs.length c)) (<- Extern.Bytes.bytesOf (.slice (some b) ys.length c'))))) w = _
 simp only [Extern.Bytes.bytesOf,Sem.run_bind,h1,h2,Sem.run_pure,Result.andThen]
 rw [cmp_eq]
 simp [goInt]
set_option maxHeartbeats 1000000 in
set_option maxRecDepth 100000 in
theorem qqk (a b:Addr) (xs ys:List Int) (c c':Nat) (w:World) (hx:∀ j x,xs[j]? = some x->w.cell? (a.add j) = some (.int .u8 x)) (hy:∀ j x,ys[j]? = some x->w.cell? (b.add j) = some (.int .u8 x)) :
  Calls Tryz.prog 118 #[.slice (some a) xs.length c,.slice (some b) ys.length c'] w fun e w'=>e = .returned (.int .i64 (compareBytes (Lib.bytesOf xs) (Lib.bytesOf ys)))/\w' = w:=by
 go_enter Tryz.func118,Tryz.ntmps118
 go_wp2
 rw [run_callFunc_extern Tryz.func139 (by kernel_rfl) (by kernel_rfl) (by kernel_rfl) (e:=Extern.BytealgCompare.compare) (by kernel_rfl),q4W a b xs ys c c' w hx hy]
 simp only [Result.andThen]
 rw [Oper.upon_value]
 go_wp2
 go_ret
 exact ⟨rfl,rfl⟩
end Go.Proofs
namespace Go.Proofs
open Go Go.Eng
theorem q7d {x y:Int} (hx:0 <= x/\x < 256) (hy:0 <= y/\y < 256):x.toNat.toUInt8 < y.toNat.toUInt8↔x < y:=by
 rw [UInt8.lt_iff_toNat_lt]
 have h1:x.toNat.toUInt8.toNat = x.toNat:=by
  show x.toNat % 256 = x.toNat
  omega
 have h2:y.toNat.toUInt8.toNat = y.toNat:=by
  show y.toNat % 256 = y.toNat
  omega
 rw [h1,h2]; omega
theorem qlD:∀ {xs ys:List Int},qU xs->qU ys->Lib.compareBytes (Lib.bytesOf xs) (Lib.bytesOf ys) = qb2 xs ys
 | [],[],_,_=>rfl
 | [],_ :: _,_,_=>rfl
 | _ :: _,[],_,_=>rfl
 | x :: xs,y :: ys,hx,hy=>by
  have h1:=q7d (hx x (jae ..)) (hy y (jae ..))
  have h2:=q7d (hy y (jae ..)) (hx x (jae ..))
  have h3:=qlD (xs:=xs) (ys:=ys) (fun z hz=>hx z (jad _ hz)) (fun z hz=>hy z (jad _ hz))
  show (if x.toNat.toUInt8 < y.toNat.toUInt8 then -1 else if y.toNat.toUInt8 < x.toNat.toUInt8 then 1 else Lib.compareBytes (Lib.bytesOf xs) (Lib.bytesOf ys)) = _
  rw [h3,qb2]
  simp only [h1,h2]
theorem q9q {k:IntKind} {v:Value} (h:CK.fits (.int k) v = true):∃ z,v = .int k z:=by
 cases v <;> simp [CK.fits] at h
 subst h
 exact ⟨_,rfl⟩
theorem qvj {c:Array Value} {b o:Nat} {ty:TypeId} {fr:Nat × Nat} {d:qd} {w:World} (hb:w.heap[b]? = some (.cells c ty fr)) (hd:qap d 33) (hr:qP c o kRk d) :
  ∀ j x,((qf d 33).drop 1)[j]? = some x->w.cell? ((⟨b,o + 1,none⟩:Addr).add j) = some (.int .u8 x):=fun j x hx=>by
 obtain ⟨row,rfl,hl⟩:=hd
 obtain ⟨hf,hc⟩:=hr 0 row rfl
 rw [jbe] at hx
 have hj:1 + j < 33:=by
  rcases jbu (1 + j) 33 with h | h
  ·exact h
  ·rw [jas (by simp [qf]; omega)] at hx; cases hx
 have hx2:x = qaj (row[1 + j]?.getD .nilFunc):=by
  rw [qf,jan,jbj hj] at hx
  have:=(jaz hx).symm
  rw [this]; rfl
 have hrow:row[1 + j]? = some row[1 + j]:=jac (by omega)
 have hk:kRk[1 + j]? = some (.int .u8):=by
  have:kRk = .int .i64 :: List.replicate 32 (.int .u8):=rfl
  rw [this,jdn,ja6,jbg,jah (by omega)]
 obtain ⟨z,hz⟩:=q9q (hf.2 (1 + j) (.int .u8) row[1 + j] hk hrow)
 have hv:=hc (1 + j) row[1 + j] hrow
 rw [hx2,hrow]
 simp only [ja0]
 rw [hz] at hv ⊢
 have e:((⟨b,o + 1,none⟩:Addr).add j) = ⟨b,o + 1 + j,none⟩:=by
  unfold Addr.add
  by_cases hj0:j = 0
  ·subst hj0; simp
  ·simp [hj0]
 rw [e]
 simp only [World.cell?,hb]
 show c[o + 1 + j]? = _
 rw [show o + 1 + j = o + 0 * kRk.length + (1 + j) by omega,hv]
 rfl
theorem q7N:qp2.ok Tryz.prog:=by
 refine ⟨fun args w=>Tryz.call118 args w,fun Z w hF hO hg hd hw hs hro hp=>?_⟩
 obtain ⟨h2,h3,b2,b3⟩:=hp
 have hr0:=hro _ (jae ..)
 have hr1:=hro _ (jad _ (jae ..))
 obtain ⟨row2,e2,l2⟩:=h2
 obtain ⟨row3,e3,l3⟩:=h3
 rcases hr0 with h | ⟨b,o,c,ty,fr,q1,q2,q3⟩
 ·have h:(Z 2).d = []:=h
  rw [e2] at h; cases h
 rcases hr1 with h | ⟨b',o',c',ty',fr',p1,p2,p3⟩
 ·have h:(Z 3).d = []:=h
  rw [e3] at h; cases h
 have hsub:∀ {x:Nat} {X:Obj},hF.h x = some X->w.heap[x]? = some X:=fun h=>hw.1 _ _ (by simp [Hp.union,h])
 have hx:=qvj (w:=w) (hsub q2) ⟨row2,e2,l2⟩ q3
 have hy:=qvj (w:=w) (hsub p2) ⟨row3,e3,l3⟩ p3
 have hlen:∀ d:qd,((qf d 33).drop 1).length = 32:=fun d=>by simp [qf]
 have hc:=qqk ⟨b,o + 1,none⟩ ⟨b',o' + 1,none⟩ _ _ 32 32 w hx hy
 rw [hlen,hlen] at hc
 have hargs:(List.map (SV.den Z) qp2.args).toArray = #[.slice (some ⟨b,o + 1,none⟩) 32 32,.slice (some ⟨b',o' + 1,none⟩) 32 32]:=by
  simp [qp2,SV.den,T.den,O0.den,O3.den,q1,p1,qm]
 rw [hargs]
 refine hc.mono fun e w' h=>?_
 obtain ⟨rfl,rfl⟩:=h
 refine ⟨0,_,Z.set 4 { i:=qb2 ((qf (Z 2).d 33).drop 1) ((qf (Z 3).d 33).drop 1) },rfl,fun n=>?_,fun n hn=>Env.set_ne _ _ (by have:n < 4:=hn; omega),?_,?_,hO,hd,trivial,hw.1,hw.2⟩
 ·by_cases hn:n = 4
  ·subst hn; rw [Env.set_same]; exact ⟨rfl,fun row hr=>(by cases hr)⟩
  ·rw [Env.set_ne _ _ hn]; exact hg n
 ·rw [qlD b2 b3]; rfl
 ·rfl
def q3Z:Out:=(.br (.cmp .geq (tv 0) (tl 0))
 (.ret 0 (sg 1 [bt 1 (.cmp .lss (tv 0) (tl 16))]))
 (.ret 0 (sg 1 [bt 1 (.bl false)])))
theorem q8v:qn Tryz.prog qfz [] [] q3Z:=qh Tryz.func100 Tryz.call100 (by kernel_rfl)
@[simp] def qbv:T:=.rcons (.vbool (.bcell (tv 7) (tl 0) 0)) (.rcons (.vbool (.bcell (tv 7) (tl 0) 1)) (.rcons (.vbool (.bcell (tv 7) (tl 0) 2)) (.rcons (.vbool (.bcell (tv 7) (tl 0) 3)) (.rcons (.vbool (.bcell (tv 7) (tl 0) 4)) (.rcons (.vbool (.bcell (tv 7) (tl 0) 5)) (.rcons (.vbool (.bcell (tv 7) (tl 0) 6)) (.rcons (.vbool (.bcell (tv 7) (tl 0) 7)) (.rcons (.vbool (.bcell (tv 7) (tl 0) 8)) (.rcons (.vbool (.bcell (tv 7) (tl 0) 9)) (.rcons (.vbool (.bcell (tv 7) (tl 0) 10)) (.rcons (.vbool (.bcell (tv 7) (tl 0) 11)) (.rcons (.vbool (.bcell (tv 7) (tl 0) 12)) (.rcons (.vbool (.bcell (tv 7) (tl 0) 13)) (.rcons (.vbool (.bcell (tv 7) (tl 0) 14)) (.rcons (.vbool (.bcell (tv 7) (tl 0) 15)) .rnil)))))))))))))))
def qpr:Out:=(.fresh 5 (.need (.cmp .leq (tl 0) (tv 1)) (.inv 0 6 (sg 1000 [bt 1001 (.rcons (.vbool (.bl false)) (.rcons (.vbool (.bl false)) (.rcons (.vbool (.bl false)) (.rcons (.vbool (.bl false)) (.rcons (.vbool (.bl false)) (.rcons (.vbool (.bl false)) (.rcons (.vbool (.bl false)) (.rcons (.vbool (.bl false)) (.rcons (.vbool (.bl false)) (.rcons (.vbool (.bl false)) (.rcons (.vbool (.bl false)) (.rcons (.vbool (.bl false)) (.rcons (.vbool (.bl false)) (.rcons (.vbool (.bl false)) (.rcons (.vbool (.bl false)) (.rcons (.vbool (.bl false)) .rnil)))))))))))))))),bt 1002 (tl 0),bg 1000 5]) (fr 6 3 (.hyp 0 6 (.br (.cmp .lss (tv 8) (tv 1))
 (.need (.cmp .leq (tl 0) (tv 8)) (.need (.cmp .lss (tv 8) (.dlen (tv 3))) (.pre 0 (sg 0 [bt 0 (.icell (tv 3) (tv 8) 0)]) (.both (.fresh 9 (.post 0 0 (sg 0 [bt 0 (.icell (tv 3) (tv 8) 0)]) 9 (.br (tv 9)
 (.need (.cmp .leq (tl 0) (.icell (tv 3) (tv 8) 0)) (.need (.cmp .lss (.icell (tv 3) (tv 8) 0) (tl 16)) (.need (.cmp .lss (tl 0) (.dlen (tv 7))) (.back 0 6 (sg 1000 [bt 1001 (.c3 (.xput 0) (tv 7) (.icell (tv 3) (tv 8) 0) (.vbool (.bl true))),bt 1002 (.arith .add .i64 (tv 8) (tl 1)),bg 1000 6])))))
 (.back 0 6 (sg 1000 [bv 1001 7,bt 1002 (.arith .add .i64 (tv 8) (tl 1)),bg 1000 6]))))) .top))))
 (.need (.cmp .lss (tl 0) (.dlen (tv 7))) (.ret 0 (sg 5 [bt 20 (.bcell (.dput (tv 7) (tl 0) 0 qbv) (tl 0) 15),bt 19 (.bcell (.dput (tv 7) (tl 0) 0 qbv) (tl 0) 14),bt 18 (.bcell (.dput (tv 7) (tl 0) 0 qbv) (tl 0) 13),bt 17 (.bcell (.dput (tv 7) (tl 0) 0 qbv) (tl 0) 12),bt 16 (.bcell (.dput (tv 7) (tl 0) 0 qbv) (tl 0) 11),bt 15 (.bcell (.dput (tv 7) (tl 0) 0 qbv) (tl 0) 10),bt 14 (.bcell (.dput (tv 7) (tl 0) 0 qbv) (tl 0) 9),bt 13 (.bcell (.dput (tv 7) (tl 0) 0 qbv) (tl 0) 8),bt 12 (.bcell (.dput (tv 7) (tl 0) 0 qbv) (tl 0) 7),bt 11 (.bcell (.dput (tv 7) (tl 0) 0 qbv) (tl 0) 6),bt 10 (.bcell (.dput (tv 7) (tl 0) 0 qbv) (tl 0) 5),bt 9 (.bcell (.dput (tv 7) (tl 0) 0 qbv) (tl 0) 4),bt 8 (.bcell (.dput (tv 7) (tl 0) 0 qbv) (tl 0) 3),bt 7 (.bcell (.dput (tv 7) (tl 0) 0 qbv) (tl 0) 2),bt 6 (.bcell (.dput (tv 7) (tl 0) 0 qbv) (tl 0) 1),bt 5 (.bcell (.dput (tv 7) (tl 0) 0 qbv) (tl 0) 0)])))))))))
theorem q92:qn Tryz.prog qjk [qfz] [qu7] qpr:=qh Tryz.func82 Tryz.call82 (by kernel_rfl)
@[simp] def qr6:Sg:=sg 0 [bv 7 3,bv 5 8,bt 4 (.dapp (.dapp (.rcons (x8 0 0) .rnil) (.dapp (.rcons (x8 1 0) .rnil) (.dapp (.rcons (x8 2 0) .rnil) (.dapp (.rcons (x8 3 0) .rnil) (.dapp (.rcons (x8 4 0) .rnil) (.dapp (.rcons (x8 5 0) .rnil) (.dapp (.rcons (x8 6 0) .rnil) (.dapp (.rcons (x8 7 0) .rnil) (.dapp (.rcons (x8 8 0) .rnil) (.dapp (.rcons (x8 9 0) .rnil) (.dapp (.rcons (x8 10 0) .rnil) (.dapp (.rcons (x8 11 0) .rnil) (.dapp (.rcons (x8 12 0) .rnil) (.dapp (.rcons (x8 13 0) .rnil) (.dapp (.rcons (x8 14 0) .rnil) (.dapp (.rcons (x8 15 0) .rnil) (.dapp (.rcons (x8 16 0) .rnil) (.dapp (.rcons (x8 17 0) .rnil) (.dapp (.rcons (x8 18 0) .rnil) (.dapp (.rcons (x8 19 0) .rnil) (.dapp (.rcons (x8 20 0) .rnil) (.dapp (.rcons (x8 21 0) .rnil) (.dapp (.rcons (x8 22 0) .rnil) (.dapp (.rcons (x8 23 0) .rnil) (.dapp (.rcons (x8 24 0) .rnil) (.dapp (.rcons (x8 25 0) .rnil) (.dapp (.rcons (x8 26 0) .rnil) (.dapp (.rcons (x8 27 0) .rnil) (.dapp (.rcons (x8 28 0) .rnil) (.dapp (.rcons (x8 29 0) .rnil) (.dapp (.rcons (x8 30 0) .rnil) (.rcons (x8 31 0) .rnil)))))))))))))))))))))))))))))))) (.rcons (.vint .u8 (.conv .u8 (tv 1))) .rnil)),bv 3 8,bt 2 (tl 33),bt 1 (tl 0),bg 0 7,bg 6 2]
def qzb:Out:=(fr 4 3 (.need (.cmp .leq (.tims (tl 1) (tl 33)) (tl 140737488355328)) (fr 7 2 (.know (.cmp .leq (tl 33) (tv 8)) (.pre 0 qr6 (.both (.fresh 9 (.post 0 0 qr6 9 (.ret 0 (sg 4 [bt 4 (r8 9)])))) .top))))))
theorem q5b:qn Tryz.prog qgG [qcG] [] qzb:=qh Tryz.func24 Tryz.call24 (by kernel_rfl)
def q3x:Out:=(fr 4 2 (.pre 0 (sg 0 [bv 3 3,bv 1 1,bt 0 (r8 0),bg 2 2]) (.both (.fresh 6 (.post 0 0 (sg 0 [bv 3 3,bv 1 1,bt 0 (r8 0),bg 2 2]) 6 (.ret 0 (sg 4 [bt 4 (r8 6)])))) .top)))
theorem q74:qn Tryz.prog qkh [qgG] [] q3x:=qh Tryz.func80 Tryz.call80 (by kernel_rfl)
def qsj:Out:=(fr 4 2 (.both (.pre 0 (sg 0 [bt 3 (.rcons (.vint .i64 (tv 2)) (r8 3)),bt 2 (.rcons (.vint .i64 (tv 0)) (r8 1)),bg 1 5,bg 0 4]) (.both (.fresh 6 (.post 0 0 (sg 0 [bt 3 (.rcons (.vint .i64 (tv 2)) (r8 3)),bt 2 (.rcons (.vint .i64 (tv 0)) (r8 1)),bg 1 5,bg 0 4]) 6 (.br (.cmp .neq (tv 6) (tl 0))
 (.ret 0 (sg 4 [bv 4 6]))
 (.ret 0 (sg 4 [bt 4 (.arith .sub .i64 (tv 0) (tv 2))]))))) .top)) .top))
theorem qzW:qn Tryz.prog qhK [qp2] [] qsj:=qh Tryz.func81 Tryz.call81 (by kernel_rfl)
@[simp] def qqe:Out:=.fresh 10 (.both (.fresh 11 (.both (.both (.br (.c2 .req (r8 6) (r8 8))
 (.ret 0 (sg 5 [bt 5 (.cmp .lss (tv 1) (tv 2))]))
 (.pre 1 (sg 0 [bv 2 2,bt 3 (r8 8),bv 0 1,bt 1 (r8 6)]) (.both (.fresh 12 (.post 1 0 (sg 0 [bv 2 2,bt 3 (r8 8),bv 0 1,bt 1 (r8 6)]) 12 (.ret 0 (sg 5 [bt 5 (.cmp .lss (tv 12) (tl 0))])))) .top))) .top) .top)) .top)
@[simp] def qqc:Out:=.fresh 8 (.both (.pre 0 (sg 0 [bv 3 4,bv 1 2,bt 0 (r8 0),bg 2 3]) (.both (fr 9 2 (.post 0 0 (sg 0 [bv 3 4,bv 1 2,bt 0 (r8 0),bg 2 3]) 9 (.both (.fresh 11 (.both (.both (.br (.c2 .req (r8 6) (r8 9))
 (.ret 0 (sg 5 [bt 5 (.cmp .lss (tv 1) (tv 2))]))
 (.pre 1 (sg 0 [bv 2 2,bt 3 (r8 9),bv 0 1,bt 1 (r8 6)]) (.both (.fresh 12 (.post 1 0 (sg 0 [bv 2 2,bt 3 (r8 9),bv 0 1,bt 1 (r8 6)]) 12 (.ret 0 (sg 5 [bt 5 (.cmp .lss (tv 12) (tl 0))])))) .top))) .top) .top)) .top))) .top)) (.both (.fresh 9 (.both (.pre 0 (sg 0 [bv 3 4,bv 1 2,bt 0 (r8 0),bg 2 3]) (.both (fr 10 2 (.post 0 0 (sg 0 [bv 3 4,bv 1 2,bt 0 (r8 0),bg 2 3]) 10 (.both (.both (.br (.c2 .req (r8 6) (r8 10))
 (.ret 0 (sg 5 [bt 5 (.cmp .lss (tv 1) (tv 2))]))
 (.pre 1 (sg 0 [bv 2 2,bt 3 (r8 10),bv 0 1,bt 1 (r8 6)]) (.both (.fresh 12 (.post 1 0 (sg 0 [bv 2 2,bt 3 (r8 10),bv 0 1,bt 1 (r8 6)]) 12 (.ret 0 (sg 5 [bt 5 (.cmp .lss (tv 12) (tl 0))])))) .top))) .top) .top))) .top)) .top)) .top))
@[simp] def qpR:Out:=.fresh 6 (.both (.pre 0 (sg 0 [bv 3 4,bv 1 1,bt 0 (r8 0),bg 2 3]) (.both (fr 7 2 (.post 0 0 (sg 0 [bv 3 4,bv 1 1,bt 0 (r8 0),bg 2 3]) 7 (.both (.pre 0 (sg 0 [bv 3 4,bv 1 2,bt 0 (r8 0),bg 2 3]) (.both (fr 9 2 (.post 0 0 (sg 0 [bv 3 4,bv 1 2,bt 0 (r8 0),bg 2 3]) 9 (.both (.fresh 11 (.both (.both (.br (.c2 .req (r8 7) (r8 9))
 (.ret 0 (sg 5 [bt 5 (.cmp .lss (tv 1) (tv 2))]))
 (.pre 1 (sg 0 [bv 2 2,bt 3 (r8 9),bv 0 1,bt 1 (r8 7)]) (.both (.fresh 12 (.post 1 0 (sg 0 [bv 2 2,bt 3 (r8 9),bv 0 1,bt 1 (r8 7)]) 12 (.ret 0 (sg 5 [bt 5 (.cmp .lss (tv 12) (tl 0))])))) .top))) .top) .top)) .top))) .top)) (.both (.fresh 9 (.both (.pre 0 (sg 0 [bv 3 4,bv 1 2,bt 0 (r8 0),bg 2 3]) (.both (fr 10 2 (.post 0 0 (sg 0 [bv 3 4,bv 1 2,bt 0 (r8 0),bg 2 3]) 10 (.both (.both (.br (.c2 .req (r8 7) (r8 10))
 (.ret 0 (sg 5 [bt 5 (.cmp .lss (tv 1) (tv 2))]))
 (.pre 1 (sg 0 [bv 2 2,bt 3 (r8 10),bv 0 1,bt 1 (r8 7)]) (.both (.fresh 12 (.post 1 0 (sg 0 [bv 2 2,bt 3 (r8 10),bv 0 1,bt 1 (r8 7)]) 12 (.ret 0 (sg 5 [bt 5 (.cmp .lss (tv 12) (tl 0))])))) .top))) .top) .top))) .top)) .top)) .top)))) .top)) (.both (.fresh 7 (.both (.pre 0 (sg 0 [bv 3 4,bv 1 1,bt 0 (r8 0),bg 2 3]) (.both (fr 8 2 (.post 0 0 (sg 0 [bv 3 4,bv 1 1,bt 0 (r8 0),bg 2 3]) 8 (.both (.pre 0 (sg 0 [bv 3 4,bv 1 2,bt 0 (r8 0),bg 2 3]) (.both (fr 10 2 (.post 0 0 (sg 0 [bv 3 4,bv 1 2,bt 0 (r8 0),bg 2 3]) 10 (.both (.both (.br (.c2 .req (r8 8) (r8 10))
 (.ret 0 (sg 5 [bt 5 (.cmp .lss (tv 1) (tv 2))]))
 (.pre 1 (sg 0 [bv 2 2,bt 3 (r8 10),bv 0 1,bt 1 (r8 8)]) (.both (.fresh 12 (.post 1 0 (sg 0 [bv 2 2,bt 3 (r8 10),bv 0 1,bt 1 (r8 8)]) 12 (.ret 0 (sg 5 [bt 5 (.cmp .lss (tv 12) (tl 0))])))) .top))) .top) .top))) .top)) .top))) .top)) .top)) .top))
def qt1:Out:=(.fresh 5 (.both (.pre 0 (sg 0 [bv 3 4,bv 1 1,bt 0 (r8 0),bg 2 3]) (.both (fr 6 2 (.post 0 0 (sg 0 [bv 3 4,bv 1 1,bt 0 (r8 0),bg 2 3]) 6 (.both (.pre 0 (sg 0 [bv 3 4,bv 1 2,bt 0 (r8 0),bg 2 3]) (.both (fr 8 2 (.post 0 0 (sg 0 [bv 3 4,bv 1 2,bt 0 (r8 0),bg 2 3]) 8 (.both qqe (.both qqe .top)))) .top)) (.both qqc (.both qqc .top))))) .top)) (.both qpR (.both qpR .top))))
theorem q3A:qn Tryz.prog qdW [qkh,qhK] [] qt1:=qh Tryz.func26 Tryz.call26 (by kernel_rfl)
set_option maxRecDepth 20000
theorem qrp:qfz.ok Tryz.prog:=q8v (by simp) fun Z hg hp=>by
 simp (config:={ maxSteps:=4000000 }) [q3Z,qfz,qpK]
 exact ⟨fun h=>by simp [qH,h],fun h1 h2=>by omega⟩
theorem q1o (d:qd) (p:Int):(qf d 32).map (fun x=>[Value.int .u8 x]) ++ [[Value.int .u8 (IntKind.u8.wrap p)]] = [[.int .u8 (qa d 0)],[.int .u8 (qa d 1)],[.int .u8 (qa d 2)],[.int .u8 (qa d 3)],[.int .u8 (qa d 4)],[.int .u8 (qa d 5)],[.int .u8 (qa d 6)],[.int .u8 (qa d 7)],[.int .u8 (qa d 8)],[.int .u8 (qa d 9)],[.int .u8 (qa d 10)],[.int .u8 (qa d 11)],[.int .u8 (qa d 12)],[.int .u8 (qa d 13)],[.int .u8 (qa d 14)],[.int .u8 (qa d 15)],[.int .u8 (qa d 16)],[.int .u8 (qa d 17)],[.int .u8 (qa d 18)],[.int .u8 (qa d 19)],[.int .u8 (qa d 20)],[.int .u8 (qa d 21)],[.int .u8 (qa d 22)],[.int .u8 (qa d 23)],[.int .u8 (qa d 24)],[.int .u8 (qa d 25)],[.int .u8 (qa d 26)],[.int .u8 (qa d 27)],[.int .u8 (qa d 28)],[.int .u8 (qa d 29)],[.int .u8 (qa d 30)],[.int .u8 (qa d 31)],[.int .u8 (IntKind.u8.wrap p)]]:=rfl
theorem qwa (d:qd) (p:Int):bI ((qf d 32).map (fun x=>[Value.int .u8 x]) ++ [[Value.int .u8 (IntKind.u8.wrap p)]]) = qf d 32 ++ [p % 256]:=by
 rw [qpJ]
 congr 1
theorem q0z {d:qd} {p:Int} (h:qU (qf d 32)):qp ((qf d 32).map (fun x=>[Value.int .u8 x]) ++ [[Value.int .u8 (IntKind.u8.wrap p)]]):=by
 refine q7r ?_
 rw [qwa]
 intro x hx
 rcases jat.1 hx with hx | hx
 ·exact h x hx
 ·rw [jaj.1 hx]; exact ⟨jfv _ (by decide),Int.emod_lt_of_pos _ (by decide)⟩
theorem qtL:qgG.ok Tryz.prog:=q5b (by simp [qiO]) fun Z hg hp=>by
 obtain ⟨hO,hGr,hGd⟩:=hp
 simp (config:={ maxSteps:=4000000 }) [qzb,qgG,qcG,qjL,gOk,hGr,hGd,hO]
 rw [<- q1o]
 refine fun u _ hu=>⟨⟨by omega,q0z hO⟩,fun v _ hv=>?_⟩
 rw [hv,qhY (by simp [qf]),qwa]; rfl
theorem qyM:qkh.ok Tryz.prog:=q74 (by simp [qtL]) fun Z hg hp=>by
 obtain ⟨hO,hGr,hGd⟩:=hp
 simp (config:={ maxSteps:=4000000 }) [q3x,qkh,qgG,gOk,hGr,hGd,hO]
theorem qzV:qhK.ok Tryz.prog:=qzW (by simp [q7N]) fun Z hg hp=>by
 obtain ⟨h1,h3⟩:=hp
 simp (config:={ maxSteps:=4000000 }) [qsj,qhK,qp2]
 refine ⟨⟨⟨_,rfl,rfl⟩,⟨_,rfl,rfl⟩,h1,h3⟩,fun u _ hu=>?_⟩
 have hu:u.i = qb2 (qf (Z 1).d 32) (qf (Z 3).d 32):=hu
 rw [<- hu]
 exact ⟨fun h=>by simp [h],fun h=>by simp [h]⟩
theorem qr4:qdW.ok Tryz.prog:=q3A (by simp [qyM,qzV]) fun Z hg hp=>by
 obtain ⟨hO,hGr,hGd⟩:=hp
 simp (config:={ maxSteps:=4000000 }) [qt1,qdW,qkh,qhK,gOk,hGr,hGd,hO]
 intro u _ hu u1 _ hu1
 rw [hu,hu1]
 unfold qR
 refine ⟨fun h=>by rw [jah h]; rfl,fun h=>⟨⟨qcO _,qcO _⟩,fun v _ hv=>?_⟩⟩
 rw [jaf (fun h'=>h (qfa.1 h'))] at hv
 rw [jaf h,hv]; rfl
theorem qnE {L:List Int}:qdi [List.replicate 16 (.bool false)] L 0:=by
 refine ⟨⟨_,rfl,ja5 ..⟩,fun x h0 h1=>⟨fun h=>?_,fun h=>by simp at h⟩⟩
 exfalso
 have h2:qaq [List.replicate 16 (Value.bool false)] x.toNat = false:=by
  unfold qaq
  rw [jbp,jbg,jah (by omega)]; rfl
 rw [h2] at h; cases h
theorem qiE {L:List Int} {n:Nat} (hn:n < L.length):L.take (n + 1) = L.take n ++ [L.getD n 0]:=by
 rw [jeu,jac hn,jab,jac hn]; rfl
theorem qnq {s:qd} {L:List Int} {n:Nat} {y:Int} (h:qdi s L n) (hn:n < L.length) (hy:y = L.getD n 0) (h0:0 <= y) (h1:y < 16):qdi (qas s y.toNat (.bool true)) L (n + 1):=by
 obtain ⟨⟨row,rfl,hr⟩,h2⟩:=h
 refine ⟨⟨_,rfl,by rw [jdq]; exact hr⟩,fun x x0 x1=>?_⟩
 have hc:qaq (qas [row] y.toNat (.bool true)) x.toNat = if x = y then true else qaq [row] x.toNat:=by
  unfold qaq qas
  rw [jbp,jbp,jb1]
  by_cases hxe:x = y
  ·rw [jah (by rw [hxe]),jah (by omega),jah hxe]; rfl
  ·rw [jaf (fun e=>hxe (by omega)),jaf hxe]
 rw [hc,qiE hn,<- hy,jat,jaj]
 by_cases hxe:x = y
 ·rw [jah hxe]; exact ⟨fun _=>.inr hxe,fun _=>rfl⟩
 ·rw [jaf hxe,h2 x x0 x1]
  exact ⟨.inl,fun h=>h.resolve_right hxe⟩
theorem qny {s:qd} {L:List Int} {n:Nat} {y:Int} (h:qdi s L n) (hn:n < L.length) (hy:y = L.getD n 0) (hne:¬ (0 <= y/\y < 16)):qdi s L (n + 1):=by
 refine ⟨h.1,fun x x0 x1=>?_⟩
 rw [h.2 x x0 x1,qiE hn,<- hy,jat,jaj]
 exact ⟨.inl,fun h=>h.resolve_right (fun e=>hne (by omega))⟩
theorem qdr {d:qd} {i:Int} (h0:0 <= i) (h1:i < d.length):qb d i 0 = (qy d).getD i.toNat 0:=by
 have hl:i.toNat < d.length:=by omega
 rw [qy,jab,jan,jac hl]
 simp [qb,qF,qbr,jac hl]
theorem q2g:qjk.ok Tryz.prog:=q92 (by simp [qrp]) fun Z hg hp=>by
 obtain ⟨hl,h1,hr⟩:=hp
 simp only [Nat.reduceAdd] at hl h1 hr
 simp (config:={ maxSteps:=4000000 }) [qpr,qjk,qu7,qfz,hl]
 have hil:(qy (Z 3).d).length = (Z 3).d.length:=by simp [qy]
 refine ⟨qnE,fun s _ i _ i0 i1 hs=>⟨fun hi=>⟨i0,hi,fun u _ hu=>⟨fun ht=>?_,fun hf=>?_⟩⟩,fun hi=>?_⟩⟩
 ·have hp:0 <= qb (Z 3).d i.i 0/\qb (Z 3).d i.i 0 < 16:=by rw [hu] at ht; exact jbq ht
  have hsl:0 < s.d.length:=by obtain ⟨⟨row,e,_⟩,_⟩:=hs; rw [e]; exact Nat.one_pos
  rw [add64 (x:=i.i) (by omega) (by omega)]
  refine ⟨hp.1,hp.2,hsl,⟨by omega,by omega,?_⟩,by omega⟩
  rw [show (i.i + 1).toNat = i.i.toNat + 1 by omega]
  exact qnq hs (by omega) (qdr i0 hi) hp.1 hp.2
 ·have hp:¬ (0 <= qb (Z 3).d i.i 0/\qb (Z 3).d i.i 0 < 16):=by rw [hu] at hf; exact jd6 hf
  rw [add64 (x:=i.i) (by omega) (by omega)]
  refine ⟨⟨by omega,by omega,?_⟩,by omega⟩
  rw [show (i.i + 1).toNat = i.i.toNat + 1 by omega]
  exact qny hs (by omega) (qdr i0 hi) hp
 ·obtain ⟨⟨row,hs1,hrl⟩,hs2⟩:=hs
  rw [jar (by omega)] at hs2
  rw [hs1] at hs2 ⊢
  match row,hrl with
  | [a0,a1,a2,a3,a4,a5,a6,a7,a8,a9,a10,a11,a12,a13,a14,a15],_ =>
   refine ⟨by simp,?_⟩
   have key:qe2 ((List.range 16).map (qaq [[a0,a1,a2,a3,a4,a5,a6,a7,a8,a9,a10,a11,a12,a13,a14,a15]])) (qy (Z 3).d):=⟨by simp,fun j hj=>by
    rw [jab,jan,jbj hj]
    exact hs2 j (by omega) (by omega)⟩
   exact key
theorem qc5 {d:qd}:(qy d).length = d.length:=by simp [qy]
set_option maxRecDepth 100000
def qyO:Out:=(.need (.cmp .leq (tl 0) (tv 1)) (.inv 0 6 (sg 1000 [bt 1000 (tl 0)]) (.fresh 6 (.hyp 0 6 (.br (.cmp .lss (tv 6) (tv 1))
 (.need (.cmp .leq (tl 0) (tv 6)) (.need (.cmp .lss (tv 6) (.dlen (tv 3))) (.br (.cmp .eql (tv 5) (.icell (tv 3) (tv 6) 0))
 (.ret 0 (sg 6 [bv 6 6]))
 (.back 0 6 (sg 1000 [bt 1000 (.arith .add .i64 (tv 6) (tl 1))])))))
 (.ret 0 (sg 6 [bt 6 (.lit (-1))])))))))
theorem q42:qn Tryz.prog ql8 [] [q3T] qyO:=qh Tryz.func121 Tryz.call121 (by kernel_rfl)
def qqh:Out:=(.pre 0 (sg 0 [bv 4 4,bv 3 3,bv 5 5,bv 2 2,bv 1 1,bg 0 0]) (.both (.fresh 6 (.post 0 0 (sg 0 [bv 4 4,bv 3 3,bv 5 5,bv 2 2,bv 1 1,bg 0 0]) 6 (.ret 0 (sg 6 [bt 6 (.cmp .geq (tv 6) (tl 0))])))) .top))
theorem qxz:qn Tryz.prog qdT [ql8] [] qqh:=qh Tryz.func84 Tryz.call84 (by kernel_rfl)
set_option maxRecDepth 20000
theorem qdA {L:List Int} {n:Nat}:qJ L (n + 1) = qJ L n ++ (if (n:Int) ∈ L then [(n:Int)] else []):=by
 unfold qJ
 rw [jd1,jca,jfm]
 congr 1
 simp only [ja3,jb6,jdj,List.filter_nil,ja9]
theorem qlU {d:qd} {x:Int}:qy (d ++ [[.int .i64 x]]) = qy d ++ [x]:=by simp [qy,qbr,qaj]
theorem q50:ql8.ok Tryz.prog:=q42 (by simp) fun Z hg hp=>by
 obtain ⟨hl,h1,hr⟩:=hp
 simp only [Nat.reduceAdd] at hl h1 hr
 simp (config:={ maxSteps:=4000000 }) [qyO,ql8,q3T,hl]
 have hil:=qc5 (d:=(Z 3).d)
 intro i _ i0 i1 hno
 refine ⟨fun hi=>⟨i0,hi,fun he=>⟨fun _=>?_,fun _=>i0⟩,fun hne=>?_⟩,fun hi=>?_⟩
 ·rw [he,qdr i0 hi,jab,jac (by omega)]
  exact jbx _
 ·rw [qdr i0 hi] at hne
  rw [add64 (x:=i.i) (by omega) (by omega)]
  refine ⟨⟨by omega,by omega,?_⟩,by omega⟩
  rw [show (i.i + 1).toNat = i.i.toNat + 1 by omega,qiE (by omega),jat,jaj]
  exact fun h=>h.elim hno fun h=>hne h
 ·rw [jar (by omega)] at hno
  exact hno
theorem qn5:qdT.ok Tryz.prog:=qxz (by simp [q50]) fun Z hg hp=>by
 obtain ⟨hl,h1,hr⟩:=hp
 simp only [Nat.reduceAdd] at hl h1 hr
 simp (config:={ maxSteps:=4000000 }) [qqh,qdT,ql8,qch,qca,hl]
 refine ⟨⟨by omega,hr⟩,fun u _ hu=>?_⟩
 show decide (u.i ≥ 0) = _
 exact decide_eq_decide.2 hu
set_option maxRecDepth 100000
def qvH:Out:=(.fresh 9 (.pre 0 (sg 0 [bv 4 5,bv 3 4,bv 2 3,bv 1 2,bg 0 1]) (.both (fr 10 16 (.post 0 0 (sg 0 [bv 4 5,bv 3 4,bv 2 3,bv 1 2,bg 0 1]) 10 (.inv 0 26 (sg 1000 [bt 1005 .dnil,bt 1001 (tl 0),bt 1004 (tl 0),bt 1003 (tl 0),(1002,.nil),bg 1000 9]) (fr 26 6 (.hyp 0 26 (.br (.cmp .lss (tv 27) (tl 16))
 (.need (.cmp .leq (tl 0) (tv 27)) (.br (.c2 (.xbool 0) (.rcons (.vbool (tv 10)) (.rcons (.vbool (tv 11)) (.rcons (.vbool (tv 12)) (.rcons (.vbool (tv 13)) (.rcons (.vbool (tv 14)) (.rcons (.vbool (tv 15)) (.rcons (.vbool (tv 16)) (.rcons (.vbool (tv 17)) (.rcons (.vbool (tv 18)) (.rcons (.vbool (tv 19)) (.rcons (.vbool (tv 20)) (.rcons (.vbool (tv 21)) (.rcons (.vbool (tv 22)) (.rcons (.vbool (tv 23)) (.rcons (.vbool (tv 24)) (.rcons (.vbool (tv 25)) .rnil)))))))))))))))) (tv 27))
 (.pre 1 (sg 0 [bv 3 8,bv 1 27,bt 0 (r8 0),bg 2 7]) (.both (fr 32 2 (.post 1 0 (sg 0 [bv 3 8,bv 1 27,bt 0 (r8 0),bg 2 7]) 32 (.fresh 34 (.need (.cmp .eql (tv 29) (.dlen (tv 31))) (.need (.cmp .leq (.tims (tl 40) (.plus (tv 29) (tl 1))) (tl 140737488355328)) (fr 35 2 (.back 0 26 (sg 1000 [bt 1005 (.dapp (tv 31) (.rcons (.vint .i64 (tv 27)) (r8 32))),bt 1001 (.arith .add .i64 (tv 27) (tl 1)),bv 1004 36,bt 1003 (.plus (tv 29) (tl 1)),bg 1002 35,bg 1000 26])))))))) .top))
 (.back 0 26 (sg 1000 [bv 1005 31,bt 1001 (.arith .add .i64 (tv 27) (tl 1)),bv 1004 30,bv 1003 29,bg 1002 28,bg 1000 26]))))
 (.pre 2 (sg 0 [bv 3 31,bv 2 30,bv 1 29,bg 0 28]) (.both (.fresh 32 (.post 2 0 (sg 0 [bv 3 31,bv 2 30,bv 1 29,bg 0 28]) 32 (.fresh 33 (.need (.cmp .leq (tl 0) (tv 29)) (.know (.cmp .leq (.dlen (tv 32)) (tv 30)) (.need (.cmp .leq (tl 0) (tv 30)) (.need (.cmp .leq (tl 0) (.imin (.imax (tv 6) (tl 0)) (tv 29))) (.need (.cmp .leq (.imin (.imax (tv 6) (tl 0)) (tv 29)) (tv 30)) (.inv 1 34 (sg 1000 [bt 1008 .dnil,bv 1007 32,bt 1006 (tl 0),bt 1005 (tl 0),bg 1004 33,bt 1003 (tl 0),bv 1002 30,bt 1001 (.imin (.imax (tv 6) (tl 0)) (tv 29)),bg 1000 28]) (fr 34 9 (.hyp 1 34 (.br (.cmp .lss (tv 37) (tv 35))
 (.need (.cmp .leq (tl 0) (tv 37)) (.need (.cmp .lss (tv 37) (.dlen (tv 41))) (fr 43 2 (.need (.cmp .eql (tv 39) (.dlen (tv 42))) (.need (.cmp .leq (.tims (tl 8) (.plus (tv 39) (tl 1))) (tl 140737488355328)) (fr 45 2 (.back 1 34 (sg 1000 [bt 1008 (.dapp (tv 42) (.rcons (.vint .i64 (.icell (tv 41) (tv 37) 0)) .rnil)),bv 1007 41,bv 1006 46,bt 1005 (.plus (tv 39) (tl 1)),bg 1004 45,bt 1003 (.arith .add .i64 (tv 37) (tl 1)),bv 1002 36,bv 1001 35,bg 1000 34]))))))))
 (.ret 0 (sg 9 [bv 12 42,bv 11 40,bv 10 39,bg 9 38])))))))))))))) .top)))))))) .top)))
theorem q1Y:qn Tryz.prog qdq [qjk,qkh,qfB] [qyY,qym] qvH:=qh Tryz.func32 Tryz.call32 (by kernel_rfl)
def qr9:Out:=(fr 4 2 (.inv 0 6 (sg 1000 [bt 1004 .dnil,bt 1005 (tl 0),bt 1006 (.imin (.imax (tv 1) (tl 0)) (tl 16)),bt 1003 (tl 0),bt 1002 (tl 0),bg 1001 5,bg 1000 4]) (fr 6 7 (.hyp 0 6 (.br (.cmp .lss (tv 11) (tv 12))
 (.fresh 13 (.need (.cmp .eql (tv 8) (.dlen (tv 10))) (.need (.cmp .leq (.tims (tl 8) (.plus (tv 8) (tl 1))) (tl 140737488355328)) (fr 14 2 (.back 0 6 (sg 1000 [bt 1004 (.dapp (tv 10) (.rcons (.vint .i64 (tv 11)) .rnil)),bt 1005 (.arith .add .i64 (tv 11) (tl 1)),bv 1006 12,bv 1003 15,bt 1002 (.plus (tv 8) (tl 1)),bg 1001 14,bg 1000 6]))))))
 (.pre 0 (sg 0 [bv 8 3,bv 5 9,bv 4 10,bt 6 (tl 16),bv 3 9,bv 2 8,bg 1 7,bt 0 (r8 0),bg 7 2]) (.both (fr 13 4 (.post 0 0 (sg 0 [bv 8 3,bv 5 9,bv 4 10,bt 6 (tl 16),bv 3 9,bv 2 8,bg 1 7,bt 0 (r8 0),bg 7 2]) 13 (.ret 0 (sg 4 [bv 7 16,bv 6 15,bv 5 14,bg 4 13])))) .top)))))))
theorem qzS:qn Tryz.prog qgi [qdq] [qwD] qr9:=qh Tryz.func29 Tryz.call29 (by kernel_rfl)
def q2J:Out:=(.fresh 12 (.br (tv 9)
 (.br (tv 8)
 (.ret 0 (sg 12 [bt 12 (tl 3)]))
 (.ret 0 (sg 12 [bt 12 (tl 0)])))
 (.br (.cmp .lss (tv 7) (tl 1))
 (.ret 0 (sg 12 [bt 12 (tl 0)]))
 (.pre 0 (sg 0 [bv 8 11,bv 5 6,bv 4 5,bv 6 7,bv 3 4,bv 2 3,bg 1 2,bt 0 (r8 0),bg 7 10]) (.both (fr 13 4 (.post 0 0 (sg 0 [bv 8 11,bv 5 6,bv 4 5,bv 6 7,bv 3 4,bv 2 3,bg 1 2,bt 0 (r8 0),bg 7 10]) 13 (.pre 1 (sg 0 [bv 4 15,bv 3 16,bv 5 1,bv 2 15,bv 1 14,bg 0 13]) (.both (.fresh 17 (.post 1 0 (sg 0 [bv 4 15,bv 3 16,bv 5 1,bv 2 15,bv 1 14,bg 0 13]) 17 (.br (tv 17)
 (.br (.not (tv 8))
 (.ret 0 (sg 12 [bt 12 (tl 1)]))
 (.ret 0 (sg 12 [bt 12 (tl 0)])))
 (.br (tv 8)
 (.need (.cmp .leq (tl 0) (tv 14)) (.br (.cmp .eql (tv 14) (tv 7))
 (.ret 0 (sg 12 [bt 12 (tl 2)]))
 (.ret 0 (sg 12 [bt 12 (tl 0)]))))
 (.ret 0 (sg 12 [bt 12 (tl 0)])))))) .top)))) .top)))))
theorem q7F:qn Tryz.prog qmH [qdq,qdT] [] q2J:=qh Tryz.func35 Tryz.call35 (by kernel_rfl)
variable {o:List Int}
theorem qjM {a b:Int}:(!qR o b a) = true↔qdf o a b <= 0:=by
 rw [qeQ,jbb,decide_eq_false_iff_not,qkr (a:=a) (b:=b)]; omega
theorem qhr {l:List Int}:(qau o l).Perm l:=List.mergeSort_perm l _
theorem q5g {l:List Int}:(qau o l).Pairwise fun a b=>(!qR o b a) = true:=by
 refine List.pairwise_mergeSort (fun a b c h1 h2=>?_) (fun a b=>?_) l
 ·rw [qjM] at h1 h2 ⊢
  by_cases e1:qdf o a b = 0
  ·rw [qeV.1 e1]; exact h2
  ·by_cases e2:qdf o b c = 0
   ·rw [<- qeV.1 e2]; exact h1
   ·have:=qkV (o:=o) (a:=a) (b:=b) (c:=c) (by omega) (by omega)
    omega
 ·rw [jcx,qjM,qjM,qkr (a:=a) (b:=b)]; omega
theorem qum {l:List Int} (h:l.Nodup):qmE o l (qau o l):=by
 refine ⟨qhr,?_⟩
 have hn:(qau o l).Nodup:=qhr.nodup_iff.2 h
 refine List.Pairwise.imp₂ (fun a b h1 h2=>?_) q5g hn
 rcases qrB (o:=o) h2 with h | h
 ·exact h
 ·rw [h] at h1; cases h1
theorem q0T {l m:List Int} (h:qmE o l m) (hn:l.Nodup):m = qau o l:=qxk h (qum hn)
theorem q3h {l:List Int} {x:Int}:x ∈ qau o l↔x ∈ l:=qhr.mem_iff
theorem qi4 {l:List Int}:(qau o l).length = l.length:=qhr.length_eq
theorem qnl {L:List Int} {n:Nat} {x:Int}:x ∈ qJ L n↔0 <= x/\x < n/\x ∈ L:=by
 unfold qJ
 rw [jc5,jbl]
 constructor
 ·rintro ⟨⟨i,hi,rfl⟩,h⟩
  rw [jb8] at hi
  exact ⟨by omega,by omega,jbq h⟩
 ·rintro ⟨h0,h1,h2⟩
  exact ⟨⟨x.toNat,jb8.2 (by omega),by omega⟩,jcf h2⟩
theorem q4g {L:List Int}:qcl L = qJ L 16:=rfl
theorem qnz {p:Int}:qU (qO o p):=qcO _
theorem qkG {p:Int}:(qO o p).length = 32:=q7S
theorem qiJ {p:Int}:(qC o p).length = 33:=by simp [qC,qkG]
theorem qw0 {l:List Int}:qy (l.map (qC o)) = l:=by
 unfold qy
 rw [jdx]
 conv=>rhs; rw [<- jeh l]
 exact jbz fun x _=>rfl
end Go.Proofs
namespace Go.Proofs
open Go Go.Eng
set_option maxRecDepth 20000
theorem q1d {l:List Bool} {i:Nat}:qaq [l.map Value.bool] i = l.getD i false:=by
 unfold qaq
 rw [jbp,jan,jab]
 cases l[i]? <;> rfl
theorem qcR {l:List Bool} {L:List Int} {n:Nat} (h:qe2 l L) (hn:L.length <= n):qdi [l.map Value.bool] L n:=by
 refine ⟨⟨_,rfl,by rw [ja7]; exact h.1⟩,fun x x0 x1=>?_⟩
 rw [q1d,jar hn]
 have:=h.2 x.toNat (by omega)
 rwa [jay x0] at this
theorem qdR {D:qd}:(qy D).length <= D.length:=by simp [qy]
theorem qeK {d:qd} {L:List Int} {n:Nat} {x:Int} (h:qdi d L n) (hn:L.length <= n) (x0:0 <= x) (x1:x < 16):qaq d x.toNat = true↔x ∈ L:=by
 have:=h.2 x x0 x1
 rwa [jar hn] at this
theorem quZ {d:qd} {L:List Int} {n:Nat} (h:qdi d L n):0 < d.length:=by obtain ⟨⟨row,e,_⟩,_⟩:=h; rw [e]; exact Nat.one_pos
theorem qeN {i:Int} (h0:0 <= i) (h1:i < 1000000000000):qe .add .i64 i 1 = i + 1:=add64 (by omega) (by omega)
theorem qkC {d:qd} {L:List Int} {n:Nat} {x:Int} (h:qdi d L n) (hn:L.length <= n) (x0:0 <= x) (x1:x < 16) (hf:qaq d x.toNat = false):x ∉ L:=fun hx=>by
 rw [(qeK h hn x0 x1).2 hx] at hf; cases hf
theorem qqX {D:qd} {row:List Value} {v:Value} (hr:row ∈ D∨row = [v]) (h:∀ row,row ∈ D->row.length = 1):row.length = 1:=hr.elim (h row) fun h=>by rw [h]; rfl
theorem qjW {D:qd} {row:List Value} (hr:row ∈ D) (h:∀ row,row ∈ D->row.length = 1):row.length = 1:=h row hr
theorem qAR {b:Bool} {p:Prop} [Decidable p] (h:b = decide p) (hb:b = true):p:=jbq (h ▸ hb)
theorem qzN {b:Bool} {p:Prop} [Decidable p] (h:b = decide p) (hb:b = false):¬ p:=jd6 (h ▸ hb)
theorem qps {L:List Int}:(qcl L).length <= 16:=by
 rw [q4g]; unfold qJ
 exact jes (je7 ..) (by simp)
theorem qwS {o L:List Int} {n:Int}:(qbl o L n).length <= 16:=by
 unfold qbl
 rw [jba,qi4]
 have:=qps (L:=L)
 omega
theorem qx1 {o L:List Int} {n:Int} {D:qd} (h:qy D = qbl o L n):D.length <= 16:=by
 have h1:=congrArg List.length h
 rw [qc5] at h1
 have:=qwS (o:=o) (L:=L) (n:=n)
 omega
theorem q9W {o L:List Int} {self n x:Int} {D:qd} {held buried:Bool} (hD:qy D = qbl o L n) (hx:x = (D.length:Int)) (hn:1 <= n) (hm:¬ self ∈ qy D) (hh:held = true) (hb:buried = false) (he:x = n):2 = qgw o self L n held buried:=by
 have h1:((qbl o L n).length:Int) = n:=by rw [<- hD,qc5]; omega
 rw [hD] at hm
 unfold qgw
 rw [hh,hb,jaf (by simp),jaf (by omega),jaf hm,jah ⟨rfl,h1⟩]
theorem q9K {o L:List Int} {self n x:Int} {D:qd} {held buried:Bool} (hD:qy D = qbl o L n) (hx:x = (D.length:Int)) (hn:1 <= n) (hm:¬ self ∈ qy D) (hh:held = true) (hb:buried = false) (he:¬ x = n):0 = qgw o self L n held buried:=by
 have h1:¬ ((qbl o L n).length:Int) = n:=by rw [<- hD,qc5]; omega
 rw [hD] at hm
 unfold qgw
 rw [hh,hb,jaf (by simp),jaf (by omega),jaf hm,jaf (fun h=>h1 h.2)]
theorem q70 (hch:qdq.ok Tryz.prog):qmH.ok Tryz.prog:=q7F (by simp [qn5,hch]) fun Z hg hp=>by
 obtain ⟨hO,⟨hl,h1,hr⟩,hGr,hGd⟩:=hp
 simp only [Nat.reduceAdd] at hl h1 hr
 simp (config:={ maxSteps:=4000000 }) [q2J,qmH,qdq,qdT,qtg,qch,qca,qby,gOk,hl,hO,hGr,hGd]
 repeat' (first | with_reducible apply And.intro | with_reducible intro _)
 all_goals first
  | assumption
  | omega
  | exact qjW (by assumption) (by assumption)
  | exact (by have:=qx1 (by assumption); omega)
  | (unfold qgw; simp_all [qc5]; done)
  | exact q9W (by assumption) (by assumption) (by assumption) (qzN (by assumption) (by assumption)) (by assumption) (by assumption) (by assumption)
  | exact q9K (by assumption) (by assumption) (by assumption) (qzN (by assumption) (by assumption)) (by assumption) (by assumption) (by assumption)
theorem q4v {n:Int}:(qfQ n).length = (min (max n 0) 16).toNat:=by simp [qfQ]
theorem q0t {i n:Int} (h:min (max i 0) 16 = min (max n 0) 16):qfQ i = qfQ n:=by unfold qfQ; rw [h]
theorem q2h {i:Int} {D:qd} (hD:qy D = qfQ i) (h0:0 <= i) (h1:i < 16):qy (D ++ [[.int .i64 i]]) = qfQ (qe .add .i64 i 1):=by
 rw [qeN h0 (by omega),qlU,hD]
 unfold qfQ
 rw [show (min (max (i + 1) 0) 16).toNat = (min (max i 0) 16).toNat + 1 by omega,jd1,jca]
 congr 1
 show [i] = [(((min (max i 0) 16).toNat:Nat):Int)]
 congr 1; omega
theorem q4c {i:Int} {D:qd} (hD:qy D = qfQ i):D.length <= 16:=by
 have h1:=congrArg List.length hD
 rw [qc5,q4v] at h1
 omega
theorem q5p {o:List Int} {i n:Int} {D E:qd} (hE:qy E = qbl o (qy D) 16) (hD:qy D = qfQ i) (h:min (max i 0) 16 = min (max n 0) 16):qy E = qkP o n:=by
 rw [hE,hD,q0t h]; rfl
theorem q09 (hch:qdq.ok Tryz.prog):qgi.ok Tryz.prog:=qzS (by simp [hch]) fun Z hg hp=>by
 obtain ⟨hO,hGr,hGd⟩:=hp
 simp (config:={ maxSteps:=4000000 }) [qr9,qgi,qwD,qdq,qtg,qch,qca,qby,gOk,hO,hGr,hGd]
 repeat' (first | with_reducible apply And.intro | with_reducible intro _)
 all_goals first
  | assumption
  | omega
  | exact qjW (by assumption) (by assumption)
  | exact qqX (by assumption) (by assumption)
  | (rw [qeN (by assumption) (by omega)]; omega)
  | rfl
  | exact (by have:=q4c (by assumption); omega)
  | exact q2h (by assumption) (by assumption) (by omega)
  | exact q5p (by assumption) (by assumption) (by omega)
section
variable {o L:List Int}
theorem qn7 {L:List Int} {n:Nat}:(qJ L n).length <= n:=by
 unfold qJ
 exact jes (je7 ..) (by simp)
theorem q9Y {D:qd} {i:Int} (h:D = (qJ L i.toNat).map (qC o)) (h1:i <= 16):D.length <= 16:=by
 rw [h,ja7]
 have:=qn7 (L:=L) (n:=i.toNat)
 omega
theorem q9r {D v:qd} {i:Int} {l:List Bool} (hD:D = (qJ L i.toNat).map (qC o)) (h0:0 <= i) (h1:i < 16) (hb:qe2 l L) (hc:qaq [l.map Value.bool] i.toNat = true) (hv:qf v 32 = qO o i) :
  D ++ [Value.int .i64 i :: (qf v 32).map (Value.int .u8)] = (qJ L (qe .add .i64 i 1).toNat).map (qC o):=by
 have hm:i ∈ L:=(qeK (qcR hb (ja4 _)) (ja4 _) h0 h1).1 hc
 rw [qeN h0 (by omega),show (i + 1).toNat = i.toNat + 1 by omega,qdA,jay h0,jah hm,jca,hD,hv]; rfl
theorem q8E {D:qd} {i:Int} {l:List Bool} (hD:D = (qJ L i.toNat).map (qC o)) (h0:0 <= i) (h1:i < 16) (hb:qe2 l L) (hc:qaq [l.map Value.bool] i.toNat = false) :
  D = (qJ L (qe .add .i64 i 1).toNat).map (qC o):=by
 have hm:¬ i ∈ L:=qkC (qcR hb (ja4 _)) (ja4 _) h0 h1 hc
 rw [qeN h0 (by omega),show (i + 1).toNat = i.toNat + 1 by omega,qdA,jay h0,jaf hm,jc4,hD]
theorem qmB {D E:qd} {i:Int} (hO:qU o) (hD:D = (qJ L i.toNat).map (qC o)) (h1:i <= 16) (h2:16 <= i) (h:∀ o L:List Int,qU o->D = L.map (qC o)->(∀ x,x ∈ L->0 <= x/\x < 16)->E = (qau o L).map (qC o)):E = (qau o (qcl L)).map (qC o)/\E.length = D.length:=by
 have hi:i.toNat = 16:=by omega
 rw [hi] at hD
 have hE:=h o (qJ L 16) hO hD (fun x hx=>by have:=qnl.1 hx; omega)
 exact ⟨hE,by rw [hE,hD,ja7,ja7,qi4]⟩
theorem q4P {D:qd} {n:Nat} (hO:qU o) (hD:D = (qJ L n).map (qC o)) (hn:n <= 16):∃ o:List Int,qU o/\∃ x:List Int,D = x.map (qC o)/\∀ y:Int,y ∈ x->0 <= y/\y < 16 :=
 ⟨o,hO,_,hD,fun x hx=>by have:=qnl.1 hx; omega⟩
theorem qA6 {M:List Int} {D:qd} {i:Int} (hD:D = M.map (qC o)) (h0:0 <= i) (h1:i < M.length):qb D i 0 = M.getD i.toNat 0:=by
 have hl:i.toNat < M.length:=by omega
 subst hD
 rw [jab,jac hl]
 simp [qb,qF,jac hl,qC,qaj]
theorem take_add {M:List Int} {D E:qd} {i:Int} (hE:E = M.map (qC o)) (hD:qy D = M.take i.toNat) (h0:0 <= i) (h1:i < M.length) (hb:i < 1000000):qy (D ++ [[.int .i64 (qb E i 0)]]) = M.take (qe .add .i64 i 1).toNat:=by
 rw [qeN h0 (by omega),show (i + 1).toNat = i.toNat + 1 by omega,qiE (by omega),qlU,hD,qA6 hE h0 h1]
theorem q7L {M:List Int} {D:qd} {i:Nat} (hD:qy D = M.take i):D.length <= i/\D.length <= M.length:=by
 have h1:=congrArg List.length hD
 rw [qc5,jba] at h1
 omega
theorem q0h {o L:List Int}:(qau o (qcl L)).length <= 16:=by rw [qi4]; exact qps
theorem q8P {D:qd} {i n:Int} (hD:qy D = (qau o (qcl L)).take i.toNat) (h:i = min (max n 0) ((qau o (qcl L)).length:Int)):qy D = qbl o L n:=by
 rw [hD]
 unfold qbl
 by_cases hn:n.toNat <= (qau o (qcl L)).length
 ·rw [show i.toNat = n.toNat by omega]
 ·rw [jar (by omega),jar (by omega)]
end
theorem q3B (hs:qfB.ok Tryz.prog):qdq.ok Tryz.prog:=q1Y (by simp [hs,q2g,qyM]) fun Z hg hp=>by
 obtain ⟨hO,⟨hl,h1,hr⟩,hGr,hGd⟩:=hp
 simp only [Nat.reduceAdd] at hl h1 hr
 simp (config:={ maxSteps:=4000000 }) [qvH,qdq,qyY,qym,qjk,qkh,qfB,qtg,qch,qca,qby,gOk,hl,hO,hGr,hGd]
 have hsl:=q0h (o:=qf (Z 0).d 32) (L:=qy (Z 4).d)
 repeat' (first | with_reducible apply And.intro | with_reducible intro _)
 all_goals first
  | assumption
  | omega
  | exact qjW (by assumption) (by assumption)
  | exact qqX (by assumption) (by assumption)
  | (rw [qeN (by assumption) (by omega)]; omega)
  | rfl
  | exact (by have:=q9Y (by assumption) (by omega); omega)
  | exact q9r (l:=[_,_,_,_,_,_,_,_,_,_,_,_,_,_,_,_]) (by assumption) (by assumption) (by assumption) (by assumption) (by assumption) (by assumption)
  | exact q8E (l:=[_,_,_,_,_,_,_,_,_,_,_,_,_,_,_,_]) (by assumption) (by assumption) (by assumption) (by assumption) (by assumption)
  | exact q4P hO (by assumption) (by omega)
  | exact (qmB hO (by assumption) (by assumption) (by assumption) (by assumption)).1
  | (have h:=qmB hO (by assumption) (by assumption) (by assumption) (by assumption); have h2:=congrArg List.length h.1; rw [ja7] at h2; have h3:=h.2; split <;> split <;> omega)
  | (have h:=qmB hO (by assumption) (by assumption) (by assumption) (by assumption); have h2:=congrArg List.length h.1; rw [ja7] at h2; have h3:=h.2; split <;> omega)
  | exact take_add (by assumption) (by assumption) (by assumption) (by omega) (by omega)
  | exact q8P (by assumption) (by omega)
  | (have h2:=q7L (by assumption); omega)
section
variable {o L:List Int} {D E:qd} {n m k b i:Int}
end
set_option maxRecDepth 100000
def qzG:Out:=(.fresh 10 (.pre 0 (sg 0 [bv 4 7,bv 3 6,bv 2 5,bv 1 4,bg 0 3]) (.both (fr 11 16 (.post 0 0 (sg 0 [bv 4 7,bv 3 6,bv 2 5,bv 1 4,bg 0 3]) 11 (.inv 0 27 (sg 1000 [bt 1001 (tl 0),bt 1002 (tl 0),bg 1000 10]) (fr 27 3 (.hyp 0 27 (.br (.cmp .lss (tv 28) (tl 16))
 (.need (.cmp .leq (tl 0) (tv 28)) (.br (.c2 (.xbool 0) (.rcons (.vbool (tv 11)) (.rcons (.vbool (tv 12)) (.rcons (.vbool (tv 13)) (.rcons (.vbool (tv 14)) (.rcons (.vbool (tv 15)) (.rcons (.vbool (tv 16)) (.rcons (.vbool (tv 17)) (.rcons (.vbool (tv 18)) (.rcons (.vbool (tv 19)) (.rcons (.vbool (tv 20)) (.rcons (.vbool (tv 21)) (.rcons (.vbool (tv 22)) (.rcons (.vbool (tv 23)) (.rcons (.vbool (tv 24)) (.rcons (.vbool (tv 25)) (.rcons (.vbool (tv 26)) .rnil)))))))))))))))) (tv 28))
 (.pre 1 (sg 0 [bv 4 9,bv 2 1,bv 1 28,bt 0 (r8 0),bg 3 8]) (.both (.fresh 30 (.post 1 0 (sg 0 [bv 4 9,bv 2 1,bv 1 28,bt 0 (r8 0),bg 3 8]) 30 (.br (tv 30)
 (.back 0 27 (sg 1000 [bt 1001 (.arith .add .i64 (tv 28) (tl 1)),bt 1002 (.arith .add .i64 (tv 29) (tl 1)),bg 1000 27]))
 (.back 0 27 (sg 1000 [bt 1001 (.arith .add .i64 (tv 28) (tl 1)),bv 1002 29,bg 1000 27]))))) .top))
 (.back 0 27 (sg 1000 [bt 1001 (.arith .add .i64 (tv 28) (tl 1)),bv 1002 29,bg 1000 27]))))
 (.br (.cmp .geq (tv 2) (tl 1))
 (.ret 0 (sg 10 [bt 10 (.cmp .geq (tv 29) (tv 2))]))
 (.ret 0 (sg 10 [bt 10 (.bl false)]))))))))) .top)))
section
set_option maxRecDepth 20000
variable {o L:List Int} {i c s:Int} {l:List Bool}
def qga (o:List Int) (s:Int) (l:List Int):Int:=((l.filter fun i=>qR o i s).length:Int)
theorem q4V {l:List Int}:0 <= qga o s l/\qga o s l <= l.length:=⟨by unfold qga; omega,by unfold qga; have:=je7 (fun i=>qR o i s) l; omega⟩
theorem qr3 {l:List Int} {x:Int}:qga o s (l ++ [x]) = qga o s l + (if qR o x s = true then 1 else 0):=by
 unfold qga
 rw [jfm,jal]
 by_cases h:qR o x s = true
 ·rw [jah h]; simp [h]
 ·rw [jaf h]; simp [h]
theorem qyD {n:Nat}:0 <= qga o s (qJ L n)/\qga o s (qJ L n) <= n:=by
 have h:=q4V (o:=o) (s:=s) (l:=qJ L n)
 have:=qn7 (L:=L) (n:=n)
 omega
theorem qAM {x:Bool} (hc:c = ((qJ L i.toNat).filter fun i=>qR o i s).length) (h0:0 <= i) (h1:i < 16) (hb:qe2 l L) (hx:qaq [l.map Value.bool] i.toNat = true) (hu:x = qR o i s) (ht:x = true):qe .add .i64 c 1 = ((qJ L (qe .add .i64 i 1).toNat).filter fun i=>qR o i s).length:=by
 have hm:i ∈ L:=(qeK (qcR hb (ja4 _)) (ja4 _) h0 h1).1 hx
 have h2:=qyD (o:=o) (s:=s) (L:=L) (n:=i.toNat)
 change c = qga o s (qJ L i.toNat) at hc
 show _ = qga o s _
 rw [qeN h0 (by omega),qeN (by omega) (by omega),show (i + 1).toNat = i.toNat + 1 by omega,qdA,jay h0,jah hm,qr3,jah (hu ▸ ht),hc]
theorem qA3 {x:Bool} (hc:c = ((qJ L i.toNat).filter fun i=>qR o i s).length) (h0:0 <= i) (h1:i < 16) (hb:qe2 l L) (hx:qaq [l.map Value.bool] i.toNat = true) (hu:x = qR o i s) (ht:x = false):c = ((qJ L (qe .add .i64 i 1).toNat).filter fun i=>qR o i s).length:=by
 have hm:i ∈ L:=(qeK (qcR hb (ja4 _)) (ja4 _) h0 h1).1 hx
 have h2:=qyD (o:=o) (s:=s) (L:=L) (n:=i.toNat)
 change c = qga o s (qJ L i.toNat) at hc
 show _ = qga o s _
 rw [qeN h0 (by omega),show (i + 1).toNat = i.toNat + 1 by omega,qdA,jay h0,jah hm,qr3,jaf (by rw [<- hu,ht]; simp),hc,Int.add_zero]
theorem qA7 (hc:c = ((qJ L i.toNat).filter fun i=>qR o i s).length) (h0:0 <= i) (h1:i < 16) (hb:qe2 l L) (hx:qaq [l.map Value.bool] i.toNat = false):c = ((qJ L (qe .add .i64 i 1).toNat).filter fun i=>qR o i s).length:=by
 have hm:¬ i ∈ L:=qkC (qcR hb (ja4 _)) (ja4 _) h0 h1 hx
 rw [qeN h0 (by omega),show (i + 1).toNat = i.toNat + 1 by omega,qdA,jay h0,jaf hm,jc4,hc]
theorem q79 {n:Int} (hc:c = ((qJ L i.toNat).filter fun i=>qR o i s).length) (h0:i <= 16) (h1:16 <= i) (hn:1 <= n):decide (c ≥ n) = qlY o s n L:=by
 rw [show i.toNat = 16 by omega] at hc
 unfold qlY
 rw [jcf hn,je0,hc]; rfl
theorem qvu {n:Int} (hn:n < 1):false = qlY o s n L:=by
 unfold qlY
 rw [jem (by omega),Bool.false_and]
end
end Go.Proofs
namespace Go.Eng
open Go Go.Proofs
def qmN (Z:Env) (r:Nat):Prop:=0 <= (Z (r + 1)).i/\(Z (r + 1)).i <= (Z (r + 3)).d.length/\(Z (r + 1)).i <= 1000000000000/\∀ row ∈ (Z (r + 3)).d,row.length = 1
def qgz:Ctr:={ qjk with pre:=fun Z=>qmN Z 0,alts:=[
 { k:=16,ret:=b16 5,heap:=[],post:=fun Z=>qe2 [(Z 5).b,(Z 6).b,(Z 7).b,(Z 8).b,(Z 9).b,(Z 10).b,(Z 11).b,(Z 12).b,(Z 13).b,(Z 14).b,(Z 15).b,(Z 16).b,(Z 17).b,(Z 18).b,(Z 19).b,(Z 20).b] ((qy (Z 3).d).take (Z 1).i.toNat) }] }
def qhf:Ctr:={ q6x with pre:=fun Z=>qU (qf (Z 0).d 32)/\qmN Z 3/\gOk Z 8 9 gR,alts:=[{ k:=1,ret:=.one (.vbool (.var 10)),heap:=[],post:=fun Z=>(Z 10).b = qlY (qf (Z 0).d 32) (Z 1).i (Z 2).i ((qy (Z 6).d).take (Z 4).i.toNat) }] }
def q1h:Inv:={ q8Q with inv:=(fun Z=>0 <= (Z 1001).i/\(Z 1001).i <= 16/\(Z 1002).i = (((qJ ((qy (Z 6).d).take (Z 4).i.toNat) (Z 1001).i.toNat).filter fun i=>qR (qf (Z 0).d 32) i (Z 1).i).length:Int)) }
end Go.Eng
namespace Go.Proofs
open Go Go.Eng
theorem q26:qlZ ⟨Tryz.prog,qgz,[qfz],[qu7]⟩ 100000 Tryz.f82 = qpr:=by kernel_rfl
theorem q8F (hd:∀ c ∈ ([qfz]:List Ctr),c.ok Tryz.prog) (h:∀ Z:Env,Z.good->(qgz).pre Z->qpr.den ⟨Tryz.prog,qgz,[qfz],[qu7]⟩ Z):(qgz).ok Tryz.prog :=
 qk5 Tryz.func82 (fun a w=>Tryz.call82 a w) hd 100000 (fun Z hg hp=>by rw [q26]; exact h Z hg hp)
theorem q3P:qlZ ⟨Tryz.prog,qhf,[qgz,qdW],[q1h]⟩ 100000 Tryz.f37 = qzG:=by kernel_rfl
theorem q8w (hd:∀ c ∈ ([qgz,qdW]:List Ctr),c.ok Tryz.prog) (h:∀ Z:Env,Z.good->(qhf).pre Z->qzG.den ⟨Tryz.prog,qhf,[qgz,qdW],[q1h]⟩ Z):(qhf).ok Tryz.prog :=
 qk5 Tryz.func37 (fun a w=>Tryz.call37 a w) hd 100000 (fun Z hg hp=>by rw [q3P]; exact h Z hg hp)
theorem q7I:qgz.ok Tryz.prog:=q8F (by simp [qrp]) fun Z hg hp=>by
 obtain ⟨h0,hl,h1,hr⟩:=hp
 simp only [Nat.reduceAdd] at h0 hl h1 hr
 simp (config:={ maxSteps:=4000000 }) [qpr,qgz,qjk,qu7,qfz,h0]
 have hil:(qy (Z 3).d).length = (Z 3).d.length:=by simp [qy]
 refine ⟨qnE,fun s _ i _ i0 i1 hs=>⟨fun hi=>⟨i0,by omega,fun u _ hu=>⟨fun ht=>?_,fun hf=>?_⟩⟩,fun hi=>?_⟩⟩
 ·have hp:0 <= qb (Z 3).d i.i 0/\qb (Z 3).d i.i 0 < 16:=by rw [hu] at ht; exact jbq ht
  have hsl:0 < s.d.length:=by obtain ⟨⟨row,e,_⟩,_⟩:=hs; rw [e]; exact Nat.one_pos
  rw [add64 (x:=i.i) (by omega) (by omega)]
  refine ⟨hp.1,hp.2,hsl,⟨by omega,by omega,?_⟩,by omega⟩
  rw [show (i.i + 1).toNat = i.i.toNat + 1 by omega]
  exact qnq hs (by omega) (qdr i0 (by omega)) hp.1 hp.2
 ·have hp:¬ (0 <= qb (Z 3).d i.i 0/\qb (Z 3).d i.i 0 < 16):=by rw [hu] at hf; exact jd6 hf
  rw [add64 (x:=i.i) (by omega) (by omega)]
  refine ⟨⟨by omega,by omega,?_⟩,by omega⟩
  rw [show (i.i + 1).toNat = i.i.toNat + 1 by omega]
  exact qny hs (by omega) (qdr i0 (by omega)) hp
 ·obtain ⟨⟨row,hs1,hrl⟩,hs2⟩:=hs
  rw [show i.i.toNat = (Z 1).i.toNat by omega] at hs2
  rw [hs1] at hs2 ⊢
  match row,hrl with
  | [a0,a1,a2,a3,a4,a5,a6,a7,a8,a9,a10,a11,a12,a13,a14,a15],_ =>
   refine ⟨by simp,?_⟩
   have key:qe2 ((List.range 16).map (qaq [[a0,a1,a2,a3,a4,a5,a6,a7,a8,a9,a10,a11,a12,a13,a14,a15]])) ((qy (Z 3).d).take (Z 1).i.toNat):=⟨by simp,fun j hj=>by
    rw [jab,jan,jbj hj]
    exact hs2 j (by omega) (by omega)⟩
   exact key
theorem q81:qhf.ok Tryz.prog:=q8w (by simp [q7I,qr4]) fun Z hg hp=>by
 obtain ⟨hO,⟨h0,hl,h1,hr⟩,hGr,hGd⟩:=hp
 simp only [Nat.reduceAdd] at h0 hl h1 hr
 simp (config:={ maxSteps:=4000000 }) [qzG,qhf,q6x,q1h,q8Q,qgz,qjk,qdW,qch,qmN,gOk,h0,hl,hO,hGr,hGd]
 repeat' (first | with_reducible apply And.intro | with_reducible intro _)
 all_goals first
  | assumption
  | omega
  | rfl
  | exact qjW (by assumption) (by assumption)
  | (rw [qeN (by assumption) (by omega)]; omega)
  | exact qAM (l:=[_,_,_,_,_,_,_,_,_,_,_,_,_,_,_,_]) (by assumption) (by assumption) (by assumption) (by assumption) (by assumption) (by assumption) (by assumption)
  | exact qA3 (l:=[_,_,_,_,_,_,_,_,_,_,_,_,_,_,_,_]) (by assumption) (by assumption) (by assumption) (by assumption) (by assumption) (by assumption) (by assumption)
  | exact qA7 (l:=[_,_,_,_,_,_,_,_,_,_,_,_,_,_,_,_]) (by assumption) (by assumption) (by assumption) (by assumption) (by assumption)
  | exact q79 (by assumption) (by assumption) (by assumption) (by assumption)
  | exact qvu (by assumption)
  | exact (qvu (by assumption)).symm
end Go.Proofs
namespace Go.Eng
open Go Go.Proofs
def qdo:Ctr:={ fn := 31,nv:=2,ow:=[1003,200096],ip:=[gIp 0,(1127,8),(58,2),(1001,9),(1002,9)],args:=[],heap:=[],ro:=[gHp 0 1],pre:=fun Z=>gOk Z 0 1 gR,alts:=[qeq] }
def qya:Inv:={ key:=1000012,nv:=19,env:=[(4,.one (.vptr 1010 (.lit 0) 37 0)),(5,.one (.vslice 1015 (.lit 0) (.lit 1) (.var 1016) 2)),(6,.one (.vint .i64 (.lit 0))),(9,gaP 1000)],heap:=qhx 1000 20 ++ [.cells 1010 27 ([.vint .i64 (.lit 1),.vint .i64 (.lit 1),.vint .i64 (.lit 1),.vint .i64 (.lit 1)] ++ (qaT .u8 1011 32 ++ [.vslice 1012 (.lit 0) (.lit 1) (.var 1013) 32])),qbU 1012 1014 1013,qfI 1015 1017 1016,.abs 1018 10],inv:=(fun Z=>gaB Z 1000 none []/\qU (qf (Z 1011).d 32)/\qd4 (Z 1014).d/\(Z 1014).d.length = 1/\(Z 1017).d.length = 1/\qfw (Z 1018).h (Z 1017).d 1/\pcI (Z 1017).d 0 = 0/\qbO 1 1 1 1 1 (dgs (Z 1014).d) 0 (pcD (Z 1018).h (Z 1017).d 0) = 0/\qf (Z 1001).d 32 = sha (qaI 1 1 1 1 (qf (Z 1011).d 32) ++ (dgs (Z 1014).d).flatten)),mu:=fun _=>0 }
def isS (r l c:Nat):SV:=.one (.vslice r (.lit 0) (.var l) (.var c) 1)
def qmW:Ctr:={ fn := 36,nv:=2,args:=[iv .i64 (.var 0),iv .i64 (.var 1)],heap:=[],ro:=[],pre:=fun Z=>1 <= (Z 1).i/\(Z 1).i <= 1000000,alts:=[
 { k:=1,ret:=iv .i64 (.var 2),heap:=[],post:=fun Z=>(Z 2).i = (Z 0).i % (Z 1).i }] }
def fP (r:Nat):SV:=.one (.vptr r (.lit 0) 769 0)
def qmS:Ctr:={ fn := 49,nv:=16,args:=[qmJ 0,qeO 10],heap:=[],ro:=[qbU 5 8 9,qmP 10],pre:=fun Z=>(Z 6).i = (Z 8).d.length/\(Z 6).i <= 4398046510976/\(Z 12).i = (Z 14).d.length/\(Z 12).i <= 100000000,alts:=[
 { k:=6,ret:=.tup [(true,qdN 0 1 2 3 4 16 6 17),(true,[.vint .i64 (.var 10),.vslice 18 (.lit 0) (.var 12) (.var 19) 1])],heap:=[qbU 16 20 17,bHp 18 21 19],post:=fun Z=>(Z 20).d = (Z 8).d/\(Z 21).d = (Z 14).d }] }
def qkc:Ctr:={ qqI with ro:=[qbU 7 10 11,qfI 12 15 16,.abs 17 20,gHp 18 19] }
def qkY:Ctr:={ qqE with ro:=[qbU 7 10 11,qfI 12 15 16,.abs 17 20,gHp 18 19] }
def qtW (r d:Nat):SH:=.arr r 151 qf4 (.var d) (.lit 1)
def qyo (M:Option ManV) (L:PcL) (h:Hp) (P:qd) (e n:Int) (R:qd):Prop:=(qaz M L = false/\e = 12/\n = 0/\R = [])∨∃ m,M = some m/\qaz M L = true/\qwj m.ok (qc9 (qkU m.k m.n m.t m.s m.D.length m.D h P) (pcI P) P.length m.k) m.s e n ((qkb h P m.k.toNat).take m.s.toNat) m.o R
def qtO (M:Option ManV) (L:PcL) (h:Hp) (P:qd) (x e y n:Int) (R:qd):Prop:=(qaz M L = false/\e = 12/\y = 0/\n = 0/\R = [])∨∃ m,M = some m/\qaz M L = true/\qk3 m.ok (qc9 (qkU m.k m.n m.t m.s m.D.length m.D h P) (pcI P) P.length m.k) x m.t e y n (qeA h P m.k.toNat x) (m.D.getD x.toNat []) R
def qfT:Ctr:={ fn := 46,nv:=14,ip:=[gIp 12,(1001,9),(1002,9)],ow:=[1003],args:=[gaP 0,fP 10],heap:=[qtW 10 11],ro:=qhx 0 20 ++ [gHp 12 13],pre:=fun Z=>(∃ M L,gaB Z 0 M L)/\qk (Z 11).d/\gOk Z 12 13 gR,alts:=[
 { k:=7,ret:=.tup [(false,[.vslice 14 (.lit 0) (.var 15) (.var 20) 1]),qbb (.var 18)],heap:=[qtW 10 19,.arr 14 5 kB (.var 17) (.var 16)],post:=fun Z=>qk (Z 19).d/\(Z 15).i <= (Z 20).i/\∀ M L,gaB Z 0 M L->qyo M L (Z 9).h (Z 8).d (Z 18).i (Z 15).i (Z 17).d }] }
def qhz:Ctr:={ fn := 50,nv:=15,ip:=[gIp 12,(1001,9),(1002,9)],ow:=[1003],args:=[gaP 0,fP 10,iv .i64 (.var 14)],heap:=[qtW 10 11],ro:=qhx 0 20 ++ [gHp 12 13],pre:=fun Z=>(∃ M L,gaB Z 0 M L)/\qk (Z 11).d/\gOk Z 12 13 gR/\qbn (Z 14).i,alts:=[
 { k:=7,ret:=.tup [(true,[.vint .i64 (.var 15),.vslice 16 (.lit 0) (.var 17) (.var 18) 1]),qbb (.var 20)],heap:=[qtW 10 21,.arr 16 5 kB (.var 19) (.var 18)],post:=fun Z=>qk (Z 21).d/\∀ M L,gaB Z 0 M L->qtO M L (Z 9).h (Z 8).d (Z 14).i (Z 20).i (Z 15).i (Z 17).i (Z 19).d }] }
def qpu:SV:=.agg [.vint .i64 (.var 0),.vint .i64 (.var 1),.vslice 2 (.lit 0) (.var 3) (.var 4) 1,.vslice 7 (.lit 0) (.var 8) (.var 9) 1]
def q8a:List T:=[.vint .i64 (.var 0),.vint .i64 (.var 1),.vslice 2 (.lit 0) (.var 3) (.var 4) 1,.vslice 7 (.lit 0) (.var 8) (.var 9) 1]
def qpa (Z:Env) (r:Nat):Prop:=(Z (r + 1)).i = (Z (r + 3)).d.length/\(Z (r + 1)).i <= 17592186043904/\∀ row ∈ (Z (r + 3)).d,row.length = 1
def qai:Ctr:={ fn := 10,nv:=14,ip:=[gIp 12,(1222,19),(141,2),(146,2),(1005,7),(1001,9),(1002,9)],ow:=[1003,200132],args:=[qpu],heap:=[],ro:=[bHp 2 5 6,qch 7,gHp 12 13],pre:=fun Z=>qbn (Z 0).i/\qbn (Z 1).i/\((Z 3).i = (Z 5).d.length/\(Z 3).i <= (Z 4).i/\(Z 3).i <= 140737488351232/\qp (Z 5).d)/\qpa Z 7/\gOk Z 12 13 gR,alts:=[qeq] }
def qhJ:Ctr:={ fn := 33,nv:=5,args:=[bS 0],heap:=[],ro:=[qch 0],pre:=fun Z=>0 <= (Z 1).i/\(Z 1).i <= (Z 3).d.length/\(Z 1).i <= 1000000000000/\∀ row ∈ (Z 3).d,row.length = 1,alts:=[{ k:=3,ret:=.one (.vslice 5 (.lit 0) (.var 1) (.var 6) 1),heap:=[iHp 5 7 6],post:=fun Z=>(Z 7).d = (Z 3).d.take (Z 1).i.toNat }] }
def qwn:List (Nat × SV):=[(1,.one (.vptr 1000 (.lit 0) 4 0)),(3,fP 1001),(5,.one (.vslice 1008 (.lit 0) (.var 1) (.var 1009) 2))]
def q9T:List SH:=[.cells 1003 27 (qdN 0 0 1 3 1004 1005 1 1006),qbU 1005 1007 1006]
def q1v:List SH:=.cells 1000 76 q8a :: qtW 1001 1002 :: (q9T ++ [qfI 1008 1010 1009])
def q03:List (Nat × SV):=[(4,.one (.vptr 1003 (.lit 0) 37 0))]
noncomputable def qhG (Z:Env):Nat->List Int:=qag (Z 0).i.toNat (Z 1).i.toNat (bI (Z 5).d)
noncomputable def qgP (Z:Env):ManV:=⟨(Z 0).i,(Z 0).i,(Z 1).i,(Z 3).i,qf (Z 1004).d 32,dgs (Z 1007).d⟩
noncomputable def qhO (Z:Env) (h:Hp):Prop:=(1 <= (Z 0).i/\(Z 0).i <= (Z 1).i/\(Z 1).i <= 12/\(Z 3).i <= 500/\(Z 8).i <= 40)/\qk (Z 1002).d/\qf (Z 1004).d 32 = sha (bI (Z 5).d)/\qd4 (Z 1007).d/\dgs (Z 1007).d = qbi (qhG Z) (Z 1).i.toNat/\(Z 1010).d.length = (Z 1).i.toNat/\qe9 h (Z 1010).d (Z 1).i.toNat (qhG Z)
def qtn:Inv:={ key:=1000005,nv:=12,env:=qwn ++ q03 ++ [(6,.one (.vint .i64 (.lit 0)))],heap:=q1v ++ [.abs 1011 10],inv:=(fun Z=>qhO Z (Z 1011).h),mu:=fun _=>0 }
def upto (n:Int):List Int:=(List.range n.toNat).map fun (j:Nat)=>(j:Int)
def q5a:List (Nat × SV):=qwn ++ q03 ++ [(9,gaP 1011),(10,.one (.vslice 1021 (.lit 0) (.var 1022) (.var 1023) 1))]
def q5j:List SH:=q1v ++ (qhx 1011 20 ++ [iHp 1021 1024 1023,.abs 1026 10])
noncomputable def qme (k t:Int) (m:ManV) (f:Nat->List Int) (i:Int) (M:Option ManV) (L:PcL):Prop:=(M = if i = 0 then none else some m)/\(L.length:Int) = i/\(∀ x ∈ L,(0 <= x.1/\x.1 < t)/\x.2 = f x.1.toNat)/\(L.map Prod.fst).Nodup
def qz4 (t:Int) (i:Int) (L:PcL) (lf:List Int):Prop:=(lf.length:Int) = t - i/\(∀ x ∈ lf,0 <= x/\x < t)/\(L.map Prod.fst ++ lf).Nodup
noncomputable def qvD (Z:Env):Prop:=qf (Z 1012).d 32 = sha (qgP Z).bytes/\∃ M L,gaB Z 1011 M L/\qme (Z 0).i (Z 1).i (qgP Z) (qhG Z) (Z 1025).i M L/\∃ lf,qby (Z 1024).d (Z 1022).i lf/\qz4 (Z 1).i (Z 1025).i L lf
def q0u:Inv:={ key:=11,nv:=27,env:=q5a ++ [(11,iv .i64 (.var 1025))],heap:=q5j,inv:=(fun Z=>qhO Z (Z 1026).h/\0 <= (Z 1025).i/\(Z 1025).i <= (Z 1).i/\qf (Z 1012).d 32 = sha (qgP Z).bytes/\gaB Z 1011 none []/\qby (Z 1024).d (Z 1022).i (upto (Z 1025).i)),mu:=(fun Z=>((Z 1).i - (Z 1025).i).toNat) }
def qtU:Inv:={ key:=15,nv:=27,env:=q5a ++ [(12,iv .i64 (.var 1025))],heap:=q5j,inv:=(fun Z=>qhO Z (Z 1026).h/\0 <= (Z 1025).i/\(Z 1025).i <= (Z 0).i/\qvD Z),mu:=(fun Z=>((Z 0).i - (Z 1025).i).toNat) }
def qts:Inv:={ key:=1000020,nv:=28,env:=q5a ++ [(12,iv .i64 (.var 1025)),(13,iv .i64 (.var 1027))],heap:=q5j,inv:=(fun Z=>(Z 1025).i = (Z 89).i/\(Z 1025).i < (Z 0).i/\(0 <= (Z 1027).i/\(Z 1027).i < (Z 1022).i)/\qhO Z (Z 1026).h/\qvD Z),mu:=fun _=>0 }
def q0Y:Inv:={ key:=28,nv:=23,env:=qwn ++ q03 ++ [(9,gaP 1011),(17,iv .i64 (.var 1021))],heap:=q1v ++ (qhx 1011 20 ++ [.abs 1022 10]),inv:=(fun Z=>qhO Z (Z 1022).h/\0 <= (Z 1021).i/\(Z 1021).i <= (Z 1).i/\∃ L,gaB Z 1011 (some (qgP Z)) L/\qme (Z 0).i (Z 1).i (qgP Z) (qhG Z) (Z 0).i (some (qgP Z)) L),mu:=(fun Z=>((Z 1).i - (Z 1021).i).toNat) }
end Go.Eng
namespace Go.Proofs
open Go Go.Eng Go.RowKit Go.Lib Go.Sort
def qol (W:World) (p q:Int) (xs ys:List Int):World:=(W.alloc (Obj.cells (Value.int .i64 p :: xs.map (Value.int .u8)).toArray 153)).alloc (Obj.cells (Value.int .i64 q :: ys.map (Value.int .u8)).toArray 153)
theorem qzs {W:World} {p q:Int} {xs ys:List Int}:(qol W p q xs ys).heap[W.heap.size]? = some (Obj.cells (Value.int .i64 p :: xs.map (Value.int .u8)).toArray 153):=by
 simp only [qol,World.alloc]
 rw [jei,jaf (by simp),jei,jah rfl]
theorem qxZ {W:World} {p q:Int} {xs ys:List Int}:(qol W p q xs ys).heap[W.heap.size + 1]? = some (Obj.cells (Value.int .i64 q :: ys.map (Value.int .u8)).toArray 153):=by
 simp only [qol,World.alloc]
 rw [jei,jah (by simp)]
theorem q1W {W:World} {b:Nat} {p:Int} {xs:List Int} {ty:TypeId} (h:W.heap[b]? = some (Obj.cells (Value.int .i64 p :: xs.map (Value.int .u8)).toArray ty)) (n j:Nat) (x:Int) (hx:xs[j]? = some x):(W.drewN n).cell? ((⟨b,1,none⟩:Addr).add j) = some (.int .u8 x):=by
 have e:((⟨b,1,none⟩:Addr).add j) = ⟨b,1 + j,none⟩:=by
  unfold Addr.add
  by_cases hj0:j = 0
  ·subst hj0; simp
  ·simp [hj0]
 have h':(W.drewN n).heap[b]? = some (Obj.cells (Value.int .i64 p :: xs.map (Value.int .u8)).toArray ty):=h
 rw [e]
 simp only [World.cell?,h']
 rw [show 1 + j = j + 1 by omega]
 simp [hx]
theorem qvN {W:World} {b:Nat} {p:Int} {xs:List Int} {ty:TypeId} (h:W.heap[b]? = some (Obj.cells (Value.int .i64 p :: xs.map (Value.int .u8)).toArray ty)) (n:Nat):(W.drewN n).cell? ⟨b,0,none⟩ = some (.int .i64 p):=by
 have h':(W.drewN n).heap[b]? = some (Obj.cells (Value.int .i64 p :: xs.map (Value.int .u8)).toArray ty):=h
 simp only [World.cell?,h']
 simp
set_option maxHeartbeats 2000000 in
set_option maxRecDepth 100000 in
theorem q3L (p q:Int) (xs ys:List Int) (hx:xs.length = 32) (hy:ys.length = 32) (W:World) :
  Calls Tryz.prog 81 #[.agg (Value.int .i64 p :: xs.map (Value.int .u8)).toArray,.agg (Value.int .i64 q :: ys.map (Value.int .u8)).toArray] W fun e w' =>
   e = .returned (.int .i64 (if compareBytes (Lib.bytesOf xs) (Lib.bytesOf ys) = 0 then RowKit.wrap64 (p - q) else compareBytes (Lib.bytesOf xs) (Lib.bytesOf ys)))/\∃ n os',w' = grow (W.drewN n) os':=by
 have hc:=fun (a b:Addr) (w:World) h1 h2=>qqk a b xs ys 32 32 w h1 h2
 rw [hx,hy] at hc
 have c1:=q1W (qzs (W:=W) (p:=p) (q:=q) (xs:=xs) (ys:=ys))
 have c2:=q1W (qxZ (W:=W) (p:=p) (q:=q) (xs:=xs) (ys:=ys))
 have c3:=qvN (qzs (W:=W) (p:=p) (q:=q) (xs:=xs) (ys:=ys))
 have c4:=qvN (qxZ (W:=W) (p:=p) (q:=q) (xs:=xs) (ys:=ys))
 have hg:∀ n,∃ m os',(qol W p q xs ys).drewN n = grow (W.drewN m) os':=fun n=>⟨n,_,by rw [qol,alloc_eq_grow,alloc_eq_grow,grow_grow]; rfl⟩
 unfold qol at c1 c2 c3 c4 hg
 generalize compareBytes (Lib.bytesOf xs) (Lib.bytesOf ys) = r at hc ⊢
 go_enter Tryz.func81,Tryz.ntmps81
 go_wp2
 go_quiet ((go_at_call 118; refine Calls.quiet_of_same (hc _ _ _ ?_ ?_); exact c1 _; exact c2 _))
 go_wp2
 all_goals go_ret
 all_goals refine ⟨?_,hg nq⟩
 all_goals simp_all
end Go.Proofs
