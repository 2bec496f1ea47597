/- Texts VM, VK. -/
import Derived.Test.YtlmkkphojjodhaaG6
import Derived.Test.YtlmkkphojjodhaaG7
import Derived.Test.YtlmkkphojjodhaaG1
set_option linter.unusedSimpArgs false
set_option linter.unusedVariables false
namespace Go.Proofs
open Go Go.Eng
set_option maxHeartbeats 8000000
set_option pp.deepTerms true
set_option pp.maxSteps 1000000
set_option maxRecDepth 20000
theorem qy8 {Z Z':Env} {b:Bool} (hp:qa3 (Z 0).i (Z 1).i (Z 2).i = b) (hag:∀ n,n < 3->Z' n = Z n) (h2:qa3 ((Z'.upto 3) 0).i ((Z'.upto 3) 1).i ((Z'.upto 3) 2).i = !b):False:=by
 have e:∀ n,n < 3->(Z'.upto 3) n = Z n:=fun n hn=>by rw [Env.upto,jah hn]; exact hag n hn
 rw [e 0 (by omega),e 1 (by omega),e 2 (by omega),hp] at h2;cases b <;> cases h2
theorem qyQ:qp6.ok Try.prog:=Ctr.ok_less qrc rfl rfl rfl rfl rfl (fun _ _=>trivial) fun Z Z' ai al hp hag hal hpost=>by
 match ai,hal with
 | 0,hal =>
  obtain rfl:=jax hal;exact (qy8 hp hag hpost).elim
 | 1,hal=>exact ⟨0,hal⟩
theorem qyD:qp8.ok Try.prog:=Ctr.ok_less qrc rfl rfl rfl rfl rfl (fun _ _=>trivial) fun Z Z' ai al hp hag hal hpost=>by
 match ai,hal with
 | 0,hal=>exact ⟨0,hal⟩
 | 1,hal =>
  obtain rfl:=jax hal;exfalso;have h2:qa3 ((Z'.upto 12) 0).i ((Z'.upto 12) 1).i ((Z'.upto 12) 2).i = false:=hpost.1;have e:∀ n,n < 3->(Z'.upto 12) n = Z n:=fun n hn=>by rw [Env.upto,jah (by omega)]; exact hag n hn
  have hp:qa3 (Z 0).i (Z 1).i (Z 2).i = true:=hp;rw [e 0 (by omega),e 1 (by omega),e 2 (by omega),hp] at h2;cases h2
theorem qwY:qmT.ok Try.prog:=Ctr.ok_less qsv rfl rfl rfl rfl rfl (fun _ h=>h.2) fun Z Z' ai al hp hag hal hpost=>by
 match ai,hal with
 | 0,hal =>
  obtain rfl:=jax hal;exact (qy8 hp.1 hag hpost).elim
 | 1,hal=>exact ⟨0,hal⟩
theorem qxF:qma.ok Try.prog:=Ctr.ok_less qsv rfl rfl rfl rfl rfl (fun _ h=>h.2) fun Z Z' ai al hp hag hal hpost=>by
 match ai,hal with
 | 0,hal=>exact ⟨0,hal⟩
 | 1,hal =>
  obtain rfl:=jax hal;exfalso;have h2:qa3 ((Z'.upto 6) 0).i ((Z'.upto 6) 1).i ((Z'.upto 6) 2).i = false:=hpost.1;have e:∀ n,n < 3->(Z'.upto 6) n = Z n:=fun n hn=>by rw [Env.upto,jah (by omega)]; exact hag n hn
  rw [e 0 (by omega),e 1 (by omega),e 2 (by omega),hp.1] at h2;cases h2
theorem qpl:qd7.ok Try.prog:=qps (by simp [qqE,qtE]) fun Z hg hp=>by
 obtain ⟨h1,h2⟩:=hp;simp (config:={ maxSteps:=4000000 }) [qjz,qd7,qk9,qhy,qbX,qgL];refine ⟨⟨h1,h2⟩,fun u _ hu=>⟨⟨by omega,by rw [hu]; omega⟩,fun i _ d _ g0 g1 g2=>⟨by omega,fun hi=>?_⟩⟩⟩;rw [show qk .add .i64 i.i 1 = i.i + 1 from qJ g0 hi h2];exact ⟨g0,by omega,⟨by omega,by omega,by rw [qaC]; exact g2⟩,by omega⟩
noncomputable abbrev sbX:Ctx:=⟨Try.prog,qeh,[qR,qcH,qp8,qma,qgl,qhH,qd7,qhP,qeE,qgg,qeT,qgq,qcl,qeD,qc3,qgr,qbe,qbF,qeG,qgo,qeo,qcK],[scR,scN,scO,scP,scQ]⟩
theorem qdG {Z Z':Env} (h:∀ n,n < 7->Z' n = Z n) (hp:qcv Z):qcv Z':=by
 unfold qcv at hp ⊢;simp only [h 3 (by decide),h 5 (by decide),h 6 (by decide)];exact hp
theorem qjh {n:Int} {h:Hp} {d:List (List Value)} (h1:n = (d.length:Int)) (h3:qlL h d):0 <= qdb n d:=by
 unfold qdb;split
 ·rename_i hc
  have hrow:=jae (show (0:Int).toNat < d.length by omega);obtain ⟨_,hv,_⟩:=h3 _ (jar hrow);rw [qc,qel hrow];exact hv
 ·decide
theorem q01:∀ Z:Env,qcv Z->qvk.den sbX Z:=fun Z hp=>by
 simp (config:={ maxSteps:=8000000 }) [qvk,sbX,qeh,qao,scP,scQ,scN,qc7];intro e0 i0 i1 i2 e1 e2 _;have ha:qk .add .i64 (Z 30).i 1 = (Z 30).i + 1:=qJ i0 i1 (by unfold big; omega);rw [ha];exact ⟨by omega,by omega,fun _ u _ hst=>⟨⟨by omega,by omega,i2⟩,by omega⟩⟩
theorem q02:∀ Z:Env,qcv Z->qtW.den sbX Z:=fun Z hp=>by
 simp (config:={ maxSteps:=8000000 }) [qtW,sbX,qeh,qao,scO,scP,scN,qc7,qcl,qeD,qc3,qgr,qbe,qbB,qbF,qeG,qgo,qeo,qcK,qbX,qdY];intro e0 i0 i1 i2 e1;have hb:(0:Int) <= big:=by decide
 refine ⟨e1,fun _=>⟨⟨[],0,[],⟨[],rfl,rfl,by simp⟩,⟨[],rfl,rfl,by simp⟩,by simp⟩,fun u _ hu=>⟨hu,fun _=>⟨hb,fun u1 _ hu1=>⟨hu1,fun _=>⟨hb,?_⟩⟩⟩⟩⟩⟩;intro u2 _ u3 _ u4 _ u5 _ k1 k2 k3 k4;refine ⟨⟨k2,hb,by omega⟩,fun u6 _ hu6=>⟨?_,fun _ u7 _ hu7=>⟨hu7,fun _ u8 _ hst=>⟨⟨e0,i0,i1,i2⟩,?_⟩⟩⟩⟩
 ·rw [hu6,k1]; decide
 ·intros; exact q01 _ (qdG (fun n hn=>by repeat rw [Env.set_ne _ _ (by omega)]) hp)
theorem q0w:∀ Z:Env,qcv Z->qvr.den sbX Z:=fun Z hp=>by
 simp (config:={ maxSteps:=8000000 }) [qvr,sbX,qeh,qao,scO,scN,qgl,qhH,qd7,qhP,qeE,qgg,qeT,qgq,qbX,qfL,qc7,qR];intro i0 i1 i2;obtain ⟨h1,h2,h3⟩:=id hp;refine ⟨by omega,fun hi=>⟨i0,by omega,fun u _=>⟨⟨fun _ _ _ _=>⟨i0,hi,i2⟩,fun _=>⟨fun _=>?_,fun _ _ _ _=>⟨i0,hi,i2⟩⟩⟩,?_⟩⟩⟩
 ·have hrow:=jae (show (Z 12).i.toNat < (Z 5).d.length by omega)
  obtain ⟨⟨tR,hR,hRb⟩,hv⟩:=h3 _ (jar hrow);exact ⟨tR,by rw [qel hrow]; exact hR,fun _ _ _ _ _ _=>⟨hRb,fun _ _ _=>⟨i0,hi,i2⟩⟩⟩
 ·intros; exact q02 _ (qdG (fun n hn=>by repeat rw [Env.set_ne _ _ (by omega)]) hp)
theorem q0v:∀ Z:Env,qcv Z->qa3 (Z 0).i (Z 1).i (qdb (Z 3).i (Z 5).d) = true->quv.den sbX Z:=fun Z hp hB=>by
 simp (config:={ maxSteps:=8000000 }) [quv,sbX,qeh,qao,scR,scN,qp8,qep,qma,qfO];intro i2 e;obtain ⟨h1,h2,h3⟩:=id hp;have hB':qa3 (Z 0).i (Z 1).i (Z 8).i = true:=by rw [e]; exact hB
 refine ⟨hB',fun _=>⟨⟨hB',by rw [e]; exact qjh h1 h3⟩,fun _ u _ u1 _ hst=>⟨⟨by omega,i2⟩,?_⟩⟩⟩;intros; exact q0w _ (qdG (fun n hn=>by repeat rw [Env.set_ne _ _ (by omega)]) hp)
theorem qwi:qeh.ok Try.prog:=qvL (by simp [qpL,qlz,qyD,qxF,quN,qwv,qpl,qww,qr7,quX,qrQ,qt8,qkK,qrx,qjK,quF,qe4,qiB,qrI,qub,qra,qmY]) fun Z hg hp=>by
 obtain ⟨hP,hB⟩:=hp;have hP0:=hP;obtain ⟨h1,h2,h3⟩:=hP;simp (config:={ maxSteps:=8000000 }) [qrt,qeh,qao,scR,qR,qcH,qc7];refine ⟨⟨h1,h2,h3⟩,fun u _ hu hb=>⟨⟨by omega,fun h0=>⟨h0,by omega,fun hc=>⟨hu hb,?_⟩,fun hc=>⟨hu hb,?_⟩⟩,fun h0=>⟨hu hb,?_⟩⟩,?_⟩⟩
 ·rw [qdb,jah ⟨h0,hc⟩]
 ·rw [qdb,jaf (fun h=>hc h.2)]
 ·rw [qdb,jaf (fun h=>by omega)]
 ·intros; exact q0v _ (qdG (fun n hn=>by repeat rw [Env.set_ne _ _ (by omega)]) hP0) (by simpa [Env.set] using hB)
set_option maxHeartbeats 8000000
set_option pp.deepTerms true
set_option pp.maxSteps 1000000
noncomputable abbrev saX:Ctx:=⟨Try.prog,qcP,[qR,qcH,qp6,qmT,qgn,qhE,qd3,qhL,qeA,qge,qeW,qgh,qcl,qeC,qc3,qgj,qbe,qbF,qe9,qc5,qek,qcK],[scR,scI,scJ,scK,scL,scM]⟩
theorem qyK {h h':Hp} {r:Option Addr} {e d:List (List Value)} {k n c:Nat} {x y:Int} (hP:Put h h' r qp e (k * qp.length + 0) [.int .u64 x,.int .u8 y]) (hr0:atZ (.slice (qg r 0) n c)) (hO:qeB h d):qeB h' d:=fun i row hi=>by
 obtain ⟨e1,h1,h2,h3⟩:=hO i row hi;obtain ⟨d',q1,q2⟩:=qzd hP hr0 h1 h3;exact ⟨d',q1,by omega,h3⟩
theorem qyV {h:Hp} {d:List (List Value)} {j:Int} (hO:qeB h d) (h0:0 <= j) (h1:j < d.length):∃ e,Rd h qp (qba d j 6) e/\(e.length:Int) <= 1000/\atZ (qba d j 6):=by
 have hrow:=jae (show j.toNat < d.length by omega);rw [qel hrow];exact hO _ _ hrow
theorem qxJ {h h':Hp} {d:List (List Value)} (hO:qeB h d) (hl:Hp.le h h'):qeB h' d:=fun i row hi=>by
 obtain ⟨e1,h1,h2,h3⟩:=hO i row hi;exact ⟨e1,qb5 h1 hl,h2,h3⟩
theorem qrz {h:Hp} {ms:List Msg} {self:Int} {t:List Ent} {d:List (List Value)} (hs:qX h ms self t ms.length d) (ht:(t.length:Int) <= 1000):qeB h d:=fun i row hi=>by
 have hl:=qbG hs;have hid:=(jaj.1 hi).1;have hg:=jae (show i < ms.length by omega);obtain ⟨v,r,e,q1,q2,q3⟩:=qhw hs hg;rw [hi] at r;obtain rfl:=jax r;have he:e.length = t.length:=by rw [<- q2,qu]
 refine ⟨e,?_,by omega,?_⟩
 ·simpa [qcj] using q1
 ·simpa [qcj] using q3
theorem q03:∀ Z:Env,qcv Z->qus.den saX Z:=fun Z hp=>by
 simp (config:={ maxSteps:=8000000 }) [qus,saX,qcP,qao,scL,scM,qkU,scS,qkO,lMG];intro e0 i0 i1 i2 s1 s2 s3 s4 s5 s6 s7 n1 n2 hO j0 j1 k0 k1 k2 k3;obtain ⟨e,r1,r2,r3⟩:=qyV hO j0 (by omega);refine ⟨j0,j1,by omega,e,r1,fun u0 _ u1 _ hv hvl=>⟨fun hlt=>⟨e,r1,fun v0 _ v1 _ hv' hvl'=>⟨k0,hlt,fun u _ hP=>?_⟩⟩,fun hge=>?_⟩⟩
 ·have hP':Put (Z 174).h u.h v0.r qp e ((Z 176).i.toNat * qp.length + 0) [.int .u64 0,.int .u8 0]:=hP
  have hz:=r3;rw [hv'] at hz;rw [show qk .add .i64 (Z 176).i 1 = (Z 176).i + 1 from qJ k0 (show (Z 176).i < 1001 by omega) (by decide)];exact ⟨⟨⟨⟨e0,i0,i1,i2⟩,⟨s1,s2,s3,s4,s5,s6,s7⟩,⟨n1,n2⟩,qyK hP' hz hO⟩,j0,j1,by omega,by omega,k2,k3⟩,by omega⟩
 ·rw [show qk .add .i64 (Z 175).i 1 = (Z 175).i + 1 from qJ j0 j1 (by unfold big; omega)]
  exact ⟨⟨⟨⟨e0,i0,i1,i2⟩,⟨s1,s2,s3,s4,s5,s6,s7⟩,⟨n1,n2⟩,hO⟩,by omega,by omega⟩,by omega⟩
theorem q00:∀ Z:Env,qcv Z->quS.den saX Z:=fun Z hp=>by
 simp (config:={ maxSteps:=8000000 }) [quS,saX,qcP,qao,scL,scM,scI,qkU,scS,qkO,lMG];intro e0 i0 i1 i2 s1 s2 s3 s4 s5 s6 s7 n1 n2 hO j0 j1 _;refine ⟨by omega,fun hlt=>⟨⟨⟨⟨e0,i0,i1,i2⟩,⟨s1,s2,s3,s4,s5,s6,s7⟩,⟨n1,n2⟩,hO⟩,j0,hlt⟩,?_⟩,fun hge u _ hst=>?_⟩
 ·intros; exact q03 _ (qdG (fun n hn=>by repeat rw [Env.set_ne _ _ (by omega)]) hp)
 ·have hle:=qI 137 4 hst (by simp)
  rw [show qk .add .i64 (Z 138).i 1 = (Z 138).i + 1 from qJ i0 i1 (by unfold big; omega)];exact ⟨⟨by omega,by omega,i2,s1,s2,s3,s4,s5,s6,qaB s7 hle⟩,by omega⟩
theorem q0u:∀ Z:Env,qcv Z->quV.den saX Z:=fun Z hp=>by
 simp (config:={ maxSteps:=8000000 }) [quV,saX,qcP,qao,scK,scL,qkU,scS,qkO,lMG];intro e0 i0 i1 i2 s1 s2 s3 s4 s5 s6 s7 n1 n2 hO;refine ⟨⟨⟨⟨e0,i0,i1,i2⟩,⟨s1,s2,s3,s4,s5,s6,s7⟩,⟨n1,n2⟩,hO⟩,by omega⟩,?_⟩;intros; exact q00 _ (qdG (fun n hn=>by repeat rw [Env.set_ne _ _ (by omega)]) hp)
theorem q0x:∀ Z:Env,qcv Z->qu1.den saX Z:=fun Z hp=>by
 simp (config:={ maxSteps:=8000000 }) [qu1,saX,qcP,qao,scJ,scK,qkU,qcl,qeC,qc3,qgj,qbe,qbB,qbF,qe9,qc5,qek,qcK,qdY,scS,qkO,lMG];intro e0 i0 i1 i2 s1 s2 s3 s4 s5 s6 s7 eE n1 n2 n3 ms self t m1 m2 tl;obtain ⟨⟨b1,b2,b3,b4,b5⟩,⟨w1,w2,w3,w4,w5,w6,w7,w8⟩,hW2⟩:=id s1;have hMt:(qae (Z 0).i (Z 58).d (Z 59).d (Z 52).i (Z 53).i (Z 54).i (Z 55).i (Z 60).d (Z 57).i (Z 61).b).tab = qb (Z 58).d:=rfl;rw [hMt,qu] at w1 w2 w5;obtain ⟨dT,dS,dP,rT,rS,rP,tT,tS,tP⟩:=id s7;have tT:qb dT = qb (Z 58).d:=tT;have tP:qt dP = (qt (Z 60).d).take (Z 55).i.toNat:=tP;have lT:dT.length = (Z 58).d.length:=by rw [<- qu,tT,qu]
 have lP:(dP.length:Int) <= (Z 55).i:=by
  have:=congrArg List.length tP;rw [qcs,jbe] at this; omega
 have hb:(16:Int) <= big:=by decide
 refine ⟨⟨eE,fun _ _ _=>⟨⟨n1,n2,by omega,ms,self,t,m1,m2,tl⟩,fun u _ hu=>⟨hu,fun _ _ _ _=>⟨⟨by omega,by omega,by omega⟩,fun u1 _ u2 _ u3 _ k3=>⟨dT,.inr (.inl rT),fun _ _ _ _ _ _ _=>⟨⟨by rw [k3]; omega,by omega,by omega⟩,fun u4 _ k4=>⟨by rw [k4,k3,tT]; simp,fun _=>⟨⟨by omega,by omega⟩,fun u5 _ u6 _ u7 _ u8 _ k5 k6 k7=>⟨dT,.inr (.inl rT),fun _ _ _ _ _ _=>⟨by omega,fun u9 _ u10 _ u11 _ u12 _ k8 k9 k10 _ _=>⟨⟨k6,k9,by omega,by omega⟩,fun u13 _ k13=>⟨by rw [k13,k5,k8,tT]; simp,fun _=>⟨s2.symm,fun _=>⟨s5.symm,fun _=>⟨⟨by omega,by omega,by omega⟩,fun u14 _ u15 _ u16 _ u17 _ k17 k15 k15'=>⟨dP,.inr (.inl rP),fun _ _ _ _ _ _ _=>⟨⟨k15',by omega,by omega⟩,fun u18 _ k18=>⟨?_,fun _ u19 _ hst=>⟨⟨e0,i0,i1,i2⟩,⟨s1,s2,s3,s4,s5,s6,s7⟩,⟨n1,n3⟩,?_⟩⟩⟩⟩⟩⟩⟩⟩⟩⟩⟩⟩⟩⟩⟩⟩⟩⟩⟩,?_⟩
 ·rw [k18,k17,qoX,tP]
 ·have hle:=qI 83 2 hst (by simp)
  simp at hle;exact qxJ (qrz m1 tl) hle
 ·intros; exact q0u _ (qdG (fun n hn=>by repeat rw [Env.set_ne _ _ (by omega)]) hp)
theorem q0n {h:Hp} {vT vS vP:Value} {s c q p g:Int} {l:Bool} {m0:Mach} (b0:s = m0.self) (b2:c = m0.clock) (b3:q = m0.seq) (b4:p = m0.pinged) (b7:g = m0.chal) (b8:l = m0.left) (hI:rIs h vT vS vP m0.tab m0.since m0.probes) (Q:Mach->Prop) :
  (∀ m:Mach,s = m.self->c = m.clock->q = m.seq->p = m.pinged->g = m.chal->l = m.left->rIs h vT vS vP m.tab m.since m.probes->Q m) = Q m0:=by
 rw [qkm hI s c q p g l Q,b0,b2,b3,b4,b7,b8]
theorem qt2 (self clock draw:Int) (st:TS) (p:Prb):(qa9 self clock draw st p).msgs.length <= st.msgs.length + 2:=by
 unfold qa9;split
 ·split <;> simp
 ·split
  ·have:=qq7 st.tab self p.seq p.target draw
   simp only [jbt]; omega
  ·simp
theorem qmo (self clock draw:Int):∀ (ps:List Prb) (st:TS),(ps.foldl (qa9 self clock draw) st).msgs.length <= st.msgs.length + 2 * ps.length
 | [],st=>by simp
 | p :: ps,st=>by
  have h1:=qmo self clock draw ps (qa9 self clock draw st p);have h2:=qt2 self clock draw st p;simp only [jct,jbb]; omega
theorem qpB (m:Mach) (draw:Int):(qaO m draw).length <= 2 * m.probes.length + 1:=by
 have:=qmo m.self (qj m) draw m.probes ⟨m.tab,m.since,[],[]⟩;simp only [qaO,qT,qb7,jbt,jbb,jck];simp only [jck] at this; omega
theorem qhI (h h':Hp):∃ (ms:List Msg) (self:Int) (t:List Ent),qX h ms self t ms.length []/\qX h' ms self t ms.length []/\(t.length:Int) <= 1000:=⟨[],0,[],⟨[],rfl,rfl,by simp⟩,⟨[],rfl,rfl,by simp⟩,by simp⟩
theorem qzz {m:Mach} (h:GW m) (hp:m.probes.length <= 150):rWf m:=⟨h.1,by omega⟩
theorem q04:∀ Z:Env,qcv Z->qtH.den saX Z:=fun Z hp=>by
 simp (config:={ maxSteps:=8000000 }) [qtH,saX,qcP,qao,scI,scJ,qgn,qhE,qd3,qeQ,qhL,qeA,qge,qeW,qgh,scS,qkO,lMG,qR,qc7,qrf,m0,m1,mOk,qaP,rB];intro i0 i1 i2 s1 s2 s3 s4 s5 s6 s7;obtain ⟨h1,h2,h3⟩:=id hp;obtain ⟨⟨b1,b2,b3,b4,b5⟩,hW⟩:=id s1;have hall:=fun Q=>q0n (s:=(Z 0).i) (m0:=qae (Z 0).i (Z 32).d (Z 33).d (Z 26).i (Z 27).i (Z 28).i (Z 29).i (Z 34).d (Z 31).i (Z 35).b) rfl s2 s3 s4 s5 s6 s7 Q
 have hex:∀ R:Mach->Prop,R (qae (Z 0).i (Z 32).d (Z 33).d (Z 26).i (Z 27).i (Z 28).i (Z 29).i (Z 34).d (Z 31).i (Z 35).b)->∃ m:Mach,((Z 0).i = m.self/\(Z 40).i = m.clock/\(Z 41).i = m.seq/\(Z 42).i = m.pinged/\(Z 43).i = m.chal/\(Z 44).b = m.left/\rIs (Z 45).h (Z 37).v (Z 38).v (Z 39).v m.tab m.since m.probes)/\R m:=fun R hR=>⟨_,⟨rfl,s2,s3,s4,s5,s6,s7⟩,hR⟩
 simp only [hall];have hMe:(qae (Z 0).i (Z 32).d (Z 33).d (Z 26).i (Z 27).i (Z 28).i (Z 29).i (Z 34).d (Z 31).i (Z 35).b).self = (Z 0).i:=rfl;have hMl:(qae (Z 0).i (Z 32).d (Z 33).d (Z 26).i (Z 27).i (Z 28).i (Z 29).i (Z 34).d (Z 31).i (Z 35).b).left = (Z 35).b:=rfl;have hMt:(qae (Z 0).i (Z 32).d (Z 33).d (Z 26).i (Z 27).i (Z 28).i (Z 29).i (Z 34).d (Z 31).i (Z 35).b).tab = qb (Z 32).d:=rfl;have hMc:(qae (Z 0).i (Z 32).d (Z 33).d (Z 26).i (Z 27).i (Z 28).i (Z 29).i (Z 34).d (Z 31).i (Z 35).b).clock = (Z 26).i:=rfl;have hMp:(qae (Z 0).i (Z 32).d (Z 33).d (Z 26).i (Z 27).i (Z 28).i (Z 29).i (Z 34).d (Z 31).i (Z 35).b).probes.length <= 150:=by
  simp only [qae,jbe]; omega
 have hPr:=qzz hW hMp;have hml:=qpB (qae (Z 0).i (Z 32).d (Z 33).d (Z 26).i (Z 27).i (Z 28).i (Z 29).i (Z 34).d (Z 31).i (Z 35).b) (qc (Z 5).d (Z 46).i 1);have same:GM (Z 1).i ((Z 46).i + 1) (qae (Z 0).i (Z 32).d (Z 33).d (Z 26).i (Z 27).i (Z 28).i (Z 29).i (Z 34).d (Z 31).i (Z 35).b) (Z 32).d (Z 33).d (Z 34).d (Z 29).i:=⟨⟨b1,b2,b3,b4,by omega⟩,hW⟩;generalize hM:qae (Z 0).i (Z 32).d (Z 33).d (Z 26).i (Z 27).i (Z 28).i (Z 29).i (Z 34).d (Z 31).i (Z 35).b = M at *;have hlen0:=hW.1.2.2.2;have hwl:M.tab.length = (Z 32).d.length:=by rw [hMt,qu]
 have hw1:=hW.1.1;have hw2':=hW.1.2.1;have hMpg:M.pinged = (Z 28).i:=by rw [<- hM]; rfl
 obtain ⟨w4,w5,w6,w7,w8⟩:=hlen0;refine ⟨by omega,fun hi=>?_⟩;have hrow:=jae (show (Z 46).i.toNat < (Z 5).d.length by omega);have hv1:0 <= qc (Z 5).d (Z 46).i 1/\qc (Z 5).d (Z 46).i 1 < 18446744073709551616:=by
  obtain ⟨_,hv⟩:=h3 _ (jar hrow);have e:qc (Z 5).d (Z 46).i 1 = qb3 (Z 5).d[(Z 46).i.toNat] 1:=by rw [qc,qel hrow]; rfl
  rw [e]; exact hv
 refine ⟨i0,by omega,fun u _=>⟨⟨fun hk _ _ _=>⟨⟨⟨hW.1,by omega,b3,b4,by omega⟩,?_⟩,fun hl=>⟨⟨hex _ hPr,?_⟩,?_⟩,?_⟩,fun hk1=>⟨fun hk=>?_,fun hk2=>⟨fun hk _ _ _=>⟨⟨by omega,?_⟩,?_⟩,fun hk3=>⟨fun hk _ _ _=>⟨⟨?_,?_⟩,fun hl=>⟨hex _ hW.1,?_⟩,?_⟩,fun hk4=>?_⟩⟩⟩⟩,?_⟩⟩
 ·exact hv1
 ·exact hv1
 ·intro x1 _ x2 _ x3 _ x4 _ x5 _ x6 _ x7 _ x8 _ x9 _ x10 _ x11 _ x12 _ hd z _ hst
  rcases hd with ⟨d1,d2,d3,d4,d5,d6,d7⟩ | ⟨d1,_⟩
  ·refine ⟨⟨i0,hi,i2⟩,⟨same,d4,d5,d6,s5,s6,d7⟩,by rw [d2,d3]; rfl,?_⟩
   rw [d3]; exact qhI _ _
  ·rw [hMl,hl] at d1; cases d1
 ·intro y1 _ y2 _ y3 _ y4 _ y5 _ y6 _ y7 _ y8 _ y9 _ y10 _ y11 _ y12 _ y13 _ y14 _ kl kM kL kT k0 k1 k2 kst
  refine ⟨⟨hex _ hPr,hv1⟩,?_⟩;intro x1 _ x2 _ x3 _ x4 _ x5 _ x6 _ x7 _ x8 _ x9 _ x10 _ x11 _ x12 _ hd z _ hst;rcases hd with ⟨d1,_⟩ | ⟨d1,d2,d3,d4,d5,d6,d7⟩
  ·rw [hMl,kl] at d1; cases d1
  ·have hW1:=GW.tick (qc (Z 5).d (Z 46).i 1) hW
   have hW':=hW1;rw [<- kM] at hW';have hle:=qI 61 2 hst (by simp);simp at hle;have hsl:=qbG kst;have hw2:=hW1.1.2.1;exact ⟨⟨i0,hi,i2⟩,⟨GM.make (by omega) rfl rfl k0 k1 (by omega) hW',by rw [kM]; exact d4,by rw [kM]; exact d5,by rw [kM]; exact d6,by rw [kM]; exact s5,by rw [kM]; exact s6,by rw [kM]; exact d7⟩,⟨kL,d2,by omega⟩,qaO M (qc (Z 5).d (Z 46).i 1),M.self,(qat M (qc (Z 5).d (Z 46).i 1)).tab,by rw [hMe]; exact qaQ kst hle,d3,by omega⟩
 ·obtain ⟨⟨tR,hR,hRb⟩,hv⟩:=h3 _ (jar hrow)
  have hR':Rd (Z 6).h [.int .u64,.int .u8] (qba (Z 5).d (Z 46).i 8) tR:=by rw [qel hrow]; exact hR
  refine ⟨tR,hR',fun _ _ _ _ _ _ _ _ _=>⟨⟨⟨hW.1,by omega,b3,b4,by omega⟩,hRb⟩,?_,?_⟩⟩
  ·generalize (⟨qc (Z 5).d (Z 46).i 2,qc (Z 5).d (Z 46).i 3,qc (Z 5).d (Z 46).i 4,qc (Z 5).d (Z 46).i 5,qc (Z 5).d (Z 46).i 6,qc (Z 5).d (Z 46).i 7⟩:Msg) = G
   intro y1 _ y2 _ y3 _ y4 _ y5 _ y6 _ kE kA kM k0 k1 k2;refine ⟨tR,hR',fun _ _ _ _ _ _=>⟨⟨hex _ hPr,hRb⟩,?_⟩⟩;intro x1 _ x2 _ x3 _ x4 _ x5 _ x6 _ x7 _ x8 _ x9 _ x10 _ hd z _ hst;obtain ⟨d1,d2,d3,d4,d5⟩:=hd;have hsl:=qbG d3;rw [kA] at hsl;have hnil:x9.d = []:=jcq (by simpa using hsl);have hW':=GW.recv (g:=G) (t:=qb tR) hW;have hln:=qov (m:=M) (g:=G) (t:=qb tR);have hcs:qab M G (qb tR) = M∨qab M G (qb tR) = qbl M G (qb tR):=qfl M G (qb tR);have hq1:(qab M G (qb tR)).clock = M.clock:=by rcases hcs with e | e <;> rw [e] <;> rfl
   have hq2:(qab M G (qb tR)).seq = M.seq:=by rcases hcs with e | e <;> rw [e] <;> rfl
   have hq3:(qab M G (qb tR)).pinged = M.pinged:=by rcases hcs with e | e <;> rw [e] <;> rfl
   have hq4:(qab M G (qb tR)).left = M.left:=by rcases hcs with e | e <;> rw [e] <;> rfl
   rw [<- kM] at hW' hln;have hln':y4.d.length = M.tab.length:=by simpa [qae,qu] using hln
   rw [hMt,qu] at hln';refine ⟨⟨i0,hi,i2⟩,⟨GM.make (by omega) rfl rfl k0 k1 (by omega) hW',by rw [kM,hq1]; exact s2,by rw [kM,hq2]; exact s3,by rw [kM,hq3]; exact s4,by rw [kM]; exact d4,by rw [kM,hq4]; exact s6,by rw [kM]; exact d5⟩,by omega,d2,?_⟩;rw [hnil]; exact qhI _ _
  ·generalize (⟨qc (Z 5).d (Z 46).i 2,qc (Z 5).d (Z 46).i 3,qc (Z 5).d (Z 46).i 4,qc (Z 5).d (Z 46).i 5,qc (Z 5).d (Z 46).i 6,qc (Z 5).d (Z 46).i 7⟩:Msg) = G
   intro y1 _ y2 _ y3 _ y4 _ y5 _ y6 _ y7 _ kE kA kM kst;refine ⟨tR,hR',fun _ _ _ _ _ _=>⟨⟨hex _ hPr,hRb⟩,?_⟩⟩;intro x1 _ x2 _ x3 _ x4 _ x5 _ x6 _ x7 _ x8 _ x9 _ x10 _ hd z _ hst;obtain ⟨d1,d2,d3,d4,d5⟩:=hd;rw [kA] at d3;rw [kE] at d1;have hW1:=GW.recv (g:=G) (t:=qb tR) hW;have hW':=hW1;have hln:=qov (m:=M) (g:=G) (t:=qb tR);have hcs:qab M G (qb tR) = M∨qab M G (qb tR) = qbl M G (qb tR):=qfl M G (qb tR);have hq1:(qab M G (qb tR)).clock = M.clock:=by rcases hcs with e | e <;> rw [e] <;> rfl
   have hq2:(qab M G (qb tR)).seq = M.seq:=by rcases hcs with e | e <;> rw [e] <;> rfl
   have hq3:(qab M G (qb tR)).pinged = M.pinged:=by rcases hcs with e | e <;> rw [e] <;> rfl
   have hq4:(qab M G (qb tR)).left = M.left:=by rcases hcs with e | e <;> rw [e] <;> rfl
   rw [<- kM] at hW' hln;have hln':y5.d.length = M.tab.length:=by simpa [qae,qu] using hln
   rw [hMt,qu] at hln';have hle:=qI 54 2 hst (by simp);simp at hle;have hsl:=qbG kst;simp at hsl;have hw2:=hW1.1.2.1;exact ⟨⟨i0,hi,i2⟩,⟨GM.make (by omega) rfl rfl b3 b4 (by omega) hW',by rw [kM,hq1]; exact s2,by rw [kM,hq2]; exact s3,by rw [kM,hq3]; exact s4,by rw [kM]; exact d4,by rw [kM,hq4]; exact s6,by rw [kM]; exact d5⟩,by omega,⟨by omega,d2⟩,[qbh (Z 0).i G],(Z 0).i,(qab M G (qb tR)).tab,qaQ kst hle,by rw [hMe] at d3; exact d3,by omega⟩
 ·exact ⟨by omega,by omega⟩
 ·intro y1 _ y2 _ y3 _ kE kT kC kl
  have kM:=qvi (dS:=(Z 33).d) (dP:=(Z 34).d) (np:=(Z 29).i) kT kC;rw [hM] at kM;refine ⟨hex _ hW.1,?_⟩;intro x1 _ x2 _ x3 _ x4 _ hd z _ hst;obtain ⟨d1,d2,d3⟩:=hd;have hW':=GW.reinc (inc:=qc (Z 5).d (Z 46).i 1) hW;have hq:(qaM M (qc (Z 5).d (Z 46).i 1)).clock = M.clock/\(qaM M (qc (Z 5).d (Z 46).i 1)).seq = M.seq/\(qaM M (qc (Z 5).d (Z 46).i 1)).pinged = M.pinged/\(qaM M (qc (Z 5).d (Z 46).i 1)).left = M.left/\(qaM M (qc (Z 5).d (Z 46).i 1)).since = M.since/\(qaM M (qc (Z 5).d (Z 46).i 1)).probes = M.probes:=by
   unfold qaM; split <;> simp
  obtain ⟨q1,q2,q3,q4,q5,q6⟩:=hq;have hE:qbY (qae (Z 0).i (Z 32).d [] (Z 26).i (Z 27).i (Z 28).i 0 [] (Z 31).i (Z 35).b) (qc (Z 5).d (Z 46).i 1) = qbY M (qc (Z 5).d (Z 46).i 1):=by rw [<- hM]; rfl
  rw [<- kM] at hW';refine ⟨⟨i0,hi,i2⟩,⟨GM.make (by omega) rfl rfl b3 b4 (by omega) hW',by rw [kM,q1]; exact s2,by rw [kM,q2]; exact s3,by rw [kM,q3]; exact s4,by rw [kM]; exact d2,by rw [kM,q4]; exact s6,by rw [kM,q5,q6]; exact d3⟩,by rw [kE,d1,hE],qhI _ _⟩
 ·exact ⟨by omega,by omega,by omega,by omega,by omega,by omega,by omega⟩
 ·obtain ⟨x,hz,z1,z2⟩:=hW.2.2
  rw [hMe,hMt] at hz;simp only [qc4,ja2,hz,jbc];omega
 ·intro x1 _ x2 _ x3 _ x4 _ x5 _ x6 _ x7 _ hd z _ hst
  obtain ⟨d0,d2,⟨e1,e2,e3⟩ | ⟨e1,_⟩⟩:=hd
  ·refine ⟨⟨i0,hi,i2⟩,⟨same,s2,s3,s4,s5,by rw [hMl,hl]; exact d0,e3⟩,d2,?_⟩
   rw [e2]; exact qhI _ _
  ·rw [hMl,hl] at e1; cases e1
 ·intro y1 _ y2 _ y3 _ y4 _ y5 _ y6 _ kl kT kL kD kst
  refine ⟨hex _ hW.1,?_⟩;intro x1 _ x2 _ x3 _ x4 _ x5 _ x6 _ x7 _ hd z _ hst;obtain ⟨d0,d2,⟨e1,_⟩ | ⟨e1,e2,e3⟩⟩:=hd
  ·rw [hMl,kl] at e1; cases e1
  ·have kM:qae (Z 0).i y4.d (Z 33).d (Z 26).i (Z 27).i (Z 28).i (Z 29).i (Z 34).d (Z 31).i true = qc1 M:=by
    rw [qc1,jaf (by simp [e1]),<- hM];simp only [qae];rw [kT]
   have hW1:=GW.leave hW;have hW':=hW1;rw [<- kM] at hW';have hle:=qI 53 2 hst (by simp);simp at hle;have hsl:=qbG kst;have hln:=qob (qU (qb (Z 32).d) (Z 0).i) (qU (qb (Z 32).d) (Z 0).i).length;have hll:(qU (qb (Z 32).d) (Z 0).i).length = (Z 32).d.length:=by rw [qU,jco,qu]
   have hlm:(qdl (qU (qb (Z 32).d) (Z 0).i)).length = (qdx (qU (qb (Z 32).d) (Z 0).i) (qU (qb (Z 32).d) (Z 0).i).length).length:=by rw [qdl,ja3]; rfl
   rw [hMe,hMt] at e2 e3;have hlf:M.left = false:=e1;have hfs:(qc1 M).clock = M.clock/\(qc1 M).seq = M.seq/\(qc1 M).pinged = M.pinged/\(qc1 M).chal = M.chal/\(qc1 M).left = true/\(qc1 M).tab = qU (qb (Z 32).d) (Z 0).i/\(qc1 M).since = M.since/\(qc1 M).probes = M.probes:=by
    rw [qc1,jaf (by simp [e1]),hMe,hMt]; simp
   obtain ⟨q1,q2,q3,q4,q5,q6,q7,q8⟩:=hfs;exact ⟨⟨i0,hi,i2⟩,⟨GM.make (by omega) rfl rfl b3 b4 (by omega) hW',by rw [kM,q1]; exact s2,by rw [kM,q2]; exact s3,by rw [kM,q3]; exact s4,by rw [kM,q4]; exact s5,by rw [kM,q5]; exact d0,by rw [kM,q6,q7,q8]; exact e3⟩,⟨kD,d2,by omega⟩,qdl (qU (qb (Z 32).d) (Z 0).i),(Z 0).i,qU (qb (Z 32).d) (Z 0).i,qaQ kst hle,e2,by omega⟩
 ·intro z _ hst
  exact ⟨⟨i0,hi,i2⟩,⟨same,s2,s3,s4,s5,s6,s7⟩,qhI _ _⟩
 ·intros; exact q0x _ (qdG (fun n hn=>by repeat rw [Env.set_ne _ _ (by omega)]) hp)
theorem q0y:∀ Z:Env,qcv Z->qa3 (Z 0).i (Z 1).i (qdb (Z 3).i (Z 5).d) = false->qtQ.den saX Z:=fun Z hp hB=>by
 simp (config:={ maxSteps:=8000000 }) [qtQ,saX,qcP,qao,scR,scI,qp6,qep,qmT,qfO,scS,qkO,lMG];intro i2 e;obtain ⟨h1,h2,h3⟩:=id hp;have hB':qa3 (Z 0).i (Z 1).i (Z 8).i = false:=by rw [e]; exact hB
 refine ⟨hB',?_⟩;intro x1 _ x2 _ x3 _ x4 _ x5 _ x6 _ x7 _ x8 _ x9 _ _ kM k1 k2 k3;refine ⟨⟨hB',by rw [e]; exact qjh h1 h3⟩,?_⟩;intro y1 _ y2 _ y3 _ _ hI z _;have hb:=hB';simp [qa3] at hb;obtain ⟨⟨⟨⟨b1,b2⟩,b3⟩,b4⟩,b5⟩:=hb;have hp0:0 <= (Z 8).i:=by rw [e]; exact qjh h1 h3
 have hW:GW (qc2 (Z 0).i (Z 1).i (Z 8).i):=⟨qyf (by omega) (by omega) (by omega) (by omega),by simp [qc2],((Z 8).i,1),by rw [qyg (by omega) (by simp only [qc2]; omega)]; simp [qc2]; omega,by simp,by simp⟩;refine ⟨⟨by omega,i2,?_,?_⟩,?_⟩
 ·rw [kM]
  exact ⟨⟨k1,k2,by omega,by omega,by omega⟩,hW⟩
 ·rw [kM]
  exact ⟨rfl,rfl,rfl,rfl,rfl,hI⟩
 ·intros; exact q04 _ (qdG (fun n hn=>by repeat rw [Env.set_ne _ _ (by omega)]) hp)
theorem qo7:qcP.ok Try.prog:=qwO (by simp [qpL,qlz,qyQ,qwY,qwm,qxI,qpD,qx5,qtK,qwy,qtx,qwn,qkK,qvq,qjK,qwL,qe4,qiB,quH,qn1,qrX,qmY]) fun Z hg hp=>by
 obtain ⟨hP,hB⟩:=hp;have hP0:=hP;obtain ⟨h1,h2,h3⟩:=hP;simp (config:={ maxSteps:=8000000 }) [qpN,qcP,qao,scR,qR,qcH,qc7];refine ⟨⟨h1,h2,h3⟩,fun u _ hu hb=>⟨⟨by omega,fun h0=>⟨h0,by omega,fun hc=>⟨hu hb,?_⟩,fun hc=>⟨hu hb,?_⟩⟩,fun h0=>⟨hu hb,?_⟩⟩,?_⟩⟩
 ·rw [qdb,jah ⟨h0,hc⟩]
 ·rw [qdb,jaf (fun h=>hc h.2)]
 ·rw [qdb,jaf (fun h=>by omega)]
 ·intros; exact q0y _ (qdG (fun n hn=>by repeat rw [Env.set_ne _ _ (by omega)]) hP0) (by simpa [Env.set] using hB)
theorem qpv:qao.ok Try.prog:=⟨qo7.1,fun Z w hF hO hg hd hw hs hro hp=>by
 cases hB:qa3 (Z 0).i (Z 1).i (qdb (Z 3).i (Z 5).d)
 ·exact qo7.2 Z w hF hO hg hd hw hs hro ⟨hp,hB⟩
 ·exact qwi.2 Z w hF hO hg hd hw hs hro ⟨hp,hB⟩⟩
end Go.Proofs
