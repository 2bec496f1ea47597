/- Texts XP, XN, XO. -/
import Derived.Test.YtlmkkphojjodhaaG7
import Derived.Test.YtlmkkphojjodhaaG1
set_option linter.unusedSimpArgs false
set_option linter.unusedVariables false
set_option linter.unusedSectionVars false
namespace Go.Proofs
open Go Go.Eng
set_option maxHeartbeats 4000000
set_option pp.deepTerms true
set_option pp.maxSteps 1000000
set_option maxRecDepth 20000
theorem qtZ {p:Int} (h0:0 <= p):qiw p 0 (qbu p.toNat):=⟨p.toNat,by omega,by simp [qbu],by simp [qbu],by simp [qbu],rfl,fun v hv=>by have:=jde hv; omega,fun b hb=>⟨by rw [qnJ,eq_comm,jdf]; omega,fun h=>absurd h (by omega)⟩⟩
theorem qtn {p a:Int} {s:Sw} (h:qiw p a s) (a0:0 <= a) (a1:a < p):qiw p (a + 1) (qbY s a.toNat 1):=by
 obtain ⟨n,hn,h1,h2,h3,h4,h5,h6⟩:=h;refine ⟨n,hn,by simp only [qbY,ja8]; exact h1,by simp only [qbY,ja8]; exact h2,by simp only [qbY,ja8]; exact h3,h4,fun v hv=>?_,fun b hb=>?_⟩
 ·rcases jbx hv with hv | hv
  ·exact h5 v hv
  ·omega
 ·have hr:(qbY s a.toNat 1).r b = if b = a.toNat then true else s.r b:=qmX (s:=s) (by omega) b
  have hm:(qbY s a.toNat 1).m b = if b = a.toNat then qcy a.toNat s.ms.length 1 else s.m b:=qgV (s:=s) (by omega)
  rw [hr,hm];by_cases hc:b = a.toNat
  ·rw [jag hc,jag hc]
   refine ⟨by rw [eq_comm,jaw]; omega,fun _=>?_⟩;rw [hc,h1]
  ·rw [jaf hc,jaf hc]
   obtain ⟨i1,i2⟩:=h6 b hb;refine ⟨?_,fun hh=>i2 (by omega)⟩;rw [i1];by_cases hd:(b:Int) < a
   ·rw [jeu hd,jeu (by omega)]
   ·rw [decide_eq_false hd,decide_eq_false (by omega)]
theorem qx6 {p:Int} {s:Sw} (h:qiw p p s) (h2:2 <= p):∃ n:Nat,(n:Int) = p/\SI n 0 1 0 s:=by
 obtain ⟨n,hn,e1,e2,e3,e4,e5,e6⟩:=h;refine ⟨n,hn,e1,e2,e3,fun a ha _=>?_,e5,(fun x hx=>absurd hx (by rw [e4]; simp)),by rw [e4]; simp⟩;rw [(e6 a ha).2 (by omega)];exact qvh (by omega) ha (by omega) (by omega) (by omega)
theorem qt5 {p:Int} {s:Sw} (h:qiw p p s) (h2:2 <= p) (h6:p <= 6):qgc p 0 (fun _=>s):=by
 obtain ⟨n,hn,hs⟩:=qx6 h h2;exact ⟨qpa hn h2 h6 hs (by omega) (by omega) (by omega) (by omega),h⟩
theorem qus {p t d:Int} {st:Nat->Sw} (h:qgc p t st) (h2:2 <= p) (h6:p <= 6) (ht:t <= 300) (hd:0 <= d) {s':Sw} (hR:qeN d (st t.toNat) s'):∃ st',qgc p (t + 1) st'/\st' (t + 1).toNat = s':=by
 obtain ⟨st',t1,t2,t3⟩:=qi7 h.1 h2 h6 ht hd hR;exact ⟨st',⟨t1,by rw [t3 0 (Nat.zero_le _)]; exact h.2⟩,t2⟩
theorem qjg {p t a:Int} {st:Nat->Sw} (h:qgc p t st) (a0:0 <= a) (a1:a < p):(st t.toNat).r a.toNat = true:=by
 obtain ⟨⟨n,hn,_,hT,_⟩,n',hn',e1,e2,e3,e4,e5,e6⟩:=h;rw [hT.run t.toNat (jbj _),(e6 a.toNat (by omega)).1,jaw]; omega
theorem qlu {p t a:Int} {st:Nat->Sw} (h:qgc p t st) (a0:0 <= a) (a1:a < p) (h2:2 <= p) (h6:p <= 6) (ht:t <= 300):qdX ((st t.toNat).m a.toNat)/\(((st t.toNat).m a.toNat).tab.length:Int) = p:=by
 have hr:=qjg h a0 a1;obtain ⟨w1,w2⟩:=qf5 (qgD h.1 h2 h6 ht);have:=qhN h.1;obtain ⟨w3,w4⟩:=w2 _ hr;exact ⟨w3,by rw [w4,this]; omega⟩
theorem qoh {p t a:Int} {st:Nat->Sw} (h:qgc p t st) (a0:0 <= a) (a1:a < p) {y:Nat} (hy:(y:Int) < p):((st t.toNat).e a.toNat y).1 <= 1/\((st t.toNat).e a.toNat y).2 <= 1/\(p <= t->qcb ((st t.toNat).e a.toNat y).2 = true):=by
 obtain ⟨⟨n,hn,_,hT,_⟩,n',hn',e1,e2,e3,e4,e5,e6⟩:=h;have hnn:n' = n:=by omega
 subst hnn;have hm:∀ q,q < n'->(st 0).m q = qcy q n' 1:=fun q hq=>(e6 q hq).2 (by omega)
 have:=hT.calm (fun q hq=>by rw [(e6 q hq).1,jaw]; omega) (fun q z hq hz=>by
  show qd ((st 0).m q).tab z = _
  rw [hm q hq,qi0,qsQ n' z _ q hq]) (fun q hq=>by rw [hm q hq]; rfl) e4 (p:=a.toNat) (y:=y) (t:=t.toNat) (by omega) (by omega) (jbj _)
 exact ⟨this.1,this.2.1,fun hh=>this.2.2 (by omega)⟩
theorem qmm {l:List Ent} (h:∀ y:Nat,y < l.length->qcb (qd l y).2 = true):∀ k:Nat,k <= l.length->(qbj l k).length = k
 | 0,_=>by simp [qbj]
 | k + 1,hk=>by
  rw [qe7,jag (show qcb (l.getD k (0,0)).2 = true from h k (by omega)),jav,qmm h k (by omega),jd4]
theorem quQ {p t a:Int} {st:Nat->Sw} (h:qgc p t st) (a0:0 <= a) (a1:a < p) (h2:2 <= p) (h6:p <= 6) (ht:t <= 300) (hpt:p <= t):((qbC ((st t.toNat).m a.toNat).tab).length:Int) = p:=by
 have hl:=(qlu h a0 a1 h2 h6 ht).2;rw [qbC,qmm (fun y hy=>(qoh h a0 a1 (y:=y) (by omega)).2.2 hpt) _ (jbj _)];exact hl
theorem qzO {d:List (List Value)} {j:Int} (h0:0 <= j) (h1:j < d.length):qd (qb d) j.toNat = (qc d j 0,qc d j 1):=qcz (qbH h0 h1)
theorem qua:qeg.ok Try.prog:=qur (by simp [ql2,qiM,qne,qiz,qhv,qnx]) fun Z hg hp=>by
 obtain ⟨⟨h1,h2,h3,h4,h5,h6,h7⟩,h8,h9⟩:=hp;simp (config:={ maxSteps:=4000000 }) [qok,qeg,qpM,qrn,qr2,qrc,qqq,qR,qcJ,qeh,qcQ,qd5,qgh,qcq,qb8];have hV:∀ i:Int,0 <= i->i < (Z 2).i->0 <= qc (Z 4).d i 3/\qc (Z 4).d i 3 < 18446744073709551616:=fun i i0 i1=>by
  have hrow:=jae (show i.toNat < (Z 4).d.length by omega);have e:qc (Z 4).d i 3 = qbO (Z 4).d[i.toNat] 3:=by rw [qc,qez hrow]; rfl
  rw [e]; exact h7 _ (jas hrow)
 intro u _;refine ⟨⟨by omega,by omega⟩,?_⟩;intro c1 _ c2 _ c3 _ c4 _ c5 _ c6 _ c7 _ c8 _ c9 _ c10 _ c11 _ c12 _ c13 _ c14 _ c15 _ hbad e1 e2 e3 e4 e5 e6 c16 _ hst1 c17 _ hst2;have hG:=qlB hbad;obtain ⟨p2,p6,pe,po⟩:=id hG;have hw:IntKind.i64.wrap (Z 12).i = (Z 12).i:=qQ (by omega) (by omega);rw [hw];refine ⟨⟨hG,by omega,qbu (Z 0).i.toNat,?_,qtZ (by omega)⟩,?_⟩
 ·rw [e1,e2,e3,e5,e6]; exact qnP (by omega) e4
 intro d1 _ d2 _ d3 _ d4 _ d5 _ d6 _ d7 _ d8 _ d9 _ d10 _ d11 _ d12 _ d13 _ d14 _ d15 _ d16 _ d17 _ d18 _ d19 _ _ i0 i1 s hs hc;have hn:d3.i = (Z 0).i:=by
  obtain ⟨n,hn,f1,_⟩:=hc;rw [hs.1,f1]; exact hn
 refine ⟨fun hlt=>⟨⟨⟨s,hs⟩,by omega,by omega,i0,by omega⟩,?_⟩,fun hge=>?_⟩
 ·intro k1 _ k2 _ k3 _ k4 _ hpost
  have hA:qi .add .i64 d18.i 1 = d18.i + 1:=qQ (by omega) (by omega);rw [hA];exact ⟨⟨hG,by omega,by omega,_,hpost s hs,qtn hc i0 hlt⟩,by omega⟩
 have hd:d18.i = (Z 0).i:=by omega
 rw [hd] at hc;refine ⟨⟨hG,by omega,_,qt5 hc p2 p6,hs⟩,?_⟩;intro g1 _ g2 _ g3 _ g4 _ g5 _ g6 _ g7 _ g8 _ g9 _ g10 _ g11 _ g12 _ g13 _ g14 _ g15 _ g16 _ g17 _ g18 _ g19 _ _ j0 j1 st htr hsw hlt;refine ⟨⟨⟨_,hsw,qgD htr.1 p2 p6 (by omega)⟩,h5,h6,h3,by omega,j0,by omega⟩,?_⟩;intro k1 _ k2 _ k3 _ k4 _ k5 _ k6 _ k7 _ hpost;obtain ⟨s',hR,hs'⟩:=hpost _ hsw (qgD htr.1 p2 p6 (by omega));obtain ⟨st',t1,t2⟩:=qus htr p2 p6 (by omega) h5 hR;refine ⟨⟨hG,j0,by omega,by omega,st',t1,by rw [t2]; exact hs'⟩,?_⟩;intro m1 _ m2 _ m3 _ m4 _ m5 _ m6 _ m7 _ m8 _ m9 _ m10 _ m11 _ m12 _ m13 _ m14 _ m15 _ m16 _ m17 _ m18 _ m19 _ m20 _ m21 _ m22 _ m23 _ m24 _ _ a0 a1 b0 b1 x hx hxs heq;have hA:qi .add .i64 m18.i 1 = m18.i + 1:=qQ (by omega) (by omega);refine ⟨fun hb=>?_,fun hb=>?_⟩
 ·have hrun:=qjg hx b0 hb
  obtain ⟨w1,w2⟩:=qlu hx b0 hb p2 p6 (by omega);have hlen:=qhN hx.1;have hm3:m3.i = (Z 0).i:=by rw [hxs.1,hlen]; omega
  have hm5:=hxs.2.1;refine ⟨b0,by omega,by omega,⟨_,qdw hxs b0 hrun,w1⟩,?_⟩;intro q1 _ q2 _ q3 _ q4 _ hpost2;obtain ⟨v1,v2⟩:=hpost2 _ (qdw hxs b0 hrun);have v3:(q4.d.length:Int) = (Z 0).i:=by rw [<- w2,<- v2,qad]
  refine ⟨⟨⟨hG,a0,a1,b0,b1,x,hx,hxs⟩,heq,hb,v1,v3,fun y hy=>?_⟩,?_⟩
  ·rw [v2]
   have:=qoh hx b0 hb (y:=y) (by omega);exact ⟨this.1,this.2.1⟩
  intro r1 _ r2 _ r3 _ r4 _ r5 _ r6 _ r7 _ r8 _ r9 _ r10 _ r11 _ r12 _ r13 _ r14 _ r15 _ r16 _ r17 _ r18 _ r19 _ r20 _ r21 _ r22 _ r23 _ r24 _ r25 _ _ A0 A1 B0 B1 y hy hys E1 E2 E3 C0 C1 D1 D2 D3;refine ⟨by omega,fun hz=>?_,fun hz=>?_⟩
  ·have hD:=D3 r25.i.toNat (by omega)
   rw [qzO C0 (by omega)] at hD;have hA2:qi .add .i64 r25.i 1 = r25.i + 1:=qQ (by omega) (by omega);refine ⟨C0,by omega,hD.2,fun _=>⟨hD.1,fun _=>?_⟩⟩;rw [hA2];exact ⟨⟨⟨hG,A0,A1,B0,B1,y,hy,hys⟩,E1,E2,E3,by omega,by omega,D1,D2,D3⟩,by omega⟩
  ·have hrun2:=qjg hy B0 E3
   obtain ⟨w3,w4⟩:=qlu hy B0 E3 p2 p6 (by omega);have hlen2:=qhN hy.1;have hm32:r3.i = (Z 0).i:=by rw [hys.1,hlen2]; omega
   have hm52:=hys.2.1;have hA2:qi .add .i64 r24.i 1 = r24.i + 1:=qQ (by omega) (by omega);rw [hA2];refine ⟨fun hb2=>?_,fun hb2=>?_⟩
   ·refine ⟨B0,by omega,by omega,⟨_,qdw hys B0 hrun2,w3⟩,?_⟩
    intro z1 _ z2 _ z3 _ z4 _ hpost3;obtain ⟨x1,x2,x3⟩:=hpost3 _ (qdw hys B0 hrun2);have x4:=quQ hy B0 E3 p2 p6 (by omega) (by omega);rw [<- x2,qV] at x4;refine ⟨by omega,by omega,fun _ z5 _ hst4=>?_⟩;have hle:=qaH 120 2 hst4 (by simp);simp at hle;exact ⟨⟨⟨hG,A0,A1,by omega,by omega,y,hy,qcr hys hle⟩,E1⟩,by omega⟩
   ·intro z5 _ hst4
    have hle:=qaH 120 2 hst4 (by simp);simp at hle;exact ⟨⟨⟨hG,A0,A1,by omega,by omega,y,hy,qcr hys hle⟩,E1⟩,by omega⟩
 ·rw [hA]
  exact ⟨⟨hG,by omega,by omega,x,hx,hxs⟩,by omega⟩
set_option maxHeartbeats 4000000
set_option pp.deepTerms true
set_option pp.maxSteps 1000000
theorem qti:qen.ok Try.prog:=qtW (by simp [ql2,qiM,qnr,qiz,qmc,qoA]) fun Z hg hp=>by
 obtain ⟨h1,h2,h3,h4,h5,h6,h7⟩:=hp;simp (config:={ maxSteps:=4000000 }) [qoK,qen,qio,qiL,qR,qcJ,qes,qcQ,qem,qF,qap,qcq,qb8,swR];have hV:∀ i:Int,0 <= i->i < (Z 2).i->0 <= qc (Z 4).d i 3/\qc (Z 4).d i 3 < 18446744073709551616:=fun i i0 i1=>by
  have hrow:=jae (show i.toNat < (Z 4).d.length by omega);have e:qc (Z 4).d i 3 = qbO (Z 4).d[i.toNat] 3:=by rw [qc,qez hrow]; rfl
  rw [e]; exact h7 _ (jas hrow)
 intro u _;refine ⟨⟨by omega,by omega⟩,?_⟩;intro c1 _ c2 _ c3 _ c4 _ c5 _ c6 _ c7 _ c8 _ c9 _ c10 _ c11 _ c12 _ c13 _ c14 _ c15 _ hbad e1 e2 e3 e4 e5 e6 c16 _ hst1 c17 _ hst2;have hG:=qlB hbad;obtain ⟨p2,p6,pe,po⟩:=id hG;refine ⟨⟨hG,by omega,qbu (Z 0).i.toNat,?_,qo6 _ (by omega)⟩,?_⟩
 ·rw [e1,e2,e3,e5,e6]; exact qnP (by omega) e4
 intro d1 _ d2 _ d3 _ d4 _ d5 _ d6 _ d7 _ d8 _ d9 _ _ i0 i1 s hs hev;refine ⟨by omega,fun hlt=>⟨i0,by omega,⟨⟨s,hs,qmO hev p2 p6 i0 (by omega)⟩,hV _ i0 hlt⟩,?_⟩,fun hge=>⟨⟨hG,by omega,_,qs4 hev p2 p6 i0 (by omega),hs⟩,?_⟩⟩
 ·intro f1 _ f2 _ f3 _ f4 _ f5 _ f6 _ f7 _ hpost
  obtain ⟨s',he,hs'⟩:=hpost s hs (qmO hev p2 p6 i0 (by omega));have hA:qi .add .i64 d9.i 1 = d9.i + 1:=qQ (by omega) (by omega);rw [hA];exact ⟨⟨hG,by omega,by omega,s',hs',qrq hev p2 p6 i0 (by omega) he⟩,by omega⟩
 intro g1 _ g2 _ g3 _ g4 _ g5 _ g6 _ g7 _ g8 _ g9 _ _ j0 j1 st htr hsw r _ hr;have hok:=qgD htr p2 p6 (by omega);refine ⟨fun hlt=>⟨⟨⟨_,hsw,hok⟩,h5,h6,h3,by omega,j0,by omega⟩,?_⟩,fun hge=>?_⟩
 ·intro k1 _ k2 _ k3 _ k4 _ k5 _ hpost
  obtain ⟨s',hR,hs'⟩:=hpost _ hsw hok;obtain ⟨st',t1,t2,t3⟩:=qi7 htr p2 p6 (by omega) h5 hR;have hA:qi .add .i64 g9.i 1 = g9.i + 1:=qQ (by omega) (by omega);rw [hA];exact ⟨⟨hG,by omega,by omega,st',t1,by rw [t2]; exact hs'⟩,by omega⟩
 ·exact ⟨_,qeZ hsw,qf5 hok,(qpn htr (by omega) (by omega)).1⟩
set_option maxHeartbeats 4000000
set_option pp.deepTerms true
set_option pp.maxSteps 1000000
theorem qrA:qd0.ok Try.prog:=qsk (by simp [ql2,qiM,qnr,qiz,qmc,qoA,qso,qtO]) fun Z hg hp=>by
 obtain ⟨h1,h2,h3,h4,h5,h6,h7⟩:=hp;simp (config:={ maxSteps:=4000000 }) [qmA,qd0,qoM,qoi,qoP,qio,qiL,qR,qcJ,qes,qcQ,qem,qF,qap,qcq,qfD,qgL,qb8,swR];have hV:∀ i:Int,0 <= i->i < (Z 2).i->0 <= qc (Z 4).d i 3/\qc (Z 4).d i 3 < 18446744073709551616:=fun i i0 i1=>by
  have hrow:=jae (show i.toNat < (Z 4).d.length by omega);have e:qc (Z 4).d i 3 = qbO (Z 4).d[i.toNat] 3:=by rw [qc,qez hrow]; rfl
  rw [e]; exact h7 _ (jas hrow)
 intro u _;refine ⟨⟨by omega,by omega⟩,?_⟩;intro c1 _ c2 _ c3 _ c4 _ c5 _ c6 _ c7 _ c8 _ c9 _ c10 _ c11 _ c12 _ c13 _ c14 _ c15 _ hbad e1 e2 e3 e4 e5 e6 c16 _ hst1 c17 _ hst2;have hG:=qlB hbad;obtain ⟨p2,p6,pe,po⟩:=id hG;refine ⟨⟨hG,by omega,qbu (Z 0).i.toNat,?_,qo6 _ (by omega)⟩,?_⟩
 ·rw [e1,e2,e3,e5,e6]; exact qnP (by omega) e4
 intro d1 _ d2 _ d3 _ d4 _ d5 _ d6 _ d7 _ d8 _ d9 _ d10 _ d11 _ d12 _ d13 _ d14 _ d15 _ d16 _ d17 _ d18 _ d19 _ _ i0 i1 s hs hev;refine ⟨by omega,fun hlt=>⟨i0,by omega,⟨⟨s,hs,qmO hev p2 p6 i0 (by omega)⟩,hV _ i0 hlt⟩,?_⟩,fun hge=>⟨⟨hG,by omega,_,qs4 hev p2 p6 i0 (by omega),hs⟩,?_⟩⟩
 ·intro f1 _ f2 _ f3 _ f4 _ f5 _ f6 _ f7 _ hpost
  obtain ⟨s',he,hs'⟩:=hpost s hs (qmO hev p2 p6 i0 (by omega));have hA:qi .add .i64 d18.i 1 = d18.i + 1:=qQ (by omega) (by omega);rw [hA];exact ⟨⟨hG,by omega,by omega,s',hs',qrq hev p2 p6 i0 (by omega) he⟩,by omega⟩
 intro g1 _ g2 _ g3 _ g4 _ g5 _ g6 _ g7 _ g8 _ g9 _ g10 _ g11 _ g12 _ g13 _ g14 _ g15 _ g16 _ g17 _ g18 _ g19 _ _ j0 j1 st htr hsw r _ hr;have hok:=qgD htr p2 p6 (by omega);refine ⟨fun hlt=>⟨⟨⟨_,hsw,hok⟩,h5,h6,h3,by omega,j0,by omega⟩,?_⟩,fun hge=>?_⟩
 ·intro k1 _ k2 _ k3 _ k4 _ k5 _ hpost
  obtain ⟨s',hR,hs'⟩:=hpost _ hsw hok;obtain ⟨st',t1,t2,t3⟩:=qi7 htr p2 p6 (by omega) h5 hR;have hA:qi .add .i64 g18.i 1 = g18.i + 1:=qQ (by omega) (by omega);rw [hA];exact ⟨⟨hG,by omega,by omega,st',t1,by rw [t2]; exact hs'⟩,by omega⟩
 ·refine ⟨⟨_,qeZ hsw,qf5 hok⟩,?_⟩
  intro a1 _ a2 _ a3 _ a4 _ a5 _ hl htab a6 _ hst3;have hR0:g18.i = 30 + 6 * (Z 0).i:=by omega
  rw [hR0] at htr hsw hok;have hT:=htab _ (qeZ hsw) (qf5 hok);rw [qhN htr] at hT;have hle3:=qaH 73 6 hst3 (by simp);simp at hle3;refine ⟨⟨hG,hl,st,htr,hsw,qkM hT hle3⟩,?_⟩;intro b1 _ b2 _ b3 _ b4 _ b5 _ b6 _ b7 _ b8 _ b9 _ b10 _ b11 _ b12 _ b13 _ b14 _ b15 _ b16 _ b17 _ b18 _ b19 _ b20 _ b21 _ b22 _ b23 _ b24 _ _ m0 m1 ml st2 htr2 hsw2 htb hlt;have hok2:=qgD htr2 p2 p6 (by omega);have hD:0 <= qi .add .u64 (Z 11).i 1/\qi .add .u64 (Z 11).i 1 < 18446744073709551616:=by
   by_cases hc:(Z 11).i + 1 < 18446744073709551616
   ·have:qi .add .u64 (Z 11).i 1 = (Z 11).i + 1:=qbB (by omega) hc
    omega
   ·rw [show (Z 11).i = 18446744073709551615 by omega]; decide
  refine ⟨⟨⟨_,hsw2,hok2⟩,hD.1,hD.2,h3,by omega,m0,by omega⟩,?_⟩;intro k1 _ k2 _ k3 _ k4 _ k5 _ k6 _ k7 _ hpost;obtain ⟨s',hR,hs'⟩:=hpost _ hsw2 hok2;obtain ⟨st3,t1,t2,t3⟩:=qi7 htr2 p2 p6 (by omega) hD.1 hR;have hok3:=qgD t1 p2 p6 (by omega);have hri:=qpn t1 (by omega) (by omega);have hln:=qhN t1;rw [t2] at hok3 hri hln;rw [t3 (30 + 6 * (Z 0).i).toNat (by omega)] at hri;refine ⟨⟨s',qeZ hs',qf5 hok3,hri.1⟩,⟨s',qeZ hs',qf5 hok3⟩,?_⟩;intro l1 _ l2 _ l3 _ l4 _ l5 _ hl2 htab2;have hT2:=htab2 s' (qeZ hs') (qf5 hok3);rw [hln] at hT2;have hsame:=hri.2 (Z 0).i.toNat (jbj _);have hN:=qo7 (qf5 hok3) (Z 0).i.toNat;rw [hsame] at hT2 hN;have hb1:=htb.1;refine ⟨⟨ml,hl2,by omega,_,htb,hT2,hN.2⟩,fun l6 _ hst4=>?_⟩;have hle4:=qaH 105 2 hst4 (by simp);simp at hle4;have hA:qi .add .i64 b18.i 1 = b18.i + 1:=qQ (by omega) (by omega);rw [hA,show 30 + 6 * (Z 0).i + (b18.i + 1) = 30 + 6 * (Z 0).i + b18.i + 1 by omega];exact ⟨⟨hG,by omega,by omega,ml,st3,t1,by rw [t2]; exact qcr hs' hle4,by rw [t3 (30 + 6 * (Z 0).i).toNat (by omega)]; exact htb⟩,by omega⟩
end Go.Proofs
