/- Texts NQ, RC, RA, OT, OP, OU, OV, RD, UA, CS, VA, VH, PL, QA, QB, RB, RE, UQ, UT, UP, VB, VC, VG. -/
import Derived.Test.YtlmkkphojjodhaaG5
import Derived.Test.YtlmkkphojjodhaaG1
import Derived.Test.YtlmkkphojjodhaaProg
set_option linter.unusedSimpArgs false
set_option linter.unusedVariables false
namespace Go.Proofs
open Go Go.Eng
set_option maxRecDepth 20000 in
set_option maxHeartbeats 4000000 in
theorem qvE:qeQ.ok Try.prog:=qvM (by simp [qgd,qqI,qzn,qpU,qq5,qrY,qi0]) fun Z hg hp=>by
 obtain ⟨⟨⟨a1,a2,a3,a4,a5,a6,a7,a8⟩,h2,h3,h4,h5⟩,h8,h9⟩:=hp;simp only [m0,qae,qu,qH] at a1 a2 a3 a4 a5 a6 a7 a8;simp [qrn,qeQ,qsN,qbV,qeq,qgV,qa0,qdk,qV,qgt,qft,qcE,qk,mOk,m0,qaP];generalize hM:qae (Z 1).i (Z 5).d (Z 8).d (Z 9).i (Z 10).i (Z 11).i (Z 13).i (Z 15).d (Z 16).i (Z 17).b = M;generalize hG:(⟨(Z 18).i,(Z 19).i,(Z 20).i,(Z 21).i,(Z 22).i,(Z 23).i⟩:Msg) = G;have hbig:(16:Int) <= big:=by decide
 have hbig2:(1000000:Int) <= big:=by decide
 have hM1:M.left = (Z 17).b:=by subst hM; rfl
 have hM2:M.self = (Z 1).i:=by subst hM; rfl
 have hM3:(M.tab.length:Int) = (Z 3).i:=by subst hM; simp only [qae,qu]; omega
 intro _ _;refine ⟨fun hL=>?_,fun hL=>⟨⟨by omega,h8,h9⟩,fun ub _ kb=>⟨fun hb=>?_,fun hb=>?_⟩⟩⟩
 ·have hE:qbE M G (qb (Z 27).d) = 30:=by rw [qbE,hM1,jah hL]
  exact ⟨hE.symm,by rw [qaY,hE]; simp,by rw [qab,hE]; simp,h3,h4⟩
 ·have hE:qbE M G (qb (Z 27).d) = 2:=by rw [qbE,hM1,jaf (by simp [hL]),hM2,hM3,<- kb,hb]; simp
  exact ⟨hE.symm,by rw [qaY,hE]; simp,by rw [qab,hE]; simp,h3,h4⟩
 rw [hb] at kb;have kb':=kb;have hE:qbE M G (qb (Z 27).d) = 0:=by rw [qbE,hM1,jaf (by simp [hL]),hM2,hM3,<- kb]; simp
 have hSM:qab M G (qb (Z 27).d) = qbl M G (qb (Z 27).d):=by rw [qab,jah hE]
 have hAn:qaY M G (qb (Z 27).d) = if qaL (Z 1).i G = false then [qbh (Z 1).i G] else []:=by rw [qaY,hE,hM2]; simp
 rw [hE,hSM,hAn];have hlt:((qb (Z 27).d).length:Int) = (Z 3).i:=by
  have:=kb'.symm; simp only [qec,jad,jav] at this; exact this.1.2
 rw [qu] at hlt;refine ⟨by omega,⟨by omega,fun j hj=>by omega,fun j hj=>by omega,fun hj=>by omega⟩,?_⟩;intro ux _ ui _ uy _ uT _ uS _ uc _ g0 g1 g2 g3 g4 g5 g6;have m4:qbr (qb (Z 5).d) (qbM (Z 1).i (qb (Z 5).d) (qb (Z 27).d)) (qb uT.d) ui.i:=g4;have m5:qbr (qf (Z 8).d) (qbc (Z 1).i (Z 9).i (qb (Z 5).d) (qf (Z 8).d) (qb (Z 27).d)) (qf uS.d) ui.i:=g5;constructor
 ·intro hi
  rw [qJ g0 hi h9];have hx:(qb uT.d)[ui.i.toNat]? = some (qc uT.d ui.i 0,qc uT.d ui.i 1):=qaw g0 (by omega);have hx':=(qiP m4 g0).symm.trans hx;have hy:(qb (Z 27).d)[ui.i.toNat]? = some (qc (Z 27).d ui.i 0,qc (Z 27).d ui.i 1):=qaw g0 (by omega);have hrt:=qk6 (self:=(Z 1).i) hx' hy;rw [jbl g0] at hrt;have hchal:ui.i ≠ (Z 1).i->uc.i = if (Z 1).i < ui.i + 1 then qb8 (Z 1).i (qb (Z 5).d) (qb (Z 27).d) (Z 16).i else (Z 16).i:=fun hne=>by
   rw [g6];by_cases hc:(Z 1).i < ui.i
   ·rw [jah hc,jah (by omega)]
   ·rw [jaf hc,jaf (by omega)]
  have step:∀ (z:Ent) (v1 v2:U),ui.i ≠ (Z 1).i->qcg (qc uT.d ui.i 0,qc uT.d ui.i 1) (qc (Z 27).d ui.i 0,qc (Z 27).d ui.i 1) = z->qb v1.d = qbx (qb uT.d) ui.i z->qf v2.d = qaE (qb uT.d) (qf uS.d) (Z 9).i ui.i z->qbr (qb (Z 5).d) (qbM (Z 1).i (qb (Z 5).d) (qb (Z 27).d)) (qb v1.d) (ui.i + 1)/\qbr (qf (Z 8).d) (qbc (Z 1).i (Z 9).i (qb (Z 5).d) (qf (Z 8).d) (qb (Z 27).d)) (qf v2.d) (ui.i + 1):=fun z v1 v2 hne hz k1 k2=>by
   rw [jaf hne,hz] at hrt;rw [k1,k2,qbx,<- hz];rw [<- hz] at hrt;exact ⟨qgM m4 g0 (by rw [qu]; omega) hrt,qhN m5 hx hx' hy g0 hne (by rw [qH]; omega) (by rw [qH]; omega)⟩
  refine ⟨g0,by omega,fun hne=>⟨by omega,by omega,fun hnw=>⟨⟨by omega,by omega,g0,by omega⟩,fun v1 _ v2 _ k1 k2 k3 k4=>?_⟩,fun hnw=>⟨⟨by omega,by omega,g0,by omega⟩,fun v1 _ v2 _ k1 k2 k3 k4=>?_⟩⟩,fun heq=>⟨by omega,by omega,fun hnw=>?_,fun hnw1 hnw2=>?_⟩⟩
  ·obtain ⟨s1,s2⟩:=step _ v1 v2 hne (by simp only [qcg,qby,hnw,ja9]) k1 k2
   exact ⟨⟨by omega,by omega,by omega,by omega,s1,s2,hchal hne⟩,by omega⟩
  ·obtain ⟨s1,s2⟩:=step _ v1 v2 hne (by simp only [qcg,qby,hnw]; simp) k1 k2
   exact ⟨⟨by omega,by omega,by omega,by omega,s1,s2,hchal hne⟩,by omega⟩
  all_goals
   have s1:=qce m4 g0 (by rw [hrt,jah heq,hx']);have s2:qbr (qf (Z 8).d) (qbc (Z 1).i (Z 9).i (qb (Z 5).d) (qf (Z 8).d) (qb (Z 27).d)) (qf uS.d) (ui.i + 1):=qce m5 g0 (by
    have hsg:(qf (Z 8).d)[ui.i.toNat]? = some _:=jae (by rw [qH]; omega);rw [qfE hx' hy hsg,jaf (fun h=>h.1 (by omega)),hsg])
   have e1:=qhf hx';have e2:=qhf hy;rw [show ui.i.toNat = (Z 1).i.toNat by omega] at e1 e2
  ·have hnw':qby (qc (Z 27).d ui.i 0,qc (Z 27).d ui.i 1) (qc uT.d ui.i 0,qc uT.d ui.i 1) = true:=by
    simp only [qby,qcy,jbu,jav,jad,jc7]; omega
   refine ⟨⟨by omega,by omega,g2,g3,s1,s2,?_⟩,by omega⟩;rw [jah (show (Z 1).i < ui.i + 1 by omega),g6,jaf (show ¬ (Z 1).i < ui.i by omega)];simp only [qb8,e1,e2,hnw',ja9];omega
  ·have hnw':qby (qc (Z 27).d ui.i 0,qc (Z 27).d ui.i 1) (qc uT.d ui.i 0,qc uT.d ui.i 1) = false:=by
    rw [Bool.eq_false_iff];simp only [qby,qcy,ne_eq,jbu,jav,jad,jc7]; omega
   refine ⟨⟨by omega,by omega,g2,g3,s1,s2,?_⟩,by omega⟩;rw [jah (show (Z 1).i < ui.i + 1 by omega),g6,jaf (show ¬ (Z 1).i < ui.i by omega)];simp [qb8,e1,e2,hnw']
 ·intro hge
  have hT:=qf6 m4 (by rw [qu]; omega) (by rw [qeZ,qu]; omega);have hS:=qf6 m5 (by rw [qH]; omega) (by rw [qfB,qH]; omega);have hC:uc.i = qb8 (Z 1).i (qb (Z 5).d) (qb (Z 27).d) (Z 16).i:=by rw [g6,jah (by omega)]
  have hRM:∀ (np:Int) (dP:List (List Value)),(qt dP).take np.toNat = (if qaL (Z 1).i G then ((qt (Z 15).d).take (Z 13).i.toNat).filter (fun p=>!(p.seq == G.seq)) else (qt (Z 15).d).take (Z 13).i.toNat)->qae (Z 1).i uT.d uS.d (Z 9).i (Z 10).i (Z 11).i np dP uc.i (Z 17).b = qbl M G (qb (Z 27).d):=fun np dP h=>by
   subst hM;unfold qae qbl;simp only [hT,hS,hC,h]
  have hTT:(qbl M G (qb (Z 27).d)).tab = qb uT.d:=by rw [hT]; subst hM; rfl
  have hst:∀ (g:Msg) (h:Hp) (d:List (List Value)),qbh (Z 1).i G = g->(∀ ms:List Msg,qC [qdZ g] ms->qX h ms (Z 1).i (qb uT.d) ms.length d)->∀ h',Hp.le h h'->qX h' [qbh (Z 1).i G] (Z 1).i (qbl M G (qb (Z 27).d)).tab 1 d:=fun g h d hg hs h' hl=>by
   rw [hg,hTT]; exact qaQ (hs [g] rfl) hl
  have hle:∀ {Z':Env} {l:List SH} {H h:Hp},qav Z' (SH.abs 149 2 :: l) H->(Z' 149).h = h->Hp.le h H:=fun hs he=>by
   obtain ⟨hb,lb,db⟩:=qaV hs (jac ..);subst he;exact Hp.le_trans (by simpa using db.1) lb
  have hok:((Z 3).i = uT.d.length/\2 <= (Z 3).i/\(Z 3).i <= 16/\0 <= (Z 1).i/\(Z 1).i < (Z 3).i/\0 <= (Z 11).i/\(Z 11).i < (Z 3).i):=⟨by omega,by omega,by omega,by omega,by omega,by omega,by omega⟩;intro uz _;refine ⟨fun k3=>⟨fun kt=>?_,fun kt=>?_⟩,fun k3=>⟨fun k2=>⟨fun ko=>?_,fun ko=>?_⟩,fun k2=>?_⟩⟩
  ·have hfm:qaL (Z 1).i G = false:=by subst hG; simp [qaL, *]
   intro _ _;refine ⟨⟨hok,by omega,[⟨1,0,(Z 23).i,(Z 21).i,(Z 19).i,0⟩],rfl⟩,fun uD _ uH _ ks uF _ kF=>⟨rfl,by rw [jah hfm],hRM _ _ ?_,hst ⟨1,0,(Z 23).i,(Z 21).i,(Z 19).i,0⟩ _ _ ?_ ks _ (hle kF ?_)⟩⟩
   ·subst hG; simp [qaL,k3]
   ·subst hG; simp [qbh,k3,kt]
   ·simp
  ·have hfm:qaL (Z 1).i G = false:=by subst hG; simp [qaL, *]
   intro _ _;refine ⟨⟨hok,by omega,[⟨2,0,(Z 19).i,(Z 21).i,(Z 19).i,0⟩],rfl⟩,fun uD _ uH _ ks uF _ kF=>⟨rfl,by rw [jah hfm],hRM _ _ ?_,hst ⟨2,0,(Z 19).i,(Z 21).i,(Z 19).i,0⟩ _ _ ?_ ks _ (hle kF ?_)⟩⟩
   ·subst hG; simp [qaL,k3]
   ·subst hG; simp [qbh,k3,kt]
   ·simp
  ·have hfm:qaL (Z 1).i G = true:=by subst hG; simp [qaL, *]
   refine ⟨⟨h4,h3,by omega⟩,fun un _ uP _ q1 q2 q3 q4=>⟨rfl,by rw [jaf (by simp [hfm])],hRM _ _ ?_,q1,q2,q3⟩⟩
   ·subst hG; simp only [qaL,k2,ko,q4]; simp [qi5]
  ·have hfm:qaL (Z 1).i G = false:=by subst hG; simp [qaL, *]
   intro _ _;refine ⟨⟨hok,by omega,[⟨2,0,(Z 22).i,(Z 21).i,(Z 22).i,0⟩],rfl⟩,fun uD _ uH _ ks uF _ kF=>⟨rfl,by rw [jah hfm],hRM _ _ ?_,hst ⟨2,0,(Z 22).i,(Z 21).i,(Z 22).i,0⟩ _ _ ?_ ks _ (hle kF ?_)⟩⟩
   ·subst hG; simp [qaL,ko]
   ·subst hG; simp [qbh,k2]
   ·simp
  ·have hfm:qaL (Z 1).i G = false:=by subst hG; simp [qaL, *]
   intro _ _;refine ⟨⟨hok,by omega,[⟨2,0,(Z 19).i,(Z 21).i,(Z 22).i,0⟩],rfl⟩,fun uD _ uH _ ks uF _ kF=>⟨rfl,by rw [jah hfm],hRM _ _ ?_,hst ⟨2,0,(Z 19).i,(Z 21).i,(Z 22).i,0⟩ _ _ ?_ ks _ (hle kF ?_)⟩⟩
   ·subst hG; simp [qaL,k2]
   ·subst hG; simp [qbh,k2,k3]
   ·simp
set_option maxRecDepth 20000 in
theorem qpD:qd3.ok Try.prog:=qqG (by simp [qqE,qvE]) fun Z hg hp=>by
 obtain ⟨h1,h2,h3⟩:=hp;have h0:(Z 13).i <= (Z 15).d.length:=h1.2.2.2.1;simp only [qrf,m0] at h1;simp [qkp,qd3,qlD,qlw,qeQ,qgL,qk,m0,qaP,qrf];generalize hM:qae (Z 1).i (Z 5).d (Z 8).d (Z 9).i (Z 10).i (Z 11).i (Z 13).i (Z 15).d (Z 16).i (Z 17).b = M at h1 ⊢;generalize hG:(⟨(Z 18).i,(Z 19).i,(Z 20).i,(Z 21).i,(Z 22).i,(Z 23).i⟩:Msg) = G;intro _ _;refine ⟨⟨h2,h3⟩,fun u1 _ u2 _ u3 _ hd=>?_⟩;rw [hd];refine ⟨⟨h1,h2,h3⟩,fun v1 _ v2 _ v3 _ v4 _ v5 _ v6 _ k1 k2 k3 k4 k5 k6=>⟨⟨by omega,by omega,k1,k2,k3,k4,k5,k6⟩,?_⟩,fun v1 _ v2 _ v3 _ v4 _ v5 _ v6 _ v7 _ k1 k2 k3 k4=>⟨⟨by omega,by omega,k1,k2,k3,k4⟩,?_⟩⟩
 ·intro ui _ ux _ ue _ uc _ un _ ut _ us _ up _ g0 g1 g2 g3 g4 g5 g6 g7 g8
  refine ⟨by omega,fun hi=>⟨g0,by omega,?_⟩,fun hi=>⟨g3,g4,g5,g6,g7,g8⟩⟩;rw [qJ g0 hi h3];exact ⟨⟨by omega,by omega,by rw [qaC]; exact g2,g3,g4,g5,g6,g7,g8⟩,by omega⟩
 ·intro _ _ ui _ _ _ ux _ _ _ _ _ _ _ uc _ ut _ us _ ud _ uh _ g0 g1 g2 g3 g4 g5 g6
  refine ⟨by omega,fun hi=>⟨g0,by omega,?_⟩,fun hi uF _ kF=>⟨g3,g4,g5,?_⟩⟩
  ·rw [qJ g0 hi h3]
   exact ⟨⟨by omega,by omega,by rw [qaC]; exact g2,g3,g4,g5,g6⟩,by omega⟩
  ·obtain ⟨hb,lb,db⟩:=qaV kF (jab _ (jab _ (jac ..)))
   have hl:Hp.le uh.h hb:=by simpa using db.1
   exact qaQ g6 (Hp.le_trans hl lb)
end Go.Proofs
namespace Go.Eng
open Go
abbrev qbm:=List (List Value)
def okM (dT dS dP:qbm) (np n most:Int):Prop:=(dT.length:Int) = n/\(dS.length:Int) = n/\0 <= np/\np <= dP.length/\np <= most
def HL (me n:Int) (t:List Ent) (dL:qbm) (nl:Int):Prop:=qf dL = qdQ (qjR me n 1 t).tab/\nl = dL.length/\nl <= n
def HI (me n draw i:Int) (t:List Ent) (m:Mach) (dT dS dP:qbm) (np:Int) (dL:qbm) (nl:Int):Prop :=
 0 <= i/\i <= 5/\okM dT dS dP np n i/\m = qmw draw i.toNat (qjR me n 1 t)/\HL me n t dL nl
def HM (me n draw i:Int) (t:List Ent) (m:Mach) (dT dS dP:qbm) (np:Int) (dL:qbm) (nl:Int) (nm:Int) (dM:qbm) (h:Hp) (nPr:Int) (dPr:qbm):Prop :=
 i = 4/\okM dT dS dP np n 5/\m = qmw draw 5 (qjR me n 1 t)/\HL me n t dL nl/\nm = dM.length/\qX h (qaO (qmw draw 4 (qjR me n 1 t)) draw) me m.tab (qaO (qmw draw 4 (qjR me n 1 t)) draw).length dM/\qt dPr = m.probes/\nPr = dPr.length
end Go.Eng
namespace Go.Proofs
open Go Go.Eng
@[simp] def qjo:T:=.drep (tv 1) (.rcons (.vint .u64 (tl 0)) (.rcons (tu (tl 0)) .rnil))
@[simp] def qof:T:=.cmp .lss (tv 0) (.dlen qjo)
def qtg:Out:=(.br (.cmp .lss (tv 1) (tl 2))
 (.ret 0 (sg 3 []))
 (.br (.cmp .gtr (tv 1) (tl 16))
 (.ret 0 (sg 3 []))
 (.br (.cmp .lss (tv 0) (tl 0))
 (.ret 0 (sg 3 []))
 (.br (.cmp .geq (tv 0) (tv 1))
 (.ret 0 (sg 3 []))
 (.br (.cmp .eql (tv 2) (tl 0))
 (.ret 0 (sg 3 []))
 (.both (tn (tl 0) (tv 1) (tn (.tims (tl 16) (tv 1)) (tl 281474976710656) (.fresh 3 (tb (tn (.tims (tl 8) (tv 1)) (tl 281474976710656) (.fresh 4 (tb (.fresh 5 (tn (tl 0) (tv 0) (ts (tv 0) (tv 1) (.need qof (.ret 1 (sg 3 [bt 11 .dnil,bt 7 (.drep (tv 1) (.rcons (.vint .u64 (tl 0)) .rnil)),bt 6 (.dput qjo (tv 0) 0 (.rcons (.vint .u64 (tv 2)) (.rcons (tu (tl 1)) .rnil))),bt 10 (tl 0),bt 9 (tl 0),(8,.nil),bg 5 4,bg 4 3,bg 3 5]))))))))))))) (tb (tn (tl 0) (tv 1) (tn (.tims (tl 8) (tv 1)) (tl 281474976710656) (.fresh 3 (tb (tn (.tims (tl 16) (tv 1)) (tl 281474976710656) (.fresh 4 (tb (.fresh 5 (tn (tl 0) (tv 0) (ts (tv 0) (tv 1) (.need qof (.ret 1 (sg 3 [bt 11 .dnil,bt 7 (.drep (tv 1) (.rcons (.vint .u64 (tl 0)) .rnil)),bt 6 (.dput qjo (tv 0) 0 (.rcons (.vint .u64 (tv 2)) (.rcons (tu (tl 1)) .rnil))),bt 10 (tl 0),bt 9 (tl 0),(8,.nil),bg 5 3,bg 4 4,bg 3 5]))))))))))))))))))))
theorem qxH:ql Try.prog qep [] [] qtg:=qe Try.func22 Try.call22 (by kernel_rfl)
def qoO:Out:=(.pre 0 (sg 0 [bv 4 4,bv 3 5,bv 2 4,bv 1 3,bg 0 2]) (tb (fr 18 3 (.post 0 0 (sg 0 [bv 4 4,bv 3 5,bv 2 4,bv 1 3,bg 0 2]) 18 (.ret 0 (sg 18 [bv 20 20,bv 19 19,bg 18 18]))))))
theorem quG:ql Try.prog qeC [qdX] [] qoO:=qe Try.func28 Try.call28 (by kernel_rfl)
theorem qrc:qep.ok Try.prog:=qxH (by simp) fun Z hg hp=>by
 have hrep:qb (List.replicate (Z 1).i.toNat [.int .u64 0,.int .u8 0]) = List.replicate (Z 1).i.toNat (0,0):=by simp [qb,qb3,qbk]
 have hrepi:qf (List.replicate (Z 1).i.toNat [.int .u64 0]) = List.replicate (Z 1).i.toNat 0:=by simp [qf,qb3,qbk]
 have htab:∀ h0:0 <= (Z 0).i,∀ h:(Z 0).i < (Z 1).i,qb (qL (List.replicate (Z 1).i.toNat [.int .u64 0,.int .u8 0]) (Z 0).i 0 [.int .u64 (Z 2).i,.int .u8 1]) = (List.replicate (Z 1).i.toNat (0,0)).set (Z 0).i.toNat ((Z 2).i,1):=fun h0 h=>by
  rw [qea h0 (by simp; omega),hrep,qbx]
 simp [qtg,qep,qa3,qc2,qae,qt,hrepi,qaC];refine ⟨fun h1=>by omega,fun h1=>⟨fun h2=>by omega,fun h2=>⟨fun h3=>by omega,fun h3=>⟨fun h4=>by omega,fun h4=>⟨fun h5=>by omega,fun h5=>⟨⟨by omega,by omega,by omega,by omega,by omega,by omega,⟨by omega,h5⟩,htab h3 h4,by omega⟩,by omega,by omega,by omega,by omega,by omega,by omega,⟨by omega,h5⟩,htab h3 h4,by omega⟩⟩⟩⟩⟩⟩
theorem qvq:qeC.ok Try.prog:=quG (by simp [qlU]) fun Z hg hp=>by
 obtain ⟨h1,h2,h3⟩:=hp;simp [qoO,qeC,qdX];exact ⟨h1,h2,h3⟩
def qiH:Out:=(.ret 0 (sg 18 []))
theorem qnt:ql Try.prog qc5 [] [] qiH:=qe Try.func50 Try.call50 (by kernel_rfl)
def qoP:Out:=(.ret 0 (sg 18 []))
theorem quQ:ql Try.prog qe9 [] [] qoP:=qe Try.func45 Try.call45 (by kernel_rfl)
def qpO:Out:=(.pre 0 (sg 0 [bv 4 4,bv 3 5,bv 2 4,bv 1 3,bg 0 2]) (tb (fr 18 4 (.post 0 0 (sg 0 [bv 4 4,bv 3 5,bv 2 4,bv 1 3,bg 0 2]) 18 (.ret 0 (sg 18 [bv 21 20,bv 20 19,bv 19 21,bg 18 18]))))))
theorem qwC:ql Try.prog qgj [qbB] [] qpO:=qe Try.func30 Try.call30 (by kernel_rfl)
def qnJ:Out:=(.br (.and (.cmp .eql (.dlen (tv 3)) (tl 0)) (.isnil 0))
 (.ret 0 (sg 5 [bt 8 .dnil,bt 7 (tl 0),bt 6 (tl 0),(5,.nil)]))
 (.fresh 5 (tn (tl 0) (tv 1) (tn (tv 1) (.dlen (tv 3)) (tn (.tims (tl 32) (tv 1)) (tl 140737488355328) (fr 6 2 (.ret 0 (sg 5 [bt 8 (.dtake (tv 3) (tv 1)),bv 7 7,bv 6 1,bg 5 6]))))))))
theorem qu3:ql Try.prog qgE [] [] qnJ:=qe Try.func69 Try.call69 (by kernel_rfl)
def qmf:Out:=(.pre 0 (sg 0 [bv 4 14,bv 3 15,bv 2 14,bv 1 13,bg 0 12]) (tb (fr 18 4 (.post 0 0 (sg 0 [bv 4 14,bv 3 15,bv 2 14,bv 1 13,bg 0 12]) 18 (.ret 0 (sg 18 [bv 21 21,bv 20 20,bv 19 19,bg 18 18]))))))
theorem qsh:ql Try.prog qek [qgE] [] qmf:=qe Try.func31 Try.call31 (by kernel_rfl)
@[simp] def qhj:Sg:=sg 0 [bv 17 17,bv 16 16,bv 12 12,bv 11 11,bv 10 10,bv 9 9,bv 7 7,bg 6 6,bv 4 4,bv 3 3,bg 2 2,bv 1 1,bg 0 0]
def qo1:Out:=(.pre 0 qhj (.both (.post 0 0 qhj 19 (.ret 0 (sg 19 [bv 20 5,bv 21 16,bt 19 (tl 30)]))) (tb (.post 0 1 qhj 19 (tn (tl 0) (tv 1) (ts (tv 1) (tv 3) (ts (tv 1) (.dlen (tv 5)) (.br (.cmp .leq (tv 18) (.icell (tv 5) (tv 1) 0))
 (.ret 0 (sg 19 [bv 20 5,bv 21 16,bt 19 (tl 2)]))
 (.br (.cmp .leq (tv 18) (tv 16))
 (.ret 0 (sg 19 [bv 20 5,bv 21 16,bt 19 (tl 2)]))
 (ts (tl 0) (.dlen (tv 5)) (tb (tb (tb (tb (.ret 0 (sg 19 [bt 20 (.dput (tv 5) (tv 1) 0 (.rcons (.vint .u64 (tv 18)) (.rcons (tu (tl 1)) .rnil))),bt 21 (tl 0),bt 19 (tl 0)]))))))))))))))))
theorem qum:ql Try.prog qeA [qbV] [] qo1:=qe Try.func43 Try.call43 (by kernel_rfl)
@[simp] def qhi:Sg:=sg 0 [bv 17 17,bv 16 16,bv 12 12,bv 11 11,bv 10 10,bv 9 9,bv 7 7,bg 6 6,bv 4 4,bv 3 3,bg 2 2,bv 1 1,bg 0 0]
@[simp] def qk2:Sg:=sg 0 [bv 5 31,bt 17 (.bl true),bv 16 16,bv 12 12,bv 11 11,bv 10 10,bv 9 9,bv 7 7,bg 6 6,bv 4 4,bv 3 3,bg 2 2,bv 1 1,bv 21 30,bv 20 29,bv 19 28,bg 18 27,bg 0 0]
def qow:Out:=(.pre 0 qhi (.both (.post 0 0 qhi 18 (.ret 0 (sg 18 []))) (tb (.post 0 1 qhi 18 (tn (tl 0) (tv 1) (ts (tv 1) (tv 3) (ts (tl 0) (.dlen (tv 5)) (tb (ts (tv 1) (.dlen (tv 5)) (tb (tb (tb (.pre 1 (sg 0 [bv 4 4,bt 3 (.dput (tv 5) (tv 1) 1 (.rcons (tu (tl 4)) .rnil)),bv 2 4,bv 1 3,bg 0 2]) (tb (fr 18 4 (.post 1 0 (sg 0 [bv 4 4,bt 3 (.dput (tv 5) (tv 1) 1 (.rcons (tu (tl 4)) .rnil)),bv 2 4,bv 1 3,bg 0 2]) 18 (tn (tl 0) (tv 21) (.inv 0 22 (sg 1000 [bt 1008 .dnil,bv 1004 20,bt 1009 (.dput (tv 5) (tv 1) 1 (.rcons (tu (tl 4)) .rnil)),bt 1000 (tl 0),bv 1003 19,bv 1002 21,bg 1001 18,bt 1007 (tl 0),bt 1006 (tl 0),(1005,.nil)]) (fr 22 10 (.hyp 0 22 (.br (.cmp .lss (tv 22) (tv 24))
 (tn (tl 0) (tv 22) (ts (tv 22) (.dlen (tv 26)) (.fresh 32 (.need (.cmp .eql (tv 28) (.dlen (tv 30))) (tn (.tims (tl 352) (.plus (tv 28) (tl 1))) (tl 140737488355328) (fr 33 2 (.back 0 22 (sg 1000 [bt 1008 (.dapp (tv 30) (.rcons (tu (tl 2)) (.rcons (ti (tl 0)) (.rcons (ti (.icell (tv 26) (tv 22) 0)) (.rcons (.vint .u64 (tl 0)) (.rcons (ti (.icell (tv 26) (tv 22) 0)) (.rcons (ti (tl 0)) (.rcons .vnils (.rcons .vnils (.rcons .vnils (.rcons (ti (tl 0)) (rr 32 (tu (tl 0)) (.rcons .vnils (.rcons (.vbool (.bl false)) (rr 32 (tu (tl 0)) (rr 4 (ti (tl 0)) (rr 32 (tu (tl 0)) (.rcons .vnils (.rcons (ti (tl 0)) (.rcons .vnils (.rcons (ti (tl 0)) .rnil))))))))))))))))))))),bv 1004 26,bv 1009 31,bt 1000 (.arith .add .i64 (tv 22) (tl 1)),bv 1003 25,bv 1002 24,bg 1001 23,bv 1007 34,bt 1006 (.plus (tv 28) (tl 1)),bg 1005 33]))))))))
 (.pre 2 qk2 (tb (fr 32 2 (.post 2 0 qk2 32 (.pack [.abs 33 2,.arr 23 3 [CK.int .i64] (tv 26) (tv 25)] 34 (.ret 1 (sg 18 [bg 23 34,bv 22 32,bv 21 31,bv 20 29,bv 19 28,bg 18 27]))))))))))))))))))))))))))))
theorem qu5:ql Try.prog qeW [qbV,qbB,qcE] [qqW] qow:=qe Try.func44 Try.call44 (by kernel_rfl)
theorem qn1:qc5.ok Try.prog:=qnt (by simp) fun Z hg hp=>by
 simp [qiH,qc5]
theorem quH:qe9.ok Try.prog:=quQ (by simp) fun Z hg hp=>by
 simp [qoP,qe9]
theorem qwL:qgj.ok Try.prog:=qwC (by simp [qjW]) fun Z hg hp=>by
 obtain ⟨h1,h2⟩:=hp;simp [qpO,qgj,qbB];exact ⟨h1,h2⟩
theorem quu:qgE.ok Try.prog:=qu3 (by simp) fun Z hg hp=>by
 obtain ⟨h1,h2,h3⟩:=hp;simp [qnJ,qgE];refine ⟨fun h=>?_,fun _=>⟨h1,h2,by omega,by omega⟩⟩;rw [h] at h2 ⊢;simp at h2 ⊢;omega
theorem qrX:qek.ok Try.prog:=qsh (by simp [quu]) fun Z hg hp=>by
 obtain ⟨h1,h2,h3⟩:=hp;simp [qmf,qek,qgE];exact ⟨h1,h2,h3⟩
theorem qtK:qeA.ok Try.prog:=qum (by simp [qgd]) fun Z hg hp=>by
 obtain ⟨h1,h2,h3⟩:=hp;have hst:=qdB (d:=(Z 5).d) h2 (by omega);have hput:=qea (d:=(Z 5).d) (x:=(Z 18).i) (y:=1) h2 (by omega);simp [qo1,qeA,qbV,m1,qae,qaM,qbY,hst,hput,qaC,qbx];refine ⟨fun hL=>by simp [hL],fun hL=>⟨h2,h3,by omega,fun k=>by simp [hL,k],fun k=>⟨fun k'=>by simp [hL,k'],fun k'=>⟨by omega,?_⟩⟩⟩⟩;simp [hL,jcx.2 k,jcx.2 k']
set_option maxRecDepth 20000 in
theorem qtx:qeW.ok Try.prog:=qu5 (by simp [qgd,qjW,qi0]) fun Z hg hp=>by
 obtain ⟨⟨h1,h2,h3,h4,h5,h6,h7⟩,h8⟩:=hp;have hst:=qdB (d:=(Z 5).d) h4 (by omega);rw [hst] at h8;have hput:=qpP (d:=(Z 5).d) (y:=4) h4 (by omega) h8;simp [qow,qeW,qqW,qbV,qbB,qcE,qU,mOk,hst,hput,qaC,qk];generalize hT:(qb (Z 5).d).set (Z 1).i.toNat (qc (Z 5).d (Z 1).i 0,4) = T;have hb16:(16:Int) <= big:=by decide
 intro hL;refine ⟨h4,h5,by omega,by omega,⟨h1,by omega⟩,fun _ _ _ _ u2 _ u3 _ k1 k2 k3=>⟨by omega,⟨by omega,k2,k3,k1,rfl⟩,?_⟩⟩;intro ui _ _ _ un _ _ _ uL _ _ _ um _ _ _ uM _ uT _ g0 g1 g2 g3 g4 g5 g6 g7 g8 g9;constructor
 ·intro hi
  have hc:=qaW (d:=uL.d) g0 (by omega);rw [g6] at hc;rw [qJ g0 hi (by omega)];have hq:=qd1 (m:=qg9 (qc uL.d ui.i 0)) g9;rw [<- qa2 (by rw [jaq,hc]; rfl),<- qA g0] at hq;exact ⟨g0,by omega,g7,by omega,⟨by omega,by omega,g2,g3,g4,g5,g6,g7,by omega,hq⟩,by omega⟩
 ·intro hi
  have hlen:=congrArg List.length g6;rw [qH] at hlen;rw [jap (by rw [ja3]; omega)] at g9;refine ⟨⟨⟨by omega,h2,h3,h4,h5,h6,h7⟩,g7,by omega,⟨_,g9⟩⟩,fun uD _ uH _ ks uF _ kF=>⟨hL,g4,g5,?_,?_⟩⟩
  ·have:=qbG (ks _ g9)
   have:=qom g9;omega
  ·obtain ⟨hb,lb,db⟩:=qjy kF (n:=33) (t:=2) (by simp)
   have:=qaQ (ks _ g9) (Hp.le_trans (by simpa using db) lb);rw [g4] at this;exact this
end Go.Proofs
namespace Go.Eng
open Go
def kOp:List CK:=[.int .i64,.int .u64] ++ qb0
def qlL (h:Hp) (d:qbm):Prop:=∀ row ∈ d,(∃ t,Rd h qp (row[8]?.getD .nilFunc) t/\(t.length:Int) <= big)/\0 <= qb3 row 1/\qb3 row 1 < 18446744073709551616
def qkZ (r l c:Nat):SV:=.one (.vslice r (.lit 0) (.var l) (.var c) 118)
def sRo (r d k:Nat):SH:=.arr r 87 kOp (.var d) (.var k)
def qcH:Ctr:={ fn:=42,nv:=5,args:=[qkZ 0 1 2],heap:=[],ro:=[sRo 0 3 2,.abs 4 2],pre:=fun Z=>(Z 1).i = (Z 3).d.length/\(Z 1).i <= big/\qlL (Z 4).h (Z 3).d,alts:=[{ k:=1,ret:=qdF 5,heap:=[],post:=fun Z=>(Z 5).b = false->(Z 1).i <= 150 }] }
def qqk:Inv:={ key:=4,nv:=1,env:=[(0,qkZ 0 1 2),(3,iv .i64 (.var 1000))],heap:=[],inv:=(fun Z=>0 <= (Z 1000).i/\(Z 1000).i <= (Z 1).i/\(Z 1).i <= 150),mu:=(fun Z=>((Z 1).i - (Z 1000).i).toNat) }
def qzL (b:Nat) (self n:T):List SH:=[qti b (b + 1) (b + 2) (b + 3) self n n (.var (b + 4)) (.var (b + 5)) (.var (b + 6)) (.var (b + 7)) (.var (b + 8)) (.var (b + 9)) (.var (b + 13)),.arr (b + 1) 25 qp (.var (b + 10)) n,.arr (b + 2) 22 [.int .u64] (.var (b + 11)) n,.arr (b + 3) 63 qb1 (.var (b + 12)) (.var (b + 8))]
def lMG (Z:Env) (b:Nat) (self:Int):Mach:=qae self (Z (b + 10)).d (Z (b + 11)).d (Z (b + 4)).i (Z (b + 5)).i (Z (b + 6)).i (Z (b + 7)).i (Z (b + 12)).d (Z (b + 9)).i (Z (b + 13)).b
def GW (m:Mach):Prop:=qf7 m/\(∀ p ∈ m.probes,p.target ≠ m.self)/\∃ x,m.tab[m.self.toNat]? = some x/\1 <= x.2/\x.2 <= 4
def GM (n i:Int) (m:Mach) (dT dS dP:qbm) (np:Int):Prop:=okM dT dS dP np n i/\GW m
def qm0 (me kind:Int) (a b:List Ent):Prop:=∀ (j:Nat) (x y:Ent),a[j]? = some x->b[j]? = some y->qby x y = false/\((j:Int) = me->kind <= 2->y = x)
def q0z (n k i:Int) (m:Mach) (dT dS dP:qbm) (np:Int) (dB:qbm):Prop :=
 0 <= i/\i <= k/\k <= 150/\GM n i m dT dS dP np/\(dB.length:Int) = n/\qb dB = qb dT
def qnz (me n k i0 i j:Int) (m:Mach) (dT dS dP:qbm) (np:Int) (dB box dN:qbm):Prop :=
 0 <= i/\i < k/\k <= 150/\GM n (i + 1) m dT dS dP np/\(dB.length:Int) = n/\(dN.length:Int) = n/\qb dN = qb dT/\qm0 me (qc box 0 0) (qb dB) (qb dN)/\box.length = 1/\0 <= j/\j <= n/\i = i0
end Go.Eng
namespace Go.Proofs.Ytlmkkphojjodhaa
open Go Go.Eng Go.Proofs Go.ChangeShapes Go.WideShapes Go.ChangeAt Go.RowKit
noncomputable def qwS:Array Field:=match Try.prog.underlying 87 with | some (.struct fs)=>fs | _=>#[]
theorem qtq:Try.prog.underlying 87 = some (.struct qwS):=by kernel_rfl
theorem qz8:(qwS[1]?).map (fun f=>(f.type,f.offset)) = some (22,1):=by kernel_rfl
theorem qzR:(qwS[2]?).map (fun f=>(f.type,f.offset)) = some (43,2):=by kernel_rfl
theorem qyu:qik Try.prog 7 87 = some kOp:=by kernel_rfl
theorem qzc:Try.prog.cellsOf 87 = kOp.length:=by kernel_rfl
theorem qzl:Try.prog.cellsOf 22 = 1:=by kernel_rfl
theorem qzi:16 <= Try.prog.bytesOf 87:=ja1 (by kernel_rfl)
theorem qzu:Try.prog.readableRec 84 = true/\84 < Try.prog.types.size:=⟨by kernel_rfl,ja1 (by kernel_rfl)⟩
section
variable {H:Type} {enc:TypeId × Value->H} {W:World} {base b:Nat} {sp:Nat->Bool}
theorem qh8 {e:TypeId}:∀ {elems:List (DataW H)} {d:DataW H},d ∈ elems->∀ n ∈ d.weights Try.prog e,n ∈ DataW.weightsAll Try.prog e elems
 | x :: l,d,hd,n,hn=>by
  simp only [DataW.weightsAll,ja4];rcases jba.1 hd with rfl | hd
  ·exact .inl hn
  ·exact .inr (qh8 hd n hn)
theorem qiv {t u:TypeId} {fs:Array Field} {cs:List Value} {fuel:Nat} {x:DataW H × List MemPlace} {k off:Nat} (ht:Try.prog.underlying t = some (.struct fs)) (h:DataW.trod enc Try.prog W base sp true fuel t cs = some x)
  (hk:(fs[k]?).map (fun f=>(f.type,f.offset)) = some (u,off)):∃ m y,DataW.trod enc Try.prog W base sp true m u ((cs.drop off).take (Try.prog.cellsOf u)) = some y/\∀ n ∈ y.1.weights Try.prog u,n ∈ x.1.weights Try.prog t:=by
 obtain ⟨xs,n,_,hx,_,hxl,hall⟩:=DataW.trod_struct ht h;obtain ⟨f,hf,hf'⟩:=jag.1 hk;simp only [jak] at hf';have h1:=hall k f hf;rw [hf'.1,hf'.2] at h1;have hlt:k < xs.length:=by rw [hxl]; exact (jcv.1 hf).1
 rw [jae hlt] at h1;refine ⟨n,_,h1,fun m hm=>?_⟩;rw [hx];simp only [DataW.weights,ht];exact DataW.weights_mem_each (j:=k) (by rw [jaq,Array.getElem?_toList,hf,ja5,hf'.1]) (by simp [hlt]) m hm
set_option maxRecDepth 100000 in
theorem qrM {v:Value} {fuel:Nat} {x:DataW H × List MemPlace} (hsp:∀ b,sp b = true) (h:DataW.trod enc Try.prog W base sp true fuel 31 [v] = some x) (hsz:∀ n ∈ x.1.weights Try.prog 31,n <= reachBytes) :
  ∃ t,Rd (fun b=>W.heap[b]?) qp v t/\(t.length:Int) <= big:=by
 obtain ⟨rows,hr,_,hd⟩:=qor (ps:=x.2) (d:=x.1) Try.underlying31 q0k qzp (by decide) hsp h;refine ⟨rows,hr,?_⟩;rcases hd with ⟨_,h0⟩ | ⟨elems,sp',h3,h4,_⟩
 ·rw [h0]; decide
 ·have:=hsz ((elems.length + sp'.length) * Try.prog.bytesOf 25) (by rw [h3]; simp only [DataW.weights,Try.underlying31]; exact jac ..)
  rw [qzj] at this;have hrb:reachBytes = 140737488351232:=by decide
  rw [hrb] at this;unfold big; omega
set_option maxRecDepth 100000 in
theorem qrw {v:Value} {d:DataW H} {p:List MemPlace} {ts:List TypeId} {ds:List (DataW H)} {j:Nat} (hsp:∀ b,sp b = true)
  (hv:Value.okWide Try.prog W .any b 84 v) (h:DataW.Trod enc Try.prog W base sp true 84 v d p) (hsz:(DataW.weightsEach Try.prog ts ds).all (· <= reachBytes) = true) (hts:ts[j]? = some 84) (hds:ds[j]? = some d) :
  ∃ (r:Option Addr) (rows:List (List Value)) (cap:Nat),v = .slice (qg r 0) rows.length cap/\(rows.length:Int) <= big/\qlL (fun b=>W.heap[b]?) rows /\
   (rows = []∨∃ b o c ty fr,r = some ⟨b,o,none⟩/\W.heap[b]? = some (.cells c ty fr)/\qa8 c o kOp rows):=by
 obtain ⟨h1,_⟩:=Go.Eng.okWide_slice Try.underlying84 hv;obtain ⟨fuel,hf⟩:=h;rw [h1] at hf;obtain ⟨rows,hr,hrow,hd⟩:=qor Try.underlying84 qyu qzc (by decide) hsp hf;have hrb:reachBytes = 140737488351232:=by decide
 have hall:∀ n ∈ d.weights Try.prog 84,n <= reachBytes:=fun n hn=>by
  rw [jam] at hsz;exact ja1 (hsz n (DataW.weights_mem_each hts hds n hn))
 have hb:(rows.length:Int) <= big:=by
  rcases hd with ⟨_,h0⟩ | ⟨elems,sp',h3,h4,_⟩
  ·rw [h0]; decide
  ·have:=hall ((elems.length + sp'.length) * Try.prog.bytesOf 87) (by rw [h3]; simp only [DataW.weights,Try.underlying84]; exact jac ..)
   have hm:elems.length * 16 <= (elems.length + sp'.length) * Try.prog.bytesOf 87:=Nat.mul_le_mul (by omega) qzi;rw [hrb] at this;unfold big; omega
 have hops:qlL (fun b=>W.heap[b]?) rows:=fun row hrm=>by
  obtain ⟨i,hi⟩:=jbp hrm;rcases hd with ⟨_,h0⟩ | ⟨elems,sp',h3,h4,h5⟩
  ·rw [h0] at hrm; cases hrm
  ·obtain ⟨f,x,hx,hex⟩:=h5 i row hi
   have hw:∀ n ∈ x.1.weights Try.prog 87,n <= reachBytes:=fun n hn=>hall n (by
    rw [h3]; simp only [DataW.weights,Try.underlying84];exact jab _ (jbd _ (qh8 (jar hex) n hn)))
   obtain ⟨m1,y1,g1,_⟩:=qiv qtq hx qz8;obtain ⟨m2,y2,g2,w2⟩:=qiv qtq hx qzR;obtain ⟨m3,y3,g3,w3⟩:=qiv qyO g2 qzt;have hl:row.length = 118:=by
    have:=(qgN 7 qyu row ⟨f,x,hx⟩).1;rw [this]; rfl
   have e1:(row.drop 1).take (Try.prog.cellsOf 22) = [row[1]?.getD .nilFunc]:=by
    rw [qzl,jae (by omega),jbc];rw [jbq (by omega),List.take_succ_cons,List.take_zero]
   have e3:((((row.drop 2).take (Try.prog.cellsOf 43)).drop 6).take (Try.prog.cellsOf 31)) = [row[8]?.getD .nilFunc]:=by
    rw [qyU,qyZ,jae (by omega),jbc,List.drop_take,jdy,jcy];rw [jbq (by omega)];rfl
   rw [e1] at g1;rw [e3] at g3;obtain ⟨t,ht,htb⟩:=qrM hsp g3 fun n hn=>hw n (w2 n (w3 n hn))
   refine ⟨⟨t,ht,htb⟩,?_⟩;obtain ⟨z,hz,_,hwf⟩:=DataW.trod_int Try.underlying22 g1;have e:qb3 row 1 = z:=by
    have:=(List.cons.inj hz).1;rw [qb3,this]; rfl
   rw [e];have u1:IntKind.u64.min = 0:=rfl;have u2:IntKind.u64.max = 18446744073709551615:=rfl;simp [Lit.wf,IntKind.wrap,IntKind.bits,IntKind.signed] at hwf;omega
 rcases hr with ⟨r,e1,e2⟩ | ⟨b,o,cap,c,ty,fr,e1,_,e3,e4⟩
 ·exact ⟨r,rows,0,by rw [e1,e2,qhh]; rfl,hb,hops,.inl e2⟩
 ·exact ⟨some ⟨b,o,none⟩,rows,cap,by rw [e1]; rfl,hb,hops,.inr ⟨b,o,c,ty,fr,rfl,e3,e4⟩⟩
theorem qxg {rows:List (List Value)} {r:Option Addr} (h:rows = []∨∃ b o c ty fr,r = some ⟨b,o,none⟩/\W.heap[b]? = some (.cells c ty fr)/\qa8 c o kOp rows):({ d:=rows }:U).good:=by
 refine ⟨rfl,?_⟩;rcases h with h | ⟨_,_,_,_,_,_,_,h⟩
 ·simp only; rw [h]; simp
 ·exact qhk h
end
end Go.Proofs.Ytlmkkphojjodhaa
namespace Go.Eng
open Go
def rTm (s t c l p si pr d g:T):List T:=[.vint .i64 s,t,.vint .u64 c,.vint .u64 l,.vint .i64 p,si,pr,.vint .u64 d,.vbool g,.vbool (.bl false)]
def rT (b:Nat):List T:=rTm (.var b) (.var (b + 1)) (.var (b + 2)) (.var (b + 3)) (.var (b + 4)) (.var (b + 5)) (.var (b + 6)) (.var (b + 7)) (.var (b + 8))
def qvG (d i:T):CK->Nat->T
 | .int k,c=>.vint k (.icell d i c)
 | .bool,c=>.vbool (.bcell d i c)
 | _,c=>.vcell d i c
def qa6 (d i:T) (a b:Nat):List T:=(List.range (b - a)).map fun k=>qvG d i (qb0.getD (a + k) .any) (a + k)
def rcs:List T->T->T
 | [],t=>t
 | x :: l,t=>.rcons x (rcs l t)
def rIs (h:Hp) (vT vS vP:Value) (t:List Ent) (s:List Int) (p:List Prb):Prop:=∃ dT dS dP,Rd h qp vT dT/\Rd h [.int .u64] vS dS/\Rd h qb1 vP dP/\qb dT = t/\qf dS = s/\qt dP = p
def rB (Z:Env) (b h:Nat) (m:Mach):Prop:=(Z b).i = m.self/\(Z (b + 2)).i = m.clock/\(Z (b + 3)).i = m.seq/\(Z (b + 4)).i = m.pinged/\(Z (b + 7)).i = m.chal/\(Z (b + 8)).b = m.left/\rIs (Z h).h (Z (b + 1)).v (Z (b + 5)).v (Z (b + 6)).v m.tab m.since m.probes
def rWf (m:Mach):Prop:=qf7 m/\m.probes.length <= 1000000
def rMs (r l c:Nat):SV:=.one (.vslice r (.lit 0) (.var l) (.var c) 116)
def qbO (r d c:Nat):SH:=.arr r 43 qb0 (.var d) (.var c)
def qgS:Ctr:={ fn:=75,nv:=13,ow:=[1003],ip:=[(1001,9)],args:=[.agg (rT 0),iv .i64 (.var 9),mem 10 11],heap:=[.abs 12 4],ro:=[],pre:=fun Z=>∃ m,rB Z 0 12 m/\m.since.length = m.tab.length/\m.tab.length <= 16/\0 <= (Z 9).i/\(Z 9).i < m.tab.length,alts:=[
 { k:=3,ret:=.agg (rTm (.var 0) (.var 13) (.var 2) (.var 3) (.var 4) (.var 14) (.var 6) (.var 7) (.var 8)),heap:=[.abs 15 4],post:=fun Z=>∀ m,rB Z 0 12 m->rIs (Z 15).h (Z 13).v (Z 14).v (Z 6).v (qbx m.tab (Z 9).i ((Z 10).i,(Z 11).i)) (qaE m.tab m.since m.clock (Z 9).i ((Z 10).i,(Z 11).i)) m.probes }] }
def qf5 (h:Hp) (v:Value) (t:List Ent):Prop:=∃ d,Rd h qp v d/\qb d = t
def qdz:Ctr:={ fn:=77,nv:=15,ow:=[1003],ip:=[(1001,9)],args:=[.agg (rT 0),rMs 9 10 11],heap:=[.abs 12 4],ro:=[qbO 9 13 14],pre:=fun Z=>(∃ t,qf5 (Z 12).h (Z 1).v t/\t.length <= 16)/\(Z 10).i = (Z 13).d.length/\(Z 10).i <= 10000000/\∃ ms,qC (Z 13).d ms,alts:=[
 { k:=5,ret:=rMs 15 16 17,heap:=[qbO 15 18 17,.abs 19 4],post:=fun Z=>Hp.le (Z 12).h (Z 19).h/\∀ t ms,qf5 (Z 12).h (Z 1).v t->qC (Z 13).d ms->(Z 16).i = (Z 18).d.length/\qX (Z 19).h ms (Z 0).i t ms.length (Z 18).d }] }
def qcA (r:Nat) (cs:List T):SH:=.cells r 102 cs
def qkf:List T:=rTm (.lit 0) .vnils (.lit 0) (.lit 0) (.lit 0) .vnils .vnils (.lit 0) (.bl false)
def qcf (r:Nat):SV:=.one (.vptr r (.lit 0) 10 0)
def qst:Inv:={ key:=3,nv:=7,env:=[(1,rMs 9 10 11),(2,qcf 1000),(5,rMs 1001 1002 1003),(6,iv .i64 (.var 1005))],heap:=[qcA 1000 (rT 0),qbO 1001 1004 1003,.abs 1006 4],inv:=(fun Z=>0 <= (Z 1005).i/\(Z 1005).i <= (Z 10).i/\(Z 1002).i = (Z 1004).d.length/\(Z 1002).i = (Z 1005).i/\Hp.le (Z 12).h (Z 1006).h/\∀ t ms,qf5 (Z 12).h (Z 1).v t->qC (Z 13).d ms->qX (Z 1006).h (ms.take (Z 1005).i.toNat) (Z 0).i t (Z 1005).i.toNat (Z 1004).d),mu:=(fun Z=>((Z 10).i - (Z 1005).i).toNat) }
def qjp:Ctr:={ fn:=76,nv:=15,ow:=[1003],ip:=[(1001,9)],args:=[.agg (rT 0),.agg (qeK 9),iv .u64 (.var 13)],heap:=[],ro:=[.abs 14 4],pre:=fun Z=>(∃ m,rB Z 0 14 m/\m.tab.length <= 16)/\0 <= (Z 13).i/\(Z 13).i < 18446744073709551616,alts:=[
 { k:=4,ret:=rMs 15 16 17,heap:=[qbO 15 18 17],post:=fun Z=>∀ m,rB Z 0 14 m->(Z 16).i = (Z 18).d.length/\(Z 16).i <= 2/\qC (Z 18).d (qgx m.tab m.self (Z 9).i (Z 10).i (Z 13).i) }] }
def qvF:Inv:={ key:=4,nv:=11,env:=[(2,iv .u64 (.var 13)),(3,qcf 1000),(4,.one (.vptr 1001 (.lit 0) 4 0)),(7,qfH 1002 1003 1004),(8,qfH 1006 1007 1008),(9,iv .i64 (.var 1010))],heap:=[qcA 1000 (rT 0),.cells 1001 63 (qeK 9),iRo 1002 1005 1004,iRo 1006 1009 1008],inv:=(fun Z=>0 <= (Z 1010).i/\(Z 1010).i <= (Z 1007).i/\(Z 1007).i = (Z 1009).d.length/\(Z 1003).i = (Z 1005).d.length/\(Z 1003).i <= (Z 1010).i/\(∀ m,rB Z 0 14 m->qf (Z 1009).d = qdQ m.tab)/\(Z 1007).i <= 16/\qf (Z 1005).d = ((qf (Z 1009).d).take (Z 1010).i.toNat).filter fun i=>!(i == (Z 0).i || i == (Z 10).i)),mu:=(fun Z=>((Z 1007).i - (Z 1010).i).toNat) }
def qv0:Inv:={ key:=10,nv:=11,env:=[(2,iv .u64 (.var 13)),(3,qcf 1000),(4,.one (.vptr 1001 (.lit 0) 4 0)),(7,qfH 1002 1003 1004),(10,rMs 1006 1007 1008),(11,iv .i64 (.var 1010))],heap:=[qcA 1000 (rT 0),.cells 1001 63 (qeK 9),iRo 1002 1005 1004,qbO 1006 1009 1008],inv:=(fun Z=>0 <= (Z 1010).i/\(Z 1010).i <= 2/\(Z 1010).i <= (Z 1003).i/\(Z 1003).i = (Z 1005).d.length/\(Z 1003).i <= 16/\(∀ m,rB Z 0 14 m->qf (Z 1005).d = qcY m.tab (Z 0).i (Z 10).i)/\(Z 1007).i = (Z 1009).d.length/\(Z 1007).i = (Z 1010).i/\qC (Z 1009).d (qi3 (qf (Z 1005).d) (Z 9).i (Z 10).i (Z 13).i (Z 1010).i.toNat)),mu:=(fun Z=>(2 - (Z 1010).i).toNat) }
def qhE:Ctr:={ fn:=52,nv:=11,ow:=[1003],ip:=[(1001,9)],args:=[.agg (rT 0),iv .u64 (.var 9)],heap:=[.abs 10 4],ro:=[],pre:=fun Z=>(∃ m,rB Z 0 10 m/\rWf m)/\0 <= (Z 9).i/\(Z 9).i < 18446744073709551616,alts:=[
 { k:=12,ret:=.tup [(true,rTm (.var 0) (.var 11) (.var 12) (.var 13) (.var 14) (.var 15) (.var 16) (.var 7) (.var 8)),(false,[.vslice 17 (.lit 0) (.var 18) (.var 19) 116])],heap:=[qbO 17 20 19,.abs 21 4],post:=fun Z=>∀ m,rB Z 0 10 m->(m.left = true/\(Z 18).i = 0/\(Z 20).d = []/\(Z 12).i = m.clock/\(Z 13).i = m.seq/\(Z 14).i = m.pinged/\rIs (Z 21).h (Z 11).v (Z 15).v (Z 16).v m.tab m.since m.probes)∨(m.left = false/\(Z 18).i = (Z 20).d.length/\qX (Z 21).h (qaO m (Z 9).i) m.self (qat m (Z 9).i).tab (qaO m (Z 9).i).length (Z 20).d/\(Z 12).i = (qat m (Z 9).i).clock/\(Z 13).i = (qat m (Z 9).i).seq/\(Z 14).i = (qat m (Z 9).i).pinged/\rIs (Z 21).h (Z 11).v (Z 15).v (Z 16).v (qat m (Z 9).i).tab (qat m (Z 9).i).since (qat m (Z 9).i).probes) }] }
def qwP:Inv:={ key:=7,nv:=15,env:=[(4,qcf 1014),(1,iv .u64 (.var 9)),(2,qcf 1000),(6,rMs 1001 1002 1003),(7,qfC 1005 1006 1007),(8,iv .i64 (.var 1009))],heap:=[qcA 1014 qkf,qcA 1000 (rTm (.var 0) (.var 1010) (.var 1012) (.var 3) (.var 4) (.var 1011) (.var 6) (.var 7) (.var 8)),qbO 1001 1004 1003,pRo 1005 1008 1007,.abs 1013 4],inv:=(fun Z=>0 <= (Z 1009).i/\(Z 1002).i = (Z 1004).d.length/\(Z 1002).i <= 2 * (Z 1009).i/\(Z 1006).i = (Z 1008).d.length/\(Z 1006).i <= (Z 1009).i/\∀ m,rB Z 0 10 m->(Z 1009).i <= m.probes.length/\(Z 1012).i = qj m/\∃ T S ms,qb7 m.self (qj m) (Z 9).i m.tab m.since (m.probes.take (Z 1009).i.toNat) = ⟨T,S,qt (Z 1008).d,ms⟩/\qC (Z 1004).d ms/\T.length = m.tab.length/\S.length = m.since.length/\rIs (Z 1013).h (Z 1010).v (Z 1011).v (Z 6).v T S m.probes),mu:=(fun Z=>(1000001 - (Z 1009).i).toNat) }
def qvy:Inv:={ key:=19,nv:=15,env:=[(4,qcf 1014),(2,qcf 1000),(6,rMs 1001 1002 1003),(7,qfC 1005 1006 1007),(11,iv .i64 (.var 1009))],heap:=[qcA 1014 qkf,qcA 1000 (rTm (.var 0) (.var 1010) (.var 1012) (.var 3) (.var 4) (.var 1011) (.var 6) (.var 7) (.var 8)),qbO 1001 1004 1003,pRo 1005 1008 1007,.abs 1013 4],inv:=(fun Z=>0 <= (Z 1009).i/\(Z 1002).i = (Z 1004).d.length/\(Z 1002).i <= 2000000/\(Z 1006).i = (Z 1008).d.length/\(Z 1006).i <= 1000000/\∀ m,rB Z 0 10 m->(Z 1009).i <= m.tab.length/\(Z 1012).i = qj m/\qt (Z 1008).d = (qT m (Z 9).i).kept/\qC (Z 1004).d (qT m (Z 9).i).msgs/\∃ T,qbr (qT m (Z 9).i).tab (qbZ m.self (qj m) (qaG m.tab.length) (qT m (Z 9).i).since (qT m (Z 9).i).tab) T (Z 1009).i/\T.length = m.tab.length/\rIs (Z 1013).h (Z 1010).v (Z 1011).v (Z 6).v T (qT m (Z 9).i).since m.probes),mu:=(fun Z=>(17 - (Z 1009).i).toNat) }
def qhB:Ctr:={ fn:=78,nv:=11,ow:=[1003],ip:=[(1001,9)],args:=[.agg (rT 0),iv .i64 (.var 9)],heap:=[],ro:=[.abs 10 4],pre:=fun Z=>∃ m,rB Z 0 10 m,alts:=[{ k:=1,ret:=qdF 11,heap:=[],post:=fun Z=>∀ m,rB Z 0 10 m->(Z 11).b = qer m.tab.length (Z 9).i }] }
def qhL:Ctr:={ fn:=53,nv:=130,ow:=[1003],ip:=[(1001,9)],args:=[.agg (rT 0),.agg (qbS 9 (.vslice 15 (.lit 0) (.var 16) (.var 17) 2) 20)],heap:=[.abs 129 4],ro:=[tRo 15 18 19],pre:=fun Z=>(∃ m,rB Z 0 129 m/\rWf m)/\(Z 16).i = (Z 18).d.length/\(Z 16).i <= big,alts:=[
 { k:=10,ret:=.tup [(true,rTm (.var 0) (.var 130) (.var 2) (.var 3) (.var 4) (.var 131) (.var 132) (.var 133) (.var 8)),(false,[.vslice 134 (.lit 0) (.var 135) (.var 136) 116]),(false,[.vint .i64 (.var 137)])],heap:=[qbO 134 138 136,.abs 139 4],post:=fun Z=>∀ m,rB Z 0 129 m->(Z 137).i = qbE m (qaP Z 9) (qb (Z 18).d)/\(Z 135).i = (Z 138).d.length/\qX (Z 139).h (qaY m (qaP Z 9) (qb (Z 18).d)) m.self (qab m (qaP Z 9) (qb (Z 18).d)).tab (qaY m (qaP Z 9) (qb (Z 18).d)).length (Z 138).d/\(Z 133).i = (qab m (qaP Z 9) (qb (Z 18).d)).chal/\rIs (Z 139).h (Z 130).v (Z 131).v (Z 132).v (qab m (qaP Z 9) (qb (Z 18).d)).tab (qab m (qaP Z 9) (qb (Z 18).d)).since (qab m (qaP Z 9) (qb (Z 18).d)).probes }] }
def qsJ (r:Nat):SH:=.cells r 43 (qbS 9 (.vslice 15 (.lit 0) (.var 16) (.var 17) 2) 20)
def qy4 (r:Nat):SV:=.one (.vptr r (.lit 0) 116 0)
def qwJ:Inv:={ key:=10,nv:=8,env:=[(4,qcf 1007),(2,qcf 1000),(3,qy4 1001),(7,iv .i64 (.var 1002))],heap:=[qcA 1007 qkf,qcA 1000 (rTm (.var 0) (.var 1003) (.var 2) (.var 3) (.var 4) (.var 1004) (.var 6) (.var 1005) (.var 8)),qsJ 1001,.abs 1006 4],inv:=(fun Z=>0 <= (Z 1002).i/\∀ m,rB Z 0 129 m->(Z 1002).i <= m.tab.length/\(∃ T S,qbr m.tab (qbM m.self m.tab (qb (Z 18).d)) T (Z 1002).i/\qbr m.since (qbc m.self m.clock m.tab m.since (qb (Z 18).d)) S (Z 1002).i/\T.length = m.tab.length/\S.length = m.since.length/\rIs (Z 1006).h (Z 1003).v (Z 1004).v (Z 6).v T S m.probes)/\(Z 1005).i = if m.self < (Z 1002).i then qb8 m.self m.tab (qb (Z 18).d) m.chal else m.chal),mu:=(fun Z=>(17 - (Z 1002).i).toNat) }
def qv2:Inv:={ key:=19,nv:=17,env:=[(4,qcf 1016),(2,qcf 1000),(3,qy4 1001),(8,rMs 1012 1013 1014),(9,qfC 1007 1008 1009),(10,iv .i64 (.var 1011))],heap:=[qcA 1016 qkf,qcA 1000 (rTm (.var 0) (.var 1003) (.var 2) (.var 3) (.var 4) (.var 1004) (.var 6) (.var 1005) (.var 8)),qsJ 1001,pRo 1007 1010 1009,qbO 1012 1015 1014,.abs 1006 4],inv:=(fun Z=>0 <= (Z 1011).i/\(Z 1008).i = (Z 1010).d.length/\(Z 1008).i <= (Z 1011).i/\(Z 1013).i = 0/\(Z 1015).d = []/\∀ m,rB Z 0 129 m->(Z 1011).i <= m.probes.length/\qt (Z 1010).d = (m.probes.take (Z 1011).i.toNat).filter (fun p=>!(p.seq == (Z 12).i))/\rIs (Z 1006).h (Z 1003).v (Z 1004).v (Z 6).v (qbM m.self m.tab (qb (Z 18).d)) (qbc m.self m.clock m.tab m.since (qb (Z 18).d)) m.probes/\(Z 1005).i = qb8 m.self m.tab (qb (Z 18).d) m.chal),mu:=(fun Z=>(1000001 - (Z 1011).i).toNat) }
def qwd:Inv:={ key:=1000032,nv:=11,env:=[(2,qcf 1000),(4,qcf 1001),(8,rMs 1002 1003 1004)],heap:=[qcA 1001 qkf,qcA 1000 (rTm (.var 0) (.var 1006) (.var 2) (.var 3) (.var 4) (.var 1007) (.var 1008) (.var 1009) (.var 8)),qbO 1002 1005 1004,.abs 1010 4],inv:=(fun Z=>(Z 1003).i = (Z 1005).d.length/\(Z 1003).i <= 1/\∀ m,rB Z 0 129 m->qbE m (qaP Z 9) (qb (Z 18).d) = 0/\qC (Z 1005).d (qaY m (qaP Z 9) (qb (Z 18).d))/\(Z 1009).i = (qbl m (qaP Z 9) (qb (Z 18).d)).chal/\rIs (Z 1010).h (Z 1006).v (Z 1007).v (Z 1008).v (qbl m (qaP Z 9) (qb (Z 18).d)).tab (qbl m (qaP Z 9) (qb (Z 18).d)).since (qbl m (qaP Z 9) (qb (Z 18).d)).probes),mu:=fun _=>0 }
def qge:Ctr:={ fn:=54,nv:=11,ow:=[1003],ip:=[(1001,9)],args:=[.agg (rT 0),iv .u64 (.var 9)],heap:=[.abs 10 4],ro:=[],pre:=fun Z=>∃ m,rB Z 0 10 m/\qf7 m,alts:=[
 { k:=4,ret:=.tup [(true,rTm (.var 0) (.var 11) (.var 2) (.var 3) (.var 4) (.var 5) (.var 6) (.var 12) (.var 8)),(false,[.vint .i64 (.var 13)])],heap:=[.abs 14 4],post:=fun Z=>∀ m,rB Z 0 10 m->(Z 13).i = qbY m (Z 9).i/\(Z 12).i = (qaM m (Z 9).i).chal/\rIs (Z 14).h (Z 11).v (Z 5).v (Z 6).v (qaM m (Z 9).i).tab m.since m.probes }] }
def qgh:Ctr:={ fn:=55,nv:=10,ow:=[1003],ip:=[(1001,9)],args:=[.agg (rT 0)],heap:=[.abs 9 4],ro:=[],pre:=fun Z=>∃ m,rB Z 0 9 m/\qf7 m,alts:=[
 { k:=7,ret:=.tup [(true,rTm (.var 0) (.var 10) (.var 2) (.var 3) (.var 4) (.var 5) (.var 6) (.var 7) (.var 11)),(false,[.vslice 12 (.lit 0) (.var 13) (.var 14) 116])],heap:=[qbO 12 15 14,.abs 16 4],post:=fun Z=>∀ m,rB Z 0 9 m->(Z 11).b = true/\(Z 13).i = (Z 15).d.length/\((m.left = true/\(Z 15).d = []/\rIs (Z 16).h (Z 10).v (Z 5).v (Z 6).v m.tab m.since m.probes)∨(m.left = false/\qX (Z 16).h (qdl (qU m.tab m.self)) m.self (qU m.tab m.self) (qdl (qU m.tab m.self)).length (Z 15).d/\rIs (Z 16).h (Z 10).v (Z 5).v (Z 6).v (qU m.tab m.self) m.since m.probes)) }] }
end Go.Eng
namespace Go.Proofs
open Go Go.Eng
theorem qv7 {c0 c1:Array Value} {k:Nat} {x y:Int} {d:List (List Value)} (hd:qa8 c0 0 qp d) (hw:qfT c0 c1 (0 + (k * qp.length + 0)) [.int .u64 x,.int .u8 y]):∃ d',qa8 c1 0 qp d'/\d'.length = d.length:=by
 refine ⟨if k < d.length then d.set k [.int .u64 x,.int .u8 y] else d,?_,by split <;> simp⟩;rw [show 0 + (k * qp.length + 0) = 2 * k by rw [show qp.length = 2 from rfl]; omega] at hw;have hget:∀ j,c1[j]? = if 2 * k <= j/\j < 2 * k + 2 then ([Value.int .u64 x,Value.int .u8 y]:List Value)[j - 2 * k]? else c0[j]?:=fun j=>hw.2 j
 intro i row hi;by_cases hk:i = k
 ·subst hk
  by_cases hl:i < d.length
  ·rw [jah hl,jc8 hl] at hi
   obtain rfl:=jax hi;refine ⟨⟨rfl,fun c kk w hk hw=>?_⟩,fun c v hv=>?_⟩
   ·match c,hk,hw with
    | 0,hk,hw=>obtain rfl:=(jax hk).symm; obtain rfl:=(jax hw).symm; rfl
    | 1,hk,hw=>obtain rfl:=(jax hk).symm; obtain rfl:=(jax hw).symm; rfl
    | c + 2,hk,_=>simp [qp] at hk
   ·have hc:c < 2:=by
     have:=(jaj.1 hv).1;simpa using this
    rw [show 0 + i * qp.length + c = 2 * i + c by rw [show qp.length = 2 from rfl]; omega,hget,jah (by omega),show 2 * i + c - 2 * i = c by omega];exact hv
  ·rw [jaf hl] at hi
   exact absurd (jaj.1 hi).1 hl
 ·have hi':d[i]? = some row:=by
   split at hi
   ·rwa [List.getElem?_set_ne (Ne.symm hk)] at hi
   ·exact hi
  obtain ⟨hf,hc⟩:=hd i row hi';refine ⟨hf,fun c v hv=>?_⟩;have hcl:c < 2:=by
   have:=(jaj.1 hv).1;rw [hf.1] at this;simpa [qp] using this
  have g:=hc c v hv;rw [show 0 + i * qp.length + c = 2 * i + c by rw [show qp.length = 2 from rfl]; omega] at g ⊢;rw [hget,jaf (by omega)];exact g
theorem qzd {h h':Hp} {r:Option Addr} {e d:List (List Value)} {k n c:Nat} {x y:Int} {v:Value} (hP:Put h h' r qp e (k * qp.length + 0) [.int .u64 x,.int .u8 y]) (hr0:atZ (.slice (qg r 0) n c)) (hv:Rd h qp v d) (hz:atZ v):∃ d',Rd h' qp v d'/\d'.length = d.length:=by
 obtain ⟨b,o,c0,c1,ty,rfl,hb,hrows,hw,rfl⟩:=hP;have ho:o = 0:=hr0 ⟨b,o,none⟩ n c (by rw [qhh]);subst ho;rcases hv with h0 | ⟨b',o',cap',c',ty',fr',e1,e2,e3,e4⟩
 ·exact ⟨d,.inl h0,rfl⟩
 have ho':o' = 0:=hz ⟨b',o',none⟩ _ _ e1;subst ho';by_cases hbb:b' = b
 ·subst hbb
  rw [hb] at e3;simp only [jaa,Obj.cells.injEq] at e3;obtain ⟨rfl,rfl,rfl⟩:=e3;obtain ⟨d',q1,q2⟩:=qv7 e4 hw;exact ⟨d',.inr ⟨b',0,cap',c1,ty,(0,0),by rw [e1,q2],by omega,by simp [Hp.upd],q1⟩,q2⟩
 ·exact ⟨d,.inr ⟨b',0,cap',c',ty',fr',e1,e2,by simp [Hp.upd,hbb,e3],e4⟩,rfl⟩
theorem qyg {self n inc:Int} (h0:0 <= self) {i:Nat} (hi:i < n.toNat):(qc2 self n inc).tab[i]? = some (if (i:Int) = self then (inc,1) else (0,0)):=by
 simp only [qc2,ja0,jb9,jc2];by_cases hj:(i:Int) = self
 ·have:self.toNat = i:=by omega
  simp [this,hi,hj]
 ·rw [jaf (by omega),jah hi,jaf hj]
theorem qlb {x:Int} (h1:-1000000 <= x) (h2:x <= 1000000):IntKind.i64.wrap x = x:=by simp [IntKind.wrap,IntKind.bits,IntKind.signed]; omega
def qcX (clock:Int) (p:Prb):Bool:=decide (10 <= qaJ clock p.sent)
def qfn (clock:Int) (p:Prb):Prb:=if 4 <= qaJ clock p.sent/\p.asked = false then { p with asked:=true } else p
theorem qt4 (self clock draw:Int) (st:TS) (p:Prb):(qa9 self clock draw st p).kept = st.kept ++ (if qcX clock p then [] else [qfn clock p]):=by
 unfold qa9 qcX qfn;by_cases h:10 <= qaJ clock p.sent
 ·rw [jah h]; simp only [h,decide_true,ja9]; split <;> simp
 ·rw [jaf h]; simp only [h,decide_false]
  split <;> simp
theorem qpb (self clock draw:Int):∀ (ps:List Prb) (st:TS),(ps.foldl (qa9 self clock draw) st).kept = st.kept ++ (ps.filter (fun p=>!qcX clock p)).map (qfn clock)
 | [],st=>by simp
 | p :: ps,st=>by
  rw [jct,qpb self clock draw ps,qt4];by_cases h:qcX clock p = true
  ·simp [h]
  ·simp [h]
theorem qe2 {t:List Ent} {i:Int} {x:Ent}:(qbx t i x).length = t.length:=by simp [qbx]
theorem qex {t:List Ent} {s:List Int} {c i:Int} {x:Ent}:(qaE t s c i x).length = s.length:=by unfold qaE; split <;> simp
theorem qtG (self clock draw:Int) (st:TS) (p:Prb):(qa9 self clock draw st p).tab.length = st.tab.length/\(qa9 self clock draw st p).since.length = st.since.length:=by
 unfold qa9; split
 ·split
  ·simp [qe2,qex]
  ·exact ⟨rfl,rfl⟩
 ·split <;> exact ⟨rfl,rfl⟩
theorem qnK (self clock draw:Int):∀ (ps:List Prb) (st:TS),(ps.foldl (qa9 self clock draw) st).tab.length = st.tab.length/\(ps.foldl (qa9 self clock draw) st).since.length = st.since.length
 | [],st=>⟨rfl,rfl⟩
 | p :: ps,st=>by
  have h1:=qnK self clock draw ps (qa9 self clock draw st p);have h2:=qtG self clock draw st p;exact ⟨h1.1.trans h2.1,h1.2.trans h2.2⟩
def qca (clock:Int) (ps:List Prb) (j:Nat):Bool:=ps.any fun p=>qcX clock p && p.target.toNat == j
theorem qso (self clock draw:Int) {st:TS} {p:Prb} {j:Nat} {x:Ent} {s:Int} (hx:st.tab[j]? = some x) (hs:st.since[j]? = some s) :
  (qa9 self clock draw st p).tab[j]? = some (if (qcX clock p && p.target.toNat == j) = true/\x.2 = 1 then (x.1,2) else x) /\
  (qa9 self clock draw st p).since[j]? = some (if (qcX clock p && p.target.toNat == j) = true/\x.2 = 1 then clock else s):=by
 unfold qa9;by_cases ho:10 <= qaJ clock p.sent
 ·have ho':qcX clock p = true:=by simp [qcX,ho]
  rw [jah ho,ho'];by_cases ht:p.target.toNat = j
  ·have hst:qc4 st.tab p.target = x:=by simp [qc4,ht,ja2,hx]
   rw [hst];by_cases h1:x.2 = 1
   ·rw [jah h1]
    have hjl:j < st.tab.length:=(jaj.1 hx).1;have hsl:j < st.since.length:=(jaj.1 hs).1;have hne:st.tab[p.target.toNat]? ≠ some (x.1,2):=by rw [ht,hx]; intro h; rw [jax h] at h1; simp at h1
    have hs2:qaE st.tab st.since clock p.target (x.1,2) = st.since.set p.target.toNat clock:=by rw [qaE,jah ⟨hne,rfl⟩]
    simp only [hs2,qbx];simp [ht,h1,hjl,hsl,ja0]
   ·rw [jaf h1]; simp [h1,hx,hs]
  ·split
   ·refine ⟨?_,?_⟩
    ·simp only [qbx]; rw [ja0,jaf ht]; simp [ht,hx]
    ·simp only [qaE]; split
     ·rw [ja0,jaf ht]; simp [ht,hs]
     ·simp [ht,hs]
   ·simp [ht,hx,hs]
 ·have ho':qcX clock p = false:=by simp [qcX]; omega
  rw [jaf ho,ho'];split <;> simp [hx,hs]
theorem ql4 (self clock draw:Int):∀ (ps:List Prb) (st:TS) {j:Nat} {x:Ent} {s:Int},st.tab[j]? = some x->st.since[j]? = some s ->
  (ps.foldl (qa9 self clock draw) st).tab[j]? = some (if qca clock ps j = true/\x.2 = 1 then (x.1,2) else x) /\
  (ps.foldl (qa9 self clock draw) st).since[j]? = some (if qca clock ps j = true/\x.2 = 1 then clock else s)
 | [],st,j,x,s,hx,hs=>by simp [qca,hx,hs]
 | p :: ps,st,j,x,s,hx,hs=>by
  obtain ⟨h1,h2⟩:=qso self clock draw (p:=p) hx hs;obtain ⟨h3,h4⟩:=ql4 self clock draw ps _ h1 h2;rw [jct,h3,h4];have hc:qca clock (p :: ps) j = ((qcX clock p && p.target.toNat == j) || qca clock ps j):=rfl;rw [hc];by_cases ha:(qcX clock p && p.target.toNat == j) = true <;> by_cases hb:qca clock ps j = true <;> by_cases hx1:x.2 = 1 <;> simp [ha,hb,hx1]
def qfk (c:Int) (ps:List Prb) (j:Nat) (x:Ent):Ent:=if qca c ps j = true/\x.2 = 1 then (x.1,2) else x
def qlq (c:Int) (ps:List Prb) (j:Nat) (x:Ent) (s:Int):Int:=if qca c ps j = true/\x.2 = 1 then c else s
theorem qdN (m:Mach) (draw:Int) {j:Nat} {x:Ent} {s:Int} (hx:m.tab[j]? = some x) (hs:m.since[j]? = some s) :
  (qat m draw).tab[j]? = some (if (j:Int) ≠ m.self/\(qfk (qj m) m.probes j x).2 = 2/\qaG m.tab.length <= qaJ (qj m) (qlq (qj m) m.probes j x s) then ((qfk (qj m) m.probes j x).1,3) else qfk (qj m) m.probes j x) /\
  (qat m draw).since[j]? = some (qlq (qj m) m.probes j x s):=by
 obtain ⟨h1,h2⟩:=ql4 m.self (qj m) draw m.probes ⟨m.tab,m.since,[],[]⟩ hx hs;have h1':(qT m draw).tab[j]? = some (qfk (qj m) m.probes j x):=h1;have h2':(qT m draw).since[j]? = some (qlq (qj m) m.probes j x s):=h2;refine ⟨?_,h2'⟩
 show (qbZ m.self (qj m) (qaG m.tab.length) (qT m draw).since (qT m draw).tab)[j]? = _
 rw [qi6 h1',qdR,ja2,h2']; rfl
theorem qhT (m:Mach) (draw:Int):(qat m draw).tab.length = m.tab.length/\(qat m draw).since.length = m.since.length:=by
 have h:=qnK m.self (qj m) draw m.probes ⟨m.tab,m.since,[],[]⟩;refine ⟨?_,h.2⟩
 show (qbZ m.self (qj m) (qaG m.tab.length) (qT m draw).since (qT m draw).tab).length = _
 rw [qiu]; exact h.1
theorem qg3 (m:Mach) (draw:Int):(qat m draw).probes = (m.probes.filter (fun p=>!qcX (qj m) p)).map (qfn (qj m)) ++ [⟨IntKind.u64.wrap (m.seq + 1),qbz m.tab.length m.self m.pinged,qj m,false⟩]:=by
 show (qT m draw).kept ++ _ = _
 rw [show (qT m draw).kept = (m.probes.filter (fun p=>!qcX (qj m) p)).map (qfn (qj m)) from by
  have:=qpb m.self (qj m) draw m.probes ⟨m.tab,m.since,[],[]⟩;rw [jcm] at this; exact this]
def qbp (n self:Int):Nat->Int
 | 0=>self
 | k + 1=>qbz n self (qbp n self k)
theorem qqP {n self pinged:Int} (h2:2 <= n) (h0:0 <= pinged) (hs:0 <= self) (hs':self < n):qbz n self pinged ≠ self:=by
 have a1:Int.tmod (pinged + 1) n < n:=jb2 _ (by omega);have a0:0 <= Int.tmod (pinged + 1) n:=jcb _ (by omega);unfold qbz;split
 ·rename_i h
  rw [h];intro hh;by_cases hl:self + 1 < n
  ·rw [jd3 (by omega) hl] at hh; omega
  ·have:self + 1 = n:=by omega
   rw [this,Int.tmod_self] at hh; omega
 ·assumption
theorem qdq {n self:Int} (h2:2 <= n) (h16:n <= 16) (hs:0 <= self) (hs':self < n):∀ k,0 <= qbp n self k/\qbp n self k < n
 | 0=>⟨hs,hs'⟩
 | k + 1=>qfr h2 h16 (qdq h2 h16 hs hs' k).1
theorem qwo {n self:Int} (h2:2 <= n) (h16:n <= 16) (hs:0 <= self) (hs':self < n) {k:Nat} (hk:1 <= k):qbp n self k ≠ self:=by
 match k,hk with
 | k + 1,_=>exact qqP h2 (qdq h2 h16 hs hs' k).1 hs hs'
theorem qeH {c s:Int} (h0:0 <= s) (h:s <= c) (hc:c < 18446744073709551616):qaJ c s = c - s:=qcd (by omega) (by omega)
theorem qiY {n self:Int} (h2:2 <= n) (hs:0 <= self) (hs':self < n):∀ k:Nat,(k:Int) < n->qbp n self k = if self + k < n then self + k else self + k - n
 | 0,_=>by simp [qbp]; omega
 | k + 1,hk=>by
  have ih:=qiY h2 hs hs' k (by omega);simp only [qbp,ih];have hr:Int.tmod ((if self + k < n then self + k else self + k - n) + 1) n = if self + (k + 1:Nat) < n then self + (k + 1:Nat) else self + (k + 1:Nat) - n:=by
   by_cases h1:self + (k + 1:Nat) < n
   ·rw [jah h1,jah (by omega),jd3 (by omega) (by omega)]; omega
   ·rw [jaf h1]
    by_cases h3:self + k < n
    ·rw [jah h3,show self + k + 1 = n by omega,Int.tmod_self]; omega
    ·rw [jaf h3,jd3 (by omega) (by omega)]; omega
  unfold qbz;rw [hr,jaf];split <;> omega
theorem quw {n self:Int} (h2:2 <= n) (hs:0 <= self) (hs':self < n) {j:Int} (h0:0 <= j) (hj:j < n) (hne:j ≠ self):∃ s:Nat,1 <= s/\(s:Int) <= n - 1/\qbp n self s = j:=by
 by_cases h:self < j
 ·refine ⟨(j - self).toNat,by omega,by omega,?_⟩
  rw [qiY h2 hs hs' _ (by omega)]; split <;> omega
 ·refine ⟨(j - self + n).toNat,by omega,by omega,?_⟩
  rw [qiY h2 hs hs' _ (by omega)]; split <;> omega
structure Runs (n me:Int) (m:Mach) (k:Nat):Prop where
 self_eq:m.self = me
 clk:m.clock = k
 sq:m.seq = k
 png:m.pinged = qbp n me k
 tl:(m.tab.length:Int) = n
 sl:(m.since.length:Int) = n
 prb:∀ p ∈ m.probes,∃ s:Nat,1 <= s/\s <= k/\p.sent = s/\p.target = qbp n me s
 prb':∀ s:Nat,1 <= s->s <= k->k < s + 10->∃ p ∈ m.probes,p.sent = s/\p.target = qbp n me s
theorem qnc (c:Int) (p:Prb):(qfn c p).sent = p.sent/\(qfn c p).target = p.target/\(qfn c p).seq = p.seq:=by unfold qfn; split <;> exact ⟨rfl,rfl,rfl⟩
theorem Runs.clock {n me:Int} {m:Mach} {k:Nat} (h:Runs n me m k) (hk:k < 1000):qj m = (k + 1:Nat):=by
 rw [qj,h.clk,qcd (by omega) (by omega)]; omega
theorem Runs.step {n me:Int} {m:Mach} {k:Nat} (draw:Int) (h:Runs n me m k) (hk:k < 1000):Runs n me (qat m draw) (k + 1):=by
 have hc:=h.clock hk;have hl:=qhT m draw;refine ⟨h.self_eq,hc,?_,?_,by rw [hl.1]; exact h.tl,by rw [hl.2]; exact h.sl,fun p hp=>?_,fun s hs1 hs2 hs3=>?_⟩
 ·show IntKind.u64.wrap (m.seq + 1) = _
  rw [h.sq,qcd (by omega) (by omega)]; omega
 ·show qbz m.tab.length m.self m.pinged = _
  rw [h.tl,h.self_eq,h.png]; rfl
 ·rw [qg3] at hp
  rcases ja4.1 hp with hp | hp
  ·obtain ⟨q,hq,rfl⟩:=jb5.1 hp
   obtain ⟨s,a1,a2,a3,a4⟩:=h.prb q (jc6.1 hq).1;obtain ⟨b1,b2,_⟩:=qnc (qj m) q;exact ⟨s,a1,by omega,by rw [b1,a3],by rw [b2,a4]⟩
  ·simp only [jan] at hp
   subst hp;exact ⟨k + 1,by omega,by omega,hc,by show qbz m.tab.length m.self m.pinged = _; rw [h.tl,h.self_eq,h.png]; rfl⟩
 ·rw [qg3]
  by_cases hsk:s = k + 1
  ·subst hsk
   exact ⟨_,jby _ (jan.2 rfl),hc,by show qbz m.tab.length m.self m.pinged = _; rw [h.tl,h.self_eq,h.png]; rfl⟩
  ·obtain ⟨q,hq,a3,a4⟩:=h.prb' s hs1 (by omega) (by omega)
   obtain ⟨b1,b2,_⟩:=qnc (qj m) q;refine ⟨_,jbd _ (jb5.2 ⟨q,jc6.2 ⟨hq,?_⟩,rfl⟩),by rw [b1,a3],by rw [b2,a4]⟩;simp only [qcX,hc,a3,qeH (s:=(s:Int)) (c:=((k + 1:Nat):Int)) (by omega) (by omega) (by omega),jas,decide_eq_false_iff_not];omega
structure Fades (n me:Int) (m0 m:Mach) (k:Nat):Prop where
 own:m.tab[me.toNat]? = m0.tab[me.toNat]?
 early:k <= 10->∀ (j:Nat) (x:Ent),m0.tab[j]? = some x->x.2 = 1->∃ y,m.tab[j]? = some y/\y.2 = 1
 late:∀ (j s:Nat),(j:Int) ≠ me->1 <= s->qbp n me s = j->s + 10 <= k->∀ y,m.tab[j]? = some y->y.2 ≠ 1
 susp:∀ (j:Nat),(j:Int) ≠ me->∀ y,m.tab[j]? = some y->y.2 = 2->∃ c:Nat,m.since[j]? = some (c:Int)/\(c:Int) <= n - 1 + 10/\c <= k/\(1 <= k->(k:Int) - c < qaG n.toNat)
theorem Runs.old {n me:Int} {m:Mach} {k:Nat} (h:Runs n me m k) (hk:k < 1000) (h2:2 <= n) (h16:n <= 16) (hs:0 <= me) (hs':me < n) {j:Nat} (hj:qca (qj m) m.probes j = true) :
  ∃ s:Nat,1 <= s/\s + 10 <= k + 1/\qbp n me s = j:=by
 simp only [qca,jed,jad,jc7] at hj;obtain ⟨p,hp,ho,ht⟩:=hj;obtain ⟨s,a1,a2,a3,a4⟩:=h.prb p hp;rw [qcX,h.clock hk,a3,jav,qeH (by omega) (by omega) (by omega)] at ho;have:=qdq h2 h16 hs hs' s;exact ⟨s,a1,by omega,by rw [<- a4,<- ht,a4]; omega⟩
theorem Runs.young {n me:Int} {m:Mach} {k:Nat} (h:Runs n me m k) (hk:k < 1000) {j s:Nat} (h1:1 <= s) (hs:s + 10 = k + 1) (hp:qbp n me s = j):qca (qj m) m.probes j = true:=by
 obtain ⟨p,hp',a3,a4⟩:=h.prb' s h1 (by omega) (by omega);simp only [qca,jed,jad,jc7];refine ⟨p,hp',?_,by rw [a4,hp]; simp⟩;rw [qcX,h.clock hk,a3,jav,qeH (by omega) (by omega) (by omega)];omega
theorem qiy {c:Int} {ps:List Prb} {j:Nat} {x:Ent} (h:¬ (qca c ps j = true/\x.2 = 1)):qfk c ps j x = x:=jaf h
theorem qyj {c:Int} {ps:List Prb} {j:Nat} {x:Ent} {s:Int} (h:¬ (qca c ps j = true/\x.2 = 1)):qlq c ps j x s = s:=jaf h
theorem Fades.step {n me:Int} {m0 m:Mach} {k:Nat} (draw:Int) (h:Runs n me m k) (f:Fades n me m0 m k) (hk:k < 1000) (h2:2 <= n) (h16:n <= 16) (hs:0 <= me) (hs':me < n):Fades n me m0 (qat m draw) (k + 1):=by
 have hc:=h.clock hk;have htl:=h.tl;have hsl:=h.sl;have ent:∀ {j:Nat} {y:Ent},(qat m draw).tab[j]? = some y->∃ (x:Ent) (s:Int),m.tab[j]? = some x/\m.since[j]? = some s:=fun {j y} hy=>by
  have hj:j < m.tab.length:=by have:=(jaj.1 hy).1; rwa [(qhT m draw).1] at this
  exact ⟨_,_,jae hj,jae (by omega)⟩
 have w2:10 <= qaG n.toNat:=by unfold qaG; omega
 have hwn:qaG m.tab.length = qaG n.toNat:=by rw [<- htl]; rfl
 refine ⟨?_,fun hk10 j x hx hx1=>?_,fun j s hj h1 hp hsk y hy=>?_,fun j hj y hy hy2=>?_⟩
 ·have hm:m.tab[me.toNat]? = some m.tab[me.toNat]:=jae (by omega)
  have hsn:m.since[me.toNat]? = some m.since[me.toNat]:=jae (by omega);have hno:¬ (qca (qj m) m.probes me.toNat = true/\m.tab[me.toNat].2 = 1):=fun hh=>by
   obtain ⟨s,a1,_,a3⟩:=h.old hk h2 h16 hs hs' hh.1;exact qwo h2 h16 hs hs' a1 (by rw [a3]; omega)
  rw [(qdN m draw hm hsn).1,qiy hno,jaf (fun hh=>hh.1 (by rw [h.self_eq]; omega)),<- hm,f.own]
 ·obtain ⟨y,hy,hy1⟩:=f.early (by omega) j x hx hx1
  have hsn:m.since[j]? = some _:=jae (by have:=(jaj.1 hy).1; omega);have hno:¬ (qca (qj m) m.probes j = true/\y.2 = 1):=fun hh=>by
   obtain ⟨s,a1,a2,_⟩:=h.old hk h2 h16 hs hs' hh.1;omega
  refine ⟨y,?_,hy1⟩;rw [(qdN m draw hy hsn).1,qiy hno,jaf (fun hh=>by have:=hh.2.1; omega)]
 ·obtain ⟨x,c,hx,hcs⟩:=ent hy
  rw [(qdN m draw hx hcs).1] at hy;have hy:=jax hy;have hne:(qfk (qj m) m.probes j x).2 ≠ 1:=by
   by_cases hlt:s + 10 <= k
   ·have:=f.late j s hj h1 hp hlt x hx
    rw [qiy (fun hh=>this hh.2)]; exact this
   ·have hy':=h.young hk h1 (show s + 10 = k + 1 by omega) hp
    unfold qfk;split
    ·simp
    ·rename_i hh; exact fun e=>hh ⟨hy',e⟩
  rw [<- hy];split
  ·simp
  ·exact hne
 ·obtain ⟨x,c,hx,hcs⟩:=ent hy
  obtain ⟨e1,e2⟩:=qdN m draw hx hcs;rw [e1] at hy;have hy:=jax hy;rw [e2];rw [h.self_eq,hwn] at hy;split at hy
  ·rw [<- hy] at hy2; cases hy2
  ·rename_i hnd
   rw [<- hy] at hy2;by_cases hh:qca (qj m) m.probes j = true/\x.2 = 1
   ·have hjn:(j:Int) < n:=by have:=(jaj.1 hx).1; omega
    obtain ⟨s0,a1,a2,a3⟩:=quw h2 hs hs' (j:=(j:Int)) (by omega) hjn hj;have:¬ s0 + 10 <= k:=fun hle=>f.late j s0 hj a1 a3 hle x hx hh.2
    refine ⟨k + 1,by rw [qlq,jah hh,hc],by omega,by omega,fun _=>by omega⟩
   ·rw [qiy hh] at hy2 hnd
    rw [qyj hh] at hnd ⊢;obtain ⟨c',b1,b2,b3,b4⟩:=f.susp j hj x hx hy2;rw [hcs] at b1;have b1:=jax b1;refine ⟨c',by rw [b1],b2,by omega,fun _=>?_⟩;have:¬ qaG n.toNat <= qaJ (qj m) c:=fun hw=>hnd ⟨hj,hy2,hw⟩
    rw [hc,b1,qeH (by omega) (by omega) (by omega)] at this;omega
theorem Runs.wf {n me:Int} {m:Mach} {k:Nat} (h:Runs n me m k) (h2:2 <= n) (h16:n <= 16) (hs:0 <= me) (hs':me < n):qf7 m:=by
 have h1:=h.tl;have h3:=h.sl;have hr:=qdq h2 h16 hs hs' k;refine ⟨by omega,by omega,by omega,by rw [h.self_eq]; exact hs,by rw [h.self_eq]; omega,by rw [h.png]; exact hr.1,by rw [h.png]; omega,fun p hp=>?_⟩;obtain ⟨s,_,_,_,a4⟩:=h.prb p hp;have:=qdq h2 h16 hs hs' s;rw [a4]; omega
theorem qib (self clock draw:Int):∀ (ps:List Prb) (st:TS),(∀ p ∈ ps,qaJ clock p.sent < 4)->ps.foldl (qa9 self clock draw) st = { st with kept:=st.kept ++ ps }
 | [],st,_=>by simp
 | p :: ps,st,h=>by
  have hp:=h p (jac ..);rw [jct,qib self clock draw ps _ fun q hq=>h q (jab _ hq),qa9,jaf (by omega),jaf (by omega)];simp
theorem qvn {self clock wait:Int} {since:List Int} {t:List Ent} (h:∀ (j:Nat) (x:Ent),t[j]? = some x->qaJ clock (since.getD j 0) < wait):qbZ self clock wait since t = t:=by
 apply jbo;intro j;by_cases hj:j < t.length
 ·have hx:=jae hj
  rw [qi6 hx,hx,qdR,jaf];have:=h j _ hx;omega
 ·rw [jat (by rw [qiu]; omega),jat (by omega)]
theorem qui {m:Mach} {draw:Int} (hp:∀ p ∈ m.probes,qaJ (qj m) p.sent < 4):qT m draw = ⟨m.tab,m.since,m.probes,[]⟩:=by
 have:=qib m.self (qj m) draw m.probes ⟨m.tab,m.since,[],[]⟩ hp;rw [jcm] at this; exact this
def pr (n me:Int) (a:Bool) (s:Nat):Prb:=⟨s,qbp n me s,s,a⟩
structure Calm0 (n me:Int) (m0 m:Mach) (k:Nat):Prop where
 runs:Runs n me m k
 tab:m.tab = m0.tab
 since:m.since = m0.since
 prbs:m.probes = (List.range k).map fun s=>pr n me false (s + 1)
theorem Calm0.young {n me:Int} {m0 m:Mach} {k:Nat} (h:Calm0 n me m0 m k) (hk:k <= 3):∀ p ∈ m.probes,qaJ (qj m) p.sent < 4:=fun p hp=>by
 rw [h.prbs] at hp;obtain ⟨s,hs,rfl⟩:=jb5.1 hp;have:=List.mem_range.1 hs;rw [h.runs.clock (by omega)]
 show qaJ _ ((s + 1:Nat):Int) < 4
 rw [qeH (by omega) (by omega) (by omega)]; omega
theorem Calm0.dead {n me:Int} {m0 m:Mach} {k:Nat} (h:Calm0 n me m0 m k) (h0:∀ s ∈ m0.since,s = 0) (hk:k <= 4):qbZ m.self (qj m) (qaG m.tab.length) m.since m.tab = m.tab:=by
 apply qvn;intro j x hx;have w:10 <= qaG m.tab.length:=by unfold qaG; omega
 have:m.since.getD j 0 = 0:=by
  rw [h.since,ja2];cases hj:m0.since[j]? with
  | none=>rfl
  | some s=>exact h0 s (jar hj)
 rw [this,h.runs.clock (by omega),qeH (by omega) (by omega) (by omega)]; omega
theorem Calm0.step {n me:Int} {m0 m:Mach} {k:Nat} (draw:Int) (h:Calm0 n me m0 m k) (h0:∀ s ∈ m0.since,s = 0) (hk:k <= 3):Calm0 n me m0 (qat m draw) (k + 1)/\qaO m draw = [⟨1,0,qbp n me (k + 1),(k + 1:Nat),me,0⟩]:=by
 have hq:=qui (draw:=draw) (h.young hk);have hq1:IntKind.u64.wrap (m.seq + 1) = (k + 1:Nat):=by rw [h.runs.sq,qcd (by omega) (by omega)]; omega
 have hn:qbz m.tab.length m.self m.pinged = qbp n me (k + 1):=by rw [h.runs.tl,h.runs.self_eq,h.runs.png]; rfl
 refine ⟨⟨h.runs.step draw (by omega),?_,?_,?_⟩,?_⟩
 ·simp only [qat,hq]
  rw [h.dead h0 (by omega),h.tab]
 ·simp only [qat,hq]; exact h.since
 ·simp only [qat,hq]
  rw [hq1,hn,h.runs.clock (by omega),h.prbs,jdk,jcj]; rfl
 ·simp only [qaO,hq,hq1,jcm]
  rw [hn,h.runs.self_eq]
theorem q0o {n me draw:Int} {m0 m:Mach} (h:Calm0 n me m0 m 4) (h0:∀ s ∈ m0.since,s = 0) :
  qaO m draw = qgx m0.tab me 1 (qbp n me 1) draw ++ [⟨1,0,qbp n me 5,5,me,0⟩]/\(qat m draw).probes = [pr n me true 1,pr n me false 2,pr n me false 3,pr n me false 4,pr n me false 5]/\(qat m draw).tab = m0.tab:=by
 have hc:qj m = 5:=h.runs.clock (by omega);have hps:m.probes = [pr n me false 1,pr n me false 2,pr n me false 3,pr n me false 4]:=h.prbs;have hT:qT m draw = ⟨m.tab,m.since,[pr n me true 1,pr n me false 2,pr n me false 3,pr n me false 4],qgx m.tab me 1 (qbp n me 1) draw⟩:=by
  rw [qT,qb7,hc,hps,jct,qib]
  ·have a1:¬ 10 <= qaJ 5 (pr n me false 1).sent:=(by decide:¬ 10 <= qaJ 5 1)
   have a2:4 <= qaJ 5 (pr n me false 1).sent:=(by decide:4 <= qaJ 5 1);rw [qa9,jaf a1,jah ⟨a2,rfl⟩,h.runs.self_eq];rfl
  ·intro p hp
   simp only [jba,jc0,or_false] at hp;rcases hp with rfl | rfl | rfl
   ·exact (by decide:qaJ 5 2 < 4)
   ·exact (by decide:qaJ 5 3 < 4)
   ·exact (by decide:qaJ 5 4 < 4)
 have hq1:IntKind.u64.wrap (m.seq + 1) = 5:=by rw [h.runs.sq]; decide
 have hn:qbz m.tab.length m.self m.pinged = qbp n me 5:=by rw [h.runs.tl,h.runs.self_eq,h.runs.png]; rfl
 refine ⟨?_,?_,?_⟩
 ·simp only [qaO,hT,hq1]
  rw [hn,h.runs.self_eq,h.tab]
 ·simp only [qat,hT,hq1,hc]
  rw [hn]; rfl
 ·simp only [qat,hT]; rw [h.dead h0 (by omega),h.tab]
theorem qhw {h:Hp} {ms:List Msg} {self:Int} {t:List Ent} {d:List (List Value)} (hs:qX h ms self t ms.length d) {i:Nat} {g:Msg} (hg:ms[i]? = some g):∃ v,d[i]? = some (qcj { g with src:=self } v)/\RdT h v t:=by
 obtain ⟨vs,hl,rfl,hv⟩:=hs;have hi:=(jaj.1 hg).1;refine ⟨vs[i]'(by omega),?_,hv _ (jeb _)⟩;simp only [jdt,List.drop_length,jbf,jbz,qfy,List.getElem?_zipWith,jaq,hg,ja5,jae (show i < vs.length by omega)]
theorem HM.next {me n draw i:Int} {t:List Ent} {m:Mach} {dT dS dP:qbm} {np:Int} {dL:qbm} {nl nm:Int} {dM:qbm} {h:Hp} {nPr:Int} {dPr:qbm}
  (x:HM me n draw i t m dT dS dP np dL nl nm dM h nPr dPr):HI me n draw (i + 1) t m dT dS dP np dL nl:=by
 obtain ⟨hi,⟨o1,o2,o3,o4,o5⟩,hm,hL,_⟩:=x;subst hi;exact ⟨by omega,by omega,⟨o1,o2,o3,o4,by omega⟩,hm,hL⟩
theorem qgc {x y:Ent}:qby x y = false↔¬ (x.1 > y.1∨(x.1 = y.1/\x.2 > y.2)):=by
 simp only [qby,qcy,Bool.or_eq_false_iff,Bool.and_eq_false_iff,decide_eq_false_iff_not,beq_eq_false_iff_ne,ne_eq];omega
theorem qkD {x:Ent}:qby x x = false:=by rw [qgc]; omega
theorem qm0.refl {me kind:Int} {t:List Ent}:qm0 me kind t t:=fun j x y hx hy=>by
 rw [hx] at hy;obtain rfl:=jax hy;exact ⟨qkD,fun _ _=>rfl⟩
theorem qun {m:Mach} {draw kind:Int} (hw:qf7 m) (hp:∀ p ∈ m.probes,p.target ≠ m.self):qm0 m.self kind m.tab (qat m draw).tab:=fun j x y hx hy=>by
 have hj:j < m.tab.length:=(jaj.1 hx).1;have hs:m.since[j]? = some (m.since[j]'(by rw [hw.2.2.1]; exact hj)):=jae _;obtain ⟨h1,_⟩:=qdN m draw hx hs;rw [hy] at h1;have h1:=jax h1;have hE:∀ z,z = qfk (qj m) m.probes j x->(z = x∨(x.2 = 1/\z = (x.1,2)))/\((j:Int) = m.self->z = x):=fun z hz=>by
  unfold qfk at hz;split at hz
  ·rename_i hc
   refine ⟨.inr ⟨hc.2,hz⟩,fun hjm=>?_⟩;exfalso;have hc1:=hc.1;simp only [qca,jed,jad,jc7] at hc1;obtain ⟨p,hpm,_,ht⟩:=hc1;have h2:=(hw.2.2.2.2.2.2.2 p hpm).1;exact hp p hpm (by omega)
  ·exact ⟨.inl hz,fun _=>hz⟩
 generalize hz:qfk (qj m) m.probes j x = z at h1;obtain ⟨c1,c2⟩:=hE z hz.symm;split at h1
 ·rename_i hd
  obtain ⟨d1,d2,_⟩:=hd;subst h1;refine ⟨?_,fun h _=>(d1 h).elim⟩;rw [qgc];rcases c1 with rfl | ⟨a,rfl⟩ <;> simp only <;> omega
 ·subst h1
  refine ⟨?_,fun h _=>c2 h⟩;rcases c1 with rfl | ⟨a,rfl⟩
  ·exact qkD
  ·rw [qgc]; simp only; omega
theorem GW.tick {m:Mach} (draw:Int) (h:GW m):GW (qat m draw):=by
 obtain ⟨hw,hp,x,hx,x1,x2⟩:=h;have hw':=hw;obtain ⟨a1,a2,a3,a4,a5,a6,a7,a8⟩:=hw;obtain ⟨l1,l2⟩:=qhT m draw;have hr:=qfr (self:=m.self) (show (2:Int) <= m.tab.length by omega) (by omega) a6;have hn:=qqP (n:=m.tab.length) (self:=m.self) (by omega) a6 a4 a5;have hpr:∀ p ∈ (qat m draw).probes,(∃ q ∈ m.probes,p.target = q.target)∨p.target = qbz m.tab.length m.self m.pinged:=fun p hpm=>by
  rw [qg3] at hpm;rcases ja4.1 hpm with h | h
  ·obtain ⟨q,hq,rfl⟩:=jb5.1 h
   refine .inl ⟨q,(jc6.1 hq).1,?_⟩;unfold qfn; split <;> rfl
  ·rw [jan.1 h]; exact .inr rfl
 refine ⟨⟨by omega,by omega,by omega,a4,by rw [l1]; exact a5,hr.1,by rw [l1]; exact hr.2,fun p hpm=>?_⟩,fun p hpm=>?_,?_⟩
 ·rcases hpr p hpm with ⟨q,hq,e⟩ | e
  ·rw [l1,e]; exact a8 q hq
  ·rw [l1,e]; exact hr
 ·rcases hpr p hpm with ⟨q,hq,e⟩ | e
  ·rw [e]; exact hp q hq
  ·rw [e]; exact hn
 ·have hj:m.self.toNat < (qat m draw).tab.length:=by omega
  have hy:=jae hj;have:=(qun (draw:=draw) (kind:=0) hw' hp m.self.toNat x _ hx hy).2 (by omega) (by omega);exact ⟨x,by rw [<- this]; exact hy,x1,x2⟩
theorem quJ {self:Int} {tab t:List Ent} {j:Nat} {x:Ent} (h:tab[j]? = some x):(qbM self tab t)[j]? = some (if (j:Int) = self then x else qcg x (qde t j)):=by
 simp [qbM,h]
theorem qfl (m:Mach) (g:Msg) (t:List Ent):qab m g t = m∨qab m g t = qbl m g t:=by unfold qab; split <;> simp
theorem GW.recv {m:Mach} {g:Msg} {t:List Ent} (h:GW m):GW (qab m g t):=by
 rcases qfl m g t with e | e <;> rw [e]
 ·exact h
 obtain ⟨⟨a1,a2,a3,a4,a5,a6,a7,a8⟩,hp,x,hx,x1,x2⟩:=h;have l1:(qbl m g t).tab.length = m.tab.length:=qeZ;have l2:(qbl m g t).since.length = m.since.length:=qfB;have hs:∀ p ∈ (qbl m g t).probes,p ∈ m.probes:=fun p hpm=>by
  simp only [qbl] at hpm;split at hpm
  ·exact (jc6.1 hpm).1
  ·exact hpm
 refine ⟨⟨by omega,by omega,by omega,a4,by rw [l1]; exact a5,a6,by rw [l1]; exact a7,fun p hpm=>by rw [l1]; exact a8 p (hs p hpm)⟩,fun p hpm=>hp p (hs p hpm),x,?_,x1,x2⟩;have:=quJ (self:=m.self) (t:=t) hx;rw [jah (by omega)] at this;exact this
theorem GW.reinc {m:Mach} {inc:Int} (h:GW m):GW (qaM m inc):=by
 unfold qaM;split
 ·obtain ⟨⟨a1,a2,a3,a4,a5,a6,a7,a8⟩,hp,x,hx,x1,x2⟩:=h
  refine ⟨⟨?_,?_,?_,a4,?_,a6,?_,fun p hpm=>?_⟩,hp,(inc,1),?_,by simp,by simp⟩ <;> simp only [jco]
  ·exact a1
  ·exact a2
  ·exact a3
  ·exact a5
  ·exact a7
  ·exact a8 p hpm
  ·rw [jc8 (by omega)]
 ·exact h
theorem GW.leave {m:Mach} (h:GW m):GW (qc1 m):=by
 unfold qc1;split
 ·exact h
 ·obtain ⟨⟨a1,a2,a3,a4,a5,a6,a7,a8⟩,hp,x,hx,x1,x2⟩:=h
  refine ⟨⟨?_,?_,?_,a4,?_,a6,?_,fun p hpm=>?_⟩,hp,((qc4 m.tab m.self).1,4),?_,by simp,by simp⟩ <;> simp only [qU,jco]
  ·exact a1
  ·exact a2
  ·exact a3
  ·exact a5
  ·exact a7
  ·exact a8 p hpm
  ·rw [jc8 (by omega)]
def qoA:Out:=(tn (tl 0) (tv 1) (.br (.cmp .gtr (tv 1) (tl 150))
 (.ret 0 (sg 5 [bt 5 (.bl true)]))
 (.inv 0 5 (sg 1000 [bt 1000 (tl 0)]) (.fresh 5 (.hyp 0 5 (.br (.cmp .lss (tv 5) (tv 1))
 (tn (tl 0) (tv 5) (ts (tv 5) (.dlen (tv 3)) (.view (.vcell (tv 3) (tv 5) 8) [CK.int .u64,CK.int .u8] [4] 6 (.br (.cmp .gtr (.dlen (tv 8)) (tl 40))
 (.ret 0 (sg 5 [bt 5 (.bl true)]))
 (.back 0 5 (sg 1000 [bt 1000 (.arith .add .i64 (tv 5) (tl 1))]))))))
 (.ret 0 (sg 5 [bt 5 (.bl false)]))))))))
theorem quW:ql Try.prog qcH [] [qqk] qoA:=qe Try.func42 Try.call42 (by kernel_rfl)
theorem qel {d:qbm} {i:Int} {row:List Value} {c:Nat} (h:d[i.toNat]? = some row):qba d i c = row[c]?.getD .nilFunc:=by
 simp [qba,ja2,h]
theorem qlz:qcH.ok Try.prog:=quW (by simp) fun Z hg hp=>by
 obtain ⟨h1,h2,h3⟩:=hp;simp [qoA,qcH,qqk];have hbig:(150:Int) < big:=by decide
 refine ⟨by omega,fun h0=>⟨⟨by omega,h0⟩,fun u _ a0 a1 a2=>⟨fun hl=>⟨a0,by omega,?_⟩,fun _=>a2⟩⟩⟩;have hrow:=jae (show u.i.toNat < (Z 3).d.length by omega);obtain ⟨⟨t,ht,_⟩,_⟩:=h3 _ (jar hrow);refine ⟨t,by rw [qel hrow]; exact ht,fun _=>?_⟩;rw [show qk .add .i64 u.i 1 = IntKind.i64.wrap (u.i + 1) from rfl,qlb (by omega) (by omega)];omega
theorem qoj {d:qbm} {j:Int} (h0:0 <= j) (h1:j < d.length):(qb d)[j.toNat]? = some (qc d j 0,qc d j 1):=qaw h0 (by omega)
theorem qnz.round {me n k i0 i j:Int} {m:Mach} {dT dS dP:qbm} {np:Int} {dB box dN:qbm} (h:qnz me n k i0 i j m dT dS dP np dB box dN) (hm:m.tab = qb dT) :
  (j < n->0 <= j/\j < dB.length/\j < dN.length/\(qc dB j 0 <= qc dN j 0/\(qc dB j 0 = qc dN j 0->qc dB j 1 <= qc dN j 1)) /\
   (qc dB j 0 <= qc dN j 0->(qc dB j 0 = qc dN j 0->qc dB j 1 <= qc dN j 1) ->
    (j = me->0 < box.length/\(qc box 0 0 <= 2->(qc dN j 0 = qc dB j 0/\qc dN j 1 = qc dB j 1) /\
     (qc dN j 0 = qc dB j 0->qc dN j 1 = qc dB j 1->qnz me n k i0 i (IntKind.i64.wrap (j + 1)) m dT dS dP np dB box dN/\max (n - IntKind.i64.wrap (j + 1)) 0 < n - j)) /\
     (2 < qc box 0 0->qnz me n k i0 i (IntKind.i64.wrap (j + 1)) m dT dS dP np dB box dN/\max (n - IntKind.i64.wrap (j + 1)) 0 < n - j)) /\
    (¬ j = me->qnz me n k i0 i (IntKind.i64.wrap (j + 1)) m dT dS dP np dB box dN/\max (n - IntKind.i64.wrap (j + 1)) 0 < n - j))) /\
  (n <= j->q0z n k (IntKind.i64.wrap (i + 1)) m dT dS dP np dN/\max (k - IntKind.i64.wrap (i + 1)) 0 < k - i0):=by
 obtain ⟨a1,a2,a3,a4,a5,a6,a7,a8,a9,a10,a11,a12⟩:=h;have hn:=a4.2.1.2.1;have hn':=a4.1.1;rw [hm,qu] at hn;refine ⟨fun hj=>?_,fun hj=>?_⟩
 ·have hw:IntKind.i64.wrap (j + 1) = j + 1:=qlb (by omega) (by omega)
  rw [hw];have hnext:qnz me n k i0 i (j + 1) m dT dS dP np dB box dN/\max (n - (j + 1)) 0 < n - j:=⟨⟨a1,a2,a3,a4,a5,a6,a7,a8,a9,by omega,by omega,a12⟩,by omega⟩;have hB:=qoj (d:=dB) a10 (by omega);have hN:=qoj (d:=dN) a10 (by omega);obtain ⟨s1,s2⟩:=a8 _ _ _ hB hN;rw [qgc] at s1;refine ⟨a10,by omega,by omega,⟨by simp only at s1; omega,fun _=>by simp only at s1; omega⟩,fun _ _=>⟨fun hme=>⟨by omega,fun hk=>⟨?_,fun _ _=>hnext⟩,fun _=>hnext⟩,fun _=>hnext⟩⟩;have:=s2 (by omega) hk;simpa using this
 ·have hw:IntKind.i64.wrap (i + 1) = i + 1:=qlb (by omega) (by omega)
  rw [hw];exact ⟨⟨by omega,by omega,a3,a4,a6,a7⟩,by omega⟩
theorem qyf {me n inc:Int} (h2:2 <= n) (h16:n <= 16) (hs:0 <= me) (hs':me < n):qf7 (qc2 me n inc):=by
 refine ⟨?_,?_,?_,hs,?_,hs,?_,fun p hp=>by simp [qc2] at hp⟩ <;> simp [qc2] <;> omega
theorem GM.make {n i:Int} {m:Mach} {dT dS dP:qbm} {np:Int} (hT:(dT.length:Int) = n) (hm:m.tab = qb dT) (hs:m.since = qf dS) (h0:0 <= np) (h1:np <= dP.length) (h2:np <= i) (hW:GW m):GM n i m dT dS dP np:=by
 have hl:=hW.1.2.2.1;rw [hm,hs,qH,qu] at hl;exact ⟨⟨hT,by omega,h0,h1,h2⟩,hW⟩
theorem qov {m:Mach} {g:Msg} {t:List Ent}:(qab m g t).tab.length = m.tab.length:=by
 rcases qfl m g t with e | e <;> rw [e]
 exact qeZ
theorem qvi {me:Int} {dT dS dT' dP:qbm} {c q p np ch ch' v:Int} {lf:Bool} (h1:qb dT' = (qaM (qae me dT [] c q p 0 [] ch lf) v).tab) (h2:ch' = (qaM (qae me dT [] c q p 0 [] ch lf) v).chal) :
  qae me dT' dS c q p np dP ch' lf = qaM (qae me dT dS c q p np dP ch lf) v:=by
 have he:qbY (qae me dT [] c q p 0 [] ch lf) v = qbY (qae me dT dS c q p np dP ch lf) v:=rfl;unfold qaM at h1 h2 ⊢;rw [he] at h1 h2;by_cases h0:qbY (qae me dT dS c q p np dP ch lf) v = 0
 ·rw [jah h0] at h1 h2 ⊢
  simp only [qae] at h1 h2 ⊢;rw [h1,h2]
 ·rw [jaf h0] at h1 h2 ⊢
  simp only [qae] at h1 h2 ⊢;rw [h1,h2]
end Go.Proofs
namespace Go.Eng
open Go
def qxf:SV:=.one .vnilp
def qbX (fn:FuncId) (args:List SV) (ret:SV) (nv:Nat):Ctr:={ fn:=fn,nv:=nv,args:=qxf :: args,heap:=[],ro:=[],pre:=fun _=>True,alts:=[{ k:=0,ret:=ret,heap:=[],post:=fun _=>True }] }
def qbW:Ctr:=qbX 64 [] (.one (il .i64 1)) 0
def qgl:Ctr:=qbX 29 [iv .u64 (.var 0)] (.one .vnils) 1
def qeE:Ctr:=qbX 43 [iv .u64 (.var 0)] (.one (il .i64 1)) 1
def qeT:Ctr:=qbX 44 [] (.one .vnils) 0
def qeD:Ctr:=qbX 28 [] (.one .vnils) 0
def qgr:Ctr:=qbX 30 [] (.one .vnils) 0
def qeo:Ctr:=qbX 31 [] (.one .vnils) 0
def qeG:Ctr:=qbX 45 [] (.one (il .u64 0)) 0
def qgo:Ctr:=qbX 50 [] (.one (il .u64 0)) 0
def qhy:Ctr:=qbX 58 [.agg (qbS 0 (.var 6) 7)] (.tup [(false,[.vnils]),(false,[il .i64 1])]) 116
def qjY:List T:=[.vint .i64 (.lit 0),.vnils,.vint .u64 (.lit 0),.vint .u64 (.lit 0),.vint .i64 (.lit 0),.vnils,.vnils,.vint .u64 (.lit 0),.vbool (.bl false),.vbool (.bl true)]
def qfL (fn:FuncId) (args:List SV) (ret:List (Bool × List T)) (nv:Nat):Ctr:={ fn:=fn,nv:=nv,args:=.agg qjY :: args,heap:=[],ro:=[],pre:=fun _=>True,alts:=[{ k:=0,ret:=.tup ((true,qjY) :: ret),heap:=[],post:=fun _=>True }] }
def qhH:Ctr:=qfL 52 [iv .u64 (.var 0)] [(false,[.vnils])] 1
def qhP:Ctr:=qfL 53 [.agg (qbS 0 (.var 6) 7)] [(false,[.vnils]),(false,[il .i64 1])] 116
def qgg:Ctr:=qfL 54 [iv .u64 (.var 0)] [(false,[il .i64 1])] 1
def qgq:Ctr:=qfL 55 [] [(false,[.vnils])] 0
def qfO:Ctr:={ fn:=51,nv:=3,args:=[iv .i64 (.var 0),iv .i64 (.var 1),iv .u64 (.var 2)],heap:=[],ro:=[],pre:=fun Z=>0 <= (Z 2).i,alts:=[
 { k:=0,ret:=.tup [(true,qjY),(false,[.vint .i64 (.lit 2)])],heap:=[],post:=fun Z=>qa3 (Z 0).i (Z 1).i (Z 2).i = true },
 { k:=3,ret:=.tup [(true,rTm (.var 0) (.var 3) (.lit 0) (.lit 0) (.var 0) (.var 4) .vnils (.lit 0) (.bl false)),(false,[.vint .i64 (.lit 0)])],heap:=[.abs 5 4],post:=fun Z=>qa3 (Z 0).i (Z 1).i (Z 2).i = false/\rIs (Z 5).h (Z 3).v (Z 4).v (.slice none 0 0) (qc2 (Z 0).i (Z 1).i (Z 2).i).tab (qc2 (Z 0).i (Z 1).i (Z 2).i).since [] }] }
def qcK:Ctr:={ fn:=57,nv:=10,args:=[qfC 0 1 2,qfC 5 6 7],heap:=[],ro:=[pRo 0 3 4,pRo 5 8 9],pre:=fun Z=>(Z 1).i = (Z 3).d.length/\(Z 6).i = (Z 8).d.length/\(Z 1).i <= 10000000/\(Z 6).i <= 10000000,alts:=[{ k:=1,ret:=qdF 10,heap:=[],post:=fun Z=>(Z 10).b = true↔qt (Z 3).d = qt (Z 8).d }] }
def qq0:Inv:={ key:=4,nv:=1,env:=[(0,qfC 0 1 2),(1,qfC 5 6 7),(5,iv .i64 (.var 1000))],heap:=[],inv:=(fun Z=>0 <= (Z 1000).i/\(Z 1000).i <= (Z 1).i/\(Z 1).i = (Z 6).i/\(qt (Z 3).d).take (Z 1000).i.toNat = (qt (Z 8).d).take (Z 1000).i.toNat),mu:=(fun Z=>((Z 1).i - (Z 1000).i).toNat) }
def ckT:CK->Nat->T
 | .int k,n=>.vint k (.var n)
 | .bool,n=>.vbool (.var n)
 | _,n=>.var n
def qy6 (b:Nat):List T:=(List.range 116).map fun i=>ckT (qb0.getD i .any) (b + i)
def qy9 (Z:Env):Prop:=(∀ n ∈ ([9,10,11,12,13,14,15,16,17,18,19,20,21,22,23,24,25,26,27,28,29,30,31,32,33,34,35,36,37,38,39,40,41,44,45,46,47,48,49,50,51,52,53,54,55,56,57,58,59,60,61,62,63,64,65,66,67,68,69,70,71,72,73,74,75,76,77,78,79,80,81,82,83,84,85,86,87,88,89,90,91,92,93,94,95,96,97,98,99,100,101,102,103,104,105,106,107,108,109,110,111,113,115]:List Nat),(Z n).i = 0)/\(∀ n ∈ ([7,8,42,112,114]:List Nat),(Z n).v = .slice none 0 0)/\∀ n ∈ ([43]:List Nat),(Z n).b = false
def qg1:Ctr:={ fn:=80,nv:=234,ow:=[1003],ip:=[(1001,9)],args:=[.agg (qy6 0),.agg (qy6 116)],heap:=[],ro:=[.abs 232 2,.abs 233 4],pre:=fun Z=>(∀ n ∈ ([0,1,2,3,4,5]:List Nat),(Z n).i = (Z (n + 116)).i)/\qy9 Z/\∃ t:List Ent,RdT (Z 232).h (Z 6).v t/\RdT (Z 233).h (Z 122).v t/\(t.length:Int) <= 1000,alts:=[{ k:=1,ret:=qdF 234,heap:=[],post:=fun Z=>(Z 234).b = true }] }
def qcl:Ctr:={ fn:=56,nv:=12,ow:=[1003],ip:=[(1001,9)],args:=[rMs 0 1 2,rMs 5 6 7],heap:=[],ro:=[qbO 0 3 4,qbO 5 8 9,.abs 10 2,.abs 11 4],pre:=fun Z=>(Z 1).i = (Z 3).d.length/\(Z 6).i = (Z 8).d.length/\(Z 1).i <= 10000000/\∃ ms self t,qX (Z 10).h ms self t ms.length (Z 3).d/\qX (Z 11).h ms self t ms.length (Z 8).d/\(t.length:Int) <= 1000,alts:=[{ k:=1,ret:=qdF 12,heap:=[],post:=fun Z=>(Z 12).b = true }] }
def qnW:Inv:={ key:=4,nv:=1,env:=[(0,rMs 0 1 2),(1,rMs 5 6 7),(5,iv .i64 (.var 1000))],heap:=[],inv:=(fun Z=>0 <= (Z 1000).i/\(Z 1000).i <= (Z 1).i/\(Z 1).i = (Z 6).i),mu:=(fun Z=>((Z 1).i - (Z 1000).i).toNat) }
def qsH:Inv:={ key:=9,nv:=13,env:=[(1,qcf 1000),(2,qcf 1010),(4,rMs 1001 1002 1003),(5,qfH 1005 1006 1007),(6,iv .i64 (.var 1009))],heap:=[qcA 1010 qkf,qcA 1000 (rTm (.var 0) (.var 1011) (.var 2) (.var 3) (.var 4) (.var 5) (.var 6) (.var 7) (.bl true)),qbO 1001 1004 1003,iRo 1005 1008 1007,.abs 1012 4],inv:=(fun Z=>0 <= (Z 1009).i/\(Z 1009).i <= (Z 1006).i/\(Z 1006).i = (Z 1008).d.length/\(Z 1006).i <= 16/\(Z 1002).i = (Z 1004).d.length/\(Z 1002).i = (Z 1009).i/\∀ m,rB Z 0 9 m->m.left = false/\qf (Z 1008).d = qdQ (qU m.tab m.self)/\qC (Z 1004).d (((qdQ (qU m.tab m.self)).take (Z 1009).i.toNat).map qg9)/\rIs (Z 1012).h (Z 1011).v (Z 5).v (Z 6).v (qU m.tab m.self) m.since m.probes),mu:=(fun Z=>((Z 1006).i - (Z 1009).i).toNat) }
def qd7:Ctr:={ fn:=23,nv:=121,args:=[qxf,.agg (qbS 0 (.vslice 6 (.lit 0) (.var 7) (.var 8) 2) 11)],heap:=[],ro:=[.arr 6 25 qp (.var 9) (.var 10)],pre:=fun Z=>(Z 7).i = (Z 9).d.length/\(Z 7).i <= big,alts:=[{ k:=0,ret:=.tup [(false,[.vnils]),(false,[il .i64 1])],heap:=[],post:=fun _=>True }] }
def qk9:Inv:={ key:=4,nv:=5,env:=[(3,.one (.vptr 1002 (.lit 0) 0 0)),(6,.one .vnils),(7,.one (il .i64 1)),(8,iv .i64 (.var 1001))],heap:=[.cells 1002 43 (qbS 0 (.vslice 1000 (.lit 0) (.var 7) (.var 1004) 2) 11),.arr 1000 25 qp (.var 1003) (.var 1004)],inv:=(fun Z=>0 <= (Z 1001).i/\(Z 1001).i <= (Z 7).i/\(Z 1003).d.length = (Z 7).i),mu:=(fun Z=>((Z 7).i - (Z 1001).i).toNat) }
def qcv (Z:Env):Prop:=(Z 3).i = (Z 5).d.length/\(Z 3).i <= big/\qlL (Z 6).h (Z 5).d
def qao:Ctr:={ fn:=16,nv:=7,ow:=[1003,3091,3098,120184,120193],ip:=[(1001,9),(1005,7)],args:=[iv .i64 (.var 0),iv .i64 (.var 1),qkZ 2 3 4],heap:=[],ro:=[sRo 2 5 4,.abs 6 2],pre:=qcv,alts:=qc7.alts }
def qdb (n:Int) (d:qbm):Int:=if 0 < n/\qc d 0 0 = 0 then qc d 0 1 else 1
def qcP:Ctr:={ qao with pre:=fun Z=>qcv Z/\qa3 (Z 0).i (Z 1).i (qdb (Z 3).i (Z 5).d) = false }
def qeh:Ctr:={ qao with pre:=fun Z=>qcv Z/\qa3 (Z 0).i (Z 1).i (qdb (Z 3).i (Z 5).d) = true }
def qp6:Ctr:={ qep with pre:=fun Z=>qa3 (Z 0).i (Z 1).i (Z 2).i = false,alts:=qep.alts.drop 1 }
def qp8:Ctr:={ qep with pre:=fun Z=>qa3 (Z 0).i (Z 1).i (Z 2).i = true,alts:=qep.alts.take 1 }
def qmT:Ctr:={ qfO with pre:=fun Z=>qa3 (Z 0).i (Z 1).i (Z 2).i = false/\0 <= (Z 2).i,alts:=qfO.alts.drop 1 }
def qma:Ctr:={ qfO with pre:=fun Z=>qa3 (Z 0).i (Z 1).i (Z 2).i = true/\0 <= (Z 2).i,alts:=qfO.alts.take 1 }
def scE:List (Nat × SV):=[(0,iv .i64 (.var 0)),(1,iv .i64 (.var 1)),(2,qkZ 2 3 4),(8,ptr 1000),(10,qcf 1014),(12,iv .i64 (.var 1024))]
def scH:List SH:=qzL 1000 (.var 0) (.var 1) ++ [qcA 1014 (rTm (.var 0) (.var 1015) (.var 1018) (.var 1019) (.var 1020) (.var 1016) (.var 1017) (.var 1021) (.var 1022))]
def qkO (Z:Env) (m:Mach):Prop:=(Z 1018).i = m.clock/\(Z 1019).i = m.seq/\(Z 1020).i = m.pinged/\(Z 1021).i = m.chal/\(Z 1022).b = m.left/\rIs (Z 1023).h (Z 1015).v (Z 1016).v (Z 1017).v m.tab m.since m.probes
def scS (Z:Env) (i:Int):Prop:=GM (Z 1).i i (lMG Z 1000 (Z 0).i) (Z 1010).d (Z 1011).d (Z 1012).d (Z 1007).i/\qkO Z (lMG Z 1000 (Z 0).i)
def scI:Inv:={ key:=11,nv:=25,env:=scE,heap:=scH ++ [.abs 1023 4],inv:=(fun Z=>0 <= (Z 1024).i/\(Z 1024).i <= (Z 3).i/\(Z 3).i <= 150/\scS Z (Z 1024).i),mu:=(fun Z=>((Z 3).i - (Z 1024).i).toNat) }
def scJ:Inv:={ key:=1000029,nv:=36,env:=scE ++ [(14,rMs 1025 1026 1027),(15,rMs 1029 1030 1031),(16,iv .i64 (.var 1033)),(17,iv .i64 (.var 1034))],heap:=scH ++ [qbO 1025 1028 1027,qbO 1029 1032 1031,.abs 1035 2,.abs 1023 4],inv:=(fun Z=>((Z 1024).i = (Z 46).i/\0 <= (Z 1024).i/\(Z 1024).i < (Z 3).i/\(Z 3).i <= 150)/\scS Z ((Z 1024).i + 1)/\(Z 1033).i = (Z 1034).i/\((Z 1026).i = (Z 1028).d.length/\(Z 1030).i = (Z 1032).d.length/\(Z 1026).i <= 1000000)/\∃ ms self t,qX (Z 1035).h ms self t ms.length (Z 1028).d/\qX (Z 1023).h ms self t ms.length (Z 1032).d/\(t.length:Int) <= 1000),mu:=fun _=>0 }
def qeB (h:Hp) (d:qbm):Prop:=∀ (i:Nat) (row:List Value),d[i]? = some row->∃ e,Rd h qp (row[6]?.getD .nilFunc) e/\(e.length:Int) <= 1000/\atZ (row[6]?.getD .nilFunc)
def qxn:List (Nat × SV):=scE ++ [(14,rMs 1025 1026 1027)]
def qxb:List SH:=scH ++ [qbO 1025 1028 1027,.abs 1029 2,.abs 1023 4]
def qkU (Z:Env):Prop:=((Z 1024).i = (Z 46).i/\0 <= (Z 1024).i/\(Z 1024).i < (Z 3).i/\(Z 3).i <= 150)/\scS Z ((Z 1024).i + 1)/\((Z 1026).i = (Z 1028).d.length/\(Z 1026).i <= 1000000)/\qeB (Z 1029).h (Z 1028).d
def scK:Inv:={ key:=1000031,nv:=30,env:=qxn,heap:=qxb,inv:=qkU,mu:=fun _=>0 }
def scL:Inv:={ key:=32,nv:=31,env:=qxn ++ [(18,iv .i64 (.var 1030))],heap:=qxb,inv:=(fun Z=>qkU Z/\0 <= (Z 1030).i/\(Z 1030).i <= (Z 1026).i),mu:=(fun Z=>((Z 1026).i - (Z 1030).i).toNat) }
def scM:Inv:={ key:=35,nv:=32,env:=qxn ++ [(18,iv .i64 (.var 1030)),(19,iv .i64 (.var 1031))],heap:=qxb,inv:=(fun Z=>qkU Z/\0 <= (Z 1030).i/\(Z 1030).i < (Z 1026).i/\0 <= (Z 1031).i/\(Z 1031).i <= 1000/\(Z 1030).i = (Z 144).i/\(Z 1026).i = (Z 140).i),mu:=(fun Z=>(1001 - (Z 1031).i).toNat) }
def scR:Inv:={ key:=1000006,nv:=1,env:=[(0,iv .i64 (.var 0)),(1,iv .i64 (.var 1)),(2,qkZ 2 3 4),(7,iv .u64 (.var 1000))],heap:=[],inv:=(fun Z=>(Z 3).i <= 150/\(Z 1000).i = qdb (Z 3).i (Z 5).d),mu:=fun _=>0 }
def qx8:List (Nat × SV):=[(0,iv .i64 (.var 0)),(1,iv .i64 (.var 1)),(2,qkZ 2 3 4),(8,qxf),(10,qcf 1000),(12,iv .i64 (.var 1001))]
def scN:Inv:={ key:=11,nv:=3,env:=qx8,heap:=[qcA 1000 qjY,.abs 1002 4],inv:=(fun Z=>0 <= (Z 1001).i/\(Z 1001).i <= (Z 3).i/\(Z 3).i <= 150),mu:=(fun Z=>((Z 3).i - (Z 1001).i).toNat) }
def scO:Inv:={ key:=1000029,nv:=5,env:=qx8 ++ [(14,.one .vnils),(15,.one .vnils),(16,iv .i64 (.var 1003)),(17,iv .i64 (.var 1004))],heap:=[qcA 1000 qjY,.abs 1002 4],inv:=(fun Z=>((Z 1001).i = (Z 12).i/\0 <= (Z 1001).i/\(Z 1001).i < (Z 3).i/\(Z 3).i <= 150)/\(Z 1003).i = (Z 1004).i),mu:=fun _=>0 }
def qzF:List (Nat × SV):=qx8 ++ [(14,rMs 1004 1005 1006),(18,iv .i64 (.var 1003))]
def qzH:List SH:=[qcA 1000 qjY,qbO 1004 1007 1006,.abs 1009 2,.abs 1002 4]
def scP:Inv:={ key:=32,nv:=10,env:=qzF,heap:=qzH,inv:=(fun Z=>((Z 1001).i = (Z 12).i/\0 <= (Z 1001).i/\(Z 1001).i < (Z 3).i/\(Z 3).i <= 150)/\(Z 1003).i = 0/\(Z 1005).i = 0),mu:=fun _=>0 }
def scQ:Inv:={ key:=35,nv:=10,env:=qzF ++ [(19,iv .i64 (.var 1008))],heap:=qzH,inv:=fun _=>False,mu:=fun _=>0 }
end Go.Eng
set_option maxRecDepth 100000
namespace Go.Proofs
open Go Go.Eng
@[simp] def qhA:Sg:=sg 0 [bv 115 119,bv 114 118,bv 113 117,bv 112 116,bv 111 115,bv 110 114,bv 109 113,bv 108 112,bv 107 111,bv 106 110,bv 105 109,bv 104 108,bv 103 107,bv 102 106,bv 101 105,bv 100 104,bv 99 103,bv 98 102,bv 97 101,bv 96 100,bv 95 99,bv 94 98,bv 93 97,bv 92 96,bv 91 95,bv 90 94,bv 89 93,bv 88 92,bv 87 91,bv 86 90,bv 85 89,bv 84 88,bv 83 87,bv 82 86,bv 81 85,bv 80 84,bv 79 83,bv 78 82,bv 77 81,bv 76 80,bv 75 79,bv 74 78,bv 73 77,bv 72 76,bv 71 75,bv 70 74,bv 69 73,bv 68 72,bv 67 71,bv 66 70,bv 65 69,bv 64 68,bv 63 67,bv 62 66,bv 61 65,bv 60 64,bv 59 63,bv 58 62,bv 57 61,bv 56 60,bv 55 59,bv 54 58,bv 53 57,bv 52 56,bv 51 55,bv 50 54,bv 49 53,bv 48 52,bv 47 51,bv 46 50,bv 45 49,bv 44 48,bv 43 47,bv 42 46,bv 41 45,bv 40 44,bv 39 43,bv 38 42,bv 37 41,bv 36 40,bv 35 39,bv 34 38,bv 33 37,bv 32 36,bv 31 35,bv 30 34,bv 29 33,bv 28 32,bv 27 31,bv 26 30,bv 25 29,bv 24 28,bv 23 27,bv 22 26,bv 21 25,bv 20 24,bv 19 23,bv 18 22,bv 17 21,bv 16 20,bv 15 19,bv 14 18,bv 13 17,bv 12 16,bv 11 15,bv 10 14,bv 9 13,bv 8 12,bv 7 11,bt 6 (.vslice 122 (tl 0) (tv 7) (tv 123) 2),bv 5 5,bv 4 4,bv 3 3,bv 2 2,bv 1 1,bv 0 0]
def qjz:Out:=(.fresh 121 (.pre 0 (sg 0 [bv 4 10,bv 3 9,bv 2 8,bv 1 7,bg 0 6]) (tb (fr 122 3 (.post 0 0 (sg 0 [bv 4 10,bv 3 9,bv 2 8,bv 1 7,bg 0 6]) 122 (.pre 1 qhA (tb (.post 1 0 qhA 125 (.inv 0 125 (sg 1000 [bv 1003 124,bv 1004 123,bg 1000 122,bt 1001 (tl 0),bg 1002 121]) (fr 125 5 (.hyp 0 125 (tn (tl 0) (tv 7) (.br (.cmp .lss (tv 126) (tv 7))
 (tn (tl 0) (tv 126) (ts (tv 126) (.dlen (tv 128)) (.back 0 125 (sg 1000 [bt 1003 (.dput (tv 128) (tv 126) 0 (.rcons (.vint .u64 (tl 0)) (.rcons (tu (tl 0)) .rnil))),bv 1004 129,bg 1000 125,bt 1001 (.arith .add .i64 (tv 126) (tl 1)),bg 1002 127]))))
 (.ret 0 (sg 121 [])))))))))))))))
theorem qps:ql Try.prog qd7 [qgL,qhy] [qk9] qjz:=qe Try.func23 Try.call23 (by kernel_rfl)
def qus:Out:=(.hyp 5 145 (tn (tl 0) (tv 175) (ts (tv 175) (tv 171) (ts (tv 175) (.dlen (tv 173)) (.viewL (.vcell (tv 173) (tv 175) 6) [CK.int .u64,CK.int .u8] [174] 177 (.br (.cmp .lss (tv 176) (.dlen (tv 179)))
 (.viewL (.vcell (tv 173) (tv 175) 6) [CK.int .u64,CK.int .u8] [174] 180 (tn (tl 0) (tv 176) (ts (tv 176) (.dlen (tv 182)) (.put 174 180 [CK.int .u64,CK.int .u8] (tv 182) (tv 176) 0 [(.vint .u64 (tl 0)),(tu (tl 0))] 183 (.back 5 145 (sg 1000 [bg 1023 168,bg 1029 183,bv 1028 173,bv 1022 167,bv 1021 166,bv 1017 162,bv 1016 161,bv 1020 165,bv 1019 164,bv 1018 163,bv 1015 160,bv 1012 157,bv 1011 156,bv 1010 155,bv 1013 158,bv 1009 154,bv 1008 153,bv 1007 152,bg 1003 148,bv 1006 151,bv 1005 150,bv 1004 149,bg 1002 147,bg 1001 146,bt 1031 (.arith .add .i64 (tv 176) (tl 1)),bv 1030 175,bv 1027 172,bv 1026 171,bg 1025 170,bv 1024 169,bg 1014 159,bg 1000 145]))))))
 (.back 4 114 (sg 1000 [bg 1023 168,bg 1029 174,bv 1028 173,bv 1022 167,bv 1021 166,bv 1017 162,bv 1016 161,bv 1020 165,bv 1019 164,bv 1018 163,bv 1015 160,bv 1012 157,bv 1011 156,bv 1010 155,bv 1013 158,bv 1009 154,bv 1008 153,bv 1007 152,bg 1003 148,bv 1006 151,bv 1005 150,bv 1004 149,bg 1002 147,bg 1001 146,bt 1030 (.arith .add .i64 (tv 175) (tl 1)),bv 1027 172,bv 1026 171,bg 1025 170,bv 1024 169,bg 1014 159,bg 1000 145]))))))))
def quS:Out:=(.hyp 4 114 (.know (.cmp .leq (.dlen (tv 142)) (tv 141)) (tn (tl 0) (tv 140) (.br (.cmp .lss (tv 144) (tv 140))
 (.inv 5 145 (sg 1000 [bg 1023 137,bg 1029 143,bv 1028 142,bv 1022 136,bv 1021 135,bv 1017 131,bv 1016 130,bv 1020 134,bv 1019 133,bv 1018 132,bv 1015 129,bv 1012 126,bv 1011 125,bv 1010 124,bv 1013 127,bv 1009 123,bv 1008 122,bv 1007 121,bg 1003 117,bv 1006 120,bv 1005 119,bv 1004 118,bg 1002 116,bg 1001 115,bt 1031 (tl 0),bv 1030 144,bv 1027 141,bv 1026 140,bg 1025 139,bv 1024 138,bg 1014 128,bg 1000 114]) (fr 145 32 qus))
 (.pack [.arr 139 43 qb0 (tv 142) (tv 141),.abs 137 4] 145 (.back 1 22 (sg 1000 [bg 1023 145,bv 1022 136,bv 1021 135,bv 1017 131,bv 1016 130,bv 1020 134,bv 1019 133,bv 1018 132,bv 1015 129,bv 1012 126,bv 1011 125,bv 1010 124,bv 1013 127,bv 1009 123,bv 1008 122,bv 1007 121,bg 1003 117,bv 1006 120,bv 1005 119,bv 1004 118,bg 1002 116,bg 1001 115,bt 1024 (.arith .add .i64 (tv 138) (tl 1)),bg 1014 128,bg 1000 114])))))))
def quV:Out:=(.hyp 3 84 (.inv 4 114 (sg 1000 [bg 1023 107,bg 1029 113,bv 1028 112,bv 1022 106,bv 1021 105,bv 1017 101,bv 1016 100,bv 1020 104,bv 1019 103,bv 1018 102,bv 1015 99,bv 1012 96,bv 1011 95,bv 1010 94,bv 1013 97,bv 1009 93,bv 1008 92,bv 1007 91,bg 1003 87,bv 1006 90,bv 1005 89,bv 1004 88,bg 1002 86,bg 1001 85,bt 1030 (tl 0),bv 1027 111,bv 1026 110,bg 1025 109,bv 1024 108,bg 1014 98,bg 1000 84]) (fr 114 31 quS)))
@[simp] def qtp:Sg:=sg 0 [bv 9 89,bv 8 90,bv 4 86,bv 3 87,bv 7 89,bt 6 (.dlen (tv 90)),bg 5 88,bv 2 86,bv 1 1,bg 0 85]
@[simp] def qsV:Sg:=sg 0 [bg 11 71,bg 10 83,bv 9 79,bv 8 80,bv 4 75,bv 3 76,bv 7 79,bv 6 78,bg 5 77,bv 2 75,bv 1 74,bg 0 73]
@[simp] def qsu:Sg:=sg 0 [bv 9 109,bv 8 110,bv 4 106,bv 3 107,bv 7 109,bt 6 (.dlen (tv 110)),bg 5 108,bv 2 106,bv 1 105,bg 0 104]
@[simp] def qs6:Out:=.both (tb (tb (tb (tb (tb (tb (tb (tb (.stuck 7 0 0))))))))) .top
@[simp] def qtj:Sg:=sg 0 [bv 15 60,bv 17 61,bv 16 57,bv 14 56,bv 13 55,bg 12 51,bv 11 54,bv 10 53,bv 9 52,bv 7 1,bg 6 50,bv 4 1,bv 3 1,bg 2 49,bv 1 0,bg 0 48]
@[simp] def qke:Sg:=sg 0 [bv 17 61,bv 16 57,bt 12 (.vslice 51 (tl 0) (tv 55) (tv 56) 4),bv 11 54,bv 10 53,bv 9 52,bv 7 1,bg 6 50,bv 4 1,bv 3 1,bg 2 49,bv 1 0,bg 0 48]
@[simp] def qkb:Sg:=sg 0 [bv 5 58,bv 17 61,bv 16 57,bt 12 (.vslice 51 (tl 0) (tv 55) (tv 56) 4),bv 11 54,bv 10 53,bv 9 52,bv 7 1,bg 6 50,bv 4 1,bv 3 1,bg 2 49,bv 1 0,bg 0 48]
def qu1:Out:=(.hyp 2 48 (.both (.br (.cmp .neq (tv 81) (tv 82))
 (tb qs6)
 (tb (.know (.cmp .leq (.dlen (tv 76)) (tv 75)) (.know (.cmp .leq (.dlen (tv 80)) (tv 79)) (.pre 12 qsV (tb (.fresh 84 (.post 12 0 qsV 84 (.br (.not (tv 84))
 qs6
 (tb (.know (.cmp .leq (.dlen (tv 58)) (tv 1)) (.know (.cmp .leq (.dlen (tv 59)) (tv 1)) (.know (.cmp .leq (.dlen (tv 60)) (tv 56)) (.pre 13 qkb (tb (fr 85 3 (.post 13 0 qkb 85 (tb (.viewL (tv 63) [CK.int .u64,CK.int .u8] [83,71,6] 88 (.know (.cmp .leq (.dlen (tv 87)) (tv 86)) (.pre 14 qtp (tb (.fresh 91 (.post 14 0 qtp 91 (.br (.not (tv 91))
 (tb (tb (tb (tb (tb (tb (tb (.stuck 7 0 0))))))))
 (tb (.pre 15 qkb (tb (fr 92 4 (.post 15 0 qkb 92 (tb (.viewL (tv 63) [CK.int .u64,CK.int .u8] [83,71,6] 96 (.pre 16 (sg 0 [bv 4 97,bv 3 98,bv 2 97,bt 1 (.dlen (tv 98)),bg 0 96]) (tb (fr 99 4 (.post 16 0 (sg 0 [bv 4 97,bv 3 98,bv 2 97,bt 1 (.dlen (tv 98)),bg 0 96]) 99 (tb (.know (.cmp .leq (.dlen (tv 95)) (tv 94)) (.know (.cmp .leq (.dlen (tv 101)) (tv 100)) (.pre 17 (sg 0 [bv 9 100,bv 8 101,bv 4 94,bv 3 95,bv 7 100,bv 6 102,bg 5 99,bv 2 94,bv 1 93,bg 0 92]) (tb (.fresh 103 (.post 17 0 (sg 0 [bv 9 100,bv 8 101,bv 4 94,bv 3 95,bv 7 100,bv 6 102,bg 5 99,bv 2 94,bv 1 93,bg 0 92]) 103 (.br (.not (tv 103))
 (tb (tb (tb (tb (.stuck 7 0 0)))))
 (tb (.pre 18 qke (tb (.post 18 0 qke 104 (.br (.cmp .neq (tv 52) (tv 66))
 (tb (tb (tb (.stuck 7 0 0))))
 (tb (.pre 19 qke (tb (.post 19 0 qke 104 (.br (.cmp .neq (tv 57) (tv 69))
 (tb (tb (.stuck 7 0 0)))
 (tb (.pre 20 qtj (tb (fr 104 4 (.post 20 0 qtj 104 (tb (.viewL (tv 65) [CK.int .u64,CK.int .i64,CK.int .u64,CK.bool] [83,71,6] 108 (.know (.cmp .leq (.dlen (tv 107)) (tv 106)) (.pre 21 qsu (tb (.fresh 111 (.post 21 0 qsu 111 (.br (.not (tv 111))
 (.stuck 7 0 0)
 (.pack [.arr 104 63 [CK.int .u64,CK.int .i64,CK.int .u64,CK.bool] (tv 107) (tv 106),.arr 99 3 [CK.int .i64] (tv 101) (tv 100),.arr 92 3 [CK.int .i64] (tv 95) (tv 94),.arr 85 25 [CK.int .u64,CK.int .u8] (tv 87) (tv 86),.arr 77 43 qb0 (tv 80) (tv 79),.abs 83 2] 112 (.cut 3 84 (sg 1000 [bg 1023 71,bg 1029 112,bv 1028 76,bv 1022 70,bv 1021 69,bv 1017 65,bv 1016 64,bv 1020 68,bv 1019 67,bv 1018 66,bv 1015 63,bv 1012 60,bv 1011 59,bv 1010 58,bv 1013 61,bv 1009 57,bv 1008 56,bv 1007 55,bg 1003 51,bv 1006 54,bv 1005 53,bv 1004 52,bg 1002 50,bg 1001 49,bv 1027 75,bv 1026 74,bg 1025 73,bv 1024 72,bg 1014 62,bg 1000 48])))))))))))))))))))))))))))))))))))))))))))))))))))))))))))))))))))))) (fr 84 30 quV)))
@[simp] def qkc:Sg:=sg 0 [bg 9 45,bv 8 44,bv 7 43,bv 6 39,bv 5 38,bv 4 42,bv 3 41,bv 2 40,bv 1 37,bv 0 0]
@[simp] def qgk:Sg:=sg 0 [bg 10 45,bt 9 (.icell (tv 5) (tv 46) 1),bv 8 44,bv 7 43,bv 6 39,bv 5 38,bv 4 42,bv 3 41,bv 2 40,bv 1 37,bv 0 0]
@[simp] def qny:Sg:=sg 0 [bv 5 32,bv 17 35,bv 16 31,bt 12 (.vslice 25 (tl 0) (tv 29) (tv 30) 4),bv 11 28,bv 10 27,bv 9 26,bv 7 1,bg 6 24,bv 4 1,bv 3 1,bg 2 23,bv 1 0,bg 0 22]
@[simp] def qnj:Sg:=sg 0 [bv 15 34,bv 8 33,bv 5 32,bv 17 35,bv 16 31,bv 14 30,bv 13 29,bg 12 25,bv 11 28,bv 10 27,bv 9 26,bv 7 1,bg 6 24,bv 4 1,bv 3 1,bg 2 23,bv 1 0,bt 18 (.icell (tv 5) (tv 46) 1),bg 0 22]
@[simp] def qto:Sg:=sg 0 [bv 5 32,bv 17 35,bv 16 31,bt 12 (.vslice 25 (tl 0) (tv 29) (tv 30) 4),bv 11 28,bv 10 27,bv 9 26,bv 7 1,bg 6 24,bv 4 1,bv 3 1,bg 2 23,bv 1 0,bt 18 (.icell (tv 5) (tv 46) 1),bg 0 22]
@[simp] def qsS:Sg:=sg 0 [bv 19 59,bv 18 60,bg 129 45,bt 128 (ti (.icell (tv 5) (tv 46) 117)),bt 127 (.vcell (tv 5) (tv 46) 116),bt 126 (ti (.icell (tv 5) (tv 46) 115)),bt 125 (.vcell (tv 5) (tv 46) 114),bt 124 (tu (.icell (tv 5) (tv 46) 113)),bt 123 (tu (.icell (tv 5) (tv 46) 112)),bt 122 (tu (.icell (tv 5) (tv 46) 111)),bt 121 (tu (.icell (tv 5) (tv 46) 110)),bt 120 (tu (.icell (tv 5) (tv 46) 109)),bt 119 (tu (.icell (tv 5) (tv 46) 108)),bt 118 (tu (.icell (tv 5) (tv 46) 107)),bt 117 (tu (.icell (tv 5) (tv 46) 106)),bt 116 (tu (.icell (tv 5) (tv 46) 105)),bt 115 (tu (.icell (tv 5) (tv 46) 104)),bt 114 (tu (.icell (tv 5) (tv 46) 103)),bt 113 (tu (.icell (tv 5) (tv 46) 102)),bt 112 (tu (.icell (tv 5) (tv 46) 101)),bt 111 (tu (.icell (tv 5) (tv 46) 100)),bt 110 (tu (.icell (tv 5) (tv 46) 99)),bt 109 (tu (.icell (tv 5) (tv 46) 98)),bt 108 (tu (.icell (tv 5) (tv 46) 97)),bt 107 (tu (.icell (tv 5) (tv 46) 96)),bt 106 (tu (.icell (tv 5) (tv 46) 95)),bt 105 (tu (.icell (tv 5) (tv 46) 94)),bt 104 (tu (.icell (tv 5) (tv 46) 93)),bt 103 (tu (.icell (tv 5) (tv 46) 92)),bt 102 (tu (.icell (tv 5) (tv 46) 91)),bt 101 (tu (.icell (tv 5) (tv 46) 90)),bt 100 (tu (.icell (tv 5) (tv 46) 89)),bt 99 (tu (.icell (tv 5) (tv 46) 88)),bt 98 (tu (.icell (tv 5) (tv 46) 87)),bt 97 (tu (.icell (tv 5) (tv 46) 86)),bt 96 (tu (.icell (tv 5) (tv 46) 85)),bt 95 (tu (.icell (tv 5) (tv 46) 84)),bt 94 (tu (.icell (tv 5) (tv 46) 83)),bt 93 (tu (.icell (tv 5) (tv 46) 82)),bt 92 (ti (.icell (tv 5) (tv 46) 81)),bt 91 (ti (.icell (tv 5) (tv 46) 80)),bt 90 (ti (.icell (tv 5) (tv 46) 79)),bt 89 (ti (.icell (tv 5) (tv 46) 78)),bt 88 (tu (.icell (tv 5) (tv 46) 77)),bt 87 (tu (.icell (tv 5) (tv 46) 76)),bt 86 (tu (.icell (tv 5) (tv 46) 75)),bt 85 (tu (.icell (tv 5) (tv 46) 74)),bt 84 (tu (.icell (tv 5) (tv 46) 73)),bt 83 (tu (.icell (tv 5) (tv 46) 72)),bt 82 (tu (.icell (tv 5) (tv 46) 71)),bt 81 (tu (.icell (tv 5) (tv 46) 70)),bt 80 (tu (.icell (tv 5) (tv 46) 69)),bt 79 (tu (.icell (tv 5) (tv 46) 68)),bt 78 (tu (.icell (tv 5) (tv 46) 67)),bt 77 (tu (.icell (tv 5) (tv 46) 66)),bt 76 (tu (.icell (tv 5) (tv 46) 65)),bt 75 (tu (.icell (tv 5) (tv 46) 64)),bt 74 (tu (.icell (tv 5) (tv 46) 63)),bt 73 (tu (.icell (tv 5) (tv 46) 62)),bt 72 (tu (.icell (tv 5) (tv 46) 61)),bt 71 (tu (.icell (tv 5) (tv 46) 60)),bt 70 (tu (.icell (tv 5) (tv 46) 59)),bt 69 (tu (.icell (tv 5) (tv 46) 58)),bt 68 (tu (.icell (tv 5) (tv 46) 57)),bt 67 (tu (.icell (tv 5) (tv 46) 56)),bt 66 (tu (.icell (tv 5) (tv 46) 55)),bt 65 (tu (.icell (tv 5) (tv 46) 54)),bt 64 (tu (.icell (tv 5) (tv 46) 53)),bt 63 (tu (.icell (tv 5) (tv 46) 52)),bt 62 (tu (.icell (tv 5) (tv 46) 51)),bt 61 (tu (.icell (tv 5) (tv 46) 50)),bt 60 (tu (.icell (tv 5) (tv 46) 49)),bt 59 (tu (.icell (tv 5) (tv 46) 48)),bt 58 (tu (.icell (tv 5) (tv 46) 47)),bt 57 (tu (.icell (tv 5) (tv 46) 46)),bt 56 (.vbool (.bcell (tv 5) (tv 46) 45)),bt 55 (.vcell (tv 5) (tv 46) 44),bt 54 (tu (.icell (tv 5) (tv 46) 43)),bt 53 (tu (.icell (tv 5) (tv 46) 42)),bt 52 (tu (.icell (tv 5) (tv 46) 41)),bt 51 (tu (.icell (tv 5) (tv 46) 40)),bt 50 (tu (.icell (tv 5) (tv 46) 39)),bt 49 (tu (.icell (tv 5) (tv 46) 38)),bt 48 (tu (.icell (tv 5) (tv 46) 37)),bt 47 (tu (.icell (tv 5) (tv 46) 36)),bt 46 (tu (.icell (tv 5) (tv 46) 35)),bt 45 (tu (.icell (tv 5) (tv 46) 34)),bt 44 (tu (.icell (tv 5) (tv 46) 33)),bt 43 (tu (.icell (tv 5) (tv 46) 32)),bt 42 (tu (.icell (tv 5) (tv 46) 31)),bt 41 (tu (.icell (tv 5) (tv 46) 30)),bt 40 (tu (.icell (tv 5) (tv 46) 29)),bt 39 (tu (.icell (tv 5) (tv 46) 28)),bt 38 (tu (.icell (tv 5) (tv 46) 27)),bt 37 (tu (.icell (tv 5) (tv 46) 26)),bt 36 (tu (.icell (tv 5) (tv 46) 25)),bt 35 (tu (.icell (tv 5) (tv 46) 24)),bt 34 (tu (.icell (tv 5) (tv 46) 23)),bt 33 (tu (.icell (tv 5) (tv 46) 22)),bt 32 (tu (.icell (tv 5) (tv 46) 21)),bt 31 (tu (.icell (tv 5) (tv 46) 20)),bt 30 (tu (.icell (tv 5) (tv 46) 19)),bt 29 (tu (.icell (tv 5) (tv 46) 18)),bt 28 (tu (.icell (tv 5) (tv 46) 17)),bt 27 (tu (.icell (tv 5) (tv 46) 16)),bt 26 (tu (.icell (tv 5) (tv 46) 15)),bt 25 (tu (.icell (tv 5) (tv 46) 14)),bt 24 (tu (.icell (tv 5) (tv 46) 13)),bt 23 (tu (.icell (tv 5) (tv 46) 12)),bt 22 (ti (.icell (tv 5) (tv 46) 11)),bt 21 (.vcell (tv 5) (tv 46) 10),bt 20 (.vcell (tv 5) (tv 46) 9),bv 17 59,bt 16 (.dlen (tv 60)),bg 15 58,bt 14 (.icell (tv 5) (tv 46) 7),bt 13 (.icell (tv 5) (tv 46) 6),bt 12 (.icell (tv 5) (tv 46) 5),bt 11 (.icell (tv 5) (tv 46) 4),bt 10 (.icell (tv 5) (tv 46) 3),bt 9 (.icell (tv 5) (tv 46) 2),bv 8 44,bv 7 43,bv 6 39,bv 5 38,bv 4 42,bv 3 41,bv 2 40,bv 1 37,bv 0 0]
@[simp] def qtn:Sg:=sg 0 [bv 19 58,bv 18 59,bg 129 45,bt 128 (ti (.icell (tv 5) (tv 46) 117)),bt 127 (.vcell (tv 5) (tv 46) 116),bt 126 (ti (.icell (tv 5) (tv 46) 115)),bt 125 (.vcell (tv 5) (tv 46) 114),bt 124 (tu (.icell (tv 5) (tv 46) 113)),bt 123 (tu (.icell (tv 5) (tv 46) 112)),bt 122 (tu (.icell (tv 5) (tv 46) 111)),bt 121 (tu (.icell (tv 5) (tv 46) 110)),bt 120 (tu (.icell (tv 5) (tv 46) 109)),bt 119 (tu (.icell (tv 5) (tv 46) 108)),bt 118 (tu (.icell (tv 5) (tv 46) 107)),bt 117 (tu (.icell (tv 5) (tv 46) 106)),bt 116 (tu (.icell (tv 5) (tv 46) 105)),bt 115 (tu (.icell (tv 5) (tv 46) 104)),bt 114 (tu (.icell (tv 5) (tv 46) 103)),bt 113 (tu (.icell (tv 5) (tv 46) 102)),bt 112 (tu (.icell (tv 5) (tv 46) 101)),bt 111 (tu (.icell (tv 5) (tv 46) 100)),bt 110 (tu (.icell (tv 5) (tv 46) 99)),bt 109 (tu (.icell (tv 5) (tv 46) 98)),bt 108 (tu (.icell (tv 5) (tv 46) 97)),bt 107 (tu (.icell (tv 5) (tv 46) 96)),bt 106 (tu (.icell (tv 5) (tv 46) 95)),bt 105 (tu (.icell (tv 5) (tv 46) 94)),bt 104 (tu (.icell (tv 5) (tv 46) 93)),bt 103 (tu (.icell (tv 5) (tv 46) 92)),bt 102 (tu (.icell (tv 5) (tv 46) 91)),bt 101 (tu (.icell (tv 5) (tv 46) 90)),bt 100 (tu (.icell (tv 5) (tv 46) 89)),bt 99 (tu (.icell (tv 5) (tv 46) 88)),bt 98 (tu (.icell (tv 5) (tv 46) 87)),bt 97 (tu (.icell (tv 5) (tv 46) 86)),bt 96 (tu (.icell (tv 5) (tv 46) 85)),bt 95 (tu (.icell (tv 5) (tv 46) 84)),bt 94 (tu (.icell (tv 5) (tv 46) 83)),bt 93 (tu (.icell (tv 5) (tv 46) 82)),bt 92 (ti (.icell (tv 5) (tv 46) 81)),bt 91 (ti (.icell (tv 5) (tv 46) 80)),bt 90 (ti (.icell (tv 5) (tv 46) 79)),bt 89 (ti (.icell (tv 5) (tv 46) 78)),bt 88 (tu (.icell (tv 5) (tv 46) 77)),bt 87 (tu (.icell (tv 5) (tv 46) 76)),bt 86 (tu (.icell (tv 5) (tv 46) 75)),bt 85 (tu (.icell (tv 5) (tv 46) 74)),bt 84 (tu (.icell (tv 5) (tv 46) 73)),bt 83 (tu (.icell (tv 5) (tv 46) 72)),bt 82 (tu (.icell (tv 5) (tv 46) 71)),bt 81 (tu (.icell (tv 5) (tv 46) 70)),bt 80 (tu (.icell (tv 5) (tv 46) 69)),bt 79 (tu (.icell (tv 5) (tv 46) 68)),bt 78 (tu (.icell (tv 5) (tv 46) 67)),bt 77 (tu (.icell (tv 5) (tv 46) 66)),bt 76 (tu (.icell (tv 5) (tv 46) 65)),bt 75 (tu (.icell (tv 5) (tv 46) 64)),bt 74 (tu (.icell (tv 5) (tv 46) 63)),bt 73 (tu (.icell (tv 5) (tv 46) 62)),bt 72 (tu (.icell (tv 5) (tv 46) 61)),bt 71 (tu (.icell (tv 5) (tv 46) 60)),bt 70 (tu (.icell (tv 5) (tv 46) 59)),bt 69 (tu (.icell (tv 5) (tv 46) 58)),bt 68 (tu (.icell (tv 5) (tv 46) 57)),bt 67 (tu (.icell (tv 5) (tv 46) 56)),bt 66 (tu (.icell (tv 5) (tv 46) 55)),bt 65 (tu (.icell (tv 5) (tv 46) 54)),bt 64 (tu (.icell (tv 5) (tv 46) 53)),bt 63 (tu (.icell (tv 5) (tv 46) 52)),bt 62 (tu (.icell (tv 5) (tv 46) 51)),bt 61 (tu (.icell (tv 5) (tv 46) 50)),bt 60 (tu (.icell (tv 5) (tv 46) 49)),bt 59 (tu (.icell (tv 5) (tv 46) 48)),bt 58 (tu (.icell (tv 5) (tv 46) 47)),bt 57 (tu (.icell (tv 5) (tv 46) 46)),bt 56 (.vbool (.bcell (tv 5) (tv 46) 45)),bt 55 (.vcell (tv 5) (tv 46) 44),bt 54 (tu (.icell (tv 5) (tv 46) 43)),bt 53 (tu (.icell (tv 5) (tv 46) 42)),bt 52 (tu (.icell (tv 5) (tv 46) 41)),bt 51 (tu (.icell (tv 5) (tv 46) 40)),bt 50 (tu (.icell (tv 5) (tv 46) 39)),bt 49 (tu (.icell (tv 5) (tv 46) 38)),bt 48 (tu (.icell (tv 5) (tv 46) 37)),bt 47 (tu (.icell (tv 5) (tv 46) 36)),bt 46 (tu (.icell (tv 5) (tv 46) 35)),bt 45 (tu (.icell (tv 5) (tv 46) 34)),bt 44 (tu (.icell (tv 5) (tv 46) 33)),bt 43 (tu (.icell (tv 5) (tv 46) 32)),bt 42 (tu (.icell (tv 5) (tv 46) 31)),bt 41 (tu (.icell (tv 5) (tv 46) 30)),bt 40 (tu (.icell (tv 5) (tv 46) 29)),bt 39 (tu (.icell (tv 5) (tv 46) 28)),bt 38 (tu (.icell (tv 5) (tv 46) 27)),bt 37 (tu (.icell (tv 5) (tv 46) 26)),bt 36 (tu (.icell (tv 5) (tv 46) 25)),bt 35 (tu (.icell (tv 5) (tv 46) 24)),bt 34 (tu (.icell (tv 5) (tv 46) 23)),bt 33 (tu (.icell (tv 5) (tv 46) 22)),bt 32 (tu (.icell (tv 5) (tv 46) 21)),bt 31 (tu (.icell (tv 5) (tv 46) 20)),bt 30 (tu (.icell (tv 5) (tv 46) 19)),bt 29 (tu (.icell (tv 5) (tv 46) 18)),bt 28 (tu (.icell (tv 5) (tv 46) 17)),bt 27 (tu (.icell (tv 5) (tv 46) 16)),bt 26 (tu (.icell (tv 5) (tv 46) 15)),bt 25 (tu (.icell (tv 5) (tv 46) 14)),bt 24 (tu (.icell (tv 5) (tv 46) 13)),bt 23 (tu (.icell (tv 5) (tv 46) 12)),bt 22 (ti (.icell (tv 5) (tv 46) 11)),bt 21 (.vcell (tv 5) (tv 46) 10),bt 20 (.vcell (tv 5) (tv 46) 9),bv 17 58,bt 16 (.dlen (tv 59)),bg 15 57,bt 14 (.icell (tv 5) (tv 46) 7),bt 13 (.icell (tv 5) (tv 46) 6),bt 12 (.icell (tv 5) (tv 46) 5),bt 11 (.icell (tv 5) (tv 46) 4),bt 10 (.icell (tv 5) (tv 46) 3),bt 9 (.icell (tv 5) (tv 46) 2),bv 8 44,bv 7 43,bv 6 39,bv 5 38,bv 4 42,bv 3 41,bv 2 40,bv 1 37,bv 0 0]
@[simp] def qnH:Sg:=sg 0 [bv 28 49,bv 27 50,bv 15 34,bv 8 33,bv 5 32,bv 17 35,bv 16 31,bv 14 30,bv 13 29,bg 12 25,bv 11 28,bv 10 27,bv 9 26,bv 7 1,bg 6 24,bv 4 1,bv 3 1,bg 2 23,bv 1 0,bt 137 (ti (.icell (tv 5) (tv 46) 117)),bt 136 (.vcell (tv 5) (tv 46) 116),bt 135 (ti (.icell (tv 5) (tv 46) 115)),bt 134 (.vcell (tv 5) (tv 46) 114),bt 133 (tu (.icell (tv 5) (tv 46) 113)),bt 132 (tu (.icell (tv 5) (tv 46) 112)),bt 131 (tu (.icell (tv 5) (tv 46) 111)),bt 130 (tu (.icell (tv 5) (tv 46) 110)),bt 129 (tu (.icell (tv 5) (tv 46) 109)),bt 128 (tu (.icell (tv 5) (tv 46) 108)),bt 127 (tu (.icell (tv 5) (tv 46) 107)),bt 126 (tu (.icell (tv 5) (tv 46) 106)),bt 125 (tu (.icell (tv 5) (tv 46) 105)),bt 124 (tu (.icell (tv 5) (tv 46) 104)),bt 123 (tu (.icell (tv 5) (tv 46) 103)),bt 122 (tu (.icell (tv 5) (tv 46) 102)),bt 121 (tu (.icell (tv 5) (tv 46) 101)),bt 120 (tu (.icell (tv 5) (tv 46) 100)),bt 119 (tu (.icell (tv 5) (tv 46) 99)),bt 118 (tu (.icell (tv 5) (tv 46) 98)),bt 117 (tu (.icell (tv 5) (tv 46) 97)),bt 116 (tu (.icell (tv 5) (tv 46) 96)),bt 115 (tu (.icell (tv 5) (tv 46) 95)),bt 114 (tu (.icell (tv 5) (tv 46) 94)),bt 113 (tu (.icell (tv 5) (tv 46) 93)),bt 112 (tu (.icell (tv 5) (tv 46) 92)),bt 111 (tu (.icell (tv 5) (tv 46) 91)),bt 110 (tu (.icell (tv 5) (tv 46) 90)),bt 109 (tu (.icell (tv 5) (tv 46) 89)),bt 108 (tu (.icell (tv 5) (tv 46) 88)),bt 107 (tu (.icell (tv 5) (tv 46) 87)),bt 106 (tu (.icell (tv 5) (tv 46) 86)),bt 105 (tu (.icell (tv 5) (tv 46) 85)),bt 104 (tu (.icell (tv 5) (tv 46) 84)),bt 103 (tu (.icell (tv 5) (tv 46) 83)),bt 102 (tu (.icell (tv 5) (tv 46) 82)),bt 101 (ti (.icell (tv 5) (tv 46) 81)),bt 100 (ti (.icell (tv 5) (tv 46) 80)),bt 99 (ti (.icell (tv 5) (tv 46) 79)),bt 98 (ti (.icell (tv 5) (tv 46) 78)),bt 97 (tu (.icell (tv 5) (tv 46) 77)),bt 96 (tu (.icell (tv 5) (tv 46) 76)),bt 95 (tu (.icell (tv 5) (tv 46) 75)),bt 94 (tu (.icell (tv 5) (tv 46) 74)),bt 93 (tu (.icell (tv 5) (tv 46) 73)),bt 92 (tu (.icell (tv 5) (tv 46) 72)),bt 91 (tu (.icell (tv 5) (tv 46) 71)),bt 90 (tu (.icell (tv 5) (tv 46) 70)),bt 89 (tu (.icell (tv 5) (tv 46) 69)),bt 88 (tu (.icell (tv 5) (tv 46) 68)),bt 87 (tu (.icell (tv 5) (tv 46) 67)),bt 86 (tu (.icell (tv 5) (tv 46) 66)),bt 85 (tu (.icell (tv 5) (tv 46) 65)),bt 84 (tu (.icell (tv 5) (tv 46) 64)),bt 83 (tu (.icell (tv 5) (tv 46) 63)),bt 82 (tu (.icell (tv 5) (tv 46) 62)),bt 81 (tu (.icell (tv 5) (tv 46) 61)),bt 80 (tu (.icell (tv 5) (tv 46) 60)),bt 79 (tu (.icell (tv 5) (tv 46) 59)),bt 78 (tu (.icell (tv 5) (tv 46) 58)),bt 77 (tu (.icell (tv 5) (tv 46) 57)),bt 76 (tu (.icell (tv 5) (tv 46) 56)),bt 75 (tu (.icell (tv 5) (tv 46) 55)),bt 74 (tu (.icell (tv 5) (tv 46) 54)),bt 73 (tu (.icell (tv 5) (tv 46) 53)),bt 72 (tu (.icell (tv 5) (tv 46) 52)),bt 71 (tu (.icell (tv 5) (tv 46) 51)),bt 70 (tu (.icell (tv 5) (tv 46) 50)),bt 69 (tu (.icell (tv 5) (tv 46) 49)),bt 68 (tu (.icell (tv 5) (tv 46) 48)),bt 67 (tu (.icell (tv 5) (tv 46) 47)),bt 66 (tu (.icell (tv 5) (tv 46) 46)),bt 65 (.vbool (.bcell (tv 5) (tv 46) 45)),bt 64 (.vcell (tv 5) (tv 46) 44),bt 63 (tu (.icell (tv 5) (tv 46) 43)),bt 62 (tu (.icell (tv 5) (tv 46) 42)),bt 61 (tu (.icell (tv 5) (tv 46) 41)),bt 60 (tu (.icell (tv 5) (tv 46) 40)),bt 59 (tu (.icell (tv 5) (tv 46) 39)),bt 58 (tu (.icell (tv 5) (tv 46) 38)),bt 57 (tu (.icell (tv 5) (tv 46) 37)),bt 56 (tu (.icell (tv 5) (tv 46) 36)),bt 55 (tu (.icell (tv 5) (tv 46) 35)),bt 54 (tu (.icell (tv 5) (tv 46) 34)),bt 53 (tu (.icell (tv 5) (tv 46) 33)),bt 52 (tu (.icell (tv 5) (tv 46) 32)),bt 51 (tu (.icell (tv 5) (tv 46) 31)),bt 50 (tu (.icell (tv 5) (tv 46) 30)),bt 49 (tu (.icell (tv 5) (tv 46) 29)),bt 48 (tu (.icell (tv 5) (tv 46) 28)),bt 47 (tu (.icell (tv 5) (tv 46) 27)),bt 46 (tu (.icell (tv 5) (tv 46) 26)),bt 45 (tu (.icell (tv 5) (tv 46) 25)),bt 44 (tu (.icell (tv 5) (tv 46) 24)),bt 43 (tu (.icell (tv 5) (tv 46) 23)),bt 42 (tu (.icell (tv 5) (tv 46) 22)),bt 41 (tu (.icell (tv 5) (tv 46) 21)),bt 40 (tu (.icell (tv 5) (tv 46) 20)),bt 39 (tu (.icell (tv 5) (tv 46) 19)),bt 38 (tu (.icell (tv 5) (tv 46) 18)),bt 37 (tu (.icell (tv 5) (tv 46) 17)),bt 36 (tu (.icell (tv 5) (tv 46) 16)),bt 35 (tu (.icell (tv 5) (tv 46) 15)),bt 34 (tu (.icell (tv 5) (tv 46) 14)),bt 33 (tu (.icell (tv 5) (tv 46) 13)),bt 32 (tu (.icell (tv 5) (tv 46) 12)),bt 31 (ti (.icell (tv 5) (tv 46) 11)),bt 30 (.vcell (tv 5) (tv 46) 10),bt 29 (.vcell (tv 5) (tv 46) 9),bv 26 49,bt 25 (.dlen (tv 50)),bg 24 48,bt 23 (.icell (tv 5) (tv 46) 7),bt 22 (.icell (tv 5) (tv 46) 6),bt 21 (.icell (tv 5) (tv 46) 5),bt 20 (.icell (tv 5) (tv 46) 4),bt 19 (.icell (tv 5) (tv 46) 3),bt 18 (.icell (tv 5) (tv 46) 2),bg 0 22]
def qtH:Out:=(.hyp 1 22 (tn (tl 0) (tv 3) (.br (.cmp .lss (tv 46) (tv 3))
 (tn (tl 0) (tv 46) (ts (tv 46) (.dlen (tv 5)) (.fresh 47 (.both (.br (.cmp .eql (.icell (tv 5) (tv 46) 0) (tl 1))
 (.know (.cmp .leq (.dlen (tv 32)) (tv 1)) (.know (.cmp .leq (.dlen (tv 33)) (tv 1)) (.know (.cmp .leq (.dlen (tv 34)) (tv 30)) (.pre 4 qnj (.both (.post 4 0 qnj 48 (.pre 5 qgk (tb (fr 48 12 (.post 5 0 qgk 48 (.pack [.cells 47 87 ([(ti (.icell (tv 5) (tv 46) 0)),(.vint .u64 (.icell (tv 5) (tv 46) 1)),(tu (.icell (tv 5) (tv 46) 2)),(ti (.icell (tv 5) (tv 46) 3)),(ti (.icell (tv 5) (tv 46) 4)),(.vint .u64 (.icell (tv 5) (tv 46) 5)),(ti (.icell (tv 5) (tv 46) 6)),(ti (.icell (tv 5) (tv 46) 7)),(.vcell (tv 5) (tv 46) 8),(.vcell (tv 5) (tv 46) 9),(.vcell (tv 5) (tv 46) 10),(ti (.icell (tv 5) (tv 46) 11))] ++ (qa6 (tv 5) (tv 46) 12 42 ++ ([(tu (.icell (tv 5) (tv 46) 42)),(tu (.icell (tv 5) (tv 46) 43)),(.vcell (tv 5) (tv 46) 44),(.vbool (.bcell (tv 5) (tv 46) 45))] ++ (qa6 (tv 5) (tv 46) 46 76 ++ ([(tu (.icell (tv 5) (tv 46) 76)),(tu (.icell (tv 5) (tv 46) 77)),(ti (.icell (tv 5) (tv 46) 78)),(ti (.icell (tv 5) (tv 46) 79)),(ti (.icell (tv 5) (tv 46) 80)),(ti (.icell (tv 5) (tv 46) 81))] ++ (qa6 (tv 5) (tv 46) 82 112 ++ [(tu (.icell (tv 5) (tv 46) 112)),(tu (.icell (tv 5) (tv 46) 113)),(.vcell (tv 5) (tv 46) 114),(ti (.icell (tv 5) (tv 46) 115)),(.vcell (tv 5) (tv 46) 116),(ti (.icell (tv 5) (tv 46) 117))]))))))] 60 (.cut 2 48 (sg 1000 [bg 1023 58,bg 1035 60,bv 1032 57,bt 1028 .dnil,bv 1022 44,bv 1021 43,bv 1017 53,bv 1016 52,bv 1020 51,bv 1019 50,bv 1018 49,bv 1015 48,bv 1012 34,bv 1011 33,bv 1010 32,bv 1013 35,bv 1009 31,bv 1008 30,bv 1007 29,bg 1003 25,bv 1006 28,bv 1005 27,bv 1004 26,bg 1002 24,bg 1001 23,bt 1034 (tl 0),bt 1033 (tl 0),bv 1031 56,bv 1030 55,bg 1029 54,bt 1027 (tl 0),bt 1026 (tl 0),(1025,.nil),bv 1024 46,bg 1014 36,bg 1000 22])))))))) (tb (fr 48 14 (.post 4 1 qnj 48 (.pre 5 qgk (tb (fr 62 12 (.post 5 0 qgk 62 (.pack [.abs 61 2,.cells 47 87 ([(ti (.icell (tv 5) (tv 46) 0)),(.vint .u64 (.icell (tv 5) (tv 46) 1)),(tu (.icell (tv 5) (tv 46) 2)),(ti (.icell (tv 5) (tv 46) 3)),(ti (.icell (tv 5) (tv 46) 4)),(.vint .u64 (.icell (tv 5) (tv 46) 5)),(ti (.icell (tv 5) (tv 46) 6)),(ti (.icell (tv 5) (tv 46) 7)),(.vcell (tv 5) (tv 46) 8),(.vcell (tv 5) (tv 46) 9),(.vcell (tv 5) (tv 46) 10),(ti (.icell (tv 5) (tv 46) 11))] ++ (qa6 (tv 5) (tv 46) 12 42 ++ ([(tu (.icell (tv 5) (tv 46) 42)),(tu (.icell (tv 5) (tv 46) 43)),(.vcell (tv 5) (tv 46) 44),(.vbool (.bcell (tv 5) (tv 46) 45))] ++ (qa6 (tv 5) (tv 46) 46 76 ++ ([(tu (.icell (tv 5) (tv 46) 76)),(tu (.icell (tv 5) (tv 46) 77)),(ti (.icell (tv 5) (tv 46) 78)),(ti (.icell (tv 5) (tv 46) 79)),(ti (.icell (tv 5) (tv 46) 80)),(ti (.icell (tv 5) (tv 46) 81))] ++ (qa6 (tv 5) (tv 46) 82 112 ++ [(tu (.icell (tv 5) (tv 46) 112)),(tu (.icell (tv 5) (tv 46) 113)),(.vcell (tv 5) (tv 46) 114),(ti (.icell (tv 5) (tv 46) 115)),(.vcell (tv 5) (tv 46) 116),(ti (.icell (tv 5) (tv 46) 117))]))))))] 74 (.cut 2 48 (sg 1000 [bg 1023 72,bg 1035 74,bv 1032 71,bv 1028 60,bv 1022 44,bv 1021 43,bv 1017 67,bv 1016 66,bv 1020 65,bv 1019 64,bv 1018 63,bv 1015 62,bv 1012 59,bv 1011 58,bv 1010 57,bv 1013 35,bv 1009 31,bv 1008 55,bv 1007 54,bg 1003 56,bv 1006 53,bv 1005 52,bv 1004 51,bg 1002 24,bg 1001 23,bt 1034 (tl 0),bt 1033 (tl 0),bv 1031 70,bv 1030 69,bg 1029 68,bv 1027 50,bv 1026 49,bg 1025 48,bv 1024 46,bg 1014 36,bg 1000 22])))))))))))))))
 (.br (.cmp .eql (.icell (tv 5) (tv 46) 0) (tl 2))
 (.viewL (.vcell (tv 5) (tv 46) 8) [CK.int .u64,CK.int .u8] [6] 48 (.know (.cmp .leq (.dlen (tv 32)) (tv 1)) (.know (.cmp .leq (.dlen (tv 33)) (tv 1)) (.know (.cmp .leq (.dlen (tv 34)) (tv 30)) (.pre 6 qnH (.both (fr 51 6 (.post 6 0 qnH 51 (.viewL (.vcell (tv 5) (tv 46) 8) [CK.int .u64,CK.int .u8] [6] 57 (.pre 7 qtn (tb (fr 60 10 (.post 7 0 qtn 60 (.pack [.cells 47 87 ([(ti (.icell (tv 5) (tv 46) 0)),(.vint .u64 (.icell (tv 5) (tv 46) 1)),(tu (.icell (tv 5) (tv 46) 2)),(ti (.icell (tv 5) (tv 46) 3)),(ti (.icell (tv 5) (tv 46) 4)),(.vint .u64 (.icell (tv 5) (tv 46) 5)),(ti (.icell (tv 5) (tv 46) 6)),(ti (.icell (tv 5) (tv 46) 7)),(.vcell (tv 5) (tv 46) 8),(.vcell (tv 5) (tv 46) 9),(.vcell (tv 5) (tv 46) 10),(ti (.icell (tv 5) (tv 46) 11))] ++ (qa6 (tv 5) (tv 46) 12 42 ++ ([(tu (.icell (tv 5) (tv 46) 42)),(tu (.icell (tv 5) (tv 46) 43)),(.vcell (tv 5) (tv 46) 44),(.vbool (.bcell (tv 5) (tv 46) 45))] ++ (qa6 (tv 5) (tv 46) 46 76 ++ ([(tu (.icell (tv 5) (tv 46) 76)),(tu (.icell (tv 5) (tv 46) 77)),(ti (.icell (tv 5) (tv 46) 78)),(ti (.icell (tv 5) (tv 46) 79)),(ti (.icell (tv 5) (tv 46) 80)),(ti (.icell (tv 5) (tv 46) 81))] ++ (qa6 (tv 5) (tv 46) 82 112 ++ [(tu (.icell (tv 5) (tv 46) 112)),(tu (.icell (tv 5) (tv 46) 113)),(.vcell (tv 5) (tv 46) 114),(ti (.icell (tv 5) (tv 46) 115)),(.vcell (tv 5) (tv 46) 116),(ti (.icell (tv 5) (tv 46) 117))]))))))] 70 (.cut 2 48 (sg 1000 [bg 1023 69,bg 1035 70,bv 1032 68,bt 1028 .dnil,bv 1022 44,bv 1021 63,bv 1017 62,bv 1016 61,bv 1020 42,bv 1019 41,bv 1018 40,bv 1015 60,bv 1012 56,bv 1011 55,bv 1010 54,bv 1013 35,bv 1009 52,bv 1008 30,bv 1007 53,bg 1003 25,bv 1006 28,bv 1005 27,bv 1004 26,bg 1002 24,bg 1001 23,bv 1034 67,bv 1033 51,bv 1031 66,bv 1030 65,bg 1029 64,bt 1027 (tl 0),bt 1026 (tl 0),(1025,.nil),bv 1024 46,bg 1014 36,bg 1000 22])))))))))) (tb (fr 51 7 (.post 6 1 qnH 51 (.viewL (.vcell (tv 5) (tv 46) 8) [CK.int .u64,CK.int .u8] [6] 58 (.pre 7 qsS (tb (fr 61 10 (.post 7 0 qsS 61 (.pack [.abs 54 2,.cells 47 87 ([(ti (.icell (tv 5) (tv 46) 0)),(.vint .u64 (.icell (tv 5) (tv 46) 1)),(tu (.icell (tv 5) (tv 46) 2)),(ti (.icell (tv 5) (tv 46) 3)),(ti (.icell (tv 5) (tv 46) 4)),(.vint .u64 (.icell (tv 5) (tv 46) 5)),(ti (.icell (tv 5) (tv 46) 6)),(ti (.icell (tv 5) (tv 46) 7)),(.vcell (tv 5) (tv 46) 8),(.vcell (tv 5) (tv 46) 9),(.vcell (tv 5) (tv 46) 10),(ti (.icell (tv 5) (tv 46) 11))] ++ (qa6 (tv 5) (tv 46) 12 42 ++ ([(tu (.icell (tv 5) (tv 46) 42)),(tu (.icell (tv 5) (tv 46) 43)),(.vcell (tv 5) (tv 46) 44),(.vbool (.bcell (tv 5) (tv 46) 45))] ++ (qa6 (tv 5) (tv 46) 46 76 ++ ([(tu (.icell (tv 5) (tv 46) 76)),(tu (.icell (tv 5) (tv 46) 77)),(ti (.icell (tv 5) (tv 46) 78)),(ti (.icell (tv 5) (tv 46) 79)),(ti (.icell (tv 5) (tv 46) 80)),(ti (.icell (tv 5) (tv 46) 81))] ++ (qa6 (tv 5) (tv 46) 82 112 ++ [(tu (.icell (tv 5) (tv 46) 112)),(tu (.icell (tv 5) (tv 46) 113)),(.vcell (tv 5) (tv 46) 114),(ti (.icell (tv 5) (tv 46) 115)),(.vcell (tv 5) (tv 46) 116),(ti (.icell (tv 5) (tv 46) 117))]))))))] 71 (.cut 2 48 (sg 1000 [bg 1023 70,bg 1035 71,bv 1032 69,bv 1028 53,bv 1022 44,bv 1021 64,bv 1017 63,bv 1016 62,bv 1020 42,bv 1019 41,bv 1018 40,bv 1015 61,bv 1012 34,bv 1011 56,bv 1010 55,bv 1013 35,bv 1009 57,bv 1008 30,bv 1007 29,bg 1003 25,bv 1006 28,bv 1005 27,bv 1004 26,bg 1002 24,bg 1001 23,bv 1034 68,bt 1033 (tl 0),bv 1031 67,bv 1030 66,bg 1029 65,bv 1027 52,bt 1026 (tl 1),bg 1025 51,bv 1024 46,bg 1014 36,bg 1000 22])))))))))))))))))
 (.br (.cmp .eql (.icell (tv 5) (tv 46) 0) (tl 3))
 (.know (.cmp .leq (.dlen (tv 32)) (tv 1)) (.know (.cmp .leq (.dlen (tv 33)) (tv 1)) (.know (.cmp .leq (.dlen (tv 34)) (tv 30)) (.pre 8 qto (tb (fr 48 3 (.post 8 0 qto 48 (.pre 9 qgk (tb (fr 51 4 (.post 9 0 qgk 51 (.pack [.cells 47 87 ([(ti (.icell (tv 5) (tv 46) 0)),(.vint .u64 (.icell (tv 5) (tv 46) 1)),(tu (.icell (tv 5) (tv 46) 2)),(ti (.icell (tv 5) (tv 46) 3)),(ti (.icell (tv 5) (tv 46) 4)),(.vint .u64 (.icell (tv 5) (tv 46) 5)),(ti (.icell (tv 5) (tv 46) 6)),(ti (.icell (tv 5) (tv 46) 7)),(.vcell (tv 5) (tv 46) 8),(.vcell (tv 5) (tv 46) 9),(.vcell (tv 5) (tv 46) 10),(ti (.icell (tv 5) (tv 46) 11))] ++ (qa6 (tv 5) (tv 46) 12 42 ++ ([(tu (.icell (tv 5) (tv 46) 42)),(tu (.icell (tv 5) (tv 46) 43)),(.vcell (tv 5) (tv 46) 44),(.vbool (.bcell (tv 5) (tv 46) 45))] ++ (qa6 (tv 5) (tv 46) 46 76 ++ ([(tu (.icell (tv 5) (tv 46) 76)),(tu (.icell (tv 5) (tv 46) 77)),(ti (.icell (tv 5) (tv 46) 78)),(ti (.icell (tv 5) (tv 46) 79)),(ti (.icell (tv 5) (tv 46) 80)),(ti (.icell (tv 5) (tv 46) 81))] ++ (qa6 (tv 5) (tv 46) 82 112 ++ [(tu (.icell (tv 5) (tv 46) 112)),(tu (.icell (tv 5) (tv 46) 113)),(.vcell (tv 5) (tv 46) 114),(ti (.icell (tv 5) (tv 46) 115)),(.vcell (tv 5) (tv 46) 116),(ti (.icell (tv 5) (tv 46) 117))]))))))] 55 (.cut 2 48 (sg 1000 [bg 1023 54,bg 1035 55,bt 1032 .dnil,bt 1028 .dnil,bv 1022 44,bv 1021 52,bv 1017 39,bv 1016 38,bv 1020 42,bv 1019 41,bv 1018 40,bv 1015 51,bv 1012 34,bv 1011 33,bv 1010 49,bv 1013 35,bv 1009 50,bv 1008 30,bv 1007 29,bg 1003 25,bv 1006 28,bv 1005 27,bv 1004 26,bg 1002 24,bg 1001 23,bv 1034 53,bv 1033 48,bt 1031 (tl 0),bt 1030 (tl 0),(1029,.nil),bt 1027 (tl 0),bt 1026 (tl 0),(1025,.nil),bv 1024 46,bg 1014 36,bg 1000 22]))))))))))))))
 (.br (.cmp .eql (.icell (tv 5) (tv 46) 0) (tl 4))
 (.know (.cmp .leq (.dlen (tv 32)) (tv 1)) (.know (.cmp .leq (.dlen (tv 33)) (tv 1)) (.know (.cmp .leq (.dlen (tv 34)) (tv 30)) (.pre 10 qny (.both (.post 10 0 qny 48 (.pre 11 qkc (tb (fr 48 7 (.post 11 0 qkc 48 (.pack [.cells 47 87 ([(ti (.icell (tv 5) (tv 46) 0)),(.vint .u64 (.icell (tv 5) (tv 46) 1)),(tu (.icell (tv 5) (tv 46) 2)),(ti (.icell (tv 5) (tv 46) 3)),(ti (.icell (tv 5) (tv 46) 4)),(.vint .u64 (.icell (tv 5) (tv 46) 5)),(ti (.icell (tv 5) (tv 46) 6)),(ti (.icell (tv 5) (tv 46) 7)),(.vcell (tv 5) (tv 46) 8),(.vcell (tv 5) (tv 46) 9),(.vcell (tv 5) (tv 46) 10),(ti (.icell (tv 5) (tv 46) 11))] ++ (qa6 (tv 5) (tv 46) 12 42 ++ ([(tu (.icell (tv 5) (tv 46) 42)),(tu (.icell (tv 5) (tv 46) 43)),(.vcell (tv 5) (tv 46) 44),(.vbool (.bcell (tv 5) (tv 46) 45))] ++ (qa6 (tv 5) (tv 46) 46 76 ++ ([(tu (.icell (tv 5) (tv 46) 76)),(tu (.icell (tv 5) (tv 46) 77)),(ti (.icell (tv 5) (tv 46) 78)),(ti (.icell (tv 5) (tv 46) 79)),(ti (.icell (tv 5) (tv 46) 80)),(ti (.icell (tv 5) (tv 46) 81))] ++ (qa6 (tv 5) (tv 46) 82 112 ++ [(tu (.icell (tv 5) (tv 46) 112)),(tu (.icell (tv 5) (tv 46) 113)),(.vcell (tv 5) (tv 46) 114),(ti (.icell (tv 5) (tv 46) 115)),(.vcell (tv 5) (tv 46) 116),(ti (.icell (tv 5) (tv 46) 117))]))))))] 55 (.cut 2 48 (sg 1000 [bg 1023 54,bg 1035 55,bv 1032 53,bt 1028 .dnil,bv 1022 49,bv 1021 43,bv 1017 39,bv 1016 38,bv 1020 42,bv 1019 41,bv 1018 40,bv 1015 48,bv 1012 34,bv 1011 33,bv 1010 32,bv 1013 35,bv 1009 31,bv 1008 30,bv 1007 29,bg 1003 25,bv 1006 28,bv 1005 27,bv 1004 26,bg 1002 24,bg 1001 23,bt 1034 (tl 0),bt 1033 (tl 0),bv 1031 52,bv 1030 51,bg 1029 50,bt 1027 (tl 0),bt 1026 (tl 0),(1025,.nil),bv 1024 46,bg 1014 36,bg 1000 22])))))))) (tb (fr 48 6 (.post 10 1 qny 48 (.pre 11 qkc (tb (fr 54 7 (.post 11 0 qkc 54 (.pack [.abs 53 2,.cells 47 87 ([(ti (.icell (tv 5) (tv 46) 0)),(.vint .u64 (.icell (tv 5) (tv 46) 1)),(tu (.icell (tv 5) (tv 46) 2)),(ti (.icell (tv 5) (tv 46) 3)),(ti (.icell (tv 5) (tv 46) 4)),(.vint .u64 (.icell (tv 5) (tv 46) 5)),(ti (.icell (tv 5) (tv 46) 6)),(ti (.icell (tv 5) (tv 46) 7)),(.vcell (tv 5) (tv 46) 8),(.vcell (tv 5) (tv 46) 9),(.vcell (tv 5) (tv 46) 10),(ti (.icell (tv 5) (tv 46) 11))] ++ (qa6 (tv 5) (tv 46) 12 42 ++ ([(tu (.icell (tv 5) (tv 46) 42)),(tu (.icell (tv 5) (tv 46) 43)),(.vcell (tv 5) (tv 46) 44),(.vbool (.bcell (tv 5) (tv 46) 45))] ++ (qa6 (tv 5) (tv 46) 46 76 ++ ([(tu (.icell (tv 5) (tv 46) 76)),(tu (.icell (tv 5) (tv 46) 77)),(ti (.icell (tv 5) (tv 46) 78)),(ti (.icell (tv 5) (tv 46) 79)),(ti (.icell (tv 5) (tv 46) 80)),(ti (.icell (tv 5) (tv 46) 81))] ++ (qa6 (tv 5) (tv 46) 82 112 ++ [(tu (.icell (tv 5) (tv 46) 112)),(tu (.icell (tv 5) (tv 46) 113)),(.vcell (tv 5) (tv 46) 114),(ti (.icell (tv 5) (tv 46) 115)),(.vcell (tv 5) (tv 46) 116),(ti (.icell (tv 5) (tv 46) 117))]))))))] 61 (.cut 2 48 (sg 1000 [bg 1023 60,bg 1035 61,bv 1032 59,bv 1028 52,bv 1022 55,bv 1021 43,bv 1017 39,bv 1016 38,bv 1020 42,bv 1019 41,bv 1018 40,bv 1015 54,bv 1012 34,bv 1011 33,bv 1010 51,bt 1013 (.bl true),bv 1009 31,bv 1008 30,bv 1007 29,bg 1003 25,bv 1006 28,bv 1005 27,bv 1004 26,bg 1002 24,bg 1001 23,bt 1034 (tl 0),bt 1033 (tl 0),bv 1031 58,bv 1030 57,bg 1029 56,bv 1027 50,bv 1026 49,bg 1025 48,bv 1024 46,bg 1014 36,bg 1000 22])))))))))))))))
 (.pack [.cells 47 87 ([(ti (.icell (tv 5) (tv 46) 0)),(.vint .u64 (.icell (tv 5) (tv 46) 1)),(tu (.icell (tv 5) (tv 46) 2)),(ti (.icell (tv 5) (tv 46) 3)),(ti (.icell (tv 5) (tv 46) 4)),(.vint .u64 (.icell (tv 5) (tv 46) 5)),(ti (.icell (tv 5) (tv 46) 6)),(ti (.icell (tv 5) (tv 46) 7)),(.vcell (tv 5) (tv 46) 8),(.vcell (tv 5) (tv 46) 9),(.vcell (tv 5) (tv 46) 10),(ti (.icell (tv 5) (tv 46) 11))] ++ (qa6 (tv 5) (tv 46) 12 42 ++ ([(tu (.icell (tv 5) (tv 46) 42)),(tu (.icell (tv 5) (tv 46) 43)),(.vcell (tv 5) (tv 46) 44),(.vbool (.bcell (tv 5) (tv 46) 45))] ++ (qa6 (tv 5) (tv 46) 46 76 ++ ([(tu (.icell (tv 5) (tv 46) 76)),(tu (.icell (tv 5) (tv 46) 77)),(ti (.icell (tv 5) (tv 46) 78)),(ti (.icell (tv 5) (tv 46) 79)),(ti (.icell (tv 5) (tv 46) 80)),(ti (.icell (tv 5) (tv 46) 81))] ++ (qa6 (tv 5) (tv 46) 82 112 ++ [(tu (.icell (tv 5) (tv 46) 112)),(tu (.icell (tv 5) (tv 46) 113)),(.vcell (tv 5) (tv 46) 114),(ti (.icell (tv 5) (tv 46) 115)),(.vcell (tv 5) (tv 46) 116),(ti (.icell (tv 5) (tv 46) 117))]))))))] 48 (.cut 2 48 (sg 1000 [bg 1023 45,bg 1035 48,bt 1032 .dnil,bt 1028 .dnil,bv 1022 44,bv 1021 43,bv 1017 39,bv 1016 38,bv 1020 42,bv 1019 41,bv 1018 40,bv 1015 37,bv 1012 34,bv 1011 33,bv 1010 32,bv 1013 35,bv 1009 31,bv 1008 30,bv 1007 29,bg 1003 25,bv 1006 28,bv 1005 27,bv 1004 26,bg 1002 24,bg 1001 23,bt 1034 (tl 0),bt 1033 (tl 0),bt 1031 (tl 0),bt 1030 (tl 0),(1029,.nil),bt 1027 (tl 0),bt 1026 (tl 0),(1025,.nil),bv 1024 46,bg 1014 36,bg 1000 22]))))))) (fr 48 36 qu1)))))
 (.pre 0 (sg 0 []) (tb (.post 0 0 (sg 0 []) 47 (.ret 0 (sg 7 []))))))))
def qtQ:Out:=(.hyp 0 8 (.pre 2 (sg 0 [bv 2 8,bv 1 1,bv 0 0]) (tb (fr 9 9 (.post 2 0 (sg 0 [bv 2 8,bv 1 1,bv 0 0]) 9 (.pre 3 (sg 0 [bv 2 8,bv 1 1,bv 0 0]) (tb (fr 18 3 (.post 3 0 (sg 0 [bv 2 8,bv 1 1,bv 0 0]) 18 (.fresh 21 (.inv 1 22 (sg 1000 [bg 1023 20,bt 1022 (.bl false),bt 1021 (tl 0),bt 1017 .vnils,bv 1016 19,bv 1020 0,bt 1019 (tl 0),bt 1018 (tl 0),bv 1015 18,bv 1012 17,bv 1011 13,bv 1010 12,bt 1013 (.bl false),bt 1009 (tl 0),bv 1008 16,bv 1007 15,bg 1003 14,bv 1006 0,bt 1005 (tl 0),bt 1004 (tl 0),bg 1002 11,bg 1001 10,bt 1024 (tl 0),bg 1014 21,bg 1000 9]) (fr 22 25 qtH))))))))))))
def qpN:Out:=(.pre 1 (sg 0 [bg 4 6,bv 3 5,bv 2 4,bv 1 3,bg 0 2]) (tb (.fresh 7 (.post 1 0 (sg 0 [bg 4 6,bv 3 5,bv 2 4,bv 1 3,bg 0 2]) 7 (.br (tv 7)
 (.pre 0 (sg 0 []) (tb (.post 0 0 (sg 0 []) 8 (.ret 0 (sg 7 [])))))
 (.both (tn (tl 0) (tv 3) (.br (.cmp .gtr (tv 3) (tl 0))
 (ts (tl 0) (tv 3) (ts (tl 0) (.dlen (tv 5)) (.br (.cmp .eql (.icell (tv 5) (tl 0) 0) (tl 0))
 (.cut 0 8 (sg 1000 [bt 1000 (.icell (tv 5) (tl 0) 1)]))
 (.cut 0 8 (sg 1000 [bt 1000 (tl 1)])))))
 (.cut 0 8 (sg 1000 [bt 1000 (tl 1)])))) (.fresh 8 qtQ)))))))
theorem qwO:ql Try.prog qcP [qR,qcH,qp6,qmT,qgn,qhE,qd3,qhL,qeA,qge,qeW,qgh,qcl,qeC,qc3,qgj,qbe,qbF,qe9,qc5,qek,qcK] [scR,scI,scJ,scK,scL,scM] qpN:=qe Try.func16 Try.call16 (by kernel_rfl)
def q0p:Out:=(.hyp 4 39 (tn (tl 0) (tv 42) (ts (tv 42) (tv 44) (ts (tv 42) (.dlen (tv 46)) (.viewL (.vcell (tv 46) (tv 42) 6) [CK.int .u64,CK.int .u8] [48] 49 (.br (.cmp .lss (tv 47) (.dlen (tv 51)))
 (.viewL (.vcell (tv 46) (tv 42) 6) [CK.int .u64,CK.int .u8] [48] 52 (tn (tl 0) (tv 47) (ts (tv 47) (.dlen (tv 54)) (.put 48 52 [CK.int .u64,CK.int .u8] (tv 54) (tv 47) 0 [(.vint .u64 (tl 0)),(tu (tl 0))] 55 (.back 4 39 (sg 1000 [bg 1002 41,bg 1009 55,bv 1007 46,bt 1008 (.arith .add .i64 (tv 47) (tl 1)),bv 1003 42,bv 1006 45,bv 1005 44,bg 1004 43,bv 1001 40,bg 1000 39]))))))
 (.back 3 29 (sg 1000 [bg 1002 41,bg 1009 48,bv 1007 46,bt 1003 (.arith .add .i64 (tv 42) (tl 1)),bv 1006 45,bv 1005 44,bg 1004 43,bv 1001 40,bg 1000 39]))))))))
def qvk:Out:=(.hyp 3 29 (.know (.cmp .leq (.dlen (tv 36)) (tv 35)) (tn (tl 0) (tv 34) (.br (.cmp .lss (tv 32) (tv 34))
 (.inv 4 39 (sg 1000 [bg 1002 31,bg 1009 38,bv 1007 36,bt 1008 (tl 0),bv 1003 32,bv 1006 35,bv 1005 34,bg 1004 33,bv 1001 30,bg 1000 29]) (fr 39 10 q0p))
 (.pack [.arr 33 43 qb0 (tv 36) (tv 35),.abs 31 4] 39 (.back 1 11 (sg 1000 [bg 1002 39,bt 1001 (.arith .add .i64 (tv 30) (tl 1)),bg 1000 29])))))))
@[simp] def qte:Sg:=sg 0 [bv 9 23,bv 8 24,bt 4 (tl 0),bt 3 .dnil,bv 7 23,bv 6 25,bg 5 22,bt 2 (tl 0),bt 1 (tl 0),(0,.nil)]
@[simp] def qs1:Out:=.both (tb (tb (tb (tb (tb (tb (tb (tb (.stuck 7 0 0))))))))) .top
@[simp] def qkj:Sg:=sg 0 [bt 9 (tl 0),bt 8 .dnil,bt 4 (tl 0),bt 3 .dnil,bt 7 (tl 0),bt 6 (tl 0),(5,.nil),bt 2 (tl 0),bt 1 (tl 0),(0,.nil)]
@[simp] def qth:Sg:=sg 0 [bg 11 17,bg 10 6,bt 9 (tl 0),bt 8 .dnil,bt 4 (tl 0),bt 3 .dnil,bt 7 (tl 0),bt 6 (tl 0),(5,.nil),bt 2 (tl 0),bt 1 (tl 0),(0,.nil)]
def qtW:Out:=(.hyp 2 15 (.br (.cmp .neq (tv 18) (tv 19))
 (tb qs1)
 (tb (.pre 12 qth (tb (.fresh 20 (.post 12 0 qth 20 (.br (.not (tv 20))
 qs1
 (tb (.pre 13 (sg 0 []) (tb (.post 13 0 (sg 0 []) 21 (tb (.pre 14 qkj (tb (.fresh 21 (.post 14 0 qkj 21 (.br (.not (tv 21))
 (tb (tb (tb (tb (tb (tb (tb (.stuck 7 0 0))))))))
 (tb (.pre 15 (sg 0 []) (tb (.post 15 0 (sg 0 []) 22 (tb (.pre 16 (sg 0 [bt 4 (tl 0),bt 3 .dnil,bt 2 (tl 0),bt 1 (tl 0),(0,.nil)]) (tb (fr 22 4 (.post 16 0 (sg 0 [bt 4 (tl 0),bt 3 .dnil,bt 2 (tl 0),bt 1 (tl 0),(0,.nil)]) 22 (tb (.know (.cmp .leq (.dlen (tv 24)) (tv 23)) (.pre 17 qte (tb (.fresh 26 (.post 17 0 qte 26 (.br (.not (tv 26))
 (tb (tb (tb (tb (.stuck 7 0 0)))))
 (tb (.pre 18 (sg 0 []) (tb (.post 18 0 (sg 0 []) 27 (tb (.pre 19 (sg 0 []) (tb (.post 19 0 (sg 0 []) 27 (tb (.pre 20 (sg 0 []) (tb (.post 20 0 (sg 0 []) 27 (tb (.pre 21 qkj (tb (.fresh 27 (.post 21 0 qkj 27 (.br (.not (tv 27))
 (.stuck 7 0 0)
 (.pack [.arr 22 3 [CK.int .i64] (tv 24) (tv 23)] 28 (.inv 3 29 (sg 1000 [bg 1002 17,bg 1009 28,bt 1007 .dnil,bt 1003 (tl 0),bt 1006 (tl 0),bt 1005 (tl 0),(1004,.nil),bv 1001 16,bg 1000 15]) (fr 29 10 qvk)))))))))))))))))))))))))))))))))))))))))))))))))))))))
@[simp] def qns:Out:=.pack [.cells 14 87 ([(ti (.icell (tv 5) (tv 12) 0)),(.vint .u64 (.icell (tv 5) (tv 12) 1)),(tu (.icell (tv 5) (tv 12) 2)),(ti (.icell (tv 5) (tv 12) 3)),(ti (.icell (tv 5) (tv 12) 4)),(.vint .u64 (.icell (tv 5) (tv 12) 5)),(ti (.icell (tv 5) (tv 12) 6)),(ti (.icell (tv 5) (tv 12) 7)),(.vcell (tv 5) (tv 12) 8),(.vcell (tv 5) (tv 12) 9),(.vcell (tv 5) (tv 12) 10),(ti (.icell (tv 5) (tv 12) 11))] ++ (qa6 (tv 5) (tv 12) 12 42 ++ ([(tu (.icell (tv 5) (tv 12) 42)),(tu (.icell (tv 5) (tv 12) 43)),(.vcell (tv 5) (tv 12) 44),(.vbool (.bcell (tv 5) (tv 12) 45))] ++ (qa6 (tv 5) (tv 12) 46 76 ++ ([(tu (.icell (tv 5) (tv 12) 76)),(tu (.icell (tv 5) (tv 12) 77)),(ti (.icell (tv 5) (tv 12) 78)),(ti (.icell (tv 5) (tv 12) 79)),(ti (.icell (tv 5) (tv 12) 80)),(ti (.icell (tv 5) (tv 12) 81))] ++ (qa6 (tv 5) (tv 12) 82 112 ++ [(tu (.icell (tv 5) (tv 12) 112)),(tu (.icell (tv 5) (tv 12) 113)),(.vcell (tv 5) (tv 12) 114),(ti (.icell (tv 5) (tv 12) 115)),(.vcell (tv 5) (tv 12) 116),(ti (.icell (tv 5) (tv 12) 117))])))))),.abs 13 4] 15 (.cut 2 15 (sg 1000 [bg 1002 15,bt 1004 (tl 0),bt 1003 (tl 0),bv 1001 12,bg 1000 11]))
@[simp] def qsL:Sg:=sg 0 [bt 115 (ti (.icell (tv 5) (tv 12) 117)),bt 114 (.vcell (tv 5) (tv 12) 116),bt 113 (ti (.icell (tv 5) (tv 12) 115)),bt 112 (.vcell (tv 5) (tv 12) 114),bt 111 (tu (.icell (tv 5) (tv 12) 113)),bt 110 (tu (.icell (tv 5) (tv 12) 112)),bt 109 (tu (.icell (tv 5) (tv 12) 111)),bt 108 (tu (.icell (tv 5) (tv 12) 110)),bt 107 (tu (.icell (tv 5) (tv 12) 109)),bt 106 (tu (.icell (tv 5) (tv 12) 108)),bt 105 (tu (.icell (tv 5) (tv 12) 107)),bt 104 (tu (.icell (tv 5) (tv 12) 106)),bt 103 (tu (.icell (tv 5) (tv 12) 105)),bt 102 (tu (.icell (tv 5) (tv 12) 104)),bt 101 (tu (.icell (tv 5) (tv 12) 103)),bt 100 (tu (.icell (tv 5) (tv 12) 102)),bt 99 (tu (.icell (tv 5) (tv 12) 101)),bt 98 (tu (.icell (tv 5) (tv 12) 100)),bt 97 (tu (.icell (tv 5) (tv 12) 99)),bt 96 (tu (.icell (tv 5) (tv 12) 98)),bt 95 (tu (.icell (tv 5) (tv 12) 97)),bt 94 (tu (.icell (tv 5) (tv 12) 96)),bt 93 (tu (.icell (tv 5) (tv 12) 95)),bt 92 (tu (.icell (tv 5) (tv 12) 94)),bt 91 (tu (.icell (tv 5) (tv 12) 93)),bt 90 (tu (.icell (tv 5) (tv 12) 92)),bt 89 (tu (.icell (tv 5) (tv 12) 91)),bt 88 (tu (.icell (tv 5) (tv 12) 90)),bt 87 (tu (.icell (tv 5) (tv 12) 89)),bt 86 (tu (.icell (tv 5) (tv 12) 88)),bt 85 (tu (.icell (tv 5) (tv 12) 87)),bt 84 (tu (.icell (tv 5) (tv 12) 86)),bt 83 (tu (.icell (tv 5) (tv 12) 85)),bt 82 (tu (.icell (tv 5) (tv 12) 84)),bt 81 (tu (.icell (tv 5) (tv 12) 83)),bt 80 (tu (.icell (tv 5) (tv 12) 82)),bt 79 (ti (.icell (tv 5) (tv 12) 81)),bt 78 (ti (.icell (tv 5) (tv 12) 80)),bt 77 (ti (.icell (tv 5) (tv 12) 79)),bt 76 (ti (.icell (tv 5) (tv 12) 78)),bt 75 (tu (.icell (tv 5) (tv 12) 77)),bt 74 (tu (.icell (tv 5) (tv 12) 76)),bt 73 (tu (.icell (tv 5) (tv 12) 75)),bt 72 (tu (.icell (tv 5) (tv 12) 74)),bt 71 (tu (.icell (tv 5) (tv 12) 73)),bt 70 (tu (.icell (tv 5) (tv 12) 72)),bt 69 (tu (.icell (tv 5) (tv 12) 71)),bt 68 (tu (.icell (tv 5) (tv 12) 70)),bt 67 (tu (.icell (tv 5) (tv 12) 69)),bt 66 (tu (.icell (tv 5) (tv 12) 68)),bt 65 (tu (.icell (tv 5) (tv 12) 67)),bt 64 (tu (.icell (tv 5) (tv 12) 66)),bt 63 (tu (.icell (tv 5) (tv 12) 65)),bt 62 (tu (.icell (tv 5) (tv 12) 64)),bt 61 (tu (.icell (tv 5) (tv 12) 63)),bt 60 (tu (.icell (tv 5) (tv 12) 62)),bt 59 (tu (.icell (tv 5) (tv 12) 61)),bt 58 (tu (.icell (tv 5) (tv 12) 60)),bt 57 (tu (.icell (tv 5) (tv 12) 59)),bt 56 (tu (.icell (tv 5) (tv 12) 58)),bt 55 (tu (.icell (tv 5) (tv 12) 57)),bt 54 (tu (.icell (tv 5) (tv 12) 56)),bt 53 (tu (.icell (tv 5) (tv 12) 55)),bt 52 (tu (.icell (tv 5) (tv 12) 54)),bt 51 (tu (.icell (tv 5) (tv 12) 53)),bt 50 (tu (.icell (tv 5) (tv 12) 52)),bt 49 (tu (.icell (tv 5) (tv 12) 51)),bt 48 (tu (.icell (tv 5) (tv 12) 50)),bt 47 (tu (.icell (tv 5) (tv 12) 49)),bt 46 (tu (.icell (tv 5) (tv 12) 48)),bt 45 (tu (.icell (tv 5) (tv 12) 47)),bt 44 (tu (.icell (tv 5) (tv 12) 46)),bt 43 (.vbool (.bcell (tv 5) (tv 12) 45)),bt 42 (.vcell (tv 5) (tv 12) 44),bt 41 (tu (.icell (tv 5) (tv 12) 43)),bt 40 (tu (.icell (tv 5) (tv 12) 42)),bt 39 (tu (.icell (tv 5) (tv 12) 41)),bt 38 (tu (.icell (tv 5) (tv 12) 40)),bt 37 (tu (.icell (tv 5) (tv 12) 39)),bt 36 (tu (.icell (tv 5) (tv 12) 38)),bt 35 (tu (.icell (tv 5) (tv 12) 37)),bt 34 (tu (.icell (tv 5) (tv 12) 36)),bt 33 (tu (.icell (tv 5) (tv 12) 35)),bt 32 (tu (.icell (tv 5) (tv 12) 34)),bt 31 (tu (.icell (tv 5) (tv 12) 33)),bt 30 (tu (.icell (tv 5) (tv 12) 32)),bt 29 (tu (.icell (tv 5) (tv 12) 31)),bt 28 (tu (.icell (tv 5) (tv 12) 30)),bt 27 (tu (.icell (tv 5) (tv 12) 29)),bt 26 (tu (.icell (tv 5) (tv 12) 28)),bt 25 (tu (.icell (tv 5) (tv 12) 27)),bt 24 (tu (.icell (tv 5) (tv 12) 26)),bt 23 (tu (.icell (tv 5) (tv 12) 25)),bt 22 (tu (.icell (tv 5) (tv 12) 24)),bt 21 (tu (.icell (tv 5) (tv 12) 23)),bt 20 (tu (.icell (tv 5) (tv 12) 22)),bt 19 (tu (.icell (tv 5) (tv 12) 21)),bt 18 (tu (.icell (tv 5) (tv 12) 20)),bt 17 (tu (.icell (tv 5) (tv 12) 19)),bt 16 (tu (.icell (tv 5) (tv 12) 18)),bt 15 (tu (.icell (tv 5) (tv 12) 17)),bt 14 (tu (.icell (tv 5) (tv 12) 16)),bt 13 (tu (.icell (tv 5) (tv 12) 15)),bt 12 (tu (.icell (tv 5) (tv 12) 14)),bt 11 (tu (.icell (tv 5) (tv 12) 13)),bt 10 (tu (.icell (tv 5) (tv 12) 12)),bt 9 (ti (.icell (tv 5) (tv 12) 11)),bt 8 (.vcell (tv 5) (tv 12) 10),bt 7 (.vcell (tv 5) (tv 12) 9),bt 6 (.vcell (tv 5) (tv 12) 8),bt 5 (.icell (tv 5) (tv 12) 7),bt 4 (.icell (tv 5) (tv 12) 6),bt 3 (.icell (tv 5) (tv 12) 5),bt 2 (.icell (tv 5) (tv 12) 4),bt 1 (.icell (tv 5) (tv 12) 3),bt 0 (.icell (tv 5) (tv 12) 2)]
@[simp] def qsZ:Sg:=sg 0 [bv 10 16,bv 9 17,bt 119 (ti (.icell (tv 5) (tv 12) 117)),bt 118 (.vcell (tv 5) (tv 12) 116),bt 117 (ti (.icell (tv 5) (tv 12) 115)),bt 116 (.vcell (tv 5) (tv 12) 114),bt 115 (tu (.icell (tv 5) (tv 12) 113)),bt 114 (tu (.icell (tv 5) (tv 12) 112)),bt 113 (tu (.icell (tv 5) (tv 12) 111)),bt 112 (tu (.icell (tv 5) (tv 12) 110)),bt 111 (tu (.icell (tv 5) (tv 12) 109)),bt 110 (tu (.icell (tv 5) (tv 12) 108)),bt 109 (tu (.icell (tv 5) (tv 12) 107)),bt 108 (tu (.icell (tv 5) (tv 12) 106)),bt 107 (tu (.icell (tv 5) (tv 12) 105)),bt 106 (tu (.icell (tv 5) (tv 12) 104)),bt 105 (tu (.icell (tv 5) (tv 12) 103)),bt 104 (tu (.icell (tv 5) (tv 12) 102)),bt 103 (tu (.icell (tv 5) (tv 12) 101)),bt 102 (tu (.icell (tv 5) (tv 12) 100)),bt 101 (tu (.icell (tv 5) (tv 12) 99)),bt 100 (tu (.icell (tv 5) (tv 12) 98)),bt 99 (tu (.icell (tv 5) (tv 12) 97)),bt 98 (tu (.icell (tv 5) (tv 12) 96)),bt 97 (tu (.icell (tv 5) (tv 12) 95)),bt 96 (tu (.icell (tv 5) (tv 12) 94)),bt 95 (tu (.icell (tv 5) (tv 12) 93)),bt 94 (tu (.icell (tv 5) (tv 12) 92)),bt 93 (tu (.icell (tv 5) (tv 12) 91)),bt 92 (tu (.icell (tv 5) (tv 12) 90)),bt 91 (tu (.icell (tv 5) (tv 12) 89)),bt 90 (tu (.icell (tv 5) (tv 12) 88)),bt 89 (tu (.icell (tv 5) (tv 12) 87)),bt 88 (tu (.icell (tv 5) (tv 12) 86)),bt 87 (tu (.icell (tv 5) (tv 12) 85)),bt 86 (tu (.icell (tv 5) (tv 12) 84)),bt 85 (tu (.icell (tv 5) (tv 12) 83)),bt 84 (tu (.icell (tv 5) (tv 12) 82)),bt 83 (ti (.icell (tv 5) (tv 12) 81)),bt 82 (ti (.icell (tv 5) (tv 12) 80)),bt 81 (ti (.icell (tv 5) (tv 12) 79)),bt 80 (ti (.icell (tv 5) (tv 12) 78)),bt 79 (tu (.icell (tv 5) (tv 12) 77)),bt 78 (tu (.icell (tv 5) (tv 12) 76)),bt 77 (tu (.icell (tv 5) (tv 12) 75)),bt 76 (tu (.icell (tv 5) (tv 12) 74)),bt 75 (tu (.icell (tv 5) (tv 12) 73)),bt 74 (tu (.icell (tv 5) (tv 12) 72)),bt 73 (tu (.icell (tv 5) (tv 12) 71)),bt 72 (tu (.icell (tv 5) (tv 12) 70)),bt 71 (tu (.icell (tv 5) (tv 12) 69)),bt 70 (tu (.icell (tv 5) (tv 12) 68)),bt 69 (tu (.icell (tv 5) (tv 12) 67)),bt 68 (tu (.icell (tv 5) (tv 12) 66)),bt 67 (tu (.icell (tv 5) (tv 12) 65)),bt 66 (tu (.icell (tv 5) (tv 12) 64)),bt 65 (tu (.icell (tv 5) (tv 12) 63)),bt 64 (tu (.icell (tv 5) (tv 12) 62)),bt 63 (tu (.icell (tv 5) (tv 12) 61)),bt 62 (tu (.icell (tv 5) (tv 12) 60)),bt 61 (tu (.icell (tv 5) (tv 12) 59)),bt 60 (tu (.icell (tv 5) (tv 12) 58)),bt 59 (tu (.icell (tv 5) (tv 12) 57)),bt 58 (tu (.icell (tv 5) (tv 12) 56)),bt 57 (tu (.icell (tv 5) (tv 12) 55)),bt 56 (tu (.icell (tv 5) (tv 12) 54)),bt 55 (tu (.icell (tv 5) (tv 12) 53)),bt 54 (tu (.icell (tv 5) (tv 12) 52)),bt 53 (tu (.icell (tv 5) (tv 12) 51)),bt 52 (tu (.icell (tv 5) (tv 12) 50)),bt 51 (tu (.icell (tv 5) (tv 12) 49)),bt 50 (tu (.icell (tv 5) (tv 12) 48)),bt 49 (tu (.icell (tv 5) (tv 12) 47)),bt 48 (tu (.icell (tv 5) (tv 12) 46)),bt 47 (.vbool (.bcell (tv 5) (tv 12) 45)),bt 46 (.vcell (tv 5) (tv 12) 44),bt 45 (tu (.icell (tv 5) (tv 12) 43)),bt 44 (tu (.icell (tv 5) (tv 12) 42)),bt 43 (tu (.icell (tv 5) (tv 12) 41)),bt 42 (tu (.icell (tv 5) (tv 12) 40)),bt 41 (tu (.icell (tv 5) (tv 12) 39)),bt 40 (tu (.icell (tv 5) (tv 12) 38)),bt 39 (tu (.icell (tv 5) (tv 12) 37)),bt 38 (tu (.icell (tv 5) (tv 12) 36)),bt 37 (tu (.icell (tv 5) (tv 12) 35)),bt 36 (tu (.icell (tv 5) (tv 12) 34)),bt 35 (tu (.icell (tv 5) (tv 12) 33)),bt 34 (tu (.icell (tv 5) (tv 12) 32)),bt 33 (tu (.icell (tv 5) (tv 12) 31)),bt 32 (tu (.icell (tv 5) (tv 12) 30)),bt 31 (tu (.icell (tv 5) (tv 12) 29)),bt 30 (tu (.icell (tv 5) (tv 12) 28)),bt 29 (tu (.icell (tv 5) (tv 12) 27)),bt 28 (tu (.icell (tv 5) (tv 12) 26)),bt 27 (tu (.icell (tv 5) (tv 12) 25)),bt 26 (tu (.icell (tv 5) (tv 12) 24)),bt 25 (tu (.icell (tv 5) (tv 12) 23)),bt 24 (tu (.icell (tv 5) (tv 12) 22)),bt 23 (tu (.icell (tv 5) (tv 12) 21)),bt 22 (tu (.icell (tv 5) (tv 12) 20)),bt 21 (tu (.icell (tv 5) (tv 12) 19)),bt 20 (tu (.icell (tv 5) (tv 12) 18)),bt 19 (tu (.icell (tv 5) (tv 12) 17)),bt 18 (tu (.icell (tv 5) (tv 12) 16)),bt 17 (tu (.icell (tv 5) (tv 12) 15)),bt 16 (tu (.icell (tv 5) (tv 12) 14)),bt 15 (tu (.icell (tv 5) (tv 12) 13)),bt 14 (tu (.icell (tv 5) (tv 12) 12)),bt 13 (ti (.icell (tv 5) (tv 12) 11)),bt 12 (.vcell (tv 5) (tv 12) 10),bt 11 (.vcell (tv 5) (tv 12) 9),bv 8 16,bt 7 (.dlen (tv 17)),bg 6 15,bt 5 (.icell (tv 5) (tv 12) 7),bt 4 (.icell (tv 5) (tv 12) 6),bt 3 (.icell (tv 5) (tv 12) 5),bt 2 (.icell (tv 5) (tv 12) 4),bt 1 (.icell (tv 5) (tv 12) 3),bt 0 (.icell (tv 5) (tv 12) 2)]
def qvr:Out:=(.hyp 1 11 (tn (tl 0) (tv 3) (.br (.cmp .lss (tv 12) (tv 3))
 (tn (tl 0) (tv 12) (ts (tv 12) (.dlen (tv 5)) (.fresh 14 (.both (.br (.cmp .eql (.icell (tv 5) (tv 12) 0) (tl 1))
 (.pre 4 (sg 0 [bt 0 (.icell (tv 5) (tv 12) 1)]) (tb (.post 4 0 (sg 0 [bt 0 (.icell (tv 5) (tv 12) 1)]) 15 (.pre 5 (sg 0 [bt 0 (.icell (tv 5) (tv 12) 1)]) (tb (.post 5 0 (sg 0 [bt 0 (.icell (tv 5) (tv 12) 1)]) 15 qns))))))
 (.br (.cmp .eql (.icell (tv 5) (tv 12) 0) (tl 2))
 (.viewL (.vcell (tv 5) (tv 12) 8) [CK.int .u64,CK.int .u8] [6] 15 (.pre 6 qsZ (tb (.post 6 0 qsZ 18 (.pre 7 qsL (tb (.post 7 0 qsL 18 (.pack [.cells 14 87 ([(ti (.icell (tv 5) (tv 12) 0)),(.vint .u64 (.icell (tv 5) (tv 12) 1)),(tu (.icell (tv 5) (tv 12) 2)),(ti (.icell (tv 5) (tv 12) 3)),(ti (.icell (tv 5) (tv 12) 4)),(.vint .u64 (.icell (tv 5) (tv 12) 5)),(ti (.icell (tv 5) (tv 12) 6)),(ti (.icell (tv 5) (tv 12) 7)),(.vcell (tv 5) (tv 12) 8),(.vcell (tv 5) (tv 12) 9),(.vcell (tv 5) (tv 12) 10),(ti (.icell (tv 5) (tv 12) 11))] ++ (qa6 (tv 5) (tv 12) 12 42 ++ ([(tu (.icell (tv 5) (tv 12) 42)),(tu (.icell (tv 5) (tv 12) 43)),(.vcell (tv 5) (tv 12) 44),(.vbool (.bcell (tv 5) (tv 12) 45))] ++ (qa6 (tv 5) (tv 12) 46 76 ++ ([(tu (.icell (tv 5) (tv 12) 76)),(tu (.icell (tv 5) (tv 12) 77)),(ti (.icell (tv 5) (tv 12) 78)),(ti (.icell (tv 5) (tv 12) 79)),(ti (.icell (tv 5) (tv 12) 80)),(ti (.icell (tv 5) (tv 12) 81))] ++ (qa6 (tv 5) (tv 12) 82 112 ++ [(tu (.icell (tv 5) (tv 12) 112)),(tu (.icell (tv 5) (tv 12) 113)),(.vcell (tv 5) (tv 12) 114),(ti (.icell (tv 5) (tv 12) 115)),(.vcell (tv 5) (tv 12) 116),(ti (.icell (tv 5) (tv 12) 117))])))))),.abs 13 4] 18 (.cut 2 15 (sg 1000 [bg 1002 18,bt 1004 (tl 1),bt 1003 (tl 1),bv 1001 12,bg 1000 11]))))))))))
 (.br (.cmp .eql (.icell (tv 5) (tv 12) 0) (tl 3))
 (.pre 8 (sg 0 [bt 0 (.icell (tv 5) (tv 12) 1)]) (tb (.post 8 0 (sg 0 [bt 0 (.icell (tv 5) (tv 12) 1)]) 15 (.pre 9 (sg 0 [bt 0 (.icell (tv 5) (tv 12) 1)]) (tb (.post 9 0 (sg 0 [bt 0 (.icell (tv 5) (tv 12) 1)]) 15 (.pack [.cells 14 87 ([(ti (.icell (tv 5) (tv 12) 0)),(.vint .u64 (.icell (tv 5) (tv 12) 1)),(tu (.icell (tv 5) (tv 12) 2)),(ti (.icell (tv 5) (tv 12) 3)),(ti (.icell (tv 5) (tv 12) 4)),(.vint .u64 (.icell (tv 5) (tv 12) 5)),(ti (.icell (tv 5) (tv 12) 6)),(ti (.icell (tv 5) (tv 12) 7)),(.vcell (tv 5) (tv 12) 8),(.vcell (tv 5) (tv 12) 9),(.vcell (tv 5) (tv 12) 10),(ti (.icell (tv 5) (tv 12) 11))] ++ (qa6 (tv 5) (tv 12) 12 42 ++ ([(tu (.icell (tv 5) (tv 12) 42)),(tu (.icell (tv 5) (tv 12) 43)),(.vcell (tv 5) (tv 12) 44),(.vbool (.bcell (tv 5) (tv 12) 45))] ++ (qa6 (tv 5) (tv 12) 46 76 ++ ([(tu (.icell (tv 5) (tv 12) 76)),(tu (.icell (tv 5) (tv 12) 77)),(ti (.icell (tv 5) (tv 12) 78)),(ti (.icell (tv 5) (tv 12) 79)),(ti (.icell (tv 5) (tv 12) 80)),(ti (.icell (tv 5) (tv 12) 81))] ++ (qa6 (tv 5) (tv 12) 82 112 ++ [(tu (.icell (tv 5) (tv 12) 112)),(tu (.icell (tv 5) (tv 12) 113)),(.vcell (tv 5) (tv 12) 114),(ti (.icell (tv 5) (tv 12) 115)),(.vcell (tv 5) (tv 12) 116),(ti (.icell (tv 5) (tv 12) 117))])))))),.abs 13 4] 15 (.cut 2 15 (sg 1000 [bg 1002 15,bt 1004 (tl 1),bt 1003 (tl 1),bv 1001 12,bg 1000 11])))))))))
 (.br (.cmp .eql (.icell (tv 5) (tv 12) 0) (tl 4))
 (.pre 10 (sg 0 []) (tb (.post 10 0 (sg 0 []) 15 (.pre 11 (sg 0 []) (tb (.post 11 0 (sg 0 []) 15 qns))))))
 qns)))) (fr 15 5 qtW)))))
 (.pre 0 (sg 0 []) (tb (.post 0 0 (sg 0 []) 14 (.ret 0 (sg 7 []))))))))
def quv:Out:=(.hyp 0 8 (.pre 2 (sg 0 [bv 2 8,bv 1 1,bv 0 0]) (tb (.post 2 0 (sg 0 [bv 2 8,bv 1 1,bv 0 0]) 9 (.pre 3 (sg 0 [bv 2 8,bv 1 1,bv 0 0]) (tb (.post 3 0 (sg 0 [bv 2 8,bv 1 1,bv 0 0]) 9 (.fresh 9 (.pack [] 10 (.inv 1 11 (sg 1000 [bg 1002 10,bt 1001 (tl 0),bg 1000 9]) (fr 11 3 qvr)))))))))))
def qrt:Out:=(.pre 1 (sg 0 [bg 4 6,bv 3 5,bv 2 4,bv 1 3,bg 0 2]) (tb (.fresh 7 (.post 1 0 (sg 0 [bg 4 6,bv 3 5,bv 2 4,bv 1 3,bg 0 2]) 7 (.br (tv 7)
 (.pre 0 (sg 0 []) (tb (.post 0 0 (sg 0 []) 8 (.ret 0 (sg 7 [])))))
 (.both (tn (tl 0) (tv 3) (.br (.cmp .gtr (tv 3) (tl 0))
 (ts (tl 0) (tv 3) (ts (tl 0) (.dlen (tv 5)) (.br (.cmp .eql (.icell (tv 5) (tl 0) 0) (tl 0))
 (.cut 0 8 (sg 1000 [bt 1000 (.icell (tv 5) (tl 0) 1)]))
 (.cut 0 8 (sg 1000 [bt 1000 (tl 1)])))))
 (.cut 0 8 (sg 1000 [bt 1000 (tl 1)])))) (.fresh 8 quv)))))))
theorem qvL:ql Try.prog qeh [qR,qcH,qp8,qma,qgl,qhH,qd7,qhP,qeE,qgg,qeT,qgq,qcl,qeD,qc3,qgr,qbe,qbF,qeG,qgo,qeo,qcK] [scR,scN,scO,scP,scQ] qrt:=qe Try.func16 Try.call16 (by kernel_rfl)
end Go.Proofs
