/- Texts TR. -/
import Derived.Test.YtelcnkclppkicaaGreatDoorG9
import Derived.Test.YtelcnkclppkicaaGreatDoorG1
set_option linter.unusedSimpArgs false
set_option linter.unusedVariables false
namespace Go.Proofs
open Go Go.Eng
set_option maxRecDepth 20000
theorem qjO {Z Z':Env} (h:∀ n,n < 14->Z' n = Z n) (hp:qai.pre Z):qai.pre Z':=by
 change qbn (Z' 0).i/\qbn (Z' 1).i/\((Z' 3).i = (Z' 5).d.length/\(Z' 3).i <= (Z' 4).i/\(Z' 3).i <= 140737488351232/\qp (Z' 5).d)/\qpa Z' 7/\gOk Z' 12 13 gR
 have hp:qbn (Z 0).i/\qbn (Z 1).i/\((Z 3).i = (Z 5).d.length/\(Z 3).i <= (Z 4).i/\(Z 3).i <= 140737488351232/\qp (Z 5).d)/\qpa Z 7/\gOk Z 12 13 gR:=hp
 unfold qpa gOk at hp ⊢
 simp only [Nat.reduceAdd,h 0 (by decide),h 1 (by decide),h 3 (by decide),h 4 (by decide),h 5 (by decide),h 8 (by decide),h 10 (by decide),h 12 (by decide),h 13 (by decide)] at hp ⊢
 exact hp
set_option maxHeartbeats 4000000 in
theorem qAP:∀ Z:Env,qai.pre Z->qvT.den qiW Z:=fun Z hp=>by
 have hp0:=hp
 obtain ⟨k64,t64,⟨dl,dl1,dl2,dB⟩,⟨bl,bl1,bw⟩,hGr,hGd⟩:=hp
 simp (config:={ maxSteps:=8000000 }) [qvT,qiW,qai,qts,qtU,q0Y,qhO,qvD,qhG,qgP,qmW,qfT,qcs,qk7,gaB,qkZ,qeq,qdo,gOk,hGr,hGd]
 simp only [Nat.reduceAdd] at bl bl1 bw
 have hb:qo (bI (Z 5).d):=allB_list dB
 have hsz:(Z 3).i = ((bI (Z 5).d).length:Int):=by rw [bI_len]; exact dl
 intro k1 kt t12 s500 b40 hf hO hGk hG hEl hE i0 iK hOb M L hg hP lf hI hL
 have hM:=qna (s:=(Z 3).i) k1 kt t12 (by omega) s500
 have hLl:=hL.1
 have hlfl:(lf.length:Int) = (Z 86).i:=(qrg hI).symm
 have hDn:(Z 86).i = ((Z 88).d.length:Int):=hI.1
 refine ⟨fun hlt=>⟨⟨fun hby=>⟨i0,by omega,fun _=>⟨by omega,⟨by omega,by omega⟩,fun u _ hu=>⟨hlt,⟨by rw [hu]; exact jfv _ (by omega),by rw [hu]; exact Int.emod_lt_of_pos _ (by omega)⟩,⟨⟨k1,kt,t12,s500,b40⟩,hf,hO,hGk,hG,hEl,hE⟩,hOb,M,L,hg,hP,lf,hI,hL⟩⟩⟩,fun hby=>⟨hlt,by omega,⟨⟨k1,kt,t12,s500,b40⟩,hf,hO,hGk,hG,hEl,hE⟩,hOb,M,L,hg,hP,lf,hI,hL⟩⟩,?_⟩,fun hge hcap=>?_⟩
 ·intros; exact qAz _ (qjO (fun n hn=>by repeat rw [Env.set_ne _ _ (by omega)]) hp0)
 refine ⟨⟨⟨M,L,hg⟩,hf⟩,?_⟩
 intro u _ u1 _ u2 _ u3 _ u4 _ u5 _ u6 _ hf' hle hdata
 refine ⟨⟨M,L,hg⟩,?_⟩
 intro u7 _ hr
 have hKi:(Z 89).i = (Z 0).i:=by omega
 rw [hKi] at hP
 obtain ⟨e0,n0,n1,eD⟩:=q9x hg hP hM hb hsz hG hO (hdata M L hg)
 have hrd:u7.b = true:=by rw [hr M L hg,qrS hP rfl (by omega)]; simp; omega
 have ht:(Z 5).d.take (Z 3).i.toNat = (Z 5).d:=jar (by omega)
 have hMe:=hP.1
 rw [jaf (by omega)] at hMe
 subst hMe
 refine ⟨hrd,fun _=>⟨e0,fun _=>⟨n0,n1,by omega,by rw [ht,qho,qho,eD],fun _ u8 _ hst=>⟨⟨⟨⟨k1,kt,t12,s500,b40⟩,hf',hO,hGk,hG,hEl,hE⟩,by omega,L,qgd hg ?_,hP⟩,?_⟩⟩⟩⟩
 ·have h:=qbZ 84 20 hst (by simp)
  simpa using h
 ·intros; exact qAA _ (qjO (fun n hn=>by repeat rw [Env.set_ne _ _ (by omega)]) hp0)
set_option maxHeartbeats 4000000 in
theorem qAC:∀ Z:Env,qai.pre Z->qu5.den qiW Z:=fun Z hp=>by
 have hp0:=hp
 obtain ⟨k64,t64,⟨dl,dl1,dl2,dB⟩,⟨bl,bl1,bw⟩,hGr,hGd⟩:=hp
 simp (config:={ maxSteps:=8000000 }) [qu5,qiW,qai,q0u,qtU,qhO,qvD,qhG,qgP,qk7,gaB,qkZ,qeq,gOk,hGr,hGd]
 intro k1 kt t12 s500 b40 hf hO hGk hG hEl hE i0 i1 hOb hg hI
 have ha:qe .add .i64 (Z 62).i 1 = (Z 62).i + 1:=add64 (by omega) (by omega)
 have hl:=qrg hI
 have hul:((upto (Z 62).i).length:Int) = (Z 62).i:=by simp [upto]; omega
 simp only [ha]
 refine ⟨fun hlt u _ hcap=>⟨hI.1,by omega,fun u1 _ u2 _ u3 _ hst=>⟨⟨⟨⟨k1,kt,t12,s500,b40⟩,hf,hO,hGk,hG,hEl,hE⟩,by omega,by omega,hOb,qgd hg ?_,q1A hI i0⟩,by omega⟩⟩,fun hge=>?_⟩
 ·have h:=qbZ 57 20 hst (by simp)
  simpa using h
 ·have h62:(Z 62).i = (Z 1).i:=by omega
  rw [h62] at hI
  refine ⟨⟨⟨⟨k1,kt,t12,s500,b40⟩,hf,hO,hGk,hG,hEl,hE⟩,by omega,hOb,none,[],hg,(qs3 (by omega)).1,_,hI,(qs3 (k:=(Z 0).i) (m:=qgP Z) (f:=qhG Z) (by omega)).2⟩,?_⟩
  intros; exact qAP _ (qjO (fun n hn=>by repeat rw [Env.set_ne _ _ (by omega)]) hp0)
set_option maxHeartbeats 4000000 in
theorem qAy:∀ Z:Env,qai.pre Z->qvP.den qiW Z:=fun Z hp=>by
 have hp0:=hp
 obtain ⟨k64,t64,⟨dl,dl1,dl2,dB⟩,⟨bl,bl1,bw⟩,hGr,hGd⟩:=hp
 simp (config:={ maxSteps:=8000000 }) [qvP,qiW,qai,qtn,q0u,qhO,qhG,qgP,idC,qtp,qm2,qq4,quL,qf3,qhJ,qk7,gaB,qkZ,qeq,gOk,hGr,hGd]
 intro k1 kt t12 s500 b40 hf hO hGk hG hEl hE hcap
 have hM:=qna (s:=(Z 3).i) k1 kt t12 (by omega) s500
 have hGl:=qi3 hG (by omega)
 rw [qq7] at hGl
 refine ⟨⟨by omega,by rw [hO]; exact qcO _,hGk⟩,fun u _ u1 _ hid u2 _ hcap2=>⟨by omega,fun u3 _ u4 _ u5 _ u6 _ h6 u7 _ hst=>⟨⟨⟨⟨k1,kt,t12,s500,b40⟩,hf,hO,hGk,hG,hEl,hE⟩,by omega,?_,?_,?_⟩,?_⟩⟩⟩
 ·rcases hid with ⟨h1,_⟩ | ⟨_,_,h3⟩
  ·rw [hM] at h1; cases h1
  ·rw [h3]; rfl
 ·exact ⟨rfl,⟨rfl,fun j hj=>absurd hj (jfc j),fun j hj=>absurd hj (jfc j)⟩,fun x hx=>(by cases hx),by decide,.inl ⟨rfl,rfl,rfl,rfl,rfl⟩⟩
 ·rw [h6]; exact ⟨rfl,rfl,fun row hr=>by cases hr⟩
 ·intros; exact qAC _ (qjO (fun n hn=>by repeat rw [Env.set_ne _ _ (by omega)]) hp0)
set_option maxHeartbeats 4000000 in
theorem qxr:qai.ok Tryz.prog:=qxg (by simp [q2o,qn3,qvB,qzx,qtC,q48,q7K,q4n,qkN,q71,quA,q24]) fun Z hg hp=>by
 have hp0:=hp
 obtain ⟨k64,t64,⟨dl,dl1,dl2,dB⟩,⟨bl,bl1,bw⟩,hGr,hGd⟩:=hp
 simp (config:={ maxSteps:=8000000 }) [qql,qai,qtn,qhO,qhG,qdo,qcp,qhS,qiA,qeq,gOk,hGr,hGd]
 have ht:(Z 5).d.take (Z 3).i.toNat = (Z 5).d:=jar (by omega)
 have hm:min (Z 3).i.toNat (Z 5).d.length = (Z 5).d.length:=by omega
 simp only [Nat.reduceAdd] at bl bl1 bw
 simp only [ht,hm]
 intro u _ k1 kt t12
 refine ⟨by omega,fun s500=>⟨by omega,fun b40=>?_⟩⟩
 have hs3:qaP (Z 0).i (Z 0).i (Z 1).i = true:=by unfold qaP; exact jcf ⟨k1,jey _,kt,by omega⟩
 repeat' (first | with_reducible apply And.intro | with_reducible intro _)
 all_goals first
  | assumption
  | omega
  | exact .inl (by assumption)
  | exact q96 (by assumption)
  | exact qAy _ (qjO (fun n hn=>by repeat rw [Env.set_ne _ _ (by omega)]) hp0)
  | exact qf1 (by assumption) (by have h:=qvy 28 10 (by assumption) (by simp); simpa using h)
  | exact qf1 (by assumption) (by have h:=qvy 29 10 (by assumption) (by simp); simpa using h)
  | trivial
end Go.Proofs
